import Derived.Test.YtapbicobghgmlaaGreatR4
import Derived.Test.YtapbicobghgmlaaGreatD6
namespace Go.Sx
open Go.RowKit
set_option linter.unusedVariables false
set_option linter.unusedSimpArgs false
/-! ### each place once, and rising -/
structure Places (n : Nat) (l : List Int) : Prop where
  rng : ∀ x ∈ l, 0 ≤ x ∧ x < (n : Int)
  one : l.Nodup
theorem Places.plc (n : Nat) : Places n (plc n) := by
  refine ⟨fun x hx => ?_, ?_⟩
  · unfold Go.Sx.plc at hx
    rw [List.mem_map] at hx
    obtain ⟨j, hj, rfl⟩ := hx
    rw [List.mem_range] at hj
    omega
  · unfold Go.Sx.plc
    refine List.Pairwise.map _ (fun a b hab => ?_) List.nodup_range
    intro e
    exact hab (by omega)
theorem Places.perm {n : Nat} {l l' : List Int} (h : Places n l) (hp : l'.Perm l) : Places n l' :=
  ⟨fun x hx => h.rng x (hp.mem_iff.1 hx), hp.nodup_iff.2 h.one⟩
theorem Places.take {n : Nat} {l : List Int} (h : Places n l) (k : Nat) : Places n (l.take k) :=
  ⟨fun x hx => h.rng x (List.mem_of_mem_take hx), h.one.sublist (List.take_sublist _ _)⟩
theorem Places.srt {n : Nat} {l : List Int} (h : Places n l) : Places n (srtI l) := h.perm (List.mergeSort_perm _ _)
def seenOf (n : Nat) (l : List Int) (i : Nat) : List Bool := (List.range n).map fun j : Nat => decide ((j : Int) ∈ l.take i)
theorem seen_0 (n : Nat) (l : List Int) : List.replicate (Int.toNat (n : Int)) false = seenOf n l 0 := by
  unfold seenOf
  rw [List.take_zero]
  refine List.ext_getElem (by simp) fun i h1 h2 => by simp
theorem seen_get {n : Nat} {l : List Int} (h : Places n l) {i : Nat} (hi : i < l.length) : geti (seenOf n l i) l[i] = some false := by
  obtain ⟨h1, h2⟩ := h.rng l[i] (List.getElem_mem hi)
  unfold geti
  rw [if_pos h1]
  unfold seenOf
  rw [List.getElem?_map, List.getElem?_range (by omega), Option.map_some]
  congr 1
  rw [Int.toNat_of_nonneg h1]
  refine decide_eq_false fun hm => ?_
  rw [List.mem_take_iff_getElem] at hm
  obtain ⟨j, hj, he⟩ := hm
  have := (List.getElem_inj h.one).1 he
  omega
theorem seen_set {n : Nat} {l : List Int} (h : Places n l) {i : Nat} (hi : i < l.length) : (seenOf n l i).set (Int.toNat l[i]) true = seenOf n l (i + 1) := by
  obtain ⟨h1, h2⟩ := h.rng l[i] (List.getElem_mem hi)
  unfold seenOf
  refine List.ext_getElem (by simp) fun j q1 q2 => ?_
  rw [List.getElem_set]
  simp only [List.getElem_map, List.getElem_range]
  rw [List.take_succ_eq_append_getElem hi]
  by_cases hj : l[i].toNat = j
  · rw [if_pos hj]
    refine (decide_eq_true ?_).symm
    rw [List.mem_append, List.mem_singleton]
    exact .inr (by omega)
  · rw [if_neg hj]
    refine decide_eq_decide.2 ?_
    rw [List.mem_append, List.mem_singleton]
    exact ⟨.inl, fun q => q.resolve_right (by omega)⟩
theorem srt_lt {n : Nat} {l : List Int} (h : Places n l) {i : Nat} (hi : i + 1 < (srtI l).length) : (srtI l)[i] < (srtI l)[i + 1] := by
  have hs : (l.mergeSort fun x y : Int => decide (x ≤ y)).Pairwise (fun a b => decide (a ≤ b) = true) := List.pairwise_mergeSort (le := fun x y : Int => decide (x ≤ y)) (fun a b c h1 h2 => decide_eq_true (Int.le_trans (of_decide_eq_true h1) (of_decide_eq_true h2))) (fun a b => by
    rcases Int.le_total a b with q | q
    · show (decide (a ≤ b) || decide (b ≤ a)) = true
      rw [decide_eq_true q]; rfl
    · show (decide (a ≤ b) || decide (b ≤ a)) = true
      rw [decide_eq_true q, Bool.or_true]) l
  have hs' : (srtI l).Pairwise (fun a b => decide (a ≤ b) = true) := hs
  have h1 := of_decide_eq_true (List.pairwise_iff_getElem.1 hs' i (i + 1) (by omega) hi (by omega))
  have h2 : (srtI l)[i] ≠ (srtI l)[i + 1] := fun e => by
    have := (List.getElem_inj h.srt.one).1 e
    omega
  omega
theorem rngF {n : Nat} {x : Int} (h : 0 ≤ x ∧ x < (n : Int)) : ((decide (x < 0)) || (decide ((n : Int) ≤ x))) = false := by
  rw [decide_eq_false (by omega), decide_eq_false (by omega)]; rfl
theorem gifT {β : Type} [Inhabited β] (o : Option β) : gif (!false) o = o := rfl
/-- a row of rising places passes -/
theorem risen (f : Int → Option (Int ⊕ Bool)) (n k : Nat) (l : List Int) (h : Places n l) (hl : l.length < 256)
    (hf : ∀ i : Nat, i < l.length → f (i : Int) = ((geti (srtI l) (i : Int)).bind fun x_5 => (gif (!((decide (x_5 < 0)) || (decide ((n : Int) ≤ x_5)))) (gif (decide (0 < (i : Int))) (geti (srtI l) (w64 ((i : Int) - 1))))).bind fun x_6 => if (((decide (x_5 < 0)) || (decide ((n : Int) ≤ x_5))) || ((decide (0 < (i : Int))) && (decide (x_5 ≤ x_6)))) = true then (Option.map Sum.inr (some false)) else (some (.inl (w64 ((i : Int) + 1))))))
    (he : f (l.length : Int) = some (.inr true)) : whileO f (0 : Int) = some true := by
  refine whileO_run (fun i => (i : Int)) l.length (fun i hi => ?_) he
  have hil : i < (srtI l).length := by rw [srtI_length]; exact hi
  have hr := h.srt.rng _ (List.getElem_mem hil)
  rw [hf i hi, geti_nat hil, Option.bind_some, rngF hr, gifT]
  have hw : w64 ((i : Int) + 1) = ((i + 1 : Nat) : Int) := by rw [w64_id] <;> omega
  cases i with
  | zero =>
    rw [show decide (0 < ((0 : Nat) : Int)) = false from rfl]
    unfold gif
    rw [if_neg (by decide), Option.bind_some, if_neg (by rw [Bool.false_and, Bool.or_false]; decide), hw]
  | succ j =>
    rw [show decide (0 < ((j + 1 : Nat) : Int)) = true from decide_eq_true (by omega)]
    unfold gif
    rw [if_pos rfl, show w64 (((j + 1 : Nat) : Int) - 1) = ((j : Nat) : Int) from by rw [w64_id] <;> omega, geti_nat (by omega), Option.bind_some, if_neg (by
      rw [decide_eq_false (by have := srt_lt h hil; omega)]; decide), hw]
theorem p_l25_DiceOrders (seed : Vec UInt8 8) (n k : UInt8) : m_l25_DiceOrders_k seed n k = some true := by
  have hn := n.toNat_lt
  have hk := k.toNat_lt
  have hsl : seed.l.length ≤ 64 := by rw [seed.h]; omega
  unfold m_l25_DiceOrders_k
  rw [awakeK, Option.bind_some, if_neg (by decide)]
  obtain ⟨blk, hblk, hnw⟩ := newX seed.l hsl
  rw [hnw, Option.bind_some, Sum.elim_inr]
  dsimp only
  have hh : (big.kb seed.l).length ≤ 128 := big.kb_len seed.l (by show seed.l.length ≤ 128; omega)
  have hno := nout 64 blk seed.l false 0 (Stb blk) 0 0 (big.kb seed.l) hh
  have hR : (Byb (fB (Stb blk) (pad 128 (big.kb seed.l)) (cntb (0, 0) (UInt64.ofNat (big.kb seed.l).length)) true false)).length = 64 := Byb_len _
  generalize Byb (fB (Stb blk) (pad 128 (big.kb seed.l)) (cntb (0, 0) (UInt64.ofNat (big.kb seed.l).length)) true false) = R at hno hR
  generalize big.kb seed.l = held at *
  generalize Stb blk = h at *
  generalize Vec.rep 64 (0 : UInt8) = now0
  generalize seed.l = key at *
  have lt : n < k ↔ n.toNat < k.toNat := UInt8.lt_iff_toNat_lt
  rcases orderK R hR 64 blk key false 0 h 0 0 held hh hno key key n.toNat (by omega) 0 0 now0 (-1) rfl (by omega) (okn_new R now0) with ⟨h2, l', m', at', now', hv', r1, r2, r3, r4, r5⟩ | ⟨h2, r5⟩
  · have hp : Places n.toNat l' := (Places.plc _).perm r1
    have hll : l'.length = n.toNat := by rw [r1.length_eq, plc_len]
    rw [r5, Option.bind_some, Sum.elim_inr, if_neg (fneb (decide_eq_false (fun q => q rfl)) (decide_eq_false (by rw [hll]; exact fun q => q rfl))), need_ok ⟨by omega, by omega, by omega⟩, Option.bind_some, seen_0 n.toNat l']
    refine whileO_run (fun i => (seenOf n.toNat l' i, (i : Int))) l'.length (fun i hi => ?_) ?_
    · unfold m_l25_DiceOrders_k_l3
      dsimp only
      rw [if_pos (by omega), geti_nat hi, Option.bind_some, rngF (hp.rng _ (List.getElem_mem hi)), gifT, seen_get hp hi, Option.bind_some, if_neg (by decide), Option.bind_some, seen_set hp hi, show w64 ((i : Int) + 1) = ((i + 1 : Nat) : Int) from by rw [w64_id] <;> omega]
    · unfold m_l25_DiceOrders_k_l3
      dsimp only
      rw [if_neg (by omega)]
      by_cases hc : n.toNat < k.toNat
      · rw [chooseE1 R 64 blk key false 0 h 0 0 held key key n.toNat at' now' hv' k.toNat hc, Option.bind_some, if_pos (lt.2 hc)]
        rfl
      · obtain ⟨l2, m2, at2, now2, hv2, s1, s2⟩ := chooseK1 R hR 64 blk key false 0 h 0 0 held hh key key n.toNat (by omega) m' at' now' hv' r3 (by omega) r4 k.toNat (by omega)
        have hl2 : l2.length = n.toNat := by rw [s1.length_eq, plc_len]
        have hp2 : Places n.toNat (l2.take k.toNat) := ((Places.plc _).perm s1).take _
        have ht : (l2.take k.toNat).length = k.toNat := by rw [List.length_take]; omega
        rw [s2, Option.bind_some, if_neg (fun q => hc (lt.1 q))]
        rw [risen _ n.toNat k.toNat (l2.take k.toNat) hp2 (by omega) (fun i hi => ?_) ?_]
        · rfl
        · unfold m_l25_DiceOrders_k_l4
          dsimp only
          rw [if_neg (by rw [srtI_length]; omega), srtI_length, ht, decide_eq_true rfl, decide_eq_true rfl]
          rfl
        · unfold m_l25_DiceOrders_k_l4
          dsimp only
          rw [if_pos (by rw [srtI_length]; omega)]
  · have hp : Places n.toNat (plc n.toNat) := Places.plc _
    have hll : (plc n.toNat).length = n.toNat := plc_len _
    rw [r5, Option.bind_some, Sum.elim_inl, if_neg (fneb (decide_eq_false (fun q => q rfl)) (decide_eq_false (by rw [hll]; exact fun q => q rfl))), need_ok ⟨by omega, by omega, by omega⟩, Option.bind_some, seen_0 n.toNat (plc n.toNat)]
    refine whileO_run (fun i => (seenOf n.toNat (plc n.toNat) i, (i : Int))) (plc n.toNat).length (fun i hi => ?_) ?_
    · unfold m_l25_DiceOrders_k_l0
      dsimp only
      rw [if_pos (by omega), geti_nat hi, Option.bind_some, rngF (hp.rng _ (List.getElem_mem hi)), gifT, seen_get hp hi, Option.bind_some, if_neg (by decide), Option.bind_some, seen_set hp hi, show w64 ((i : Int) + 1) = ((i + 1 : Nat) : Int) from by rw [w64_id] <;> omega]
    · unfold m_l25_DiceOrders_k_l0
      dsimp only
      rw [if_neg (by omega)]
      by_cases hc : n.toNat < k.toNat
      · rw [chooseE 64 blk key false 0 h 0 0 held key key n.toNat 0 now0 (-1) k.toNat hc, Option.bind_some, Sum.elim_inl, if_pos (lt.2 hc)]
        rfl
      · have s2 := chooseK R hR 64 blk key false 0 h 0 0 held hh hno key key n.toNat (by omega) 0 0 now0 (-1) rfl (by omega) (okn_new R now0) h2 k.toNat (by omega)
        have hp2 : Places n.toNat ((plc n.toNat).take k.toNat) := (Places.plc _).take _
        have ht : ((plc n.toNat).take k.toNat).length = k.toNat := by rw [List.length_take]; omega
        rw [s2, Option.bind_some, Sum.elim_inl, if_neg (fun q => hc (lt.1 q))]
        rw [risen _ n.toNat k.toNat ((plc n.toNat).take k.toNat) hp2 (by omega) (fun i hi => ?_) ?_]
        · rfl
        · unfold m_l25_DiceOrders_k_l1
          dsimp only
          rw [if_neg (by rw [srtI_length]; omega), srtI_length, ht, decide_eq_true rfl, decide_eq_true rfl]
          rfl
        · unfold m_l25_DiceOrders_k_l1
          dsimp only
          rw [if_pos (by rw [srtI_length]; omega)]
end Go.Sx

