import Derived.Test.YtoedpdamhabkoaaK5
namespace Go.Sx
open Go.RowKit
set_option linter.unusedVariables false
set_option linter.unusedSimpArgs false
def yY (x : UInt32) (k : Nat) : UInt32 := lJ x k ||| tO x (32 - k)
theorem Uj (x : UInt32) : mF x 16 = some (yY x 16) := by kernel_rfl
theorem Uk (x : UInt32) : mF x 12 = some (yY x 12) := by kernel_rfl
theorem XA (x : UInt32) : mF x 8 = some (yY x 8) := by kernel_rfl
theorem XB (x : UInt32) : mF x 7 = some (yY x 7) := by kernel_rfl
def Gs (v : ae UInt32 16) (a b c d : Nat) (x y : UInt32) : ae UInt32 16 :=
  let v1 := hK v a (v.g a + (v.g b + x))
  let v2 := hK v1 d (yY (v1.g d ^^^ v1.g a) 16)
  let v3 := hK v2 c (v2.g c + v2.g d)
  let v4 := hK v3 b (yY (v3.g b ^^^ v3.g c) 12)
  let v5 := hK v4 a (v4.g a + (v4.g b + y))
  let v6 := hK v5 d (yY (v5.g d ^^^ v5.g a) 8)
  let v7 := hK v6 c (v6.g c + v6.g d)
  hK v7 b (yY (v7.g b ^^^ v7.g c) 7)
theorem Gv (a b c d : Nat) (ha : a < 16) (hb : b < 16) (hc : c < 16) (hd : d < 16) (hn : a ≠ b ∧ a ≠ c ∧ a ≠ d ∧ b ≠ c ∧ b ≠ d ∧ c ≠ d) : tu a b c d = some true := by
  have hl : ∀ i : Nat, i < 4 → ∃ x : Nat, aN ([(a : Int), (b : Int), (c : Int), (d : Int)] : List Int) (i : Int) = some (x : Int) ∧ x < 16 ∧ ∀ j : Nat, j < i → ∃ y : Nat, aN ([(a : Int), (b : Int), (c : Int), (d : Int)] : List Int) (j : Int) = some (y : Int) ∧ x ≠ y := by
    intro i hi
    match i, hi with
    | 0, _ => exact ⟨a, rfl, ha, fun j hj => by omega⟩
    | 1, _ => exact ⟨b, rfl, hb, fun j hj => by match j, hj with | 0, _ => exact ⟨a, rfl, by omega⟩⟩
    | 2, _ => exact ⟨c, rfl, hc, fun j hj => by match j, hj with | 0, _ => exact ⟨a, rfl, by omega⟩ | 1, _ => exact ⟨b, rfl, by omega⟩⟩
    | 3, _ => exact ⟨d, rfl, hd, fun j hj => by match j, hj with | 0, _ => exact ⟨a, rfl, by omega⟩ | 1, _ => exact ⟨b, rfl, by omega⟩ | 2, _ => exact ⟨c, rfl, by omega⟩⟩
  unfold tu
  refine eZ (fun i => (i : Int)) 4 (fun i hi => ?_) rfl
  obtain ⟨x, h1, h2, h3⟩ := hl i hi
  unfold tR
  rw [if_pos (by omega), h1]
  simp only [Option.bind_some]
  have hx : decide ((x : Int) < 0) = false := by rw [decide_eq_false_iff_not]; omega
  rw [hx]
  simp only [Ve, Bool.not_false, if_true, Option.bind_some, Bool.false_or, decide_eq_true_eq]
  rw [if_neg (by omega)]
  refine eZ (fun j => (j : Int)) i (fun j hj => ?_) ?_
  · obtain ⟨y, g1, g2⟩ := h3 j hj
    unfold qn
    rw [if_pos (by omega), h1, g1]
    simp only [Option.bind_some]
    rw [if_neg (by omega), dJ j (by omega)]
  · unfold qn
    rw [if_neg (by omega), dJ i (by omega)]
    rfl
theorem Qb (v : ae UInt32 16) (a b c d : Nat) (x y : UInt32) (ha : a < 16) (hb : b < 16) (hc : c < 16) (hd : d < 16) (hn : a ≠ b ∧ a ≠ c ∧ a ≠ d ∧ b ≠ c ∧ b ≠ d ∧ c ≠ d) : B7 v a b c d x y = some (Gs v a b c d x y, 0) := by
  unfold B7
  rw [Gv a b c d ha hb hc hd hn]
  simp only [Option.bind_some, Bool.not_true, Bool.false_eq_true, if_false]
  simp only [dO _ a ha, dO _ b hb, dO _ c hc, dO _ d hd, Option.bind_some, Uj, Uk, XA, XB, UInt32.add_assoc]
  rfl
def Ss (m : ae UInt32 16) (r : Nat) (v : ae UInt32 16) (i : Nat) : ae UInt32 16 := Gs v (pl i).1 (pl i).2.1 (pl i).2.2.1 (pl i).2.2.2 (m.g (sg r (2 * i))) (m.g (sg r (2 * i + 1)))
def Rs (v m : ae UInt32 16) (r : Nat) : ae UInt32 16 := (List.range 8).foldl (Ss m r) v
theorem KP : ∀ i : Nat, i < 8 → zS (i : Int) = some ((((pl i).1 : Nat) : Int), (((pl i).2.1 : Nat) : Int), (((pl i).2.2.1 : Nat) : Int), (((pl i).2.2.2 : Nat) : Int)) := by decide +kernel
theorem Gw (v m : ae UInt32 16) (r : Nat) (hr : r < 10) : uH v m (r : Int) = some (Rs v m r, 0) := by
  unfold uH
  rw [if_neg (by simp only [Bool.or_eq_true, decide_eq_true_eq]; omega)]
  refine nu _ 8 (Ss m r) v _ (fun v i hi => ?_) rfl
  unfold uG
  obtain ⟨p1, p2, p3, p4, hn⟩ := Ip i hi
  simp only []
  rw [if_pos (by omega), KP i hi, Iq i (by omega), dJ _ (by omega), dJ _ (by omega)]
  simp only [Option.bind_some]
  rw [Rc r (by omega) _ (by omega), Rc r (by omega) _ (by omega)]
  simp only [Option.bind_some]
  rw [dO _ _ (BC r (by omega) _ (by omega)), dO _ _ (BC r (by omega) _ (by omega))]
  simp only [Option.bind_some]
  rw [Qb v _ _ _ _ _ _ p1 p2 p3 p4 hn]
  rfl
def Re : List UInt32 := [1779033703, 3144134277, 1013904242, 2773480762, 1359893119, 2600822924, 528734635, 1541459225]
def XC (h : ae UInt32 8) : ae UInt32 16 := ⟨h.l ++ Re, by simp [h.h, Re]⟩
def Is (h : ae UInt32 8) (lo : UInt64) (last node : Bool) : ae UInt32 16 :=
  let v0 := XC h
  let v1 := hK v0 12 (v0.g 12 ^^^ UInt32.ofNat lo.toNat)
  let v2 := hK v1 13 (v1.g 13 ^^^ UInt32.ofNat (aJ lo 32).toNat)
  let v3 := if last then hK v2 14 (4294967295 ^^^ v2.g 14) else v2
  if node then hK v3 15 (4294967295 ^^^ v3.g 15) else v3
theorem NR (h : ae UInt32 8) (lo : UInt64) (last node : Bool) : uF h lo last node = some (Is h lo last node) := by
  unfold uF xq
  simp only [Option.bind_some]
  refine nu _ 8 (fun v (i : Nat) => hK (hK v i (h.g i)) ((i + 8 : Nat) : Int) (Re.getD i 0)) _ _ (fun v i hi => ?_) ?_
  · unfold rr
    simp only []
    rw [if_pos (by omega), dO _ _ hi, dO _ _ (by omega), xM i (by omega), dJ i (by omega)]
    simp only [Option.bind_some]
    rw [jQ (by simp; omega), dO _ _ (by omega)]
    match i, hi with
    | 0, _ => rfl
    | 1, _ => rfl
    | 2, _ => rfl
    | 3, _ => rfl
    | 4, _ => rfl
    | 5, _ => rfl
    | 6, _ => rfl
    | 7, _ => rfl
  · obtain ⟨a, b, c, d, e, f, g, q, rfl⟩ := y6 (v := h)
    unfold rr rq rp Is
    simp only [UInt32.xor_comm _ 4294967295]
    cases last <;> cases node <;> kernel_rfl
def Es (v : ae UInt32 16) (h : ae UInt32 8) (i : Nat) : ae UInt32 8 := hK h i (h.g i ^^^ (v.g i ^^^ v.g (i + 8)))
def Fs (h : ae UInt32 8) (m : ae UInt32 16) (lo : UInt64) (last node : Bool) : ae UInt32 8 :=
  (List.range 8).foldl (Es ((List.range 10).foldl (fun v r => Rs v m r) (Is h lo last node))) h
theorem Ul (h : ae UInt32 8) (v : ae UInt32 16) : yc h v = some ((List.range 8).foldl (Es v) h) := by
  unfold yc
  refine nu _ 8 (Es v) _ _ (fun h i hi => ?_) rfl
  unfold xt
  simp only []
  rw [if_pos (by omega), dO _ _ (by omega), dO _ _ (by omega), xM i (by omega), dJ i (by omega), dO _ _ (by omega)]
  simp only [Option.bind_some, UInt32.xor_assoc]
  rfl
theorem XD (h : ae UInt32 8) (m : ae UInt32 16) (lo : UInt64) (last node : Bool) : B8 h m lo last node = some (Fs h m lo last node) := by
  unfold B8
  rw [NR]
  simp only [Option.bind_some]
  refine nu _ 10 (fun v r => Rs v m r) _ _ (fun v i hi => ?_) ?_
  · unfold wK
    simp only []
    rw [if_pos (by omega), Gw _ _ _ hi, dJ i (by omega)]
    rfl
  · unfold wK
    simp only []
    rw [if_neg (by omega), Ul]
    rfl
end Go.Sx
namespace Go.Sx
open Go.RowKit
set_option linter.unusedVariables false
set_option linter.unusedSimpArgs false
def Gx (b : List UInt8) (i : Nat) : UInt32 := UInt32.ofNat (zj ((b.drop (4 * i)).take 4))
theorem Qc (i : Nat) (h : i < 100) : aB (4 * (i : Int)) = ((4 * i : Nat) : Int) := by rw [fK (by omega)]; omega
theorem Ix (b : List UInt8) (i : Nat) (hb : b.length ≤ 33554432) (hi : 4 * i + 4 ≤ b.length) : tr b ((4 * i : Nat) : Int) = some (Gx b i) := by
  unfold tr
  have k1 : aB (((4 * i : Nat) : Int) + 1) = ((4 * i + 1 : Nat) : Int) := by rw [fK (by omega)]; omega
  have k2 : aB (((4 * i : Nat) : Int) + 2) = ((4 * i + 2 : Nat) : Int) := by rw [fK (by omega)]; omega
  have k3 : aB (((4 * i : Nat) : Int) + 3) = ((4 * i + 3 : Nat) : Int) := by rw [fK (by omega)]; omega
  rw [k1, k2, k3, jQ (by omega : 4 * i < b.length), jQ (by omega : 4 * i + 1 < b.length), jQ (by omega : 4 * i + 2 < b.length), jQ (by omega : 4 * i + 3 < b.length)]
  simp only [Option.bind_some, Option.some.injEq]
  have hd : (b.drop (4 * i)).take 4 = [b[4 * i], b[4 * i + 1], b[4 * i + 2], b[4 * i + 3]] := by
    rw [List.drop_eq_getElem_cons (by omega), List.drop_eq_getElem_cons (by omega), List.drop_eq_getElem_cons (by omega), List.drop_eq_getElem_cons (by omega)]
    rfl
  unfold Gx
  rw [hd]
  generalize b[4 * i] = x0
  generalize b[4 * i + 1] = x1
  generalize b[4 * i + 2] = x2
  generalize b[4 * i + 3] = x3
  have h0 := x0.toNat_lt
  have h1 := x1.toNat_lt
  have h2 := x2.toNat_lt
  have h3 := x3.toNat_lt
  have sh : ∀ (x : UInt32) (k : Nat), (tO x k).toNat = x.toNat * 2 ^ k % 2 ^ 32 := by
    intro x k
    show (x.toBitVec <<< k).toNat = _
    rw [BitVec.toNat_shiftLeft, Nat.shiftLeft_eq]; rfl
  rw [← UInt32.toNat_inj]
  simp only [UInt32.toNat_add, sh, UInt32.toNat_ofNat', zj]
  rw [show (8 : UInt64).toNat = 8 from rfl, show (16 : UInt64).toNat = 16 from rfl, show (24 : UInt64).toNat = 24 from rfl]
  omega
def Ws (b : List UInt8) : ae UInt32 16 := (List.range 16).foldl (fun m (i : Nat) => hK m i (Gx b i)) (ae.rep 16 0)
theorem KQ (b : List UInt8) (hb : b.length = 64) : uE b = some (Ws b, 0) := by
  unfold uE
  rw [if_neg (by omega), if_neg (by omega)]
  refine nu _ 16 (fun m (i : Nat) => hK m i (Gx b i)) _ _ (fun v i hi => ?_) (by unfold rn; simp only []; rw [if_neg (by omega)]; rfl)
  unfold rn
  simp only []
  rw [if_pos (by omega), Qc i (by omega), Ix b i (by omega) (by omega), dO _ _ hi, dJ i (by omega)]
  rfl
def Rf (b : List UInt8) : ae UInt32 8 := (List.range 8).foldl (fun h (i : Nat) => hK h i (h.g i ^^^ Gx b i)) ⟨Re, rfl⟩
theorem KR (b : List UInt8) (hb : b.length = 32) : uz b = some (Rf b, 0) := by
  unfold uz xq
  rw [if_neg (by omega), if_neg (by omega)]
  simp only [Option.bind_some]
  refine nu _ 8 (fun h (i : Nat) => hK h i (h.g i ^^^ Gx b i)) _ _ (fun v i hi => ?_) (by unfold rl; simp only []; rw [if_neg (by omega)]; rfl)
  unfold rl
  simp only []
  rw [if_pos (by omega), Qc i (by omega), Ix b i (by omega) (by omega), dO _ _ hi, dJ i (by omega)]
  rfl
def Rg (h : ae UInt32 8) : List UInt8 := (List.range 8).foldl (fun b i => b ++ DN 4 (UInt64.ofNat (h.g i).toNat)) []
theorem KS (h : ae UInt32 8) : (Rg h).length = 32 := by unfold Rg; rw [Ap _ 4 (fun i => xN 4 _)]
end Go.Sx
namespace Go.Sx
open Go.RowKit
set_option linter.unusedVariables false
set_option linter.unusedSimpArgs false
theorem Qd (x : UInt64) : ((4294967296 : UInt64) ≤ x) ↔ ((4294967295 : UInt64) < x) := by
  rw [UInt64.le_iff_toNat_le, UInt64.lt_iff_toNat_lt, show (4294967296 : UInt64).toNat = 4294967296 from rfl, show (4294967295 : UInt64).toNat = 4294967295 from rfl]; omega
theorem Qe (x : UInt64) : ((281474976710656 : UInt64) ≤ x) ↔ ((281474976710655 : UInt64) < x) := by
  rw [UInt64.le_iff_toNat_le, UInt64.lt_iff_toNat_lt, show (281474976710656 : UInt64).toNat = 281474976710656 from rfl, show (281474976710655 : UInt64).toNat = 281474976710655 from rfl]; omega
variable {α : Type}
theorem KT {β : Type} (f : Bool → β) (c d : Bool) : (if c = true then f c else f d) = f (c || d) := by cases c <;> rfl
theorem LQ {c d : Prop} [Decidable c] [Decidable d] {x y z : α} (h : c ↔ d) (e : y = z) : (if c then x else y) = (if d then x else z) := by
  subst e
  by_cases hd : d
  · rw [if_pos hd, if_pos (h.2 hd)]
  · rw [if_neg hd, if_neg fun hc => hd (h.1 hc)]
theorem Dz (k S m q d ky f dp : Int) (lf : UInt32) (off : UInt64) (lI : UInt32) (nd mr : Int) (dx jj : List UInt8) (hk : l9 k = some (S, m, q)) (hm : lb k = some m) (h0 : m ≠ 0) (hq : aB (Int.tdiv m 4) = q) : jl k d ky f dp lf off lI nd mr dx jj = gH k d ky f dp lf off lI nd mr dx jj := by
  unfold jl gH
  rw [hk, hm]
  simp only [Option.bind_some]
  rw [if_neg h0, if_neg h0, hq]
  have key : ∀ least : Int, (least = 0 ∧ lI ≠ 0 ∨ least = 1 ∧ lI = 0) → kf k d ky f dp off lI nd mr dx jj (S, m, q) least = (if ((decide (d < 1)) || (decide (m < d))) = true then
      (some (20 : Int))
    else (if ((decide (ky < 0)) || (decide (m < ky))) = true then
      (some (8 : Int))
    else (if ((decide (f < 0)) || (decide (255 < f))) = true then
      (some (21 : Int))
    else (if (((decide (dp < 0)) || (decide (255 < dp))) || ((decide (dp = 0)) && (decide (lI = 0)))) = true then
      (some (22 : Int))
    else (if (((decide (lI ≠ 0)) && (decide ((4294967295 : UInt64) < off))) || (((decide (lI = 0)) && (decide (k = 2))) && (decide ((281474976710655 : UInt64) < off)))) = true then
      (some (23 : Int))
    else (if ((decide (k = 2)) && (decide ((65535 : UInt32) < lI))) = true then
      (some (24 : Int))
    else (if ((decide (nd < 0)) || (decide (255 < nd))) = true then
      (some (25 : Int))
    else (if ((decide (mr < 0)) || (decide (m < mr))) = true then
      (some (26 : Int))
    else (if q < ((dx.length : Nat) : Int) then
      (some (27 : Int))
    else (if q < ((jj.length : Nat) : Int) then
      (some (28 : Int))
    else (some (0 : Int)))))))))))) := by
    intro least hl
    unfold kf
    rw [KT]
    unfold lz mX
    simp only [iz, Option.bind_some]
    refine LQ (by simp only [Bool.not_eq_true', Bool.and_eq_false_iff, decide_eq_false_iff_not, Bool.or_eq_true, decide_eq_true_eq]; omega) ?_
    refine LQ (by simp only [Bool.not_eq_true', Bool.and_eq_false_iff, decide_eq_false_iff_not, Bool.or_eq_true, decide_eq_true_eq]; omega) ?_
    refine LQ (by simp only [Bool.not_eq_true', Bool.and_eq_false_iff, decide_eq_false_iff_not, Bool.or_eq_true, decide_eq_true_eq]; omega) ?_
    refine LQ (by
      simp only [Bool.not_eq_true', Bool.and_eq_false_iff, decide_eq_false_iff_not, Bool.or_eq_true, decide_eq_true_eq, Bool.and_eq_true]
      rcases hl with ⟨rfl, hx⟩ | ⟨rfl, hx⟩
      · simp only [hx, and_false, or_false]; omega
      · simp only [hx, and_true]; omega) ?_
    refine LQ (by simp only [Qd, Qe]) ?_
    refine LQ Iff.rfl ?_
    refine LQ (by simp only [Bool.not_eq_true', Bool.and_eq_false_iff, decide_eq_false_iff_not, Bool.or_eq_true, decide_eq_true_eq]; omega) ?_
    refine LQ (by simp only [Bool.not_eq_true', Bool.and_eq_false_iff, decide_eq_false_iff_not, Bool.or_eq_true, decide_eq_true_eq]; omega) ?_
    rfl
  by_cases hx : lI = 0
  · rw [if_neg (by simpa using hx)]
    exact key 1 (.inr ⟨rfl, hx⟩)
  · rw [if_pos hx]
    exact key 0 (.inl ⟨rfl, hx⟩)
theorem Aq (k d ky f dp : Int) (lf : UInt32) (off : UInt64) (lI : UInt32) (nd mr : Int) (dx jj : List UInt8) : jl k d ky f dp lf off lI nd mr dx jj = gH k d ky f dp lf off lI nd mr dx jj := by
  by_cases k1 : k = 1
  · subst k1
    exact Dz 1 64 64 16 _ _ _ _ _ _ _ _ _ _ _ rfl rfl (by omega) rfl
  · by_cases k2 : k = 2
    · subst k2
      exact Dz 2 32 32 8 _ _ _ _ _ _ _ _ _ _ _ rfl rfl (by omega) rfl
    · unfold jl l9 gH lb
      simp only [k1, k2, if_false, Option.bind_some, if_true]
theorem pH {c : Prop} [Decidable c] {n : Int} {Q : Int → Prop} {e : Option Int} (h0 : n ≠ 0) (h : ¬ c → ∃ r, e = some r ∧ (r = 0 → Q r)) : ∃ r, (if c then some n else e) = some r ∧ (r = 0 → Q r) := by
  by_cases hc : c
  · rw [if_pos hc]; exact ⟨n, rfl, fun h => absurd h h0⟩
  · rw [if_neg hc]; exact h hc
theorem EM (k d ky f dp : Int) (lf : UInt32) (off : UInt64) (lI : UInt32) (nd mr : Int) (dx jj : List UInt8) : ∃ r, gH k d ky f dp lf off lI nd mr dx jj = some r ∧ (r = 0 → (k = 1 ∧ 1 ≤ d ∧ d ≤ 64 ∧ ky ≤ 64 ∧ dx.length ≤ 16 ∧ jj.length ≤ 16) ∨ (k = 2 ∧ 1 ≤ d ∧ d ≤ 32 ∧ ky ≤ 32 ∧ dx.length ≤ 8 ∧ jj.length ≤ 8)) := by
  have q1 : aB (Int.tdiv 64 4) = 16 := by rfl
  have q2 : aB (Int.tdiv 32 4) = 8 := by rfl
  have key : ∀ m q : Int, aB (Int.tdiv m 4) = q → lb k = some m → m ≠ 0 → ∃ r, gH k d ky f dp lf off lI nd mr dx jj = some r ∧ (r = 0 → (1 ≤ d ∧ d ≤ m ∧ ky ≤ m ∧ (dx.length : Int) ≤ q ∧ (jj.length : Int) ≤ q)) := by
    intro m q hq hm h0
    unfold gH
    rw [hm]
    simp only [Option.bind_some]
    rw [if_neg h0, hq]
    refine pH (Q := fun _ => _) (by omega) fun h1 => pH (Q := fun _ => _) (by omega) fun h2 => pH (Q := fun _ => _) (by omega) fun h3 => pH (Q := fun _ => _) (by omega) fun h4 => pH (Q := fun _ => _) (by omega) fun h5 => pH (Q := fun _ => _) (by omega) fun h6 => pH (Q := fun _ => _) (by omega) fun h7 => pH (Q := fun _ => _) (by omega) fun h8 => pH (Q := fun _ => _) (by omega) fun h9 => pH (Q := fun _ => _) (by omega) fun Zy => ⟨0, rfl, fun _ => ?_⟩
    simp only [Bool.or_eq_true, decide_eq_true_eq] at h1 h2
    omega
  by_cases k1 : k = 1
  · obtain ⟨r, h1, h2⟩ := key 64 16 q1 (by rw [k1]; rfl) (by omega)
    exact ⟨r, h1, fun h => .inl ⟨k1, by have := h2 h; omega⟩⟩
  · by_cases k2 : k = 2
    · obtain ⟨r, h1, h2⟩ := key 32 8 q2 (by rw [k2]; rfl) (by omega)
      exact ⟨r, h1, fun h => .inr ⟨k2, by have := h2 h; omega⟩⟩
    · refine ⟨1, ?_, fun h => by omega⟩
      unfold gH lb
      simp only [k1, k2, if_false, Option.bind_some, if_true]
end Go.Sx
namespace Go.Sx
open Go.RowKit
set_option linter.unusedVariables false
set_option linter.unusedSimpArgs false
def ps (at_ : Nat) (v : UInt64) (b : List UInt8) (i : Nat) : List UInt8 := b.set (at_ + i) (UInt8.ofNat (aJ v (8 * i)).toNat)
def KU (b : List UInt8) (at_ n : Nat) (v : UInt64) : List UInt8 := (List.range n).foldl (ps at_ v) b
theorem EN (at_ : Nat) (v : UInt64) (n : Nat) (b : List UInt8) : ((List.range n).foldl (ps at_ v) b).length = b.length := by
  induction n with
  | zero => rfl
  | succ n ih => rw [List.range_succ, List.foldl_append]; simp only [List.foldl_cons, List.foldl_nil, ps, List.length_set, ih]
theorem Iy (b : List UInt8) (at_ n : Nat) (v : UInt64) : (KU b at_ n v).length = b.length := EN _ _ _ _
theorem KV (a i : Nat) (h : a < 1000) (hi : i < 1000) : aB ((a : Int) + (i : Int)) = ((a + i : Nat) : Int) := by rw [fK (by omega)]; omega
theorem Um (b : List UInt8) (at_ n : Nat) (v : UInt64) (hn : n ≤ 8) (hb : at_ + n ≤ b.length) (ha : at_ < 1000) : pK b (at_ : Int) (n : Int) v = some (KU b at_ n v) := by
  unfold pK
  refine eZ (fun i => ((List.range i).foldl (ps at_ v) b, (i : Int))) n (fun i hi => ?_) ?_
  · unfold mz
    simp only []
    rw [if_pos (by omega), Iu i (by omega), mi (by omega), KV _ _ ha (by omega), jQ (by rw [EN]; omega), dJ i (by omega), List.range_succ, List.foldl_append]
    rfl
  · unfold mz
    simp only []
    rw [if_neg (by omega)]
    rfl
theorem m8 : ∀ i : Nat, i < 8 → ((8 : UInt64) * UInt64.ofInt (i : Int)).toNat = 8 * i := by decide +kernel
theorem Un (b : List UInt8) (at_ n : Nat) (v : UInt64) (hn : n ≤ 8) (hb : at_ + n ≤ b.length) (ha : at_ < 1000) : yb b (at_ : Int) (n : Int) v = some (KU b at_ n v) := by
  unfold yb
  refine eZ (fun i => ((List.range i).foldl (ps at_ v) b, (i : Int))) n (fun i hi => ?_) ?_
  · unfold tq
    simp only []
    rw [if_pos (by omega), KV _ _ ha (by omega), jQ (by rw [EN]; omega), dJ i (by omega), m8 i (by omega), List.range_succ, List.foldl_append]
    rfl
  · unfold tq
    simp only []
    rw [if_neg (by omega)]
    rfl
def KW (b : List UInt8) (at_ : Nat) (xs : List UInt8) : List UInt8 := (List.range xs.length).foldl (fun (b : List UInt8) (i : Nat) => b.set (at_ + i) (xs.getD i 0)) b
theorem Iz (at_ : Nat) (xs : List UInt8) (n : Nat) (b : List UInt8) (hn : n ≤ xs.length) (hb : at_ + n ≤ b.length) : (List.range n).foldl (fun (b : List UInt8) (i : Nat) => b.set (at_ + i) (xs.getD i 0)) b = b.take at_ ++ xs.take n ++ b.drop (at_ + n) := by
  induction n with
  | zero => simp
  | succ n ih =>
    rw [List.range_succ, List.foldl_append, ih (by omega) (by omega)]
    simp only [List.foldl_cons, List.foldl_nil]
    have hd : b.drop (at_ + n) = b[at_ + n] :: b.drop (at_ + (n + 1)) := List.drop_eq_getElem_cons (by omega)
    rw [hd, List.set_append_right _ _ (by simp; omega)]
    have hx : at_ + n - (b.take at_ ++ xs.take n).length = 0 := by simp; omega
    rw [hx, List.set_cons_zero, List.take_succ_eq_append_getElem (by omega)]
    simp only [List.append_assoc, List.cons_append, List.nil_append]
    congr 3
    simp [List.getD_eq_getElem?_getD, show n < xs.length from by omega]
theorem sf (b : List UInt8) (at_ : Nat) (xs : List UInt8) (h : at_ + xs.length ≤ b.length) : (KW b at_ xs).length = b.length := by
  unfold KW; rw [Iz at_ xs xs.length b (Nat.le_refl _) h]; simp; omega
theorem FL (b : List UInt8) (at_ n : Nat) (xs : List UInt8) (hn : xs.length ≤ n) (h : at_ + xs.length ≤ b.length) : DK b at_ n xs = KW b at_ xs := by
  unfold KW; rw [Iz at_ xs xs.length b (Nat.le_refl _) h, DK, List.take_length, List.take_of_length_le hn, Nat.min_eq_right hn]
def EO (k : Int) (i : Nat) : Nat × Nat := if k = 1 then [(0, 1), (1, 1), (2, 1), (3, 1), (4, 4), (8, 8), (12, 4), (16, 1), (17, 1)].getD i (0, 0) else [(0, 1), (1, 1), (2, 1), (3, 1), (4, 4), (8, 6), (12, 2), (14, 1), (15, 1)].getD i (0, 0)
theorem IA (k : Int) : ∀ i : Nat, i < 9 → (EO k i).1 + (EO k i).2 ≤ 18 ∧ (EO k i).2 ≤ 8 := by
  intro i hi
  unfold EO
  by_cases hk : k = 1
  · simp only [hk, if_true]; revert i; decide
  · simp only [hk, if_false]; revert i; decide
theorem NS (k : Int) (hk : k = 1 ∨ k = 2) : ∀ i : Nat, i < 9 → yP k ((i + 1 : Nat) : Int) = some (((EO k i).1 : Int), ((EO k i).2 : Int)) := by
  rcases hk with rfl | rfl <;> decide +kernel
theorem Qf (k : Int) : ∃ rows, lQ k = some rows ∧ rows.length = 9 ∧ ∀ i : Nat, i < 9 → ∃ row, aN rows (i : Int) = some row ∧ row.1 = ((i + 1 : Nat) : Int) ∧ row.2.1 = ((EO k i).1 : Int) ∧ row.2.2.1 = ((EO k i).2 : Int) := by
  by_cases hk : k = 1
  · subst hk
    refine ⟨_, rfl, rfl, fun i hi => ?_⟩
    match i, hi with
    | 0, _ => exact ⟨_, rfl, rfl, rfl, rfl⟩
    | 1, _ => exact ⟨_, rfl, rfl, rfl, rfl⟩
    | 2, _ => exact ⟨_, rfl, rfl, rfl, rfl⟩
    | 3, _ => exact ⟨_, rfl, rfl, rfl, rfl⟩
    | 4, _ => exact ⟨_, rfl, rfl, rfl, rfl⟩
    | 5, _ => exact ⟨_, rfl, rfl, rfl, rfl⟩
    | 6, _ => exact ⟨_, rfl, rfl, rfl, rfl⟩
    | 7, _ => exact ⟨_, rfl, rfl, rfl, rfl⟩
    | 8, _ => exact ⟨_, rfl, rfl, rfl, rfl⟩
  · have h2 : ∀ i, EO k i = EO 2 i := fun i => by unfold EO; simp only [hk, if_false]; rfl
    have h3 : lQ k = lQ 2 := by unfold lQ; rw [if_neg hk, if_neg (by decide)]
    rw [h3]
    simp only [h2]
    refine ⟨_, rfl, rfl, fun i hi => ?_⟩
    match i, hi with
    | 0, _ => exact ⟨_, rfl, rfl, rfl, rfl⟩
    | 1, _ => exact ⟨_, rfl, rfl, rfl, rfl⟩
    | 2, _ => exact ⟨_, rfl, rfl, rfl, rfl⟩
    | 3, _ => exact ⟨_, rfl, rfl, rfl, rfl⟩
    | 4, _ => exact ⟨_, rfl, rfl, rfl, rfl⟩
    | 5, _ => exact ⟨_, rfl, rfl, rfl, rfl⟩
    | 6, _ => exact ⟨_, rfl, rfl, rfl, rfl⟩
    | 7, _ => exact ⟨_, rfl, rfl, rfl, rfl⟩
    | 8, _ => exact ⟨_, rfl, rfl, rfl, rfl⟩
section
variable (k d ky f dp : Int) (lf : UInt32) (off : UInt64) (lI : UInt32) (nd mr : Int) (dx jj : List UInt8)
def FM : List UInt64 := [UInt64.ofInt d, UInt64.ofInt ky, UInt64.ofInt f, UInt64.ofInt dp, UInt64.ofNat lf.toNat, off, UInt64.ofNat lI.toNat, UInt64.ofInt nd, UInt64.ofInt mr]
theorem NT (i : Nat) (hi : i < 9) : pA d ky f dp lf off lI nd mr dx jj ((i + 1 : Nat) : Int) = some ((FM d ky f dp lf off lI nd mr).getD i 0) := by
  match i, hi with
  | 0, _ => rfl
  | 1, _ => rfl
  | 2, _ => rfl
  | 3, _ => rfl
  | 4, _ => rfl
  | 5, _ => rfl
  | 6, _ => rfl
  | 7, _ => rfl
  | 8, _ => rfl
def OH (b : List UInt8) (i : Nat) : List UInt8 := if i = 6 ∧ lI = 0 then b else KU b (EO k i).1 (EO k i).2 ((FM d ky f dp lf off lI nd mr).getD i 0)
def AT (b : List UInt8) (n : Nat) : List UInt8 := (List.range n).foldl (OH k d ky f dp lf off lI nd mr) b
theorem nZ (b : List UInt8) (n : Nat) : (AT k d ky f dp lf off lI nd mr b n).length = b.length := by
  unfold AT
  induction n with
  | zero => rfl
  | succ n ih =>
    rw [List.range_succ, List.foldl_append]
    simp only [List.foldl_cons, List.foldl_nil, OH]
    split
    · exact ih
    · rw [Iy, ih]
def Gy (S : Nat) : List UInt8 := KW (KW (AT k d ky f dp lf off lI nd mr (List.replicate S 0) 9) (S / 2) dx) (S / 4 * 3) jj
def IB : List UInt8 := Gy k d ky f dp lf off lI nd mr dx jj (if k = 1 then 64 else 32)
theorem LR (S q : Nat) (hS : S = 64 ∧ q = 16 ∨ S = 32 ∧ q = 8) (m : Int) (hs : dx.length ≤ q) (hp : jj.length ≤ q) (rows : List (Int × Int × Int × List UInt8 × Int)) (hl : rows.length = 9)
    (hr : ∀ i : Nat, i < 9 → ∃ row, aN rows (i : Int) = some row ∧ row.1 = ((i + 1 : Nat) : Int) ∧ row.2.1 = ((EO k i).1 : Int) ∧ row.2.2.1 = ((EO k i).2 : Int)) :
    bO (jH d ky f dp lf off lI nd mr dx jj ((S : Int), m, (q : Int)) rows) (List.replicate S 0, (0 : Int)) = some (Gy k d ky f dp lf off lI nd mr dx jj S, 0) := by
  refine eZ (fun i => (AT k d ky f dp lf off lI nd mr (List.replicate S 0) i, (i : Int))) 9 (fun i hi => ?_) ?_
  · obtain ⟨row, h1, h2, h3, h4⟩ := hr i hi
    obtain ⟨g1, g2⟩ := IA k i hi
    unfold jH kX mj
    simp only []
    rw [hl, if_pos (by omega), h1]
    simp only [Option.bind_some]
    rw [h2, h3, h4, dJ i (by omega)]
    have Uo : AT k d ky f dp lf off lI nd mr (List.replicate S 0) (i + 1) = OH k d ky f dp lf off lI nd mr (AT k d ky f dp lf off lI nd mr (List.replicate S 0) i) i := by
      unfold AT; rw [List.range_succ, List.foldl_append]; rfl
    rw [Uo]
    unfold OH
    by_cases hc : i = 6 ∧ lI = 0
    · rw [if_pos (by simp only [Bool.and_eq_true, decide_eq_true_eq]; exact ⟨by omega, hc.2⟩), if_pos hc]
    · rw [if_neg (by simp only [Bool.and_eq_true, decide_eq_true_eq]; exact fun h => hc ⟨by omega, h.2⟩), if_neg hc, NT _ _ _ _ _ _ _ _ _ _ _ i hi]
      simp only [Option.bind_some]
      rw [Um _ _ _ _ g2 (by rw [nZ]; simp; omega) (by omega)]
      rfl
  · unfold jH
    simp only []
    have hlen : (AT k d ky f dp lf off lI nd mr (List.replicate S 0) 9).length = S := by rw [nZ]; simp
    have e1 : aB ((S : Int) - aB (2 * (q : Int))) = ((S / 2 : Nat) : Int) := by rw [fK (n := 2 * (q : Int)) (by omega), fK (by omega)]; omega
    have e2 : aB ((S : Int) - (q : Int)) = ((S / 4 * 3 : Nat) : Int) := by rw [fK (by omega)]; omega
    rw [hl, if_neg (by omega), e1, e2, Int.toNat_natCast]
    rw [uv (by rw [hlen]; omega)]
    simp only [Option.bind_some, Int.toNat_natCast]
    have l1 : ((AT k d ky f dp lf off lI nd mr (List.replicate S 0) 9).take S).drop (S / 2) = (AT k d ky f dp lf off lI nd mr (List.replicate S 0) 9).drop (S / 2) := by rw [List.take_of_length_le (by omega)]
    rw [l1, FL _ _ _ _ (by rw [List.length_drop, hlen]; omega) (by rw [hlen]; omega)]
    have DA : (KW (AT k d ky f dp lf off lI nd mr (List.replicate S 0) 9) (S / 2) dx).length = S := by rw [sf _ _ _ (by omega), hlen]
    rw [uv (by rw [DA]; omega)]
    simp only [Option.bind_some, Int.toNat_natCast]
    rw [List.take_of_length_le (by omega), FL _ _ _ _ (by rw [List.length_drop, DA]; omega) (by rw [DA]; omega)]
    rfl
theorem DB (at_ : Nat) (xs : List UInt8) (n : Nat) (b : List UInt8) : ((List.range n).foldl (fun (b : List UInt8) (i : Nat) => b.set (at_ + i) (xs.getD i 0)) b).length = b.length := by
  induction n with
  | zero => rfl
  | succ n ih => rw [List.range_succ, List.foldl_append]; simp only [List.foldl_cons, List.foldl_nil, List.length_set, ih]
theorem FN (xs : List UInt8) (i : Nat) (h : i < xs.length) : xs.getD i 0 = xs[i] := by simp [List.getD_eq_getElem?_getD, h]
theorem LS (hk : k = 1 ∨ k = 2) (S q : Nat) (hS : S = 64 ∧ q = 16 ∨ S = 32 ∧ q = 8) (hM : lb k = some (S : Int)) (hs : dx.length ≤ q) (hp : jj.length ≤ q) :
    bO (nU k d ky f dp lf off lI nd mr dx jj) (List.replicate S 0, (1 : Int)) = some (Gy k d ky f dp lf off lI nd mr dx jj S, 0) := by
  refine eZ (fun i => (AT k d ky f dp lf off lI nd mr (List.replicate S 0) i, ((i + 1 : Nat) : Int))) 9 (fun i hi => ?_) ?_
  · obtain ⟨g1, g2⟩ := IA k i hi
    unfold nU qm tQ
    simp only []
    rw [if_pos (by omega), dJ (i + 1) (by omega)]
    have Uo : AT k d ky f dp lf off lI nd mr (List.replicate S 0) (i + 1) = OH k d ky f dp lf off lI nd mr (AT k d ky f dp lf off lI nd mr (List.replicate S 0) i) i := by
      unfold AT; rw [List.range_succ, List.foldl_append]; rfl
    rw [Uo]
    unfold OH
    by_cases hc : i = 6 ∧ lI = 0
    · rw [if_pos (by simp only [Bool.and_eq_true, decide_eq_true_eq]; exact ⟨by omega, hc.2⟩), if_pos hc]
    · rw [if_neg (by simp only [Bool.and_eq_true, decide_eq_true_eq]; exact fun h => hc ⟨by omega, h.2⟩), if_neg hc, NS k hk i hi]
      simp only [Option.bind_some]
      have hw : aB (((i + 1 : Nat) : Int) - 1) = (i : Int) := by rw [fK (by omega)]; omega
      have hg : aN [UInt64.ofInt d, UInt64.ofInt ky, UInt64.ofInt f, UInt64.ofInt dp, UInt64.ofNat lf.toNat, off, UInt64.ofNat lI.toNat, UInt64.ofInt nd, UInt64.ofInt mr] (i : Int) = some ((FM d ky f dp lf off lI nd mr).getD i 0) := by
        rw [jQ (by simp; omega)]
        simp [FM, List.getD_eq_getElem?_getD, hi]
      rw [hw, hg]
      simp only [Option.bind_some]
      rw [Un _ _ _ _ g2 (by rw [nZ]; simp; omega) (by omega)]
      rfl
  · unfold nU
    simp only []
    have hlen : (AT k d ky f dp lf off lI nd mr (List.replicate S 0) 9).length = S := by rw [nZ]; simp
    rw [if_neg (by omega), hM]
    simp only [Option.bind_some]
    have t4 : aB (Int.tdiv (S : Int) 4) = ((S / 4 : Nat) : Int) := by rcases hS with ⟨rfl, _⟩ | ⟨rfl, _⟩ <;> rfl
    have e1 : aB (2 * ((S / 4 : Nat) : Int)) = ((S / 2 : Nat) : Int) := by rw [fK (by omega)]; omega
    have e2 : aB (3 * ((S / 4 : Nat) : Int)) = ((S / 4 * 3 : Nat) : Int) := by rw [fK (by omega)]; omega
    rw [show bO (nT dx jj (S : Int)) (AT k d ky f dp lf off lI nd mr (List.replicate S 0) 9, 0) = some (Gy k d ky f dp lf off lI nd mr dx jj S, 0) from ?_]
    · rfl
    refine eZ (fun i => ((List.range i).foldl (fun (b : List UInt8) (i : Nat) => b.set (S / 2 + i) (dx.getD i 0)) (AT k d ky f dp lf off lI nd mr (List.replicate S 0) 9), (i : Int))) dx.length (fun i hi => ?_) ?_
    · unfold nT
      simp only []
      rw [if_pos (by omega), t4, e1, jQ hi, KV _ _ (by omega) (by omega), jQ (by rw [DB, hlen]; omega), dJ i (by omega), List.range_succ, List.foldl_append]
      simp only [Option.bind_some, List.foldl_cons, List.foldl_nil, Int.toNat_natCast, FN _ _ hi]
    · unfold nT
      simp only []
      rw [if_neg (by omega)]
      rw [show bO (nS jj (S : Int)) ((List.range dx.length).foldl (fun (b : List UInt8) (i : Nat) => b.set (S / 2 + i) (dx.getD i 0)) (AT k d ky f dp lf off lI nd mr (List.replicate S 0) 9), 0) = some (Gy k d ky f dp lf off lI nd mr dx jj S, 0) from ?_]
      · rfl
      have DA : (KW (AT k d ky f dp lf off lI nd mr (List.replicate S 0) 9) (S / 2) dx).length = S := by rw [sf _ _ _ (by omega), hlen]
      refine eZ (fun i => ((List.range i).foldl (fun (b : List UInt8) (i : Nat) => b.set (S / 4 * 3 + i) (jj.getD i 0)) (KW (AT k d ky f dp lf off lI nd mr (List.replicate S 0) 9) (S / 2) dx), (i : Int))) jj.length (fun i hi => ?_) ?_
      · unfold nS
        simp only []
        rw [if_pos (by omega), t4, e2, jQ hi, KV _ _ (by omega) (by omega), jQ (by rw [DB, DA]; omega), dJ i (by omega), List.range_succ, List.foldl_append]
        simp only [Option.bind_some, List.foldl_cons, List.foldl_nil, Int.toNat_natCast, FN _ _ hi]
      · unfold nS
        simp only []
        rw [if_neg (by omega)]
        rfl
theorem IC (h : gH k d ky f dp lf off lI nd mr dx jj = some 0) :
    kj k d ky f dp lf off lI nd mr dx jj = some (IB k d ky f dp lf off lI nd mr dx jj, 0) ∧ lT k d ky f dp lf off lI nd mr dx jj = some (IB k d ky f dp lf off lI nd mr dx jj, 0) := by
  obtain ⟨r, h1, h2⟩ := EM k d ky f dp lf off lI nd mr dx jj
  rw [h] at h1
  obtain rfl := Option.some.inj h1
  obtain ⟨rows, r1, r2, r3⟩ := Qf k
  rcases h2 rfl with ⟨rfl, _, _, _, hs, hp⟩ | ⟨rfl, _, _, _, hs, hp⟩
  · constructor
    · unfold kj
      rw [Aq, h, r1]
      exact LR 1 d ky f dp lf off lI nd mr dx jj 64 16 (by omega) 64 hs hp rows r2 r3
    · unfold lT
      rw [h]
      exact LS 1 d ky f dp lf off lI nd mr dx jj (by omega) 64 16 (by omega) rfl hs hp
  · constructor
    · unfold kj
      rw [Aq, h, r1]
      exact LR 2 d ky f dp lf off lI nd mr dx jj 32 8 (by omega) 32 hs hp rows r2 r3
    · unfold lT
      rw [h]
      exact LS 2 d ky f dp lf off lI nd mr dx jj (by omega) 32 8 (by omega) rfl hs hp
theorem DC (h : (k = 1 ∧ dx.length ≤ 16 ∧ jj.length ≤ 16) ∨ (k = 2 ∧ dx.length ≤ 8 ∧ jj.length ≤ 8)) : (IB k d ky f dp lf off lI nd mr dx jj).length = if k = 1 then 64 else 32 := by
  unfold IB Gy
  rcases h with ⟨rfl, hs, hp⟩ | ⟨rfl, hs, hp⟩
  · simp only [if_true]
    rw [sf _ _ _ (by rw [sf _ _ _ (by rw [nZ]; simp; omega), nZ]; simp; omega), sf _ _ _ (by rw [nZ]; simp; omega), nZ]
    simp
  · simp only [show ¬ ((2 : Int) = 1) from by omega, if_false]
    rw [sf _ _ _ (by rw [sf _ _ _ (by rw [nZ]; simp; omega), nZ]; simp; omega), sf _ _ _ (by rw [nZ]; simp; omega), nZ]
    simp
end
end Go.Sx
namespace Go.Sx
open Go.RowKit
set_option linter.unusedVariables false
set_option linter.unusedSimpArgs false
section
variable {σ : Type}
def kM (f : σ → List UInt8 → UInt64 × UInt64 → σ) (B : Nat) (h : σ) (c : UInt64 × UInt64) (M : List UInt8) : σ × (UInt64 × UInt64) × List UInt8 :=
  if qK : 0 < B ∧ B < M.length then kM f B (f h (M.take B) (rU c (UInt64.ofNat B))) (rU c (UInt64.ofNat B)) (M.drop B) else (h, c, M)
termination_by M.length
decreasing_by simp only [List.length_drop]; omega
theorem si (f : σ → List UInt8 → UInt64 × UInt64 → σ) (B : Nat) (h : σ) (c : UInt64 × UInt64) (M : List UInt8) (hM : M.length ≤ B) : kM f B h c M = (h, c, M) := by
  rw [kM, dif_neg (by omega)]
theorem BD (f : σ → List UInt8 → UInt64 × UInt64 → σ) (B : Nat) (h : σ) (c : UInt64 × UInt64) (M : List UInt8) (hB : 0 < B) (hM : B < M.length) : kM f B h c M = kM f B (f h (M.take B) (rU c (UInt64.ofNat B))) (rU c (UInt64.ofNat B)) (M.drop B) := by
  rw [kM, dif_pos ⟨hB, hM⟩]
theorem EP (f : σ → List UInt8 → UInt64 × UInt64 → σ) (B : Nat) (hB : 0 < B) : ∀ (n : Nat) (h : σ) (c : UInt64 × UInt64) (M : List UInt8), M.length ≤ n → (kM f B h c M).2.2.length ≤ B ∧ (kM f B h c M).2.2 = M.drop (M.length - (kM f B h c M).2.2.length) ∧ (kM f B h c M).2.2.length ≤ M.length := by
  intro n
  induction n with
  | zero => intro h c M hM; rw [si f B h c M (by omega)]; simp; omega
  | succ n ih =>
    intro h c M hM
    by_cases hl : B < M.length
    · rw [BD f B h c M hB hl]
      obtain ⟨h1, h2, h3⟩ := ih (f h (M.take B) (rU c (UInt64.ofNat B))) (rU c (UInt64.ofNat B)) (M.drop B) (by simp only [List.length_drop]; omega)
      refine ⟨h1, ?_, by simp only [List.length_drop] at h3; omega⟩
      rw [List.drop_drop] at h2
      simp only [List.length_drop] at h2 h3
      rw [show B + (M.length - B - (kM f B (f h (M.take B) (rU c (UInt64.ofNat B))) (rU c (UInt64.ofNat B)) (M.drop B)).2.2.length) = M.length - (kM f B (f h (M.take B) (rU c (UInt64.ofNat B))) (rU c (UInt64.ofNat B)) (M.drop B)).2.2.length from by omega] at h2
      exact h2
    · rw [si f B h c M (by omega)]
      simp; omega
end
def pad (n : Nat) (xs : List UInt8) : List UInt8 := xs ++ List.replicate (n - xs.length) 0
theorem CD (n : Nat) (xs : List UInt8) (h : xs.length ≤ n) : (pad n xs).length = n := by simp [pad]; omega
theorem CE (n : Nat) : UInt64.ofInt (n : Int) = UInt64.ofNat n := by
  rw [← UInt64.toNat_inj]
  unfold UInt64.ofInt
  simp
  omega
theorem Qg (c : UInt64 × UInt64) (n : UInt64) : ∃ o, lR c.1 c.2 n = some ((rU c n).1, (rU c n).2, o) := ⟨_, NK _ _ _⟩
theorem Qh (b : List UInt8) (n : Nat) (hb : b.length ≤ n) (hn : n ≤ 1000) : j9 b (n : Int) = some (pad n b) := by
  unfold j9
  rw [mi (by omega)]
  simp only [Option.bind_some]
  rw [mf (by simp; omega)]
  simp only [Option.bind_some]
  have e : aB ((n : Int) - (b.length : Int)) = ((n - b.length : Nat) : Int) := by rw [fK (by omega)]; omega
  rw [e]
  unfold Jy
  rw [if_pos (by simp; omega)]
  simp only [Option.bind_some, Int.toNat_natCast]
  rfl
end Go.Sx
namespace Go.Sx
open Go.RowKit
set_option linter.unusedVariables false
set_option linter.unusedSimpArgs false
structure rM where
  σ : Type
  k : Int
  B : Nat
  S : Nat
  f : σ → List UInt8 → UInt64 × UInt64 → Bool → Bool → σ
  st : List UInt8 → σ
  Up : σ → List UInt8
  Rh : σ → ae UInt64 16
  hk : k = 1 ∧ B = 128 ∧ S = 64 ∨ k = 2 ∧ B = 64 ∧ S = 32
  NU : ∀ h, (Up h).length = S
  Zz : ∀ h b (c : UInt64 × UInt64) last node, b.length = B → uK k (Rh h) b c.1 c.2 last node = some (Rh (f h b c last node))
  Uq : ∀ h, pS k (Rh h) = some (Up h)
  Ur : ∀ (d ky fn dp : Int) (lf : UInt32) (off : UInt64) (lI : UInt32) (nd mr : Int) (dx jj key : List UInt8) (last : Bool) (from_ : ae UInt64 16) (lo hi : UInt64) (msg : List UInt8) (cn : UInt64) (e7 : List UInt8), lT k d ky fn dp lf off lI nd mr dx jj = some (e7, 0) → e7.length = S →
    lB k d ky fn dp lf off lI nd mr dx jj key last from_ false lo hi msg cn = some (Rh (st e7), k, d, ky, fn, dp, lf, off, lI, nd, mr, last, from_, false, lo, hi, msg, cn)
def xO (h : ae UInt64 8) : ae UInt64 16 := ⟨h.l ++ List.replicate 8 0, by simp [h.h]⟩
theorem NV (h : ae UInt64 8) (i : Nat) (hi : i < 8) : (xO h).g i = h.g i := by
  have hl : i < h.l.length := by rw [h.h]; exact hi
  simp [ae.g, xO, List.getD_eq_getElem?_getD, List.getElem?_append_left hl]
theorem KX (h r : ae UInt64 8) : (List.range 8).foldl (fun v (i : Nat) => hK v i (r.g i)) (xO h) = xO r := by
  obtain ⟨a, b, c, d, e, f, g, q, rfl⟩ := y6 (v := h)
  obtain ⟨a', b', c', d', e', f', g', q', rfl⟩ := y6 (v := r)
  rfl
theorem ID (h : ae UInt64 8) : (List.range 8).foldl (fun v (i : Nat) => hK v i ((xO h).g i)) (ae.rep 8 (0 : UInt64)) = h := by
  obtain ⟨a, b, c, d, e, f, g, q, rfl⟩ := y6 (v := h)
  rfl
theorem NW (r : ae UInt64 8) : (List.range 8).foldl (fun v (i : Nat) => hK v i (r.g i)) (ae.rep 16 (0 : UInt64)) = xO r := by
  obtain ⟨a', b', c', d', e', f', g', q', rfl⟩ := y6 (v := r)
  rfl
theorem Us (h : ae UInt64 8) (b : List UInt8) (c : UInt64 × UInt64) (last node : Bool) (hb : b.length = 128) : uK 1 (xO h) b c.1 c.2 last node = some (xO (Fb h (Wb b) c.1 c.2 last node)) := by
  unfold uK
  rw [if_pos rfl]
  refine nu _ 8 (fun v (i : Nat) => hK v i ((xO h).g i)) _ _ (fun v i hi => ?_) ?_
  · unfold uI
    simp only []
    rw [if_pos (by omega), dO _ _ (by omega), dO _ _ hi, dJ i (by omega)]
    rfl
  · rw [ID]
    unfold uI
    simp only []
    rw [if_neg (by omega), NM b hb]
    simp only [Option.bind_some]
    rw [rF]
    simp only [Option.bind_some]
    rw [show bO (r5 (Fb h (Wb b) c.1 c.2 last node)) (xO h, 0) = some (xO (Fb h (Wb b) c.1 c.2 last node)) from ?_]
    · rfl
    refine nu _ 8 (fun v (i : Nat) => hK v i ((Fb h (Wb b) c.1 c.2 last node).g i)) _ _ (fun v i hi => ?_) ?_
    · unfold r5
      simp only []
      rw [if_pos (by omega), dO _ _ hi, dO _ _ (by omega), dJ i (by omega)]
      rfl
    · rw [KX]
      unfold r5
      simp only []
      rw [if_neg (by omega)]
      rfl
theorem KY (h : ae UInt64 8) : pS 1 (xO h) = some (Iw h) := by
  unfold pS
  refine eZ (fun i => ((List.range i).foldl (fun b i => b ++ DN 8 (h.g i)) [], (i : Int))) 8 (fun i hi => ?_) rfl
  unfold ru
  simp only []
  have hs := It (h.g i) 8 (by omega)
  rw [if_pos (by omega), dO _ _ (by omega), NV h i hi, dJ i (by omega)]
  simp only [Option.bind_some]
  rw [show wE 1 = some 64 from rfl]
  simp only [Option.bind_some]
  rw [show aB (Int.tdiv 64 8) = ((8 : Nat) : Int) from rfl, hs]
  simp only [Option.bind_some]
  have hq : (List.range (i + 1)).foldl (fun b i => b ++ DN 8 (h.g i)) [] = (List.range i).foldl (fun b i => b ++ DN 8 (h.g i)) [] ++ DN 8 (h.g i) := by rw [List.range_succ, List.foldl_append]; rfl
  rw [mf (by rw [Ap _ 8 (fun i => xN 8 _)]; simp; omega), hq]
  rfl
theorem KZ (d ky fn dp : Int) (lf : UInt32) (off : UInt64) (lI : UInt32) (nd mr : Int) (dx jj key : List UInt8) (last : Bool) (from_ : ae UInt64 16) (lo hi : UInt64) (msg : List UInt8) (cn : UInt64) (e7 : List UInt8) (he : lT 1 d ky fn dp lf off lI nd mr dx jj = some (e7, 0)) (hl : e7.length = 64) :
    lB 1 d ky fn dp lf off lI nd mr dx jj key last from_ false lo hi msg cn = some (xO (Dy e7), 1, d, ky, fn, dp, lf, off, lI, nd, mr, last, from_, false, lo, hi, msg, cn) := by
  unfold lB
  rw [if_neg (by decide), he]
  simp only [Option.bind_some]
  rw [if_pos trivial, NO e7 hl]
  simp only [Option.bind_some]
  refine nu _ 8 (fun v (i : Nat) => hK v i ((Dy e7).g i)) _ _ (fun v i hi => ?_) ?_
  · unfold ny
    simp only []
    rw [if_pos (by omega), dO _ _ hi, dO _ _ (by omega), dJ i (by omega)]
    rfl
  · rw [NW]
    unfold ny
    simp only []
    rw [if_neg (by omega)]
    rfl
def AU : rM := ⟨ae UInt64 8, 1, 128, 64, fun h b c last node => Fb h (Wb b) c.1 c.2 last node, Dy, Iw, xO, .inl ⟨rfl, rfl, rfl⟩, tL, Us, KY, KZ⟩
def up (x : UInt32) : UInt64 := UInt64.ofNat x.toNat
theorem down_up (x : UInt32) : UInt32.ofNat (up x).toNat = x := by
  have := x.toNat_lt
  unfold up
  rw [← UInt32.toNat_inj]
  simp only [UInt32.toNat_ofNat', UInt64.toNat_ofNat']
  omega
def yE (h : ae UInt32 8) : ae UInt64 16 := ⟨h.l.map up ++ List.replicate 8 0, by simp [h.h]⟩
theorem NY (h : ae UInt32 8) (i : Nat) (hi : i < 8) : (yE h).g i = up (h.g i) := by
  obtain ⟨a, b, c, d, e, f, g, q, rfl⟩ := y6 (v := h)
  match i, hi with
  | 0, _ => rfl
  | 1, _ => rfl
  | 2, _ => rfl
  | 3, _ => rfl
  | 4, _ => rfl
  | 5, _ => rfl
  | 6, _ => rfl
  | 7, _ => rfl
theorem K0 (h r : ae UInt32 8) : (List.range 8).foldl (fun v (i : Nat) => hK v i (up (r.g i))) (yE h) = yE r := by
  obtain ⟨a, b, c, d, e, f, g, q, rfl⟩ := y6 (v := h)
  obtain ⟨a', b', c', d', e', f', g', q', rfl⟩ := y6 (v := r)
  rfl
theorem IE (h : ae UInt32 8) : (List.range 8).foldl (fun v (i : Nat) => hK v i (UInt32.ofNat ((yE h).g i).toNat)) (ae.rep 8 (0 : UInt32)) = h := by
  obtain ⟨a, b, c, d, e, f, g, q, rfl⟩ := y6 (v := h)
  show (⟨[UInt32.ofNat (up a).toNat, UInt32.ofNat (up b).toNat, UInt32.ofNat (up c).toNat, UInt32.ofNat (up d).toNat, UInt32.ofNat (up e).toNat, UInt32.ofNat (up f).toNat, UInt32.ofNat (up g).toNat, UInt32.ofNat (up q).toNat], rfl⟩ : ae UInt32 8) = _
  apply ae.ext
  simp only [down_up]
theorem NZ (r : ae UInt32 8) : (List.range 8).foldl (fun v (i : Nat) => hK v i (up (r.g i))) (ae.rep 16 (0 : UInt64)) = yE r := by
  obtain ⟨a', b', c', d', e', f', g', q', rfl⟩ := y6 (v := r)
  rfl
theorem Ut (h : ae UInt32 8) (b : List UInt8) (c : UInt64 × UInt64) (last node : Bool) (hb : b.length = 64) : uK 2 (yE h) b c.1 c.2 last node = some (yE (Fs h (Ws b) c.1 last node)) := by
  unfold uK
  rw [if_neg (by decide)]
  refine nu _ 8 (fun v (i : Nat) => hK v i (UInt32.ofNat ((yE h).g i).toNat)) _ _ (fun v i hi => ?_) ?_
  · unfold uJ
    simp only []
    rw [if_pos (by omega), dO _ _ (by omega), dO _ _ hi, dJ i (by omega)]
    rfl
  · rw [IE]
    unfold uJ
    simp only []
    rw [if_neg (by omega), KQ b hb]
    simp only [Option.bind_some]
    rw [XD]
    simp only [Option.bind_some]
    rw [show bO (r6 (Fs h (Ws b) c.1 last node)) (yE h, 0) = some (yE (Fs h (Ws b) c.1 last node)) from ?_]
    · rfl
    refine nu _ 8 (fun v (i : Nat) => hK v i (up ((Fs h (Ws b) c.1 last node).g i))) _ _ (fun v i hi => ?_) ?_
    · unfold r6
      simp only []
      rw [if_pos (by omega), dO _ _ hi, dO _ _ (by omega), dJ i (by omega)]
      rfl
    · rw [K0]
      unfold r6
      simp only []
      rw [if_neg (by omega)]
      rfl
theorem K1 (h : ae UInt32 8) : pS 2 (yE h) = some (Rg h) := by
  unfold pS
  refine eZ (fun i => ((List.range i).foldl (fun b i => b ++ DN 4 (UInt64.ofNat (h.g i).toNat)) [], (i : Int))) 8 (fun i hi => ?_) rfl
  unfold ru
  simp only []
  have hs := It (up (h.g i)) 4 (by omega)
  rw [if_pos (by omega), dO _ _ (by omega), NY h i hi, dJ i (by omega)]
  simp only [Option.bind_some]
  rw [show wE 2 = some 32 from rfl]
  simp only [Option.bind_some]
  rw [show aB (Int.tdiv 32 8) = ((4 : Nat) : Int) from rfl, hs]
  simp only [Option.bind_some]
  have hq : (List.range (i + 1)).foldl (fun b i => b ++ DN 4 (UInt64.ofNat (h.g i).toNat)) [] = (List.range i).foldl (fun b i => b ++ DN 4 (UInt64.ofNat (h.g i).toNat)) [] ++ DN 4 (UInt64.ofNat (h.g i).toNat) := by rw [List.range_succ, List.foldl_append]; rfl
  rw [mf (by rw [Ap _ 4 (fun i => xN 4 _)]; simp; omega), hq]
  rfl
theorem K2 (d ky fn dp : Int) (lf : UInt32) (off : UInt64) (lI : UInt32) (nd mr : Int) (dx jj key : List UInt8) (last : Bool) (from_ : ae UInt64 16) (lo hi : UInt64) (msg : List UInt8) (cn : UInt64) (e7 : List UInt8) (he : lT 2 d ky fn dp lf off lI nd mr dx jj = some (e7, 0)) (hl : e7.length = 32) :
    lB 2 d ky fn dp lf off lI nd mr dx jj key last from_ false lo hi msg cn = some (yE (Rf e7), 2, d, ky, fn, dp, lf, off, lI, nd, mr, last, from_, false, lo, hi, msg, cn) := by
  unfold lB
  rw [if_neg (by decide), he]
  simp only [Option.bind_some]
  rw [if_neg (by decide), KR e7 hl]
  simp only [Option.bind_some]
  refine nu _ 8 (fun v (i : Nat) => hK v i (up ((Rf e7).g i))) _ _ (fun v i hi => ?_) ?_
  · unfold nA
    simp only []
    rw [if_pos (by omega), dO _ _ hi, dO _ _ (by omega), dJ i (by omega)]
    rfl
  · rw [NZ]
    unfold nA
    simp only []
    rw [if_neg (by omega)]
    rfl
def small : rM := ⟨ae UInt32 8, 2, 64, 32, fun h b c last node => Fs h (Ws b) c.1 last node, Rf, Rg, yE, .inr ⟨rfl, rfl, rfl⟩, KS, Ut, K1, K2⟩
end Go.Sx
namespace Go.Sx
open Go.RowKit
set_option linter.unusedVariables false
set_option linter.unusedSimpArgs false
def rM.run (H : rM) (e7 M : List UInt8) : H.σ × (UInt64 × UInt64) × List UInt8 := kM (fun h b c => H.f h b c false false) H.B (H.st e7) (0, 0) M
def rM.hash (H : rM) (e7 M : List UInt8) (last : Bool) : List UInt8 :=
  H.Up (H.f (H.run e7 M).1 (pad H.B (H.run e7 M).2.2) (rU (H.run e7 M).2.1 (UInt64.ofNat (H.run e7 M).2.2.length)) true last)
theorem rM.IF (H : rM) (e7 M : List UInt8) (last : Bool) : (H.hash e7 M last).length = H.S := H.NU _
theorem rM.bp (H : rM) : 0 < H.B ∧ H.B ≤ 128 := by rcases H.hk with ⟨_, h, _⟩ | ⟨_, h, _⟩ <;> omega
section
variable (H : rM) (d ky fn dp : Int) (lf : UInt32) (off : UInt64) (lI : UInt32) (nd mr : Int) (dx jj key : List UInt8) (last : Bool) (from_ : ae UInt64 16) (msg : List UInt8) (cn : UInt64) (e7 : List UInt8)
theorem rM.held (H : rM) (e7 M : List UInt8) : (H.run e7 M).2.2.length ≤ H.B ∧ (H.run e7 M).2.2 = M.drop (M.length - (H.run e7 M).2.2.length) ∧ (H.run e7 M).2.2.length ≤ M.length :=
  EP _ H.B H.bp.1 M.length _ _ M (Nat.le_refl _)
end
def rM.Uu (H : rM) (e7 M : List UInt8) (last : Bool) (out : Int) : List UInt8 × Int := if out < 1 ∨ (H.S : Int) < out then ([], 1) else ((H.hash e7 M last).take out.toNat, 0)
def rM.kb (H : rM) (key : List UInt8) : List UInt8 := if key = [] then [] else pad H.B key
theorem rM.IG (H : rM) (key : List UInt8) (h : key.length ≤ H.B) : (H.kb key).length ≤ H.B := by
  unfold rM.kb
  split
  · simp
  · rw [CD _ _ h]; exact Nat.le_refl _
end Go.Sx
namespace Go.Sx
open Go.RowKit
set_option linter.unusedVariables false
set_option linter.unusedSimpArgs false
def fB (h : ae UInt64 8) (b : List UInt8) (c : UInt64 × UInt64) (last node : Bool) : ae UInt64 8 := Fb h (Wb b) c.1 c.2 last node
theorem BE (h : ae UInt64 8) (b : List UInt8) (c : UInt64 × UInt64) (last node : Bool) (hb : b.length = 128) : l_ h b c.1 c.2 last node = some (fB h b c last node) := by
  unfold l_
  rw [NL b hb]
  simp only [Option.bind_some]
  rw [wF]
  rfl
theorem Qi (b : List UInt8) (h : ae UInt64 8) (lo hi : UInt64) (held : List UInt8) (hb : b.length ≤ 12000000) (hh : held.length ≤ 128) :
    e9 128 b h lo hi held = some (.inl (h, lo, hi, held ++ b.take (min (128 - held.length) b.length), b.drop (min (128 - held.length) b.length))) := by
  unfold e9
  have e1 : aB ((128 : Int) - ((held.length : Nat) : Int)) = ((128 - held.length : Nat) : Int) := by rw [fK (by omega)]; omega
  have e2 : (if aB ((128 : Int) - ((held.length : Nat) : Int)) < ((b.length : Nat) : Int) then aB ((128 : Int) - ((held.length : Nat) : Int)) else ((b.length : Nat) : Int)) = ((min (128 - held.length) b.length : Nat) : Int) := by
    rw [e1]; split <;> omega
  rw [e2, uv (by omega)]
  simp only [Option.bind_some, Int.toNat_natCast, Int.toNat_zero, List.drop_zero]
  rw [mf (by simp; omega), uv (by omega)]
  simp only [Option.bind_some, Int.toNat_natCast]
  rw [List.take_of_length_le (i := b.length) (Nat.le_refl _)]
theorem FO (h : ae UInt64 8) (c : UInt64 × UInt64) (held b : List UInt8) (hb : b.length ≤ 12000000) (hh : held.length ≤ 128) :
    fM h c.1 c.2 held 128 b = some ((kM (fun h b c => fB h b c false false) 128 h c (held ++ b)).1, (kM (fun h b c => fB h b c false false) 128 h c (held ++ b)).2.1.1, (kM (fun h b c => fB h b c false false) 128 h c (held ++ b)).2.1.2, (kM (fun h b c => fB h b c false false) 128 h c (held ++ b)).2.2, 128) := by
  unfold fM
  refine re (fun i s => ∃ (h' : ae UInt64 8) (c' : UInt64 × UInt64) (vb b' : List UInt8), s = (h', c'.1, c'.2, vb, b') ∧ vb.length ≤ 128 ∧ b'.length + i ≤ b.length ∧ kM (fun h b c => fB h b c false false) 128 h' c' (vb ++ b') = kM (fun h b c => fB h b c false false) 128 h c (held ++ b)) _ b.length _ ⟨h, c, held, b, rfl, hh, by omega, rfl⟩ ?_
  rintro i s ⟨h', c', vb, b', rfl, VB, Uv, hr⟩
  rw [← hr]
  unfold ij
  simp only []
  by_cases h0 : b'.length = 0
  · right
    obtain rfl := List.length_eq_zero_iff.1 h0
    rw [if_neg (by simp), List.append_nil, si _ _ _ _ _ VB]
    rfl
  · left
    refine ⟨by omega, ?_⟩
    rw [if_pos (by omega)]
    by_cases hf : vb.length = 128
    · rw [if_pos (by omega)]
      obtain ⟨o, zE⟩ := Qg c' (UInt64.ofNat 128)
      have e3 : UInt64.ofInt 128 = UInt64.ofNat 128 := rfl
      rw [e3, zE]
      simp only [Option.bind_some]
      rw [BE h' vb (rU c' (UInt64.ofNat 128)) false false hf]
      simp only [Option.bind_some]
      rw [uv (by omega)]
      simp only [Option.bind_some, Int.toNat_zero, List.take_zero, List.drop_nil]
      rw [Qi b' _ _ _ [] (by omega) (by simp)]
      refine ⟨_, rfl, _, rU c' (UInt64.ofNat 128), _, _, rfl, by simp; omega, by simp; omega, ?_⟩
      rw [BD _ 128 h' c' (vb ++ b') (by omega) (by simp; omega)]
      rw [show (vb ++ b').take 128 = vb from by rw [List.take_append_of_le_length (by omega), List.take_of_length_le (by omega)], show (vb ++ b').drop 128 = b' from by rw [← hf, List.drop_left]]
      rw [List.nil_append, List.take_append_drop]
    · rw [if_neg (by omega), Qi b' _ _ _ vb (by omega) VB]
      refine ⟨_, rfl, _, c', _, _, rfl, by simp; omega, by simp; omega, ?_⟩
      rw [List.append_assoc, List.take_append_drop]
theorem LU (h : ae UInt64 8) (c : UInt64 × UInt64) (held : List UInt8) (node : Bool) (hh : held.length ≤ 128) :
    iB h c.1 c.2 held 128 node = some (Iw (fB h (pad 128 held) (rU c (UInt64.ofNat held.length)) true node), h, c.1, c.2, held, 128) := by
  unfold iB i_
  obtain ⟨o, zE⟩ := Qg c (UInt64.ofNat held.length)
  rw [CE, zE]
  simp only [Option.bind_some]
  have := Qh held 128 hh (by omega)
  rw [show ((128 : Nat) : Int) = 128 from rfl] at this
  rw [this]
  simp only [Option.bind_some]
  rw [BE h _ (rU c (UInt64.ofNat held.length)) true node (CD _ _ hh)]
  simp only [Option.bind_some]
  rw [NQ]
  rfl
end Go.Sx
namespace Go.Sx
open Go.RowKit
set_option linter.unusedVariables false
set_option linter.unusedSimpArgs false
theorem IH (d : Int) (e7 key : List UInt8) (hl : e7.length = 64) (hk : key.length ≤ 128) : kZ 1 d e7 key false 0 = some (.inl (1, d, e7, key, Dy e7, 0, 0, AU.kb key, 128)) := by
  unfold kZ qP
  rw [if_pos rfl]
  rw [NP e7 hl]
  simp only [Option.bind_some, Sum.elim_inl]
  unfold rM.kb
  by_cases h0 : key = []
  · subst h0; rfl
  · rw [if_pos (by have := List.length_pos_iff.2 h0; omega), if_neg h0]
    have hp := Qh key 128 hk (by omega)
    rw [show ((128 : Nat) : Int) = 128 from rfl] at hp
    rw [show iA 1 = some 128 from rfl]
    simp only [Option.bind_some]
    rw [hp]
    simp only [Option.bind_some]
    have hlen := CD 128 key hk
    rw [FO (Dy e7) (0, 0) [] (pad 128 key) (by omega) (by simp)]
    rw [List.nil_append, si _ _ _ _ _ (by omega)]
    rfl
theorem Uw (d : Int) (e7 key : List UInt8) (last : Bool) (wr : UInt64) (h : ae UInt64 8) (c : UInt64 × UInt64) (held : List UInt8) (hh : held.length ≤ 128) (out : Int) : ∃ t, eo 1 d e7 key last wr h c.1 c.2 held 128 out = some t ∧ (t.1, t.2.1) = (if out < 1 ∨ (64 : Int) < out then ([], 1) else ((Iw (fB h (pad 128 held) (rU c (UInt64.ofNat held.length)) true last)).take out.toNat, 0)) := by
  unfold eo je
  simp only [Option.bind_some]
  by_cases h1 : out < 1
  · rw [if_pos h1, if_pos (.inl h1)]; exact ⟨_, rfl, rfl⟩
  rw [if_neg h1, show iA 1 = some 128 from rfl]
  simp only [Option.bind_some]
  rw [show aB (Int.tdiv 128 2) = (64 : Int) from rfl]
  by_cases h2 : (64 : Int) < out
  · rw [if_pos h2, if_pos (.inr h2)]; exact ⟨_, rfl, rfl⟩
  rw [if_neg h2, if_neg (by omega), LU h c held last hh]
  simp only [Option.bind_some]
  rw [uv (by rw [tL]; omega)]
  simp only [Option.bind_some]
  rw [mi (by rw [tL]; omega)]
  exact ⟨_, rfl, by simp⟩
theorem N1 (d ky fn dp : Int) (lf : UInt32) (off : UInt64) (lI : UInt32) (nd mr : Int) (dx jj key : List UInt8) (last : Bool) (out : Int) (data e7 : List UInt8) (he : kj 1 d ky fn dp lf off lI nd mr dx jj = some (e7, 0)) (hl : e7.length = 64) (Jm : key = [] ∨ (key.length : Int) = ky) (Ux : key.length ≤ 128) (hd : data.length ≤ 12000000) :
    oq 1 d ky fn dp lf off lI nd mr dx jj key last out data = some (AU.Uu e7 (AU.kb key ++ data) last out) := by
  unfold oq mA
  rw [he]
  simp only [Option.bind_some, ne_eq, not_true_eq_false, if_false]
  rw [if_neg (by
    simp only [Bool.and_eq_true, decide_eq_true_eq]
    rintro ⟨h1, h2⟩
    rcases Jm with rfl | h
    · exact h1 rfl
    · exact h2 h)]
  unfold pP
  rw [mf (by simp; omega), mf (by simp; omega)]
  simp only [Option.bind_some, List.nil_append]
  rw [IH d e7 key hl Ux]
  simp only [Option.bind_some, Sum.elim_inl, Sum.elim_inr]
  have XE := AU.IG key Ux
  rw [FO (Dy e7) (0, 0) (AU.kb key) data hd XE]
  simp only [Option.bind_some]
  obtain ⟨h1, h2, h3⟩ := AU.held e7 (AU.kb key ++ data)
  obtain ⟨t, XF, Lo⟩ := Uw d e7 key last 0 (kM (fun h b c => fB h b c false false) 128 (Dy e7) (0, 0) (AU.kb key ++ data)).1 (kM (fun h b c => fB h b c false false) 128 (Dy e7) (0, 0) (AU.kb key ++ data)).2.1 (kM (fun h b c => fB h b c false false) 128 (Dy e7) (0, 0) (AU.kb key ++ data)).2.2 h1 out
  rw [XF]
  simp only [Option.bind_some, Option.some.injEq]
  exact Lo
end Go.Sx
namespace Go.Sx
open Go.RowKit
set_option linter.unusedVariables false
set_option linter.unusedSimpArgs false
theorem Qj (kl : Nat) (h : kl ≤ 64) : gH 1 64 (kl : Int) 1 1 0 0 4294967295 0 0 [] [] = some 0 := by
  unfold gH
  rw [show lb 1 = some 64 from rfl]
  simp only [Option.bind_some]
  rw [if_neg (by omega), show aB (Int.tdiv 64 4) = 16 from rfl, if_neg (by decide), if_neg (by simp only [Bool.or_eq_true, decide_eq_true_eq]; omega), if_neg (by decide), if_neg (by decide), if_neg (by decide), if_neg (by decide), if_neg (by decide), if_neg (by decide), if_neg (by decide), if_neg (by decide)]
theorem Uy (i : UInt64) (h : i.toNat < 4294967296) : gH 1 64 0 0 0 64 i 4294967295 0 64 [] [] = some 0 := by
  have hi : ¬ (4294967295 : UInt64) < i := by
    intro hh
    have := UInt64.lt_iff_toNat_lt.1 hh
    have e : (4294967295 : UInt64).toNat = 4294967295 := rfl
    omega
  unfold gH
  rw [show lb 1 = some 64 from rfl]
  simp only [Option.bind_some]
  rw [if_neg (by omega), show aB (Int.tdiv 64 4) = 16 from rfl, if_neg (by decide), if_neg (by decide), if_neg (by decide), if_neg (by decide), if_neg (by simp [hi]), if_neg (by decide), if_neg (by decide), if_neg (by decide), if_neg (by decide), if_neg (by decide)]
theorem Qk (H : rM) (hS : H.S = 64) (e7 M : List UInt8) : (H.Uu e7 M false 64).1.length = 64 := by
  unfold rM.Uu
  rw [if_neg (by omega)]
  have := H.IF e7 M false
  simp only [List.length_take]
  omega
theorem K3 (n : Nat) (h : n < 9223372036854775808) : aB (n : Int) = (n : Int) := by
  rw [fK] <;> omega
theorem II (root : List UInt8) (hr : root.length ≤ 64) (i : UInt64) (h : i.toNat < 4294967296) : ∃ b, b.length = 64 ∧ fN [] [] root i = some b := by
  have cj : (64 : UInt64).toNat = 64 := rfl
  have eT : (274877906944 : UInt64).toNat = 274877906944 := rfl
  have hm : (i * 64).toNat = i.toNat * 64 := by rw [UInt64.toNat_mul, cj]; omega
  have hs : ((274877906944 : UInt64) - i * 64).toNat = 274877906944 - i.toNat * 64 := by
    rw [UInt64.toNat_sub_of_le _ _ (UInt64.le_iff_toNat_le.2 (by rw [hm, eT]; omega)), hm, eT]
  have hn : ¬ ((274877906944 : UInt64) - i * 64) < 64 := by
    intro hh
    have := UInt64.lt_iff_toNat_lt.1 hh
    rw [hs, cj] at this; omega
  unfold fN
  rw [if_neg hn]
  unfold iC
  obtain ⟨Ql, _⟩ := IC 1 64 0 0 0 64 i 4294967295 0 64 [] [] (Uy i h)
  rw [N1 64 0 0 0 64 i 4294967295 0 64 [] [] [] false 64 root _ Ql (by rw [DC _ _ _ _ _ _ _ _ _ _ _ _ (.inl ⟨rfl, by simp, by simp⟩)]; rfl) (.inl rfl) (by simp) (by omega)]
  exact ⟨_, Qk AU rfl _ _, rfl⟩
noncomputable def OI (root : List UInt8) (i : UInt64) : List UInt8 := (fN [] [] root i).getD []
theorem CF (root : List UInt8) (hr : root.length ≤ 64) (i : UInt64) (h : i.toNat < 4294967296) : (OI root i).length = 64 ∧ fN [] [] root i = some (OI root i) := by
  obtain ⟨b, h1, h2⟩ := II root hr i h
  unfold OI
  rw [h2]
  exact ⟨h1, rfl⟩
theorem Uz (d : Int) (e7 key : List UInt8) (last : Bool) (wr : UInt64) (h : ae UInt64 8) (lo hi : UInt64) (held : List UInt8) (hh : held.length ≤ 128) :
    eo 1 d e7 key last wr h lo hi held 128 64 = some (Iw (fB h (pad 128 held) (rU (lo, hi) (UInt64.ofNat held.length)) true last), 0, h, lo, hi, held, 128, 1, d, e7, key, last, wr) := by
  unfold eo je
  simp only [Option.bind_some]
  rw [if_neg (by omega), show iA 1 = some 128 from rfl]
  simp only [Option.bind_some]
  rw [show aB (Int.tdiv 128 2) = (64 : Int) from rfl, if_neg (by omega), LU h (lo, hi) held last hh]
  simp only [Option.bind_some]
  rw [uv (by rw [tL]; omega)]
  simp only [Option.bind_some]
  rw [mi (by rw [tL]; omega)]
  simp only [Option.bind_some]
  rw [show (64 : Int).toNat = (Iw (fB h (pad 128 held) (rU (lo, hi) (UInt64.ofNat held.length)) true last)).length from by rw [tL]; rfl]
  simp
end Go.Sx
namespace Go.Sx
open Go.RowKit
set_option linter.unusedVariables false
set_option linter.unusedSimpArgs false
noncomputable def FP (root : List UInt8) (at_ : UInt64) : List UInt8 := ((OI root (at_ / 64)).take (at_.toNat % 64 + 8)).drop (at_.toNat % 64)
def Aw (root : List UInt8) (now : ae UInt8 64) (hv : Int) : Prop := hv = -1 ∨ ∃ i : UInt64, i.toNat < 4294967296 ∧ hv = (i.toNat : Int) ∧ now.l = OI root i
theorem K4 (root : List UInt8) (now : ae UInt8 64) : Aw root now (-1) := .inl rfl
theorem vc (at_ : UInt64) : (at_ / 64).toNat = at_.toNat / 64 := by rw [UInt64.toNat_div]; rfl
theorem IJ (at_ : UInt64) : (at_ % 64).toNat = at_.toNat % 64 := by rw [UInt64.toNat_mod]; rfl
theorem xP (x : ae UInt8 64) (ys : List UInt8) (h : ys.length = 64) : (tP x 0 64 ys).l = ys := by
  unfold tP
  rw [dif_pos (by omega)]
  show DK x.l 0 64 ys = ys
  unfold DK
  have := x.h
  simp only [List.take_zero, List.nil_append, Nat.zero_add]
  rw [List.take_of_length_le (by omega), List.drop_eq_nil_of_le (by omega), List.append_nil]
section
variable (root : List UInt8) (hr : root.length ≤ 64) (at_ : UInt64) (h8 : at_.toNat % 8 = 0) (xQ : at_.toNat + 8 ≤ 274877906944)
include h8 xQ hr
theorem CG : (FP root at_).length = 8 := by
  have := (CF root hr (at_ / 64) (by rw [vc]; omega)).1
  unfold FP
  simp only [List.length_drop, List.length_take]
  omega
theorem Qm : (if aB (64 - (aB ((at_ % 64).toNat : Int))) < aB (8 - ((([] : List UInt8).length : Nat) : Int)) then aB (64 - (aB ((at_ % 64).toNat : Int))) else aB (8 - ((([] : List UInt8).length : Nat) : Int))) = 8 := by
  have hm := IJ at_
  have hp := And.intro hr xQ
  have e1 : aB ((at_ % 64).toNat : Int) = ((at_.toNat % 64 : Nat) : Int) := by rw [hm, K3 _ (by omega)]
  have e2 : aB (8 - ((([] : List UInt8).length : Nat) : Int)) = 8 := rfl
  have e3 : aB (64 - ((at_.toNat % 64 : Nat) : Int)) = 64 - ((at_.toNat % 64 : Nat) : Int) := by rw [fK]; omega
  rw [e1, e2, e3, if_neg (by omega)]
theorem K5 (x : ae UInt8 64) (hx : x.l = OI root (at_ / 64)) : x5 x.l (aB ((at_ % 64).toNat : Int)) (aB ((aB ((at_ % 64).toNat : Int)) + 8)) = some (FP root at_) := by
  have hm := IJ at_
  have hp := (CF root hr (at_ / 64) (by rw [vc]; omega)).1
  have e1 : aB ((at_ % 64).toNat : Int) = ((at_.toNat % 64 : Nat) : Int) := by rw [hm, K3 _ (by omega)]
  rw [e1, fK (n := ((at_.toNat % 64 : Nat) : Int) + 8) (by omega), uv (by rw [hx, hp]; omega), hx]
  rfl
theorem Qn (h : ae UInt64 8) (lo hi : UInt64) (held : List UInt8) (bl kd d : Int) (e7 key : List UInt8) (last : Bool) (wr : UInt64) (now : ae UInt8 64) (hv : Int) (ho : Aw root now hv) :
    ∃ hD ns, Aw root hD ns ∧ gl [] [] (h, lo, hi, held, bl, kd, d, e7, key, last, wr, root, at_, now, hv) 8 = some (FP root at_, 0, h, lo, hi, held, bl, kd, d, e7, key, last, wr, root, at_ + 8, hD, ns) := by
  have hp := CF root hr (at_ / 64) (by rw [vc]; omega)
  have hl := CG root hr at_ h8 xQ
  have ew : aB ((at_ / 64).toNat : Int) = ((at_ / 64).toNat : Int) := K3 _ (by rw [vc]; omega)
  have key : ∃ hD ns, Aw root hD ns ∧ gk [] [] (h, lo, hi, held, bl, kd, d, e7, key, last, wr, root, at_, now, hv) 8 (at_, now, hv, []) = some (.inl (at_ + 8, hD, ns, FP root at_)) := by
    unfold gk iD
    simp only []
    rw [if_pos (by decide), Qm root hr at_ h8 xQ]
    by_cases sj : hv = aB ((at_ / 64).toNat : Int)
    · rw [if_neg (by simpa using sj)]
      rcases ho with hm | ⟨i, Qo, Gz, Qp⟩
      · rw [hm, ew] at sj; omega
      · have UA : i = at_ / 64 := by
          rw [Gz, ew] at sj
          exact UInt64.toNat_inj.1 (by omega)
        subst UA
        rw [K5 root hr at_ h8 xQ now Qp]
        simp only [Option.bind_some]
        rw [mf (by simp only [List.length_nil]; omega)]
        exact ⟨now, hv, .inr ⟨_, Qo, Gz, Qp⟩, rfl⟩
    · rw [if_pos sj, hp.2]
      simp only [Option.bind_some]
      rw [K5 root hr at_ h8 xQ _ (xP now _ hp.1)]
      simp only [Option.bind_some]
      rw [mf (by simp only [List.length_nil]; omega)]
      exact ⟨_, _, .inr ⟨at_ / 64, by rw [vc]; omega, ew, xP now _ hp.1⟩, rfl⟩
  obtain ⟨hD, ns, EZ, hs⟩ := key
  refine ⟨hD, ns, EZ, ?_⟩
  unfold gl
  refine eZ (fun i => if i = 0 then (at_, now, hv, []) else (at_ + 8, hD, ns, FP root at_)) 1 (fun i hi => ?_) ?_
  · obtain rfl : i = 0 := by omega
    exact hs
  · rw [if_neg (by decide)]
    unfold gk
    simp only []
    rw [if_neg (by rw [hl]; decide)]
    rfl
theorem N2 (h : ae UInt64 8) (lo hi : UInt64) (held : List UInt8) (bl kd d : Int) (e7 key : List UInt8) (last : Bool) (wr : UInt64) (now : ae UInt8 64) (hv : Int) (ho : Aw root now hv) :
    ∃ hD ns, Aw root hD ns ∧ fE [] [] root (h, lo, hi, held, bl, kd, d, e7, key, last, wr, at_, now, hv) 8 = some (FP root at_, 0, h, lo, hi, held, bl, kd, d, e7, key, last, wr, at_ + 8, hD, ns) := by
  have hp := CF root hr (at_ / 64) (by rw [vc]; omega)
  have hl := CG root hr at_ h8 xQ
  have ew : aB ((at_ / 64).toNat : Int) = ((at_ / 64).toNat : Int) := K3 _ (by rw [vc]; omega)
  have key : ∃ hD ns, Aw root hD ns ∧ fD [] [] root (h, lo, hi, held, bl, kd, d, e7, key, last, wr, at_, now, hv) 8 (at_, now, hv, []) = some (.inl (at_ + 8, hD, ns, FP root at_)) := by
    unfold fD gv
    simp only []
    rw [if_pos (by decide), Qm root hr at_ h8 xQ]
    by_cases sj : hv = aB ((at_ / 64).toNat : Int)
    · rw [if_neg (by simpa using sj)]
      rcases ho with hm | ⟨i, Qo, Gz, Qp⟩
      · rw [hm, ew] at sj; omega
      · have UA : i = at_ / 64 := by
          rw [Gz, ew] at sj
          exact UInt64.toNat_inj.1 (by omega)
        subst UA
        rw [K5 root hr at_ h8 xQ now Qp]
        simp only [Option.bind_some]
        rw [mf (by simp only [List.length_nil]; omega)]
        exact ⟨now, hv, .inr ⟨_, Qo, Gz, Qp⟩, rfl⟩
    · rw [if_pos sj, hp.2]
      simp only [Option.bind_some]
      rw [K5 root hr at_ h8 xQ _ (xP now _ hp.1)]
      simp only [Option.bind_some]
      rw [mf (by simp only [List.length_nil]; omega)]
      exact ⟨_, _, .inr ⟨at_ / 64, by rw [vc]; omega, ew, xP now _ hp.1⟩, rfl⟩
  obtain ⟨hD, ns, EZ, hs⟩ := key
  refine ⟨hD, ns, EZ, ?_⟩
  unfold fE
  refine eZ (fun i => if i = 0 then (at_, now, hv, []) else (at_ + 8, hD, ns, FP root at_)) 1 (fun i hi => ?_) ?_
  · obtain rfl : i = 0 := by omega
    exact hs
  · rw [if_neg (by decide)]
    unfold fD
    simp only []
    rw [if_neg (by rw [hl]; decide)]
    rfl
end
end Go.Sx
namespace Go.Sx
open Go.RowKit
set_option linter.unusedVariables false
set_option linter.unusedSimpArgs false
theorem nz : ¬ ((0 : Int) ≠ 0) := by decide
theorem DD (at_ : UInt64) (h : at_.toNat ≤ 274877906944) : ((274877906944 : UInt64) - at_).toNat = 274877906944 - at_.toNat := by
  rw [UInt64.toNat_sub_of_le _ _ (UInt64.le_iff_toNat_le.2 h)]; rfl
theorem FQ (at_ : UInt64) (h : at_.toNat + 8 ≤ 274877906944) : ¬ ((274877906944 : UInt64) - at_) = 0 := by
  intro e
  have := congrArg UInt64.toNat e
  rw [DD at_ (by omega)] at this
  have e0 : (0 : UInt64).toNat = 0 := rfl
  omega
theorem FR (at_ : UInt64) (h : at_.toNat + 8 ≤ 274877906944) : ¬ ((274877906944 : UInt64) - at_) < 8 := by
  intro e
  have := UInt64.lt_iff_toNat_lt.1 e
  rw [DD at_ (by omega)] at this
  have e0 : (8 : UInt64).toNat = 8 := rfl
  omega
section
variable (R : List UInt8) (hR : R.length = 64) (d : Int) (e7 nk : List UInt8) (last : Bool) (wr : UInt64) (h : ae UInt64 8) (lo hi : UInt64) (held : List UInt8) (hh : held.length ≤ 128)
  (hn : eo 1 d e7 nk last wr h lo hi held 128 64 = some (R, 0, h, lo, hi, held, 128, 1, d, e7, nk, last, wr))
  (fk key : List UInt8) (at_ : UInt64) (now : ae UInt8 64) (hv : Int)
include hh in
theorem N3 : gR h lo hi held 128 = some (h, lo, hi, held, 128, h, lo, hi, held, 128) := by
  unfold gR
  rw [mi (by decide)]
  rw [Option.bind_some]
  rw [show Int.toNat (0 : Int) = 0 from rfl, List.replicate_zero, mf (by simp only [List.length_nil]; omega)]
  rfl
include hh in
theorem N4 : lC 1 d e7 nk last wr h lo hi held 128 = some (1, d, e7, nk, last, wr, h, lo, hi, held, 128, h, lo, hi, held, 128, 1, d, last, wr) := by
  unfold lC je
  rw [Option.bind_some]
  rw [N3 h lo hi held hh]
  rfl
include hh in
theorem LV : gB key [] [] 1 d e7 nk last wr h lo hi held 128 at_ now hv = some (1, d, e7, nk, last, wr, h, lo, hi, held, 128, at_, now, hv, h, lo, hi, held, 128, 1, d, last, wr, at_, now, hv) := by
  unfold gB gA
  rw [Option.bind_some]
  rw [N4 d e7 nk last wr h lo hi held hh]
  rfl
include hn hR in
theorem Qq : jT key [] [] 1 d e7 nk last wr h lo hi held 128 at_ now hv = some (h, lo, hi, held, 128, 1, d, e7, nk, last, wr, R, at_, now, hv) := by
  unfold jT
  rw [hn]
  rw [Option.bind_some]
  rw [mi (by intro e; dsimp only at e; rw [e] at hR; cases hR)]
  rfl
variable (h8 : at_.toNat % 8 = 0) (xQ : at_.toNat + 8 ≤ 274877906944) (ho : Aw R now hv)
include hn hR h8 xQ ho in
theorem IK : ∃ hD ns, Aw R hD ns ∧ jU key [] [] 1 d e7 nk last wr h lo hi held 128 at_ now hv = some (FP R at_, 0, h, lo, hi, held, 128, 1, d, e7, nk, last, wr, R, at_ + 8, hD, ns) := by
  obtain ⟨hD, ns, EZ, hs⟩ := Qn R (by omega) at_ h8 xQ h lo hi held 128 1 d e7 nk last wr now hv ho
  refine ⟨hD, ns, EZ, ?_⟩
  unfold jU gA
  rw [Option.bind_some]
  rw [Qq R hR d e7 nk last wr h lo hi held hn key at_ now hv]
  rw [Option.bind_some]
  rw [if_neg (FQ at_ xQ), if_neg (FR at_ xQ)]
  exact hs
include hR h8 xQ ho in
theorem K6 : ∃ hD ns, Aw R hD ns ∧ iH key [] [] 1 d e7 nk last wr h lo hi held 128 R at_ now hv = some (FP R at_, 0, h, lo, hi, held, 128, 1, d, e7, nk, last, wr, at_ + 8, hD, ns) := by
  obtain ⟨hD, ns, EZ, hs⟩ := N2 R (by omega) at_ h8 xQ h lo hi held 128 1 d e7 nk last wr now hv ho
  refine ⟨hD, ns, EZ, ?_⟩
  unfold iH iG j6
  rw [Option.bind_some, Option.bind_some]
  rw [if_neg (FQ at_ xQ), if_neg (FR at_ xQ)]
  exact hs
noncomputable def GO (R : List UInt8) (at_ : UInt64) : UInt64 := AS (FP R at_) 0
include hR h8 xQ in
theorem IL : iw (FP R at_) 0 = some (GO R at_, 0) := by
  have hl := CG R (by omega) at_ h8 xQ
  exact EL (FP R at_) 0 (by omega) (by omega)
end
end Go.Sx
namespace Go.Sx
open Go.RowKit
set_option linter.unusedVariables false
set_option linter.unusedSimpArgs false
section
variable (at_ n : UInt64) (m : Nat) (hm : at_.toNat = 8 * m) (hl : m < 34359738368) (hn : m + n.toNat ≤ 34359738368)
include hm
theorem XG : (at_ / 8).toNat = m := by
  rw [UInt64.toNat_div]
  have e : (8 : UInt64).toNat = 8 := rfl
  rw [e, hm]; omega
include hl
include hn
end
section
variable (R : List UInt8) (hR : R.length = 64) (d : Int) (e7 nk : List UInt8) (last : Bool) (wr : UInt64) (h : ae UInt64 8) (lo hi : UInt64) (held : List UInt8)
  (hn : eo 1 d e7 nk last wr h lo hi held 128 64 = some (R, 0, h, lo, hi, held, 128, 1, d, e7, nk, last, wr))
  (fk key : List UInt8) (at_ : UInt64) (now : ae UInt8 64) (hv : Int)
theorem Ri : fm fk key [] [] 1 d e7 nk last wr h lo hi held 128 at_ now hv = some (at_ / 8, h, lo, hi, held, 128, 1, d, e7, nk, last, wr, at_, now, hv) := rfl
theorem Qr : ec fk key [] [] 1 d e7 nk last wr h lo hi held 128 R at_ now hv = some (at_ / 8, h, lo, hi, held, 128, 1, d, e7, nk, last, wr, at_, now, hv) := rfl
variable (n : UInt64) (m : Nat) (hm : at_.toNat = 8 * m) (hl : m < 34359738368) (hk : m + n.toNat ≤ 34359738368)
end
end Go.Sx
namespace Go.Sx
open Go.RowKit
set_option linter.unusedVariables false
set_option linter.unusedSimpArgs false
theorem Qs (b : List UInt8) (h : b.length ≤ 64) : mG b = some b := by
  unfold mG
  rw [mf (by simp only [List.length_nil]; omega), Option.bind_some, List.nil_append]
theorem N5 (key : List UInt8) (h : key.length ≤ 64) : nG key [] [] = some 0 := by
  unfold nG oL mn jf
  rw [Option.bind_some, if_neg (by omega), Option.bind_some, Aq, Qj _ h, Option.bind_some]
theorem Qt (key : List UInt8) (h : key.length ≤ 64) : ∃ e7, e7.length = 64 ∧ mA 1 64 ((key.length : Nat) : Int) 1 1 0 0 4294967295 0 0 [] [] key = some (Sum.inr (Sum.inl (1, 64, e7, key, Dy e7, 0, 0, AU.kb key, 128))) := by
  obtain ⟨Ql, _⟩ := IC 1 64 ((key.length : Nat) : Int) 1 1 0 0 4294967295 0 0 [] [] (Qj _ h)
  have Uv : (IB 1 64 ((key.length : Nat) : Int) 1 1 0 0 4294967295 0 0 [] []).length = 64 := by rw [DC _ _ _ _ _ _ _ _ _ _ _ _ (.inl ⟨rfl, by simp, by simp⟩)]; rfl
  refine ⟨_, Uv, ?_⟩
  unfold mA
  rw [Ql]
  rw [Option.bind_some]
  dsimp only
  rw [if_neg nz, if_neg (by simp)]
  unfold pP
  rw [mf (by simp; omega), mf (by simp; omega)]
  rw [Option.bind_some, Option.bind_some, List.nil_append, List.nil_append]
  rw [IH 64 _ key Uv (by omega)]
  rw [Option.bind_some, Sum.elim_inl, Option.bind_some, Sum.elim_inl]
theorem Qu (fk : List UInt8) (h : fk.length ≤ 64) : ∃ e7, e7.length = 64 ∧ na fk = some (Sum.inr (fk, fk, [], [], 1, 64, e7, fk, Dy e7, 0, 0, AU.kb fk, 128, ae.rep 64 (0 : UInt8))) := by
  obtain ⟨e7, hb, hn⟩ := Qt fk h
  refine ⟨e7, hb, ?_⟩
  unfold na
  rw [if_neg (by omega)]
  unfold r7
  rw [N5 fk h, Option.bind_some, if_neg nz, Qs fk h, Qs [] (by simp)]
  rw [Option.bind_some, Option.bind_some, Option.bind_some]
  unfold k5 jf
  rw [Option.bind_some, hn, Option.bind_some, Sum.elim_inr, Sum.elim_inl, Option.bind_some, Option.bind_some, Sum.elim_inr]
  rw [mf (by simp only [List.length_nil]; omega), Option.bind_some, List.nil_append]
end Go.Sx
namespace Go.Sx
open Go.RowKit
set_option linter.unusedVariables false
set_option linter.unusedSimpArgs false
noncomputable def Qv (i : Nat) : Bool := match iW (UInt64.ofNat i) 0 with
  | some c => decide (1 ≤ c ∧ c ≤ 8 ∧ 2 ^ (c.toNat - 1) ≤ i ∧ i < 2 ^ c.toNat)
  | none => false
theorem N6 : (List.range 256).all (fun i => i == 0 || Qv i) = true := by kernel_rfl
theorem N7 (n : UInt64) (h1 : 0 < n.toNat) (h2 : n.toNat < 256) : ∃ c : Nat, 1 ≤ c ∧ c ≤ 8 ∧ 2 ^ (c - 1) ≤ n.toNat ∧ n.toNat < 2 ^ c ∧ iW n 0 = some (c : Int) := by
  have h := List.all_eq_true.1 N6 n.toNat (List.mem_range.2 h2)
  rw [Bool.or_eq_true, beq_iff_eq] at h
  have h := h.resolve_left (by omega)
  unfold Qv at h
  rw [UInt64.ofNat_toNat] at h
  split at h
  · rename_i c hc
    obtain ⟨q1, q2, q3, q4⟩ := of_decide_eq_true h
    refine ⟨c.toNat, by omega, by omega, q3, q4, ?_⟩
    rw [hc]
    congr 1
    omega
  · cases h
theorem K7 (x : UInt64) (s : Nat) (h : x.toNat * 2 ^ s < 18446744073709551616) : (aE x s).toNat = x.toNat * 2 ^ s := by
  show (x.toBitVec <<< s).toNat = _
  rw [BitVec.toNat_shiftLeft, Nat.shiftLeft_eq]
  exact Nat.mod_eq_of_lt h
theorem zk (x : UInt64) (s : Nat) : (aJ x s).toNat = x.toNat / 2 ^ s := by
  show (x.toBitVec >>> s).toNat = _
  rw [BitVec.toNat_ushiftRight, Nat.shiftRight_eq_div_pow]
  rfl
section
variable (hi lo y : UInt64) (r : Int) (hy : 0 < (aJ (aE y ((UInt64.ofInt r).toNat)) ((32 : UInt64).toNat)).toNat) (LW : (aJ (aE y ((UInt64.ofInt r).toNat)) ((32 : UInt64).toNat)).toNat < 4294967296)
include hy in
theorem VC : aJ (aE y ((UInt64.ofInt r).toNat)) ((32 : UInt64).toNat) ≠ 0 := by
  intro e; rw [e] at hy; exact absurd hy (by decide)
include hy LW
theorem UB (q1 : UInt64) : ∀ (k : Nat) (lH q : UInt64), 4294967296 ≤ lH.toNat + k → lH.toNat < 4294967296 → ∃ x, bO (jM hi lo y r q1) (lH, q) = some x := by
  intro k
  induction k with
  | zero => intro lH q h1 h2; omega
  | succ k ih =>
    intro lH q h1 h2
    have hs : (lH + aJ (aE y ((UInt64.ofInt r).toNat)) ((32 : UInt64).toNat)).toNat = lH.toNat + (aJ (aE y ((UInt64.ofInt r).toNat)) ((32 : UInt64).toNat)).toNat := by
      rw [UInt64.toNat_add]; omega
    by_cases hc : ((decide ((4294967296 : UInt64) ≤ q)) || (decide ((((4294967296 : UInt64) * lH) + ((aE lo ((UInt64.ofInt r).toNat)) &&& 4294967295)) < (q * ((aE y ((UInt64.ofInt r).toNat)) &&& 4294967295))))) = true
    · by_cases hd : (4294967296 : UInt64) ≤ lH + aJ (aE y ((UInt64.ofInt r).toNat)) ((32 : UInt64).toNat)
      · refine ⟨_, j8 (r := ?_) ?_⟩
        rotate_left
        · unfold jM
          simp only []
          rw [if_pos hc, if_pos hd]
          rfl
      · have qK : ¬ 4294967296 ≤ (lH + aJ (aE y ((UInt64.ofInt r).toNat)) ((32 : UInt64).toNat)).toNat := fun h => hd (UInt64.le_iff_toNat_le.2 h)
        obtain ⟨x, hx⟩ := ih (lH + aJ (aE y ((UInt64.ofInt r).toNat)) ((32 : UInt64).toNat)) (q - 1) (by omega) (by omega)
        refine ⟨x, ?_⟩
        rw [oh (s' := (lH + aJ (aE y ((UInt64.ofInt r).toNat)) ((32 : UInt64).toNat), q - 1)) (by
          unfold jM
          simp only []
          rw [if_pos hc, if_neg hd])]
        exact hx
    · refine ⟨_, j8 (r := ?_) ?_⟩
      rotate_left
      · unfold jM
        simp only []
        rw [if_neg hc]
        rfl
theorem Qw (q1 : UInt64) : ∃ x, l7 hi lo y r q1 = some x := by
  unfold l7
  rw [mi (VC y r hy), Option.bind_some]
  generalize hY : aJ (aE y ((UInt64.ofInt r).toNat)) ((32 : UInt64).toNat) = Y
  generalize ((((aE hi ((UInt64.ofInt r).toNat)) ||| (aJ lo (((64 : UInt64) - (UInt64.ofInt r)).toNat))) * 4294967296) + (aJ (aE lo ((UInt64.ofInt r).toNat)) ((32 : UInt64).toNat))) - (q1 * (aE y ((UInt64.ofInt r).toNat))) = X
  rw [hY] at hy LW
  have hX : (X - X / Y * Y).toNat < 4294967296 := by
    have e1 : (X / Y * Y).toNat = X.toNat / Y.toNat * Y.toNat := by
      rw [UInt64.toNat_mul, UInt64.toNat_div]
      exact Nat.mod_eq_of_lt (Nat.lt_of_le_of_lt (Nat.div_mul_le_self _ _) X.toNat_lt)
    rw [UInt64.toNat_sub_of_le _ _ (UInt64.le_iff_toNat_le.2 (by rw [e1]; exact Nat.div_mul_le_self _ _)), e1]
    have h1 := Nat.mod_lt X.toNat hy
    have h2 := Nat.div_add_mod X.toNat Y.toNat
    rw [Nat.mul_comm] at h2
    omega
  subst hY
  exact UB hi lo y r hy LW q1 4294967296 _ _ (by omega) hX
theorem UC : ∀ (k : Nat) (q lH : UInt64), 4294967296 ≤ lH.toNat + k → lH.toNat < 4294967296 → ∃ x, bO (jN hi lo y r) (q, lH) = some x := by
  intro k
  induction k with
  | zero => intro q lH h1 h2; omega
  | succ k ih =>
    intro q lH h1 h2
    have hs : (lH + aJ (aE y ((UInt64.ofInt r).toNat)) ((32 : UInt64).toNat)).toNat = lH.toNat + (aJ (aE y ((UInt64.ofInt r).toNat)) ((32 : UInt64).toNat)).toNat := by
      rw [UInt64.toNat_add]; omega
    by_cases hc : ((decide ((4294967296 : UInt64) ≤ q)) || (decide ((((4294967296 : UInt64) * lH) + (aJ (aE lo ((UInt64.ofInt r).toNat)) ((32 : UInt64).toNat))) < (q * ((aE y ((UInt64.ofInt r).toNat)) &&& 4294967295))))) = true
    · by_cases hd : (4294967296 : UInt64) ≤ lH + aJ (aE y ((UInt64.ofInt r).toNat)) ((32 : UInt64).toNat)
      · obtain ⟨x, hx⟩ := Qw hi lo y r hy LW (q - 1)
        refine ⟨x, j8 ?_⟩
        unfold jN
        simp only []
        rw [if_pos hc, if_pos hd]
        unfold kQ
        rw [hx]
        rfl
      · have qK : ¬ 4294967296 ≤ (lH + aJ (aE y ((UInt64.ofInt r).toNat)) ((32 : UInt64).toNat)).toNat := fun h => hd (UInt64.le_iff_toNat_le.2 h)
        obtain ⟨x, hx⟩ := ih (q - 1) (lH + aJ (aE y ((UInt64.ofInt r).toNat)) ((32 : UInt64).toNat)) (by omega) (by omega)
        refine ⟨x, ?_⟩
        rw [oh (s' := (q - 1, lH + aJ (aE y ((UInt64.ofInt r).toNat)) ((32 : UInt64).toNat))) (by
          unfold jN
          simp only []
          rw [if_pos hc, if_neg hd])]
        exact hx
    · obtain ⟨x, hx⟩ := Qw hi lo y r hy LW q
      refine ⟨x, j8 ?_⟩
      unfold jN
      simp only []
      rw [if_neg hc]
      unfold kQ
      rw [hx]
      rfl
end
end Go.Sx
namespace Go.Sx
open Go.RowKit
set_option linter.unusedVariables false
set_option linter.unusedSimpArgs false
section
variable (R : List UInt8) (hR : R.length = 64) (d : Int) (e7 nk : List UInt8) (last : Bool) (wr : UInt64) (h : ae UInt64 8) (lo hi : UInt64) (held : List UInt8)
  (hn : eo 1 d e7 nk last wr h lo hi held 128 64 = some (R, 0, h, lo, hi, held, 128, 1, d, e7, nk, last, wr))
  (fk key : List UInt8) (ER : Int)
include hR
theorem N8 (at_ : UInt64) (now : ae UInt8 64) (hv : Int) (h8 : at_.toNat % 8 = 0) (xQ : at_.toNat + 8 ≤ 274877906944) (ho : Aw R now hv) :
    ∃ hD ns, Aw R hD ns ∧ gS fk key [] [] 1 d e7 nk last wr h lo hi held 128 R at_ now hv ER = some (GO R at_, h, lo, hi, held, 128, 1, d, e7, nk, last, wr, at_ + 8, hD, ns, ER) := by
  obtain ⟨hD, ns, EZ, hs⟩ := K6 R hR d e7 nk last wr h lo hi held key at_ now hv h8 xQ ho
  refine ⟨hD, ns, EZ, ?_⟩
  unfold gS
  rw [hs, Option.bind_some, if_neg nz, IL R hR at_ h8 xQ, Option.bind_some]
include hn in
theorem Qx (at_ : UInt64) (now : ae UInt8 64) (hv : Int) (h8 : at_.toNat % 8 = 0) (xQ : at_.toNat + 8 ≤ 274877906944) (ho : Aw R now hv) :
    ∃ hD ns, Aw R hD ns ∧ fR fk key [] [] 1 d e7 nk last wr h lo hi held 128 at_ now hv ER = some (GO R at_, h, lo, hi, held, 128, 1, d, e7, nk, last, wr, R, at_ + 8, hD, ns, ER) := by
  obtain ⟨hD, ns, EZ, hs⟩ := IK R hR d e7 nk last wr h lo hi held hn key at_ now hv h8 xQ ho
  refine ⟨hD, ns, EZ, ?_⟩
  unfold fR
  rw [hs, Option.bind_some, if_neg nz, IL R hR at_ h8 xQ, Option.bind_some]
variable (n : UInt64) (h1 : 0 < n.toNat)
include h1
variable (h2 : n.toNat < 256) (m : Nat) (at_ : UInt64) (now : ae UInt8 64) (hv : Int) (hm : at_.toNat = 8 * m) (hl : m + 64 ≤ 34359738368) (ho : Aw R now hv)
include h2 hm hl ho
end
end Go.Sx
namespace Go.Sx
open Go.RowKit
set_option linter.unusedVariables false
set_option linter.unusedSimpArgs false
theorem len8 (n : UInt64) (a : Int) (ha : 0 ≤ a ∧ a ≤ 56) (h1 : 0 < n.toNat) (h2 : n.toNat < 256) : ∃ c : Nat, 1 ≤ c ∧ c ≤ 8 ∧ 2 ^ (c - 1) ≤ n.toNat ∧ n.toNat < 2 ^ c ∧ iW n a = some (a + (c : Int)) := by
  obtain ⟨c, q1, q2, q3, q4, q5⟩ := N7 n h1 h2
  refine ⟨c, q1, q2, q3, q4, ?_⟩
  unfold iW at q5 ⊢
  rw [Option.bind_eq_some_iff] at q5
  obtain ⟨t, ht, he⟩ := q5
  rw [ht, Option.bind_some]
  simp only [Option.some.injEq] at he ⊢
  have ZA := t.toNat_lt
  rw [fK (by omega)] at he
  rw [fK (by omega)]
  omega
theorem LX (n : UInt64) (a : Int) (ha : 0 ≤ a ∧ a ≤ 48) (h1 : 0 < n.toNat) (h2 : n.toNat < 65536) : ∃ c : Nat, 1 ≤ c ∧ c ≤ 16 ∧ 2 ^ (c - 1) ≤ n.toNat ∧ n.toNat < 2 ^ c ∧ kO n a = some (a + (c : Int)) := by
  unfold kO
  by_cases h : (256 : UInt64) ≤ n
  · have h3 := UInt64.le_iff_toNat_le.1 h
    have e1 : (256 : UInt64).toNat = 256 := rfl
    rw [if_pos h, fK (by omega)]
    have hs : (aJ n ((8 : UInt64).toNat)).toNat = n.toNat / 2 ^ 8 := zk n 8
    obtain ⟨c, q1, q2, q3, q4, q5⟩ := len8 (aJ n ((8 : UInt64).toNat)) (a + 8) (by omega) (by rw [hs]; omega) (by rw [hs]; omega)
    refine ⟨c + 8, by omega, by omega, ?_, ?_, by rw [q5]; congr 1; omega⟩
    · rw [hs] at q3
      rw [show c + 8 - 1 = c - 1 + 8 from by omega, Nat.pow_add]
      exact (Nat.le_div_iff_mul_le (by decide)).1 q3
    · rw [hs] at q4
      rw [Nat.pow_add]
      exact (Nat.div_lt_iff_lt_mul (by decide)).1 q4
  · have h3 : ¬ 256 ≤ n.toNat := fun e => h (UInt64.le_iff_toNat_le.2 e)
    rw [if_neg h]
    obtain ⟨c, q1, q2, q3, q4, q5⟩ := len8 n a (by omega) h1 (by omega)
    exact ⟨c, q1, by omega, q3, q4, q5⟩
theorem LY (n : UInt64) (a : Int) (ha : 0 ≤ a ∧ a ≤ 32) (h1 : 0 < n.toNat) (h2 : n.toNat < 4294967296) : ∃ c : Nat, 1 ≤ c ∧ c ≤ 32 ∧ 2 ^ (c - 1) ≤ n.toNat ∧ n.toNat < 2 ^ c ∧ kP n a = some (a + (c : Int)) := by
  unfold kP
  by_cases h : (65536 : UInt64) ≤ n
  · have h3 := UInt64.le_iff_toNat_le.1 h
    have e1 : (65536 : UInt64).toNat = 65536 := rfl
    rw [if_pos h, fK (by omega)]
    have hs : (aJ n ((16 : UInt64).toNat)).toNat = n.toNat / 2 ^ 16 := zk n 16
    obtain ⟨c, q1, q2, q3, q4, q5⟩ := LX (aJ n ((16 : UInt64).toNat)) (a + 16) (by omega) (by rw [hs]; omega) (by rw [hs]; omega)
    refine ⟨c + 16, by omega, by omega, ?_, ?_, by rw [q5]; congr 1; omega⟩
    · rw [hs] at q3
      rw [show c + 16 - 1 = c - 1 + 16 from by omega, Nat.pow_add]
      exact (Nat.le_div_iff_mul_le (by decide)).1 q3
    · rw [hs] at q4
      rw [Nat.pow_add]
      exact (Nat.div_lt_iff_lt_mul (by decide)).1 q4
  · have h3 : ¬ 65536 ≤ n.toNat := fun e => h (UInt64.le_iff_toNat_le.2 e)
    rw [if_neg h]
    obtain ⟨c, q1, q2, q3, q4, q5⟩ := LX n a (by omega) h1 (by omega)
    exact ⟨c, q1, by omega, q3, q4, q5⟩
theorem UD (n : UInt64) (h1 : 0 < n.toNat) : ∃ c : Nat, 1 ≤ c ∧ c ≤ 64 ∧ 2 ^ (c - 1) ≤ n.toNat ∧ n.toNat < 2 ^ c ∧ ja n = some ((64 - c : Nat) : Int) := by
  have hn := n.toNat_lt
  have key : ∃ c : Nat, 1 ≤ c ∧ c ≤ 64 ∧ 2 ^ (c - 1) ≤ n.toNat ∧ n.toNat < 2 ^ c ∧ oR n = some (c : Int) := by
    unfold oR
    by_cases h : (4294967296 : UInt64) ≤ n
    · have h3 := UInt64.le_iff_toNat_le.1 h
      have e1 : (4294967296 : UInt64).toNat = 4294967296 := rfl
      rw [if_pos h]
      have hs : (aJ n ((32 : UInt64).toNat)).toNat = n.toNat / 2 ^ 32 := zk n 32
      obtain ⟨c, q1, q2, q3, q4, q5⟩ := LY (aJ n ((32 : UInt64).toNat)) 32 (by omega) (by rw [hs]; omega) (by rw [hs]; omega)
      refine ⟨c + 32, by omega, by omega, ?_, ?_, by rw [q5]; congr 1; omega⟩
      · rw [hs] at q3
        rw [show c + 32 - 1 = c - 1 + 32 from by omega, Nat.pow_add]
        exact (Nat.le_div_iff_mul_le (by decide)).1 q3
      · rw [hs] at q4
        rw [Nat.pow_add]
        exact (Nat.div_lt_iff_lt_mul (by decide)).1 q4
    · have h3 : ¬ 4294967296 ≤ n.toNat := fun e => h (UInt64.le_iff_toNat_le.2 e)
      rw [if_neg h]
      obtain ⟨c, q1, q2, q3, q4, q5⟩ := LY n 0 (by omega) h1 (by omega)
      exact ⟨c, q1, by omega, q3, q4, by rw [q5]; congr 1; omega⟩
  obtain ⟨c, q1, q2, q3, q4, q5⟩ := key
  refine ⟨c, q1, q2, q3, q4, ?_⟩
  unfold ja
  rw [q5, Option.bind_some, fK (by omega)]
  congr 1
  omega
theorem UE (n : UInt64) (h1 : 0 < n.toNat) : ∃ x, oS (1 % n) 0 n = some x := by
  have e1 : (1 : UInt64).toNat = 1 := rfl
  have K8 : ¬ n = 0 := by intro e; rw [e] at h1; exact absurd h1 (by decide)
  have hm : (1 % n).toNat < n.toNat := by rw [UInt64.toNat_mod, e1]; exact Nat.mod_lt _ h1
  unfold oS nY
  rw [if_neg K8, if_neg (by intro h; have := UInt64.le_iff_toNat_le.1 h; omega)]
  unfold nX
  by_cases h0 : 1 % n = 0
  · rw [if_pos h0, mi K8, Option.bind_some, Option.bind_some]; exact ⟨_, rfl⟩
  rw [if_neg h0]
  obtain ⟨c, q1, q2, q3, q4, q5⟩ := UD n h1
  have hr : (UInt64.ofInt ((64 - c : Nat) : Int)).toNat = 64 - c := by
    rw [CE, UInt64.toNat_ofNat_of_lt' (by show 64 - c < 18446744073709551616; omega)]
  have hp : 2 ^ c * 2 ^ (64 - c) = 18446744073709551616 := by
    rw [← Nat.pow_add, show c + (64 - c) = 64 from by omega]
  have XH : 2 ^ (c - 1) * 2 ^ (64 - c) = 9223372036854775808 := by
    rw [← Nat.pow_add, show c - 1 + (64 - c) = 63 from by omega]
  have N9 : 0 < 2 ^ (64 - c) := Nat.pow_pos (by omega)
  have qK : n.toNat * 2 ^ (64 - c) < 18446744073709551616 := by
    rw [← hp]; exact (Nat.mul_lt_mul_right N9).2 q4
  have O2 : 9223372036854775808 ≤ n.toNat * 2 ^ (64 - c) := by
    rw [← XH]; exact Nat.mul_le_mul_right _ q3
  have hY : (aJ (aE n ((UInt64.ofInt ((64 - c : Nat) : Int)).toNat)) ((32 : UInt64).toNat)).toNat = n.toNat * 2 ^ (64 - c) / 4294967296 := by
    rw [zk, hr, K7 _ _ qK]
    rfl
  have hy : 0 < (aJ (aE n ((UInt64.ofInt ((64 - c : Nat) : Int)).toNat)) ((32 : UInt64).toNat)).toNat := by rw [hY]; omega
  have LW : (aJ (aE n ((UInt64.ofInt ((64 - c : Nat) : Int)).toNat)) ((32 : UInt64).toNat)).toNat < 4294967296 := by rw [hY]; omega
  rw [q5, Option.bind_some, mi (VC n _ hy), Option.bind_some]
  refine UC (1 % n) 0 n _ hy LW 4294967296 _ _ (by omega) ?_
  generalize hX : aE (1 % n) ((UInt64.ofInt ((64 - c : Nat) : Int)).toNat) ||| aJ 0 (((64 : UInt64) - (UInt64.ofInt ((64 - c : Nat) : Int))).toNat) = X
  generalize aJ (aE n ((UInt64.ofInt ((64 - c : Nat) : Int)).toNat)) ((32 : UInt64).toNat) = Y at hy LW
  have e2 : (X / Y * Y).toNat = X.toNat / Y.toNat * Y.toNat := by
    rw [UInt64.toNat_mul, UInt64.toNat_div]
    exact Nat.mod_eq_of_lt (Nat.lt_of_le_of_lt (Nat.div_mul_le_self _ _) X.toNat_lt)
  rw [UInt64.toNat_sub_of_le _ _ (UInt64.le_iff_toNat_le.2 (by rw [e2]; exact Nat.div_mul_le_self _ _)), e2]
  have h3 := Nat.mod_lt X.toNat hy
  have h4 := Nat.div_add_mod X.toNat Y.toNat
  rw [Nat.mul_comm] at h4
  omega
section
variable (R : List UInt8) (hR : R.length = 64) (d : Int) (e7 nk : List UInt8) (last : Bool) (wr : UInt64) (h : ae UInt64 8) (lo hi : UInt64) (held : List UInt8)
  (fk key : List UInt8) (ER : Int)
include hR
variable (n : UInt64) (h1 : 0 < n.toNat)
include h1
theorem K9 (x : UInt64 × UInt64) (y : (UInt64 × ae UInt64 8 × UInt64 × UInt64 × List UInt8 × Int × Int × Int × List UInt8 × List UInt8 × Bool × UInt64 × List UInt8 × UInt64 × ae UInt8 64 × Int × Int)) (hy : y.2.2.2.2.2.2.2.2.2.2.2.2.1 = R) : ∀ (k t m : Nat) (at_ : UInt64) (now : ae UInt8 64) (hv : Int) (w : UInt64), t + k = 64 → at_.toNat = 8 * m → m + k ≤ 34359738368 → Aw R now hv →
    ∃ (v : UInt64) (m' : Nat) (xU : UInt64) (hD : ae UInt8 64) (ns : Int), m ≤ m' ∧ m' ≤ m + k ∧ xU.toNat = 8 * m' ∧ Aw R hD ns ∧ v.toNat < n.toNat ∧
      bO (iI fk key [] [] n x y) (1, d, e7, nk, last, wr, h, lo, hi, held, 128, at_, now, hv, ER, w, (t : Int)) = some (v, h, lo, hi, held, 128, 1, d, e7, nk, last, wr, R, xU, hD, ns, ER) := by
  have K8 : n ≠ 0 := by intro e; rw [e] at h1; exact absurd h1 (by decide)
  intro k
  induction k with
  | zero =>
    intro t m at_ now hv w ht hm hl ho
    refine ⟨w % n, m, at_, now, hv, by omega, by omega, hm, ho, by rw [UInt64.toNat_mod]; exact Nat.mod_lt _ h1, j8 ?_⟩
    unfold iI
    dsimp only
    rw [if_neg (by
      rw [show (decide ((t : Int) < 64)) = false from decide_eq_false (by omega), Bool.and_false]; decide), mi K8, Option.bind_some, hy]
    rfl
  | succ k ih =>
    intro t m at_ now hv w ht hm hl ho
    by_cases hc : (((decide (x.2 ≠ 0)) && (decide (((0 - x.2) - 1) < w))) && (decide ((t : Int) < 64))) = true
    · obtain ⟨IM, Mv, UF, hd⟩ := N8 R hR d e7 nk last wr h lo hi held fk key ER at_ now hv (by omega) (by omega) ho
      obtain ⟨v, m', xU, hD, ns, q0, q1, q2, q3, q4, q5⟩ := ih (t + 1) (m + 1) (at_ + 8) IM Mv (GO R at_) (by omega) (by rw [UInt64.toNat_add, hm, show (8 : UInt64).toNat = 8 from rfl]; omega) (by omega) UF
      refine ⟨v, m', xU, hD, ns, by omega, by omega, q2, q3, q4, ?_⟩
      rw [oh (s' := (1, d, e7, nk, last, wr, h, lo, hi, held, 128, at_ + 8, IM, Mv, ER, GO R at_, ((t + 1 : Nat) : Int))) (by
        unfold iI
        dsimp only
        rw [if_pos hc, hy, hd, Option.bind_some]
        dsimp only
        rw [show aB ((t : Int) + 1) = ((t + 1 : Nat) : Int) from by rw [fK] <;> omega])]
      exact q5
    · refine ⟨w % n, m, at_, now, hv, by omega, by omega, hm, ho, by rw [UInt64.toNat_mod]; exact Nat.mod_lt _ h1, j8 ?_⟩
      unfold iI
      dsimp only
      rw [if_neg hc, mi K8, Option.bind_some, hy]
      rfl
end
section
variable (R : List UInt8) (hR : R.length = 64) (d : Int) (e7 nk : List UInt8) (last : Bool) (wr : UInt64) (h : ae UInt64 8) (lo hi : UInt64) (held : List UInt8)
  (hn : eo 1 d e7 nk last wr h lo hi held 128 64 = some (R, 0, h, lo, hi, held, 128, 1, d, e7, nk, last, wr))
  (fk key : List UInt8) (ER : Int)
variable (n : UInt64) (h1 : 0 < n.toNat) (m : Nat) (at_ : UInt64) (now : ae UInt8 64) (hv : Int) (hm : at_.toNat = 8 * m) (hl : m + 64 ≤ 34359738368) (ho : Aw R now hv)
include hR hn h1 hm hl ho
theorem N_ : ∃ (v : UInt64) (m' : Nat) (xU : UInt64) (hD : ae UInt8 64) (ns : Int), m + 1 ≤ m' ∧ m' ≤ m + 64 ∧ xU.toNat = 8 * m' ∧ Aw R hD ns ∧ v.toNat < n.toNat ∧
      mL fk key [] [] 1 d e7 nk last wr h lo hi held 128 at_ now hv ER n = some (v, h, lo, hi, held, 128, 1, d, e7, nk, last, wr, R, xU, hD, ns, ER) := by
  have K8 : n ≠ 0 := by intro e; rw [e] at h1; exact absurd h1 (by decide)
  obtain ⟨x, hx⟩ := UE n h1
  obtain ⟨IM, Mv, UF, hd⟩ := Qx R hR d e7 nk last wr h lo hi held hn fk key ER at_ now hv (by omega) (by omega) ho
  obtain ⟨v, m', xU, hD, ns, q0, q1, q2, q3, q4, q5⟩ := K9 R hR d e7 nk last wr h lo hi held fk key ER n h1 x (GO R at_, h, lo, hi, held, 128, 1, d, e7, nk, last, wr, R, at_ + 8, IM, Mv, ER) rfl 63 1 (m + 1) (at_ + 8) IM Mv (GO R at_) rfl (by rw [UInt64.toNat_add, hm, show (8 : UInt64).toNat = 8 from rfl]; omega) (by omega) UF
  refine ⟨v, m', xU, hD, ns, by omega, by omega, q2, q3, q4, ?_⟩
  unfold mL
  rw [mi K8, Option.bind_some, hx, Option.bind_some, hd, Option.bind_some]
  exact q5
end
end Go.Sx
namespace Go.Sx
set_option linter.unusedVariables false
set_option linter.unusedSimpArgs false
def fv (r : Nat) : Nat := if r < 4503599627370496 then r else (4503599627370496 + r % 4503599627370496) * 2 ^ (r / 4503599627370496 - 1)
theorem CH {t k : Nat} (h1 : t = 0 ∨ 4503599627370496 ≤ k) (h2 : k ≤ 2 * 4503599627370496) : fv (t * 4503599627370496 + k) = k * 2 ^ t := by
  unfold fv
  rcases Nat.lt_or_ge k 4503599627370496 with h3 | h3
  · obtain rfl : t = 0 := h1.resolve_right (by omega)
    rw [if_pos (by omega)]; simp
  · rw [if_neg (by omega)]
    rcases Nat.lt_or_ge k (2 * 4503599627370496) with h4 | h4
    · have e1 : (t * 4503599627370496 + k) / 4503599627370496 = t + 1 := by omega
      have e2 : (t * 4503599627370496 + k) % 4503599627370496 = k - 4503599627370496 := by omega
      rw [e1, e2, Nat.add_sub_cancel, show 4503599627370496 + (k - 4503599627370496) = k from by omega]
    · have hk : k = 2 * 4503599627370496 := by omega
      have e1 : (t * 4503599627370496 + k) / 4503599627370496 = t + 2 := by omega
      have e2 : (t * 4503599627370496 + k) % 4503599627370496 = 0 := by omega
      rw [e1, e2, show t + 2 - 1 = t + 1 from rfl, Nat.pow_succ, hk]
      generalize 2 ^ t = z
      omega
theorem FT (r : Nat) : fv r < fv (r + 1) := by
  rcases Nat.lt_or_ge r 4503599627370496 with h | h
  · have e1 := CH (t := 0) (k := r) (.inl rfl) (by omega)
    have e2 := CH (t := 0) (k := r + 1) (.inl rfl) (by omega)
    rw [Nat.zero_mul, Nat.zero_add] at e1 e2
    rw [e1, e2]; omega
  · have hr : r = (r / 4503599627370496 - 1) * 4503599627370496 + (4503599627370496 + r % 4503599627370496) := by omega
    have e1 := CH (t := r / 4503599627370496 - 1) (k := 4503599627370496 + r % 4503599627370496) (.inr (by omega)) (by omega)
    have e2 := CH (t := r / 4503599627370496 - 1) (k := 4503599627370496 + r % 4503599627370496 + 1) (.inr (by omega)) (by omega)
    rw [← Nat.add_assoc, ← hr] at e2
    rw [← hr] at e1
    rw [e1, e2]
    exact Nat.mul_lt_mul_of_pos_right (Nat.lt_succ_self _) (Nat.two_pow_pos _)
theorem xR {a b : Nat} (h : a < b) : fv a < fv b := by
  induction b with
  | zero => omega
  | succ b ih =>
    rcases Nat.lt_or_ge a b with h1 | h1
    · exact Nat.lt_trans (ih h1) (FT b)
    · obtain rfl : a = b := by omega
      exact FT a
theorem FU {a b : Nat} (h : a ≤ b) : fv a ≤ fv b := by
  rcases Nat.lt_or_ge a b with h1 | h1
  · exact Nat.le_of_lt (xR h1)
  · obtain rfl : a = b := by omega
    exact Nat.le_refl _
theorem GC {a b : Nat} : fv a < fv b ↔ a < b :=
  ⟨fun h => by rcases Nat.lt_or_ge a b with q | q; exact q; exact absurd (FU q) (by omega), xR⟩
theorem BF {a b : Nat} : fv a ≤ fv b ↔ a ≤ b :=
  ⟨fun h => by rcases Nat.lt_or_ge b a with q | q; exact absurd (xR q) (by omega); exact q, FU⟩
theorem IN {a b : Nat} (h : fv a = fv b) : a = b := Nat.le_antisymm (BF.1 (by omega)) (BF.1 (by omega))
theorem IP : fv 0 = 0 := rfl
theorem sT {b : Nat} (h : b % 9223372036854775808 < 9218868437227405312) : ∃ m p, Ieee.double.read b = .number (b / 9223372036854775808 % 2 == 1) m p ∧ (-1074 : Int) ≤ p ∧ m * 2 ^ (p + 1074).toNat = fv (b % 9223372036854775808) := by
  have hw : Ieee.double.signWeight = 9223372036854775808 := by decide
  have hi : Ieee.double.infRung = 9218868437227405312 := by decide
  have hb : Ieee.double.binade = 4503599627370496 := by decide
  have hp : Ieee.double.leastPlace = -1074 := by decide
  unfold Ieee.Format.read
  dsimp only
  rw [hw, hi, hb, hp]
  unfold fv
  by_cases h1 : b % 9223372036854775808 < 4503599627370496
  · rw [if_pos h1, if_pos h1]
    exact ⟨_, _, rfl, by omega, by simp⟩
  · rw [if_neg h1, if_neg h1, if_pos h]
    refine ⟨_, _, rfl, by omega, ?_⟩
    rw [show ((-1074 : Int) + ((b % 9223372036854775808 / 4503599627370496 - 1 : Nat) : Int) + 1074).toNat = b % 9223372036854775808 / 4503599627370496 - 1 from by omega]
theorem sU {b : Nat} (h : b % 9223372036854775808 = 9218868437227405312) : Ieee.double.read b = .infinity (b / 9223372036854775808 % 2 == 1) := by
  have hw : Ieee.double.signWeight = 9223372036854775808 := by decide
  have hi : Ieee.double.infRung = 9218868437227405312 := by decide
  have hb : Ieee.double.binade = 4503599627370496 := by decide
  unfold Ieee.Format.read
  dsimp only
  rw [hw, hi, hb, h, if_neg (by decide), if_neg (by decide), if_pos rfl]
theorem Ar {b : Nat} (h : 9218868437227405312 < b % 9223372036854775808) : (Ieee.double.read b).isNaN = true := by
  have hw : Ieee.double.signWeight = 9223372036854775808 := by decide
  have hi : Ieee.double.infRung = 9218868437227405312 := by decide
  have hb : Ieee.double.binade = 4503599627370496 := by decide
  unfold Ieee.Format.read
  dsimp only
  rw [hw, hi, hb, if_neg (by omega), if_neg (by omega), if_neg (by omega)]
  rfl
def NN (x : Nat) : Prop := x % 9223372036854775808 ≤ 9218868437227405312
instance (x : Nat) : Decidable (NN x) := inferInstanceAs (Decidable (_ ≤ _))
def vd (x : Nat) : Prop := x % 9223372036854775808 < 9218868437227405312
instance (x : Nat) : Decidable (vd x) := inferInstanceAs (Decidable (_ < _))
def fz (x : Nat) : Int := if (x / 9223372036854775808 % 2 == 1) = true then -(fv (x % 9223372036854775808) : Int) else (fv (x % 9223372036854775808) : Int)
theorem ES (s : Bool) (m k c : Nat) : Ieee.signed s m k * (2 ^ c : Nat) = if s = true then -((m * 2 ^ (k + c) : Nat) : Int) else ((m * 2 ^ (k + c) : Nat) : Int) := by
  unfold Ieee.signed
  have e : (m <<< k : Nat) * 2 ^ c = m * 2 ^ (k + c) := by rw [Nat.shiftLeft_eq, Nat.pow_add, Nat.mul_assoc]
  cases s
  · simp only [Bool.false_eq_true, if_false]
    rw [← e]; simp
  · simp only [if_true]
    rw [← e, Int.neg_mul]; simp
theorem DE (a b : Int) {c : Nat} (hc : 0 < c) : compare a b = compare (a * c) (b * c) := by
  have VD : (0 : Int) < (c : Int) := by omega
  simp only [compare, compareOfLessAndEq]
  have h1 : a < b ↔ a * c < b * c := ⟨fun h => Int.mul_lt_mul_of_pos_right h VD, fun h => Int.lt_of_mul_lt_mul_right h (Int.le_of_lt VD)⟩
  have h2 : a = b ↔ a * c = b * c := ⟨fun h => by rw [h], fun h => Int.eq_of_mul_eq_mul_right (by omega) h⟩
  simp only [h1, h2]
theorem tM {x : Nat} (h : vd x) : ∃ m p, Ieee.double.read x = .number (x / 9223372036854775808 % 2 == 1) m p ∧ (-1074 : Int) ≤ p ∧ ∀ base : Int, -1074 ≤ base → base ≤ p → Ieee.signed (x / 9223372036854775808 % 2 == 1) m (p - base).toNat * (2 ^ (base + 1074).toNat : Nat) = fz x := by
  obtain ⟨m, p, h1, h2, h3⟩ := sT h
  refine ⟨m, p, h1, h2, fun base hb hp => ?_⟩
  rw [ES, show (p - base).toNat + (base + 1074).toNat = (p + 1074).toNat from by omega, h3]
  rfl
theorem GD {x y : Nat} (hx : vd x) (hy : vd y) : Ieee.double.order x y = some (compare (fz x) (fz y)) := by
  obtain ⟨m, p, h1, h2, h3⟩ := tM hx
  obtain ⟨n, q, g1, g2, g3⟩ := tM hy
  unfold Ieee.Format.order
  rw [h1, g1]
  simp only [Ieee.Datum.order]
  rw [DE _ _ (Nat.two_pow_pos (min p q + 1074).toNat), h3 _ (by omega) (by omega), g3 _ (by omega) (by omega)]
theorem CI {a b : Int} (h : a < b) : compare a b = .lt := by simp [compare, compareOfLessAndEq, h]
theorem CJ {a b : Int} (h : b < a) : compare a b = .gt := by
  simp only [compare, compareOfLessAndEq]
  rw [if_neg (by omega), if_neg (by omega)]
theorem ET {a b : Int} (h : a = b) : compare a b = .eq := by
  simp only [compare, compareOfLessAndEq]
  rw [if_neg (by omega), if_pos h]
theorem IQ {x y : Nat} (hx : NN x) (hy : NN y) : Ieee.double.order x y = some (compare (fz x) (fz y)) := by
  rcases Nat.lt_or_ge (x % 9223372036854775808) 9218868437227405312 with h1 | h1 <;> rcases Nat.lt_or_ge (y % 9223372036854775808) 9218868437227405312 with h2 | h2
  · exact GD h1 h2
  · have e2 : y % 9223372036854775808 = 9218868437227405312 := Nat.le_antisymm hy h2
    obtain ⟨m, p, h3, _, _⟩ := sT h1
    unfold Ieee.Format.order
    rw [h3, sU e2]
    simp only [Ieee.Datum.order]
    have hv := xR h1
    congr 1
    unfold fz
    rw [e2]
    cases hs : (y / 9223372036854775808 % 2 == 1) <;> simp only [Bool.false_eq_true, if_true, if_false]
    · exact (CI (by split <;> omega)).symm
    · exact (CJ (by split <;> omega)).symm
  · have e1 : x % 9223372036854775808 = 9218868437227405312 := Nat.le_antisymm hx h1
    obtain ⟨m, p, h3, _, _⟩ := sT h2
    unfold Ieee.Format.order
    rw [h3, sU e1]
    simp only [Ieee.Datum.order]
    have hv := xR h2
    congr 1
    unfold fz
    rw [e1]
    cases hs : (x / 9223372036854775808 % 2 == 1) <;> simp only [Bool.false_eq_true, if_true, if_false]
    · exact (CJ (by split <;> omega)).symm
    · exact (CI (by split <;> omega)).symm
  · have e1 : x % 9223372036854775808 = 9218868437227405312 := Nat.le_antisymm hx h1
    have e2 : y % 9223372036854775808 = 9218868437227405312 := Nat.le_antisymm hy h2
    unfold Ieee.Format.order
    rw [sU e1, sU e2]
    simp only [Ieee.Datum.order]
    congr 1
    unfold fz
    rw [e1, e2]
    have hp : 0 < fv 9218868437227405312 := xR (a := 0) (by decide)
    cases hs : (x / 9223372036854775808 % 2 == 1) <;> cases ht : (y / 9223372036854775808 % 2 == 1) <;> simp only [Bool.false_eq_true, if_true, if_false]
    · rw [ET rfl]; rfl
    · rw [CJ (by omega)]; rfl
    · rw [CI (by omega)]; rfl
    · rw [ET rfl]; rfl
theorem GF {x y : Nat} (h : ¬ NN x ∨ ¬ NN y) : Ieee.double.order x y = none := by
  unfold Ieee.Format.order
  rcases h with h | h
  · have h1 := Ar (Nat.lt_of_not_le h)
    cases hr : Ieee.double.read x <;> rw [hr] at h1 <;> first | cases h1; done | exact (y9 _ _ _).2.2.2
  · have h1 := Ar (Nat.lt_of_not_le h)
    cases hr : Ieee.double.read y <;> rw [hr] at h1 <;> first | cases h1; done | exact (y8 _ _ _).2.2.2
theorem vw {x y : Nat} (hx : NN x) (hy : NN y) : cv .lss x y = decide (fz x < fz y) ∧ cv .leq x y = decide (fz x ≤ fz y) ∧ cv .gtr x y = decide (fz y < fz x) ∧ cv .geq x y = decide (fz y ≤ fz x) ∧ cv .eql x y = decide (fz x = fz y) ∧ cv .neq x y = decide (fz x ≠ fz y) := by
  unfold cv
  rw [IQ hx hy]
  rcases Int.lt_trichotomy (fz x) (fz y) with h | h | h
  · rw [CI h]
    refine ⟨?_, ?_, ?_, ?_, ?_, ?_⟩ <;> symm <;> simp only [] <;> first | exact decide_eq_true (by omega) | exact decide_eq_false (by omega)
  · rw [ET h]
    refine ⟨?_, ?_, ?_, ?_, ?_, ?_⟩ <;> symm <;> simp only [] <;> first | exact decide_eq_true (by omega) | exact decide_eq_false (by omega)
  · rw [CJ h]
    refine ⟨?_, ?_, ?_, ?_, ?_, ?_⟩ <;> symm <;> simp only [] <;> first | exact decide_eq_true (by omega) | exact decide_eq_false (by omega)
theorem DF {x y : Nat} (h : ¬ NN x ∨ ¬ NN y) : cv .lss x y = false ∧ cv .leq x y = false ∧ cv .gtr x y = false ∧ cv .geq x y = false ∧ cv .eql x y = false ∧ cv .neq x y = true := by
  unfold cv
  rw [GF h]
  exact ⟨rfl, rfl, rfl, rfl, rfl, rfl⟩
theorem IS (neg : Bool) (n drop : Nat) : Ieee.Toward.even.cut neg n drop = n / 2 ^ drop ∨ (Ieee.Toward.even.cut neg n drop = n / 2 ^ drop + 1 ∧ n % 2 ^ drop ≠ 0) := by
  unfold Ieee.Toward.cut
  dsimp only
  rw [Nat.shiftLeft_eq, Nat.one_mul]
  rcases Nat.le_total drop (n.log2 + 2) with h | h
  · rw [Nat.min_eq_left h]
    cases hb : (decide (2 ^ drop < 2 * (n % 2 ^ drop)) || 2 ^ drop == 2 * (n % 2 ^ drop) && n / 2 ^ drop % 2 == 1) with
    | false => left; simp
    | true =>
      right
      refine ⟨by simp, fun h0 => ?_⟩
      rw [h0] at hb
      have := Nat.two_pow_pos drop
      simp only [Bool.or_eq_true, decide_eq_true_eq, Bool.and_eq_true, beq_iff_eq] at hb
      omega
  · rw [Nat.min_eq_right h]
    have hn : n < 2 ^ (n.log2 + 1) := Nat.lt_log2_self
    have h2 : 2 ^ (n.log2 + 2) = 2 * 2 ^ (n.log2 + 1) := by rw [Nat.pow_succ, Nat.mul_comm]
    have h3 : n < 2 ^ drop := Nat.lt_of_lt_of_le (by omega : n < 2 ^ (n.log2 + 2)) (Nat.pow_le_pow_right (by decide) h)
    left
    rw [Nat.div_eq_of_lt h3, Nat.div_eq_of_lt (by omega), Nat.mod_eq_of_lt (by omega)]
    have : (decide (2 ^ (n.log2 + 2) < 2 * n) || 2 ^ (n.log2 + 2) == 2 * n && 0 % 2 == 1) = false := by
      simp; omega
    rw [this]; rfl
theorem UG (neg : Bool) (yF : Nat) (place : Int) (h0 : yF ≠ 0) : ∃ t kept lo : Nat, Ieee.double.nearest neg yF place = Ieee.double.word neg (min (t * 4503599627370496 + kept) 9218868437227405312) ∧ (kept = lo ∨ (kept = lo + 1 ∧ lo * 2 ^ t * 2 ^ (-1074 - place).toNat < yF * 2 ^ (place + 1074).toNat)) ∧
    (t = 0 ∨ 4503599627370496 ≤ lo) ∧ lo < 2 * 4503599627370496 ∧ lo * 2 ^ t * 2 ^ (-1074 - place).toNat ≤ yF * 2 ^ (place + 1074).toNat ∧ yF * 2 ^ (place + 1074).toNat < (lo + 1) * 2 ^ t * 2 ^ (-1074 - place).toNat := by
  have hi : Ieee.double.infRung = 9218868437227405312 := by decide
  have hb : Ieee.double.binade = 4503599627370496 := by decide
  have hp : Ieee.double.leastPlace = -1074 := by decide
  have hf : Ieee.double.fractionBits = 52 := rfl
  unfold Ieee.Format.nearest
  rw [if_neg h0]
  dsimp only
  rw [hi, hb, hp, hf]
  have Rj : 2 ^ yF.log2 ≤ yF := Nat.log2_self_le h0
  have UH : yF < 2 ^ (yF.log2 + 1) := Nat.lt_log2_self
  generalize hL : yF.log2 = L at *
  have Qy : max (place + (L : Int) - ((52 : Nat) : Int)) (-1074) = max (place + (L : Int) - 52) (-1074) := rfl
  rw [Qy]
  generalize ZB : max (place + (L : Int) - 52) (-1074) = last
  rw [Nat.shiftLeft_eq]
  have hd := Nat.div_add_mod (yF * 2 ^ (place - last).toNat) (2 ^ (last - place).toNat)
  have hm := Nat.mod_lt (yF * 2 ^ (place - last).toNat) (Nat.two_pow_pos (last - place).toNat)
  have hc := IS neg (yF * 2 ^ (place - last).toNat) (last - place).toNat
  generalize ZC : (place - last).toNat = up at *
  generalize ZD : (last - place).toNat = drop at *
  have QS : (last - -1074).toNat = (last + 1074).toNat := by omega
  rw [QS]
  generalize ht : (last + 1074).toNat = t
  generalize hu : (place + 1074).toNat = u
  generalize ZE : (-1074 - place).toNat = d
  have Oa : up + t + d = u + drop := by omega
  generalize I6 : yF * 2 ^ up / 2 ^ drop = lo at *
  have mv : ∀ a b : Nat, a * 2 ^ drop ≤ b * 2 ^ up → a * 2 ^ t * 2 ^ d ≤ b * 2 ^ u := by
    intro a b h
    have h1 : a * 2 ^ drop * (2 ^ t * 2 ^ d) ≤ b * 2 ^ up * (2 ^ t * 2 ^ d) := Nat.mul_le_mul_right _ h
    have e1 : b * 2 ^ up * (2 ^ t * 2 ^ d) = b * 2 ^ u * 2 ^ drop := by
      rw [Nat.mul_assoc, ← Nat.pow_add, ← Nat.pow_add, ← Nat.add_assoc, Oa, Nat.pow_add, Nat.mul_assoc]
    have e2 : a * 2 ^ drop * (2 ^ t * 2 ^ d) = a * 2 ^ t * 2 ^ d * 2 ^ drop := by
      rw [Nat.mul_right_comm, ← Nat.mul_assoc]
    rw [e1, e2] at h1
    exact Nat.le_of_mul_le_mul_right h1 (Nat.two_pow_pos drop)
  have XI : ∀ a b : Nat, b * 2 ^ up < a * 2 ^ drop → b * 2 ^ u < a * 2 ^ t * 2 ^ d := by
    intro a b h
    have h1 : b * 2 ^ up * (2 ^ t * 2 ^ d) < a * 2 ^ drop * (2 ^ t * 2 ^ d) := Nat.mul_lt_mul_of_pos_right h (Nat.mul_pos (Nat.two_pow_pos _) (Nat.two_pow_pos _))
    have e1 : b * 2 ^ up * (2 ^ t * 2 ^ d) = b * 2 ^ u * 2 ^ drop := by
      rw [Nat.mul_assoc, ← Nat.pow_add, ← Nat.pow_add, ← Nat.add_assoc, Oa, Nat.pow_add, Nat.mul_assoc]
    have e2 : a * 2 ^ drop * (2 ^ t * 2 ^ d) = a * 2 ^ t * 2 ^ d * 2 ^ drop := by
      rw [Nat.mul_right_comm, ← Nat.mul_assoc]
    rw [e1, e2] at h1
    exact Nat.lt_of_mul_lt_mul_right h1
  have XJ : ∀ a b : Nat, a * 2 ^ drop < b * 2 ^ up → a * 2 ^ t * 2 ^ d < b * 2 ^ u := by
    intro a b h
    have h1 : a * 2 ^ drop * (2 ^ t * 2 ^ d) < b * 2 ^ up * (2 ^ t * 2 ^ d) := Nat.mul_lt_mul_of_pos_right h (Nat.mul_pos (Nat.two_pow_pos _) (Nat.two_pow_pos _))
    have e1 : b * 2 ^ up * (2 ^ t * 2 ^ d) = b * 2 ^ u * 2 ^ drop := by
      rw [Nat.mul_assoc, ← Nat.pow_add, ← Nat.pow_add, ← Nat.add_assoc, Oa, Nat.pow_add, Nat.mul_assoc]
    have e2 : a * 2 ^ drop * (2 ^ t * 2 ^ d) = a * 2 ^ t * 2 ^ d * 2 ^ drop := by
      rw [Nat.mul_right_comm, ← Nat.mul_assoc]
    rw [e1, e2] at h1
    exact Nat.lt_of_mul_lt_mul_right h1
  have UI : lo * 2 ^ drop ≤ yF * 2 ^ up := by rw [Nat.mul_comm]; omega
  have UJ : yF * 2 ^ up < (lo + 1) * 2 ^ drop := by
    rw [Nat.add_mul, Nat.one_mul, Nat.mul_comm lo]; omega
  refine ⟨t, _, lo, rfl, ?_, ?_, ?_, mv _ _ UI, XI _ _ UJ⟩
  · rcases hc with h | ⟨h, sj⟩
    · exact .inl h
    · refine .inr ⟨h, XJ _ _ ?_⟩
      rw [Nat.mul_comm lo]; omega
  · rcases Nat.eq_zero_or_pos t with h | h
    · exact .inl h
    · right
      have hx : L + up = 52 + drop := by omega
      have h1 : 2 ^ (52 + drop) ≤ yF * 2 ^ up := by
        rw [← hx, Nat.pow_add]; exact Nat.mul_le_mul_right _ Rj
      rw [← I6]
      refine (Nat.le_div_iff_mul_le (Nat.two_pow_pos _)).2 ?_
      rw [Nat.pow_add] at h1
      exact h1
  · rw [← I6]
    refine (Nat.div_lt_iff_lt_mul (Nat.two_pow_pos _)).2 ?_
    have h1 : yF * 2 ^ up < 2 ^ (L + 1 + up) := by
      rw [Nat.pow_add _ (L + 1)]; exact Nat.mul_lt_mul_of_pos_right UH (Nat.two_pow_pos _)
    have h2 : 2 ^ (L + 1 + up) ≤ 2 ^ (53 + drop) := Nat.pow_le_pow_right (by decide) (by omega)
    rw [Nat.pow_add _ 53] at h2
    exact Nat.lt_of_lt_of_le h1 h2
theorem vz (neg : Bool) (yF : Nat) (place : Int) : ∃ R, R ≤ 9218868437227405312 ∧ Ieee.double.nearest neg yF place = Ieee.double.word neg R ∧
    (∀ r, r ≤ 9218868437227405312 → fv r * 2 ^ (-1074 - place).toNat ≤ yF * 2 ^ (place + 1074).toNat → r ≤ R) ∧ (∀ r, yF * 2 ^ (place + 1074).toNat ≤ fv r * 2 ^ (-1074 - place).toNat → R ≤ r) := by
  by_cases h0 : yF = 0
  · subst h0
    refine ⟨0, by omega, by unfold Ieee.Format.nearest; rw [if_pos rfl], fun r _ h => ?_, fun r _ => Nat.zero_le _⟩
    rw [Nat.zero_mul] at h
    have h1 : fv r = 0 := by
      rcases Nat.eq_zero_or_pos (fv r) with q | q
      · exact q
      · have := Nat.mul_pos q (Nat.two_pow_pos (-1074 - place).toNat); omega
    rw [← IP] at h1
    rw [IN h1]
    exact Nat.le_refl _
  · obtain ⟨t, kept, lo, e, hk, h1, h2, h3, h4⟩ := UG neg yF place h0
    refine ⟨_, Nat.min_le_right _ _, e, fun r hr h => ?_, fun r h => ?_⟩
    · refine Nat.le_min.2 ⟨?_, hr⟩
      have Ux : lo ≤ kept := by omega
      apply Classical.byContradiction
      intro hc
      have h5 : t * 4503599627370496 + (lo + 1) ≤ r := by omega
      have h6 := FU h5
      rw [CH (by omega) (by omega)] at h6
      have h7 := Nat.mul_le_mul_right (2 ^ (-1074 - place).toNat) h6
      omega
    · refine Nat.le_trans (Nat.min_le_left _ _) ?_
      apply Classical.byContradiction
      intro hc
      rcases hk with rfl | ⟨rfl, hs⟩
      · have h5 : r < t * 4503599627370496 + kept := by omega
        have h6 := xR h5
        rw [CH h1 (by omega)] at h6
        have h7 := Nat.mul_lt_mul_of_pos_right h6 (Nat.two_pow_pos (-1074 - place).toNat)
        omega
      · have h5 : r ≤ t * 4503599627370496 + lo := by omega
        have h6 := FU h5
        rw [CH h1 (by omega)] at h6
        have h7 := Nat.mul_le_mul_right (2 ^ (-1074 - place).toNat) h6
        omega
end Go.Sx
namespace Go.Sx
set_option linter.unusedVariables false
set_option linter.unusedSimpArgs false
def Fp (x : Nat) : Prop := x ≤ 9218868437227405312
theorem Fp.mod {x : Nat} (h : Fp x) : x % 9223372036854775808 = x := Nat.mod_eq_of_lt (by unfold Fp at h; omega)
theorem Fp.UK {x : Nat} (h : Fp x) : (x / 9223372036854775808 % 2 == 1) = false := by
  unfold Fp at h
  rw [show x / 9223372036854775808 = 0 from by omega]; rfl
theorem Fp.nn {x : Nat} (h : Fp x) : NN x := by unfold NN; rw [h.mod]; exact h
theorem Fp.fz {x : Nat} (h : Fp x) : fz x = (fv x : Int) := by
  unfold Sx.fz
  rw [h.mod, h.UK]; rfl
theorem ve {op : BinOp} {x y : Nat} : (op = .add → jO op x y = (Ieee.double.add x y).getD y2) ∧ (op = .sub → jO op x y = (Ieee.double.sub x y).getD y2) ∧ (op = .mul → jO op x y = (Ieee.double.mul x y).getD y2) ∧ (op = .quo → jO op x y = (Ieee.double.div x y).getD y2) := by
  refine ⟨?_, ?_, ?_, ?_⟩ <;> rintro rfl <;> rfl
structure VE (z : Int) (w : Nat) : Prop where
  ok : ∃ neg R, w = Ieee.double.word neg R ∧ R ≤ 9218868437227405312 ∧ (z < 0 → neg = true) ∧ (0 < z → neg = false) ∧ (∀ r, r ≤ 9218868437227405312 → fv r ≤ z.natAbs → r ≤ R) ∧ (∀ r, z.natAbs ≤ fv r → R ≤ r)
theorem IT (s : Bool) (total : Int) (base : Int) (hb : -1074 ≤ base) (z : Int) (hz : total * (2 ^ (base + 1074).toNat : Nat) = z) :
    VE z (Ieee.double.nearest (if total = 0 then s else decide (total < 0)) total.natAbs base) := by
  obtain ⟨R, h1, h2, h3, h4⟩ := vz (if total = 0 then s else decide (total < 0)) total.natAbs base
  rw [show (-1074 - base).toNat = 0 from by omega, Nat.pow_zero] at h3 h4
  have hp := Nat.two_pow_pos (base + 1074).toNat
  have UL : total.natAbs * 2 ^ (base + 1074).toNat = z.natAbs := by
    rw [← hz, Int.natAbs_mul]; rfl
  rw [UL] at h3 h4
  have MC : (0 : Int) < ((2 ^ (base + 1074).toNat : Nat) : Int) := by omega
  refine ⟨_, R, h2, h1, fun qK => ?_, fun K_ => ?_, fun r hr h => h3 r hr (by omega), fun r h => h4 r (by omega)⟩
  · have h5 : total < 0 := by
      apply Classical.byContradiction
      intro hc
      have := Int.mul_nonneg (show 0 ≤ total by omega) (Int.le_of_lt MC)
      omega
    rw [if_neg (by omega), decide_eq_true h5]
  · have h5 : 0 < total := by
      apply Classical.byContradiction
      intro hc
      have := Int.mul_nonneg (show 0 ≤ -total by omega) (Int.le_of_lt MC)
      rw [Int.neg_mul] at this
      omega
    rw [if_neg (by omega), decide_eq_false (by omega)]
theorem FV {x y : Nat} (hx : vd x) (hy : vd y) : VE (fz x + fz y) (jO .add x y) := by
  obtain ⟨m, p, h1, h2, h3⟩ := tM hx
  obtain ⟨n, q, g1, g2, g3⟩ := tM hy
  rw [(ve (op := .add)).1 rfl]
  unfold Ieee.Format.add
  rw [h1, g1]
  simp only [Ieee.Datum.sum, Option.map_some, Option.getD_some]
  refine IT _ _ (min p q) (by omega) _ ?_
  rw [Int.add_mul, h3 _ (by omega) (by omega), g3 _ (by omega) (by omega)]
theorem EU (s : Bool) (m k : Nat) : Ieee.signed (!s) m k = -Ieee.signed s m k := by
  unfold Ieee.signed
  cases s <;> simp
theorem tN {x : Nat} (h : Fp x) : (∃ m p, Ieee.double.read x = .number false m p ∧ (-1074 : Int) ≤ p ∧ m * 2 ^ (p + 1074).toNat = fv x ∧ x < 9218868437227405312) ∨ (Ieee.double.read x = .infinity false ∧ x = 9218868437227405312) := by
  rcases Nat.lt_or_ge x 9218868437227405312 with h1 | h1
  · obtain ⟨m, p, h2, h3, h4⟩ := sT (b := x) (by rw [h.mod]; exact h1)
    rw [h.UK] at h2; rw [h.mod] at h4
    exact .inl ⟨m, p, h2, h3, h4, h1⟩
  · have e : x = 9218868437227405312 := Nat.le_antisymm h h1
    have := sU (b := x) (by rw [h.mod]; exact e)
    rw [h.UK] at this
    exact .inr ⟨this, e⟩
theorem DG (yF : Nat) (place : Int) : Fp (Ieee.double.nearest false yF place) := by
  obtain ⟨R, h1, h2, _⟩ := vz false yF place
  rw [h2]; exact h1
theorem IU : Ieee.double.word false Ieee.double.infRung = 9218868437227405312 := by decide
theorem As (m k : Nat) : 0 ≤ Ieee.signed false m k := by
  unfold Ieee.signed
  rw [if_neg (by decide)]
  exact Int.natCast_nonneg _
theorem yG : Ieee.double.write (.infinity false) = 9218868437227405312 := by decide
theorem CK : Fp (Ieee.double.write (.infinity false)) := by
  show Fp (Ieee.double.word false Ieee.double.infRung)
  rw [IU]; exact Nat.le_refl _
theorem La {t : Int} (h : 0 ≤ t) (p : Int) : Fp (Ieee.double.write (.number (if t = 0 then (false && false) else decide (t < 0)) t.natAbs p)) := by
  have : (if t = 0 then (false && false) else decide (t < 0)) = false := by
    by_cases h0 : t = 0
    · rw [if_pos h0]; rfl
    · rw [if_neg h0]; exact decide_eq_false (by omega)
  rw [this]
  exact DG _ _
theorem getD_map (d : Ieee.Datum) : ((some d).map Ieee.double.write).getD y2 = Ieee.double.write d := rfl
theorem Fp.add {x y : Nat} (hx : Fp x) (hy : Fp y) : Fp (jO .add x y) := by
  rw [(ve (op := .add)).1 rfl]
  unfold Ieee.Format.add
  rcases tN hx with ⟨m, p, h1, _⟩ | ⟨h1, _⟩
  · rcases tN hy with ⟨n, q, g1, _⟩ | ⟨g1, _⟩
    · rw [h1, g1, Ieee.Datum.sum, getD_map]
      exact La (Int.add_nonneg (As _ _) (As _ _)) _
    · rw [h1, g1, Ieee.Datum.sum, getD_map]; exact CK
  · rcases tN hy with ⟨n, q, g1, _⟩ | ⟨g1, _⟩
    · rw [h1, g1, Ieee.Datum.sum, getD_map]; exact CK
    · rw [h1, g1, Ieee.Datum.sum, if_pos rfl, getD_map]; exact CK
theorem Fp.mul {x y : Nat} (hx : Fp x) (hy : Fp y) (Q3 : x < 9218868437227405312) (Ph : y < 9218868437227405312) : Fp (jO .mul x y) ∧ (x = 0 → jO .mul x y = 0) := by
  rw [(ve (op := .mul)).2.2.1 rfl]
  unfold Ieee.Format.mul
  rcases tN hx with ⟨m, p, h1, _, h2, _⟩ | ⟨h1, h2⟩
  · rcases tN hy with ⟨n, q, g1, _⟩ | ⟨g1, g2⟩
    · rw [h1, g1]
      simp only [Ieee.Datum.product, Option.map_some, Option.getD_some, Ieee.Format.write]
      rw [show (false ^^ false) = false from rfl]
      refine ⟨DG _ _, fun h0 => ?_⟩
      subst h0
      rw [IP] at h2
      have : m = 0 := by
        rcases Nat.eq_zero_or_pos m with h | h
        · exact h
        · have := Nat.mul_pos h (Nat.two_pow_pos (p + 1074).toNat); omega
      subst this
      rw [Nat.zero_mul]
      unfold Ieee.Format.nearest
      rw [if_pos rfl]; rfl
    · omega
  · omega
theorem Lb {x y : Nat} (hx : Fp x) (Q3 : x = 9218868437227405312) (hy : Fp y) : jO .add x y = 9218868437227405312 := by
  rw [(ve (op := .add)).1 rfl]
  unfold Ieee.Format.add
  rcases tN hx with ⟨m, p, h1, _, _, h2⟩ | ⟨h1, _⟩
  · omega
  · rcases tN hy with ⟨n, q, g1, _⟩ | ⟨g1, _⟩
    · rw [h1, g1, Ieee.Datum.sum, getD_map, yG]
    · rw [h1, g1, Ieee.Datum.sum, if_pos rfl, getD_map, yG]
theorem CL {x : Nat} (h : vd x) : jO .sub x x = 0 := by
  obtain ⟨m, p, h1, _⟩ := sT h
  rw [(ve (op := .sub)).2.1 rfl]
  unfold Ieee.Format.sub
  rw [h1]
  simp only [Ieee.Datum.opposite, Ieee.Datum.sum, Option.map_some, Option.getD_some, Ieee.Format.write]
  have h0 : Ieee.signed (x / 9223372036854775808 % 2 == 1) m (p - min p p).toNat + Ieee.signed (!(x / 9223372036854775808 % 2 == 1)) m (p - min p p).toNat = 0 := by
    rw [EU]; omega
  rw [h0, if_pos rfl]
  have hs : ((x / 9223372036854775808 % 2 == 1) && !(x / 9223372036854775808 % 2 == 1)) = false := by cases (x / 9223372036854775808 % 2 == 1) <;> rfl
  rw [hs, Int.natAbs_zero]
  unfold Ieee.Format.nearest
  rw [if_pos rfl]; rfl
theorem DH {x : Nat} (h : ¬ vd x) : jO .sub x x = y2 := by
  rw [(ve (op := .sub)).2.1 rfl]
  unfold Ieee.Format.sub
  rcases Nat.lt_or_ge 9218868437227405312 (x % 9223372036854775808) with h1 | h1
  · have := Ar h1
    cases hr : Ieee.double.read x <;> rw [hr] at this <;> first | (cases this; done) | rfl
  · rw [sU (Nat.le_antisymm h1 (Nat.le_of_not_lt h))]
    simp only [Ieee.Datum.opposite, Ieee.Datum.sum]
    rw [if_neg (by cases (x / 9223372036854775808 % 2 == 1) <;> decide)]
    rfl
theorem Ld : ¬ NN y2 := by decide
theorem IV : fz 0 = 0 := by decide
theorem GG : NN 0 := by decide
theorem xS (x : Nat) : cv .neq (jO .sub x x) 0 = decide (¬ vd x) := by
  by_cases h : vd x
  · rw [CL h, (vw GG GG).2.2.2.2.2]
    simp [h]
  · rw [DH h, (DF (.inl Ld)).2.2.2.2.2]
    simp [h]
end Go.Sx
namespace Go.Sx
open Go.RowKit
set_option linter.unusedVariables false
set_option linter.unusedSimpArgs false
theorem pw (v a b c : Nat) (h : a + b = c) : v * 2 ^ a * 2 ^ b = v * 2 ^ c := by rw [Nat.mul_assoc, ← Nat.pow_add, h]
theorem BG (s : Bool) (m : Nat) (p : Int) : Ieee.double.write (.number s m p) = Ieee.double.nearest s m p := rfl
theorem EV (v : Nat) (h : v < 9007199254740992) (u0 : Nat) (UM : u0 = 1074) : x9 (v : Int) < 9218868437227405312 ∧ fv (x9 (v : Int)) = v * 2 ^ u0 := by
  rw [E7, BG, decide_eq_false (by omega), show ((v : Int)).natAbs = v from rfl]
  obtain ⟨R, h1, h2, h3, h4⟩ := vz false v 0
  rw [show (-1074 - (0 : Int)).toNat = 0 from rfl, show ((0 : Int) + 1074).toNat = u0 from UM.symm, Nat.pow_zero] at h3 h4
  have key : ∃ r, r < 9218868437227405312 ∧ fv r = v * 2 ^ u0 := by
    rcases Nat.eq_zero_or_pos v with h0 | h0
    · subst h0; exact ⟨0, by omega, IP.trans (Nat.zero_mul _).symm⟩
    · have Rj : 2 ^ v.log2 ≤ v := Nat.log2_self_le (by omega)
      have UH : v < 2 ^ (v.log2 + 1) := Nat.lt_log2_self
      have ZF : v.log2 ≤ 52 := by
        apply Classical.byContradiction
        intro hc
        have := Nat.pow_le_pow_right (show 0 < 2 by decide) (show 53 ≤ v.log2 by omega)
        omega
      generalize v.log2 = L at *
      have VF : 2 ^ L * 2 ^ (52 - L) = 4503599627370496 := by rw [← Nat.pow_add, show L + (52 - L) = 52 from by omega]
      have k1 : 4503599627370496 ≤ v * 2 ^ (52 - L) := by rw [← VF]; exact Nat.mul_le_mul_right _ Rj
      have k2 : v * 2 ^ (52 - L) < 9007199254740992 := by
        have := Nat.mul_lt_mul_of_pos_right UH (Nat.two_pow_pos (52 - L))
        rw [Nat.pow_succ, Nat.mul_right_comm, VF] at this
        exact this
      refine ⟨(1022 + L) * 4503599627370496 + v * 2 ^ (52 - L), by omega, ?_⟩
      rw [CH (.inr k1) (by omega), Nat.mul_assoc, ← Nat.pow_add, show 52 - L + (1022 + L) = u0 from by omega]
  obtain ⟨r, XK, OP⟩ := key
  have e : R = r := Nat.le_antisymm (h4 r (by omega)) (h3 r (by omega) (by omega))
  rw [h2]
  show R < _ ∧ fv R = _
  rw [e]
  exact ⟨XK, OP⟩
theorem Qz : Ieee.double.read 4845873199050653696 = .number false 4503599627370496 1 := by decide
theorem Ob (t0 : Nat) (h : t0 = 1021) : fv 4607182418800017407 = 9007199254740991 * 2 ^ t0 := by
  subst h
  exact CH (t := 1021) (k := 9007199254740991) (.inr (by decide)) (by decide)
noncomputable def DI (w : UInt64) : Nat := jO .quo (x9 ((aJ w ((11 : UInt64).toNat)).toNat : Int)) 4845873199050653696
theorem DJ (w : UInt64) : DI w ≤ 4607182418800017407 := by
  unfold DI
  have hv : (aJ w ((11 : UInt64).toNat)).toNat < 9007199254740992 := by
    have h1 : (aJ w ((11 : UInt64).toNat)).toNat = w.toNat / 2 ^ 11 := by
      show (w.toBitVec >>> 11).toNat = _
      rw [BitVec.toNat_ushiftRight, Nat.shiftRight_eq_div_pow]
      rfl
    rw [h1]
    have := w.toNat_lt
    omega
  generalize (aJ w ((11 : UInt64).toNat)).toNat = v at hv
  obtain ⟨u0, UM⟩ : ∃ u0 : Nat, u0 = 1074 := ⟨_, rfl⟩
  obtain ⟨t0, XL⟩ : ∃ t0 : Nat, t0 = 1021 := ⟨_, rfl⟩
  obtain ⟨h1, h2⟩ := EV v hv u0 UM
  have hp : Fp (x9 (v : Int)) := Nat.le_of_lt h1
  rcases tN hp with ⟨m, p, h3, h4, h5, _⟩ | ⟨_, h3⟩
  · rw [(ve (op := .quo)).2.2.2 rfl]
    unfold Ieee.Format.div
    rw [h3, Qz, Ieee.Datum.quotient, if_neg (by decide)]
    dsimp only
    rw [getD_map, BG, show (false ^^ false) = false from rfl, show Ieee.double.fractionBits = 52 from rfl, show (4503599627370496 : Nat).log2 = 52 from by decide]
    rw [h2] at h5
    have hm : m < 9007199254740992 := by
      apply Classical.byContradiction
      intro hc
      have h6 : 9007199254740992 * 2 ^ (p + 1074).toNat ≤ m * 2 ^ (p + 1074).toNat := Nat.mul_le_mul_right _ (by omega)
      have ZG : 1 ≤ 2 ^ (p + 1074).toNat := Nat.one_le_two_pow
      have XM := h3
      have qK : ∀ b s m p, Ieee.double.read b = .number s m p → m < 9007199254740992 := by
        intro b s m p hr
        have hw : Ieee.double.signWeight = 9223372036854775808 := by decide
        have hi : Ieee.double.infRung = 9218868437227405312 := by decide
        have hb : Ieee.double.binade = 4503599627370496 := by decide
        unfold Ieee.Format.read at hr
        dsimp only at hr
        rw [hw, hi, hb] at hr
        split at hr
        · injection hr; omega
        · split at hr
          · injection hr; omega
          · split at hr <;> cases hr
      exact hc (qK _ _ _ _ XM)
    have XN : m.log2 ≤ 52 := by
      rcases Nat.eq_zero_or_pos m with h0 | h0
      · subst h0; decide
      · have Rj : 2 ^ m.log2 ≤ m := Nat.log2_self_le (by omega)
        apply Classical.byContradiction
        intro hc
        have := Nat.pow_le_pow_right (show 0 < 2 by decide) (show 53 ≤ m.log2 by omega)
        omega
    generalize VG : 52 + 2 + 52 - m.log2 = more
    have O2 : 54 ≤ more := by omega
    have hdiv : m <<< more = m * 2 ^ (more - 52) * 4503599627370496 := by
      rw [Nat.shiftLeft_eq, Nat.mul_assoc, show (4503599627370496 : Nat) = 2 ^ 52 from rfl, ← Nat.pow_add, show more - 52 + 52 = more from by omega]
    rw [hdiv, Nat.mul_div_cancel _ (by decide), Nat.mul_mod_left]
    rw [show ((0 : Nat) != 0).toNat = 0 from rfl, Nat.add_zero]
    obtain ⟨R, q1, q2, q3, q4⟩ := vz false (2 * (m * 2 ^ (more - 52))) (p - 1 - (more : Int) - 1)
    rw [q2]
    show R ≤ _
    refine q4 _ ?_
    rw [Ob t0 XL]
    generalize hu : (p - 1 - (more : Int) - 1 + 1074).toNat = u
    generalize hd : (-1074 - (p - 1 - (more : Int) - 1)).toNat = d
    have hs : u + 2 + more = (p + 1074).toNat + d := by omega
    refine Nat.le_of_mul_le_mul_right (c := 2 ^ (p + 1074).toNat) ?_ (Nat.two_pow_pos _)
    have e1 : 2 * (m * 2 ^ (more - 52)) * 2 ^ u * 2 ^ (p + 1074).toNat = v * 2 ^ (1023 + more + u) := by
      calc 2 * (m * 2 ^ (more - 52)) * 2 ^ u * 2 ^ (p + 1074).toNat
          = (m * 2 ^ (p + 1074).toNat) * (2 ^ 1 * 2 ^ (more - 52) * 2 ^ u) := by
            generalize 2 ^ (p + 1074).toNat = a
            generalize 2 ^ (more - 52) = b
            generalize 2 ^ u = c
            simp only [Nat.pow_one, Nat.mul_assoc, Nat.mul_comm, Nat.mul_left_comm]
        _ = v * 2 ^ (1023 + more + u) := by
            rw [← Nat.pow_add, ← Nat.pow_add]
            exact (congrArg (· * 2 ^ (1 + (more - 52) + u)) h5).trans (pw v u0 _ _ (by omega))
    have e2 : 9007199254740991 * 2 ^ t0 * 2 ^ d * 2 ^ (p + 1074).toNat = 9007199254740991 * 2 ^ (1023 + more + u) := by
      rw [Nat.mul_assoc, ← Nat.pow_add, Nat.mul_assoc, ← Nat.pow_add, show t0 + (d + (p + 1074).toNat) = 1023 + more + u from by omega]
    rw [e1, e2]
    exact Nat.mul_le_mul_right _ (by omega)
  · omega
theorem IW (w : UInt64) : Fp (DI w) := Nat.le_trans (DJ w) (by decide)
theorem Oc (w : UInt64) : oT w = some (DI w) := rfl
theorem IX : Fp 9218868437227405311 := by unfold Fp; omega
end Go.Sx
namespace Go.Sx
open Go.RowKit
set_option linter.unusedVariables false
set_option linter.unusedSimpArgs false
theorem AV {α : Type} {xs : List α} {i : Nat} (h : i < xs.length) : aN xs (i : Int) = some xs[i] := by
  unfold aN
  rw [if_pos (by omega)]
  simp [h]
structure Fq (x : Nat) : Prop where
  nn : NN x
  lt : x < 18446744073709551616
  ge : 0 ≤ fz x
theorem QA (x : Nat) : fz x = if (x / 9223372036854775808 % 2 == 1) = true then -(fv (x % 9223372036854775808) : Int) else (fv (x % 9223372036854775808) : Int) := rfl
theorem CM {r : Nat} (h : r ≠ 0) : 0 < fv r := by
  have : fv 0 < fv r := xR (by omega)
  rw [IP] at this; exact this
theorem Fq.cases {x : Nat} (h : Fq x) : Fp x ∨ x = 9223372036854775808 := by
  obtain ⟨h1, h2, h3⟩ := h
  unfold NN at h1
  rw [QA] at h3
  cases hs : (x / 9223372036854775808 % 2 == 1) with
  | false =>
    left
    rw [beq_eq_false_iff_ne] at hs
    unfold Fp; omega
  | true =>
    right
    rw [hs, if_pos rfl] at h3
    rw [beq_iff_eq] at hs
    have h4 : fv (x % 9223372036854775808) = 0 := by omega
    rw [← IP] at h4
    have := IN h4
    omega
theorem LZ : fz 9223372036854775808 = 0 := by decide
theorem CN : vd 9223372036854775808 := by decide
theorem Fp.num {x : Nat} (h : Fp x) (h2 : x ≠ 9218868437227405312) : vd x := by
  unfold vd; rw [h.mod]; unfold Fp at h; omega
theorem IY {s : Nat} (h : Fp s) : jO .add s 9223372036854775808 = s := by
  by_cases hi : s = 9218868437227405312
  · subst hi
    rcases tN h with ⟨m, p, h1, _, _, h2⟩ | ⟨h1, _⟩
    · omega
    · obtain ⟨n, q, g1, _⟩ := sT CN
      rw [(ve (op := .add)).1 rfl]
      unfold Ieee.Format.add
      rw [h1, g1, Ieee.Datum.sum, getD_map, yG]
  · by_cases h0 : s = 0
    · subst h0; decide
    · have hr := FV (h.num hi) CN
      rw [LZ, Int.add_zero, h.fz] at hr
      obtain ⟨neg, R, e, h1, _, h3, h4, h5⟩ := hr.ok
      have hp := CM h0
      rw [e, h3 (by omega)]
      show R = s
      have q1 := h4 s h (by simp)
      have q2 := h5 s (by simp)
      omega
theorem QB {s : Nat} (h : Fp s) : jO .add s 0 = s := by
  by_cases hi : s = 9218868437227405312
  · subst hi; exact Lb h rfl (by unfold Fp; omega)
  · by_cases h0 : s = 0
    · subst h0; decide
    · have hr := FV (h.num hi) (show vd 0 by decide)
      rw [IV, Int.add_zero, h.fz] at hr
      obtain ⟨neg, R, e, h1, _, h3, h4, h5⟩ := hr.ok
      have hp := CM h0
      rw [e, h3 (by omega)]
      show R = s
      have q1 := h4 s h (by simp)
      have q2 := h5 s (by simp)
      omega
theorem QC {s x : Nat} (h : Fp s) (hx : Fq x) : Fp (jO .add s x) := by
  rcases hx.cases with h1 | h1
  · exact h.add h1
  · rw [h1, IY h]; exact h
theorem Od {s x y : Nat} (h : Fp s) (hx : Fq x) (h1 : cv .gtr s y = false) (h2 : cv .gtr (jO .add s x) y = true) : cv .gtr x 0 = true := by
  rw [(vw hx.nn GG).2.2.1, IV]
  refine decide_eq_true ?_
  apply Classical.byContradiction
  intro hc
  have hz : fz x = 0 := by have := hx.ge; omega
  rcases hx.cases with h3 | h3
  · have : x = 0 := by
      rw [h3.fz] at hz
      apply Classical.byContradiction
      intro sj
      have := CM sj
      omega
    rw [this, QB h, h1] at h2; cases h2
  · rw [h3, IY h, h1] at h2; cases h2
def fw (l : List UInt64) (i : Nat) : Nat := bW (l.getD i 0).toNat
def sm (l : List UInt64) : Nat → Nat
  | 0 => 0
  | i + 1 => jO .add (sm l i) (fw l i)
def an (l : List UInt64) : Nat → Bool
  | 0 => false
  | i + 1 => an l i || cv .gtr (fw l i) 0
def iv (l : List UInt64) : Nat → Bool
  | 0 => false
  | i + 1 => iv l i || decide (¬ vd (fw l i))
def gr (l : List UInt64) : Nat → List Int
  | 0 => []
  | i + 1 => if vd (fw l i) then gr l i else gr l i ++ [(i : Int)]
theorem rN {l : List UInt64} {i : Nat} (h : i < l.length) : bW (l[i]).toNat = fw l i := by
  unfold fw
  rw [List.getD_eq_getElem?_getD, List.getElem?_eq_getElem h]; rfl
theorem QD (l : List UInt64) (i : Nat) : fw l i < 18446744073709551616 := by
  unfold fw bW
  split
  · decide
  · exact (l.getD i 0).toNat_lt
theorem vA (l : List UInt64) (i : Nat) : jO .add (sm l i) (fw l i) = sm l (i + 1) := rfl
def gd (l : List UInt64) (i : Nat) : Bool := !(cv .neq (fw l i) (fw l i)) && !(cv .lss (fw l i) 0)
theorem Le {l : List UInt64} {i : Nat} (h : gd l i = true) : Fq (fw l i) := by
  unfold gd at h
  simp only [Bool.and_eq_true, Bool.not_eq_true'] at h
  have hn : NN (fw l i) := by
    apply Classical.byContradiction
    intro hc
    have := (DF (x := fw l i) (y := fw l i) (.inl hc)).2.2.2.2.2
    rw [h.1] at this; cases this
  refine ⟨hn, QD l i, ?_⟩
  have h2 := h.2
  rw [(vw hn GG).1, IV] at h2
  have := of_decide_eq_false h2
  omega
theorem Oe {l : List UInt64} {i : Nat} (h : gd l i = true) : cv .neq (fw l i) (fw l i) = false ∧ cv .lss (fw l i) 0 = false := by
  unfold gd at h
  simpa only [Bool.and_eq_true, Bool.not_eq_true'] using h
theorem IZ {l : List UInt64} {i : Nat} (h : ∀ j, j < i → gd l j = true) : Fp (sm l i) := by
  induction i with
  | zero => exact Nat.zero_le _
  | succ i ih => exact QC (ih fun j hj => h j (by omega)) (Le (h i (by omega)))
theorem QE {x : Nat} (h : Fq x) : ld x = some (decide (¬ vd x)) := by
  unfold ld ng
  rw [(vw h.nn IX.nn).2.2.1, IX.fz]
  refine congrArg some (decide_eq_decide.2 ⟨fun q => ?_, fun q => ?_⟩)
  · rcases h.cases with h1 | h1
    · rw [h1.fz] at q
      have : fv 9218868437227405311 < fv x := by omega
      have := GC.1 this
      unfold vd; rw [h1.mod]; omega
    · rw [h1, LZ] at q; omega
  · rcases h.cases with h1 | h1
    · unfold vd at q; rw [h1.mod] at q
      rw [h1.fz]
      have : fv 9218868437227405311 < fv x := xR (by omega)
      omega
    · rw [h1] at q; exact absurd CN q
theorem Fp.q {x : Nat} (h : Fp x) : Fq x := ⟨h.nn, by unfold Fp at h; omega, by rw [h.fz]; exact Int.natCast_nonneg _⟩
theorem I0 (l : List UInt64) (i : Nat) : (gr l i).length ≤ i := by
  induction i with
  | zero => exact Nat.le_refl _
  | succ i ih =>
    unfold gr
    split
    · omega
    · rw [List.length_append, List.length_singleton]; omega
theorem I1 (l : List UInt64) (i : Nat) : (gr l i = [] ↔ iv l i = false) := by
  induction i with
  | zero => simp [gr, iv]
  | succ i ih =>
    unfold gr iv
    by_cases h : vd (fw l i)
    · rw [if_pos h]; simp [h, ih]
    · rw [if_neg h]; simp [h]
theorem Of {l : List UInt64} {i : Nat} {x : Int} (h : x ∈ gr l i) : ∃ j : Nat, x = (j : Int) ∧ j < i ∧ ¬ vd (fw l j) := by
  induction i with
  | zero => cases h
  | succ i ih =>
    unfold gr at h
    split at h
    · obtain ⟨j, h1, h2, h3⟩ := ih h; exact ⟨j, h1, by omega, h3⟩
    · rename_i hn
      rw [List.mem_append, List.mem_singleton] at h
      rcases h with h | h
      · obtain ⟨j, h1, h2, h3⟩ := ih h; exact ⟨j, h1, by omega, h3⟩
      · exact ⟨i, h, by omega, hn⟩
theorem I2 (l : List UInt64) : (∀ i, i < l.length → gd l i = true) ∨ ∃ k, k < l.length ∧ gd l k = false ∧ ∀ j, j < k → gd l j = true := by
  by_cases h : ∀ i, i < l.length → gd l i = true
  · exact .inl h
  · right
    have key : ∀ n, (∃ k, k < n ∧ gd l k = false) → ∃ k, k < n ∧ gd l k = false ∧ ∀ j, j < k → gd l j = true := by
      intro n
      induction n with
      | zero => rintro ⟨k, hk, _⟩; omega
      | succ n ih =>
        rintro ⟨k, hk, h1⟩
        by_cases h2 : ∃ k, k < n ∧ gd l k = false
        · obtain ⟨k, a, b, c⟩ := ih h2; exact ⟨k, by omega, b, c⟩
        · obtain rfl : k = n := by
            rcases Nat.lt_or_ge k n with q | q
            · exact absurd ⟨k, q, h1⟩ h2
            · omega
          exact ⟨k, by omega, h1, fun j hj => by
            cases hq : gd l j with
            | true => rfl
            | false => exact absurd ⟨j, hj, hq⟩ h2⟩
    refine key l.length ?_
    apply Classical.byContradiction
    intro hc
    exact h fun i hi => by
      cases hq : gd l i with
      | true => rfl
      | false => exact absurd ⟨i, hi, hq⟩ hc
theorem Lf (i : Nat) (h : i < 9223372036854775807) : aB ((i : Int) + 1) = ((i + 1 : Nat) : Int) := by rw [fK] <;> omega
theorem I3 (l : List UInt64) (hl : l.length ≤ 4096) (i : Nat) (hi : i < l.length) (hg : gd l i = true) :
    fO l (gr l i, sm l i, an l i, (i : Int)) = some (.inl (gr l (i + 1), sm l (i + 1), an l (i + 1), ((i + 1 : Nat) : Int))) := by
  have hq := Le hg
  obtain ⟨g1, g2⟩ := Oe hg
  have XO := I0 l i
  unfold fO
  dsimp only
  rw [if_pos (by omega), AV hi, Option.bind_some, rN hi, g1, g2, if_neg (by decide), if_neg (by decide), QE hq, Option.bind_some, Option.bind_some]
  unfold jW jX jV
  rw [rN hi, Lf i (by omega)]
  by_cases hn : vd (fw l i)
  · rw [show (decide (¬ vd (fw l i))) = false from decide_eq_false (fun q => q hn)]
    simp only [Bool.false_eq_true, if_false]
    cases ha : an l i <;> simp [gr, sm, an, hn, ha]
  · rw [show (decide (¬ vd (fw l i))) = true from decide_eq_true hn]
    simp only [if_true]
    rw [mf (by simp only [List.length_cons, List.length_nil]; omega), Option.bind_some]
    cases ha : an l i <;> simp [gr, sm, an, hn, ha]
theorem QG (l : List UInt64) (i : Nat) (hi : i < l.length) (hg : gd l i = false) :
    fO l (gr l i, sm l i, an l i, (i : Int)) = some (.inr ([], 0, 250)) := by
  unfold fO
  dsimp only
  rw [if_pos (by omega), AV hi, Option.bind_some, rN hi]
  unfold gd at hg
  by_cases h1 : cv .neq (fw l i) (fw l i) = true
  · rw [if_pos h1]; rfl
  · rw [if_neg h1]
    have Q4 : cv .neq (fw l i) (fw l i) = false := by simpa using h1
    rw [Q4] at hg
    simp at hg
    rw [if_pos hg]; rfl
noncomputable def OJ (l : List UInt64) : List Int × Nat × Int :=
  if an l l.length = false then ([], 0, 251)
  else if gr l l.length = [] then (if vd (sm l l.length) then ([], sm l l.length, 0) else ([], 0, 250))
  else (gr l l.length, sm l l.length, 0)
theorem CO (l : List UInt64) (hl : l.length ≤ 4096) (hg : ∀ i, i < l.length → gd l i = true) : dL l = some (OJ l) := by
  unfold dL
  rw [if_neg (by omega)]
  refine eZ (fun i => (gr l i, sm l i, an l i, (i : Int))) l.length (fun i hi => I3 l hl i hi (hg i hi)) ?_
  unfold fO OJ
  dsimp only
  rw [if_neg (by omega)]
  cases ha : an l l.length with
  | false => rw [if_pos (show (!false) = true from rfl), if_pos (show false = false from rfl)]; rfl
  | true =>
    rw [if_neg (show ¬ ((!true) = true) by decide), if_neg (show ¬ (true = false) by decide)]
    by_cases h0 : gr l l.length = []
    · rw [if_pos (by rw [h0]; rfl), QE (IZ fun j hj => hg j hj).q, Option.bind_some, if_pos h0]
      by_cases hn : vd (sm l l.length)
      · rw [decide_eq_false (fun q => q hn), if_neg (by decide), if_pos hn, h0]; rfl
      · rw [decide_eq_true hn, if_pos rfl, if_neg hn]; rfl
    · rw [if_neg (by intro e; exact h0 (List.eq_nil_of_length_eq_zero (by omega))), if_neg h0]; rfl
theorem Og (l : List UInt64) (hl : l.length ≤ 4096) (k : Nat) (hk : k < l.length) (hb : gd l k = false) (hg : ∀ j, j < k → gd l j = true) : dL l = some ([], 0, 250) := by
  unfold dL
  rw [if_neg (by omega)]
  exact eZ (fun i => (gr l i, sm l i, an l i, (i : Int))) k (fun i hi => I3 l hl i (by omega) (hg i hi)) (QG l k hk hb)
theorem Oh (l : List UInt64) (hl : 4096 < l.length) : dL l = some ([], 0, 2) := by
  unfold dL
  rw [if_pos (by omega)]
theorem Oi : mM = some true := by
  obtain ⟨e7, hb, hn⟩ := Qu [] (by simp)
  unfold mM
  rw [hn, Option.bind_some, Sum.elim_inr]
  unfold eK cM
  rw [Option.bind_some, CO [] (by decide) (fun i hi => absurd hi (Nat.not_lt_zero i)), Option.bind_some]
  rfl
structure Lg (a b : Nat) : Prop where
  e : a = b
theorem UN (l : List UInt64) (ah : (List Int × Nat × Int)) (bH : (Nat × Int × ae UInt64 8 × UInt64 × UInt64 × List UInt8 × Int × Int × Int × List UInt8 × List UInt8 × Bool × UInt64 × List UInt8 × UInt64 × ae UInt8 64 × Int)) (i AA : Nat) (s X : Nat) (D9 : i < l.length) (hX : Lg (jO .mul bH.1 ah.2.1) X) (K_ : cv .gtr (jO .add s (fw l i)) X = true) :
    dG l ah bH (s, (AA : Int), (i : Int)) = some (.inr (.inr ((i : Int), 0, bH.2.2))) := by
  have h1 : (i : Int) < ((l.length : Nat) : Int) := Int.ofNat_lt.2 D9
  unfold dG
  dsimp only
  rw [if_pos h1, AV D9, Option.bind_some, rN D9, hX.e, if_pos K_]
  rfl
theorem UO (l : List UInt64) (ah : (List Int × Nat × Int)) (bH : (Nat × Int × ae UInt64 8 × UInt64 × UInt64 × List UInt8 × Int × Int × Int × List UInt8 × List UInt8 × Bool × UInt64 × List UInt8 × UInt64 × ae UInt8 64 × Int)) (i AA : Nat) (s X : Nat) (D9 : i < l.length) (hl : l.length ≤ 4096) (hX : Lg (jO .mul bH.1 ah.2.1) X) (K_ : ¬ cv .gtr (jO .add s (fw l i)) X = true) :
    dG l ah bH (s, (AA : Int), (i : Int)) = some (.inl (jO .add s (fw l i), (if cv .gtr (fw l i) 0 = true then (i : Int) else (AA : Int)), ((i + 1 : Nat) : Int))) := by
  have h1 : (i : Int) < ((l.length : Nat) : Int) := Int.ofNat_lt.2 D9
  have h2 := Lf i (Nat.lt_of_lt_of_le D9 (Nat.le_trans hl (by decide)))
  unfold dG jb
  dsimp only
  rw [if_pos h1, AV D9, Option.bind_some, Option.bind_some, rN D9, hX.e, if_neg K_, h2]
  split <;> rfl
theorem QH (l : List UInt64) (ah : (List Int × Nat × Int)) (bH : (Nat × Int × ae UInt64 8 × UInt64 × UInt64 × List UInt8 × Int × Int × Int × List UInt8 × List UInt8 × Bool × UInt64 × List UInt8 × UInt64 × ae UInt8 64 × Int)) (AA : Nat) (s : Nat) :
    dG l ah bH (s, (AA : Int), (l.length : Int)) = some (.inr (.inr ((AA : Int), 0, bH.2.2))) := by
  unfold dG
  dsimp only
  rw [if_neg (Int.lt_irrefl _)]
  rfl
theorem Oj (l : List UInt64) (hl : l.length ≤ 4096) (hg : ∀ i, i < l.length → gd l i = true) (ha : an l l.length = true) (ah : (List Int × Nat × Int)) (bH : (Nat × Int × ae UInt64 8 × UInt64 × UInt64 × List UInt8 × Int × Int × Int × List UInt8 × List UInt8 × Bool × UInt64 × List UInt8 × UInt64 × ae UInt8 64 × Int)) (X : Nat) (hX : Lg (jO .mul bH.1 ah.2.1) X) (Rk : cv .gtr 0 X = false) :
    ∃ n : Nat, n < l.length ∧ cv .gtr (fw l n) 0 = true ∧ bO (dG l ah bH) (0, (0 : Int), (0 : Int)) = some (Sum.inr ((n : Int), 0, bH.2.2)) := by
  have step : ∀ (k i : Nat) (AA : Nat), i + k = l.length → cv .gtr (sm l i) X = false → (an l i = true → AA < i ∧ cv .gtr (fw l AA) 0 = true) → (an l i = false → AA = 0) →
      ∃ n : Nat, n < l.length ∧ cv .gtr (fw l n) 0 = true ∧ bO (dG l ah bH) (sm l i, (AA : Int), (i : Int)) = some (Sum.inr ((n : Int), 0, bH.2.2)) := by
    intro k
    induction k with
    | zero =>
      intro i AA Qo hx UP VH
      obtain rfl : i = l.length := by omega
      obtain ⟨q1, q2⟩ := UP ha
      exact ⟨AA, q1, q2, j8 (QH l ah bH AA _)⟩
    | succ k ih =>
      intro i AA Qo hx UP VH
      have D9 : i < l.length := by omega
      have hq := Le (hg i D9)
      by_cases K_ : cv .gtr (sm l (i + 1)) X = true
      · exact ⟨i, D9, Od (IZ fun j hj => hg j (by omega)) hq hx (by rw [vA]; exact K_), j8 (UN l ah bH i AA _ X D9 hX (by rw [vA]; exact K_))⟩
      · have QI : cv .gtr (sm l (i + 1)) X = false := by simpa using K_
        have hs := UO l ah bH i AA (sm l i) X D9 hl hX (by rw [vA]; exact K_)
        rw [vA] at hs
        by_cases hp : cv .gtr (fw l i) 0 = true
        · rw [if_pos hp] at hs
          obtain ⟨n, t1, t2, t3⟩ := ih (i + 1) i (by omega) QI (fun _ => ⟨by omega, hp⟩) (fun e => by unfold an at e; rw [hp, Bool.or_true] at e; cases e)
          exact ⟨n, t1, t2, by rw [oh hs]; exact t3⟩
        · rw [if_neg hp] at hs
          have MC : cv .gtr (fw l i) 0 = false := by simpa using hp
          obtain ⟨n, t1, t2, t3⟩ := ih (i + 1) AA (by omega) QI (fun e => by
            unfold an at e; rw [MC, Bool.or_false] at e
            obtain ⟨q1, q2⟩ := UP e
            exact ⟨by omega, q2⟩) (fun e => by unfold an at e; rw [MC, Bool.or_false] at e; exact VH e)
          exact ⟨n, t1, t2, by rw [oh hs]; exact t3⟩
  exact step l.length 0 0 (by omega) Rk (fun e => by cases e) (fun _ => rfl)
section
variable (R : List UInt8) (hR : R.length = 64) (d : Int) (e7 nk : List UInt8) (last : Bool) (wr : UInt64) (h : ae UInt64 8) (lo hi : UInt64) (held : List UInt8) (hh : held.length ≤ 128)
  (hn : eo 1 d e7 nk last wr h lo hi held 128 64 = some (R, 0, h, lo, hi, held, 128, 1, d, e7, nk, last, wr))
  (fk key : List UInt8) (at_ : UInt64) (now : ae UInt8 64) (hv : Int)
include hR hh hn
theorem QJ (n : UInt64) (h1 : 0 < n.toNat) (m : Nat) (hm : at_.toNat = 8 * m) (hl : m + 64 ≤ 34359738368) (ho : Aw R now hv) :
    ∃ (v : UInt64) (m' : Nat) (xU : UInt64) (hD : ae UInt8 64) (ns : Int), m + 1 ≤ m' ∧ m' ≤ m + 64 ∧ xU.toNat = 8 * m' ∧ v.toNat < n.toNat ∧
      jA fk key [] [] 1 d e7 nk last wr h lo hi held 128 at_ now hv n = some (Sum.inr (v, 0, h, lo, hi, held, 128, 1, d, e7, nk, last, wr, R, xU, hD, ns)) := by
  have K8 : n ≠ 0 := by intro e; rw [e] at h1; exact absurd h1 (by decide)
  obtain ⟨v, m', xU, hD, ns, q0, q1, q2, q3, q4, q5⟩ := N_ R hR d e7 nk last wr h lo hi held hn fk key 0 n h1 m at_ now hv hm hl ho
  refine ⟨v, m', xU, hD, ns, q0, q1, q2, q4, ?_⟩
  unfold jA cM k8 cM kF
  rw [Option.bind_some, if_neg K8, Option.bind_some, LV d e7 nk last wr h lo hi held hh key at_ now hv, Option.bind_some]
  dsimp only
  rw [q5, Option.bind_some, Option.bind_some, if_neg nz, Option.bind_some, if_neg nz]
theorem QK (m : Nat) (hm : at_.toNat = 8 * m) (hl : m + 1 ≤ 34359738368) (ho : Aw R now hv) : ∃ (xU : UInt64) (hD : ae UInt8 64) (ns : Int), xU.toNat = 8 * (m + 1) ∧
      jB fk key [] [] 1 d e7 nk last wr h lo hi held 128 at_ now hv = some (DI (GO R at_), 0, h, lo, hi, held, 128, 1, d, e7, nk, last, wr, R, xU, hD, ns) := by
  obtain ⟨hD, ns, EZ, hs⟩ := IK R hR d e7 nk last wr h lo hi held hn key at_ now hv (by omega) (by omega) ho
  refine ⟨at_ + 8, hD, ns, by rw [UInt64.toNat_add, hm, show (8 : UInt64).toNat = 8 from rfl]; omega, ?_⟩
  unfold jB lp jJ cM
  rw [Option.bind_some]
  rw [LV d e7 nk last wr h lo hi held hh key at_ now hv]
  rw [Option.bind_some]
  unfold jz fR
  rw [hs, Option.bind_some, if_neg nz, IL R hR at_ (by omega) (by omega), Option.bind_some, Option.bind_some, Option.bind_some, if_neg nz, Option.bind_some, if_neg nz, Option.bind_some]
  dsimp only
  rw [Oc, Option.bind_some]
omit hR hh hn in
theorem FW (l : List UInt64) (a : List Int) (s : Nat) (e : Int) (he : e ≠ 0) (hw : dL l = some (a, s, e)) :
    eK fk key [] [] 1 d e7 nk last wr h lo hi held 128 at_ now hv l = some (Sum.inl (e, h, lo, hi, held, 128, 1, d, e7, nk, last, wr, at_, now, hv)) := by
  unfold eK cM
  rw [Option.bind_some, hw, Option.bind_some, if_pos he]
theorem QL (l : List UInt64) (hl : l.length ≤ 4096) (hg : ∀ i, i < l.length → gd l i = true) (ha : an l l.length = true) (hs : gr l l.length = [] → vd (sm l l.length)) (h0 : at_ = 0) (ho : Aw R now hv) :
    ∃ (n : Nat) (m' : Nat) (xU : UInt64) (hD : ae UInt8 64) (ns : Int), n < l.length ∧ cv .gtr (fw l n) 0 = true ∧ (iv l l.length = true → ¬ vd (fw l n)) ∧ 1 ≤ m' ∧ m' ≤ 64 ∧ xU.toNat = 8 * m' ∧
      eK fk key [] [] 1 d e7 nk last wr h lo hi held 128 at_ now hv l = some (Sum.inr ((n : Int), 0, h, lo, hi, held, 128, 1, d, e7, nk, last, wr, R, xU, hD, ns)) := by
  have Js : at_.toNat = 8 * 0 := by rw [h0]; rfl
  have UQ : ∀ j, j < l.length → ¬ vd (fw l j) → cv .gtr (fw l j) 0 = true := by
    intro j hj Rm
    have hq := Le (hg j hj)
    rw [(vw hq.nn GG).2.2.1, IV]
    refine decide_eq_true ?_
    rcases hq.cases with h1 | h1
    · rw [h1.fz]
      have : fw l j ≠ 0 := by intro e; rw [e] at Rm; exact Rm (by decide)
      have := CM this
      omega
    · rw [h1] at Rm; exact absurd CN Rm
  by_cases QM : gr l l.length = []
  · have hN := hs QM
    have hw : dL l = some ([], sm l l.length, 0) := by
      rw [CO l hl hg]
      unfold OJ
      rw [if_neg (by rw [ha]; decide), if_pos QM, if_pos hN]
    obtain ⟨xU, hD, ns, s1, s2⟩ := QK R hR d e7 nk last wr h lo hi held hh hn fk key at_ now hv 0 Js (by omega) ho
    have Rn := (I1 l l.length).1 QM
    have XP := IW (GO R at_)
    have VI := IZ (l := l) (i := l.length) (fun j hj => hg j hj)
    have hmul := XP.mul VI (Nat.lt_of_le_of_lt (DJ _) (by decide)) (by unfold vd at hN; rw [VI.mod] at hN; exact hN)
    have Rk : cv .gtr 0 (jO .mul (DI (GO R at_)) (sm l l.length)) = false := by
      rw [(vw GG hmul.1.nn).2.2.1, IV, hmul.1.fz]
      exact decide_eq_false (by omega)
    obtain ⟨X, hX⟩ : ∃ X, Lg (jO .mul (DI (GO R at_)) (sm l l.length)) X := ⟨_, ⟨rfl⟩⟩
    rw [hX.e] at Rk
    clear hmul
    obtain ⟨n, t1, t2, t3⟩ := Oj l hl hg ha ([], sm l l.length, 0) (DI (GO R at_), 0, h, lo, hi, held, 128, 1, d, e7, nk, last, wr, R, xU, hD, ns) X hX Rk
    refine ⟨n, 1, xU, hD, ns, t1, t2, fun e => (by rw [Rn] at e; cases e), by omega, by omega, s1, ?_⟩
    unfold eK cM
    rw [Option.bind_some, hw, Option.bind_some, if_neg nz, if_neg (by simp)]
    dsimp only
    rw [s2, Option.bind_some, if_neg nz]
    exact t3
  · have hw : dL l = some (gr l l.length, sm l l.length, 0) := by
      rw [CO l hl hg]
      unfold OJ
      rw [if_neg (by rw [ha]; decide), if_neg QM]
    have XO := I0 l l.length
    have N9 : 0 < (gr l l.length).length := by
      rcases Nat.eq_zero_or_pos (gr l l.length).length with q | q
      · exact absurd (List.eq_nil_of_length_eq_zero q) QM
      · exact q
    have hlen : (UInt64.ofInt (((gr l l.length).length : Nat) : Int)).toNat = (gr l l.length).length := by
      rw [CE, UInt64.toNat_ofNat_of_lt' (by show (gr l l.length).length < 18446744073709551616; omega)]
    obtain ⟨v, m', xU, hD, ns, q0, q1, q2, q3, q4⟩ := QJ R hR d e7 nk last wr h lo hi held hh hn fk key at_ now hv (UInt64.ofInt (((gr l l.length).length : Nat) : Int)) (by rw [hlen]; exact N9) 0 Js (by omega) ho
    rw [hlen] at q3
    obtain ⟨j, j1, j2, j3⟩ := Of (List.getElem_mem q3)
    refine ⟨j, m', xU, hD, ns, j2, UQ j j2 j3, fun _ => j3, by omega, by omega, q2, ?_⟩
    unfold eK cM
    rw [Option.bind_some, hw, Option.bind_some, if_neg nz]
    dsimp only
    rw [if_pos (by omega), q4, Option.bind_some, Sum.elim_inr, if_neg nz]
    dsimp only
    rw [AV q3, Option.bind_some, j1]
end
end Go.Sx
namespace Go.Sx
open Go.RowKit
set_option linter.unusedVariables false
set_option linter.unusedSimpArgs false
theorem Ol {l : List UInt64} {i : Nat} (hg : gd l i = false) : cv .neq (fw l i) (fw l i) = true ∨ (cv .neq (fw l i) (fw l i) = false ∧ cv .lss (fw l i) 0 = true) := by
  unfold gd at hg
  cases h1 : cv .neq (fw l i) (fw l i) with
  | true => exact .inl rfl
  | false => rw [h1] at hg; simp at hg; exact .inr ⟨rfl, hg⟩
section
variable (R : List UInt8) (e7 nk : List UInt8) (h : ae UInt64 8) (lo hi : UInt64) (held : List UInt8) (key : List UInt8) (at_ : UInt64) (now : ae UInt8 64) (hv : Int) (qd : ae UInt8 64) (e : Int) (l : List UInt64) (hl : l.length ≤ 4096)
abbrev OK (e7 nk key : List UInt8) (h : ae UInt64 8) (lo hi : UInt64) (held : List UInt8) (qd : ae UInt8 64) : List UInt8 × List UInt8 × List UInt8 × List UInt8 × Int × Int × List UInt8 × List UInt8 × ae UInt64 8 × UInt64 × UInt64 × List UInt8 × Int × ae UInt8 64 := (key, key, [], [], 1, 64, e7, nk, h, lo, hi, held, 128, qd)
include hl
theorem CP (i : Nat) (uj : i < l.length) (hg : gd l i = true) :
    dz l (OK e7 nk key h lo hi held qd) (e, h, lo, hi, held, 128, 1, 64, e7, nk, false, 0, at_, now, hv) (an l i, iv l i, sm l i, (i : Int)) = some (.inl (an l (i + 1), iv l (i + 1), sm l (i + 1), ((i + 1 : Nat) : Int))) := by
  have h1 : (i : Int) < ((l.length : Nat) : Int) := Int.ofNat_lt.2 uj
  have h2 := Lf i (Nat.lt_of_lt_of_le uj (Nat.le_trans hl (by decide)))
  obtain ⟨g1, g2⟩ := Oe hg
  unfold dz
  dsimp only
  rw [if_pos h1, AV uj, Option.bind_some, rN uj, g1, g2, if_neg (by decide), if_neg (by decide), xS, h2, vA]
  cases ha : an l i <;> cases Gz : iv l i <;> simp [an, iv, ha, Gz]
theorem Lh (n : Int) (i : Nat) (uj : i < l.length) (hg : gd l i = true) :
    fH l (OK e7 nk key h lo hi held qd) (n, e, h, lo, hi, held, 128, 1, 64, e7, nk, false, 0, R, at_, now, hv) (an l i, iv l i, sm l i, (i : Int)) = some (.inl (an l (i + 1), iv l (i + 1), sm l (i + 1), ((i + 1 : Nat) : Int))) := by
  have h1 : (i : Int) < ((l.length : Nat) : Int) := Int.ofNat_lt.2 uj
  have h2 := Lf i (Nat.lt_of_lt_of_le uj (Nat.le_trans hl (by decide)))
  obtain ⟨g1, g2⟩ := Oe hg
  unfold fH
  dsimp only
  rw [if_pos h1, AV uj, Option.bind_some, rN uj, g1, g2, if_neg (by decide), if_neg (by decide), xS, h2, vA]
  cases ha : an l i <;> cases Gz : iv l i <;> simp [an, iv, ha, Gz]
theorem QN (k : Nat) (hk : k < l.length) (hb : gd l k = false) (hg : ∀ j, j < k → gd l j = true) :
    bO (dz l (OK e7 nk key h lo hi held qd) (250, h, lo, hi, held, 128, 1, 64, e7, nk, false, 0, 0, now, hv)) (false, false, 0, (0 : Int)) = some true := by
  refine eZ (fun i => (an l i, iv l i, sm l i, (i : Int))) k (fun i uj => CP e7 nk h lo hi held key 0 now hv qd 250 l hl i (by omega) (hg i uj)) ?_
  have h1 : (k : Int) < ((l.length : Nat) : Int) := Int.ofNat_lt.2 hk
  unfold dz
  dsimp only
  rw [if_pos h1, AV hk, Option.bind_some, rN hk]
  rcases Ol hb with q | ⟨q1, q2⟩
  · rw [if_pos q, if_pos (by rfl), Ri, Option.bind_some]
    rfl
  · rw [if_neg (by rw [q1]; decide), if_pos q2, if_pos (by rfl), Ri, Option.bind_some]
    rfl
theorem Om (hg : ∀ i, i < l.length → gd l i = true) (ha : an l l.length = false) :
    bO (dz l (OK e7 nk key h lo hi held qd) (251, h, lo, hi, held, 128, 1, 64, e7, nk, false, 0, 0, now, hv)) (false, false, 0, (0 : Int)) = some true := by
  refine eZ (fun i => (an l i, iv l i, sm l i, (i : Int))) l.length (fun i uj => CP e7 nk h lo hi held key 0 now hv qd 251 l hl i uj (hg i uj)) ?_
  unfold dz
  dsimp only
  rw [if_neg (Int.lt_irrefl _), ha, if_pos (by rfl), if_pos (by rfl), Ri, Option.bind_some]
  rfl
theorem QO (hg : ∀ i, i < l.length → gd l i = true) (ha : an l l.length = true) (Gz : iv l l.length = false) (hs : ¬ vd (sm l l.length)) :
    bO (dz l (OK e7 nk key h lo hi held qd) (250, h, lo, hi, held, 128, 1, 64, e7, nk, false, 0, 0, now, hv)) (false, false, 0, (0 : Int)) = some true := by
  refine eZ (fun i => (an l i, iv l i, sm l i, (i : Int))) l.length (fun i uj => CP e7 nk h lo hi held key 0 now hv qd 250 l hl i uj (hg i uj)) ?_
  unfold dz
  dsimp only
  rw [if_neg (Int.lt_irrefl _), ha, Gz, if_neg (by decide), if_pos (by rfl), xS, if_pos (decide_eq_true hs), if_pos (by rfl), Ri, Option.bind_some]
  rfl
theorem UR (hg : ∀ i, i < l.length → gd l i = true) (ha : an l l.length = true) (hs : iv l l.length = false → vd (sm l l.length)) (n : Nat) (hn : n < l.length) (hp : cv .gtr (fw l n) 0 = true) (Gz : iv l l.length = true → ¬ vd (fw l n)) (xQ : (1 : UInt64) ≤ at_ / 8) :
    bO (fH l (OK e7 nk key h lo hi held qd) ((n : Int), 0, h, lo, hi, held, 128, 1, 64, e7, nk, false, 0, R, at_, now, hv)) (false, false, 0, (0 : Int)) = some true := by
  refine eZ (fun i => (an l i, iv l i, sm l i, (i : Int))) l.length (fun i uj => Lh R e7 nk h lo hi held key at_ now hv qd 0 l hl (n : Int) i uj (hg i uj)) ?_
  have h1 : (n : Int) < ((l.length : Nat) : Int) := Int.ofNat_lt.2 hn
  have hc : (((decide ((0 : Int) = 0)) && (decide ((0 : Int) ≤ (n : Int)))) && (decide ((n : Int) < ((l.length : Nat) : Int)))) = true := by
    rw [decide_eq_true h1, decide_eq_true (Int.natCast_nonneg n)]; rfl
  have hd : decide ((1 : UInt64) ≤ at_ / 8) = true := decide_eq_true xQ
  unfold fH
  dsimp only
  rw [if_neg (Int.lt_irrefl _), ha, if_neg (by decide)]
  cases Rn : iv l l.length with
  | false =>
    have hN := hs Rn
    rw [if_pos (by rfl), xS, if_neg (by simp [hN]), if_pos hc, AV hn, Option.bind_some, rN hn, if_pos hp, if_pos (by rfl), Qr, Option.bind_some, hd]
    rfl
  | true =>
    rw [if_neg (by decide), if_pos hc, AV hn, Option.bind_some, rN hn, if_pos hp, if_neg (by decide), Option.bind_some, Option.bind_some, rN hn, xS, if_pos (decide_eq_true (Gz Rn)), Qr, Option.bind_some, hd]
    rfl
end
theorem xT (fk : ae UInt8 8) (l : List UInt64) : lq fk l = some true := by
  have XQ : fk.l.length ≤ 64 := by rw [fk.h]; omega
  unfold lq
  rw [Oi, Option.bind_some, if_neg (by decide)]
  obtain ⟨e7, XR, RW⟩ := Qu fk.l XQ
  rw [RW, Option.bind_some, Sum.elim_inr]
  dsimp only
  have hh : (AU.kb fk.l).length ≤ 128 := AU.IG fk.l (by show fk.l.length ≤ 128; omega)
  have Q5 := Uz 64 e7 fk.l false 0 (Dy e7) 0 0 (AU.kb fk.l) hh
  have hR : (Iw (fB (Dy e7) (pad 128 (AU.kb fk.l)) (rU (0, 0) (UInt64.ofNat (AU.kb fk.l).length)) true false)).length = 64 := tL _
  generalize Iw (fB (Dy e7) (pad 128 (AU.kb fk.l)) (rU (0, 0) (UInt64.ofNat (AU.kb fk.l).length)) true false) = R at Q5 hR
  generalize AU.kb fk.l = held at *
  generalize Dy e7 = h at *
  generalize ae.rep 64 (0 : UInt8) = qd
  generalize fk.l = key at *
  by_cases hl : 4096 < l.length
  · rw [FW 64 e7 key false 0 h 0 0 held key key 0 qd (-1) l [] 0 2 (by decide) (Oh l hl), Option.bind_some, Sum.elim_inl, if_pos (by omega)]
    rfl
  · have G4 : l.length ≤ 4096 := by omega
    have Rp : ¬ (4096 : Int) < ((l.length : Nat) : Int) := by omega
    rcases I2 l with hg | ⟨k, hk, hb, hg⟩
    · have hw := CO l G4 hg
      cases ha : an l l.length with
      | false =>
        have Lx : dL l = some ([], 0, 251) := by rw [hw]; unfold OJ; rw [if_pos ha]
        rw [FW 64 e7 key false 0 h 0 0 held key key 0 qd (-1) l [] 0 251 (by decide) Lx, Option.bind_some, Sum.elim_inl, if_neg Rp]
        exact Om e7 key h 0 0 held key qd (-1) qd l G4 hg ha
      | true =>
        by_cases hs : gr l l.length = [] → vd (sm l l.length)
        · obtain ⟨n, m', xU, hD, ns, q1, q2, q3, q4, q5, q6, q7⟩ := QL R hR 64 e7 key false 0 h 0 0 held hh Q5 key key 0 qd (-1) l G4 hg ha hs rfl (K4 R qd)
          rw [q7, Option.bind_some, Sum.elim_inr, if_neg Rp]
          refine UR R e7 key h 0 0 held key xU hD ns qd l G4 hg ha (fun q => hs ((I1 l l.length).2 q)) n q1 q2 q3 ?_
          rw [UInt64.le_iff_toNat_le, XG xU m' q6]
          exact q4
        · have h0 : gr l l.length = [] := Classical.byContradiction fun q => hs fun e => absurd e q
          have hN : ¬ vd (sm l l.length) := fun q => hs fun _ => q
          have Lx : dL l = some ([], 0, 250) := by rw [hw]; unfold OJ; rw [if_neg (by rw [ha]; decide), if_pos h0, if_neg hN]
          rw [FW 64 e7 key false 0 h 0 0 held key key 0 qd (-1) l [] 0 250 (by decide) Lx, Option.bind_some, Sum.elim_inl, if_neg Rp]
          exact QO e7 key h 0 0 held key qd (-1) qd l G4 hg ha ((I1 l l.length).1 h0) hN
    · rw [FW 64 e7 key false 0 h 0 0 held key key 0 qd (-1) l [] 0 250 (by decide) (Og l G4 k hk hb hg), Option.bind_some, Sum.elim_inl, if_neg Rp]
      exact QN e7 key h 0 0 held key qd (-1) qd l G4 k hk hb hg
end Go.Sx
