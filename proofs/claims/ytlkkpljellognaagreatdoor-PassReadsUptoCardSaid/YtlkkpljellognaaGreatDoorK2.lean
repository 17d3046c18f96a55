import Derived.MapKept
import Derived.Maps.RangeRun
import Derived.Sort.OwnSorted
import Derived.Sort.KeysCollected
import Derived.Shelf.Sort.Plain
import Derived.Shelf.Slices.In.SortNone
import Derived.Sort.OwnSortedInts
import Derived.Shelf.Strconv.Itoa3
import Derived.Laws.FloatArith
import Derived.Lib.Bytealg
import Derived.Shelf.Strings.Builder1
import Derived.Test.YtlkkpljellognaaGreatDoorProg
import Derived.Ground.NamesProg
import Derived.Shelf.Strings.Cut
import Derived.Test.YtlkkpljellognaaGreatDoorK1
namespace Go.Sx
open Go.RowKit Go.MapKept
set_option linter.unusedSimpArgs false
set_option linter.unusedVariables false
def kV (k : List UInt8) : Value := .string ⟨⟨k⟩⟩
theorem vZ {a b : List UInt8} (h : kV a = kV b) : a = b := by
  unfold kV at h
  simp only [Value.string.injEq, ByteArray.mk.injEq, Array.mk.injEq] at h
  exact h
def Mb (b : Nat) (ks : List (List UInt8)) (vs : List Value) : HP where
  p w S R := ks.length = vs.length ∧ (∃ (es : Array MapEntry) (clock : Nat), w.heap[b]? = some (.map es clock) ∧ es.toList.map (·.key) = ks.map kV ∧ es.toList.map (·.val) = vs ∧ Stamped es clock) ∧ S b
  loc := by
    rintro w w' S R ⟨h0, ⟨es, clock, h1, h2⟩, h3⟩ hk
    exact ⟨h0, ⟨es, clock, by rw [hk b (.inl h3)]; exact h1, h2⟩, h3⟩
def lH (ks : List (List UInt8)) (k : List UInt8) : Option Nat := match ks with
  | [] => none
  | x :: r => if x = k then some 0 else (lH r k).map (· + 1)
theorem nS {ks : List (List UInt8)} {k : List UInt8} : lH ks k = none ↔ k ∉ ks := by
  induction ks with
  | nil => simp [lH]
  | cons x r ih =>
    unfold lH
    by_cases h : x = k
    · subst h; simp
    · rw [if_neg h]
      simp only [Option.map_eq_none_iff, ih, List.mem_cons, not_or]
      exact ⟨fun hr => ⟨fun e => h e.symm, hr⟩, fun hr => hr.2⟩
theorem v_ {ks : List (List UInt8)} {k : List UInt8} {j : Nat} (h : lH ks k = some j) : ks[j]? = some k := by
  induction ks generalizing j with
  | nil => cases h
  | cons x r ih =>
    unfold lH at h
    by_cases hx : x = k
    · rw [if_pos hx] at h
      obtain rfl := Option.some.inj h
      simp [hx]
    · rw [if_neg hx, Option.map_eq_some_iff] at h
      obtain ⟨i, hi, rfl⟩ := h
      simpa using ih hi
theorem zD {d : TypeDesc} (hd : d = .string) {es : Array MapEntry} {ks : List (List UInt8)} {k : List UInt8} (hk : es.toList.map (·.key) = ks.map kV) (hn : (es.toList.map (·.key)).Nodup) :
    (lH ks k = none ∧ Instr.findNow d (kV k) es.toList 0 = some none) ∨ ∃ j e, lH ks k = some j ∧ Instr.findNow d (kV k) es.toList 0 = some (some (j, e.val)) ∧ es.toList[j]? = some e ∧ e.key = kV k := by
  subst hd
  have hkey : ∀ x ∈ es.toList, IsKey .string x.key := fun x hx => by
    have : x.key ∈ es.toList.map (·.key) := List.mem_map.2 ⟨x, hx, rfl⟩
    rw [hk] at this
    obtain ⟨q, _, hq⟩ := List.mem_map.1 this
    rw [← hq]
    exact trivial
  rcases findNow_spec (d := .string) (k := kV k) trivial es.toList 0 hkey with ⟨h1, h2⟩ | ⟨j, e, h1, h2, h3⟩
  · refine .inl ⟨nS.2 fun hm => ?_, h1⟩
    have : kV k ∈ es.toList.map (·.key) := by rw [hk]; exact List.mem_map.2 ⟨k, hm, rfl⟩
    obtain ⟨x, hx, hxe⟩ := List.mem_map.1 this
    exact h2 x hx hxe
  · rw [Nat.zero_add] at h1
    have hj : (ks.map kV)[j]? = some (kV k) := by rw [← hk, List.getElem?_map, h2]; simp [h3]
    have hkj : ks[j]? = some k := by
      rw [List.getElem?_map, Option.map_eq_some_iff] at hj
      obtain ⟨q, hq, hqe⟩ := hj
      rw [hq, vZ hqe]
    cases hf : lH ks k with
    | none => exact absurd (List.mem_of_getElem? hkj) (nS.1 hf)
    | some i =>
      have hi := v_ hf
      have hnd : ks.Nodup := by
        rw [hk, List.Nodup, List.pairwise_map] at hn
        exact hn.imp fun hne e => hne (by rw [e])
      have : i = j := by
        have h4 := (List.getElem?_eq_some_iff.1 hi).1
        exact (List.getElem?_inj h4 hnd).1 (by rw [hi, hkj])
      subst this
      exact .inr ⟨i, e, rfl, h1, h2, h3⟩
section
variable {P : Program} {n : Nat} {ops : Array Oper} {L : St} {w w0 : World} {F O : Nat → Prop} {hs : List HP} {K : St → World → Prop}
theorem Fg {dst : Option Nat} {t ty : TypeId} {pos : String} {iO : Array Edge} {g : Option (Nat × Bool)} (ss : List Nat) (d : Nat)
    (hside : (qE ops ss L ⟨dst, .makeMap t none, ty, pos, iO, g⟩, dst, (decide (d < n)), (L.any fun p => p.1 == d)) = (true, some d, true, false))
    (k : Cx F O w0 w hs) (hk : ∀ b w', Cx F O w0 w' (hs ++ [Mb b [] []]) → K ((d, .v (.map (some b))) :: L) w') :
    o9 P n ops L w ⟨dst, .makeMap t none, ty, pos, iO, g⟩ K := by
  simp only [Prod.mk.injEq, decide_eq_true_eq] at hside
  obtain ⟨s1, rfl, s3, s4⟩ := hside
  refine mG (xs := []) (svs := []) ss (d := d) (by simp [Side, s1, s3, s4, toSS]) fun a ha he => ?_
  have hrun : (Instr.makeMap t none).run P w = .ok (.map (some w.heap.size)) (w.alloc (.map #[] 0)) := rfl
  unfold Oper.wp execOp
  simp only [Option.map_none, Sem.run_bind, hrun, Result.andThen_ok, Sem.run_pure]
  refine ⟨.v (.map (some w.heap.size)), rfl, hk w.heap.size _ (k.new _ (Mb w.heap.size [] []) ⟨rfl, ⟨#[], 0, ?_, rfl, rfl, stamped_empty 0⟩, rfl⟩)⟩
  exact (heap_alloc w _).1
theorem xR {w : World} {b : Nat} {es es' : Array MapEntry} {clock clock' : Nat} (hb : w.heap[b]? = some (.map es clock)) : w.grownBy { w with heap := w.heap.setIfInBounds b (.map es' clock') } (some b) ∧ ({ w with heap := w.heap.setIfInBounds b (.map es' clock') } : World).heap.size = w.heap.size ∧ ({ w with heap := w.heap.setIfInBounds b (.map es' clock') } : World).heap[b]? = some (.map es' clock') := by
  refine ⟨⟨rfl, rfl, rfl, by simp, fun k hk hne => ?_⟩, by simp, (heap_set hb).1⟩
  exact (heap_set hb).2 k fun e => hne (by rw [e])
def pq (ks : List (List UInt8)) (k : List UInt8) : List (List UInt8) := match lH ks k with | some _ => ks | none => ks ++ [k]
def pz {β : Type} (ks : List (List UInt8)) (vs : List β) (k : List UInt8) (v : β) : List β := match lH ks k with | some j => vs.set j v | none => vs ++ [v]
theorem Kr {t kt e ty : TypeId} {m y x : Operand} {pos : String} {iO : Array Edge} {g : Option (Nat × Bool)} (ss : List Nat) (i : Nat) {b : Nat} {key : List UInt8} {ks : List (List UInt8)} {vs : List Value} (v : Value)
    (hside : (qE ops ss L (⟨none, .mapUpdate t m y x, ty, pos, iO, g⟩ : Oper), (toSS [m, y, x] (lk L)).map SV.vals, P.underlying t, P.underlying kt) = (true, some [.map (some b), kV key, v], some (.map kt e), some .string))
    (k : Cx F O w0 w hs) (hi : hs[i]? = some (Mb b ks vs)) (hk : ∀ w', Cx F O w0 w' (hs.set i (Mb b (pq ks key) (pz ks vs key v))) → K L w') :
    o9 P n ops L w ⟨none, .mapUpdate t m y x, ty, pos, iO, g⟩ K := by
  simp only [Prod.mk.injEq, Option.map_eq_some_iff] at hside
  obtain ⟨s1, ⟨svs, s5, s6⟩, s7, s8⟩ := hside
  refine ER (xs := [m, y, x]) (svs := svs) ss (by simp [s1, s5]) fun a ha he => ?_
  rw [s6] at he
  simp only [List.map_cons, List.map_nil, List.cons.injEq, and_true] at he
  obtain ⟨S, R, hl, ⟨es, clock, m1, m2, m3, m4⟩, hS⟩ := k.get i hi
  have hck := run_checkKey (P := P) (w := w) s8 (show IsKey .string (kV key) from trivial) false 9999
  rcases zD (d := .string) rfl (k := key) m2 m4.2.2 with ⟨f1, f2⟩ | ⟨j, en, f1, f2, f3, f4⟩
  · obtain ⟨g1, g2, g3⟩ := xR (es' := es.push { key := kV key, val := v, born := clock }) (clock' := clock + 1) m1
    have hrun : (Instr.mapUpdate t (.map (some b)) (kV key) v).run P w = .ok () { w with heap := w.heap.setIfInBounds b (.map (es.push { key := kV key, val := v, born := clock }) (clock + 1)) } := by
      unfold Instr.mapUpdate
      simp only [Sem.run_bind, run_underlying s7, Result.andThen_ok, MapKept.run_getObj_map m1, Sem.run_pure, hck, run_findKey s8 f2, MapKept.run_setObj_map _ m1]
    unfold Oper.wp execOp
    simp only [he.1, he.2.1, he.2.2, Sem.run_bind, hrun, Result.andThen_ok, Sem.run_pure]
    refine ⟨rfl, hk _ (k.Dy i hi (some b) g1 fun S R hS hlt => ?_)⟩
    obtain ⟨hl, ⟨es1, c1, q1, q2, q3, q4⟩, hS⟩ := hS
    rw [m1] at q1
    simp only [Option.some.injEq, Obj.map.injEq] at q1
    obtain ⟨rfl, rfl⟩ := q1
    have hnk : ∀ x ∈ es.toList, x.key ≠ kV key := fun x hx hxe => by
      have : kV key ∈ es.toList.map (·.key) := List.mem_map.2 ⟨x, hx, hxe⟩
      rw [q2] at this
      obtain ⟨q, hq, hqe⟩ := List.mem_map.1 this
      exact nS.1 f1 (vZ hqe ▸ hq)
    refine ⟨fun g' hg => (by simp only [Option.some.injEq] at hg; subst hg; exact hS), S, fun _ => False, ⟨?_, ⟨_, _, g3, ?_, ?_, stamped_push q4 hnk⟩, hS⟩, fun b' hb' => ⟨by rw [g2]; exact hlt b' hb', .inl hb'⟩, fun _ h => h⟩
    · unfold pq pz; rw [f1]; simp [hl]
    · unfold pq; rw [f1]; simp [q2]
    · unfold pz; rw [f1]; simp [q3]
  · obtain ⟨g1, g2, g3⟩ := xR (es' := es.modify j fun e => { e with key := kV key, val := v }) (clock' := clock) m1
    have hst : (Instr.keyThatStays (((es[j]?).map (·.key)).getD (kV key)) (kV key)).run P w = .ok (kV key) w := by
      have e1 : es[j]? = some en := by rw [← Array.getElem?_toList]; exact f3
      rw [e1]
      simp only [Option.map_some, Option.getD_some, f4]
      exact MapKept.run_keyThatStays (d := .string) (k := kV key) trivial
    have hrun : (Instr.mapUpdate t (.map (some b)) (kV key) v).run P w = .ok () { w with heap := w.heap.setIfInBounds b (.map (es.modify j fun e => { e with key := kV key, val := v }) clock) } := by
      unfold Instr.mapUpdate
      simp only [Sem.run_bind, run_underlying s7, Result.andThen_ok, MapKept.run_getObj_map m1, Sem.run_pure, hck, run_findKey s8 f2, hst, MapKept.run_setObj_map _ m1]
    unfold Oper.wp execOp
    simp only [he.1, he.2.1, he.2.2, Sem.run_bind, hrun, Result.andThen_ok, Sem.run_pure]
    refine ⟨rfl, hk _ (k.Dy i hi (some b) g1 fun S R hS hlt => ?_)⟩
    obtain ⟨hl, ⟨es1, c1, q1, q2, q3, q4⟩, hS⟩ := hS
    rw [m1] at q1
    simp only [Option.some.injEq, Obj.map.injEq] at q1
    obtain ⟨rfl, rfl⟩ := q1
    have hkey : ∀ e ∈ es.toList, es[j]? = some e → ({ e with key := kV key, val := v } : MapEntry).key = e.key := fun e _ he => by
      rw [← Array.getElem?_toList, f3] at he
      obtain rfl := Option.some.inj he
      exact f4.symm
    refine ⟨fun g' hg => (by simp only [Option.some.injEq] at hg; subst hg; exact hS), S, fun _ => False, ⟨?_, ⟨_, _, g3, ?_, ?_, stamped_modify q4 j _ (fun _ _ => rfl) hkey⟩, hS⟩, fun b' hb' => ⟨by rw [g2]; exact hlt b' hb', .inl hb'⟩, fun _ h => h⟩
    · unfold pq pz; rw [f1]; simp [hl]
    · unfold pq; rw [f1]
      rw [modify_keys j _ (fun e he => hkey e (by rw [← Array.getElem?_toList] at he; exact List.mem_of_getElem? he) he), q2]
    · unfold pz; rw [f1]
      simp only
      rw [← q3, Array.toList_modify]
      apply List.ext_getElem?
      intro q
      simp only [List.getElem?_map, List.getElem?_modify, List.getElem?_set, List.length_map]
      by_cases hqj : j = q
      · subst hqj
        have h5 : j < es.size := by simpa using (List.getElem?_eq_some_iff.1 f3).1
        simp [h5]
      · simp [hqj]
end
end Go.Sx
namespace Go.Sx
open Go.RowKit
set_option linter.unusedSimpArgs false
set_option linter.unusedVariables false
variable {α β γ δ : Type}
section
variable {F O F1 O1 : Nat → Prop} {w0 w w' : World} {hs : List HP}
end
def hV (h : Hd) : Value := .slice h.1 h.2.1 h.2.2
section
variable {F O : Nat → Prop} {w0 w : World} {hs rest : List HP} {E : Enc α} {b : Nat} {ks : List (List UInt8)} {hd : List Hd} {O5 : List (List α)}
end
section
variable {P : Program} {n : Nat} {ops : Array Oper} {L : St} {w w0 : World} {F O : Nat → Prop} {hs rest : List HP} {K : St → World → Prop} {E : Enc α}
end
end Go.Sx
namespace Go.Sx
open Go.RowKit Go.MapKept
set_option linter.unusedSimpArgs false
set_option linter.unusedVariables false
variable {α : Type}
theorem DJ {es : Array MapEntry} {seen : Array Nat} {e : MapEntry} (hn : (es.toList.map (·.born)).Nodup) (he : e ∈ (leftOf es seen).toList) : (leftOf es seen).toList.Perm (e :: (leftOf es (seen.push e.born)).toList) := by
  obtain ⟨h1, h2⟩ := mem_left he
  unfold leftOf
  rw [Array.toList_filter, Array.toList_filter]
  generalize es.toList = l at *
  induction l with
  | nil => cases h1
  | cons x l ih =>
    simp only [List.map_cons, List.nodup_cons] at hn
    by_cases hx : x.born = e.born
    · have hxe : x = e := by
        rcases List.mem_cons.1 h1 with rfl | h
        · rfl
        · exact absurd (List.mem_map.2 ⟨e, h, hx.symm⟩) hn.1
      subst hxe
      rw [List.filter_cons, if_pos (by rw [h2]; rfl), List.filter_cons, if_neg (by rw [contains_push]; simp)]
      refine .cons _ (.of_eq ?_)
      apply List.filter_congr
      intro y hy
      rw [contains_push]
      have : (y.born == x.born) = false := by
        cases hc : y.born == x.born with
        | false => rfl
        | true => exact absurd (List.mem_map.2 ⟨y, hy, beq_iff_eq.1 hc⟩) hn.1
      rw [this, Bool.or_false]
    · have hel : e ∈ l := by
        rcases List.mem_cons.1 h1 with rfl | h
        · exact absurd rfl hx
        · exact h
      have hxe : (x.born == e.born) = false := by simpa using hx
      have hc2 : (seen.push e.born).contains x.born = seen.contains x.born := by rw [contains_push, hxe, Bool.or_false]
      have ih' := ih hn.2 hel
      rw [List.filter_cons, List.filter_cons, hc2]
      split
      · exact (List.Perm.cons _ ih').trans (.swap _ _ _)
      · exact ih'
section
variable {P : Program} {n : Nat} {ops : Array Oper} {L : St} {w w0 : World} {F O : Nat → Prop} {hs rest : List HP} {K : St → World → Prop}
theorem Kt {es : Array MapEntry} {ks : List (List UInt8)} (h : es.toList.map (·.key) = ks.map kV) {e : MapEntry} (he : e ∈ es.toList) : ∃ k ∈ ks, e.key = kV k := by
  have : e.key ∈ es.toList.map (·.key) := List.mem_map.2 ⟨e, he, rfl⟩
  rw [h] at this
  obtain ⟨k, hk, hke⟩ := List.mem_map.1 this
  exact ⟨k, hk, hke.symm⟩
theorem Cx.weak {h h' : HP} (k : Cx F O w0 w hs) (i : Nat) (hi : hs[i]? = some h) (hp : ∀ w S R, h.p w S R → h'.p w S R) : Cx F O w0 w (hs.set i h') :=
  k.upd i hi Option.none ⟨rfl, rfl, rfl, Nat.le_refl _, fun _ _ _ => rfl⟩ fun S R h1 h2 h3 => ⟨fun g hg => (by cases hg), S, R, hp _ _ _ h1, fun b hb => ⟨h3 b (.inl hb), h2 b hb, .inl hb⟩, fun b hb => ⟨h3 b (.inr hb), .inl hb⟩⟩
variable {E : Enc α} {b r : Nat} {ks left : List (List UInt8)} {hd : List Hd} {O5 : List (List α)}
end
section
variable {P : Program} {n : Nat} {Q : Exit → Act → World → Prop} {L L' : St} {w : World}
open Classical in
theorem O7 {c : Code} (J : Nat → St → World → Prop) (k0 : Nat) (h0 : J k0 L' w) (hk : L'.map (fun p => (find L p.1).map SV.val) = L'.map (fun p => some p.2.val))
    (hb : ∀ k L w, J k L w → W P n c (Exit.then (fun a w => ∃ k' L', k' < k ∧ Fu n a (Kn L') ∧ J k' L' w) Q) L w) : W P n (.loop c) Q L w := by
  refine zx L' hk fun a0 ha0 => ?_
  let I : Nat → Act → World → Prop := fun k a w => ∃ L, Fu n a (Kn L) ∧ J k L w
  let μ : Act → World → Nat := fun a w => if h : ∃ k, I k a w then Classical.choose (least h) else 0
  refine wp_loop (fun a w => ∃ k, I k a w) μ ⟨k0, L', ha0, h0⟩ ?_
  intro a w hI
  have hμ : μ a w = Classical.choose (least hI) := dif_pos hI
  obtain ⟨L1, hf, hJ⟩ := (Classical.choose_spec (least hI)).1
  rw [← hμ] at hJ
  refine wp_mono (hb _ L1 w hJ a hf) ?_
  intro e a' w' hq
  cases e with
  | normal =>
    obtain ⟨k', L2, hlt, hf2, hJ2⟩ := hq
    have hE : ∃ k, I k a' w' := ⟨k', L2, hf2, hJ2⟩
    refine ⟨hE, ?_⟩
    have h1 : μ a' w' = Classical.choose (least hE) := dif_pos hE
    have h2 : Classical.choose (least hE) ≤ k' := (Classical.choose_spec (least hE)).2 k' ⟨L2, hf2, hJ2⟩
    omega
  | _ => exact hq
theorem NI {J : Nat → St → World → Prop} {k : Nat} (k' : Nat) (hlt : k' < k) (h : J k' L' w) (hk : L'.map (fun p => (find L p.1).map SV.val) = L'.map (fun p => some p.2.val)) : At n (Exit.then (fun a w => ∃ k' L', k' < k ∧ Fu n a (Kn L') ∧ J k' L' w) Q .normal) L w :=
  nC L' hk fun _ ha => ⟨k', L', hlt, ha, h⟩
end
noncomputable def A7 (l : List (List UInt8)) : List (List UInt8) := l.mergeSort fun x y => decide (x ≤ y)
theorem Fh {l l' : List (List UInt8)} (h : l.Perm l') : A7 l = A7 l' := by
  have := mergeSort_of_perm h
  exact this
theorem A8 (l : List (List UInt8)) : (A7 l).length = l.length := by simp [A7]
theorem Fj (l : List (List UInt8)) : eS.all l = l.map Go.Proofs.encStr := by
  induction l with
  | nil => rfl
  | cons x l ih => show _ :: _ = _ :: _; rw [show (eS.all l) = l.map Go.Proofs.encStr from ih]; rfl
open Go.Sort Go.Proofs Go.Shelf in
theorem Ku {P : Program} {ρ : Ren} (Ly : Lays.n190 P ρ) {F O : Nat → Prop} {w0 w : World} {hs : List HP} {i : Nat} {A : Option Addr} {n c : Nat} {xs : List (List UInt8)} (k : Cx F O w0 w hs) (hi : hs[i]? = some (Ow eS A n c xs)) (hsz : n < 4611686018427387904) :
    Calls P (ρ.f 190) #[.slice A n c] w (fun e w' => e = .returned (.tuple #[]) ∧ Cx F O w0 w' (hs.set i (Ow eS A n c (A7 xs)))) := by
  obtain ⟨S, R, hl, hh⟩ := k.get i hi
  by_cases h0 : n = 0
  · subst h0
    have hx : xs = [] := List.eq_nil_of_length_eq_zero hl
    subst hx
    refine (Any.slices_Sort_string_none Ly A c w).mono ?_
    rintro e w' ⟨rfl, rfl⟩
    refine ⟨rfl, ?_⟩
    have : A7 [] = [] := by simp [A7]
    rw [this]
    have e2 : hs.set i (Ow eS A 0 c []) = hs := by
      obtain ⟨h1, h2⟩ := List.getElem?_eq_some_iff.1 hi
      rw [← h2]; exact List.set_getElem_self h1
    rw [e2]; exact k
  · rcases hh with ⟨_, h1, _⟩ | ⟨g, t, cur, rfl, ⟨fr, hb, hnf⟩, h3, h4, h5, h6, h7⟩
    · exact absurd h1 h0
    · subst hl
      have hsz1 : eS.sz = 1 := rfl
      rw [hsz1, Nat.mul_one] at h5 h6
      rw [Fj] at h6
      have hH : Holds encStr w g 0 xs.toArray := by
        intro j hj
        have hj' : j < xs.length := by simpa using hj
        have hfz : w.frozen? ⟨g, 0 + j, none⟩ = false := by
          have : j < cur.size := by omega
          simp only [World.frozen?, hb]
          rcases hnf with h | h
          · simp; omega
          · simp; omega
        refine ⟨?_, hfz⟩
        have h1 : (cur.toList.take xs.length)[j]? = (xs.map encStr)[j]? := by rw [h6]
        rw [List.getElem?_take_of_lt hj'] at h1
        simp only [World.cell?, hb, Nat.zero_add]
        simp only [Option.isSome_none, Bool.false_eq_true, if_false]
        rw [← Array.getElem?_toList, h1]
        simp [hj']
      refine (Any.slices_Sort_string Ly g 0 c xs w hH (Array.getElem?_eq_some_iff.1 hb).1 hsz).mono ?_
      rintro e w' ⟨rfl, m, os, rfl⟩
      refine ⟨rfl, ?_⟩
      refine k.Dy i hi (some g) (grownBy_sorted _) fun S R hS hlt => ?_
      obtain ⟨hl', hh'⟩ := hS
      rcases hh' with ⟨h1, _⟩ | ⟨g', t', cur', q1, ⟨fr', q2, q3⟩, _, _, q4, _, q5⟩
      · cases h1
      · simp only [Option.some.injEq, Addr.mk.injEq, and_true] at q1
        subst q1
        rw [hb] at q2
        simp only [Option.some.injEq, Obj.cells.injEq] at q2
        obtain ⟨rfl, rfl, rfl⟩ := q2
        have hsl : (A7 xs).length = xs.length := A8 xs
        refine ⟨fun q hq => (by simp only [Option.some.injEq] at hq; subst hq; exact q5), S, fun _ => False, ⟨hsl, .inr ⟨g, t, putCells encStr 0 (A7 xs).toArray cur, rfl, ⟨fr, heap_sorted _ hb, ?_⟩, h3, h4, ?_, ?_, q5⟩⟩, fun q hq => ⟨?_, .inl hq⟩, fun _ h => h⟩
        · simpa [putCells] using hnf
        · rw [hsz1, Nat.mul_one]; simpa [putCells] using h5
        · rw [hsz1, Nat.mul_one, Fj, ← hsl]
          exact take_putCells cur (A7 xs) (by omega)
        · exact Nat.lt_of_lt_of_le (hlt q hq) (grownBy_sorted (w := w) (g := g) (n := m) (os := os) (A7 xs).toArray).size
end Go.Sx
namespace Go.Sx
open Go.RowKit
set_option linter.unusedSimpArgs false
set_option linter.unusedVariables false
variable {α β γ δ ε ζ : Type}
structure Rl (γ δ : Type) where
  r : World → (Nat → Prop) → γ → δ → Prop
  loc : ∀ w w' R y x, r w R y x → (∀ b, R b → w'.heap[b]? = w.heap[b]?) → r w' R y x
  mono : ∀ w R R' y x, (∀ b, R b → R' b) → r w R y x → r w R' y x
def SQ : Rl α α := ⟨fun _ _ y x => y = x, fun _ _ _ _ _ h _ => h, fun _ _ _ _ _ _ h => h⟩
def Sh (q : Rl γ δ) (ys : List γ) (xs : List δ) : HP where
  p w S R := (∀ b, ¬ S b) ∧ ys.length = xs.length ∧ ∀ (j : Nat) (y : γ) (x : δ), ys[j]? = some y → xs[j]? = some x → q.r w R y x
  loc := by
    rintro w w' S R ⟨h0, h1, h2⟩ hk
    exact ⟨h0, h1, fun j y x e1 e2 => q.loc _ _ _ _ _ (h2 j y x e1 e2) fun b hb => hk b (.inr hb)⟩
section
variable {F O : Nat → Prop} {w0 w w' : World} {hs rest : List HP}
theorem Cx.merge {h1 h2 h3 : HP} (k : Cx F O w0 w (h1 :: h2 :: rest)) (hp : ∀ w S1 R1 S2 R2, h1.p w S1 R1 → h2.p w S2 R2 → h3.p w (fun b => S1 b ∨ S2 b) (fun b => R1 b ∨ R2 b)) : Cx F O w0 w (h3 :: rest) := by
  obtain ⟨U, V, ⟨S1, R1, U1, V1, e1, ⟨S2, R2, U2, V2, g1, g2, g3, g4, g5, g6⟩, e3, e4, e5, e6⟩, hU, hV⟩ := k.sep
  refine ⟨k.os, k.tape, k.output, k.size, k.block, k.fin, k.wV, U, V, ⟨_, _, U2, V2, hp _ _ _ _ _ e1 g1, g2, fun b => ?_, fun b => ?_, fun b hb => ?_, fun b hb => ?_⟩, hU, hV⟩
  · rw [e3, g3, or_assoc]
  · rw [e4, g4, or_assoc]
  · rcases hb with hb | hb
    · have h := e5 b hb
      rw [g3, g4] at h
      exact ⟨fun q => h.1 (.inr q), fun q => q.elim h.2.1 (fun q => h.2.2 (.inl q)), fun q => h.2.2 (.inr q)⟩
    · have h := g5 b hb
      exact ⟨h.1, fun q => q.elim (fun q => e6 b q ((g3 b).2 (.inl hb))) h.2.1, h.2.2⟩
  · rcases hb with hb | hb
    · exact fun q => e6 b hb ((g3 b).2 (.inr q))
    · exact g6 b hb
theorem Cx.dup {h h' : HP} (k : Cx F O w0 w hs) (i : Nat) (hi : hs[i]? = some h) (hp : ∀ w S R, h.p w S R → h'.p w (fun _ => False) R) : Cx F O w0 w (h' :: hs) := by
  obtain ⟨U, V, h1, hU, hV⟩ := k.sep
  obtain ⟨S, R, U', V', e1, e2, e3, e4, e5, e6⟩ := Sep.cut hi h1
  refine ⟨k.os, k.tape, k.output, k.size, k.block, k.fin, k.wV, U, V, ⟨_, R, U, V, hp _ _ _ e1, h1, fun b => ⟨.inr, fun h => h.elim (fun h => h.elim) id⟩, fun b => ⟨.inr, fun h => h.elim (fun h => (e4 b).2 (.inl h)) id⟩, fun b hb => hb.elim, fun b hb hu => ?_⟩, hU, hV⟩
  exact Sep.apart h1 b hu ((e4 b).2 (.inl hb))
theorem Cx.SG (k : Cx F O w0 w hs) (q : Rl γ δ) : Cx F O w0 w (Sh q [] [] :: hs) := by
  obtain ⟨U, V, h1, hU, hV⟩ := k.sep
  exact ⟨k.os, k.tape, k.output, k.size, k.block, k.fin, k.wV, U, V, ⟨fun _ => False, fun _ => False, U, V, ⟨fun _ h => h, rfl, fun j y x e1 _ => by cases e1⟩, h1, by simp, by simp, fun b hb => hb.elim, fun b hb => hb.elim⟩, hU, hV⟩
theorem Cx.SH (k : Cx F O w0 w hs) (x : α) : Cx F O w0 w (Sh SQ [x] [x] :: hs) := by
  obtain ⟨U, V, h1, hU, hV⟩ := k.sep
  refine ⟨k.os, k.tape, k.output, k.size, k.block, k.fin, k.wV, U, V, ⟨fun _ => False, fun _ => False, U, V, ⟨fun _ h => h, rfl, fun j y x' e1 e2 => ?_⟩, h1, by simp, by simp, fun b hb => hb.elim, fun b hb => hb.elim⟩, hU, hV⟩
  rw [e1] at e2
  exact Option.some.inj e2
theorem Cx.SI {q : Rl γ δ} {ys ys' : List γ} {xs xs' : List δ} (k : Cx F O w0 w (Sh q ys xs :: Sh q ys' xs' :: rest)) : Cx F O w0 w (Sh q (ys ++ ys') (xs ++ xs') :: rest) :=
  k.merge fun w S1 R1 S2 R2 h1 h2 => ⟨fun b hb => hb.elim (h1.1 b) (h2.1 b), by simp [h1.2.1, h2.2.1], fun j y x e1 e2 => by
    by_cases hj : j < ys.length
    · rw [List.getElem?_append_left hj] at e1
      rw [List.getElem?_append_left (by have := h1.2.1; omega)] at e2
      exact q.mono _ _ _ _ _ (fun b hb => .inl hb) (h1.2.2 j _ _ e1 e2)
    · rw [List.getElem?_append_right (by omega)] at e1
      rw [List.getElem?_append_right (by have := h1.2.1; omega), ← h1.2.1] at e2
      exact q.mono _ _ _ _ _ (fun b hb => .inr hb) (h2.2.2 _ _ _ e1 e2)⟩
variable {E : Enc γ} {q : Rl γ δ} {A : Option Addr} {n c : Nat} {ys : List γ} {xs : List δ}
end
section
variable {F O : Nat → Prop} {w0 w : World} {hs : List HP}
end
section
variable {F O F1 O1 : Nat → Prop} {w0 w w' : World} {hs rest : List HP} {E : Enc γ} {q : Rl γ δ} {A : Option Addr} {ys : List γ} {xs : List δ}
end
section
variable {P : Program} {n : Nat} {ops : Array Oper} {L : St} {w w0 : World} {F O : Nat → Prop} {hs rest : List HP} {K : St → World → Prop} {E : Enc γ} {q : Rl γ δ}
end
end Go.Sx
namespace Go.Sx
open Go.RowKit
set_option linter.unusedSimpArgs false
set_option linter.unusedVariables false
variable {γ δ : Type}
section
variable {H : Type} {enc : TypeId × Value → H} {P : Program} {w : World} {held : Bool}
end
end Go.Sx
namespace Go.Sx
open Go.RowKit
set_option linter.unusedSimpArgs false
set_option linter.unusedVariables false
variable {α β γ δ : Type}
section
variable {F O F1 O1 : Nat → Prop} {w0 w w' : World} {hs rest : List HP} {E : Enc α} {A : Option Addr} {n c : Nat} {x : List α}
end
section
variable {σ ρ : Type} {P : Program} {n : Nat} {Q : Exit → Act → World → Prop} {c : Code} {L L' : St} {w0 : World}
end
end Go.Sx
namespace Go.Sx
open Go.RowKit
set_option linter.unusedSimpArgs false
set_option linter.unusedVariables false
section
variable {P : Program} {n : Nat} {ops : Array Oper} {L : St} {w w0 : World} {F O : Nat → Prop} {hs : List HP} {K : St → World → Prop}
end
end Go.Sx
namespace Go.Sx
open Go.RowKit
set_option linter.unusedSimpArgs false
set_option linter.unusedVariables false
def qm (P : Program) (F : Nat → Prop) (w : World) : Prop := Lib.TabIs P w "internal/strconv.uint64pow10" .u64 Lib.pow10Tab ∧ ∃ g, P.globalNamed "internal/strconv.uint64pow10" = some g ∧ ¬ F g
theorem qm.cx {P : Program} {F O : Nat → Prop} {w0 w : World} {hs : List HP} (h : qm P F w0) (k : Cx F O w0 w hs) : Lib.TabIs P w "internal/strconv.uint64pow10" .u64 Lib.pow10Tab := by
  obtain ⟨h, g, hg, hF⟩ := h
  unfold Lib.TabIs World.var? at h ⊢
  rw [hg] at h ⊢
  simp only [Option.bind_some] at h ⊢
  have hlt : g < w0.heap.size := by
    rcases Nat.lt_or_ge g w0.heap.size with h' | h'
    · exact h'
    · rw [Array.getElem?_eq_none h'] at h; cases h
  rw [k.block g hlt hF]
  exact h
theorem qm.at {P : Program} {F O : Nat → Prop} {w0 w : World} {hs : List HP} (h : qm P F w0) (k : Cx F O w0 w hs) : qm P N0 w :=
  ⟨h.cx k, h.2.elim fun g hg => ⟨g, hg.1, fun q => q⟩⟩
open Go.Sort in
theorem Cx.more (w : World) (m : Nat) (os : Array Obj) : Cx N0 N0 w (grow (w.drewN m) os) [] :=
  ⟨rfl, rfl, rfl, by simp [grow], fun b hb _ => by
    show ((w.drewN m).heap ++ os)[b]? = w.heap[b]?
    rw [show (w.drewN m).heap = w.heap from rfl, Array.getElem?_append_left hb], fun _ h => h.elim, fun _ h => h.elim, N0, N0, ⟨fun _ h => h, fun _ h => h⟩, fun _ h => h.elim, fun _ h => h.elim⟩
open Go.Sort Go.Proofs Go.Shelf in
theorem Kv {P : Program} {ρ : Ren} (Ly : LaysM.n171 P ρ) {F O : Nat → Prop} {w0 w : World} {hs : List HP} (k : Cx F O w0 w hs) {n : Int} (hn : -9223372036854775808 ≤ n ∧ n ≤ 9223372036854775807) (hT : Lib.TabIs P w "internal/strconv.uint64pow10" .u64 Lib.pow10Tab) :
    Calls P (ρ.f 171) (vals [I n]) w (fun e w' => e = .returned (SV.val (.s (Lib.itoa n))) ∧ Cx F O w0 w' hs) := by
  refine (Any.strconv_Itoa Ly n hn.1 hn.2 w hT).mono ?_
  rintro e w' ⟨rfl, m, os, rfl⟩
  refine ⟨rfl, ?_⟩
  have := k.call (Cx.more w m os)
  rw [List.append_nil] at this
  exact this
end Go.Sx
namespace Go.Sx
open Go.RowKit
set_option linter.unusedVariables false
noncomputable def kG (ak : Int) (ag : Int) (ai : Int) (ah : Int) (aB : Int) : Option (List (Int × Int × Int)) :=
  some ([(ak, (0 : Int), (2 : Int)), (ah, (1 : Int), (8 : Int)), (ai, (1 : Int), (16 : Int)), (aB, (4 : Int), (1024 : Int)), (ag, (8 : Int), (4096 : Int))] : List (Int × Int × Int))
noncomputable def gq (ag : Int) (ah : Int) (r_ : (List (Int × Int × Int))) : Int → Option (Int ⊕ Bool)
  | gm => if gm < ((r_.length : Nat) : Int) then ((bZ r_ gm).bind fun x_1 => if ((decide (x_1.1 < x_1.2.1)) || (decide (x_1.2.2 < x_1.1))) = true then (Option.map Sum.inr (some false)) else (some (.inl (aA (gm + 1))))) else (Option.map Sum.inr (some (decide ((aA (8 * ah)) ≤ ag))))
noncomputable def lh (ak : Int) (ag : Int) (ai : Int) (ah : Int) (aB : Int) : Option Bool :=
  (kG ak ag ai ah aB).bind fun r_ => aU (gq ag ah r_) (0 : Int)
noncomputable def jl (ak : Int) (ag : Int) (ai : Int) (ah : Int) (aB : Int) (iq : List UInt8) : Option Int :=
  (lh ak ag ai ah aB).bind fun r_ => if (!r_) = true then (some (200 : Int)) else (if ((decide (((iq.length : Nat) : Int) < 8)) || (decide (64 < ((iq.length : Nat) : Int)))) = true then (some (201 : Int)) else (some (0 : Int)))
noncomputable def kH (fU : Int) (dP : Int) (dQ : Int) (fD : Int) (dL : Int) (mW : List UInt8) (pF : List UInt8) : Option Int :=
  (jl fU dP dQ fD dL mW).bind fun r_ => if r_ ≠ 0 then (some r_) else (if ((pF.length : Nat) : Int) ≠ dL then (some (1 : Int)) else (some (0 : Int)))
noncomputable def lq (ak : Int) (ag : Int) (ai : Int) (ah : Int) (aB : Int) : Option Int :=
  if ((((((((((decide (ak < 0)) || (decide (2 < ak))) || (decide (ah < 1))) || (decide (8 < ah))) || (decide (ag < (aA (8 * ah))))) || (decide (4096 < ag))) || (decide (ai < 1))) || (decide (16 < ai))) || (decide (aB < 4))) || (decide (1024 < aB))) = true then (some (200 : Int)) else (some (0 : Int))
noncomputable def j_ (ak : Int) (ag : Int) (ai : Int) (ah : Int) (aB : Int) (iq : List UInt8) : Option Int :=
  (lq ak ag ai ah aB).bind fun r_ => if r_ ≠ 0 then (some r_) else (if ((decide (((iq.length : Nat) : Int) < 8)) || (decide (64 < ((iq.length : Nat) : Int)))) = true then (some (201 : Int)) else (some (0 : Int)))
noncomputable def ou (eX : Int) (xn : List UInt8) (nT : Int) (nU : Int) : Option ((List UInt8 × Int × Int × Int) ⊕ ((List UInt8 × Int × Int × Int) ⊕ (List UInt8))) :=
  some (.inl (xn, nT, nU, aA (eX - 1)))
noncomputable def uD (b : List UInt8) (i : Int) : (List UInt8 × Int × Int × Int) → Option ((List UInt8 × Int × Int × Int) ⊕ ((List UInt8 × Int × Int × Int) ⊕ (List UInt8)))
  | (kS, have_1, iw, eX) => if 0 ≤ eX then ((bZ b i).bind fun gm => (need (0 ≤ eX)).bind fun u => if (aA (have_1 + 1)) = 6 then ((bZ ([65, 66, 67, 68, 69, 70, 71, 72, 73, 74, 75, 76, 77, 78, 79, 80, 81, 82, 83, 84, 85, 86, 87, 88, 89, 90, 97, 98, 99, 100, 101, 102, 103, 104, 105, 106, 107, 108, 109, 110, 111, 112, 113, 114, 115, 116, 117, 118, 119, 120, 121, 122, 48, 49, 50, 51, 52, 53, 54, 55, 56, 57, 43, 47] : List UInt8) (aA ((aA (2 * iw)) + (Int.tmod ((Ew gm (Int.toNat eX)).toNat : Int) 2)))).bind fun c3 => (app kS ([c3] : List UInt8) 1).bind fun uo => ou eX uo (0 : Int) (0 : Int)) else (ou eX kS (aA (have_1 + 1)) (aA ((aA (2 * iw)) + (Int.tmod ((Ew gm (Int.toNat eX)).toNat : Int) 2))))) else (Option.map Sum.inr (some (.inl (kS, have_1, iw, aA (i + 1)))))
noncomputable def oz (Ej : List UInt8) : Option (List UInt8) :=
  some Ej
noncomputable def uF (s_ : List UInt8) : (Int × Int) → Option ((Int × Int) ⊕ (List UInt8))
  | (Fp, Fq) => if Fp < 6 then (some (.inl (aA (Fp + 1), aA (2 * Fq)))) else (Option.map Sum.inr ((bZ ([65, 66, 67, 68, 69, 70, 71, 72, 73, 74, 75, 76, 77, 78, 79, 80, 81, 82, 83, 84, 85, 86, 87, 88, 89, 90, 97, 98, 99, 100, 101, 102, 103, 104, 105, 106, 107, 108, 109, 110, 111, 112, 113, 114, 115, 116, 117, 118, 119, 120, 121, 122, 48, 49, 50, 51, 52, 53, 54, 55, 56, 57, 43, 47] : List UInt8) Fq).bind fun c6 => (app s_ ([c6] : List UInt8) 1).bind fun H5 => oz H5))
noncomputable def uG (b : List UInt8) : (List UInt8 × Int × Int × Int) → Option ((List UInt8 × Int × Int × Int) ⊕ (List UInt8))
  | (s_, dY, nI, i) => if i < ((b.length : Nat) : Int) then (aU (uD b i) (s_, dY, nI, (7 : Int))) else (Option.map Sum.inr (if 0 < dY then (aU (uF s_) (dY, nI)) else (oz s_)))
noncomputable def H6 (b : List UInt8) : Option (List UInt8) :=
  aU (uG b) (([] : List UInt8), (0 : Int), (0 : Int), (0 : Int))
noncomputable def cZ (dH : List UInt8) (gu : Bool) (t : List UInt8) : (Int × Int) → Option ((Int × Int) ⊕ (List UInt8 × Int × Bool))
  | (p, i) => if ((decide (i < (t.length : Int))) && gu) = true then ((kT (!(decide ((dH.length : Int) ≤ p))) (bZ dH p)).bind fun c => (kT (!(decide ((dH.length : Int) ≤ p))) (bZ t i)).bind fun c1 => if ((decide ((dH.length : Int) ≤ p)) || (decide (c ≠ c1))) = true then (Option.map Sum.inr (some (dH, p, false))) else (some (.inl (aA (p + 1), aA (i + 1))))) else (Option.map Sum.inr (some (dH, p, gu)))
noncomputable def bF (dH : List UInt8) (eY : Int) (gu : Bool) (t : List UInt8) : Option (List UInt8 × Int × Bool) :=
  aU (cZ dH gu t) (eY, (0 : Int))
noncomputable def bG (s_ : List UInt8) (dM : List UInt8) : Option Bool :=
  (kT (decide ((dM.length : Int) ≤ (s_.length : Int))) (uC s_ 0 (dM.length : Int))).bind fun kS => some ((decide ((dM.length : Int) ≤ (s_.length : Int))) && (decide (kS = dM)))
noncomputable def bM (s_ : List UInt8) (dM : List UInt8) : Option Bool :=
  (bG s_ dM).bind fun r_ => some r_
noncomputable def bH (dH : List UInt8) (eY : Int) : (Int × UInt64) → Option ((Int × UInt64) ⊕ (UInt64 × List UInt8 × Int × Bool))
  | (p, v) => (kT (decide (p < (dH.length : Int))) (bZ dH p)).bind fun c => (kT ((decide (p < (dH.length : Int))) && (decide ((48 : UInt8) ≤ c))) (bZ dH p)).bind fun c1 => if (((decide (p < (dH.length : Int))) && (decide ((48 : UInt8) ≤ c))) && (decide (c1 ≤ 57))) = true then ((bZ dH p).bind fun c2 => if (((decide (eY < p)) && (decide (v = 0))) || (decide ((((18446744073709551615 : UInt64) - (UInt64.ofNat (c2 - 48).toNat)) / 10) < v))) = true then (Option.map Sum.inr (some ((0 : UInt64), dH, p, false))) else (some (.inl (aA (p + 1), ((10 : UInt64) * v) + (UInt64.ofNat (c2 - 48).toNat))))) else (Option.map Sum.inr (some (v, dH, p, decide (eY < p))))
noncomputable def df (dH : List UInt8) (eY : Int) (gu : Bool) : Option (UInt64 × List UInt8 × Int × Bool) :=
  if (!gu) = true then (some ((0 : UInt64), dH, eY, gu)) else (aU (bH dH eY) (eY, (0 : UInt64)))
noncomputable def iV (v : UInt64) : Option Int :=
  if (9223372036854775807 : UInt64) < v then (some (-1 : Int)) else (some (aA v.toNat))
noncomputable def dU (s_ : List UInt8) (c : UInt8) : Option Int :=
  some (yK s_ c)
noncomputable def iF (s_ : List UInt8) (c : UInt8) : Option Int :=
  (dU s_ c).bind fun r_ => some r_
noncomputable def bK (dH : List UInt8) (eY : Int) (gu : Bool) : Int → Option (Int ⊕ (List UInt8 × Int × List UInt8 × Int × Bool))
  | p => if (gu && (decide (p < (dH.length : Int)))) = true then ((bZ dH p).bind fun c => (iF ([43, 47] : List UInt8) c).bind fun r_ => (kT (!(decide (0 ≤ r_))) (bZ dH p)).bind fun c1 => (kT (!(decide (0 ≤ r_))) (kT (decide ((48 : UInt8) ≤ c1)) (bZ dH p))).bind fun c2 => (kT (!((decide (0 ≤ r_)) || ((decide ((48 : UInt8) ≤ c1)) && (decide (c2 ≤ 57))))) (bZ dH p)).bind fun c3 => (kT (!((decide (0 ≤ r_)) || ((decide ((48 : UInt8) ≤ c1)) && (decide (c2 ≤ 57))))) (kT (decide ((65 : UInt8) ≤ c3)) (bZ dH p))).bind fun c4 => (kT (!(((decide (0 ≤ r_)) || ((decide ((48 : UInt8) ≤ c1)) && (decide (c2 ≤ 57)))) || ((decide ((65 : UInt8) ≤ c3)) && (decide (c4 ≤ 90))))) (bZ dH p)).bind fun c5 => (kT (!(((decide (0 ≤ r_)) || ((decide ((48 : UInt8) ≤ c1)) && (decide (c2 ≤ 57)))) || ((decide ((65 : UInt8) ≤ c3)) && (decide (c4 ≤ 90))))) (kT (decide ((97 : UInt8) ≤ c5)) (bZ dH p))).bind fun c6 => if ((((decide (0 ≤ r_)) || ((decide ((48 : UInt8) ≤ c1)) && (decide (c2 ≤ 57)))) || ((decide ((65 : UInt8) ≤ c3)) && (decide (c4 ≤ 90)))) || ((decide ((97 : UInt8) ≤ c5)) && (decide (c6 ≤ 122)))) = true then (some (.inl (aA (p + 1)))) else (Option.map Sum.inr ((uC dH eY p).bind fun s_ => some (s_, eY, dH, p, gu)))) else (Option.map Sum.inr ((uC dH eY p).bind fun kS => some (kS, eY, dH, p, gu)))
noncomputable def fA (dH : List UInt8) (eY : Int) (gu : Bool) : Option (List UInt8 × Int × List UInt8 × Int × Bool) :=
  aU (bK dH eY gu) eY
noncomputable def jm (c : UInt8) : Option (UInt32 × Bool) :=
  if ((decide ((65 : UInt8) ≤ c)) && (decide (c ≤ 90))) = true then (some (UInt32.ofNat (c - 65).toNat, true)) else (if ((decide ((97 : UInt8) ≤ c)) && (decide (c ≤ 122))) = true then (some ((UInt32.ofNat (c - 97).toNat) + 26, true)) else (if ((decide ((48 : UInt8) ≤ c)) && (decide (c ≤ 57))) = true then (some ((UInt32.ofNat (c - 48).toNat) + 52, true)) else (if c = 43 then (some ((62 : UInt32), true)) else (if c = 47 then (some ((63 : UInt32), true)) else (some ((0 : UInt32), false))))))
noncomputable def fB (gm : Int) (b1 : List UInt8) (have_1 : Int) (v1 : UInt32) : Option ((List UInt8 × Int × UInt32 × Int) ⊕ (List UInt8 × Int × Int)) :=
  some (.inl (b1, have_1, v1, aA (gm + 1)))
noncomputable def iW (s_ : List UInt8) : (List UInt8 × Int × UInt32 × Int) → Option ((List UInt8 × Int × UInt32 × Int) ⊕ (List UInt8 × Int × Int))
  | (b, dY, v, gm) => if gm < (s_.length : Int) then ((bZ s_ gm).bind fun c2 => (jm c2).bind fun r_ => if (!r_.2) = true then (Option.map Sum.inr (some (([] : List UInt8), gm, (4 : Int)))) else (if 8 ≤ (aA (dY + 6)) then ((need (0 ≤ aA ((aA (dY + 6)) - 8))).bind fun u => (app b ([UInt8.ofNat (oh ((jd v ((6 : UInt64).toNat)) ||| r_.1) (Int.toNat (aA ((aA (dY + 6)) - 8)))).toNat] : List UInt8) 1).bind fun b2 => (need (0 ≤ aA ((aA (dY + 6)) - 8))).bind fun u1 => fB gm b2 (aA ((aA (dY + 6)) - 8)) (((jd v ((6 : UInt64).toNat)) ||| r_.1) &&& ((jd 1 (Int.toNat (aA ((aA (dY + 6)) - 8)))) - 1))) else (fB gm b (aA (dY + 6)) ((jd v ((6 : UInt64).toNat)) ||| r_.1)))) else (Option.map Sum.inr (if (Int.tmod (s_.length : Int) 4) = 1 then (some (([] : List UInt8), (s_.length : Int), (4 : Int))) else (if v ≠ 0 then (some (([] : List UInt8), aA ((s_.length : Int) - 1), (4 : Int))) else (some (b, (0 : Int), (0 : Int))))))
noncomputable def gJ (s_ : List UInt8) : Option (List UInt8 × Int × Int) :=
  aU (iW s_) (([] : List UInt8), (0 : Int), (0 : UInt32), (0 : Int))
noncomputable def bP (s_ : List UInt8) (p : List UInt8) (p1 : Int) (p2 : Bool) (t : Int) : Option (Int × Int × Int × Int × Int × List UInt8 × List UInt8 × Int × Int) :=
  (bF p p1 p2 ([36, 118, 61, 49, 57, 36, 109, 61] : List UInt8)).bind fun yM => (df yM.1 yM.2.1 yM.2.2).bind fun tJ => (iV tJ.1).bind fun jy => (bF tJ.2.1 tJ.2.2.1 tJ.2.2.2 ([44, 116, 61] : List UInt8)).bind fun jJ => (df jJ.1 jJ.2.1 jJ.2.2).bind fun jW => (iV jW.1).bind fun d_ => (bF jW.2.1 jW.2.2.1 jW.2.2.2 ([44, 112, 61] : List UInt8)).bind fun jR => (df jR.1 jR.2.1 jR.2.2).bind fun kJ => (iV kJ.1).bind fun je => (bF kJ.2.1 kJ.2.2.1 kJ.2.2.2 ([36] : List UInt8)).bind fun xq => (fA xq.1 xq.2.1 xq.2.2).bind fun rY => (bF rY.2.2.1 rY.2.2.2.1 rY.2.2.2.2 ([36] : List UInt8)).bind fun H7 => (fA H7.1 H7.2.1 H7.2.2).bind fun kK => if ((!kK.2.2.2.2) || (decide (kK.2.2.2.1 < (s_.length : Int)))) = true then (some ((0 : Int), (0 : Int), (0 : Int), (0 : Int), (0 : Int), ([] : List UInt8), ([] : List UInt8), kK.2.2.2.1, (4 : Int))) else ((gJ rY.1).bind fun lQ => if lQ.2.2 ≠ 0 then (some ((0 : Int), (0 : Int), (0 : Int), (0 : Int), (0 : Int), ([] : List UInt8), ([] : List UInt8), rY.2.1, (4 : Int))) else ((gJ kK.1).bind fun iY => if iY.2.2 ≠ 0 then (some ((0 : Int), (0 : Int), (0 : Int), (0 : Int), (0 : Int), ([] : List UInt8), ([] : List UInt8), kK.2.1, (4 : Int))) else ((kH t jy d_ je ((iY.1.length : Nat) : Int) lQ.1 iY.1).bind fun Fv => if Fv ≠ 0 then (some ((0 : Int), (0 : Int), (0 : Int), (0 : Int), (0 : Int), ([] : List UInt8), ([] : List UInt8), (0 : Int), (1 : Int))) else (some (t, jy, d_, je, ((iY.1.length : Nat) : Int), lQ.1, iY.1, (0 : Int), (0 : Int))))))
noncomputable def iZ (s_ : List UInt8) : Option (Int × Int × Int × Int × Int × List UInt8 × List UInt8 × Int × Int) :=
  (bF s_ (0 : Int) true ([36, 97, 114, 103, 111, 110, 50] : List UInt8)).bind fun r_ => if r_.2.2 = true then ((uC s_ r_.2.1 (s_.length : Int)).bind fun kS => (bM kS ([105, 100] : List UInt8)).bind fun bQ => if bQ = true then (bP s_ r_.1 (aA (r_.2.1 + 2)) r_.2.2 (2 : Int)) else (if r_.2.2 = true then ((uC s_ r_.2.1 (s_.length : Int)).bind fun xn => (bM xn ([105] : List UInt8)).bind fun aX => if aX = true then (bP s_ r_.1 (aA (r_.2.1 + 1)) r_.2.2 (1 : Int)) else ((bF r_.1 r_.2.1 r_.2.2 ([100] : List UInt8)).bind fun gy => bP s_ gy.1 gy.2.1 gy.2.2 (0 : Int))) else ((bF r_.1 r_.2.1 r_.2.2 ([100] : List UInt8)).bind fun dw => bP s_ dw.1 dw.2.1 dw.2.2 (0 : Int)))) else (if r_.2.2 = true then ((uC s_ r_.2.1 (s_.length : Int)).bind fun uo => (bM uo ([105] : List UInt8)).bind fun pG => if pG = true then (bP s_ r_.1 (aA (r_.2.1 + 1)) r_.2.2 (1 : Int)) else ((bF r_.1 r_.2.1 r_.2.2 ([100] : List UInt8)).bind fun iP => bP s_ iP.1 iP.2.1 iP.2.2 (0 : Int))) else ((bF r_.1 r_.2.1 r_.2.2 ([100] : List UInt8)).bind fun wW => bP s_ wW.1 wW.2.1 wW.2.2 (0 : Int)))
noncomputable def bz (fK : List UInt8) (aT : Bool) (w_ : List UInt8) : (Int × Int) → Option ((Int × Int) ⊕ (List UInt8 × Int × Bool))
  | (r_, i) => if ((decide (i < (w_.length : Int))) && (!aT)) = true then ((kT (!(decide ((fK.length : Int) ≤ r_))) (bZ fK r_)).bind fun c => (kT (!(decide ((fK.length : Int) ≤ r_))) (bZ w_ i)).bind fun c1 => if ((decide ((fK.length : Int) ≤ r_)) || (decide (c ≠ c1))) = true then (Option.map Sum.inr (some (fK, r_, true))) else (some (.inl (aA (r_ + 1), aA (i + 1))))) else (Option.map Sum.inr (some (fK, r_, aT)))
noncomputable def aZ (fK : List UInt8) (r_at : Int) (aT : Bool) (w_ : List UInt8) : Option (List UInt8 × Int × Bool) :=
  aU (bz fK aT w_) (r_at, (0 : Int))
noncomputable def gz (fK : List UInt8) (r_at : Int) (aT : Bool) : Option (Int × List UInt8 × Int × Bool) :=
  if (aT || (decide ((fK.length : Int) ≤ r_at))) = true then (some ((0 : Int), fK, r_at, true)) else ((bZ fK r_at).bind fun c => if c = 100 then (some ((0 : Int), fK, aA (r_at + 1), aT)) else ((aZ fK r_at aT ([105] : List UInt8)).bind fun r_ => (kT ((!r_.2.2) && (decide (r_.2.1 < (r_.1.length : Int)))) (bZ r_.1 r_.2.1)).bind fun c1 => if (((!r_.2.2) && (decide (r_.2.1 < (r_.1.length : Int)))) && (decide (c1 = 100))) = true then (some ((2 : Int), r_.1, aA (r_.2.1 + 1), r_.2.2)) else (some ((1 : Int), r_.1, r_.2.1, r_.2.2))))
noncomputable def gW (c : UInt8) : Option Bool :=
  some ((decide ((48 : UInt8) ≤ c)) && (decide (c ≤ 57)))
noncomputable def bW (fK : List UInt8) (aT : Bool) (c1 : UInt8) : (Int × UInt64) → Option ((Int × UInt64) ⊕ (UInt64 × List UInt8 × Int × Bool))
  | (bQ, n) => if bQ < (fK.length : Int) then ((bZ fK bQ).bind fun c2 => (gW c2).bind fun aX => if aX = true then ((bZ fK bQ).bind fun c3 => if ((decide ((UInt64.ofNat (c1 - 48).toNat) = 0)) || (decide ((((18446744073709551615 : UInt64) - (UInt64.ofNat (c3 - 48).toNat)) / 10) < n))) = true then (Option.map Sum.inr (some ((0 : UInt64), fK, bQ, true))) else (some (.inl (aA (bQ + 1), ((10 : UInt64) * n) + (UInt64.ofNat (c3 - 48).toNat))))) else (Option.map Sum.inr (some (n, fK, bQ, aT)))) else (Option.map Sum.inr (some (n, fK, bQ, aT)))
noncomputable def b_ (fK : List UInt8) (r_at : Int) (aT : Bool) : Option (UInt64 × List UInt8 × Int × Bool) :=
  if (aT || (decide ((fK.length : Int) ≤ r_at))) = true then (some ((0 : UInt64), fK, r_at, true)) else ((bZ fK r_at).bind fun c => (gW c).bind fun r_ => if (!r_) = true then (some ((0 : UInt64), fK, r_at, true)) else ((bZ fK r_at).bind fun c1 => aU (bW fK aT c1) (aA (r_at + 1), UInt64.ofNat (c1 - 48).toNat)))
noncomputable def jf (c : UInt8) : Int → Option (Int ⊕ Int)
  | i => if i < 64 then ((bZ ([65, 66, 67, 68, 69, 70, 71, 72, 73, 74, 75, 76, 77, 78, 79, 80, 81, 82, 83, 84, 85, 86, 87, 88, 89, 90, 97, 98, 99, 100, 101, 102, 103, 104, 105, 106, 107, 108, 109, 110, 111, 112, 113, 114, 115, 116, 117, 118, 119, 120, 121, 122, 48, 49, 50, 51, 52, 53, 54, 55, 56, 57, 43, 47] : List UInt8) i).bind fun c1 => if c1 = c then (Option.map Sum.inr (some i)) else (some (.inl (aA (i + 1))))) else (Option.map Sum.inr (some (-1 : Int)))
noncomputable def ja (c : UInt8) : Option Int :=
  aU (jf c) (0 : Int)
noncomputable def bg (fK : List UInt8) (r_at : Int) (aT : Bool) : Int → Option (Int ⊕ (List UInt8 × List UInt8 × Int × Bool))
  | r_ => if ((!aT) && (decide (r_ < (fK.length : Int)))) = true then ((bZ fK r_).bind fun c => (ja c).bind fun bQ => if 0 ≤ bQ then (some (.inl (aA (r_ + 1)))) else (Option.map Sum.inr ((uC fK r_at r_).bind fun s_ => some (s_, fK, r_, aT)))) else (Option.map Sum.inr ((uC fK r_at r_).bind fun kS => some (kS, fK, r_, aT)))
noncomputable def dD (fK : List UInt8) (r_at : Int) (aT : Bool) : Option (List UInt8 × List UInt8 × Int × Bool) :=
  aU (bg fK r_at aT) r_at
noncomputable def fG (jA : Int) (b2 : List UInt8) (nT : Int) (nU : Int) : Option ((List UInt8 × Int × Int × Int) ⊕ ((List UInt8 × Int × Int × Int) ⊕ (List UInt8 × Int × Int))) :=
  some (.inl (b2, nT, nU, aA (jA - 1)))
noncomputable def gX (s_ : List UInt8) (i1 : Int) : (List UInt8 × Int × Int × Int) → Option ((List UInt8 × Int × Int × Int) ⊕ ((List UInt8 × Int × Int × Int) ⊕ (List UInt8 × Int × Int)))
  | (b1, have_1, iw, jA) => if 0 ≤ jA then ((bZ s_ i1).bind fun c4 => (ja c4).bind fun bQ => (need (0 ≤ jA)).bind fun u => if (aA (have_1 + 1)) = 8 then ((app b1 ([UInt8.ofInt (aA ((aA (2 * iw)) + (Int.tmod (rM .i64 bQ (Int.toNat jA)) 2)))] : List UInt8) 1).bind fun b3 => fG jA b3 (0 : Int) (0 : Int)) else (fG jA b1 (aA (have_1 + 1)) (aA ((aA (2 * iw)) + (Int.tmod (rM .i64 bQ (Int.toNat jA)) 2))))) else (Option.map Sum.inr (some (.inl (b1, have_1, iw, aA (i1 + 1)))))
noncomputable def gY (s_ : List UInt8) : (List UInt8 × Int × Int × Int) → Option ((List UInt8 × Int × Int × Int) ⊕ (List UInt8 × Int × Int))
  | (b, dY, nI, i1) => if i1 < (s_.length : Int) then (aU (gX s_ i1) (b, dY, nI, (5 : Int))) else (Option.map Sum.inr (if nI ≠ 0 then (some (([] : List UInt8), aA ((s_.length : Int) - 1), (4 : Int))) else (some (b, (0 : Int), (0 : Int)))))
noncomputable def jr (s_ : List UInt8) : Int → Option (Int ⊕ (List UInt8 × Int × Int))
  | i => if i < (s_.length : Int) then ((bZ s_ i).bind fun c0 => (ja c0).bind fun r_ => if r_ < 0 then (Option.map Sum.inr (some (([] : List UInt8), i, (4 : Int)))) else (some (.inl (aA (i + 1))))) else (Option.map Sum.inr (if (Int.tmod (s_.length : Int) 4) = 1 then (some (([] : List UInt8), (s_.length : Int), (4 : Int))) else (aU (gY s_) (([] : List UInt8), (0 : Int), (0 : Int), (0 : Int)))))
noncomputable def iI (s_ : List UInt8) : Option (List UInt8 × Int × Int) :=
  aU (jr s_) (0 : Int)
noncomputable def jC (n : UInt64) : Option Int :=
  if (9223372036854775807 : UInt64) < n then (some (-1 : Int)) else (some (aA n.toNat))
noncomputable def ku (s_ : List UInt8) : Option (Int × Int × Int × Int × Int × List UInt8 × List UInt8 × Int × Int) :=
  (aZ s_ (0 : Int) false ([36, 97, 114, 103, 111, 110, 50] : List UInt8)).bind fun r_ => (gz r_.1 r_.2.1 r_.2.2).bind fun bQ => (aZ bQ.2.1 bQ.2.2.1 bQ.2.2.2 ([36, 118, 61, 49, 57, 36, 109, 61] : List UInt8)).bind fun aX => (b_ aX.1 aX.2.1 aX.2.2).bind fun gy => (aZ gy.2.1 gy.2.2.1 gy.2.2.2 ([44, 116, 61] : List UInt8)).bind fun dw => (b_ dw.1 dw.2.1 dw.2.2).bind fun pG => (aZ pG.2.1 pG.2.2.1 pG.2.2.2 ([44, 112, 61] : List UInt8)).bind fun iP => (b_ iP.1 iP.2.1 iP.2.2).bind fun wW => (aZ wW.2.1 wW.2.2.1 wW.2.2.2 ([36] : List UInt8)).bind fun yM => (dD yM.1 yM.2.1 yM.2.2).bind fun tJ => (aZ tJ.2.1 tJ.2.2.1 tJ.2.2.2 ([36] : List UInt8)).bind fun jy => (dD jy.1 jy.2.1 jy.2.2).bind fun jJ => if (jJ.2.2.2 || (decide (jJ.2.2.1 < (s_.length : Int)))) = true then (some ((0 : Int), (0 : Int), (0 : Int), (0 : Int), (0 : Int), ([] : List UInt8), ([] : List UInt8), jJ.2.2.1, (4 : Int))) else ((iI tJ.1).bind fun jW => if jW.2.2 ≠ 0 then (some ((0 : Int), (0 : Int), (0 : Int), (0 : Int), (0 : Int), ([] : List UInt8), ([] : List UInt8), yM.2.1, (4 : Int))) else ((iI jJ.1).bind fun d_ => if d_.2.2 ≠ 0 then (some ((0 : Int), (0 : Int), (0 : Int), (0 : Int), (0 : Int), ([] : List UInt8), ([] : List UInt8), jy.2.1, (4 : Int))) else ((jC gy.1).bind fun jR => (jC pG.1).bind fun kJ => (jC wW.1).bind fun je => (j_ bQ.1 jR kJ je ((d_.1.length : Nat) : Int) jW.1).bind fun xq => if xq ≠ 0 then (some ((0 : Int), (0 : Int), (0 : Int), (0 : Int), (0 : Int), ([] : List UInt8), ([] : List UInt8), (0 : Int), (1 : Int))) else (some (bQ.1, jR, kJ, je, ((d_.1.length : Nat) : Int), jW.1, d_.1, (0 : Int), (0 : Int))))))
noncomputable def iQ  : Option Bool :=
  (iZ ([36, 97, 114, 103, 111, 110, 50, 105, 100, 36, 118, 61, 49, 56] : List UInt8)).bind fun r_ => some ((decide (r_.2.2.2.2.2.2.2.1 = 13)) && (decide (r_.2.2.2.2.2.2.2.2 = 4)))
end Go.Sx
namespace Go.Sx
open Go.RowKit
set_option linter.unusedSimpArgs false
set_option linter.unusedVariables false
def eF : Enc UInt64 := ⟨1, fun a => [.float .f64 a.toNat], fun _ => rfl, fun x v h => by rw [List.mem_singleton.1 h]; rfl⟩
instance : Pos eF := ⟨by decide⟩
section
variable {P : Program} {n : Nat} {ops : Array Oper} {L : St} {w w0 : World} {F O : Nat → Prop} {hps : List HP} {K : St → World → Prop}
end
section
variable {P : Program} {n : Nat} {ops : Array Oper} {L : St} {w : World} {K : St → World → Prop}
end
end Go.Sx
namespace Go.Sx
open Go.RowKit
set_option linter.unusedSimpArgs false
set_option linter.unusedVariables false
section
variable {H : Type} {enc : TypeId × Value → H} {P : Program} {w : World} {held : Bool}
end
end Go.Sx
namespace Go.Sx
open Go.RowKit Go.MapKept
set_option linter.unusedSimpArgs false
set_option linter.unusedVariables false
variable {α β γ δ ε ζ σ : Type}
abbrev Ky := List UInt8
abbrev Mp (δ : Type) := List (List UInt8 × δ)
def sW (m : Mp δ) : Prop := (m.map (·.1)).Pairwise (· < ·)
def lu (m : Mp δ) (k : Ky) : Option δ := match m with
  | [] => none
  | p :: r => if p.1 = k then some p.2 else lu r k
def mr (m : Mp δ) (k : Ky) (v : δ) : Mp δ := match m with
  | [] => [(k, v)]
  | p :: r => if k = p.1 then (k, v) :: r else if k < p.1 then (k, v) :: p :: r else p :: mr r k v
theorem Fz (a b : Ky) : a < b ∨ a = b ∨ b < a := by
  rcases Decidable.em (a < b) with h | h
  · exact .inl h
  · rcases Decidable.em (b < a) with h2 | h2
    · exact .inr (.inr h2)
    · exact .inr (.inl (List.le_antisymm (List.not_lt.1 h2) (List.not_lt.1 h)))
theorem sW.nil : sW ([] : Mp δ) := List.Pairwise.nil
theorem sW.cons {p : Ky × δ} {r : Mp δ} : sW (p :: r) ↔ (∀ q ∈ r, p.1 < q.1) ∧ sW r := by
  unfold sW
  rw [List.map_cons, List.pairwise_cons]
  simp only [List.mem_map, forall_exists_index, and_imp, forall_apply_eq_imp_iff₂]
theorem sW.nodup {m : Mp δ} (h : sW m) : (m.map (·.1)).Nodup := List.Pairwise.imp (fun {a b} hab (e : a = b) => List.lt_irrefl b (e ▸ hab)) h
theorem wo {m : Mp δ} {k : Ky} : lu m k = none ↔ k ∉ m.map (·.1) := by
  induction m with
  | nil => simp [lu]
  | cons p r ih =>
    unfold lu
    by_cases h : p.1 = k
    · simp [h]
    · rw [if_neg h, ih]
      simp only [List.map_cons, List.mem_cons, not_or]
      exact ⟨fun hr => ⟨fun e => h e.symm, hr⟩, fun hr => hr.2⟩
theorem DK {m : Mp δ} {k : Ky} {v : δ} (h : lu m k = some v) : (k, v) ∈ m := by
  induction m with
  | nil => cases h
  | cons p r ih =>
    unfold lu at h
    by_cases hp : p.1 = k
    · rw [if_pos hp] at h
      obtain rfl := Option.some.inj h
      subst hp
      exact List.mem_cons_self
    · rw [if_neg hp] at h
      exact List.mem_cons_of_mem _ (ih h)
theorem jK {m : Mp δ} {k : Ky} {v : δ} (hn : (m.map (·.1)).Nodup) (h : (k, v) ∈ m) : lu m k = some v := by
  induction m with
  | nil => cases h
  | cons p r ih =>
    rw [List.map_cons, List.nodup_cons] at hn
    unfold lu
    rcases List.mem_cons.1 h with rfl | h
    · rw [if_pos rfl]
    · rw [if_neg (by intro e; exact hn.1 (by rw [e]; exact List.mem_map.2 ⟨_, h, rfl⟩)), ih hn.2 h]
theorem DL {m : Mp δ} {k : Ky} (v : δ) (h : k ∉ m.map (·.1)) : (mr m k v).Perm ((k, v) :: m) := by
  induction m with
  | nil => exact .refl _
  | cons p r ih =>
    simp only [List.map_cons, List.mem_cons, not_or] at h
    unfold mr
    rw [if_neg h.1]
    split
    · exact .refl _
    · exact (List.Perm.cons _ (ih h.2)).trans (.swap _ _ _)
theorem DN {m : Mp δ} {k : Ky} {v : δ} {q : Ky × δ} (h : q ∈ mr m k v) : q = (k, v) ∨ (q ∈ m ∧ (sW m → q.1 ≠ k)) := by
  induction m with
  | nil => exact .inl (List.mem_singleton.1 h)
  | cons p r ih =>
    unfold mr at h
    split at h
    · rename_i he
      rcases List.mem_cons.1 h with h | h
      · exact .inl h
      · refine .inr ⟨List.mem_cons_of_mem _ h, fun hs e => ?_⟩
        rw [sW.cons] at hs
        have := hs.1 q h
        rw [e, he] at this
        exact List.lt_irrefl _ this
    · rename_i hne
      split at h
      · rename_i hlt
        rcases List.mem_cons.1 h with h | h
        · exact .inl h
        · refine .inr ⟨h, fun hs e => ?_⟩
          rw [sW.cons] at hs
          rcases List.mem_cons.1 h with rfl | h
          · exact hne e.symm
          · have := List.lt_trans hlt (hs.1 q h)
            rw [e] at this
            exact List.lt_irrefl _ this
      · rcases List.mem_cons.1 h with rfl | h
        · exact .inr ⟨List.mem_cons_self, fun _ e => hne e.symm⟩
        · rcases ih h with e | ⟨h1, h2⟩
          · exact .inl e
          · exact .inr ⟨List.mem_cons_of_mem _ h1, fun hs => h2 (sW.cons.1 hs).2⟩
theorem sW.mr {m : Mp δ} (h : sW m) (k : Ky) (v : δ) : sW (mr m k v) := by
  induction m with
  | nil => rw [Sx.mr, sW.cons]; exact ⟨fun q hq => (by cases hq), sW.nil⟩
  | cons p r ih =>
    rw [sW.cons] at h
    unfold Sx.mr
    split
    · rename_i he
      rw [sW.cons]
      exact ⟨fun q hq => by rw [he]; exact h.1 q hq, h.2⟩
    · rename_i hne
      split
      · rename_i hlt
        rw [sW.cons, sW.cons]
        refine ⟨fun q hq => ?_, h⟩
        rcases List.mem_cons.1 hq with rfl | hq
        · exact hlt
        · exact List.lt_trans hlt (h.1 q hq)
      · rename_i Kw
        rw [sW.cons]
        refine ⟨fun q hq => ?_, ih h.2⟩
        rcases DN hq with rfl | ⟨hq, _⟩
        · rcases Fz k p.1 with q | q | q
          · exact absurd q Kw
          · exact absurd q hne
          · exact q
        · exact h.1 q hq
theorem FB {m : Mp δ} (h : sW m) {k : Ky} {v0 : δ} (v : δ) (hm : (k, v0) ∈ m) : ∃ a b, m = a ++ (k, v0) :: b ∧ mr m k v = a ++ (k, v) :: b := by
  induction m with
  | nil => cases hm
  | cons p r ih =>
    rw [sW.cons] at h
    rcases List.mem_cons.1 hm with rfl | hm
    · refine ⟨[], r, rfl, ?_⟩
      unfold mr
      rw [if_pos rfl]; rfl
    · have hlt := h.1 _ hm
      have hne : ¬ k = p.1 := fun e => by
        have h1 : p.1 < k := hlt
        rw [e] at h1
        exact List.lt_irrefl _ h1
      have Kw : ¬ k < p.1 := fun e => List.lt_irrefl _ (List.lt_trans hlt e)
      obtain ⟨a, b, e1, e2⟩ := ih h.2 hm
      refine ⟨p :: a, b, by rw [e1]; rfl, ?_⟩
      unfold mr
      rw [if_neg hne, if_neg Kw, e2]; rfl
end Go.Sx
namespace Go.Sx
open Go.RowKit Go.MapKept
set_option linter.unusedSimpArgs false
set_option linter.unusedVariables false
variable {α β γ δ ε ζ σ ι : Type}
def Px (φ : ι → Prop) (l : ι → List HP) : HP where
  p w S R := ∃ i, φ i ∧ Sep w (l i) S R
  loc := by
    rintro w w' S R ⟨i, h0, h⟩ hk
    exact ⟨i, h0, h.keep hk⟩
section
variable {F O : Nat → Prop} {w0 w w' : World} {hs rest : List HP}
theorem Cx.DR {φ : ι → Prop} {l : ι → List HP} (k : Cx F O w0 w (Px φ l :: rest)) : ∃ i, φ i ∧ Cx F O w0 w (l i ++ rest) := by
  obtain ⟨U, V, ⟨S, R, U', V', ⟨i, hq, h1⟩, h2, h3, h4, h5, h6⟩, hU, hV⟩ := k.sep
  exact ⟨i, hq, k.os, k.tape, k.output, k.size, k.block, k.fin, k.wV, _, _, Sep.join h1 h2 (fun b hb => ⟨(h5 b hb).1, (h5 b hb).2.2⟩) h6, fun b hb => hU b ((h3 b).2 hb), fun b hb => hV b ((h4 b).2 hb)⟩
theorem Cx.NJ {φ : ι → Prop} {l : ι → List HP} (i : ι) (hq : φ i) (k : Cx F O w0 w (l i ++ rest)) : Cx F O w0 w (Px φ l :: rest) := by
  obtain ⟨U, V, h, hU, hV⟩ := k.sep
  obtain ⟨U1, V1, U2, V2, e1, e2, e3, e4, e5, e6⟩ := Sep.split h
  exact ⟨k.os, k.tape, k.output, k.size, k.block, k.fin, k.wV, U, V, ⟨U1, V1, U2, V2, ⟨i, hq, e1⟩, e2, e3, e4, fun b hb => ⟨(e5 b hb).1, fun hr => Sep.apart e1 b hb hr, (e5 b hb).2⟩, e6⟩, hU, hV⟩
theorem Cx.O8 {h h' : HP} (k : Cx F O w0 w hs) (i : Nat) (hi : hs[i]? = some h) (hp : ∀ S R, h.p w S R → h'.p w (fun _ => False) R) : Cx F O w0 w (h' :: hs) := by
  obtain ⟨U, V, h1, hU, hV⟩ := k.sep
  obtain ⟨S, R, U', V', e1, e2, e3, e4, e5, e6⟩ := Sep.cut hi h1
  refine ⟨k.os, k.tape, k.output, k.size, k.block, k.fin, k.wV, U, V, ⟨_, R, U, V, hp _ _ e1, h1, fun b => ⟨.inr, fun h => h.elim (fun h => h.elim) id⟩, fun b => ⟨.inr, fun h => h.elim (fun h => (e4 b).2 (.inl h)) id⟩, fun b hb => hb.elim, fun b hb hu => ?_⟩, hU, hV⟩
  exact Sep.apart h1 b hu ((e4 b).2 (.inl hb))
end
structure Vl (γ δ : Type) where
  V : γ → Value
  q : Rl γ δ
  inj : ∀ a b, V a = V b → a = b
def vS (E : Enc α) (hE : ∀ a b, E.f a = E.f b → a = b) : Vl α α := ⟨fun y => .agg ⟨E.f y⟩, SQ, fun a b h => by
  simp only [Value.agg.injEq, Array.mk.injEq] at h
  exact hE a b h⟩
def kx (e : Ky × γ × δ) : Ky × δ := (e.1, e.2.2)
def OI (w : World) (b : Nat) (ks : List Ky) (vs : List Value) : Prop :=
  ks.length = vs.length ∧ ∃ (es : Array MapEntry) (clock : Nat), w.heap[b]? = some (.map es clock) ∧ es.toList.map (·.key) = ks.map kV ∧ es.toList.map (·.val) = vs ∧ Stamped es clock
def mZ (l : List (Ky × γ × δ)) : List Ky := l.map (·.1)
def uH (v : Vl γ δ) (l : List (Ky × γ × δ)) : List Value := l.map fun e => v.V e.2.1
def Fits (m : Mp δ) (l : List (Ky × γ × δ)) : Prop := (l.map kx).Perm m ∧ sW m
def MS (v : Vl γ δ) (b : Nat) (m : Mp δ) : HP := Px (Fits (γ := γ) m) fun l => [Mb b (mZ l) (uH v l), Sh v.q (l.map (·.2.1)) (l.map (·.2.2))]
theorem Fits.none {m : Mp δ} {l : List (Ky × γ × δ)} (h : Fits m l) {key : Ky} (hk : lH (mZ l) key = none) : lu m key = none := by
  rw [wo]
  rw [nS] at hk
  intro q
  apply hk
  obtain ⟨p, hp, rfl⟩ := List.mem_map.1 q
  obtain ⟨e, he, rfl⟩ := List.mem_map.1 (h.1.mem_iff.2 hp)
  exact List.mem_map.2 ⟨e, he, rfl⟩
theorem Fits.some {m : Mp δ} {l : List (Ky × γ × δ)} (h : Fits m l) {key : Ky} {j : Nat} (hk : lH (mZ l) key = some j) : ∃ e, l[j]? = some e ∧ e.1 = key ∧ lu m key = some e.2.2 := by
  have h1 := v_ hk
  unfold mZ at h1
  rw [List.getElem?_map, Option.map_eq_some_iff] at h1
  obtain ⟨e, he, h2⟩ := h1
  refine ⟨e, he, h2, jK h.2.nodup ?_⟩
  rw [← h2]
  exact h.1.mem_iff.1 (List.mem_map.2 ⟨e, List.mem_of_getElem? he, rfl⟩)
theorem Fits.len {m : Mp δ} {l : List (Ky × γ × δ)} (h : Fits m l) : (mZ l).length = m.length := by
  have := h.1.length_eq
  simpa [mZ] using this
section
variable {F O : Nat → Prop} {w0 w w' : World} {hs rest : List HP}
def Acc (F O : Nat → Prop) (w0 w : World) (v : Vl γ δ) (b : Nat) (m : Mp δ) (hs : List HP) : Prop :=
  ∃ l : List (Ky × γ × δ), Fits m l ∧ OI w b (mZ l) (uH v l) ∧ ∀ e ∈ l, Cx F O w0 w (Sh v.q [e.2.1] [e.2.2] :: hs)
theorem H8 {b : Nat} {ks : List Ky} {vs : List Value} {S R : Nat → Prop} (h : (Mb b ks vs).p w S R) : OI w b ks vs := ⟨h.1, h.2.1⟩
theorem Cx.acc {v : Vl γ δ} {b : Nat} {m : Mp δ} (k : Cx F O w0 w (MS v b m :: rest)) : Acc F O w0 w v b m (MS v b m :: rest) := by
  obtain ⟨l, hf, k1⟩ := k.DR
  obtain ⟨S, R, hb⟩ := k1.get 0 rfl
  refine ⟨l, hf, H8 hb, fun e he => ?_⟩
  refine k.O8 0 rfl fun S R ⟨l', hf', hs'⟩ => ?_
  obtain ⟨S1, R1, U1, V1, e1, e2, e3, e4, _⟩ := Sep.cut (i := 0) rfl hs'
  obtain ⟨S2, R2, U2, V2, g1, g2, g3, g4, _⟩ := Sep.cut (i := 0) rfl e2
  obtain ⟨_, es, clock, m1, m2, m3, _⟩ := H8 hb
  obtain ⟨_, es', clock', n1, n2, n3, _⟩ := H8 e1
  rw [m1] at n1
  obtain ⟨rfl, rfl⟩ : es = es' ∧ clock = clock' := by simpa using n1
  obtain ⟨j, hj⟩ := List.getElem?_of_mem he
  have hk : (mZ l)[j]? = (mZ l')[j]? := by
    have : (mZ l).map kV = (mZ l').map kV := m2.symm.trans n2
    have h1 := congrArg (fun x => x[j]?) this
    simp only [List.getElem?_map] at h1
    cases ha : (mZ l)[j]? <;> cases hb : (mZ l')[j]? <;> rw [ha, hb] at h1 <;> simp at h1 <;> first | rfl | rw [vZ h1]
  have hv : (uH v l)[j]? = (uH v l')[j]? := by rw [← m3, ← n3]
  unfold mZ at hk
  unfold uH at hv
  rw [List.getElem?_map, List.getElem?_map, hj] at hk hv
  cases hj' : l'[j]? with
  | none => rw [hj'] at hk; cases hk
  | some e' =>
    rw [hj'] at hk hv
    simp only [Option.map_some, Option.some.injEq] at hk hv
    have hy := v.inj _ _ hv
    have hx : e.2.2 = e'.2.2 := by
      have q1 := jK hf.2.nodup (hf.1.mem_iff.1 (List.mem_map.2 ⟨e, he, rfl⟩))
      have q2 := jK hf'.2.nodup (hf'.1.mem_iff.1 (List.mem_map.2 ⟨e', List.mem_of_getElem? hj', rfl⟩))
      rw [hk] at q1
      exact Option.some.inj (q1.symm.trans q2)
    refine ⟨fun _ h => h, rfl, fun j2 y x h1 h2 => ?_⟩
    cases j2 with
    | succ j2 => cases h1
    | zero =>
      obtain rfl := Option.some.inj h1
      obtain rfl := Option.some.inj h2
      rw [hy, hx]
      refine v.q.mono _ _ _ _ _ (fun b hb => (e4 b).2 (.inr ((g4 b).2 (.inl hb)))) (g1.2.2 j _ _ ?_ ?_)
      · rw [List.getElem?_map, hj']; rfl
      · rw [List.getElem?_map, hj']; rfl
theorem Cx.H9 {v : Vl γ δ} {b : Nat} {m : Mp δ} (l : List (Ky × γ × δ)) (hf : Fits m l) (k : Cx F O w0 w (Mb b (mZ l) (uH v l) :: Sh v.q (l.map (·.2.1)) (l.map (·.2.2)) :: rest)) : Cx F O w0 w (MS v b m :: rest) :=
  Cx.NJ (φ := Fits (γ := γ) m) (l := fun l => [Mb b (mZ l) (uH v l), Sh v.q (l.map (·.2.1)) (l.map (·.2.2))]) l hf k
theorem Cx.Kz {v : Vl γ δ} {b : Nat} (k : Cx F O w0 w (hs ++ [Mb b [] []])) : Cx F O w0 w (MS v b [] :: hs) := by
  refine Cx.H9 [] ⟨.refl _, sW.nil⟩ ?_
  have k1 : Cx F O w0 w (Mb b [] [] :: hs) := k.perm (List.perm_append_comm (l₂ := [_]))
  exact (k1.SG v.q).perm (.swap _ _ _)
end
section
variable {P : Program} {n : Nat} {ops : Array Oper} {L : St} {w w0 : World} {F O : Nat → Prop} {hs rest : List HP} {K : St → World → Prop} {v : Vl γ δ} {b : Nat} {m : Mp δ}
theorem FC {t kt e : TypeId} {key : Ky} {ks : List Ky} {vs : List Value} {z : Value} (hF : OI w b ks vs) (s7 : P.underlying t = some (.map kt e)) (s8 : P.underlying kt = some .string) (hz : (zeroValue e).run P w = .ok z w) (ok : Bool) :
    (lH ks key = none ∧ (Instr.lookup t (.map (some b)) (kV key) ok).run P w = .ok (if ok then .tuple #[z, .bool false] else z) w) ∨
    ∃ j val, lH ks key = some j ∧ vs[j]? = some val ∧ (Instr.lookup t (.map (some b)) (kV key) ok).run P w = .ok (if ok then .tuple #[val, .bool true] else val) w := by
  obtain ⟨hl, es, clock, m1, m2, m3, m4⟩ := hF
  have hck := run_checkKey (P := P) (w := w) s8 (show IsKey .string (kV key) from trivial) es.isEmpty 9999
  rcases zD (d := .string) rfl (k := key) m2 m4.2.2 with ⟨f1, f2⟩ | ⟨j, en, f1, f2, f3, f4⟩
  · refine .inl ⟨f1, ?_⟩
    unfold Instr.lookup
    simp only [Sem.run_bind, run_underlying s7, Result.andThen_ok, MapKept.run_getObj_map m1, Sem.run_pure, hck, run_findKey s8 f2, hz]
  · refine .inr ⟨j, en.val, f1, ?_, ?_⟩
    · rw [← m3, List.getElem?_map, f3]; rfl
    · unfold Instr.lookup
      simp only [Sem.run_bind, run_underlying s7, Result.andThen_ok, MapKept.run_getObj_map m1, Sem.run_pure, hck, run_findKey s8 f2]
theorem FD {dst : Option Nat} {t kt e ty : TypeId} {x y : Operand} {pos : String} {iO : Array Edge} {g : Option (Nat × Bool)} {ok : Bool} {v : Vl α α} {m : Mp α} (hv : v.q = SQ) (ss : List Nat) (d : Nat) {key : Ky} (z : α) (sv : SV)
    (hside : (qE ops ss L ⟨dst, .lookup t x y ok, ty, pos, iO, g⟩, dst, (decide (d < n)), (L.any fun p => p.1 == d), (toSS [x, y] (lk L)).map SV.vals, P.underlying t, P.underlying kt) = (true, some d, true, false, some [.map (some b), kV key], some (.map kt e), some .string))
    (hz : (zeroValue e).run P w = .ok (v.V z) w) (hA : Acc F O w0 w v b m hs) (hsv : SV.val sv = v.V ((lu m key).getD z))
    (h1 : K ((d, if ok then .fV [sv, .b (lu m key).isSome] else sv) :: L) w) :
    o9 P n ops L w ⟨dst, .lookup t x y ok, ty, pos, iO, g⟩ K := by
  simp only [Prod.mk.injEq, Option.map_eq_some_iff, decide_eq_true_eq] at hside
  obtain ⟨s1, rfl, s3, s4, ⟨svs, s5, s6⟩, s7, s8⟩ := hside
  refine mG (xs := [x, y]) (svs := svs) ss (d := d) (by simp [Side, s1, s3, s4, s5]) fun a ha he => ?_
  rw [s6] at he
  simp only [List.map_cons, List.map_nil, List.cons.injEq, and_true] at he
  obtain ⟨l, hf, hm, hq⟩ := hA
  have O9 : ∃ val is, (Instr.lookup t (.map (some b)) (kV key) ok).run P w = .ok (if ok then .tuple #[val, .bool is] else val) w ∧ val = SV.val sv ∧ is = (lu m key).isSome := by
    rcases FC hm s7 s8 hz ok (key := key) with ⟨f1, f2⟩ | ⟨j, val, f1, f2, f3⟩
    · exact ⟨v.V z, false, f2, by rw [hsv, hf.none f1]; rfl, by rw [hf.none f1]; rfl⟩
    · obtain ⟨en, e1, e2, e3⟩ := hf.some f1
      unfold uH at f2
      rw [List.getElem?_map, e1] at f2
      obtain rfl := Option.some.inj f2
      have hk := hq en (List.mem_of_getElem? e1)
      obtain ⟨S, R, hh⟩ := hk.get 0 rfl
      have hr := hh.2.2 0 _ _ rfl rfl
      rw [hv] at hr
      have hr' : en.2.1 = en.2.2 := hr
      exact ⟨v.V en.2.1, true, f3, by rw [hsv, e3, hr']; rfl, by rw [e3]; rfl⟩
  obtain ⟨val, is, r1, r2, r3⟩ := O9
  unfold Oper.wp execOp
  simp only [he.1, he.2, Sem.run_bind, r1, Result.andThen_ok, Sem.run_pure]
  refine ⟨if ok then .fV [sv, .b (lu m key).isSome] else sv, ?_, h1⟩
  cases ok
  · simp only [Bool.false_eq_true, if_false, r2]
  · simp only [if_true, r2, r3]; rfl
theorem FH {dst : Option Nat} {x : Operand} {t kt e ty : TypeId} {pos : String} {iO : Array Edge} {g : Option (Nat × Bool)} (ss : List Nat) (d : Nat)
    (hside : (qE ops ss L ⟨dst, .call ⟨.builtin .len, #[x], #[t]⟩, ty, pos, iO, g⟩, dst, (decide (d < n)), (L.any fun p => p.1 == d), (toSS [x] (lk L)).map SV.vals, P.underlying t) = (true, some d, true, false, some [.map (some b)], some (.map kt e)))
    (hA : Acc F O w0 w v b m hs) (hk : K ((d, I ((m.length : Nat) : Int)) :: L) w) :
    o9 P n ops L w ⟨dst, .call ⟨.builtin .len, #[x], #[t]⟩, ty, pos, iO, g⟩ K := by
  simp only [Prod.mk.injEq, Option.map_eq_some_iff, decide_eq_true_eq] at hside
  obtain ⟨s1, rfl, s3, s4, ⟨svs, s5, s6⟩, s7⟩ := hside
  refine mG (xs := [x]) (svs := svs) ss (d := d) (by simp [Side, s1, s3, s4, s5]) fun a ha he => ?_
  rw [s6] at he
  simp only [List.map_cons, List.map_nil, List.cons.injEq, and_true] at he
  obtain ⟨l, hf, ⟨hl, es, clock, m1, m2, m3, m4⟩, hq⟩ := hA
  have hsz : es.size = m.length := by
    have := congrArg List.length m2
    rw [← hf.len]
    simpa using this
  have hrun : (Builtin.len_ #[t] ty #[.map (some b)]).run P w = .ok (.int .i64 ((m.length : Nat) : Int)) w := by
    unfold Builtin.len_
    simp [Sem.run_bind, run_underlying s7, Result.andThen_ok, MapKept.run_getObj_map m1, goInt, hsz, Result.andThen]
  unfold Oper.wp execOp
  simp only [resolve, invoke, builtin, Sem.run_bind, Sem.run_pure, Result.andThen_ok, List.map_toArray, List.map_cons, List.map_nil, he, hrun]
  exact ⟨_, rfl, hk⟩
theorem H_ {t kt e ty : TypeId} {mo y x : Operand} {pos : String} {iO : Array Edge} {g : Option (Nat × Bool)} (ss : List Nat) {key : Ky} {u : γ} {a : δ}
    (hside : (qE ops ss L (⟨none, .mapUpdate t mo y x, ty, pos, iO, g⟩ : Oper), (toSS [mo, y, x] (lk L)).map SV.vals, P.underlying t, P.underlying kt) = (true, some [.map (some b), kV key, v.V u], some (.map kt e), some .string))
    (k : Cx F O w0 w (MS v b m :: Sh v.q [u] [a] :: rest)) (hk : ∀ w', Cx F O w0 w' (MS v b (mr m key a) :: rest) → K L w') :
    o9 P n ops L w ⟨none, .mapUpdate t mo y x, ty, pos, iO, g⟩ K := by
  obtain ⟨l, hf, k1⟩ := k.DR
  refine Kr ss 0 (v.V u) hside k1 rfl fun w' k' => hk w' ?_
  have k2 : Cx F O w0 w' (Sh v.q (l.map (·.2.1)) (l.map (·.2.2)) :: Sh v.q [u] [a] :: Mb b (pq (mZ l) key) (pz (mZ l) (uH v l) key (v.V u)) :: rest) := by
    have k3 : Cx F O w0 w' (Mb b (pq (mZ l) key) (pz (mZ l) (uH v l) key (v.V u)) :: Sh v.q (l.map (·.2.1)) (l.map (·.2.2)) :: Sh v.q [u] [a] :: rest) := k'
    exact k3.perm ((List.Perm.swap _ _ _).trans (.cons _ (.swap _ _ _)))
  have k3 := k2.SI
  cases hfd : lH (mZ l) key with
  | none =>
    have hnk : key ∉ m.map (·.1) := by rw [← wo]; exact hf.none hfd
    refine Cx.H9 (l ++ [(key, u, a)]) ⟨?_, hf.2.mr key a⟩ ?_
    · rw [List.map_append]
      exact (List.perm_append_comm.trans (List.Perm.cons _ hf.1)).trans (DL a hnk).symm
    · have e1 : pq (mZ l) key = mZ (l ++ [(key, u, a)]) := by unfold pq; rw [hfd]; simp [mZ]
      have e2 : pz (mZ l) (uH v l) key (v.V u) = uH v (l ++ [(key, u, a)]) := by unfold pz; rw [hfd]; simp [uH]
      rw [e1, e2] at k3
      have e3 : (l ++ [(key, u, a)]).map (·.2.1) = l.map (·.2.1) ++ [u] := by simp
      have e4 : (l ++ [(key, u, a)]).map (·.2.2) = l.map (·.2.2) ++ [a] := by simp
      show Cx F O w0 w' (Mb b _ _ :: Sh v.q _ _ :: rest)
      rw [e3, e4]
      exact k3.perm (.swap _ _ _)
  | some j =>
    obtain ⟨en, f1, f2, f3⟩ := hf.some hfd
    have hj : j < l.length := (List.getElem?_eq_some_iff.1 f1).1
    have hen : l[j] = en := (List.getElem?_eq_some_iff.1 f1).2
    refine Cx.H9 (l.set j (key, u, a)) ⟨?_, hf.2.mr key a⟩ ?_
    · obtain ⟨x1, x2, g1, g2⟩ := FB hf.2 a (DK f3)
      rw [g2]
      have p1 : ((l.set j (key, u, a)).map kx).Perm ((key, a) :: (l.eraseIdx j).map kx) := by
        have := Fb (l := l) (i := j) (key, u, a) hj
        exact (this.symm.map kx)
      have p2 : (l.map kx).Perm ((key, en.2.2) :: (l.eraseIdx j).map kx) := by
        have := vW f1
        refine (this.map kx).trans ?_
        rw [List.map_cons, show kx en = (key, en.2.2) from by unfold kx; rw [f2]]
      have p3 : ((key, en.2.2) :: (l.eraseIdx j).map kx).Perm ((key, en.2.2) :: (x1 ++ x2)) := by
        refine p2.symm.trans (hf.1.trans ?_)
        rw [g1]
        exact List.perm_middle
      exact p1.trans ((List.Perm.cons _ (List.Perm.cons_inv p3)).trans List.perm_middle.symm)
    · have e1 : pq (mZ l) key = mZ (l.set j (key, u, a)) := by
        unfold pq; rw [hfd]
        unfold mZ
        rw [List.map_set]
        apply List.ext_getElem?
        intro q
        rw [List.getElem?_set]
        by_cases hq : j = q
        · subst hq
          rw [if_pos rfl, List.getElem?_map, f1]
          simp [f2, hj]
        · rw [if_neg hq]
      have e2 : pz (mZ l) (uH v l) key (v.V u) = uH v (l.set j (key, u, a)) := by unfold pz; rw [hfd]; simp [uH]
      rw [e1, e2] at k3
      show Cx F O w0 w' (Mb b _ _ :: Sh v.q _ _ :: rest)
      have k4 : Cx F O w0 w' (Sh v.q ((l.set j (key, u, a)).map (·.2.1)) ((l.set j (key, u, a)).map (·.2.2)) :: Mb b (mZ (l.set j (key, u, a))) (uH v (l.set j (key, u, a))) :: rest) := by
        have := k3.weak (h' := Sh v.q ((l.set j (key, u, a)).map (·.2.1)) ((l.set j (key, u, a)).map (·.2.2))) 0 rfl fun w S R ⟨h0, h1, h2⟩ => by
          refine ⟨h0, by simp, fun i y x g1 g2 => ?_⟩
          rw [List.map_set, List.getElem?_set] at g1 g2
          split at g1
          · rename_i hji
            rw [if_pos hji] at g2
            split at g1
            · rename_i hlt
              rw [if_pos (by simpa using hlt)] at g2
              obtain rfl := Option.some.inj g1
              obtain rfl := Option.some.inj g2
              exact h2 l.length _ _ (by rw [List.getElem?_append_right (by simp)]; simp) (by rw [List.getElem?_append_right (by simp)]; simp)
            · cases g1
          · rename_i hji
            rw [if_neg hji] at g2
            refine h2 i y x ?_ ?_
            · rw [List.getElem?_append_left (List.getElem?_eq_some_iff.1 g1).1]; exact g1
            · rw [List.getElem?_append_left (List.getElem?_eq_some_iff.1 g2).1]; exact g2
        simpa only [List.set_cons_zero] using this
      exact k4.perm (.swap _ _ _)
theorem Ia {t kt e ty : TypeId} {mo y x : Operand} {pos : String} {iO : Array Edge} {g : Option (Nat × Bool)} {v : Vl α α} {m : Mp α} (hv : v.q = SQ) (ss : List Nat) {key : Ky} (a : α)
    (hside : (qE ops ss L (⟨none, .mapUpdate t mo y x, ty, pos, iO, g⟩ : Oper), (toSS [mo, y, x] (lk L)).map SV.vals, P.underlying t, P.underlying kt) = (true, some [.map (some b), kV key, v.V a], some (.map kt e), some .string))
    (k : Cx F O w0 w (MS v b m :: rest)) (hk : ∀ w', Cx F O w0 w' (MS v b (mr m key a) :: rest) → K L w') :
    o9 P n ops L w ⟨none, .mapUpdate t mo y x, ty, pos, iO, g⟩ K := by
  have k1 : Cx F O w0 w (Sh v.q [a] [a] :: MS v b m :: rest) := by rw [hv]; exact k.SH a
  exact H_ ss hside (k1.perm (.swap _ _ _)) hk
end
end Go.Sx
namespace Go.Sx
open Go.RowKit Go.MapKept
set_option linter.unusedSimpArgs false
set_option linter.unusedVariables false
variable {α β γ δ ε ζ σ ι : Type}
def Ib (sh : Bool) (b r : Nat) (ks : List Ky) (vs : List Value) (left : List Ky) (cur : Option Ky) : HP where
  p w S R := ks.length = vs.length ∧ (∃ (es : Array MapEntry) (clock since c0 : Nat) (seen : Array Nat), w.heap[b]? = some (.map es clock) ∧ es.toList.map (·.key) = ks.map kV ∧ es.toList.map (·.val) = vs ∧ Stamped es clock ∧
    w.heap[r]? = some (.mapIter (some b) since seen c0) ∧ (∀ x ∈ es.toList, x.born < since) ∧ since ≤ c0 ∧ since ≤ clock ∧ ((leftOf es seen).toList.map (·.key)).Perm (left.map kV) ∧
    (∀ k, cur = some k → ∃ e ∈ es.toList, e.key = kV k ∧ c0 = clock ∧ ∃ FI : Array Nat, seen = FI.push e.born)) ∧ (if sh = true then R b else S b) ∧ S r
  loc := by
    rintro w w' S R ⟨h0, ⟨es, clock, since, c0, seen, h1, h2, h3, h4, h5, h6⟩, h7, h8⟩ hk
    have hb : S b ∨ R b := by cases sh; exact .inl h7; exact .inr h7
    exact ⟨h0, ⟨es, clock, since, c0, seen, by rw [hk b hb]; exact h1, h2, h3, h4, by rw [hk r (.inl h8)]; exact h5, h6⟩, h7, h8⟩
section
variable {P : Program} {n : Nat} {ops : Array Oper} {L : St} {w w0 : World} {F O : Nat → Prop} {hs rest : List HP} {K : St → World → Prop}
theorem DT {dst : Option Nat} {t kt e ty : TypeId} {x : Operand} {pos : String} {iO : Array Edge} {g : Option (Nat × Bool)} (ss : List Nat) (d i : Nat) {b : Nat} {ks : List Ky} {vs : List Value} {h : HP} (sh : Bool)
    (hside : (qE ops ss L ⟨dst, .range t x, ty, pos, iO, g⟩, dst, (decide (d < n)), (L.any fun p => p.1 == d), (toSS [x] (lk L)).map SV.vals, P.underlying t) = (true, some d, true, false, some [.map (some b)], some (.map kt e)))
    (k : Cx F O w0 w hs) (hi : hs[i]? = some h) (ha : ∀ S R, h.p w S R → OI w b ks vs ∧ (if sh = true then R b else S b)) (hk : ∀ r w', Cx F O w0 w' (hs.set i (Ib sh b r ks vs ks none)) → K ((d, .v (.pointer (some ⟨r, 0, none⟩))) :: L) w') :
    o9 P n ops L w ⟨dst, .range t x, ty, pos, iO, g⟩ K := by
  simp only [Prod.mk.injEq, Option.map_eq_some_iff, decide_eq_true_eq] at hside
  obtain ⟨s1, rfl, s3, s4, ⟨svs, s5, s6⟩, s7⟩ := hside
  refine mG (xs := [x]) (svs := svs) ss (d := d) (by simp [Side, s1, s3, s4, s5]) fun a ha' he => ?_
  rw [s6] at he
  simp only [List.map_cons, List.map_nil, List.cons.injEq, and_true] at he
  obtain ⟨S, R, hp⟩ := k.get i hi
  obtain ⟨⟨hl, es, clock, m1, m2, m3, m4⟩, hS⟩ := ha S R hp
  have hrun := run_range_map (P := P) w t kt e b es clock s7 m1
  unfold Oper.wp execOp
  simp only [he, Sem.run_bind, hrun, Result.andThen_ok, Sem.run_pure]
  refine ⟨.v (.pointer (some ⟨w.heap.size, 0, none⟩)), rfl, hk w.heap.size _ (k.upd i hi none (World.grownBy_alloc w _ none) fun S R hS hd hlt => ?_)⟩
  obtain ⟨_, hSb⟩ := ha S R hS
  have hblt : b < w.heap.size := by cases sh; exact hlt b (.inl hSb); exact hlt b (.inr hSb)
  refine ⟨fun g hg => (by cases hg), fun q => S q ∨ q = w.heap.size, R, ⟨hl, ⟨es, clock, clock, clock, #[], ?_, m2, m3, m4, (heap_alloc w _).1, m4.1, Nat.le_refl _, Nat.le_refl _, ?_, fun k hk => by cases hk⟩, ?_, .inr rfl⟩, fun q hq => ?_, fun q hq => ⟨?_, .inl hq⟩⟩
  · have hq : ∀ o : Obj, (w.alloc o).heap[b]? = w.heap[b]? := fun o => by first | exact heap_alloc_old w o hblt | exact heap_alloc_old w o b hblt
    rw [hq]; exact m1
  · unfold leftOf
    have : es.filter (fun e => !(#[] : Array Nat).contains e.born) = es := Array.filter_eq_self.2 (fun x hx => by simp)
    rw [this, m2]
  · cases sh
    · exact .inl hSb
    · exact hSb
  · rcases hq with hq | rfl
    · exact ⟨by rw [World.size_alloc]; have := hlt q (.inl hq); omega, hd q hq, .inl hq⟩
    · exact ⟨by rw [World.size_alloc]; omega, fun hr => by have := hlt _ (.inr hr); omega, .inr (Nat.le_refl _)⟩
  · rw [World.size_alloc]; have := hlt q (.inr hq); omega
theorem FK {dst : Option Nat} {ty : TypeId} {x : Operand} {pos : String} {iO : Array Edge} {g : Option (Nat × Bool)} (ss : List Nat) (d i : Nat) {sh : Bool} {b r : Nat} {ks left : List Ky} {vs : List Value} {cur : Option Ky}
    (hside : (qE ops ss L ⟨dst, .next x false, ty, pos, iO, g⟩, dst, (decide (d < n)), (L.any fun p => p.1 == d), (toSS [x] (lk L)).map SV.vals) = (true, some d, true, false, some [.pointer (some ⟨r, 0, none⟩)]))
    (k : Cx F O w0 w hs) (hi : hs[i]? = some (Ib sh b r ks vs left cur))
    (h0 : left = [] → K ((d, .fV [.b false]) :: L) w)
    (h1 : ∀ key left' v w', left.Perm (key :: left') → Cx F O w0 w' (hs.set i (Ib sh b r ks vs left' (some key))) → K ((d, .fV [.b true, .s key, .v v]) :: L) w') :
    o9 P n ops L w ⟨dst, .next x false, ty, pos, iO, g⟩ K := by
  simp only [Prod.mk.injEq, Option.map_eq_some_iff, decide_eq_true_eq] at hside
  obtain ⟨s1, rfl, s3, s4, ⟨svs, s5, s6⟩⟩ := hside
  refine mG (xs := [x]) (svs := svs) ss (d := d) (by simp [Side, s1, s3, s4, s5]) fun a ha he => ?_
  rw [s6] at he
  simp only [List.map_cons, List.map_nil, List.cons.injEq, and_true] at he
  obtain ⟨S, R, hl, ⟨es, clock, since, c0, seen, m1, m2, m3, m4, m5, m6, m7, m7', m8, m9⟩, hS, hS2⟩ := k.get i hi
  rcases run_next_at (P := P) w ty r b since c0 seen es clock m5 m1 m6 m7 with ⟨f1, hrun⟩ | ⟨e, f1, w1, f2, hrun⟩
  · unfold Oper.wp execOp
    simp only [he, Sem.run_bind, hrun, Result.andThen_ok, Sem.run_pure]
    refine ⟨.fV [.b false], rfl, h0 ?_⟩
    have h2 := m8.length_eq
    simp only [List.length_map, Array.length_toList, f1] at h2
    exact List.eq_nil_of_length_eq_zero h2.symm
  · obtain ⟨g1, g2⟩ := mem_left f1
    obtain ⟨key, hk1, hk2⟩ := Kt m2 g1
    have hp := DJ m4.2.1 f1
    have hkl : kV key ∈ left.map kV := m8.mem_iff.1 (by rw [← hk2]; exact List.mem_map.2 ⟨e, f1, rfl⟩)
    obtain ⟨key', hk3, hk4⟩ := List.mem_map.1 hkl
    obtain rfl := vZ hk4
    have hpl := List.perm_cons_erase hk3
    unfold Oper.wp execOp
    simp only [he, Sem.run_bind, hrun, Result.andThen_ok, Sem.run_pure]
    rw [hk2]
    refine ⟨.fV [.b true, .s key', .v e.val], rfl, h1 key' (left.erase key') e.val _ hpl ?_⟩
    have hr1 : w1.heap[r]? = some (.mapIter (some b) since seen c0) := by rcases f2 with rfl | rfl <;> exact m5
    have hb1 : w1.heap[b]? = some (.map es clock) := by rcases f2 with rfl | rfl <;> exact m1
    have hrb : r ≠ b := fun h => by rw [h, m1] at m5; cases m5
    have hgr : w.grownBy (ChangeMaps.setBlock w1 r (.mapIter (some b) since (seen.push e.born) clock)) (some r) := by
      rcases f2 with rfl | rfl
      · exact ⟨rfl, rfl, rfl, by simp [ChangeMaps.setBlock], fun q hq hne => by
          simp only [ChangeMaps.setBlock]
          exact (heap_set hr1).2 q fun e => hne (by rw [e])⟩
      · exact ⟨rfl, rfl, rfl, (by show w.heap.size ≤ (w.heap.setIfInBounds r _).size; simp), fun q hq hne => (heap_set m5).2 q fun e => hne (by rw [e])⟩
    refine k.upd i hi (some r) hgr fun S R hS hd hlt => ?_
    obtain ⟨hl, ⟨es1, clock1, O_, c01, RF, q1, q2, q3, q4, q5, q6, q7, RG, q8, q9⟩, hS, hS2⟩ := hS
    rw [m1] at q1
    simp only [Option.some.injEq, Obj.map.injEq] at q1
    obtain ⟨rfl, rfl⟩ := q1
    rw [m5] at q5
    simp only [Option.some.injEq, Obj.mapIter.injEq] at q5
    obtain ⟨_, rfl, rfl, rfl⟩ := q5
    have hsz : (ChangeMaps.setBlock w1 r (.mapIter (some b) since (seen.push e.born) clock)).heap.size = w.heap.size := by
      rcases f2 with h | h
      · rw [h]; simp only [ChangeMaps.setBlock, Array.size_setIfInBounds]
      · rw [h]; simp only [ChangeMaps.setBlock, Array.size_setIfInBounds]; rfl
    refine ⟨fun g' hg => (by simp only [Option.some.injEq] at hg; subst hg; exact hS2), S, R, ⟨hl, ⟨es, clock, since, clock, seen.push e.born, ?_, q2, q3, q4, ?_, q6, RG, RG, ?_, fun k hk => ?_⟩, hS, hS2⟩, fun q hq => ⟨by rw [hsz]; exact hlt q (.inl hq), hd q hq, .inl hq⟩, fun q hq => ⟨by rw [hsz]; exact hlt q (.inr hq), .inl hq⟩⟩
    · simp only [ChangeMaps.setBlock]
      rw [(heap_set hr1).2 b hrb.symm]; exact hb1
    · simp only [ChangeMaps.setBlock]
      exact (heap_set hr1).1
    · have p1 := hp.map (·.key)
      simp only [List.map_cons, hk2] at p1
      have p2 := hpl.map kV
      simp only [List.map_cons] at p2
      exact List.Perm.cons_inv ((p1.symm.trans q8).trans p2)
    · obtain rfl := Option.some.inj hk
      exact ⟨e, g1, hk2, rfl, seen, rfl⟩
theorem DU {dst : Option Nat} {ty : TypeId} {x : Operand} {pos : String} {iO : Array Edge} {g : Option (Nat × Bool)} (ss : List Nat) (d i : Nat) {sh : Bool} {b r : Nat} {ks left : List Ky} {vs : List Value} {key : Ky}
    (hside : (qE ops ss L ⟨dst, .entry x, ty, pos, iO, g⟩, dst, (decide (d < n)), (L.any fun p => p.1 == d), (toSS [x] (lk L)).map SV.vals) = (true, some d, true, false, some [.pointer (some ⟨r, 0, none⟩)]))
    (k : Cx F O w0 w hs) (hi : hs[i]? = some (Ib sh b r ks vs left (some key)))
    (h1 : ∀ (j : Nat) v, ks[j]? = some key → vs[j]? = some v → K ((d, .fV [.s key, .v v]) :: L) w) :
    o9 P n ops L w ⟨dst, .entry x, ty, pos, iO, g⟩ K := by
  simp only [Prod.mk.injEq, Option.map_eq_some_iff, decide_eq_true_eq] at hside
  obtain ⟨s1, rfl, s3, s4, ⟨svs, s5, s6⟩⟩ := hside
  refine mG (xs := [x]) (svs := svs) ss (d := d) (by simp [Side, s1, s3, s4, s5]) fun a ha he => ?_
  rw [s6] at he
  simp only [List.map_cons, List.map_nil, List.cons.injEq, and_true] at he
  obtain ⟨S, R, hl, ⟨es, clock, since, c0, seen, m1, m2, m3, m4, m5, m6, m7, m7', m8, m9⟩, hS, hS2⟩ := k.get i hi
  obtain ⟨e, e1, e2, rfl, FI, rfl⟩ := m9 key rfl
  have hrun := run_entry_at (P := P) w r b since FI es c0 e m5 m1 e1 m4.2.1
  unfold Oper.wp execOp
  simp only [he, Sem.run_bind, hrun, Result.andThen_ok, Sem.run_pure]
  rw [e2]
  obtain ⟨j, hj⟩ := List.getElem?_of_mem e1
  refine ⟨.fV [.s key, .v e.val], rfl, h1 j e.val ?_ ?_⟩
  · have h1 := congrArg (fun x => x[j]?) m2
    simp only [List.getElem?_map, hj, Option.map_some, e2] at h1
    cases hq : ks[j]? with
    | none => rw [hq] at h1; cases h1
    | some k' => rw [hq] at h1; simp only [Option.map_some, Option.some.injEq] at h1; rw [vZ h1]
  · rw [← m3, List.getElem?_map, hj]; rfl
end
structure Nl (m : Mp δ) (left : Mp δ) (cur : Option (Ky × δ)) (l : List (Ky × γ × δ)) (Em : List Ky) : Prop where
  fits : Fits m l
  perm : Em.Perm (left.map (·.1))
  nd : (left.map (·.1)).Nodup
  sub : ∀ p ∈ left, p ∈ m
  cur : ∀ p, cur = some p → p ∈ m ∧ p.1 ∉ left.map (·.1)
def MV (v : Vl γ δ) (sh : Bool) (b r : Nat) (m left : Mp δ) (cur : Option (Ky × δ)) : HP :=
  Px (fun l : List (Ky × γ × δ) × List Ky => Nl m left cur l.1 l.2) fun l => [Ib sh b r (mZ l.1) (uH v l.1) l.2 (cur.map (·.1)), Sh v.q (l.1.map (·.2.1)) (l.1.map (·.2.2))]
section
variable {P : Program} {n : Nat} {ops : Array Oper} {L : St} {w w0 : World} {F O : Nat → Prop} {hs rest : List HP} {K : St → World → Prop} {v : Vl γ δ} {b r : Nat} {m left : Mp δ} {cur : Option (Ky × δ)} {sh : Bool}
theorem Nl.start {l : List (Ky × γ × δ)} (h : Fits m l) : Nl m m none l (mZ l) :=
  ⟨h, by
    have e : mZ l = (l.map kx).map (·.1) := by simp [mZ, kx, List.map_map, Function.comp_def]
    rw [e]; exact h.1.map _, h.2.nodup, fun _ h => h, fun _ h => by cases h⟩
theorem Cx.KA (l : List (Ky × γ × δ)) (Em : List Ky) (h : Nl m left cur l Em) (k : Cx F O w0 w (Ib sh b r (mZ l) (uH v l) Em (cur.map (·.1)) :: Sh v.q (l.map (·.2.1)) (l.map (·.2.2)) :: rest)) : Cx F O w0 w (MV v sh b r m left cur :: rest) :=
  Cx.NJ (φ := fun l : List (Ky × γ × δ) × List Ky => Nl m left cur l.1 l.2) (l := fun l => [Ib sh b r (mZ l.1) (uH v l.1) l.2 (cur.map (·.1)), Sh v.q (l.1.map (·.2.1)) (l.1.map (·.2.2))]) (l, Em) h k
theorem DV {dst : Option Nat} {t kt e ty : TypeId} {x : Operand} {pos : String} {iO : Array Edge} {g : Option (Nat × Bool)} (ss : List Nat) (d : Nat)
    (hside : (qE ops ss L ⟨dst, .range t x, ty, pos, iO, g⟩, dst, (decide (d < n)), (L.any fun p => p.1 == d), (toSS [x] (lk L)).map SV.vals, P.underlying t) = (true, some d, true, false, some [.map (some b)], some (.map kt e)))
    (k : Cx F O w0 w (MS v b m :: rest)) (hk : ∀ r w', Cx F O w0 w' (MV v false b r m m none :: rest) → K ((d, .v (.pointer (some ⟨r, 0, none⟩))) :: L) w') :
    o9 P n ops L w ⟨dst, .range t x, ty, pos, iO, g⟩ K := by
  obtain ⟨l, hf, k1⟩ := k.DR
  refine DT ss d 0 (ks := mZ l) (vs := uH v l) false hside k1 rfl (fun S R h => ⟨H8 h, h.2.2⟩) fun r w' k' => hk r w' ?_
  exact Cx.KA l (mZ l) (Nl.start hf) k'
theorem FM {dst : Option Nat} {ty : TypeId} {x : Operand} {pos : String} {iO : Array Edge} {g : Option (Nat × Bool)} (ss : List Nat) (d : Nat)
    (hside : (qE ops ss L ⟨dst, .next x false, ty, pos, iO, g⟩, dst, (decide (d < n)), (L.any fun p => p.1 == d), (toSS [x] (lk L)).map SV.vals) = (true, some d, true, false, some [.pointer (some ⟨r, 0, none⟩)]))
    (k : Cx F O w0 w (MV v sh b r m left cur :: rest))
    (h0 : left = [] → Cx F O w0 w (MV v sh b r m left cur :: rest) → K ((d, .fV [.b false]) :: L) w)
    (h1 : ∀ key a left' val w', left.Perm ((key, a) :: left') → (left.map (·.1)).Nodup → Cx F O w0 w' (MV v sh b r m left' (some (key, a)) :: rest) → K ((d, .fV [.b true, .s key, .v val]) :: L) w') :
    o9 P n ops L w ⟨dst, .next x false, ty, pos, iO, g⟩ K := by
  obtain ⟨⟨l, Em⟩, hf, k1⟩ := k.DR
  refine FK ss d 0 hside k1 rfl (fun hl => h0 ?_ k) fun key Pe val w' hp k' => ?_
  · have h2 := hf.perm.length_eq
    rw [show Em = [] from hl, List.length_nil, List.length_map] at h2
    exact List.eq_nil_of_length_eq_zero h2.symm
  · have hkl : key ∈ left.map (·.1) := hf.perm.mem_iff.1 (hp.mem_iff.2 List.mem_cons_self)
    obtain ⟨p, hp1, hp2⟩ := List.mem_map.1 hkl
    obtain ⟨j, hj⟩ := List.getElem?_of_mem hp1
    have hpl := vW hj
    obtain ⟨pk, pa⟩ := p
    simp only at hp2
    subst hp2
    have hnd := (hpl.map (·.1)).nodup_iff.1 hf.nd
    rw [List.map_cons, List.nodup_cons] at hnd
    refine h1 pk pa (left.eraseIdx j) val w' hpl hf.nd ?_
    refine Cx.KA l Pe ⟨hf.fits, ?_, hnd.2, fun q hq => hf.sub q (List.mem_of_mem_eraseIdx hq), fun q hq => ?_⟩ k'
    · exact List.Perm.cons_inv ((hp.symm.trans hf.perm).trans (hpl.map (·.1)))
    · obtain rfl := Option.some.inj hq
      exact ⟨hf.sub _ hp1, hnd.1⟩
theorem DW {dst : Option Nat} {ty : TypeId} {x : Operand} {pos : String} {iO : Array Edge} {g : Option (Nat × Bool)} (ss : List Nat) (d : Nat) {key : Ky} {a : δ}
    (hside : (qE ops ss L ⟨dst, .entry x, ty, pos, iO, g⟩, dst, (decide (d < n)), (L.any fun p => p.1 == d), (toSS [x] (lk L)).map SV.vals) = (true, some d, true, false, some [.pointer (some ⟨r, 0, none⟩)]))
    (k : Cx F O w0 w (MV v sh b r m left (some (key, a)) :: rest))
    (h1 : ∀ u, Cx F O w0 w (Sh v.q [u] [a] :: MV v sh b r m left (some (key, a)) :: rest) → K ((d, .fV [.s key, .v (v.V u)]) :: L) w) :
    o9 P n ops L w ⟨dst, .entry x, ty, pos, iO, g⟩ K := by
  obtain ⟨⟨l, Em⟩, hf, k1⟩ := k.DR
  refine DU ss d 0 hside k1 rfl fun j val hj hv => ?_
  unfold mZ at hj
  unfold uH at hv
  rw [List.getElem?_map, Option.map_eq_some_iff] at hj hv
  obtain ⟨e, he, RH⟩ := hj
  obtain ⟨e', he', rfl⟩ := hv
  simp only at he he' RH
  rw [he] at he'
  obtain rfl := Option.some.inj he'
  have ha : e.2.2 = a := by
    have q1 := jK hf.fits.2.nodup (hf.fits.1.mem_iff.1 (List.mem_map.2 ⟨e, List.mem_of_getElem? he, rfl⟩))
    have q2 := jK hf.fits.2.nodup (hf.cur _ rfl).1
    rw [RH] at q1
    exact Option.some.inj (q1.symm.trans q2)
  refine h1 e.2.1 ?_
  have k2 : Cx F O w0 w (Sh v.q [e.2.1] [a] :: (Ib sh b r (mZ l) (uH v l) Em ((some (key, a)).map (·.1)) :: Sh v.q (l.map (·.2.1)) (l.map (·.2.2)) :: rest)) := Cx.dup k1 1 rfl fun w S R h => by
    refine ⟨fun _ h => h, rfl, fun j2 y x g1 g2 => ?_⟩
    cases j2 with
    | succ j2 => cases g1
    | zero =>
      obtain rfl := Option.some.inj g1
      obtain rfl := Option.some.inj g2
      exact h.2.2 j _ _ (by rw [List.getElem?_map, he]; rfl) (by rw [List.getElem?_map, he, ← ha]; rfl)
  have k3 : Cx F O w0 w (Ib sh b r (mZ l) (uH v l) Em ((some (key, a)).map (·.1)) :: Sh v.q (l.map (·.2.1)) (l.map (·.2.2)) :: Sh v.q [e.2.1] [a] :: rest) := k2.perm ((List.Perm.swap _ _ _).trans (.cons _ (.swap _ _ _)))
  exact (Cx.KA l Em hf k3).perm (.swap _ _ _)
theorem DX {dst : Option Nat} {ty : TypeId} {x : Operand} {pos : String} {iO : Array Edge} {g : Option (Nat × Bool)} {v : Vl α α} {m left : Mp α} (hv : v.q = SQ) (ss : List Nat) (d : Nat) {key : Ky} {a : α} (sv : SV)
    (hside : (qE ops ss L ⟨dst, .entry x, ty, pos, iO, g⟩, dst, (decide (d < n)), (L.any fun p => p.1 == d), (toSS [x] (lk L)).map SV.vals) = (true, some d, true, false, some [.pointer (some ⟨r, 0, none⟩)]))
    (k : Cx F O w0 w (MV v sh b r m left (some (key, a)) :: rest)) (hsv : SV.val sv = v.V a)
    (h1 : K ((d, .fV [.s key, sv]) :: L) w) :
    o9 P n ops L w ⟨dst, .entry x, ty, pos, iO, g⟩ K := by
  have main : o9 P n ops L w ⟨dst, .entry x, ty, pos, iO, g⟩ fun L' w' => L' = (d, .fV [.s key, .v (v.V a)]) :: L ∧ w' = w := by
    refine DW ss d hside k fun u k' => ?_
    obtain ⟨S, R, hh⟩ := k'.get 0 rfl
    have hr := hh.2.2 0 _ _ rfl rfl
    rw [hv] at hr
    have hr' : u = a := hr
    rw [hr']; exact ⟨rfl, rfl⟩
  intro ac hac
  obtain ⟨q1, q2⟩ := main ac hac
  refine ⟨q1, Oper.wp_mono ?_ q2⟩
  rintro a' w' ⟨L', hf, rfl, rfl⟩
  refine ⟨_, ?_, h1⟩
  have e : (Kn ((d, .fV [.s key, .v (v.V a)]) :: L)).map (fun e => (e.k, e.g, e.x.val)) = (Kn ((d, .fV [.s key, sv]) :: L)).map (fun e => (e.k, e.g, e.x.val)) := by
    simp [Kn, SV.val, SV.vals, hsv]
  refine ⟨⟨hf.defers, hf.size, fun en he hg => ?_⟩, fun en he g w hg => ?_⟩
  · simp only [Kn, List.map_cons, List.mem_cons] at he
    rcases he with rfl | he
    · have := hf.at_ { k := d, g := none, x := .fV [.s key, .v (v.V a)] } (by simp [Kn]) hg
      simpa [SV.val, SV.vals, hsv] using this
    · exact hf.at_ en (by simp only [Kn, List.map_cons, List.mem_cons]; exact .inr he) hg
  · simp only [Kn, List.map_cons, List.mem_cons, List.mem_map] at he
    rcases he with rfl | ⟨p, _, rfl⟩ <;> cases hg
theorem Cx.NK (k : Cx F O w0 w (MV v false b r m left cur :: rest)) : Cx F O w0 w (MS v b m :: rest) := by
  obtain ⟨⟨l, Em⟩, hf, k1⟩ := k.DR
  refine Cx.H9 l hf.fits ?_
  have := k1.weak (h' := Mb b (mZ l) (uH v l)) 0 rfl fun w S R h => by
    obtain ⟨hl, ⟨es, clock, since, c0, seen, m1, m2, m3, m4, m5⟩, hS, hS2⟩ := h
    exact ⟨hl, ⟨es, clock, m1, m2, m3, m4⟩, hS⟩
  exact this
end
end Go.Sx
namespace Go.Sx
open Go.RowKit Go.MapKept
set_option linter.unusedSimpArgs false
set_option linter.unusedVariables false
variable {α β γ δ ε ζ σ ι : Type}
def Np (E : Enc α) : Prop := ∀ a b, E.f a = E.f b → a = b
theorem lI : Np eI := fun a b h => by simpa [eI] using h
theorem lJ : Np eS := fun a b h => by simpa [eS] using h
theorem jP : Np e64 := fun a b h => by
  have h1 : [SV.val (.u64 a)] = [SV.val (.u64 b)] := h
  simp only [SV.val, List.cons.injEq, Value.int.injEq, and_true, true_and] at h1
  exact UInt64.toNat_inj.1 (by omega)
theorem fZ {E : Enc α} {F : Enc β} (h1 : Np E) (h2 : Np F) : Np (eP E F) := fun a b h => by
  have h3 : E.f a.1 ++ F.f a.2 = E.f b.1 ++ F.f b.2 := h
  obtain ⟨q1, q2⟩ := List.append_inj h3 (by rw [E.len, E.len])
  exact Prod.ext (h1 _ _ q1) (h2 _ _ q2)
section
variable {P : Program} {n : Nat} {ops : Array Oper} {L : St} {w w0 : World} {F O : Nat → Prop} {hs rest : List HP} {K : St → World → Prop} {b : Nat}
theorem DY {dst : Option Nat} {t kt e ty : TypeId} {x y : Operand} {pos : String} {iO : Array Edge} {g : Option (Nat × Bool)} {v : Vl α α} {m : Mp α} (hv : v.q = SQ) (ss : List Nat) (d : Nat) {key : Ky} (z : α) (sv : SV)
    (hside : (qE ops ss L ⟨dst, .lookup t x y false, ty, pos, iO, g⟩, dst, (decide (d < n)), (L.any fun p => p.1 == d), (toSS [x, y] (lk L)).map SV.vals, P.underlying t, P.underlying kt) = (true, some d, true, false, some [.map (some b), kV key], some (.map kt e), some .string))
    (hz : (zeroValue e).run P w = .ok (v.V z) w) (hA : Acc F O w0 w v b m hs) (hsv : SV.val sv = v.V ((lu m key).getD z))
    (h1 : K ((d, sv) :: L) w) :
    o9 P n ops L w ⟨dst, .lookup t x y false, ty, pos, iO, g⟩ K := FD (ok := false) hv ss d z sv hside hz hA hsv h1
end
section
variable {F O F1 O1 : Nat → Prop} {w0 w w' : World} {hs rest : List HP} {E : Enc α}
variable {A : Option Addr} {n c : Nat} {ys : List Hd} {xs : List (List α)}
end
end Go.Sx
namespace Go.Sx
open Go.RowKit
set_option linter.unusedVariables false
variable {δ σ : Type}
end Go.Sx
namespace Go.Sx
open Go.RowKit Go.Proofs
set_option linter.unusedVariables false
variable {α γ δ : Type}
end Go.Sx
namespace Go.Sx
open Go.RowKit
set_option linter.unusedVariables false
variable {α γ δ : Type} {F O : Nat → Prop} {w0 w : World} {hs : List HP}
end Go.Sx
namespace Go.Sx
open Go.RowKit Go.MapKept
set_option linter.unusedVariables false
set_option linter.unusedSimpArgs false
variable {α γ δ : Type} {F O : Nat → Prop} {w0 w : World} {hs rest : List HP}
end Go.Sx
namespace Go.Sx
open Go.RowKit Go.MapKept
set_option linter.unusedVariables false
set_option linter.unusedSimpArgs false
variable {P : Program} {n : Nat} {ops : Array Oper} {L : St} {w : World} {K : St → World → Prop}
end Go.Sx
namespace Go.Sx
open Go.RowKit
set_option linter.unusedSimpArgs false
set_option linter.unusedVariables false
variable {α β γ δ ε ζ : Type}
section
variable {F O : Nat → Prop} {w0 w w' : World} {hs rest : List HP} {E : Enc γ} {q : Rl γ δ} {A : Option Addr} {n c : Nat} {ys : List γ} {xs : List δ}
end
end Go.Sx
namespace Go.Sx
open Go.RowKit
set_option linter.unusedVariables false
noncomputable def lU (ak : Int) (ag : Int) (ai : Int) (ah : Int) (aB : Int) (most : Int) (hold : UInt64) : Option (Int ⊕ (Int × Int × Int × Int × Int × Int × UInt64 × (Mp (List UInt8 × Int × UInt64)))) :=
  (jl ak ag ai ah aB (List.replicate (Int.toNat (16 : Int)) (0 : UInt8))).bind fun r_ => if r_ ≠ 0 then (some (Sum.inl r_)) else (if ((decide (most < 1)) || (decide (100 < most))) = true then (some (Sum.inl (1 : Int))) else (some (Sum.inr (ak, ag, ai, ah, aB, most, hold, ([] : Mp (List UInt8 × Int × UInt64))))))
noncomputable def dV (s_ : List UInt8) : Option (List UInt8 × List UInt8 × Bool) :=
  if 0 ≤ (Lib.indexByte s_ 10) then ((uC s_ 0 (Lib.indexByte s_ 10)).bind fun kS => (uC s_ (aA ((Lib.indexByte s_ 10) + (([10] : List UInt8).length : Int))) (s_.length : Int)).bind fun xn => some (kS, xn, true)) else (some (s_, ([] : List UInt8), false))
noncomputable def jo (s_ : List UInt8) : Option (List UInt8 × List UInt8 × Bool) :=
  (dV s_).bind fun r_ => some (r_.1, r_.2.1, r_.2.2)
noncomputable def jg (s_ : List UInt8) : Option Int :=
  some (Lib.indexByte s_ 32)
noncomputable def eG (kS : List UInt8) (a_ : List (List UInt8)) (i : Int) : Option (List (List UInt8)) :=
  (bZ a_ i).bind fun x_1 => (uC (a_.set (Int.toNat i) kS) 0 (aA (i + 1))).bind fun b => some b
noncomputable def cO (xn : List UInt8) (Nq : List (List UInt8)) (i1 : Int) : Option (List (List UInt8)) :=
  eG xn Nq i1
noncomputable def aY (s_ : List UInt8) : (List UInt8 × List (List UInt8) × Int) → Option ((List UInt8 × List (List UInt8) × Int) ⊕ (List (List UInt8)))
  | (uo, Eo, i2) => if i2 < (aA ((if aA ((s_.length : Int) + 1) < 4 then aA ((s_.length : Int) + 1) else 4) - 1)) then ((jg uo).bind fun r_ => if r_ < 0 then (Option.map Sum.inr (cO uo Eo i2)) else ((uC uo 0 (aA (r_ + 0))).bind fun Ej => (bZ Eo i2).bind fun gm => (uC uo (aA (r_ + (([32] : List UInt8).length : Int))) (uo.length : Int)).bind fun H5 => some (.inl (H5, Eo.set (Int.toNat i2) Ej, aA (i2 + 1))))) else (Option.map Sum.inr (cO uo Eo i2))
noncomputable def gB (s_ : List UInt8) : Option (List (List UInt8)) :=
  (need ((0 : Int) ≤ (if aA ((s_.length : Int) + 1) < 4 then aA ((s_.length : Int) + 1) else 4) ∧ ((if aA ((s_.length : Int) + 1) < 4 then aA ((s_.length : Int) + 1) else 4) : Int) ≤ (if aA ((s_.length : Int) + 1) < 4 then aA ((s_.length : Int) + 1) else 4) ∧ Int.toNat (if aA ((s_.length : Int) + 1) < 4 then aA ((s_.length : Int) + 1) else 4) * 16 ≤ 140737488355328)).bind fun u => aU (aY s_) (s_, List.replicate (Int.toNat (if aA ((s_.length : Int) + 1) < 4 then aA ((s_.length : Int) + 1) else 4)) ([] : List UInt8), (0 : Int))
noncomputable def jb (s_ : List UInt8) : Option (List (List UInt8)) :=
  gB s_
noncomputable def iJ (s_ : List UInt8) : Option (List (List UInt8)) :=
  (jb s_).bind fun r_ => some r_
noncomputable def di (s_ : List UInt8) : Int → Option (Int ⊕ Bool)
  | gm => if gm < (s_.length : Int) then ((bZ s_ gm).bind fun c => if (!((((((decide ((97 : UInt8) ≤ c)) && (decide (c ≤ 122))) || ((decide ((48 : UInt8) ≤ c)) && (decide (c ≤ 57)))) || (decide (c = 95))) || (decide (c = 46))) || (decide (c = 45)))) = true then (Option.map Sum.inr (some false)) else (some (.inl (aA (gm + 1))))) else (Option.map Sum.inr (some true))
noncomputable def jL (s_ : List UInt8) : Option Bool :=
  if ((decide ((s_.length : Int) < 1)) || (decide (32 < (s_.length : Int)))) = true then (some false) else (aU (di s_) (0 : Int))
noncomputable def jD (most : Int) (r_ : (List (List UInt8))) (p : List UInt8) (q : List UInt8) : Option (List UInt8 × List UInt8 × Int × UInt64 × Bool) :=
  (df p (0 : Int) true).bind fun aX => (df q (0 : Int) true).bind fun gy => if (((((!aX.2.2.2) || (!gy.2.2.2)) || (decide (aX.2.2.1 < (aX.2.1.length : Int)))) || (decide (gy.2.2.1 < (gy.2.1.length : Int)))) || (decide ((UInt64.ofInt most) ≤ aX.1))) = true then (some (([] : List UInt8), ([] : List UInt8), (0 : Int), (0 : UInt64), false)) else ((bZ r_ (3 : Int)).bind fun Ic => (iZ Ic).bind fun dw => if dw.2.2.2.2.2.2.2.2 ≠ 0 then (some (([] : List UInt8), ([] : List UInt8), (0 : Int), (0 : UInt64), false)) else ((bZ r_ (0 : Int)).bind fun rZ => (bZ r_ (3 : Int)).bind fun uI => some (rZ, uI, aA aX.1.toNat, gy.1, true)))
noncomputable def kz (s_ : List UInt8) (most : Int) : Option (List UInt8 × List UInt8 × Int × UInt64 × Bool) :=
  (iJ s_).bind fun r_ => if ((r_.length : Nat) : Int) ≠ 4 then (some (([] : List UInt8), ([] : List UInt8), (0 : Int), (0 : UInt64), false)) else ((bZ r_ (0 : Int)).bind fun gm => (jL gm).bind fun bQ => if (!bQ) = true then (some (([] : List UInt8), ([] : List UInt8), (0 : Int), (0 : UInt64), false)) else ((bZ r_ (1 : Int)).bind fun zF => (bZ r_ (2 : Int)).bind fun zG => jD most r_ zF zG))
noncomputable def lV (most : Int) (text : List UInt8) : Unit → Option (Unit ⊕ ((Int × Int) ⊕ (Int × Int × Int × Int × Int × Int × UInt64 × (Mp (List UInt8 × Int × UInt64)))))
  | () => if text ≠ ([] : List UInt8) then ((jo text).bind fun gy => (kz gy.1 most).bind fun dw => if (((!gy.2.2) || (!dw.2.2.2.2)) || (Op.bytesLess dw.1 ([] : List UInt8) || decide (dw.1 = ([] : List UInt8)))) = true then (Option.map Sum.inr (some (Sum.inl ((1 : Int), (4 : Int))))) else none) else (Option.map Sum.inr (some (Sum.inl ((0 : Int), (0 : Int)))))
noncomputable def dE (most : Int) (aX : Int × Int × Int × Int × Int × Int × UInt64 × (Mp (List UInt8 × Int × UInt64))) : (List UInt8 × (Mp (List UInt8 × Int × UInt64)) × List UInt8 × Int) → Option ((List UInt8 × (Mp (List UInt8 × Int × UInt64)) × List UInt8 × Int) ⊕ ((Int × Int) ⊕ (Int × Int × Int × Int × Int × Int × UInt64 × (Mp (List UInt8 × Int × UInt64)))))
  | (text1, Ep, last, n) => if text1 ≠ ([] : List UInt8) then ((jo text1).bind fun pG => (kz pG.1 most).bind fun iP => if (((!pG.2.2) || (!iP.2.2.2.2)) || (Op.bytesLess iP.1 last || decide (iP.1 = last))) = true then (Option.map Sum.inr (some (Sum.inl (n, (4 : Int))))) else (if 1024 ≤ ((Ep.length : Nat) : Int) then (Option.map Sum.inr (some (Sum.inl (n, (4 : Int))))) else (some (.inl (pG.2.1, mr Ep iP.1 (iP.2.1, iP.2.2.1, iP.2.2.2.1), iP.1, aA (n + 1)))))) else (Option.map Sum.inr (some (Sum.inr (aX.1, aX.2.1, aX.2.2.1, aX.2.2.2.1, aX.2.2.2.2.1, aX.2.2.2.2.2.1, aX.2.2.2.2.2.2.1, Ep))))
noncomputable def lC (ak : Int) (ag : Int) (ai : Int) (ah : Int) (aB : Int) (most : Int) (hold : UInt64) (text : List UInt8) : Option ((Int × Int) ⊕ (Int × Int × Int × Int × Int × Int × UInt64 × (Mp (List UInt8 × Int × UInt64)))) :=
  (lU ak ag ai ah aB most hold).bind fun r_ => (Sum.elim (fun bQ => if bQ ≠ 0 then (some (Sum.inl ((0 : Int), bQ))) else (aU (lV most text) ())) (fun aX => if 0 ≠ 0 then (some (Sum.inl ((0 : Int), (0 : Int)))) else (aU (dE most aX) (text, aX.2.2.2.2.2.2.2, ([] : List UInt8), (1 : Int))))) r_
noncomputable def lD (ak : Int) (ag : Int) (ai : Int) (ah : Int) (aB : Int) (most : Int) : Option Int :=
  (j_ ak ag ai ah aB (List.replicate (Int.toNat (16 : Int)) (0 : UInt8))).bind fun r_ => if r_ ≠ 0 then (some r_) else (if ((decide (most < 1)) || (decide (100 < most))) = true then (some (1 : Int)) else (some (0 : Int)))
noncomputable def fM (i : Int) (l1 : List (List UInt8)) (qY : Int) : Option ((List (List UInt8) × Int × Int) ⊕ (List (List UInt8))) :=
  some (.inl (l1, qY, aA (i + 1)))
noncomputable def bT (s_ : List UInt8) (c : UInt8) : (List (List UInt8) × Int × Int) → Option ((List (List UInt8) × Int × Int) ⊕ (List (List UInt8)))
  | (l, from_, i) => if i ≤ (s_.length : Int) then ((kT (!(decide (i = (s_.length : Int)))) (bZ s_ i)).bind fun c4 => if ((decide (i = (s_.length : Int))) || (decide (c4 = c))) = true then ((uC s_ from_ i).bind fun kS => (app l ([kS] : List (List UInt8)) 16).bind fun l2 => fM i l2 (aA (i + 1))) else (fM i l from_)) else (Option.map Sum.inr (some l))
noncomputable def jM (s_ : List UInt8) (c : UInt8) : Option (List (List UInt8)) :=
  aU (bT s_ c) (([] : List (List UInt8)), (0 : Int), (0 : Int))
noncomputable def dO (s_ : List UInt8) : Int → Option (Int ⊕ Bool)
  | i => if i < (s_.length : Int) then ((bZ s_ i).bind fun c => (gW c).bind fun r_ => if (((((!r_) && ((decide (c < 97)) || (decide ((122 : UInt8) < c)))) && (decide (c ≠ 95))) && (decide (c ≠ 46))) && (decide (c ≠ 45))) = true then (Option.map Sum.inr (some false)) else (some (.inl (aA (i + 1))))) else (Option.map Sum.inr (some ((decide (1 ≤ (s_.length : Int))) && (decide ((s_.length : Int) ≤ 32)))))
noncomputable def kW (s_ : List UInt8) : Option Bool :=
  aU (dO s_) (0 : Int)
noncomputable def iR (s_ : List UInt8) : Option (UInt64 × Bool) :=
  (b_ s_ (0 : Int) false).bind fun r_ => some (r_.1, (!r_.2.2.2) && (decide (r_.2.2.1 = (s_.length : Int))))
noncomputable def lW (s_ : List UInt8) (most : Int) : Option (List UInt8 × Int × UInt64 × List UInt8 × Bool) :=
  (jM s_ (32 : UInt8)).bind fun r_ => if ((r_.length : Nat) : Int) ≠ 4 then (some (([] : List UInt8), (0 : Int), (0 : UInt64), ([] : List UInt8), false)) else ((bZ r_ (0 : Int)).bind fun gm => (kW gm).bind fun bQ => if (!bQ) = true then (some (([] : List UInt8), (0 : Int), (0 : UInt64), ([] : List UInt8), false)) else ((bZ r_ (1 : Int)).bind fun zF => (iR zF).bind fun aX => (bZ r_ (2 : Int)).bind fun zG => (iR zG).bind fun gy => (bZ r_ (3 : Int)).bind fun Ic => (ku Ic).bind fun dw => if ((((!aX.2) || (!gy.2)) || (decide (dw.2.2.2.2.2.2.2.2 ≠ 0))) || (decide ((UInt64.ofInt most) ≤ aX.1))) = true then (some (([] : List UInt8), (0 : Int), (0 : UInt64), ([] : List UInt8), false)) else ((bZ r_ (0 : Int)).bind fun rZ => (bZ r_ (3 : Int)).bind fun uI => some (rZ, aA aX.1.toNat, gy.1, uI, true))))
noncomputable def iy (ak : Int) (ag : Int) (ai : Int) (ah : Int) (aB : Int) (most : Int) (hold : UInt64) (b : List (List UInt8 × Int × UInt64 × List UInt8)) : Option ((Int × Int) ⊕ (Int × Int × Int × Int × Int × Int × UInt64 × (List (List UInt8 × Int × UInt64 × List UInt8)))) :=
  some (Sum.inr (ak, ag, ai, ah, aB, most, hold, b))
noncomputable def f_ (ak : Int) (ag : Int) (ai : Int) (ah : Int) (aB : Int) (most : Int) (hold : UInt64) (b1 : List (List UInt8 × Int × UInt64 × List UInt8)) : Option ((Int × Int) ⊕ (Int × Int × Int × Int × Int × Int × UInt64 × (List (List UInt8 × Int × UInt64 × List UInt8)))) :=
  iy ak ag ai ah aB most hold b1
noncomputable def bn (ak : Int) (ag : Int) (ai : Int) (ah : Int) (aB : Int) (most : Int) (hold : UInt64) (bQ : (List (List UInt8))) : ((List (List UInt8 × Int × UInt64 × List UInt8)) × Int) → Option (((List (List UInt8 × Int × UInt64 × List UInt8)) × Int) ⊕ ((Int × Int) ⊕ (Int × Int × Int × Int × Int × Int × UInt64 × (List (List UInt8 × Int × UInt64 × List UInt8)))))
  | (b2, i) => if i < ((bQ.length : Nat) : Int) then ((kT (decide (i = (aA (((bQ.length : Nat) : Int) - 1)))) (bZ bQ i)).bind fun gm => if ((decide (i = (aA (((bQ.length : Nat) : Int) - 1)))) && (decide (gm = ([] : List UInt8)))) = true then (Option.map Sum.inr (f_ ak ag ai ah aB most hold b2)) else ((bZ bQ i).bind fun Ie => (lW Ie most).bind fun aX => (kT (!(((!aX.2.2.2.2) || (decide (i = (aA (((bQ.length : Nat) : Int) - 1))))) || (decide (1024 ≤ ((b2.length : Nat) : Int))))) (kT (decide (0 < ((b2.length : Nat) : Int))) (bZ b2 (aA (((b2.length : Nat) : Int) - 1))))).bind fun uJ => if ((((!aX.2.2.2.2) || (decide (i = (aA (((bQ.length : Nat) : Int) - 1))))) || (decide (1024 ≤ ((b2.length : Nat) : Int)))) || ((decide (0 < ((b2.length : Nat) : Int))) && (Op.bytesLess aX.1 uJ.1 || decide (aX.1 = uJ.1)))) = true then (Option.map Sum.inr (some (Sum.inl (aA (i + 1), (4 : Int))))) else ((app b2 ([(aX.1, aX.2.1, aX.2.2.1, aX.2.2.2.1)] : List (List UInt8 × Int × UInt64 × List UInt8)) 48).bind fun b3 => some (.inl (b3, aA (i + 1)))))) else (Option.map Sum.inr (f_ ak ag ai ah aB most hold b2))
noncomputable def kX (ak : Int) (ag : Int) (ai : Int) (ah : Int) (aB : Int) (most : Int) (hold : UInt64) (text : List UInt8) : Option ((Int × Int) ⊕ (Int × Int × Int × Int × Int × Int × UInt64 × (List (List UInt8 × Int × UInt64 × List UInt8)))) :=
  (lD ak ag ai ah aB most).bind fun r_ => if r_ ≠ 0 then (some (Sum.inl ((0 : Int), r_))) else ((jM text (10 : UInt8)).bind fun bQ => aU (bn ak ag ai ah aB most hold bQ) (([] : List (List UInt8 × Int × UInt64 × List UInt8)), (0 : Int)))
noncomputable def jO (gZ : Int) (dW : Int) (dX : Int) (fH : Int) (jv : Int) (kL : Int) (kM : UInt64) (aW : Mp (List UInt8 × Int × UInt64)) : Option (Int × Int × Int × Int × Int × Int × UInt64) :=
  some (gZ, dW, dX, fH, jv, kL, kM)
noncomputable def fJ (gZ : Int) (dW : Int) (dX : Int) (fH : Int) (jv : Int) (kL : Int) (kM : UInt64) (aW : Mp (List UInt8 × Int × UInt64)) : Option (List (List UInt8) × Int × Int × Int × Int × Int × Int × UInt64) :=
  (jO gZ dW dX fH jv kL kM aW).bind fun r_ => (need (aW.length * 16 ≤ 140737488355328)).bind fun u => some (A7 (aW.map (·.1)), r_.1, r_.2.1, r_.2.2.1, r_.2.2.2.1, r_.2.2.2.2.1, r_.2.2.2.2.2.1, r_.2.2.2.2.2.2)
noncomputable def dB (l : List (List UInt8)) (jS : Int) (iC : Int) (iD : Int) (jq : Int) (kZ : Int) (mX : Int) (mY : UInt64) (xu : List (List UInt8 × Int × UInt64 × List UInt8)) : Int → Option (Int ⊕ (Bool × Int × Int × Int × Int × Int × Int × UInt64 × (List (List UInt8 × Int × UInt64 × List UInt8))))
  | i => if i < ((l.length : Nat) : Int) then ((bZ l i).bind fun gm => (bZ xu i).bind fun uI => if gm ≠ uI.1 then (Option.map Sum.inr (some (false, jS, iC, iD, jq, kZ, mX, mY, xu))) else (some (.inl (aA (i + 1))))) else (Option.map Sum.inr (some (true, jS, iC, iD, jq, kZ, mX, mY, xu)))
noncomputable def jE (l : List (List UInt8)) (jS : Int) (iC : Int) (iD : Int) (jq : Int) (kZ : Int) (mX : Int) (mY : UInt64) (xu : List (List UInt8 × Int × UInt64 × List UInt8)) : Option (Bool × Int × Int × Int × Int × Int × Int × UInt64 × (List (List UInt8 × Int × UInt64 × List UInt8))) :=
  if ((l.length : Nat) : Int) ≠ ((xu.length : Nat) : Int) then (some (false, jS, iC, iD, jq, kZ, mX, mY, xu)) else (aU (dB l jS iC iD jq kZ mX mY xu) (0 : Int))
noncomputable def jh (fF : List UInt8) (bI : List UInt8) (aI : Int) (aO : UInt64) : Option (List UInt8) :=
  (need (fF.length + ([32] : List UInt8).length ≤ 9223372036854775807)).bind fun u => (need (-9223372036854775808 ≤ aI ∧ aI ≤ 9223372036854775807)).bind fun u1 => (need ((fF ++ ([32] : List UInt8)).length + (Lib.itoa aI).length ≤ 9223372036854775807)).bind fun u2 => (need (((fF ++ ([32] : List UInt8)) ++ (Lib.itoa aI)).length + ([32] : List UInt8).length ≤ 9223372036854775807)).bind fun u3 => (need ((((fF ++ ([32] : List UInt8)) ++ (Lib.itoa aI)) ++ ([32] : List UInt8)).length + (Lib.decDigits aO.toNat).length ≤ 9223372036854775807)).bind fun u4 => (need (((((fF ++ ([32] : List UInt8)) ++ (Lib.itoa aI)) ++ ([32] : List UInt8)) ++ (Lib.decDigits aO.toNat)).length + ([32] : List UInt8).length ≤ 9223372036854775807)).bind fun u5 => (need ((((((fF ++ ([32] : List UInt8)) ++ (Lib.itoa aI)) ++ ([32] : List UInt8)) ++ (Lib.decDigits aO.toNat)) ++ ([32] : List UInt8)).length + bI.length ≤ 9223372036854775807)).bind fun u6 => (need (((((((fF ++ ([32] : List UInt8)) ++ (Lib.itoa aI)) ++ ([32] : List UInt8)) ++ (Lib.decDigits aO.toNat)) ++ ([32] : List UInt8)) ++ bI).length + ([10] : List UInt8).length ≤ 9223372036854775807)).bind fun u7 => some (((((((fF ++ ([32] : List UInt8)) ++ (Lib.itoa aI)) ++ ([32] : List UInt8)) ++ (Lib.decDigits aO.toNat)) ++ ([32] : List UInt8)) ++ bI) ++ ([10] : List UInt8))
noncomputable def cu (aW : Mp (List UInt8 × Int × UInt64)) (r_ : (List (List UInt8) × Int × Int × Int × Int × Int × Int × UInt64)) : (List UInt8 × Int) → Option ((List UInt8 × Int) ⊕ (List UInt8 × Int × Int × Int × Int × Int × Int × UInt64))
  | (s_, gm) => if gm < ((r_.1.length : Nat) : Int) then ((bZ r_.1 gm).bind fun rZ => (some ((lu aW rZ).getD (([] : List UInt8), (0 : Int), (0 : UInt64)))).bind fun e_ => (jh rZ e_.1 e_.2.1 e_.2.2).bind fun bQ => (need (s_.length + bQ.length ≤ 140737488355328)).bind fun u => some (.inl (s_ ++ bQ, aA (gm + 1)))) else (Option.map Sum.inr (some (s_, r_.2.1, r_.2.2.1, r_.2.2.2.1, r_.2.2.2.2.1, r_.2.2.2.2.2.1, r_.2.2.2.2.2.2.1, r_.2.2.2.2.2.2.2)))
noncomputable def iK (gZ : Int) (dW : Int) (dX : Int) (fH : Int) (jv : Int) (kL : Int) (kM : UInt64) (aW : Mp (List UInt8 × Int × UInt64)) : Option (List UInt8 × Int × Int × Int × Int × Int × Int × UInt64) :=
  (fJ gZ dW dX fH jv kL kM aW).bind fun r_ => aU (cu aW r_) (([] : List UInt8), (0 : Int))
noncomputable def jU (ak : Int) (ag : Int) (ai : Int) (ah : Int) (aB : Int) (most : Int) (hold : UInt64) (text : List UInt8) : Option Bool :=
  (lC ak ag ai ah aB most hold text).bind fun r_ => (Sum.elim (fun bQ => (kX ak ag ai ah aB most hold text).bind fun gy => (Sum.elim (fun dw => if (((decide (bQ.1 ≠ dw.1)) || (decide (bQ.2 ≠ dw.2))) || (decide (true ≠ true))) = true then (some false) else ((iQ).bind fun iP => if (!iP) = true then (some false) else (some true))) (fun pG => if (((decide (bQ.1 ≠ 0)) || (decide (bQ.2 ≠ 0))) || (decide (true ≠ false))) = true then (some false) else ((iQ).bind fun wW => if (!wW) = true then (some false) else (some true)))) gy) (fun aX => (kX ak ag ai ah aB most hold text).bind fun yM => (Sum.elim (fun tJ => if (((decide (0 ≠ tJ.1)) || (decide (0 ≠ tJ.2))) || (decide (false ≠ true))) = true then (some false) else ((iQ).bind fun jJ => if (!jJ) = true then (some false) else none)) (fun jy => if (((decide (0 ≠ 0)) || (decide (0 ≠ 0))) || (decide (false ≠ false))) = true then (some false) else ((iQ).bind fun d_ => if (!d_) = true then (some false) else ((fJ aX.1 aX.2.1 aX.2.2.1 aX.2.2.2.1 aX.2.2.2.2.1 aX.2.2.2.2.2.1 aX.2.2.2.2.2.2.1 aX.2.2.2.2.2.2.2).bind fun jR => (jE jR.1 jy.1 jy.2.1 jy.2.2.1 jy.2.2.2.1 jy.2.2.2.2.1 jy.2.2.2.2.2.1 jy.2.2.2.2.2.2.1 jy.2.2.2.2.2.2.2).bind fun kJ => if kJ.1 = true then ((iK jR.2.1 jR.2.2.1 jR.2.2.2.1 jR.2.2.2.2.1 jR.2.2.2.2.2.1 jR.2.2.2.2.2.2.1 jR.2.2.2.2.2.2.2 aX.2.2.2.2.2.2.2).bind fun je => some (decide (je.1 = text))) else (some false))))) yM)) r_
end Go.Sx
namespace Go.Sx
open Go.RowKit
set_option linter.unusedSimpArgs false
set_option linter.unusedVariables false
def BP (T e : TypeId) (g : Nat) (xs : List UInt8) (w : World) (S : Nat → Prop) : Prop :=
  ∃ p v, (p = Value.pointer none ∨ p = Value.pointer (some ⟨g, 0, none⟩)) ∧ w.heap[g]? = some (.cells #[p, v] T (0, 0)) ∧ w.ownsRow 0 e 1 v xs.length (Lib.byteCells xs) ∧ v.ownBlock ≠ some g ∧ S g ∧ ∀ h, v.ownBlock = some h → S h
def Bd (T e : TypeId) (g : Nat) (xs : List UInt8) : HP where
  p w S R := BP T e g xs w S
  loc := by
    rintro w w' S R ⟨p, v, hp, hb, hown, hne, hg, hS⟩ hk
    refine ⟨p, v, hp, by rw [hk g (.inl hg)]; exact hb, ⟨hown.1, ?_⟩, hne, hg, hS⟩
    rcases hown.2 with h | ⟨h, cap, cur, rfl, h1, h2, h3⟩
    · exact .inl h
    · exact .inr ⟨h, cap, cur, rfl, h1, by rw [hk h (.inl (hS h rfl))]; exact h2, h3⟩
section
variable {P : Program} {n : Nat} {ops : Array Oper} {L : St} {w w0 : World} {F O : Nat → Prop} {hs : List HP} {K : St → World → Prop}
theorem DZ {dst : Option Nat} {ty t : TypeId} {pos : String} {iO : Array Edge} {g : Option (Nat × Bool)} (e : TypeId) (ss : List Nat) (d : Nat)
    (hside : (qE ops ss L ⟨dst, .alloc t, ty, pos, iO, g⟩, dst, (decide (d < n)), (L.any fun p => p.1 == d), (zeroS P t).map SV.cl) = (true, some d, true, false, some [.pointer none, .slice none 0 0]))
    (k : Cx F O w0 w hs) (hk : ∀ b w', Cx F O w0 w' (hs ++ [Bd t e b []]) → K ((d, .v (.pointer (some ⟨b, 0, none⟩))) :: L) w') :
    o9 P n ops L w ⟨dst, .alloc t, ty, pos, iO, g⟩ K := by
  simp only [Prod.mk.injEq, decide_eq_true_eq, Option.map_eq_some_iff] at hside
  obtain ⟨s1, rfl, s3, s4, ⟨cs', s6, s7⟩⟩ := hside
  refine mG (xs := []) (svs := []) ss (d := d) (by simp [Side, s1, s3, s4, toSS]) fun a ha he => ?_
  obtain ⟨z, hz1, hz2⟩ := nR s6 w
  rw [s7] at hz2
  have hrun : (Instr.alloc t true (.tuple #[])).run P w = .ok (.pointer (some ⟨w.heap.size, 0, none⟩)) (w.alloc (.cells #[.pointer none, .slice none 0 0] t)) := by
    rw [show (#[Value.pointer none, Value.slice none 0 0] : Array Value) = z.cells from hz2.symm]
    simp only [Instr.alloc, Sem.run_bind, hz1, Result.andThen_ok]
    rfl
  unfold Oper.wp execOp
  simp only [Sem.run_bind, hrun, Result.andThen_ok, Sem.run_pure]
  exact ⟨.v (.pointer (some ⟨w.heap.size, 0, none⟩)), rfl, hk w.heap.size _ (k.new _ (Bd t e w.heap.size []) ⟨_, _, .inl rfl, heap_alloc_new w _, World.ownsRow_nil _ _ _ _, by simp [Value.ownBlock], rfl, fun h hh => by cases hh⟩)⟩
end
theorem Ig {P : Program} {t u ty e : TypeId} (tf : TF P t e [.int .u8 0] 1) (hi : (P.info? e).map (fun i => i.zero) = some (some (.int .u8 0))) (hu : P.underlying u = some .string) {w : World} {v : Value} {xs : List UInt8} (hown : w.ownsRow 0 e 1 v xs.length (Lib.byteCells xs)) (s : List UInt8) (hz : xs.length + s.length ≤ 140737488355328) :
    ∃ v' w', (Builtin.append_ #[t, u] ty #[v, .string ⟨⟨s⟩⟩]).run P w = .ok v' w' ∧ w'.ownsRow 0 e 1 v' (xs ++ s).length (Lib.byteCells (xs ++ s)) ∧ w.grownBy w' v.ownBlock ∧ ∀ h, v'.ownBlock = some h → v.ownBlock = some h ∨ w.heap.size ≤ h := by
  obtain ⟨i, z, h1, h2, h3, h4, h5⟩ := tf.parts
  have hzz : i.zero = some (.int .u8 0) := by rw [h1] at hi; simpa using hi
  obtain ⟨v', w', r1, r2, r3, r4⟩ := Lib.run_append_own_string (P := P) w 0 t u ty e i tf.ht hu h1 hzz h4 h5 v xs.length (Lib.byteCells xs) hown ⟨⟨s⟩⟩ (by show xs.length + s.length ≤ maxLen; unfold maxLen; omega) hz (Nat.zero_le _)
  have hO : ∃ A c, v = .slice A xs.length c ∧ (Ow e8 A xs.length c xs).p w (fun b => v.ownBlock = some b) (fun _ => False) := by
    rcases hown.2 with ⟨rfl, h0⟩ | ⟨g, cap, cur, rfl, hb, hg, q1, q2, q3, q4⟩
    · exact ⟨none, 0, by rw [h0], rfl, .inl ⟨rfl, h0, rfl⟩⟩
    · refine ⟨some ⟨g, 0, none⟩, cap, rfl, rfl, .inr ⟨g, e, cur, rfl, ⟨(0, 0), hg, .inl rfl⟩, q1, q2, ?_, ?_, rfl⟩⟩
      · rw [q3]; exact Nat.le_refl _
      · show cur.toList.take (xs.length * 1) = _
        rw [q4, EW]; rfl
  obtain ⟨A, c, rfl, hO⟩ := hO
  obtain ⟨A', c', w2, s1, ⟨S', s2, s3⟩, s4⟩ := qV (P := P) (t := t) (t2 := u) (e := e) (ty := ty) tf (by rw [hu]) (E := e8) rfl hO (Src.str s) rfl (by omega)
  rw [r1] at s1
  simp only [Result.ok.injEq] at s1
  obtain ⟨rfl, rfl⟩ := s1
  refine ⟨_, _, r1, ?_, r3, fun h hh => ?_⟩
  · rw [List.length_append, Lib.byteCells_append]; exact r2
  · rcases s2.2 with ⟨rfl, _⟩ | ⟨g, t', cur, rfl, q1, q2, q3, q4, q5, q6⟩
    · cases hh
    · simp only [Value.ownBlock, Option.some.injEq] at hh
      subst hh
      exact (s3 _ q6).2
theorem qm.way {P : Program} {F F1 O : Nat → Prop} {w0 w : World} {hs : List HP} (h : qm P F w0) (k : Cx F O w0 w hs) (hF1 : ∀ b, F1 b → F b ∨ w0.heap.size ≤ b) : qm P F1 w := by
  obtain ⟨h1, g, hg, hF⟩ := h
  refine ⟨qm.cx ⟨h1, g, hg, hF⟩ k, g, hg, fun hf => (hF1 g hf).elim hF fun hle => ?_⟩
  unfold Lib.TabIs World.var? at h1
  rw [hg] at h1
  simp only [Option.bind_some] at h1
  rw [Array.getElem?_eq_none hle] at h1
  cases h1
end Go.Sx
namespace Go.Proofs
open Go.Shelf Go.RowKit Go.Sort Go.Lib
set_option linter.unusedVariables false
set_option linter.unusedSimpArgs false
def kN : Go.Shelf.Ren := ⟨fun | 171 => 40 | 243 => 68 | 246 => 85 | 283 => 86 | 284 => 87 | 285 => 88 | 286 => 89 | 129 => 66 | 317 => 96 | 318 => 97 | 319 => 98 | 320 => 99 | 337 => 101 | 338 => 102 | n => n, fun | 3 => 3 | 9 => 9 | 2 => 2 | 4 => 4 | 171 => 138 | 0 => 0 | 53 => 24 | 37 => 60 | 5 => 5 | 173 => 140 | 212 => 151 | 51 => 111 | 20 => 20 | 213 => 152 | 46 => 95 | 232 => 158 | 233 => 159 | n => n, fun | 17 => 1 | 18 => 4 | 19 => 5 | n => n⟩
theorem qZ : Go.Proofs.LaysM.n171 Tryz.prog kN := {
  mixed := by kernel_rfl
  f129 := Tryz.func66.trans (congrArg some (by kernel_rfl))
  f171 := Tryz.func40.trans (congrArg some (by kernel_rfl))
  f243 := Tryz.func68.trans (congrArg some (by kernel_rfl))
  f246 := Tryz.func85.trans (congrArg some (by kernel_rfl))
  f283 := Tryz.func86.trans (congrArg some (by kernel_rfl))
  f284 := Tryz.func87.trans (congrArg some (by kernel_rfl))
  f285 := Tryz.func88.trans (congrArg some (by kernel_rfl))
  f286 := Tryz.func89.trans (congrArg some (by kernel_rfl))
  f317 := Tryz.func96.trans (congrArg some (by kernel_rfl))
  f318 := Tryz.func97.trans (congrArg some (by kernel_rfl))
  f319 := Tryz.func98.trans (congrArg some (by kernel_rfl))
  f320 := Tryz.func99.trans (congrArg some (by kernel_rfl))
  f337 := Tryz.func101.trans (congrArg some (by kernel_rfl))
  f338 := Tryz.func102.trans (congrArg some (by kernel_rfl))
  t0 := Tryz.underlying0
  a0 := Tryz.isAgg0
  z0 := Tryz.sizeOf0
  v0 := Tryz.zeroValue0
  t2 := Tryz.underlying2
  a2 := Tryz.isAgg2
  z2 := Tryz.sizeOf2
  v2 := Tryz.zeroValue2
  t3 := Tryz.underlying3
  a3 := Tryz.isAgg3
  z3 := Tryz.sizeOf3
  v3 := Tryz.zeroValue3
  t4 := Tryz.underlying4
  a4 := Tryz.isAgg4
  z4 := Tryz.sizeOf4
  v4 := Tryz.zeroValue4
  t5 := Tryz.underlying5
  a5 := Tryz.isAgg5
  z5 := Tryz.sizeOf5
  v5 := Tryz.zeroValue5
  t9 := Tryz.underlying9
  a9 := Tryz.isAgg9
  z9 := Tryz.sizeOf9
  v9 := Tryz.zeroValue9
  t20 := Tryz.underlying20
  a20 := Tryz.isAgg20
  z20 := Tryz.sizeOf20
  v20 := Tryz.zeroValue20
  t37 := Tryz.underlying60
  a37 := Tryz.isAgg60
  z37 := Tryz.sizeOf60
  v37 := Tryz.zeroValue60
  t46 := Tryz.underlying95
  a46 := Tryz.isAgg95
  z46 := Tryz.sizeOf95
  v46 := Tryz.zeroValue95
  t51 := Tryz.underlying111
  a51 := Tryz.isAgg111
  z51 := Tryz.sizeOf111
  v51 := Tryz.zeroValue111
  t53 := Tryz.underlying24
  a53 := Tryz.isAgg24
  z53 := Tryz.sizeOf24
  v53 := Tryz.zeroValue24
  t171 := Tryz.underlying138
  a171 := Tryz.isAgg138
  z171 := Tryz.sizeOf138
  v171 := Tryz.zeroValue138
  t173 := Tryz.underlying140
  a173 := Tryz.isAgg140
  z173 := Tryz.sizeOf140
  v173 := Tryz.zeroValue140
  t212 := Tryz.underlying151
  a212 := Tryz.isAgg151
  z212 := Tryz.sizeOf151
  v212 := Tryz.zeroValue151
  t213 := Tryz.underlying152
  a213 := Tryz.isAgg152
  z213 := Tryz.sizeOf152
  t232 := Tryz.underlying158
  a232 := Tryz.isAgg158
  z232 := Tryz.sizeOf158
  v232 := Tryz.zeroValue158
  t233 := Tryz.underlying159
  a233 := Tryz.isAgg159
  z233 := Tryz.sizeOf159
  v233 := Tryz.zeroValue159
  g17 := by kernel_rfl
  g18 := by kernel_rfl
  g19 := by kernel_rfl
  i0 := by kernel_rfl
  i2 := by kernel_rfl
  i3 := by kernel_rfl
  i4 := by kernel_rfl
  i5 := by kernel_rfl
  i9 := by kernel_rfl
  i20 := by kernel_rfl
  i37 := by kernel_rfl
  i46 := by kernel_rfl
  i51 := by kernel_rfl
  i53 := by kernel_rfl
  i171 := by kernel_rfl
  i173 := by kernel_rfl
  i212 := by kernel_rfl
  i232 := by kernel_rfl
  i233 := by kernel_rfl
  m17 := by kernel_rfl
  m18 := by kernel_rfl
  m19 := by kernel_rfl }
def pI : Go.Shelf.Ren := ⟨fun | 145 => 11 | 220 => 23 | 219 => 43 | 217 => 71 | 225 => 72 | 224 => 73 | 267 => 74 | 266 => 90 | 314 => 91 | n => n, fun | 9 => 9 | 4 => 4 | 59 => 40 | 3 => 3 | 5 => 5 | 46 => 95 | 146 => 142 | 51 => 111 | n => n, fun | 1 => 0 | n => n⟩
theorem A_ : Go.Proofs.Lays.n145 Tryz.prog pI := {
  mixed := by kernel_rfl
  f145 := Tryz.func11.trans (congrArg some (by kernel_rfl))
  f217 := Tryz.func71.trans (congrArg some (by kernel_rfl))
  f219 := Tryz.func43.trans (congrArg some (by kernel_rfl))
  f220 := Tryz.func23.trans (congrArg some (by kernel_rfl))
  f224 := Tryz.func73.trans (congrArg some (by kernel_rfl))
  f225 := Tryz.func72.trans (congrArg some (by kernel_rfl))
  f266 := Tryz.func90.trans (congrArg some (by kernel_rfl))
  f267 := Tryz.func74.trans (congrArg some (by kernel_rfl))
  f314 := Tryz.func91.trans (congrArg some (by kernel_rfl))
  t3 := Tryz.underlying3
  a3 := Tryz.isAgg3
  z3 := Tryz.sizeOf3
  v3 := Tryz.zeroValue3
  t4 := Tryz.underlying4
  a4 := Tryz.isAgg4
  z4 := Tryz.sizeOf4
  v4 := Tryz.zeroValue4
  t5 := Tryz.underlying5
  a5 := Tryz.isAgg5
  z5 := Tryz.sizeOf5
  v5 := Tryz.zeroValue5
  t9 := Tryz.underlying9
  a9 := Tryz.isAgg9
  z9 := Tryz.sizeOf9
  v9 := Tryz.zeroValue9
  t46 := Tryz.underlying95
  a46 := Tryz.isAgg95
  z46 := Tryz.sizeOf95
  v46 := Tryz.zeroValue95
  t51 := Tryz.underlying111
  a51 := Tryz.isAgg111
  z51 := Tryz.sizeOf111
  v51 := Tryz.zeroValue111
  t59 := Tryz.underlying40
  a59 := Tryz.isAgg40
  z59 := Tryz.sizeOf40
  v59 := Tryz.zeroValue40
  t146 := Tryz.underlying142
  a146 := Tryz.isAgg142
  z146 := Tryz.sizeOf142
  v146 := Tryz.zeroValue142
  g1 := by kernel_rfl }
set_option maxHeartbeats 6400000 in
set_option maxRecDepth 100000 in
theorem Ih (u : Nat) (hu64 : u < 18446744073709551616) (w : World) (htab : Lib.TabIs Tryz.prog w "internal/strconv.uint64pow10" .u64 Lib.pow10Tab) :
    Calls Tryz.prog 69 #[.int .u64 u, .int .i64 10] w fun e w' => e = .returned (.string ⟨(Lib.decDigits u).toArray⟩) ∧ ∃ k os, w' = grow (w.drewN k) os := by
  by_cases hs : u < 100
  · go_enter Tryz.func69, Tryz.ntmps69
    go_wp2_with (go_at_call 86; refine (Any.internal_strconv_small (ρ := kN) { qZ with } u hs w).mono ?_; rintro e w' ⟨rfl, rfl⟩)
    go_ret
    exact ⟨rfl, 0, #[], by simp [World.drewN_zero]⟩
  · have hu1 : 1 ≤ u := by omega
    have hnd20 : Lib.nDigits u ≤ 20 := by have := Lib.numDigits_eq u hu1 hu64; split at this <;> omega
    have hb3 : Lib.nDigits u ≤ 24 := by omega
    have hal : Tryz.prog.arrayLen 138 = 24 := by simp [Program.arrayLen, Tryz.underlying138]
    have hsl1 : ∀ W, (Instr.sliceAt 138 (.pointer (some ⟨w.heap.size, 0, none⟩)) none (some (.int .i64 (Lib.nDigits u : Int))) none).run Tryz.prog W = .ok (.slice (some ⟨w.heap.size, 0, none⟩) (Lib.nDigits u) 24) W := fun W => by
      rw [run_sliceAt_array_h W 138 ⟨w.heap.size, 0, none⟩ (by simp [Program.arrayLen, Program.elem, Tryz.underlying138]) .i64 (Lib.nDigits u : Int) (by omega) (by rw [hal]; omega)]
      go_simp
    have hz : Holds (fun (b : UInt8) => Value.int .u8 (b.toNat : Int)) (w.alloc (.cells zeros24 138)) w.heap.size 0 (Array.replicate (nDigits u) (0 : UInt8)) := fun j hj => by
      have hj' : j < nDigits u := by simpa using hj
      refine ⟨?_, World.frozen?_alloc_new _ _ _ _⟩
      rw [World.cell?_alloc_new, zeros24_at _ (by omega), getElem!_pos _ j hj]
      simp
    have hfmt := Any.internal_strconv_formatBase10 (ρ := kN) { qZ with } w.heap.size 0 24 u (Array.replicate (nDigits u) 0) (w.alloc (.cells zeros24 138)) hz (by rw [Array.size_replicate]; exact lt_pow_nDigits u) hu64 (by rw [Array.size_replicate]; omega)
    rw [Array.size_replicate] at hfmt
    have HH0 := hid hz
    clear hz hal
    go_enter Tryz.func69, Tryz.ntmps69
    go_wp2_with (first
      | (go_at_call 87; refine (Any.internal_strconv_numDigits (ρ := kN) { qZ with } u hu1 hu64 _ (tabIs_alloc htab _)).mono ?_; rintro e w' ⟨rfl, rfl⟩))
    go_at_call 88
    refine hfmt.mono ?_
    rintro e w' ⟨rfl, k, v', dk, rfl, hF⟩
    have hcv : (convert 60 9 (.slice (some ⟨w.heap.size, 0, none⟩) (nDigits u) 24)).run Tryz.prog ((putRow (fun (b : UInt8) => Value.int .u8 (b.toNat : Int)) (w.alloc (.cells zeros24 138)) w.heap.size 0 dk).drewN k) = .ok (.string ⟨(decDigits u).toArray⟩) ((putRow (fun (b : UInt8) => Value.int .u8 (b.toNat : Int)) (w.alloc (.cells zeros24 138)) w.heap.size 0 dk).drewN k) := by
      have h := run_convert_bytes_back (P := Tryz.prog) ((putRow (fun (b : UInt8) => Value.int .u8 (b.toNat : Int)) (w.alloc (.cells zeros24 138)) w.heap.size 0 dk).drewN k) 60 9 5 ⟨w.heap.size, 0, none⟩ 24 (decDigits u) Tryz.underlying60 Tryz.underlying5 Tryz.underlying9 (fun j hj => by
        rw [row_is_numeral hF j hj, add_plain, World.cell?_drewN]
        exact cell?_putRow (fun (b : UInt8) => Value.int .u8 (b.toNat : Int)) _ w.heap.size 0 _ dk HH0.out (by rw [hF.size, Array.size_replicate]) j (by rw [hF.size]; rw [decDigits_length] at hj; exact hj))
      rw [decDigits_length] at h
      exact h
    go_wp2
    go_ret
    have fin : ∃ os, (putRow (fun (b : UInt8) => Value.int .u8 (b.toNat : Int)) (w.alloc (.cells zeros24 138)) w.heap.size 0 dk).drewN k = grow (w.drewN k) os := by
      rw [alloc_eq_grow]
      obtain ⟨os', _, e⟩ := putRow_grow_new (fun (b : UInt8) => Value.int .u8 (b.toNat : Int)) w #[Obj.cells zeros24 138] w.heap.size 0 dk (Nat.le_refl _)
      exact ⟨os', by rw [e]; rfl⟩
    obtain ⟨os, eo⟩ := fin
    exact ⟨rfl, k, os, eo⟩
theorem Ba {P : Program} {w : World} {ops : Array Oper} {rest : List Oper} {o : Oper} {a : Act} {Q : Exit → Act → World → Prop} (hgd : o.guard = none) (sl x : Operand) (t u : TypeId)
    (ho : o.op = .call { callee := .builtin .append, args := #[sl, x], argTypes := #[t, u] }) (v y v' : Value) (w' : World) (hs : a.eval sl = v) (hx : a.eval x = y)
    (hr : (Builtin.append_ #[t, u] o.type #[v, y]).run P w = .ok v' w') (h : wpList P ops Q rest (a.put o.dst v') w') : wpList P ops Q (o :: rest) a w := by
  refine wpList_plain hgd fun K hK => ?_
  unfold Oper.wp execOp
  simp only [ho, resolve, invoke, builtin, Sem.run_bind, Sem.run_pure, Result.andThen_ok, List.map_toArray, List.map_cons, List.map_nil, hs, hx, hr]
  exact hK _ _ h
set_option maxHeartbeats 1000000 in
set_option maxRecDepth 100000 in
theorem FN (b : Nat) (w : World) (h0 : w.cell? ⟨b, 0, none⟩ = some (.pointer (some ⟨b, 0, none⟩))) :
    Calls Tryz.prog 39 #[.pointer (some ⟨b, 0, none⟩)] w fun e w' => e = .returned (.tuple #[]) ∧ w' = w := by
  obtain ⟨j, hj, _⟩ : ∃ j, Tryz.prog.info? 68 = some j ∧ j.size = 2 := Option.map_eq_some_iff.1 (by kernel_rfl)
  go_enter Tryz.func39, Tryz.ntmps39
  go_wp2
  rw [Lib.run_neq_ptr_same w _ Tryz.underlying66 hj]
  go_wp2
  go_end0
  exact ⟨rfl, rfl⟩
set_option maxHeartbeats 1000000 in
set_option maxRecDepth 100000 in
theorem FO (b : Nat) (w : World) (h0 : w.cell? ⟨b, 0, none⟩ = some (.pointer none)) (hsh : w.shape? b = some (68, 2)) (hfz : w.frozen? ⟨b, 0, none⟩ = false) :
    Calls Tryz.prog 39 #[.pointer (some ⟨b, 0, none⟩)] w fun e w' => e = .returned (.tuple #[]) ∧ w' = w.setCell ⟨b, 0, none⟩ (.pointer (some ⟨b, 0, none⟩)) := by
  obtain ⟨j, hj, hjs⟩ : ∃ j, Tryz.prog.info? 68 = some j ∧ j.size = 2 := Option.map_eq_some_iff.1 (by kernel_rfl)
  go_enter Tryz.func39, Tryz.ntmps39
  go_wp2
  rw [Lib.run_to_unsafe w ⟨b, 0, none⟩ Tryz.underlying66 Tryz.underlying123 hj (by rw [hjs]; decide) hsh (Nat.zero_lt_succ 1)]
  simp only [Result.andThen]
  rw [Oper.upon_value]
  go_wp2
  rw [run_callFunc_extern Tryz.func67 (by kernel_rfl) (by kernel_rfl) (by kernel_rfl) (e := Extern.AbiNoEscape.same) (by kernel_rfl)]
  rw [Lib.run_noEscape]
  simp only [Result.andThen]
  rw [Oper.upon_value]
  go_wp2
  rw [Lib.run_from_unsafe w ⟨b, 0, none⟩ Tryz.underlying123 Tryz.underlying66 hj hsh (by kernel_rfl)]
  simp only [Result.andThen]
  rw [Oper.upon_value]
  go_wp2
  go_end0
  exact ⟨rfl, rfl⟩
theorem Ii : Go.Sx.TF Tryz.prog 60 5 [.int .u8 0] 1 := ⟨by kernel_rfl, by kernel_rfl, by decide, by decide⟩
set_option maxHeartbeats 2000000 in
set_option maxRecDepth 100000 in
theorem FP (b : Nat) (xs s : List UInt8) (w : World) (p v : Value) (hp : p = Value.pointer none ∨ p = Value.pointer (some ⟨b, 0, none⟩)) (hb : w.heap[b]? = some (.cells #[p, v] 68 (0, 0))) (hown : w.ownsRow 0 5 1 v xs.length (Lib.byteCells xs)) (hne : v.ownBlock ≠ some b) (hz : xs.length + s.length ≤ 140737488355328) :
    Calls Tryz.prog 19 #[.pointer (some ⟨b, 0, none⟩), .string ⟨⟨s⟩⟩] w fun e w' => e = .returned (.tuple #[.int .i64 (s.length : Nat), .nilIface]) ∧ ∃ v', w'.heap[b]? = some (.cells #[.pointer (some ⟨b, 0, none⟩), v'] 68 (0, 0)) ∧ w'.ownsRow 0 5 1 v' (xs ++ s).length (Lib.byteCells (xs ++ s)) ∧ v'.ownBlock ≠ some b ∧
      (∀ h, v'.ownBlock = some h → v.ownBlock = some h ∨ w.heap.size ≤ h) ∧ w'.os = w.os ∧ w'.tape = w.tape ∧ w'.output = w.output ∧ w.heap.size ≤ w'.heap.size ∧ ∀ k, k < w.heap.size → k ≠ b → v.ownBlock ≠ some k → w'.heap[k]? = w.heap[k]? := by
  have hcopy : ∃ w1, (Calls Tryz.prog 39 #[.pointer (some ⟨b, 0, none⟩)] w fun e w' => e = .returned (.tuple #[]) ∧ w' = w1) ∧ w1.heap[b]? = some (.cells #[.pointer (some ⟨b, 0, none⟩), v] 68 (0, 0)) ∧ w.grownBy w1 (some b) ∧ w1.heap.size = w.heap.size := by
    rcases hp with rfl | rfl
    · refine ⟨_, FO b w (by simp [World.cell?, hb]) (by simp [World.shape?, hb]) (by simp [World.frozen?, hb]), by simp [World.setCell, Array.getElem?_modify, hb], ⟨rfl, rfl, rfl, by simp [World.setCell], fun k _ hk => Below.heap_setCell _ _ _ _ (fun e => hk (by simp [e]))⟩, by simp [World.setCell]⟩
    · exact ⟨w, FN b w (by simp [World.cell?, hb]), hb, ⟨rfl, rfl, rfl, Nat.le_refl _, fun _ _ _ => rfl⟩, rfl⟩
  obtain ⟨w1, hc, hb1, hg1, hs1⟩ := hcopy
  have hown1 := hown.kept hg1 (Or.inr hne)
  obtain ⟨v', w2, hr, ho, hg, hl⟩ := Go.Sx.Ig (ty := 60) Ii (by kernel_rfl) Tryz.underlying9 hown1 s hz
  have hlt : b < w1.heap.size := by
    rcases Nat.lt_or_ge b w1.heap.size with h' | h'
    · exact h'
    · simp [Array.getElem?_eq_none h'] at hb1
  have hb2 : w2.heap[b]? = some (.cells #[.pointer (some ⟨b, 0, none⟩), v] 68 (0, 0)) := by
    rw [hg.block b hlt (fun e => hne e.symm)]; exact hb1
  have hne2 : v'.ownBlock ≠ some b := Lib.ownBlock_ne ho hb2 (by decide)
  have fin : ∃ v'', (w2.setCell ⟨b, 1, none⟩ v').heap[b]? = some (.cells #[.pointer (some ⟨b, 0, none⟩), v''] 68 (0, 0)) ∧ (w2.setCell ⟨b, 1, none⟩ v').ownsRow 0 5 1 v'' (xs ++ s).length (Lib.byteCells (xs ++ s)) ∧ v''.ownBlock ≠ some b ∧
      (∀ h, v''.ownBlock = some h → v.ownBlock = some h ∨ w.heap.size ≤ h) ∧ (w2.setCell ⟨b, 1, none⟩ v').os = w.os ∧ (w2.setCell ⟨b, 1, none⟩ v').tape = w.tape ∧ (w2.setCell ⟨b, 1, none⟩ v').output = w.output ∧ w.heap.size ≤ (w2.setCell ⟨b, 1, none⟩ v').heap.size ∧ ∀ k, k < w.heap.size → k ≠ b → v.ownBlock ≠ some k → (w2.setCell ⟨b, 1, none⟩ v').heap[k]? = w.heap[k]? := by
    refine ⟨v', by simp [World.setCell, Array.getElem?_modify, hb2], ho.kept (row := some b) ⟨rfl, rfl, rfl, by simp [World.setCell], fun k _ hk => Below.heap_setCell _ _ _ _ (fun e => hk (by simp [e]))⟩ (Or.inr hne2), hne2, fun h hh => by rw [← hs1]; exact hl h hh, hg.os.trans hg1.os, hg.tape.trans hg1.tape, hg.output.trans hg1.output, ?_, fun k hk hkb hkv => ?_⟩
    · have := hg.size
      simp only [World.setCell, Array.size_modify]; omega
    · rw [Below.heap_setCell _ _ _ _ (fun e => hkb e), hg.block k (by omega) (fun e => hkv e.symm), hg1.block k hk (fun e => hkb (by simpa using e))]
  have c1 : w1.cell? ⟨b, 1, none⟩ = some v := by simp [World.cell?, hb1]
  have d1 : w2.cell? ⟨b, 1, none⟩ = some v := by simp [World.cell?, hb2]
  have f1 : w2.frozen? ⟨b, 1, none⟩ = false := by simp [World.frozen?, hb2]
  obtain ⟨ao, n', cap, rfl⟩ : ∃ ao n' cap, v' = .slice ao n' cap := by
    rcases ho.2 with ⟨hv, _⟩ | ⟨g, cap, cur, hv, _⟩
    · exact ⟨_, _, _, hv⟩
    · exact ⟨_, _, _, hv⟩
  clear hb hown hp
  go_enter Tryz.func19, Tryz.ntmps19
  go_wp2_with (go_at_call 39; refine hc.mono ?_)
  rintro e w' ⟨rfl, rfl⟩
  go_wp2_with (at_builtin; refine Ba rfl _ _ 60 9 rfl v (.string ⟨⟨s⟩⟩) _ _ rfl rfl hr ?_)
  go_ret2
  exact ⟨rfl, fin⟩
theorem D5 {w : World} {g n k : Nat} (h : k ≠ g) : (w.freeze ⟨g, 0, none⟩ n).heap[k]? = w.heap[k]? := by
  unfold World.freeze
  split
  · rfl
  · simp only [Array.getElem?_modify]
    rw [if_neg (fun e => h e.symm)]
theorem su {w : World} {g n : Nat} : (w.freeze ⟨g, 0, none⟩ n).heap.size = w.heap.size ∧ (w.freeze ⟨g, 0, none⟩ n).os = w.os ∧ (w.freeze ⟨g, 0, none⟩ n).tape = w.tape ∧ (w.freeze ⟨g, 0, none⟩ n).output = w.output := by
  unfold World.freeze
  split
  · exact ⟨rfl, rfl, rfl, rfl⟩
  · exact ⟨by simp, rfl, rfl, rfl⟩
set_option maxHeartbeats 4000000 in
set_option maxRecDepth 100000 in
theorem KC (b : Nat) (xs : List UInt8) (w : World) (p v : Value) (hb : w.heap[b]? = some (.cells #[p, v] 68 (0, 0))) (hown : w.ownsRow 0 5 1 v xs.length (Lib.byteCells xs)) (hne : v.ownBlock ≠ some b) :
    Calls Tryz.prog 21 #[.pointer (some ⟨b, 0, none⟩)] w fun e w' => e = .returned (.string ⟨⟨xs⟩⟩) ∧ w'.os = w.os ∧ w'.tape = w.tape ∧ w'.output = w.output ∧ w.heap.size ≤ w'.heap.size ∧ ∀ k, k < w.heap.size → v.ownBlock ≠ some k → w'.heap[k]? = w.heap[k]? := by
  have mixed : Tryz.prog.follows .mixedOrders = true := by kernel_rfl
  have hUS : ∀ (W : World) (q : Option Addr), (Builtin.unsafeString_ #[98, 3] 9 #[.pointer q, .int .i64 0]).run Tryz.prog W = .ok (.string .empty) W := fun W q => Lib.run_unsafeString_none W _ _ _ q
  have hlt : b < w.heap.size := by
    rcases Nat.lt_or_ge b w.heap.size with h' | h'
    · exact h'
    · simp [Array.getElem?_eq_none h'] at hb
  rcases hown.2 with ⟨rfl, h0⟩ | ⟨g, cap, cur, rfl, _, hg, hnc, hcm, hcs, htake⟩
  · obtain rfl : xs = [] := List.eq_nil_of_length_eq_zero h0
    have c1 : w.drew.cell? ⟨b, 1, none⟩ = some (.slice none 0 0) := by
      have : w.drew.heap[b]? = _ := hb
      rw [Lib.cell_of_heap this]; rfl
    have hSD : (Builtin.unsafeSliceData_ #[60] 98 #[.slice none 0 0]).run Tryz.prog w.drew = .ok (.pointer none) w.drew := rfl
    clear hb hown
    go_enter Tryz.func21, Tryz.ntmps21
    go_wp2
    go_region_o
    all_goals (go_wp2; go_ret; exact ⟨rfl, rfl, rfl, rfl, Nat.le_refl _, fun _ _ _ => rfl⟩)
  · by_cases hx : xs = []
    · subst hx
      by_cases hc0 : cap = 0
      · subst hc0
        have hSD : (Builtin.unsafeSliceData_ #[60] 98 #[.slice (some ⟨g, 0, none⟩) 0 0]).run Tryz.prog w.drew = .ok (.pointer (some ⟨w.drew.heap.size, 0, none⟩)) (w.drew.alloc (.view ⟨g, 0, none⟩ 5)) :=
          Lib.run_unsafeSliceData_zero w.drew _ _ 5 Tryz.underlying98 ⟨g, 0, none⟩ 0 (5, cur.size) (by have hg' : w.drew.heap[g]? = _ := hg; simp [World.shape?, hg'])
        have c1 : w.drew.cell? ⟨b, 1, none⟩ = some (.slice (some ⟨g, 0, none⟩) 0 0) := by
          have : w.drew.heap[b]? = _ := hb
          rw [Lib.cell_of_heap this]; rfl
        have c2 : (w.drew.alloc (.view ⟨g, 0, none⟩ 5)).cell? ⟨b, 1, none⟩ = some (.slice (some ⟨g, 0, none⟩) 0 0) := by
          have : (w.drew.alloc (.view ⟨g, 0, none⟩ 5)).heap[b]? = _ := (Lib.alloc_old w.drew _ b hlt).trans hb
          rw [Lib.cell_of_heap this]; rfl
        have c3 : (w.alloc (.view ⟨g, 0, none⟩ 5)).drew.cell? ⟨b, 1, none⟩ = some (.slice (some ⟨g, 0, none⟩) 0 0) := c2
        have c0 : w.cell? ⟨b, 1, none⟩ = some (.slice (some ⟨g, 0, none⟩) 0 0) := c1
        have fin : ∀ k, k < w.heap.size → (w.drew.alloc (.view ⟨g, 0, none⟩ 5)).heap[k]? = w.heap[k]? := fun k hk => Lib.alloc_old w.drew _ k hk
        have Pg : w.heap.size ≤ (w.drew.alloc (.view ⟨g, 0, none⟩ 5)).heap.size := by rw [World.size_alloc]; exact Nat.le_succ _
        clear hb hown hg
        go_enter Tryz.func21, Tryz.ntmps21
        go_wp2
        go_region_o
        all_goals (go_wp2; go_ret; exact ⟨rfl, rfl, rfl, rfl, Pg, fun k hk _ => fin k hk⟩)
      · have hSD : (Builtin.unsafeSliceData_ #[60] 98 #[.slice (some ⟨g, 0, none⟩) 0 cap]).run Tryz.prog w.drew = .ok (.pointer (some ⟨g, 0, none⟩)) w.drew :=
          Lib.run_unsafeSliceData_row _ _ _ _ _ _ hc0
        have c1 : w.drew.cell? ⟨b, 1, none⟩ = some (.slice (some ⟨g, 0, none⟩) 0 cap) := by
          have : w.drew.heap[b]? = _ := hb
          rw [Lib.cell_of_heap this]; rfl
        clear hb hown hg hc0 hnc hcm hcs htake
        go_enter Tryz.func21, Tryz.ntmps21
        go_wp2
        go_region_o
        all_goals (go_wp2; go_ret; exact ⟨rfl, rfl, rfl, rfl, Nat.le_refl _, fun _ _ _ => rfl⟩)
    · have hl0 : xs.length ≠ 0 := by simpa using hx
      have hSD : (Builtin.unsafeSliceData_ #[60] 98 #[.slice (some ⟨g, 0, none⟩) xs.length cap]).run Tryz.prog w.drew = .ok (.pointer (some ⟨g, 0, none⟩)) w.drew :=
        Lib.run_unsafeSliceData_row _ _ _ _ _ _ (by omega)
      have Uz : (Builtin.unsafeString_ #[98, 3] 9 #[.pointer (some ⟨g, 0, none⟩), .int .i64 xs.length]).run Tryz.prog w.drew = .ok (.string ⟨⟨xs⟩⟩) (w.drew.freeze ⟨g, 0, none⟩ xs.length) := by
        refine Lib.run_unsafeString_row w.drew 98 3 9 5 Tryz.underlying98 (by kernel_rfl) g cur.size (by have hg' : w.drew.heap[g]? = _ := hg; simp [World.shape?, hg']) xs hx (by omega) (by unfold maxLen at hcm; omega) ?_
        intro j x hx
        exact hown.cells (g := g) rfl j (.int .u8 x.toNat) (by simp [Lib.byteCells, hx])
      have c1 : w.drew.cell? ⟨b, 1, none⟩ = some (.slice (some ⟨g, 0, none⟩) xs.length cap) := by
        have : w.drew.heap[b]? = _ := hb
        rw [Lib.cell_of_heap this]; rfl
      have fin : ∀ k, k < w.heap.size → (Value.slice (some ⟨g, 0, none⟩) xs.length cap).ownBlock ≠ some k → (w.drew.freeze ⟨g, 0, none⟩ xs.length).heap[k]? = w.heap[k]? := fun k hk h => D5 (fun e => h (by rw [e]; rfl))
      have Pg : w.heap.size ≤ (w.drew.freeze ⟨g, 0, none⟩ xs.length).heap.size := by rw [su.1]; exact Nat.le_refl _
      clear hb hown hg
      go_enter Tryz.func21, Tryz.ntmps21
      go_wp2
      go_region_o
      all_goals (go_wp2; go_ret; exact ⟨rfl, su.2.1, su.2.2.1, su.2.2.2, Pg, fin⟩)
theorem D6 (u : UInt64) (w : World) (htab : Lib.TabIs Tryz.prog w "internal/strconv.uint64pow10" .u64 Lib.pow10Tab) :
    Calls Tryz.prog 41 #[.int .u64 u.toNat, .int .i64 10] w fun e w' => e = .returned (.string ⟨⟨Lib.decDigits u.toNat⟩⟩) ∧ ∃ k os, w' = grow (w.drewN k) os := by
  have h := Ih u.toNat u.toNat_lt w htab
  go_enter Tryz.func41, Tryz.ntmps41
  go_wp2_with (go_at_call 69; refine h.mono ?_; rintro e w' ⟨rfl, k, os, rfl⟩)
  go_ret
  exact ⟨rfl, k, os, rfl⟩
end Go.Proofs
namespace Go.Sx
open Go.Proofs Go.RowKit
theorem Ij {F O : Nat → Prop} {w0 w : World} {hs : List HP} (k : Cx F O w0 w hs) (u : UInt64) (hT : qm Tryz.prog F w0) :
    Calls Tryz.prog 41 (vals [.u64 u, I 10]) w (fun e w' => e = .returned (SV.val (.s (Lib.decDigits u.toNat))) ∧ Cx F O w0 w' hs) := by
  refine (D6 u w (hT.cx k)).mono ?_
  rintro e w' ⟨rfl, m, os, rfl⟩
  refine ⟨rfl, ?_⟩
  have := k.call (Cx.more w m os)
  rw [List.append_nil] at this
  exact this
theorem Jz {F O : Nat → Prop} {w0 w : World} {hs : List HP} (k : Cx F O w0 w hs) (s : List UInt8) (c : UInt8) :
    Calls Tryz.prog 43 (vals [.s s, .s [c]]) w (fun e w' => e = .returned (SV.val (I (Lib.indexByte s c))) ∧ Cx F O w0 w' hs) := by
  refine (Any.stringslite_Index_one (ρ := pI) { A_ with } ⟨⟨s⟩⟩ c w).mono ?_
  rintro e w' ⟨rfl, rfl⟩
  exact ⟨rfl, k⟩
theorem NL {F O : Nat → Prop} {w0 w : World} {hs : List HP} {g : Nat} {xs : List UInt8} (k : Cx F O w0 w (Bd 68 5 g xs :: hs)) (s : List UInt8) (hz : xs.length + s.length ≤ 140737488355328) :
    Calls Tryz.prog 19 (vals [.v (.pointer (some ⟨g, 0, none⟩)), .s s]) w (fun e w' => e = .returned (SV.val (.fV [I (s.length : Nat), .v .nilIface])) ∧ Cx F O w0 w' (Bd 68 5 g (xs ++ s) :: hs)) := by
  obtain ⟨F1, O1, kin, hO, hre, hF1, hb⟩ := k.enter (ins := [Bd 68 5 g xs]) (rest := hs)
  obtain ⟨U, V, ⟨S, R, U', V', ⟨p, v, hp, hbk, hown, hne, Ph, OJ⟩, h2, h3, h4, h5, h6⟩, hU, hV⟩ := kin.sep
  have hF : ∀ b, S b → F1 b := fun b hb => (hU b ((h3 b).2 (.inl hb))).elim id (fun h => by omega)
  refine (FP g xs s w p v hp hbk hown hne hz).mono ?_
  rintro e w' ⟨rfl, v', g1, g2, g3, g4, g5, g6, g7, g8, g9⟩
  refine ⟨rfl, hb w' [Bd 68 5 g (xs ++ s)] ⟨g5, g6, g7, g8, fun b hlt hn => g9 b hlt (fun e => hn (hF b (e ▸ Ph))) (fun e => hn (hF b (OJ b e))), kin.fin, kin.wV, fun b => b = g ∨ v'.ownBlock = some b, fun _ => False,
    ⟨fun b => b = g ∨ v'.ownBlock = some b, fun _ => False, fun _ => False, fun _ => False, ⟨_, v', .inr rfl, g1, g2, g3, .inl rfl, fun h hh => .inr hh⟩, ⟨fun _ h => h, fun _ h => h⟩, by simp, by simp, by simp, by simp⟩, fun b hb => ?_, fun _ h => h.elim⟩⟩
  rcases hb with rfl | hb
  · exact .inl (hF _ Ph)
  · rcases g4 b hb with h | h
    · exact .inl (hF _ (OJ b h))
    · exact .inr ⟨h, (g2.lt b hb).2⟩
theorem NM {F O : Nat → Prop} {w0 w : World} {hs : List HP} {g : Nat} {xs : List UInt8} (k : Cx F O w0 w (Bd 68 5 g xs :: hs)) :
    Calls Tryz.prog 21 (vals [.v (.pointer (some ⟨g, 0, none⟩))]) w (fun e w' => e = .returned (SV.val (.s xs)) ∧ Cx F O w0 w' hs) := by
  obtain ⟨F1, O1, kin, hO, hre, hF1, hb⟩ := k.enter (ins := [Bd 68 5 g xs]) (rest := hs)
  obtain ⟨U, V, ⟨S, R, U', V', ⟨p, v, hp, hbk, hown, hne, Ph, OJ⟩, h2, h3, h4, h5, h6⟩, hU, hV⟩ := kin.sep
  have hF : ∀ b, S b → F1 b := fun b hb => (hU b ((h3 b).2 (.inl hb))).elim id (fun h => by omega)
  refine (KC g xs w p v hbk hown hne).mono ?_
  rintro e w' ⟨rfl, g5, g6, g7, g8, g9⟩
  exact ⟨rfl, hb w' [] ⟨g5, g6, g7, g8, fun b hlt hn => g9 b hlt (fun e => hn (hF b (OJ b e))), kin.fin, kin.wV, fun _ => False, fun _ => False, ⟨fun _ h => h, fun _ h => h⟩, fun _ h => h.elim, fun _ h => h.elim⟩⟩
end Go.Sx
