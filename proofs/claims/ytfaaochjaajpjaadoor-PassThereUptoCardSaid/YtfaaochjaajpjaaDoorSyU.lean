import Derived.Test.YtfaaochjaajpjaaDoorSyT
import Derived.Maps.RangeRun
import Derived.Sort.OwnSorted
import Derived.Sort.KeysCollected
import Derived.Shelf.Sort.Plain
import Derived.Shelf.Slices.In.SortNone
namespace Go.Sx
open Go.RowKit Go.MapKept
set_option linter.unusedSimpArgs false
set_option linter.unusedVariables false
variable {α : Type}

/-! ### a map that is gone over -/
/-- a map and what goes over it: the keys that are left; the one that came last -/
def Mi (b r : Nat) (ks : List (List UInt8)) (vs : List Value) (left : List (List UInt8)) (cur : Option (List UInt8)) : HP where
  p w S R := ks.length = vs.length ∧ (∃ (es : Array MapEntry) (clock since c0 : Nat) (seen : Array Nat), w.heap[b]? = some (.map es clock) ∧ es.toList.map (·.key) = ks.map kV ∧ es.toList.map (·.val) = vs ∧ Stamped es clock ∧
    w.heap[r]? = some (.mapIter (some b) since seen c0) ∧ (∀ x ∈ es.toList, x.born < since) ∧ since ≤ c0 ∧ since ≤ clock ∧ ((leftOf es seen).toList.map (·.key)).Perm (left.map kV) ∧
    (∀ k, cur = some k → ∃ e ∈ es.toList, e.key = kV k ∧ c0 = clock ∧ ∃ seen0 : Array Nat, seen = seen0.push e.born)) ∧ S b ∧ S r
  loc := by
    rintro w w' S R ⟨h0, ⟨es, clock, since, c0, seen, h1, h2, h3, h4, h5, h6⟩, h7, h8⟩ hk
    exact ⟨h0, ⟨es, clock, since, c0, seen, by rw [hk b (.inl h7)]; exact h1, h2, h3, h4, by rw [hk r (.inl h8)]; exact h5, h6⟩, h7, h8⟩
theorem map_perm {l l' : List (List UInt8)} (h : (l.map kV).Perm (l'.map kV)) : l.Perm l' := by
  have key : ∀ l : List (List UInt8), (l.map kV).map (fun v => match v with | .string s => s.data.toList | _ => []) = l := fun l => by
    rw [List.map_map]
    conv => rhs; rw [← List.map_id l]
    apply List.map_congr_left
    intro a _
    rfl
  have := h.map (fun v => match v with | .string s => s.data.toList | _ => [])
  rwa [key, key] at this
theorem left_perm {es : Array MapEntry} {seen : Array Nat} {e : MapEntry} (hn : (es.toList.map (·.born)).Nodup) (he : e ∈ (leftOf es seen).toList) : (leftOf es seen).toList.Perm (e :: (leftOf es (seen.push e.born)).toList) := by
  obtain ⟨h1, h2⟩ := mem_left he
  unfold leftOf
  rw [Array.toList_filter, Array.toList_filter]
  generalize es.toList = l at *
  induction l with
  | nil => cases h1
  | cons x l ih =>
    simp only [List.map_cons, List.nodup_cons] at hn
    by_cases hx : x.born = e.born
    · have hxe : x = e := by
        rcases List.mem_cons.1 h1 with rfl | h
        · rfl
        · exact absurd (List.mem_map.2 ⟨e, h, hx.symm⟩) hn.1
      subst hxe
      rw [List.filter_cons, if_pos (by rw [h2]; rfl), List.filter_cons, if_neg (by rw [contains_push]; simp)]
      refine .cons _ (.of_eq ?_)
      apply List.filter_congr
      intro y hy
      rw [contains_push]
      have : (y.born == x.born) = false := by
        cases hc : y.born == x.born with
        | false => rfl
        | true => exact absurd (List.mem_map.2 ⟨y, hy, beq_iff_eq.1 hc⟩) hn.1
      rw [this, Bool.or_false]
    · have hel : e ∈ l := by
        rcases List.mem_cons.1 h1 with rfl | h
        · exact absurd rfl hx
        · exact h
      have hxe : (x.born == e.born) = false := by simpa using hx
      have hc2 : (seen.push e.born).contains x.born = seen.contains x.born := by rw [contains_push, hxe, Bool.or_false]
      have ih' := ih hn.2 hel
      rw [List.filter_cons, List.filter_cons, hc2]
      split
      · exact (List.Perm.cons _ ih').trans (.swap _ _ _)
      · exact ih'
section
variable {P : Program} {n : Nat} {ops : Array Oper} {L : St} {w w0 : World} {F O : Nat → Prop} {hs rest : List HP} {K : St → World → Prop}
theorem Op_range {dst : Option Nat} {t kt e ty : TypeId} {x : Operand} {pos : String} {aft : Array Edge} {g : Option (Nat × Bool)} (ss : List Nat) (d i : Nat) {b : Nat} {ks : List (List UInt8)} {vs : List Value}
    (hside : (gok ops ss L ⟨dst, .range t x, ty, pos, aft, g⟩, dst, (decide (d < n)), (L.any fun p => p.1 == d), (toSS [x] (lk L)).map SV.vals, P.underlying t) = (true, some d, true, false, some [.map (some b)], some (.map kt e)))
    (k : Cx F O w0 w hs) (hi : hs[i]? = some (Mb b ks vs)) (hk : ∀ r w', Cx F O w0 w' (hs.set i (Mi b r ks vs ks none)) → K ((d, .v (.pointer (some ⟨r, 0, none⟩))) :: L) w') :
    Op1 P n ops L w ⟨dst, .range t x, ty, pos, aft, g⟩ K := by
  simp only [Prod.mk.injEq, Option.map_eq_some_iff, decide_eq_true_eq] at hside
  obtain ⟨s1, rfl, s3, s4, ⟨svs, s5, s6⟩, s7⟩ := hside
  refine WL_of (xs := [x]) (svs := svs) ss (d := d) (by simp [Side, s1, s3, s4, s5]) fun a ha he => ?_
  rw [s6] at he
  simp only [List.map_cons, List.map_nil, List.cons.injEq, and_true] at he
  obtain ⟨S, R, hl, ⟨es, clock, m1, m2, m3, m4⟩, hS⟩ := k.get i hi
  have hrun := run_range_map (P := P) w t kt e b es clock s7 m1
  unfold Oper.wp execOp
  simp only [he, Sem.run_bind, hrun, Result.andThen_ok, Sem.run_pure]
  refine ⟨.v (.pointer (some ⟨w.heap.size, 0, none⟩)), rfl, hk w.heap.size _ (k.upd1 i hi none (World.grownBy_alloc w _ none) fun S R hS hlt => ?_)⟩
  obtain ⟨hl, ⟨es1, c1, q1, q2, q3, q4⟩, hS⟩ := hS
  have hblt := hlt b hS
  rw [m1] at q1
  simp only [Option.some.injEq, Obj.map.injEq] at q1
  obtain ⟨rfl, rfl⟩ := q1
  refine ⟨fun g hg => (by cases hg), fun q => S q ∨ q = w.heap.size, fun _ => False, ⟨hl, ⟨es, clock, clock, clock, #[], ?_, q2, q3, q4, (heap_alloc w _).1, q4.1, Nat.le_refl _, Nat.le_refl _, ?_, fun k hk => by cases hk⟩, .inl hS, .inr rfl⟩, fun q hq => ?_, fun _ h => h⟩
  · rw [heap_alloc_old w _ hblt]; exact m1
  · unfold leftOf
    have : es.filter (fun e => !(#[] : Array Nat).contains e.born) = es := Array.filter_eq_self.2 (fun x hx => by simp)
    rw [this, q2]
  · rcases hq with hq | rfl
    · exact ⟨by rw [World.size_alloc]; have := hlt q hq; omega, .inl hq⟩
    · exact ⟨by rw [World.size_alloc]; omega, .inr (Nat.le_refl _)⟩
theorem key_of {es : Array MapEntry} {ks : List (List UInt8)} (h : es.toList.map (·.key) = ks.map kV) {e : MapEntry} (he : e ∈ es.toList) : ∃ k ∈ ks, e.key = kV k := by
  have : e.key ∈ es.toList.map (·.key) := List.mem_map.2 ⟨e, he, rfl⟩
  rw [h] at this
  obtain ⟨k, hk, hke⟩ := List.mem_map.1 this
  exact ⟨k, hk, hke.symm⟩
theorem Op_next {dst : Option Nat} {ty : TypeId} {x : Operand} {pos : String} {aft : Array Edge} {g : Option (Nat × Bool)} (ss : List Nat) (d i : Nat) {b r : Nat} {ks left : List (List UInt8)} {vs : List Value} {cur : Option (List UInt8)}
    (hside : (gok ops ss L ⟨dst, .next x false, ty, pos, aft, g⟩, dst, (decide (d < n)), (L.any fun p => p.1 == d), (toSS [x] (lk L)).map SV.vals) = (true, some d, true, false, some [.pointer (some ⟨r, 0, none⟩)]))
    (k : Cx F O w0 w hs) (hi : hs[i]? = some (Mi b r ks vs left cur))
    (h0 : left = [] → K ((d, .tup [.b false]) :: L) w)
    (h1 : ∀ key left' v w', left.Perm (key :: left') → Cx F O w0 w' (hs.set i (Mi b r ks vs left' (some key))) → K ((d, .tup [.b true, .s key, .v v]) :: L) w') :
    Op1 P n ops L w ⟨dst, .next x false, ty, pos, aft, g⟩ K := by
  simp only [Prod.mk.injEq, Option.map_eq_some_iff, decide_eq_true_eq] at hside
  obtain ⟨s1, rfl, s3, s4, ⟨svs, s5, s6⟩⟩ := hside
  refine WL_of (xs := [x]) (svs := svs) ss (d := d) (by simp [Side, s1, s3, s4, s5]) fun a ha he => ?_
  rw [s6] at he
  simp only [List.map_cons, List.map_nil, List.cons.injEq, and_true] at he
  obtain ⟨S, R, hl, ⟨es, clock, since, c0, seen, m1, m2, m3, m4, m5, m6, m7, m7', m8, m9⟩, hS, hS2⟩ := k.get i hi
  rcases run_next_at (P := P) w ty r b since c0 seen es clock m5 m1 m6 m7 with ⟨f1, hrun⟩ | ⟨e, f1, w1, f2, hrun⟩
  · unfold Oper.wp execOp
    simp only [he, Sem.run_bind, hrun, Result.andThen_ok, Sem.run_pure]
    refine ⟨.tup [.b false], rfl, h0 ?_⟩
    have h2 := m8.length_eq
    simp only [List.length_map, Array.length_toList, f1] at h2
    exact List.eq_nil_of_length_eq_zero h2.symm
  · obtain ⟨g1, g2⟩ := mem_left f1
    obtain ⟨key, hk1, hk2⟩ := key_of m2 g1
    have hp := left_perm m4.2.1 f1
    have hkl : kV key ∈ left.map kV := m8.mem_iff.1 (by rw [← hk2]; exact List.mem_map.2 ⟨e, f1, rfl⟩)
    obtain ⟨key', hk3, hk4⟩ := List.mem_map.1 hkl
    obtain rfl := kV_inj hk4
    have hpl := List.perm_cons_erase hk3
    unfold Oper.wp execOp
    simp only [he, Sem.run_bind, hrun, Result.andThen_ok, Sem.run_pure]
    rw [hk2]
    refine ⟨.tup [.b true, .s key', .v e.val], rfl, h1 key' (left.erase key') e.val _ hpl ?_⟩
    have hr1 : w1.heap[r]? = some (.mapIter (some b) since seen c0) := by rcases f2 with rfl | rfl <;> exact m5
    have hb1 : w1.heap[b]? = some (.map es clock) := by rcases f2 with rfl | rfl <;> exact m1
    have hrb : r ≠ b := fun h => by rw [h, m1] at m5; cases m5
    have hgr : w.grownBy (ChangeMaps.setBlock w1 r (.mapIter (some b) since (seen.push e.born) clock)) (some r) := by
      rcases f2 with rfl | rfl
      · exact ⟨rfl, rfl, rfl, by simp [ChangeMaps.setBlock], fun q hq hne => by
          simp only [ChangeMaps.setBlock]
          exact (heap_set hr1).2 q fun e => hne (by rw [e])⟩
      · exact ⟨rfl, rfl, rfl, (by show w.heap.size ≤ (w.heap.setIfInBounds r _).size; simp), fun q hq hne => (heap_set m5).2 q fun e => hne (by rw [e])⟩
    refine k.upd1 i hi (some r) hgr fun S R hS hlt => ?_
    obtain ⟨hl, ⟨es1, clock1, since1, c01, seen1, q1, q2, q3, q4, q5, q6, q7, q7', q8, q9⟩, hS, hS2⟩ := hS
    rw [m1] at q1
    simp only [Option.some.injEq, Obj.map.injEq] at q1
    obtain ⟨rfl, rfl⟩ := q1
    rw [m5] at q5
    simp only [Option.some.injEq, Obj.mapIter.injEq] at q5
    obtain ⟨_, rfl, rfl, rfl⟩ := q5
    have hsz : (ChangeMaps.setBlock w1 r (.mapIter (some b) since (seen.push e.born) clock)).heap.size = w.heap.size := by
      rcases f2 with h | h
      · rw [h]; simp only [ChangeMaps.setBlock, Array.size_setIfInBounds]
      · rw [h]; simp only [ChangeMaps.setBlock, Array.size_setIfInBounds]; rfl
    refine ⟨fun g' hg => (by simp only [Option.some.injEq] at hg; subst hg; exact hS2), S, fun _ => False, ⟨hl, ⟨es, clock, since, clock, seen.push e.born, ?_, q2, q3, q4, ?_, q6, q7', q7', ?_, fun k hk => ?_⟩, hS, hS2⟩, fun q hq => ⟨by rw [hsz]; exact hlt q hq, .inl hq⟩, fun _ h => h⟩
    · simp only [ChangeMaps.setBlock]
      rw [(heap_set hr1).2 b hrb.symm]; exact hb1
    · simp only [ChangeMaps.setBlock]
      exact (heap_set hr1).1
    · have p1 := hp.map (·.key)
      simp only [List.map_cons, hk2] at p1
      have p2 := hpl.map kV
      simp only [List.map_cons] at p2
      exact List.Perm.cons_inv ((p1.symm.trans q8).trans p2)
    · obtain rfl := Option.some.inj hk
      exact ⟨e, g1, hk2, rfl, seen, rfl⟩
theorem Op_entry {dst : Option Nat} {ty : TypeId} {x : Operand} {pos : String} {aft : Array Edge} {g : Option (Nat × Bool)} (ss : List Nat) (d i : Nat) {b r : Nat} {ks left : List (List UInt8)} {vs : List Value} {key : List UInt8}
    (hside : (gok ops ss L ⟨dst, .entry x, ty, pos, aft, g⟩, dst, (decide (d < n)), (L.any fun p => p.1 == d), (toSS [x] (lk L)).map SV.vals) = (true, some d, true, false, some [.pointer (some ⟨r, 0, none⟩)]))
    (k : Cx F O w0 w hs) (hi : hs[i]? = some (Mi b r ks vs left (some key)))
    (h1 : ∀ v, K ((d, .tup [.s key, .v v]) :: L) w) :
    Op1 P n ops L w ⟨dst, .entry x, ty, pos, aft, g⟩ K := by
  simp only [Prod.mk.injEq, Option.map_eq_some_iff, decide_eq_true_eq] at hside
  obtain ⟨s1, rfl, s3, s4, ⟨svs, s5, s6⟩⟩ := hside
  refine WL_of (xs := [x]) (svs := svs) ss (d := d) (by simp [Side, s1, s3, s4, s5]) fun a ha he => ?_
  rw [s6] at he
  simp only [List.map_cons, List.map_nil, List.cons.injEq, and_true] at he
  obtain ⟨S, R, hl, ⟨es, clock, since, c0, seen, m1, m2, m3, m4, m5, m6, m7, m7', m8, m9⟩, hS, hS2⟩ := k.get i hi
  obtain ⟨e, e1, e2, rfl, seen0, rfl⟩ := m9 key rfl
  have hrun := run_entry_at (P := P) w r b since seen0 es c0 e m5 m1 e1 m4.2.1
  unfold Oper.wp execOp
  simp only [he, Sem.run_bind, hrun, Result.andThen_ok, Sem.run_pure]
  rw [e2]
  exact ⟨.tup [.s key, .v e.val], rfl, h1 e.val⟩
theorem Cx.weak {h h' : HP} (k : Cx F O w0 w hs) (i : Nat) (hi : hs[i]? = some h) (hp : ∀ w S R, h.p w S R → h'.p w S R) : Cx F O w0 w (hs.set i h') :=
  k.upd i hi Option.none ⟨rfl, rfl, rfl, Nat.le_refl _, fun _ _ _ => rfl⟩ fun S R h1 h2 h3 => ⟨fun g hg => (by cases hg), S, R, hp _ _ _ h1, fun b hb => ⟨h3 b (.inl hb), h2 b hb, .inl hb⟩, fun b hb => ⟨h3 b (.inr hb), .inl hb⟩⟩
theorem Mi.mb {b r : Nat} {ks left : List (List UInt8)} {vs : List Value} {cur : Option (List UInt8)} (w : World) (S R : Nat → Prop) (h : (Mi b r ks vs left cur).p w S R) : (Mb b ks vs).p w S R := by
  obtain ⟨hl, ⟨es, clock, since, c0, seen, m1, m2, m3, m4, m5⟩, hS, hS2⟩ := h
  exact ⟨hl, ⟨es, clock, m1, m2, m3, m4⟩, hS⟩

/-! ### the same of maps of rows -/
def MI (E : Enc α) (b r : Nat) (ks : List (List UInt8)) (hd : List Hd) (xss : List (List α)) (left : List (List UInt8)) (cur : Option (List UInt8)) : HP := Pk (hd.length = xss.length ∧ ks.length = hd.length) (Mi b r ks (hd.map hV) left cur :: rows E hd xss)
variable {E : Enc α} {b r : Nat} {ks left : List (List UInt8)} {hd : List Hd} {xss : List (List α)}
theorem Op_rangeR {dst : Option Nat} {t kt e ty : TypeId} {x : Operand} {pos : String} {aft : Array Edge} {g : Option (Nat × Bool)} (ss : List Nat) (d : Nat)
    (hside : (gok ops ss L ⟨dst, .range t x, ty, pos, aft, g⟩, dst, (decide (d < n)), (L.any fun p => p.1 == d), (toSS [x] (lk L)).map SV.vals, P.underlying t) = (true, some d, true, false, some [.map (some b)], some (.map kt e)))
    (k : Cx F O w0 w (MR E b ks hd xss :: rest)) (hk : ∀ r w', Cx F O w0 w' (MI E b r ks hd xss ks none :: rest) → K ((d, .v (.pointer (some ⟨r, 0, none⟩))) :: L) w') :
    Op1 P n ops L w ⟨dst, .range t x, ty, pos, aft, g⟩ K := by
  obtain ⟨hq, k1⟩ := k.unpk
  refine Op_range ss d 0 hside k1 rfl fun r w' k' => hk r w' (Cx.dopk hq ?_)
  simpa only [List.cons_append, List.set_cons_zero] using k'
theorem Op_nextR {dst : Option Nat} {ty : TypeId} {x : Operand} {pos : String} {aft : Array Edge} {g : Option (Nat × Bool)} (ss : List Nat) (d : Nat) {cur : Option (List UInt8)}
    (hside : (gok ops ss L ⟨dst, .next x false, ty, pos, aft, g⟩, dst, (decide (d < n)), (L.any fun p => p.1 == d), (toSS [x] (lk L)).map SV.vals) = (true, some d, true, false, some [.pointer (some ⟨r, 0, none⟩)]))
    (k : Cx F O w0 w (MI E b r ks hd xss left cur :: rest))
    (h0 : left = [] → Cx F O w0 w (MR E b ks hd xss :: rest) → K ((d, .tup [.b false]) :: L) w)
    (h1 : ∀ key left' v w', left.Perm (key :: left') → Cx F O w0 w' (MI E b r ks hd xss left' (some key) :: rest) → K ((d, .tup [.b true, .s key, .v v]) :: L) w') :
    Op1 P n ops L w ⟨dst, .next x false, ty, pos, aft, g⟩ K := by
  obtain ⟨hq, k1⟩ := k.unpk
  refine Op_next ss d 0 hside k1 rfl (fun hl => h0 hl (Cx.dopk hq ?_)) fun key left' v w' hp k' => h1 key left' v w' hp (Cx.dopk hq ?_)
  · simpa only [List.cons_append, List.set_cons_zero] using k1.weak 0 rfl Mi.mb
  · simpa only [List.cons_append, List.set_cons_zero] using k'
theorem Op_entryR {dst : Option Nat} {ty : TypeId} {x : Operand} {pos : String} {aft : Array Edge} {g : Option (Nat × Bool)} (ss : List Nat) (d : Nat) {key : List UInt8}
    (hside : (gok ops ss L ⟨dst, .entry x, ty, pos, aft, g⟩, dst, (decide (d < n)), (L.any fun p => p.1 == d), (toSS [x] (lk L)).map SV.vals) = (true, some d, true, false, some [.pointer (some ⟨r, 0, none⟩)]))
    (k : Cx F O w0 w (MI E b r ks hd xss left (some key) :: rest))
    (h1 : ∀ v, K ((d, .tup [.s key, .v v]) :: L) w) :
    Op1 P n ops L w ⟨dst, .entry x, ty, pos, aft, g⟩ K := Op_entry ss d 0 hside k.unpk.2 rfl h1
end

/-! ### a loop that ends because something grows less -/
section
variable {P : Program} {n : Nat} {Q : Exit → Act → World → Prop} {L L' : St} {w : World}
open Classical in
theorem W_ms {c : Code} (J : Nat → St → World → Prop) (k0 : Nat) (h0 : J k0 L' w) (hk : L'.map (fun p => (find L p.1).map SV.val) = L'.map (fun p => some p.2.val))
    (hb : ∀ k L w, J k L w → W P n c (Exit.then (fun a w => ∃ k' L', k' < k ∧ Fu n a (Kn L') ∧ J k' L' w) Q) L w) : W P n (.loop c) Q L w := by
  refine W_forget L' hk fun a0 ha0 => ?_
  let I : Nat → Act → World → Prop := fun k a w => ∃ L, Fu n a (Kn L) ∧ J k L w
  let μ : Act → World → Nat := fun a w => if h : ∃ k, I k a w then Classical.choose (least h) else 0
  refine wp_loop (fun a w => ∃ k, I k a w) μ ⟨k0, L', ha0, h0⟩ ?_
  intro a w hI
  have hμ : μ a w = Classical.choose (least hI) := dif_pos hI
  obtain ⟨L1, hf, hJ⟩ := (Classical.choose_spec (least hI)).1
  rw [← hμ] at hJ
  refine wp_mono (hb _ L1 w hJ a hf) ?_
  intro e a' w' hq
  cases e with
  | normal =>
    obtain ⟨k', L2, hlt, hf2, hJ2⟩ := hq
    have hE : ∃ k, I k a' w' := ⟨k', L2, hf2, hJ2⟩
    refine ⟨hE, ?_⟩
    have h1 : μ a' w' = Classical.choose (least hE) := dif_pos hE
    have h2 : Classical.choose (least hE) ≤ k' := (Classical.choose_spec (least hE)).2 k' ⟨L2, hf2, hJ2⟩
    omega
  | _ => exact hq
theorem At_ms {J : Nat → St → World → Prop} {k : Nat} (k' : Nat) (hlt : k' < k) (h : J k' L' w) (hk : L'.map (fun p => (find L p.1).map SV.val) = L'.map (fun p => some p.2.val)) : At n (Exit.then (fun a w => ∃ k' L', k' < k ∧ Fu n a (Kn L') ∧ J k' L' w) Q .normal) L w :=
  At_forget L' hk fun _ ha => ⟨k', L', hlt, ha, h⟩
end

/-! ### the library's sort of texts -/
noncomputable def srt (l : List (List UInt8)) : List (List UInt8) := l.mergeSort fun x y => decide (x ≤ y)
theorem srt_perm {l l' : List (List UInt8)} (h : l.Perm l') : srt l = srt l' := by
  have := mergeSort_of_perm h
  exact this
theorem srt_length (l : List (List UInt8)) : (srt l).length = l.length := by simp [srt]
theorem eS_all (l : List (List UInt8)) : eS.all l = l.map Go.Proofs.encStr := by
  induction l with
  | nil => rfl
  | cons x l ih => show _ :: _ = _ :: _; rw [show (eS.all l) = l.map Go.Proofs.encStr from ih]; rfl
open Go.Sort Go.Proofs Go.Shelf in
theorem c_sort {P : Program} {ρ : Ren} (Ly : Lays.n190 P ρ) {F O : Nat → Prop} {w0 w : World} {hs : List HP} {i : Nat} {A : Option Addr} {n c : Nat} {xs : List (List UInt8)} (k : Cx F O w0 w hs) (hi : hs[i]? = some (Ow eS A n c xs)) (hsz : n < 4611686018427387904) :
    Calls P (ρ.f 190) #[.slice A n c] w (fun e w' => e = .returned (.tuple #[]) ∧ Cx F O w0 w' (hs.set i (Ow eS A n c (srt xs)))) := by
  obtain ⟨S, R, hl, hh⟩ := k.get i hi
  by_cases h0 : n = 0
  · subst h0
    have hx : xs = [] := List.eq_nil_of_length_eq_zero hl
    subst hx
    refine (Any.slices_Sort_string_none Ly A c w).mono ?_
    rintro e w' ⟨rfl, rfl⟩
    refine ⟨rfl, ?_⟩
    have : srt [] = [] := by simp [srt]
    rw [this]
    have e2 : hs.set i (Ow eS A 0 c []) = hs := by
      obtain ⟨h1, h2⟩ := List.getElem?_eq_some_iff.1 hi
      rw [← h2]; exact List.set_getElem_self h1
    rw [e2]; exact k
  · rcases hh with ⟨_, h1, _⟩ | ⟨g, t, cur, rfl, ⟨fr, hb, hnf⟩, h3, h4, h5, h6, h7⟩
    · exact absurd h1 h0
    · subst hl
      have hsz1 : eS.sz = 1 := rfl
      rw [hsz1, Nat.mul_one] at h5 h6
      rw [eS_all] at h6
      have hH : Holds encStr w g 0 xs.toArray := by
        intro j hj
        have hj' : j < xs.length := by simpa using hj
        have hfz : w.frozen? ⟨g, 0 + j, none⟩ = false := by
          have : j < cur.size := by omega
          simp only [World.frozen?, hb]
          rcases hnf with h | h
          · simp; omega
          · simp; omega
        refine ⟨?_, hfz⟩
        have h1 : (cur.toList.take xs.length)[j]? = (xs.map encStr)[j]? := by rw [h6]
        rw [List.getElem?_take_of_lt hj'] at h1
        simp only [World.cell?, hb, Nat.zero_add]
        simp only [Option.isSome_none, Bool.false_eq_true, if_false]
        rw [← Array.getElem?_toList, h1]
        simp [hj']
      refine (Any.slices_Sort_string Ly g 0 c xs w hH (Array.getElem?_eq_some_iff.1 hb).1 hsz).mono ?_
      rintro e w' ⟨rfl, m, os, rfl⟩
      refine ⟨rfl, ?_⟩
      refine k.upd1 i hi (some g) (grownBy_sorted _) fun S R hS hlt => ?_
      obtain ⟨hl', hh'⟩ := hS
      rcases hh' with ⟨h1, _⟩ | ⟨g', t', cur', q1, ⟨fr', q2, q3⟩, _, _, q4, _, q5⟩
      · cases h1
      · simp only [Option.some.injEq, Addr.mk.injEq, and_true] at q1
        subst q1
        rw [hb] at q2
        simp only [Option.some.injEq, Obj.cells.injEq] at q2
        obtain ⟨rfl, rfl, rfl⟩ := q2
        have hsl : (srt xs).length = xs.length := srt_length xs
        refine ⟨fun q hq => (by simp only [Option.some.injEq] at hq; subst hq; exact q5), S, fun _ => False, ⟨hsl, .inr ⟨g, t, putCells encStr 0 (srt xs).toArray cur, rfl, ⟨fr, heap_sorted _ hb, ?_⟩, h3, h4, ?_, ?_, q5⟩⟩, fun q hq => ⟨?_, .inl hq⟩, fun _ h => h⟩
        · simpa [putCells] using hnf
        · rw [hsz1, Nat.mul_one]; simpa [putCells] using h5
        · rw [hsz1, Nat.mul_one, eS_all, ← hsl]
          exact take_putCells cur (srt xs) (by omega)
        · exact Nat.lt_of_lt_of_le (hlt q hq) (grownBy_sorted (w := w) (g := g) (n := m) (os := os) (srt xs).toArray).size
end Go.Sx
