import Derived.Test.YtfaaochjaajpjaaDoorSyR
import Derived.MapKept
namespace Go.Sx
open Go.RowKit Go.MapKept
set_option linter.unusedSimpArgs false
set_option linter.unusedVariables false

/-! ### maps whose keys are texts -/
def kV (k : List UInt8) : Value := .string ⟨⟨k⟩⟩
theorem kV_inj {a b : List UInt8} (h : kV a = kV b) : a = b := by
  unfold kV at h
  simp only [Value.string.injEq, ByteArray.mk.injEq, Array.mk.injEq] at h
  exact h
/-- a map: its keys in the order in which they came, and what lies at each -/
def Mb (b : Nat) (ks : List (List UInt8)) (vs : List Value) : HP where
  p w S R := ks.length = vs.length ∧ (∃ (es : Array MapEntry) (clock : Nat), w.heap[b]? = some (.map es clock) ∧ es.toList.map (·.key) = ks.map kV ∧ es.toList.map (·.val) = vs ∧ Stamped es clock) ∧ S b
  loc := by
    rintro w w' S R ⟨h0, ⟨es, clock, h1, h2⟩, h3⟩ hk
    exact ⟨h0, ⟨es, clock, by rw [hk b (.inl h3)]; exact h1, h2⟩, h3⟩
/-- where a key stands -/
def kfind (ks : List (List UInt8)) (k : List UInt8) : Option Nat := match ks with
  | [] => none
  | x :: r => if x = k then some 0 else (kfind r k).map (· + 1)
theorem kfind_none {ks : List (List UInt8)} {k : List UInt8} : kfind ks k = none ↔ k ∉ ks := by
  induction ks with
  | nil => simp [kfind]
  | cons x r ih =>
    unfold kfind
    by_cases h : x = k
    · subst h; simp
    · rw [if_neg h]
      simp only [Option.map_eq_none_iff, ih, List.mem_cons, not_or]
      exact ⟨fun hr => ⟨fun e => h e.symm, hr⟩, fun hr => hr.2⟩
theorem kfind_some {ks : List (List UInt8)} {k : List UInt8} {j : Nat} (h : kfind ks k = some j) : ks[j]? = some k := by
  induction ks generalizing j with
  | nil => cases h
  | cons x r ih =>
    unfold kfind at h
    by_cases hx : x = k
    · rw [if_pos hx] at h
      obtain rfl := Option.some.inj h
      simp [hx]
    · rw [if_neg hx, Option.map_eq_some_iff] at h
      obtain ⟨i, hi, rfl⟩ := h
      simpa using ih hi
theorem find_now {d : TypeDesc} (hd : d = .string) {es : Array MapEntry} {ks : List (List UInt8)} {k : List UInt8} (hk : es.toList.map (·.key) = ks.map kV) (hn : (es.toList.map (·.key)).Nodup) :
    (kfind ks k = none ∧ Instr.findNow d (kV k) es.toList 0 = some none) ∨ ∃ j e, kfind ks k = some j ∧ Instr.findNow d (kV k) es.toList 0 = some (some (j, e.val)) ∧ es.toList[j]? = some e ∧ e.key = kV k := by
  subst hd
  have hkey : ∀ x ∈ es.toList, IsKey .string x.key := fun x hx => by
    have : x.key ∈ es.toList.map (·.key) := List.mem_map.2 ⟨x, hx, rfl⟩
    rw [hk] at this
    obtain ⟨q, _, hq⟩ := List.mem_map.1 this
    rw [← hq]
    exact trivial
  rcases findNow_spec (d := .string) (k := kV k) trivial es.toList 0 hkey with ⟨h1, h2⟩ | ⟨j, e, h1, h2, h3⟩
  · refine .inl ⟨kfind_none.2 fun hm => ?_, h1⟩
    have : kV k ∈ es.toList.map (·.key) := by rw [hk]; exact List.mem_map.2 ⟨k, hm, rfl⟩
    obtain ⟨x, hx, hxe⟩ := List.mem_map.1 this
    exact h2 x hx hxe
  · rw [Nat.zero_add] at h1
    have hj : (ks.map kV)[j]? = some (kV k) := by rw [← hk, List.getElem?_map, h2]; simp [h3]
    have hkj : ks[j]? = some k := by
      rw [List.getElem?_map, Option.map_eq_some_iff] at hj
      obtain ⟨q, hq, hqe⟩ := hj
      rw [hq, kV_inj hqe]
    cases hf : kfind ks k with
    | none => exact absurd (List.mem_of_getElem? hkj) (kfind_none.1 hf)
    | some i =>
      have hi := kfind_some hf
      have hnd : ks.Nodup := by
        rw [hk, List.Nodup, List.pairwise_map] at hn
        exact hn.imp fun hne e => hne (by rw [e])
      have : i = j := by
        have h4 := (List.getElem?_eq_some_iff.1 hi).1
        exact (List.getElem?_inj h4 hnd).1 (by rw [hi, hkj])
      subst this
      exact .inr ⟨i, e, rfl, h1, h2, h3⟩
section
variable {P : Program} {n : Nat} {ops : Array Oper} {L : St} {w w0 : World} {F O : Nat → Prop} {hs : List HP} {K : St → World → Prop}
theorem Op_mkmap {dst : Option Nat} {t ty : TypeId} {pos : String} {aft : Array Edge} {g : Option (Nat × Bool)} (ss : List Nat) (d : Nat)
    (hside : (gok ops ss L ⟨dst, .makeMap t none, ty, pos, aft, g⟩, dst, (decide (d < n)), (L.any fun p => p.1 == d)) = (true, some d, true, false))
    (k : Cx F O w0 w hs) (hk : ∀ b w', Cx F O w0 w' (hs ++ [Mb b [] []]) → K ((d, .v (.map (some b))) :: L) w') :
    Op1 P n ops L w ⟨dst, .makeMap t none, ty, pos, aft, g⟩ K := by
  simp only [Prod.mk.injEq, decide_eq_true_eq] at hside
  obtain ⟨s1, rfl, s3, s4⟩ := hside
  refine WL_of (xs := []) (svs := []) ss (d := d) (by simp [Side, s1, s3, s4, toSS]) fun a ha he => ?_
  have hrun : (Instr.makeMap t none).run P w = .ok (.map (some w.heap.size)) (w.alloc (.map #[] 0)) := rfl
  unfold Oper.wp execOp
  simp only [Option.map_none, Sem.run_bind, hrun, Result.andThen_ok, Sem.run_pure]
  refine ⟨.v (.map (some w.heap.size)), rfl, hk w.heap.size _ (k.new _ (Mb w.heap.size [] []) ⟨rfl, ⟨#[], 0, ?_, rfl, rfl, stamped_empty 0⟩, rfl⟩)⟩
  exact (heap_alloc w _).1
/-- what lies at a key -/
theorem Op_look {dst : Option Nat} {t kt e ty : TypeId} {x y : Operand} {pos : String} {aft : Array Edge} {g : Option (Nat × Bool)} (ss : List Nat) (d i : Nat) {b : Nat} {key : List UInt8} {ks : List (List UInt8)} {vs : List Value} {z : Value}
    (hside : (gok ops ss L ⟨dst, .lookup t x y true, ty, pos, aft, g⟩, dst, (decide (d < n)), (L.any fun p => p.1 == d), (toSS [x, y] (lk L)).map SV.vals, P.underlying t, P.underlying kt) = (true, some d, true, false, some [.map (some b), kV key], some (.map kt e), some .string))
    (hz : (zeroValue e).run P w = .ok z w) (k : Cx F O w0 w hs) (hi : hs[i]? = some (Mb b ks vs))
    (h0 : kfind ks key = none → K ((d, .tup [.v z, .b false]) :: L) w) (h1 : ∀ j v, kfind ks key = some j → vs[j]? = some v → K ((d, .tup [.v v, .b true]) :: L) w) :
    Op1 P n ops L w ⟨dst, .lookup t x y true, ty, pos, aft, g⟩ K := by
  simp only [Prod.mk.injEq, Option.map_eq_some_iff, decide_eq_true_eq] at hside
  obtain ⟨s1, rfl, s3, s4, ⟨svs, s5, s6⟩, s7, s8⟩ := hside
  refine WL_of (xs := [x, y]) (svs := svs) ss (d := d) (by simp [Side, s1, s3, s4, s5]) fun a ha he => ?_
  rw [s6] at he
  simp only [List.map_cons, List.map_nil, List.cons.injEq, and_true] at he
  obtain ⟨S, R, hl, ⟨es, clock, m1, m2, m3, m4⟩, hS⟩ := k.get i hi
  have hck := run_checkKey (P := P) (w := w) s8 (show IsKey .string (kV key) from trivial) es.isEmpty 9999
  rcases find_now (d := .string) rfl (k := key) m2 m4.2.2 with ⟨f1, f2⟩ | ⟨j, en, f1, f2, f3, f4⟩
  · have hrun : (Instr.lookup t (.map (some b)) (kV key) true).run P w = .ok (.tuple #[z, .bool false]) w := by
      unfold Instr.lookup
      simp only [Sem.run_bind, run_underlying s7, Result.andThen_ok, MapKept.run_getObj_map m1, Sem.run_pure, hck, run_findKey s8 f2, hz]
      rfl
    unfold Oper.wp execOp
    simp only [he.1, he.2, Sem.run_bind, hrun, Result.andThen_ok, Sem.run_pure]
    exact ⟨.tup [.v z, .b false], rfl, h0 f1⟩
  · have hrun : (Instr.lookup t (.map (some b)) (kV key) true).run P w = .ok (.tuple #[en.val, .bool true]) w := by
      unfold Instr.lookup
      simp only [Sem.run_bind, run_underlying s7, Result.andThen_ok, MapKept.run_getObj_map m1, Sem.run_pure, hck, run_findKey s8 f2]
      rfl
    unfold Oper.wp execOp
    simp only [he.1, he.2, Sem.run_bind, hrun, Result.andThen_ok, Sem.run_pure]
    refine ⟨.tup [.v en.val, .b true], rfl, h1 j en.val f1 ?_⟩
    rw [← m3, List.getElem?_map, f3]
    rfl
theorem set_grown {w : World} {b : Nat} {es es' : Array MapEntry} {clock clock' : Nat} (hb : w.heap[b]? = some (.map es clock)) : w.grownBy { w with heap := w.heap.setIfInBounds b (.map es' clock') } (some b) ∧ ({ w with heap := w.heap.setIfInBounds b (.map es' clock') } : World).heap.size = w.heap.size ∧ ({ w with heap := w.heap.setIfInBounds b (.map es' clock') } : World).heap[b]? = some (.map es' clock') := by
  refine ⟨⟨rfl, rfl, rfl, by simp, fun k hk hne => ?_⟩, by simp, (heap_set hb).1⟩
  exact (heap_set hb).2 k fun e => hne (by rw [e])
/-- a map's keys and values with one put -/
def mputK (ks : List (List UInt8)) (k : List UInt8) : List (List UInt8) := match kfind ks k with | some _ => ks | none => ks ++ [k]
def mputV {β : Type} (ks : List (List UInt8)) (vs : List β) (k : List UInt8) (v : β) : List β := match kfind ks k with | some j => vs.set j v | none => vs ++ [v]
theorem Op_upd {t kt e ty : TypeId} {m y x : Operand} {pos : String} {aft : Array Edge} {g : Option (Nat × Bool)} (ss : List Nat) (i : Nat) {b : Nat} {key : List UInt8} {ks : List (List UInt8)} {vs : List Value} (v : Value)
    (hside : (gok ops ss L (⟨none, .mapUpdate t m y x, ty, pos, aft, g⟩ : Oper), (toSS [m, y, x] (lk L)).map SV.vals, P.underlying t, P.underlying kt) = (true, some [.map (some b), kV key, v], some (.map kt e), some .string))
    (k : Cx F O w0 w hs) (hi : hs[i]? = some (Mb b ks vs)) (hk : ∀ w', Cx F O w0 w' (hs.set i (Mb b (mputK ks key) (mputV ks vs key v))) → K L w') :
    Op1 P n ops L w ⟨none, .mapUpdate t m y x, ty, pos, aft, g⟩ K := by
  simp only [Prod.mk.injEq, Option.map_eq_some_iff] at hside
  obtain ⟨s1, ⟨svs, s5, s6⟩, s7, s8⟩ := hside
  refine WL_of0 (xs := [m, y, x]) (svs := svs) ss (by simp [s1, s5]) fun a ha he => ?_
  rw [s6] at he
  simp only [List.map_cons, List.map_nil, List.cons.injEq, and_true] at he
  obtain ⟨S, R, hl, ⟨es, clock, m1, m2, m3, m4⟩, hS⟩ := k.get i hi
  have hck := run_checkKey (P := P) (w := w) s8 (show IsKey .string (kV key) from trivial) false 9999
  rcases find_now (d := .string) rfl (k := key) m2 m4.2.2 with ⟨f1, f2⟩ | ⟨j, en, f1, f2, f3, f4⟩
  · obtain ⟨g1, g2, g3⟩ := set_grown (es' := es.push { key := kV key, val := v, born := clock }) (clock' := clock + 1) m1
    have hrun : (Instr.mapUpdate t (.map (some b)) (kV key) v).run P w = .ok () { w with heap := w.heap.setIfInBounds b (.map (es.push { key := kV key, val := v, born := clock }) (clock + 1)) } := by
      unfold Instr.mapUpdate
      simp only [Sem.run_bind, run_underlying s7, Result.andThen_ok, MapKept.run_getObj_map m1, Sem.run_pure, hck, run_findKey s8 f2, MapKept.run_setObj_map _ m1]
    unfold Oper.wp execOp
    simp only [he.1, he.2.1, he.2.2, Sem.run_bind, hrun, Result.andThen_ok, Sem.run_pure]
    refine ⟨rfl, hk _ (k.upd1 i hi (some b) g1 fun S R hS hlt => ?_)⟩
    obtain ⟨hl, ⟨es1, c1, q1, q2, q3, q4⟩, hS⟩ := hS
    rw [m1] at q1
    simp only [Option.some.injEq, Obj.map.injEq] at q1
    obtain ⟨rfl, rfl⟩ := q1
    have hnk : ∀ x ∈ es.toList, x.key ≠ kV key := fun x hx hxe => by
      have : kV key ∈ es.toList.map (·.key) := List.mem_map.2 ⟨x, hx, hxe⟩
      rw [q2] at this
      obtain ⟨q, hq, hqe⟩ := List.mem_map.1 this
      exact kfind_none.1 f1 (kV_inj hqe ▸ hq)
    refine ⟨fun g' hg => (by simp only [Option.some.injEq] at hg; subst hg; exact hS), S, fun _ => False, ⟨?_, ⟨_, _, g3, ?_, ?_, stamped_push q4 hnk⟩, hS⟩, fun b' hb' => ⟨by rw [g2]; exact hlt b' hb', .inl hb'⟩, fun _ h => h⟩
    · unfold mputK mputV; rw [f1]; simp [hl]
    · unfold mputK; rw [f1]; simp [q2]
    · unfold mputV; rw [f1]; simp [q3]
  · obtain ⟨g1, g2, g3⟩ := set_grown (es' := es.modify j fun e => { e with key := kV key, val := v }) (clock' := clock) m1
    have hst : (Instr.keyThatStays (((es[j]?).map (·.key)).getD (kV key)) (kV key)).run P w = .ok (kV key) w := by
      have e1 : es[j]? = some en := by rw [← Array.getElem?_toList]; exact f3
      rw [e1]
      simp only [Option.map_some, Option.getD_some, f4]
      exact MapKept.run_keyThatStays (d := .string) (k := kV key) trivial
    have hrun : (Instr.mapUpdate t (.map (some b)) (kV key) v).run P w = .ok () { w with heap := w.heap.setIfInBounds b (.map (es.modify j fun e => { e with key := kV key, val := v }) clock) } := by
      unfold Instr.mapUpdate
      simp only [Sem.run_bind, run_underlying s7, Result.andThen_ok, MapKept.run_getObj_map m1, Sem.run_pure, hck, run_findKey s8 f2, hst, MapKept.run_setObj_map _ m1]
    unfold Oper.wp execOp
    simp only [he.1, he.2.1, he.2.2, Sem.run_bind, hrun, Result.andThen_ok, Sem.run_pure]
    refine ⟨rfl, hk _ (k.upd1 i hi (some b) g1 fun S R hS hlt => ?_)⟩
    obtain ⟨hl, ⟨es1, c1, q1, q2, q3, q4⟩, hS⟩ := hS
    rw [m1] at q1
    simp only [Option.some.injEq, Obj.map.injEq] at q1
    obtain ⟨rfl, rfl⟩ := q1
    have hkey : ∀ e ∈ es.toList, es[j]? = some e → ({ e with key := kV key, val := v } : MapEntry).key = e.key := fun e _ he => by
      rw [← Array.getElem?_toList, f3] at he
      obtain rfl := Option.some.inj he
      exact f4.symm
    refine ⟨fun g' hg => (by simp only [Option.some.injEq] at hg; subst hg; exact hS), S, fun _ => False, ⟨?_, ⟨_, _, g3, ?_, ?_, stamped_modify q4 j _ (fun _ _ => rfl) hkey⟩, hS⟩, fun b' hb' => ⟨by rw [g2]; exact hlt b' hb', .inl hb'⟩, fun _ h => h⟩
    · unfold mputK mputV; rw [f1]; simp [hl]
    · unfold mputK; rw [f1]
      rw [modify_keys j _ (fun e he => hkey e (by rw [← Array.getElem?_toList] at he; exact List.mem_of_getElem? he) he), q2]
    · unfold mputV; rw [f1]
      simp only
      rw [← q3, Array.toList_modify]
      apply List.ext_getElem?
      intro q
      simp only [List.getElem?_map, List.getElem?_modify, List.getElem?_set, List.length_map]
      by_cases hqj : j = q
      · subst hqj
        have h5 : j < es.size := by simpa using (List.getElem?_eq_some_iff.1 f3).1
        simp [h5]
      · simp [hqj]
theorem map_erase {β γ : Type} (f : β → γ) : ∀ (l : List β) (i : Nat), (l.eraseIdx i).map f = (l.map f).eraseIdx i
  | [], _ => rfl
  | _ :: _, 0 => rfl
  | x :: l, i + 1 => by simp [map_erase f l i]
/-- a map's keys and values with one gone -/
def mdelK (ks : List (List UInt8)) (k : List UInt8) : List (List UInt8) := match kfind ks k with | some j => ks.eraseIdx j | none => ks
def mdelV {β : Type} (ks : List (List UInt8)) (vs : List β) (k : List UInt8) : List β := match kfind ks k with | some j => vs.eraseIdx j | none => vs
theorem Op_mlen {dst : Option Nat} {x : Operand} {t kt e ty : TypeId} {pos : String} {aft : Array Edge} {g : Option (Nat × Bool)} (ss : List Nat) (d i : Nat) {b : Nat} {ks : List (List UInt8)} {vs : List Value}
    (hside : (gok ops ss L ⟨dst, .call ⟨.builtin .len, #[x], #[t]⟩, ty, pos, aft, g⟩, dst, (decide (d < n)), (L.any fun p => p.1 == d), (toSS [x] (lk L)).map SV.vals, P.underlying t) = (true, some d, true, false, some [.map (some b)], some (.map kt e)))
    (k : Cx F O w0 w hs) (hi : hs[i]? = some (Mb b ks vs)) (hk : K ((d, I ((ks.length : Nat) : Int)) :: L) w) :
    Op1 P n ops L w ⟨dst, .call ⟨.builtin .len, #[x], #[t]⟩, ty, pos, aft, g⟩ K := by
  simp only [Prod.mk.injEq, Option.map_eq_some_iff, decide_eq_true_eq] at hside
  obtain ⟨s1, rfl, s3, s4, ⟨svs, s5, s6⟩, s7⟩ := hside
  refine WL_of (xs := [x]) (svs := svs) ss (d := d) (by simp [Side, s1, s3, s4, s5]) fun a ha he => ?_
  rw [s6] at he
  simp only [List.map_cons, List.map_nil, List.cons.injEq, and_true] at he
  obtain ⟨S, R, hl, ⟨es, clock, m1, m2, m3, m4⟩, hS⟩ := k.get i hi
  have hsz : es.size = ks.length := by
    have := congrArg List.length m2
    simpa using this
  have hrun : (Builtin.len_ #[t] ty #[.map (some b)]).run P w = .ok (.int .i64 ((ks.length : Nat) : Int)) w := by
    unfold Builtin.len_
    simp [Sem.run_bind, run_underlying s7, Result.andThen_ok, MapKept.run_getObj_map m1, goInt, hsz, Result.andThen]
  unfold Oper.wp execOp
  simp only [resolve, invoke, builtin, Sem.run_bind, Sem.run_pure, Result.andThen_ok, List.map_toArray, List.map_cons, List.map_nil, he, hrun]
  exact ⟨_, rfl, hk⟩
theorem Op_del {x y : Operand} {t t2 kt e ty : TypeId} {pos : String} {aft : Array Edge} {g : Option (Nat × Bool)} (ss : List Nat) (i : Nat) {b : Nat} {key : List UInt8} {ks : List (List UInt8)} {vs : List Value}
    (hside : (gok ops ss L (⟨none, .call ⟨.builtin .delete, #[x, y], #[t, t2]⟩, ty, pos, aft, g⟩ : Oper), (toSS [x, y] (lk L)).map SV.vals, P.underlying t, P.underlying kt) = (true, some [.map (some b), kV key], some (.map kt e), some .string))
    (k : Cx F O w0 w hs) (hi : hs[i]? = some (Mb b ks vs)) (hk : ∀ w', Cx F O w0 w' (hs.set i (Mb b (mdelK ks key) (mdelV ks vs key))) → K L w') :
    Op1 P n ops L w ⟨none, .call ⟨.builtin .delete, #[x, y], #[t, t2]⟩, ty, pos, aft, g⟩ K := by
  simp only [Prod.mk.injEq, Option.map_eq_some_iff] at hside
  obtain ⟨s1, ⟨svs, s5, s6⟩, s7, s8⟩ := hside
  refine WL_of0 (xs := [x, y]) (svs := svs) ss (by simp [s1, s5]) fun a ha he => ?_
  rw [s6] at he
  simp only [List.map_cons, List.map_nil, List.cons.injEq, and_true] at he
  obtain ⟨S, R, hl, ⟨es, clock, m1, m2, m3, m4⟩, hS⟩ := k.get i hi
  have hck := run_checkKey (P := P) (w := w) s8 (show IsKey .string (kV key) from trivial) es.isEmpty 9999
  rcases find_now (d := .string) rfl (k := key) m2 m4.2.2 with ⟨f1, f2⟩ | ⟨j, en, f1, f2, f3, f4⟩
  · obtain ⟨g1, g2, g3⟩ := set_grown (es' := es) (clock' := clock) m1
    have hrun : (Builtin.delete_ #[t, t2] ty #[.map (some b), kV key]).run P w = .ok (.tuple #[]) { w with heap := w.heap.setIfInBounds b (.map es clock) } := by
      unfold Builtin.delete_
      simp [Sem.run_bind, run_underlying s7, Result.andThen_ok, MapKept.run_getObj_map m1, hck, run_findKey s8 f2, MapKept.run_setObj_map _ m1, Result.andThen]
    unfold Oper.wp execOp
    simp only [resolve, invoke, builtin, Sem.run_bind, Sem.run_pure, Result.andThen_ok, List.map_toArray, List.map_cons, List.map_nil, he.1, he.2, hrun]
    refine ⟨rfl, hk _ (k.upd1 i hi (some b) g1 fun S R hS hlt => ?_)⟩
    obtain ⟨hl, ⟨es1, c1, q1, q2, q3, q4⟩, hS⟩ := hS
    rw [m1] at q1
    simp only [Option.some.injEq, Obj.map.injEq] at q1
    obtain ⟨rfl, rfl⟩ := q1
    refine ⟨fun g' hg => (by simp only [Option.some.injEq] at hg; subst hg; exact hS), S, fun _ => False, ⟨?_, ⟨_, _, g3, ?_, ?_, q4⟩, hS⟩, fun b' hb' => ⟨by rw [g2]; exact hlt b' hb', .inl hb'⟩, fun _ h => h⟩
    · unfold mdelK mdelV; rw [f1]; exact hl
    · unfold mdelK; rw [f1]; exact q2
    · unfold mdelV; rw [f1]; exact q3
  · obtain ⟨g1, g2, g3⟩ := set_grown (es' := es.eraseIdxIfInBounds j) (clock' := clock) m1
    have hrun : (Builtin.delete_ #[t, t2] ty #[.map (some b), kV key]).run P w = .ok (.tuple #[]) { w with heap := w.heap.setIfInBounds b (.map (es.eraseIdxIfInBounds j) clock) } := by
      unfold Builtin.delete_
      simp [Sem.run_bind, run_underlying s7, Result.andThen_ok, MapKept.run_getObj_map m1, hck, run_findKey s8 f2, MapKept.run_setObj_map _ m1, Result.andThen]
    unfold Oper.wp execOp
    simp only [resolve, invoke, builtin, Sem.run_bind, Sem.run_pure, Result.andThen_ok, List.map_toArray, List.map_cons, List.map_nil, he.1, he.2, hrun]
    refine ⟨rfl, hk _ (k.upd1 i hi (some b) g1 fun S R hS hlt => ?_)⟩
    obtain ⟨hl, ⟨es1, c1, q1, q2, q3, q4⟩, hS⟩ := hS
    rw [m1] at q1
    simp only [Option.some.injEq, Obj.map.injEq] at q1
    obtain ⟨rfl, rfl⟩ := q1
    have hj : j < es.size := by simpa using (List.getElem?_eq_some_iff.1 f3).1
    have htl : (es.eraseIdxIfInBounds j).toList = es.toList.eraseIdx j := by
      unfold Array.eraseIdxIfInBounds
      rw [dif_pos hj, Array.toList_eraseIdx]
    refine ⟨fun g' hg => (by simp only [Option.some.injEq] at hg; subst hg; exact hS), S, fun _ => False, ⟨?_, ⟨_, _, g3, ?_, ?_, stamped_erase q4 j⟩, hS⟩, fun b' hb' => ⟨by rw [g2]; exact hlt b' hb', .inl hb'⟩, fun _ h => h⟩
    · unfold mdelK mdelV; rw [f1]; simp only [List.length_eraseIdx, hl]
    · unfold mdelK; rw [f1, htl, map_erase, q2, map_erase]
    · unfold mdelV; rw [f1, htl, map_erase, q3]
end
end Go.Sx
