import Derived.Test.YtfaaochjaajpjaaDoorSyQ
import Derived.Test.YtfaaochjaajpjaaDoorSyP
namespace Go.Sx
open Go.RowKit Go.ChangeShapes Go.WideShapes Go.ChangeAt
set_option linter.unusedSimpArgs false
set_option linter.unusedVariables false

section
variable {P : Program} {n : Nat} {ops : Array Oper} {L : St} {w : World} {K : St → World → Prop}
/-- a slice's capacity -/
theorem Op_cap {dst : Option Nat} {x : Operand} {t ty : TypeId} {pos : String} {aft : Array Edge} {g : Option (Nat × Bool)} {e : TypeId} (ss : List Nat) (d : Nat) {A : Option Addr} {m c : Nat}
    (hside : (gok ops ss L ⟨dst, .call ⟨.builtin .cap, #[x], #[t]⟩, ty, pos, aft, g⟩, dst, (decide (d < n)), (L.any fun p => p.1 == d), (toSS [x] (lk L)).map SV.vals, P.underlying t) = (true, some d, true, false, some [.slice A m c], some (.slice e)))
    (hk : K ((d, I ((c : Nat) : Int)) :: L) w) :
    Op1 P n ops L w ⟨dst, .call ⟨.builtin .cap, #[x], #[t]⟩, ty, pos, aft, g⟩ K := by
  simp only [Prod.mk.injEq, Option.map_eq_some_iff, decide_eq_true_eq] at hside
  obtain ⟨s1, rfl, s3, s4, ⟨svs, s5, s6⟩, s7⟩ := hside
  refine WL_of (xs := [x]) (svs := svs) ss (d := d) (by simp [Side, s1, s3, s4, s5]) fun a ha he => ?_
  rw [s6] at he
  simp only [List.map_cons, List.map_nil, List.cons.injEq, and_true] at he
  unfold Oper.wp execOp
  simp only [resolve, invoke, builtin, Sem.run_bind, Sem.run_pure, Result.andThen_ok, List.map_toArray, List.map_cons, List.map_nil, he]
  simp [Builtin.cap_, run_underlying s7, goInt]
  exact ⟨_, rfl, hk⟩
end

theorem Cx.at2g {α : Type} [Inhabited α] {F O : Nat → Prop} {w0 w : World} {hs : List HP} {E : Enc α} {A : Option Addr} {n c : Nat} {hd : List Hd} {xss : List (List α)} {j : Int} {x : List α} {g : Bool} (k : Cx F O w0 w hs) (i : Nat) (hi : hs[i]? = some (O2 E A n c hd xss)) (hx : gif g (geti xss j) = some x) : ∃ B d, (g = true → geti hd j = some (B, x.length, d)) ∧ x.length ≤ d := by
  cases g with
  | true =>
    obtain ⟨B, d, h1, h2⟩ := k.at2 i hi (gif_some hx rfl)
    exact ⟨B, d, fun _ => h1, h2⟩
  | false => exact ⟨Option.none, x.length, (fun h => by cases h), Nat.le_refl _⟩
theorem Ro2.atg {α : Type} [Inhabited α] {F : Nat → Prop} {w : World} {E : Enc α} {A : Option Addr} {hd : List Hd} {xss : List (List α)} {j : Int} {x : List α} {g : Bool} (r : Ro2 F w E A hd xss) (hx : gif g (geti xss j) = some x) : ∃ B d, (g = true → geti hd j = some (B, x.length, d)) ∧ x.length ≤ d := by
  cases g with
  | true =>
    obtain ⟨B, d, h1, h2, _⟩ := r.at (gif_some hx rfl)
    exact ⟨B, d, fun _ => h1, h2⟩
  | false => exact ⟨Option.none, x.length, (fun h => by cases h), Nat.le_refl _⟩

section
variable {α : Type} {F O : Nat → Prop} {w0 w : World} {hs : List HP}
theorem Cx.hd2x {E : Enc α} {A : Option Addr} {n c j : Nat} {hd : List Hd} {xss : List (List α)} (k : Cx F O w0 w hs) (i : Nat) (hi : hs[i]? = some (O2x E A n c hd xss j)) : Rd w A (eH.all hd) := by
  obtain ⟨S, R, h⟩ := k.get i hi
  obtain ⟨hl, hS⟩ := h
  obtain ⟨S', R', U', V', e1, _⟩ := Sep.cut (i := 0) rfl hS
  exact Ow.rd' e1
theorem Cx.hlen2x {E : Enc α} {A : Option Addr} {n c j : Nat} {hd : List Hd} {xss : List (List α)} (k : Cx F O w0 w hs) (i : Nat) (hi : hs[i]? = some (O2x E A n c hd xss j)) : hd.length = n := by
  obtain ⟨S, R, h⟩ := k.get i hi
  obtain ⟨hl, hS⟩ := h
  obtain ⟨S', R', U', V', e1, _⟩ := Sep.cut (i := 0) rfl hS
  exact e1.1
end
/-! ### rows of which the first ones are given away -/
def O2d {α : Type} (E : Enc α) (A : Option Addr) (n c : Nat) (hd : List Hd) (xss : List (List α)) (m : Nat) : HP := Pk (hd.length = xss.length) (Ow eH A n c hd :: (rows E hd xss).drop m)
section
variable {α : Type} {F O : Nat → Prop} {w0 w : World} {hs rest : List HP} {E : Enc α} {A : Option Addr} {n c m : Nat} {hd : List Hd} {xss : List (List α)}
theorem Cx.dropp : ∀ (l : List HP), Cx F O w0 w (l ++ rest) → Cx F O w0 w rest
  | [], k => k
  | _ :: l, k => Cx.dropp l k.tl
theorem O2d.parts {S R : Nat → Prop} (h : (O2d E A n c hd xss m).p w S R) :
    hd.length = xss.length ∧ (∃ S' R', (Ow eH A n c hd).p w S' R') ∧ ∀ (j : Nat) (h : Hd) (x : List α), m ≤ j → hd[j]? = some h → xss[j]? = some x → ∃ S' R', (Ow E h.1 h.2.1 h.2.2 x).p w S' R' := by
  obtain ⟨hl, hS⟩ := h
  refine ⟨hl, ?_, fun j h x hj h1 h2 => ?_⟩
  · obtain ⟨S', R', U', V', e1, _⟩ := Sep.cut (i := 0) rfl hS
    exact ⟨S', R', e1⟩
  · have hg := rows_get (E := E) h1 h2
    obtain ⟨S', R', U', V', e1, _⟩ := Sep.cut (i := j - m + 1) (by rw [List.getElem?_cons_succ, List.getElem?_drop, show m + (j - m) = j from by omega]; exact hg) hS
    exact ⟨S', R', e1⟩
theorem Cx.hd2d (k : Cx F O w0 w hs) (i : Nat) (hi : hs[i]? = some (O2d E A n c hd xss m)) : Rd w A (eH.all hd) := by
  obtain ⟨S, R, h⟩ := k.get i hi
  obtain ⟨_, ⟨S', R', h1⟩, _⟩ := O2d.parts h
  exact Ow.rd' h1
theorem Cx.hlen2d (k : Cx F O w0 w hs) (i : Nat) (hi : hs[i]? = some (O2d E A n c hd xss m)) : hd.length = n := by
  obtain ⟨S, R, h⟩ := k.get i hi
  obtain ⟨_, ⟨S', R', h1⟩, _⟩ := O2d.parts h
  exact h1.1
theorem Cx.max2d (k : Cx F O w0 w hs) (i : Nat) (hi : hs[i]? = some (O2d E A n c hd xss m)) : xss.length ≤ maxLen := by
  obtain ⟨S, R, h⟩ := k.get i hi
  obtain ⟨hl, ⟨S', R', h1⟩, _⟩ := O2d.parts h
  have := h1.1
  rcases h1.2 with ⟨_, h2, _⟩ | ⟨g, t, cur, _, _, h3, h4, _⟩ <;> omega
theorem Cx.at2d {j : Int} {x : List α} (k : Cx F O w0 w hs) (i : Nat) (hi : hs[i]? = some (O2d E A n c hd xss m)) (hm : m ≤ j.toNat) (hx : geti xss j = some x) : ∃ B d, geti hd j = some (B, x.length, d) ∧ x.length ≤ d := by
  obtain ⟨S, R, h⟩ := k.get i hi
  obtain ⟨hl, _, h2⟩ := O2d.parts h
  obtain ⟨h0, h1⟩ := geti_some hx
  have hlt := (List.getElem?_eq_some_iff.1 h1).1
  have hh : hd[j.toNat]? = some (hd[j.toNat]'(hl ▸ hlt)) := List.getElem?_eq_getElem _
  obtain ⟨S', R', hp⟩ := h2 _ _ _ hm hh h1
  refine ⟨(hd[j.toNat]'(hl ▸ hlt)).1, (hd[j.toNat]'(hl ▸ hlt)).2.2, ?_, ?_⟩
  · unfold geti
    rw [if_pos h0, hh, hp.1]
  · rw [hp.1]; exact Ow.lec' hp
theorem Cx.to2d (k : Cx F O w0 w (O2 E A n c hd xss :: rest)) : Cx F O w0 w (O2d E A n c hd xss 0 :: rest) := k
theorem Cx.open2d {j : Int} {x : List α} {B : Option Addr} {q d : Nat} (k : Cx F O w0 w (O2d E A n c hd xss m :: rest)) (hm : m ≤ j.toNat) (hx : geti xss j = some x) (hh : geti hd j = some (B, q, d)) : Cx F O w0 w (O2d E A n c hd xss (j.toNat + 1) :: Ow E B q d x :: rest) := by
  obtain ⟨hl, k1⟩ := k.unpk
  have hg := rows_get (E := E) (geti_ok hh) (geti_ok hx)
  have e : (rows E hd xss).drop m = ((rows E hd xss).drop m).take (j.toNat - m) ++ (Ow E B q d x :: (rows E hd xss).drop (j.toNat + 1)) := by
    have h1 := List.take_append_drop (j.toNat - m) ((rows E hd xss).drop m)
    rw [List.drop_drop, show m + (j.toNat - m) = j.toNat from by omega] at h1
    obtain ⟨h2, h3⟩ := List.getElem?_eq_some_iff.1 hg
    rw [List.drop_eq_getElem_cons h2, h3] at h1
    exact h1.symm
  rw [e] at k1
  refine Cx.dopk hl ?_
  have k2 : Cx F O w0 w (((rows E hd xss).drop m).take (j.toNat - m) ++ (Ow eH A n c hd :: (rows E hd xss).drop (j.toNat + 1) ++ (Ow E B q d x :: rest))) := k1.perm (by
    simp only [List.cons_append, List.append_assoc]
    refine List.perm_middle.symm.trans (List.Perm.append_left _ ?_)
    refine .cons _ ?_
    exact List.perm_middle.symm)
  exact Cx.dropp _ k2
end
theorem dl_step {α : Type} {X : Int} {xss : List α} {x : α} (h : geti xss X = some x) (hm : xss.length ≤ maxLen) : X.toNat + 1 ≤ (w64 (X + 1)).toNat := by
  have h1 := geti_lt h
  unfold maxLen at hm
  rw [w64_id (by omega)]
  omega
/-! ### bytes as bytes: the block is marked -/
theorem mark_run {P : Program} {w : World} {g : Nat} {cur : Array Value} {t : TypeId} (h : Rw w g cur t) : ∃ w', (markStringish ⟨g, 0, Option.none⟩).run P w = .ok () w' ∧ Rw w' g cur t ∧ w.grownBy w' (some g) ∧ w'.heap.size = w.heap.size := by
  obtain ⟨⟨lo, hi⟩, h, hn⟩ := h
  have hsh : w.shape? g = some (t, cur.size) := by simp [World.shape?, h]
  refine ⟨w.freeze { block := g, off := cur.size } 1, ?_, ⟨if lo == hi then (cur.size, cur.size + 1) else (min lo cur.size, max hi (cur.size + 1)), ?_, ?_⟩, ⟨rfl, rfl, rfl, by simp [World.freeze], fun k hk hne => ?_⟩, by simp [World.freeze]⟩
  · simp [markStringish, shape, Sem.run, hsh, freeze]
  · simp [World.freeze, Array.getElem?_modify, h]
  · unfold NF at *
    split
    · exact .inr (Nat.le_refl _)
    · rename_i hne
      right
      have hne' : lo ≠ hi := by simpa using hne
      rcases hn with h1 | h1
      · exact absurd h1.symm hne'
      · simp only at h1 ⊢; omega
  · have : ¬ g = k := fun e => hne (by rw [e])
    simp [World.freeze, Array.getElem?_modify, this]
section
variable {P : Program} {n : Nat} {ops : Array Oper} {L : St} {w w0 : World} {F O : Nat → Prop} {hs : List HP} {K : St → World → Prop}
theorem Op_cb {dst : Option Nat} {x : Operand} {t ty : TypeId} {pos : String} {aft : Array Edge} {g : Option (Nat × Bool)} (e : TypeId) (ss : List Nat) (d i : Nat) {A : Option Addr} {n1 c : Nat} {xs : List UInt8}
    (hside : (gok ops ss L ⟨dst, .convert t t x, ty, pos, aft, g⟩, dst, (decide (d < n)), (L.any fun p => p.1 == d), (toSS [x] (lk L)).map SV.vals, P.underlying t, P.underlying e) = (true, some d, true, false, some [.slice A n1 c], some (.slice e), some (.int .u8)))
    (k : Cx F O w0 w hs) (hi : hs[i]? = some (Ow e8 A n1 c xs)) (hn : 0 < n1) (hk : ∀ w', Cx F O w0 w' (hs.set i (Ow e8 A n1 c xs)) → K ((d, .v (.slice A n1 c)) :: L) w') :
    Op1 P n ops L w ⟨dst, .convert t t x, ty, pos, aft, g⟩ K := by
  simp only [Prod.mk.injEq, Option.map_eq_some_iff, decide_eq_true_eq] at hside
  obtain ⟨s1, rfl, s3, s4, ⟨svs, s5, s6⟩, h1, h2⟩ := hside
  refine WL_of (xs := [x]) (svs := svs) ss (d := d) (by simp [Side, s1, s3, s4, s5]) fun a ha he => ?_
  rw [s6] at he
  simp only [List.map_cons, List.map_nil, List.cons.injEq, and_true] at he
  obtain ⟨S, R, hS⟩ := k.get i hi
  rcases hS.2 with ⟨_, h0, _⟩ | ⟨g', t', cur, rfl, hr, hrest⟩
  · omega
  obtain ⟨w', hm1, hm2, hm3, hm4⟩ := mark_run (P := P) hr
  have hrun : (execOp a.eval ⟨some d, .convert t t x, ty, pos, aft, g⟩).run P w = .ok (.value (.slice (some ⟨g', 0, Option.none⟩) n1 c)) w' := by
    unfold execOp
    simp only [he, convert, Sem.run_bind, run_underlying h1, run_underlying h2, Result.andThen_ok, beq_self_eq_true, hm1, Sem.run_pure]
  unfold Oper.wp
  rw [hrun]
  refine ⟨.v (.slice (some ⟨g', 0, Option.none⟩) n1 c), rfl, hk w' ?_⟩
  refine k.upd1 i hi (some g') hm3 fun S R hS hlt => ?_
  rcases hS.2 with ⟨h0, _⟩ | ⟨g2, t2, cur2, e1, hr2, hrest2⟩
  · cases h0
  · simp only [Option.some.injEq, Addr.mk.injEq, and_true] at e1
    subst e1
    obtain ⟨w2, hm1', hm2', _, _⟩ := mark_run (P := P) hr2
    rw [hm1] at hm1'
    simp only [Result.ok.injEq, true_and] at hm1'
    subst hm1'
    refine ⟨fun g3 hg => (by simp only [Option.some.injEq] at hg; subst hg; exact hrest2.2.2.2.2), S, fun _ => False, ⟨hS.1, .inr ⟨g', t2, cur2, rfl, hm2', hrest2⟩⟩, fun b hb => ⟨by rw [hm4]; exact hlt b hb, .inl hb⟩, fun _ h => h⟩
end

/-! ### loops, round by round -/
section
variable {P : Program} {n : Nat} {Q : Exit → Act → World → Prop} {L L' : St} {w : World} {c : Code}
def Lp (P : Program) (c : Code) (Q : Exit → Act → World → Prop) (a : Act) (w : World) : Prop :=
  ∀ b k cs, ∃ e a' w', Q e a' w' ∧ Arrives P (lone (b.at a (.code c :: .inLoop c :: k)) cs w) b k cs e a' w'
theorem Lp.start {a : Act} (h : Lp P c Q a w) : (Code.loop c).wp P Q a w := by
  intro b k cs
  obtain ⟨e, a', w', hq, harr⟩ := h b k cs
  exact ⟨e, a', w', hq, .of_steps (.one step_loop) harr⟩
theorem Lp.round {a : Act} (h : c.wp P (Exit.then (Lp P c Q) Q) a w) : Lp P c Q a w := by
  intro b k cs
  obtain ⟨e, a₁, w₁, hq, harr⟩ := h b (.inLoop c :: k) cs
  cases e with
  | normal =>
    obtain ⟨e₂, a₂, w₂, hq₂, harr₂⟩ := hq b k cs
    exact ⟨e₂, a₂, w₂, hq₂, .of_steps (Steps.trans harr (.one step_inLoop)) harr₂⟩
  | exit id => exact ⟨_, a₁, w₁, hq, .pass (x := .inLoop c) rfl (fun _ _ => .inl (by simp)) harr⟩
  | goto l => exact ⟨_, a₁, w₁, hq, .pass (x := .inLoop c) rfl (fun _ _ => .inl (by simp)) harr⟩
  | ret => exact ⟨_, a₁, w₁, hq, .pass (x := .inLoop c) rfl (fun _ _ => .inl (by simp)) harr⟩
  | panic ch => exact ⟨_, a₁, w₁, hq, .pass (x := .inLoop c) rfl (fun _ _ => .inl (by simp)) harr⟩
  | outgrown => exact ⟨_, a₁, w₁, hq, .pass (x := .inLoop c) rfl (fun _ _ => .inl (by simp)) harr⟩
/-- a loop: its first round -/
theorem W_un (h : W P n c (Exit.then (Lp P c Q) Q) L w) : W P n (.loop c) Q L w := fun a ha => Lp.start (Lp.round (h a ha))
/-- one round more -/
theorem At_un (h : W P n c (Exit.then (Lp P c Q) Q) L w) : At n (Exit.then (Lp P c Q) Q .normal) L w := fun a ha => Lp.round (h a ha)
end
/-! ### numbers with a point, which are known; pointers in a row -/
section
variable {P : Program} {n : Nat} {ops : Array Oper} {L : St} {w : World} {K : St → World → Prop}
theorem Op_fop {dst : Option Nat} {bop : BinOp} {t ty : TypeId} {x y : Operand} {pp : TypeId} {pos : String} {aft : Array Edge} {g : Option (Nat × Bool)} (ss : List Nat) (d : Nat) (u v : Value) (r : SV)
    (hs : (gok ops ss L ⟨dst, .binOp bop t x y pp, ty, pos, aft, g⟩, dst, (decide (d < n)), (L.any fun p => p.1 == d), (toSS [x, y] (lk L)).map SV.vals) = (true, some d, true, false, some [u, v]))
    (h1 : (eqGuard bop t x y u v).run P w = .ok () w) (h2 : (binOp bop t u v).run P w = .ok r.val w) (hk : K ((d, r) :: L) w) : Op1 P n ops L w ⟨dst, .binOp bop t x y pp, ty, pos, aft, g⟩ K := by
  simp only [Prod.mk.injEq, Option.map_eq_some_iff, decide_eq_true_eq] at hs
  obtain ⟨s1, rfl, s3, s4, ⟨svs, s5, s6⟩⟩ := hs
  refine WL_of (xs := [x, y]) (svs := svs) ss (d := d) (by simp [Side, s1, s3, s4, s5]) fun a ha he => ?_
  rw [s6] at he
  simp only [List.map_cons, List.map_nil, List.cons.injEq, and_true] at he
  unfold Oper.wp execOp
  simp only [he.1, he.2, Sem.run_bind, h1, h2, Result.andThen_ok, Sem.run_pure]
  exact ⟨r, rfl, hk⟩
theorem Op_fconv {dst : Option Nat} {src t ty : TypeId} {x : Operand} {pos : String} {aft : Array Edge} {g : Option (Nat × Bool)} (ss : List Nat) (d : Nat) (u : Value) (r : SV)
    (hs : (gok ops ss L ⟨dst, .convert src t x, ty, pos, aft, g⟩, dst, (decide (d < n)), (L.any fun p => p.1 == d), (toSS [x] (lk L)).map SV.vals) = (true, some d, true, false, some [u]))
    (h2 : (convert src t u).run P w = .ok r.val w) (hk : K ((d, r) :: L) w) : Op1 P n ops L w ⟨dst, .convert src t x, ty, pos, aft, g⟩ K := by
  simp only [Prod.mk.injEq, Option.map_eq_some_iff, decide_eq_true_eq] at hs
  obtain ⟨s1, rfl, s3, s4, ⟨svs, s5, s6⟩⟩ := hs
  refine WL_of (xs := [x]) (svs := svs) ss (d := d) (by simp [Side, s1, s3, s4, s5]) fun a ha he => ?_
  rw [s6] at he
  simp only [List.map_cons, List.map_nil, List.cons.injEq, and_true] at he
  unfold Oper.wp execOp
  simp only [he, Sem.run_bind, h2, Result.andThen_ok, Sem.run_pure]
  exact ⟨r, rfl, hk⟩
theorem Op_cbi {dst : Option Nat} {b : Builtin} {xs : Array Operand} {ats : Array TypeId} {ty : TypeId} {pos : String} {aft : Array Edge} {g : Option (Nat × Bool)} (ss : List Nat) (d : Nat) (us : List Value) (r : SV)
    (hs : (gok ops ss L ⟨dst, .call ⟨.builtin b, xs, ats⟩, ty, pos, aft, g⟩, dst, (decide (d < n)), (L.any fun p => p.1 == d), (toSS xs.toList (lk L)).map SV.vals) = (true, some d, true, false, some us))
    (hrun : (builtin b ats ty (xs.map fun | .const _ => true | _ => false) ⟨us⟩).run P w = .ok (.value r.val) w) (hk : K ((d, r) :: L) w) : Op1 P n ops L w ⟨dst, .call ⟨.builtin b, xs, ats⟩, ty, pos, aft, g⟩ K := by
  simp only [Prod.mk.injEq, Option.map_eq_some_iff, decide_eq_true_eq] at hs
  obtain ⟨s1, s2, s3, s4, ⟨vs, s5, s6⟩⟩ := hs
  subst s2
  refine WL_of (xs := xs.toList) (svs := vs) ss (d := d) (by simp [Side, s1, s3, s4, s5]) fun a ha he => ?_
  rw [s6] at he
  have hargs : xs.map a.eval = (⟨us⟩ : Array Value) := by
    apply Array.ext'
    simpa using he
  have hr : (execOp a.eval ⟨some d, .call ⟨.builtin b, xs, ats⟩, ty, pos, aft, g⟩).run P w = .ok (.value r.val) w := by
    show (builtin b ats ty (xs.map fun | .const _ => true | _ => false) (xs.map a.eval)).run P w = _
    rw [hargs]; exact hrun
  unfold Oper.wp
  rw [hr]
  exact ⟨r, rfl, hk⟩
structure IsFb (P : Program) (f : FuncId) : Prop where
  ok : ∃ fn, P.funcs[f]? = some fn ∧ (fn.name == "runtime.NumGoroutine") = false ∧ fn.body.isNone = true ∧ Extern.findNext fn = none ∧ Extern.find fn = some Extern.MathFloatBits.float64bits
theorem Op_fbits {dst : Option Nat} {f : FuncId} {xs : Array Operand} {ats : Array TypeId} {ty : TypeId} {pos : String} {aft : Array Edge} {g : Option (Nat × Bool)} (hf : IsFb P f) (ss : List Nat) (d : Nat) (b : Nat) (hb : b < 18446744073709551616)
    (hs : (gok ops ss L ⟨dst, .call ⟨.value (.func f), xs, ats⟩, ty, pos, aft, g⟩, dst, (decide (d < n)), (L.any fun p => p.1 == d), (toSS xs.toList (lk L)).map SV.vals) = (true, some d, true, false, some [.float .f64 b]))
    (hk : K ((d, .u64 (UInt64.ofNat b)) :: L) w) : Op1 P n ops L w ⟨dst, .call ⟨.value (.func f), xs, ats⟩, ty, pos, aft, g⟩ K := by
  simp only [Prod.mk.injEq, Option.map_eq_some_iff, decide_eq_true_eq] at hs
  obtain ⟨s1, s2, s3, s4, ⟨vs, s5, s6⟩⟩ := hs
  subst s2
  refine WL_of (xs := xs.toList) (svs := vs) ss (d := d) (by simp [Side, s1, s3, s4, s5]) fun a ha he => ?_
  rw [s6] at he
  have hargs : (#[] ++ xs.map a.eval ++ #[] : Array Value) = #[.float .f64 b] := by
    apply Array.ext'
    simpa using he
  obtain ⟨fn, h1, h2, h3, h4, h5⟩ := hf.ok
  have hrun : (execOp a.eval ⟨some d, .call ⟨.value (.func f), xs, ats⟩, ty, pos, aft, g⟩).run P w = .ok (.value (SV.val (.u64 (UInt64.ofNat b)))) w := by
    show (callFunc f (#[] ++ xs.map a.eval ++ #[])).run P w = _
    rw [hargs, run_callFunc_extern h1 h2 h3 h4 h5]
    have e : (UInt64.ofNat b).toNat = b := by simp only [UInt64.toNat_ofNat']; omega
    simp only [SV.val, e]
    rfl
  unfold Oper.wp
  rw [hrun]
  exact ⟨_, rfl, hk⟩
end
/-- the place of a byte in a text; -1: it is not there -/
def idxB (s : List UInt8) (c : UInt8) : Int := firstIdx ⟨⟨s⟩⟩ c
structure IsIx (P : Program) (f : FuncId) : Prop where
  ok : ∃ fn, P.funcs[f]? = some fn ∧ (fn.name == "runtime.NumGoroutine") = false ∧ fn.body.isNone = true ∧ Extern.findNext fn = none ∧ Extern.find fn = some Extern.BytealgIndexByte.indexByte
section
variable {P : Program} {n : Nat} {ops : Array Oper} {L : St} {w : World} {K : St → World → Prop}
theorem Op_idxb {dst : Option Nat} {f : FuncId} {xs : Array Operand} {ats : Array TypeId} {ty : TypeId} {pos : String} {aft : Array Edge} {g : Option (Nat × Bool)} (hf : IsIx P f) (ss : List Nat) (d : Nat) (s : List UInt8) (c : UInt8)
    (hs : (gok ops ss L ⟨dst, .call ⟨.value (.func f), xs, ats⟩, ty, pos, aft, g⟩, dst, (decide (d < n)), (L.any fun p => p.1 == d), (toSS xs.toList (lk L)).map SV.vals) = (true, some d, true, false, some [.string ⟨⟨s⟩⟩, .int .u8 c.toNat]))
    (hk : K ((d, I (idxB s c)) :: L) w) : Op1 P n ops L w ⟨dst, .call ⟨.value (.func f), xs, ats⟩, ty, pos, aft, g⟩ K := by
  simp only [Prod.mk.injEq, Option.map_eq_some_iff, decide_eq_true_eq] at hs
  obtain ⟨s1, s2, s3, s4, ⟨vs, s5, s6⟩⟩ := hs
  subst s2
  refine WL_of (xs := xs.toList) (svs := vs) ss (d := d) (by simp [Side, s1, s3, s4, s5]) fun a ha he => ?_
  rw [s6] at he
  have hargs : (#[] ++ xs.map a.eval ++ #[] : Array Value) = #[.string ⟨⟨s⟩⟩, .int .u8 c.toNat] := by
    apply Array.ext'
    simpa using he
  obtain ⟨fn, h1, h2, h3, h4, h5⟩ := hf.ok
  have hrun : (execOp a.eval ⟨some d, .call ⟨.value (.func f), xs, ats⟩, ty, pos, aft, g⟩).run P w = .ok (.value (SV.val (I (idxB s c)))) w := by
    show (callFunc f (#[] ++ xs.map a.eval ++ #[])).run P w = _
    rw [hargs, run_callFunc_extern h1 h2 h3 h4 h5, run_indexByte_string]
    have e : ((c.toNat : Int)).toNat.toUInt8 = c := by simp
    rw [e]
    rfl
  unfold Oper.wp
  rw [hrun]
  exact ⟨_, rfl, hk⟩
end
def eQ : Enc (Option Addr) := ⟨1, fun a => [.pointer a], fun _ => rfl, fun x v h => by rw [List.mem_singleton.1 h]; rfl⟩
instance : Pos eQ := ⟨by decide⟩

/-! ### rows of rows that come in -/
theorem exlist {β : Type} {Q : Nat → β → Prop} : ∀ (n : Nat), (∀ i, i < n → ∃ y, Q i y) → ∃ l : List β, l.length = n ∧ ∀ (i : Nat) (y : β), l[i]? = some y → Q i y
  | 0, _ => ⟨[], rfl, fun i y h => by cases h⟩
  | n + 1, h => by
    obtain ⟨l, hl, hQ⟩ := exlist n fun i hi => h i (by omega)
    obtain ⟨y, hy⟩ := h n (by omega)
    refine ⟨l ++ [y], by simp [hl], fun i z hz => ?_⟩
    rw [List.getElem?_append] at hz
    split at hz
    · exact hQ i z hz
    · have hi : i = n := by
        have := (List.getElem?_eq_some_iff.1 hz).1
        simp at this
        omega
      subst hi
      rw [hl] at hz
      simp at hz
      subst hz
      exact hy
/-- how long rows are together, each counted one more -/
def Tot : List (List UInt8) → Nat
  | [] => 0
  | x :: xs => x.length + 1 + Tot xs
theorem eH_all (hd : List Hd) : eH.all hd = hd.map fun h => .slice h.1 h.2.1 h.2.2 := by
  induction hd with
  | nil => rfl
  | cons h hd ih => show _ :: eH.all hd = _; rw [ih]; rfl
section
variable {H : Type} {enc : TypeId × Value → H} {P : Program} {w : World} {held : Bool}
/-- readings, and the bytes that they are -/
def Fam : List (DataW H) → List (List UInt8) → Prop
  | [], [] => True
  | d :: ds, x :: xs => (x = [] ∨ ∃ zs : List Int, d = .slice (lits .u8 (zs.take x.length)) (lits .u8 (zs.drop x.length)) ∧ x.length ≤ zs.length) ∧ Fam ds xs
  | _, _ => False
theorem Fam.of : ∀ (ds : List (DataW H)) (xs : List (List UInt8)), ds.length = xs.length → (∀ (i : Nat) (d : DataW H) (x : List UInt8), ds[i]? = some d → xs[i]? = some x → x = [] ∨ ∃ zs : List Int, d = .slice (lits .u8 (zs.take x.length)) (lits .u8 (zs.drop x.length)) ∧ x.length ≤ zs.length) → Fam ds xs
  | [], [], _, _ => trivial
  | [], _ :: _, h, _ => by cases h
  | _ :: _, [], h, _ => by cases h
  | d :: ds, x :: xs, h, hq => ⟨hq 0 d x rfl rfl, Fam.of ds xs (by simpa using h) fun i d' x' h1 h2 => hq (i + 1) d' x' h1 h2⟩
theorem open_rows8 {t e b : TypeId} {fuel : Nat} {cs : List Value} {x : DataW H × List MemPlace} (ht : P.underlying t = some (.slice e)) (he : P.underlying e = some (.slice b)) (hb : P.underlying b = some (.int .u8)) (hce : P.cellsOf e = 1) (hcb : P.cellsOf b = 1)
    (h : DataW.trod enc P w 0 (fun _ => true) held fuel t cs = some x) :
    ∃ (A : Option Addr) (len cap : Nat) (hd : List Hd) (xss : List (List UInt8)), cs = [.slice A len cap] ∧ Ro2 N0 w e8 A hd xss ∧ xss.length = len ∧ len ≤ cap ∧ (xss = [] ∨ ∃ ds rest, x.1 = .slice ds rest ∧ Fam ds xss) := by
  rcases DataW.trod_slice ht h with ⟨rfl, rfl⟩ | ⟨a, len, cap, elems, rest, m, rfl, rfl, rfl, _, hl, _, hlen, hel, _, _⟩
  · exact ⟨Option.none, 0, 0, [], [], rfl, Ro2.nil, rfl, by omega, .inl rfl⟩
  · have key : ∀ i, i < len → ∃ y : Hd × List UInt8, w.cell? (a.add i) = some (.slice y.1.1 y.1.2.1 y.1.2.2) ∧ y.1.2.1 = y.2.length ∧ y.2.length ≤ y.1.2.2 ∧ Ro N0 w y.1.1 (e8.all y.2) ∧
        ∃ d, elems[i]? = some d ∧ (y.2 = [] ∨ ∃ zs : List Int, d.1 = .slice (lits .u8 (zs.take y.2.length)) (lits .u8 (zs.drop y.2.length)) ∧ y.2.length ≤ zs.length) := by
      intro i hi
      have h1 := hel i hi
      have h2 : elems[i]? = some (elems[i]'(by omega)) := List.getElem?_eq_getElem _
      rw [h2, hce, Nat.mul_one, Option.bind_eq_some_iff] at h1
      obtain ⟨cs', hcs, hy⟩ := h1
      obtain ⟨A', l', c', zs, rfl, hrow, hbk⟩ := open_row he hb hcb hy
      obtain ⟨z, hz1, hz2, hz3⟩ := row_u8 hrow
      subst hz2
      refine ⟨((A', z.length, c'), z), cell_of_cells?_one hcs, rfl, hz3, Ro.n0 ((e8_all z).symm ▸ hz1), _, h2, ?_⟩
      rcases hbk with h0 | ⟨h3, h4⟩
      · exact .inl (List.length_eq_zero_iff.1 h0)
      · exact .inr ⟨zs, h3, h4⟩
    obtain ⟨l, hll, hl2⟩ := exlist len key
    have hget : ∀ (j : Nat) (h : Hd) (x : List UInt8), (l.map (·.1))[j]? = some h → (l.map (·.2))[j]? = some x → l[j]? = some (h, x) := by
      intro j h x h1 h2
      rw [List.getElem?_map, Option.map_eq_some_iff] at h1 h2
      obtain ⟨y, hy, rfl⟩ := h1
      obtain ⟨y', hy', rfl⟩ := h2
      rw [hy] at hy'
      obtain rfl := Option.some.inj hy'
      exact hy
    refine ⟨some a, len, cap, l.map (·.1), l.map (·.2), rfl, ⟨Ro.n0 ⟨fun _ => ⟨a, rfl⟩, ?_⟩, by simp, ?_⟩, by simp [hll], hl, .inr ⟨_, _, rfl, ?_⟩⟩
    · intro a' j u ha hu
      obtain rfl := Option.some.inj ha
      rw [eH_all, List.map_map, List.getElem?_map, Option.map_eq_some_iff] at hu
      obtain ⟨y, hy, rfl⟩ := hu
      exact (hl2 j y hy).1
    · intro j h x h1 h2
      obtain ⟨_, q1, q2, q3, _⟩ := hl2 j _ (hget j h x h1 h2)
      exact ⟨q1, q2, q3⟩
    · refine Fam.of _ _ (by simp [hll, hlen]) fun i d x h1 h2 => ?_
      rw [List.getElem?_map, Option.map_eq_some_iff] at h1 h2
      obtain ⟨y, hy, rfl⟩ := h1
      obtain ⟨z, hz, rfl⟩ := h2
      obtain ⟨_, _, _, _, d', hd', hq⟩ := hl2 i z hz
      rw [hy] at hd'
      obtain rfl := Option.some.inj hd'
      exact hq
end
/-! ### the same check with a number for what is done: for long regions -/
section
variable {ops : Array Oper} {Ls : List Nat}
def rdyN (ops : Array Oper) (m : Nat) (i : Nat) : Bool := !m.testBit i && ((ops[i]?).map (·.after.all fun e => !Region.binds .any e || m.testBit e.on)).getD false
def freeN (ops : Array Oper) (m : Nat) (i : Nat) : Bool :=
  match ops[i]? with
  | none => false
  | some oi => (List.range ops.size).all fun j => j == i || m.testBit j || match ops[j]? with
      | some oj => oj.after.any (fun e => Region.binds .any e && e.on == i) || oi.apart ops oj
      | none => true
def aheadN (ops : Array Oper) (Ls : List Nat) (m : Nat) (i : Nat) : Nat := (Ls.filter fun j => decide (j < ops.size) && !m.testBit j && !asks2 ops m.testBit j i).length
def mixN (ops : Array Oper) (Ls : List Nat) : MT → Nat → Nat → Bool
  | .nil, _, m => (List.range ops.size).all fun i => !rdyN ops m i
  | .q i k π, p, m => decide (i < ops.size) && rdyN ops m i && freeN ops m i && !Ls.contains i && decide (p + aheadN ops Ls m i ≤ k) && mixN ops Ls π p (m ||| 2 ^ i)
  | .op i π, p, m => ((List.range ops.size).filter fun j => rdyN ops m j) == [i] && mixN ops Ls π (nx Ls p i) (m ||| 2 ^ i)
  | .br i j ri rj, p, m => ((List.range ops.size).filter fun j => rdyN ops m j) == [i, j] && rj.depth == ri.depth && mixN ops Ls ri (nx Ls p i) (m ||| 2 ^ i) && mixN ops Ls rj (nx Ls p j) (m ||| 2 ^ j)
/-- the number tells what is listed -/
def Rel (ops : Array Oper) (listed : Array Bool) (m : Nat) : Prop := listed.size = ops.size ∧ ∀ j, listed.getD j false = m.testBit j
theorem Rel.lt {listed : Array Bool} {m : Nat} (h : Rel ops listed m) {j : Nat} (hj : j < ops.size) : listed.getD j true = m.testBit j := by
  rw [← h.2 j, Array.getD_eq_getD_getElem?, Array.getD_eq_getD_getElem?, Array.getElem?_eq_getElem (by rw [h.1]; exact hj)]
  rfl
theorem Rel.ge {listed : Array Bool} {m : Nat} (h : Rel ops listed m) {j : Nat} (hj : ¬ j < ops.size) : listed.getD j true = true := by
  rw [Array.getD_eq_getD_getElem?, Array.getElem?_eq_none (by rw [h.1]; omega)]
  rfl
theorem Rel.ready {listed : Array Bool} {m : Nat} (h : Rel ops listed m) : Region.ready .any ops listed = (List.range ops.size).filter fun j => rdyN ops m j := by
  unfold Region.ready
  refine List.filter_congr fun i hi => ?_
  rw [List.mem_range] at hi
  unfold rdyN
  rw [h.lt hi]
  simp only [h.2]
theorem Rel.free {listed : Array Bool} {m i : Nat} (h : Rel ops listed m) : Region.free .any ops listed i = freeN ops m i := by
  unfold Region.free freeN
  cases ho : ops[i]? with
  | none => rfl
  | some oi =>
    simp only []
    rw [Bool.eq_iff_iff, List.all_eq_true, List.all_eq_true]
    refine ⟨fun hq j hj => ?_, fun hq j hj => ?_⟩
    · have := hq j hj
      rw [h.lt (List.mem_range.1 hj)] at this
      exact this
    · have := hq j hj
      rw [h.lt (List.mem_range.1 hj)]
      exact this
theorem Rel.ahd {listed : Array Bool} {m i : Nat} (h : Rel ops listed m) : ahead ops Ls listed i = aheadN ops Ls m i := by
  unfold ahead aheadN
  congr 1
  refine List.filter_congr fun j _ => ?_
  have hf : (fun x => listed.getD x false) = m.testBit := funext h.2
  rw [hf]
  by_cases hj : j < ops.size
  · rw [h.lt hj, decide_eq_true hj]; rfl
  · rw [h.ge hj, decide_eq_false hj]; rfl
theorem Rel.step {listed : Array Bool} {m i : Nat} (h : Rel ops listed m) (hi : i < ops.size) : Rel ops (listed.setIfInBounds i true) (m ||| 2 ^ i) := by
  refine ⟨by simpa using h.1, fun j => ?_⟩
  rw [Nat.testBit_or, Nat.testBit_two_pow]
  by_cases hij : i = j
  · subst hij
    rw [Array.getD_eq_getD_getElem?, Array.getElem?_setIfInBounds_self_of_lt (by rw [h.1]; exact hi)]
    simp
  · rw [← h.2 j, Array.getD_eq_getD_getElem?, Array.getElem?_setIfInBounds_ne hij, ← Array.getD_eq_getD_getElem?]
    simp [hij]
theorem mixN_B : ∀ (π : MT) (p m : Nat) (listed : Array Bool), Rel ops listed m → mixN ops Ls π p m = true → mixB ops Ls π p listed = true
  | .nil, p, m, listed, h, hq => by
    simp only [mixB, h.ready, List.isEmpty_iff, List.filter_eq_nil_iff]
    simp only [mixN, List.all_eq_true, Bool.not_eq_true'] at hq
    intro a ha
    rw [hq a ha]
    exact Bool.false_ne_true
  | .q i k π, p, m, listed, h, hq => by
    simp only [mixN, Bool.and_eq_true, decide_eq_true_eq, Bool.not_eq_true'] at hq
    obtain ⟨⟨⟨⟨⟨h1, h2⟩, h3⟩, h4⟩, h5⟩, h6⟩ := hq
    simp only [mixB, Bool.and_eq_true, decide_eq_true_eq, Bool.not_eq_true']
    refine ⟨⟨⟨⟨?_, by rw [h.free]; exact h3⟩, h4⟩, by rw [h.ahd]; exact h5⟩, mixN_B π p _ _ (h.step h1) h6⟩
    rw [h.ready, List.contains_iff_mem, List.mem_filter]
    exact ⟨List.mem_range.2 h1, h2⟩
  | .op i π, p, m, listed, h, hq => by
    simp only [mixN, Bool.and_eq_true] at hq
    simp only [mixB, Bool.and_eq_true]
    have hi : i < ops.size := by
      have : i ∈ (List.range ops.size).filter fun j => rdyN ops m j := by rw [beq_iff_eq.1 hq.1]; exact List.mem_singleton.2 rfl
      exact List.mem_range.1 (List.mem_filter.1 this).1
    exact ⟨by rw [h.ready]; exact hq.1, mixN_B π _ _ _ (h.step hi) hq.2⟩
  | .br i j ri rj, p, m, listed, h, hq => by
    simp only [mixN, Bool.and_eq_true] at hq
    obtain ⟨⟨⟨h1, h2⟩, h3⟩, h4⟩ := hq
    simp only [mixB, Bool.and_eq_true]
    have hi : i < ops.size := by
      have : i ∈ (List.range ops.size).filter fun j => rdyN ops m j := by rw [beq_iff_eq.1 h1]; simp
      exact List.mem_range.1 (List.mem_filter.1 this).1
    have hj : j < ops.size := by
      have : j ∈ (List.range ops.size).filter fun j => rdyN ops m j := by rw [beq_iff_eq.1 h1]; simp
      exact List.mem_range.1 (List.mem_filter.1 this).1
    exact ⟨⟨⟨by rw [h.ready]; exact h1, h2⟩, mixN_B ri _ _ _ (h.step hi) h3⟩, mixN_B rj _ _ _ (h.step hj) h4⟩
end
theorem W_mN {P : Program} {n : Nat} {Q : Exit → Act → World → Prop} {L : St} {w w0 : World} {F O : Nat → Prop} {hs : List HP} {id : Nat} {l : List Oper} {C : List (World → Prop)} (hm : P.follows .mixedOrders = true) (π : MT) (Ls : List Nat) (k : Cx F O w0 (w.drewN 1) hs) (ch : Chain F O w0 hs C)
    (hB : (Region.noSelect l.toArray, mixN l.toArray Ls π 0 0, π.depth == l.length) = (true, true, true)) (h : ∀ listed, MX P n l.toArray Ls C (Q .normal) π 0 listed (Kn L) (w.drewN 1)) :
    W P n (.region id l.toArray true) Q L w := by
  simp only [Prod.mk.injEq] at hB
  refine W_m hm π Ls k ch ?_ h
  rw [hB.1, hB.2.2, mixN_B π 0 0 (Array.replicate l.length false) ⟨by simp, fun j => ?_⟩ hB.2.1]
  rw [Array.getD_eq_getD_getElem?, Nat.zero_testBit]
  by_cases hj : j < l.length
  · simp [hj]
  · simp [hj]

end Go.Sx
