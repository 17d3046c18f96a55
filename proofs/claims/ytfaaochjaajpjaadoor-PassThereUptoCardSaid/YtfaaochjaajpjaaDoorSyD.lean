import Derived.Test.YtfaaochjaajpjaaDoorSyC
namespace Go.Sx
open Go.RowKit
set_option linter.unusedSimpArgs false
set_option linter.unusedVariables false

structure IsGo (P : Program) (f : FuncId) : Prop where
  ok : ∃ fn c, P.funcs[f]? = some fn ∧ fn.body = some c ∧ (fn.name == "runtime.NumGoroutine") = false

theorem IsGo.run {P : Program} {f : FuncId} (h : IsGo P f) (args : Array Value) (w : World) : (callFunc f args).run P w = .ok (.enter f args) w := by
  obtain ⟨fn, c, hf, hb, hn⟩ := h.ok
  simp only [callFunc, Sem.run_bind]
  show (match P.funcs[f]? with | none => _ | some fn => _ : Sem Next).run P w = _
  rw [hf]
  simp [hn, hb]

/-- the guard of a loud operation is none, or settled -/
def gok (ops : Array Oper) (ss : List Nat) (L : St) (o : Oper) : Bool :=
  match gslot ops o with
  | some none => true
  | some g => settled ss (Kn L) g == some true
  | none => false
theorem gok_wanted {ops : Array Oper} {ss : List Nat} {L : St} {o : Oper} {n : Nat} {a : Act} (ha : Fu n a (Kn L)) (h : gok ops ss L o = true) : Region.wanted o (yielded ops a.tmps) = true := by
  unfold gok at h
  split at h
  · rename_i hg
    exact (gslot_wanted hg).2 (by intro _ _ hh; cases hh)
  · rename_i g hne hg
    simp only [beq_iff_eq] at h
    obtain ⟨k, w, rfl, h1, _⟩ := settled_spec ha h
    exact (gslot_wanted hg).2 fun k' w' hh => by
      simp only [Option.some.injEq, Prod.mk.injEq] at hh
      obtain ⟨rfl, rfl⟩ := hh
      exact h1 rfl
  · cases h

def lk (L : St) : Operand → Option SV := ev (Kn L) none
theorem lk_spec {n : Nat} {a : Act} {L : St} {o : Operand} {x : SV} (ha : Fu n a (Kn L)) (h : lk L o = some x) : a.eval o = x.val :=
  ev_sound ha.toFr (by intro _ _ hh; cases hh) h

/-- a new slot -/
theorem Fu.more {n : Nat} {a : Act} {L : St} (ha : Fu n a (Kn L)) {d : Nat} {x : SV} (hd : d < n) (hn : (L.any fun p => p.1 == d) = false) : Fu n (a.put (some d) x.val) (Kn ((d, x) :: L)) := by
  have h := ha.put hd (g := none) (x := x) (v := x.val) (by intro _ _ hh; cases hh) (fun _ => rfl) (by intro _ _ hh; cases hh)
  refine ⟨⟨h.defers, h.size, fun e hm hg => ?_⟩, fun e hm g w hg => ?_⟩
  · simp only [Kn, List.map_cons, List.mem_cons] at hm
    rcases hm with rfl | hm
    · exact h.at_ _ (by simp [Sx.put]) hg
    · refine h.at_ e ?_ hg
      simp only [Sx.put, List.mem_cons, List.mem_filter]
      refine .inr ⟨hm, ?_⟩
      simp only [List.mem_map] at hm
      obtain ⟨p, hp, rfl⟩ := hm
      have : (p.1 == d) = false := by
        have := List.any_eq_false.1 hn p hp
        simpa using this
      simp only [beq_eq_false_iff_ne, ne_eq] at this
      simp [this]
  · simp only [Kn, List.mem_map] at hm
    obtain ⟨p, _, rfl⟩ := hm
    cases hg

section
variable {P : Program} {n : Nat} {Q : Exit → Act → World → Prop} {ops : Array Oper} {rest : List Oper} {L : St} {w : World} {K : St → World → Prop}

/-- the side of a loud operation: its guard, its slot, its operands -/
def Side (n : Nat) (ops : Array Oper) (ss : List Nat) (L : St) (o : Oper) (d : Nat) (xs : List Operand) (svs : List SV) : Prop :=
  (gok ops ss L o, o.dst, (decide (d < n)), (L.any fun p => p.1 == d), toSS xs (lk L)) = (true, some d, true, false, some svs)

/-- one loud operation, and what holds behind it -/
def Op1 (P : Program) (n : Nat) (ops : Array Oper) (L : St) (w : World) (o : Oper) (K : St → World → Prop) : Prop :=
  ∀ a, Fu n a (Kn L) → Region.wanted o (yielded ops a.tmps) = true ∧ o.wp P a w (fun a' w' => ∃ L', Fu n a' (Kn L') ∧ K L' w') (fun _ _ _ => False)

theorem Oper.wp_Q {P : Program} {o : Oper} {a : Act} {w : World} {K : Act → World → Prop} {Q Q' : Exit → Act → World → Prop} (hq : ∀ e a w, Q e a w → Q' e a w) (h : o.wp P a w K Q) : o.wp P a w K Q' := by
  unfold Oper.wp at *
  generalize (execOp a.eval o).run P w = r at *
  cases r with
  | ok x w' =>
    cases x <;> simp only [Oper.upon] at h ⊢ <;> first | exact h | skip
    refine h.mono fun e w'' he => ?_
    cases e with
    | returned v => exact he
    | panicked c => exact hq _ _ _ he
    | outgrown => obtain ⟨a', w3, h3⟩ := he; exact ⟨a', w3, hq _ _ _ h3⟩
  | halt x w' => cases x <;> simp only [Oper.upon] at h ⊢ <;> first | exact hq _ _ _ h | exact h

theorem WL_op {o : Oper} (h : Op1 P n ops L w o (fun L' w' => WL P n ops Q rest L' w')) : WL P n ops Q (o :: rest) L w := by
  intro a ha
  obtain ⟨h1, h2⟩ := h a ha
  unfold wpList
  rw [if_pos h1]
  refine .inl (Oper.wp_Q (fun _ _ _ hf => hf.elim) (Oper.wp_mono ?_ h2))
  rintro a' w' ⟨L', hf, hk⟩
  exact hk a' hf

theorem WL_of {o : Oper} {d : Nat} {xs : List Operand} {svs : List SV} {K : St → World → Prop} (ss : List Nat) (hs : Side n ops ss L o d xs svs)
    (h : ∀ a, Fu n a (Kn L) → xs.map a.eval = SV.vals svs → o.wp P a w (fun a' w' => ∃ x, a' = a.put (some d) x.val ∧ K ((d, x) :: L) w') (fun _ _ _ => False)) : Op1 P n ops L w o K := by
  intro a ha
  simp only [Side, Prod.mk.injEq, decide_eq_true_eq] at hs
  obtain ⟨h1, h2, h3, h4, h5⟩ := hs
  refine ⟨gok_wanted ha h1, Oper.wp_mono ?_ (h a ha (toSS_spec (fun o x hx => lk_spec ha hx) h5))⟩
  rintro a' w' ⟨x, rfl, hk⟩
  exact ⟨_, ha.more h3 h4, hk⟩
theorem WL_of0 {o : Oper} {xs : List Operand} {svs : List SV} {K : St → World → Prop} (ss : List Nat) (hs : (gok ops ss L o, o.dst, toSS xs (lk L)) = (true, none, some svs))
    (h : ∀ a, Fu n a (Kn L) → xs.map a.eval = SV.vals svs → o.wp P a w (fun a' w' => a' = a ∧ K L w') (fun _ _ _ => False)) : Op1 P n ops L w o K := by
  intro a ha
  simp only [Prod.mk.injEq] at hs
  obtain ⟨h1, h2, h5⟩ := hs
  refine ⟨gok_wanted ha h1, Oper.wp_mono ?_ (h a ha (toSS_spec (fun o x hx => lk_spec ha hx) h5))⟩
  rintro a' w' ⟨rfl, hk⟩
  exact ⟨_, ha, hk⟩

end

/-- what a call that makes no memory of its own leaves -/
def Pure (w : World) (v : Value) (e : Ending) (w' : World) : Prop := e = .returned v ∧ Below w.heap.size w w'
end Go.Sx
