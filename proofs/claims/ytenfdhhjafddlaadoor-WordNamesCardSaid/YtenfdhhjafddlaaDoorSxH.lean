import Derived.Test.YtenfdhhjafddlaaDoorSxG
namespace Go.Sx
open Go.RowKit
set_option linter.unusedSimpArgs false
set_option linter.unusedVariables false

/-! ### a region that draws its order, and holds loud operations -/
def QF : Exit → Act → World → Prop := fun _ _ _ => False
section
variable {P : Program} {ops : Array Oper} {C : World → Prop}

def wpC (P : Program) (ops : Array Oper) (C : World → Prop) (Q : Act → World → Prop) : Nat → Array Bool → Act → World → Prop
  | 0, listed, a, w => Region.ready .any ops listed = [] ∧ Q a w
  | k + 1, listed, a, w => (Region.ready .any ops listed = [] → Q a w) ∧
      ∀ i ∈ Region.ready .any ops listed, wpOp P ops QF i (fun a' w' => C w' ∧ wpC P ops C Q k (listed.setIfInBounds i true) a' w') a w

theorem wpOp_Q {i : Nat} {a : Act} {w : World} {K : Act → World → Prop} {Q : Exit → Act → World → Prop} (h : wpOp P ops QF i K a w) : wpOp P ops Q i K a w := by
  unfold wpOp at *
  split
  · rename_i ho; simp only [ho] at h; exact h
  · rename_i o ho
    simp only [ho] at h
    split
    · rename_i hw
      rw [if_pos hw] at h
      rcases h with h | ⟨_, a', w', hf⟩
      · exact .inl (Oper.wp_Q (fun _ _ _ hf => hf.elim) h)
      · exact hf.elim
    · rename_i hw
      rw [if_neg hw] at h
      exact h

theorem wpAny_of_C {Q : Act → World → Prop} {Q' : Exit → Act → World → Prop} (hq : ∀ a w, Q a w → Q' .normal a w) : ∀ (k : Nat) (listed : Array Bool) (a : Act) (w : World), wpC P ops C Q k listed a w → wpAny P .any ops Q' k listed a w
  | 0, _, _, _, h => ⟨h.1, hq _ _ h.2⟩
  | k + 1, _, _, _, h => ⟨fun h0 => hq _ _ (h.1 h0), fun i hi => wpOp_mono (fun a' w' h' => wpAny_of_C hq k _ a' w' h'.2) (wpOp_Q (h.2 i hi))⟩

theorem wpC_class {C' : World → Prop} {Q : Act → World → Prop} (hC : ∀ w, C' w → C w) : ∀ (k : Nat) (listed : Array Bool) (a : Act) (w : World), wpC P ops C' Q k listed a w → wpC P ops C Q k listed a w
  | 0, _, _, _, h => h
  | k + 1, _, _, _, h => ⟨h.1, fun i hi => wpOp_mono (fun a' w' h' => ⟨hC _ h'.1, wpC_class hC k _ a' w' h'.2⟩) (h.2 i hi)⟩

/-- in state a, in every world of the class, the operation leaves v in its slot, and the world as it was -/
def YC (P : Program) (ops : Array Oper) (C : World → Prop) (o : Oper) (v : Value) (a : Act) : Prop :=
  (Region.wanted o (yielded ops a.tmps) = true ∧ ∀ w, C w → (execOp a.eval o).run P w = .ok (.value v) w) ∨ (Region.wanted o (yielded ops a.tmps) = false ∧ v = undef)

theorem YC.op {i : Nat} {o : Oper} {v : Value} {a : Act} {w : World} {Q : Exit → Act → World → Prop} (hi : ops[i]? = some o) (hy : YC P ops C o v a) (hw : C w) {K : Act → World → Prop} (h : K (a.put o.dst v) w) : wpOp P ops Q i K a w := by
  unfold wpOp
  simp only [hi]
  rcases hy with ⟨h1, h2⟩ | ⟨h1, rfl⟩
  · rw [if_pos h1]
    refine .inl ?_
    unfold Oper.wp
    rw [h2 w hw]
    exact h
  · rw [if_neg (by simp [h1])]
    exact h

theorem wpOp_put {j : Nat} {oi oj : Oper} {v : Value} {w : World} (hj : ops[j]? = some oj) (hap : oi.apart ops oj = true) (hsi : ∀ cs b, oi.op ≠ .select cs b) (hsj : ∀ cs b, oj.op ≠ .select cs b) {K : Act → World → Prop} {a : Act}
    (hy : YC P ops C oi v a) (h : wpOp P ops QF j K (a.put oi.dst v) w) : wpOp P ops QF j (fun a' w' => YC P ops C oi v a' ∧ K (a'.put oi.dst v) w') a w := by
  obtain ⟨h1, h2, h3⟩ := Oper.apart_spec hap
  have keep : ∀ (u : Value), YC P ops C oi v (a.put oj.dst u) := fun u => by
    unfold YC at *
    rw [execOp_put oi hsi a oj.dst u h3, wanted_put oi a oj.dst u h3]
    exact hy
  have keepD : ∀ (u : Value) (d : Deferred), YC P ops C oi v ({ a with defers := d :: a.defers }.put oj.dst u) := fun u d => by
    have h4 := keep u
    unfold YC at *
    have e1 : ({ a with defers := d :: a.defers } : Act).put oj.dst u = { a.put oj.dst u with defers := d :: a.defers } := by
      unfold Act.put; split <;> rfl
    rw [e1]
    exact h4
  unfold wpOp at *
  simp only [hj] at *
  rw [wanted_put oj a oi.dst v h1] at h
  split
  · rename_i hw
    rw [if_pos hw] at h
    rcases h with h | ⟨_, a', w', hf⟩
    · refine .inl ?_
      unfold Oper.wp at *
      rw [execOp_put oj hsj a oi.dst v h1] at h
      generalize (execOp a.eval oj).run P w = r at *
      cases r with
      | ok x w' =>
        cases x <;> simp only [Oper.upon] at h ⊢ <;> first | exact h.elim | skip
        case value u => exact ⟨keep u, by rw [← Act.put_comm a v u h2]; exact h⟩
        case skip => exact ⟨keep _, by rw [← Act.put_comm a v undef h2]; exact h⟩
        case defer d =>
          refine ⟨keepD _ d, ?_⟩
          have e1 : (({ a with defers := d :: a.defers } : Act).put oj.dst undef).put oi.dst v = ({ a.put oi.dst v with defers := d :: (a.put oi.dst v).defers } : Act).put oj.dst undef := by
            rw [← Act.put_comm _ v undef h2]
            unfold Act.put; cases oi.dst <;> rfl
          rw [e1]; exact h
        case enter f args =>
          refine h.mono fun e w'' he => ?_
          cases e with
          | returned u => exact ⟨keep u, by rw [← Act.put_comm a v u h2]; exact he⟩
          | panicked c => exact he
          | outgrown => exact he
        case row row args =>
          refine h.mono fun u w'' he => ⟨keep u, by rw [← Act.put_comm a v u h2]; exact he⟩
      | halt x w' => cases x <;> simp only [Oper.upon] at h ⊢ <;> exact h
    · exact hf.elim
  · rename_i hw
    rw [if_neg hw] at h
    exact ⟨keep _, by rw [← Act.put_comm a v undef h2]; exact h⟩

theorem wpC_first {Q : Act → World → Prop} {i : Nat} {oi : Oper} {v : Value} (hi : ops[i]? = some oi) (hsel : ∀ (j : Nat) (o : Oper) cs b, ops[j]? = some o → o.op ≠ .select cs b) :
    ∀ (k : Nat) (listed : Array Bool) (a : Act) (w : World), C w →
      (∀ j oj, ops[j]? = some oj → j ≠ i → listed.getD j true = false → (∀ e ∈ oj.after, Region.binds .any e = true → e.on ≠ i) → oi.apart ops oj = true) →
      i ∈ Region.ready .any ops listed → YC P ops C oi v a →
      wpC P ops C Q k (listed.setIfInBounds i true) (a.put oi.dst v) w → wpC P ops C Q (k + 1) listed a w := by
  intro k
  induction k with
  | zero =>
    intro listed a w hw _ hr hy H
    refine ⟨fun h => (by rw [h] at hr; cases hr), fun j hj => ?_⟩
    by_cases hji : j = i
    · subst hji; exact hy.op hi hw ⟨hw, H⟩
    · have := ready_mono hj hji
      rw [H.1] at this
      cases this
  | succ k ih =>
    intro listed a w hw hfree hr hy H
    refine ⟨fun h => (by rw [h] at hr; cases hr), fun j hj => ?_⟩
    by_cases hji : j = i
    · subst hji; exact hy.op hi hw ⟨hw, H⟩
    · have h1 := H.2 j (ready_mono hj hji)
      obtain ⟨hjun, oj, hoj, hall⟩ := mem_ready.1 hj
      have hnot : ∀ e ∈ oj.after, Region.binds .any e = true → e.on ≠ i := fun e he hb heq => by
        have h1 := hall e he hb
        have h0 := (mem_ready.1 hr).1
        rw [heq] at h1
        rcases Nat.lt_or_ge i listed.size with h' | h'
        · simp [h'] at h0 h1; rw [h0] at h1; cases h1
        · simp [Array.getElem?_eq_none h'] at h1
      have h2 := wpOp_put hoj (hfree j oj hoj hji hjun hnot) (fun cs b => hsel i oi cs b hi) (fun cs b => hsel j oj cs b hoj) hy h1
      have hfree' : ∀ m om, ops[m]? = some om → m ≠ i → (listed.setIfInBounds j true).getD m true = false →
          (∀ e ∈ om.after, Region.binds .any e = true → e.on ≠ i) → oi.apart ops om = true := fun m om hm hmi hun hno => by
        refine hfree m om hm hmi ?_ hno
        by_cases hjm : j = m
        · subst hjm; exact hjun
        · rw [getD_set_ne true hjm] at hun; exact hun
      refine wpOp_mono (fun a' w' h3 => ?_) h2
      obtain ⟨hy', hw', h4⟩ := h3
      refine ⟨hw', ih (listed.setIfInBounds j true) a' w' hw' hfree' (ready_mono hr (Ne.symm hji)) hy' ?_⟩
      rw [Array.setIfInBounds_comm _ _ hji]
      exact h4

def mixB (ops : Array Oper) : List (Nat × Bool) → Array Bool → Bool
  | [], listed => (Region.ready .any ops listed).isEmpty
  | (i, q) :: π, listed => (if q then (Region.ready .any ops listed).contains i && Region.free .any ops listed i else Region.ready .any ops listed == [i]) && mixB ops π (listed.setIfInBounds i true)

def MX (P : Program) (n : Nat) (ops : Array Oper) (C : World → Prop) (Q : Act → World → Prop) (π : List (Nat × Bool)) (listed : Array Bool) (L : List En) (w : World) : Prop :=
  Region.noSelect ops = true → mixB ops π listed = true → C w → ∀ a, Fu n a L → wpC P ops C Q π.length listed a w

theorem MX_nil {n : Nat} {Q : Act → World → Prop} {listed : Array Bool} {L : St} {w : World} (h : At n Q L w) : MX P n ops C Q [] listed (Kn L) w :=
  fun _ hB _ a ha => ⟨by simpa [mixB] using hB, h a ha⟩

def qops (ops : Array Oper) : List (Nat × Bool) → Option (List Oper)
  | [] => some []
  | (i, q) :: π => match q, ops[i]?, qops ops π with
    | true, some o, some l => some (o :: l)
    | _, _, _ => none

theorem MX_quiet' {n : Nat} {Q : Act → World → Prop} {ss : List Nat} {w : World} {π2 : List (Nat × Bool)} {L' : List En} : ∀ (π1 : List (Nat × Bool)) (l : List Oper) (listed : Array Bool) (L : List En) (os os' : List SV) (cs : List Cond),
    qops ops π1 = some l → evs P n ops ss l L os = some (L', cs, os') → (∀ w, C w → ∀ c ∈ cs, c w) → (∀ listed', MX P n ops C Q π2 listed' L' w) → MX P n ops C Q (π1 ++ π2) listed L w := by
  intro π1
  induction π1 with
  | nil =>
    intro l listed L os os' cs hq h hc hk
    simp only [qops, Option.some.injEq] at hq
    subst hq
    simp only [evs, Option.some.injEq, Prod.mk.injEq] at h
    obtain ⟨rfl, rfl, rfl⟩ := h
    exact hk listed
  | cons p π1 ih =>
    intro l listed L os os' cs hq h hc hk
    obtain ⟨i, q⟩ := p
    simp only [qops] at hq
    split at hq
    · rename_i o l' ho hl'
      simp only [Option.some.injEq] at hq
      subst hq
      simp only [evs] at h
      split at h
      · rename_i L1 c1 os1 h1
        split at h
        · rename_i L2 c2 os2 h2
          simp only [Option.some.injEq, Prod.mk.injEq] at h
          obtain ⟨rfl, rfl, rfl⟩ := h
          intro hns hB hw a ha
          simp only [List.cons_append, mixB, if_true, Bool.and_eq_true] at hB
          obtain ⟨⟨hr, hf⟩, hB⟩ := hB
          have hrest := ih l' (listed.setIfInBounds i true) L1 os1 _ c2 hl' h2 (fun w hw c hcm => hc w hw c (List.mem_append_right _ hcm)) hk hns hB hw
          rcases ev1_sound ha h1 with ⟨hwt, v, hrun, hf'⟩ | ⟨hwt, hf'⟩
          · exact wpC_first ho (Region.noSelect_spec hns) _ listed a w hw (Region.free_spec ho hf) (by simpa using hr) (.inl ⟨hwt, fun w' hw' => hrun w' fun c hcm => hc w' hw' c (List.mem_append_left _ hcm)⟩) (hrest _ hf')
          · exact wpC_first ho (Region.noSelect_spec hns) _ listed a w hw (Region.free_spec ho hf) (by simpa using hr) (.inr ⟨hwt, rfl⟩) (hrest _ hf')
        · cases h
      · cases h
    · cases hq

/-- quiet operations, taken first -/
theorem MX_q {n : Nat} {Q : Act → World → Prop} {w : World} {π : List (Nat × Bool)} {listed : Array Bool} {L : St} (k : Nat) (ss : List Nat) (os : List SV) (L' : St) (cs : List Cond)
    (hs : ((qops ops (π.take k)).bind fun l => evs P n ops ss l (Kn L) os).map (fun r => (L'.map fun e => look r.1 e.1, r.2.1, r.2.2)) = some ((Kn L').map some, cs, []))
    (hc : ∀ w, C w → All cs w) (h : ∀ listed', MX P n ops C Q (π.drop k) listed' (Kn L') w) : MX P n ops C Q π listed (Kn L) w := by
  rw [Option.map_bind] at hs
  simp only [Option.bind_eq_some_iff] at hs
  obtain ⟨l, hl, hs⟩ := hs
  obtain ⟨Lc, he, hk⟩ := Seg.keep (P := P) (n := n) (ops := ops) (ss := ss) (l := l) (L := L) (os := os) (L' := L') (cs := cs) hs
  rw [← List.take_append_drop k π]
  refine MX_quiet' (π.take k) l listed (Kn L) os [] cs hl he (fun w hw => All_mem (hc w hw)) fun listed' => ?_
  intro hns hB hw a ha
  exact h listed' hns hB hw a (hk a ha)

/-- a loud operation, which alone may come up -/
theorem MX_op {n : Nat} {Q : Act → World → Prop} {w : World} {π : List (Nat × Bool)} {listed : Array Bool} {L : St} {i : Nat} {o : Oper} (C' : World → Prop) (hC : ∀ x, C' x → C x) (ho : ops[i]? = some o)
    (h : Op1 P n ops L w o fun L' w' => C' w' ∧ ∀ listed', MX P n ops C' Q π listed' (Kn L') w') : MX P n ops C Q ((i, false) :: π) listed (Kn L) w := by
  intro hns hB hw a ha
  simp only [mixB, Bool.and_eq_true, Bool.false_eq_true, if_false, beq_iff_eq] at hB
  obtain ⟨hr, hB⟩ := hB
  obtain ⟨h1, h2⟩ := h a ha
  refine ⟨fun h0 => (by rw [h0] at hr; cases hr), fun j hj => ?_⟩
  rw [hr] at hj
  simp only [List.mem_singleton] at hj
  subst hj
  unfold wpOp
  simp only [ho]
  rw [if_pos h1]
  refine .inl (Oper.wp_mono ?_ h2)
  rintro a' w' ⟨L', hf, hc, hk⟩
  exact ⟨hC _ hc, wpC_class hC _ _ _ _ (hk _ hns hB hc a' hf)⟩
/-- a loud operation that is passed over -/
theorem MX_skip {n : Nat} {Q : Act → World → Prop} {w : World} {π : List (Nat × Bool)} {listed : Array Bool} {L : St} (L1 L2 : St) (k : Nat) (c : Bool) (hf : find L k = some (.b c)) (e1 : L1 = L.map fun p => if p.1 = k then (k, .b true) else p) (e2 : L2 = L.map fun p => if p.1 = k then (k, .b false) else p)
    (h1 : c = true → MX P n ops C Q π listed (Kn L1) w) (h2 : c = false → MX P n ops C Q π listed (Kn L2) w) : MX P n ops C Q π listed (Kn L) w := by
  intro hns hB hw a ha
  have h := ha.of_at (find_mem hf)
  have key : ∀ L', (L' = L.map fun p => if p.1 = k then (k, .b c) else p) → Fu n a (Kn L') := by
    intro L' e
    subst e
    refine ⟨⟨ha.defers, ha.size, fun e hm _ => ?_⟩, fun e hm g w hg => ?_⟩
    · simp only [Kn, List.mem_map] at hm
      obtain ⟨p, ⟨q, hq, rfl⟩, rfl⟩ := hm
      split
      · exact h
      · exact ha.of_at hq
    · simp only [Kn, List.mem_map] at hm
      obtain ⟨p, _, rfl⟩ := hm
      cases hg
  cases c with
  | true => exact h1 rfl hns hB hw a (key _ e1)
  | false => exact h2 rfl hns hB hw a (key _ e2)

theorem W_mix {n : Nat} {id : Nat} {l : List Oper} {Q : Exit → Act → World → Prop} {L : St} {w : World} (hm : P.follows .mixedOrders = true) (π : List (Nat × Bool)) (C : World → Prop)
    (hB : (Region.noSelect l.toArray, mixB l.toArray π (Array.replicate l.length false), π.length == l.length) = (true, true, true)) (hC : C (w.drewN 1)) (h : ∀ listed, MX P n l.toArray C (Q .normal) π listed (Kn L) (w.drewN 1)) :
    W P n (.region id l.toArray true) Q L w := by
  intro a ha
  simp only [Prod.mk.injEq, beq_iff_eq] at hB
  obtain ⟨h1, h2, h3⟩ := hB
  refine wp_region_any hm ?_
  have := h (Array.replicate l.length false) h1 h2 hC a ha
  rw [h3] at this
  exact wpAny_of_C (fun _ _ hq => hq) _ _ _ _ (by rw [show l.toArray.size = l.length from by simp]; exact this)
end
end Go.Sx
