import Derived.Test.YtfaaochjaajpjaaDoorSyK
namespace Go.Sx
open Go.RowKit
set_option linter.unusedSimpArgs false
set_option linter.unusedVariables false

/-! ### a region that draws its order, and holds loud operations -/
def QF : Exit → Act → World → Prop := fun _ _ _ => False
section
variable {P : Program} {ops : Array Oper} {Ls : List Nat} {C : Nat → World → Prop}

/-- C: what holds of the world, by how many loud operations (Ls) have been done -/
def nx (Ls : List Nat) (p i : Nat) : Nat := if Ls.contains i then p + 1 else p
def wpC (P : Program) (ops : Array Oper) (Ls : List Nat) (C : Nat → World → Prop) (Q : Act → World → Prop) : Nat → Nat → Array Bool → Act → World → Prop
  | 0, _, listed, a, w => Region.ready .any ops listed = [] ∧ Q a w
  | k + 1, p, listed, a, w => (Region.ready .any ops listed = [] → Q a w) ∧
      ∀ i ∈ Region.ready .any ops listed, wpOp P ops QF i (fun a' w' => C (nx Ls p i) w' ∧ wpC P ops Ls C Q k (nx Ls p i) (listed.setIfInBounds i true) a' w') a w

theorem wpOp_Q {i : Nat} {a : Act} {w : World} {K : Act → World → Prop} {Q : Exit → Act → World → Prop} (h : wpOp P ops QF i K a w) : wpOp P ops Q i K a w := by
  unfold wpOp at *
  split
  · rename_i ho; simp only [ho] at h; exact h
  · rename_i o ho
    simp only [ho] at h
    split
    · rename_i hw
      rw [if_pos hw] at h
      rcases h with h | ⟨_, a', w', hf⟩
      · exact .inl (Oper.wp_Q (fun _ _ _ hf => hf.elim) h)
      · exact hf.elim
    · rename_i hw
      rw [if_neg hw] at h
      exact h

theorem wpAny_of_C {Q : Act → World → Prop} {Q' : Exit → Act → World → Prop} (hq : ∀ a w, Q a w → Q' .normal a w) : ∀ (k p : Nat) (listed : Array Bool) (a : Act) (w : World), wpC P ops Ls C Q k p listed a w → wpAny P .any ops Q' k listed a w
  | 0, _, _, _, _, h => ⟨h.1, hq _ _ h.2⟩
  | k + 1, _, _, _, _, h => ⟨fun h0 => hq _ _ (h.1 h0), fun i hi => wpOp_mono (fun a' w' h' => wpAny_of_C hq k _ _ a' w' h'.2) (wpOp_Q (h.2 i hi))⟩

/-- in state a, in every world of the class, the operation leaves v in its slot, and the world as it was -/
def YC (P : Program) (ops : Array Oper) (C : World → Prop) (o : Oper) (v : Value) (a : Act) : Prop :=
  (Region.wanted o (yielded ops a.tmps) = true ∧ ∀ w, C w → (execOp a.eval o).run P w = .ok (.value v) w) ∨ (Region.wanted o (yielded ops a.tmps) = false ∧ v = undef)

theorem YC.op {D : World → Prop} {i : Nat} {o : Oper} {v : Value} {a : Act} {w : World} {Q : Exit → Act → World → Prop} (hi : ops[i]? = some o) (hy : YC P ops D o v a) (hw : D w) {K : Act → World → Prop} (h : K (a.put o.dst v) w) : wpOp P ops Q i K a w := by
  unfold wpOp
  simp only [hi]
  rcases hy with ⟨h1, h2⟩ | ⟨h1, rfl⟩
  · rw [if_pos h1]
    refine .inl ?_
    unfold Oper.wp
    rw [h2 w hw]
    exact h
  · rw [if_neg (by simp [h1])]
    exact h

theorem wpOp_put {D : World → Prop} {j : Nat} {oi oj : Oper} {v : Value} {w : World} (hj : ops[j]? = some oj) (hap : oi.apart ops oj = true) (hsi : ∀ cs b, oi.op ≠ .select cs b) (hsj : ∀ cs b, oj.op ≠ .select cs b) {K : Act → World → Prop} {a : Act}
    (hy : YC P ops D oi v a) (h : wpOp P ops QF j K (a.put oi.dst v) w) : wpOp P ops QF j (fun a' w' => YC P ops D oi v a' ∧ K (a'.put oi.dst v) w') a w := by
  obtain ⟨h1, h2, h3⟩ := Oper.apart_spec hap
  have keep : ∀ (u : Value), YC P ops D oi v (a.put oj.dst u) := fun u => by
    unfold YC at *
    rw [execOp_put oi hsi a oj.dst u h3, wanted_put oi a oj.dst u h3]
    exact hy
  have keepD : ∀ (u : Value) (d : Deferred), YC P ops D oi v ({ a with defers := d :: a.defers }.put oj.dst u) := fun u d => by
    have h4 := keep u
    unfold YC at *
    have e1 : ({ a with defers := d :: a.defers } : Act).put oj.dst u = { a.put oj.dst u with defers := d :: a.defers } := by
      unfold Act.put; split <;> rfl
    rw [e1]
    exact h4
  unfold wpOp at *
  simp only [hj] at *
  rw [wanted_put oj a oi.dst v h1] at h
  split
  · rename_i hw
    rw [if_pos hw] at h
    rcases h with h | ⟨_, a', w', hf⟩
    · refine .inl ?_
      unfold Oper.wp at *
      rw [execOp_put oj hsj a oi.dst v h1] at h
      generalize (execOp a.eval oj).run P w = r at *
      cases r with
      | ok x w' =>
        cases x <;> simp only [Oper.upon] at h ⊢ <;> first | exact h.elim | skip
        case value u => exact ⟨keep u, by rw [← Act.put_comm a v u h2]; exact h⟩
        case skip => exact ⟨keep _, by rw [← Act.put_comm a v undef h2]; exact h⟩
        case defer d =>
          refine ⟨keepD _ d, ?_⟩
          have e1 : (({ a with defers := d :: a.defers } : Act).put oj.dst undef).put oi.dst v = ({ a.put oi.dst v with defers := d :: (a.put oi.dst v).defers } : Act).put oj.dst undef := by
            rw [← Act.put_comm _ v undef h2]
            unfold Act.put; cases oi.dst <;> rfl
          rw [e1]; exact h
        case enter f args =>
          refine h.mono fun e w'' he => ?_
          cases e with
          | returned u => exact ⟨keep u, by rw [← Act.put_comm a v u h2]; exact he⟩
          | panicked c => exact he
          | outgrown => exact he
        case row row args =>
          refine h.mono fun u w'' he => ⟨keep u, by rw [← Act.put_comm a v u h2]; exact he⟩
      | halt x w' => cases x <;> simp only [Oper.upon] at h ⊢ <;> exact h
    · exact hf.elim
  · rename_i hw
    rw [if_neg hw] at h
    exact ⟨keep _, by rw [← Act.put_comm a v undef h2]; exact h⟩

/-- does an operation ask for another one to be done ahead of it? -/
def asks (ops : Array Oper) (j i : Nat) : Bool := match ops[j]? with
  | some o => o.after.any fun e => Region.binds .any e && e.on == i
  | none => false
/-- the same, or does one that it asks for, and that is not done, ask for it? -/
def asks2 (ops : Array Oper) (lst : Nat → Bool) (j i : Nat) : Bool := asks ops j i || match ops[j]? with
  | some o => o.after.any fun e => Region.binds .any e && !lst e.on && asks ops e.on i
  | none => false
/-- how many loud operations may yet come ahead of i -/
def ahead (ops : Array Oper) (Ls : List Nat) (listed : Array Bool) (i : Nat) : Nat := (Ls.filter fun j => !listed.getD j true && !asks2 ops (fun x => listed.getD x false) j i).length
theorem asks_not {i j : Nat} {oj : Oper} (hj : ops[j]? = some oj) (hnot : ∀ e ∈ oj.after, Region.binds .any e = true → e.on ≠ i) : asks ops j i = false := by
  unfold asks
  rw [hj]
  simp only [Array.any_eq_false']
  intro e he
  have := hnot e he
  cases hb : Region.binds .any e with
  | false => simp
  | true => simpa using this hb
theorem asks2_not {listed : Array Bool} {i j : Nat} (hj : j ∈ Region.ready .any ops listed) (hi : listed.getD i true = false) : asks2 ops (fun x => listed.getD x false) j i = false := by
  obtain ⟨hjun, oj, hoj, hall⟩ := mem_ready.1 hj
  have hi' : listed.getD i false = false := by
    rcases Nat.lt_or_ge i listed.size with h' | h'
    · simp [h'] at hi ⊢; exact hi
    · simp [Array.getElem?_eq_none h']
  unfold asks2
  rw [asks_not hoj (fun e he hb heq => by have := hall e he hb; rw [heq, hi'] at this; cases this), hoj]
  simp only [Bool.false_or, Array.any_eq_false']
  intro e he
  cases hb : Region.binds .any e with
  | false => simp
  | true => simp only [hall e he hb]; simp
theorem asks2_set {listed : Array Bool} {i j x : Nat} (hj : j ∈ Region.ready .any ops listed) (hi : listed.getD i true = false) (h : asks2 ops (fun x => listed.getD x false) x i = true) : asks2 ops (fun y => (listed.setIfInBounds j true).getD y false) x i = true := by
  have hji : asks ops j i = false := by
    have := asks2_not hj hi
    unfold asks2 at this
    rw [Bool.or_eq_false_iff] at this
    exact this.1
  unfold asks2 at h ⊢
  rw [Bool.or_eq_true] at h ⊢
  rcases h with h | h
  · exact .inl h
  · refine .inr ?_
    cases ho : ops[x]? with
    | none => rw [ho] at h; cases h
    | some o =>
      rw [ho] at h
      simp only [Array.any_eq_true'] at h ⊢
      obtain ⟨e, he, hq⟩ := h
      refine ⟨e, he, ?_⟩
      simp only [Bool.and_eq_true, Bool.not_eq_true'] at hq ⊢
      obtain ⟨⟨h1, h2⟩, h3⟩ := hq
      refine ⟨⟨h1, ?_⟩, h3⟩
      by_cases hje : j = e.on
      · rw [← hje, hji] at h3; cases h3
      · rw [getD_set_ne false hje]; exact h2
theorem ahead_le {listed : Array Bool} {i j : Nat} (hr : j ∈ Region.ready .any ops listed) (hi : listed.getD i true = false) : ahead ops Ls (listed.setIfInBounds j true) i ≤ ahead ops Ls listed i := by
  unfold ahead
  rw [← List.countP_eq_length_filter, ← List.countP_eq_length_filter]
  refine List.countP_mono_left fun x _ hx => ?_
  simp only [Bool.and_eq_true, Bool.not_eq_true'] at hx ⊢
  refine ⟨?_, ?_⟩
  · by_cases hxj : j = x
    · subst hxj
      have := hx.1
      rcases Nat.lt_or_ge j listed.size with h | h
      · simp [h] at this
      · simp [Array.getElem?_eq_none h] at this
    · rw [getD_set_ne true hxj] at hx; exact hx.1
  · cases hq : asks2 ops (fun x => listed.getD x false) x i with
    | false => rfl
    | true => rw [asks2_set hr hi hq] at hx; exact absurd hx.2 (by decide)
theorem ahead_lt {listed : Array Bool} {i j : Nat} (hr : j ∈ Region.ready .any ops listed) (hi : listed.getD i true = false) (hj : Ls.contains j = true) (hun : listed.getD j true = false) : ahead ops Ls (listed.setIfInBounds j true) i + 1 ≤ ahead ops Ls listed i := by
  have hna := asks2_not hr hi
  unfold ahead
  rw [← List.countP_eq_length_filter, ← List.countP_eq_length_filter]
  have key : ∀ l : List Nat, l.countP (fun x => !(listed.setIfInBounds j true).getD x true && !asks2 ops (fun y => (listed.setIfInBounds j true).getD y false) x i) ≤ l.countP (fun x => !listed.getD x true && !asks2 ops (fun y => listed.getD y false) x i) := fun l => by
    refine List.countP_mono_left fun x _ hx => ?_
    simp only [Bool.and_eq_true, Bool.not_eq_true'] at hx ⊢
    refine ⟨?_, ?_⟩
    · by_cases hxj : j = x
      · subst hxj; exact hun
      · rw [getD_set_ne true hxj] at hx; exact hx.1
    · cases hq : asks2 ops (fun x => listed.getD x false) x i with
      | false => rfl
      | true => rw [asks2_set hr hi hq] at hx; exact absurd hx.2 (by decide)
  have hjs : (listed.setIfInBounds j true).getD j true = true := by
    rcases Nat.lt_or_ge j listed.size with h | h
    · simp [h]
    · simp [Array.getElem?_eq_none h]
  induction Ls with
  | nil => simp at hj
  | cons x l ih =>
    rw [List.countP_cons, List.countP_cons]
    by_cases hx : x = j
    · subst hx
      have := key l
      simp only [hjs, hun, hna, Bool.not_true, Bool.false_and, Bool.not_false, Bool.and_self, if_true]
      simp only [Bool.false_eq_true, if_false]
      omega
    · have h1 : l.contains j = true := by
        simp only [List.contains_cons, Bool.or_eq_true, beq_iff_eq] at hj
        exact hj.resolve_left (fun e => hx e.symm)
      have := ih h1
      have hm : (if (!(listed.setIfInBounds j true).getD x true && !asks2 ops (fun y => (listed.setIfInBounds j true).getD y false) x i) = true then 1 else 0) ≤ (if (!listed.getD x true && !asks2 ops (fun y => listed.getD y false) x i) = true then 1 else 0) := by
        have := key [x]
        simpa [List.countP_cons] using this
      omega

theorem wpC_first {Q : Act → World → Prop} {i m : Nat} {oi : Oper} {v : Value} (hmono : ∀ p q x, p ≤ q → C p x → C q x) (hi : ops[i]? = some oi) (hil : Ls.contains i = false) (hsel : ∀ (j : Nat) (o : Oper) cs b, ops[j]? = some o → o.op ≠ .select cs b) :
    ∀ (k p : Nat) (listed : Array Bool) (a : Act) (w : World), C p w → p + ahead ops Ls listed i ≤ m →
      (∀ j oj, ops[j]? = some oj → j ≠ i → listed.getD j true = false → (∀ e ∈ oj.after, Region.binds .any e = true → e.on ≠ i) → oi.apart ops oj = true) →
      i ∈ Region.ready .any ops listed → YC P ops (C m) oi v a →
      wpC P ops Ls C Q k p (listed.setIfInBounds i true) (a.put oi.dst v) w → wpC P ops Ls C Q (k + 1) p listed a w := by
  have hni : ∀ p, nx Ls p i = p := fun p => by unfold nx; rw [hil]; rfl
  intro k
  induction k with
  | zero =>
    intro p listed a w hw hm _ hr hy H
    refine ⟨fun h => (by rw [h] at hr; cases hr), fun j hj => ?_⟩
    by_cases hji : j = i
    · subst hji; rw [hni]; exact hy.op hi (hmono p m w (by omega) hw) ⟨hw, H⟩
    · have := ready_mono hj hji
      rw [H.1] at this
      cases this
  | succ k ih =>
    intro p listed a w hw hm hfree hr hy H
    refine ⟨fun h => (by rw [h] at hr; cases hr), fun j hj => ?_⟩
    by_cases hji : j = i
    · subst hji; rw [hni]; exact hy.op hi (hmono p m w (by omega) hw) ⟨hw, H⟩
    · have h1 := H.2 j (ready_mono hj hji)
      obtain ⟨hjun, oj, hoj, hall⟩ := mem_ready.1 hj
      have hnot : ∀ e ∈ oj.after, Region.binds .any e = true → e.on ≠ i := fun e he hb heq => by
        have h1 := hall e he hb
        have h0 := (mem_ready.1 hr).1
        rw [heq] at h1
        rcases Nat.lt_or_ge i listed.size with h' | h'
        · simp [h'] at h0 h1; rw [h0] at h1; cases h1
        · simp [Array.getElem?_eq_none h'] at h1
      have h2 := wpOp_put hoj (hfree j oj hoj hji hjun hnot) (fun cs b => hsel i oi cs b hi) (fun cs b => hsel j oj cs b hoj) hy h1
      have hfree' : ∀ m om, ops[m]? = some om → m ≠ i → (listed.setIfInBounds j true).getD m true = false →
          (∀ e ∈ om.after, Region.binds .any e = true → e.on ≠ i) → oi.apart ops om = true := fun m om hm hmi hun hno => by
        refine hfree m om hm hmi ?_ hno
        by_cases hjm : j = m
        · subst hjm; exact hjun
        · rw [getD_set_ne true hjm] at hun; exact hun
      have hm' : nx Ls p j + ahead ops Ls (listed.setIfInBounds j true) i ≤ m := by
        unfold nx
        split
        · rename_i hc
          have := ahead_lt (ops := ops) (Ls := Ls) hj (mem_ready.1 hr).1 hc hjun
          omega
        · have := ahead_le (ops := ops) (Ls := Ls) hj (mem_ready.1 hr).1
          omega
      refine wpOp_mono (fun a' w' h3 => ?_) h2
      obtain ⟨hy', hw', h4⟩ := h3
      refine ⟨hw', ih _ (listed.setIfInBounds j true) a' w' hw' hm' hfree' (ready_mono hr (Ne.symm hji)) hy' ?_⟩
      rw [Array.setIfInBounds_comm _ _ hji]
      exact h4

/-- classes, one behind the other, each wider -/
def cls : List (World → Prop) → Nat → World → Prop
  | [], _, _ => True
  | c :: _, 0, x => c x
  | _ :: cs, p + 1, x => cls cs p x
def Mono : List (World → Prop) → Prop
  | c :: d :: cs => (∀ x, c x → d x) ∧ Mono (d :: cs)
  | _ => True
theorem Mono.step : ∀ (l : List (World → Prop)) (p : Nat) (x : World), Mono l → cls l p x → cls l (p + 1) x
  | [], _, _, _, _ => trivial
  | [_], 0, _, _, _ => trivial
  | [_], _ + 1, _, _, _ => trivial
  | _ :: _ :: _, 0, x, h, hx => h.1 x hx
  | _ :: d :: cs, p + 1, x, h, hx => Mono.step (d :: cs) p x h.2 hx
theorem Mono.le {l : List (World → Prop)} (h : Mono l) : ∀ p q x, p ≤ q → cls l p x → cls l q x := by
  intro p q x hpq hx
  obtain ⟨d, rfl⟩ := Nat.exists_eq_add_of_le hpq
  induction d with
  | zero => exact hx
  | succ d ih => exact Mono.step l _ x h (ih (by omega))

/-- in which order the operations come up; m: how many loud ones may be done when a quiet one comes up -/
inductive MT where
  | nil
  | q (i m : Nat) (r : MT)
  | op (i : Nat) (r : MT)
  | br (i j : Nat) (ri rj : MT)
def MT.depth : MT → Nat
  | .nil => 0
  | .q _ _ r => r.depth + 1
  | .op _ r => r.depth + 1
  | .br _ _ r _ => r.depth + 1
def MT.drop : Nat → MT → MT
  | k + 1, .q _ _ r => r.drop k
  | _, π => π
def mixB (ops : Array Oper) (Ls : List Nat) : MT → Nat → Array Bool → Bool
  | .nil, _, listed => (Region.ready .any ops listed).isEmpty
  | .q i m π, p, listed => (Region.ready .any ops listed).contains i && Region.free .any ops listed i && !Ls.contains i && decide (p + ahead ops Ls listed i ≤ m) && mixB ops Ls π p (listed.setIfInBounds i true)
  | .op i π, p, listed => Region.ready .any ops listed == [i] && mixB ops Ls π (nx Ls p i) (listed.setIfInBounds i true)
  | .br i j ri rj, p, listed => Region.ready .any ops listed == [i, j] && rj.depth == ri.depth && mixB ops Ls ri (nx Ls p i) (listed.setIfInBounds i true) && mixB ops Ls rj (nx Ls p j) (listed.setIfInBounds j true)

def MX (P : Program) (n : Nat) (ops : Array Oper) (Ls : List Nat) (C : List (World → Prop)) (Q : Act → World → Prop) (π : MT) (p : Nat) (listed : Array Bool) (L : List En) (w : World) : Prop :=
  Region.noSelect ops = true → Mono C → mixB ops Ls π p listed = true → cls C p w → ∀ a, Fu n a L → wpC P ops Ls (cls C) Q π.depth p listed a w

variable {C : List (World → Prop)}
theorem MX_nil {n p : Nat} {Q : Act → World → Prop} {listed : Array Bool} {L : St} {w : World} (h : At n Q L w) : MX P n ops Ls C Q .nil p listed (Kn L) w :=
  fun _ _ hB _ a ha => ⟨by simpa [mixB] using hB, h a ha⟩

def qops (ops : Array Oper) (m : Nat) : Nat → MT → Option (List Oper)
  | 0, _ => some []
  | k + 1, .q i m' r => if m' = m then match ops[i]?, qops ops m k r with
    | some o, some l => some (o :: l)
    | _, _ => none else none
  | _ + 1, _ => none

theorem MX_quiet' {n p m : Nat} {Q : Act → World → Prop} {ss : List Nat} {w : World} {L' : List En} : ∀ (k : Nat) (π : MT) (l : List Oper) (listed : Array Bool) (L : List En) (os os' : List SV) (cs : List Cond),
    qops ops m k π = some l → evs P n ops ss l L os = some (L', cs, os') → (∀ w, cls C m w → ∀ c ∈ cs, c w) → (∀ listed', MX P n ops Ls C Q (π.drop k) p listed' L' w) → MX P n ops Ls C Q π p listed L w := by
  intro k
  induction k with
  | zero =>
    intro π l listed L os os' cs hq h hc hk
    simp only [qops, Option.some.injEq] at hq
    subst hq
    simp only [evs, Option.some.injEq, Prod.mk.injEq] at h
    obtain ⟨rfl, rfl, rfl⟩ := h
    have e : π.drop 0 = π := by cases π <;> rfl
    rw [e] at hk
    exact hk listed
  | succ k ih =>
    intro π l listed L os os' cs hq h hc hk
    cases π with
    | q i m' π =>
      simp only [qops] at hq
      split at hq
      · rename_i hmm
        subst hmm
        split at hq
        · rename_i o l' ho hl'
          simp only [Option.some.injEq] at hq
          subst hq
          simp only [evs] at h
          split at h
          · rename_i L1 c1 os1 h1
            split at h
            · rename_i L2 c2 os2 h2
              simp only [Option.some.injEq, Prod.mk.injEq] at h
              obtain ⟨rfl, rfl, rfl⟩ := h
              intro hns hmo hB hw a ha
              simp only [mixB, Bool.and_eq_true, decide_eq_true_eq, Bool.not_eq_true'] at hB
              obtain ⟨⟨⟨⟨hr, hf⟩, hnl⟩, hah⟩, hB⟩ := hB
              have hrest := ih π l' (listed.setIfInBounds i true) L1 os1 _ c2 hl' h2 (fun w hw c hcm => hc w hw c (List.mem_append_right _ hcm)) hk hns hmo hB hw
              rcases ev1_sound ha h1 with ⟨hwt, v, hrun, hf'⟩ | ⟨hwt, hf'⟩
              · exact wpC_first hmo.le ho hnl (Region.noSelect_spec hns) _ p listed a w hw hah (Region.free_spec ho hf) (by simpa using hr) (.inl ⟨hwt, fun w' hw' => hrun w' fun c hcm => hc w' hw' c (List.mem_append_left _ hcm)⟩) (hrest _ hf')
              · exact wpC_first hmo.le ho hnl (Region.noSelect_spec hns) _ p listed a w hw hah (Region.free_spec ho hf) (by simpa using hr) (.inr ⟨hwt, rfl⟩) (hrest _ hf')
            · cases h
          · cases h
        · cases hq
      · cases hq
    | _ => cases hq

/-- quiet operations, taken first -/
theorem MX_q {n p : Nat} {Q : Act → World → Prop} {w : World} {π : MT} {listed : Array Bool} {L : St} (k m : Nat) (ss : List Nat) (os : List SV) (L' : St) (cs : List Cond)
    (hs : ((qops ops m k π).bind fun l => evs P n ops ss l (Kn L) os).map (fun r => (L'.map fun e => (look r.1 e.1).map fun e => (e.g, e.x.val), r.2.1, r.2.2)) = some (L'.map fun p => some (none, p.2.val), cs, []))
    (hc : ∀ w, cls C m w → All cs w) (h : ∀ listed', MX P n ops Ls C Q (π.drop k) p listed' (Kn L') w) : MX P n ops Ls C Q π p listed (Kn L) w := by
  rw [Option.map_bind] at hs
  simp only [Option.bind_eq_some_iff] at hs
  obtain ⟨l, hl, hs⟩ := hs
  obtain ⟨Lc, he, hk⟩ := Seg.keep (P := P) (n := n) (ops := ops) (ss := ss) (l := l) (L := L) (os := os) (L' := L') (cs := cs) hs
  refine MX_quiet' k π l listed (Kn L) os [] cs hl he (fun w hw => All_mem (hc w hw)) fun listed' => ?_
  intro hns hmo hB hw a ha
  exact h listed' hns hmo hB hw a (hk a ha)

/-- a loud operation, which alone may come up -/
theorem MX_op {n p : Nat} {Q : Act → World → Prop} {w : World} {π : MT} {listed : Array Bool} {L : St} {i : Nat} {o : Oper} (hl : Ls.contains i = true) (ho : ops[i]? = some o)
    (h : Op1 P n ops L w o fun L' w' => cls C (p + 1) w' ∧ ∀ listed', MX P n ops Ls C Q π (p + 1) listed' (Kn L') w') : MX P n ops Ls C Q (.op i π) p listed (Kn L) w := by
  intro hns hmo hB hw a ha
  have hnx : nx Ls p i = p + 1 := by unfold nx; rw [if_pos hl]
  simp only [mixB, Bool.and_eq_true, beq_iff_eq, hnx] at hB
  obtain ⟨hr, hB⟩ := hB
  obtain ⟨h1, h2⟩ := h a ha
  refine ⟨fun h0 => (by rw [h0] at hr; cases hr), fun j hj => ?_⟩
  rw [hr] at hj
  simp only [List.mem_singleton] at hj
  subst hj
  unfold wpOp
  simp only [ho, hnx]
  rw [if_pos h1]
  refine .inl (Oper.wp_mono ?_ h2)
  rintro a' w' ⟨L', hf, hc, hk⟩
  exact ⟨hc, hk _ hns hmo hB hc a' hf⟩
/-- two loud operations, either of which may come up -/
theorem MX_br {n p : Nat} {Q : Act → World → Prop} {w : World} {πi πj : MT} {listed : Array Bool} {L : St} {i j : Nat} {oi oj : Oper} (hli : Ls.contains i = true) (hlj : Ls.contains j = true) (hi : ops[i]? = some oi) (hj : ops[j]? = some oj)
    (h : Op1 P n ops L w oi fun L' w' => cls C (p + 1) w' ∧ ∀ listed', MX P n ops Ls C Q πi (p + 1) listed' (Kn L') w')
    (h' : Op1 P n ops L w oj fun L' w' => cls C (p + 1) w' ∧ ∀ listed', MX P n ops Ls C Q πj (p + 1) listed' (Kn L') w') : MX P n ops Ls C Q (.br i j πi πj) p listed (Kn L) w := by
  intro hns hmo hB hw a ha
  have hnx : nx Ls p i = p + 1 := by unfold nx; rw [if_pos hli]
  have hnx' : nx Ls p j = p + 1 := by unfold nx; rw [if_pos hlj]
  simp only [mixB, Bool.and_eq_true, beq_iff_eq, hnx, hnx'] at hB
  obtain ⟨⟨⟨hr, hd⟩, hB1⟩, hB2⟩ := hB
  refine ⟨fun h0 => (by rw [h0] at hr; cases hr), fun k hk => ?_⟩
  rw [hr] at hk
  simp only [List.mem_cons, List.not_mem_nil, or_false] at hk
  rcases hk with rfl | rfl
  · obtain ⟨h1, h2⟩ := h a ha
    unfold wpOp
    simp only [hi, hnx]
    rw [if_pos h1]
    refine .inl (Oper.wp_mono ?_ h2)
    rintro a' w' ⟨L', hf, hc, hk⟩
    exact ⟨hc, hk _ hns hmo hB1 hc a' hf⟩
  · obtain ⟨h1, h2⟩ := h' a ha
    unfold wpOp
    simp only [hj, hnx']
    rw [if_pos h1]
    refine .inl (Oper.wp_mono ?_ h2)
    rintro a' w' ⟨L', hf, hc, hk⟩
    have := hk _ hns hmo hB2 hc a' hf
    rw [hd] at this
    exact ⟨hc, this⟩

theorem W_mix {n : Nat} {id : Nat} {l : List Oper} {Q : Exit → Act → World → Prop} {L : St} {w : World} (hm : P.follows .mixedOrders = true) (π : MT) (Ls : List Nat) (C : List (World → Prop))
    (hB : (Region.noSelect l.toArray, mixB l.toArray Ls π 0 (Array.replicate l.length false), π.depth == l.length) = (true, true, true)) (hmo : Mono C) (hC : cls C 0 (w.drewN 1)) (h : ∀ listed, MX P n l.toArray Ls C (Q .normal) π 0 listed (Kn L) (w.drewN 1)) :
    W P n (.region id l.toArray true) Q L w := by
  intro a ha
  simp only [Prod.mk.injEq, beq_iff_eq] at hB
  obtain ⟨h1, h2, h3⟩ := hB
  refine wp_region_any hm ?_
  have := h (Array.replicate l.length false) h1 hmo h2 hC a ha
  rw [h3] at this
  exact wpAny_of_C (fun _ _ hq => hq) _ _ _ _ _ (by rw [show l.toArray.size = l.length from by simp]; exact this)
end
end Go.Sx
