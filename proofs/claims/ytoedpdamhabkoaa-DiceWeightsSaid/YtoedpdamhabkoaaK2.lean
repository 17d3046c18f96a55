import Derived.OpenShut
import Derived.ShutString
import Derived.ChangeOld
import Derived.Below
import Derived.JoinedCond
import Derived.MapKept
import Derived.Maps.RangeRun
import Derived.Sort.OwnSorted
import Derived.Sort.KeysCollected
import Derived.Shelf.Sort.Plain
import Derived.Shelf.Slices.In.SortNone
import Derived.Sort.OwnSortedInts
import Derived.Shelf.Strconv.Itoa3
import Derived.Laws.FloatArith
import Derived.Test.YtoedpdamhabkoaaK1
namespace Go.Sx
open Go.RowKit
set_option linter.unusedSimpArgs false
set_option linter.unusedVariables false
def QF : Exit → Act → World → Prop := fun _ _ _ => False
section
variable {P : Program} {ops : Array Oper} {Ls : List Nat} {C : Nat → World → Prop}
def nx (Ls : List Nat) (p i : Nat) : Nat := if Ls.contains i then p + 1 else p
def Oz (P : Program) (ops : Array Oper) (Ls : List Nat) (C : Nat → World → Prop) (Q : Act → World → Prop) : Nat → Nat → Array Bool → Act → World → Prop
  | 0, _, aK, a, w => Region.ready .any ops aK = [] ∧ Q a w
  | k + 1, p, aK, a, w => (Region.ready .any ops aK = [] → Q a w) ∧
      ∀ i ∈ Region.ready .any ops aK, wpOp P ops QF i (fun a' w' => C (nx Ls p i) w' ∧ Oz P ops Ls C Q k (nx Ls p i) (aK.setIfInBounds i true) a' w') a w
theorem My {i : Nat} {a : Act} {w : World} {K : Act → World → Prop} {Q : Exit → Act → World → Prop} (h : wpOp P ops QF i K a w) : wpOp P ops Q i K a w := by
  unfold wpOp at *
  split
  · rename_i ho; simp only [ho] at h; exact h
  · rename_i o ho
    simp only [ho] at h
    split
    · rename_i hw
      rw [if_pos hw] at h
      rcases h with h | ⟨_, a', w', hf⟩
      · exact .inl (Oper.OX (fun _ _ _ hf => hf.elim) h)
      · exact hf.elim
    · rename_i hw
      rw [if_neg hw] at h
      exact h
theorem zL {Q : Act → World → Prop} {Q' : Exit → Act → World → Prop} (hq : ∀ a w, Q a w → Q' .normal a w) : ∀ (k p : Nat) (aK : Array Bool) (a : Act) (w : World), Oz P ops Ls C Q k p aK a w → wpAny P .any ops Q' k aK a w
  | 0, _, _, _, _, h => ⟨h.1, hq _ _ h.2⟩
  | k + 1, _, _, _, _, h => ⟨fun h0 => hq _ _ (h.1 h0), fun i hi => wpOp_mono (fun a' w' h' => zL hq k _ _ a' w' h'.2) (My (h.2 i hi))⟩
def YC (P : Program) (ops : Array Oper) (C : World → Prop) (o : Oper) (v : Value) (a : Act) : Prop :=
  (Region.wanted o (yielded ops a.tmps) = true ∧ ∀ w, C w → (execOp a.eval o).run P w = .ok (.value v) w) ∨ (Region.wanted o (yielded ops a.tmps) = false ∧ v = undef)
theorem YC.op {D : World → Prop} {i : Nat} {o : Oper} {v : Value} {a : Act} {w : World} {Q : Exit → Act → World → Prop} (hi : ops[i]? = some o) (hy : YC P ops D o v a) (hw : D w) {K : Act → World → Prop} (h : K (a.put o.dst v) w) : wpOp P ops Q i K a w := by
  unfold wpOp
  simp only [hi]
  rcases hy with ⟨h1, h2⟩ | ⟨h1, rfl⟩
  · rw [if_pos h1]
    refine .inl ?_
    unfold Oper.wp
    rw [h2 w hw]
    exact h
  · rw [if_neg (by simp [h1])]
    exact h
theorem wpOp_put {D : World → Prop} {j : Nat} {oi oj : Oper} {v : Value} {w : World} (hj : ops[j]? = some oj) (Wh : oi.apart ops oj = true) (Wi : ∀ cs b, oi.op ≠ .select cs b) (Wj : ∀ cs b, oj.op ≠ .select cs b) {K : Act → World → Prop} {a : Act}
    (hy : YC P ops D oi v a) (h : wpOp P ops QF j K (a.put oi.dst v) w) : wpOp P ops QF j (fun a' w' => YC P ops D oi v a' ∧ K (a'.put oi.dst v) w') a w := by
  obtain ⟨h1, h2, h3⟩ := Oper.apart_spec Wh
  have sG : ∀ (u : Value), YC P ops D oi v (a.put oj.dst u) := fun u => by
    unfold YC at *
    rw [execOp_put oi Wi a oj.dst u h3, wanted_put oi a oj.dst u h3]
    exact hy
  have Pd : ∀ (u : Value) (d : Deferred), YC P ops D oi v ({ a with defers := d :: a.defers }.put oj.dst u) := fun u d => by
    have h4 := sG u
    unfold YC at *
    have e1 : ({ a with defers := d :: a.defers } : Act).put oj.dst u = { a.put oj.dst u with defers := d :: a.defers } := by
      unfold Act.put; split <;> rfl
    rw [e1]
    exact h4
  unfold wpOp at *
  simp only [hj] at *
  rw [wanted_put oj a oi.dst v h1] at h
  split
  · rename_i hw
    rw [if_pos hw] at h
    rcases h with h | ⟨_, a', w', hf⟩
    · refine .inl ?_
      unfold Oper.wp at *
      rw [execOp_put oj Wj a oi.dst v h1] at h
      generalize (execOp a.eval oj).run P w = r at *
      cases r with
      | ok x w' =>
        cases x <;> simp only [Oper.upon] at h ⊢ <;> first | exact h.elim | skip
        case value u => exact ⟨sG u, by rw [← Act.put_comm a v u h2]; exact h⟩
        case skip => exact ⟨sG _, by rw [← Act.put_comm a v undef h2]; exact h⟩
        case defer d =>
          refine ⟨Pd _ d, ?_⟩
          have e1 : (({ a with defers := d :: a.defers } : Act).put oj.dst undef).put oi.dst v = ({ a.put oi.dst v with defers := d :: (a.put oi.dst v).defers } : Act).put oj.dst undef := by
            rw [← Act.put_comm _ v undef h2]
            unfold Act.put; cases oi.dst <;> rfl
          rw [e1]; exact h
        case enter f args =>
          refine h.mono fun e U9 he => ?_
          cases e with
          | returned u => exact ⟨sG u, by rw [← Act.put_comm a v u h2]; exact he⟩
          | panicked c => exact he
          | outgrown => exact he
        case row row args =>
          refine h.mono fun u U9 he => ⟨sG u, by rw [← Act.put_comm a v u h2]; exact he⟩
      | halt x w' => cases x <;> simp only [Oper.upon] at h ⊢ <;> exact h
    · exact hf.elim
  · rename_i hw
    rw [if_neg hw] at h
    exact ⟨sG _, by rw [← Act.put_comm a v undef h2]; exact h⟩
def asks (ops : Array Oper) (j i : Nat) : Bool := match ops[j]? with
  | some o => o.after.any fun e => Region.binds .any e && e.on == i
  | none => false
def rW (ops : Array Oper) (AA : Nat → Bool) (j i : Nat) : Bool := asks ops j i || match ops[j]? with
  | some o => o.after.any fun e => Region.binds .any e && !AA e.on && asks ops e.on i
  | none => false
def ahead (ops : Array Oper) (Ls : List Nat) (aK : Array Bool) (i : Nat) : Nat := (Ls.filter fun j => !aK.getD j true && !rW ops (fun x => aK.getD x false) j i).length
theorem Hl {i j : Nat} {oj : Oper} (hj : ops[j]? = some oj) (Ju : ∀ e ∈ oj.after, Region.binds .any e = true → e.on ≠ i) : asks ops j i = false := by
  unfold asks
  rw [hj]
  simp only [Array.any_eq_false']
  intro e he
  have := Ju e he
  cases hb : Region.binds .any e with
  | false => simp
  | true => simpa using this hb
theorem Bb {aK : Array Bool} {i j : Nat} (hj : j ∈ Region.ready .any ops aK) (hi : aK.getD i true = false) : rW ops (fun x => aK.getD x false) j i = false := by
  obtain ⟨Jx, oj, OA, F_⟩ := mem_ready.1 hj
  have uj : aK.getD i false = false := by
    rcases Nat.lt_or_ge i aK.size with h' | h'
    · simp [h'] at hi ⊢; exact hi
    · simp [Array.getElem?_eq_none h']
  unfold rW
  rw [Hl OA (fun e he hb heq => by have := F_ e he hb; rw [heq, uj] at this; cases this), OA]
  simp only [Bool.false_or, Array.any_eq_false']
  intro e he
  cases hb : Region.binds .any e with
  | false => simp
  | true => simp only [F_ e he hb]; simp
theorem Bc {aK : Array Bool} {i j x : Nat} (hj : j ∈ Region.ready .any ops aK) (hi : aK.getD i true = false) (h : rW ops (fun x => aK.getD x false) x i = true) : rW ops (fun y => (aK.setIfInBounds j true).getD y false) x i = true := by
  have I_ : asks ops j i = false := by
    have := Bb hj hi
    unfold rW at this
    rw [Bool.or_eq_false_iff] at this
    exact this.1
  unfold rW at h ⊢
  rw [Bool.or_eq_true] at h ⊢
  rcases h with h | h
  · exact .inl h
  · refine .inr ?_
    cases ho : ops[x]? with
    | none => rw [ho] at h; cases h
    | some o =>
      rw [ho] at h
      simp only [Array.any_eq_true'] at h ⊢
      obtain ⟨e, he, hq⟩ := h
      refine ⟨e, he, ?_⟩
      simp only [Bool.and_eq_true, Bool.not_eq_true'] at hq ⊢
      obtain ⟨⟨h1, h2⟩, h3⟩ := hq
      refine ⟨⟨h1, ?_⟩, h3⟩
      by_cases Vi : j = e.on
      · rw [← Vi, I_] at h3; cases h3
      · rw [getD_set_ne false Vi]; exact h2
theorem Hm {aK : Array Bool} {i j : Nat} (hr : j ∈ Region.ready .any ops aK) (hi : aK.getD i true = false) : ahead ops Ls (aK.setIfInBounds j true) i ≤ ahead ops Ls aK i := by
  unfold ahead
  rw [← List.countP_eq_length_filter, ← List.countP_eq_length_filter]
  refine List.countP_mono_left fun x _ hx => ?_
  simp only [Bool.and_eq_true, Bool.not_eq_true'] at hx ⊢
  refine ⟨?_, ?_⟩
  · by_cases Pe : j = x
    · subst Pe
      have := hx.1
      rcases Nat.lt_or_ge j aK.size with h | h
      · simp [h] at this
      · simp [Array.getElem?_eq_none h] at this
    · rw [getD_set_ne true Pe] at hx; exact hx.1
  · cases hq : rW ops (fun x => aK.getD x false) x i with
    | false => rfl
    | true => rw [Bc hr hi hq] at hx; exact absurd hx.2 (by decide)
theorem Hn {aK : Array Bool} {i j : Nat} (hr : j ∈ Region.ready .any ops aK) (hi : aK.getD i true = false) (hj : Ls.contains j = true) (Pf : aK.getD j true = false) : ahead ops Ls (aK.setIfInBounds j true) i + 1 ≤ ahead ops Ls aK i := by
  have Wk := Bb hr hi
  unfold ahead
  rw [← List.countP_eq_length_filter, ← List.countP_eq_length_filter]
  have key : ∀ l : List Nat, l.countP (fun x => !(aK.setIfInBounds j true).getD x true && !rW ops (fun y => (aK.setIfInBounds j true).getD y false) x i) ≤ l.countP (fun x => !aK.getD x true && !rW ops (fun y => aK.getD y false) x i) := fun l => by
    refine List.countP_mono_left fun x _ hx => ?_
    simp only [Bool.and_eq_true, Bool.not_eq_true'] at hx ⊢
    refine ⟨?_, ?_⟩
    · by_cases Pe : j = x
      · subst Pe; exact Pf
      · rw [getD_set_ne true Pe] at hx; exact hx.1
    · cases hq : rW ops (fun x => aK.getD x false) x i with
      | false => rfl
      | true => rw [Bc hr hi hq] at hx; exact absurd hx.2 (by decide)
  have Wl : (aK.setIfInBounds j true).getD j true = true := by
    rcases Nat.lt_or_ge j aK.size with h | h
    · simp [h]
    · simp [Array.getElem?_eq_none h]
  induction Ls with
  | nil => simp at hj
  | cons x l ih =>
    rw [List.countP_cons, List.countP_cons]
    by_cases hx : x = j
    · subst hx
      have := key l
      simp only [Wl, Pf, Wk, Bool.not_true, Bool.false_and, Bool.not_false, Bool.and_self, if_true]
      simp only [Bool.false_eq_true, if_false]
      omega
    · have h1 : l.contains j = true := by
        simp only [List.contains_cons, Bool.or_eq_true, beq_iff_eq] at hj
        exact hj.resolve_left (fun e => hx e.symm)
      have := ih h1
      have hm : (if (!(aK.setIfInBounds j true).getD x true && !rW ops (fun y => (aK.setIfInBounds j true).getD y false) x i) = true then 1 else 0) ≤ (if (!aK.getD x true && !rW ops (fun y => aK.getD y false) x i) = true then 1 else 0) := by
        have := key [x]
        simpa [List.countP_cons] using this
      omega
theorem Bd {Q : Act → World → Prop} {i m : Nat} {oi : Oper} {v : Value} (Lv : ∀ p q x, p ≤ q → C p x → C q x) (hi : ops[i]? = some oi) (D9 : Ls.contains i = false) (Pg : ∀ (j : Nat) (o : Oper) cs b, ops[j]? = some o → o.op ≠ .select cs b) :
    ∀ (k p : Nat) (aK : Array Bool) (a : Act) (w : World), C p w → p + ahead ops Ls aK i ≤ m →
      (∀ j oj, ops[j]? = some oj → j ≠ i → aK.getD j true = false → (∀ e ∈ oj.after, Region.binds .any e = true → e.on ≠ i) → oi.apart ops oj = true) →
      i ∈ Region.ready .any ops aK → YC P ops (C m) oi v a →
      Oz P ops Ls C Q k p (aK.setIfInBounds i true) (a.put oi.dst v) w → Oz P ops Ls C Q (k + 1) p aK a w := by
  have Vj : ∀ p, nx Ls p i = p := fun p => by unfold nx; rw [D9]; rfl
  intro k
  induction k with
  | zero =>
    intro p aK a w hw hm _ hr hy H
    refine ⟨fun h => (by rw [h] at hr; cases hr), fun j hj => ?_⟩
    by_cases I_ : j = i
    · subst I_; rw [Vj]; exact hy.op hi (Lv p m w (by omega) hw) ⟨hw, H⟩
    · have := ready_mono hj I_
      rw [H.1] at this
      cases this
  | succ k ih =>
    intro p aK a w hw hm Lw hr hy H
    refine ⟨fun h => (by rw [h] at hr; cases hr), fun j hj => ?_⟩
    by_cases I_ : j = i
    · subst I_; rw [Vj]; exact hy.op hi (Lv p m w (by omega) hw) ⟨hw, H⟩
    · have h1 := H.2 j (ready_mono hj I_)
      obtain ⟨Jx, oj, OA, F_⟩ := mem_ready.1 hj
      have Ju : ∀ e ∈ oj.after, Region.binds .any e = true → e.on ≠ i := fun e he hb heq => by
        have h1 := F_ e he hb
        have h0 := (mem_ready.1 hr).1
        rw [heq] at h1
        rcases Nat.lt_or_ge i aK.size with h' | h'
        · simp [h'] at h0 h1; rw [h0] at h1; cases h1
        · simp [Array.getElem?_eq_none h'] at h1
      have h2 := wpOp_put OA (Lw j oj OA I_ Jx Ju) (fun cs b => Pg i oi cs b hi) (fun cs b => Pg j oj cs b OA) hy h1
      have Mz : ∀ m om, ops[m]? = some om → m ≠ i → (aK.setIfInBounds j true).getD m true = false →
          (∀ e ∈ om.after, Region.binds .any e = true → e.on ≠ i) → oi.apart ops om = true := fun m om hm Wm Pf Q5 => by
        refine Lw m om hm Wm ?_ Q5
        by_cases Vk : j = m
        · subst Vk; exact Jx
        · rw [getD_set_ne true Vk] at Pf; exact Pf
      have Vh : nx Ls p j + ahead ops Ls (aK.setIfInBounds j true) i ≤ m := by
        unfold nx
        split
        · rename_i hc
          have := Hn (ops := ops) (Ls := Ls) hj (mem_ready.1 hr).1 hc Jx
          omega
        · have := Hm (ops := ops) (Ls := Ls) hj (mem_ready.1 hr).1
          omega
      refine wpOp_mono (fun a' w' h3 => ?_) h2
      obtain ⟨Ph, Lx, h4⟩ := h3
      refine ⟨Lx, ih _ (aK.setIfInBounds j true) a' w' Lx Vh Mz (ready_mono hr (Ne.symm I_)) Ph ?_⟩
      rw [Array.setIfInBounds_comm _ _ I_]
      exact h4
def cls : List (World → Prop) → Nat → World → Prop
  | [], _, _ => True
  | c :: _, 0, x => c x
  | _ :: cs, p + 1, x => cls cs p x
def AB : List (World → Prop) → Prop
  | c :: d :: cs => (∀ x, c x → d x) ∧ AB (d :: cs)
  | _ => True
theorem AB.step : ∀ (l : List (World → Prop)) (p : Nat) (x : World), AB l → cls l p x → cls l (p + 1) x
  | [], _, _, _, _ => trivial
  | [_], 0, _, _, _ => trivial
  | [_], _ + 1, _, _, _ => trivial
  | _ :: _ :: _, 0, x, h, hx => h.1 x hx
  | _ :: d :: cs, p + 1, x, h, hx => AB.step (d :: cs) p x h.2 hx
theorem AB.le {l : List (World → Prop)} (h : AB l) : ∀ p q x, p ≤ q → cls l p x → cls l q x := by
  intro p q x Wn hx
  obtain ⟨d, rfl⟩ := Nat.exists_eq_add_of_le Wn
  induction d with
  | zero => exact hx
  | succ d ih => exact AB.step l _ x h (ih (by omega))
inductive MT where
  | nil
  | q (i m : Nat) (r : MT)
  | op (i : Nat) (r : MT)
  | br (i j : Nat) (ri rj : MT)
def MT.depth : MT → Nat
  | .nil => 0
  | .q _ _ r => r.depth + 1
  | .op _ r => r.depth + 1
  | .br _ _ r _ => r.depth + 1
def MT.drop : Nat → MT → MT
  | k + 1, .q _ _ r => r.drop k
  | _, π => π
def uu (ops : Array Oper) (Ls : List Nat) : MT → Nat → Array Bool → Bool
  | .nil, _, aK => (Region.ready .any ops aK).isEmpty
  | .q i m π, p, aK => (Region.ready .any ops aK).contains i && Region.free .any ops aK i && !Ls.contains i && decide (p + ahead ops Ls aK i ≤ m) && uu ops Ls π p (aK.setIfInBounds i true)
  | .op i π, p, aK => Region.ready .any ops aK == [i] && uu ops Ls π (nx Ls p i) (aK.setIfInBounds i true)
  | .br i j ri rj, p, aK => Region.ready .any ops aK == [i, j] && rj.depth == ri.depth && uu ops Ls ri (nx Ls p i) (aK.setIfInBounds i true) && uu ops Ls rj (nx Ls p j) (aK.setIfInBounds j true)
def MX (P : Program) (n : Nat) (ops : Array Oper) (Ls : List Nat) (C : List (World → Prop)) (Q : Act → World → Prop) (π : MT) (p : Nat) (aK : Array Bool) (L : List En) (w : World) : Prop :=
  Region.noSelect ops = true → AB C → uu ops Ls π p aK = true → cls C p w → ∀ a, Fu n a L → Oz P ops Ls (cls C) Q π.depth p aK a w
variable {C : List (World → Prop)}
theorem ct {n p : Nat} {Q : Act → World → Prop} {aK : Array Bool} {L : St} {w : World} (h : At n Q L w) : MX P n ops Ls C Q .nil p aK (Kn L) w :=
  fun _ _ hB _ a ha => ⟨by simpa [uu] using hB, h a ha⟩
def Ga (ops : Array Oper) (m : Nat) : Nat → MT → Option (List Oper)
  | 0, _ => some []
  | k + 1, .q i m' r => if m' = m then match ops[i]?, Ga ops m k r with
    | some o, some l => some (o :: l)
    | _, _ => none else none
  | _ + 1, _ => none
theorem Gc {n p m : Nat} {Q : Act → World → Prop} {ss : List Nat} {w : World} {L' : List En} : ∀ (k : Nat) (π : MT) (l : List Oper) (aK : Array Bool) (L : List En) (os os' : List SV) (cs : List jP),
    Ga ops m k π = some l → A_ P n ops ss l L os = some (L', cs, os') → (∀ w, cls C m w → ∀ c ∈ cs, c w) → (∀ mW, MX P n ops Ls C Q (π.drop k) p mW L' w) → MX P n ops Ls C Q π p aK L w := by
  intro k
  induction k with
  | zero =>
    intro π l aK L os os' cs hq h hc hk
    simp only [Ga, Option.some.injEq] at hq
    subst hq
    simp only [A_, Option.some.injEq, Prod.mk.injEq] at h
    obtain ⟨rfl, rfl, rfl⟩ := h
    have e : π.drop 0 = π := by cases π <;> rfl
    rw [e] at hk
    exact hk aK
  | succ k ih =>
    intro π l aK L os os' cs hq h hc hk
    cases π with
    | q i m' π =>
      simp only [Ga] at hq
      split at hq
      · rename_i QT
        subst QT
        split at hq
        · rename_i o l' ho G4
          simp only [Option.some.injEq] at hq
          subst hq
          simp only [A_] at h
          split at h
          · rename_i L1 c1 CQ h1
            split at h
            · rename_i L2 c2 Ox h2
              simp only [Option.some.injEq, Prod.mk.injEq] at h
              obtain ⟨rfl, rfl, rfl⟩ := h
              intro E5 C6 hB hw a ha
              simp only [uu, Bool.and_eq_true, decide_eq_true_eq, Bool.not_eq_true'] at hB
              obtain ⟨⟨⟨⟨hr, hf⟩, Vl⟩, Vm⟩, hB⟩ := hB
              have Ly := ih π l' (aK.setIfInBounds i true) L1 CQ _ c2 G4 h2 (fun w hw c yZ => hc w hw c (List.mem_append_right _ yZ)) hk E5 C6 hB hw
              rcases xX ha h1 with ⟨RR, v, lP, G5⟩ | ⟨RR, G5⟩
              · exact Bd C6.le ho Vl (Region.noSelect_spec E5) _ p aK a w hw Vm (Region.free_spec ho hf) (by simpa using hr) (.inl ⟨RR, fun w' Lx => lP w' fun c yZ => hc w' Lx c (List.mem_append_left _ yZ)⟩) (Ly _ G5)
              · exact Bd C6.le ho Vl (Region.noSelect_spec E5) _ p aK a w hw Vm (Region.free_spec ho hf) (by simpa using hr) (.inr ⟨RR, rfl⟩) (Ly _ G5)
            · cases h
          · cases h
        · cases hq
      · cases hq
    | _ => cases hq
theorem RS {n p : Nat} {Q : Act → World → Prop} {w : World} {π : MT} {aK : Array Bool} {L : St} (k m : Nat) (ss : List Nat) (os : List SV) (L' : St) (cs : List jP)
    (hs : ((Ga ops m k π).bind fun l => A_ P n ops ss l (Kn L) os).map (fun r => (L'.map fun e => (look r.1 e.1).map fun e => (e.g, e.x.val), r.2.1, r.2.2)) = some (L'.map fun p => some (none, p.2.val), cs, []))
    (hc : ∀ w, cls C m w → Jo cs w) (h : ∀ mW, MX P n ops Ls C Q (π.drop k) p mW (Kn L') w) : MX P n ops Ls C Q π p aK (Kn L) w := by
  rw [Option.map_bind] at hs
  simp only [Option.bind_eq_some_iff] at hs
  obtain ⟨l, hl, hs⟩ := hs
  obtain ⟨Lc, he, hk⟩ := Mg.sG (P := P) (n := n) (ops := ops) (ss := ss) (l := l) (L := L) (os := os) (L' := L') (cs := cs) hs
  refine Gc k π l aK (Kn L) os [] cs hl he (fun w hw => xj (hc w hw)) fun mW => ?_
  intro E5 C6 hB hw a ha
  exact h mW E5 C6 hB hw a (hk a ha)
theorem bZ {n p : Nat} {Q : Act → World → Prop} {w : World} {π : MT} {aK : Array Bool} {L : St} {i : Nat} {o : Oper} (hl : Ls.contains i = true) (ho : ops[i]? = some o)
    (h : wa P n ops L w o fun L' w' => cls C (p + 1) w' ∧ ∀ mW, MX P n ops Ls C Q π (p + 1) mW (Kn L') w') : MX P n ops Ls C Q (.op i π) p aK (Kn L) w := by
  intro E5 C6 hB hw a ha
  have Lz : nx Ls p i = p + 1 := by unfold nx; rw [if_pos hl]
  simp only [uu, Bool.and_eq_true, beq_iff_eq, Lz] at hB
  obtain ⟨hr, hB⟩ := hB
  obtain ⟨h1, h2⟩ := h a ha
  refine ⟨fun h0 => (by rw [h0] at hr; cases hr), fun j hj => ?_⟩
  rw [hr] at hj
  simp only [List.mem_singleton] at hj
  subst hj
  unfold wpOp
  simp only [ho, Lz]
  rw [if_pos h1]
  refine .inl (Oper.wp_mono ?_ h2)
  rintro a' w' ⟨L', hf, hc, hk⟩
  exact ⟨hc, hk _ E5 C6 hB hc a' hf⟩
theorem LA {n p : Nat} {Q : Act → World → Prop} {w : World} {πi πj : MT} {aK : Array Bool} {L : St} {i j : Nat} {oi oj : Oper} (Wo : Ls.contains i = true) (Wp : Ls.contains j = true) (hi : ops[i]? = some oi) (hj : ops[j]? = some oj)
    (h : wa P n ops L w oi fun L' w' => cls C (p + 1) w' ∧ ∀ mW, MX P n ops Ls C Q πi (p + 1) mW (Kn L') w')
    (h' : wa P n ops L w oj fun L' w' => cls C (p + 1) w' ∧ ∀ mW, MX P n ops Ls C Q πj (p + 1) mW (Kn L') w') : MX P n ops Ls C Q (.br i j πi πj) p aK (Kn L) w := by
  intro E5 C6 hB hw a ha
  have Lz : nx Ls p i = p + 1 := by unfold nx; rw [if_pos Wo]
  have Pj : nx Ls p j = p + 1 := by unfold nx; rw [if_pos Wp]
  simp only [uu, Bool.and_eq_true, beq_iff_eq, Lz, Pj] at hB
  obtain ⟨⟨⟨hr, hd⟩, Wq⟩, Wr⟩ := hB
  refine ⟨fun h0 => (by rw [h0] at hr; cases hr), fun k hk => ?_⟩
  rw [hr] at hk
  simp only [List.mem_cons, List.not_mem_nil, or_false] at hk
  rcases hk with rfl | rfl
  · obtain ⟨h1, h2⟩ := h a ha
    unfold wpOp
    simp only [hi, Lz]
    rw [if_pos h1]
    refine .inl (Oper.wp_mono ?_ h2)
    rintro a' w' ⟨L', hf, hc, hk⟩
    exact ⟨hc, hk _ E5 C6 Wq hc a' hf⟩
  · obtain ⟨h1, h2⟩ := h' a ha
    unfold wpOp
    simp only [hj, Pj]
    rw [if_pos h1]
    refine .inl (Oper.wp_mono ?_ h2)
    rintro a' w' ⟨L', hf, hc, hk⟩
    have := hk _ E5 C6 Wr hc a' hf
    rw [hd] at this
    exact ⟨hc, this⟩
theorem Pk {n : Nat} {id : Nat} {l : List Oper} {Q : Exit → Act → World → Prop} {L : St} {w : World} (hm : P.follows .mixedOrders = true) (π : MT) (Ls : List Nat) (C : List (World → Prop))
    (hB : (Region.noSelect l.toArray, uu l.toArray Ls π 0 (Array.replicate l.length false), π.depth == l.length) = (true, true, true)) (C6 : AB C) (hC : cls C 0 (w.drewN 1)) (h : ∀ aK, MX P n l.toArray Ls C (Q .normal) π 0 aK (Kn L) (w.drewN 1)) :
    W P n (.region id l.toArray true) Q L w := by
  intro a ha
  simp only [Prod.mk.injEq, beq_iff_eq] at hB
  obtain ⟨h1, h2, h3⟩ := hB
  refine wp_region_any hm ?_
  have := h (Array.replicate l.length false) h1 C6 h2 hC a ha
  rw [h3] at this
  exact zL (fun _ _ hq => hq) _ _ _ _ _ (by rw [show l.toArray.size = l.length from by simp]; exact this)
end
end Go.Sx
namespace Go.Sx
open Go.RowKit
set_option linter.unusedSimpArgs false
set_option linter.unusedVariables false
variable {α β : Type}
instance {n : Nat} [Inhabited α] : Inhabited (ae α n) := ⟨ae.rep n default⟩
def ae.of [Inhabited α] (n : Nat) (l : List α) : ae α n := if h : l.length = n then ⟨l, h⟩ else ae.rep n default
theorem ae.Pl [Inhabited α] {n : Nat} {l : List α} (h : l.length = n) : (ae.of n l).l = l := by
  unfold ae.of
  rw [dif_pos h]
def Jy (xs : List α) (l : Int) (z : α) (b : Nat) : Option (List α) := if 0 ≤ l ∧ (xs.length + l.toNat) * b ≤ 140737488355328 then some (xs ++ List.replicate l.toNat z) else none
theorem Gd {xs ys : List α} {l : Int} {z : α} {b : Nat} (h : Jy xs l z b = some ys) : 0 ≤ l ∧ (xs.length + l.toNat) * b ≤ 140737488355328 ∧ ys = xs ++ List.replicate l.toNat z := by
  unfold Jy at h
  split at h
  · rename_i hc
    simp only [Option.some.injEq] at h
    exact ⟨hc.1, hc.2, h.symm⟩
  · cases h
abbrev SV.ar (E : eG α) {n : Nat} (x : ae α n) : SV := .vec (n * E.sz) (E.vec x)
section
variable {P : Program} {n : Nat} {Q : Exit → Act → World → Prop} {ops : Array Oper} {L : St} {w w0 : World} {F O : Nat → Prop} {hs : List HP} {K : St → World → Prop}
theorem Ho {x : Code} (K : St → World → Prop) (h1 : W P n x (Exit.then (fun a w => ∃ L, Fu n a (Kn L) ∧ K L w) Q) L w) (h2 : ∀ L w, K L w → At n (Q .normal) L w) : W P n x Q L w := by
  intro a ha
  refine wp_mono (h1 a ha) ?_
  intro e a' w' hq
  cases e with
  | normal => obtain ⟨L', hf, hk⟩ := hq; exact h2 L' w' hk a' hf
  | _ => exact hq
theorem Ro.Ge (E : eG α) : Ro F w none (E.all ([] : List α)) := Ro.nil (A := none)
theorem Src.sl {E : eG α} {A : Option Addr} {xs : List α} {m c sz : Nat} (h : Rd w A (E.all xs)) (hn : xs.length = m) (hs : E.sz = sz) : Src P sz w (.slice A m c) m (E.all xs) :=
  Src.slice h (by rw [eG.db, hn, hs])
theorem y7 {xs ys : List α} {lo hi : Int} (h : x5 xs lo hi = some ys) (h0 : lo = 0) : ys = xs.take ys.length := by
  obtain ⟨h1, h2, h3, h4⟩ := hP h
  have hl := kU h
  rw [hl]
  subst h0
  rw [h4]
  simp
theorem LB {E : eG α} {m : Nat} {x : ae α m} {i : Int} {y : α} {v : Value} (h : aN x.l i = some y) (hv : (E.f y)[0]? = some v) : (0 ≤ i ∧ i < ((m : Nat) : Int)) ∧ (SV.cl [SV.ar E x])[i.toNat * E.sz]? = some v := by
  have h1 := kE h
  rw [x.h] at h1
  refine ⟨h1, ?_⟩
  rw [n9]
  have := E.C2 (eC h).2 hv
  simp only [SV.cl, List.append_nil]
  show (E.all x.l)[i.toNat * E.sz]? = some v
  simpa using this
theorem MA {E : eG α} {m : Nat} {x : ae α m} {i : Int} {y : α} {vs : List Value} (h : aN x.l i = some y) (hv : E.f y = vs) : (0 ≤ i ∧ i < ((m : Nat) : Int)) ∧ ((SV.cl [SV.ar E x]).drop (i.toNat * E.sz)).take E.sz = vs := by
  have h1 := kE h
  rw [x.h] at h1
  refine ⟨h1, ?_⟩
  rw [n9, ← hv]
  simp only [SV.cl, List.append_nil]
  exact E.BW (eC h).2
theorem MB {fn : Func} {R : Ending → World → Prop} (os : List SV) (xs : List SV) (cs : List jP) (hr : zB P fn.results.toList L os = some (xs, cs, [])) (hc : Jo cs w) (h : R (.returned (C1 xs).val) w) : At n (bodyPost P fn R .normal) L w :=
  G9 (P := P) (fn := fn) os xs cs hr hc h
theorem LC {E : eG α} {m : Nat} (x : ae α m) : SV.cl [SV.ar E x] = (eV E m).f x := by
  rw [n9]
  show E.all x.l ++ [] = E.all x.l
  rw [List.append_nil]
theorem Rd.Wt {w : World} {A p : Option Addr} {E : eG α} {m : Nat} {xs : List (ae α m)} {i : Int} {x : ae α m} (h : Rd w A ((eV E m).all xs)) (hg : aN xs i = some x) (hp : Pt A (i.toNat * (eV E m).sz + 0) p) (hm : 0 < (eV E m).sz) : ∃ a, p = some a ∧ Rd w (some a) (SV.cl [SV.ar E x]) := by
  rw [LC]
  refine h.Vf hg hp ?_ hm (by omega)
  rw [List.drop_zero]
  have := (eV E m).len x
  rw [← this, List.take_length]
theorem Hp {E : eG α} {k m : Nat} {x : ae (ae α k) m} {i : Int} {y : ae α k} (h : aN x.l i = some y) : (0 ≤ i ∧ i < ((m : Nat) : Int)) ∧ ((SV.cl [SV.ar (eV E k) x]).drop (i.toNat * (eV E k).sz)).take (eV E k).sz = SV.cl [SV.ar E y] :=
  MA h (LC y).symm
theorem Cx.OB {t : TypeId} {g : Nat} {ys : List SV} (k : Cx F O w0 w hs) (i : Nat) (hi : hs[i]? = some (Bx t g ys)) (off : Nat) (v : SV) (h : (CT off ys).map SV.val = some v.val) : ∃ a, some (⟨g, off, none⟩ : Addr) = some a ∧ w.cell? a = some v.val := by
  simp only [Option.map_eq_some_iff] at h
  obtain ⟨x, hx, he⟩ := h
  rw [← he]
  exact (k.uq i hi).Lm (Pt.at g off) (zm hx).1
theorem Cx.RT {t : TypeId} {g : Nat} {ys : List SV} (k : Cx F O w0 w hs) (i : Nat) (hi : hs[i]? = some (Bx t g ys)) (off m : Nat) (zs : List SV) (h : (zn off m ys).map SV.cl = some (SV.cl zs)) (hm : 0 < m) : ∃ a, some (⟨g, off, none⟩ : Addr) = some a ∧ Rd w (some a) (SV.cl zs) := by
  simp only [Option.map_eq_some_iff] at h
  obtain ⟨x, hx, he⟩ := h
  obtain ⟨e1, e2, e3⟩ := yH hx
  rw [← he, ← e1]
  exact (k.uq i hi).Ln (Pt.at g off) (by rw [dP]; exact e3) hm
theorem Jz {ty t : TypeId} {p x : Operand} {pos : String} {me : Array Edge} {g : Option (Nat × Bool)} (ss : List Nat) (i : Nat) {pa : Option Addr} {sv : SV} {svs : List SV} {bt : TypeId} {b : Nat} {ys : List SV} (zs : List SV) {off : Nat}
    (f_ : (w8 ops ss L (⟨none, .store t p x, ty, pos, me, g⟩ : Oper), (none : Option Nat), (toSS [p, x] (lk L)).map SV.ad, qG P t, qg sv, svs.all SV.Ax) = (true, none, some [.pointer pa, sv.val], some (SV.width svs), some svs, true))
    (hp : Pt (some ⟨b, 0, none⟩) off pa) (k : Cx F O w0 w hs) (hi : hs[i]? = some (Bx bt b ys)) (hz : (GQ off (SV.width svs) svs ys).map SV.cl = some (SV.cl zs))
    (hk : ∀ w', Cx F O w0 w' (hs.set i (Bx bt b zs)) → K L w') :
    wa P n ops L w ⟨none, .store t p x, ty, pos, me, g⟩ K := by
  simp only [Option.map_eq_some_iff] at hz
  obtain ⟨X4, Ma, he⟩ := hz
  obtain ⟨e1, e2, e3, e4⟩ := AW Ma
  refine Hg ss i zs f_ hp k hi ?_ e4 hk
  rw [← he, e1]
  unfold pat
  rw [dP]
end
end Go.Sx
namespace Go.Sx
open Go.RowKit
set_option linter.unusedSimpArgs false
set_option linter.unusedVariables false
inductive Bl : St → St → Prop
  | a {l} : Bl l l
  | z {l} : Bl l []
  | k {x l l'} : Bl l l' → Bl (x :: l) (x :: l')
  | s {x l l'} : Bl l l' → Bl (x :: l) l'
  | n {l l'} (i : Nat) (v : SV) : Bl l l' → Bl l ((i, v) :: l')
theorem Bl.kk {x y l l'} (h : Bl l l') : Bl (x :: y :: l) (x :: y :: l') := .k (.k h)
theorem Bl.ua {x y z l l'} (h : Bl l l') : Bl (x :: y :: z :: l) (x :: y :: z :: l') := .k (.kk h)
theorem Bl.aP {x y z u l l'} (h : Bl l l') : Bl (x :: y :: z :: u :: l) (x :: y :: z :: u :: l') := .kk (.kk h)
theorem Bl.ss {x y l l'} (h : Bl l l') : Bl (x :: y :: l) l' := .s (.s h)
theorem Bl.lj {x y z l l'} (h : Bl l l') : Bl (x :: y :: z :: l) l' := .s (.ss h)
theorem Bl.fQ {x y z u l l'} (h : Bl l l') : Bl (x :: y :: z :: u :: l) l' := .ss (.ss h)
section
variable {α β σ ρ : Type} {P : Program} {n : Nat} {Q : Exit → Act → World → Prop} {ops : Array Oper} {L L' : St} {w w0 : World} {os : List SV} {cs : List jP} {F O : Nat → Prop} {hs : List HP}
structure Ask (os : List SV) (cs : List jP) (w : World) : Prop where
  h : Jo cs w
def dp (p : Prop) : jP := fun _ => p
def dS (A : Option Addr) : jP := fun _ => A.isSome = true
def dI (i : Int) (n : Nat) (A : Option Addr) : jP := fun _ => 0 ≤ i ∧ i < (n : Int) ∧ A.isSome = true
def dC (p : Option Addr) (v : SV) : jP := fun w => ∃ a, p = some a ∧ w.cell? a = some v.val
def dR (p : Option Addr) (cs : List SV) : jP := fun w => ∃ a, p = some a ∧ Rd w (some a) (SV.cl cs)
theorem qe : Ask [] [] w := ⟨trivial⟩
theorem qo (v : SV) (r : Ask os cs w) : Ask (v :: os) cs w := ⟨r.h⟩
theorem qc (c : jP) (p : c w) (r : Ask os cs w) : Ask os (c :: cs) w := ⟨p, r.h⟩
theorem qp (p : Prop) (h : p) (r : Ask os cs w) : Ask os (dp p :: cs) w := ⟨h, r.h⟩
theorem qs (g off : Nat) (r : Ask os cs w) : Ask os (dS (some ⟨g, off, none⟩) :: cs) w := ⟨rfl, r.h⟩
theorem qS {A : Option Addr} (h : A.isSome = true) (r : Ask os cs w) : Ask os (dS A :: cs) w := ⟨h, r.h⟩
theorem qI {m : Nat} {v : ae α m} {i : Int} {x : α} (g off : Nat) (h : aN v.l i = some x) (r : Ask os cs w) : Ask os (dI i m (some ⟨g, off, none⟩) :: cs) w :=
  ⟨⟨(kE h).1, by have := (kE h).2; have := v.h; omega, rfl⟩, r.h⟩
class Pos (E : eG α) : Prop where h : 0 < E.sz
instance : Pos e8 := ⟨by decide⟩
instance : Pos V3 := ⟨by decide⟩
instance : Pos du := ⟨by decide⟩
instance : Pos cj := ⟨by decide⟩
instance : Pos eI := ⟨by decide⟩
instance : Pos eS := ⟨by decide⟩
instance : Pos eB := ⟨by decide⟩
instance {a : eG α} {b : eG β} [h : Pos a] : Pos (eP a b) := ⟨Nat.lt_of_lt_of_le h.h (Nat.le_add_right _ _)⟩
instance {E : eG α} {m : Nat} [h : Pos E] : Pos (eV E (m + 1)) := ⟨Nat.mul_pos (Nat.succ_pos m) h.h⟩
theorem qJ {E : eG α} [he : Pos E] {A : Option Addr} {xs : List α} {i : Int} {x : α} {m : Nat} (rd : Rd w A (E.all xs)) (h : aN xs i = some x) (hl : xs.length = m) (r : Ask os cs w) : Ask os (dI i m A :: cs) w :=
  ⟨rd.ix h hl he.h, r.h⟩
theorem qC {p : Option Addr} (v : SV) (h : ∃ a, p = some a ∧ w.cell? a = some v.val) (r : Ask os cs w) : Ask (v :: os) (dC p v :: cs) w := ⟨h, r.h⟩
theorem qR {p : Option Addr} (zs : List SV) (h : ∃ a, p = some a ∧ Rd w (some a) (SV.cl zs)) (r : Ask os cs w) : Ask (.agg zs :: os) (dR p zs :: cs) w := ⟨h, r.h⟩
theorem qB {t : TypeId} {g : Nat} {ys : List SV} (k : Cx F O w0 w hs) (i : Nat) (hi : hs[i]? = some (Bx t g ys)) (off : Nat) (v : SV) (h : (CT off ys).map SV.val = some v.val) (r : Ask os cs w) : Ask (v :: os) (dC (some ⟨g, off, none⟩) v :: cs) w := ⟨k.OB i hi off v h, r.h⟩
theorem Cx.nE {t : TypeId} {g m : Nat} {ys : List SV} (k : Cx F O w0 w hs) (i : Nat) (hi : hs[i]? = some (Bx t g ys)) (E : eG α) (x : ae α m) (off : Nat) (hd : ((sB off ys).bind List.head?).map (fun v => (v.xb, v.val)) = some (true, .agg ⟨E.all x.l⟩)) : Rd w (some ⟨g, off, none⟩) (E.all x.l) := (k.uq i hi).vec hd
theorem qV {E : eG α} {A : Option Addr} {m : Nat} {xs : ae α m} {i : Int} {x : α} (rd : Rd w A (E.all xs.l)) (h : aN xs.l i = some x) (hA : A.isSome = true) (s : SV) (hs : E.f x = [s.val]) (r : Ask os cs w) : Ask (s :: os) (dI i m A :: dC (nv A i E.sz) s :: cs) w :=
  ⟨⟨(kE h).1, by have := (kE h).2; have := xs.h; omega, hA⟩, rd.el h (k := 0) (Pt.x6 A i E.sz) (by rw [hs]; rfl), r.h⟩
theorem qW {E : eG α} [he : Pos E] {A : Option Addr} {xs : List α} {i : Int} {x : α} {m : Nat} (rd : Rd w A (E.all xs)) (h : aN xs i = some x) (hl : xs.length = m) (s : SV) (hs : E.f x = [s.val]) (r : Ask os cs w) : Ask (s :: os) (dI i m A :: dC (nv A i E.sz) s :: cs) w :=
  ⟨rd.ix h hl he.h, rd.el h (k := 0) (Pt.x6 A i E.sz) (by rw [hs]; rfl), r.h⟩
theorem qX {xs : List UInt8} {i : Int} {y : UInt8} (h : aN xs i = some y) (r : Ask os cs w) : Ask (.u8 y :: os) (dp (0 ≤ i ∧ xs[i.toNat]? = some y) :: cs) w := ⟨eC h, r.h⟩
theorem qT {t : TypeId} {g : Nat} {ys : List SV} (k : Cx F O w0 w hs) (i : Nat) (hi : hs[i]? = some (Bx t g ys)) (off m : Nat) (zs : List SV) (h : (zn off m ys).map SV.cl = some (SV.cl zs)) (hm : 0 < m) (r : Ask os cs w) : Ask (.agg zs :: os) (dR (some ⟨g, off, none⟩) zs :: cs) w := ⟨k.RT i hi off m zs h hm, r.h⟩
theorem bn {l : List Oper} (k : Nat) (ss : List Nat) (b : Bl L L') (q : Ask os cs w) (hs : (A_ P n ops ss (l.take k) (Kn L) os).map (fun r => (L'.map fun e => (look r.1 e.1).map fun e => (e.g, e.x.val), r.2.1, r.2.2)) = some (L'.map fun p => some (none, p.2.val), cs, [])) (h : WL P n ops Q (l.drop k) L' w) : WL P n ops Q l L w := Mh k ss os L' cs hs q.h h
theorem bA {id : Nat} {l : List Oper} (ss : List Nat) (b : Bl L L') (q : Ask os cs w) (hs : (A_ P n l.toArray ss l (Kn L) os).map (fun r => (L'.map fun e => (look r.1 e.1).map fun e => (e.g, e.x.val), r.2.1, r.2.2)) = some (L'.map fun p => some (none, p.2.val), cs, [])) (h : At n (Q .normal) L' w) : W P n (.region id l.toArray false) Q L w := Jp ss os L' cs hs q.h h
theorem GK {id : Nat} {l : List Oper} (hm : P.follows .mixedOrders = true) (hB : Region.lexB .any l.toArray = true) (b : Bl L L') (q : ∀ m, Ask os cs (w.drewN m)) (hs : (A_ P n l.toArray [] l (Kn L) os).map (fun r => (L'.map fun e => (look r.1 e.1).map fun e => (e.g, e.x.val), r.2.1, r.2.2)) = some (L'.map fun p => some (none, p.2.val), cs, [])) (h : ∀ m, At n (Q .normal) L' (w.drewN m)) : W P n (.region id l.toArray true) Q L w := Mi hm os L' cs hB hs (fun m => (q m).h) h
theorem bx {p : Nat} {Ls : List Nat} {C : List (World → Prop)} {Q : Act → World → Prop} {π : MT} {aK : Array Bool} (k m : Nat) (ss : List Nat) (b : Bl L L') (q : ∀ w, cls C m w → Ask os cs w)
    (hs : ((Ga ops m k π).bind fun l => A_ P n ops ss l (Kn L) os).map (fun r => (L'.map fun e => (look r.1 e.1).map fun e => (e.g, e.x.val), r.2.1, r.2.2)) = some (L'.map fun p => some (none, p.2.val), cs, [])) (h : ∀ mW, MX P n ops Ls C Q (π.drop k) p mW (Kn L') w) : MX P n ops Ls C Q π p aK (Kn L) w := RS k m ss os L' cs hs (fun w hw => (q w hw).h) h
theorem iy {Q : Exit → Act → World → Prop} {K : St → World → Prop} (h : K L' w) (hk : L'.map (fun p => (find L p.1).map SV.val) = L'.map (fun p => some p.2.val)) : At n (Exit.then (fun a w => ∃ L, Fu n a (Kn L) ∧ K L w) Q .normal) L w := vi L' hk (Mj h)
theorem jR {Q : Exit → Act → World → Prop} {rel : σ → St → World → Prop} {y : σ ⊕ ρ} (s' : σ) (hy : y = .inl s') (h : rel s' L' w) (hk : L'.map (fun p => (find L p.1).map SV.val) = L'.map (fun p => some p.2.val)) : At n (Exit.then (fun a w => ∃ s' L', y = .inl s' ∧ Fu n a (Kn L') ∧ rel s' L' w) Q .normal) L w := vi L' hk (Ha s' hy h)
theorem pc {c : Code} (step : σ → Option (σ ⊕ ρ)) (rel : σ → St → World → Prop) (s0 : σ) (r : ρ) (hm : bO step s0 = some r) (h0 : rel s0 L' w0) (hk : L'.map (fun p => (find L p.1).map SV.val) = L'.map (fun p => some p.2.val))
    (hb : ∀ s L w y, rel s L w → step s = some y → (∀ r', y = .inr r' → r' = r) → W P n c (Exit.then (fun a w => ∃ s' L', y = .inl s' ∧ Fu n a (Kn L') ∧ rel s' L' w) Q) L w) : W P n (.loop c) Q L w0 := G7 L' hk (Mk step rel s0 r hm h0 hb)
theorem aM {fn : Func} {R : Ending → World → Prop} (xs : List SV) (q : Ask os cs w) (hr : zB P fn.results.toList L os = some (xs, cs, [])) (h : R (.returned (C1 xs).val) w) : At n (bodyPost P fn R .ret) L w := G9 os xs cs hr q.h h
theorem pJ {fn : Func} {R : Ending → World → Prop} (xs : List SV) (q : Ask os cs w) (hr : zB P fn.results.toList L os = some (xs, cs, [])) (h : R (.returned (C1 xs).val) w) : At n (bodyPost P fn R .normal) L w := MB os xs cs hr q.h h
theorem my {l : List Oper} (k : Nat) (c : Bool) (b : Bl L L') (hk : ((k, SV.b c) :: L').map (fun p => (find L p.1).map SV.val) = ((k, SV.b c) :: L').map (fun p => some p.2.val))
    (h1 : c = true → WL P n ops Q l ((k, .b true) :: L') w) (h2 : c = false → WL P n ops Q l ((k, .b false) :: L') w) : WL P n ops Q l L w := by
  have key : WL P n ops Q l ((k, SV.b c) :: L') w → WL P n ops Q l L w := fun h => vi (q := fun a w => wpList P ops Q l a w) ((k, SV.b c) :: L') hk h
  cases c with
  | true => exact key (h1 rfl)
  | false => exact key (h2 rfl)
theorem ob {a : Option α} {f : α → Option β} {r : β} (h : a.bind f = some r) : ∃ x, a = some x ∧ f x = some r := Option.bind_eq_some_iff.1 h
theorem nm {a : α} {f : α → Option β} {r : β} (h : (some a).bind f = some r) : ∃ x, a = x ∧ f x = some r := ⟨a, rfl, h⟩
inductive Au {β : Type} : List β → List β → Prop
  | e : Au [] []
  | z {l} : Au l []
  | k {x l l'} : Au l l' → Au (x :: l) (x :: l')
  | s {x l l'} : Au l l' → Au (x :: l) l'
theorem Au.kk {β : Type} {x y : β} {l l'} (h : Au l l') : Au (x :: y :: l) (x :: y :: l') := .k (.k h)
theorem Au.aP {β : Type} {x y z u : β} {l l'} (h : Au l l') : Au (x :: y :: z :: u :: l) (x :: y :: z :: u :: l') := .kk (.kk h)
theorem Au.ss {β : Type} {x y : β} {l l'} (h : Au l l') : Au (x :: y :: l) l' := .s (.s h)
theorem Au.fQ {β : Type} {x y z u : β} {l l'} (h : Au l l') : Au (x :: y :: z :: u :: l) l' := .ss (.ss h)
inductive Gf {β : Type} : List β → β → List β → Prop
  | h {x l} : Gf (x :: l) x l
  | t {x y l l'} : Gf l x l' → Gf (y :: l) x (y :: l')
inductive yO {β : Type} : List β → List β → List β → Prop
  | e : yO [] [] []
  | i {x l a b} : yO l a b → yO (x :: l) (x :: a) b
  | r {x l a b} : yO l a b → yO (x :: l) a (x :: b)
inductive App {β : Type} : List β → List β → List β → Prop
  | n {l} : App [] l l
  | c {x a b l} : App a b l → App (x :: a) b (x :: l)
theorem App.eq {β : Type} {a b l : List β} (h : App a b l) : l = a ++ b := by induction h <;> simp_all
theorem yO.perm {β : Type} {l a b : List β} (h : yO l a b) : l.Perm (a ++ b) := by
  induction h with
  | e => exact .nil
  | i _ ih => exact .cons _ ih
  | r _ ih => exact (List.Perm.cons _ ih).trans (List.perm_middle.symm)
theorem Gf.perm {β : Type} {x : β} {l l' : List β} (h : Gf l x l') : l.Perm (x :: l') := by
  induction h with
  | h => exact .refl _
  | t _ ih => exact (List.Perm.cons _ ih).trans (.swap _ _ _)
theorem Sep.perm {w : World} {a b : List HP} (h : a.Perm b) : ∀ {U V : Nat → Prop}, Sep w a U V → Sep w b U V := by
  induction h with
  | nil => exact fun h => h
  | cons x _ ih =>
    rintro U V ⟨S, R, U', V', h1, h2, h3⟩
    exact ⟨S, R, U', V', h1, ih h2, h3⟩
  | swap x y l =>
    intro U V h
    exact Sep.cut (i := 1) (h := x) rfl h
  | trans _ _ Wu Wv => exact fun h => Wv (Wu h)
theorem Cx.perm {a b : List HP} (k : Cx F O w0 w a) (h : a.Perm b) : Cx F O w0 w b := by
  obtain ⟨U, V, h1, h2, h3⟩ := k.sep
  exact ⟨k.os, k.tape, k.output, k.size, k.block, k.fin, k.F7, U, V, Sep.perm h h1, h2, h3⟩
theorem Cx.tl {x : HP} (k : Cx F O w0 w (x :: hs)) : Cx F O w0 w hs := k.drop 0
theorem Au.sub {a b : List HP} (h : Au a b) : ∃ c, a.Perm (c ++ b) := by
  induction h with
  | e => exact ⟨[], .refl _⟩
  | z => rename_i l; exact ⟨l, by rw [List.append_nil]⟩
  | k _ ih => obtain ⟨c, hc⟩ := ih; exact ⟨c, (List.Perm.cons _ hc).trans List.perm_middle.symm⟩
  | s _ ih => rename_i x _ _ _; obtain ⟨c, hc⟩ := ih; exact ⟨x :: c, .cons _ hc⟩
theorem Cx.Pm {a b : List HP} (k : Cx F O w0 w (a ++ b)) : Cx F O w0 w b := by
  induction a with
  | nil => exact k
  | cons x l ih => exact ih k.tl
theorem Cx.ck {I7 : List HP} (k : Cx F O w0 w hs) (h : Au hs I7) : Cx F O w0 w I7 := by
  obtain ⟨c, hc⟩ := h.sub
  exact (k.perm hc).Pm
theorem Cx.pk {x : HP} {I7 : List HP} (k : Cx F O w0 w hs) (h : Gf hs x I7) : Cx F O w0 w (x :: I7) := k.perm h.perm
theorem Cx.go {ins rest : List HP} (k : Cx F O w0 w hs) (p : yO hs ins rest) : ∃ F1 O1 : Nat → Prop, Cx F1 O1 w w ins ∧ (∀ b, O b → O1 b) ∧ (∀ (i : Nat) (h : HP), rest[i]? = some h → ∃ S R, h.p w S R ∧ (∀ b, R b → O1 b) ∧ ∀ b, S b → ¬ F1 b) ∧ (∀ b, F1 b → F b ∨ w0.heap.size ≤ b) ∧
    ∀ w' outs all, Cx F1 O1 w w' outs → App outs rest all → Cx F O w0 w' all := by
  obtain ⟨F1, O1, h1, h2, h3, h4, h5⟩ := (k.perm p.perm).enter
  exact ⟨F1, O1, h1, h2, h3, h4, fun w' outs all hk ha => ha.eq ▸ h5 w' outs hk⟩
inductive zM (F O : Nat → Prop) (w0 : World) : List HP → List (World → Prop) → Prop
  | l {h : List HP} : zM F O w0 h [fun x => Cx F O w0 x h]
  | c {h h' : List HP} {C : List (World → Prop)} : Au h h' → zM F O w0 h' C → zM F O w0 h ((fun x => Cx F O w0 x h) :: C)
theorem zM.spec {hs : List HP} {C : List (World → Prop)} (h : zM F O w0 hs C) : AB C ∧ ∀ w, cls C 0 w ↔ Cx F O w0 w hs := by
  induction h with
  | l => exact ⟨trivial, fun w => Iff.rfl⟩
  | c h1 hc ih =>
    cases hc with
    | l => exact ⟨⟨fun x hx => Cx.ck hx h1, trivial⟩, fun w => Iff.rfl⟩
    | c h2 h3 => exact ⟨⟨fun x hx => Cx.ck hx h1, ih.1⟩, fun w => Iff.rfl⟩
theorem qy {id : Nat} {l : List Oper} {C : List (World → Prop)} (hm : P.follows .mixedOrders = true) (π : MT) (Ls : List Nat) (k : Cx F O w0 (w.drewN 1) hs) (ch : zM F O w0 hs C)
    (hB : (Region.noSelect l.toArray, uu l.toArray Ls π 0 (Array.replicate l.length false), π.depth == l.length) = (true, true, true)) (h : ∀ aK, MX P n l.toArray Ls C (Q .normal) π 0 aK (Kn L) (w.drewN 1)) :
    W P n (.region id l.toArray true) Q L w := Pk hm π Ls C hB ch.spec.1 ((ch.spec.2 _).2 k) h
inductive E6 : List SV → List SV → List SV → Prop
  | k {s y ys zs} : E6 s ys zs → E6 s (y :: ys) (y :: zs)
  | h {s y ys} : E6 [s] (y :: ys) (s :: ys)
  | h2 {s t y u ys} : E6 [s, t] (y :: u :: ys) (s :: t :: ys)
  | h3 {s t r y u v ys} : E6 [s, t, r] (y :: u :: v :: ys) (s :: t :: r :: ys)
  | h4 {s t r q y u v x ys} : E6 [s, t, r, q] (y :: u :: v :: x :: ys) (s :: t :: r :: q :: ys)
  | all {s ys} : E6 s ys s
theorem E6.kk {s y u ys zs} (h : E6 s ys zs) : E6 s (y :: u :: ys) (y :: u :: zs) := .k (.k h)
theorem E6.aP {s y u v x ys zs} (h : E6 s ys zs) : E6 s (y :: u :: v :: x :: ys) (y :: u :: v :: x :: zs) := .kk (.kk h)
theorem ey {K : St → World → Prop} {ty t : TypeId} {p x : Operand} {pos : String} {me : Array Edge} {g : Option (Nat × Bool)} (ss : List Nat) (i : Nat) {pa : Option Addr} (sv : SV) (svs : List SV) {bt : TypeId} {b : Nat} {ys zs : List SV} {off : Nat}
    (hp : Pt (some ⟨b, 0, none⟩) off pa) (k : Cx F O w0 w hs) (hi : hs[i]? = some (Bx bt b ys)) (md : E6 svs ys zs)
    (f_ : (w8 ops ss L (⟨none, .store t p x, ty, pos, me, g⟩ : Oper), (none : Option Nat), (toSS [p, x] (lk L)).map SV.ad, qG P t, qg sv, svs.all SV.Ax) = (true, none, some [.pointer pa, sv.val], some (SV.width svs), some svs, true))
    (hz : (GQ off (SV.width svs) svs ys).map SV.cl = some (SV.cl zs))
    (hk : ∀ w', Cx F O w0 w' (hs.set i (Bx bt b zs)) → K L w') :
    wa P n ops L w ⟨none, .store t p x, ty, pos, me, g⟩ K := Jz ss i zs f_ hp k hi hz hk
inductive OC : List SV → eG α → {m : Nat} → ae α m → ae α m → Nat → List SV → Prop
  | h {E : eG α} {m : Nat} {x y : ae α m} {ys} : OC (.ar E x :: ys) E x y 0 (.ar E y :: ys)
  | t {E : eG α} {m o : Nat} {x y : ae α m} {u ys zs} : OC ys E x y o zs → OC (u :: ys) E x y (SV.width [u] + o) (u :: zs)
theorem OC.split {E : eG α} {m o : Nat} {x y : ae α m} {ys zs : List SV} (h : OC ys E x y o zs) : ∃ pre post, ys = pre ++ .ar E x :: post ∧ zs = pre ++ .ar E y :: post ∧ o = SV.width pre := by
  induction h with
  | h => exact ⟨[], _, rfl, rfl, rfl⟩
  | t _ ih =>
    obtain ⟨p, q, rfl, rfl, rfl⟩ := ih
    exact ⟨_ :: p, q, rfl, rfl, (vk [_] p).symm⟩
theorem kW {K : St → World → Prop} {ty t : TypeId} {p x : Operand} {pos : String} {me : Array Edge} {g : Option (Nat × Bool)} {E : eG α} (ss : List Nat) (i : Nat) {pa : Option Addr} (sv : SV) (svs : List SV) {bt : TypeId} {b : Nat} {m o o' : Nat} {x0 x1 : ae α m} {ys zs : List SV} {j : Int} {e0 y : α} {kk : Nat}
    (hv : hK x0 j y = x1) (hx : aN x0.l j = some e0) (hp : Pt (some ⟨b, 0, none⟩) (o' + (j.toNat * E.sz + kk)) pa) (k : Cx F O w0 w hs) (hi : hs[i]? = some (Bx bt b ys)) (vu : OC ys E x0 x1 o zs) (hy : E.f y = pat (E.f e0) kk (SV.cl svs))
    (f_ : (w8 ops ss L (⟨none, .store t p x, ty, pos, me, g⟩ : Oper), (none : Option Nat), (toSS [p, x] (lk L)).map SV.ad, qG P t, qg sv, svs.all SV.Ax, o') = (true, none, some [.pointer pa, sv.val], some (SV.width svs), some svs, true, o))
    (hl : Nat.ble (kk + SV.width svs) E.sz = true)
    (hk : ∀ w', Cx F O w0 w' (hs.set i (Bx bt b zs)) → K L w') :
    wa P n ops L w ⟨none, .store t p x, ty, pos, me, g⟩ K := by
  obtain ⟨pre, post, rfl, rfl, rfl⟩ := vu.split
  simp only [Prod.mk.injEq] at f_
  obtain ⟨s1, s2, s3, s4, s5, s6, rfl⟩ := f_
  subst hv
  exact Mx (E := E) (kk := kk) (sv := sv) (svs := svs) ss i pre post x0 y (by rw [s1, s3, s4, s5, s6]) hp k hi hx hy (Nat.le_of_ble_eq_true hl) hk
end
end Go.Sx
namespace Go.Sx
open Go.RowKit
set_option linter.unusedSimpArgs false
set_option linter.unusedVariables false
variable {α β : Type}
abbrev Hd := Option Addr × Nat × Nat
def eH : eG Hd := ⟨1, fun h => [.slice h.1 h.2.1 h.2.2], fun _ => rfl, fun x v h => by rw [List.mem_singleton.1 h]; rfl⟩
instance : Pos eH := ⟨by decide⟩
def rows (E : eG α) : List Hd → List (List α) → List HP
  | h :: hs, x :: xs => Ow E h.1 h.2.1 h.2.2 x :: rows E hs xs
  | _, _ => []
section
variable {F O : Nat → Prop} {w0 w w' : World} {hs rest : List HP}
theorem Ow.RU {E : eG α} {A : Option Addr} {n c : Nat} {xs : List α} {S R : Nat → Prop} (h : (Ow E A n c xs).p w S R) : n ≤ c := by
  rcases h.2 with ⟨_, h1, h2⟩ | ⟨g, t, cur, _, _, h3, _⟩ <;> omega
end
section
variable {F O F1 O1 : Nat → Prop} {w0 w w' : World} {hs rest : List HP} {E : eG α} {A : Option Addr} {hd : List Hd} {RV : List (List α)}
end
section
variable {P : Program} {n : Nat} {ops : Array Oper} {L : St} {w w0 : World} {F O : Nat → Prop} {hs rest : List HP} {K : St → World → Prop}
end
section
variable {P : Program} {n : Nat} {Q : Act → World → Prop} {ops : Array Oper} {Ls : List Nat} {C : List (World → Prop)} {L L' : St} {w : World} {π : MT} {p : Nat}
theorem Gg (L' : St) (hk : L'.map (fun p => (find L p.1).map SV.val) = L'.map (fun p => some p.2.val)) {aK : Array Bool} (h : MX P n ops Ls C Q π p aK (Kn L') w) : MX P n ops Ls C Q π p aK (Kn L) w :=
  fun E5 C6 hB hw => vi (q := fun a w => Oz P ops Ls (cls C) Q π.depth p aK a w) L' hk (fun a ha => h E5 C6 hB hw a ha)
theorem qz (k : Nat) (c : Bool) (b : Bl L L') (hk : ((k, SV.b c) :: L').map (fun p => (find L p.1).map SV.val) = ((k, SV.b c) :: L').map (fun p => some p.2.val))
    (h1 : c = true → ∀ aK, MX P n ops Ls C Q π p aK (Kn ((k, .b true) :: L')) w) (h2 : c = false → ∀ aK, MX P n ops Ls C Q π p aK (Kn ((k, .b false) :: L')) w) {aK : Array Bool} : MX P n ops Ls C Q π p aK (Kn L) w := by
  refine Gg ((k, SV.b c) :: L') hk ?_
  cases c with
  | true => exact h1 rfl aK
  | false => exact h2 rfl aK
theorem fu {i : Nat} {o : Oper} (d : Nat) (ss : List Nat) (hl : Ls.contains i = true) (ho : ops[i]? = some o) (hs : ((CY ops o).map (settled ss (Kn L)), o.dst, decide (d < n), L.any fun p => p.1 == d) = (some (some false), some d, true, false))
    (h : ∀ aK, MX P n ops Ls C Q π (p + 1) aK (Kn ((d, .eO []) :: L)) w) {aK : Array Bool} : MX P n ops Ls C Q (.op i π) p aK (Kn L) w := by
  intro E5 C6 hB hw a ha
  simp only [Prod.mk.injEq, decide_eq_true_eq, Option.map_eq_some_iff] at hs
  obtain ⟨⟨g, hg, Ww⟩, hd, hn, Hc⟩ := hs
  have Lz : nx Ls p i = p + 1 := by unfold nx; rw [if_pos hl]
  simp only [uu, Bool.and_eq_true, beq_iff_eq, Lz] at hB
  obtain ⟨hr, hB⟩ := hB
  obtain ⟨k, wv, rfl, _, h2⟩ := qM ha Ww
  have RW : Region.wanted o (yielded ops a.tmps) = false := by
    cases zA : Region.wanted o (yielded ops a.tmps) with
    | true => exact absurd ((qL hg).1 zA k wv rfl) (h2 rfl)
    | false => rfl
  refine ⟨fun h0 => (by rw [h0] at hr; cases hr), fun j hj => ?_⟩
  rw [hr] at hj
  simp only [List.mem_singleton] at hj
  subst hj
  have hc := C6.le p (p + 1) w (by omega) hw
  unfold wpOp
  simp only [ho, Lz]
  rw [if_neg (by simp [RW]), hd]
  exact ⟨hc, h _ E5 C6 hB hc _ (ha.more (x := .eO []) hn Hc)⟩
end
end Go.Sx
namespace Go.Sx
open Go.ChangeShapes Go.WideShapes Go.ChangeAt Go.RowKit
set_option linter.unusedSimpArgs false
set_option linter.unusedVariables false
variable {α σ ρ : Type}
theorem fK {n : Int} (h : -9223372036854775808 ≤ n ∧ n < 9223372036854775808) : aB n = n := by
  simp only [aB, IntKind.wrap, IntKind.signed, IntKind.bits, reduceIte]
  simp only [show (2 : Int) ^ 64 = 18446744073709551616 from rfl, show (2 : Int) ^ 63 = 9223372036854775808 from rfl, show (2 : Nat) ^ 64 = 18446744073709551616 from rfl, show (2 : Nat) ^ 63 = 9223372036854775808 from rfl, show (64 - 1 : Nat) = 63 from rfl]
  first | omega | (simp; omega)
theorem mf {xs ys : List α} {b : Nat} (h : (xs.length + ys.length) * b ≤ 140737488355328) : app xs ys b = some (xs ++ ys) := by
  unfold app; rw [if_pos h]
theorem mi {p : Prop} [Decidable p] (h : p) : o9 p = some () := by
  unfold o9; rw [if_pos h]
theorem uv {xs : List α} {lo hi : Int} (h : 0 ≤ lo ∧ lo ≤ hi ∧ hi ≤ xs.length) : x5 xs lo hi = some ((xs.take hi.toNat).drop lo.toNat) := by
  unfold x5; rw [if_pos h]
theorem D_ {f : σ → Option (σ ⊕ ρ)} (P : Nat → σ → Prop) (Q : ρ → Prop) (n : Nat)
    (h : ∀ i s, P i s → (i < n ∧ ∃ s', f s = some (.inl s') ∧ P (i + 1) s') ∨ ∃ r, f s = some (.inr r) ∧ Q r) :
    ∀ s, P 0 s → ∃ r, bO f s = some r ∧ Q r := by
  have key : ∀ k i s, n - i ≤ k → P i s → ∃ r, bO f s = some r ∧ Q r := by
    intro k
    induction k with
    | zero =>
      intro i s hk hp
      rcases h i s hp with ⟨hi, _⟩ | ⟨r, hr, hq⟩
      · omega
      · exact ⟨r, j8 hr, hq⟩
    | succ k ih =>
      intro i s hk hp
      rcases h i s hp with ⟨hi, s', I7, MC⟩ | ⟨r, hr, hq⟩
      · rw [oh I7]
        exact ih (i + 1) s' (by omega) MC
      · exact ⟨r, j8 hr, hq⟩
  exact fun s hp => key n 0 s (by omega) hp
theorem re {f : σ → Option (σ ⊕ ρ)} (P : Nat → σ → Prop) (r : ρ) (n : Nat) (s : σ) (h0 : P 0 s)
    (h : ∀ i s, P i s → (i < n ∧ ∃ s', f s = some (.inl s') ∧ P (i + 1) s') ∨ f s = some (.inr r)) : bO f s = some r := by
  obtain ⟨r', h1, rfl⟩ := D_ P (fun r' => r' = r) n (fun i s hp => (h i s hp).imp id fun e => ⟨r, e, rfl⟩) s h0
  exact h1
theorem eZ {f : σ → Option (σ ⊕ ρ)} (s : Nat → σ) (n : Nat) {r : ρ} (h : ∀ i, i < n → f (s i) = some (.inl (s (i + 1)))) (he : f (s n) = some (.inr r)) : bO f (s 0) = some r :=
  re (fun i x => x = s i ∧ i ≤ n) r n (s 0) ⟨rfl, by omega⟩ (by
    rintro i x ⟨rfl, hi⟩
    by_cases qK : i < n
    · exact .inl ⟨qK, _, h i qK, rfl, by omega⟩
    · obtain rfl : i = n := by omega
      exact .inr he)
theorem wf_u8 {n : Int} (h : (Lit.int .u8 n).wf = true) : 0 ≤ n ∧ n ≤ 255 := by
  simpa [Lit.wf, IntKind.min, IntKind.max, IntKind.signed, IntKind.bits] using h
theorem MD {n : Int} (h : (Lit.int .u8 n).wf = true) : ∃ x : UInt8, Value.int .u8 n = SV.val (.u8 x) := by
  have := wf_u8 h
  refine ⟨UInt8.ofNat n.toNat, ?_⟩
  simp only [SV.val, Value.int.injEq, true_and]
  simp; omega
section
variable {H : Type} {enc : TypeId × Value → H} {P : Program} {w : World} {held : Bool}
end
end Go.Sx
namespace Go.Sx
open Go.RowKit Go.ChangeShapes Go.WideShapes Go.ChangeAt
set_option linter.unusedSimpArgs false
set_option linter.unusedVariables false
section
variable {P : Program} {n : Nat} {ops : Array Oper} {L : St} {w : World} {K : St → World → Prop}
end
section
variable {α : Type} {F O : Nat → Prop} {w0 w : World} {hs : List HP}
end
section
variable {α : Type} {F O : Nat → Prop} {w0 w : World} {hs rest : List HP} {E : eG α} {A : Option Addr} {n c m : Nat} {hd : List Hd} {RV : List (List α)}
end
section
variable {P : Program} {n : Nat} {ops : Array Oper} {L : St} {w w0 : World} {F O : Nat → Prop} {hs : List HP} {K : St → World → Prop}
end
section
variable {P : Program} {n : Nat} {Q : Exit → Act → World → Prop} {L L' : St} {w : World} {c : Code}
end
section
variable {P : Program} {n : Nat} {ops : Array Oper} {L : St} {w : World} {K : St → World → Prop}
end
section
variable {P : Program} {n : Nat} {ops : Array Oper} {L : St} {w : World} {K : St → World → Prop}
end
def eQ : eG (Option Addr) := ⟨1, fun a => [.pointer a], fun _ => rfl, fun x v h => by rw [List.mem_singleton.1 h]; rfl⟩
instance : Pos eQ := ⟨by decide⟩
theorem Ea {β : Type} {Q : Nat → β → Prop} : ∀ (n : Nat), (∀ i, i < n → ∃ y, Q i y) → ∃ l : List β, l.length = n ∧ ∀ (i : Nat) (y : β), l[i]? = some y → Q i y
  | 0, _ => ⟨[], rfl, fun i y h => by cases h⟩
  | n + 1, h => by
    obtain ⟨l, hl, hQ⟩ := Ea n fun i hi => h i (by omega)
    obtain ⟨y, hy⟩ := h n (by omega)
    refine ⟨l ++ [y], by simp [hl], fun i z hz => ?_⟩
    rw [List.getElem?_append] at hz
    split at hz
    · exact hQ i z hz
    · have hi : i = n := by
        have := (List.getElem?_eq_some_iff.1 hz).1
        simp at this
        omega
      subst hi
      rw [hl] at hz
      simp at hz
      subst hz
      exact hy
section
variable {H : Type} {enc : TypeId × Value → H} {P : Program} {w : World} {held : Bool}
end
section
variable {ops : Array Oper} {Ls : List Nat}
def B2 (ops : Array Oper) (m : Nat) (i : Nat) : Bool := !m.testBit i && ((ops[i]?).map (·.after.all fun e => !Region.binds .any e || m.testBit e.on)).getD false
def Hq (ops : Array Oper) (m : Nat) (i : Nat) : Bool :=
  match ops[i]? with
  | none => false
  | some oi => (List.range ops.size).all fun j => j == i || m.testBit j || match ops[j]? with
      | some oj => oj.after.any (fun e => Region.binds .any e && e.on == i) || oi.apart ops oj
      | none => true
def Ec (ops : Array Oper) (Ls : List Nat) (m : Nat) (i : Nat) : Nat := (Ls.filter fun j => decide (j < ops.size) && !m.testBit j && !rW ops m.testBit j i).length
def AD (ops : Array Oper) (Ls : List Nat) : MT → Nat → Nat → Bool
  | .nil, _, m => (List.range ops.size).all fun i => !B2 ops m i
  | .q i k π, p, m => decide (i < ops.size) && B2 ops m i && Hq ops m i && !Ls.contains i && decide (p + Ec ops Ls m i ≤ k) && AD ops Ls π p (m ||| 2 ^ i)
  | .op i π, p, m => ((List.range ops.size).filter fun j => B2 ops m j) == [i] && AD ops Ls π (nx Ls p i) (m ||| 2 ^ i)
  | .br i j ri rj, p, m => ((List.range ops.size).filter fun j => B2 ops m j) == [i, j] && rj.depth == ri.depth && AD ops Ls ri (nx Ls p i) (m ||| 2 ^ i) && AD ops Ls rj (nx Ls p j) (m ||| 2 ^ j)
def Rel (ops : Array Oper) (aK : Array Bool) (m : Nat) : Prop := aK.size = ops.size ∧ ∀ j, aK.getD j false = m.testBit j
theorem Rel.lt {aK : Array Bool} {m : Nat} (h : Rel ops aK m) {j : Nat} (hj : j < ops.size) : aK.getD j true = m.testBit j := by
  rw [← h.2 j, Array.getD_eq_getD_getElem?, Array.getD_eq_getD_getElem?, Array.getElem?_eq_getElem (by rw [h.1]; exact hj)]
  rfl
theorem Rel.ge {aK : Array Bool} {m : Nat} (h : Rel ops aK m) {j : Nat} (hj : ¬ j < ops.size) : aK.getD j true = true := by
  rw [Array.getD_eq_getD_getElem?, Array.getElem?_eq_none (by rw [h.1]; omega)]
  rfl
theorem Rel.ready {aK : Array Bool} {m : Nat} (h : Rel ops aK m) : Region.ready .any ops aK = (List.range ops.size).filter fun j => B2 ops m j := by
  unfold Region.ready
  refine List.filter_congr fun i hi => ?_
  rw [List.mem_range] at hi
  unfold B2
  rw [h.lt hi]
  simp only [h.2]
theorem Rel.free {aK : Array Bool} {m i : Nat} (h : Rel ops aK m) : Region.free .any ops aK i = Hq ops m i := by
  unfold Region.free Hq
  cases ho : ops[i]? with
  | none => rfl
  | some oi =>
    simp only []
    rw [Bool.eq_iff_iff, List.all_eq_true, List.all_eq_true]
    refine ⟨fun hq j hj => ?_, fun hq j hj => ?_⟩
    · have := hq j hj
      rw [h.lt (List.mem_range.1 hj)] at this
      exact this
    · have := hq j hj
      rw [h.lt (List.mem_range.1 hj)]
      exact this
theorem Rel.Wx {aK : Array Bool} {m i : Nat} (h : Rel ops aK m) : ahead ops Ls aK i = Ec ops Ls m i := by
  unfold ahead Ec
  congr 1
  refine List.filter_congr fun j _ => ?_
  have hf : (fun x => aK.getD x false) = m.testBit := funext h.2
  rw [hf]
  by_cases hj : j < ops.size
  · rw [h.lt hj, decide_eq_true hj]; rfl
  · rw [h.ge hj, decide_eq_false hj]; rfl
theorem Rel.step {aK : Array Bool} {m i : Nat} (h : Rel ops aK m) (hi : i < ops.size) : Rel ops (aK.setIfInBounds i true) (m ||| 2 ^ i) := by
  refine ⟨by simpa using h.1, fun j => ?_⟩
  rw [Nat.testBit_or, Nat.testBit_two_pow]
  by_cases OV : i = j
  · subst OV
    rw [Array.getD_eq_getD_getElem?, Array.getElem?_setIfInBounds_self_of_lt (by rw [h.1]; exact hi)]
    simp
  · rw [← h.2 j, Array.getD_eq_getD_getElem?, Array.getElem?_setIfInBounds_ne OV, ← Array.getD_eq_getD_getElem?]
    simp [OV]
theorem zN : ∀ (π : MT) (p m : Nat) (aK : Array Bool), Rel ops aK m → AD ops Ls π p m = true → uu ops Ls π p aK = true
  | .nil, p, m, aK, h, hq => by
    simp only [uu, h.ready, List.isEmpty_iff, List.filter_eq_nil_iff]
    simp only [AD, List.all_eq_true, Bool.not_eq_true'] at hq
    intro a ha
    rw [hq a ha]
    exact Bool.false_ne_true
  | .q i k π, p, m, aK, h, hq => by
    simp only [AD, Bool.and_eq_true, decide_eq_true_eq, Bool.not_eq_true'] at hq
    obtain ⟨⟨⟨⟨⟨h1, h2⟩, h3⟩, h4⟩, h5⟩, h6⟩ := hq
    simp only [uu, Bool.and_eq_true, decide_eq_true_eq, Bool.not_eq_true']
    refine ⟨⟨⟨⟨?_, by rw [h.free]; exact h3⟩, h4⟩, by rw [h.Wx]; exact h5⟩, zN π p _ _ (h.step h1) h6⟩
    rw [h.ready, List.contains_iff_mem, List.mem_filter]
    exact ⟨List.mem_range.2 h1, h2⟩
  | .op i π, p, m, aK, h, hq => by
    simp only [AD, Bool.and_eq_true] at hq
    simp only [uu, Bool.and_eq_true]
    have hi : i < ops.size := by
      have : i ∈ (List.range ops.size).filter fun j => B2 ops m j := by rw [beq_iff_eq.1 hq.1]; exact List.mem_singleton.2 rfl
      exact List.mem_range.1 (List.mem_filter.1 this).1
    exact ⟨by rw [h.ready]; exact hq.1, zN π _ _ _ (h.step hi) hq.2⟩
  | .br i j ri rj, p, m, aK, h, hq => by
    simp only [AD, Bool.and_eq_true] at hq
    obtain ⟨⟨⟨h1, h2⟩, h3⟩, h4⟩ := hq
    simp only [uu, Bool.and_eq_true]
    have hi : i < ops.size := by
      have : i ∈ (List.range ops.size).filter fun j => B2 ops m j := by rw [beq_iff_eq.1 h1]; simp
      exact List.mem_range.1 (List.mem_filter.1 this).1
    have hj : j < ops.size := by
      have : j ∈ (List.range ops.size).filter fun j => B2 ops m j := by rw [beq_iff_eq.1 h1]; simp
      exact List.mem_range.1 (List.mem_filter.1 this).1
    exact ⟨⟨⟨by rw [h.ready]; exact h1, h2⟩, zN ri _ _ _ (h.step hi) h3⟩, zN rj _ _ _ (h.step hj) h4⟩
end
theorem Hr {P : Program} {n : Nat} {Q : Exit → Act → World → Prop} {L : St} {w w0 : World} {F O : Nat → Prop} {hs : List HP} {id : Nat} {l : List Oper} {C : List (World → Prop)} (hm : P.follows .mixedOrders = true) (π : MT) (Ls : List Nat) (k : Cx F O w0 (w.drewN 1) hs) (ch : zM F O w0 hs C)
    (hB : (Region.noSelect l.toArray, AD l.toArray Ls π 0 0, π.depth == l.length) = (true, true, true)) (h : ∀ aK, MX P n l.toArray Ls C (Q .normal) π 0 aK (Kn L) (w.drewN 1)) :
    W P n (.region id l.toArray true) Q L w := by
  simp only [Prod.mk.injEq] at hB
  refine qy hm π Ls k ch ?_ h
  rw [hB.1, hB.2.2, zN π 0 0 (Array.replicate l.length false) ⟨by simp, fun j => ?_⟩ hB.2.1]
  rw [Array.getD_eq_getD_getElem?, Nat.zero_testBit]
  by_cases hj : j < l.length
  · simp [hj]
  · simp [hj]
end Go.Sx
namespace Go.Sx
open Go.RowKit Go.MapKept
set_option linter.unusedSimpArgs false
set_option linter.unusedVariables false
section
variable {P : Program} {n : Nat} {ops : Array Oper} {L : St} {w w0 : World} {F O : Nat → Prop} {hs : List HP} {K : St → World → Prop}
end
end Go.Sx
namespace Go.Sx
open Go.RowKit
set_option linter.unusedSimpArgs false
set_option linter.unusedVariables false
variable {α β γ δ : Type}
structure Q6 (F : Nat → Prop) (w : World) (E : eG γ) (r : γ → δ → Prop) (A : Option Addr) (ys : List γ) (xs : List δ) : Prop where
  ro : Ro F w A (E.all ys)
  len : ys.length = xs.length
  el : ∀ (j : Nat) (y : γ) (x : δ), ys[j]? = some y → xs[j]? = some x → r y x
section
variable {F O F1 O1 : Nat → Prop} {w0 w w' : World} {hs : List HP}
theorem Q6.nil {E : eG γ} {r : γ → δ → Prop} : Q6 F w E r Option.none [] [] := ⟨Ro.Ge E, rfl, fun _ _ _ h => by cases h⟩
end
def hV (h : Hd) : Value := .slice h.1 h.2.1 h.2.2
section
variable {F O : Nat → Prop} {w0 w : World} {hs rest : List HP} {E : eG α} {b : Nat} {ks : List (List UInt8)} {hd : List Hd} {RV : List (List α)}
end
section
variable {P : Program} {n : Nat} {ops : Array Oper} {L : St} {w w0 : World} {F O : Nat → Prop} {hs rest : List HP} {K : St → World → Prop} {E : eG α}
end
end Go.Sx
namespace Go.Sx
open Go.RowKit Go.MapKept
set_option linter.unusedSimpArgs false
set_option linter.unusedVariables false
variable {α : Type}
section
variable {P : Program} {n : Nat} {ops : Array Oper} {L : St} {w w0 : World} {F O : Nat → Prop} {hs rest : List HP} {K : St → World → Prop}
variable {E : eG α} {b r : Nat} {ks left : List (List UInt8)} {hd : List Hd} {RV : List (List α)}
end
section
variable {P : Program} {n : Nat} {Q : Exit → Act → World → Prop} {L L' : St} {w : World}
end
end Go.Sx
namespace Go.Sx
open Go.RowKit
set_option linter.unusedSimpArgs false
set_option linter.unusedVariables false
variable {α β γ δ ε ζ : Type}
structure Rl (γ δ : Type) where
  r : World → (Nat → Prop) → γ → δ → Prop
  loc : ∀ w w' R y x, r w R y x → (∀ b, R b → w'.heap[b]? = w.heap[b]?) → r w' R y x
  mono : ∀ w R R' y x, (∀ b, R b → R' b) → r w R y x → r w R' y x
def SH (E : eG α) : Rl Hd (List α) where
  r w R h x := h.2.1 = x.length ∧ x.length ≤ h.2.2 ∧ Rd w h.1 (E.all x) ∧ (E.all x ≠ [] → ∀ a, h.1 = some a → R a.block)
  loc := by
    rintro w w' R y x ⟨h1, h2, h3, h4⟩ hk
    refine ⟨h1, h2, ⟨h3.1, fun a j u ha hu => ?_⟩, h4⟩
    have h5 := h3.2 a j u ha hu
    have sj : E.all x ≠ [] := fun e => by rw [e] at hu; cases hu
    have h6 := hk (a.add j).block (by rw [oA]; exact h4 sj a ha)
    rw [World.cell?_of_block h6]
    exact h5
  mono := by
    rintro w R R' y x hR ⟨h1, h2, h3, h4⟩
    exact ⟨h1, h2, h3, fun sj a ha => hR _ (h4 sj a ha)⟩
def Sh (q : Rl γ δ) (ys : List γ) (xs : List δ) : HP where
  p w S R := (∀ b, ¬ S b) ∧ ys.length = xs.length ∧ ∀ (j : Nat) (y : γ) (x : δ), ys[j]? = some y → xs[j]? = some x → q.r w R y x
  loc := by
    rintro w w' S R ⟨h0, h1, h2⟩ hk
    exact ⟨h0, h1, fun j y x e1 e2 => q.loc _ _ _ _ _ (h2 j y x e1 e2) fun b hb => hk b (.inr hb)⟩
section
variable {F O : Nat → Prop} {w0 w w' : World} {hs rest : List HP}
theorem Cx.share {E : eG α} {A : Option Addr} {n c : Nat} {xs : List α} (k : Cx F O w0 w (Ow E A n c xs :: rest)) : Cx F O w0 w (Sh (SH E) [(A, n, c)] [xs] :: rest) := by
  have := k.U_ (h' := Sh (SH E) [(A, n, c)] [xs]) 0 rfl Option.none ⟨rfl, rfl, rfl, Nat.le_refl _, fun _ _ _ => rfl⟩ fun S R h1 h2 h3 => by
    refine ⟨fun g hg => (by cases hg), fun _ => False, fun b => R b ∨ S b, ⟨fun _ h => h, rfl, fun j y x e1 e2 => ?_⟩, fun b hb => hb.elim, fun b hb => ⟨h3 b (hb.elim .inr .inl), hb.elim .inl (fun h => .inr (.inl h))⟩⟩
    cases j with
    | succ j => cases e1
    | zero =>
      obtain rfl := Option.some.inj e1
      obtain rfl := Option.some.inj e2
      refine ⟨h1.1.symm, by rw [h1.1]; exact Ow.RU h1, Ow.OZ h1, fun sj a ha => ?_⟩
      rcases h1.2 with ⟨h4, _⟩ | ⟨g, t, cur, h4, _, _, _, _, _, h5⟩
      · rw [h4] at ha; cases ha
      · rw [h4] at ha
        obtain rfl := Option.some.inj ha
        exact .inr h5
  simpa only [List.set_cons_zero] using this
variable {E : eG γ} {q : Rl γ δ} {A : Option Addr} {n c : Nat} {ys : List γ} {xs : List δ}
end
section
variable {F O : Nat → Prop} {w0 w : World} {hs : List HP}
theorem Cx.b8 {E : eG α} {A : Option Addr} {n c : Nat} {x : List α} (k : Cx F O w0 w hs) (i : Nat) (hi : hs[i]? = some (Sh (SH E) [(A, n, c)] [x])) : x.length = n := by
  obtain ⟨S, R, h⟩ := k.get i hi
  exact ((h.2.2 0 _ _ rfl rfl).1).symm
theorem Cx.cZ {E : eG α} {A : Option Addr} {n c : Nat} {x : List α} (k : Cx F O w0 w hs) (i : Nat) (hi : hs[i]? = some (Sh (SH E) [(A, n, c)] [x])) : n ≤ c := by
  obtain ⟨S, R, h⟩ := k.get i hi
  have h1 := h.2.2 0 _ _ rfl rfl
  have h2 : n = x.length := h1.1
  have h3 : x.length ≤ c := h1.2.1
  omega
theorem Cx.RX {E : eG α} {A : Option Addr} {n c : Nat} {x : List α} (k : Cx F O w0 w hs) (i : Nat) (hi : hs[i]? = some (Sh (SH E) [(A, n, c)] [x])) : Rd w A (E.all x) := by
  obtain ⟨S, R, h⟩ := k.get i hi
  exact (h.2.2 0 _ _ rfl rfl).2.2.1
end
section
variable {F O F1 O1 : Nat → Prop} {w0 w w' : World} {hs rest : List HP} {E : eG γ} {q : Rl γ δ} {A : Option Addr} {ys : List γ} {xs : List δ}
theorem Cx.off (k : Cx F O w0 w hs) : ∀ b, O b → ¬ F b := fun b ho hf => (k.fin b hf).2 ho
end
section
variable {P : Program} {n : Nat} {ops : Array Oper} {L : St} {w w0 : World} {F O : Nat → Prop} {hs rest : List HP} {K : St → World → Prop} {E : eG γ} {q : Rl γ δ}
end
end Go.Sx
namespace Go.Sx
open Go.RowKit
set_option linter.unusedSimpArgs false
set_option linter.unusedVariables false
variable {γ δ : Type}
def Ed {H : Type} (m : DataW H → δ → Prop) : List (DataW H) → List δ → Prop
  | [], [] => True
  | d :: ds, x :: xs => m d x ∧ Ed m ds xs
  | _, _ => False
theorem Ed.of {H : Type} {m : DataW H → δ → Prop} : ∀ (ds : List (DataW H)) (xs : List δ), ds.length = xs.length → (∀ (i : Nat) (d : DataW H) (x : δ), ds[i]? = some d → xs[i]? = some x → m d x) → Ed m ds xs
  | [], [], _, _ => trivial
  | [], _ :: _, h, _ => by cases h
  | _ :: _, [], h, _ => by cases h
  | d :: ds, x :: xs, h, hq => ⟨hq 0 d x rfl rfl, Ed.of ds xs (by simpa using h) fun i d' x' h1 h2 => hq (i + 1) d' x' h1 h2⟩
section
variable {H : Type} {enc : TypeId × Value → H} {P : Program} {w : World} {held : Bool}
theorem JA {t e : TypeId} {fuel : Nat} {cs : List Value} {x : DataW H × List MemPlace} (E : eG γ) (r : γ → δ → Prop) (m : DataW H → δ → Prop) (ht : P.underlying t = some (.slice e)) (Pn : P.cellsOf e = E.sz)
    (RY : ∀ fuel cs (x : DataW H × List MemPlace), DataW.trod enc P w 0 (fun _ => true) held fuel e cs = some x → ∃ (y : γ) (z : δ), cs = E.f y ∧ r y z ∧ m x.1 z)
    (h : DataW.trod enc P w 0 (fun _ => true) held fuel t cs = some x) :
    ∃ (A : Option Addr) (len cap : Nat) (ys : List γ) (xs : List δ), cs = [.slice A len cap] ∧ Q6 N0 w E r A ys xs ∧ xs.length = len ∧ len ≤ cap ∧ (xs = [] ∨ ∃ ds rest, x.1 = .slice ds rest ∧ Ed m ds xs) := by
  rcases DataW.trod_slice ht h with ⟨rfl, rfl⟩ | ⟨a, len, cap, elems, rest, n, rfl, rfl, rfl, _, hl, _, hlen, RZ, _, _⟩
  · exact ⟨Option.none, 0, 0, [], [], rfl, Q6.nil, rfl, by omega, .inl rfl⟩
  · have key : ∀ i, i < len → ∃ y : γ × δ, w.cells? 0 (a.add (i * E.sz)) E.sz = some (E.f y.1) ∧ r y.1 y.2 ∧ ∃ d, elems[i]? = some d ∧ m d.1 y.2 := by
      intro i hi
      have h1 := RZ i hi
      have h2 : elems[i]? = some (elems[i]'(by omega)) := List.getElem?_eq_getElem _
      rw [h2, Pn, Option.bind_eq_some_iff] at h1
      obtain ⟨QQ, Q0, hy⟩ := h1
      obtain ⟨y, z, rfl, hr, hm⟩ := RY _ _ _ hy
      exact ⟨(y, z), Q0, hr, _, h2, hm⟩
    obtain ⟨l, O8, G2⟩ := Ea len key
    have R2 : ∀ (j : Nat) (y : γ) (x : δ), (l.map (·.1))[j]? = some y → (l.map (·.2))[j]? = some x → l[j]? = some (y, x) := by
      intro j h x h1 h2
      rw [List.getElem?_map, Option.map_eq_some_iff] at h1 h2
      obtain ⟨y, hy, rfl⟩ := h1
      obtain ⟨y', Ph, rfl⟩ := h2
      rw [hy] at Ph
      obtain rfl := Option.some.inj Ph
      exact hy
    refine ⟨some a, len, cap, l.map (·.1), l.map (·.2), rfl, ⟨Ro.n0 ⟨fun _ => ⟨a, rfl⟩, ?_⟩, by simp, ?_⟩, by simp [O8], hl, .inr ⟨_, _, rfl, ?_⟩⟩
    · intro a' j u ha hu
      obtain rfl := Option.some.inj ha
      by_cases hz : E.sz = 0
      · have hq := (List.getElem?_eq_some_iff.1 hu).1
        rw [eG.db, hz, Nat.mul_zero] at hq
        omega
      · have hq := (List.getElem?_eq_some_iff.1 hu).1
        rw [eG.db, List.length_map] at hq
        have hi : j / E.sz < l.length := Nat.div_lt_of_lt_mul (by rw [Nat.mul_comm]; exact hq)
        have Po : j % E.sz < E.sz := Nat.mod_lt _ (by omega)
        have hy : l[j / E.sz]? = some (l[j / E.sz]) := List.getElem?_eq_getElem _
        obtain ⟨h1, _⟩ := G2 _ _ hy
        obtain ⟨_, h3, h4⟩ := World.cells?_some h1
        have h5 := h4 (j % E.sz) Po
        rw [Addr.add_add, Nat.mul_comm, Nat.div_add_mod] at h5
        rw [h5]
        have h6 := eG.BW E (xs := l.map (·.1)) (j := j / E.sz) (x := (l[j / E.sz]).1) (by rw [List.getElem?_map, hy]; rfl)
        rw [← h6, List.getElem?_take_of_lt Po, List.getElem?_drop, Nat.mul_comm, Nat.div_add_mod]
        exact hu
    · intro j h x h1 h2
      exact (G2 j _ (R2 j h x h1 h2)).2.1
    · refine Ed.of _ _ (by simp [O8, hlen]) fun i d x h1 h2 => ?_
      rw [List.getElem?_map, Option.map_eq_some_iff] at h1 h2
      obtain ⟨y, hy, rfl⟩ := h1
      obtain ⟨z, hz, rfl⟩ := h2
      obtain ⟨_, _, d', Vn, hq⟩ := G2 i z hz
      rw [hy] at Vn
      obtain rfl := Option.some.inj Vn
      exact hq
end
end Go.Sx
namespace Go.Sx
open Go.RowKit
set_option linter.unusedSimpArgs false
set_option linter.unusedVariables false
variable {α β γ δ : Type}
section
variable {F O F1 O1 : Nat → Prop} {w0 w w' : World} {hs rest : List HP} {E : eG α} {A : Option Addr} {n c : Nat} {x : List α}
theorem Ro.de (hO : ∀ b, O1 b → ¬ F1 b) (hr : ∀ (i : Nat) (h : HP), rest[i]? = some h → ∃ S R, h.p w S R ∧ (∀ b, R b → O1 b) ∧ ∀ b, S b → ¬ F1 b) (i : Nat) (hi : rest[i]? = some (Sh (SH E) [(A, n, c)] [x])) : Ro F1 w A (E.all x) := by
  obtain ⟨S, R, h, hR, hS⟩ := hr i _ hi
  have h1 := h.2.2 0 _ _ rfl rfl
  exact ⟨h1.2.2.1, fun sj a ha hf => hO _ (hR _ (h1.2.2.2 sj a ha)) hf⟩
theorem Cx.ME (k : Cx F O w0 w hs) (i : Nat) (hi : hs[i]? = some (Ow E A n c x)) (h : x ≠ []) : ∃ g, A = some ⟨g, 0, Option.none⟩ := by
  obtain ⟨S, R, h0, h1⟩ := k.get i hi
  rcases h1 with ⟨_, h2, _⟩ | ⟨g, t, cur, h2, _⟩
  · exact absurd (List.eq_nil_of_length_eq_zero (h0.trans h2)) h
  · exact ⟨g, h2⟩
end
section
variable {σ ρ : Type} {P : Program} {n : Nat} {Q : Exit → Act → World → Prop} {c : Code} {L L' : St} {w0 : World}
end
end Go.Sx
namespace Go.Sx
open Go.RowKit
set_option linter.unusedSimpArgs false
set_option linter.unusedVariables false
section
variable {P : Program} {n : Nat} {ops : Array Oper} {L : St} {w w0 : World} {F O : Nat → Prop} {hs : List HP} {K : St → World → Prop}
end
open Go.ChangeShapes Go.WideShapes in
theorem Ee {P : Program} {w : World} {r : Reach} {base : Nat} {t e : TypeId} {v : Value} {n : Nat} (ht : P.underlying t = some (.array n e)) (h : Value.okWide P w r base t v) : ∃ cs, v = .agg cs := by
  unfold Value.okWide at h
  rw [ht] at h
  obtain ⟨cs, h, _⟩ := h
  exact ⟨cs, h⟩
open Go.ChangeShapes Go.WideShapes in
theorem Hs {H : Type} {enc : TypeId × Value → H} {P : Program} {w : World} {base : Nat} {spare : Nat → Bool} {held : Bool} {fuel : Nat} {t e : TypeId} {cs : List Value} {x : DataW H × List MemPlace} {n : Nat} (ht : P.underlying t = some (.array n e)) (he : P.underlying e = some (.int .u8)) (Pn : P.cellsOf e = 1) (Wy : P.cellsOf t = n) (h : DataW.trod enc P w base spare held fuel t cs = some x) : ∃ v : ae UInt8 n, cs = SV.cl [.ar e8 v] := by
  obtain ⟨xs, m, _, _, hl, hx, RY⟩ := DataW.trod_array ht h
  rw [Wy] at hl
  have key : ∀ i, i < n → ∃ y : UInt8, cs[i]? = some (bV y) := by
    intro i hi
    have h1 := RY i hi
    rw [Pn, Nat.mul_one, List.getElem?_eq_getElem (by omega)] at h1
    obtain ⟨m, hm, _, hw⟩ := DataW.trod_int he h1
    obtain ⟨y, hy⟩ := MD hw
    refine ⟨y, ?_⟩
    have h2 : ((cs.drop i).take 1)[0]? = some (Value.int .u8 m) := by rw [hm]; rfl
    rw [List.getElem?_take_of_lt (by omega), List.getElem?_drop, Nat.add_zero] at h2
    rw [h2, hy]
    rfl
  obtain ⟨l, O8, hq⟩ := Ea n key
  refine ⟨⟨l, O8⟩, ?_⟩
  show cs = e8.all l ++ []
  rw [Mm, List.append_nil]
  refine List.ext_getElem (by simp; omega) fun i h1 h2 => ?_
  have h3 := hq i l[i] (List.getElem?_eq_getElem (by omega))
  rw [List.getElem?_eq_getElem h1] at h3
  rw [List.getElem_map]
  exact Option.some.inj h3
end Go.Sx
namespace Go.Sx
open Go.RowKit
set_option linter.unusedSimpArgs false
set_option linter.unusedVariables false
section
variable {α β σ ρ : Type} {P : Program} {n : Nat} {Q : Exit → Act → World → Prop} {ops : Array Oper} {L L' : St} {w w0 : World} {os : List SV} {cs : List jP} {F O : Nat → Prop} {hs : List HP} {rest : List Oper}
end
end Go.Sx
namespace Go.Sx
open Go.RowKit
set_option linter.unusedSimpArgs false
set_option linter.unusedVariables false
def y2 : Nat := 9221120237041090561
def bW (b : Nat) : Nat := if (Ieee.double.read b).isNaN then y2 else b
def Fl (x b : Nat) : Prop := b < 18446744073709551616 ∧ bW b = x
def jO (op : BinOp) (x y : Nat) : Nat := (floatBits op .f64 x y).getD y2
def cv (op : BinOp) (x y : Nat) : Bool :=
  match op with
  | .eql => Ieee.double.order x y == some .eq
  | .neq => Ieee.double.order x y != some .eq
  | .lss => Ieee.double.order x y == some .lt
  | .leq => Ieee.double.order x y == some .lt || Ieee.double.order x y == some .eq
  | .gtr => Ieee.double.order x y == some .gt
  | .geq => Ieee.double.order x y == some .gt || Ieee.double.order x y == some .eq
  | _ => false
def x9 (n : Int) : Nat := floatOfInt .f64 n
theorem vn (b : Nat) : (∃ s f, Ieee.double.read b = .nan s f ∧ Ieee.double.read (bW b) = .nan false 2251799813685249) ∨ (bW b = b ∧ (Ieee.double.read b).isNaN = false) := by
  unfold bW
  cases h : Ieee.double.read b with
  | nan s f => left; exact ⟨s, f, rfl, by show Ieee.double.read y2 = _; decide⟩
  | number s m e => right; exact ⟨rfl, rfl⟩
  | infinity s => right; exact ⟨rfl, rfl⟩
theorem y8 (d : Ieee.Datum) (s : Bool) (f : Nat) : d.sum (.nan s f) = none ∧ d.product (.nan s f) = none ∧ (∀ k, d.quotient k (.nan s f) = none) ∧ d.order (.nan s f) = none := by
  cases d <;> exact ⟨rfl, rfl, fun _ => rfl, rfl⟩
theorem y9 (d : Ieee.Datum) (s : Bool) (f : Nat) : (Ieee.Datum.nan s f).sum d = none ∧ (Ieee.Datum.nan s f).product d = none ∧ (∀ k, (Ieee.Datum.nan s f).quotient k d = none) ∧ (Ieee.Datum.nan s f).order d = none := by
  cases d <;> exact ⟨rfl, rfl, fun _ => rfl, rfl⟩
theorem JB (s : Bool) (f : Nat) : (Ieee.Datum.nan s f).opposite = .nan (!s) f := rfl
theorem Gh (a b : Nat) : Ieee.double.order (bW a) (bW b) = Ieee.double.order a b := by
  unfold Ieee.Format.order
  rcases vn a with ⟨s, f, h1, h2⟩ | ⟨h1, _⟩ <;> rcases vn b with ⟨s', f', h3, h4⟩ | ⟨h3, _⟩
  · rw [h1, h2, h3, h4]; rfl
  · rw [h1, h2, (y9 _ _ _).2.2.2, (y9 _ _ _).2.2.2]
  · rw [h3, h4, (y8 _ _ _).2.2.2, (y8 _ _ _).2.2.2]
  · rw [h1, h3]
theorem Ht (op : BinOp) (a b : Nat) : cv op (bW a) (bW b) = cv op a b := by
  unfold cv; rw [Gh]
theorem Hu (op : BinOp) (a b : Nat) : floatBits op .f64 (bW a) (bW b) = floatBits op .f64 a b := by
  unfold floatBits
  have e : (FloatKind.f64).format = Ieee.double := rfl
  rw [e]
  cases op <;> simp only [Ieee.Format.add, Ieee.Format.sub, Ieee.Format.mul, Ieee.Format.div]
  all_goals
    rcases vn a with ⟨s, f, h1, h2⟩ | ⟨h1, _⟩ <;> rcases vn b with ⟨s', f', h3, h4⟩ | ⟨h3, _⟩
    · rw [h1, h2, h3, h4]; rfl
    · rw [h1, h2]; simp [y9]
    · rw [h3, h4]; simp [y8, JB]
    · rw [h1, h3]
theorem ya (neg : Bool) {JC : Nat} (h : JC ≤ Ieee.double.infRung) : (Ieee.double.read (Ieee.double.word neg JC)).isNaN = false := by
  have h1 : Ieee.double.word neg JC % Ieee.double.signWeight = JC := by
    have hs : Ieee.double.infRung < Ieee.double.signWeight := by decide
    unfold Ieee.Format.word
    split
    · rw [Nat.add_mod_left, Nat.mod_eq_of_lt (by omega)]
    · rw [Nat.mod_eq_of_lt (by omega)]
  unfold Ieee.Format.read
  dsimp only
  rw [h1]
  split
  · rfl
  · split
    · rfl
    · split
      · rfl
      · omega
theorem sL {d : Ieee.Datum} (h : d.isNaN = false) : (Ieee.double.read (Ieee.double.write d)).isNaN = false := by
  cases d with
  | nan => cases h
  | infinity s => exact ya s (Nat.le_refl _)
  | number s m e =>
    unfold Ieee.Format.write Ieee.Format.nearest
    dsimp only
    split
    · exact ya s (Nat.zero_le _)
    · exact ya s (Nat.min_le_right ..)
theorem Hv {a b d : Ieee.Datum} (h : a.sum b = some d) : d.isNaN = false := by
  cases a <;> cases b <;> simp only [Ieee.Datum.sum] at h <;> first | cases h; done | skip
  · simp only [Option.some.injEq] at h; subst h; rfl
  · simp only [Option.some.injEq] at h; subst h; rfl
  · simp only [Option.some.injEq] at h; subst h; rfl
  · split at h
    · simp only [Option.some.injEq] at h; subst h; rfl
    · cases h
theorem Ef {a b d : Ieee.Datum} (h : a.product b = some d) : d.isNaN = false := by
  cases a <;> cases b <;> simp only [Ieee.Datum.product] at h <;> first | (cases h; done) | skip
  all_goals first
    | (simp only [Option.some.injEq] at h; subst h; rfl)
    | (split at h
       · cases h
       · simp only [Option.some.injEq] at h; subst h; rfl)
theorem C7 {k : Nat} {a b d : Ieee.Datum} (h : a.quotient k b = some d) : d.isNaN = false := by
  cases a <;> cases b <;> simp only [Ieee.Datum.quotient] at h <;> first | (cases h; done) | skip
  all_goals first
    | (simp only [Option.some.injEq] at h; subst h; rfl)
    | (split at h
       · split at h
         · cases h
         · simp only [Option.some.injEq] at h; subst h; rfl
       · simp only [Option.some.injEq] at h; subst h; rfl)
theorem JD {op : BinOp} {a b r : Nat} (h : floatBits op .f64 a b = some r) : Fl r r := by
  refine ⟨?_, ?_⟩
  · have := floatBits_wf h
    simpa [Lit.wf] using this
  · have h1 : (Ieee.double.read r).isNaN = false := by
      unfold floatBits at h
      have e : (FloatKind.f64).format = Ieee.double := rfl
      rw [e] at h
      split at h
      · obtain ⟨d, h2, rfl⟩ := Option.map_eq_some_iff.1 h; exact sL (Hv h2)
      · obtain ⟨d, h2, rfl⟩ := Option.map_eq_some_iff.1 h; exact sL (Hv h2)
      · obtain ⟨d, h2, rfl⟩ := Option.map_eq_some_iff.1 h; exact sL (Ef h2)
      · obtain ⟨d, h2, rfl⟩ := Option.map_eq_some_iff.1 h; exact sL (C7 h2)
      · cases h
    unfold bW
    rw [h1]; rfl
theorem JE (q : Question) (t : Nat) (k : Nat) (hq : ∃ x y, q = .nanBits .f64 x y) : Fl y2 (q.cut t) := by
  obtain ⟨x, y, rfl⟩ := hq
  simp only [Question.cut]
  have h1 : t % 2 < 2 := Nat.mod_lt _ (by decide)
  have h2 : t / 2 % (2 ^ 52 - 1) < 2 ^ 52 - 1 := Nat.mod_lt _ (by decide)
  generalize t % 2 = u at *
  generalize t / 2 % (2 ^ 52 - 1) = v at *
  refine ⟨by omega, ?_⟩
  unfold bW
  have h3 : (Ieee.double.read (u * 2 ^ 63 + 0x7ff0000000000000 + 1 + v)).isNaN = true := by
    have hw : Ieee.double.signWeight = 2 ^ 63 := by decide
    have hi : Ieee.double.infRung = 0x7ff0000000000000 := by decide
    have hb : Ieee.double.binade = 2 ^ 52 := by decide
    unfold Ieee.Format.read
    dsimp only
    rw [hw, hi, hb]
    have h4 : (u * 2 ^ 63 + 0x7ff0000000000000 + 1 + v) % 2 ^ 63 = 0x7ff0000000000000 + 1 + v := by omega
    rw [h4, if_neg (by omega), if_neg (by omega), if_neg (by omega)]
    rfl
  rw [h3]; rfl
theorem JF {P : Program} {w : World} {op : BinOp} {t : TypeId} {x y a b : Nat} (D1 : op = .add ∨ op = .sub ∨ op = .mul ∨ op = .quo) (hx : Fl x a) (hy : Fl y b) :
    ∃ r w', (binOp op t (.float .f64 a) (.float .f64 b)).run P w = .ok (.float .f64 r) w' ∧ Fl (jO op x y) r ∧ (w' = w ∨ w' = w.drewN 1) := by
  have e : floatBits op .f64 x y = floatBits op .f64 a b := by rw [← hx.2, ← hy.2, Hu]
  cases h : floatBits op .f64 a b with
  | some r =>
    refine ⟨r, w, run_float_arith w op t .f64 a b r h, ?_, .inl rfl⟩
    unfold jO; rw [e, h]; exact JD h
  | none =>
    refine ⟨(Question.nanBits .f64 a b).cut (w.tape w.drawn (.nanBits .f64 a b)), w.drewN 1, ?_, ?_, .inr rfl⟩
    · have h' := h
      unfold floatBits at h'
      rcases D1 with rfl | rfl | rfl | rfl <;> simp only at h' <;> simp [binOp, Op.floatArith, h', choose, Sem.run, Question.forced, World.drewN]
    · unfold jO; rw [e, h]; exact JE _ _ 0 ⟨_, _, rfl⟩
theorem Hw {P : Program} {w : World} {op : BinOp} {t : TypeId} {x y a b : Nat} (D1 : op = .eql ∨ op = .neq ∨ op = .lss ∨ op = .leq ∨ op = .gtr ∨ op = .geq) (hx : Fl x a) (hy : Fl y b) :
    (binOp op t (.float .f64 a) (.float .f64 b)).run P w = .ok (SV.val (.b (cv op x y))) w := by
  rw [← hx.2, ← hy.2, Ht]
  rcases D1 with rfl | rfl | rfl | rfl | rfl | rfl <;> simp [binOp, Op.floatCmp, SV.val, cv, FloatKind.format]
theorem Hx {P : Program} {w : World} {src dst : TypeId} {n : Int} {q : IntKind} (hs : (P.underlying src).isSome = true) (hd : P.underlying dst = some (.float .f64)) :
    (convert src dst (.int q n)).run P w = .ok (.float .f64 (x9 n)) w := run_convert_int_float w src dst q .f64 n hs hd
theorem Hy {d : Ieee.Datum} (hd : d.isNaN = false) : Fl (Ieee.double.write d) (Ieee.double.write d) := by
  have h2 : Ieee.double.write d < 2 ^ Ieee.double.width := Ieee.Format.write_lt _ _
  have h4 : (Ieee.double.read (Ieee.double.write d)).isNaN = false := sL hd
  have h3 : (2 ^ Ieee.double.width : Nat) = 18446744073709551616 := by decide
  rw [h3] at h2
  refine ⟨h2, ?_⟩
  unfold bW
  rw [if_neg (by rw [h4]; decide)]
theorem E7 (n : Int) : x9 n = Ieee.double.write (.number (n < 0) n.natAbs 0) := by
  unfold x9 floatOfInt FloatKind.nearest FloatKind.encode FloatKind.format
  rfl
theorem JG (n : Int) : Fl (x9 n) (x9 n) := by
  rw [E7]
  exact Hy rfl
def eF : eG UInt64 := ⟨1, fun a => [.float .f64 a.toNat], fun _ => rfl, fun x v h => by rw [List.mem_singleton.1 h]; rfl⟩
instance : Pos eF := ⟨by decide⟩
theorem Fl.u (x : UInt64) : Fl (bW x.toNat) x.toNat := ⟨x.toNat_lt, rfl⟩
theorem Fl.lit {c : Nat} (h : (decide (c < 18446744073709551616) && (bW c == c)) = true) : Fl c c := by
  simp only [Bool.and_eq_true, decide_eq_true_eq, beq_iff_eq] at h
  exact ⟨h.1, h.2⟩
section
variable {P : Program} {n : Nat} {ops : Array Oper} {L : St} {w w0 : World} {F O : Nat → Prop} {Mb : List HP} {K : St → World → Prop}
theorem ki {dst : Option Nat} {Be : BinOp} {t ty : TypeId} {x y : Operand} {pp : TypeId} {pos : String} {me : Array Edge} {g : Option (Nat × Bool)} (ss : List Nat) (d : Nat) {X Y u v : Nat}
    (hs : (w8 ops ss L ⟨dst, .binOp Be t x y pp, ty, pos, me, g⟩, dst, (decide (d < n)), (L.any fun p => p.1 == d), (toSS [x, y] (lk L)).map SV.ad) = (true, some d, true, false, some [.float .f64 u, .float .f64 v]))
    (D1 : Be = .add ∨ Be = .sub ∨ Be = .mul ∨ Be = .quo) (hx : Fl X u) (hy : Fl Y v) (k : Cx F O w0 w Mb) (hk : ∀ r w', Fl (jO Be X Y) r → Cx F O w0 w' Mb → K ((d, .v (.float .f64 r)) :: L) w') :
    wa P n ops L w ⟨dst, .binOp Be t x y pp, ty, pos, me, g⟩ K := by
  simp only [Prod.mk.injEq, Option.map_eq_some_iff, decide_eq_true_eq] at hs
  obtain ⟨s1, rfl, s3, s4, ⟨svs, s5, s6⟩⟩ := hs
  refine sI (xs := [x, y]) (svs := svs) ss (d := d) (by simp [wz, s1, s3, s4, s5]) fun a ha he => ?_
  rw [s6] at he
  simp only [List.map_cons, List.map_nil, List.cons.injEq, and_true] at he
  obtain ⟨r, w', h1, h2, h3⟩ := JF (P := P) (w := w) (t := t) D1 hx hy
  have hg : (eqGuard Be t x y (.float .f64 u) (.float .f64 v)).run P w = .ok () w := by
    rcases D1 with rfl | rfl | rfl | rfl <;> rfl
  unfold Oper.wp execOp
  simp only [he.1, he.2, Sem.run_bind, hg, h1, Result.andThen_ok, Sem.run_pure]
  refine ⟨.v (.float .f64 r), rfl, hk r w' h2 ?_⟩
  rcases h3 with rfl | rfl
  · exact k
  · exact k.drew 1
theorem gG {dst : Option Nat} {Be : BinOp} {t ty : TypeId} {x y : Operand} {pp : TypeId} {pos : String} {me : Array Edge} {g : Option (Nat × Bool)} (ss : List Nat) (d : Nat) {X Y u v : Nat}
    (hs : (w8 ops ss L ⟨dst, .binOp Be t x y pp, ty, pos, me, g⟩, dst, (decide (d < n)), (L.any fun p => p.1 == d), (toSS [x, y] (lk L)).map SV.ad) = (true, some d, true, false, some [.float .f64 u, .float .f64 v]))
    (D1 : Be = .eql ∨ Be = .neq ∨ Be = .lss ∨ Be = .leq ∨ Be = .gtr ∨ Be = .geq) (hx : Fl X u) (hy : Fl Y v) (hk : K ((d, .b (cv Be X Y)) :: L) w) :
    wa P n ops L w ⟨dst, .binOp Be t x y pp, ty, pos, me, g⟩ K := by
  simp only [Prod.mk.injEq, Option.map_eq_some_iff, decide_eq_true_eq] at hs
  obtain ⟨s1, rfl, s3, s4, ⟨svs, s5, s6⟩⟩ := hs
  refine sI (xs := [x, y]) (svs := svs) ss (d := d) (by simp [wz, s1, s3, s4, s5]) fun a ha he => ?_
  rw [s6] at he
  simp only [List.map_cons, List.map_nil, List.cons.injEq, and_true] at he
  have h1 := Hw (P := P) (w := w) (t := t) D1 hx hy
  have hg : (eqGuard Be t x y (.float .f64 u) (.float .f64 v)).run P w = .ok () w := by
    rcases D1 with rfl | rfl | rfl | rfl | rfl | rfl <;> rfl
  unfold Oper.wp execOp
  simp only [he.1, he.2, Sem.run_bind, hg, h1, Result.andThen_ok, Sem.run_pure]
  exact ⟨.b (cv Be X Y), rfl, hk⟩
theorem JH {dst : Option Nat} {src t ty : TypeId} {x : Operand} {pos : String} {me : Array Edge} {g : Option (Nat × Bool)} (ss : List Nat) (d : Nat) {q : IntKind} {m : Int}
    (hs : (w8 ops ss L ⟨dst, .convert src t x, ty, pos, me, g⟩, dst, (decide (d < n)), (L.any fun p => p.1 == d), (toSS [x] (lk L)).map SV.ad, (P.underlying src).isSome, P.underlying t) = (true, some d, true, false, some [.int q m], true, some (.float .f64)))
    (hk : K ((d, .v (.float .f64 (x9 m))) :: L) w) : wa P n ops L w ⟨dst, .convert src t x, ty, pos, me, g⟩ K := by
  simp only [Prod.mk.injEq, Option.map_eq_some_iff, decide_eq_true_eq] at hs
  obtain ⟨s1, rfl, s3, s4, ⟨svs, s5, s6⟩, s7, s8⟩ := hs
  refine sI (xs := [x]) (svs := svs) ss (d := d) (by simp [wz, s1, s3, s4, s5]) fun a ha he => ?_
  rw [s6] at he
  simp only [List.map_cons, List.map_nil, List.cons.injEq, and_true] at he
  unfold Oper.wp execOp
  simp only [he, Sem.run_bind, Hx s7 s8, Result.andThen_ok, Sem.run_pure]
  exact ⟨.v (.float .f64 (x9 m)), rfl, hk⟩
end
section
variable {P : Program} {n : Nat} {ops : Array Oper} {L : St} {w : World} {K : St → World → Prop}
end
end Go.Sx
namespace Go.Sx
open Go.RowKit
set_option linter.unusedSimpArgs false
set_option linter.unusedVariables false
section
variable {H : Type} {enc : TypeId × Value → H} {P : Program} {w : World} {held : Bool}
theorem Eg {k : FloatKind} {t : TypeId} {base : Nat} {spare : Nat → Bool} {fuel : Nat} {cs : List Value} {x : DataW H × List MemPlace} (ht : P.underlying t = some (.float k)) (h : DataW.trod enc P w base spare held fuel t cs = some x) : ∃ b, cs = [.float k b] ∧ x = (.lit (.float k b), []) ∧ (Lit.float k b).wf = true := by
  cases fuel with
  | zero => simp [DataW.trod] at h
  | succ n =>
    unfold DataW.trod at h
    rw [ht] at h
    split at h <;> simp_all
theorem MF {b : Nat} (h : (Lit.float .f64 b).wf = true) : b < 18446744073709551616 := by
  simpa [Lit.wf] using h
theorem Gi {t e : TypeId} {fuel : Nat} {cs : List Value} {x : DataW H × List MemPlace} (ht : P.underlying t = some (.slice e)) (he : P.underlying e = some (.float .f64)) (Pn : P.cellsOf e = 1)
    (h : DataW.trod enc P w 0 (fun _ => true) held fuel t cs = some x) :
    ∃ (A : Option Addr) (len cap : Nat) (xs : List UInt64), cs = [.slice A len cap] ∧ Ro N0 w A (eF.all xs) ∧ xs.length = len ∧ len ≤ cap ∧ (xs = [] ∨ ∃ ds rest, x.1 = .slice ds rest ∧ xs.length = ds.length) := by
  obtain ⟨A, len, cap, ys, xs, h1, h2, h3, h4, h5⟩ := JA eF (fun y z => y = z) (fun _ _ => True) ht Pn (fun f c x hx => by
    obtain ⟨b, rfl, _, hw⟩ := Eg he hx
    refine ⟨UInt64.ofNat b, UInt64.ofNat b, ?_, rfl, trivial⟩
    show _ = [Value.float .f64 (UInt64.ofNat b).toNat]
    rw [UInt64.toNat_ofNat_of_lt' (MF hw)]) h
  have e : ys = xs := by
    refine List.ext_getElem h2.len fun i q1 q2 => ?_
    exact h2.el i _ _ (List.getElem?_eq_getElem q1) (List.getElem?_eq_getElem q2)
  subst e
  refine ⟨A, len, cap, ys, h1, h2.ro, h3, h4, ?_⟩
  rcases h5 with h | ⟨ds, rest, h6, h7⟩
  · exact .inl h
  · refine .inr ⟨ds, rest, h6, ?_⟩
    have key : ∀ (ds : List (DataW H)) (xs : List UInt64), Ed (fun _ _ => True) ds xs → xs.length = ds.length := by
      intro ds
      induction ds with
      | nil => intro xs hq; cases xs with
        | nil => rfl
        | cons => exact hq.elim
      | cons d ds ih => intro xs hq; cases xs with
        | nil => exact hq.elim
        | cons x xs => simp [ih xs hq.2]
    exact key _ _ h7
end
end Go.Sx
namespace Go.Sx
open Go.RowKit
set_option linter.unusedVariables false
noncomputable def l9 (k_ : Int) : Option (Int × Int × Int) :=
  if k_ = 1 then (some ((64 : Int), (64 : Int), (16 : Int))) else (if k_ = 2 then (some ((32 : Int), (32 : Int), (8 : Int))) else (some ((0 : Int), (0 : Int), (0 : Int))))
noncomputable def iz (n : Int) (lo : Int) (hi : Int) : Option Bool :=
  some ((decide (lo ≤ n)) && (decide (n ≤ hi)))
noncomputable def mX  : Option Int :=
  some (0 : Int)
noncomputable def lz (k_ : Int) (ca : UInt32) (av : Int) (bB : Int) (bP : List UInt8) (au : List UInt8) (r_ : (Int × Int × Int)) (aC : Bool) : Option Int :=
  if aC = true then (some (23 : Int)) else (if ((decide (k_ = 2)) && (decide ((65535 : UInt32) < ca))) = true then (some (24 : Int)) else ((iz av (0 : Int) (255 : Int)).bind fun bH => if (!bH) = true then (some (25 : Int)) else ((iz bB (0 : Int) r_.2.1).bind fun cW => if (!cW) = true then (some (26 : Int)) else (if r_.2.2 < ((bP.length : Nat) : Int) then (some (27 : Int)) else (if r_.2.2 < ((au.length : Nat) : Int) then (some (28 : Int)) else (mX))))))
noncomputable def kf (k_ : Int) (bc : Int) (dy : Int) (bj : Int) (bG : Int) (aW : UInt64) (ca : UInt32) (av : Int) (bB : Int) (bP : List UInt8) (au : List UInt8) (r_ : (Int × Int × Int)) (least : Int) : Option Int :=
  (iz bc (1 : Int) r_.2.1).bind fun ah => if (!ah) = true then (some (20 : Int)) else ((iz dy (0 : Int) r_.2.1).bind fun bh => if (!bh) = true then (some (8 : Int)) else ((iz bj (0 : Int) (255 : Int)).bind fun cD => if (!cD) = true then (some (21 : Int)) else ((iz bG least (255 : Int)).bind fun fi => if (!fi) = true then (some (22 : Int)) else (if ((decide (ca ≠ 0)) && (decide ((4294967296 : UInt64) ≤ aW))) = true then (lz k_ ca av bB bP au r_ ((decide (ca ≠ 0)) && (decide ((4294967296 : UInt64) ≤ aW)))) else (lz k_ ca av bB bP au r_ (((decide (ca = 0)) && (decide (k_ = 2))) && (decide ((281474976710656 : UInt64) ≤ aW))))))))
noncomputable def jl (k_ : Int) (bc : Int) (dy : Int) (bj : Int) (bG : Int) (cX : UInt32) (aW : UInt64) (ca : UInt32) (av : Int) (bB : Int) (bP : List UInt8) (au : List UInt8) : Option Int :=
  (l9 k_).bind fun r_ => if r_.2.1 = 0 then (some (1 : Int)) else (if ca ≠ 0 then (kf k_ bc dy bj bG aW ca av bB bP au r_ (0 : Int)) else (kf k_ bc dy bj bG aW ca av bB bP au r_ (1 : Int)))
noncomputable def lQ (k_ : Int) : Option (List (Int × Int × Int × List UInt8 × Int)) :=
  if k_ = 1 then (some ([((1 : Int), (0 : Int), (1 : Int), ([100, 105, 103, 101, 115, 116] : List UInt8), (20 : Int)), ((2 : Int), (1 : Int), (1 : Int), ([107, 101, 121] : List UInt8), (8 : Int)), ((3 : Int), (2 : Int), (1 : Int), ([102, 97, 110, 111, 117, 116] : List UInt8), (21 : Int)), ((4 : Int), (3 : Int), (1 : Int), ([100, 101, 112, 116, 104] : List UInt8), (22 : Int)), ((5 : Int), (4 : Int), (4 : Int), ([108, 101, 97, 102] : List UInt8), (1 : Int)), ((6 : Int), (8 : Int), (8 : Int), ([111, 102, 102, 115, 101, 116] : List UInt8), (23 : Int)), ((7 : Int), (12 : Int), (4 : Int), ([120, 111, 102] : List UInt8), (24 : Int)), ((8 : Int), (16 : Int), (1 : Int), ([110, 111, 100, 101] : List UInt8), (25 : Int)), ((9 : Int), (17 : Int), (1 : Int), ([105, 110, 110, 101, 114] : List UInt8), (26 : Int))] : List (Int × Int × Int × List UInt8 × Int))) else ((aN ([((1 : Int), (0 : Int), (1 : Int), ([100, 105, 103, 101, 115, 116] : List UInt8), (20 : Int)), ((2 : Int), (1 : Int), (1 : Int), ([107, 101, 121] : List UInt8), (8 : Int)), ((3 : Int), (2 : Int), (1 : Int), ([102, 97, 110, 111, 117, 116] : List UInt8), (21 : Int)), ((4 : Int), (3 : Int), (1 : Int), ([100, 101, 112, 116, 104] : List UInt8), (22 : Int)), ((5 : Int), (4 : Int), (4 : Int), ([108, 101, 97, 102] : List UInt8), (1 : Int)), ((6 : Int), (8 : Int), (8 : Int), ([111, 102, 102, 115, 101, 116] : List UInt8), (23 : Int)), ((7 : Int), (12 : Int), (4 : Int), ([120, 111, 102] : List UInt8), (24 : Int)), ((8 : Int), (16 : Int), (1 : Int), ([110, 111, 100, 101] : List UInt8), (25 : Int)), ((9 : Int), (17 : Int), (1 : Int), ([105, 110, 110, 101, 114] : List UInt8), (26 : Int))] : List (Int × Int × Int × List UInt8 × Int)) (5 : Int)).bind fun aC => (aN (([((1 : Int), (0 : Int), (1 : Int), ([100, 105, 103, 101, 115, 116] : List UInt8), (20 : Int)), ((2 : Int), (1 : Int), (1 : Int), ([107, 101, 121] : List UInt8), (8 : Int)), ((3 : Int), (2 : Int), (1 : Int), ([102, 97, 110, 111, 117, 116] : List UInt8), (21 : Int)), ((4 : Int), (3 : Int), (1 : Int), ([100, 101, 112, 116, 104] : List UInt8), (22 : Int)), ((5 : Int), (4 : Int), (4 : Int), ([108, 101, 97, 102] : List UInt8), (1 : Int)), ((6 : Int), (8 : Int), (8 : Int), ([111, 102, 102, 115, 101, 116] : List UInt8), (23 : Int)), ((7 : Int), (12 : Int), (4 : Int), ([120, 111, 102] : List UInt8), (24 : Int)), ((8 : Int), (16 : Int), (1 : Int), ([110, 111, 100, 101] : List UInt8), (25 : Int)), ((9 : Int), (17 : Int), (1 : Int), ([105, 110, 110, 101, 114] : List UInt8), (26 : Int))] : List (Int × Int × Int × List UInt8 × Int)).set (Int.toNat (5 : Int)) (aC.1, aC.2.1, (6 : Int), aC.2.2.2.1, aC.2.2.2.2)) (6 : Int)).bind fun eL => (aN ((([((1 : Int), (0 : Int), (1 : Int), ([100, 105, 103, 101, 115, 116] : List UInt8), (20 : Int)), ((2 : Int), (1 : Int), (1 : Int), ([107, 101, 121] : List UInt8), (8 : Int)), ((3 : Int), (2 : Int), (1 : Int), ([102, 97, 110, 111, 117, 116] : List UInt8), (21 : Int)), ((4 : Int), (3 : Int), (1 : Int), ([100, 101, 112, 116, 104] : List UInt8), (22 : Int)), ((5 : Int), (4 : Int), (4 : Int), ([108, 101, 97, 102] : List UInt8), (1 : Int)), ((6 : Int), (8 : Int), (8 : Int), ([111, 102, 102, 115, 101, 116] : List UInt8), (23 : Int)), ((7 : Int), (12 : Int), (4 : Int), ([120, 111, 102] : List UInt8), (24 : Int)), ((8 : Int), (16 : Int), (1 : Int), ([110, 111, 100, 101] : List UInt8), (25 : Int)), ((9 : Int), (17 : Int), (1 : Int), ([105, 110, 110, 101, 114] : List UInt8), (26 : Int))] : List (Int × Int × Int × List UInt8 × Int)).set (Int.toNat (5 : Int)) (aC.1, aC.2.1, (6 : Int), aC.2.2.2.1, aC.2.2.2.2)).set (Int.toNat (6 : Int)) (eL.1, eL.2.1, (2 : Int), eL.2.2.2.1, eL.2.2.2.2)) (7 : Int)).bind fun ej => (aN (((([((1 : Int), (0 : Int), (1 : Int), ([100, 105, 103, 101, 115, 116] : List UInt8), (20 : Int)), ((2 : Int), (1 : Int), (1 : Int), ([107, 101, 121] : List UInt8), (8 : Int)), ((3 : Int), (2 : Int), (1 : Int), ([102, 97, 110, 111, 117, 116] : List UInt8), (21 : Int)), ((4 : Int), (3 : Int), (1 : Int), ([100, 101, 112, 116, 104] : List UInt8), (22 : Int)), ((5 : Int), (4 : Int), (4 : Int), ([108, 101, 97, 102] : List UInt8), (1 : Int)), ((6 : Int), (8 : Int), (8 : Int), ([111, 102, 102, 115, 101, 116] : List UInt8), (23 : Int)), ((7 : Int), (12 : Int), (4 : Int), ([120, 111, 102] : List UInt8), (24 : Int)), ((8 : Int), (16 : Int), (1 : Int), ([110, 111, 100, 101] : List UInt8), (25 : Int)), ((9 : Int), (17 : Int), (1 : Int), ([105, 110, 110, 101, 114] : List UInt8), (26 : Int))] : List (Int × Int × Int × List UInt8 × Int)).set (Int.toNat (5 : Int)) (aC.1, aC.2.1, (6 : Int), aC.2.2.2.1, aC.2.2.2.2)).set (Int.toNat (6 : Int)) (eL.1, eL.2.1, (2 : Int), eL.2.2.2.1, eL.2.2.2.2)).set (Int.toNat (7 : Int)) (ej.1, (14 : Int), ej.2.2.1, ej.2.2.2.1, ej.2.2.2.2)) (8 : Int)).bind fun fg => some ((((([((1 : Int), (0 : Int), (1 : Int), ([100, 105, 103, 101, 115, 116] : List UInt8), (20 : Int)), ((2 : Int), (1 : Int), (1 : Int), ([107, 101, 121] : List UInt8), (8 : Int)), ((3 : Int), (2 : Int), (1 : Int), ([102, 97, 110, 111, 117, 116] : List UInt8), (21 : Int)), ((4 : Int), (3 : Int), (1 : Int), ([100, 101, 112, 116, 104] : List UInt8), (22 : Int)), ((5 : Int), (4 : Int), (4 : Int), ([108, 101, 97, 102] : List UInt8), (1 : Int)), ((6 : Int), (8 : Int), (8 : Int), ([111, 102, 102, 115, 101, 116] : List UInt8), (23 : Int)), ((7 : Int), (12 : Int), (4 : Int), ([120, 111, 102] : List UInt8), (24 : Int)), ((8 : Int), (16 : Int), (1 : Int), ([110, 111, 100, 101] : List UInt8), (25 : Int)), ((9 : Int), (17 : Int), (1 : Int), ([105, 110, 110, 101, 114] : List UInt8), (26 : Int))] : List (Int × Int × Int × List UInt8 × Int)).set (Int.toNat (5 : Int)) (aC.1, aC.2.1, (6 : Int), aC.2.2.2.1, aC.2.2.2.2)).set (Int.toNat (6 : Int)) (eL.1, eL.2.1, (2 : Int), eL.2.2.2.1, eL.2.2.2.2)).set (Int.toNat (7 : Int)) (ej.1, (14 : Int), ej.2.2.1, ej.2.2.2.1, ej.2.2.2.2)).set (Int.toNat (8 : Int)) (fg.1, (15 : Int), fg.2.2.1, fg.2.2.2.1, fg.2.2.2.2)))
noncomputable def pA (bc : Int) (dy : Int) (bj : Int) (bG : Int) (cX : UInt32) (aW : UInt64) (ca : UInt32) (av : Int) (bB : Int) (bP : List UInt8) (au : List UInt8) (field : Int) : Option UInt64 :=
  if field = 1 then (some (UInt64.ofInt bc)) else (if field = 2 then (some (UInt64.ofInt dy)) else (if field = 3 then (some (UInt64.ofInt bj)) else (if field = 4 then (some (UInt64.ofInt bG)) else (if field = 5 then (some (UInt64.ofNat cX.toNat)) else (if field = 6 then (some aW) else (if field = 7 then (some (UInt64.ofNat ca.toNat)) else (if field = 8 then (some (UInt64.ofInt av)) else (some (UInt64.ofInt bB)))))))))
noncomputable def mz (at_ : Int) (size : Int) (v : UInt64) : (List UInt8 × Int) → Option ((List UInt8 × Int) ⊕ (List UInt8))
  | (b1, aC) => if aC < size then ((o9 (0 ≤ aB (8 * aC))).bind fun u => (aN b1 (aB (at_ + aC))).bind fun eL => some (.inl (b1.set (Int.toNat (aB (at_ + aC))) (UInt8.ofNat (aJ v (Int.toNat (aB (8 * aC)))).toNat), aB (aC + 1)))) else (Option.map Sum.inr (some b1))
noncomputable def pK (b : List UInt8) (at_ : Int) (size : Int) (v : UInt64) : Option (List UInt8) :=
  bO (mz at_ size v) (b, (0 : Int))
noncomputable def mj (aC : Int) (b1 : List UInt8) : Option ((List UInt8 × Int) ⊕ (List UInt8 × Int)) :=
  some (.inl (b1, aB (aC + 1)))
noncomputable def kX (aC : Int) (b2 : List UInt8) : Option ((List UInt8 × Int) ⊕ (List UInt8 × Int)) :=
  mj aC b2
noncomputable def jH (bc : Int) (dy : Int) (bj : Int) (bG : Int) (cX : UInt32) (aW : UInt64) (ca : UInt32) (av : Int) (bB : Int) (bP : List UInt8) (au : List UInt8) (ah : (Int × Int × Int)) (bh : (List (Int × Int × Int × List UInt8 × Int))) : (List UInt8 × Int) → Option ((List UInt8 × Int) ⊕ (List UInt8 × Int))
  | (b, aC) => if aC < ((bh.length : Nat) : Int) then ((aN bh aC).bind fun ej => if ((decide (ej.1 = 7)) && (decide (ca = 0))) = true then (kX aC b) else ((pA bc dy bj bG cX aW ca av bB bP au ej.1).bind fun cD => (pK b ej.2.1 ej.2.2.1 cD).bind fun fi => kX aC fi)) else (Option.map Sum.inr ((x5 b (aB (ah.1 - (aB (2 * ah.2.2)))) ((Int.toNat ah.1 : Nat) : Int)).bind fun b3 => (x5 (DK b (Int.toNat (aB (ah.1 - (aB (2 * ah.2.2))))) b3.length bP) (aB (ah.1 - ah.2.2)) ((Int.toNat ah.1 : Nat) : Int)).bind fun b4 => some (DK (DK b (Int.toNat (aB (ah.1 - (aB (2 * ah.2.2))))) b3.length bP) (Int.toNat (aB (ah.1 - ah.2.2))) b4.length au, (0 : Int))))
noncomputable def kj (k_ : Int) (bc : Int) (dy : Int) (bj : Int) (bG : Int) (cX : UInt32) (aW : UInt64) (ca : UInt32) (av : Int) (bB : Int) (bP : List UInt8) (au : List UInt8) : Option (List UInt8 × Int) :=
  (jl k_ bc dy bj bG cX aW ca av bB bP au).bind fun r_ => if r_ ≠ 0 then (some (([] : List UInt8), r_)) else ((l9 k_).bind fun ah => (o9 ((0 : Int) ≤ ah.1 ∧ (ah.1 : Int) ≤ ah.1 ∧ Int.toNat ah.1 * 1 ≤ 140737488355328)).bind fun u => (lQ k_).bind fun bh => bO (jH bc dy bj bG cX aW ca av bB bP au ah bh) (List.replicate (Int.toNat ah.1) (0 : UInt8), (0 : Int)))
noncomputable def sM  : Option (ae UInt64 8) :=
  some (⟨[(7640891576956012808 : UInt64), (13503953896175478587 : UInt64), (4354685564936845355 : UInt64), (11912009170470909681 : UInt64), (5840696475078001361 : UInt64), (11170449401992604703 : UInt64), (2270897969802886507 : UInt64), (6620516959819538809 : UInt64)], rfl⟩ : ae UInt64 8)
noncomputable def oB (b : List UInt8) (at_ : Int) (n : Int) : (UInt64 × Int) → Option ((UInt64 × Int) ⊕ (UInt64 × Int))
  | (w_, aC) => if aC < n then ((aN b (aB (at_ + aC))).bind fun ej => (o9 (0 ≤ aB (8 * aC))).bind fun u => some (.inl (w_ ||| (aE (UInt64.ofNat ej.toNat) (Int.toNat (aB (8 * aC)))), aB (aC + 1)))) else (Option.map Sum.inr (some (w_, (0 : Int))))
noncomputable def oo (b : List UInt8) (at_ : Int) (n : Int) : Option (UInt64 × Int) :=
  if at_ < 0 then (some ((0 : UInt64), (1 : Int))) else (if ((decide (((b.length : Nat) : Int) < at_)) || (decide ((aB (((b.length : Nat) : Int) - at_)) < n))) = true then (some ((0 : UInt64), (3 : Int))) else (bO (oB b at_ n) ((0 : UInt64), (0 : Int))))
noncomputable def iw (b : List UInt8) (at_ : Int) : Option (UInt64 × Int) :=
  (oo b at_ (8 : Int)).bind fun r_ => some (r_.1, r_.2)
noncomputable def nN (block : List UInt8) : (ae UInt64 8 × Int) → Option ((ae UInt64 8 × Int) ⊕ (ae UInt64 8 × Int))
  | (h, aC) => if aC < 8 then ((iw block (aB (8 * aC))).bind fun ah => (aN h.l aC).bind fun ej => (aN h.l aC).bind fun fg => (some (hK h aC (ej ^^^ ah.1))).bind fun v => some (.inl (v, aB (aC + 1)))) else (Option.map Sum.inr (some (h, (0 : Int))))
noncomputable def oC (block : List UInt8) : Option (ae UInt64 8 × Int) :=
  if ((block.length : Nat) : Int) ≠ 64 then (some ((ae.rep 8 ((0 : UInt64) : UInt64)), (1 : Int))) else ((sM).bind fun r_ => bO (nN block) (r_, (0 : Int)))
noncomputable def qN (b : List UInt8) (n : Int) : Option Int :=
  if ((b.length : Nat) : Int) < n then (some (3 : Int)) else (if n < ((b.length : Nat) : Int) then (some (2 : Int)) else (some (0 : Int)))
noncomputable def sk (b : List UInt8) (at_ : Int) : Option (UInt32 × Int) :=
  (oo b at_ (4 : Int)).bind fun r_ => some (UInt32.ofNat r_.1.toNat, r_.2)
noncomputable def qh (m_ : List UInt32) (b : List UInt8) : (List UInt32 × Int) → Option ((List UInt32 × Int) ⊕ (List UInt32))
  | (xp, aC) => if aC < ((m_.length : Nat) : Int) then ((sk b (aB (4 * aC))).bind fun r_ => (aN xp aC).bind fun eL => some (.inl (xp.set (Int.toNat aC) r_.1, aB (aC + 1)))) else (Option.map Sum.inr (some xp))
noncomputable def qO (m_ : List UInt32) (b : List UInt8) : Option (List UInt32) :=
  bO (qh m_ b) (m_, (0 : Int))
noncomputable def vo  : Option (ae UInt32 8) :=
  some (⟨[(1779033703 : UInt32), (3144134277 : UInt32), (1013904242 : UInt32), (2773480762 : UInt32), (1359893119 : UInt32), (2600822924 : UInt32), (528734635 : UInt32), (1541459225 : UInt32)], rfl⟩ : ae UInt32 8)
noncomputable def qi (ah : (List UInt32)) : (ae UInt32 8 × Int) → Option ((ae UInt32 8 × Int) ⊕ (ae UInt32 8 × Int))
  | (h, aC) => if aC < 8 then ((aN h.l aC).bind fun ej => (aN (ae.of 8 ah).l aC).bind fun fg => (aN h.l aC).bind fun ll => (some (hK h aC (ej ^^^ fg))).bind fun v => some (.inl (v, aB (aC + 1)))) else (Option.map Sum.inr (some (h, (0 : Int))))
noncomputable def te (block : List UInt8) : Option (ae UInt32 8 × Int) :=
  (qN block (32 : Int)).bind fun r_ => if r_ ≠ 0 then (some ((ae.rep 8 ((0 : UInt32) : UInt32)), r_)) else ((qO ((ae.rep 8 (0 : UInt32)).l) block).bind fun ah => (vo).bind fun bh => bO (qi ah) (bh, (0 : Int)))
noncomputable def qP (k_ : Int) (block : List UInt8) : Option ((ae UInt64 8 × List UInt8) ⊕ (ae UInt32 8 × List UInt8)) :=
  if k_ = 1 then ((oC block).bind fun r_ => some (Sum.inl (r_.1, ([] : List UInt8)))) else ((te block).bind fun ah => some (Sum.inr (ah.1, ([] : List UInt8))))
noncomputable def iA (k_ : Int) : Option Int :=
  if k_ = 1 then (some (128 : Int)) else (some (64 : Int))
noncomputable def j9 (b : List UInt8) (n : Int) : Option (List UInt8) :=
  (o9 ((0 : Int) ≤ (0 : Int) ∧ ((0 : Int) : Int) ≤ n ∧ Int.toNat n * 1 ≤ 140737488355328)).bind fun u => (app (List.replicate (Int.toNat (0 : Int)) (0 : UInt8)) b 1).bind fun b1 => (Jy b1 (aB (n - ((b.length : Nat) : Int))) (0 : UInt8) 1).bind fun b2 => some b2
noncomputable def lR (oz : UInt64) (pd : UInt64) (n : UInt64) : Option (UInt64 × UInt64 × Bool) :=
  (C4 oz n (0 : UInt64)).bind fun r_ => (C4 pd (0 : UInt64) r_.2).bind fun ah => some (r_.1, ah.1, decide (ah.2 = 1))
noncomputable def l5 (b : List UInt8) : (ae UInt64 16 × Int) → Option ((ae UInt64 16 × Int) ⊕ (ae UInt64 16 × Int))
  | (m_, aC) => if aC < 16 then ((iw b (aB (8 * aC))).bind fun r_ => (aN m_.l aC).bind fun ej => (some (hK m_ aC r_.1)).bind fun v => some (.inl (v, aB (aC + 1)))) else (Option.map Sum.inr (some (m_, (0 : Int))))
noncomputable def oD (b : List UInt8) : Option (ae UInt64 16 × Int) :=
  if ((b.length : Nat) : Int) ≠ 128 then (some ((ae.rep 16 (0 : UInt64)), (1 : Int))) else (bO (l5 b) ((ae.rep 16 (0 : UInt64)), (0 : Int)))
noncomputable def oE (v4 : ae UInt64 16) : Option (ae UInt64 16) :=
  some v4
noncomputable def oF (node : Bool) (v2 : ae UInt64 16) : Option (ae UInt64 16) :=
  if node = true then ((aN v2.l (15 : Int)).bind fun l6 => (aN v2.l (15 : Int)).bind fun lG => (some (hK v2 (15 : Int) (18446744073709551615 ^^^ l6))).bind fun v5 => oE v5) else (oE v2)
noncomputable def rX (h : ae UInt64 8) (gP : UInt64) (gQ : UInt64) (last : Bool) (node : Bool) : Option (ae UInt64 16) :=
  (x5 ((ae.rep 16 (0 : UInt64)).l) 0 (8 : Int)).bind fun b => (sM).bind fun r_ => (x5 ((tP (ae.rep 16 (0 : UInt64)) 0 b.length h.l).l) (8 : Int) ((16 : Nat) : Int)).bind fun b1 => (aN (tP (tP (ae.rep 16 (0 : UInt64)) 0 b.length h.l) (Int.toNat (8 : Int)) b1.length r_.l).l (12 : Int)).bind fun aC => (aN (tP (tP (ae.rep 16 (0 : UInt64)) 0 b.length h.l) (Int.toNat (8 : Int)) b1.length r_.l).l (12 : Int)).bind fun eL => (some (hK (tP (tP (ae.rep 16 (0 : UInt64)) 0 b.length h.l) (Int.toNat (8 : Int)) b1.length r_.l) (12 : Int) (aC ^^^ gP))).bind fun v => (aN v.l (13 : Int)).bind fun ej => (aN v.l (13 : Int)).bind fun fg => (some (hK v (13 : Int) (ej ^^^ gQ))).bind fun v1 => if last = true then ((aN v1.l (14 : Int)).bind fun ll => (aN v1.l (14 : Int)).bind fun ln => (some (hK v1 (14 : Int) (18446744073709551615 ^^^ ll))).bind fun v3 => oF node v3) else (oF node v1)
noncomputable def oG (round : Int) : Option (ae Int 16) :=
  (aN (⟨[(⟨[(0 : Int), (1 : Int), (2 : Int), (3 : Int), (4 : Int), (5 : Int), (6 : Int), (7 : Int), (8 : Int), (9 : Int), (10 : Int), (11 : Int), (12 : Int), (13 : Int), (14 : Int), (15 : Int)], rfl⟩ : ae Int 16), (⟨[(14 : Int), (10 : Int), (4 : Int), (8 : Int), (9 : Int), (15 : Int), (13 : Int), (6 : Int), (1 : Int), (12 : Int), (0 : Int), (2 : Int), (11 : Int), (7 : Int), (5 : Int), (3 : Int)], rfl⟩ : ae Int 16), (⟨[(11 : Int), (8 : Int), (12 : Int), (0 : Int), (5 : Int), (2 : Int), (15 : Int), (13 : Int), (10 : Int), (14 : Int), (3 : Int), (6 : Int), (7 : Int), (1 : Int), (9 : Int), (4 : Int)], rfl⟩ : ae Int 16), (⟨[(7 : Int), (9 : Int), (3 : Int), (1 : Int), (13 : Int), (12 : Int), (11 : Int), (14 : Int), (2 : Int), (6 : Int), (5 : Int), (10 : Int), (4 : Int), (0 : Int), (15 : Int), (8 : Int)], rfl⟩ : ae Int 16), (⟨[(9 : Int), (0 : Int), (5 : Int), (7 : Int), (2 : Int), (4 : Int), (10 : Int), (15 : Int), (14 : Int), (1 : Int), (11 : Int), (12 : Int), (6 : Int), (8 : Int), (3 : Int), (13 : Int)], rfl⟩ : ae Int 16), (⟨[(2 : Int), (12 : Int), (6 : Int), (10 : Int), (0 : Int), (11 : Int), (8 : Int), (3 : Int), (4 : Int), (13 : Int), (7 : Int), (5 : Int), (15 : Int), (14 : Int), (1 : Int), (9 : Int)], rfl⟩ : ae Int 16), (⟨[(12 : Int), (5 : Int), (1 : Int), (15 : Int), (14 : Int), (13 : Int), (4 : Int), (10 : Int), (0 : Int), (7 : Int), (6 : Int), (3 : Int), (9 : Int), (2 : Int), (8 : Int), (11 : Int)], rfl⟩ : ae Int 16), (⟨[(13 : Int), (11 : Int), (7 : Int), (14 : Int), (12 : Int), (1 : Int), (3 : Int), (9 : Int), (5 : Int), (0 : Int), (15 : Int), (4 : Int), (8 : Int), (6 : Int), (2 : Int), (10 : Int)], rfl⟩ : ae Int 16), (⟨[(6 : Int), (15 : Int), (14 : Int), (9 : Int), (11 : Int), (3 : Int), (0 : Int), (8 : Int), (12 : Int), (2 : Int), (13 : Int), (7 : Int), (1 : Int), (4 : Int), (10 : Int), (5 : Int)], rfl⟩ : ae Int 16), (⟨[(10 : Int), (2 : Int), (8 : Int), (4 : Int), (7 : Int), (6 : Int), (1 : Int), (5 : Int), (15 : Int), (11 : Int), (9 : Int), (14 : Int), (3 : Int), (12 : Int), (13 : Int), (0 : Int)], rfl⟩ : ae Int 16)], rfl⟩ : ae (ae Int 16) 10).l (Int.tmod (aB ((Int.tmod round 10) + 10)) 10)).bind fun aC => some aC
noncomputable def pB  : Option (ae (ae Int 4) 8) :=
  some (⟨[(⟨[(0 : Int), (4 : Int), (8 : Int), (12 : Int)], rfl⟩ : ae Int 4), (⟨[(1 : Int), (5 : Int), (9 : Int), (13 : Int)], rfl⟩ : ae Int 4), (⟨[(2 : Int), (6 : Int), (10 : Int), (14 : Int)], rfl⟩ : ae Int 4), (⟨[(3 : Int), (7 : Int), (11 : Int), (15 : Int)], rfl⟩ : ae Int 4), (⟨[(0 : Int), (5 : Int), (10 : Int), (15 : Int)], rfl⟩ : ae Int 4), (⟨[(1 : Int), (6 : Int), (11 : Int), (12 : Int)], rfl⟩ : ae Int 4), (⟨[(2 : Int), (7 : Int), (8 : Int), (13 : Int)], rfl⟩ : ae Int 4), (⟨[(3 : Int), (4 : Int), (9 : Int), (14 : Int)], rfl⟩ : ae Int 4)], rfl⟩ : ae (ae Int 4) 8)
noncomputable def eJ (x_ : UInt64) (k_ : Int) : Option UInt64 :=
  some ((aE x_ (((UInt64.ofInt k_) &&& 63).toNat)) ||| (aJ x_ (((64 : UInt64) - ((UInt64.ofInt k_) &&& 63)).toNat)))
noncomputable def pL (v : ae UInt64 16) (p : ae Int 4) (x_ : UInt64) (y_ : UInt64) : Option (ae UInt64 16) :=
  (aN p.l (0 : Int)).bind fun ej => (aN p.l (1 : Int)).bind fun fg => (aN p.l (2 : Int)).bind fun ll => (aN p.l (3 : Int)).bind fun ln => (aN v.l ej).bind fun l6 => (aN v.l fg).bind fun lG => (aN v.l ej).bind fun oH => (some (hK v ej (l6 + (lG + x_)))).bind fun v1 => (aN v1.l ln).bind fun ig => (aN v1.l ej).bind fun kY => (eJ (ig ^^^ kY) (-32 : Int)).bind fun r_ => (aN v1.l ln).bind fun ek => (some (hK v1 ln r_)).bind fun v2 => (aN v2.l ll).bind fun qQ => (aN v2.l ln).bind fun rQ => (aN v2.l ll).bind fun tg => (some (hK v2 ll (qQ + rQ))).bind fun v3 => (aN v3.l fg).bind fun qj => (aN v3.l ll).bind fun rR => (eJ (qj ^^^ rR) (-24 : Int)).bind fun ah => (aN v3.l fg).bind fun mY => (some (hK v3 fg ah)).bind fun v4 => (aN v4.l ej).bind fun lA => (aN v4.l fg).bind fun mZ => (aN v4.l ej).bind fun th => (some (hK v4 ej (lA + (mZ + y_)))).bind fun v5 => (aN v5.l ln).bind fun vG => (aN v5.l ej).bind fun AE => (eJ (vG ^^^ AE) (-16 : Int)).bind fun bh => (aN v5.l ln).bind fun B3 => (some (hK v5 ln bh)).bind fun v6 => (aN v6.l ll).bind fun ti => (aN v6.l ln).bind fun vH => (aN v6.l ll).bind fun Gj => (some (hK v6 ll (ti + vH))).bind fun v7 => (aN v7.l fg).bind fun Eh => (aN v7.l ll).bind fun JI => (eJ (Eh ^^^ JI) (-63 : Int)).bind fun cD => (aN v7.l fg).bind fun R3 => (some (hK v7 fg cD)).bind fun v8 => some v8
noncomputable def oJ (m_ : ae UInt64 16) (r_ : (ae Int 16)) (ah : (ae (ae Int 4) 8)) : (ae UInt64 16 × Int) → Option ((ae UInt64 16 × Int) ⊕ (ae UInt64 16 × ae UInt64 16))
  | (v1, aC) => if aC < 8 then ((aN ah.l aC).bind fun ej => (aN r_.l (aB (2 * aC))).bind fun fg => (aN m_.l fg).bind fun ll => (aN r_.l (aB ((aB (2 * aC)) + 1))).bind fun ln => (aN m_.l ln).bind fun l6 => (pL v1 ej ll l6).bind fun bh => some (.inl (bh, aB (aC + 1)))) else (Option.map Sum.inr (some (v1, m_)))
noncomputable def pM (v : ae UInt64 16) (m_ : ae UInt64 16) (round : Int) : Option (ae UInt64 16 × ae UInt64 16) :=
  (oG round).bind fun r_ => (pB).bind fun ah => bO (oJ m_ r_ ah) (v, (0 : Int))
noncomputable def pN (v : ae UInt64 16) : (ae UInt64 8 × Int) → Option ((ae UInt64 8 × Int) ⊕ (ae UInt64 8))
  | (h1, eL) => if eL < 8 then ((aN h1.l eL).bind fun ej => (aN v.l eL).bind fun fg => (aN v.l (aB (eL + 8))).bind fun ll => (aN h1.l eL).bind fun ln => (some (hK h1 eL (ej ^^^ (fg ^^^ ll)))).bind fun v1 => some (.inl (v1, aB (eL + 1)))) else (Option.map Sum.inr (some h1))
noncomputable def pO (h : ae UInt64 8) : (ae UInt64 16 × ae UInt64 16 × Int) → Option ((ae UInt64 16 × ae UInt64 16 × Int) ⊕ (ae UInt64 8))
  | (xp, v, aC) => if aC < 12 then ((pM v xp aC).bind fun ah => some (.inl (ah.2, ah.1, aB (aC + 1)))) else (Option.map Sum.inr (bO (pN v) (h, (0 : Int))))
noncomputable def uw (h : ae UInt64 8) (m_ : ae UInt64 16) (gP : UInt64) (gQ : UInt64) (last : Bool) (node : Bool) : Option (ae UInt64 8) :=
  (rX h gP gQ last node).bind fun r_ => bO (pO h) (m_, r_, (0 : Int))
noncomputable def l_ (h : ae UInt64 8) (b : List UInt8) (oz : UInt64) (pd : UInt64) (last : Bool) (node : Bool) : Option (ae UInt64 8) :=
  (oD b).bind fun r_ => (uw h r_.1 oz pd last node).bind fun ah => some ah
noncomputable def e9 (aA : Int) (b1 : List UInt8) (oH : ae UInt64 8) (ig : UInt64) (kY : UInt64) (ek : List UInt8) : Option ((ae UInt64 8 × UInt64 × UInt64 × List UInt8 × List UInt8) ⊕ (ae UInt64 8 × UInt64 × UInt64 × List UInt8 × Int)) :=
  (x5 b1 0 (if aB (aA - ((ek.length : Nat) : Int)) < ((b1.length : Nat) : Int) then aB (aA - ((ek.length : Nat) : Int)) else ((b1.length : Nat) : Int))).bind fun b3 => (app ek b3 1).bind fun b4 => (x5 b1 (if aB (aA - ((ek.length : Nat) : Int)) < ((b1.length : Nat) : Int) then aB (aA - ((ek.length : Nat) : Int)) else ((b1.length : Nat) : Int)) ((b1.length : Nat) : Int)).bind fun b5 => some (.inl (oH, ig, kY, b4, b5))
noncomputable def ij (aA : Int) : (ae UInt64 8 × UInt64 × UInt64 × List UInt8 × List UInt8) → Option ((ae UInt64 8 × UInt64 × UInt64 × List UInt8 × List UInt8) ⊕ (ae UInt64 8 × UInt64 × UInt64 × List UInt8 × Int))
  | (aC, ln, l6, lG, b1) => if 0 < ((b1.length : Nat) : Int) then (if ((lG.length : Nat) : Int) = aA then ((lR ln l6 (UInt64.ofInt aA)).bind fun r_ => (l_ aC lG r_.1 r_.2.1 false false).bind fun ah => (x5 lG 0 (0 : Int)).bind fun b2 => e9 aA b1 ah r_.1 r_.2.1 b2) else (e9 aA b1 aC ln l6 lG)) else (Option.map Sum.inr (some (aC, ln, l6, lG, aA)))
noncomputable def fM (qU : ae UInt64 8) (bC : UInt64) (bD : UInt64) (cA : List UInt8) (aA : Int) (b : List UInt8) : Option (ae UInt64 8 × UInt64 × UInt64 × List UInt8 × Int) :=
  bO (ij aA) (qU, bC, bD, cA, b)
noncomputable def tj (b : List UInt8) : Option (ae UInt32 16 × Int) :=
  (qN b (64 : Int)).bind fun r_ => if r_ ≠ 0 then (some ((ae.rep 16 (0 : UInt32)), r_)) else ((qO ((ae.rep 16 (0 : UInt32)).l) b).bind fun ah => some ((ae.of 16 ah), (0 : Int)))
noncomputable def nO (v4 : ae UInt32 16) : Option (ae UInt32 16) :=
  some v4
noncomputable def nP (node : Bool) (v2 : ae UInt32 16) : Option (ae UInt32 16) :=
  if node = true then ((aN v2.l (15 : Int)).bind fun l6 => (aN v2.l (15 : Int)).bind fun lG => (some (hK v2 (15 : Int) (4294967295 ^^^ l6))).bind fun v5 => nO v5) else (nO v2)
noncomputable def tk (h : ae UInt32 8) (count : UInt64) (last : Bool) (node : Bool) : Option (ae UInt32 16) :=
  (vo).bind fun r_ => (x5 ((ae.rep 16 (0 : UInt32)).l) 0 (8 : Int)).bind fun b => (x5 ((tP (ae.rep 16 (0 : UInt32)) 0 b.length h.l).l) (8 : Int) ((16 : Nat) : Int)).bind fun b1 => (aN (tP (tP (ae.rep 16 (0 : UInt32)) 0 b.length h.l) (Int.toNat (8 : Int)) b1.length r_.l).l (12 : Int)).bind fun aC => (aN (tP (tP (ae.rep 16 (0 : UInt32)) 0 b.length h.l) (Int.toNat (8 : Int)) b1.length r_.l).l (12 : Int)).bind fun eL => (some (hK (tP (tP (ae.rep 16 (0 : UInt32)) 0 b.length h.l) (Int.toNat (8 : Int)) b1.length r_.l) (12 : Int) (aC ^^^ (UInt32.ofNat count.toNat)))).bind fun v => (aN v.l (13 : Int)).bind fun ej => (aN v.l (13 : Int)).bind fun fg => (some (hK v (13 : Int) (ej ^^^ (UInt32.ofNat (aJ count ((32 : UInt64).toNat)).toNat)))).bind fun v1 => if last = true then ((aN v1.l (14 : Int)).bind fun ll => (aN v1.l (14 : Int)).bind fun ln => (some (hK v1 (14 : Int) (4294967295 ^^^ ll))).bind fun v3 => nP node v3) else (nP node v1)
noncomputable def sn  : Option (ae (ae Int 4) 8) :=
  some (⟨[(⟨[(0 : Int), (4 : Int), (8 : Int), (12 : Int)], rfl⟩ : ae Int 4), (⟨[(1 : Int), (5 : Int), (9 : Int), (13 : Int)], rfl⟩ : ae Int 4), (⟨[(2 : Int), (6 : Int), (10 : Int), (14 : Int)], rfl⟩ : ae Int 4), (⟨[(3 : Int), (7 : Int), (11 : Int), (15 : Int)], rfl⟩ : ae Int 4), (⟨[(0 : Int), (5 : Int), (10 : Int), (15 : Int)], rfl⟩ : ae Int 4), (⟨[(1 : Int), (6 : Int), (11 : Int), (12 : Int)], rfl⟩ : ae Int 4), (⟨[(2 : Int), (7 : Int), (8 : Int), (13 : Int)], rfl⟩ : ae Int 4), (⟨[(3 : Int), (4 : Int), (9 : Int), (14 : Int)], rfl⟩ : ae Int 4)], rfl⟩ : ae (ae Int 4) 8)
noncomputable def iT (x_ : UInt32) (k_ : Int) : Option UInt32 :=
  some ((tO x_ (((UInt64.ofInt k_) &&& 31).toNat)) ||| (lJ x_ (((32 : UInt64) - ((UInt64.ofInt k_) &&& 31)).toNat)))
noncomputable def wC (v : ae UInt32 16) (a_ : Int) (b : Int) (c : Int) (d : Int) (x_ : UInt32) (y_ : UInt32) : Option (ae UInt32 16) :=
  (aN v.l a_).bind fun ej => (aN v.l b).bind fun fg => (aN v.l a_).bind fun ll => (some (hK v a_ (ej + (fg + x_)))).bind fun v1 => (aN v1.l d).bind fun ln => (aN v1.l a_).bind fun l6 => (iT (ln ^^^ l6) (-16 : Int)).bind fun r_ => (aN v1.l d).bind fun lG => (some (hK v1 d r_)).bind fun v2 => (aN v2.l c).bind fun oH => (aN v2.l d).bind fun ig => (aN v2.l c).bind fun kY => (some (hK v2 c (oH + ig))).bind fun v3 => (aN v3.l b).bind fun ek => (aN v3.l c).bind fun qQ => (iT (ek ^^^ qQ) (-12 : Int)).bind fun ah => (aN v3.l b).bind fun rQ => (some (hK v3 b ah)).bind fun v4 => (aN v4.l a_).bind fun tg => (aN v4.l b).bind fun qj => (aN v4.l a_).bind fun rR => (some (hK v4 a_ (tg + (qj + y_)))).bind fun v5 => (aN v5.l d).bind fun mY => (aN v5.l a_).bind fun lA => (iT (mY ^^^ lA) (-8 : Int)).bind fun bh => (aN v5.l d).bind fun mZ => (some (hK v5 d bh)).bind fun v6 => (aN v6.l c).bind fun th => (aN v6.l d).bind fun vG => (aN v6.l c).bind fun AE => (some (hK v6 c (th + vG))).bind fun v7 => (aN v7.l b).bind fun B3 => (aN v7.l c).bind fun ti => (iT (B3 ^^^ ti) (-7 : Int)).bind fun cD => (aN v7.l b).bind fun vH => (some (hK v7 b cD)).bind fun v8 => some v8
noncomputable def qk (m_ : ae UInt32 16) (ah : (ae Int 16)) (bh : (ae (ae Int 4) 8)) : (ae UInt32 16 × Int) → Option ((ae UInt32 16 × Int) ⊕ (ae UInt32 16 × ae UInt32 16))
  | (v1, aC) => if aC < 8 then ((aN bh.l aC).bind fun ej => (aN ej.l (0 : Int)).bind fun fg => (aN ej.l (1 : Int)).bind fun ll => (aN ej.l (2 : Int)).bind fun ln => (aN ej.l (3 : Int)).bind fun l6 => (aN ah.l (aB (2 * aC))).bind fun lG => (aN m_.l lG).bind fun oH => (aN ah.l (aB ((aB (2 * aC)) + 1))).bind fun ig => (aN m_.l ig).bind fun kY => (wC v1 fg ll ln l6 oH kY).bind fun cD => some (.inl (cD, aB (aC + 1)))) else (Option.map Sum.inr (some (v1, m_)))
noncomputable def tm (v : ae UInt32 16) (m_ : ae UInt32 16) (r_ : Int) : Option (ae UInt32 16 × ae UInt32 16) :=
  (oG r_).bind fun ah => (sn).bind fun bh => bO (qk m_ ah bh) (v, (0 : Int))
noncomputable def so (v : ae UInt32 16) : (ae UInt32 8 × Int) → Option ((ae UInt32 8 × Int) ⊕ (ae UInt32 8))
  | (h1, aC) => if aC < 8 then ((aN h1.l aC).bind fun eL => (aN v.l aC).bind fun ej => (aN v.l (aB (aC + 8))).bind fun fg => (aN h1.l aC).bind fun ll => (some (hK h1 aC (eL ^^^ (ej ^^^ fg)))).bind fun v1 => some (.inl (v1, aB (aC + 1)))) else (Option.map Sum.inr (some h1))
noncomputable def wD (h : ae UInt32 8) (v : ae UInt32 16) : Option (ae UInt32 8) :=
  bO (so v) (h, (0 : Int))
noncomputable def ux (h : ae UInt32 8) : (ae UInt32 16 × ae UInt32 16 × Int) → Option ((ae UInt32 16 × ae UInt32 16 × Int) ⊕ (ae UInt32 8))
  | (xp, v, aC) => if aC < 10 then ((tm v xp aC).bind fun ah => some (.inl (ah.2, ah.1, aB (aC + 1)))) else (Option.map Sum.inr ((wD h v).bind fun bh => some bh))
noncomputable def zO (h : ae UInt32 8) (m_ : ae UInt32 16) (count : UInt64) (last : Bool) (node : Bool) : Option (ae UInt32 8) :=
  (tk h count last node).bind fun r_ => bO (ux h) (m_, r_, (0 : Int))
noncomputable def nQ (h : ae UInt32 8) (b : List UInt8) (oz : UInt64) (pd : UInt64) (last : Bool) (node : Bool) : Option (ae UInt32 8) :=
  (tj b).bind fun r_ => (zO h r_.1 oz last node).bind fun ah => some ah
noncomputable def il (aA : Int) (b1 : List UInt8) (oH : ae UInt32 8) (ig : UInt64) (kY : UInt64) (ek : List UInt8) : Option ((ae UInt32 8 × UInt64 × UInt64 × List UInt8 × List UInt8) ⊕ (ae UInt32 8 × UInt64 × UInt64 × List UInt8 × Int)) :=
  (x5 b1 0 (if aB (aA - ((ek.length : Nat) : Int)) < ((b1.length : Nat) : Int) then aB (aA - ((ek.length : Nat) : Int)) else ((b1.length : Nat) : Int))).bind fun b3 => (app ek b3 1).bind fun b4 => (x5 b1 (if aB (aA - ((ek.length : Nat) : Int)) < ((b1.length : Nat) : Int) then aB (aA - ((ek.length : Nat) : Int)) else ((b1.length : Nat) : Int)) ((b1.length : Nat) : Int)).bind fun b5 => some (.inl (oH, ig, kY, b4, b5))
noncomputable def j0 (aA : Int) : (ae UInt32 8 × UInt64 × UInt64 × List UInt8 × List UInt8) → Option ((ae UInt32 8 × UInt64 × UInt64 × List UInt8 × List UInt8) ⊕ (ae UInt32 8 × UInt64 × UInt64 × List UInt8 × Int))
  | (aC, ln, l6, lG, b1) => if 0 < ((b1.length : Nat) : Int) then (if ((lG.length : Nat) : Int) = aA then ((lR ln l6 (UInt64.ofInt aA)).bind fun r_ => (nQ aC lG r_.1 r_.2.1 false false).bind fun ah => (x5 lG 0 (0 : Int)).bind fun b2 => il aA b1 ah r_.1 r_.2.1 b2) else (il aA b1 aC ln l6 lG)) else (Option.map Sum.inr (some (aC, ln, l6, lG, aA)))
noncomputable def jm (qU : ae UInt32 8) (bC : UInt64) (bD : UInt64) (cA : List UInt8) (aA : Int) (b : List UInt8) : Option (ae UInt32 8 × UInt64 × UInt64 × List UInt8 × Int) :=
  bO (j0 aA) (qU, bC, bD, cA, b)
noncomputable def kZ (fj : Int) (eg : Int) (cy : List UInt8) (dD : List UInt8) (iZ : Bool) (ed : UInt64) : Option ((Int × Int × List UInt8 × List UInt8 × ae UInt64 8 × UInt64 × UInt64 × List UInt8 × Int) ⊕ (Int × Int × List UInt8 × List UInt8 × ae UInt32 8 × UInt64 × UInt64 × List UInt8 × Int)) :=
  (qP fj cy).bind fun r_ => (Sum.elim (fun ah => if 0 < ((dD.length : Nat) : Int) then ((iA fj).bind fun cD => (j9 dD cD).bind fun fi => (fM ah.1 (0 : UInt64) (0 : UInt64) ah.2 (128 : Int) fi).bind fun bH => some (Sum.inl (fj, eg, cy, dD, bH.1, bH.2.1, bH.2.2.1, bH.2.2.2.1, bH.2.2.2.2))) else (some (Sum.inl (fj, eg, cy, dD, ah.1, (0 : UInt64), (0 : UInt64), ah.2, (128 : Int))))) (fun bh => if 0 < ((dD.length : Nat) : Int) then ((iA fj).bind fun cW => (j9 dD cW).bind fun rY => (jm bh.1 (0 : UInt64) (0 : UInt64) bh.2 (64 : Int) rY).bind fun E8 => some (Sum.inr (fj, eg, cy, dD, E8.1, E8.2.1, E8.2.2.1, E8.2.2.2.1, E8.2.2.2.2))) else (some (Sum.inr (fj, eg, cy, dD, bh.1, (0 : UInt64), (0 : UInt64), bh.2, (64 : Int)))))) r_
noncomputable def pP (k_ : Int) (block : List UInt8) (tn : Int) (key : List UInt8) : Option ((Int × Int × List UInt8 × List UInt8 × ae UInt64 8 × UInt64 × UInt64 × List UInt8 × Int) ⊕ (Int × Int × List UInt8 × List UInt8 × ae UInt32 8 × UInt64 × UInt64 × List UInt8 × Int)) :=
  (app ([] : List UInt8) block 1).bind fun b => (app ([] : List UInt8) key 1).bind fun b1 => (kZ k_ tn b b1 false (0 : UInt64)).bind fun r_ => (Sum.elim (fun ah => some (Sum.inl (ah.1, ah.2.1, ah.2.2.1, ah.2.2.2.1, ah.2.2.2.2.1, ah.2.2.2.2.2.1, ah.2.2.2.2.2.2.1, ah.2.2.2.2.2.2.2.1, ah.2.2.2.2.2.2.2.2))) (fun bh => some (Sum.inr (bh.1, bh.2.1, bh.2.2.1, bh.2.2.2.1, bh.2.2.2.2.1, bh.2.2.2.2.2.1, bh.2.2.2.2.2.2.1, bh.2.2.2.2.2.2.2.1, bh.2.2.2.2.2.2.2.2)))) r_
noncomputable def mA (k_ : Int) (bc : Int) (dy : Int) (bj : Int) (bG : Int) (cX : UInt32) (aW : UInt64) (ca : UInt32) (av : Int) (bB : Int) (bP : List UInt8) (au : List UInt8) (key : List UInt8) : Option (Int ⊕ (Int × Int × List UInt8 × List UInt8 × ae UInt64 8 × UInt64 × UInt64 × List UInt8 × Int) ⊕ (Int × Int × List UInt8 × List UInt8 × ae UInt32 8 × UInt64 × UInt64 × List UInt8 × Int)) :=
  (kj k_ bc dy bj bG cX aW ca av bB bP au).bind fun r_ => if r_.2 ≠ 0 then (some (Sum.inl r_.2)) else (if ((decide (((key.length : Nat) : Int) ≠ 0)) && (decide (((key.length : Nat) : Int) ≠ dy))) = true then (some (Sum.inl (8 : Int))) else ((pP k_ r_.1 bc key).bind fun ah => (Sum.elim (fun bh => some (Sum.inr (Sum.inl (bh.1, bh.2.1, bh.2.2.1, bh.2.2.2.1, bh.2.2.2.2.1, bh.2.2.2.2.2.1, bh.2.2.2.2.2.2.1, bh.2.2.2.2.2.2.2.1, bh.2.2.2.2.2.2.2.2)))) (fun cD => some (Sum.inr (Sum.inr (cD.1, cD.2.1, cD.2.2.1, cD.2.2.2.1, cD.2.2.2.2.1, cD.2.2.2.2.2.1, cD.2.2.2.2.2.2.1, cD.2.2.2.2.2.2.2.1, cD.2.2.2.2.2.2.2.2))))) ah))
noncomputable def je (fj : Int) (eg : Int) (cy : List UInt8) (dD : List UInt8) (iZ : Bool) (ed : UInt64) (ml : ae UInt64 8) (dm : UInt64) (dq : UInt64) (fx : List UInt8) (fc : Int) : Option (ae UInt64 8 × UInt64 × UInt64 × List UInt8 × Int × Int × Int × List UInt8 × List UInt8 × Bool × UInt64) :=
  some (ml, dm, dq, fx, fc, fj, eg, cy, dD, iZ, ed)
noncomputable def mm (w_ : UInt64) : (List UInt8 × Int) → Option ((List UInt8 × Int) ⊕ (List UInt8))
  | (b, aC) => if aC < 8 then ((o9 (0 ≤ aB (8 * aC))).bind fun u => (aN b aC).bind fun eL => some (.inl (b.set (Int.toNat aC) (UInt8.ofNat (aJ w_ (Int.toNat (aB (8 * aC)))).toNat), aB (aC + 1)))) else (Option.map Sum.inr (some b))
noncomputable def mB (w_ : UInt64) : Option (List UInt8) :=
  bO (mm w_) (List.replicate (Int.toNat (8 : Int)) (0 : UInt8), (0 : Int))
noncomputable def nR (h : ae UInt64 8) : (List UInt8 × Int) → Option ((List UInt8 × Int) ⊕ (List UInt8))
  | (b, aC) => if aC < 8 then ((aN h.l aC).bind fun eL => (mB eL).bind fun r_ => (app b r_ 1).bind fun b1 => some (.inl (b1, aB (aC + 1)))) else (Option.map Sum.inr (some b))
noncomputable def oK (h : ae UInt64 8) : Option (List UInt8) :=
  bO (nR h) (List.replicate (Int.toNat (0 : Int)) (0 : UInt8), (0 : Int))
noncomputable def i_ (qU : ae UInt64 8) (bC : UInt64) (bD : UInt64) (cA : List UInt8) (aA : Int) (node : Bool) (c0 : UInt64) (c2 : UInt64) : Option (List UInt8 × ae UInt64 8 × UInt64 × UInt64 × List UInt8 × Int) :=
  (j9 cA aA).bind fun ah => (l_ qU ah c0 c2 true node).bind fun bh => (oK bh).bind fun cD => some (cD, qU, bC, bD, cA, aA)
noncomputable def iB (qU : ae UInt64 8) (bC : UInt64) (bD : UInt64) (cA : List UInt8) (aA : Int) (node : Bool) : Option (List UInt8 × ae UInt64 8 × UInt64 × UInt64 × List UInt8 × Int) :=
  (lR bC bD (UInt64.ofInt ((cA.length : Nat) : Int))).bind fun r_ => i_ qU bC bD cA aA node r_.1 r_.2.1
noncomputable def eo (fj : Int) (eg : Int) (cy : List UInt8) (dD : List UInt8) (iZ : Bool) (ed : UInt64) (ml : ae UInt64 8) (dm : UInt64) (dq : UInt64) (fx : List UInt8) (fc : Int) (gu : Int) : Option (List UInt8 × Int × ae UInt64 8 × UInt64 × UInt64 × List UInt8 × Int × Int × Int × List UInt8 × List UInt8 × Bool × UInt64) :=
  (je fj eg cy dD iZ ed ml dm dq fx fc).bind fun r_ => if gu < 1 then (some (([] : List UInt8), (1 : Int), r_.1, r_.2.1, r_.2.2.1, r_.2.2.2.1, r_.2.2.2.2.1, r_.2.2.2.2.2.1, r_.2.2.2.2.2.2.1, r_.2.2.2.2.2.2.2.1, r_.2.2.2.2.2.2.2.2.1, r_.2.2.2.2.2.2.2.2.2.1, r_.2.2.2.2.2.2.2.2.2.2)) else ((iA r_.2.2.2.2.2.1).bind fun ah => if (aB (Int.tdiv ah 2)) < gu then (some (([] : List UInt8), (1 : Int), r_.1, r_.2.1, r_.2.2.1, r_.2.2.2.1, r_.2.2.2.2.1, r_.2.2.2.2.2.1, r_.2.2.2.2.2.2.1, r_.2.2.2.2.2.2.2.1, r_.2.2.2.2.2.2.2.2.1, r_.2.2.2.2.2.2.2.2.2.1, r_.2.2.2.2.2.2.2.2.2.2)) else ((iB r_.1 r_.2.1 r_.2.2.1 r_.2.2.2.1 r_.2.2.2.2.1 r_.2.2.2.2.2.2.2.2.2.1).bind fun bh => (x5 bh.1 0 gu).bind fun b => (o9 (gu ≤ gu ∧ gu ≤ ((bh.1.length : Nat) : Int))).bind fun u => some (b, (0 : Int), bh.2.1, bh.2.2.1, bh.2.2.2.1, bh.2.2.2.2.1, bh.2.2.2.2.2, r_.2.2.2.2.2.1, r_.2.2.2.2.2.2.1, r_.2.2.2.2.2.2.2.1, r_.2.2.2.2.2.2.2.2.1, r_.2.2.2.2.2.2.2.2.2.1, r_.2.2.2.2.2.2.2.2.2.2)))
noncomputable def nw (fj : Int) (eg : Int) (cy : List UInt8) (dD : List UInt8) (iZ : Bool) (ed : UInt64) (ml : ae UInt32 8) (dm : UInt64) (dq : UInt64) (fx : List UInt8) (fc : Int) : Option (ae UInt32 8 × UInt64 × UInt64 × List UInt8 × Int × Int × Int × List UInt8 × List UInt8 × Bool × UInt64) :=
  some (ml, dm, dq, fx, fc, fj, eg, cy, dD, iZ, ed)
noncomputable def ql (h : ae UInt32 8) : (List UInt8 × Int) → Option ((List UInt8 × Int) ⊕ (List UInt8))
  | (b, aC) => if aC < 8 then ((aN h.l aC).bind fun eL => (app b ([UInt8.ofNat eL.toNat, UInt8.ofNat (lJ eL ((8 : UInt64).toNat)).toNat, UInt8.ofNat (lJ eL ((16 : UInt64).toNat)).toNat, UInt8.ofNat (lJ eL ((24 : UInt64).toNat)).toNat] : List UInt8) 1).bind fun b1 => some (.inl (b1, aB (aC + 1)))) else (Option.map Sum.inr (some b))
noncomputable def tp (h : ae UInt32 8) : Option (List UInt8) :=
  bO (ql h) (List.replicate (Int.toNat (0 : Int)) (0 : UInt8), (0 : Int))
noncomputable def kL (qU : ae UInt32 8) (bC : UInt64) (bD : UInt64) (cA : List UInt8) (aA : Int) (node : Bool) (c0 : UInt64) (c2 : UInt64) : Option (List UInt8 × ae UInt32 8 × UInt64 × UInt64 × List UInt8 × Int) :=
  (j9 cA aA).bind fun ah => (nQ qU ah c0 c2 true node).bind fun bh => (tp bh).bind fun cD => some (cD, qU, bC, bD, cA, aA)
noncomputable def lS (qU : ae UInt32 8) (bC : UInt64) (bD : UInt64) (cA : List UInt8) (aA : Int) (node : Bool) : Option (List UInt8 × ae UInt32 8 × UInt64 × UInt64 × List UInt8 × Int) :=
  (lR bC bD (UInt64.ofInt ((cA.length : Nat) : Int))).bind fun r_ => kL qU bC bD cA aA node r_.1 r_.2.1
noncomputable def n_ (fj : Int) (eg : Int) (cy : List UInt8) (dD : List UInt8) (iZ : Bool) (ed : UInt64) (ml : ae UInt32 8) (dm : UInt64) (dq : UInt64) (fx : List UInt8) (fc : Int) (gu : Int) : Option (List UInt8 × Int × ae UInt32 8 × UInt64 × UInt64 × List UInt8 × Int × Int × Int × List UInt8 × List UInt8 × Bool × UInt64) :=
  (nw fj eg cy dD iZ ed ml dm dq fx fc).bind fun r_ => if gu < 1 then (some (([] : List UInt8), (1 : Int), r_.1, r_.2.1, r_.2.2.1, r_.2.2.2.1, r_.2.2.2.2.1, r_.2.2.2.2.2.1, r_.2.2.2.2.2.2.1, r_.2.2.2.2.2.2.2.1, r_.2.2.2.2.2.2.2.2.1, r_.2.2.2.2.2.2.2.2.2.1, r_.2.2.2.2.2.2.2.2.2.2)) else ((iA r_.2.2.2.2.2.1).bind fun ah => if (aB (Int.tdiv ah 2)) < gu then (some (([] : List UInt8), (1 : Int), r_.1, r_.2.1, r_.2.2.1, r_.2.2.2.1, r_.2.2.2.2.1, r_.2.2.2.2.2.1, r_.2.2.2.2.2.2.1, r_.2.2.2.2.2.2.2.1, r_.2.2.2.2.2.2.2.2.1, r_.2.2.2.2.2.2.2.2.2.1, r_.2.2.2.2.2.2.2.2.2.2)) else ((lS r_.1 r_.2.1 r_.2.2.1 r_.2.2.2.1 r_.2.2.2.2.1 r_.2.2.2.2.2.2.2.2.2.1).bind fun bh => (x5 bh.1 0 gu).bind fun b => (o9 (gu ≤ gu ∧ gu ≤ ((bh.1.length : Nat) : Int))).bind fun u => some (b, (0 : Int), bh.2.1, bh.2.2.1, bh.2.2.2.1, bh.2.2.2.2.1, bh.2.2.2.2.2, r_.2.2.2.2.2.1, r_.2.2.2.2.2.2.1, r_.2.2.2.2.2.2.2.1, r_.2.2.2.2.2.2.2.2.1, r_.2.2.2.2.2.2.2.2.2.1, r_.2.2.2.2.2.2.2.2.2.2)))
noncomputable def oq (k_ : Int) (bc : Int) (dy : Int) (bj : Int) (bG : Int) (cX : UInt32) (aW : UInt64) (ca : UInt32) (av : Int) (bB : Int) (bP : List UInt8) (au : List UInt8) (key : List UInt8) (last : Bool) (out : Int) (data : List UInt8) : Option (List UInt8 × Int) :=
  (mA k_ bc dy bj bG cX aW ca av bB bP au key).bind fun r_ => (Sum.elim (fun ah => if ah ≠ 0 then (some (([] : List UInt8), ah)) else none) (Sum.elim (fun bh => if 0 ≠ 0 then (some (([] : List UInt8), (0 : Int))) else ((fM bh.2.2.2.2.1 bh.2.2.2.2.2.1 bh.2.2.2.2.2.2.1 bh.2.2.2.2.2.2.2.1 bh.2.2.2.2.2.2.2.2 data).bind fun fi => (eo bh.1 bh.2.1 bh.2.2.1 bh.2.2.2.1 last (0 : UInt64) fi.1 fi.2.1 fi.2.2.1 fi.2.2.2.1 fi.2.2.2.2 out).bind fun bH => some (bH.1, bH.2.1))) (fun cD => if 0 ≠ 0 then (some (([] : List UInt8), (0 : Int))) else ((jm cD.2.2.2.2.1 cD.2.2.2.2.2.1 cD.2.2.2.2.2.2.1 cD.2.2.2.2.2.2.2.1 cD.2.2.2.2.2.2.2.2 data).bind fun cW => (n_ cD.1 cD.2.1 cD.2.2.1 cD.2.2.2.1 last (0 : UInt64) cW.1 cW.2.1 cW.2.2.1 cW.2.2.2.1 cW.2.2.2.2 out).bind fun rY => some (rY.1, rY.2.1))))) r_
noncomputable def lb (kind : Int) : Option Int :=
  if kind = 1 then (some (64 : Int)) else (if kind = 2 then (some (32 : Int)) else (some (0 : Int)))
noncomputable def gH (kind : Int) (bc : Int) (dy : Int) (bj : Int) (bG : Int) (cX : UInt32) (aW : UInt64) (ca : UInt32) (av : Int) (bB : Int) (bP : List UInt8) (au : List UInt8) : Option Int :=
  (lb kind).bind fun r_ => if r_ = 0 then (some (1 : Int)) else (if ((decide (bc < 1)) || (decide (r_ < bc))) = true then (some (20 : Int)) else (if ((decide (dy < 0)) || (decide (r_ < dy))) = true then (some (8 : Int)) else (if ((decide (bj < 0)) || (decide (255 < bj))) = true then (some (21 : Int)) else (if (((decide (bG < 0)) || (decide (255 < bG))) || ((decide (bG = 0)) && (decide (ca = 0)))) = true then (some (22 : Int)) else (if (((decide (ca ≠ 0)) && (decide ((4294967295 : UInt64) < aW))) || (((decide (ca = 0)) && (decide (kind = 2))) && (decide ((281474976710655 : UInt64) < aW)))) = true then (some (23 : Int)) else (if ((decide (kind = 2)) && (decide ((65535 : UInt32) < ca))) = true then (some (24 : Int)) else (if ((decide (av < 0)) || (decide (255 < av))) = true then (some (25 : Int)) else (if ((decide (bB < 0)) || (decide (r_ < bB))) = true then (some (26 : Int)) else (if (aB (Int.tdiv r_ 4)) < ((bP.length : Nat) : Int) then (some (27 : Int)) else (if (aB (Int.tdiv r_ 4)) < ((au.length : Nat) : Int) then (some (28 : Int)) else (some (0 : Int))))))))))))
noncomputable def wE (kind : Int) : Option Int :=
  if kind = 1 then (some (64 : Int)) else (some (32 : Int))
noncomputable def Ei (kind : Int) : Option Int :=
  (lb kind).bind fun r_ => some r_
noncomputable def yP (kind : Int) (field : Int) : Option (Int × Int) :=
  if ((decide (1 ≤ field)) && (decide (field ≤ 4))) = true then (some (aB (field - 1), (1 : Int))) else (if field = 5 then (some ((4 : Int), (4 : Int))) else (if ((decide (field = 6)) && (decide (kind = 1))) = true then (some ((8 : Int), (8 : Int))) else (if field = 6 then (some ((8 : Int), (6 : Int))) else (if ((decide (field = 7)) && (decide (kind = 1))) = true then (some ((12 : Int), (4 : Int))) else (if field = 7 then (some ((12 : Int), (2 : Int))) else (if ((decide (field = 8)) && (decide (kind = 1))) = true then (some ((16 : Int), (1 : Int))) else (if field = 8 then (some ((14 : Int), (1 : Int))) else (if ((decide (field = 9)) && (decide (kind = 1))) = true then (some ((17 : Int), (1 : Int))) else (if field = 9 then (some ((15 : Int), (1 : Int))) else (some ((0 : Int), (0 : Int))))))))))))
noncomputable def tq (at_ : Int) (n : Int) (v : UInt64) : (List UInt8 × Int) → Option ((List UInt8 × Int) ⊕ (List UInt8))
  | (b1, i) => if i < n then ((aN b1 (aB (at_ + i))).bind fun aC => some (.inl (b1.set (Int.toNat (aB (at_ + i))) (UInt8.ofNat (aJ v (((8 : UInt64) * (UInt64.ofInt i)).toNat)).toNat), aB (i + 1)))) else (Option.map Sum.inr (some b1))
noncomputable def yb (b : List UInt8) (at_ : Int) (n : Int) (v : UInt64) : Option (List UInt8) :=
  bO (tq at_ n v) (b, (0 : Int))
noncomputable def tQ (f : Int) (b1 : List UInt8) : Option ((List UInt8 × Int) ⊕ (List UInt8 × Int)) :=
  some (.inl (b1, aB (f + 1)))
noncomputable def qm (f : Int) (b2 : List UInt8) : Option ((List UInt8 × Int) ⊕ (List UInt8 × Int)) :=
  tQ f b2
noncomputable def nS (au : List UInt8) (fi : Int) : (List UInt8 × Int) → Option ((List UInt8 × Int) ⊕ (List UInt8 × Int))
  | (b4, i1) => if i1 < ((au.length : Nat) : Int) then ((aN au i1).bind fun ll => (aN b4 (aB ((aB (3 * (aB (Int.tdiv fi 4)))) + i1))).bind fun ln => some (.inl (b4.set (Int.toNat (aB ((aB (3 * (aB (Int.tdiv fi 4)))) + i1))) ll, aB (i1 + 1)))) else (Option.map Sum.inr (some (b4, (0 : Int))))
noncomputable def nT (bP : List UInt8) (au : List UInt8) (fi : Int) : (List UInt8 × Int) → Option ((List UInt8 × Int) ⊕ (List UInt8 × Int))
  | (b3, i) => if i < ((bP.length : Nat) : Int) then ((aN bP i).bind fun ej => (aN b3 (aB ((aB (2 * (aB (Int.tdiv fi 4)))) + i))).bind fun fg => some (.inl (b3.set (Int.toNat (aB ((aB (2 * (aB (Int.tdiv fi 4)))) + i))) ej, aB (i + 1)))) else (Option.map Sum.inr (bO (nS au fi) (b3, (0 : Int))))
noncomputable def nU (kind : Int) (bc : Int) (dy : Int) (bj : Int) (bG : Int) (cX : UInt32) (aW : UInt64) (ca : UInt32) (av : Int) (bB : Int) (bP : List UInt8) (au : List UInt8) : (List UInt8 × Int) → Option ((List UInt8 × Int) ⊕ (List UInt8 × Int))
  | (b, f) => if f ≤ 9 then (if ((decide (f = 7)) && (decide (ca = 0))) = true then (qm f b) else ((yP kind f).bind fun bh => (aN ([UInt64.ofInt bc, UInt64.ofInt dy, UInt64.ofInt bj, UInt64.ofInt bG, UInt64.ofNat cX.toNat, aW, UInt64.ofNat ca.toNat, UInt64.ofInt av, UInt64.ofInt bB] : List UInt64) (aB (f - 1))).bind fun aC => (yb b bh.1 bh.2 aC).bind fun cD => qm f cD)) else (Option.map Sum.inr ((lb kind).bind fun fi => bO (nT bP au fi) (b, (0 : Int))))
noncomputable def lT (kind : Int) (bc : Int) (dy : Int) (bj : Int) (bG : Int) (cX : UInt32) (aW : UInt64) (ca : UInt32) (av : Int) (bB : Int) (bP : List UInt8) (au : List UInt8) : Option (List UInt8 × Int) :=
  (gH kind bc dy bj bG cX aW ca av bB bP au).bind fun r_ => if r_ ≠ 0 then (some (([] : List UInt8), r_)) else ((Ei kind).bind fun ah => (o9 ((0 : Int) ≤ ah ∧ (ah : Int) ≤ ah ∧ Int.toNat ah * 1 ≤ 140737488355328)).bind fun u => bO (nU kind bc dy bj bG cX aW ca av bB bP au) (List.replicate (Int.toNat ah) (0 : UInt8), (1 : Int)))
noncomputable def wb (b : List UInt8) (at_ : Int) : (UInt64 × Int) → Option ((UInt64 × Int) ⊕ (UInt64 × Int))
  | (w_, i) => if 0 ≤ i then ((aN b (aB (at_ + i))).bind fun aC => some (.inl ((w_ * 256) + (UInt64.ofNat aC.toNat), aB (i - 1)))) else (Option.map Sum.inr (some (w_, (0 : Int))))
noncomputable def rh (b : List UInt8) (at_ : Int) (n : Int) : Option (UInt64 × Int) :=
  if at_ < 0 then (some ((0 : UInt64), (1 : Int))) else (if ((decide (((b.length : Nat) : Int) < at_)) || (decide ((aB (((b.length : Nat) : Int) - at_)) < n))) = true then (some ((0 : UInt64), (3 : Int))) else (bO (wb b at_) ((0 : UInt64), aB (n - 1))))
noncomputable def zP (i : Int) : Option UInt64 :=
  (aN (⟨[(7640891576956012808 : UInt64), (13503953896175478587 : UInt64), (4354685564936845355 : UInt64), (11912009170470909681 : UInt64), (5840696475078001361 : UInt64), (11170449401992604703 : UInt64), (2270897969802886507 : UInt64), (6620516959819538809 : UInt64)], rfl⟩ : ae UInt64 8).l (Int.tmod i 8)).bind fun aC => some aC
noncomputable def rk (block : List UInt8) : (ae UInt64 8 × Int) → Option ((ae UInt64 8 × Int) ⊕ (ae UInt64 8 × Int))
  | (h, i) => if i < 8 then ((rh block (aB (8 * i)) (8 : Int)).bind fun r_ => (zP i).bind fun ah => (aN h.l i).bind fun aC => (some (hK h i (ah ^^^ r_.1))).bind fun v => some (.inl (v, aB (i + 1)))) else (Option.map Sum.inr (some (h, (0 : Int))))
noncomputable def uy (block : List UInt8) : Option (ae UInt64 8 × Int) :=
  if ((block.length : Nat) : Int) ≠ 64 then (some ((ae.rep 8 (0 : UInt64)), (1 : Int))) else (bO (rk block) ((ae.rep 8 (0 : UInt64)), (0 : Int)))
noncomputable def xq  : Option (ae UInt32 8) :=
  some (⟨[(1779033703 : UInt32), (3144134277 : UInt32), (1013904242 : UInt32), (2773480762 : UInt32), (1359893119 : UInt32), (2600822924 : UInt32), (528734635 : UInt32), (1541459225 : UInt32)], rfl⟩ : ae UInt32 8)
noncomputable def tr (b : List UInt8) (at_ : Int) : Option UInt32 :=
  (aN b at_).bind fun aC => (aN b (aB (at_ + 1))).bind fun eL => (aN b (aB (at_ + 2))).bind fun ej => (aN b (aB (at_ + 3))).bind fun fg => some ((((UInt32.ofNat aC.toNat) + (tO (UInt32.ofNat eL.toNat) ((8 : UInt64).toNat))) + (tO (UInt32.ofNat ej.toNat) ((16 : UInt64).toNat))) + (tO (UInt32.ofNat fg.toNat) ((24 : UInt64).toNat)))
noncomputable def rl (block : List UInt8) : (ae UInt32 8 × Int) → Option ((ae UInt32 8 × Int) ⊕ (ae UInt32 8 × Int))
  | (h, i) => if i < 8 then ((aN h.l i).bind fun aC => (tr block (aB (4 * i))).bind fun ah => (aN h.l i).bind fun ej => (some (hK h i (aC ^^^ ah))).bind fun v => some (.inl (v, aB (i + 1)))) else (Option.map Sum.inr (some (h, (0 : Int))))
noncomputable def uz (block : List UInt8) : Option (ae UInt32 8 × Int) :=
  if ((block.length : Nat) : Int) < 32 then (some ((ae.rep 8 (0 : UInt32)), (3 : Int))) else (if 32 < ((block.length : Nat) : Int) then (some ((ae.rep 8 (0 : UInt32)), (2 : Int))) else ((xq).bind fun r_ => bO (rl block) (r_, (0 : Int))))
noncomputable def ny (ts : Int) (mC : Int) (rZ : Int) (mD : Int) (ot : Int) (pQ : UInt32) (mE : UInt64) (r4 : UInt32) (j_ : Int) (ou : Int) (wG : Bool) (uA : ae UInt64 16) (yQ : Bool) (Ej : UInt64) (Ek : UInt64) (zQ : List UInt8) (tt : UInt64) (ah : (ae UInt64 8 × Int)) : (ae UInt64 16 × Int) → Option ((ae UInt64 16 × Int) ⊕ (ae UInt64 16 × Int × Int × Int × Int × Int × UInt32 × UInt64 × UInt32 × Int × Int × Bool × ae UInt64 16 × Bool × UInt64 × UInt64 × List UInt8 × UInt64))
  | (h, i) => if i < 8 then ((aN ah.1.l i).bind fun aC => (aN h.l i).bind fun lA => (some (hK h i aC)).bind fun v => some (.inl (v, aB (i + 1)))) else (Option.map Sum.inr (some (h, ts, mC, rZ, mD, ot, pQ, mE, r4, j_, ou, wG, uA, yQ, Ej, Ek, zQ, tt)))
noncomputable def nA (ts : Int) (mC : Int) (rZ : Int) (mD : Int) (ot : Int) (pQ : UInt32) (mE : UInt64) (r4 : UInt32) (j_ : Int) (ou : Int) (wG : Bool) (uA : ae UInt64 16) (yQ : Bool) (Ej : UInt64) (Ek : UInt64) (zQ : List UInt8) (tt : UInt64) (bh : (ae UInt32 8 × Int)) : (ae UInt64 16 × Int) → Option ((ae UInt64 16 × Int) ⊕ (ae UInt64 16 × Int × Int × Int × Int × Int × UInt32 × UInt64 × UInt32 × Int × Int × Bool × ae UInt64 16 × Bool × UInt64 × UInt64 × List UInt8 × UInt64))
  | (h1, i1) => if i1 < 8 then ((aN bh.1.l i1).bind fun mZ => (aN h1.l i1).bind fun th => (some (hK h1 i1 (UInt64.ofNat mZ.toNat))).bind fun v1 => some (.inl (v1, aB (i1 + 1)))) else (Option.map Sum.inr (some (h1, ts, mC, rZ, mD, ot, pQ, mE, r4, j_, ou, wG, uA, yQ, Ej, Ek, zQ, tt)))
noncomputable def lB (ts : Int) (mC : Int) (rZ : Int) (mD : Int) (ot : Int) (pQ : UInt32) (mE : UInt64) (r4 : UInt32) (j_ : Int) (ou : Int) (Hz : List UInt8) (B4 : List UInt8) (Vo : List UInt8) (wG : Bool) (uA : ae UInt64 16) (yQ : Bool) (Ej : UInt64) (Ek : UInt64) (zQ : List UInt8) (tt : UInt64) : Option (ae UInt64 16 × Int × Int × Int × Int × Int × UInt32 × UInt64 × UInt32 × Int × Int × Bool × ae UInt64 16 × Bool × UInt64 × UInt64 × List UInt8 × UInt64) :=
  if yQ = true then (some (uA, ts, mC, rZ, mD, ot, pQ, mE, r4, j_, ou, wG, uA, yQ, Ej, Ek, zQ, tt)) else ((lT ts mC rZ mD ot pQ mE r4 j_ ou Hz B4).bind fun r_ => if ts = 1 then ((uy r_.1).bind fun ah => bO (ny ts mC rZ mD ot pQ mE r4 j_ ou wG uA yQ Ej Ek zQ tt ah) ((ae.rep 16 (0 : UInt64)), (0 : Int))) else ((uz r_.1).bind fun bh => bO (nA ts mC rZ mD ot pQ mE r4 j_ ou wG uA yQ Ej Ek zQ tt bh) ((ae.rep 16 (0 : UInt64)), (0 : Int))))
noncomputable def rm (b : List UInt8) : (ae UInt64 16 × Int) → Option ((ae UInt64 16 × Int) ⊕ (ae UInt64 16 × Int))
  | (m_, i) => if i < 16 then ((rh b (aB (8 * i)) (8 : Int)).bind fun r_ => (aN m_.l i).bind fun aC => (some (hK m_ i r_.1)).bind fun v => some (.inl (v, aB (i + 1)))) else (Option.map Sum.inr (some (m_, (0 : Int))))
noncomputable def uB (b : List UInt8) : Option (ae UInt64 16 × Int) :=
  if ((b.length : Nat) : Int) ≠ 128 then (some ((ae.rep 16 (0 : UInt64)), (1 : Int))) else (bO (rm b) ((ae.rep 16 (0 : UInt64)), (0 : Int)))
noncomputable def wc (v7 : ae UInt64 16) : Option (ae UInt64 16) :=
  some v7
noncomputable def we (node : Bool) (v5 : ae UInt64 16) : Option (ae UInt64 16) :=
  if node = true then ((aN v5.l (15 : Int)).bind fun ig => (aN v5.l (15 : Int)).bind fun kY => (some (hK v5 (15 : Int) (18446744073709551615 ^^^ ig))).bind fun v8 => wc v8) else (wc v5)
noncomputable def wg (h : ae UInt64 8) (lo : UInt64) (hi : UInt64) (last : Bool) (node : Bool) : (ae UInt64 16 × Int) → Option ((ae UInt64 16 × Int) ⊕ (ae UInt64 16))
  | (v, i) => if i < 8 then ((aN h.l i).bind fun aC => (aN v.l i).bind fun eL => (some (hK v i aC)).bind fun v1 => (zP i).bind fun r_ => (aN v1.l (aB (i + 8))).bind fun ej => (some (hK v1 (aB (i + 8)) r_)).bind fun v2 => some (.inl (v2, aB (i + 1)))) else (Option.map Sum.inr ((aN v.l (12 : Int)).bind fun fg => (aN v.l (12 : Int)).bind fun ll => (some (hK v (12 : Int) (fg ^^^ lo))).bind fun v3 => (aN v3.l (13 : Int)).bind fun ln => (aN v3.l (13 : Int)).bind fun l6 => (some (hK v3 (13 : Int) (ln ^^^ hi))).bind fun v4 => if last = true then ((aN v4.l (14 : Int)).bind fun lG => (aN v4.l (14 : Int)).bind fun oH => (some (hK v4 (14 : Int) (18446744073709551615 ^^^ lG))).bind fun v6 => we node v6) else (we node v4)))
noncomputable def wH (h : ae UInt64 8) (lo : UInt64) (hi : UInt64) (last : Bool) (node : Bool) : Option (ae UInt64 16) :=
  bO (wg h lo hi last node) ((ae.rep 16 (0 : UInt64)), (0 : Int))
noncomputable def xr (i : Int) : Option (ae Int 4) :=
  (aN (⟨[(⟨[(0 : Int), (4 : Int), (8 : Int), (12 : Int)], rfl⟩ : ae Int 4), (⟨[(1 : Int), (5 : Int), (9 : Int), (13 : Int)], rfl⟩ : ae Int 4), (⟨[(2 : Int), (6 : Int), (10 : Int), (14 : Int)], rfl⟩ : ae Int 4), (⟨[(3 : Int), (7 : Int), (11 : Int), (15 : Int)], rfl⟩ : ae Int 4), (⟨[(0 : Int), (5 : Int), (10 : Int), (15 : Int)], rfl⟩ : ae Int 4), (⟨[(1 : Int), (6 : Int), (11 : Int), (12 : Int)], rfl⟩ : ae Int 4), (⟨[(2 : Int), (7 : Int), (8 : Int), (13 : Int)], rfl⟩ : ae Int 4), (⟨[(3 : Int), (4 : Int), (9 : Int), (14 : Int)], rfl⟩ : ae Int 4)], rfl⟩ : ae (ae Int 4) 8).l (Int.tmod i 8)).bind fun aC => some aC
noncomputable def wh (r_ : Int) : Option Int :=
  some r_
noncomputable def zR (n : Int) (m_ : Int) : Option Int :=
  (o9 (m_ ≠ 0)).bind fun u => if (Int.tmod n m_) < 0 then (wh (aB ((Int.tmod n m_) + m_))) else (wh (Int.tmod n m_))
noncomputable def C8 (c : UInt8) : Option Int :=
  if ((decide ((48 : UInt8) ≤ c)) && (decide (c ≤ 57))) = true then (some ((c - 48).toNat : Int)) else (if ((decide ((97 : UInt8) ≤ c)) && (decide (c ≤ 102))) = true then (some (aB (((c - 97).toNat : Int) + 10))) else (if ((decide ((65 : UInt8) ≤ c)) && (decide (c ≤ 70))) = true then (some (aB (((c - 65).toNat : Int) + 10))) else (some (-1 : Int))))
noncomputable def pR (round : Int) (i : Int) : Option Int :=
  (zR round (10 : Int)).bind fun r_ => (aN ([48, 49, 50, 51, 52, 53, 54, 55, 56, 57, 97, 98, 99, 100, 101, 102, 101, 97, 52, 56, 57, 102, 100, 54, 49, 99, 48, 50, 98, 55, 53, 51, 98, 56, 99, 48, 53, 50, 102, 100, 97, 101, 51, 54, 55, 49, 57, 52, 55, 57, 51, 49, 100, 99, 98, 101, 50, 54, 53, 97, 52, 48, 102, 56, 57, 48, 53, 55, 50, 52, 97, 102, 101, 49, 98, 99, 54, 56, 51, 100, 50, 99, 54, 97, 48, 98, 56, 51, 52, 100, 55, 53, 102, 101, 49, 57, 99, 53, 49, 102, 101, 100, 52, 97, 48, 55, 54, 51, 57, 50, 56, 98, 100, 98, 55, 101, 99, 49, 51, 57, 53, 48, 102, 52, 56, 54, 50, 97, 54, 102, 101, 57, 98, 51, 48, 56, 99, 50, 100, 55, 49, 52, 97, 53, 97, 50, 56, 52, 55, 54, 49, 53, 102, 98, 57, 101, 51, 99, 100, 48] : List UInt8) (aB ((aB (16 * r_)) + i))).bind fun c => (C8 c).bind fun ah => some ah
noncomputable def ov (a_ : Int) : Option Bool :=
  some ((decide (0 ≤ a_)) && (decide (a_ ≤ 15)))
noncomputable def k4 (w_ : UInt64) (n : Int) : Option UInt64 :=
  (zR n (64 : Int)).bind fun r_ => if r_ = 0 then (some w_) else ((o9 (0 ≤ r_)).bind fun u => (o9 (0 ≤ aB (64 - r_))).bind fun u1 => some ((aJ w_ (Int.toNat r_)) ||| (aE w_ (Int.toNat (aB (64 - r_))))))
noncomputable def B5 (v : ae UInt64 16) (a_ : Int) (b : Int) (c : Int) (d : Int) (x_ : UInt64) (y_ : UInt64) : Option (ae UInt64 16 × Int) :=
  (ov a_).bind fun r_ => if (!r_) = true then (some ((ae.rep 16 ((0 : UInt64) : UInt64)), (1 : Int))) else ((ov b).bind fun ah => if (!ah) = true then (some ((ae.rep 16 ((0 : UInt64) : UInt64)), (1 : Int))) else ((ov c).bind fun bh => if (!bh) = true then (some ((ae.rep 16 ((0 : UInt64) : UInt64)), (1 : Int))) else ((ov d).bind fun cD => if (((((((!cD) || (decide (a_ = b))) || (decide (a_ = c))) || (decide (a_ = d))) || (decide (b = c))) || (decide (b = d))) || (decide (c = d))) = true then (some ((ae.rep 16 ((0 : UInt64) : UInt64)), (1 : Int))) else ((aN v.l a_).bind fun fg => (aN v.l b).bind fun ll => (aN v.l a_).bind fun ln => (some (hK v a_ ((fg + ll) + x_))).bind fun v1 => (aN v1.l d).bind fun l6 => (aN v1.l a_).bind fun lG => (k4 (l6 ^^^ lG) (32 : Int)).bind fun fi => (aN v1.l d).bind fun oH => (some (hK v1 d fi)).bind fun v2 => (aN v2.l c).bind fun ig => (aN v2.l d).bind fun kY => (aN v2.l c).bind fun ek => (some (hK v2 c (ig + kY))).bind fun v3 => (aN v3.l b).bind fun qQ => (aN v3.l c).bind fun rQ => (k4 (qQ ^^^ rQ) (24 : Int)).bind fun bH => (aN v3.l b).bind fun tg => (some (hK v3 b bH)).bind fun v4 => (aN v4.l a_).bind fun qj => (aN v4.l b).bind fun rR => (aN v4.l a_).bind fun mY => (some (hK v4 a_ ((qj + rR) + y_))).bind fun v5 => (aN v5.l d).bind fun lA => (aN v5.l a_).bind fun mZ => (k4 (lA ^^^ mZ) (16 : Int)).bind fun cW => (aN v5.l d).bind fun th => (some (hK v5 d cW)).bind fun v6 => (aN v6.l c).bind fun vG => (aN v6.l d).bind fun AE => (aN v6.l c).bind fun B3 => (some (hK v6 c (vG + AE))).bind fun v7 => (aN v7.l b).bind fun ti => (aN v7.l c).bind fun vH => (k4 (ti ^^^ vH) (63 : Int)).bind fun rY => (aN v7.l b).bind fun Gj => (some (hK v7 b rY)).bind fun v8 => some (v8, (0 : Int))))))
noncomputable def uC (m_ : ae UInt64 16) (round : Int) : (ae UInt64 16 × Int) → Option ((ae UInt64 16 × Int) ⊕ (ae UInt64 16 × Int))
  | (v1, i) => if i < 8 then ((xr i).bind fun r_ => (aN r_.l (0 : Int)).bind fun aC => (aN r_.l (1 : Int)).bind fun ej => (aN r_.l (2 : Int)).bind fun fg => (aN r_.l (3 : Int)).bind fun ll => (pR round (aB (2 * i))).bind fun ah => (aN m_.l ah).bind fun ln => (pR round (aB ((aB (2 * i)) + 1))).bind fun bh => (aN m_.l bh).bind fun l6 => (B5 v1 aC ej fg ll ln l6).bind fun cD => some (.inl (cD.1, aB (i + 1)))) else (Option.map Sum.inr (some (v1, (0 : Int))))
noncomputable def uD (v : ae UInt64 16) (m_ : ae UInt64 16) (round : Int) : Option (ae UInt64 16 × Int) :=
  if ((decide (round < 0)) || (decide (11 < round))) = true then (some ((ae.rep 16 ((0 : UInt64) : UInt64)), (1 : Int))) else (bO (uC m_ round) (v, (0 : Int)))
noncomputable def wI (v : ae UInt64 16) : (ae UInt64 8 × Int) → Option ((ae UInt64 8 × Int) ⊕ (ae UInt64 8))
  | (h1, i) => if i < 8 then ((aN h1.l i).bind fun aC => (aN v.l i).bind fun eL => (aN v.l (aB (i + 8))).bind fun ej => (aN h1.l i).bind fun fg => (some (hK h1 i ((aC ^^^ eL) ^^^ ej))).bind fun v1 => some (.inl (v1, aB (i + 1)))) else (Option.map Sum.inr (some h1))
noncomputable def wJ (h : ae UInt64 8) (m_ : ae UInt64 16) : (ae UInt64 16 × Int) → Option ((ae UInt64 16 × Int) ⊕ (ae UInt64 8))
  | (v, ah) => if ah < 12 then ((uD v m_ ah).bind fun bh => some (.inl (bh.1, aB (ah + 1)))) else (Option.map Sum.inr (bO (wI v) (h, (0 : Int))))
noncomputable def B6 (h : ae UInt64 8) (m_ : ae UInt64 16) (lo : UInt64) (hi : UInt64) (last : Bool) (node : Bool) : Option (ae UInt64 8) :=
  (wH h lo hi last node).bind fun r_ => bO (wJ h m_) (r_, (0 : Int))
noncomputable def rn (b : List UInt8) : (ae UInt32 16 × Int) → Option ((ae UInt32 16 × Int) ⊕ (ae UInt32 16 × Int))
  | (m_, i) => if i < 16 then ((tr b (aB (4 * i))).bind fun r_ => (aN m_.l i).bind fun aC => (some (hK m_ i r_)).bind fun v => some (.inl (v, aB (i + 1)))) else (Option.map Sum.inr (some (m_, (0 : Int))))
noncomputable def uE (b : List UInt8) : Option (ae UInt32 16 × Int) :=
  if ((b.length : Nat) : Int) < 64 then (some ((ae.rep 16 (0 : UInt32)), (3 : Int))) else (if 64 < ((b.length : Nat) : Int) then (some ((ae.rep 16 (0 : UInt32)), (2 : Int))) else (bO (rn b) ((ae.rep 16 (0 : UInt32)), (0 : Int))))
noncomputable def rp (v7 : ae UInt32 16) : Option (ae UInt32 16) :=
  some v7
noncomputable def rq (node : Bool) (v5 : ae UInt32 16) : Option (ae UInt32 16) :=
  if node = true then ((aN v5.l (15 : Int)).bind fun kY => (aN v5.l (15 : Int)).bind fun ek => (some (hK v5 (15 : Int) (kY ^^^ 4294967295))).bind fun v8 => rp v8) else (rp v5)
noncomputable def rr (h : ae UInt32 8) (count : UInt64) (last : Bool) (node : Bool) (r_ : (ae UInt32 8)) : (ae UInt32 16 × Int) → Option ((ae UInt32 16 × Int) ⊕ (ae UInt32 16))
  | (v, i) => if i < 8 then ((aN h.l i).bind fun aC => (aN v.l i).bind fun eL => (some (hK v i aC)).bind fun v1 => (aN r_.l i).bind fun ej => (aN v1.l (aB (i + 8))).bind fun fg => (some (hK v1 (aB (i + 8)) ej)).bind fun v2 => some (.inl (v2, aB (i + 1)))) else (Option.map Sum.inr ((aN v.l (12 : Int)).bind fun ll => (aN v.l (12 : Int)).bind fun ln => (some (hK v (12 : Int) (ll ^^^ (UInt32.ofNat count.toNat)))).bind fun v3 => (aN v3.l (13 : Int)).bind fun l6 => (aN v3.l (13 : Int)).bind fun lG => (some (hK v3 (13 : Int) (l6 ^^^ (UInt32.ofNat (aJ count ((32 : UInt64).toNat)).toNat)))).bind fun v4 => if last = true then ((aN v4.l (14 : Int)).bind fun oH => (aN v4.l (14 : Int)).bind fun ig => (some (hK v4 (14 : Int) (oH ^^^ 4294967295))).bind fun v6 => rq node v6) else (rq node v4)))
noncomputable def uF (h : ae UInt32 8) (count : UInt64) (last : Bool) (node : Bool) : Option (ae UInt32 16) :=
  (xq).bind fun r_ => bO (rr h count last node r_) ((ae.rep 16 (0 : UInt32)), (0 : Int))
noncomputable def zS (i : Int) : Option (Int × Int × Int × Int) :=
  if i < 4 then (some (i, aB (i + 4), aB (i + 8), aB (i + 12))) else (some (aB (i - 4), aB (4 + (Int.tmod (aB ((aB (i - 4)) + 1)) 4)), aB (8 + (Int.tmod (aB ((aB (i - 4)) + 2)) 4)), aB (12 + (Int.tmod (aB ((aB (i - 4)) + 3)) 4))))
noncomputable def qn (a_ : Int) (b : Int) (c : Int) (d : Int) (i : Int) : Int → Option (Int ⊕ (Int ⊕ Bool))
  | j => if j < i then ((aN ([a_, b, c, d] : List Int) i).bind fun ej => (aN ([a_, b, c, d] : List Int) j).bind fun fg => if ej = fg then (Option.map Sum.inr (Option.map Sum.inr (some false))) else (some (.inl (aB (j + 1))))) else (Option.map Sum.inr (some (.inl (aB (i + 1)))))
noncomputable def tR (a_ : Int) (b : Int) (c : Int) (d : Int) : Int → Option (Int ⊕ Bool)
  | i => if i < 4 then ((aN ([a_, b, c, d] : List Int) i).bind fun aC => (Ve (!(decide (aC < 0))) (aN ([a_, b, c, d] : List Int) i)).bind fun eL => if ((decide (aC < 0)) || (decide (15 < eL))) = true then (Option.map Sum.inr (some false)) else (bO (qn a_ b c d i) (0 : Int))) else (Option.map Sum.inr (some true))
noncomputable def tu (a_ : Int) (b : Int) (c : Int) (d : Int) : Option Bool :=
  bO (tR a_ b c d) (0 : Int)
noncomputable def mF (x_ : UInt32) (r_ : Int) : Option UInt32 :=
  some ((lJ x_ ((UInt64.ofInt r_).toNat)) ||| (tO x_ ((UInt64.ofInt (aB (32 - r_))).toNat)))
noncomputable def B7 (v : ae UInt32 16) (a_ : Int) (b : Int) (c : Int) (d : Int) (x_ : UInt32) (y_ : UInt32) : Option (ae UInt32 16 × Int) :=
  (tu a_ b c d).bind fun r_ => if (!r_) = true then (some ((ae.rep 16 ((0 : UInt32) : UInt32)), (1 : Int))) else ((aN v.l a_).bind fun fg => (aN v.l b).bind fun ll => (aN v.l a_).bind fun ln => (some (hK v a_ ((fg + ll) + x_))).bind fun v1 => (aN v1.l d).bind fun l6 => (aN v1.l a_).bind fun lG => (mF (l6 ^^^ lG) (16 : Int)).bind fun ah => (aN v1.l d).bind fun oH => (some (hK v1 d ah)).bind fun v2 => (aN v2.l c).bind fun ig => (aN v2.l d).bind fun kY => (aN v2.l c).bind fun ek => (some (hK v2 c (ig + kY))).bind fun v3 => (aN v3.l b).bind fun qQ => (aN v3.l c).bind fun rQ => (mF (qQ ^^^ rQ) (12 : Int)).bind fun bh => (aN v3.l b).bind fun tg => (some (hK v3 b bh)).bind fun v4 => (aN v4.l a_).bind fun qj => (aN v4.l b).bind fun rR => (aN v4.l a_).bind fun mY => (some (hK v4 a_ ((qj + rR) + y_))).bind fun v5 => (aN v5.l d).bind fun lA => (aN v5.l a_).bind fun mZ => (mF (lA ^^^ mZ) (8 : Int)).bind fun cD => (aN v5.l d).bind fun th => (some (hK v5 d cD)).bind fun v6 => (aN v6.l c).bind fun vG => (aN v6.l d).bind fun AE => (aN v6.l c).bind fun B3 => (some (hK v6 c (vG + AE))).bind fun v7 => (aN v7.l b).bind fun ti => (aN v7.l c).bind fun vH => (mF (ti ^^^ vH) (7 : Int)).bind fun fi => (aN v7.l b).bind fun Gj => (some (hK v7 b fi)).bind fun v8 => some (v8, (0 : Int)))
noncomputable def uG (m_ : ae UInt32 16) (r_ : Int) : (ae UInt32 16 × Int) → Option ((ae UInt32 16 × Int) ⊕ (ae UInt32 16 × Int))
  | (v1, i) => if i < 8 then ((zS i).bind fun ah => (pR r_ (aB (2 * i))).bind fun bh => (aN m_.l bh).bind fun aC => (pR r_ (aB ((aB (2 * i)) + 1))).bind fun cD => (aN m_.l cD).bind fun ej => (B7 v1 ah.1 ah.2.1 ah.2.2.1 ah.2.2.2 aC ej).bind fun fi => some (.inl (fi.1, aB (i + 1)))) else (Option.map Sum.inr (some (v1, (0 : Int))))
noncomputable def uH (v : ae UInt32 16) (m_ : ae UInt32 16) (r_ : Int) : Option (ae UInt32 16 × Int) :=
  if ((decide (r_ < 0)) || (decide (9 < r_))) = true then (some ((ae.rep 16 ((0 : UInt32) : UInt32)), (1 : Int))) else (bO (uG m_ r_) (v, (0 : Int)))
noncomputable def xt (v : ae UInt32 16) : (ae UInt32 8 × Int) → Option ((ae UInt32 8 × Int) ⊕ (ae UInt32 8))
  | (h1, i) => if i < 8 then ((aN h1.l i).bind fun aC => (aN v.l i).bind fun eL => (aN v.l (aB (i + 8))).bind fun ej => (aN h1.l i).bind fun fg => (some (hK h1 i ((aC ^^^ eL) ^^^ ej))).bind fun v1 => some (.inl (v1, aB (i + 1)))) else (Option.map Sum.inr (some h1))
noncomputable def yc (h : ae UInt32 8) (v : ae UInt32 16) : Option (ae UInt32 8) :=
  bO (xt v) (h, (0 : Int))
noncomputable def wK (h : ae UInt32 8) (m_ : ae UInt32 16) : (ae UInt32 16 × Int) → Option ((ae UInt32 16 × Int) ⊕ (ae UInt32 8))
  | (v, ah) => if ah < 10 then ((uH v m_ ah).bind fun bh => some (.inl (bh.1, aB (ah + 1)))) else (Option.map Sum.inr ((yc h v).bind fun cD => some cD))
noncomputable def B8 (h : ae UInt32 8) (m_ : ae UInt32 16) (count : UInt64) (last : Bool) (node : Bool) : Option (ae UInt32 8) :=
  (uF h count last node).bind fun r_ => bO (wK h m_) (r_, (0 : Int))
noncomputable def r5 (ah : (ae UInt64 8)) : (ae UInt64 16 × Int) → Option ((ae UInt64 16 × Int) ⊕ (ae UInt64 16))
  | (h1, i1) => if i1 < 8 then ((aN ah.l i1).bind fun ej => (aN h1.l i1).bind fun fg => (some (hK h1 i1 ej)).bind fun v1 => some (.inl (v1, aB (i1 + 1)))) else (Option.map Sum.inr (some h1))
noncomputable def uI (h : ae UInt64 16) (b : List UInt8) (lo : UInt64) (hi : UInt64) (last : Bool) (node : Bool) : (ae UInt64 8 × Int) → Option ((ae UInt64 8 × Int) ⊕ (ae UInt64 16))
  | (s_, i) => if i < 8 then ((aN h.l i).bind fun aC => (aN s_.l i).bind fun eL => (some (hK s_ i aC)).bind fun v => some (.inl (v, aB (i + 1)))) else (Option.map Sum.inr ((uB b).bind fun r_ => (B6 s_ r_.1 lo hi last node).bind fun ah => bO (r5 ah) (h, (0 : Int))))
noncomputable def r6 (cD : (ae UInt32 8)) : (ae UInt64 16 × Int) → Option ((ae UInt64 16 × Int) ⊕ (ae UInt64 16))
  | (h2, i3) => if i3 < 8 then ((aN cD.l i3).bind fun l6 => (aN h2.l i3).bind fun lG => (some (hK h2 i3 (UInt64.ofNat l6.toNat))).bind fun v3 => some (.inl (v3, aB (i3 + 1)))) else (Option.map Sum.inr (some h2))
noncomputable def uJ (h : ae UInt64 16) (b : List UInt8) (lo : UInt64) (last : Bool) (node : Bool) : (ae UInt32 8 × Int) → Option ((ae UInt32 8 × Int) ⊕ (ae UInt64 16))
  | (R4, i2) => if i2 < 8 then ((aN h.l i2).bind fun ll => (aN R4.l i2).bind fun ln => (some (hK R4 i2 (UInt32.ofNat ll.toNat))).bind fun v2 => some (.inl (v2, aB (i2 + 1)))) else (Option.map Sum.inr ((uE b).bind fun bh => (B8 R4 bh.1 lo last node).bind fun cD => bO (r6 cD) (h, (0 : Int))))
noncomputable def uK (kind : Int) (h : ae UInt64 16) (b : List UInt8) (lo : UInt64) (hi : UInt64) (last : Bool) (node : Bool) : Option (ae UInt64 16) :=
  if kind = 1 then (bO (uI h b lo hi last node) ((ae.rep 8 (0 : UInt64)), (0 : Int))) else (bO (uJ h b lo last node) ((ae.rep 8 (0 : UInt32)), (0 : Int)))
noncomputable def uL (n : Int) : (UInt64 × List UInt8 × Int) → Option ((UInt64 × List UInt8 × Int) ⊕ (List UInt8))
  | (lh, b, i) => if i < n then ((app b ([UInt8.ofNat (lh % 256).toNat] : List UInt8) 1).bind fun b1 => some (.inl (lh / 256, b1, aB (i + 1)))) else (Option.map Sum.inr (some b))
noncomputable def uM (w_ : UInt64) (n : Int) : Option (List UInt8) :=
  bO (uL n) (w_, ([] : List UInt8), (0 : Int))
noncomputable def ru (kind : Int) (h : ae UInt64 16) : (List UInt8 × Int) → Option ((List UInt8 × Int) ⊕ (List UInt8))
  | (b, i) => if i < 8 then ((aN h.l i).bind fun aC => (wE kind).bind fun r_ => (uM aC (aB (Int.tdiv r_ 8))).bind fun ah => (app b ah 1).bind fun b1 => some (.inl (b1, aB (i + 1)))) else (Option.map Sum.inr (some b))
noncomputable def pS (kind : Int) (h : ae UInt64 16) : Option (List UInt8) :=
  bO (ru kind h) (([] : List UInt8), (0 : Int))
noncomputable def tS (k_ : Int) (length : Int) (s_ : Int) (gu : Int) : Option (Int × Int × UInt32 × UInt64 × Bool × Bool) :=
  if (!(decide (length ≠ (-1)))) = true then (some (k_, s_, UInt32.ofInt (aB (gu + 1)), aE (UInt64.ofInt s_) ((32 : UInt64).toNat), decide (length ≠ (-1)), true)) else (some (k_, s_, UInt32.ofInt length, UInt64.ofInt length, decide (length ≠ (-1)), (decide (1 ≤ length)) && (decide (length ≤ gu))))
noncomputable def B9 (k_ : Int) (length : Int) : Option (Int × Int × UInt32 × UInt64 × Bool × Bool) :=
  if k_ = 1 then (tS k_ length (64 : Int) (4294967294 : Int)) else (if k_ = 2 then (tS k_ length (32 : Int) (65534 : Int)) else (some (k_, (0 : Int), (0 : UInt32), (0 : UInt64), decide (length ≠ (-1)), false)))
noncomputable def sN (zT : Int) (rv : Int) (yd : UInt32) (B_ : UInt64) (JJ : Bool) (key : List UInt8) (dx : List UInt8) (bJ : List UInt8) : Option (Int × Int × UInt32) :=
  some (rv, ((key.length : Nat) : Int), yd)
noncomputable def C9 (k_ : Int) (length : Int) (key : List UInt8) (dx : List UInt8) (bJ : List UInt8) : Option (Int × Int × UInt32 × UInt64 × Bool × Int) :=
  (B9 k_ length).bind fun r_ => if (!r_.2.2.2.2.2) = true then (some (r_.1, r_.2.1, r_.2.2.1, r_.2.2.2.1, r_.2.2.2.2.1, (1 : Int))) else (if r_.2.1 < ((key.length : Nat) : Int) then (some (r_.1, r_.2.1, r_.2.2.1, r_.2.2.2.1, r_.2.2.2.2.1, (8 : Int))) else ((sN r_.1 r_.2.1 r_.2.2.1 r_.2.2.2.1 r_.2.2.2.2.1 key dx bJ).bind fun ah => (jl k_ ah.1 ah.2.1 (1 : Int) (1 : Int) (0 : UInt32) (0 : UInt64) ah.2.2 (0 : Int) (0 : Int) dx bJ).bind fun bh => some (r_.1, r_.2.1, r_.2.2.1, r_.2.2.2.1, r_.2.2.2.2.1, bh)))
noncomputable def ye (b : List UInt8) : Option (List UInt8) :=
  (app ([] : List UInt8) b 1).bind fun b1 => some b1
noncomputable def wL (jr : Int) (js : Int) (jS : UInt32) (iU : UInt64) (iV : Bool) (cE : List UInt8) (bd : List UInt8) (ai : List UInt8) (dY : List UInt8) (ir : UInt64) (ei : ae UInt8 64) (dr : Int) : Option ((Int × Int × UInt32 × UInt64 × Bool × List UInt8 × List UInt8 × List UInt8 × List UInt8 × ae UInt8 64) ⊕ (Int × Int × UInt32 × UInt64 × Bool × List UInt8 × List UInt8 × List UInt8 × Int × Int × List UInt8 × List UInt8 × ae UInt64 8 × UInt64 × UInt64 × List UInt8 × Int × List UInt8 × ae UInt8 64) ⊕ (Int × Int × UInt32 × UInt64 × Bool × List UInt8 × List UInt8 × List UInt8 × Int × Int × List UInt8 × List UInt8 × ae UInt32 8 × UInt64 × UInt64 × List UInt8 × Int × List UInt8 × ae UInt8 64)) :=
  (sN jr js jS iU iV cE bd ai).bind fun r_ => (mA jr r_.1 r_.2.1 (1 : Int) (1 : Int) (0 : UInt32) (0 : UInt64) r_.2.2 (0 : Int) (0 : Int) bd ai cE).bind fun ah => (Sum.elim (fun bh => some (Sum.inl (jr, js, jS, iU, iV, cE, bd, ai, ([] : List UInt8), ei))) (Sum.elim (fun cD => some (Sum.inr (Sum.inl (jr, js, jS, iU, iV, cE, bd, ai, cD.1, cD.2.1, cD.2.2.1, cD.2.2.2.1, cD.2.2.2.2.1, cD.2.2.2.2.2.1, cD.2.2.2.2.2.2.1, cD.2.2.2.2.2.2.2.1, cD.2.2.2.2.2.2.2.2, ([] : List UInt8), ei)))) (fun fi => some (Sum.inr (Sum.inr (jr, js, jS, iU, iV, cE, bd, ai, fi.1, fi.2.1, fi.2.2.1, fi.2.2.2.1, fi.2.2.2.2.1, fi.2.2.2.2.2.1, fi.2.2.2.2.2.2.1, fi.2.2.2.2.2.2.2.1, fi.2.2.2.2.2.2.2.2, ([] : List UInt8), ei)))))) ah
noncomputable def Gk (k_ : Int) (length : Int) (key : List UInt8) (dx : List UInt8) (bJ : List UInt8) : Option (Int ⊕ (Int × Int × UInt32 × UInt64 × Bool × List UInt8 × List UInt8 × List UInt8 × List UInt8 × ae UInt8 64) ⊕ (Int × Int × UInt32 × UInt64 × Bool × List UInt8 × List UInt8 × List UInt8 × Int × Int × List UInt8 × List UInt8 × ae UInt64 8 × UInt64 × UInt64 × List UInt8 × Int × List UInt8 × ae UInt8 64) ⊕ (Int × Int × UInt32 × UInt64 × Bool × List UInt8 × List UInt8 × List UInt8 × Int × Int × List UInt8 × List UInt8 × ae UInt32 8 × UInt64 × UInt64 × List UInt8 × Int × List UInt8 × ae UInt8 64)) :=
  (C9 k_ length key dx bJ).bind fun r_ => if r_.2.2.2.2.2 ≠ 0 then (some (Sum.inl r_.2.2.2.2.2)) else ((ye key).bind fun ah => (ye dx).bind fun bh => (ye bJ).bind fun cD => (wL r_.1 r_.2.1 r_.2.2.1 r_.2.2.2.1 r_.2.2.2.2.1 ah bh cD ([] : List UInt8) (0 : UInt64) (ae.rep 64 (0 : UInt8)) (0 : Int)).bind fun fi => (Sum.elim (fun bH => some (Sum.inr (Sum.inl (bH.1, bH.2.1, bH.2.2.1, bH.2.2.2.1, bH.2.2.2.2.1, bH.2.2.2.2.2.1, bH.2.2.2.2.2.2.1, bH.2.2.2.2.2.2.2.1, bH.2.2.2.2.2.2.2.2.1, bH.2.2.2.2.2.2.2.2.2)))) (Sum.elim (fun cW => some (Sum.inr (Sum.inr (Sum.inl (cW.1, cW.2.1, cW.2.2.1, cW.2.2.2.1, cW.2.2.2.2.1, cW.2.2.2.2.2.1, cW.2.2.2.2.2.2.1, cW.2.2.2.2.2.2.2.1, cW.2.2.2.2.2.2.2.2.1, cW.2.2.2.2.2.2.2.2.2.1, cW.2.2.2.2.2.2.2.2.2.2.1, cW.2.2.2.2.2.2.2.2.2.2.2.1, cW.2.2.2.2.2.2.2.2.2.2.2.2.1, cW.2.2.2.2.2.2.2.2.2.2.2.2.2.1, cW.2.2.2.2.2.2.2.2.2.2.2.2.2.2.1, cW.2.2.2.2.2.2.2.2.2.2.2.2.2.2.2.1, cW.2.2.2.2.2.2.2.2.2.2.2.2.2.2.2.2.1, cW.2.2.2.2.2.2.2.2.2.2.2.2.2.2.2.2.2.1, cW.2.2.2.2.2.2.2.2.2.2.2.2.2.2.2.2.2.2))))) (fun rY => some (Sum.inr (Sum.inr (Sum.inr (rY.1, rY.2.1, rY.2.2.1, rY.2.2.2.1, rY.2.2.2.2.1, rY.2.2.2.2.2.1, rY.2.2.2.2.2.2.1, rY.2.2.2.2.2.2.2.1, rY.2.2.2.2.2.2.2.2.1, rY.2.2.2.2.2.2.2.2.2.1, rY.2.2.2.2.2.2.2.2.2.2.1, rY.2.2.2.2.2.2.2.2.2.2.2.1, rY.2.2.2.2.2.2.2.2.2.2.2.2.1, rY.2.2.2.2.2.2.2.2.2.2.2.2.2.1, rY.2.2.2.2.2.2.2.2.2.2.2.2.2.2.1, rY.2.2.2.2.2.2.2.2.2.2.2.2.2.2.2.1, rY.2.2.2.2.2.2.2.2.2.2.2.2.2.2.2.2.1, rY.2.2.2.2.2.2.2.2.2.2.2.2.2.2.2.2.2.1, rY.2.2.2.2.2.2.2.2.2.2.2.2.2.2.2.2.2.2))))))) fi)
noncomputable def El (fk : List UInt8) : Option (Int ⊕ (List UInt8) ⊕ (List UInt8 × Int × Int × UInt32 × UInt64 × Bool × List UInt8 × List UInt8 × List UInt8 × List UInt8 × ae UInt8 64) ⊕ (List UInt8 × Int × Int × UInt32 × UInt64 × Bool × List UInt8 × List UInt8 × List UInt8 × Int × Int × List UInt8 × List UInt8 × ae UInt64 8 × UInt64 × UInt64 × List UInt8 × Int × List UInt8 × ae UInt8 64) ⊕ (List UInt8 × Int × Int × UInt32 × UInt64 × Bool × List UInt8 × List UInt8 × List UInt8 × Int × Int × List UInt8 × List UInt8 × ae UInt32 8 × UInt64 × UInt64 × List UInt8 × Int × List UInt8 × ae UInt8 64)) :=
  if 64 < ((fk.length : Nat) : Int) then (some (Sum.inl (8 : Int))) else ((Gk (1 : Int) (-1 : Int) fk ([] : List UInt8) ([] : List UInt8)).bind fun r_ => (Sum.elim (fun ah => if ah ≠ 0 then (some (Sum.inl ah)) else ((app ([] : List UInt8) fk 1).bind fun b => some (Sum.inr (Sum.inl b)))) (Sum.elim (fun bh => if 0 ≠ 0 then (some (Sum.inl (0 : Int))) else ((app ([] : List UInt8) fk 1).bind fun b0 => some (Sum.inr (Sum.inr (Sum.inl (b0, bh.1, bh.2.1, bh.2.2.1, bh.2.2.2.1, bh.2.2.2.2.1, bh.2.2.2.2.2.1, bh.2.2.2.2.2.2.1, bh.2.2.2.2.2.2.2.1, bh.2.2.2.2.2.2.2.2.1, bh.2.2.2.2.2.2.2.2.2)))))) (Sum.elim (fun cD => if 0 ≠ 0 then (some (Sum.inl (0 : Int))) else ((app ([] : List UInt8) fk 1).bind fun b1 => some (Sum.inr (Sum.inr (Sum.inr (Sum.inl (b1, cD.1, cD.2.1, cD.2.2.1, cD.2.2.2.1, cD.2.2.2.2.1, cD.2.2.2.2.2.1, cD.2.2.2.2.2.2.1, cD.2.2.2.2.2.2.2.1, cD.2.2.2.2.2.2.2.2.1, cD.2.2.2.2.2.2.2.2.2.1, cD.2.2.2.2.2.2.2.2.2.2.1, cD.2.2.2.2.2.2.2.2.2.2.2.1, cD.2.2.2.2.2.2.2.2.2.2.2.2.1, cD.2.2.2.2.2.2.2.2.2.2.2.2.2.1, cD.2.2.2.2.2.2.2.2.2.2.2.2.2.2.1, cD.2.2.2.2.2.2.2.2.2.2.2.2.2.2.2.1, cD.2.2.2.2.2.2.2.2.2.2.2.2.2.2.2.2.1, cD.2.2.2.2.2.2.2.2.2.2.2.2.2.2.2.2.2.1, cD.2.2.2.2.2.2.2.2.2.2.2.2.2.2.2.2.2.2))))))) (fun fi => if 0 ≠ 0 then (some (Sum.inl (0 : Int))) else ((app ([] : List UInt8) fk 1).bind fun b2 => some (Sum.inr (Sum.inr (Sum.inr (Sum.inr (b2, fi.1, fi.2.1, fi.2.2.1, fi.2.2.2.1, fi.2.2.2.2.1, fi.2.2.2.2.2.1, fi.2.2.2.2.2.2.1, fi.2.2.2.2.2.2.2.1, fi.2.2.2.2.2.2.2.2.1, fi.2.2.2.2.2.2.2.2.2.1, fi.2.2.2.2.2.2.2.2.2.2.1, fi.2.2.2.2.2.2.2.2.2.2.2.1, fi.2.2.2.2.2.2.2.2.2.2.2.2.1, fi.2.2.2.2.2.2.2.2.2.2.2.2.2.1, fi.2.2.2.2.2.2.2.2.2.2.2.2.2.2.1, fi.2.2.2.2.2.2.2.2.2.2.2.2.2.2.2.1, fi.2.2.2.2.2.2.2.2.2.2.2.2.2.2.2.2.1, fi.2.2.2.2.2.2.2.2.2.2.2.2.2.2.2.2.2.1, fi.2.2.2.2.2.2.2.2.2.2.2.2.2.2.2.2.2.2)))))))))) r_)
noncomputable def yf (bX : List UInt8) : Option (List UInt8) :=
  some bX
noncomputable def yg (bX : List UInt8) : Option (List UInt8) :=
  (yf bX).bind fun r_ => some r_
noncomputable def vI (bX : List UInt8) (kn : Int) (ko : Int) (kp : UInt32) (jt : UInt64) (ju : Bool) (bk : List UInt8) (aT : List UInt8) (aj : List UInt8) (ga : List UInt8) (cR : UInt64) (b9 : ae UInt8 64) (bz : Int) : Option (Int × Int × UInt32 × UInt64 × Bool × List UInt8 × List UInt8 × List UInt8 × List UInt8 × UInt64 × ae UInt8 64 × Int × List UInt8) :=
  some (kn, ko, kp, jt, ju, bk, aT, aj, ga, cR, b9, bz, bX)
noncomputable def ry  : Option (List Int) :=
  some ([] : List Int)
noncomputable def vJ (bX : List UInt8) (kn : Int) (ko : Int) (kp : UInt32) (jt : UInt64) (ju : Bool) (bk : List UInt8) (aT : List UInt8) (aj : List UInt8) (ga : List UInt8) (cR : UInt64) (b9 : ae UInt8 64) (bz : Int) : Option (Int × Int × UInt32 × UInt64 × Bool × List UInt8 × List UInt8 × List UInt8 × List UInt8 × UInt64 × ae UInt8 64 × Int × List UInt8) :=
  (vI bX kn ko kp jt ju bk aT aj ga cR b9 bz).bind fun r_ => (ry).bind fun ah => some (r_.1, r_.2.1, r_.2.2.1, r_.2.2.2.1, r_.2.2.2.2.1, r_.2.2.2.2.2.1, r_.2.2.2.2.2.2.1, r_.2.2.2.2.2.2.2.1, r_.2.2.2.2.2.2.2.2.1, r_.2.2.2.2.2.2.2.2.2.1, r_.2.2.2.2.2.2.2.2.2.2.1, r_.2.2.2.2.2.2.2.2.2.2.2.1, r_.2.2.2.2.2.2.2.2.2.2.2.2)
noncomputable def vK (bX : List UInt8) (kn : Int) (ko : Int) (kp : UInt32) (jt : UInt64) (ju : Bool) (bk : List UInt8) (aT : List UInt8) (aj : List UInt8) (aZ : Int) (aG : Int) (aO : List UInt8) (bg : List UInt8) (a1 : Bool) (ay : UInt64) (bm : ae UInt64 8) (ak : UInt64) (al : UInt64) (aD : List UInt8) (az : Int) (ga : List UInt8) (cR : UInt64) (b9 : ae UInt8 64) (bz : Int) : Option (ae UInt64 8 × UInt64 × UInt64 × List UInt8 × Int × Int × Int × List UInt8 × List UInt8 × Bool × UInt64 × Int × Int × UInt32 × UInt64 × Bool × List UInt8 × List UInt8 × List UInt8 × List UInt8 × UInt64 × ae UInt8 64 × Int × List UInt8) :=
  some (bm, ak, al, aD, az, aZ, aG, aO, bg, a1, ay, kn, ko, kp, jt, ju, bk, aT, aj, ga, cR, b9, bz, bX)
noncomputable def vL (bX : List UInt8) (kn : Int) (ko : Int) (kp : UInt32) (jt : UInt64) (ju : Bool) (bk : List UInt8) (aT : List UInt8) (aj : List UInt8) (aZ : Int) (aG : Int) (aO : List UInt8) (bg : List UInt8) (a1 : Bool) (ay : UInt64) (bm : ae UInt64 8) (ak : UInt64) (al : UInt64) (aD : List UInt8) (az : Int) (ga : List UInt8) (cR : UInt64) (b9 : ae UInt8 64) (bz : Int) : Option (ae UInt64 8 × UInt64 × UInt64 × List UInt8 × Int × Int × Int × List UInt8 × List UInt8 × Bool × UInt64 × Int × Int × UInt32 × UInt64 × Bool × List UInt8 × List UInt8 × List UInt8 × List UInt8 × UInt64 × ae UInt8 64 × Int × List UInt8) :=
  (vK bX kn ko kp jt ju bk aT aj aZ aG aO bg a1 ay bm ak al aD az ga cR b9 bz).bind fun r_ => (ry).bind fun ah => some (r_.1, r_.2.1, r_.2.2.1, r_.2.2.2.1, r_.2.2.2.2.1, r_.2.2.2.2.2.1, r_.2.2.2.2.2.2.1, r_.2.2.2.2.2.2.2.1, r_.2.2.2.2.2.2.2.2.1, r_.2.2.2.2.2.2.2.2.2.1, r_.2.2.2.2.2.2.2.2.2.2.1, r_.2.2.2.2.2.2.2.2.2.2.2.1, r_.2.2.2.2.2.2.2.2.2.2.2.2.1, r_.2.2.2.2.2.2.2.2.2.2.2.2.2.1, r_.2.2.2.2.2.2.2.2.2.2.2.2.2.2.1, r_.2.2.2.2.2.2.2.2.2.2.2.2.2.2.2.1, r_.2.2.2.2.2.2.2.2.2.2.2.2.2.2.2.2.1, r_.2.2.2.2.2.2.2.2.2.2.2.2.2.2.2.2.2.1, r_.2.2.2.2.2.2.2.2.2.2.2.2.2.2.2.2.2.2.1, r_.2.2.2.2.2.2.2.2.2.2.2.2.2.2.2.2.2.2.2.1, r_.2.2.2.2.2.2.2.2.2.2.2.2.2.2.2.2.2.2.2.2.1, r_.2.2.2.2.2.2.2.2.2.2.2.2.2.2.2.2.2.2.2.2.2.1, r_.2.2.2.2.2.2.2.2.2.2.2.2.2.2.2.2.2.2.2.2.2.2.1, r_.2.2.2.2.2.2.2.2.2.2.2.2.2.2.2.2.2.2.2.2.2.2.2)
noncomputable def vM (bX : List UInt8) (kn : Int) (ko : Int) (kp : UInt32) (jt : UInt64) (ju : Bool) (bk : List UInt8) (aT : List UInt8) (aj : List UInt8) (aZ : Int) (aG : Int) (aO : List UInt8) (bg : List UInt8) (a1 : Bool) (ay : UInt64) (bm : ae UInt32 8) (ak : UInt64) (al : UInt64) (aD : List UInt8) (az : Int) (ga : List UInt8) (cR : UInt64) (b9 : ae UInt8 64) (bz : Int) : Option (ae UInt32 8 × UInt64 × UInt64 × List UInt8 × Int × Int × Int × List UInt8 × List UInt8 × Bool × UInt64 × Int × Int × UInt32 × UInt64 × Bool × List UInt8 × List UInt8 × List UInt8 × List UInt8 × UInt64 × ae UInt8 64 × Int × List UInt8) :=
  some (bm, ak, al, aD, az, aZ, aG, aO, bg, a1, ay, kn, ko, kp, jt, ju, bk, aT, aj, ga, cR, b9, bz, bX)
noncomputable def vN (bX : List UInt8) (kn : Int) (ko : Int) (kp : UInt32) (jt : UInt64) (ju : Bool) (bk : List UInt8) (aT : List UInt8) (aj : List UInt8) (aZ : Int) (aG : Int) (aO : List UInt8) (bg : List UInt8) (a1 : Bool) (ay : UInt64) (bm : ae UInt32 8) (ak : UInt64) (al : UInt64) (aD : List UInt8) (az : Int) (ga : List UInt8) (cR : UInt64) (b9 : ae UInt8 64) (bz : Int) : Option (ae UInt32 8 × UInt64 × UInt64 × List UInt8 × Int × Int × Int × List UInt8 × List UInt8 × Bool × UInt64 × Int × Int × UInt32 × UInt64 × Bool × List UInt8 × List UInt8 × List UInt8 × List UInt8 × UInt64 × ae UInt8 64 × Int × List UInt8) :=
  (vM bX kn ko kp jt ju bk aT aj aZ aG aO bg a1 ay bm ak al aD az ga cR b9 bz).bind fun r_ => (ry).bind fun ah => some (r_.1, r_.2.1, r_.2.2.1, r_.2.2.2.1, r_.2.2.2.2.1, r_.2.2.2.2.2.1, r_.2.2.2.2.2.2.1, r_.2.2.2.2.2.2.2.1, r_.2.2.2.2.2.2.2.2.1, r_.2.2.2.2.2.2.2.2.2.1, r_.2.2.2.2.2.2.2.2.2.2.1, r_.2.2.2.2.2.2.2.2.2.2.2.1, r_.2.2.2.2.2.2.2.2.2.2.2.2.1, r_.2.2.2.2.2.2.2.2.2.2.2.2.2.1, r_.2.2.2.2.2.2.2.2.2.2.2.2.2.2.1, r_.2.2.2.2.2.2.2.2.2.2.2.2.2.2.2.1, r_.2.2.2.2.2.2.2.2.2.2.2.2.2.2.2.2.1, r_.2.2.2.2.2.2.2.2.2.2.2.2.2.2.2.2.2.1, r_.2.2.2.2.2.2.2.2.2.2.2.2.2.2.2.2.2.2.1, r_.2.2.2.2.2.2.2.2.2.2.2.2.2.2.2.2.2.2.2.1, r_.2.2.2.2.2.2.2.2.2.2.2.2.2.2.2.2.2.2.2.2.1, r_.2.2.2.2.2.2.2.2.2.2.2.2.2.2.2.2.2.2.2.2.2.1, r_.2.2.2.2.2.2.2.2.2.2.2.2.2.2.2.2.2.2.2.2.2.2.1, r_.2.2.2.2.2.2.2.2.2.2.2.2.2.2.2.2.2.2.2.2.2.2.2)
noncomputable def LD  : Option Bool :=
  (El ([] : List UInt8)).bind fun r_ => (Sum.elim (fun ah => some false) (Sum.elim (fun bh => if 0 ≠ 0 then (some false) else ((yg bh).bind fun cW => some (decide (7 = 251)))) (Sum.elim (fun cD => if 0 ≠ 0 then (some false) else ((vJ cD.1 cD.2.1 cD.2.2.1 cD.2.2.2.1 cD.2.2.2.2.1 cD.2.2.2.2.2.1 cD.2.2.2.2.2.2.1 cD.2.2.2.2.2.2.2.1 cD.2.2.2.2.2.2.2.2.1 cD.2.2.2.2.2.2.2.2.2.1 (0 : UInt64) cD.2.2.2.2.2.2.2.2.2.2 (-1 : Int)).bind fun rY => some (decide (251 = 251)))) (Sum.elim (fun fi => if 0 ≠ 0 then (some false) else ((vL fi.1 fi.2.1 fi.2.2.1 fi.2.2.2.1 fi.2.2.2.2.1 fi.2.2.2.2.2.1 fi.2.2.2.2.2.2.1 fi.2.2.2.2.2.2.2.1 fi.2.2.2.2.2.2.2.2.1 fi.2.2.2.2.2.2.2.2.2.1 fi.2.2.2.2.2.2.2.2.2.2.1 fi.2.2.2.2.2.2.2.2.2.2.2.1 fi.2.2.2.2.2.2.2.2.2.2.2.2.1 false (0 : UInt64) fi.2.2.2.2.2.2.2.2.2.2.2.2.2.1 fi.2.2.2.2.2.2.2.2.2.2.2.2.2.2.1 fi.2.2.2.2.2.2.2.2.2.2.2.2.2.2.2.1 fi.2.2.2.2.2.2.2.2.2.2.2.2.2.2.2.2.1 fi.2.2.2.2.2.2.2.2.2.2.2.2.2.2.2.2.2.1 fi.2.2.2.2.2.2.2.2.2.2.2.2.2.2.2.2.2.2.1 (0 : UInt64) fi.2.2.2.2.2.2.2.2.2.2.2.2.2.2.2.2.2.2.2 (-1 : Int)).bind fun E8 => some (decide (251 = 251)))) (fun bH => if 0 ≠ 0 then (some false) else ((vN bH.1 bH.2.1 bH.2.2.1 bH.2.2.2.1 bH.2.2.2.2.1 bH.2.2.2.2.2.1 bH.2.2.2.2.2.2.1 bH.2.2.2.2.2.2.2.1 bH.2.2.2.2.2.2.2.2.1 bH.2.2.2.2.2.2.2.2.2.1 bH.2.2.2.2.2.2.2.2.2.2.1 bH.2.2.2.2.2.2.2.2.2.2.2.1 bH.2.2.2.2.2.2.2.2.2.2.2.2.1 false (0 : UInt64) bH.2.2.2.2.2.2.2.2.2.2.2.2.2.1 bH.2.2.2.2.2.2.2.2.2.2.2.2.2.2.1 bH.2.2.2.2.2.2.2.2.2.2.2.2.2.2.2.1 bH.2.2.2.2.2.2.2.2.2.2.2.2.2.2.2.2.1 bH.2.2.2.2.2.2.2.2.2.2.2.2.2.2.2.2.2.1 bH.2.2.2.2.2.2.2.2.2.2.2.2.2.2.2.2.2.2.1 (0 : UInt64) bH.2.2.2.2.2.2.2.2.2.2.2.2.2.2.2.2.2.2.2 (-1 : Int)).bind fun OD => some (decide (251 = 251)))))))) r_
noncomputable def nB  : Option Unit :=
  some ()
noncomputable def xu (work : UInt64) : Option UInt64 :=
  (nB).bind fun r_ => some work
noncomputable def yh  : Option Unit :=
  (xu (0 : UInt64)).bind fun r_ => some ()
noncomputable def E9 (n : UInt64) : Option Unit :=
  (nB).bind fun r_ => some ()
noncomputable def Ca  : Option Unit :=
  some ()
noncomputable def E_  : Option Unit :=
  (yh).bind fun r_ => (Ca).bind fun ah => some ()
noncomputable def HA  : Option Unit :=
  (nB).bind fun r_ => some ()
noncomputable def mn  : Option Unit :=
  some ()
noncomputable def oL  : Option Unit :=
  mn
noncomputable def jf (key : List UInt8) (dx : List UInt8) (bJ : List UInt8) : Option Int :=
  some ((key.length : Nat) : Int)
noncomputable def nG (key : List UInt8) (dx : List UInt8) (bJ : List UInt8) : Option Int :=
  (oL).bind fun r_ => if 64 < ((key.length : Nat) : Int) then (some (8 : Int)) else ((jf key dx bJ).bind fun ah => (jl (1 : Int) (64 : Int) ah (1 : Int) (1 : Int) (0 : UInt32) (0 : UInt64) (4294967295 : UInt32) (0 : Int) (0 : Int) dx bJ).bind fun bh => some bh)
noncomputable def mG (b : List UInt8) : Option (List UInt8) :=
  (app ([] : List UInt8) b 1).bind fun b1 => some b1
noncomputable def k5 (cE : List UInt8) (bd : List UInt8) (ai : List UInt8) (ir : UInt64) (ei : ae UInt8 64) (dr : Int) : Option (Int × Int × List UInt8 × List UInt8 × ae UInt64 8 × UInt64 × UInt64 × List UInt8 × Int × ae UInt8 64) :=
  (jf cE bd ai).bind fun r_ => (mA (1 : Int) (64 : Int) r_ (1 : Int) (1 : Int) (0 : UInt32) (0 : UInt64) (4294967295 : UInt32) (0 : Int) (0 : Int) bd ai cE).bind fun ah => (Sum.elim (fun bh => none) (Sum.elim (fun cD => some (cD.1, cD.2.1, cD.2.2.1, cD.2.2.2.1, cD.2.2.2.2.1, cD.2.2.2.2.2.1, cD.2.2.2.2.2.2.1, cD.2.2.2.2.2.2.2.1, cD.2.2.2.2.2.2.2.2, ei)) (fun fi => none))) ah
noncomputable def r7 (key : List UInt8) (dx : List UInt8) (bJ : List UInt8) : Option (Int ⊕ (List UInt8 × List UInt8 × List UInt8 × Int × Int × List UInt8 × List UInt8 × ae UInt64 8 × UInt64 × UInt64 × List UInt8 × Int × ae UInt8 64)) :=
  (nG key dx bJ).bind fun r_ => if r_ ≠ 0 then (some (Sum.inl r_)) else ((mG key).bind fun ah => (mG dx).bind fun bh => (mG bJ).bind fun cD => (k5 ah bh cD (0 : UInt64) (ae.rep 64 (0 : UInt8)) (0 : Int)).bind fun fi => some (Sum.inr (ah, bh, cD, fi.1, fi.2.1, fi.2.2.1, fi.2.2.2.1, fi.2.2.2.2.1, fi.2.2.2.2.2.1, fi.2.2.2.2.2.2.1, fi.2.2.2.2.2.2.2.1, fi.2.2.2.2.2.2.2.2.1, fi.2.2.2.2.2.2.2.2.2)))
noncomputable def na (fk : List UInt8) : Option (Int ⊕ (List UInt8 × List UInt8 × List UInt8 × List UInt8 × Int × Int × List UInt8 × List UInt8 × ae UInt64 8 × UInt64 × UInt64 × List UInt8 × Int × ae UInt8 64)) :=
  if 64 < ((fk.length : Nat) : Int) then (some (Sum.inl (8 : Int))) else ((r7 fk ([] : List UInt8) ([] : List UInt8)).bind fun r_ => (Sum.elim (fun ah => if ah ≠ 0 then (some (Sum.inl ah)) else none) (fun bh => (app ([] : List UInt8) fk 1).bind fun b0 => some (Sum.inr (b0, bh.1, bh.2.1, bh.2.2.1, bh.2.2.2.1, bh.2.2.2.2.1, bh.2.2.2.2.2.1, bh.2.2.2.2.2.2.1, bh.2.2.2.2.2.2.2.1, bh.2.2.2.2.2.2.2.2.1, bh.2.2.2.2.2.2.2.2.2.1, bh.2.2.2.2.2.2.2.2.2.2.1, bh.2.2.2.2.2.2.2.2.2.2.2.1, bh.2.2.2.2.2.2.2.2.2.2.2.2)))) r_)
noncomputable def cM (bX : List UInt8) (bk : List UInt8) (aT : List UInt8) (aj : List UInt8) (aZ : Int) (aG : Int) (aO : List UInt8) (bg : List UInt8) (a1 : Bool) (ay : UInt64) (bm : ae UInt64 8) (ak : UInt64) (al : UInt64) (aD : List UInt8) (az : Int) (cR : UInt64) (b9 : ae UInt8 64) (bz : Int) : Option (ae UInt64 8 × UInt64 × UInt64 × List UInt8 × Int × Int × Int × List UInt8 × List UInt8 × Bool × UInt64 × UInt64 × ae UInt8 64 × Int) :=
  some (bm, ak, al, aD, az, aZ, aG, aO, bg, a1, ay, cR, b9, bz)
noncomputable def yi  : Option (List Int) :=
  some ([] : List Int)
noncomputable def Em (bX : List UInt8) (bk : List UInt8) (aT : List UInt8) (aj : List UInt8) (aZ : Int) (aG : Int) (aO : List UInt8) (bg : List UInt8) (a1 : Bool) (ay : UInt64) (bm : ae UInt64 8) (ak : UInt64) (al : UInt64) (aD : List UInt8) (az : Int) (cR : UInt64) (b9 : ae UInt8 64) (bz : Int) : Option (ae UInt64 8 × UInt64 × UInt64 × List UInt8 × Int × Int × Int × List UInt8 × List UInt8 × Bool × UInt64 × UInt64 × ae UInt8 64 × Int) :=
  (cM bX bk aT aj aZ aG aO bg a1 ay bm ak al aD az cR b9 bz).bind fun r_ => (yi).bind fun ah => some (r_.1, r_.2.1, r_.2.2.1, r_.2.2.2.1, r_.2.2.2.2.1, r_.2.2.2.2.2.1, r_.2.2.2.2.2.2.1, r_.2.2.2.2.2.2.2.1, r_.2.2.2.2.2.2.2.2.1, r_.2.2.2.2.2.2.2.2.2.1, r_.2.2.2.2.2.2.2.2.2.2.1, r_.2.2.2.2.2.2.2.2.2.2.2.1, r_.2.2.2.2.2.2.2.2.2.2.2.2.1, r_.2.2.2.2.2.2.2.2.2.2.2.2.2)
noncomputable def gA (cE : List UInt8) (bd : List UInt8) (ai : List UInt8) (b6 : Int) (bf : Int) (bo : List UInt8) (cm : List UInt8) (b7 : Bool) (aU : UInt64) (cF : ae UInt64 8) (aw : UInt64) (ax : UInt64) (a7 : List UInt8) (aV : Int) (ir : UInt64) (ei : ae UInt8 64) (dr : Int) : Option (ae UInt64 8 × UInt64 × UInt64 × List UInt8 × Int × Int × Int × List UInt8 × List UInt8 × Bool × UInt64 × UInt64 × ae UInt8 64 × Int) :=
  some (cF, aw, ax, a7, aV, b6, bf, bo, cm, b7, aU, ir, ei, dr)
noncomputable def oM (cE : List UInt8) (bd : List UInt8) (ai : List UInt8) (b6 : Int) (bf : Int) (bo : List UInt8) (cm : List UInt8) (b7 : Bool) (aU : UInt64) (cF : ae UInt64 8) (aw : UInt64) (ax : UInt64) (a7 : List UInt8) (aV : Int) (ir : UInt64) (ei : ae UInt8 64) (dr : Int) : Option (UInt64 × ae UInt64 8 × UInt64 × UInt64 × List UInt8 × Int × Int × Int × List UInt8 × List UInt8 × Bool × UInt64 × UInt64 × ae UInt8 64 × Int) :=
  (gA cE bd ai b6 bf bo cm b7 aU cF aw ax a7 aV ir ei dr).bind fun r_ => some (r_.2.2.2.2.2.2.2.2.2.2.2.1, r_.1, r_.2.1, r_.2.2.1, r_.2.2.2.1, r_.2.2.2.2.1, r_.2.2.2.2.2.1, r_.2.2.2.2.2.2.1, r_.2.2.2.2.2.2.2.1, r_.2.2.2.2.2.2.2.2.1, r_.2.2.2.2.2.2.2.2.2.1, r_.2.2.2.2.2.2.2.2.2.2.1, r_.2.2.2.2.2.2.2.2.2.2.2.1, r_.2.2.2.2.2.2.2.2.2.2.2.2.1, r_.2.2.2.2.2.2.2.2.2.2.2.2.2)
noncomputable def fm (bX : List UInt8) (bk : List UInt8) (aT : List UInt8) (aj : List UInt8) (aZ : Int) (aG : Int) (aO : List UInt8) (bg : List UInt8) (a1 : Bool) (ay : UInt64) (bm : ae UInt64 8) (ak : UInt64) (al : UInt64) (aD : List UInt8) (az : Int) (cR : UInt64) (b9 : ae UInt8 64) (bz : Int) : Option (UInt64 × ae UInt64 8 × UInt64 × UInt64 × List UInt8 × Int × Int × Int × List UInt8 × List UInt8 × Bool × UInt64 × UInt64 × ae UInt8 64 × Int) :=
  (cM bX bk aT aj aZ aG aO bg a1 ay bm ak al aD az cR b9 bz).bind fun r_ => (oM bk aT aj r_.2.2.2.2.2.1 r_.2.2.2.2.2.2.1 r_.2.2.2.2.2.2.2.1 r_.2.2.2.2.2.2.2.2.1 r_.2.2.2.2.2.2.2.2.2.1 r_.2.2.2.2.2.2.2.2.2.2.1 r_.1 r_.2.1 r_.2.2.1 r_.2.2.2.1 r_.2.2.2.2.1 r_.2.2.2.2.2.2.2.2.2.2.2.1 r_.2.2.2.2.2.2.2.2.2.2.2.2.1 r_.2.2.2.2.2.2.2.2.2.2.2.2.2).bind fun ah => some (ah.1 / 8, ah.2.1, ah.2.2.1, ah.2.2.2.1, ah.2.2.2.2.1, ah.2.2.2.2.2.1, ah.2.2.2.2.2.2.1, ah.2.2.2.2.2.2.2.1, ah.2.2.2.2.2.2.2.2.1, ah.2.2.2.2.2.2.2.2.2.1, ah.2.2.2.2.2.2.2.2.2.2.1, ah.2.2.2.2.2.2.2.2.2.2.2.1, ah.2.2.2.2.2.2.2.2.2.2.2.2.1, ah.2.2.2.2.2.2.2.2.2.2.2.2.2.1, ah.2.2.2.2.2.2.2.2.2.2.2.2.2.2)
noncomputable def jT (cE : List UInt8) (bd : List UInt8) (ai : List UInt8) (b6 : Int) (bf : Int) (bo : List UInt8) (cm : List UInt8) (b7 : Bool) (aU : UInt64) (cF : ae UInt64 8) (aw : UInt64) (ax : UInt64) (a7 : List UInt8) (aV : Int) (ir : UInt64) (ei : ae UInt8 64) (dr : Int) : Option (ae UInt64 8 × UInt64 × UInt64 × List UInt8 × Int × Int × Int × List UInt8 × List UInt8 × Bool × UInt64 × List UInt8 × UInt64 × ae UInt8 64 × Int) :=
  (eo b6 bf bo cm b7 aU cF aw ax a7 aV (64 : Int)).bind fun r_ => (o9 (r_.1 ≠ [])).bind fun u => some (r_.2.2.1, r_.2.2.2.1, r_.2.2.2.2.1, r_.2.2.2.2.2.1, r_.2.2.2.2.2.2.1, r_.2.2.2.2.2.2.2.1, r_.2.2.2.2.2.2.2.2.1, r_.2.2.2.2.2.2.2.2.2.1, r_.2.2.2.2.2.2.2.2.2.2.1, r_.2.2.2.2.2.2.2.2.2.2.2.1, r_.2.2.2.2.2.2.2.2.2.2.2.2, r_.1, ir, ei, dr)
noncomputable def gR (qU : ae UInt64 8) (bC : UInt64) (bD : UInt64) (cA : List UInt8) (aA : Int) : Option (ae UInt64 8 × UInt64 × UInt64 × List UInt8 × Int × ae UInt64 8 × UInt64 × UInt64 × List UInt8 × Int) :=
  (o9 ((0 : Int) ≤ (0 : Int) ∧ ((0 : Int) : Int) ≤ aA ∧ Int.toNat aA * 1 ≤ 140737488355328)).bind fun u => (app (List.replicate (Int.toNat (0 : Int)) (0 : UInt8)) cA 1).bind fun b => some (qU, bC, bD, b, aA, qU, bC, bD, cA, aA)
noncomputable def lC (fj : Int) (eg : Int) (cy : List UInt8) (dD : List UInt8) (iZ : Bool) (ed : UInt64) (ml : ae UInt64 8) (dm : UInt64) (dq : UInt64) (fx : List UInt8) (fc : Int) : Option (Int × Int × List UInt8 × List UInt8 × Bool × UInt64 × ae UInt64 8 × UInt64 × UInt64 × List UInt8 × Int × ae UInt64 8 × UInt64 × UInt64 × List UInt8 × Int × Int × Int × Bool × UInt64) :=
  (je fj eg cy dD iZ ed ml dm dq fx fc).bind fun r_ => (gR r_.1 r_.2.1 r_.2.2.1 r_.2.2.2.1 r_.2.2.2.2.1).bind fun ah => some (r_.2.2.2.2.2.1, r_.2.2.2.2.2.2.1, r_.2.2.2.2.2.2.2.1, r_.2.2.2.2.2.2.2.2.1, r_.2.2.2.2.2.2.2.2.2.1, r_.2.2.2.2.2.2.2.2.2.2, ah.1, ah.2.1, ah.2.2.1, ah.2.2.2.1, ah.2.2.2.2.1, ah.2.2.2.2.2.1, ah.2.2.2.2.2.2.1, ah.2.2.2.2.2.2.2.1, ah.2.2.2.2.2.2.2.2.1, ah.2.2.2.2.2.2.2.2.2, r_.2.2.2.2.2.1, r_.2.2.2.2.2.2.1, r_.2.2.2.2.2.2.2.2.2.1, r_.2.2.2.2.2.2.2.2.2.2)
noncomputable def pe (pT : Int) (mH : Int) (kN : List UInt8) (nV : List UInt8) (pU : Bool) (lK : UInt64) (r8 : ae UInt64 8) (jv : UInt64) (jw : UInt64) (kq : List UInt8) (lL : Int) (C_ : UInt64) (yR : ae UInt8 64) (uN : Int) (jx : Int) (hT : Int) (jy : Bool) (gI : UInt64) (ka : ae UInt64 8) (fy : UInt64) (fA : UInt64) (fo : List UInt8) (gJ : Int) (mI : UInt64) (lM : ae UInt8 64) (k6 : Int) : Option (Int × Int × List UInt8 × List UInt8 × Bool × UInt64 × ae UInt64 8 × UInt64 × UInt64 × List UInt8 × Int × UInt64 × ae UInt8 64 × Int × ae UInt64 8 × UInt64 × UInt64 × List UInt8 × Int × Int × Int × Bool × UInt64 × UInt64 × ae UInt8 64 × Int) :=
  some (pT, mH, kN, nV, pU, lK, r8, jv, jw, kq, lL, C_, yR, uN, ka, fy, fA, fo, gJ, jx, hT, jy, gI, mI, lM, k6)
noncomputable def sq (Da : List UInt8) (zU : List UInt8) (rz : List UInt8) (pT : Int) (mH : Int) (kN : List UInt8) (nV : List UInt8) (pU : Bool) (lK : UInt64) (r8 : ae UInt64 8) (jv : UInt64) (jw : UInt64) (kq : List UInt8) (lL : Int) (C_ : UInt64) (yR : ae UInt8 64) (uN : Int) (pV : List UInt8) (oN : List UInt8) (lD : List UInt8) (jx : Int) (hT : Int) (jy : Bool) (gI : UInt64) (ka : ae UInt64 8) (fy : UInt64) (fA : UInt64) (fo : List UInt8) (gJ : Int) (mI : UInt64) (lM : ae UInt8 64) (k6 : Int) : Option (Int × Int × List UInt8 × List UInt8 × Bool × UInt64 × ae UInt64 8 × UInt64 × UInt64 × List UInt8 × Int × UInt64 × ae UInt8 64 × Int × ae UInt64 8 × UInt64 × UInt64 × List UInt8 × Int × Int × Int × Bool × UInt64 × UInt64 × ae UInt8 64 × Int) :=
  pe pT mH kN nV pU lK r8 jv jw kq lL C_ yR uN jx hT jy gI ka fy fA fo gJ mI lM k6
noncomputable def gB (cE : List UInt8) (bd : List UInt8) (ai : List UInt8) (b6 : Int) (bf : Int) (bo : List UInt8) (cm : List UInt8) (b7 : Bool) (aU : UInt64) (cF : ae UInt64 8) (aw : UInt64) (ax : UInt64) (a7 : List UInt8) (aV : Int) (ir : UInt64) (ei : ae UInt8 64) (dr : Int) : Option (Int × Int × List UInt8 × List UInt8 × Bool × UInt64 × ae UInt64 8 × UInt64 × UInt64 × List UInt8 × Int × UInt64 × ae UInt8 64 × Int × ae UInt64 8 × UInt64 × UInt64 × List UInt8 × Int × Int × Int × Bool × UInt64 × UInt64 × ae UInt8 64 × Int) :=
  (gA cE bd ai b6 bf bo cm b7 aU cF aw ax a7 aV ir ei dr).bind fun r_ => (lC r_.2.2.2.2.2.1 r_.2.2.2.2.2.2.1 r_.2.2.2.2.2.2.2.1 r_.2.2.2.2.2.2.2.2.1 r_.2.2.2.2.2.2.2.2.2.1 r_.2.2.2.2.2.2.2.2.2.2.1 r_.1 r_.2.1 r_.2.2.1 r_.2.2.2.1 r_.2.2.2.2.1).bind fun ah => (sq cE bd ai ah.1 ah.2.1 ah.2.2.1 ah.2.2.2.1 ah.2.2.2.2.1 ah.2.2.2.2.2.1 ah.2.2.2.2.2.2.1 ah.2.2.2.2.2.2.2.1 ah.2.2.2.2.2.2.2.2.1 ah.2.2.2.2.2.2.2.2.2.1 ah.2.2.2.2.2.2.2.2.2.2.1 r_.2.2.2.2.2.2.2.2.2.2.2.1 r_.2.2.2.2.2.2.2.2.2.2.2.2.1 r_.2.2.2.2.2.2.2.2.2.2.2.2.2 cE bd ai ah.2.2.2.2.2.2.2.2.2.2.2.2.2.2.2.2.1 ah.2.2.2.2.2.2.2.2.2.2.2.2.2.2.2.2.2.1 ah.2.2.2.2.2.2.2.2.2.2.2.2.2.2.2.2.2.2.1 ah.2.2.2.2.2.2.2.2.2.2.2.2.2.2.2.2.2.2.2 ah.2.2.2.2.2.2.2.2.2.2.2.1 ah.2.2.2.2.2.2.2.2.2.2.2.2.1 ah.2.2.2.2.2.2.2.2.2.2.2.2.2.1 ah.2.2.2.2.2.2.2.2.2.2.2.2.2.2.1 ah.2.2.2.2.2.2.2.2.2.2.2.2.2.2.2.1 r_.2.2.2.2.2.2.2.2.2.2.2.1 r_.2.2.2.2.2.2.2.2.2.2.2.2.1 r_.2.2.2.2.2.2.2.2.2.2.2.2.2).bind fun bh => some (bh.1, bh.2.1, bh.2.2.1, bh.2.2.2.1, bh.2.2.2.2.1, bh.2.2.2.2.2.1, bh.2.2.2.2.2.2.1, bh.2.2.2.2.2.2.2.1, bh.2.2.2.2.2.2.2.2.1, bh.2.2.2.2.2.2.2.2.2.1, bh.2.2.2.2.2.2.2.2.2.2.1, bh.2.2.2.2.2.2.2.2.2.2.2.1, bh.2.2.2.2.2.2.2.2.2.2.2.2.1, bh.2.2.2.2.2.2.2.2.2.2.2.2.2.1, bh.2.2.2.2.2.2.2.2.2.2.2.2.2.2.1, bh.2.2.2.2.2.2.2.2.2.2.2.2.2.2.2.1, bh.2.2.2.2.2.2.2.2.2.2.2.2.2.2.2.2.1, bh.2.2.2.2.2.2.2.2.2.2.2.2.2.2.2.2.2.1, bh.2.2.2.2.2.2.2.2.2.2.2.2.2.2.2.2.2.2.1, bh.2.2.2.2.2.2.2.2.2.2.2.2.2.2.2.2.2.2.2.1, bh.2.2.2.2.2.2.2.2.2.2.2.2.2.2.2.2.2.2.2.2.1, bh.2.2.2.2.2.2.2.2.2.2.2.2.2.2.2.2.2.2.2.2.2.1, bh.2.2.2.2.2.2.2.2.2.2.2.2.2.2.2.2.2.2.2.2.2.2.1, bh.2.2.2.2.2.2.2.2.2.2.2.2.2.2.2.2.2.2.2.2.2.2.2.1, bh.2.2.2.2.2.2.2.2.2.2.2.2.2.2.2.2.2.2.2.2.2.2.2.2.1, bh.2.2.2.2.2.2.2.2.2.2.2.2.2.2.2.2.2.2.2.2.2.2.2.2.2)
noncomputable def iC (dx : List UInt8) (bJ : List UInt8) (root : List UInt8) (i : UInt64) (p : Int) : Option (List UInt8) :=
  (oq (1 : Int) p (0 : Int) (0 : Int) (0 : Int) (64 : UInt32) i (4294967295 : UInt32) (0 : Int) (64 : Int) dx bJ ([] : List UInt8) false p root).bind fun r_ => some r_.1
noncomputable def fN (dx : List UInt8) (bJ : List UInt8) (root : List UInt8) (i : UInt64) : Option (List UInt8) :=
  if ((274877906944 : UInt64) - (i * 64)) < 64 then (iC dx bJ root i (aB ((274877906944 : UInt64) - (i * 64)).toNat)) else (iC dx bJ root i (64 : Int))
noncomputable def iD (n0 : Int) (aC : UInt64) (out : List UInt8) (mZ : ae UInt8 64) (th : Int) : Option ((UInt64 × ae UInt8 64 × Int × List UInt8) ⊕ (List UInt8 × Int × ae UInt64 8 × UInt64 × UInt64 × List UInt8 × Int × Int × Int × List UInt8 × List UInt8 × Bool × UInt64 × List UInt8 × UInt64 × ae UInt8 64 × Int)) :=
  (x5 mZ.l (aB (aC % 64).toNat) (aB ((aB (aC % 64).toNat) + (if aB (64 - (aB (aC % 64).toNat)) < aB (n0 - ((out.length : Nat) : Int)) then aB (64 - (aB (aC % 64).toNat)) else aB (n0 - ((out.length : Nat) : Int)))))).bind fun b => (app out b 1).bind fun zV => some (.inl (aC + (UInt64.ofInt (if aB (64 - (aB (aC % 64).toNat)) < aB (n0 - ((out.length : Nat) : Int)) then aB (64 - (aB (aC % 64).toNat)) else aB (n0 - ((out.length : Nat) : Int)))), mZ, th, zV))
noncomputable def gk (bd : List UInt8) (ai : List UInt8) (ah : (ae UInt64 8 × UInt64 × UInt64 × List UInt8 × Int × Int × Int × List UInt8 × List UInt8 × Bool × UInt64 × List UInt8 × UInt64 × ae UInt8 64 × Int)) (n0 : Int) : (UInt64 × ae UInt8 64 × Int × List UInt8) → Option ((UInt64 × ae UInt8 64 × Int × List UInt8) ⊕ (List UInt8 × Int × ae UInt64 8 × UInt64 × UInt64 × List UInt8 × Int × Int × Int × List UInt8 × List UInt8 × Bool × UInt64 × List UInt8 × UInt64 × ae UInt8 64 × Int))
  | (aC, mY, lA, out) => if ((out.length : Nat) : Int) < n0 then (if lA ≠ (aB (aC / 64).toNat) then ((fN bd ai ah.2.2.2.2.2.2.2.2.2.2.2.1 (aC / 64)).bind fun bh => iD n0 aC out (tP mY 0 64 bh) (aB (aC / 64).toNat)) else (iD n0 aC out mY lA)) else (Option.map Sum.inr (some (out, (0 : Int), ah.1, ah.2.1, ah.2.2.1, ah.2.2.2.1, ah.2.2.2.2.1, ah.2.2.2.2.2.1, ah.2.2.2.2.2.2.1, ah.2.2.2.2.2.2.2.1, ah.2.2.2.2.2.2.2.2.1, ah.2.2.2.2.2.2.2.2.2.1, ah.2.2.2.2.2.2.2.2.2.2.1, ah.2.2.2.2.2.2.2.2.2.2.2.1, aC, mY, lA)))
noncomputable def gl (bd : List UInt8) (ai : List UInt8) (ah : (ae UInt64 8 × UInt64 × UInt64 × List UInt8 × Int × Int × Int × List UInt8 × List UInt8 × Bool × UInt64 × List UInt8 × UInt64 × ae UInt8 64 × Int)) (n0 : Int) : Option (List UInt8 × Int × ae UInt64 8 × UInt64 × UInt64 × List UInt8 × Int × Int × Int × List UInt8 × List UInt8 × Bool × UInt64 × List UInt8 × UInt64 × ae UInt8 64 × Int) :=
  bO (gk bd ai ah n0) (ah.2.2.2.2.2.2.2.2.2.2.2.2.1, ah.2.2.2.2.2.2.2.2.2.2.2.2.2.1, ah.2.2.2.2.2.2.2.2.2.2.2.2.2.2, ([] : List UInt8))
noncomputable def jU (cE : List UInt8) (bd : List UInt8) (ai : List UInt8) (b6 : Int) (bf : Int) (bo : List UInt8) (cm : List UInt8) (b7 : Bool) (aU : UInt64) (cF : ae UInt64 8) (aw : UInt64) (ax : UInt64) (a7 : List UInt8) (aV : Int) (ir : UInt64) (ei : ae UInt8 64) (dr : Int) : Option (List UInt8 × Int × ae UInt64 8 × UInt64 × UInt64 × List UInt8 × Int × Int × Int × List UInt8 × List UInt8 × Bool × UInt64 × List UInt8 × UInt64 × ae UInt8 64 × Int) :=
  (gA cE bd ai b6 bf bo cm b7 aU cF aw ax a7 aV ir ei dr).bind fun r_ => (jT cE bd ai r_.2.2.2.2.2.1 r_.2.2.2.2.2.2.1 r_.2.2.2.2.2.2.2.1 r_.2.2.2.2.2.2.2.2.1 r_.2.2.2.2.2.2.2.2.2.1 r_.2.2.2.2.2.2.2.2.2.2.1 r_.1 r_.2.1 r_.2.2.1 r_.2.2.2.1 r_.2.2.2.2.1 r_.2.2.2.2.2.2.2.2.2.2.2.1 r_.2.2.2.2.2.2.2.2.2.2.2.2.1 r_.2.2.2.2.2.2.2.2.2.2.2.2.2).bind fun ah => if ((274877906944 : UInt64) - ah.2.2.2.2.2.2.2.2.2.2.2.2.1) = 0 then (some (([] : List UInt8), (70 : Int), ah.1, ah.2.1, ah.2.2.1, ah.2.2.2.1, ah.2.2.2.2.1, ah.2.2.2.2.2.1, ah.2.2.2.2.2.2.1, ah.2.2.2.2.2.2.2.1, ah.2.2.2.2.2.2.2.2.1, ah.2.2.2.2.2.2.2.2.2.1, ah.2.2.2.2.2.2.2.2.2.2.1, ah.2.2.2.2.2.2.2.2.2.2.2.1, ah.2.2.2.2.2.2.2.2.2.2.2.2.1, ah.2.2.2.2.2.2.2.2.2.2.2.2.2.1, ah.2.2.2.2.2.2.2.2.2.2.2.2.2.2)) else (if ((274877906944 : UInt64) - ah.2.2.2.2.2.2.2.2.2.2.2.2.1) < (8 : UInt64) then (gl bd ai ah (aB ((274877906944 : UInt64) - ah.2.2.2.2.2.2.2.2.2.2.2.2.1).toNat)) else (gl bd ai ah (8 : Int)))
noncomputable def fR (tv : List UInt8) (oP : List UInt8) (mJ : List UInt8) (iE : List UInt8) (lU : Int) (j4 : Int) (k7 : List UInt8) (nb : List UInt8) (lV : Bool) (jn : UInt64) (nf : ae UInt64 8) (gm : UInt64) (gn : UInt64) (j5 : List UInt8) (jo : Int) (tw : UInt64) (qY : ae UInt8 64) (oQ : Int) (p : Int) : Option (UInt64 × ae UInt64 8 × UInt64 × UInt64 × List UInt8 × Int × Int × Int × List UInt8 × List UInt8 × Bool × UInt64 × List UInt8 × UInt64 × ae UInt8 64 × Int × Int) :=
  (jU oP mJ iE lU j4 k7 nb lV jn nf gm gn j5 jo tw qY oQ).bind fun r_ => if r_.2.1 ≠ 0 then (some ((0 : UInt64), r_.2.2.1, r_.2.2.2.1, r_.2.2.2.2.1, r_.2.2.2.2.2.1, r_.2.2.2.2.2.2.1, r_.2.2.2.2.2.2.2.1, r_.2.2.2.2.2.2.2.2.1, r_.2.2.2.2.2.2.2.2.2.1, r_.2.2.2.2.2.2.2.2.2.2.1, r_.2.2.2.2.2.2.2.2.2.2.2.1, r_.2.2.2.2.2.2.2.2.2.2.2.2.1, r_.2.2.2.2.2.2.2.2.2.2.2.2.2.1, r_.2.2.2.2.2.2.2.2.2.2.2.2.2.2.1, r_.2.2.2.2.2.2.2.2.2.2.2.2.2.2.2.1, r_.2.2.2.2.2.2.2.2.2.2.2.2.2.2.2.2, (6 : Int))) else ((iw r_.1 (0 : Int)).bind fun ah => some (ah.1, r_.2.2.1, r_.2.2.2.1, r_.2.2.2.2.1, r_.2.2.2.2.2.1, r_.2.2.2.2.2.2.1, r_.2.2.2.2.2.2.2.1, r_.2.2.2.2.2.2.2.2.1, r_.2.2.2.2.2.2.2.2.2.1, r_.2.2.2.2.2.2.2.2.2.2.1, r_.2.2.2.2.2.2.2.2.2.2.2.1, r_.2.2.2.2.2.2.2.2.2.2.2.2.1, r_.2.2.2.2.2.2.2.2.2.2.2.2.2.1, r_.2.2.2.2.2.2.2.2.2.2.2.2.2.2.1, r_.2.2.2.2.2.2.2.2.2.2.2.2.2.2.2.1, r_.2.2.2.2.2.2.2.2.2.2.2.2.2.2.2.2, p))
noncomputable def jz (fC : List UInt8) (eN : List UInt8) (dZ : List UInt8) (cr : List UInt8) (fp : Int) (ep : Int) (eW : List UInt8) (fS : List UInt8) (fq : Bool) (dU : UInt64) (fT : ae UInt64 8) (df : UInt64) (dh : UInt64) (er : List UInt8) (dV : Int) (jI : UInt64) (iF : ae UInt8 64) (gK : Int) (draw : Int) (p : UInt64) : Option (ae UInt64 8 × UInt64 × UInt64 × List UInt8 × Int × Int × Int × List UInt8 × List UInt8 × Bool × UInt64 × List UInt8 × UInt64 × ae UInt8 64 × Int × Int × UInt64) :=
  (fR fC eN dZ cr fp ep eW fS fq dU fT df dh er dV jI iF gK draw).bind fun r_ => some (r_.2.1, r_.2.2.1, r_.2.2.2.1, r_.2.2.2.2.1, r_.2.2.2.2.2.1, r_.2.2.2.2.2.2.1, r_.2.2.2.2.2.2.2.1, r_.2.2.2.2.2.2.2.2.1, r_.2.2.2.2.2.2.2.2.2.1, r_.2.2.2.2.2.2.2.2.2.2.1, r_.2.2.2.2.2.2.2.2.2.2.2.1, r_.2.2.2.2.2.2.2.2.2.2.2.2.1, r_.2.2.2.2.2.2.2.2.2.2.2.2.2.1, r_.2.2.2.2.2.2.2.2.2.2.2.2.2.2.1, r_.2.2.2.2.2.2.2.2.2.2.2.2.2.2.2.1, r_.2.2.2.2.2.2.2.2.2.2.2.2.2.2.2.2, r_.1)
noncomputable def DL (bX : List UInt8) (bk : List UInt8) (aT : List UInt8) (aj : List UInt8) (aZ : Int) (aG : Int) (aO : List UInt8) (bg : List UInt8) (a1 : Bool) (ay : UInt64) (bm : ae UInt64 8) (ak : UInt64) (al : UInt64) (aD : List UInt8) (az : Int) (cR : UInt64) (b9 : ae UInt8 64) (bz : Int) (work : UInt64) : Option (Int × ae UInt64 8 × UInt64 × UInt64 × List UInt8 × Int × Int × Int × List UInt8 × List UInt8 × Bool × UInt64 × List UInt8 × UInt64 × ae UInt8 64 × Int × UInt64) :=
  (cM bX bk aT aj aZ aG aO bg a1 ay bm ak al aD az cR b9 bz).bind fun r_ => (gB bk aT aj r_.2.2.2.2.2.1 r_.2.2.2.2.2.2.1 r_.2.2.2.2.2.2.2.1 r_.2.2.2.2.2.2.2.2.1 r_.2.2.2.2.2.2.2.2.2.1 r_.2.2.2.2.2.2.2.2.2.2.1 r_.1 r_.2.1 r_.2.2.1 r_.2.2.2.1 r_.2.2.2.2.1 r_.2.2.2.2.2.2.2.2.2.2.2.1 r_.2.2.2.2.2.2.2.2.2.2.2.2.1 r_.2.2.2.2.2.2.2.2.2.2.2.2.2).bind fun ah => (jz bX bk aT aj ah.2.2.2.2.2.2.2.2.2.2.2.2.2.2.2.2.2.2.2.1 ah.2.2.2.2.2.2.2.2.2.2.2.2.2.2.2.2.2.2.2.2.1 ah.2.2.1 ah.2.2.2.1 ah.2.2.2.2.2.2.2.2.2.2.2.2.2.2.2.2.2.2.2.2.2.1 ah.2.2.2.2.2.2.2.2.2.2.2.2.2.2.2.2.2.2.2.2.2.2.1 ah.2.2.2.2.2.2.2.2.2.2.2.2.2.2.1 ah.2.2.2.2.2.2.2.2.2.2.2.2.2.2.2.1 ah.2.2.2.2.2.2.2.2.2.2.2.2.2.2.2.2.1 ah.2.2.2.2.2.2.2.2.2.2.2.2.2.2.2.2.2.1 ah.2.2.2.2.2.2.2.2.2.2.2.2.2.2.2.2.2.2.1 ah.2.2.2.2.2.2.2.2.2.2.2.2.2.2.2.2.2.2.2.2.2.2.2.1 ah.2.2.2.2.2.2.2.2.2.2.2.2.2.2.2.2.2.2.2.2.2.2.2.2.1 ah.2.2.2.2.2.2.2.2.2.2.2.2.2.2.2.2.2.2.2.2.2.2.2.2.2 (0 : Int) work).bind fun bh => if bh.2.2.2.2.2.2.2.2.2.2.2.2.2.2.2.1 ≠ 0 then none else (some (bh.2.2.2.2.2.2.2.2.2.2.2.2.2.2.2.1, bh.1, bh.2.1, bh.2.2.1, bh.2.2.2.1, bh.2.2.2.2.1, bh.2.2.2.2.2.1, bh.2.2.2.2.2.2.1, bh.2.2.2.2.2.2.2.1, bh.2.2.2.2.2.2.2.2.1, bh.2.2.2.2.2.2.2.2.2.1, bh.2.2.2.2.2.2.2.2.2.2.1, bh.2.2.2.2.2.2.2.2.2.2.2.1, bh.2.2.2.2.2.2.2.2.2.2.2.2.1, bh.2.2.2.2.2.2.2.2.2.2.2.2.2.1, bh.2.2.2.2.2.2.2.2.2.2.2.2.2.2.1, bh.2.2.2.2.2.2.2.2.2.2.2.2.2.2.2.2))
noncomputable def mg (bX : List UInt8) (bk : List UInt8) (aT : List UInt8) (aj : List UInt8) (aZ : Int) (aG : Int) (aO : List UInt8) (bg : List UInt8) (a1 : Bool) (ay : UInt64) (bm : ae UInt64 8) (ak : UInt64) (al : UInt64) (aD : List UInt8) (az : Int) (ga : List UInt8) (cR : UInt64) (b9 : ae UInt8 64) (bz : Int) : Option (ae UInt64 8 × UInt64 × UInt64 × List UInt8 × Int × Int × Int × List UInt8 × List UInt8 × Bool × UInt64 × UInt64 × ae UInt8 64 × Int) :=
  some (bm, ak, al, aD, az, aZ, aG, aO, bg, a1, ay, cR, b9, bz)
noncomputable def iG (cE : List UInt8) (bd : List UInt8) (ai : List UInt8) (b6 : Int) (bf : Int) (bo : List UInt8) (cm : List UInt8) (b7 : Bool) (aU : UInt64) (cF : ae UInt64 8) (aw : UInt64) (ax : UInt64) (a7 : List UInt8) (aV : Int) (dY : List UInt8) (ir : UInt64) (ei : ae UInt8 64) (dr : Int) : Option (ae UInt64 8 × UInt64 × UInt64 × List UInt8 × Int × Int × Int × List UInt8 × List UInt8 × Bool × UInt64 × UInt64 × ae UInt8 64 × Int) :=
  some (cF, aw, ax, a7, aV, b6, bf, bo, cm, b7, aU, ir, ei, dr)
noncomputable def j6 (cE : List UInt8) (bd : List UInt8) (ai : List UInt8) (b6 : Int) (bf : Int) (bo : List UInt8) (cm : List UInt8) (b7 : Bool) (aU : UInt64) (cF : ae UInt64 8) (aw : UInt64) (ax : UInt64) (a7 : List UInt8) (aV : Int) (dY : List UInt8) (ir : UInt64) (ei : ae UInt8 64) (dr : Int) : Option (ae UInt64 8 × UInt64 × UInt64 × List UInt8 × Int × Int × Int × List UInt8 × List UInt8 × Bool × UInt64 × UInt64 × ae UInt8 64 × Int) :=
  some (cF, aw, ax, a7, aV, b6, bf, bo, cm, b7, aU, ir, ei, dr)
noncomputable def gv (n0 : Int) (aC : UInt64) (out : List UInt8) (lA : ae UInt8 64) (mZ : Int) : Option ((UInt64 × ae UInt8 64 × Int × List UInt8) ⊕ (List UInt8 × Int × ae UInt64 8 × UInt64 × UInt64 × List UInt8 × Int × Int × Int × List UInt8 × List UInt8 × Bool × UInt64 × UInt64 × ae UInt8 64 × Int)) :=
  (x5 lA.l (aB (aC % 64).toNat) (aB ((aB (aC % 64).toNat) + (if aB (64 - (aB (aC % 64).toNat)) < aB (n0 - ((out.length : Nat) : Int)) then aB (64 - (aB (aC % 64).toNat)) else aB (n0 - ((out.length : Nat) : Int)))))).bind fun b => (app out b 1).bind fun zV => some (.inl (aC + (UInt64.ofInt (if aB (64 - (aB (aC % 64).toNat)) < aB (n0 - ((out.length : Nat) : Int)) then aB (64 - (aB (aC % 64).toNat)) else aB (n0 - ((out.length : Nat) : Int)))), lA, mZ, zV))
noncomputable def fD (bd : List UInt8) (ai : List UInt8) (dY : List UInt8) (ah : (ae UInt64 8 × UInt64 × UInt64 × List UInt8 × Int × Int × Int × List UInt8 × List UInt8 × Bool × UInt64 × UInt64 × ae UInt8 64 × Int)) (n0 : Int) : (UInt64 × ae UInt8 64 × Int × List UInt8) → Option ((UInt64 × ae UInt8 64 × Int × List UInt8) ⊕ (List UInt8 × Int × ae UInt64 8 × UInt64 × UInt64 × List UInt8 × Int × Int × Int × List UInt8 × List UInt8 × Bool × UInt64 × UInt64 × ae UInt8 64 × Int))
  | (aC, rR, mY, out) => if ((out.length : Nat) : Int) < n0 then (if mY ≠ (aB (aC / 64).toNat) then ((fN bd ai dY (aC / 64)).bind fun bh => gv n0 aC out (tP rR 0 64 bh) (aB (aC / 64).toNat)) else (gv n0 aC out rR mY)) else (Option.map Sum.inr (some (out, (0 : Int), ah.1, ah.2.1, ah.2.2.1, ah.2.2.2.1, ah.2.2.2.2.1, ah.2.2.2.2.2.1, ah.2.2.2.2.2.2.1, ah.2.2.2.2.2.2.2.1, ah.2.2.2.2.2.2.2.2.1, ah.2.2.2.2.2.2.2.2.2.1, ah.2.2.2.2.2.2.2.2.2.2.1, aC, rR, mY)))
noncomputable def fE (bd : List UInt8) (ai : List UInt8) (dY : List UInt8) (ah : (ae UInt64 8 × UInt64 × UInt64 × List UInt8 × Int × Int × Int × List UInt8 × List UInt8 × Bool × UInt64 × UInt64 × ae UInt8 64 × Int)) (n0 : Int) : Option (List UInt8 × Int × ae UInt64 8 × UInt64 × UInt64 × List UInt8 × Int × Int × Int × List UInt8 × List UInt8 × Bool × UInt64 × UInt64 × ae UInt8 64 × Int) :=
  bO (fD bd ai dY ah n0) (ah.2.2.2.2.2.2.2.2.2.2.2.1, ah.2.2.2.2.2.2.2.2.2.2.2.2.1, ah.2.2.2.2.2.2.2.2.2.2.2.2.2, ([] : List UInt8))
noncomputable def iH (cE : List UInt8) (bd : List UInt8) (ai : List UInt8) (b6 : Int) (bf : Int) (bo : List UInt8) (cm : List UInt8) (b7 : Bool) (aU : UInt64) (cF : ae UInt64 8) (aw : UInt64) (ax : UInt64) (a7 : List UInt8) (aV : Int) (dY : List UInt8) (ir : UInt64) (ei : ae UInt8 64) (dr : Int) : Option (List UInt8 × Int × ae UInt64 8 × UInt64 × UInt64 × List UInt8 × Int × Int × Int × List UInt8 × List UInt8 × Bool × UInt64 × UInt64 × ae UInt8 64 × Int) :=
  (iG cE bd ai b6 bf bo cm b7 aU cF aw ax a7 aV dY ir ei dr).bind fun r_ => (j6 cE bd ai r_.2.2.2.2.2.1 r_.2.2.2.2.2.2.1 r_.2.2.2.2.2.2.2.1 r_.2.2.2.2.2.2.2.2.1 r_.2.2.2.2.2.2.2.2.2.1 r_.2.2.2.2.2.2.2.2.2.2.1 r_.1 r_.2.1 r_.2.2.1 r_.2.2.2.1 r_.2.2.2.2.1 dY r_.2.2.2.2.2.2.2.2.2.2.2.1 r_.2.2.2.2.2.2.2.2.2.2.2.2.1 r_.2.2.2.2.2.2.2.2.2.2.2.2.2).bind fun ah => if ((274877906944 : UInt64) - ah.2.2.2.2.2.2.2.2.2.2.2.1) = 0 then (some (([] : List UInt8), (70 : Int), ah.1, ah.2.1, ah.2.2.1, ah.2.2.2.1, ah.2.2.2.2.1, ah.2.2.2.2.2.1, ah.2.2.2.2.2.2.1, ah.2.2.2.2.2.2.2.1, ah.2.2.2.2.2.2.2.2.1, ah.2.2.2.2.2.2.2.2.2.1, ah.2.2.2.2.2.2.2.2.2.2.1, ah.2.2.2.2.2.2.2.2.2.2.2.1, ah.2.2.2.2.2.2.2.2.2.2.2.2.1, ah.2.2.2.2.2.2.2.2.2.2.2.2.2)) else (if ((274877906944 : UInt64) - ah.2.2.2.2.2.2.2.2.2.2.2.1) < (8 : UInt64) then (fE bd ai dY ah (aB ((274877906944 : UInt64) - ah.2.2.2.2.2.2.2.2.2.2.2.1).toNat)) else (fE bd ai dY ah (8 : Int)))
noncomputable def gS (tv : List UInt8) (oP : List UInt8) (mJ : List UInt8) (iE : List UInt8) (lU : Int) (j4 : Int) (k7 : List UInt8) (nb : List UInt8) (lV : Bool) (jn : UInt64) (nf : ae UInt64 8) (gm : UInt64) (gn : UInt64) (j5 : List UInt8) (jo : Int) (uO : List UInt8) (tw : UInt64) (qY : ae UInt8 64) (oQ : Int) (p : Int) : Option (UInt64 × ae UInt64 8 × UInt64 × UInt64 × List UInt8 × Int × Int × Int × List UInt8 × List UInt8 × Bool × UInt64 × UInt64 × ae UInt8 64 × Int × Int) :=
  (iH oP mJ iE lU j4 k7 nb lV jn nf gm gn j5 jo uO tw qY oQ).bind fun r_ => if r_.2.1 ≠ 0 then (some ((0 : UInt64), r_.2.2.1, r_.2.2.2.1, r_.2.2.2.2.1, r_.2.2.2.2.2.1, r_.2.2.2.2.2.2.1, r_.2.2.2.2.2.2.2.1, r_.2.2.2.2.2.2.2.2.1, r_.2.2.2.2.2.2.2.2.2.1, r_.2.2.2.2.2.2.2.2.2.2.1, r_.2.2.2.2.2.2.2.2.2.2.2.1, r_.2.2.2.2.2.2.2.2.2.2.2.2.1, r_.2.2.2.2.2.2.2.2.2.2.2.2.2.1, r_.2.2.2.2.2.2.2.2.2.2.2.2.2.2.1, r_.2.2.2.2.2.2.2.2.2.2.2.2.2.2.2, (6 : Int))) else ((iw r_.1 (0 : Int)).bind fun ah => some (ah.1, r_.2.2.1, r_.2.2.2.1, r_.2.2.2.2.1, r_.2.2.2.2.2.1, r_.2.2.2.2.2.2.1, r_.2.2.2.2.2.2.2.1, r_.2.2.2.2.2.2.2.2.1, r_.2.2.2.2.2.2.2.2.2.1, r_.2.2.2.2.2.2.2.2.2.2.1, r_.2.2.2.2.2.2.2.2.2.2.2.1, r_.2.2.2.2.2.2.2.2.2.2.2.2.1, r_.2.2.2.2.2.2.2.2.2.2.2.2.2.1, r_.2.2.2.2.2.2.2.2.2.2.2.2.2.2.1, r_.2.2.2.2.2.2.2.2.2.2.2.2.2.2.2, p))
noncomputable def mK (cE : List UInt8) (bd : List UInt8) (ai : List UInt8) (b6 : Int) (bf : Int) (bo : List UInt8) (cm : List UInt8) (b7 : Bool) (aU : UInt64) (cF : ae UInt64 8) (aw : UInt64) (ax : UInt64) (a7 : List UInt8) (aV : Int) (dY : List UInt8) (ir : UInt64) (ei : ae UInt8 64) (dr : Int) : Option (UInt64 × ae UInt64 8 × UInt64 × UInt64 × List UInt8 × Int × Int × Int × List UInt8 × List UInt8 × Bool × UInt64 × UInt64 × ae UInt8 64 × Int) :=
  (iG cE bd ai b6 bf bo cm b7 aU cF aw ax a7 aV dY ir ei dr).bind fun r_ => some (r_.2.2.2.2.2.2.2.2.2.2.2.1, r_.1, r_.2.1, r_.2.2.1, r_.2.2.2.1, r_.2.2.2.2.1, r_.2.2.2.2.2.1, r_.2.2.2.2.2.2.1, r_.2.2.2.2.2.2.2.1, r_.2.2.2.2.2.2.2.2.1, r_.2.2.2.2.2.2.2.2.2.1, r_.2.2.2.2.2.2.2.2.2.2.1, r_.2.2.2.2.2.2.2.2.2.2.2.1, r_.2.2.2.2.2.2.2.2.2.2.2.2.1, r_.2.2.2.2.2.2.2.2.2.2.2.2.2)
noncomputable def ec (bX : List UInt8) (bk : List UInt8) (aT : List UInt8) (aj : List UInt8) (aZ : Int) (aG : Int) (aO : List UInt8) (bg : List UInt8) (a1 : Bool) (ay : UInt64) (bm : ae UInt64 8) (ak : UInt64) (al : UInt64) (aD : List UInt8) (az : Int) (ga : List UInt8) (cR : UInt64) (b9 : ae UInt8 64) (bz : Int) : Option (UInt64 × ae UInt64 8 × UInt64 × UInt64 × List UInt8 × Int × Int × Int × List UInt8 × List UInt8 × Bool × UInt64 × UInt64 × ae UInt8 64 × Int) :=
  (mg bX bk aT aj aZ aG aO bg a1 ay bm ak al aD az ga cR b9 bz).bind fun r_ => (mK bk aT aj r_.2.2.2.2.2.1 r_.2.2.2.2.2.2.1 r_.2.2.2.2.2.2.2.1 r_.2.2.2.2.2.2.2.2.1 r_.2.2.2.2.2.2.2.2.2.1 r_.2.2.2.2.2.2.2.2.2.2.1 r_.1 r_.2.1 r_.2.2.1 r_.2.2.2.1 r_.2.2.2.2.1 ga r_.2.2.2.2.2.2.2.2.2.2.2.1 r_.2.2.2.2.2.2.2.2.2.2.2.2.1 r_.2.2.2.2.2.2.2.2.2.2.2.2.2).bind fun ah => some (ah.1 / 8, ah.2.1, ah.2.2.1, ah.2.2.2.1, ah.2.2.2.2.1, ah.2.2.2.2.2.1, ah.2.2.2.2.2.2.1, ah.2.2.2.2.2.2.2.1, ah.2.2.2.2.2.2.2.2.1, ah.2.2.2.2.2.2.2.2.2.1, ah.2.2.2.2.2.2.2.2.2.2.1, ah.2.2.2.2.2.2.2.2.2.2.2.1, ah.2.2.2.2.2.2.2.2.2.2.2.2.1, ah.2.2.2.2.2.2.2.2.2.2.2.2.2.1, ah.2.2.2.2.2.2.2.2.2.2.2.2.2.2)
noncomputable def iW (ll : UInt64) (n2 : Int) : Option Int :=
  (aN ([0, 1, 2, 2, 3, 3, 3, 3, 4, 4, 4, 4, 4, 4, 4, 4, 5, 5, 5, 5, 5, 5, 5, 5, 5, 5, 5, 5, 5, 5, 5, 5, 6, 6, 6, 6, 6, 6, 6, 6, 6, 6, 6, 6, 6, 6, 6, 6, 6, 6, 6, 6, 6, 6, 6, 6, 6, 6, 6, 6, 6, 6, 6, 6, 7, 7, 7, 7, 7, 7, 7, 7, 7, 7, 7, 7, 7, 7, 7, 7, 7, 7, 7, 7, 7, 7, 7, 7, 7, 7, 7, 7, 7, 7, 7, 7, 7, 7, 7, 7, 7, 7, 7, 7, 7, 7, 7, 7, 7, 7, 7, 7, 7, 7, 7, 7, 7, 7, 7, 7, 7, 7, 7, 7, 7, 7, 7, 7, 8, 8, 8, 8, 8, 8, 8, 8, 8, 8, 8, 8, 8, 8, 8, 8, 8, 8, 8, 8, 8, 8, 8, 8, 8, 8, 8, 8, 8, 8, 8, 8, 8, 8, 8, 8, 8, 8, 8, 8, 8, 8, 8, 8, 8, 8, 8, 8, 8, 8, 8, 8, 8, 8, 8, 8, 8, 8, 8, 8, 8, 8, 8, 8, 8, 8, 8, 8, 8, 8, 8, 8, 8, 8, 8, 8, 8, 8, 8, 8, 8, 8, 8, 8, 8, 8, 8, 8, 8, 8, 8, 8, 8, 8, 8, 8, 8, 8, 8, 8, 8, 8, 8, 8, 8, 8, 8, 8, 8, 8, 8, 8, 8, 8, 8, 8, 8, 8, 8, 8, 8, 8, 8, 8, 8, 8, 8, 8] : List UInt8) ((UInt8.ofNat ll.toNat).toNat : Int)).bind fun c => some (aB (n2 + (c.toNat : Int)))
noncomputable def kO (fg : UInt64) (n1 : Int) : Option Int :=
  if (256 : UInt64) ≤ fg then (iW (aJ fg ((8 : UInt64).toNat)) (aB (n1 + 8))) else (iW fg n1)
noncomputable def kP (ej : UInt64) (n : Int) : Option Int :=
  if (65536 : UInt64) ≤ ej then (kO (aJ ej ((16 : UInt64).toNat)) (aB (n + 16))) else (kO ej n)
noncomputable def oR (x_ : UInt64) : Option Int :=
  if (4294967296 : UInt64) ≤ x_ then (kP (aJ x_ ((32 : UInt64).toNat)) (32 : Int)) else (kP x_ (0 : Int))
noncomputable def ja (x_ : UInt64) : Option Int :=
  (oR x_).bind fun r_ => some (aB (64 - r_))
noncomputable def qq (hi : UInt64) (lo : UInt64) (y_ : UInt64) (r_ : Int) (q1 : UInt64) (q0 : UInt64) : Option (UInt64 × UInt64) :=
  some ((q1 * 4294967296) + q0, aJ ((((((((aE hi ((UInt64.ofInt r_).toNat)) ||| (aJ lo (((64 : UInt64) - (UInt64.ofInt r_)).toNat))) * 4294967296) + (aJ (aE lo ((UInt64.ofInt r_).toNat)) ((32 : UInt64).toNat))) - (q1 * (aE y_ ((UInt64.ofInt r_).toNat)))) * 4294967296) + ((aE lo ((UInt64.ofInt r_).toNat)) &&& 4294967295)) - (q0 * (aE y_ ((UInt64.ofInt r_).toNat)))) ((UInt64.ofInt r_).toNat))
noncomputable def nW (hi : UInt64) (lo : UInt64) (y_ : UInt64) (r_ : Int) (q1 : UInt64) (OE : UInt64) : Option (UInt64 × UInt64) :=
  qq hi lo y_ r_ q1 OE
noncomputable def jM (hi : UInt64) (lo : UInt64) (y_ : UInt64) (r_ : Int) (q1 : UInt64) : (UInt64 × UInt64) → Option ((UInt64 × UInt64) ⊕ (UInt64 × UInt64))
  | (r9, CR) => if ((decide ((4294967296 : UInt64) ≤ CR)) || (decide ((((4294967296 : UInt64) * r9) + ((aE lo ((UInt64.ofInt r_).toNat)) &&& 4294967295)) < (CR * ((aE y_ ((UInt64.ofInt r_).toNat)) &&& 4294967295))))) = true then (if (4294967296 : UInt64) ≤ (r9 + (aJ (aE y_ ((UInt64.ofInt r_).toNat)) ((32 : UInt64).toNat))) then (Option.map Sum.inr (nW hi lo y_ r_ q1 (CR - 1))) else (some (.inl (r9 + (aJ (aE y_ ((UInt64.ofInt r_).toNat)) ((32 : UInt64).toNat)), CR - 1)))) else (Option.map Sum.inr (nW hi lo y_ r_ q1 CR))
noncomputable def l7 (hi : UInt64) (lo : UInt64) (y_ : UInt64) (r_ : Int) (q1 : UInt64) : Option (UInt64 × UInt64) :=
  (o9 ((aJ (aE y_ ((UInt64.ofInt r_).toNat)) ((32 : UInt64).toNat)) ≠ 0)).bind fun u3 => bO (jM hi lo y_ r_ q1) ((((((aE hi ((UInt64.ofInt r_).toNat)) ||| (aJ lo (((64 : UInt64) - (UInt64.ofInt r_)).toNat))) * 4294967296) + (aJ (aE lo ((UInt64.ofInt r_).toNat)) ((32 : UInt64).toNat))) - (q1 * (aE y_ ((UInt64.ofInt r_).toNat)))) - (((((((aE hi ((UInt64.ofInt r_).toNat)) ||| (aJ lo (((64 : UInt64) - (UInt64.ofInt r_)).toNat))) * 4294967296) + (aJ (aE lo ((UInt64.ofInt r_).toNat)) ((32 : UInt64).toNat))) - (q1 * (aE y_ ((UInt64.ofInt r_).toNat)))) / (aJ (aE y_ ((UInt64.ofInt r_).toNat)) ((32 : UInt64).toNat))) * (aJ (aE y_ ((UInt64.ofInt r_).toNat)) ((32 : UInt64).toNat))), (((((aE hi ((UInt64.ofInt r_).toNat)) ||| (aJ lo (((64 : UInt64) - (UInt64.ofInt r_)).toNat))) * 4294967296) + (aJ (aE lo ((UInt64.ofInt r_).toNat)) ((32 : UInt64).toNat))) - (q1 * (aE y_ ((UInt64.ofInt r_).toNat)))) / (aJ (aE y_ ((UInt64.ofInt r_).toNat)) ((32 : UInt64).toNat)))
noncomputable def kQ (hi : UInt64) (lo : UInt64) (y_ : UInt64) (r_ : Int) (OF : UInt64) : Option (UInt64 × UInt64) :=
  l7 hi lo y_ r_ OF
noncomputable def jN (hi : UInt64) (lo : UInt64) (y_ : UInt64) (r_ : Int) : (UInt64 × UInt64) → Option ((UInt64 × UInt64) ⊕ (UInt64 × UInt64))
  | (CS, lH) => if ((decide ((4294967296 : UInt64) ≤ CS)) || (decide ((((4294967296 : UInt64) * lH) + (aJ (aE lo ((UInt64.ofInt r_).toNat)) ((32 : UInt64).toNat))) < (CS * ((aE y_ ((UInt64.ofInt r_).toNat)) &&& 4294967295))))) = true then (if (4294967296 : UInt64) ≤ (lH + (aJ (aE y_ ((UInt64.ofInt r_).toNat)) ((32 : UInt64).toNat))) then (Option.map Sum.inr (kQ hi lo y_ r_ (CS - 1))) else (some (.inl (CS - 1, lH + (aJ (aE y_ ((UInt64.ofInt r_).toNat)) ((32 : UInt64).toNat)))))) else (Option.map Sum.inr (kQ hi lo y_ r_ CS))
noncomputable def nX (hi : UInt64) (lo : UInt64) (y_ : UInt64) : Option (UInt64 × UInt64) :=
  if hi = 0 then ((o9 (y_ ≠ 0)).bind fun u => (o9 (y_ ≠ 0)).bind fun u1 => some (lo / y_, lo % y_)) else ((ja y_).bind fun r_ => (o9 ((aJ (aE y_ ((UInt64.ofInt r_).toNat)) ((32 : UInt64).toNat)) ≠ 0)).bind fun u2 => bO (jN hi lo y_ r_) (((aE hi ((UInt64.ofInt r_).toNat)) ||| (aJ lo (((64 : UInt64) - (UInt64.ofInt r_)).toNat))) / (aJ (aE y_ ((UInt64.ofInt r_).toNat)) ((32 : UInt64).toNat)), ((aE hi ((UInt64.ofInt r_).toNat)) ||| (aJ lo (((64 : UInt64) - (UInt64.ofInt r_)).toNat))) - ((((aE hi ((UInt64.ofInt r_).toNat)) ||| (aJ lo (((64 : UInt64) - (UInt64.ofInt r_)).toNat))) / (aJ (aE y_ ((UInt64.ofInt r_).toNat)) ((32 : UInt64).toNat))) * (aJ (aE y_ ((UInt64.ofInt r_).toNat)) ((32 : UInt64).toNat)))))
noncomputable def nY (hi : UInt64) (lo : UInt64) (y_ : UInt64) : Option (UInt64 × UInt64) :=
  if y_ ≤ hi then none else (nX hi lo y_)
noncomputable def oS (hi : UInt64) (lo : UInt64) (y_ : UInt64) : Option (UInt64 × UInt64) :=
  if y_ = 0 then none else (nY hi lo y_)
noncomputable def iI (fC : List UInt8) (eN : List UInt8) (dZ : List UInt8) (cr : List UInt8) (n : UInt64) (r_ : (UInt64 × UInt64)) (ah : (UInt64 × ae UInt64 8 × UInt64 × UInt64 × List UInt8 × Int × Int × Int × List UInt8 × List UInt8 × Bool × UInt64 × List UInt8 × UInt64 × ae UInt8 64 × Int × Int)) : (Int × Int × List UInt8 × List UInt8 × Bool × UInt64 × ae UInt64 8 × UInt64 × UInt64 × List UInt8 × Int × UInt64 × ae UInt8 64 × Int × Int × UInt64 × Int) → Option ((Int × Int × List UInt8 × List UInt8 × Bool × UInt64 × ae UInt64 8 × UInt64 × UInt64 × List UInt8 × Int × UInt64 × ae UInt8 64 × Int × Int × UInt64 × Int) ⊕ (UInt64 × ae UInt64 8 × UInt64 × UInt64 × List UInt8 × Int × Int × Int × List UInt8 × List UInt8 × Bool × UInt64 × List UInt8 × UInt64 × ae UInt8 64 × Int × Int))
  | (Bf, Bg, yS, yT, Bh, Bi, Bj, Bk, Bm, uP, yj, yl, ym, yn, yo, l4, tries) => if (((decide (r_.2 ≠ 0)) && (decide (((0 - r_.2) - 1) < l4))) && (decide (tries < 64))) = true then ((gS fC eN dZ cr Bf Bg yS yT Bh Bi Bj Bk Bm uP yj ah.2.2.2.2.2.2.2.2.2.2.2.2.1 yl ym yn yo).bind fun bh => some (.inl (bh.2.2.2.2.2.2.1, bh.2.2.2.2.2.2.2.1, bh.2.2.2.2.2.2.2.2.1, bh.2.2.2.2.2.2.2.2.2.1, bh.2.2.2.2.2.2.2.2.2.2.1, bh.2.2.2.2.2.2.2.2.2.2.2.1, bh.2.1, bh.2.2.1, bh.2.2.2.1, bh.2.2.2.2.1, bh.2.2.2.2.2.1, bh.2.2.2.2.2.2.2.2.2.2.2.2.1, bh.2.2.2.2.2.2.2.2.2.2.2.2.2.1, bh.2.2.2.2.2.2.2.2.2.2.2.2.2.2.1, bh.2.2.2.2.2.2.2.2.2.2.2.2.2.2.2, bh.1, aB (tries + 1)))) else (Option.map Sum.inr ((o9 (n ≠ 0)).bind fun u1 => some (l4 % n, Bj, Bk, Bm, uP, yj, Bf, Bg, yS, yT, Bh, Bi, ah.2.2.2.2.2.2.2.2.2.2.2.2.1, yl, ym, yn, yo)))
noncomputable def mL (fC : List UInt8) (eN : List UInt8) (dZ : List UInt8) (cr : List UInt8) (fp : Int) (ep : Int) (eW : List UInt8) (fS : List UInt8) (fq : Bool) (dU : UInt64) (fT : ae UInt64 8) (df : UInt64) (dh : UInt64) (er : List UInt8) (dV : Int) (jI : UInt64) (iF : ae UInt8 64) (gK : Int) (draw : Int) (n : UInt64) : Option (UInt64 × ae UInt64 8 × UInt64 × UInt64 × List UInt8 × Int × Int × Int × List UInt8 × List UInt8 × Bool × UInt64 × List UInt8 × UInt64 × ae UInt8 64 × Int × Int) :=
  (o9 (n ≠ 0)).bind fun u => (oS ((1 : UInt64) % n) (0 : UInt64) n).bind fun r_ => (fR fC eN dZ cr fp ep eW fS fq dU fT df dh er dV jI iF gK draw).bind fun ah => bO (iI fC eN dZ cr n r_ ah) (ah.2.2.2.2.2.2.1, ah.2.2.2.2.2.2.2.1, ah.2.2.2.2.2.2.2.2.1, ah.2.2.2.2.2.2.2.2.2.1, ah.2.2.2.2.2.2.2.2.2.2.1, ah.2.2.2.2.2.2.2.2.2.2.2.1, ah.2.1, ah.2.2.1, ah.2.2.2.1, ah.2.2.2.2.1, ah.2.2.2.2.2.1, ah.2.2.2.2.2.2.2.2.2.2.2.2.2.1, ah.2.2.2.2.2.2.2.2.2.2.2.2.2.2.1, ah.2.2.2.2.2.2.2.2.2.2.2.2.2.2.2.1, ah.2.2.2.2.2.2.2.2.2.2.2.2.2.2.2.2, ah.1, (1 : Int))
noncomputable def Fa (jr : Int) (js : Int) (jS : UInt32) (iU : UInt64) (iV : Bool) (cE : List UInt8) (bd : List UInt8) (ai : List UInt8) (b6 : Int) (bf : Int) (bo : List UInt8) (cm : List UInt8) (b7 : Bool) (aU : UInt64) (cF : ae UInt64 8) (aw : UInt64) (ax : UInt64) (a7 : List UInt8) (aV : Int) (ir : UInt64) (ei : ae UInt8 64) (dr : Int) : Option (ae UInt64 8 × UInt64 × UInt64 × List UInt8 × Int × Int × Int × List UInt8 × List UInt8 × Bool × UInt64 × Int × Int × UInt32 × UInt64 × Bool × List UInt8 × List UInt8 × List UInt8 × UInt64 × ae UInt8 64 × Int) :=
  some (cF, aw, ax, a7, aV, b6, bf, bo, cm, b7, aU, jr, js, jS, iU, iV, cE, bd, ai, ir, ei, dr)
noncomputable def Fc (jr : Int) (js : Int) (jS : UInt32) (iU : UInt64) (iV : Bool) (cE : List UInt8) (bd : List UInt8) (ai : List UInt8) (b6 : Int) (bf : Int) (bo : List UInt8) (cm : List UInt8) (b7 : Bool) (aU : UInt64) (cF : ae UInt64 8) (aw : UInt64) (ax : UInt64) (a7 : List UInt8) (aV : Int) (ir : UInt64) (ei : ae UInt8 64) (dr : Int) : Option (ae UInt64 8 × UInt64 × UInt64 × List UInt8 × Int × Int × Int × List UInt8 × List UInt8 × Bool × UInt64 × Int × Int × UInt32 × UInt64 × Bool × List UInt8 × List UInt8 × List UInt8 × List UInt8 × UInt64 × ae UInt8 64 × Int) :=
  (eo b6 bf bo cm b7 aU cF aw ax a7 aV js).bind fun r_ => (o9 (r_.1 ≠ [])).bind fun u => some (r_.2.2.1, r_.2.2.2.1, r_.2.2.2.2.1, r_.2.2.2.2.2.1, r_.2.2.2.2.2.2.1, r_.2.2.2.2.2.2.2.1, r_.2.2.2.2.2.2.2.2.1, r_.2.2.2.2.2.2.2.2.2.1, r_.2.2.2.2.2.2.2.2.2.2.1, r_.2.2.2.2.2.2.2.2.2.2.2.1, r_.2.2.2.2.2.2.2.2.2.2.2.2, jr, js, jS, iU, iV, cE, bd, ai, r_.1, ir, ei, dr)
noncomputable def pW (jr : Int) (js : Int) (jS : UInt32) (iU : UInt64) (iV : Bool) (cE : List UInt8) (bd : List UInt8) (ai : List UInt8) (b6 : Int) (bf : Int) (bo : List UInt8) (cm : List UInt8) (b7 : Bool) (aU : UInt64) (cF : ae UInt64 8) (aw : UInt64) (ax : UInt64) (a7 : List UInt8) (aV : Int) (dY : List UInt8) (ir : UInt64) (ei : ae UInt8 64) (dr : Int) : Option (ae UInt64 8 × UInt64 × UInt64 × List UInt8 × Int × Int × Int × List UInt8 × List UInt8 × Bool × UInt64 × Int × Int × UInt32 × UInt64 × Bool × List UInt8 × List UInt8 × List UInt8 × UInt64 × ae UInt8 64 × Int) :=
  some (cF, aw, ax, a7, aV, b6, bf, bo, cm, b7, aU, jr, js, jS, iU, iV, cE, bd, ai, ir, ei, dr)
noncomputable def uQ (jr : Int) (js : Int) (jS : UInt32) (iU : UInt64) (iV : Bool) (cE : List UInt8) (bd : List UInt8) (ai : List UInt8) (b6 : Int) (bf : Int) (bo : List UInt8) (cm : List UInt8) (b7 : Bool) (aU : UInt64) (cF : ae UInt64 8) (aw : UInt64) (ax : UInt64) (a7 : List UInt8) (aV : Int) (dY : List UInt8) (ir : UInt64) (ei : ae UInt8 64) (dr : Int) : Option (ae UInt64 8 × UInt64 × UInt64 × List UInt8 × Int × Int × Int × List UInt8 × List UInt8 × Bool × UInt64 × Int × Int × UInt32 × UInt64 × Bool × List UInt8 × List UInt8 × List UInt8 × UInt64 × ae UInt8 64 × Int) :=
  some (cF, aw, ax, a7, aV, b6, bf, bo, cm, b7, aU, jr, js, jS, iU, iV, cE, bd, ai, ir, ei, dr)
noncomputable def pX (zT : Int) (rv : Int) (yd : UInt32) (dx : List UInt8) (bJ : List UInt8) (root : List UInt8) (i : UInt64) (p : Int) : Option (List UInt8) :=
  (oq zT p (0 : Int) (0 : Int) (0 : Int) (UInt32.ofInt rv) i yd (0 : Int) rv dx bJ ([] : List UInt8) false p root).bind fun r_ => some r_.1
noncomputable def xv (zT : Int) (rv : Int) (yd : UInt32) (B_ : UInt64) (JJ : Bool) (dx : List UInt8) (bJ : List UInt8) (root : List UInt8) (i : UInt64) : Option (List UInt8) :=
  if (B_ - (i * (UInt64.ofInt rv))) < (UInt64.ofInt rv) then (pX zT rv yd dx bJ root i (aB (B_ - (i * (UInt64.ofInt rv))).toNat)) else (pX zT rv yd dx bJ root i rv)
noncomputable def pY (ah : (ae UInt64 8 × UInt64 × UInt64 × List UInt8 × Int × Int × Int × List UInt8 × List UInt8 × Bool × UInt64 × Int × Int × UInt32 × UInt64 × Bool × List UInt8 × List UInt8 × List UInt8 × UInt64 × ae UInt8 64 × Int)) (n8 : Int) (aC : UInt64) (out : List UInt8) (Gj : ae UInt8 64) (Eh : Int) : Option ((UInt64 × ae UInt8 64 × Int × List UInt8) ⊕ (List UInt8 × Int × ae UInt64 8 × UInt64 × UInt64 × List UInt8 × Int × Int × Int × List UInt8 × List UInt8 × Bool × UInt64 × Int × Int × UInt32 × UInt64 × Bool × List UInt8 × List UInt8 × List UInt8 × UInt64 × ae UInt8 64 × Int)) :=
  (o9 ((UInt64.ofInt ah.2.2.2.2.2.2.2.2.2.2.2.2.1) ≠ 0)).bind fun u1 => (x5 Gj.l (aB (aC % (UInt64.ofInt ah.2.2.2.2.2.2.2.2.2.2.2.2.1)).toNat) (aB ((aB (aC % (UInt64.ofInt ah.2.2.2.2.2.2.2.2.2.2.2.2.1)).toNat) + (if aB (ah.2.2.2.2.2.2.2.2.2.2.2.2.1 - (aB (aC % (UInt64.ofInt ah.2.2.2.2.2.2.2.2.2.2.2.2.1)).toNat)) < aB (n8 - ((out.length : Nat) : Int)) then aB (ah.2.2.2.2.2.2.2.2.2.2.2.2.1 - (aB (aC % (UInt64.ofInt ah.2.2.2.2.2.2.2.2.2.2.2.2.1)).toNat)) else aB (n8 - ((out.length : Nat) : Int)))))).bind fun b => (app out b 1).bind fun zV => some (.inl (aC + (UInt64.ofInt (if aB (ah.2.2.2.2.2.2.2.2.2.2.2.2.1 - (aB (aC % (UInt64.ofInt ah.2.2.2.2.2.2.2.2.2.2.2.2.1)).toNat)) < aB (n8 - ((out.length : Nat) : Int)) then aB (ah.2.2.2.2.2.2.2.2.2.2.2.2.1 - (aB (aC % (UInt64.ofInt ah.2.2.2.2.2.2.2.2.2.2.2.2.1)).toNat)) else aB (n8 - ((out.length : Nat) : Int)))), Gj, Eh, zV))
noncomputable def uR (dY : List UInt8) (ah : (ae UInt64 8 × UInt64 × UInt64 × List UInt8 × Int × Int × Int × List UInt8 × List UInt8 × Bool × UInt64 × Int × Int × UInt32 × UInt64 × Bool × List UInt8 × List UInt8 × List UInt8 × UInt64 × ae UInt8 64 × Int)) (n8 : Int) : (UInt64 × ae UInt8 64 × Int × List UInt8) → Option ((UInt64 × ae UInt8 64 × Int × List UInt8) ⊕ (List UInt8 × Int × ae UInt64 8 × UInt64 × UInt64 × List UInt8 × Int × Int × Int × List UInt8 × List UInt8 × Bool × UInt64 × Int × Int × UInt32 × UInt64 × Bool × List UInt8 × List UInt8 × List UInt8 × UInt64 × ae UInt8 64 × Int))
  | (aC, ti, vH, out) => if ((out.length : Nat) : Int) < n8 then ((o9 ((UInt64.ofInt ah.2.2.2.2.2.2.2.2.2.2.2.2.1) ≠ 0)).bind fun u => if vH ≠ (aB (aC / (UInt64.ofInt ah.2.2.2.2.2.2.2.2.2.2.2.2.1)).toNat) then ((xv ah.2.2.2.2.2.2.2.2.2.2.2.1 ah.2.2.2.2.2.2.2.2.2.2.2.2.1 ah.2.2.2.2.2.2.2.2.2.2.2.2.2.1 ah.2.2.2.2.2.2.2.2.2.2.2.2.2.2.1 ah.2.2.2.2.2.2.2.2.2.2.2.2.2.2.2.1 ah.2.2.2.2.2.2.2.2.2.2.2.2.2.2.2.2.2.1 ah.2.2.2.2.2.2.2.2.2.2.2.2.2.2.2.2.2.2.1 dY (aC / (UInt64.ofInt ah.2.2.2.2.2.2.2.2.2.2.2.2.1))).bind fun bh => pY ah n8 aC out (tP ti 0 64 bh) (aB (aC / (UInt64.ofInt ah.2.2.2.2.2.2.2.2.2.2.2.2.1)).toNat)) else (pY ah n8 aC out ti vH)) else (Option.map Sum.inr (some (out, (0 : Int), ah.1, ah.2.1, ah.2.2.1, ah.2.2.2.1, ah.2.2.2.2.1, ah.2.2.2.2.2.1, ah.2.2.2.2.2.2.1, ah.2.2.2.2.2.2.2.1, ah.2.2.2.2.2.2.2.2.1, ah.2.2.2.2.2.2.2.2.2.1, ah.2.2.2.2.2.2.2.2.2.2.1, ah.2.2.2.2.2.2.2.2.2.2.2.1, ah.2.2.2.2.2.2.2.2.2.2.2.2.1, ah.2.2.2.2.2.2.2.2.2.2.2.2.2.1, ah.2.2.2.2.2.2.2.2.2.2.2.2.2.2.1, ah.2.2.2.2.2.2.2.2.2.2.2.2.2.2.2.1, ah.2.2.2.2.2.2.2.2.2.2.2.2.2.2.2.2.1, ah.2.2.2.2.2.2.2.2.2.2.2.2.2.2.2.2.2.1, ah.2.2.2.2.2.2.2.2.2.2.2.2.2.2.2.2.2.2.1, aC, ti, vH)))
noncomputable def pZ (dY : List UInt8) (ah : (ae UInt64 8 × UInt64 × UInt64 × List UInt8 × Int × Int × Int × List UInt8 × List UInt8 × Bool × UInt64 × Int × Int × UInt32 × UInt64 × Bool × List UInt8 × List UInt8 × List UInt8 × UInt64 × ae UInt8 64 × Int)) (n8 : Int) : Option (List UInt8 × Int × ae UInt64 8 × UInt64 × UInt64 × List UInt8 × Int × Int × Int × List UInt8 × List UInt8 × Bool × UInt64 × Int × Int × UInt32 × UInt64 × Bool × List UInt8 × List UInt8 × List UInt8 × UInt64 × ae UInt8 64 × Int) :=
  bO (uR dY ah n8) (ah.2.2.2.2.2.2.2.2.2.2.2.2.2.2.2.2.2.2.2.1, ah.2.2.2.2.2.2.2.2.2.2.2.2.2.2.2.2.2.2.2.2.1, ah.2.2.2.2.2.2.2.2.2.2.2.2.2.2.2.2.2.2.2.2.2, ([] : List UInt8))
noncomputable def Fe (jr : Int) (js : Int) (jS : UInt32) (iU : UInt64) (iV : Bool) (cE : List UInt8) (bd : List UInt8) (ai : List UInt8) (b6 : Int) (bf : Int) (bo : List UInt8) (cm : List UInt8) (b7 : Bool) (aU : UInt64) (cF : ae UInt64 8) (aw : UInt64) (ax : UInt64) (a7 : List UInt8) (aV : Int) (dY : List UInt8) (ir : UInt64) (ei : ae UInt8 64) (dr : Int) (n : Int) : Option (List UInt8 × Int × ae UInt64 8 × UInt64 × UInt64 × List UInt8 × Int × Int × Int × List UInt8 × List UInt8 × Bool × UInt64 × Int × Int × UInt32 × UInt64 × Bool × List UInt8 × List UInt8 × List UInt8 × UInt64 × ae UInt8 64 × Int) :=
  (pW jr js jS iU iV cE bd ai b6 bf bo cm b7 aU cF aw ax a7 aV dY ir ei dr).bind fun r_ => if ((decide (n < 0)) || (decide (65536 < n))) = true then (some (([] : List UInt8), (1 : Int), r_.1, r_.2.1, r_.2.2.1, r_.2.2.2.1, r_.2.2.2.2.1, r_.2.2.2.2.2.1, r_.2.2.2.2.2.2.1, r_.2.2.2.2.2.2.2.1, r_.2.2.2.2.2.2.2.2.1, r_.2.2.2.2.2.2.2.2.2.1, r_.2.2.2.2.2.2.2.2.2.2.1, r_.2.2.2.2.2.2.2.2.2.2.2.1, r_.2.2.2.2.2.2.2.2.2.2.2.2.1, r_.2.2.2.2.2.2.2.2.2.2.2.2.2.1, r_.2.2.2.2.2.2.2.2.2.2.2.2.2.2.1, r_.2.2.2.2.2.2.2.2.2.2.2.2.2.2.2.1, r_.2.2.2.2.2.2.2.2.2.2.2.2.2.2.2.2.1, r_.2.2.2.2.2.2.2.2.2.2.2.2.2.2.2.2.2.1, r_.2.2.2.2.2.2.2.2.2.2.2.2.2.2.2.2.2.2.1, r_.2.2.2.2.2.2.2.2.2.2.2.2.2.2.2.2.2.2.2.1, r_.2.2.2.2.2.2.2.2.2.2.2.2.2.2.2.2.2.2.2.2.1, r_.2.2.2.2.2.2.2.2.2.2.2.2.2.2.2.2.2.2.2.2.2)) else ((uQ r_.2.2.2.2.2.2.2.2.2.2.2.1 r_.2.2.2.2.2.2.2.2.2.2.2.2.1 r_.2.2.2.2.2.2.2.2.2.2.2.2.2.1 r_.2.2.2.2.2.2.2.2.2.2.2.2.2.2.1 r_.2.2.2.2.2.2.2.2.2.2.2.2.2.2.2.1 r_.2.2.2.2.2.2.2.2.2.2.2.2.2.2.2.2.1 r_.2.2.2.2.2.2.2.2.2.2.2.2.2.2.2.2.2.1 r_.2.2.2.2.2.2.2.2.2.2.2.2.2.2.2.2.2.2.1 r_.2.2.2.2.2.1 r_.2.2.2.2.2.2.1 r_.2.2.2.2.2.2.2.1 r_.2.2.2.2.2.2.2.2.1 r_.2.2.2.2.2.2.2.2.2.1 r_.2.2.2.2.2.2.2.2.2.2.1 r_.1 r_.2.1 r_.2.2.1 r_.2.2.2.1 r_.2.2.2.2.1 dY r_.2.2.2.2.2.2.2.2.2.2.2.2.2.2.2.2.2.2.2.1 r_.2.2.2.2.2.2.2.2.2.2.2.2.2.2.2.2.2.2.2.2.1 r_.2.2.2.2.2.2.2.2.2.2.2.2.2.2.2.2.2.2.2.2.2).bind fun ah => if ((decide (0 < n)) && (decide ((ah.2.2.2.2.2.2.2.2.2.2.2.2.2.2.1 - ah.2.2.2.2.2.2.2.2.2.2.2.2.2.2.2.2.2.2.2.1) = 0))) = true then (some (([] : List UInt8), (70 : Int), ah.1, ah.2.1, ah.2.2.1, ah.2.2.2.1, ah.2.2.2.2.1, ah.2.2.2.2.2.1, ah.2.2.2.2.2.2.1, ah.2.2.2.2.2.2.2.1, ah.2.2.2.2.2.2.2.2.1, ah.2.2.2.2.2.2.2.2.2.1, ah.2.2.2.2.2.2.2.2.2.2.1, ah.2.2.2.2.2.2.2.2.2.2.2.1, ah.2.2.2.2.2.2.2.2.2.2.2.2.1, ah.2.2.2.2.2.2.2.2.2.2.2.2.2.1, ah.2.2.2.2.2.2.2.2.2.2.2.2.2.2.1, ah.2.2.2.2.2.2.2.2.2.2.2.2.2.2.2.1, ah.2.2.2.2.2.2.2.2.2.2.2.2.2.2.2.2.1, ah.2.2.2.2.2.2.2.2.2.2.2.2.2.2.2.2.2.1, ah.2.2.2.2.2.2.2.2.2.2.2.2.2.2.2.2.2.2.1, ah.2.2.2.2.2.2.2.2.2.2.2.2.2.2.2.2.2.2.2.1, ah.2.2.2.2.2.2.2.2.2.2.2.2.2.2.2.2.2.2.2.2.1, ah.2.2.2.2.2.2.2.2.2.2.2.2.2.2.2.2.2.2.2.2.2)) else (if (ah.2.2.2.2.2.2.2.2.2.2.2.2.2.2.1 - ah.2.2.2.2.2.2.2.2.2.2.2.2.2.2.2.2.2.2.2.1) < (UInt64.ofInt n) then (pZ dY ah (aB (ah.2.2.2.2.2.2.2.2.2.2.2.2.2.2.1 - ah.2.2.2.2.2.2.2.2.2.2.2.2.2.2.2.2.2.2.2.1).toNat)) else (pZ dY ah n)))
noncomputable def GL (jr : Int) (js : Int) (jS : UInt32) (iU : UInt64) (iV : Bool) (cE : List UInt8) (bd : List UInt8) (ai : List UInt8) (b6 : Int) (bf : Int) (bo : List UInt8) (cm : List UInt8) (b7 : Bool) (aU : UInt64) (cF : ae UInt64 8) (aw : UInt64) (ax : UInt64) (a7 : List UInt8) (aV : Int) (dY : List UInt8) (ir : UInt64) (ei : ae UInt8 64) (dr : Int) : Option (UInt64 × ae UInt64 8 × UInt64 × UInt64 × List UInt8 × Int × Int × Int × List UInt8 × List UInt8 × Bool × UInt64 × Int × Int × UInt32 × UInt64 × Bool × List UInt8 × List UInt8 × List UInt8 × UInt64 × ae UInt8 64 × Int) :=
  (pW jr js jS iU iV cE bd ai b6 bf bo cm b7 aU cF aw ax a7 aV dY ir ei dr).bind fun r_ => some (r_.2.2.2.2.2.2.2.2.2.2.2.2.2.2.2.2.2.2.2.1, r_.1, r_.2.1, r_.2.2.1, r_.2.2.2.1, r_.2.2.2.2.1, r_.2.2.2.2.2.1, r_.2.2.2.2.2.2.1, r_.2.2.2.2.2.2.2.1, r_.2.2.2.2.2.2.2.2.1, r_.2.2.2.2.2.2.2.2.2.1, r_.2.2.2.2.2.2.2.2.2.2.1, r_.2.2.2.2.2.2.2.2.2.2.2.1, r_.2.2.2.2.2.2.2.2.2.2.2.2.1, r_.2.2.2.2.2.2.2.2.2.2.2.2.2.1, r_.2.2.2.2.2.2.2.2.2.2.2.2.2.2.1, r_.2.2.2.2.2.2.2.2.2.2.2.2.2.2.2.1, r_.2.2.2.2.2.2.2.2.2.2.2.2.2.2.2.2.1, r_.2.2.2.2.2.2.2.2.2.2.2.2.2.2.2.2.2.1, r_.2.2.2.2.2.2.2.2.2.2.2.2.2.2.2.2.2.2.1, r_.2.2.2.2.2.2.2.2.2.2.2.2.2.2.2.2.2.2.2.1, r_.2.2.2.2.2.2.2.2.2.2.2.2.2.2.2.2.2.2.2.2.1, r_.2.2.2.2.2.2.2.2.2.2.2.2.2.2.2.2.2.2.2.2.2)
noncomputable def kF (fC : List UInt8) (eN : List UInt8) (dZ : List UInt8) (cr : List UInt8) (fp : Int) (ep : Int) (eW : List UInt8) (fS : List UInt8) (fq : Bool) (dU : UInt64) (fT : ae UInt64 8) (df : UInt64) (dh : UInt64) (er : List UInt8) (dV : Int) (jI : UInt64) (iF : ae UInt8 64) (gK : Int) (draw : Int) (p : UInt64) (p1 : UInt64) : Option (ae UInt64 8 × UInt64 × UInt64 × List UInt8 × Int × Int × Int × List UInt8 × List UInt8 × Bool × UInt64 × List UInt8 × UInt64 × ae UInt8 64 × Int × Int × UInt64 × UInt64) :=
  (mL fC eN dZ cr fp ep eW fS fq dU fT df dh er dV jI iF gK draw p).bind fun r_ => some (r_.2.1, r_.2.2.1, r_.2.2.2.1, r_.2.2.2.2.1, r_.2.2.2.2.2.1, r_.2.2.2.2.2.2.1, r_.2.2.2.2.2.2.2.1, r_.2.2.2.2.2.2.2.2.1, r_.2.2.2.2.2.2.2.2.2.1, r_.2.2.2.2.2.2.2.2.2.2.1, r_.2.2.2.2.2.2.2.2.2.2.2.1, r_.2.2.2.2.2.2.2.2.2.2.2.2.1, r_.2.2.2.2.2.2.2.2.2.2.2.2.2.1, r_.2.2.2.2.2.2.2.2.2.2.2.2.2.2.1, r_.2.2.2.2.2.2.2.2.2.2.2.2.2.2.2.1, r_.2.2.2.2.2.2.2.2.2.2.2.2.2.2.2.2, p, r_.1)
noncomputable def oT (w_ : UInt64) : Option Nat :=
  some (jO .quo (x9 ((aJ w_ ((11 : UInt64).toNat)).toNat : Int)) 4845873199050653696)
noncomputable def Eo (x_ : Nat) : Option Nat :=
  (o9 (x_ ≠ y2)).bind fun u => some (bW (((UInt64.ofNat x_) &&& ~~~9223372036854775808)).toNat)
noncomputable def y3 (f1 : Nat) : Option Bool :=
  some (cv .gtr f1 9218868437227405311)
noncomputable def JK (f : Nat) : Option Bool :=
  (Eo f).bind fun r_ => y3 r_
noncomputable def ng (f : Nat) : Option Bool :=
  some (cv .gtr f 9218868437227405311)
noncomputable def ld (f : Nat) : Option Bool :=
  ng f
noncomputable def jV (aC : Int) (tx : List Int) (Ep : Nat) (wM : Bool) : Option ((List Int × Nat × Bool × Int) ⊕ (List Int × Nat × Int)) :=
  some (.inl (tx, Ep, wM, aB (aC + 1)))
noncomputable def jW (sum : Nat) (aC : Int) (fg : UInt64) (uS : List Int) : Option ((List Int × Nat × Bool × Int) ⊕ (List Int × Nat × Int)) :=
  jV aC uS (jO .add sum (bW fg.toNat)) true
noncomputable def jX (sum : Nat) (aC : Int) (fg : UInt64) (uT : List Int) : Option ((List Int × Nat × Bool × Int) ⊕ (List Int × Nat × Int)) :=
  jV aC uT (jO .add sum (bW fg.toNat)) (cv .gtr (bW fg.toNat) 0)
noncomputable def fO (weights : List UInt64) : (List Int × Nat × Bool × Int) → Option ((List Int × Nat × Bool × Int) ⊕ (List Int × Nat × Int))
  | (kH, sum, some_, aC) => if aC < ((weights.length : Nat) : Int) then ((aN weights aC).bind fun fg => if (cv .neq (bW fg.toNat) (bW fg.toNat)) = true then (Option.map Sum.inr (some (([] : List Int), 0, (250 : Int)))) else (if (cv .lss (bW fg.toNat) 0) = true then (Option.map Sum.inr (some (([] : List Int), 0, (250 : Int)))) else (if some_ = true then ((ld (bW fg.toNat)).bind fun r_ => if r_ = true then ((app kH ([aC] : List Int) 8).bind fun Er => jW sum aC fg Er) else (jW sum aC fg kH)) else ((ld (bW fg.toNat)).bind fun ah => if ah = true then ((app kH ([aC] : List Int) 8).bind fun Et => jX sum aC fg Et) else (jX sum aC fg kH))))) else (Option.map Sum.inr (if (!some_) = true then (some (([] : List Int), 0, (251 : Int))) else (if ((kH.length : Nat) : Int) = 0 then ((ld sum).bind fun bh => if bh = true then (some (([] : List Int), 0, (250 : Int))) else (some (kH, sum, (0 : Int)))) else (some (kH, sum, (0 : Int))))))
noncomputable def dL (weights : List UInt64) : Option (List Int × Nat × Int) :=
  if 4096 < ((weights.length : Nat) : Int) then (some (([] : List Int), 0, (2 : Int))) else (bO (fO weights) (([] : List Int), 0, false, (0 : Int)))
noncomputable def k8 (bX : List UInt8) (bk : List UInt8) (aT : List UInt8) (aj : List UInt8) (aZ : Int) (aG : Int) (aO : List UInt8) (bg : List UInt8) (a1 : Bool) (ay : UInt64) (bm : ae UInt64 8) (ak : UInt64) (al : UInt64) (aD : List UInt8) (az : Int) (cR : UInt64) (b9 : ae UInt8 64) (bz : Int) (work : UInt64) (Ff : UInt64) : Option (Int × ae UInt64 8 × UInt64 × UInt64 × List UInt8 × Int × Int × Int × List UInt8 × List UInt8 × Bool × UInt64 × List UInt8 × UInt64 × ae UInt8 64 × Int × UInt64 × UInt64) :=
  (cM bX bk aT aj aZ aG aO bg a1 ay bm ak al aD az cR b9 bz).bind fun r_ => (gB bk aT aj r_.2.2.2.2.2.1 r_.2.2.2.2.2.2.1 r_.2.2.2.2.2.2.2.1 r_.2.2.2.2.2.2.2.2.1 r_.2.2.2.2.2.2.2.2.2.1 r_.2.2.2.2.2.2.2.2.2.2.1 r_.1 r_.2.1 r_.2.2.1 r_.2.2.2.1 r_.2.2.2.2.1 r_.2.2.2.2.2.2.2.2.2.2.2.1 r_.2.2.2.2.2.2.2.2.2.2.2.2.1 r_.2.2.2.2.2.2.2.2.2.2.2.2.2).bind fun ah => (kF bX bk aT aj ah.2.2.2.2.2.2.2.2.2.2.2.2.2.2.2.2.2.2.2.1 ah.2.2.2.2.2.2.2.2.2.2.2.2.2.2.2.2.2.2.2.2.1 ah.2.2.1 ah.2.2.2.1 ah.2.2.2.2.2.2.2.2.2.2.2.2.2.2.2.2.2.2.2.2.2.1 ah.2.2.2.2.2.2.2.2.2.2.2.2.2.2.2.2.2.2.2.2.2.2.1 ah.2.2.2.2.2.2.2.2.2.2.2.2.2.2.1 ah.2.2.2.2.2.2.2.2.2.2.2.2.2.2.2.1 ah.2.2.2.2.2.2.2.2.2.2.2.2.2.2.2.2.1 ah.2.2.2.2.2.2.2.2.2.2.2.2.2.2.2.2.2.1 ah.2.2.2.2.2.2.2.2.2.2.2.2.2.2.2.2.2.2.1 ah.2.2.2.2.2.2.2.2.2.2.2.2.2.2.2.2.2.2.2.2.2.2.2.1 ah.2.2.2.2.2.2.2.2.2.2.2.2.2.2.2.2.2.2.2.2.2.2.2.2.1 ah.2.2.2.2.2.2.2.2.2.2.2.2.2.2.2.2.2.2.2.2.2.2.2.2.2 (0 : Int) work Ff).bind fun bh => if bh.2.2.2.2.2.2.2.2.2.2.2.2.2.2.2.1 ≠ 0 then none else (some (bh.2.2.2.2.2.2.2.2.2.2.2.2.2.2.2.1, bh.1, bh.2.1, bh.2.2.1, bh.2.2.2.1, bh.2.2.2.2.1, bh.2.2.2.2.2.1, bh.2.2.2.2.2.2.1, bh.2.2.2.2.2.2.2.1, bh.2.2.2.2.2.2.2.2.1, bh.2.2.2.2.2.2.2.2.2.1, bh.2.2.2.2.2.2.2.2.2.2.1, bh.2.2.2.2.2.2.2.2.2.2.2.1, bh.2.2.2.2.2.2.2.2.2.2.2.2.1, bh.2.2.2.2.2.2.2.2.2.2.2.2.2.1, bh.2.2.2.2.2.2.2.2.2.2.2.2.2.2.1, bh.2.2.2.2.2.2.2.2.2.2.2.2.2.2.2.2.1, bh.2.2.2.2.2.2.2.2.2.2.2.2.2.2.2.2.2))
noncomputable def jA (bX : List UInt8) (bk : List UInt8) (aT : List UInt8) (aj : List UInt8) (aZ : Int) (aG : Int) (aO : List UInt8) (bg : List UInt8) (a1 : Bool) (ay : UInt64) (bm : ae UInt64 8) (ak : UInt64) (al : UInt64) (aD : List UInt8) (az : Int) (cR : UInt64) (b9 : ae UInt8 64) (bz : Int) (n : UInt64) : Option ((ae UInt64 8 × UInt64 × UInt64 × List UInt8 × Int × Int × Int × List UInt8 × List UInt8 × Bool × UInt64 × UInt64 × ae UInt8 64 × Int) ⊕ (UInt64 × Int × ae UInt64 8 × UInt64 × UInt64 × List UInt8 × Int × Int × Int × List UInt8 × List UInt8 × Bool × UInt64 × List UInt8 × UInt64 × ae UInt8 64 × Int)) :=
  (cM bX bk aT aj aZ aG aO bg a1 ay bm ak al aD az cR b9 bz).bind fun r_ => if n = 0 then (some (Sum.inl (r_.1, r_.2.1, r_.2.2.1, r_.2.2.2.1, r_.2.2.2.2.1, r_.2.2.2.2.2.1, r_.2.2.2.2.2.2.1, r_.2.2.2.2.2.2.2.1, r_.2.2.2.2.2.2.2.2.1, r_.2.2.2.2.2.2.2.2.2.1, r_.2.2.2.2.2.2.2.2.2.2.1, r_.2.2.2.2.2.2.2.2.2.2.2.1, r_.2.2.2.2.2.2.2.2.2.2.2.2.1, r_.2.2.2.2.2.2.2.2.2.2.2.2.2))) else ((k8 bX bk aT aj r_.2.2.2.2.2.1 r_.2.2.2.2.2.2.1 r_.2.2.2.2.2.2.2.1 r_.2.2.2.2.2.2.2.2.1 r_.2.2.2.2.2.2.2.2.2.1 r_.2.2.2.2.2.2.2.2.2.2.1 r_.1 r_.2.1 r_.2.2.1 r_.2.2.2.1 r_.2.2.2.2.1 r_.2.2.2.2.2.2.2.2.2.2.2.1 r_.2.2.2.2.2.2.2.2.2.2.2.2.1 r_.2.2.2.2.2.2.2.2.2.2.2.2.2 n (0 : UInt64)).bind fun ah => if ah.1 ≠ 0 then (some (Sum.inr ((0 : UInt64), ah.1, ah.2.1, ah.2.2.1, ah.2.2.2.1, ah.2.2.2.2.1, ah.2.2.2.2.2.1, ah.2.2.2.2.2.2.1, ah.2.2.2.2.2.2.2.1, ah.2.2.2.2.2.2.2.2.1, ah.2.2.2.2.2.2.2.2.2.1, ah.2.2.2.2.2.2.2.2.2.2.1, ah.2.2.2.2.2.2.2.2.2.2.2.1, ah.2.2.2.2.2.2.2.2.2.2.2.2.1, ah.2.2.2.2.2.2.2.2.2.2.2.2.2.1, ah.2.2.2.2.2.2.2.2.2.2.2.2.2.2.1, ah.2.2.2.2.2.2.2.2.2.2.2.2.2.2.2.1))) else (some (Sum.inr (ah.2.2.2.2.2.2.2.2.2.2.2.2.2.2.2.2.2, (0 : Int), ah.2.1, ah.2.2.1, ah.2.2.2.1, ah.2.2.2.2.1, ah.2.2.2.2.2.1, ah.2.2.2.2.2.2.1, ah.2.2.2.2.2.2.2.1, ah.2.2.2.2.2.2.2.2.1, ah.2.2.2.2.2.2.2.2.2.1, ah.2.2.2.2.2.2.2.2.2.2.1, ah.2.2.2.2.2.2.2.2.2.2.2.1, ah.2.2.2.2.2.2.2.2.2.2.2.2.1, ah.2.2.2.2.2.2.2.2.2.2.2.2.2.1, ah.2.2.2.2.2.2.2.2.2.2.2.2.2.2.1, ah.2.2.2.2.2.2.2.2.2.2.2.2.2.2.2.1))))
noncomputable def jJ (bX : List UInt8) (bk : List UInt8) (aT : List UInt8) (aj : List UInt8) (aZ : Int) (aG : Int) (aO : List UInt8) (bg : List UInt8) (a1 : Bool) (ay : UInt64) (bm : ae UInt64 8) (ak : UInt64) (al : UInt64) (aD : List UInt8) (az : Int) (cR : UInt64) (b9 : ae UInt8 64) (bz : Int) (work : UInt64) : Option (Int × ae UInt64 8 × UInt64 × UInt64 × List UInt8 × Int × Int × Int × List UInt8 × List UInt8 × Bool × UInt64 × List UInt8 × UInt64 × ae UInt8 64 × Int × UInt64) :=
  (cM bX bk aT aj aZ aG aO bg a1 ay bm ak al aD az cR b9 bz).bind fun r_ => (gB bk aT aj r_.2.2.2.2.2.1 r_.2.2.2.2.2.2.1 r_.2.2.2.2.2.2.2.1 r_.2.2.2.2.2.2.2.2.1 r_.2.2.2.2.2.2.2.2.2.1 r_.2.2.2.2.2.2.2.2.2.2.1 r_.1 r_.2.1 r_.2.2.1 r_.2.2.2.1 r_.2.2.2.2.1 r_.2.2.2.2.2.2.2.2.2.2.2.1 r_.2.2.2.2.2.2.2.2.2.2.2.2.1 r_.2.2.2.2.2.2.2.2.2.2.2.2.2).bind fun ah => (jz bX bk aT aj ah.2.2.2.2.2.2.2.2.2.2.2.2.2.2.2.2.2.2.2.1 ah.2.2.2.2.2.2.2.2.2.2.2.2.2.2.2.2.2.2.2.2.1 ah.2.2.1 ah.2.2.2.1 ah.2.2.2.2.2.2.2.2.2.2.2.2.2.2.2.2.2.2.2.2.2.1 ah.2.2.2.2.2.2.2.2.2.2.2.2.2.2.2.2.2.2.2.2.2.2.1 ah.2.2.2.2.2.2.2.2.2.2.2.2.2.2.1 ah.2.2.2.2.2.2.2.2.2.2.2.2.2.2.2.1 ah.2.2.2.2.2.2.2.2.2.2.2.2.2.2.2.2.1 ah.2.2.2.2.2.2.2.2.2.2.2.2.2.2.2.2.2.1 ah.2.2.2.2.2.2.2.2.2.2.2.2.2.2.2.2.2.2.1 ah.2.2.2.2.2.2.2.2.2.2.2.2.2.2.2.2.2.2.2.2.2.2.2.1 ah.2.2.2.2.2.2.2.2.2.2.2.2.2.2.2.2.2.2.2.2.2.2.2.2.1 ah.2.2.2.2.2.2.2.2.2.2.2.2.2.2.2.2.2.2.2.2.2.2.2.2.2 (0 : Int) work).bind fun bh => if bh.2.2.2.2.2.2.2.2.2.2.2.2.2.2.2.1 ≠ 0 then none else (some (bh.2.2.2.2.2.2.2.2.2.2.2.2.2.2.2.1, bh.1, bh.2.1, bh.2.2.1, bh.2.2.2.1, bh.2.2.2.2.1, bh.2.2.2.2.2.1, bh.2.2.2.2.2.2.1, bh.2.2.2.2.2.2.2.1, bh.2.2.2.2.2.2.2.2.1, bh.2.2.2.2.2.2.2.2.2.1, bh.2.2.2.2.2.2.2.2.2.2.1, bh.2.2.2.2.2.2.2.2.2.2.2.1, bh.2.2.2.2.2.2.2.2.2.2.2.2.1, bh.2.2.2.2.2.2.2.2.2.2.2.2.2.1, bh.2.2.2.2.2.2.2.2.2.2.2.2.2.2.1, bh.2.2.2.2.2.2.2.2.2.2.2.2.2.2.2.2))
noncomputable def lp (bX : List UInt8) (bk : List UInt8) (aT : List UInt8) (aj : List UInt8) (aZ : Int) (aG : Int) (aO : List UInt8) (bg : List UInt8) (a1 : Bool) (ay : UInt64) (bm : ae UInt64 8) (ak : UInt64) (al : UInt64) (aD : List UInt8) (az : Int) (cR : UInt64) (b9 : ae UInt8 64) (bz : Int) : Option (UInt64 × Int × ae UInt64 8 × UInt64 × UInt64 × List UInt8 × Int × Int × Int × List UInt8 × List UInt8 × Bool × UInt64 × List UInt8 × UInt64 × ae UInt8 64 × Int) :=
  (jJ bX bk aT aj aZ aG aO bg a1 ay bm ak al aD az cR b9 bz (0 : UInt64)).bind fun r_ => if r_.1 ≠ 0 then (some ((0 : UInt64), r_.1, r_.2.1, r_.2.2.1, r_.2.2.2.1, r_.2.2.2.2.1, r_.2.2.2.2.2.1, r_.2.2.2.2.2.2.1, r_.2.2.2.2.2.2.2.1, r_.2.2.2.2.2.2.2.2.1, r_.2.2.2.2.2.2.2.2.2.1, r_.2.2.2.2.2.2.2.2.2.2.1, r_.2.2.2.2.2.2.2.2.2.2.2.1, r_.2.2.2.2.2.2.2.2.2.2.2.2.1, r_.2.2.2.2.2.2.2.2.2.2.2.2.2.1, r_.2.2.2.2.2.2.2.2.2.2.2.2.2.2.1, r_.2.2.2.2.2.2.2.2.2.2.2.2.2.2.2.1)) else (some (r_.2.2.2.2.2.2.2.2.2.2.2.2.2.2.2.2, (0 : Int), r_.2.1, r_.2.2.1, r_.2.2.2.1, r_.2.2.2.2.1, r_.2.2.2.2.2.1, r_.2.2.2.2.2.2.1, r_.2.2.2.2.2.2.2.1, r_.2.2.2.2.2.2.2.2.1, r_.2.2.2.2.2.2.2.2.2.1, r_.2.2.2.2.2.2.2.2.2.2.1, r_.2.2.2.2.2.2.2.2.2.2.2.1, r_.2.2.2.2.2.2.2.2.2.2.2.2.1, r_.2.2.2.2.2.2.2.2.2.2.2.2.2.1, r_.2.2.2.2.2.2.2.2.2.2.2.2.2.2.1, r_.2.2.2.2.2.2.2.2.2.2.2.2.2.2.2.1))
noncomputable def jB (bX : List UInt8) (bk : List UInt8) (aT : List UInt8) (aj : List UInt8) (aZ : Int) (aG : Int) (aO : List UInt8) (bg : List UInt8) (a1 : Bool) (ay : UInt64) (bm : ae UInt64 8) (ak : UInt64) (al : UInt64) (aD : List UInt8) (az : Int) (cR : UInt64) (b9 : ae UInt8 64) (bz : Int) : Option (Nat × Int × ae UInt64 8 × UInt64 × UInt64 × List UInt8 × Int × Int × Int × List UInt8 × List UInt8 × Bool × UInt64 × List UInt8 × UInt64 × ae UInt8 64 × Int) :=
  (lp bX bk aT aj aZ aG aO bg a1 ay bm ak al aD az cR b9 bz).bind fun r_ => (oT r_.1).bind fun ah => some (ah, r_.2.1, r_.2.2.1, r_.2.2.2.1, r_.2.2.2.2.1, r_.2.2.2.2.2.1, r_.2.2.2.2.2.2.1, r_.2.2.2.2.2.2.2.1, r_.2.2.2.2.2.2.2.2.1, r_.2.2.2.2.2.2.2.2.2.1, r_.2.2.2.2.2.2.2.2.2.2.1, r_.2.2.2.2.2.2.2.2.2.2.2.1, r_.2.2.2.2.2.2.2.2.2.2.2.2.1, r_.2.2.2.2.2.2.2.2.2.2.2.2.2.1, r_.2.2.2.2.2.2.2.2.2.2.2.2.2.2.1, r_.2.2.2.2.2.2.2.2.2.2.2.2.2.2.2.1, r_.2.2.2.2.2.2.2.2.2.2.2.2.2.2.2.2)
noncomputable def jb (qt : Int) (zW : Nat) (zX : Int) : Option ((Nat × Int × Int) ⊕ ((Int × ae UInt64 8 × UInt64 × UInt64 × List UInt8 × Int × Int × Int × List UInt8 × List UInt8 × Bool × UInt64 × UInt64 × ae UInt8 64 × Int) ⊕ (Int × Int × ae UInt64 8 × UInt64 × UInt64 × List UInt8 × Int × Int × Int × List UInt8 × List UInt8 × Bool × UInt64 × List UInt8 × UInt64 × ae UInt8 64 × Int))) :=
  some (.inl (zW, zX, aB (qt + 1)))
noncomputable def dG (weights : List UInt64) (ah : (List Int × Nat × Int)) (bH : (Nat × Int × ae UInt64 8 × UInt64 × UInt64 × List UInt8 × Int × Int × Int × List UInt8 × List UInt8 × Bool × UInt64 × List UInt8 × UInt64 × ae UInt8 64 × Int)) : (Nat × Int × Int) → Option ((Nat × Int × Int) ⊕ ((Int × ae UInt64 8 × UInt64 × UInt64 × List UInt8 × Int × Int × Int × List UInt8 × List UInt8 × Bool × UInt64 × UInt64 × ae UInt8 64 × Int) ⊕ (Int × Int × ae UInt64 8 × UInt64 × UInt64 × List UInt8 × Int × Int × Int × List UInt8 × List UInt8 × Bool × UInt64 × List UInt8 × UInt64 × ae UInt8 64 × Int)))
  | (AF, last, qt) => if qt < ((weights.length : Nat) : Int) then ((aN weights qt).bind fun zY => if (cv .gtr (jO .add AF (bW zY.toNat)) (jO .mul bH.1 ah.2.1)) = true then (Option.map Sum.inr (some (Sum.inr (qt, (0 : Int), bH.2.2.1, bH.2.2.2.1, bH.2.2.2.2.1, bH.2.2.2.2.2.1, bH.2.2.2.2.2.2.1, bH.2.2.2.2.2.2.2.1, bH.2.2.2.2.2.2.2.2.1, bH.2.2.2.2.2.2.2.2.2.1, bH.2.2.2.2.2.2.2.2.2.2.1, bH.2.2.2.2.2.2.2.2.2.2.2.1, bH.2.2.2.2.2.2.2.2.2.2.2.2.1, bH.2.2.2.2.2.2.2.2.2.2.2.2.2.1, bH.2.2.2.2.2.2.2.2.2.2.2.2.2.2.1, bH.2.2.2.2.2.2.2.2.2.2.2.2.2.2.2.1, bH.2.2.2.2.2.2.2.2.2.2.2.2.2.2.2.2)))) else ((aN weights qt).bind fun Eu => if (cv .gtr (bW Eu.toNat) 0) = true then (jb qt (jO .add AF (bW zY.toNat)) qt) else (jb qt (jO .add AF (bW zY.toNat)) last))) else (Option.map Sum.inr (some (Sum.inr (last, (0 : Int), bH.2.2.1, bH.2.2.2.1, bH.2.2.2.2.1, bH.2.2.2.2.2.1, bH.2.2.2.2.2.2.1, bH.2.2.2.2.2.2.2.1, bH.2.2.2.2.2.2.2.2.1, bH.2.2.2.2.2.2.2.2.2.1, bH.2.2.2.2.2.2.2.2.2.2.1, bH.2.2.2.2.2.2.2.2.2.2.2.1, bH.2.2.2.2.2.2.2.2.2.2.2.2.1, bH.2.2.2.2.2.2.2.2.2.2.2.2.2.1, bH.2.2.2.2.2.2.2.2.2.2.2.2.2.2.1, bH.2.2.2.2.2.2.2.2.2.2.2.2.2.2.2.1, bH.2.2.2.2.2.2.2.2.2.2.2.2.2.2.2.2))))
noncomputable def eK (bX : List UInt8) (bk : List UInt8) (aT : List UInt8) (aj : List UInt8) (aZ : Int) (aG : Int) (aO : List UInt8) (bg : List UInt8) (a1 : Bool) (ay : UInt64) (bm : ae UInt64 8) (ak : UInt64) (al : UInt64) (aD : List UInt8) (az : Int) (cR : UInt64) (b9 : ae UInt8 64) (bz : Int) (weights : List UInt64) : Option ((Int × ae UInt64 8 × UInt64 × UInt64 × List UInt8 × Int × Int × Int × List UInt8 × List UInt8 × Bool × UInt64 × UInt64 × ae UInt8 64 × Int) ⊕ (Int × Int × ae UInt64 8 × UInt64 × UInt64 × List UInt8 × Int × Int × Int × List UInt8 × List UInt8 × Bool × UInt64 × List UInt8 × UInt64 × ae UInt8 64 × Int)) :=
  (cM bX bk aT aj aZ aG aO bg a1 ay bm ak al aD az cR b9 bz).bind fun r_ => (dL weights).bind fun ah => if ah.2.2 ≠ 0 then (some (Sum.inl (ah.2.2, r_.1, r_.2.1, r_.2.2.1, r_.2.2.2.1, r_.2.2.2.2.1, r_.2.2.2.2.2.1, r_.2.2.2.2.2.2.1, r_.2.2.2.2.2.2.2.1, r_.2.2.2.2.2.2.2.2.1, r_.2.2.2.2.2.2.2.2.2.1, r_.2.2.2.2.2.2.2.2.2.2.1, r_.2.2.2.2.2.2.2.2.2.2.2.1, r_.2.2.2.2.2.2.2.2.2.2.2.2.1, r_.2.2.2.2.2.2.2.2.2.2.2.2.2))) else (if 0 < ((ah.1.length : Nat) : Int) then ((jA bX bk aT aj r_.2.2.2.2.2.1 r_.2.2.2.2.2.2.1 r_.2.2.2.2.2.2.2.1 r_.2.2.2.2.2.2.2.2.1 r_.2.2.2.2.2.2.2.2.2.1 r_.2.2.2.2.2.2.2.2.2.2.1 r_.1 r_.2.1 r_.2.2.1 r_.2.2.2.1 r_.2.2.2.2.1 r_.2.2.2.2.2.2.2.2.2.2.2.1 r_.2.2.2.2.2.2.2.2.2.2.2.2.1 r_.2.2.2.2.2.2.2.2.2.2.2.2.2 (UInt64.ofInt ((ah.1.length : Nat) : Int))).bind fun bh => (Sum.elim (fun cD => some (Sum.inl ((1 : Int), cD.1, cD.2.1, cD.2.2.1, cD.2.2.2.1, cD.2.2.2.2.1, cD.2.2.2.2.2.1, cD.2.2.2.2.2.2.1, cD.2.2.2.2.2.2.2.1, cD.2.2.2.2.2.2.2.2.1, cD.2.2.2.2.2.2.2.2.2.1, cD.2.2.2.2.2.2.2.2.2.2.1, cD.2.2.2.2.2.2.2.2.2.2.2.1, cD.2.2.2.2.2.2.2.2.2.2.2.2.1, cD.2.2.2.2.2.2.2.2.2.2.2.2.2))) (fun fi => if fi.2.1 ≠ 0 then (some (Sum.inr ((0 : Int), fi.2.1, fi.2.2.1, fi.2.2.2.1, fi.2.2.2.2.1, fi.2.2.2.2.2.1, fi.2.2.2.2.2.2.1, fi.2.2.2.2.2.2.2.1, fi.2.2.2.2.2.2.2.2.1, fi.2.2.2.2.2.2.2.2.2.1, fi.2.2.2.2.2.2.2.2.2.2.1, fi.2.2.2.2.2.2.2.2.2.2.2.1, fi.2.2.2.2.2.2.2.2.2.2.2.2.1, fi.2.2.2.2.2.2.2.2.2.2.2.2.2.1, fi.2.2.2.2.2.2.2.2.2.2.2.2.2.2.1, fi.2.2.2.2.2.2.2.2.2.2.2.2.2.2.2.1, fi.2.2.2.2.2.2.2.2.2.2.2.2.2.2.2.2))) else ((aN ah.1 (fi.1.toNat : Int)).bind fun aC => some (Sum.inr (aC, (0 : Int), fi.2.2.1, fi.2.2.2.1, fi.2.2.2.2.1, fi.2.2.2.2.2.1, fi.2.2.2.2.2.2.1, fi.2.2.2.2.2.2.2.1, fi.2.2.2.2.2.2.2.2.1, fi.2.2.2.2.2.2.2.2.2.1, fi.2.2.2.2.2.2.2.2.2.2.1, fi.2.2.2.2.2.2.2.2.2.2.2.1, fi.2.2.2.2.2.2.2.2.2.2.2.2.1, fi.2.2.2.2.2.2.2.2.2.2.2.2.2.1, fi.2.2.2.2.2.2.2.2.2.2.2.2.2.2.1, fi.2.2.2.2.2.2.2.2.2.2.2.2.2.2.2.1, fi.2.2.2.2.2.2.2.2.2.2.2.2.2.2.2.2))))) bh) else ((jB bX bk aT aj r_.2.2.2.2.2.1 r_.2.2.2.2.2.2.1 r_.2.2.2.2.2.2.2.1 r_.2.2.2.2.2.2.2.2.1 r_.2.2.2.2.2.2.2.2.2.1 r_.2.2.2.2.2.2.2.2.2.2.1 r_.1 r_.2.1 r_.2.2.1 r_.2.2.2.1 r_.2.2.2.2.1 r_.2.2.2.2.2.2.2.2.2.2.2.1 r_.2.2.2.2.2.2.2.2.2.2.2.2.1 r_.2.2.2.2.2.2.2.2.2.2.2.2.2).bind fun bH => if bH.2.1 ≠ 0 then (some (Sum.inr ((0 : Int), bH.2.1, bH.2.2.1, bH.2.2.2.1, bH.2.2.2.2.1, bH.2.2.2.2.2.1, bH.2.2.2.2.2.2.1, bH.2.2.2.2.2.2.2.1, bH.2.2.2.2.2.2.2.2.1, bH.2.2.2.2.2.2.2.2.2.1, bH.2.2.2.2.2.2.2.2.2.2.1, bH.2.2.2.2.2.2.2.2.2.2.2.1, bH.2.2.2.2.2.2.2.2.2.2.2.2.1, bH.2.2.2.2.2.2.2.2.2.2.2.2.2.1, bH.2.2.2.2.2.2.2.2.2.2.2.2.2.2.1, bH.2.2.2.2.2.2.2.2.2.2.2.2.2.2.2.1, bH.2.2.2.2.2.2.2.2.2.2.2.2.2.2.2.2))) else (bO (dG weights ah bH) (0, (0 : Int), (0 : Int)))))
noncomputable def mM  : Option Bool :=
  (na ([] : List UInt8)).bind fun r_ => (Sum.elim (fun ah => some false) (fun bh => (eK bh.1 bh.2.1 bh.2.2.1 bh.2.2.2.1 bh.2.2.2.2.1 bh.2.2.2.2.2.1 bh.2.2.2.2.2.2.1 bh.2.2.2.2.2.2.2.1 false (0 : UInt64) bh.2.2.2.2.2.2.2.2.1 bh.2.2.2.2.2.2.2.2.2.1 bh.2.2.2.2.2.2.2.2.2.2.1 bh.2.2.2.2.2.2.2.2.2.2.2.1 bh.2.2.2.2.2.2.2.2.2.2.2.2.1 (0 : UInt64) bh.2.2.2.2.2.2.2.2.2.2.2.2.2 (-1 : Int) ([] : List UInt64)).bind fun cD => (Sum.elim (fun fi => some (decide (fi.1 = 251))) (fun bH => some (decide (bH.2.1 = 251)))) cD)) r_
noncomputable def dz (l : List UInt64) (cD : List UInt8 × List UInt8 × List UInt8 × List UInt8 × Int × Int × List UInt8 × List UInt8 × ae UInt64 8 × UInt64 × UInt64 × List UInt8 × Int × ae UInt8 64) (bH : Int × ae UInt64 8 × UInt64 × UInt64 × List UInt8 × Int × Int × Int × List UInt8 × List UInt8 × Bool × UInt64 × UInt64 × ae UInt8 64 × Int) : (Bool × Bool × Nat × Int) → Option ((Bool × Bool × Nat × Int) ⊕ Bool)
  | (some_, inf, sum, aC) => if aC < ((l.length : Nat) : Int) then ((aN l aC).bind fun eL => if (cv .neq (bW eL.toNat) (bW eL.toNat)) = true then (if ((decide (bH.1 = 250)) && true) = true then ((fm cD.1 cD.2.1 cD.2.2.1 cD.2.2.2.1 bH.2.2.2.2.2.2.1 bH.2.2.2.2.2.2.2.1 bH.2.2.2.2.2.2.2.2.1 bH.2.2.2.2.2.2.2.2.2.1 bH.2.2.2.2.2.2.2.2.2.2.1 bH.2.2.2.2.2.2.2.2.2.2.2.1 bH.2.1 bH.2.2.1 bH.2.2.2.1 bH.2.2.2.2.1 bH.2.2.2.2.2.1 bH.2.2.2.2.2.2.2.2.2.2.2.2.1 bH.2.2.2.2.2.2.2.2.2.2.2.2.2.1 bH.2.2.2.2.2.2.2.2.2.2.2.2.2.2).bind fun rY => Option.map Sum.inr (some (decide (rY.1 = 0)))) else (Option.map Sum.inr (some false))) else (if (cv .lss (bW eL.toNat) 0) = true then (if ((decide (bH.1 = 250)) && true) = true then ((fm cD.1 cD.2.1 cD.2.2.1 cD.2.2.2.1 bH.2.2.2.2.2.2.1 bH.2.2.2.2.2.2.2.1 bH.2.2.2.2.2.2.2.2.1 bH.2.2.2.2.2.2.2.2.2.1 bH.2.2.2.2.2.2.2.2.2.2.1 bH.2.2.2.2.2.2.2.2.2.2.2.1 bH.2.1 bH.2.2.1 bH.2.2.2.1 bH.2.2.2.2.1 bH.2.2.2.2.2.1 bH.2.2.2.2.2.2.2.2.2.2.2.2.1 bH.2.2.2.2.2.2.2.2.2.2.2.2.2.1 bH.2.2.2.2.2.2.2.2.2.2.2.2.2.2).bind fun E8 => Option.map Sum.inr (some (decide (E8.1 = 0)))) else (Option.map Sum.inr (some false))) else (if some_ = true then (if inf = true then (some (.inl (true, true, jO .add sum (bW eL.toNat), aB (aC + 1)))) else (some (.inl (true, cv .neq (jO .sub (bW eL.toNat) (bW eL.toNat)) 0, jO .add sum (bW eL.toNat), aB (aC + 1))))) else (if inf = true then (some (.inl (cv .gtr (bW eL.toNat) 0, true, jO .add sum (bW eL.toNat), aB (aC + 1)))) else (some (.inl (cv .gtr (bW eL.toNat) 0, cv .neq (jO .sub (bW eL.toNat) (bW eL.toNat)) 0, jO .add sum (bW eL.toNat), aB (aC + 1)))))))) else (Option.map Sum.inr (if (!some_) = true then (if ((decide (bH.1 = 251)) && true) = true then ((fm cD.1 cD.2.1 cD.2.2.1 cD.2.2.2.1 bH.2.2.2.2.2.2.1 bH.2.2.2.2.2.2.2.1 bH.2.2.2.2.2.2.2.2.1 bH.2.2.2.2.2.2.2.2.2.1 bH.2.2.2.2.2.2.2.2.2.2.1 bH.2.2.2.2.2.2.2.2.2.2.2.1 bH.2.1 bH.2.2.1 bH.2.2.2.1 bH.2.2.2.2.1 bH.2.2.2.2.2.1 bH.2.2.2.2.2.2.2.2.2.2.2.2.1 bH.2.2.2.2.2.2.2.2.2.2.2.2.2.1 bH.2.2.2.2.2.2.2.2.2.2.2.2.2.2).bind fun OD => some (decide (OD.1 = 0))) else (some false)) else (if (!inf) = true then (if (cv .neq (jO .sub sum sum) 0) = true then (if ((decide (bH.1 = 250)) && true) = true then ((fm cD.1 cD.2.1 cD.2.2.1 cD.2.2.2.1 bH.2.2.2.2.2.2.1 bH.2.2.2.2.2.2.2.1 bH.2.2.2.2.2.2.2.2.1 bH.2.2.2.2.2.2.2.2.2.1 bH.2.2.2.2.2.2.2.2.2.2.1 bH.2.2.2.2.2.2.2.2.2.2.2.1 bH.2.1 bH.2.2.1 bH.2.2.2.1 bH.2.2.2.2.1 bH.2.2.2.2.2.1 bH.2.2.2.2.2.2.2.2.2.2.2.2.1 bH.2.2.2.2.2.2.2.2.2.2.2.2.2.1 bH.2.2.2.2.2.2.2.2.2.2.2.2.2.2).bind fun HB => some (decide (HB.1 = 0))) else (some false)) else (if (((decide (bH.1 = 0)) && true) && (decide (0 < ((l.length : Nat) : Int)))) = true then ((aN l (0 : Int)).bind fun ej => if (cv .gtr (bW ej.toNat) 0) = true then (if (!inf) = true then ((fm cD.1 cD.2.1 cD.2.2.1 cD.2.2.2.1 bH.2.2.2.2.2.2.1 bH.2.2.2.2.2.2.2.1 bH.2.2.2.2.2.2.2.2.1 bH.2.2.2.2.2.2.2.2.2.1 bH.2.2.2.2.2.2.2.2.2.2.1 bH.2.2.2.2.2.2.2.2.2.2.2.1 bH.2.1 bH.2.2.1 bH.2.2.2.1 bH.2.2.2.2.1 bH.2.2.2.2.2.1 bH.2.2.2.2.2.2.2.2.2.2.2.2.1 bH.2.2.2.2.2.2.2.2.2.2.2.2.2.1 bH.2.2.2.2.2.2.2.2.2.2.2.2.2.2).bind fun HC => some (decide ((1 : UInt64) ≤ HC.1))) else ((aN l (0 : Int)).bind fun fg => (aN l (0 : Int)).bind fun ll => if (cv .neq (jO .sub (bW fg.toNat) (bW ll.toNat)) 0) = true then ((fm cD.1 cD.2.1 cD.2.2.1 cD.2.2.2.1 bH.2.2.2.2.2.2.1 bH.2.2.2.2.2.2.2.1 bH.2.2.2.2.2.2.2.2.1 bH.2.2.2.2.2.2.2.2.2.1 bH.2.2.2.2.2.2.2.2.2.2.1 bH.2.2.2.2.2.2.2.2.2.2.2.1 bH.2.1 bH.2.2.1 bH.2.2.2.1 bH.2.2.2.2.1 bH.2.2.2.2.2.1 bH.2.2.2.2.2.2.2.2.2.2.2.2.1 bH.2.2.2.2.2.2.2.2.2.2.2.2.2.1 bH.2.2.2.2.2.2.2.2.2.2.2.2.2.2).bind fun HD => some (decide ((1 : UInt64) ≤ HD.1))) else (some false))) else (some false)) else (some false))) else (if (((decide (bH.1 = 0)) && true) && (decide (0 < ((l.length : Nat) : Int)))) = true then ((aN l (0 : Int)).bind fun ln => if (cv .gtr (bW ln.toNat) 0) = true then (if (!inf) = true then ((fm cD.1 cD.2.1 cD.2.2.1 cD.2.2.2.1 bH.2.2.2.2.2.2.1 bH.2.2.2.2.2.2.2.1 bH.2.2.2.2.2.2.2.2.1 bH.2.2.2.2.2.2.2.2.2.1 bH.2.2.2.2.2.2.2.2.2.2.1 bH.2.2.2.2.2.2.2.2.2.2.2.1 bH.2.1 bH.2.2.1 bH.2.2.2.1 bH.2.2.2.2.1 bH.2.2.2.2.2.1 bH.2.2.2.2.2.2.2.2.2.2.2.2.1 bH.2.2.2.2.2.2.2.2.2.2.2.2.2.1 bH.2.2.2.2.2.2.2.2.2.2.2.2.2.2).bind fun HE => some (decide ((1 : UInt64) ≤ HE.1))) else ((aN l (0 : Int)).bind fun l6 => (aN l (0 : Int)).bind fun lG => if (cv .neq (jO .sub (bW l6.toNat) (bW lG.toNat)) 0) = true then ((fm cD.1 cD.2.1 cD.2.2.1 cD.2.2.2.1 bH.2.2.2.2.2.2.1 bH.2.2.2.2.2.2.2.1 bH.2.2.2.2.2.2.2.2.1 bH.2.2.2.2.2.2.2.2.2.1 bH.2.2.2.2.2.2.2.2.2.2.1 bH.2.2.2.2.2.2.2.2.2.2.2.1 bH.2.1 bH.2.2.1 bH.2.2.2.1 bH.2.2.2.2.1 bH.2.2.2.2.2.1 bH.2.2.2.2.2.2.2.2.2.2.2.2.1 bH.2.2.2.2.2.2.2.2.2.2.2.2.2.1 bH.2.2.2.2.2.2.2.2.2.2.2.2.2.2).bind fun HF => some (decide ((1 : UInt64) ≤ HF.1))) else (some false))) else (some false)) else (some false)))))
noncomputable def fH (l : List UInt64) (cD : List UInt8 × List UInt8 × List UInt8 × List UInt8 × Int × Int × List UInt8 × List UInt8 × ae UInt64 8 × UInt64 × UInt64 × List UInt8 × Int × ae UInt8 64) (cW : Int × Int × ae UInt64 8 × UInt64 × UInt64 × List UInt8 × Int × Int × Int × List UInt8 × List UInt8 × Bool × UInt64 × List UInt8 × UInt64 × ae UInt8 64 × Int) : (Bool × Bool × Nat × Int) → Option ((Bool × Bool × Nat × Int) ⊕ Bool)
  | (sr, tz, rS, oH) => if oH < ((l.length : Nat) : Int) then ((aN l oH).bind fun ig => if (cv .neq (bW ig.toNat) (bW ig.toNat)) = true then (if ((decide (cW.2.1 = 250)) && (decide (cW.1 = 0))) = true then ((ec cD.1 cD.2.1 cD.2.2.1 cD.2.2.2.1 cW.2.2.2.2.2.2.2.1 cW.2.2.2.2.2.2.2.2.1 cW.2.2.2.2.2.2.2.2.2.1 cW.2.2.2.2.2.2.2.2.2.2.1 cW.2.2.2.2.2.2.2.2.2.2.2.1 cW.2.2.2.2.2.2.2.2.2.2.2.2.1 cW.2.2.1 cW.2.2.2.1 cW.2.2.2.2.1 cW.2.2.2.2.2.1 cW.2.2.2.2.2.2.1 cW.2.2.2.2.2.2.2.2.2.2.2.2.2.1 cW.2.2.2.2.2.2.2.2.2.2.2.2.2.2.1 cW.2.2.2.2.2.2.2.2.2.2.2.2.2.2.2.1 cW.2.2.2.2.2.2.2.2.2.2.2.2.2.2.2.2).bind fun HG => Option.map Sum.inr (some (decide (HG.1 = 0)))) else (Option.map Sum.inr (some false))) else (if (cv .lss (bW ig.toNat) 0) = true then (if ((decide (cW.2.1 = 250)) && (decide (cW.1 = 0))) = true then ((ec cD.1 cD.2.1 cD.2.2.1 cD.2.2.2.1 cW.2.2.2.2.2.2.2.1 cW.2.2.2.2.2.2.2.2.1 cW.2.2.2.2.2.2.2.2.2.1 cW.2.2.2.2.2.2.2.2.2.2.1 cW.2.2.2.2.2.2.2.2.2.2.2.1 cW.2.2.2.2.2.2.2.2.2.2.2.2.1 cW.2.2.1 cW.2.2.2.1 cW.2.2.2.2.1 cW.2.2.2.2.2.1 cW.2.2.2.2.2.2.1 cW.2.2.2.2.2.2.2.2.2.2.2.2.2.1 cW.2.2.2.2.2.2.2.2.2.2.2.2.2.2.1 cW.2.2.2.2.2.2.2.2.2.2.2.2.2.2.2.1 cW.2.2.2.2.2.2.2.2.2.2.2.2.2.2.2.2).bind fun HH => Option.map Sum.inr (some (decide (HH.1 = 0)))) else (Option.map Sum.inr (some false))) else (if sr = true then (if tz = true then (some (.inl (true, true, jO .add rS (bW ig.toNat), aB (oH + 1)))) else (some (.inl (true, cv .neq (jO .sub (bW ig.toNat) (bW ig.toNat)) 0, jO .add rS (bW ig.toNat), aB (oH + 1))))) else (if tz = true then (some (.inl (cv .gtr (bW ig.toNat) 0, true, jO .add rS (bW ig.toNat), aB (oH + 1)))) else (some (.inl (cv .gtr (bW ig.toNat) 0, cv .neq (jO .sub (bW ig.toNat) (bW ig.toNat)) 0, jO .add rS (bW ig.toNat), aB (oH + 1)))))))) else (Option.map Sum.inr (if (!sr) = true then (if ((decide (cW.2.1 = 251)) && (decide (cW.1 = 0))) = true then ((ec cD.1 cD.2.1 cD.2.2.1 cD.2.2.2.1 cW.2.2.2.2.2.2.2.1 cW.2.2.2.2.2.2.2.2.1 cW.2.2.2.2.2.2.2.2.2.1 cW.2.2.2.2.2.2.2.2.2.2.1 cW.2.2.2.2.2.2.2.2.2.2.2.1 cW.2.2.2.2.2.2.2.2.2.2.2.2.1 cW.2.2.1 cW.2.2.2.1 cW.2.2.2.2.1 cW.2.2.2.2.2.1 cW.2.2.2.2.2.2.1 cW.2.2.2.2.2.2.2.2.2.2.2.2.2.1 cW.2.2.2.2.2.2.2.2.2.2.2.2.2.2.1 cW.2.2.2.2.2.2.2.2.2.2.2.2.2.2.2.1 cW.2.2.2.2.2.2.2.2.2.2.2.2.2.2.2.2).bind fun HI => some (decide (HI.1 = 0))) else (some false)) else (if (!tz) = true then (if (cv .neq (jO .sub rS rS) 0) = true then (if ((decide (cW.2.1 = 250)) && (decide (cW.1 = 0))) = true then ((ec cD.1 cD.2.1 cD.2.2.1 cD.2.2.2.1 cW.2.2.2.2.2.2.2.1 cW.2.2.2.2.2.2.2.2.1 cW.2.2.2.2.2.2.2.2.2.1 cW.2.2.2.2.2.2.2.2.2.2.1 cW.2.2.2.2.2.2.2.2.2.2.2.1 cW.2.2.2.2.2.2.2.2.2.2.2.2.1 cW.2.2.1 cW.2.2.2.1 cW.2.2.2.2.1 cW.2.2.2.2.2.1 cW.2.2.2.2.2.2.1 cW.2.2.2.2.2.2.2.2.2.2.2.2.2.1 cW.2.2.2.2.2.2.2.2.2.2.2.2.2.2.1 cW.2.2.2.2.2.2.2.2.2.2.2.2.2.2.2.1 cW.2.2.2.2.2.2.2.2.2.2.2.2.2.2.2.2).bind fun HJ => some (decide (HJ.1 = 0))) else (some false)) else (if (((decide (cW.2.1 = 0)) && (decide (0 ≤ cW.1))) && (decide (cW.1 < ((l.length : Nat) : Int)))) = true then ((aN l cW.1).bind fun kY => if (cv .gtr (bW kY.toNat) 0) = true then (if (!tz) = true then ((ec cD.1 cD.2.1 cD.2.2.1 cD.2.2.2.1 cW.2.2.2.2.2.2.2.1 cW.2.2.2.2.2.2.2.2.1 cW.2.2.2.2.2.2.2.2.2.1 cW.2.2.2.2.2.2.2.2.2.2.1 cW.2.2.2.2.2.2.2.2.2.2.2.1 cW.2.2.2.2.2.2.2.2.2.2.2.2.1 cW.2.2.1 cW.2.2.2.1 cW.2.2.2.2.1 cW.2.2.2.2.2.1 cW.2.2.2.2.2.2.1 cW.2.2.2.2.2.2.2.2.2.2.2.2.2.1 cW.2.2.2.2.2.2.2.2.2.2.2.2.2.2.1 cW.2.2.2.2.2.2.2.2.2.2.2.2.2.2.2.1 cW.2.2.2.2.2.2.2.2.2.2.2.2.2.2.2.2).bind fun HK => some (decide ((1 : UInt64) ≤ HK.1))) else ((aN l cW.1).bind fun ek => (aN l cW.1).bind fun qQ => if (cv .neq (jO .sub (bW ek.toNat) (bW qQ.toNat)) 0) = true then ((ec cD.1 cD.2.1 cD.2.2.1 cD.2.2.2.1 cW.2.2.2.2.2.2.2.1 cW.2.2.2.2.2.2.2.2.1 cW.2.2.2.2.2.2.2.2.2.1 cW.2.2.2.2.2.2.2.2.2.2.1 cW.2.2.2.2.2.2.2.2.2.2.2.1 cW.2.2.2.2.2.2.2.2.2.2.2.2.1 cW.2.2.1 cW.2.2.2.1 cW.2.2.2.2.1 cW.2.2.2.2.2.1 cW.2.2.2.2.2.2.1 cW.2.2.2.2.2.2.2.2.2.2.2.2.2.1 cW.2.2.2.2.2.2.2.2.2.2.2.2.2.2.1 cW.2.2.2.2.2.2.2.2.2.2.2.2.2.2.2.1 cW.2.2.2.2.2.2.2.2.2.2.2.2.2.2.2.2).bind fun HL => some (decide ((1 : UInt64) ≤ HL.1))) else (some false))) else (some false)) else (some false))) else (if (((decide (cW.2.1 = 0)) && (decide (0 ≤ cW.1))) && (decide (cW.1 < ((l.length : Nat) : Int)))) = true then ((aN l cW.1).bind fun rQ => if (cv .gtr (bW rQ.toNat) 0) = true then (if (!tz) = true then ((ec cD.1 cD.2.1 cD.2.2.1 cD.2.2.2.1 cW.2.2.2.2.2.2.2.1 cW.2.2.2.2.2.2.2.2.1 cW.2.2.2.2.2.2.2.2.2.1 cW.2.2.2.2.2.2.2.2.2.2.1 cW.2.2.2.2.2.2.2.2.2.2.2.1 cW.2.2.2.2.2.2.2.2.2.2.2.2.1 cW.2.2.1 cW.2.2.2.1 cW.2.2.2.2.1 cW.2.2.2.2.2.1 cW.2.2.2.2.2.2.1 cW.2.2.2.2.2.2.2.2.2.2.2.2.2.1 cW.2.2.2.2.2.2.2.2.2.2.2.2.2.2.1 cW.2.2.2.2.2.2.2.2.2.2.2.2.2.2.2.1 cW.2.2.2.2.2.2.2.2.2.2.2.2.2.2.2.2).bind fun HM => some (decide ((1 : UInt64) ≤ HM.1))) else ((aN l cW.1).bind fun tg => (aN l cW.1).bind fun qj => if (cv .neq (jO .sub (bW tg.toNat) (bW qj.toNat)) 0) = true then ((ec cD.1 cD.2.1 cD.2.2.1 cD.2.2.2.1 cW.2.2.2.2.2.2.2.1 cW.2.2.2.2.2.2.2.2.1 cW.2.2.2.2.2.2.2.2.2.1 cW.2.2.2.2.2.2.2.2.2.2.1 cW.2.2.2.2.2.2.2.2.2.2.2.1 cW.2.2.2.2.2.2.2.2.2.2.2.2.1 cW.2.2.1 cW.2.2.2.1 cW.2.2.2.2.1 cW.2.2.2.2.2.1 cW.2.2.2.2.2.2.1 cW.2.2.2.2.2.2.2.2.2.2.2.2.2.1 cW.2.2.2.2.2.2.2.2.2.2.2.2.2.2.1 cW.2.2.2.2.2.2.2.2.2.2.2.2.2.2.2.1 cW.2.2.2.2.2.2.2.2.2.2.2.2.2.2.2.2).bind fun HN => some (decide ((1 : UInt64) ≤ HN.1))) else (some false))) else (some false)) else (some false)))))
noncomputable def lq (fk : ae UInt8 8) (l : List UInt64) : Option Bool :=
  (mM).bind fun r_ => if (!r_) = true then (some false) else ((na fk.l).bind fun ah => (Sum.elim (fun bh => some false) (fun cD => (eK cD.1 cD.2.1 cD.2.2.1 cD.2.2.2.1 cD.2.2.2.2.1 cD.2.2.2.2.2.1 cD.2.2.2.2.2.2.1 cD.2.2.2.2.2.2.2.1 false (0 : UInt64) cD.2.2.2.2.2.2.2.2.1 cD.2.2.2.2.2.2.2.2.2.1 cD.2.2.2.2.2.2.2.2.2.2.1 cD.2.2.2.2.2.2.2.2.2.2.2.1 cD.2.2.2.2.2.2.2.2.2.2.2.2.1 (0 : UInt64) cD.2.2.2.2.2.2.2.2.2.2.2.2.2 (-1 : Int) l).bind fun fi => (Sum.elim (fun bH => if 4096 < ((l.length : Nat) : Int) then (some ((decide (bH.1 = 2)) && true)) else (bO (dz l cD bH) (false, false, 0, (0 : Int)))) (fun cW => if 4096 < ((l.length : Nat) : Int) then (some ((decide (cW.2.1 = 2)) && (decide (cW.1 = 0)))) else (bO (fH l cD cW) (false, false, 0, (0 : Int))))) fi)) ah)
end Go.Sx
