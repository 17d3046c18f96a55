import Derived.OpenShut
import Derived.ShutString
import Derived.ChangeOld
import Derived.Below
import Derived.JoinedCond
import Derived.MapKept
import Derived.Maps.RangeRun
import Derived.Sort.OwnSorted
import Derived.Sort.KeysCollected
import Derived.Shelf.Sort.Plain
import Derived.Shelf.Slices.In.SortNone
import Derived.Sort.OwnSortedInts
import Derived.Shelf.Strconv.Itoa3
import Derived.Laws.FloatArith
import Derived.Test.YtcpbhpebeoopkaaK1
namespace Go.Sx
open Go.RowKit
set_option linter.unusedSimpArgs false
set_option linter.unusedVariables false
def QF : Exit → Act → World → Prop := fun _ _ _ => False
section
variable {P : Program} {ops : Array Oper} {Ls : List Nat} {C : Nat → World → Prop}
def nx (Ls : List Nat) (p i : Nat) : Nat := if Ls.contains i then p + 1 else p
def JR (P : Program) (ops : Array Oper) (Ls : List Nat) (C : Nat → World → Prop) (Q : Act → World → Prop) : Nat → Nat → Array Bool → Act → World → Prop
  | 0, _, aK, a, w => Region.ready .any ops aK = [] ∧ Q a w
  | k + 1, p, aK, a, w => (Region.ready .any ops aK = [] → Q a w) ∧
      ∀ i ∈ Region.ready .any ops aK, wpOp P ops QF i (fun a' w' => C (nx Ls p i) w' ∧ JR P ops Ls C Q k (nx Ls p i) (aK.setIfInBounds i true) a' w') a w
theorem G8 {i : Nat} {a : Act} {w : World} {K : Act → World → Prop} {Q : Exit → Act → World → Prop} (h : wpOp P ops QF i K a w) : wpOp P ops Q i K a w := by
  unfold wpOp at *
  split
  · rename_i ho; simp only [ho] at h; exact h
  · rename_i o ho
    simp only [ho] at h
    split
    · rename_i hw
      rw [if_pos hw] at h
      rcases h with h | ⟨_, a', w', hf⟩
      · exact .inl (Oper.JE (fun _ _ _ hf => hf.elim) h)
      · exact hf.elim
    · rename_i hw
      rw [if_neg hw] at h
      exact h
theorem sS {Q : Act → World → Prop} {Q' : Exit → Act → World → Prop} (hq : ∀ a w, Q a w → Q' .normal a w) : ∀ (k p : Nat) (aK : Array Bool) (a : Act) (w : World), JR P ops Ls C Q k p aK a w → wpAny P .any ops Q' k aK a w
  | 0, _, _, _, _, h => ⟨h.1, hq _ _ h.2⟩
  | k + 1, _, _, _, _, h => ⟨fun h0 => hq _ _ (h.1 h0), fun i hi => wpOp_mono (fun a' w' h' => sS hq k _ _ a' w' h'.2) (G8 (h.2 i hi))⟩
def YC (P : Program) (ops : Array Oper) (C : World → Prop) (o : Oper) (v : Value) (a : Act) : Prop :=
  (Region.wanted o (yielded ops a.tmps) = true ∧ ∀ w, C w → (execOp a.eval o).run P w = .ok (.value v) w) ∨ (Region.wanted o (yielded ops a.tmps) = false ∧ v = undef)
theorem YC.op {D : World → Prop} {i : Nat} {o : Oper} {v : Value} {a : Act} {w : World} {Q : Exit → Act → World → Prop} (hi : ops[i]? = some o) (hy : YC P ops D o v a) (hw : D w) {K : Act → World → Prop} (h : K (a.put o.dst v) w) : wpOp P ops Q i K a w := by
  unfold wpOp
  simp only [hi]
  rcases hy with ⟨h1, h2⟩ | ⟨h1, rfl⟩
  · rw [if_pos h1]
    refine .inl ?_
    unfold Oper.wp
    rw [h2 w hw]
    exact h
  · rw [if_neg (by simp [h1])]
    exact h
theorem wpOp_put {D : World → Prop} {j : Nat} {oi oj : Oper} {v : Value} {w : World} (hj : ops[j]? = some oj) (Qx : oi.apart ops oj = true) (Qy : ∀ cs b, oi.op ≠ .select cs b) (Qz : ∀ cs b, oj.op ≠ .select cs b) {K : Act → World → Prop} {a : Act}
    (hy : YC P ops D oi v a) (h : wpOp P ops QF j K (a.put oi.dst v) w) : wpOp P ops QF j (fun a' w' => YC P ops D oi v a' ∧ K (a'.put oi.dst v) w') a w := by
  obtain ⟨h1, h2, h3⟩ := Oper.apart_spec Qx
  have lL : ∀ (u : Value), YC P ops D oi v (a.put oj.dst u) := fun u => by
    unfold YC at *
    rw [execOp_put oi Qy a oj.dst u h3, wanted_put oi a oj.dst u h3]
    exact hy
  have JS : ∀ (u : Value) (d : Deferred), YC P ops D oi v ({ a with defers := d :: a.defers }.put oj.dst u) := fun u d => by
    have h4 := lL u
    unfold YC at *
    have e1 : ({ a with defers := d :: a.defers } : Act).put oj.dst u = { a.put oj.dst u with defers := d :: a.defers } := by
      unfold Act.put; split <;> rfl
    rw [e1]
    exact h4
  unfold wpOp at *
  simp only [hj] at *
  rw [wanted_put oj a oi.dst v h1] at h
  split
  · rename_i hw
    rw [if_pos hw] at h
    rcases h with h | ⟨_, a', w', hf⟩
    · refine .inl ?_
      unfold Oper.wp at *
      rw [execOp_put oj Qz a oi.dst v h1] at h
      generalize (execOp a.eval oj).run P w = r at *
      cases r with
      | ok x w' =>
        cases x <;> simp only [Oper.upon] at h ⊢ <;> first | exact h.elim | skip
        case value u => exact ⟨lL u, by rw [← Act.put_comm a v u h2]; exact h⟩
        case skip => exact ⟨lL _, by rw [← Act.put_comm a v undef h2]; exact h⟩
        case defer d =>
          refine ⟨JS _ d, ?_⟩
          have e1 : (({ a with defers := d :: a.defers } : Act).put oj.dst undef).put oi.dst v = ({ a.put oi.dst v with defers := d :: (a.put oi.dst v).defers } : Act).put oj.dst undef := by
            rw [← Act.put_comm _ v undef h2]
            unfold Act.put; cases oi.dst <;> rfl
          rw [e1]; exact h
        case enter f args =>
          refine h.mono fun e O8 he => ?_
          cases e with
          | returned u => exact ⟨lL u, by rw [← Act.put_comm a v u h2]; exact he⟩
          | panicked c => exact he
          | outgrown => exact he
        case row row args =>
          refine h.mono fun u O8 he => ⟨lL u, by rw [← Act.put_comm a v u h2]; exact he⟩
      | halt x w' => cases x <;> simp only [Oper.upon] at h ⊢ <;> exact h
    · exact hf.elim
  · rename_i hw
    rw [if_neg hw] at h
    exact ⟨lL _, by rw [← Act.put_comm a v undef h2]; exact h⟩
def asks (ops : Array Oper) (j i : Nat) : Bool := match ops[j]? with
  | some o => o.after.any fun e => Region.binds .any e && e.on == i
  | none => false
def mn (ops : Array Oper) (QA : Nat → Bool) (j i : Nat) : Bool := asks ops j i || match ops[j]? with
  | some o => o.after.any fun e => Region.binds .any e && !QA e.on && asks ops e.on i
  | none => false
def ahead (ops : Array Oper) (Ls : List Nat) (aK : Array Bool) (i : Nat) : Nat := (Ls.filter fun j => !aK.getD j true && !mn ops (fun x => aK.getD x false) j i).length
theorem B4 {i j : Nat} {oj : Oper} (hj : ops[j]? = some oj) (D2 : ∀ e ∈ oj.after, Region.binds .any e = true → e.on ≠ i) : asks ops j i = false := by
  unfold asks
  rw [hj]
  simp only [Array.any_eq_false']
  intro e he
  have := D2 e he
  cases hb : Region.binds .any e with
  | false => simp
  | true => simpa using this hb
theorem uy {aK : Array Bool} {i j : Nat} (hj : j ∈ Region.ready .any ops aK) (hi : aK.getD i true = false) : mn ops (fun x => aK.getD x false) j i = false := by
  obtain ⟨D6, oj, I9, AB⟩ := mem_ready.1 hj
  have zA : aK.getD i false = false := by
    rcases Nat.lt_or_ge i aK.size with h' | h'
    · simp [h'] at hi ⊢; exact hi
    · simp [Array.getElem?_eq_none h']
  unfold mn
  rw [B4 I9 (fun e he hb heq => by have := AB e he hb; rw [heq, zA] at this; cases this), I9]
  simp only [Bool.false_or, Array.any_eq_false']
  intro e he
  cases hb : Region.binds .any e with
  | false => simp
  | true => simp only [AB e he hb]; simp
theorem uz {aK : Array Bool} {i j x : Nat} (hj : j ∈ Region.ready .any ops aK) (hi : aK.getD i true = false) (h : mn ops (fun x => aK.getD x false) x i = true) : mn ops (fun y => (aK.setIfInBounds j true).getD y false) x i = true := by
  have zI : asks ops j i = false := by
    have := uy hj hi
    unfold mn at this
    rw [Bool.or_eq_false_iff] at this
    exact this.1
  unfold mn at h ⊢
  rw [Bool.or_eq_true] at h ⊢
  rcases h with h | h
  · exact .inl h
  · refine .inr ?_
    cases ho : ops[x]? with
    | none => rw [ho] at h; cases h
    | some o =>
      rw [ho] at h
      simp only [Array.any_eq_true'] at h ⊢
      obtain ⟨e, he, hq⟩ := h
      refine ⟨e, he, ?_⟩
      simp only [Bool.and_eq_true, Bool.not_eq_true'] at hq ⊢
      obtain ⟨⟨h1, h2⟩, h3⟩ := hq
      refine ⟨⟨h1, ?_⟩, h3⟩
      by_cases Pf : j = e.on
      · rw [← Pf, zI] at h3; cases h3
      · rw [getD_set_ne false Pf]; exact h2
theorem B5 {aK : Array Bool} {i j : Nat} (hr : j ∈ Region.ready .any ops aK) (hi : aK.getD i true = false) : ahead ops Ls (aK.setIfInBounds j true) i ≤ ahead ops Ls aK i := by
  unfold ahead
  rw [← List.countP_eq_length_filter, ← List.countP_eq_length_filter]
  refine List.countP_mono_left fun x _ hx => ?_
  simp only [Bool.and_eq_true, Bool.not_eq_true'] at hx ⊢
  refine ⟨?_, ?_⟩
  · by_cases JT : j = x
    · subst JT
      have := hx.1
      rcases Nat.lt_or_ge j aK.size with h | h
      · simp [h] at this
      · simp [Array.getElem?_eq_none h] at this
    · rw [getD_set_ne true JT] at hx; exact hx.1
  · cases hq : mn ops (fun x => aK.getD x false) x i with
    | false => rfl
    | true => rw [uz hr hi hq] at hx; exact absurd hx.2 (by decide)
theorem B6 {aK : Array Bool} {i j : Nat} (hr : j ∈ Region.ready .any ops aK) (hi : aK.getD i true = false) (hj : Ls.contains j = true) (JU : aK.getD j true = false) : ahead ops Ls (aK.setIfInBounds j true) i + 1 ≤ ahead ops Ls aK i := by
  have QB := uy hr hi
  unfold ahead
  rw [← List.countP_eq_length_filter, ← List.countP_eq_length_filter]
  have key : ∀ l : List Nat, l.countP (fun x => !(aK.setIfInBounds j true).getD x true && !mn ops (fun y => (aK.setIfInBounds j true).getD y false) x i) ≤ l.countP (fun x => !aK.getD x true && !mn ops (fun y => aK.getD y false) x i) := fun l => by
    refine List.countP_mono_left fun x _ hx => ?_
    simp only [Bool.and_eq_true, Bool.not_eq_true'] at hx ⊢
    refine ⟨?_, ?_⟩
    · by_cases JT : j = x
      · subst JT; exact JU
      · rw [getD_set_ne true JT] at hx; exact hx.1
    · cases hq : mn ops (fun x => aK.getD x false) x i with
      | false => rfl
      | true => rw [uz hr hi hq] at hx; exact absurd hx.2 (by decide)
  have QC : (aK.setIfInBounds j true).getD j true = true := by
    rcases Nat.lt_or_ge j aK.size with h | h
    · simp [h]
    · simp [Array.getElem?_eq_none h]
  induction Ls with
  | nil => simp at hj
  | cons x l ih =>
    rw [List.countP_cons, List.countP_cons]
    by_cases hx : x = j
    · subst hx
      have := key l
      simp only [QC, JU, QB, Bool.not_true, Bool.false_and, Bool.not_false, Bool.and_self, if_true]
      simp only [Bool.false_eq_true, if_false]
      omega
    · have h1 : l.contains j = true := by
        simp only [List.contains_cons, Bool.or_eq_true, beq_iff_eq] at hj
        exact hj.resolve_left (fun e => hx e.symm)
      have := ih h1
      have hm : (if (!(aK.setIfInBounds j true).getD x true && !mn ops (fun y => (aK.setIfInBounds j true).getD y false) x i) = true then 1 else 0) ≤ (if (!aK.getD x true && !mn ops (fun y => aK.getD y false) x i) = true then 1 else 0) := by
        have := key [x]
        simpa [List.countP_cons] using this
      omega
theorem uA {Q : Act → World → Prop} {i m : Nat} {oi : Oper} {v : Value} (F5 : ∀ p q x, p ≤ q → C p x → C q x) (hi : ops[i]? = some oi) (Pg : Ls.contains i = false) (JV : ∀ (j : Nat) (o : Oper) cs b, ops[j]? = some o → o.op ≠ .select cs b) :
    ∀ (k p : Nat) (aK : Array Bool) (a : Act) (w : World), C p w → p + ahead ops Ls aK i ≤ m →
      (∀ j oj, ops[j]? = some oj → j ≠ i → aK.getD j true = false → (∀ e ∈ oj.after, Region.binds .any e = true → e.on ≠ i) → oi.apart ops oj = true) →
      i ∈ Region.ready .any ops aK → YC P ops (C m) oi v a →
      JR P ops Ls C Q k p (aK.setIfInBounds i true) (a.put oi.dst v) w → JR P ops Ls C Q (k + 1) p aK a w := by
  have Ph : ∀ p, nx Ls p i = p := fun p => by unfold nx; rw [Pg]; rfl
  intro k
  induction k with
  | zero =>
    intro p aK a w hw hm _ hr hy H
    refine ⟨fun h => (by rw [h] at hr; cases hr), fun j hj => ?_⟩
    by_cases zI : j = i
    · subst zI; rw [Ph]; exact hy.op hi (F5 p m w (by omega) hw) ⟨hw, H⟩
    · have := ready_mono hj zI
      rw [H.1] at this
      cases this
  | succ k ih =>
    intro p aK a w hw hm F6 hr hy H
    refine ⟨fun h => (by rw [h] at hr; cases hr), fun j hj => ?_⟩
    by_cases zI : j = i
    · subst zI; rw [Ph]; exact hy.op hi (F5 p m w (by omega) hw) ⟨hw, H⟩
    · have h1 := H.2 j (ready_mono hj zI)
      obtain ⟨D6, oj, I9, AB⟩ := mem_ready.1 hj
      have D2 : ∀ e ∈ oj.after, Region.binds .any e = true → e.on ≠ i := fun e he hb heq => by
        have h1 := AB e he hb
        have h0 := (mem_ready.1 hr).1
        rw [heq] at h1
        rcases Nat.lt_or_ge i aK.size with h' | h'
        · simp [h'] at h0 h1; rw [h0] at h1; cases h1
        · simp [Array.getElem?_eq_none h'] at h1
      have h2 := wpOp_put I9 (F6 j oj I9 zI D6 D2) (fun cs b => JV i oi cs b hi) (fun cs b => JV j oj cs b I9) hy h1
      have G9 : ∀ m om, ops[m]? = some om → m ≠ i → (aK.setIfInBounds j true).getD m true = false →
          (∀ e ∈ om.after, Region.binds .any e = true → e.on ≠ i) → oi.apart ops om = true := fun m om hm QD JU QE => by
        refine F6 m om hm QD ?_ QE
        by_cases Pj : j = m
        · subst Pj; exact D6
        · rw [getD_set_ne true Pj] at JU; exact JU
      have Ln : nx Ls p j + ahead ops Ls (aK.setIfInBounds j true) i ≤ m := by
        unfold nx
        split
        · rename_i hc
          have := B6 (ops := ops) (Ls := Ls) hj (mem_ready.1 hr).1 hc D6
          omega
        · have := B5 (ops := ops) (Ls := Ls) hj (mem_ready.1 hr).1
          omega
      refine wpOp_mono (fun a' w' h3 => ?_) h2
      obtain ⟨JW, Lo, h4⟩ := h3
      refine ⟨Lo, ih _ (aK.setIfInBounds j true) a' w' Lo Ln G9 (ready_mono hr (Ne.symm zI)) JW ?_⟩
      rw [Array.setIfInBounds_comm _ _ zI]
      exact h4
def cls : List (World → Prop) → Nat → World → Prop
  | [], _, _ => True
  | c :: _, 0, x => c x
  | _ :: cs, p + 1, x => cls cs p x
def tV : List (World → Prop) → Prop
  | c :: d :: cs => (∀ x, c x → d x) ∧ tV (d :: cs)
  | _ => True
theorem tV.step : ∀ (l : List (World → Prop)) (p : Nat) (x : World), tV l → cls l p x → cls l (p + 1) x
  | [], _, _, _, _ => trivial
  | [_], 0, _, _, _ => trivial
  | [_], _ + 1, _, _, _ => trivial
  | _ :: _ :: _, 0, x, h, hx => h.1 x hx
  | _ :: d :: cs, p + 1, x, h, hx => tV.step (d :: cs) p x h.2 hx
theorem tV.le {l : List (World → Prop)} (h : tV l) : ∀ p q x, p ≤ q → cls l p x → cls l q x := by
  intro p q x Mk hx
  obtain ⟨d, rfl⟩ := Nat.exists_eq_add_of_le Mk
  induction d with
  | zero => exact hx
  | succ d ih => exact tV.step l _ x h (ih (by omega))
inductive MT where
  | nil
  | q (i m : Nat) (r : MT)
  | op (i : Nat) (r : MT)
  | br (i j : Nat) (ri rj : MT)
def MT.depth : MT → Nat
  | .nil => 0
  | .q _ _ r => r.depth + 1
  | .op _ r => r.depth + 1
  | .br _ _ r _ => r.depth + 1
def MT.drop : Nat → MT → MT
  | k + 1, .q _ _ r => r.drop k
  | _, π => π
def sT (ops : Array Oper) (Ls : List Nat) : MT → Nat → Array Bool → Bool
  | .nil, _, aK => (Region.ready .any ops aK).isEmpty
  | .q i m π, p, aK => (Region.ready .any ops aK).contains i && Region.free .any ops aK i && !Ls.contains i && decide (p + ahead ops Ls aK i ≤ m) && sT ops Ls π p (aK.setIfInBounds i true)
  | .op i π, p, aK => Region.ready .any ops aK == [i] && sT ops Ls π (nx Ls p i) (aK.setIfInBounds i true)
  | .br i j ri rj, p, aK => Region.ready .any ops aK == [i, j] && rj.depth == ri.depth && sT ops Ls ri (nx Ls p i) (aK.setIfInBounds i true) && sT ops Ls rj (nx Ls p j) (aK.setIfInBounds j true)
def MX (P : Program) (n : Nat) (ops : Array Oper) (Ls : List Nat) (C : List (World → Prop)) (Q : Act → World → Prop) (π : MT) (p : Nat) (aK : Array Bool) (L : List En) (w : World) : Prop :=
  Region.noSelect ops = true → tV C → sT ops Ls π p aK = true → cls C p w → ∀ a, Fu n a L → JR P ops Ls (cls C) Q π.depth p aK a w
variable {C : List (World → Prop)}
theorem bC {n p : Nat} {Q : Act → World → Prop} {aK : Array Bool} {L : St} {w : World} (h : At n Q L w) : MX P n ops Ls C Q .nil p aK (Kn L) w :=
  fun _ _ hB _ a ha => ⟨by simpa [sT] using hB, h a ha⟩
def AD (ops : Array Oper) (m : Nat) : Nat → MT → Option (List Oper)
  | 0, _ => some []
  | k + 1, .q i m' r => if m' = m then match ops[i]?, AD ops m k r with
    | some o, some l => some (o :: l)
    | _, _ => none else none
  | _ + 1, _ => none
theorem AE {n p m : Nat} {Q : Act → World → Prop} {ss : List Nat} {w : World} {L' : List En} : ∀ (k : Nat) (π : MT) (l : List Oper) (aK : Array Bool) (L : List En) (os os' : List SV) (cs : List eT),
    AD ops m k π = some l → uw P n ops ss l L os = some (L', cs, os') → (∀ w, cls C m w → ∀ c ∈ cs, c w) → (∀ gY, MX P n ops Ls C Q (π.drop k) p gY L' w) → MX P n ops Ls C Q π p aK L w := by
  intro k
  induction k with
  | zero =>
    intro π l aK L os os' cs hq h hc hk
    simp only [AD, Option.some.injEq] at hq
    subst hq
    simp only [uw, Option.some.injEq, Prod.mk.injEq] at h
    obtain ⟨rfl, rfl, rfl⟩ := h
    have e : π.drop 0 = π := by cases π <;> rfl
    rw [e] at hk
    exact hk aK
  | succ k ih =>
    intro π l aK L os os' cs hq h hc hk
    cases π with
    | q i m' π =>
      simp only [AD] at hq
      split at hq
      · rename_i La
        subst La
        split at hq
        · rename_i o l' ho I1
          simp only [Option.some.injEq] at hq
          subst hq
          simp only [uw] at h
          split at h
          · rename_i L1 c1 wX h1
            split at h
            · rename_i L2 c2 I2 h2
              simp only [Option.some.injEq, Prod.mk.injEq] at h
              obtain ⟨rfl, rfl, rfl⟩ := h
              intro DM By hB hw a ha
              simp only [sT, Bool.and_eq_true, decide_eq_true_eq, Bool.not_eq_true'] at hB
              obtain ⟨⟨⟨⟨hr, hf⟩, Pl⟩, Pm⟩, hB⟩ := hB
              have B7 := ih π l' (aK.setIfInBounds i true) L1 wX _ c2 I1 h2 (fun w hw c rR => hc w hw c (List.mem_append_right _ rR)) hk DM By hB hw
              rcases qF ha h1 with ⟨Ml, v, dW, xb⟩ | ⟨Ml, xb⟩
              · exact uA By.le ho Pl (Region.noSelect_spec DM) _ p aK a w hw Pm (Region.free_spec ho hf) (by simpa using hr) (.inl ⟨Ml, fun w' Lo => dW w' fun c rR => hc w' Lo c (List.mem_append_left _ rR)⟩) (B7 _ xb)
              · exact uA By.le ho Pl (Region.noSelect_spec DM) _ p aK a w hw Pm (Region.free_spec ho hf) (by simpa using hr) (.inr ⟨Ml, rfl⟩) (B7 _ xb)
            · cases h
          · cases h
        · cases hq
      · cases hq
    | _ => cases hq
theorem Mm {n p : Nat} {Q : Act → World → Prop} {w : World} {π : MT} {aK : Array Bool} {L : St} (k m : Nat) (ss : List Nat) (os : List SV) (L' : St) (cs : List eT)
    (hs : ((AD ops m k π).bind fun l => uw P n ops ss l (Kn L) os).map (fun r => (L'.map fun e => (look r.1 e.1).map fun e => (e.g, e.x.val), r.2.1, r.2.2)) = some (L'.map fun p => some (none, p.2.val), cs, []))
    (hc : ∀ w, cls C m w → DX cs w) (h : ∀ gY, MX P n ops Ls C Q (π.drop k) p gY (Kn L') w) : MX P n ops Ls C Q π p aK (Kn L) w := by
  rw [Option.map_bind] at hs
  simp only [Option.bind_eq_some_iff] at hs
  obtain ⟨l, hl, hs⟩ := hs
  obtain ⟨Lc, he, hk⟩ := GN.lL (P := P) (n := n) (ops := ops) (ss := ss) (l := l) (L := L) (os := os) (L' := L') (cs := cs) hs
  refine AE k π l aK (Kn L) os [] cs hl he (fun w hw => pT (hc w hw)) fun gY => ?_
  intro DM By hB hw a ha
  exact h gY DM By hB hw a (hk a ha)
theorem bl {n p : Nat} {Q : Act → World → Prop} {w : World} {π : MT} {aK : Array Bool} {L : St} {i : Nat} {o : Oper} (hl : Ls.contains i = true) (ho : ops[i]? = some o)
    (h : ji P n ops L w o fun L' w' => cls C (p + 1) w' ∧ ∀ gY, MX P n ops Ls C Q π (p + 1) gY (Kn L') w') : MX P n ops Ls C Q (.op i π) p aK (Kn L) w := by
  intro DM By hB hw a ha
  have JX : nx Ls p i = p + 1 := by unfold nx; rw [if_pos hl]
  simp only [sT, Bool.and_eq_true, beq_iff_eq, JX] at hB
  obtain ⟨hr, hB⟩ := hB
  obtain ⟨h1, h2⟩ := h a ha
  refine ⟨fun h0 => (by rw [h0] at hr; cases hr), fun j hj => ?_⟩
  rw [hr] at hj
  simp only [List.mem_singleton] at hj
  subst hj
  unfold wpOp
  simp only [ho, JX]
  rw [if_pos h1]
  refine .inl (Oper.wp_mono ?_ h2)
  rintro a' w' ⟨L', hf, hc, hk⟩
  exact ⟨hc, hk _ DM By hB hc a' hf⟩
theorem F7 {n p : Nat} {Q : Act → World → Prop} {w : World} {πi πj : MT} {aK : Array Bool} {L : St} {i j : Nat} {oi oj : Oper} (QG : Ls.contains i = true) (QH : Ls.contains j = true) (hi : ops[i]? = some oi) (hj : ops[j]? = some oj)
    (h : ji P n ops L w oi fun L' w' => cls C (p + 1) w' ∧ ∀ gY, MX P n ops Ls C Q πi (p + 1) gY (Kn L') w')
    (h' : ji P n ops L w oj fun L' w' => cls C (p + 1) w' ∧ ∀ gY, MX P n ops Ls C Q πj (p + 1) gY (Kn L') w') : MX P n ops Ls C Q (.br i j πi πj) p aK (Kn L) w := by
  intro DM By hB hw a ha
  have JX : nx Ls p i = p + 1 := by unfold nx; rw [if_pos QG]
  have JY : nx Ls p j = p + 1 := by unfold nx; rw [if_pos QH]
  simp only [sT, Bool.and_eq_true, beq_iff_eq, JX, JY] at hB
  obtain ⟨⟨⟨hr, hd⟩, QI⟩, QJ⟩ := hB
  refine ⟨fun h0 => (by rw [h0] at hr; cases hr), fun k hk => ?_⟩
  rw [hr] at hk
  simp only [List.mem_cons, List.not_mem_nil, or_false] at hk
  rcases hk with rfl | rfl
  · obtain ⟨h1, h2⟩ := h a ha
    unfold wpOp
    simp only [hi, JX]
    rw [if_pos h1]
    refine .inl (Oper.wp_mono ?_ h2)
    rintro a' w' ⟨L', hf, hc, hk⟩
    exact ⟨hc, hk _ DM By QI hc a' hf⟩
  · obtain ⟨h1, h2⟩ := h' a ha
    unfold wpOp
    simp only [hj, JY]
    rw [if_pos h1]
    refine .inl (Oper.wp_mono ?_ h2)
    rintro a' w' ⟨L', hf, hc, hk⟩
    have := hk _ DM By QJ hc a' hf
    rw [hd] at this
    exact ⟨hc, this⟩
theorem JZ {n : Nat} {id : Nat} {l : List Oper} {Q : Exit → Act → World → Prop} {L : St} {w : World} (hm : P.follows .mixedOrders = true) (π : MT) (Ls : List Nat) (C : List (World → Prop))
    (hB : (Region.noSelect l.toArray, sT l.toArray Ls π 0 (Array.replicate l.length false), π.depth == l.length) = (true, true, true)) (By : tV C) (hC : cls C 0 (w.drewN 1)) (h : ∀ aK, MX P n l.toArray Ls C (Q .normal) π 0 aK (Kn L) (w.drewN 1)) :
    W P n (.region id l.toArray true) Q L w := by
  intro a ha
  simp only [Prod.mk.injEq, beq_iff_eq] at hB
  obtain ⟨h1, h2, h3⟩ := hB
  refine wp_region_any hm ?_
  have := h (Array.replicate l.length false) h1 By h2 hC a ha
  rw [h3] at this
  exact sS (fun _ _ hq => hq) _ _ _ _ _ (by rw [show l.toArray.size = l.length from by simp]; exact this)
end
end Go.Sx
namespace Go.Sx
open Go.RowKit
set_option linter.unusedSimpArgs false
set_option linter.unusedVariables false
variable {α β : Type}
instance {n : Nat} [Inhabited α] : Inhabited (ag α n) := ⟨ag.rep n default⟩
def ag.of [Inhabited α] (n : Nat) (l : List α) : ag α n := if h : l.length = n then ⟨l, h⟩ else ag.rep n default
theorem ag.G_ [Inhabited α] {n : Nat} {l : List α} (h : l.length = n) : (ag.of n l).l = l := by
  unfold ag.of
  rw [dif_pos h]
def D7 (xs : List α) (l : Int) (z : α) (b : Nat) : Option (List α) := if 0 ≤ l ∧ (xs.length + l.toNat) * b ≤ 140737488355328 then some (xs ++ List.replicate l.toNat z) else none
theorem AF {xs ys : List α} {l : Int} {z : α} {b : Nat} (h : D7 xs l z b = some ys) : 0 ≤ l ∧ (xs.length + l.toNat) * b ≤ 140737488355328 ∧ ys = xs ++ List.replicate l.toNat z := by
  unfold D7 at h
  split at h
  · rename_i hc
    simp only [Option.some.injEq] at h
    exact ⟨hc.1, hc.2, h.symm⟩
  · cases h
abbrev SV.ar (E : bx α) {n : Nat} (x : ag α n) : SV := .vec (n * E.sz) (E.vec x)
section
variable {P : Program} {n : Nat} {Q : Exit → Act → World → Prop} {ops : Array Oper} {L : St} {w w0 : World} {F O : Nat → Prop} {hs : List HP} {K : St → World → Prop}
theorem B8 {x : Code} (K : St → World → Prop) (h1 : W P n x (Exit.then (fun a w => ∃ L, Fu n a (Kn L) ∧ K L w) Q) L w) (h2 : ∀ L w, K L w → At n (Q .normal) L w) : W P n x Q L w := by
  intro a ha
  refine wp_mono (h1 a ha) ?_
  intro e a' w' hq
  cases e with
  | normal => obtain ⟨L', hf, hk⟩ := hq; exact h2 L' w' hk a' hf
  | _ => exact hq
theorem Rd.nil (E : bx α) (w : World) : Rd w none (E.all ([] : List α)) := ⟨fun h => absurd rfl h, fun _ _ _ h => by cases h⟩
theorem Ro.D8 (E : bx α) : Ro F w none (E.all ([] : List α)) := Ro.nil (A := none)
theorem Src.sl {E : bx α} {A : Option Addr} {xs : List α} {m c sz : Nat} (h : Rd w A (E.all xs)) (hn : xs.length = m) (hs : E.sz = sz) : Src P sz w (.slice A m c) m (E.all xs) :=
  Src.slice h (by rw [bx.bh, hn, hs])
theorem sd {xs ys : List α} {lo hi : Int} (h : rG xs lo hi = some ys) (h0 : lo = 0) : ys = xs.take ys.length := by
  obtain ⟨h1, h2, h3, h4⟩ := dE h
  have hl := fQ h
  rw [hl]
  subst h0
  rw [h4]
  simp
theorem F8 {E : bx α} {m : Nat} {x : ag α m} {i : Int} {y : α} {v : Value} (h : an x.l i = some y) (hv : (E.f y)[0]? = some v) : (0 ≤ i ∧ i < ((m : Nat) : Int)) ∧ (SV.cl [SV.ar E x])[i.toNat * E.sz]? = some v := by
  have h1 := fp h
  rw [x.h] at h1
  refine ⟨h1, ?_⟩
  rw [iS]
  have := E.xf (bn h).2 hv
  simp only [SV.cl, List.append_nil]
  show (E.all x.l)[i.toNat * E.sz]? = some v
  simpa using this
theorem Ha {E : bx α} {m : Nat} {x : ag α m} {i : Int} {y : α} {vs : List Value} (h : an x.l i = some y) (hv : E.f y = vs) : (0 ≤ i ∧ i < ((m : Nat) : Int)) ∧ ((SV.cl [SV.ar E x]).drop (i.toNat * E.sz)).take E.sz = vs := by
  have h1 := fp h
  rw [x.h] at h1
  refine ⟨h1, ?_⟩
  rw [iS, ← hv]
  simp only [SV.cl, List.append_nil]
  exact E.vw (bn h).2
theorem Hb {fn : Func} {R : Ending → World → Prop} (os : List SV) (xs : List SV) (cs : List eT) (hr : sI P fn.results.toList L os = some (xs, cs, [])) (hc : DX cs w) (h : R (.returned (xe xs).val) w) : At n (bodyPost P fn R .normal) L w :=
  BP (P := P) (fn := fn) os xs cs hr hc h
theorem F9 {E : bx α} {m : Nat} (x : ag α m) : SV.cl [SV.ar E x] = (eV E m).f x := by
  rw [iS]
  show E.all x.l ++ [] = E.all x.l
  rw [List.append_nil]
theorem Rd.QK {w : World} {A p : Option Addr} {E : bx α} {m : Nat} {xs : List (ag α m)} {i : Int} {x : ag α m} (h : Rd w A ((eV E m).all xs)) (hg : an xs i = some x) (hp : Pt A (i.toNat * (eV E m).sz + 0) p) (hm : 0 < (eV E m).sz) : ∃ a, p = some a ∧ Rd w (some a) (SV.cl [SV.ar E x]) := by
  rw [F9]
  refine h.JN hg hp ?_ hm (by omega)
  rw [List.drop_zero]
  have := (eV E m).len x
  rw [← this, List.take_length]
theorem B9 {E : bx α} {k m : Nat} {x : ag (ag α k) m} {i : Int} {y : ag α k} (h : an x.l i = some y) : (0 ≤ i ∧ i < ((m : Nat) : Int)) ∧ ((SV.cl [SV.ar (eV E k) x]).drop (i.toNat * (eV E k).sz)).take (eV E k).sz = SV.cl [SV.ar E y] :=
  Ha h (F9 y).symm
theorem Cx.Bz {t : TypeId} {g : Nat} {ys : List SV} (k : Cx F O w0 w hs) (i : Nat) (hi : hs[i]? = some (Bx t g ys)) (off : Nat) (v : SV) (h : (wZ off ys).map SV.val = some v.val) : ∃ a, some (⟨g, off, none⟩ : Addr) = some a ∧ w.cell? a = some v.val := by
  simp only [Option.map_eq_some_iff] at h
  obtain ⟨x, hx, he⟩ := h
  rw [← he]
  exact (k.pV i hi).FY (Pt.at g off) (sw hx).1
theorem Cx.Mn {t : TypeId} {g : Nat} {ys : List SV} (k : Cx F O w0 w hs) (i : Nat) (hi : hs[i]? = some (Bx t g ys)) (off m : Nat) (zs : List SV) (h : (sx off m ys).map SV.cl = some (SV.cl zs)) (hm : 0 < m) : ∃ a, some (⟨g, off, none⟩ : Addr) = some a ∧ Rd w (some a) (SV.cl zs) := by
  simp only [Option.map_eq_some_iff] at h
  obtain ⟨x, hx, he⟩ := h
  obtain ⟨e1, e2, e3⟩ := rz hx
  rw [← he, ← e1]
  exact (k.pV i hi).FZ (Pt.at g off) (by rw [bA]; exact e3) hm
theorem D9 {ty t : TypeId} {p x : Operand} {pos : String} {cv : Array Edge} {g : Option (Nat × Bool)} (ss : List Nat) (i : Nat) {pa : Option Addr} {sv : SV} {svs : List SV} {bt : TypeId} {b : Nat} {ys : List SV} (zs : List SV) {off : Nat}
    (aR : (jO ops ss L (⟨none, .store t p x, ty, pos, cv, g⟩ : Oper), (none : Option Nat), (toSS [p, x] (lk L)).map SV.ak, kO P t, kC sv, svs.all SV.tS) = (true, none, some [.pointer pa, sv.val], some (SV.width svs), some svs, true))
    (hp : Pt (some ⟨b, 0, none⟩) off pa) (k : Cx F O w0 w hs) (hi : hs[i]? = some (Bx bt b ys)) (hz : (BE off (SV.width svs) svs ys).map SV.cl = some (SV.cl zs))
    (hk : ∀ w', Cx F O w0 w' (hs.set i (Bx bt b zs)) → K L w') :
    ji P n ops L w ⟨none, .store t p x, ty, pos, cv, g⟩ K := by
  simp only [Option.map_eq_some_iff] at hz
  obtain ⟨SB, GG, he⟩ := hz
  obtain ⟨e1, e2, e3, e4⟩ := uq GG
  refine BY ss i zs aR hp k hi ?_ e4 hk
  rw [← he, e1]
  unfold pat
  rw [bA]
end
end Go.Sx
namespace Go.Sx
open Go.RowKit
set_option linter.unusedSimpArgs false
set_option linter.unusedVariables false
inductive Bl : St → St → Prop
  | a {l} : Bl l l
  | z {l} : Bl l []
  | k {x l l'} : Bl l l' → Bl (x :: l) (x :: l')
  | s {x l l'} : Bl l l' → Bl (x :: l) l'
  | n {l l'} (i : Nat) (v : SV) : Bl l l' → Bl l ((i, v) :: l')
theorem Bl.kk {x y l l'} (h : Bl l l') : Bl (x :: y :: l) (x :: y :: l') := .k (.k h)
theorem Bl.nJ {x y z l l'} (h : Bl l l') : Bl (x :: y :: z :: l) (x :: y :: z :: l') := .k (.kk h)
theorem Bl.bb {x y z u l l'} (h : Bl l l') : Bl (x :: y :: z :: u :: l) (x :: y :: z :: u :: l') := .kk (.kk h)
theorem Bl.ss {x y l l'} (h : Bl l l') : Bl (x :: y :: l) l' := .s (.s h)
theorem Bl.ib {x y z l l'} (h : Bl l l') : Bl (x :: y :: z :: l) l' := .s (.ss h)
theorem Bl.fi {x y z u l l'} (h : Bl l l') : Bl (x :: y :: z :: u :: l) l' := .ss (.ss h)
section
variable {α β σ ρ : Type} {P : Program} {n : Nat} {Q : Exit → Act → World → Prop} {ops : Array Oper} {L L' : St} {w w0 : World} {os : List SV} {cs : List eT} {F O : Nat → Prop} {hs : List HP}
structure Ask (os : List SV) (cs : List eT) (w : World) : Prop where
  h : DX cs w
def dp (p : Prop) : eT := fun _ => p
def dS (A : Option Addr) : eT := fun _ => A.isSome = true
def dI (i : Int) (n : Nat) (A : Option Addr) : eT := fun _ => 0 ≤ i ∧ i < (n : Int) ∧ A.isSome = true
def dC (p : Option Addr) (v : SV) : eT := fun w => ∃ a, p = some a ∧ w.cell? a = some v.val
def dR (p : Option Addr) (cs : List SV) : eT := fun w => ∃ a, p = some a ∧ Rd w (some a) (SV.cl cs)
theorem qe : Ask [] [] w := ⟨trivial⟩
theorem qo (v : SV) (r : Ask os cs w) : Ask (v :: os) cs w := ⟨r.h⟩
theorem qc (c : eT) (p : c w) (r : Ask os cs w) : Ask os (c :: cs) w := ⟨p, r.h⟩
theorem qp (p : Prop) (h : p) (r : Ask os cs w) : Ask os (dp p :: cs) w := ⟨h, r.h⟩
theorem qs (g off : Nat) (r : Ask os cs w) : Ask os (dS (some ⟨g, off, none⟩) :: cs) w := ⟨rfl, r.h⟩
theorem qS {A : Option Addr} (h : A.isSome = true) (r : Ask os cs w) : Ask os (dS A :: cs) w := ⟨h, r.h⟩
theorem qI {m : Nat} {v : ag α m} {i : Int} {x : α} (g off : Nat) (h : an v.l i = some x) (r : Ask os cs w) : Ask os (dI i m (some ⟨g, off, none⟩) :: cs) w :=
  ⟨⟨(fp h).1, by have := (fp h).2; have := v.h; omega, rfl⟩, r.h⟩
class Pos (E : bx α) : Prop where h : 0 < E.sz
instance : Pos e8 := ⟨by decide⟩
instance : Pos Qh := ⟨by decide⟩
instance : Pos bm := ⟨by decide⟩
instance : Pos bw := ⟨by decide⟩
instance : Pos eI := ⟨by decide⟩
instance : Pos eS := ⟨by decide⟩
instance : Pos eB := ⟨by decide⟩
instance {a : bx α} {b : bx β} [h : Pos a] : Pos (eP a b) := ⟨Nat.lt_of_lt_of_le h.h (Nat.le_add_right _ _)⟩
instance {E : bx α} {m : Nat} [h : Pos E] : Pos (eV E (m + 1)) := ⟨Nat.mul_pos (Nat.succ_pos m) h.h⟩
theorem qJ {E : bx α} [he : Pos E] {A : Option Addr} {xs : List α} {i : Int} {x : α} {m : Nat} (rd : Rd w A (E.all xs)) (h : an xs i = some x) (hl : xs.length = m) (r : Ask os cs w) : Ask os (dI i m A :: cs) w :=
  ⟨rd.ix h hl he.h, r.h⟩
theorem qC {p : Option Addr} (v : SV) (h : ∃ a, p = some a ∧ w.cell? a = some v.val) (r : Ask os cs w) : Ask (v :: os) (dC p v :: cs) w := ⟨h, r.h⟩
theorem qR {p : Option Addr} (zs : List SV) (h : ∃ a, p = some a ∧ Rd w (some a) (SV.cl zs)) (r : Ask os cs w) : Ask (.agg zs :: os) (dR p zs :: cs) w := ⟨h, r.h⟩
theorem qB {t : TypeId} {g : Nat} {ys : List SV} (k : Cx F O w0 w hs) (i : Nat) (hi : hs[i]? = some (Bx t g ys)) (off : Nat) (v : SV) (h : (wZ off ys).map SV.val = some v.val) (r : Ask os cs w) : Ask (v :: os) (dC (some ⟨g, off, none⟩) v :: cs) w := ⟨k.Bz i hi off v h, r.h⟩
theorem Cx.iw {t : TypeId} {g m : Nat} {ys : List SV} (k : Cx F O w0 w hs) (i : Nat) (hi : hs[i]? = some (Bx t g ys)) (E : bx α) (x : ag α m) (off : Nat) (hd : ((me off ys).bind List.head?).map (fun v => (v.pL, v.val)) = some (true, .agg ⟨E.all x.l⟩)) : Rd w (some ⟨g, off, none⟩) (E.all x.l) := (k.pV i hi).vec hd
theorem qV {E : bx α} {A : Option Addr} {m : Nat} {xs : ag α m} {i : Int} {x : α} (rd : Rd w A (E.all xs.l)) (h : an xs.l i = some x) (hA : A.isSome = true) (s : SV) (hs : E.f x = [s.val]) (r : Ask os cs w) : Ask (s :: os) (dI i m A :: dC (il A i E.sz) s :: cs) w :=
  ⟨⟨(fp h).1, by have := (fp h).2; have := xs.h; omega, hA⟩, rd.el h (k := 0) (Pt.oZ A i E.sz) (by rw [hs]; rfl), r.h⟩
theorem qW {E : bx α} [he : Pos E] {A : Option Addr} {xs : List α} {i : Int} {x : α} {m : Nat} (rd : Rd w A (E.all xs)) (h : an xs i = some x) (hl : xs.length = m) (s : SV) (hs : E.f x = [s.val]) (r : Ask os cs w) : Ask (s :: os) (dI i m A :: dC (il A i E.sz) s :: cs) w :=
  ⟨rd.ix h hl he.h, rd.el h (k := 0) (Pt.oZ A i E.sz) (by rw [hs]; rfl), r.h⟩
theorem qX {xs : List UInt8} {i : Int} {y : UInt8} (h : an xs i = some y) (r : Ask os cs w) : Ask (.u8 y :: os) (dp (0 ≤ i ∧ xs[i.toNat]? = some y) :: cs) w := ⟨bn h, r.h⟩
theorem qT {t : TypeId} {g : Nat} {ys : List SV} (k : Cx F O w0 w hs) (i : Nat) (hi : hs[i]? = some (Bx t g ys)) (off m : Nat) (zs : List SV) (h : (sx off m ys).map SV.cl = some (SV.cl zs)) (hm : 0 < m) (r : Ask os cs w) : Ask (.agg zs :: os) (dR (some ⟨g, off, none⟩) zs :: cs) w := ⟨k.Mn i hi off m zs h hm, r.h⟩
theorem aQ {l : List Oper} (k : Nat) (ss : List Nat) (b : Bl L L') (q : Ask os cs w) (hs : (uw P n ops ss (l.take k) (Kn L) os).map (fun r => (L'.map fun e => (look r.1 e.1).map fun e => (e.g, e.x.val), r.2.1, r.2.2)) = some (L'.map fun p => some (none, p.2.val), cs, [])) (h : WL P n ops Q (l.drop k) L' w) : WL P n ops Q l L w := GO k ss os L' cs hs q.h h
theorem aV {id : Nat} {l : List Oper} (ss : List Nat) (b : Bl L L') (q : Ask os cs w) (hs : (uw P n l.toArray ss l (Kn L) os).map (fun r => (L'.map fun e => (look r.1 e.1).map fun e => (e.g, e.x.val), r.2.1, r.2.2)) = some (L'.map fun p => some (none, p.2.val), cs, [])) (h : At n (Q .normal) L' w) : W P n (.region id l.toArray false) Q L w := DY ss os L' cs hs q.h h
theorem I_ {id : Nat} {l : List Oper} (hm : P.follows .mixedOrders = true) (hB : Region.lexB .any l.toArray = true) (b : Bl L L') (q : ∀ m, Ask os cs (w.drewN m)) (hs : (uw P n l.toArray [] l (Kn L) os).map (fun r => (L'.map fun e => (look r.1 e.1).map fun e => (e.g, e.x.val), r.2.1, r.2.2)) = some (L'.map fun p => some (none, p.2.val), cs, [])) (h : ∀ m, At n (Q .normal) L' (w.drewN m)) : W P n (.region id l.toArray true) Q L w := GQ hm os L' cs hB hs (fun m => (q m).h) h
theorem bo {p : Nat} {Ls : List Nat} {C : List (World → Prop)} {Q : Act → World → Prop} {π : MT} {aK : Array Bool} (k m : Nat) (ss : List Nat) (b : Bl L L') (q : ∀ w, cls C m w → Ask os cs w)
    (hs : ((AD ops m k π).bind fun l => uw P n ops ss l (Kn L) os).map (fun r => (L'.map fun e => (look r.1 e.1).map fun e => (e.g, e.x.val), r.2.1, r.2.2)) = some (L'.map fun p => some (none, p.2.val), cs, [])) (h : ∀ gY, MX P n ops Ls C Q (π.drop k) p gY (Kn L') w) : MX P n ops Ls C Q π p aK (Kn L) w := Mm k m ss os L' cs hs (fun w hw => (q w hw).h) h
theorem gK {Q : Exit → Act → World → Prop} {K : St → World → Prop} (h : K L' w) (hk : L'.map (fun p => (find L p.1).map SV.val) = L'.map (fun p => some p.2.val)) : At n (Exit.then (fun a w => ∃ L, Fu n a (Kn L) ∧ K L w) Q .normal) L w := oz L' hk (GU h)
theorem fO {Q : Exit → Act → World → Prop} {rel : σ → St → World → Prop} {y : σ ⊕ ρ} (s' : σ) (hy : y = .inl s') (h : rel s' L' w) (hk : L'.map (fun p => (find L p.1).map SV.val) = L'.map (fun p => some p.2.val)) : At n (Exit.then (fun a w => ∃ s' L', y = .inl s' ∧ Fu n a (Kn L') ∧ rel s' L' w) Q .normal) L w := oz L' hk (BR s' hy h)
theorem jQ {c : Code} (step : σ → Option (σ ⊕ ρ)) (rel : σ → St → World → Prop) (s0 : σ) (r : ρ) (hm : aP step s0 = some r) (h0 : rel s0 L' w0) (hk : L'.map (fun p => (find L p.1).map SV.val) = L'.map (fun p => some p.2.val))
    (hb : ∀ s L w y, rel s L w → step s = some y → (∀ r', y = .inr r' → r' = r) → W P n c (Exit.then (fun a w => ∃ s' L', y = .inl s' ∧ Fu n a (Kn L') ∧ rel s' L' w) Q) L w) : W P n (.loop c) Q L w0 := xd L' hk (GV step rel s0 r hm h0 hb)
theorem aH {fn : Func} {R : Ending → World → Prop} (xs : List SV) (q : Ask os cs w) (hr : sI P fn.results.toList L os = some (xs, cs, [])) (h : R (.returned (xe xs).val) w) : At n (bodyPost P fn R .ret) L w := BP os xs cs hr q.h h
theorem nk {fn : Func} {R : Ending → World → Prop} (xs : List SV) (q : Ask os cs w) (hr : sI P fn.results.toList L os = some (xs, cs, [])) (h : R (.returned (xe xs).val) w) : At n (bodyPost P fn R .normal) L w := Hb os xs cs hr q.h h
theorem uB {l : List Oper} (k : Nat) (c : Bool) (b : Bl L L') (hk : ((k, SV.b c) :: L').map (fun p => (find L p.1).map SV.val) = ((k, SV.b c) :: L').map (fun p => some p.2.val))
    (h1 : c = true → WL P n ops Q l ((k, .b true) :: L') w) (h2 : c = false → WL P n ops Q l ((k, .b false) :: L') w) : WL P n ops Q l L w := by
  have key : WL P n ops Q l ((k, SV.b c) :: L') w → WL P n ops Q l L w := fun h => oz (q := fun a w => wpList P ops Q l a w) ((k, SV.b c) :: L') hk h
  cases c with
  | true => exact key (h1 rfl)
  | false => exact key (h2 rfl)
theorem ob {a : Option α} {f : α → Option β} {r : β} (h : a.bind f = some r) : ∃ x, a = some x ∧ f x = some r := Option.bind_eq_some_iff.1 h
theorem nm {a : α} {f : α → Option β} {r : β} (h : (some a).bind f = some r) : ∃ x, a = x ∧ f x = some r := ⟨a, rfl, h⟩
inductive tO {β : Type} : List β → List β → Prop
  | e : tO [] []
  | z {l} : tO l []
  | k {x l l'} : tO l l' → tO (x :: l) (x :: l')
  | s {x l l'} : tO l l' → tO (x :: l) l'
theorem tO.kk {β : Type} {x y : β} {l l'} (h : tO l l') : tO (x :: y :: l) (x :: y :: l') := .k (.k h)
theorem tO.bb {β : Type} {x y z u : β} {l l'} (h : tO l l') : tO (x :: y :: z :: u :: l) (x :: y :: z :: u :: l') := .kk (.kk h)
theorem tO.ss {β : Type} {x y : β} {l l'} (h : tO l l') : tO (x :: y :: l) l' := .s (.s h)
theorem tO.fi {β : Type} {x y z u : β} {l l'} (h : tO l l') : tO (x :: y :: z :: u :: l) l' := .ss (.ss h)
inductive AG {β : Type} : List β → β → List β → Prop
  | h {x l} : AG (x :: l) x l
  | t {x y l l'} : AG l x l' → AG (y :: l) x (y :: l')
inductive rI {β : Type} : List β → List β → List β → Prop
  | e : rI [] [] []
  | i {x l a b} : rI l a b → rI (x :: l) (x :: a) b
  | r {x l a b} : rI l a b → rI (x :: l) a (x :: b)
inductive App {β : Type} : List β → List β → List β → Prop
  | n {l} : App [] l l
  | c {x a b l} : App a b l → App (x :: a) b (x :: l)
theorem App.eq {β : Type} {a b l : List β} (h : App a b l) : l = a ++ b := by induction h <;> simp_all
theorem rI.perm {β : Type} {l a b : List β} (h : rI l a b) : l.Perm (a ++ b) := by
  induction h with
  | e => exact .nil
  | i _ ih => exact .cons _ ih
  | r _ ih => exact (List.Perm.cons _ ih).trans (List.perm_middle.symm)
theorem AG.perm {β : Type} {x : β} {l l' : List β} (h : AG l x l') : l.Perm (x :: l') := by
  induction h with
  | h => exact .refl _
  | t _ ih => exact (List.Perm.cons _ ih).trans (.swap _ _ _)
theorem Sep.perm {w : World} {a b : List HP} (h : a.Perm b) : ∀ {U V : Nat → Prop}, Sep w a U V → Sep w b U V := by
  induction h with
  | nil => exact fun h => h
  | cons x _ ih =>
    rintro U V ⟨S, R, U', V', h1, h2, h3⟩
    exact ⟨S, R, U', V', h1, ih h2, h3⟩
  | swap x y l =>
    intro U V h
    exact Sep.cut (i := 1) (h := x) rfl h
  | trans _ _ Mo Mq => exact fun h => Mq (Mo h)
theorem Cx.perm {a b : List HP} (k : Cx F O w0 w a) (h : a.Perm b) : Cx F O w0 w b := by
  obtain ⟨U, V, h1, h2, h3⟩ := k.sep
  exact ⟨k.os, k.tape, k.output, k.size, k.block, k.fin, k.qG, U, V, Sep.perm h h1, h2, h3⟩
theorem Cx.tl {x : HP} (k : Cx F O w0 w (x :: hs)) : Cx F O w0 w hs := k.drop 0
theorem tO.sub {a b : List HP} (h : tO a b) : ∃ c, a.Perm (c ++ b) := by
  induction h with
  | e => exact ⟨[], .refl _⟩
  | z => rename_i l; exact ⟨l, by rw [List.append_nil]⟩
  | k _ ih => obtain ⟨c, hc⟩ := ih; exact ⟨c, (List.Perm.cons _ hc).trans List.perm_middle.symm⟩
  | s _ ih => rename_i x _ _ _; obtain ⟨c, hc⟩ := ih; exact ⟨x :: c, .cons _ hc⟩
theorem Cx.J0 {a b : List HP} (k : Cx F O w0 w (a ++ b)) : Cx F O w0 w b := by
  induction a with
  | nil => exact k
  | cons x l ih => exact ih k.tl
theorem Cx.ba {pf : List HP} (k : Cx F O w0 w hs) (h : tO hs pf) : Cx F O w0 w pf := by
  obtain ⟨c, hc⟩ := h.sub
  exact (k.perm hc).J0
theorem Cx.pk {x : HP} {pf : List HP} (k : Cx F O w0 w hs) (h : AG hs x pf) : Cx F O w0 w (x :: pf) := k.perm h.perm
theorem Cx.go {ins rest : List HP} (k : Cx F O w0 w hs) (p : rI hs ins rest) : ∃ F1 O1 : Nat → Prop, Cx F1 O1 w w ins ∧ (∀ b, O b → O1 b) ∧ (∀ (i : Nat) (h : HP), rest[i]? = some h → ∃ S R, h.p w S R ∧ (∀ b, R b → O1 b) ∧ ∀ b, S b → ¬ F1 b) ∧ (∀ b, F1 b → F b ∨ w0.heap.size ≤ b) ∧
    ∀ w' outs all, Cx F1 O1 w w' outs → App outs rest all → Cx F O w0 w' all := by
  obtain ⟨F1, O1, h1, h2, h3, h4, h5⟩ := (k.perm p.perm).enter
  exact ⟨F1, O1, h1, h2, h3, h4, fun w' outs all hk ha => ha.eq ▸ h5 w' outs hk⟩
inductive uC (F O : Nat → Prop) (w0 : World) : List HP → List (World → Prop) → Prop
  | l {h : List HP} : uC F O w0 h [fun x => Cx F O w0 x h]
  | c {h h' : List HP} {C : List (World → Prop)} : tO h h' → uC F O w0 h' C → uC F O w0 h ((fun x => Cx F O w0 x h) :: C)
theorem uC.spec {hs : List HP} {C : List (World → Prop)} (h : uC F O w0 hs C) : tV C ∧ ∀ w, cls C 0 w ↔ Cx F O w0 w hs := by
  induction h with
  | l => exact ⟨trivial, fun w => Iff.rfl⟩
  | c h1 hc ih =>
    cases hc with
    | l => exact ⟨⟨fun x hx => Cx.ba hx h1, trivial⟩, fun w => Iff.rfl⟩
    | c h2 h3 => exact ⟨⟨fun x hx => Cx.ba hx h1, ih.1⟩, fun w => Iff.rfl⟩
theorem lJ {id : Nat} {l : List Oper} {C : List (World → Prop)} (hm : P.follows .mixedOrders = true) (π : MT) (Ls : List Nat) (k : Cx F O w0 (w.drewN 1) hs) (ch : uC F O w0 hs C)
    (hB : (Region.noSelect l.toArray, sT l.toArray Ls π 0 (Array.replicate l.length false), π.depth == l.length) = (true, true, true)) (h : ∀ aK, MX P n l.toArray Ls C (Q .normal) π 0 aK (Kn L) (w.drewN 1)) :
    W P n (.region id l.toArray true) Q L w := JZ hm π Ls C hB ch.spec.1 ((ch.spec.2 _).2 k) h
inductive zJ : List SV → List SV → List SV → Prop
  | k {s y ys zs} : zJ s ys zs → zJ s (y :: ys) (y :: zs)
  | h {s y ys} : zJ [s] (y :: ys) (s :: ys)
  | h2 {s t y u ys} : zJ [s, t] (y :: u :: ys) (s :: t :: ys)
  | h3 {s t r y u v ys} : zJ [s, t, r] (y :: u :: v :: ys) (s :: t :: r :: ys)
  | h4 {s t r q y u v x ys} : zJ [s, t, r, q] (y :: u :: v :: x :: ys) (s :: t :: r :: q :: ys)
  | all {s ys} : zJ s ys s
theorem zJ.kk {s y u ys zs} (h : zJ s ys zs) : zJ s (y :: u :: ys) (y :: u :: zs) := .k (.k h)
theorem zJ.bb {s y u v x ys zs} (h : zJ s ys zs) : zJ s (y :: u :: v :: x :: ys) (y :: u :: v :: x :: zs) := .kk (.kk h)
theorem cE {K : St → World → Prop} {ty t : TypeId} {p x : Operand} {pos : String} {cv : Array Edge} {g : Option (Nat × Bool)} (ss : List Nat) (i : Nat) {pa : Option Addr} (sv : SV) (svs : List SV) {bt : TypeId} {b : Nat} {ys zs : List SV} {off : Nat}
    (hp : Pt (some ⟨b, 0, none⟩) off pa) (k : Cx F O w0 w hs) (hi : hs[i]? = some (Bx bt b ys)) (md : zJ svs ys zs)
    (aR : (jO ops ss L (⟨none, .store t p x, ty, pos, cv, g⟩ : Oper), (none : Option Nat), (toSS [p, x] (lk L)).map SV.ak, kO P t, kC sv, svs.all SV.tS) = (true, none, some [.pointer pa, sv.val], some (SV.width svs), some svs, true))
    (hz : (BE off (SV.width svs) svs ys).map SV.cl = some (SV.cl zs))
    (hk : ∀ w', Cx F O w0 w' (hs.set i (Bx bt b zs)) → K L w') :
    ji P n ops L w ⟨none, .store t p x, ty, pos, cv, g⟩ K := D9 ss i zs aR hp k hi hz hk
inductive Ja : List SV → bx α → {m : Nat} → ag α m → ag α m → Nat → List SV → Prop
  | h {E : bx α} {m : Nat} {x y : ag α m} {ys} : Ja (.ar E x :: ys) E x y 0 (.ar E y :: ys)
  | t {E : bx α} {m o : Nat} {x y : ag α m} {u ys zs} : Ja ys E x y o zs → Ja (u :: ys) E x y (SV.width [u] + o) (u :: zs)
theorem Ja.split {E : bx α} {m o : Nat} {x y : ag α m} {ys zs : List SV} (h : Ja ys E x y o zs) : ∃ pre post, ys = pre ++ .ar E x :: post ∧ zs = pre ++ .ar E y :: post ∧ o = SV.width pre := by
  induction h with
  | h => exact ⟨[], _, rfl, rfl, rfl⟩
  | t _ ih =>
    obtain ⟨p, q, rfl, rfl, rfl⟩ := ih
    exact ⟨_ :: p, q, rfl, rfl, (oA [_] p).symm⟩
theorem fC {K : St → World → Prop} {ty t : TypeId} {p x : Operand} {pos : String} {cv : Array Edge} {g : Option (Nat × Bool)} {E : bx α} (ss : List Nat) (i : Nat) {pa : Option Addr} (sv : SV) (svs : List SV) {bt : TypeId} {b : Nat} {m o o' : Nat} {x0 x1 : ag α m} {ys zs : List SV} {j : Int} {e0 y : α} {kk : Nat}
    (hv : da x0 j y = x1) (hx : an x0.l j = some e0) (hp : Pt (some ⟨b, 0, none⟩) (o' + (j.toNat * E.sz + kk)) pa) (k : Cx F O w0 w hs) (hi : hs[i]? = some (Bx bt b ys)) (vu : Ja ys E x0 x1 o zs) (hy : E.f y = pat (E.f e0) kk (SV.cl svs))
    (aR : (jO ops ss L (⟨none, .store t p x, ty, pos, cv, g⟩ : Oper), (none : Option Nat), (toSS [p, x] (lk L)).map SV.ak, kO P t, kC sv, svs.all SV.tS, o') = (true, none, some [.pointer pa, sv.val], some (SV.width svs), some svs, true, o))
    (hl : Nat.ble (kk + SV.width svs) E.sz = true)
    (hk : ∀ w', Cx F O w0 w' (hs.set i (Bx bt b zs)) → K L w') :
    ji P n ops L w ⟨none, .store t p x, ty, pos, cv, g⟩ K := by
  obtain ⟨pre, post, rfl, rfl, rfl⟩ := vu.split
  simp only [Prod.mk.injEq] at aR
  obtain ⟨s1, s2, s3, s4, s5, s6, rfl⟩ := aR
  subst hv
  exact G7 (E := E) (kk := kk) (sv := sv) (svs := svs) ss i pre post x0 y (by rw [s1, s3, s4, s5, s6]) hp k hi hx hy (Nat.le_of_ble_eq_true hl) hk
end
end Go.Sx
namespace Go.Sx
open Go.RowKit
set_option linter.unusedSimpArgs false
set_option linter.unusedVariables false
variable {α β : Type}
abbrev Hd := Option Addr × Nat × Nat
def eH : bx Hd := ⟨1, fun h => [.slice h.1 h.2.1 h.2.2], fun _ => rfl, fun x v h => by rw [List.mem_singleton.1 h]; rfl⟩
instance : Pos eH := ⟨by decide⟩
def rows (E : bx α) : List Hd → List (List α) → List HP
  | h :: hs, x :: xs => Ow E h.1 h.2.1 h.2.2 x :: rows E hs xs
  | _, _ => []
theorem B_ {E : bx α} {hd : List Hd} {jI : List (List α)} {i : Nat} {h : Hd} {x : List α} (h1 : hd[i]? = some h) (h2 : jI[i]? = some x) : (rows E hd jI)[i]? = some (Ow E h.1 h.2.1 h.2.2 x) := by
  induction hd generalizing jI i with
  | nil => cases h1
  | cons a az ih =>
    cases jI with
    | nil => cases h2
    | cons b bs =>
      cases i with
      | zero =>
        simp only [List.getElem?_cons_zero, Option.some.injEq] at h1 h2
        subst h1; subst h2; rfl
      | succ i =>
        simp only [List.getElem?_cons_succ] at h1 h2
        exact ih h1 h2
theorem xk {E : bx α} : ∀ (hd uD : List Hd) (jI rT : List (List α)), hd.length = jI.length → rows E (hd ++ uD) (jI ++ rT) = rows E hd jI ++ rows E uD rT
  | [], uD, [], rT, _ => rfl
  | [], _, _ :: _, _, h => by cases h
  | _ :: _, _, [], _, h => by cases h
  | a :: az, uD, b :: bs, rT, hl => by
    simp only [List.length_cons, Nat.add_right_cancel_iff] at hl
    simp only [List.cons_append, rows, xk az uD bs rT hl]
def Pk (q : Prop) (l : List HP) : HP where
  p w S R := q ∧ Sep w l S R
  loc := by
    rintro w w' S R ⟨h0, h⟩ hk
    exact ⟨h0, h.lL hk⟩
def O2 (E : bx α) (A : Option Addr) (n c : Nat) (hd : List Hd) (jI : List (List α)) : HP := Pk (hd.length = jI.length) (Ow eH A n c hd :: rows E hd jI)
section
variable {F O : Nat → Prop} {w0 w w' : World} {hs rest : List HP}
theorem sU {β : Type} {l : List β} {i : Nat} {x : β} (h : l[i]? = some x) : l.Perm (x :: l.eraseIdx i) := by
  induction l generalizing i with
  | nil => cases h
  | cons y l ih =>
    cases i with
    | zero =>
      simp only [List.getElem?_cons_zero, Option.some.injEq] at h
      subst h
      exact .refl _
    | succ i =>
      simp only [List.getElem?_cons_succ] at h
      simp only [List.eraseIdx_cons_succ]
      exact (List.Perm.cons _ (ih h)).trans (.swap _ _ _)
theorem Ca {β : Type} {l : List β} {i : Nat} (x : β) (h : i < l.length) : (x :: l.eraseIdx i).Perm (l.set i x) := by
  have h1 : (l.set i x)[i]? = some x := by simp [h]
  have h2 := sU h1
  rw [List.eraseIdx_set_eq] at h2
  exact h2.symm
theorem Cx.D_ {q : Prop} {l : List HP} (k : Cx F O w0 w (Pk q l :: rest)) : q ∧ Cx F O w0 w (l ++ rest) := by
  obtain ⟨U, V, ⟨S, R, U', V', ⟨hq, h1⟩, h2, h3, h4, h5, h6⟩, hU, hV⟩ := k.sep
  refine ⟨hq, k.os, k.tape, k.output, k.size, k.block, k.fin, k.qG, _, _, Sep.join h1 h2 (fun b hb => ⟨(h5 b hb).1, (h5 b hb).2.2⟩) h6, fun b hb => hU b ((h3 b).2 hb), fun b hb => hV b ((h4 b).2 hb)⟩
theorem Cx.Ea {q : Prop} {l : List HP} (hq : q) (k : Cx F O w0 w (l ++ rest)) : Cx F O w0 w (Pk q l :: rest) := by
  obtain ⟨U, V, h, hU, hV⟩ := k.sep
  obtain ⟨U1, V1, U2, V2, e1, e2, e3, e4, e5, e6⟩ := Sep.split h
  refine ⟨k.os, k.tape, k.output, k.size, k.block, k.fin, k.qG, U, V, ⟨U1, V1, U2, V2, ⟨hq, e1⟩, e2, e3, e4, fun b hb => ⟨(e5 b hb).1, fun hr => Sep.apart e1 b hb hr, (e5 b hb).2⟩, e6⟩, hU, hV⟩
theorem O2.parts {E : bx α} {A : Option Addr} {n c : Nat} {hd : List Hd} {jI : List (List α)} {S R : Nat → Prop} (h : (O2 E A n c hd jI).p w S R) :
    hd.length = jI.length ∧ (∃ S' R', (Ow eH A n c hd).p w S' R' ∧ ∀ b, S' b → S b) ∧ ∀ (j : Nat) (h : Hd) (x : List α), hd[j]? = some h → jI[j]? = some x → ∃ S' R', (Ow E h.1 h.2.1 h.2.2 x).p w S' R' ∧ ∀ b, S' b → S b := by
  obtain ⟨hl, hS⟩ := h
  refine ⟨hl, ?_, fun j h x h1 h2 => ?_⟩
  · obtain ⟨S', R', U', V', e1, e2, e3, _⟩ := Sep.cut (i := 0) rfl hS
    exact ⟨S', R', e1, fun b hb => (e3 b).2 (.inl hb)⟩
  · obtain ⟨S', R', U', V', e1, e2, e3, _⟩ := Sep.cut (i := j + 1) (by rw [List.getElem?_cons_succ]; exact B_ h1 h2) hS
    exact ⟨S', R', e1, fun b hb => (e3 b).2 (.inl hb)⟩
theorem Cx.uD {E : bx α} {A : Option Addr} {n c : Nat} {hd : List Hd} {jI : List (List α)} (k : Cx F O w0 w hs) (i : Nat) (hi : hs[i]? = some (O2 E A n c hd jI)) : Rd w A (eH.all hd) := by
  obtain ⟨S, R, h⟩ := k.get i hi
  obtain ⟨_, ⟨S', R', h1, _⟩, _⟩ := O2.parts h
  exact Ow.D0 h1
theorem Cx.xn {E : bx α} {A : Option Addr} {n c : Nat} {hd : List Hd} {jI : List (List α)} (k : Cx F O w0 w hs) (i : Nat) (hi : hs[i]? = some (O2 E A n c hd jI)) : jI.length = n := by
  obtain ⟨S, R, h⟩ := k.get i hi
  obtain ⟨hl, ⟨S', R', h1, _⟩, _⟩ := O2.parts h
  rw [← hl]; exact h1.1
theorem Cx.rJ {E : bx α} {A : Option Addr} {n c : Nat} {hd : List Hd} {jI : List (List α)} (k : Cx F O w0 w hs) (i : Nat) (hi : hs[i]? = some (O2 E A n c hd jI)) : hd.length = n := by
  obtain ⟨S, R, h⟩ := k.get i hi
  obtain ⟨hl, ⟨S', R', h1, _⟩, _⟩ := O2.parts h
  exact h1.1
theorem Ow.Hc {E : bx α} {A : Option Addr} {n c : Nat} {xs : List α} {S R : Nat → Prop} (h : (Ow E A n c xs).p w S R) : n ≤ c := by
  rcases h.2 with ⟨_, h1, h2⟩ | ⟨g, t, cur, _, _, h3, _⟩ <;> omega
theorem Cx.QL {E : bx α} {A : Option Addr} {n c : Nat} {hd : List Hd} {jI : List (List α)} {j : Int} {x : List α} (k : Cx F O w0 w hs) (i : Nat) (hi : hs[i]? = some (O2 E A n c hd jI)) (hx : an jI j = some x) : ∃ B d, an hd j = some (B, x.length, d) ∧ x.length ≤ d := by
  obtain ⟨S, R, h⟩ := k.get i hi
  obtain ⟨hl, _, h2⟩ := O2.parts h
  obtain ⟨h0, h1⟩ := bn hx
  have eN := (List.getElem?_eq_some_iff.1 h1).1
  have hh : hd[j.toNat]? = some (hd[j.toNat]'(hl ▸ eN)) := List.getElem?_eq_getElem _
  obtain ⟨S', R', hp, _⟩ := h2 _ _ _ hh h1
  refine ⟨(hd[j.toNat]'(hl ▸ eN)).1, (hd[j.toNat]'(hl ▸ eN)).2.2, ?_, ?_⟩
  · unfold an
    rw [if_pos h0, hh, hp.1]
  · rw [hp.1]; exact Ow.Hc hp
theorem lS {β : Type} {l : List β} {j : Int} {x : β} (h : an l j = some x) : l[j.toNat]? = some x := (bn h).2
theorem Cx.QM {E : bx α} {A : Option Addr} {n c m : Nat} {hd : List Hd} {jI : List (List α)} {j : Int} {x : List α} {B : Option Addr} {d : Nat} (k : Cx F O w0 w hs) (i : Nat) (hi : hs[i]? = some (O2 E A n c hd jI)) (hx : an jI j = some x) (hh : an hd j = some (B, m, d)) : Rd w B (E.all x) := by
  obtain ⟨S, R, h⟩ := k.get i hi
  obtain ⟨hl, _, h2⟩ := O2.parts h
  obtain ⟨S', R', hp, _⟩ := h2 _ _ _ (lS hh) (lS hx)
  exact Ow.D0 hp
theorem Cx.J1 (k : Cx F O w0 w hs) (E : bx α) : Cx F O w0 w (hs ++ [O2 E Option.none 0 0 [] []]) := by
  have k1 := k.nil eH
  have k2 : Cx F O w0 w (([Ow eH Option.none 0 0 []] : List HP) ++ hs) := k1.perm List.perm_append_comm
  have k3 := Cx.Ea (q := ([] : List Hd).length = ([] : List (List α)).length) rfl k2
  exact k3.perm (List.perm_append_comm (l₁ := [_]))
end
section
variable {F O F1 O1 : Nat → Prop} {w0 w w' : World} {hs rest : List HP} {E : bx α} {A : Option Addr} {hd : List Hd} {jI : List (List α)}
theorem Cb {n c : Nat} {xs : List α} {S R : Nat → Prop} (h : (Ow E A n c xs).p w S R) (hS : ∀ b, S b → ¬ F1 b) : Ro F1 w A (E.all xs) := by
  refine ⟨Ow.D0 h, fun _ a ha => ?_⟩
  rcases h.2 with ⟨h1, _⟩ | ⟨g, t, cur, h1, _, _, _, _, _, h7⟩
  · rw [h1] at ha; cases ha
  · rw [h1] at ha
    simp only [Option.some.injEq] at ha
    subst ha
    exact hS g h7
end
section
variable {P : Program} {n : Nat} {ops : Array Oper} {L : St} {w w0 : World} {F O : Nat → Prop} {hs rest : List HP} {K : St → World → Prop}
theorem He {dst : Option Nat} {t ty : TypeId} {len : Nat} {parts : Array (Nat × Operand)} {pos : String} {cv : Array Edge} {g : Option (Nat × Bool)} {e : TypeId} {zs : List Value} {bytes : Nat} (tf : TF P t e zs bytes)
    (E : bx α) (ss : List Nat) (d : Nat) (hd : List Hd) (jI : List (List α)) (ps : List (Nat × SV)) (svs : List SV)
    (aR : (jO ops ss L ⟨dst, .buildSlice t len parts, ty, pos, cv, g⟩, dst, (decide (d < n)), (L.any fun p => p.1 == d), (toPS parts.toList (lk L)).map (·.map fun p => (p.1, p.2.val))) = (true, some d, true, false, some (ps.map fun p => (p.1, p.2.val))))
    (hf : (rD (fun i => some (i * zs.length, zs.length)) ((List.replicate len zs).flatten.map pM) ps, decide (len * zs.length ≤ 16777216), hd.length, eH.sz) = (some svs, true, len, zs.length)) (hx : SV.cl svs = eH.all hd) (hl : hd.length = jI.length)
    (k : Cx F O w0 w (rows E hd jI ++ rest)) (hk : ∀ A w', Cx F O w0 w' (O2 E A len len hd jI :: rest) → K ((d, .v (.slice A len len)) :: L) w') :
    ji P n ops L w ⟨dst, .buildSlice t len parts, ty, pos, cv, g⟩ K := by
  refine lQ tf eH ss d hd ps svs aR hf hx k fun A w' k' => hk A w' (Cx.Ea hl (k'.perm ?_))
  exact (List.perm_append_comm (l₂ := [_])).trans (List.Perm.refl _)
theorem yO {dst : Option Nat} {x y : Operand} {t t2 ty : TypeId} {pos : String} {cv : Array Edge} {g : Option (Nat × Bool)} {e : TypeId} {zs : List Value} {bytes : Nat} (tf : TF P t e zs bytes)
    {E : bx α} (ss : List Nat) (d : Nat) {A A2 : Option Addr} {n1 n2 c c2 : Nat} {hd uD : List Hd} {jI rT : List (List α)}
    (aR : (jO ops ss L ⟨dst, .call ⟨.builtin .append, #[x, y], #[t, t2]⟩, ty, pos, cv, g⟩, dst, (decide (d < n)), (L.any fun p => p.1 == d), (toSS [x, y] (lk L)).map SV.ak, (match P.underlying t2 with | some (.slice _) => true | some .string => true | _ => false), 1) = (true, some d, true, false, some [.slice A n1 c, .slice A2 n2 c2], true, zs.length))
    (k : Cx F O w0 w (O2 E A n1 c hd jI :: O2 E A2 n2 c2 uD rT :: rest)) (j8 : (n1 + n2) * bytes ≤ 140737488355328)
    (hk : ∀ A' c' w', Cx F O w0 w' (O2 E A' (n1 + n2) c' (hd ++ uD) (jI ++ rT) :: rest) → K ((d, .v (.slice A' (n1 + n2) c')) :: L) w') :
    ji P n ops L w ⟨dst, .call ⟨.builtin .append, #[x, y], #[t, t2]⟩, ty, pos, cv, g⟩ K := by
  have sG : uD.length = n2 := k.rJ 1 rfl
  have Jb := k.uD 1 rfl
  obtain ⟨hl, k1⟩ := k.D_
  have k2 : Cx F O w0 w (O2 E A2 n2 c2 uD rT :: ((Ow eH A n1 c hd :: rows E hd jI) ++ rest)) := k1.perm (by simp only [List.cons_append]; exact List.perm_middle (l₁ := _ :: _))
  obtain ⟨I1, k3⟩ := k2.D_
  have hz : (1 : Nat) = zs.length := by simp only [Prod.mk.injEq] at aR; exact aR.2.2.2.2.2.2
  have k4 : Cx F O w0 w (Ow eH A n1 c hd :: (Ow eH A2 n2 c2 uD :: (rows E uD rT ++ (rows E hd jI ++ rest)))) := k3.perm (by
    simp only [List.cons_append]
    exact (List.Perm.cons _ List.perm_middle).trans (.swap _ _ _))
  refine dq (E := eH) (v := .v (.slice A2 n2 c2)) (ys := uD) tf ss d 0 aR k4 rfl (Src.sl Jb sG hz) sG j8 fun A' c' w' k' => hk A' c' w' ?_
  have k5 : Cx F O w0 w' (Ow eH A' (n1 + n2) c' (hd ++ uD) :: (rows E uD rT ++ (rows E hd jI ++ rest))) := (k'.perm (.swap _ _ _)).tl
  refine Cx.Ea (by simp [hl, I1]) (k5.perm ?_)
  rw [xk hd uD jI rT hl]
  simp only [List.cons_append, List.append_assoc]
  refine .cons _ ?_
  rw [← List.append_assoc, ← List.append_assoc]
  exact List.Perm.append_right rest List.perm_append_comm
end
section
variable {P : Program} {n : Nat} {Q : Act → World → Prop} {ops : Array Oper} {Ls : List Nat} {C : List (World → Prop)} {L L' : St} {w : World} {π : MT} {p : Nat}
end
end Go.Sx
namespace Go.Sx
open Go.ChangeShapes Go.WideShapes Go.ChangeAt Go.RowKit
set_option linter.unusedSimpArgs false
set_option linter.unusedVariables false
variable {α σ ρ : Type}
theorem cw {n : Int} (h : -9223372036854775808 ≤ n ∧ n < 9223372036854775808) : aA n = n := by
  simp only [aA, IntKind.wrap, IntKind.signed, IntKind.bits, reduceIte]
  simp only [show (2 : Int) ^ 64 = 18446744073709551616 from rfl, show (2 : Int) ^ 63 = 9223372036854775808 from rfl, show (2 : Nat) ^ 64 = 18446744073709551616 from rfl, show (2 : Nat) ^ 63 = 9223372036854775808 from rfl, show (64 - 1 : Nat) = 63 from rfl]
  first | omega | (simp; omega)
theorem fJ {xs ys : List α} {b : Nat} (h : (xs.length + ys.length) * b ≤ 140737488355328) : app xs ys b = some (xs ++ ys) := by
  unfold app; rw [if_pos h]
theorem iE {p : Prop} [Decidable p] (h : p) : la p = some () := by
  unfold la; rw [if_pos h]
theorem kD {xs : List α} {lo hi : Int} (h : 0 ≤ lo ∧ lo ≤ hi ∧ hi ≤ xs.length) : rG xs lo hi = some ((xs.take hi.toNat).drop lo.toNat) := by
  unfold rG; rw [if_pos h]
theorem sV {f : σ → Option (σ ⊕ ρ)} (P : Nat → σ → Prop) (Q : ρ → Prop) (n : Nat)
    (h : ∀ i s, P i s → (i < n ∧ ∃ s', f s = some (.inl s') ∧ P (i + 1) s') ∨ ∃ r, f s = some (.inr r) ∧ Q r) :
    ∀ s, P 0 s → ∃ r, aP f s = some r ∧ Q r := by
  have key : ∀ k i s, n - i ≤ k → P i s → ∃ r, aP f s = some r ∧ Q r := by
    intro k
    induction k with
    | zero =>
      intro i s hk hp
      rcases h i s hp with ⟨hi, _⟩ | ⟨r, hr, hq⟩
      · omega
      · exact ⟨r, j6 hr, hq⟩
    | succ k ih =>
      intro i s hk hp
      rcases h i s hp with ⟨hi, s', pf, Lp⟩ | ⟨r, hr, hq⟩
      · rw [lP pf]
        exact ih (i + 1) s' (by omega) Lp
      · exact ⟨r, j6 hr, hq⟩
  exact fun s hp => key n 0 s (by omega) hp
theorem gZ {f : σ → Option (σ ⊕ ρ)} (P : Nat → σ → Prop) (r : ρ) (n : Nat) (s : σ) (h0 : P 0 s)
    (h : ∀ i s, P i s → (i < n ∧ ∃ s', f s = some (.inl s') ∧ P (i + 1) s') ∨ f s = some (.inr r)) : aP f s = some r := by
  obtain ⟨r', h1, rfl⟩ := sV P (fun r' => r' = r) n (fun i s hp => (h i s hp).imp id fun e => ⟨r, e, rfl⟩) s h0
  exact h1
theorem bY {f : σ → Option (σ ⊕ ρ)} (s : Nat → σ) (n : Nat) {r : ρ} (h : ∀ i, i < n → f (s i) = some (.inl (s (i + 1)))) (he : f (s n) = some (.inr r)) : aP f (s 0) = some r :=
  gZ (fun i x => x = s i ∧ i ≤ n) r n (s 0) ⟨rfl, by omega⟩ (by
    rintro i x ⟨rfl, hi⟩
    by_cases eN : i < n
    · exact .inl ⟨eN, _, h i eN, rfl, by omega⟩
    · obtain rfl : i = n := by omega
      exact .inr he)
def Cc (k : IntKind) (w : World) (a : Option Addr) (len cap : Nat) (zs : List Int) : Prop :=
  (a = none ∧ len = 0 ∧ cap = 0 ∧ zs = []) ∨
  ∃ x, a = some x ∧ len ≤ cap ∧ cap ≤ maxLen ∧ zs.length = cap ∧ (∀ i, i < zs.length → w.cell? (x.add i) = some (.int k (zs.getD i 0))) ∧ ∀ n ∈ zs, (Lit.int k n).wf = true
theorem wf_u8 {n : Int} (h : (Lit.int .u8 n).wf = true) : 0 ≤ n ∧ n ≤ 255 := by
  simpa [Lit.wf, IntKind.min, IntKind.max, IntKind.signed, IntKind.bits] using h
theorem Cd {n : Int} (h : (Lit.int .u8 n).wf = true) : ∃ x : UInt8, Value.int .u8 n = SV.val (.u8 x) := by
  have := wf_u8 h
  refine ⟨UInt8.ofNat n.toNat, ?_⟩
  simp only [SV.val, Value.int.injEq, true_and]
  simp; omega
theorem Ce {k : IntKind} {β : Type} {φ : β → Value} {w : World} {a : Option Addr} {len cap : Nat} {zs : List Int} (h : Cc k w a len cap zs)
    (hg : ∀ n : Int, (Lit.int k n).wf = true → ∃ x : β, Value.int k n = φ x) : ∃ b : List β, Rd w a (b.map φ) ∧ b.length = len ∧ len ≤ cap := by
  rcases h with ⟨rfl, rfl, rfl, rfl⟩ | ⟨x, rfl, hl, hm, hz, hc, hw⟩
  · exact ⟨[], ⟨fun h => absurd rfl h, fun _ _ _ h => by cases h⟩, rfl, by omega⟩
  · have key : ∀ zs : List Int, (∀ n ∈ zs, (Lit.int k n).wf = true) → ∃ b : List β, b.length = zs.length ∧ ∀ (i : Nat) (n : Int), zs[i]? = some n → ∃ y : β, b[i]? = some y ∧ Value.int k n = φ y := by
      intro zs
      induction zs with
      | nil => intro _; exact ⟨[], rfl, fun i n h => by simp at h⟩
      | cons z zs ih =>
        intro hw
        obtain ⟨b, hb, hi⟩ := ih fun n hn => hw n (List.mem_cons_of_mem _ hn)
        obtain ⟨y, hy⟩ := hg z (hw z List.mem_cons_self)
        refine ⟨y :: b, by simp [hb], fun i n Cf => ?_⟩
        cases i with
        | zero => simp at Cf; subst Cf; exact ⟨y, by simp, hy⟩
        | succ i => simp at Cf; obtain ⟨y', h1, h2⟩ := hi i n Cf; exact ⟨y', by simpa using h1, h2⟩
    obtain ⟨b, hb, hi⟩ := key zs hw
    refine ⟨b.take len, ⟨fun _ => ⟨x, rfl⟩, fun a j u ha hu => ?_⟩, by simp; omega, hl⟩
    cases ha
    rw [List.map_take, List.getElem?_take] at hu
    split at hu
    · rename_i hj
      have Mr : j < zs.length := by omega
      obtain ⟨y, h1, h2⟩ := hi j zs[j] (by simp [Mr])
      rw [List.getElem?_map, h1] at hu
      simp only [Option.map_some, Option.some.injEq] at hu
      rw [hc j Mr, ← hu, ← h2]
      simp [Mr]
    · cases hu
theorem Hf {w : World} {a : Option Addr} {len cap : Nat} {zs : List Int} (h : Cc .u8 w a len cap zs) : ∃ b : List UInt8, Rd w a (b.map bV) ∧ b.length = len ∧ len ≤ cap :=
  Ce h fun n hn => by obtain ⟨x, hx⟩ := Cd hn; exact ⟨x, hx⟩
theorem Ec (s : ByteArray) : ∃ l : List UInt8, Value.string s = SV.val (.s l) ∧ l.length = s.size := by
  obtain ⟨⟨l⟩⟩ := s
  exact ⟨l, rfl, rfl⟩
section
variable {H : Type} {enc : TypeId × Value → H} {P : Program} {w : World} {held : Bool}
theorem Cg {t e : TypeId} {k : IntKind} {fuel : Nat} {cs : List Value} {x : DataW H × List MemPlace} (ht : P.underlying t = some (.slice e)) (he : P.underlying e = some (.int k)) (hc : P.cellsOf e = 1)
    (h : DataW.trod enc P w 0 (fun _ => true) held fuel t cs = some x) :
    ∃ a len cap zs, cs = [.slice a len cap] ∧ Cc k w a len cap zs ∧ (len = 0 ∨ (x.1 = .slice (lits k (zs.take len)) (lits k (zs.drop len)) ∧ len ≤ zs.length)) := by
  rcases open_ints ht he hc h with ⟨rfl, _⟩ | ⟨x', l, c, zs, rfl, _, hl, hm, hz, QN, BV, QO⟩
  · exact ⟨none, 0, 0, [], rfl, .inl ⟨rfl, rfl, rfl, rfl⟩, .inl rfl⟩
  · simp only [if_true] at hz
    refine ⟨some x', l, c, zs, rfl, .inr ⟨_, rfl, hl, hm, by simpa using hz, BV, QO⟩, .inr ⟨by rw [QN], by omega⟩⟩
theorem Ci {t : TypeId} {fs : Array Field} {fuel : Nat} {cs : List Value} {x : DataW H × List MemPlace} (ht : P.underlying t = some (.struct fs)) (h : DataW.trod enc P w 0 (fun _ => true) held fuel t cs = some x) :
    ∃ (xs : List (DataW H × List MemPlace)) (n : Nat), x.1 = .agg (xs.map (·.1)) ∧ cs.length = P.cellsOf t ∧ ∀ (i : Nat) (f : Field) (ft : TypeId) (off len : Nat), fs[i]? = some f → f.type = ft → f.offset = off → P.cellsOf ft = len →
      ∃ y, y.1 ∈ xs.map (·.1) ∧ DataW.trod enc P w 0 (fun _ => true) held n ft ((cs.drop off).take len) = some y := by
  obtain ⟨xs, n, _, rfl, hl, hlen, hf⟩ := DataW.trod_struct ht h
  refine ⟨xs, n, rfl, hl, ?_⟩
  rintro i f ft off len hi rfl rfl rfl
  have eN : i < xs.length := by
    rw [hlen]
    have := (Array.getElem?_eq_some_iff.1 hi).1
    exact this
  refine ⟨xs[i], List.mem_map.2 ⟨xs[i], List.getElem_mem eN, rfl⟩, ?_⟩
  rw [hf i f hi]
  simp [eN]
end
theorem Cj (cs : List Value) (off n J2 : Nat) (h : off + n = J2) : cs.drop off = (cs.drop off).take n ++ cs.drop J2 := by
  subst h
  rw [← List.drop_drop, List.take_append_drop]
theorem Ed (cs : List Value) (n m : Nat) (h : cs.length = n) (hm : n = m) : cs.drop m = [] := by
  subst hm; subst h; simp
end Go.Sx
namespace Go.Sx
open Go.RowKit Go.ChangeShapes Go.WideShapes Go.ChangeAt
set_option linter.unusedSimpArgs false
set_option linter.unusedVariables false
section
variable {P : Program} {n : Nat} {ops : Array Oper} {L : St} {w : World} {K : St → World → Prop}
end
section
variable {α : Type} {F O : Nat → Prop} {w0 w : World} {hs : List HP}
end
section
variable {α : Type} {F O : Nat → Prop} {w0 w : World} {hs rest : List HP} {E : bx α} {A : Option Addr} {n c m : Nat} {hd : List Hd} {jI : List (List α)}
end
theorem xo {P : Program} {w : World} {g : Nat} {cur : Array Value} {t : TypeId} (h : Rw w g cur t) : ∃ w', (markStringish ⟨g, 0, Option.none⟩).run P w = .ok () w' ∧ Rw w' g cur t ∧ w.grownBy w' (some g) ∧ w'.heap.size = w.heap.size := by
  obtain ⟨⟨lo, hi⟩, h, hn⟩ := h
  have QP : w.shape? g = some (t, cur.size) := by simp [World.shape?, h]
  refine ⟨w.freeze { block := g, off := cur.size } 1, ?_, ⟨if lo == hi then (cur.size, cur.size + 1) else (min lo cur.size, max hi (cur.size + 1)), ?_, ?_⟩, ⟨rfl, rfl, rfl, by simp [World.freeze], fun k hk gf => ?_⟩, by simp [World.freeze]⟩
  · simp [markStringish, shape, Sem.run, QP, freeze]
  · simp [World.freeze, Array.getElem?_modify, h]
  · unfold NF at *
    split
    · exact .inr (Nat.le_refl _)
    · rename_i gf
      right
      have Ms : lo ≠ hi := by simpa using gf
      rcases hn with h1 | h1
      · exact absurd h1.symm Ms
      · simp only at h1 ⊢; omega
  · have : ¬ g = k := fun e => gf (by rw [e])
    simp [World.freeze, Array.getElem?_modify, this]
section
variable {P : Program} {n : Nat} {ops : Array Oper} {L : St} {w w0 : World} {F O : Nat → Prop} {hs : List HP} {K : St → World → Prop}
theorem F_ {dst : Option Nat} {x : Operand} {t ty : TypeId} {pos : String} {cv : Array Edge} {g : Option (Nat × Bool)} (e : TypeId) (ss : List Nat) (d i : Nat) {A : Option Addr} {n1 c : Nat} {xs : List UInt8}
    (aR : (jO ops ss L ⟨dst, .convert t t x, ty, pos, cv, g⟩, dst, (decide (d < n)), (L.any fun p => p.1 == d), (toSS [x] (lk L)).map SV.ak, P.underlying t, P.underlying e) = (true, some d, true, false, some [.slice A n1 c], some (.slice e), some (.int .u8)))
    (k : Cx F O w0 w hs) (hi : hs[i]? = some (Ow e8 A n1 c xs)) (hn : 0 < n1) (hk : ∀ w', Cx F O w0 w' (hs.set i (Ow e8 A n1 c xs)) → K ((d, .v (.slice A n1 c)) :: L) w') :
    ji P n ops L w ⟨dst, .convert t t x, ty, pos, cv, g⟩ K := by
  simp only [Prod.mk.injEq, Option.map_eq_some_iff, decide_eq_true_eq] at aR
  obtain ⟨s1, rfl, s3, s4, ⟨svs, s5, s6⟩, h1, h2⟩ := aR
  refine iy (xs := [x]) (svs := svs) ss (d := d) (by simp [k8, s1, s3, s4, s5]) fun a ha he => ?_
  rw [s6] at he
  simp only [List.map_cons, List.map_nil, List.cons.injEq, and_true] at he
  obtain ⟨S, R, hS⟩ := k.get i hi
  rcases hS.2 with ⟨_, h0, _⟩ | ⟨g', t', cur, rfl, hr, B7⟩
  · omega
  obtain ⟨w', Pn, Po, QQ, QR⟩ := xo (P := P) hr
  have dW : (execOp a.eval ⟨some d, .convert t t x, ty, pos, cv, g⟩).run P w = .ok (.value (.slice (some ⟨g', 0, Option.none⟩) n1 c)) w' := by
    unfold execOp
    simp only [he, convert, Sem.run_bind, run_underlying h1, run_underlying h2, Result.andThen_ok, beq_self_eq_true, Pn, Sem.run_pure]
  unfold Oper.wp
  rw [dW]
  refine ⟨.v (.slice (some ⟨g', 0, Option.none⟩) n1 c), rfl, hk w' ?_⟩
  refine k.vv i hi (some g') QQ fun S R hS eN => ?_
  rcases hS.2 with ⟨h0, _⟩ | ⟨g2, t2, Ee, e1, DT, Ck⟩
  · cases h0
  · simp only [Option.some.injEq, Addr.mk.injEq, and_true] at e1
    subst e1
    obtain ⟨w2, Hg, Mt, _, _⟩ := xo (P := P) DT
    rw [Pn] at Hg
    simp only [Result.ok.injEq, true_and] at Hg
    subst Hg
    refine ⟨fun g3 hg => (by simp only [Option.some.injEq] at hg; subst hg; exact Ck.2.2.2.2), S, fun _ => False, ⟨hS.1, .inr ⟨g', t2, Ee, rfl, Mt, Ck⟩⟩, fun b hb => ⟨by rw [QR]; exact eN b hb, .inl hb⟩, fun _ h => h⟩
end
section
variable {P : Program} {n : Nat} {Q : Exit → Act → World → Prop} {L L' : St} {w : World} {c : Code}
end
section
variable {P : Program} {n : Nat} {ops : Array Oper} {L : St} {w : World} {K : St → World → Prop}
end
section
variable {P : Program} {n : Nat} {ops : Array Oper} {L : St} {w : World} {K : St → World → Prop}
end
def eQ : bx (Option Addr) := ⟨1, fun a => [.pointer a], fun _ => rfl, fun x v h => by rw [List.mem_singleton.1 h]; rfl⟩
instance : Pos eQ := ⟨by decide⟩
theorem Cl {β : Type} {Q : Nat → β → Prop} : ∀ (n : Nat), (∀ i, i < n → ∃ y, Q i y) → ∃ l : List β, l.length = n ∧ ∀ (i : Nat) (y : β), l[i]? = some y → Q i y
  | 0, _ => ⟨[], rfl, fun i y h => by cases h⟩
  | n + 1, h => by
    obtain ⟨l, hl, hQ⟩ := Cl n fun i hi => h i (by omega)
    obtain ⟨y, hy⟩ := h n (by omega)
    refine ⟨l ++ [y], by simp [hl], fun i z hz => ?_⟩
    rw [List.getElem?_append] at hz
    split at hz
    · exact hQ i z hz
    · have hi : i = n := by
        have := (List.getElem?_eq_some_iff.1 hz).1
        simp at this
        omega
      subst hi
      rw [hl] at hz
      simp at hz
      subst hz
      exact hy
def Mu : List (List UInt8) → Nat
  | [] => 0
  | x :: xs => x.length + 1 + Mu xs
section
variable {H : Type} {enc : TypeId × Value → H} {P : Program} {w : World} {held : Bool}
def Pp : List (DataW H) → List (List UInt8) → Prop
  | [], [] => True
  | d :: ds, x :: xs => (x = [] ∨ ∃ zs : List Int, d = .slice (lits .u8 (zs.take x.length)) (lits .u8 (zs.drop x.length)) ∧ x.length ≤ zs.length) ∧ Pp ds xs
  | _, _ => False
end
section
variable {ops : Array Oper} {Ls : List Nat}
end
end Go.Sx
namespace Go.Sx
open Go.RowKit Go.MapKept
set_option linter.unusedSimpArgs false
set_option linter.unusedVariables false
def kV (k : List UInt8) : Value := .string ⟨⟨k⟩⟩
theorem pn {a b : List UInt8} (h : kV a = kV b) : a = b := by
  unfold kV at h
  simp only [Value.string.injEq, ByteArray.mk.injEq, Array.mk.injEq] at h
  exact h
def Mb (b : Nat) (ks : List (List UInt8)) (vs : List Value) : HP where
  p w S R := ks.length = vs.length ∧ (∃ (es : Array MapEntry) (clock : Nat), w.heap[b]? = some (.map es clock) ∧ es.toList.map (·.key) = ks.map kV ∧ es.toList.map (·.val) = vs ∧ Stamped es clock) ∧ S b
  loc := by
    rintro w w' S R ⟨h0, ⟨es, clock, h1, h2⟩, h3⟩ hk
    exact ⟨h0, ⟨es, clock, by rw [hk b (.inl h3)]; exact h1, h2⟩, h3⟩
def kK (ks : List (List UInt8)) (k : List UInt8) : Option Nat := match ks with
  | [] => none
  | x :: r => if x = k then some 0 else (kK r k).map (· + 1)
theorem mR {ks : List (List UInt8)} {k : List UInt8} : kK ks k = none ↔ k ∉ ks := by
  induction ks with
  | nil => simp [kK]
  | cons x r ih =>
    unfold kK
    by_cases h : x = k
    · subst h; simp
    · rw [if_neg h]
      simp only [Option.map_eq_none_iff, ih, List.mem_cons, not_or]
      exact ⟨fun hr => ⟨fun e => h e.symm, hr⟩, fun hr => hr.2⟩
theorem sW {ks : List (List UInt8)} {k : List UInt8} {j : Nat} (h : kK ks k = some j) : ks[j]? = some k := by
  induction ks generalizing j with
  | nil => cases h
  | cons x r ih =>
    unfold kK at h
    by_cases hx : x = k
    · rw [if_pos hx] at h
      obtain rfl := Option.some.inj h
      simp [hx]
    · rw [if_neg hx, Option.map_eq_some_iff] at h
      obtain ⟨i, hi, rfl⟩ := h
      simpa using ih hi
theorem xp {d : TypeDesc} (hd : d = .string) {es : Array MapEntry} {ks : List (List UInt8)} {k : List UInt8} (hk : es.toList.map (·.key) = ks.map kV) (hn : (es.toList.map (·.key)).Nodup) :
    (kK ks k = none ∧ Instr.findNow d (kV k) es.toList 0 = some none) ∨ ∃ j e, kK ks k = some j ∧ Instr.findNow d (kV k) es.toList 0 = some (some (j, e.val)) ∧ es.toList[j]? = some e ∧ e.key = kV k := by
  subst hd
  have mj : ∀ x ∈ es.toList, IsKey .string x.key := fun x hx => by
    have : x.key ∈ es.toList.map (·.key) := List.mem_map.2 ⟨x, hx, rfl⟩
    rw [hk] at this
    obtain ⟨q, _, hq⟩ := List.mem_map.1 this
    rw [← hq]
    exact trivial
  rcases findNow_spec (d := .string) (k := kV k) trivial es.toList 0 mj with ⟨h1, h2⟩ | ⟨j, e, h1, h2, h3⟩
  · refine .inl ⟨mR.2 fun hm => ?_, h1⟩
    have : kV k ∈ es.toList.map (·.key) := by rw [hk]; exact List.mem_map.2 ⟨k, hm, rfl⟩
    obtain ⟨x, hx, Hh⟩ := List.mem_map.1 this
    exact h2 x hx Hh
  · rw [Nat.zero_add] at h1
    have hj : (ks.map kV)[j]? = some (kV k) := by rw [← hk, List.getElem?_map, h2]; simp [h3]
    have Pq : ks[j]? = some k := by
      rw [List.getElem?_map, Option.map_eq_some_iff] at hj
      obtain ⟨q, hq, Mv⟩ := hj
      rw [hq, pn Mv]
    cases hf : kK ks k with
    | none => exact absurd (List.mem_of_getElem? Pq) (mR.1 hf)
    | some i =>
      have hi := sW hf
      have tW : ks.Nodup := by
        rw [hk, List.Nodup, List.pairwise_map] at hn
        exact hn.imp fun gf e => gf (by rw [e])
      have : i = j := by
        have h4 := (List.getElem?_eq_some_iff.1 hi).1
        exact (List.getElem?_inj h4 tW).1 (by rw [hi, Pq])
      subst this
      exact .inr ⟨i, e, rfl, h1, h2, h3⟩
section
variable {P : Program} {n : Nat} {ops : Array Oper} {L : St} {w w0 : World} {F O : Nat → Prop} {hs : List HP} {K : St → World → Prop}
theorem mq {dst : Option Nat} {t ty : TypeId} {pos : String} {cv : Array Edge} {g : Option (Nat × Bool)} (ss : List Nat) (d : Nat)
    (aR : (jO ops ss L ⟨dst, .makeMap t none, ty, pos, cv, g⟩, dst, (decide (d < n)), (L.any fun p => p.1 == d)) = (true, some d, true, false))
    (k : Cx F O w0 w hs) (hk : ∀ b w', Cx F O w0 w' (hs ++ [Mb b [] []]) → K ((d, .v (.map (some b))) :: L) w') :
    ji P n ops L w ⟨dst, .makeMap t none, ty, pos, cv, g⟩ K := by
  simp only [Prod.mk.injEq, decide_eq_true_eq] at aR
  obtain ⟨s1, rfl, s3, s4⟩ := aR
  refine iy (xs := []) (svs := []) ss (d := d) (by simp [k8, s1, s3, s4, toSS]) fun a ha he => ?_
  have dW : (Instr.makeMap t none).run P w = .ok (.map (some w.heap.size)) (w.alloc (.map #[] 0)) := rfl
  unfold Oper.wp execOp
  simp only [Option.map_none, Sem.run_bind, dW, Result.andThen_ok, Sem.run_pure]
  refine ⟨.v (.map (some w.heap.size)), rfl, hk w.heap.size _ (k.new _ (Mb w.heap.size [] []) ⟨rfl, ⟨#[], 0, ?_, rfl, rfl, stamped_empty 0⟩, rfl⟩)⟩
  exact (heap_alloc w _).1
theorem uE {w : World} {b : Nat} {es es' : Array MapEntry} {clock clock' : Nat} (hb : w.heap[b]? = some (.map es clock)) : w.grownBy { w with heap := w.heap.setIfInBounds b (.map es' clock') } (some b) ∧ ({ w with heap := w.heap.setIfInBounds b (.map es' clock') } : World).heap.size = w.heap.size ∧ ({ w with heap := w.heap.setIfInBounds b (.map es' clock') } : World).heap[b]? = some (.map es' clock') := by
  refine ⟨⟨rfl, rfl, rfl, by simp, fun k hk gf => ?_⟩, by simp, (heap_set hb).1⟩
  exact (heap_set hb).2 k fun e => gf (by rw [e])
def nK (ks : List (List UInt8)) (k : List UInt8) : List (List UInt8) := match kK ks k with | some _ => ks | none => ks ++ [k]
def nL {β : Type} (ks : List (List UInt8)) (vs : List β) (k : List UInt8) (v : β) : List β := match kK ks k with | some j => vs.set j v | none => vs ++ [v]
theorem Hi {t kt e ty : TypeId} {m y x : Operand} {pos : String} {cv : Array Edge} {g : Option (Nat × Bool)} (ss : List Nat) (i : Nat) {b : Nat} {key : List UInt8} {ks : List (List UInt8)} {vs : List Value} (v : Value)
    (aR : (jO ops ss L (⟨none, .mapUpdate t m y x, ty, pos, cv, g⟩ : Oper), (toSS [m, y, x] (lk L)).map SV.ak, P.underlying t, P.underlying kt) = (true, some [.map (some b), kV key, v], some (.map kt e), some .string))
    (k : Cx F O w0 w hs) (hi : hs[i]? = some (Mb b ks vs)) (hk : ∀ w', Cx F O w0 w' (hs.set i (Mb b (nK ks key) (nL ks vs key v))) → K L w') :
    ji P n ops L w ⟨none, .mapUpdate t m y x, ty, pos, cv, g⟩ K := by
  simp only [Prod.mk.injEq, Option.map_eq_some_iff] at aR
  obtain ⟨s1, ⟨svs, s5, s6⟩, s7, s8⟩ := aR
  refine BS (xs := [m, y, x]) (svs := svs) ss (by simp [s1, s5]) fun a ha he => ?_
  rw [s6] at he
  simp only [List.map_cons, List.map_nil, List.cons.injEq, and_true] at he
  obtain ⟨S, R, hl, ⟨es, clock, m1, m2, m3, m4⟩, hS⟩ := k.get i hi
  have J3 := run_checkKey (P := P) (w := w) s8 (show IsKey .string (kV key) from trivial) false 9999
  rcases xp (d := .string) rfl (k := key) m2 m4.2.2 with ⟨f1, f2⟩ | ⟨j, en, f1, f2, f3, f4⟩
  · obtain ⟨g1, g2, g3⟩ := uE (es' := es.push { key := kV key, val := v, born := clock }) (clock' := clock + 1) m1
    have dW : (Instr.mapUpdate t (.map (some b)) (kV key) v).run P w = .ok () { w with heap := w.heap.setIfInBounds b (.map (es.push { key := kV key, val := v, born := clock }) (clock + 1)) } := by
      unfold Instr.mapUpdate
      simp only [Sem.run_bind, run_underlying s7, Result.andThen_ok, MapKept.run_getObj_map m1, Sem.run_pure, J3, run_findKey s8 f2, MapKept.run_setObj_map _ m1]
    unfold Oper.wp execOp
    simp only [he.1, he.2.1, he.2.2, Sem.run_bind, dW, Result.andThen_ok, Sem.run_pure]
    refine ⟨rfl, hk _ (k.vv i hi (some b) g1 fun S R hS eN => ?_)⟩
    obtain ⟨hl, ⟨Pr, c1, q1, q2, q3, q4⟩, hS⟩ := hS
    rw [m1] at q1
    simp only [Option.some.injEq, Obj.map.injEq] at q1
    obtain ⟨rfl, rfl⟩ := q1
    have Mx : ∀ x ∈ es.toList, x.key ≠ kV key := fun x hx Hh => by
      have : kV key ∈ es.toList.map (·.key) := List.mem_map.2 ⟨x, hx, Hh⟩
      rw [q2] at this
      obtain ⟨q, hq, Mv⟩ := List.mem_map.1 this
      exact mR.1 f1 (pn Mv ▸ hq)
    refine ⟨fun g' hg => (by simp only [Option.some.injEq] at hg; subst hg; exact hS), S, fun _ => False, ⟨?_, ⟨_, _, g3, ?_, ?_, stamped_push q4 Mx⟩, hS⟩, fun b' Ef => ⟨by rw [g2]; exact eN b' Ef, .inl Ef⟩, fun _ h => h⟩
    · unfold nK nL; rw [f1]; simp [hl]
    · unfold nK; rw [f1]; simp [q2]
    · unfold nL; rw [f1]; simp [q3]
  · obtain ⟨g1, g2, g3⟩ := uE (es' := es.modify j fun e => { e with key := kV key, val := v }) (clock' := clock) m1
    have vB : (Instr.keyThatStays (((es[j]?).map (·.key)).getD (kV key)) (kV key)).run P w = .ok (kV key) w := by
      have e1 : es[j]? = some en := by rw [← Array.getElem?_toList]; exact f3
      rw [e1]
      simp only [Option.map_some, Option.getD_some, f4]
      exact MapKept.run_keyThatStays (d := .string) (k := kV key) trivial
    have dW : (Instr.mapUpdate t (.map (some b)) (kV key) v).run P w = .ok () { w with heap := w.heap.setIfInBounds b (.map (es.modify j fun e => { e with key := kV key, val := v }) clock) } := by
      unfold Instr.mapUpdate
      simp only [Sem.run_bind, run_underlying s7, Result.andThen_ok, MapKept.run_getObj_map m1, Sem.run_pure, J3, run_findKey s8 f2, vB, MapKept.run_setObj_map _ m1]
    unfold Oper.wp execOp
    simp only [he.1, he.2.1, he.2.2, Sem.run_bind, dW, Result.andThen_ok, Sem.run_pure]
    refine ⟨rfl, hk _ (k.vv i hi (some b) g1 fun S R hS eN => ?_)⟩
    obtain ⟨hl, ⟨Pr, c1, q1, q2, q3, q4⟩, hS⟩ := hS
    rw [m1] at q1
    simp only [Option.some.injEq, Obj.map.injEq] at q1
    obtain ⟨rfl, rfl⟩ := q1
    have mj : ∀ e ∈ es.toList, es[j]? = some e → ({ e with key := kV key, val := v } : MapEntry).key = e.key := fun e _ he => by
      rw [← Array.getElem?_toList, f3] at he
      obtain rfl := Option.some.inj he
      exact f4.symm
    refine ⟨fun g' hg => (by simp only [Option.some.injEq] at hg; subst hg; exact hS), S, fun _ => False, ⟨?_, ⟨_, _, g3, ?_, ?_, stamped_modify q4 j _ (fun _ _ => rfl) mj⟩, hS⟩, fun b' Ef => ⟨by rw [g2]; exact eN b' Ef, .inl Ef⟩, fun _ h => h⟩
    · unfold nK nL; rw [f1]; simp [hl]
    · unfold nK; rw [f1]
      rw [modify_keys j _ (fun e he => mj e (by rw [← Array.getElem?_toList] at he; exact List.mem_of_getElem? he) he), q2]
    · unfold nL; rw [f1]
      simp only
      rw [← q3, Array.toList_modify]
      apply List.ext_getElem?
      intro q
      simp only [List.getElem?_map, List.getElem?_modify, List.getElem?_set, List.length_map]
      by_cases Ps : j = q
      · subst Ps
        have h5 : j < es.size := by simpa using (List.getElem?_eq_some_iff.1 f3).1
        simp [h5]
      · simp [Ps]
end
end Go.Sx
namespace Go.Sx
open Go.RowKit
set_option linter.unusedSimpArgs false
set_option linter.unusedVariables false
variable {α β γ δ : Type}
def RH (F : Nat → Prop) (w : World) (E : bx α) (h : Hd) (x : List α) : Prop := h.2.1 = x.length ∧ x.length ≤ h.2.2 ∧ Ro F w h.1 (E.all x)
def RQ (y x : α) : Prop := y = x
def RP (r : α → β → Prop) (q : γ → δ → Prop) (y : α × γ) (x : β × δ) : Prop := r y.1 x.1 ∧ q y.2 x.2
structure xq (F : Nat → Prop) (w : World) (E : bx γ) (r : γ → δ → Prop) (A : Option Addr) (ys : List γ) (xs : List δ) : Prop where
  ro : Ro F w A (E.all ys)
  len : ys.length = xs.length
  el : ∀ (j : Nat) (y : γ) (x : δ), ys[j]? = some y → xs[j]? = some x → r y x
section
variable {F O F1 O1 : Nat → Prop} {w0 w w' : World} {hs : List HP}
theorem xq.at {E : bx γ} {r : γ → δ → Prop} {A : Option Addr} {ys : List γ} {xs : List δ} (h : xq F w E r A ys xs) {j : Int} {x : δ} (hx : an xs j = some x) : ∃ y, an ys j = some y ∧ r y x := by
  obtain ⟨h0, h1⟩ := bn hx
  have eN := (List.getElem?_eq_some_iff.1 h1).1
  have hh : ys[j.toNat]? = some (ys[j.toNat]'(h.len ▸ eN)) := List.getElem?_eq_getElem _
  refine ⟨ys[j.toNat]'(h.len ▸ eN), ?_, h.el _ _ _ hh h1⟩
  unfold an
  rw [if_pos h0, hh]
theorem xq.nil {E : bx γ} {r : γ → δ → Prop} : xq F w E r Option.none [] [] := ⟨Ro.D8 E, rfl, fun _ _ _ h => by cases h⟩
end
def hV (h : Hd) : Value := .slice h.1 h.2.1 h.2.2
section
variable {F O : Nat → Prop} {w0 w : World} {hs rest : List HP} {E : bx α} {b : Nat} {ks : List (List UInt8)} {hd : List Hd} {jI : List (List α)}
end
section
variable {P : Program} {n : Nat} {ops : Array Oper} {L : St} {w w0 : World} {F O : Nat → Prop} {hs rest : List HP} {K : St → World → Prop} {E : bx α}
end
end Go.Sx
namespace Go.Sx
open Go.RowKit Go.MapKept
set_option linter.unusedSimpArgs false
set_option linter.unusedVariables false
variable {α : Type}
theorem AH {es : Array MapEntry} {seen : Array Nat} {e : MapEntry} (hn : (es.toList.map (·.born)).Nodup) (he : e ∈ (leftOf es seen).toList) : (leftOf es seen).toList.Perm (e :: (leftOf es (seen.push e.born)).toList) := by
  obtain ⟨h1, h2⟩ := mem_left he
  unfold leftOf
  rw [Array.toList_filter, Array.toList_filter]
  generalize es.toList = l at *
  induction l with
  | nil => cases h1
  | cons x l ih =>
    simp only [List.map_cons, List.nodup_cons] at hn
    by_cases hx : x.born = e.born
    · have Hh : x = e := by
        rcases List.mem_cons.1 h1 with rfl | h
        · rfl
        · exact absurd (List.mem_map.2 ⟨e, h, hx.symm⟩) hn.1
      subst Hh
      rw [List.filter_cons, if_pos (by rw [h2]; rfl), List.filter_cons, if_neg (by rw [contains_push]; simp)]
      refine .cons _ (.of_eq ?_)
      apply List.filter_congr
      intro y hy
      rw [contains_push]
      have : (y.born == x.born) = false := by
        cases hc : y.born == x.born with
        | false => rfl
        | true => exact absurd (List.mem_map.2 ⟨y, hy, beq_iff_eq.1 hc⟩) hn.1
      rw [this, Bool.or_false]
    · have My : e ∈ l := by
        rcases List.mem_cons.1 h1 with rfl | h
        · exact absurd rfl hx
        · exact h
      have Hh : (x.born == e.born) = false := by simpa using hx
      have jJ : (seen.push e.born).contains x.born = seen.contains x.born := by rw [contains_push, Hh, Bool.or_false]
      have Pu := ih hn.2 My
      rw [List.filter_cons, List.filter_cons, jJ]
      split
      · exact (List.Perm.cons _ Pu).trans (.swap _ _ _)
      · exact Pu
section
variable {P : Program} {n : Nat} {ops : Array Oper} {L : St} {w w0 : World} {F O : Nat → Prop} {hs rest : List HP} {K : St → World → Prop}
theorem Hj {es : Array MapEntry} {ks : List (List UInt8)} (h : es.toList.map (·.key) = ks.map kV) {e : MapEntry} (he : e ∈ es.toList) : ∃ k ∈ ks, e.key = kV k := by
  have : e.key ∈ es.toList.map (·.key) := List.mem_map.2 ⟨e, he, rfl⟩
  rw [h] at this
  obtain ⟨k, hk, QS⟩ := List.mem_map.1 this
  exact ⟨k, hk, QS.symm⟩
theorem Cx.J4 {h h' : HP} (k : Cx F O w0 w hs) (i : Nat) (hi : hs[i]? = some h) (hp : ∀ w S R, h.p w S R → h'.p w S R) : Cx F O w0 w (hs.set i h') :=
  k.I5 i hi Option.none ⟨rfl, rfl, rfl, Nat.le_refl _, fun _ _ _ => rfl⟩ fun S R h1 h2 h3 => ⟨fun g hg => (by cases hg), S, R, hp _ _ _ h1, fun b hb => ⟨h3 b (.inl hb), h2 b hb, .inl hb⟩, fun b hb => ⟨h3 b (.inr hb), .inl hb⟩⟩
variable {E : bx α} {b r : Nat} {ks left : List (List UInt8)} {hd : List Hd} {jI : List (List α)}
end
section
variable {P : Program} {n : Nat} {Q : Exit → Act → World → Prop} {L L' : St} {w : World}
open Classical in
theorem vJ {c : Code} (J : Nat → St → World → Prop) (k0 : Nat) (h0 : J k0 L' w) (hk : L'.map (fun p => (find L p.1).map SV.val) = L'.map (fun p => some p.2.val))
    (hb : ∀ k L w, J k L w → W P n c (Exit.then (fun a w => ∃ k' L', k' < k ∧ Fu n a (Kn L') ∧ J k' L' w) Q) L w) : W P n (.loop c) Q L w := by
  refine xd L' hk fun a0 LZ => ?_
  let I : Nat → Act → World → Prop := fun k a w => ∃ L, Fu n a (Kn L) ∧ J k L w
  let μ : Act → World → Nat := fun a w => if h : ∃ k, I k a w then Classical.choose (least h) else 0
  refine wp_loop (fun a w => ∃ k, I k a w) μ ⟨k0, L', LZ, h0⟩ ?_
  intro a w hI
  have hμ : μ a w = Classical.choose (least hI) := dif_pos hI
  obtain ⟨L1, hf, hJ⟩ := (Classical.choose_spec (least hI)).1
  rw [← hμ] at hJ
  refine wp_mono (hb _ L1 w hJ a hf) ?_
  intro e a' w' hq
  cases e with
  | normal =>
    obtain ⟨k', L2, eN, Cm, Pv⟩ := hq
    have hE : ∃ k, I k a' w' := ⟨k', L2, Cm, Pv⟩
    refine ⟨hE, ?_⟩
    have h1 : μ a' w' = Classical.choose (least hE) := dif_pos hE
    have h2 : Classical.choose (least hE) ≤ k' := (Classical.choose_spec (least hE)).2 k' ⟨L2, Cm, Pv⟩
    omega
  | _ => exact hq
theorem p6 {J : Nat → St → World → Prop} {k : Nat} (k' : Nat) (eN : k' < k) (h : J k' L' w) (hk : L'.map (fun p => (find L p.1).map SV.val) = L'.map (fun p => some p.2.val)) : At n (Exit.then (fun a w => ∃ k' L', k' < k ∧ Fu n a (Kn L') ∧ J k' L' w) Q .normal) L w :=
  oz L' hk fun _ ha => ⟨k', L', eN, ha, h⟩
end
noncomputable def qN (l : List (List UInt8)) : List (List UInt8) := l.mergeSort fun x y => decide (x ≤ y)
theorem sX {l l' : List (List UInt8)} (h : l.Perm l') : qN l = qN l' := by
  have := mergeSort_of_perm h
  exact this
theorem mS (l : List (List UInt8)) : (qN l).length = l.length := by simp [qN]
theorem Cn (l : List (List UInt8)) : eS.all l = l.map Go.Proofs.encStr := by
  induction l with
  | nil => rfl
  | cons x l ih => show _ :: _ = _ :: _; rw [show (eS.all l) = l.map Go.Proofs.encStr from ih]; rfl
open Go.Sort Go.Proofs Go.Shelf in
theorem Hk {P : Program} {ρ : Ren} (Ly : Lays.n190 P ρ) {F O : Nat → Prop} {w0 w : World} {hs : List HP} {i : Nat} {A : Option Addr} {n c : Nat} {xs : List (List UInt8)} (k : Cx F O w0 w hs) (hi : hs[i]? = some (Ow eS A n c xs)) (lK : n < 4611686018427387904) :
    Calls P (ρ.f 190) #[.slice A n c] w (fun e w' => e = .returned (.tuple #[]) ∧ Cx F O w0 w' (hs.set i (Ow eS A n c (qN xs)))) := by
  obtain ⟨S, R, hl, hh⟩ := k.get i hi
  by_cases h0 : n = 0
  · subst h0
    have hx : xs = [] := List.eq_nil_of_length_eq_zero hl
    subst hx
    refine (Any.slices_Sort_string_none Ly A c w).mono ?_
    rintro e w' ⟨rfl, rfl⟩
    refine ⟨rfl, ?_⟩
    have : qN [] = [] := by simp [qN]
    rw [this]
    have e2 : hs.set i (Ow eS A 0 c []) = hs := by
      obtain ⟨h1, h2⟩ := List.getElem?_eq_some_iff.1 hi
      rw [← h2]; exact List.set_getElem_self h1
    rw [e2]; exact k
  · rcases hh with ⟨_, h1, _⟩ | ⟨g, t, cur, rfl, ⟨fr, hb, Py⟩, h3, h4, h5, h6, h7⟩
    · exact absurd h1 h0
    · subst hl
      have Hl : eS.sz = 1 := rfl
      rw [Hl, Nat.mul_one] at h5 h6
      rw [Cn] at h6
      have hH : Holds encStr w g 0 xs.toArray := by
        intro j hj
        have wY : j < xs.length := by simpa using hj
        have Pz : w.frozen? ⟨g, 0 + j, none⟩ = false := by
          have : j < cur.size := by omega
          simp only [World.frozen?, hb]
          rcases Py with h | h
          · simp; omega
          · simp; omega
        refine ⟨?_, Pz⟩
        have h1 : (cur.toList.take xs.length)[j]? = (xs.map encStr)[j]? := by rw [h6]
        rw [List.getElem?_take_of_lt wY] at h1
        simp only [World.cell?, hb, Nat.zero_add]
        simp only [Option.isSome_none, Bool.false_eq_true, if_false]
        rw [← Array.getElem?_toList, h1]
        simp [wY]
      refine (Any.slices_Sort_string Ly g 0 c xs w hH (Array.getElem?_eq_some_iff.1 hb).1 lK).mono ?_
      rintro e w' ⟨rfl, m, os, rfl⟩
      refine ⟨rfl, ?_⟩
      refine k.vv i hi (some g) (grownBy_sorted _) fun S R hS eN => ?_
      obtain ⟨I1, Eg⟩ := hS
      rcases Eg with ⟨h1, _⟩ | ⟨g', t', BU, q1, ⟨Qi, q2, q3⟩, _, _, q4, _, q5⟩
      · cases h1
      · simp only [Option.some.injEq, Addr.mk.injEq, and_true] at q1
        subst q1
        rw [hb] at q2
        simp only [Option.some.injEq, Obj.cells.injEq] at q2
        obtain ⟨rfl, rfl, rfl⟩ := q2
        have Lq : (qN xs).length = xs.length := mS xs
        refine ⟨fun q hq => (by simp only [Option.some.injEq] at hq; subst hq; exact q5), S, fun _ => False, ⟨Lq, .inr ⟨g, t, putCells encStr 0 (qN xs).toArray cur, rfl, ⟨fr, heap_sorted _ hb, ?_⟩, h3, h4, ?_, ?_, q5⟩⟩, fun q hq => ⟨?_, .inl hq⟩, fun _ h => h⟩
        · simpa [putCells] using Py
        · rw [Hl, Nat.mul_one]; simpa [putCells] using h5
        · rw [Hl, Nat.mul_one, Cn, ← Lq]
          exact take_putCells cur (qN xs) (by omega)
        · exact Nat.lt_of_lt_of_le (eN q hq) (grownBy_sorted (w := w) (g := g) (n := m) (os := os) (qN xs).toArray).size
end Go.Sx
namespace Go.Sx
open Go.RowKit
set_option linter.unusedSimpArgs false
set_option linter.unusedVariables false
variable {α β γ δ ε ζ : Type}
structure Rl (γ δ : Type) where
  r : World → (Nat → Prop) → γ → δ → Prop
  loc : ∀ w w' R y x, r w R y x → (∀ b, R b → w'.heap[b]? = w.heap[b]?) → r w' R y x
  mono : ∀ w R R' y x, (∀ b, R b → R' b) → r w R y x → r w R' y x
def SQ : Rl α α := ⟨fun _ _ y x => y = x, fun _ _ _ _ _ h _ => h, fun _ _ _ _ _ _ h => h⟩
def SH (E : bx α) : Rl Hd (List α) where
  r w R h x := h.2.1 = x.length ∧ x.length ≤ h.2.2 ∧ Rd w h.1 (E.all x) ∧ (E.all x ≠ [] → ∀ a, h.1 = some a → R a.block)
  loc := by
    rintro w w' R y x ⟨h1, h2, h3, h4⟩ hk
    refine ⟨h1, h2, ⟨h3.1, fun a j u ha hu => ?_⟩, h4⟩
    have h5 := h3.2 a j u ha hu
    have gf : E.all x ≠ [] := fun e => by rw [e] at hu; cases hu
    have h6 := hk (a.add j).block (by rw [gJ]; exact h4 gf a ha)
    rw [World.cell?_of_block h6]
    exact h5
  mono := by
    rintro w R R' y x hR ⟨h1, h2, h3, h4⟩
    exact ⟨h1, h2, h3, fun gf a ha => hR _ (h4 gf a ha)⟩
def SP (q : Rl α β) (p : Rl γ δ) : Rl (α × γ) (β × δ) where
  r w R y x := q.r w R y.1 x.1 ∧ p.r w R y.2 x.2
  loc := by rintro w w' R y x ⟨h1, h2⟩ hk; exact ⟨q.loc _ _ _ _ _ h1 hk, p.loc _ _ _ _ _ h2 hk⟩
  mono := by rintro w R R' y x hR ⟨h1, h2⟩; exact ⟨q.mono _ _ _ _ _ hR h1, p.mono _ _ _ _ _ hR h2⟩
def Sh (q : Rl γ δ) (ys : List γ) (xs : List δ) : HP where
  p w S R := (∀ b, ¬ S b) ∧ ys.length = xs.length ∧ ∀ (j : Nat) (y : γ) (x : δ), ys[j]? = some y → xs[j]? = some x → q.r w R y x
  loc := by
    rintro w w' S R ⟨h0, h1, h2⟩ hk
    exact ⟨h0, h1, fun j y x e1 e2 => q.loc _ _ _ _ _ (h2 j y x e1 e2) fun b hb => hk b (.inr hb)⟩
def OG (E : bx γ) (q : Rl γ δ) (A : Option Addr) (n c : Nat) (ys : List γ) (xs : List δ) : HP := Pk True [Ow E A n c ys, Sh q ys xs]
section
variable {F O : Nat → Prop} {w0 w w' : World} {hs rest : List HP}
theorem Cx.merge {h1 h2 h3 : HP} (k : Cx F O w0 w (h1 :: h2 :: rest)) (hp : ∀ w S1 R1 S2 R2, h1.p w S1 R1 → h2.p w S2 R2 → h3.p w (fun b => S1 b ∨ S2 b) (fun b => R1 b ∨ R2 b)) : Cx F O w0 w (h3 :: rest) := by
  obtain ⟨U, V, ⟨S1, R1, U1, V1, e1, ⟨S2, R2, U2, V2, g1, g2, g3, g4, g5, g6⟩, e3, e4, e5, e6⟩, hU, hV⟩ := k.sep
  refine ⟨k.os, k.tape, k.output, k.size, k.block, k.fin, k.qG, U, V, ⟨_, _, U2, V2, hp _ _ _ _ _ e1 g1, g2, fun b => ?_, fun b => ?_, fun b hb => ?_, fun b hb => ?_⟩, hU, hV⟩
  · rw [e3, g3, or_assoc]
  · rw [e4, g4, or_assoc]
  · rcases hb with hb | hb
    · have h := e5 b hb
      rw [g3, g4] at h
      exact ⟨fun q => h.1 (.inr q), fun q => q.elim h.2.1 (fun q => h.2.2 (.inl q)), fun q => h.2.2 (.inr q)⟩
    · have h := g5 b hb
      exact ⟨h.1, fun q => q.elim (fun q => e6 b q ((g3 b).2 (.inl hb))) h.2.1, h.2.2⟩
  · rcases hb with hb | hb
    · exact fun q => e6 b hb ((g3 b).2 (.inr q))
    · exact g6 b hb
theorem Cx.dup {h h' : HP} (k : Cx F O w0 w hs) (i : Nat) (hi : hs[i]? = some h) (hp : ∀ w S R, h.p w S R → h'.p w (fun _ => False) R) : Cx F O w0 w (h' :: hs) := by
  obtain ⟨U, V, h1, hU, hV⟩ := k.sep
  obtain ⟨S, R, U', V', e1, e2, e3, e4, e5, e6⟩ := Sep.cut hi h1
  refine ⟨k.os, k.tape, k.output, k.size, k.block, k.fin, k.qG, U, V, ⟨_, R, U, V, hp _ _ _ e1, h1, fun b => ⟨.inr, fun h => h.elim (fun h => h.elim) id⟩, fun b => ⟨.inr, fun h => h.elim (fun h => (e4 b).2 (.inl h)) id⟩, fun b hb => hb.elim, fun b hb hu => ?_⟩, hU, hV⟩
  exact Sep.apart h1 b hu ((e4 b).2 (.inl hb))
theorem Cx.share {E : bx α} {A : Option Addr} {n c : Nat} {xs : List α} (k : Cx F O w0 w (Ow E A n c xs :: rest)) : Cx F O w0 w (Sh (SH E) [(A, n, c)] [xs] :: rest) := by
  have := k.I5 (h' := Sh (SH E) [(A, n, c)] [xs]) 0 rfl Option.none ⟨rfl, rfl, rfl, Nat.le_refl _, fun _ _ _ => rfl⟩ fun S R h1 h2 h3 => by
    refine ⟨fun g hg => (by cases hg), fun _ => False, fun b => R b ∨ S b, ⟨fun _ h => h, rfl, fun j y x e1 e2 => ?_⟩, fun b hb => hb.elim, fun b hb => ⟨h3 b (hb.elim .inr .inl), hb.elim .inl (fun h => .inr (.inl h))⟩⟩
    cases j with
    | succ j => cases e1
    | zero =>
      obtain rfl := Option.some.inj e1
      obtain rfl := Option.some.inj e2
      refine ⟨h1.1.symm, by rw [h1.1]; exact Ow.Hc h1, Ow.D0 h1, fun gf a ha => ?_⟩
      rcases h1.2 with ⟨h4, _⟩ | ⟨g, t, cur, h4, _, _, _, _, _, h5⟩
      · rw [h4] at ha; cases ha
      · rw [h4] at ha
        obtain rfl := Option.some.inj ha
        exact .inr h5
  simpa only [List.set_cons_zero] using this
theorem Cx.J5 (k : Cx F O w0 w hs) (q : Rl γ δ) {y : γ} {x : δ} (h : q.r w0 O y x) : Cx F O w0 w (Sh q [y] [x] :: hs) := by
  obtain ⟨U, V, h1, hU, hV⟩ := k.sep
  have hw : q.r w O y x := q.loc _ _ _ _ _ h fun b hb => k.block b (k.qG b hb) fun hf => (k.fin b hf).2 hb
  refine ⟨k.os, k.tape, k.output, k.size, k.block, k.fin, k.qG, U, fun b => O b ∨ V b, ⟨fun _ => False, O, U, V, ⟨fun _ h => h, rfl, fun j y' x' e1 e2 => ?_⟩, h1, fun b => ⟨.inr, fun h => h.elim (fun h => h.elim) id⟩, fun b => Iff.rfl, fun b hb => hb.elim, fun b hb hu => ?_⟩, hU, fun b hb => hb.elim (fun h => .inl (.inl h)) (hV b)⟩
  · cases j with
    | succ j => cases e1
    | zero =>
      obtain rfl := Option.some.inj e1
      obtain rfl := Option.some.inj e2
      exact hw
  · rcases hU b hu with h | h
    · exact (k.fin b h).2 hb
    · have := k.qG b hb; omega
theorem Cx.Lr (k : Cx F O w0 w hs) (q : Rl γ δ) : Cx F O w0 w (Sh q [] [] :: hs) := by
  obtain ⟨U, V, h1, hU, hV⟩ := k.sep
  exact ⟨k.os, k.tape, k.output, k.size, k.block, k.fin, k.qG, U, V, ⟨fun _ => False, fun _ => False, U, V, ⟨fun _ h => h, rfl, fun j y x e1 _ => by cases e1⟩, h1, by simp, by simp, fun b hb => hb.elim, fun b hb => hb.elim⟩, hU, hV⟩
theorem Cx.Mz (k : Cx F O w0 w hs) (x : α) : Cx F O w0 w (Sh SQ [x] [x] :: hs) := by
  obtain ⟨U, V, h1, hU, hV⟩ := k.sep
  refine ⟨k.os, k.tape, k.output, k.size, k.block, k.fin, k.qG, U, V, ⟨fun _ => False, fun _ => False, U, V, ⟨fun _ h => h, rfl, fun j y x' e1 e2 => ?_⟩, h1, by simp, by simp, fun b hb => hb.elim, fun b hb => hb.elim⟩, hU, hV⟩
  rw [e1] at e2
  exact Option.some.inj e2
theorem Cx.PA {q : Rl α β} {p : Rl γ δ} {y1 : α} {x1 : β} {y2 : γ} {x2 : δ} (k : Cx F O w0 w (Sh q [y1] [x1] :: Sh p [y2] [x2] :: rest)) : Cx F O w0 w (Sh (SP q p) [(y1, y2)] [(x1, x2)] :: rest) :=
  k.merge fun w S1 R1 S2 R2 h1 h2 => ⟨fun b hb => hb.elim (h1.1 b) (h2.1 b), rfl, fun j y x e1 e2 => by
    cases j with
    | succ j => cases e1
    | zero =>
      obtain rfl := Option.some.inj e1
      obtain rfl := Option.some.inj e2
      exact ⟨q.mono _ _ _ _ _ (fun b hb => .inl hb) (h1.2.2 0 _ _ rfl rfl), p.mono _ _ _ _ _ (fun b hb => .inr hb) (h2.2.2 0 _ _ rfl rfl)⟩⟩
theorem Cx.Lt {q : Rl γ δ} {ys PB : List γ} {xs xs' : List δ} (k : Cx F O w0 w (Sh q ys xs :: Sh q PB xs' :: rest)) : Cx F O w0 w (Sh q (ys ++ PB) (xs ++ xs') :: rest) :=
  k.merge fun w S1 R1 S2 R2 h1 h2 => ⟨fun b hb => hb.elim (h1.1 b) (h2.1 b), by simp [h1.2.1, h2.2.1], fun j y x e1 e2 => by
    by_cases hj : j < ys.length
    · rw [List.getElem?_append_left hj] at e1
      rw [List.getElem?_append_left (by have := h1.2.1; omega)] at e2
      exact q.mono _ _ _ _ _ (fun b hb => .inl hb) (h1.2.2 j _ _ e1 e2)
    · rw [List.getElem?_append_right (by omega)] at e1
      rw [List.getElem?_append_right (by have := h1.2.1; omega), ← h1.2.1] at e2
      exact q.mono _ _ _ _ _ (fun b hb => .inr hb) (h2.2.2 _ _ _ e1 e2)⟩
theorem Cx.og {E : bx γ} {q : Rl γ δ} {A : Option Addr} {n c : Nat} {ys : List γ} {xs : List δ} (k : Cx F O w0 w (Ow E A n c ys :: Sh q ys xs :: rest)) : Cx F O w0 w (OG E q A n c ys xs :: rest) := Cx.Ea (l := [_, _]) trivial k
theorem Cx.J6 {E : bx γ} {q : Rl γ δ} {A : Option Addr} {n c : Nat} {ys : List γ} {xs : List δ} (k : Cx F O w0 w (OG E q A n c ys xs :: rest)) : Cx F O w0 w (Ow E A n c ys :: Sh q ys xs :: rest) := k.D_.2
theorem Cx.Ga (k : Cx F O w0 w hs) (E : bx γ) (q : Rl γ δ) : Cx F O w0 w (OG E q Option.none 0 0 [] [] :: hs) := by
  refine Cx.og ?_
  have k1 := (k.Lr q).nil E
  exact k1.perm (List.perm_append_comm (l₂ := [_]))
theorem OG.parts {E : bx γ} {q : Rl γ δ} {A : Option Addr} {n c : Nat} {ys : List γ} {xs : List δ} {S R : Nat → Prop} (h : (OG E q A n c ys xs).p w S R) :
    (∃ S' R', (Ow E A n c ys).p w S' R' ∧ ∀ b, S' b → S b) ∧ ys.length = xs.length ∧ ∀ (j : Nat) (y : γ) (x : δ), ys[j]? = some y → xs[j]? = some x → q.r w R y x := by
  obtain ⟨_, hS⟩ := h
  obtain ⟨S1, R1, U1, V1, e1, e2, e3, e4, _⟩ := Sep.cut (i := 0) rfl hS
  obtain ⟨S2, R2, U2, V2, g1, g2, g3, g4, _⟩ := Sep.cut (i := 0) rfl e2
  refine ⟨⟨S1, R1, e1, fun b hb => (e3 b).2 (.inl hb)⟩, g1.2.1, fun j y x f1 f2 => q.mono _ _ _ _ _ (fun b hb => (e4 b).2 (.inr ((g4 b).2 (.inl hb)))) (g1.2.2 j y x f1 f2)⟩
variable {E : bx γ} {q : Rl γ δ} {A : Option Addr} {n c : Nat} {ys : List γ} {xs : List δ}
theorem Cx.np (k : Cx F O w0 w hs) (i : Nat) (hi : hs[i]? = some (OG E q A n c ys xs)) : xs.length = n := by
  obtain ⟨S, R, h⟩ := k.get i hi
  obtain ⟨⟨_, _, h1, _⟩, h2, _⟩ := OG.parts h
  rw [← h2]; exact h1.1
theorem Cx.Co (k : Cx F O w0 w hs) (i : Nat) (hi : hs[i]? = some (OG E q A n c ys xs)) : ys.length = n := by
  obtain ⟨S, R, h⟩ := k.get i hi
  obtain ⟨⟨_, _, h1, _⟩, h2, _⟩ := OG.parts h
  exact h1.1
theorem Cx.Gc (k : Cx F O w0 w hs) (i : Nat) (hi : hs[i]? = some (OG E q A n c ys xs)) : n ≤ c := by
  obtain ⟨S, R, h⟩ := k.get i hi
  obtain ⟨⟨_, _, h1, _⟩, h2, _⟩ := OG.parts h
  exact Ow.Hc h1
theorem Cx.Hm (k : Cx F O w0 w hs) (i : Nat) (hi : hs[i]? = some (OG E q A n c ys xs)) : Rd w A (E.all ys) := by
  obtain ⟨S, R, h⟩ := k.get i hi
  obtain ⟨⟨_, _, h1, _⟩, h2, _⟩ := OG.parts h
  exact Ow.D0 h1
end
section
variable {F O : Nat → Prop} {w0 w : World} {hs : List HP}
theorem Cx.gL {q : Rl γ δ} {ys : List γ} {xs : List δ} (k : Cx F O w0 w hs) (i : Nat) (hi : hs[i]? = some (Sh q ys xs)) : Cx F O w0 w (Sh q ys xs :: hs) :=
  k.dup i hi fun _ _ _ h => ⟨fun _ h => h, h.2.1, h.2.2⟩
theorem Cx.zK {E : bx α} {A : Option Addr} {n c : Nat} {x : List α} (k : Cx F O w0 w hs) (i : Nat) (hi : hs[i]? = some (Sh (SH E) [(A, n, c)] [x])) : x.length = n := by
  obtain ⟨S, R, h⟩ := k.get i hi
  exact ((h.2.2 0 _ _ rfl rfl).1).symm
theorem Cx.J7 {E : bx α} {A : Option Addr} {n c : Nat} {x : List α} (k : Cx F O w0 w hs) (i : Nat) (hi : hs[i]? = some (Sh (SH E) [(A, n, c)] [x])) : Rd w A (E.all x) := by
  obtain ⟨S, R, h⟩ := k.get i hi
  exact (h.2.2 0 _ _ rfl rfl).2.2.1
end
structure yP (F O : Nat → Prop) (w : World) (E : bx γ) (q : Rl γ δ) (A : Option Addr) (ys : List γ) (xs : List δ) : Prop where
  ro : Ro F w A (E.all ys)
  len : ys.length = xs.length
  el : ∀ (j : Nat) (y : γ) (x : δ), ys[j]? = some y → xs[j]? = some x → q.r w O y x
section
variable {F O F1 O1 : Nat → Prop} {w0 w w' : World} {hs rest : List HP} {E : bx γ} {q : Rl γ δ} {A : Option Addr} {ys : List γ} {xs : List δ}
theorem yP.at (h : yP F O w E q A ys xs) {j : Int} {x : δ} (hx : an xs j = some x) : ∃ y, an ys j = some y ∧ q.r w O y x := by
  obtain ⟨h0, h1⟩ := bn hx
  have eN := (List.getElem?_eq_some_iff.1 h1).1
  have hh : ys[j.toNat]? = some (ys[j.toNat]'(h.len ▸ eN)) := List.getElem?_eq_getElem _
  refine ⟨ys[j.toNat]'(h.len ▸ eN), ?_, h.el _ _ _ hh h1⟩
  unfold an
  rw [if_pos h0, hh]
theorem SH.rh {E : bx α} {R : Nat → Prop} {h : Hd} {x : List α} (q : (SH E).r w R h x) (hR : ∀ b, R b → ¬ F b) : RH F w E h x :=
  ⟨q.1, q.2.1, q.2.2.1, fun gf a ha hf => hR _ (q.2.2.2 gf a ha) hf⟩
theorem Cx.off (k : Cx F O w0 w hs) : ∀ b, O b → ¬ F b := fun b ho hf => (k.fin b hf).2 ho
theorem yP.MA {r : γ → δ → Prop} (h : yP F O w E q A ys xs) (hO : ∀ b, O b → ¬ F b) (conv : ∀ (R : Nat → Prop) y x, (∀ b, R b → ¬ F b) → q.r w R y x → r y x) : xq F w E r A ys xs :=
  ⟨h.ro, h.len, fun j y x e1 e2 => conv O y x hO (h.el j y x e1 e2)⟩
theorem J8 {n c : Nat} {S R : Nat → Prop} (h : (OG E q A n c ys xs).p w S R) (hS : ∀ b, S b → ¬ F1 b) : Ro F1 w A (E.all ys) := by
  obtain ⟨⟨_, _, h1, h2⟩, _⟩ := OG.parts h
  exact Cb h1 fun b hb => hS b (h2 b hb)
theorem yP.lR {n c : Nat} (hr : ∀ (i : Nat) (h : HP), rest[i]? = some h → ∃ S R, h.p w S R ∧ (∀ b, R b → O1 b) ∧ ∀ b, S b → ¬ F1 b) (i : Nat) (hi : rest[i]? = some (OG E q A n c ys xs)) : yP F1 O1 w E q A ys xs := by
  obtain ⟨S, R, h, hR, hS⟩ := hr i _ hi
  obtain ⟨_, h1, h2⟩ := OG.parts h
  exact ⟨J8 h hS, h1, fun j y x e1 e2 => q.mono _ _ _ _ _ hR (h2 j y x e1 e2)⟩
theorem xq.lR {n c : Nat} {r : γ → δ → Prop} (hO : ∀ b, O1 b → ¬ F1 b) (hr : ∀ (i : Nat) (h : HP), rest[i]? = some h → ∃ S R, h.p w S R ∧ (∀ b, R b → O1 b) ∧ ∀ b, S b → ¬ F1 b) (i : Nat) (hi : rest[i]? = some (OG E q A n c ys xs)) (conv : ∀ (R : Nat → Prop) y x, (∀ b, R b → ¬ F1 b) → q.r w R y x → r y x) : xq F1 w E r A ys xs :=
  (yP.lR hr i hi).MA hO conv
theorem yP.tN (h : yP F O w0 E q A ys xs) (k : Cx F O w0 w hs) (hF : ∀ b, F1 b → F b ∨ w0.heap.size ≤ b) (hO : ∀ b, O b → O1 b) : yP F1 O1 w E q A ys xs :=
  ⟨Ro.sR h.ro k hF, h.len, fun j y x e1 e2 => q.mono _ _ _ _ _ hO (q.loc _ _ _ _ _ (h.el j y x e1 e2) fun b hb => k.block b (k.qG b hb) fun hf => (k.fin b hf).2 hb)⟩
end
section
variable {P : Program} {n : Nat} {ops : Array Oper} {L : St} {w w0 : World} {F O : Nat → Prop} {hs rest : List HP} {K : St → World → Prop} {E : bx γ} {q : Rl γ δ}
theorem sY {dst : Option Nat} {x y : Operand} {t t2 ty : TypeId} {pos : String} {cv : Array Edge} {g : Option (Nat × Bool)} {e : TypeId} {zs : List Value} {bytes : Nat} (tf : TF P t e zs bytes)
    (ss : List Nat) (d : Nat) {A A2 : Option Addr} {n1 n2 c c2 : Nat} {ys BA : List γ} {xs J9 : List δ}
    (aR : (jO ops ss L ⟨dst, .call ⟨.builtin .append, #[x, y], #[t, t2]⟩, ty, pos, cv, g⟩, dst, (decide (d < n)), (L.any fun p => p.1 == d), (toSS [x, y] (lk L)).map SV.ak, (match P.underlying t2 with | some (.slice _) => true | some .string => true | _ => false), E.sz) = (true, some d, true, false, some [.slice A n1 c, .slice A2 n2 c2], true, zs.length))
    (k : Cx F O w0 w (OG E q A n1 c ys xs :: OG E q A2 n2 c2 BA J9 :: rest)) (j8 : (n1 + n2) * bytes ≤ 140737488355328)
    (hk : ∀ A' c' w', Cx F O w0 w' (OG E q A' (n1 + n2) c' (ys ++ BA) (xs ++ J9) :: rest) → K ((d, .v (.slice A' (n1 + n2) c')) :: L) w') :
    ji P n ops L w ⟨dst, .call ⟨.builtin .append, #[x, y], #[t, t2]⟩, ty, pos, cv, g⟩ K := by
  have sG := k.Co 1 rfl
  have Jb := k.Hm 1 rfl
  have hz : E.sz = zs.length := by simp only [Prod.mk.injEq] at aR; exact aR.2.2.2.2.2.2
  have k1 : Cx F O w0 w (OG E q A2 n2 c2 BA J9 :: Ow E A n1 c ys :: Sh q ys xs :: rest) := k.J6.perm ((List.Perm.cons _ (.swap _ _ _)).trans (.swap _ _ _))
  have k2 := k1.J6
  have k3 : Cx F O w0 w (Ow E A n1 c ys :: Sh q BA J9 :: Sh q ys xs :: rest) := (k2.tl).perm (.swap _ _ _)
  refine dq (E := E) (v := .v (.slice A2 n2 c2)) (ys := BA) tf ss d 0 aR k3 rfl (Src.sl Jb sG hz) sG j8 fun A' c' w' k' => hk A' c' w' ?_
  have k4 : Cx F O w0 w' (Sh q ys xs :: Sh q BA J9 :: Ow E A' (n1 + n2) c' (ys ++ BA) :: rest) := by
    rw [List.set_cons_zero] at k'
    exact k'.perm ((List.Perm.swap _ _ _).trans ((List.Perm.cons _ (.swap _ _ _)).trans (.swap _ _ _)))
  exact Cx.og ((k4.Lt).perm (.swap _ _ _))
end
end Go.Sx
namespace Go.Sx
open Go.RowKit
set_option linter.unusedSimpArgs false
set_option linter.unusedVariables false
variable {γ δ : Type}
def sZ (wt : δ → Nat) : List δ → Nat
  | [] => 0
  | x :: xs => wt x + sZ wt xs
def p7 {H : Type} (m : DataW H → δ → Prop) : List (DataW H) → List δ → Prop
  | [], [] => True
  | d :: ds, x :: xs => m d x ∧ p7 m ds xs
  | _, _ => False
theorem p7.of {H : Type} {m : DataW H → δ → Prop} : ∀ (ds : List (DataW H)) (xs : List δ), ds.length = xs.length → (∀ (i : Nat) (d : DataW H) (x : δ), ds[i]? = some d → xs[i]? = some x → m d x) → p7 m ds xs
  | [], [], _, _ => trivial
  | [], _ :: _, h, _ => by cases h
  | _ :: _, [], h, _ => by cases h
  | d :: ds, x :: xs, h, hq => ⟨hq 0 d x rfl rfl, p7.of ds xs (by simpa using h) fun i d' x' h1 h2 => hq (i + 1) d' x' h1 h2⟩
theorem p7.PC {H : Type} {wt : δ → Nat} {bulk : DataW H → Nat} {bulkAll : List (DataW H) → Nat} (h0 : ∀ d ds, bulkAll (d :: ds) = bulk d + bulkAll ds) : ∀ (ds : List (DataW H)) (xs : List δ), p7 (fun d x => wt x ≤ bulk d) ds xs → sZ wt xs ≤ bulkAll ds
  | [], [], _ => Nat.zero_le _
  | [], _ :: _, h => h.elim
  | _ :: _, [], h => h.elim
  | d :: ds, x :: xs, ⟨h, hr⟩ => by
    have := p7.PC h0 ds xs hr
    simp only [sZ, h0]
    omega
section
variable {H : Type} {enc : TypeId × Value → H} {P : Program} {w : World} {held : Bool}
theorem Eh {t e : TypeId} {fuel : Nat} {cs : List Value} {x : DataW H × List MemPlace} (E : bx γ) (r : γ → δ → Prop) (m : DataW H → δ → Prop) (ht : P.underlying t = some (.slice e)) (QT : P.cellsOf e = E.sz)
    (My : ∀ fuel cs (x : DataW H × List MemPlace), DataW.trod enc P w 0 (fun _ => true) held fuel e cs = some x → ∃ (y : γ) (z : δ), cs = E.f y ∧ r y z ∧ m x.1 z)
    (h : DataW.trod enc P w 0 (fun _ => true) held fuel t cs = some x) :
    ∃ (A : Option Addr) (len cap : Nat) (ys : List γ) (xs : List δ), cs = [.slice A len cap] ∧ xq N0 w E r A ys xs ∧ xs.length = len ∧ len ≤ cap ∧ (xs = [] ∨ ∃ ds rest, x.1 = .slice ds rest ∧ p7 m ds xs) := by
  rcases DataW.trod_slice ht h with ⟨rfl, rfl⟩ | ⟨a, len, cap, elems, rest, n, rfl, rfl, rfl, _, hl, _, hlen, MB, _, _⟩
  · exact ⟨Option.none, 0, 0, [], [], rfl, xq.nil, rfl, by omega, .inl rfl⟩
  · have key : ∀ i, i < len → ∃ y : γ × δ, w.cells? 0 (a.add (i * E.sz)) E.sz = some (E.f y.1) ∧ r y.1 y.2 ∧ ∃ d, elems[i]? = some d ∧ m d.1 y.2 := by
      intro i hi
      have h1 := MB i hi
      have h2 : elems[i]? = some (elems[i]'(by omega)) := List.getElem?_eq_getElem _
      rw [h2, QT, Option.bind_eq_some_iff] at h1
      obtain ⟨K7, Lj, hy⟩ := h1
      obtain ⟨y, z, rfl, hr, hm⟩ := My _ _ _ hy
      exact ⟨(y, z), Lj, hr, _, h2, hm⟩
    obtain ⟨l, Lk, sG⟩ := Cl len key
    have MC : ∀ (j : Nat) (y : γ) (x : δ), (l.map (·.1))[j]? = some y → (l.map (·.2))[j]? = some x → l[j]? = some (y, x) := by
      intro j h x h1 h2
      rw [List.getElem?_map, Option.map_eq_some_iff] at h1 h2
      obtain ⟨y, hy, rfl⟩ := h1
      obtain ⟨y', JW, rfl⟩ := h2
      rw [hy] at JW
      obtain rfl := Option.some.inj JW
      exact hy
    refine ⟨some a, len, cap, l.map (·.1), l.map (·.2), rfl, ⟨Ro.n0 ⟨fun _ => ⟨a, rfl⟩, ?_⟩, by simp, ?_⟩, by simp [Lk], hl, .inr ⟨_, _, rfl, ?_⟩⟩
    · intro a' j u ha hu
      obtain rfl := Option.some.inj ha
      by_cases hz : E.sz = 0
      · have hq := (List.getElem?_eq_some_iff.1 hu).1
        rw [bx.bh, hz, Nat.mul_zero] at hq
        omega
      · have hq := (List.getElem?_eq_some_iff.1 hu).1
        rw [bx.bh, List.length_map] at hq
        have hi : j / E.sz < l.length := Nat.div_lt_of_lt_mul (by rw [Nat.mul_comm]; exact hq)
        have J_ : j % E.sz < E.sz := Nat.mod_lt _ (by omega)
        have hy : l[j / E.sz]? = some (l[j / E.sz]) := List.getElem?_eq_getElem _
        obtain ⟨h1, _⟩ := sG _ _ hy
        obtain ⟨_, h3, h4⟩ := World.cells?_some h1
        have h5 := h4 (j % E.sz) J_
        rw [Addr.add_add, Nat.mul_comm, Nat.div_add_mod] at h5
        rw [h5]
        have h6 := bx.vw E (xs := l.map (·.1)) (j := j / E.sz) (x := (l[j / E.sz]).1) (by rw [List.getElem?_map, hy]; rfl)
        rw [← h6, List.getElem?_take_of_lt J_, List.getElem?_drop, Nat.mul_comm, Nat.div_add_mod]
        exact hu
    · intro j h x h1 h2
      exact (sG j _ (MC j h x h1 h2)).2.1
    · refine p7.of _ _ (by simp [Lk, hlen]) fun i d x h1 h2 => ?_
      rw [List.getElem?_map, Option.map_eq_some_iff] at h1 h2
      obtain ⟨y, hy, rfl⟩ := h1
      obtain ⟨z, hz, rfl⟩ := h2
      obtain ⟨_, _, d', PD, hq⟩ := sG i z hz
      rw [hy] at PD
      obtain rfl := Option.some.inj PD
      exact hq
end
end Go.Sx
namespace Go.Sx
open Go.RowKit
set_option linter.unusedSimpArgs false
set_option linter.unusedVariables false
variable {α β γ δ : Type}
section
variable {F O F1 O1 : Nat → Prop} {w0 w w' : World} {hs rest : List HP} {E : bx α} {A : Option Addr} {n c : Nat} {x : List α}
end
theorem p7.len {H : Type} {m : DataW H → δ → Prop} {bulk : DataW H → Nat} {bulkAll : List (DataW H) → Nat} (h0 : ∀ d ds, bulkAll (d :: ds) = bulk d + bulkAll ds) (h1 : ∀ d, 1 ≤ bulk d) : ∀ (ds : List (DataW H)) (xs : List δ), p7 m ds xs → xs.length ≤ bulkAll ds
  | [], [], _ => Nat.zero_le _
  | [], _ :: _, h => h.elim
  | _ :: _, [], h => h.elim
  | d :: ds, x :: xs, ⟨_, hr⟩ => by
    have := p7.len h0 h1 ds xs hr
    have := h1 d
    simp only [List.length_cons, h0]
    omega
section
variable {σ ρ : Type} {P : Program} {n : Nat} {Q : Exit → Act → World → Prop} {c : Code} {L L' : St} {w0 : World}
end
end Go.Sx
namespace Go.Sx
open Go.RowKit
set_option linter.unusedSimpArgs false
set_option linter.unusedVariables false
section
variable {P : Program} {n : Nat} {ops : Array Oper} {L : St} {w w0 : World} {F O : Nat → Prop} {hs : List HP} {K : St → World → Prop}
end
end Go.Sx
namespace Go.Sx
open Go.RowKit
set_option linter.unusedSimpArgs false
set_option linter.unusedVariables false
def vK : Nat := 9221120237041090561
def p8 (b : Nat) : Nat := if (Ieee.double.read b).isNaN then vK else b
def Fl (x b : Nat) : Prop := b < 18446744073709551616 ∧ p8 b = x
def ic (op : BinOp) (x y : Nat) : Nat := (floatBits op .f64 x y).getD vK
def iz (op : BinOp) (x y : Nat) : Bool :=
  match op with
  | .eql => Ieee.double.order x y == some .eq
  | .neq => Ieee.double.order x y != some .eq
  | .lss => Ieee.double.order x y == some .lt
  | .leq => Ieee.double.order x y == some .lt || Ieee.double.order x y == some .eq
  | .gtr => Ieee.double.order x y == some .gt
  | .geq => Ieee.double.order x y == some .gt || Ieee.double.order x y == some .eq
  | _ => false
def cq (n : Int) : Nat := floatOfInt .f64 n
theorem oB (b : Nat) : (∃ s f, Ieee.double.read b = .nan s f ∧ Ieee.double.read (p8 b) = .nan false 2251799813685249) ∨ (p8 b = b ∧ (Ieee.double.read b).isNaN = false) := by
  unfold p8
  cases h : Ieee.double.read b with
  | nan s f => left; exact ⟨s, f, rfl, by show Ieee.double.read vK = _; decide⟩
  | number s m e => right; exact ⟨rfl, rfl⟩
  | infinity s => right; exact ⟨rfl, rfl⟩
theorem vL (d : Ieee.Datum) (s : Bool) (f : Nat) : d.sum (.nan s f) = none ∧ d.product (.nan s f) = none ∧ (∀ k, d.quotient k (.nan s f) = none) ∧ d.order (.nan s f) = none := by
  cases d <;> exact ⟨rfl, rfl, fun _ => rfl, rfl⟩
theorem vN (d : Ieee.Datum) (s : Bool) (f : Nat) : (Ieee.Datum.nan s f).sum d = none ∧ (Ieee.Datum.nan s f).product d = none ∧ (∀ k, (Ieee.Datum.nan s f).quotient k d = none) ∧ (Ieee.Datum.nan s f).order d = none := by
  cases d <;> exact ⟨rfl, rfl, fun _ => rfl, rfl⟩
theorem Ei (s : Bool) (f : Nat) : (Ieee.Datum.nan s f).opposite = .nan (!s) f := rfl
theorem AI (a b : Nat) : Ieee.double.order (p8 a) (p8 b) = Ieee.double.order a b := by
  unfold Ieee.Format.order
  rcases oB a with ⟨s, f, h1, h2⟩ | ⟨h1, _⟩ <;> rcases oB b with ⟨s', f', h3, h4⟩ | ⟨h3, _⟩
  · rw [h1, h2, h3, h4]; rfl
  · rw [h1, h2, (vN _ _ _).2.2.2, (vN _ _ _).2.2.2]
  · rw [h3, h4, (vL _ _ _).2.2.2, (vL _ _ _).2.2.2]
  · rw [h1, h3]
theorem Cp (op : BinOp) (a b : Nat) : iz op (p8 a) (p8 b) = iz op a b := by
  unfold iz; rw [AI]
theorem Cq (op : BinOp) (a b : Nat) : floatBits op .f64 (p8 a) (p8 b) = floatBits op .f64 a b := by
  unfold floatBits
  have e : (FloatKind.f64).format = Ieee.double := rfl
  rw [e]
  cases op <;> simp only [Ieee.Format.add, Ieee.Format.sub, Ieee.Format.mul, Ieee.Format.div]
  all_goals
    rcases oB a with ⟨s, f, h1, h2⟩ | ⟨h1, _⟩ <;> rcases oB b with ⟨s', f', h3, h4⟩ | ⟨h3, _⟩
    · rw [h1, h2, h3, h4]; rfl
    · rw [h1, h2]; simp [vN]
    · rw [h3, h4]; simp [vL, Ei]
    · rw [h1, h3]
theorem qO (neg : Bool) {Ej : Nat} (h : Ej ≤ Ieee.double.infRung) : (Ieee.double.read (Ieee.double.word neg Ej)).isNaN = false := by
  have h1 : Ieee.double.word neg Ej % Ieee.double.signWeight = Ej := by
    have hs : Ieee.double.infRung < Ieee.double.signWeight := by decide
    unfold Ieee.Format.word
    split
    · rw [Nat.add_mod_left, Nat.mod_eq_of_lt (by omega)]
    · rw [Nat.mod_eq_of_lt (by omega)]
  unfold Ieee.Format.read
  dsimp only
  rw [h1]
  split
  · rfl
  · split
    · rfl
    · split
      · rfl
      · omega
theorem mr {d : Ieee.Datum} (h : d.isNaN = false) : (Ieee.double.read (Ieee.double.write d)).isNaN = false := by
  cases d with
  | nan => cases h
  | infinity s => exact qO s (Nat.le_refl _)
  | number s m e =>
    unfold Ieee.Format.write Ieee.Format.nearest
    dsimp only
    split
    · exact qO s (Nat.zero_le _)
    · exact qO s (Nat.min_le_right ..)
theorem Cr {a b d : Ieee.Datum} (h : a.sum b = some d) : d.isNaN = false := by
  cases a <;> cases b <;> simp only [Ieee.Datum.sum] at h <;> first | cases h; done | skip
  · simp only [Option.some.injEq] at h; subst h; rfl
  · simp only [Option.some.injEq] at h; subst h; rfl
  · simp only [Option.some.injEq] at h; subst h; rfl
  · split at h
    · simp only [Option.some.injEq] at h; subst h; rfl
    · cases h
theorem yQ {a b d : Ieee.Datum} (h : a.product b = some d) : d.isNaN = false := by
  cases a <;> cases b <;> simp only [Ieee.Datum.product] at h <;> first | (cases h; done) | skip
  all_goals first
    | (simp only [Option.some.injEq] at h; subst h; rfl)
    | (split at h
       · cases h
       · simp only [Option.some.injEq] at h; subst h; rfl)
theorem xr {k : Nat} {a b d : Ieee.Datum} (h : a.quotient k b = some d) : d.isNaN = false := by
  cases a <;> cases b <;> simp only [Ieee.Datum.quotient] at h <;> first | (cases h; done) | skip
  all_goals first
    | (simp only [Option.some.injEq] at h; subst h; rfl)
    | (split at h
       · split at h
         · cases h
         · simp only [Option.some.injEq] at h; subst h; rfl
       · simp only [Option.some.injEq] at h; subst h; rfl)
theorem Ek {op : BinOp} {a b r : Nat} (h : floatBits op .f64 a b = some r) : Fl r r := by
  refine ⟨?_, ?_⟩
  · have := floatBits_wf h
    simpa [Lit.wf] using this
  · have h1 : (Ieee.double.read r).isNaN = false := by
      unfold floatBits at h
      have e : (FloatKind.f64).format = Ieee.double := rfl
      rw [e] at h
      split at h
      · obtain ⟨d, h2, rfl⟩ := Option.map_eq_some_iff.1 h; exact mr (Cr h2)
      · obtain ⟨d, h2, rfl⟩ := Option.map_eq_some_iff.1 h; exact mr (Cr h2)
      · obtain ⟨d, h2, rfl⟩ := Option.map_eq_some_iff.1 h; exact mr (yQ h2)
      · obtain ⟨d, h2, rfl⟩ := Option.map_eq_some_iff.1 h; exact mr (xr h2)
      · cases h
    unfold p8
    rw [h1]; rfl
theorem El (q : Question) (t : Nat) (k : Nat) (hq : ∃ x y, q = .nanBits .f64 x y) : Fl vK (q.cut t) := by
  obtain ⟨x, y, rfl⟩ := hq
  simp only [Question.cut]
  have h1 : t % 2 < 2 := Nat.mod_lt _ (by decide)
  have h2 : t / 2 % (2 ^ 52 - 1) < 2 ^ 52 - 1 := Nat.mod_lt _ (by decide)
  generalize t % 2 = u at *
  generalize t / 2 % (2 ^ 52 - 1) = v at *
  refine ⟨by omega, ?_⟩
  unfold p8
  have h3 : (Ieee.double.read (u * 2 ^ 63 + 0x7ff0000000000000 + 1 + v)).isNaN = true := by
    have hw : Ieee.double.signWeight = 2 ^ 63 := by decide
    have hi : Ieee.double.infRung = 0x7ff0000000000000 := by decide
    have hb : Ieee.double.binade = 2 ^ 52 := by decide
    unfold Ieee.Format.read
    dsimp only
    rw [hw, hi, hb]
    have h4 : (u * 2 ^ 63 + 0x7ff0000000000000 + 1 + v) % 2 ^ 63 = 0x7ff0000000000000 + 1 + v := by omega
    rw [h4, if_neg (by omega), if_neg (by omega), if_neg (by omega)]
    rfl
  rw [h3]; rfl
theorem Em {P : Program} {w : World} {op : BinOp} {t : TypeId} {x y a b : Nat} (yJ : op = .add ∨ op = .sub ∨ op = .mul ∨ op = .quo) (hx : Fl x a) (hy : Fl y b) :
    ∃ r w', (binOp op t (.float .f64 a) (.float .f64 b)).run P w = .ok (.float .f64 r) w' ∧ Fl (ic op x y) r ∧ (w' = w ∨ w' = w.drewN 1) := by
  have e : floatBits op .f64 x y = floatBits op .f64 a b := by rw [← hx.2, ← hy.2, Cq]
  cases h : floatBits op .f64 a b with
  | some r =>
    refine ⟨r, w, run_float_arith w op t .f64 a b r h, ?_, .inl rfl⟩
    unfold ic; rw [e, h]; exact Ek h
  | none =>
    refine ⟨(Question.nanBits .f64 a b).cut (w.tape w.drawn (.nanBits .f64 a b)), w.drewN 1, ?_, ?_, .inr rfl⟩
    · have h' := h
      unfold floatBits at h'
      rcases yJ with rfl | rfl | rfl | rfl <;> simp only at h' <;> simp [binOp, Op.floatArith, h', choose, Sem.run, Question.forced, World.drewN]
    · unfold ic; rw [e, h]; exact El _ _ 0 ⟨_, _, rfl⟩
theorem Cs {P : Program} {w : World} {op : BinOp} {t : TypeId} {x y a b : Nat} (yJ : op = .eql ∨ op = .neq ∨ op = .lss ∨ op = .leq ∨ op = .gtr ∨ op = .geq) (hx : Fl x a) (hy : Fl y b) :
    (binOp op t (.float .f64 a) (.float .f64 b)).run P w = .ok (SV.val (.b (iz op x y))) w := by
  rw [← hx.2, ← hy.2, Cp]
  rcases yJ with rfl | rfl | rfl | rfl | rfl | rfl <;> simp [binOp, Op.floatCmp, SV.val, iz, FloatKind.format]
theorem Ct {P : Program} {w : World} {src dst : TypeId} {n : Int} {q : IntKind} (hs : (P.underlying src).isSome = true) (hd : P.underlying dst = some (.float .f64)) :
    (convert src dst (.int q n)).run P w = .ok (.float .f64 (cq n)) w := run_convert_int_float w src dst q .f64 n hs hd
theorem Cu {d : Ieee.Datum} (hd : d.isNaN = false) : Fl (Ieee.double.write d) (Ieee.double.write d) := by
  have h2 : Ieee.double.write d < 2 ^ Ieee.double.width := Ieee.Format.write_lt _ _
  have h4 : (Ieee.double.read (Ieee.double.write d)).isNaN = false := mr hd
  have h3 : (2 ^ Ieee.double.width : Nat) = 18446744073709551616 := by decide
  rw [h3] at h2
  refine ⟨h2, ?_⟩
  unfold p8
  rw [if_neg (by rw [h4]; decide)]
theorem zL (n : Int) : cq n = Ieee.double.write (.number (n < 0) n.natAbs 0) := by
  unfold cq floatOfInt FloatKind.nearest FloatKind.encode FloatKind.format
  rfl
theorem kQ (n : Int) : Fl (cq n) (cq n) := by
  rw [zL]
  exact Cu rfl
def eF : bx UInt64 := ⟨1, fun a => [.float .f64 a.toNat], fun _ => rfl, fun x v h => by rw [List.mem_singleton.1 h]; rfl⟩
instance : Pos eF := ⟨by decide⟩
theorem Fl.lit {c : Nat} (h : (decide (c < 18446744073709551616) && (p8 c == c)) = true) : Fl c c := by
  simp only [Bool.and_eq_true, decide_eq_true_eq, beq_iff_eq] at h
  exact ⟨h.1, h.2⟩
section
variable {P : Program} {n : Nat} {ops : Array Oper} {L : St} {w w0 : World} {F O : Nat → Prop} {GI : List HP} {K : St → World → Prop}
theorem kE {dst : Option Nat} {uF : BinOp} {t ty : TypeId} {x y : Operand} {pp : TypeId} {pos : String} {cv : Array Edge} {g : Option (Nat × Bool)} (ss : List Nat) (d : Nat) {X Y u v : Nat}
    (hs : (jO ops ss L ⟨dst, .binOp uF t x y pp, ty, pos, cv, g⟩, dst, (decide (d < n)), (L.any fun p => p.1 == d), (toSS [x, y] (lk L)).map SV.ak) = (true, some d, true, false, some [.float .f64 u, .float .f64 v]))
    (yJ : uF = .add ∨ uF = .sub ∨ uF = .mul ∨ uF = .quo) (hx : Fl X u) (hy : Fl Y v) (k : Cx F O w0 w GI) (hk : ∀ r w', Fl (ic uF X Y) r → Cx F O w0 w' GI → K ((d, .v (.float .f64 r)) :: L) w') :
    ji P n ops L w ⟨dst, .binOp uF t x y pp, ty, pos, cv, g⟩ K := by
  simp only [Prod.mk.injEq, Option.map_eq_some_iff, decide_eq_true_eq] at hs
  obtain ⟨s1, rfl, s3, s4, ⟨svs, s5, s6⟩⟩ := hs
  refine iy (xs := [x, y]) (svs := svs) ss (d := d) (by simp [k8, s1, s3, s4, s5]) fun a ha he => ?_
  rw [s6] at he
  simp only [List.map_cons, List.map_nil, List.cons.injEq, and_true] at he
  obtain ⟨r, w', h1, h2, h3⟩ := Em (P := P) (w := w) (t := t) yJ hx hy
  have hg : (eqGuard uF t x y (.float .f64 u) (.float .f64 v)).run P w = .ok () w := by
    rcases yJ with rfl | rfl | rfl | rfl <;> rfl
  unfold Oper.wp execOp
  simp only [he.1, he.2, Sem.run_bind, hg, h1, Result.andThen_ok, Sem.run_pure]
  refine ⟨.v (.float .f64 r), rfl, hk r w' h2 ?_⟩
  rcases h3 with rfl | rfl
  · exact k
  · exact k.drew 1
theorem p9 {dst : Option Nat} {uF : BinOp} {t ty : TypeId} {x y : Operand} {pp : TypeId} {pos : String} {cv : Array Edge} {g : Option (Nat × Bool)} (ss : List Nat) (d : Nat) {X Y u v : Nat}
    (hs : (jO ops ss L ⟨dst, .binOp uF t x y pp, ty, pos, cv, g⟩, dst, (decide (d < n)), (L.any fun p => p.1 == d), (toSS [x, y] (lk L)).map SV.ak) = (true, some d, true, false, some [.float .f64 u, .float .f64 v]))
    (yJ : uF = .eql ∨ uF = .neq ∨ uF = .lss ∨ uF = .leq ∨ uF = .gtr ∨ uF = .geq) (hx : Fl X u) (hy : Fl Y v) (hk : K ((d, .b (iz uF X Y)) :: L) w) :
    ji P n ops L w ⟨dst, .binOp uF t x y pp, ty, pos, cv, g⟩ K := by
  simp only [Prod.mk.injEq, Option.map_eq_some_iff, decide_eq_true_eq] at hs
  obtain ⟨s1, rfl, s3, s4, ⟨svs, s5, s6⟩⟩ := hs
  refine iy (xs := [x, y]) (svs := svs) ss (d := d) (by simp [k8, s1, s3, s4, s5]) fun a ha he => ?_
  rw [s6] at he
  simp only [List.map_cons, List.map_nil, List.cons.injEq, and_true] at he
  have h1 := Cs (P := P) (w := w) (t := t) yJ hx hy
  have hg : (eqGuard uF t x y (.float .f64 u) (.float .f64 v)).run P w = .ok () w := by
    rcases yJ with rfl | rfl | rfl | rfl | rfl | rfl <;> rfl
  unfold Oper.wp execOp
  simp only [he.1, he.2, Sem.run_bind, hg, h1, Result.andThen_ok, Sem.run_pure]
  exact ⟨.b (iz uF X Y), rfl, hk⟩
theorem kR {dst : Option Nat} {src t ty : TypeId} {x : Operand} {pos : String} {cv : Array Edge} {g : Option (Nat × Bool)} (ss : List Nat) (d : Nat) {q : IntKind} {m : Int}
    (hs : (jO ops ss L ⟨dst, .convert src t x, ty, pos, cv, g⟩, dst, (decide (d < n)), (L.any fun p => p.1 == d), (toSS [x] (lk L)).map SV.ak, (P.underlying src).isSome, P.underlying t) = (true, some d, true, false, some [.int q m], true, some (.float .f64)))
    (hk : K ((d, .v (.float .f64 (cq m))) :: L) w) : ji P n ops L w ⟨dst, .convert src t x, ty, pos, cv, g⟩ K := by
  simp only [Prod.mk.injEq, Option.map_eq_some_iff, decide_eq_true_eq] at hs
  obtain ⟨s1, rfl, s3, s4, ⟨svs, s5, s6⟩, s7, s8⟩ := hs
  refine iy (xs := [x]) (svs := svs) ss (d := d) (by simp [k8, s1, s3, s4, s5]) fun a ha he => ?_
  rw [s6] at he
  simp only [List.map_cons, List.map_nil, List.cons.injEq, and_true] at he
  unfold Oper.wp execOp
  simp only [he, Sem.run_bind, Ct s7 s8, Result.andThen_ok, Sem.run_pure]
  exact ⟨.v (.float .f64 (cq m)), rfl, hk⟩
end
section
variable {P : Program} {n : Nat} {ops : Array Oper} {L : St} {w : World} {K : St → World → Prop}
end
end Go.Sx
namespace Go.Sx
open Go.RowKit
set_option linter.unusedSimpArgs false
set_option linter.unusedVariables false
section
variable {H : Type} {enc : TypeId × Value → H} {P : Program} {w : World} {held : Bool}
end
end Go.Sx
namespace Go.Sx
open Go.RowKit Go.MapKept
set_option linter.unusedSimpArgs false
set_option linter.unusedVariables false
variable {α β γ δ ε ζ σ : Type}
abbrev Ky := List UInt8
abbrev Mp (δ : Type) := List (List UInt8 × δ)
def kX (m : Mp δ) : Prop := (m.map (·.1)).Pairwise (· < ·)
def aO (m : Mp δ) (k : Ky) : Option δ := match m with
  | [] => none
  | p :: r => if p.1 = k then some p.2 else aO r k
def bq (m : Mp δ) (k : Ky) (v : δ) : Mp δ := match m with
  | [] => [(k, v)]
  | p :: r => if k = p.1 then (k, v) :: r else if k < p.1 then (k, v) :: p :: r else p :: bq r k v
theorem vO (a b : Ky) : a < b ∨ a = b ∨ b < a := by
  rcases Decidable.em (a < b) with h | h
  · exact .inl h
  · rcases Decidable.em (b < a) with h2 | h2
    · exact .inr (.inr h2)
    · exact .inr (.inl (List.le_antisymm (List.not_lt.1 h2) (List.not_lt.1 h)))
theorem kX.nil : kX ([] : Mp δ) := List.Pairwise.nil
theorem kX.cons {p : Ky × δ} {r : Mp δ} : kX (p :: r) ↔ (∀ q ∈ r, p.1 < q.1) ∧ kX r := by
  unfold kX
  rw [List.map_cons, List.pairwise_cons]
  simp only [List.mem_map, forall_exists_index, and_imp, forall_apply_eq_imp_iff₂]
theorem kX.nodup {m : Mp δ} (h : kX m) : (m.map (·.1)).Nodup := List.Pairwise.imp (fun {a b} K9 (e : a = b) => List.lt_irrefl b (e ▸ K9)) h
theorem pq {m : Mp δ} {k : Ky} : aO m k = none ↔ k ∉ m.map (·.1) := by
  induction m with
  | nil => simp [aO]
  | cons p r ih =>
    unfold aO
    by_cases h : p.1 = k
    · simp [h]
    · rw [if_neg h, ih]
      simp only [List.map_cons, List.mem_cons, not_or]
      exact ⟨fun hr => ⟨fun e => h e.symm, hr⟩, fun hr => hr.2⟩
theorem oC {m : Mp δ} {k : Ky} {v : δ} (h : aO m k = some v) : (k, v) ∈ m := by
  induction m with
  | nil => cases h
  | cons p r ih =>
    unfold aO at h
    by_cases hp : p.1 = k
    · rw [if_pos hp] at h
      obtain rfl := Option.some.inj h
      subst hp
      exact List.mem_cons_self
    · rw [if_neg hp] at h
      exact List.mem_cons_of_mem _ (ih h)
theorem dF {m : Mp δ} {k : Ky} {v : δ} (hn : (m.map (·.1)).Nodup) (h : (k, v) ∈ m) : aO m k = some v := by
  induction m with
  | nil => cases h
  | cons p r ih =>
    rw [List.map_cons, List.nodup_cons] at hn
    unfold aO
    rcases List.mem_cons.1 h with rfl | h
    · rw [if_pos rfl]
    · rw [if_neg (by intro e; exact hn.1 (by rw [e]; exact List.mem_map.2 ⟨_, h, rfl⟩)), ih hn.2 h]
theorem kX.eq {m m' : Mp δ} (h : kX m) (h' : kX m') (hp : m.Perm m') : m = m' := by
  induction m generalizing m' with
  | nil => exact (List.Perm.nil_eq hp)
  | cons p r ih =>
    cases m' with
    | nil => exact absurd hp.symm.nil_eq (by simp)
    | cons q s =>
      rw [kX.cons] at h h'
      have Mk : p = q := by
        have h1 : p ∈ q :: s := hp.mem_iff.1 List.mem_cons_self
        have h2 : q ∈ p :: r := hp.mem_iff.2 List.mem_cons_self
        rcases List.mem_cons.1 h1 with e | h1
        · exact e
        · rcases List.mem_cons.1 h2 with e | h2
          · exact e.symm
          · exact absurd (List.lt_trans (h.1 q h2) (h'.1 p h1)) (List.lt_irrefl _)
      subst Mk
      rw [ih h.2 h'.2 (List.Perm.cons_inv hp)]
theorem AJ {m : Mp δ} {k : Ky} (v : δ) (h : k ∉ m.map (·.1)) : (bq m k v).Perm ((k, v) :: m) := by
  induction m with
  | nil => exact .refl _
  | cons p r ih =>
    simp only [List.map_cons, List.mem_cons, not_or] at h
    unfold bq
    rw [if_neg h.1]
    split
    · exact .refl _
    · exact (List.Perm.cons _ (ih h.2)).trans (.swap _ _ _)
theorem AK {m : Mp δ} {k : Ky} {v : δ} {q : Ky × δ} (h : q ∈ bq m k v) : q = (k, v) ∨ (q ∈ m ∧ (kX m → q.1 ≠ k)) := by
  induction m with
  | nil => exact .inl (List.mem_singleton.1 h)
  | cons p r ih =>
    unfold bq at h
    split at h
    · rename_i he
      rcases List.mem_cons.1 h with h | h
      · exact .inl h
      · refine .inr ⟨List.mem_cons_of_mem _ h, fun hs e => ?_⟩
        rw [kX.cons] at hs
        have := hs.1 q h
        rw [e, he] at this
        exact List.lt_irrefl _ this
    · rename_i gf
      split at h
      · rename_i eN
        rcases List.mem_cons.1 h with h | h
        · exact .inl h
        · refine .inr ⟨h, fun hs e => ?_⟩
          rw [kX.cons] at hs
          rcases List.mem_cons.1 h with rfl | h
          · exact gf e.symm
          · have := List.lt_trans eN (hs.1 q h)
            rw [e] at this
            exact List.lt_irrefl _ this
      · rcases List.mem_cons.1 h with rfl | h
        · exact .inr ⟨List.mem_cons_self, fun _ e => gf e.symm⟩
        · rcases ih h with e | ⟨h1, h2⟩
          · exact .inl e
          · exact .inr ⟨List.mem_cons_of_mem _ h1, fun hs => h2 (kX.cons.1 hs).2⟩
theorem kX.bq {m : Mp δ} (h : kX m) (k : Ky) (v : δ) : kX (bq m k v) := by
  induction m with
  | nil => rw [Sx.bq, kX.cons]; exact ⟨fun q hq => (by cases hq), kX.nil⟩
  | cons p r ih =>
    rw [kX.cons] at h
    unfold Sx.bq
    split
    · rename_i he
      rw [kX.cons]
      exact ⟨fun q hq => by rw [he]; exact h.1 q hq, h.2⟩
    · rename_i gf
      split
      · rename_i eN
        rw [kX.cons, kX.cons]
        refine ⟨fun q hq => ?_, h⟩
        rcases List.mem_cons.1 hq with rfl | hq
        · exact eN
        · exact List.lt_trans eN (h.1 q hq)
      · rename_i Hn
        rw [kX.cons]
        refine ⟨fun q hq => ?_, ih h.2⟩
        rcases AK hq with rfl | ⟨hq, _⟩
        · rcases vO k p.1 with q | q | q
          · exact absurd q Hn
          · exact absurd q gf
          · exact q
        · exact h.1 q hq
theorem Cv {m : Mp δ} (h : kX m) {k : Ky} {v0 : δ} (v : δ) (hm : (k, v0) ∈ m) : ∃ a b, m = a ++ (k, v0) :: b ∧ bq m k v = a ++ (k, v) :: b := by
  induction m with
  | nil => cases hm
  | cons p r ih =>
    rw [kX.cons] at h
    rcases List.mem_cons.1 hm with rfl | hm
    · refine ⟨[], r, rfl, ?_⟩
      unfold bq
      rw [if_pos rfl]; rfl
    · have eN := h.1 _ hm
      have gf : ¬ k = p.1 := fun e => by
        have h1 : p.1 < k := eN
        rw [e] at h1
        exact List.lt_irrefl _ h1
      have Hn : ¬ k < p.1 := fun e => List.lt_irrefl _ (List.lt_trans eN e)
      obtain ⟨a, b, e1, e2⟩ := ih h.2 hm
      refine ⟨p :: a, b, by rw [e1]; rfl, ?_⟩
      unfold bq
      rw [if_neg gf, if_neg Hn, e2]; rfl
theorem kX.ext {m m' : Mp δ} (h : kX m) (h' : kX m') (he : ∀ k, aO m k = aO m' k) : m = m' := by
  refine h.eq h' ((List.perm_ext_iff_of_nodup ?_ ?_).2 fun p => ?_)
  · exact (List.pairwise_map.1 h.nodup).imp (fun gf e => gf (by rw [e]))
  · exact (List.pairwise_map.1 h'.nodup).imp (fun gf e => gf (by rw [e]))
  · obtain ⟨k, v⟩ := p
    constructor
    · intro hm
      exact oC ((he k) ▸ dF h.nodup hm)
    · intro hm
      exact oC ((he k).symm ▸ dF h'.nodup hm)
def dG {ε σ : Type} (f : σ → ε → Option σ) : σ → List ε → Option σ
  | s, [] => some s
  | s, x :: l => (f s x).bind fun s' => dG f s' l
def Comm (f : σ → Ky × δ → Option σ) : Prop := ∀ s a b, a.1 ≠ b.1 → (f s a).bind (fun s' => f s' b) = (f s b).bind (fun s' => f s' a)
theorem yR {f : σ → Ky × δ → Option σ} (hc : Comm f) {l l' : Mp δ} (hp : l.Perm l') : ∀ s, (l.map (·.1)).Nodup → dG f s l = dG f s l' := by
  induction hp with
  | nil => intro s _; rfl
  | cons x _ ih =>
    intro s hn
    rw [List.map_cons, List.nodup_cons] at hn
    simp only [dG]
    congr 1
    funext s'
    exact ih s' hn.2
  | swap x y l =>
    intro s hn
    rw [List.map_cons, List.map_cons, List.nodup_cons] at hn
    simp only [dG]
    have gf : y.1 ≠ x.1 := fun e => hn.1 (by rw [e]; exact List.mem_cons_self)
    have := hc s y x gf
    rw [← Option.bind_assoc, this, Option.bind_assoc]
  | trans h1 h2 Mo Mq =>
    intro s hn
    rw [Mo s hn, Mq s (((h1.map _).nodup_iff).1 hn)]
theorem jR {f : σ → Ky × δ → Option σ} (hc : Comm f) {l l' : Mp δ} {x : Ky × δ} {s r : σ} (hp : l.Perm (x :: l')) (hn : (l.map (·.1)).Nodup) (h : dG f s l = some r) : ∃ s', f s x = some s' ∧ dG f s' l' = some r := by
  rw [yR hc hp s hn, dG, Option.bind_eq_some_iff] at h
  exact h
theorem kY {f : σ → ε → Option σ} {l : List ε} {s r : σ} (hl : l = []) (h : dG f s l = some r) : s = r := by
  subst hl
  exact Option.some.inj h
end Go.Sx
namespace Go.Sx
open Go.RowKit Go.MapKept
set_option linter.unusedSimpArgs false
set_option linter.unusedVariables false
variable {α β γ δ ε ζ σ ι : Type}
def Px (φ : ι → Prop) (l : ι → List HP) : HP where
  p w S R := ∃ i, φ i ∧ Sep w (l i) S R
  loc := by
    rintro w w' S R ⟨i, h0, h⟩ hk
    exact ⟨i, h0, h.lL hk⟩
section
variable {F O : Nat → Prop} {w0 w w' : World} {hs rest : List HP}
theorem Cx.AL {φ : ι → Prop} {l : ι → List HP} (k : Cx F O w0 w (Px φ l :: rest)) : ∃ i, φ i ∧ Cx F O w0 w (l i ++ rest) := by
  obtain ⟨U, V, ⟨S, R, U', V', ⟨i, hq, h1⟩, h2, h3, h4, h5, h6⟩, hU, hV⟩ := k.sep
  exact ⟨i, hq, k.os, k.tape, k.output, k.size, k.block, k.fin, k.qG, _, _, Sep.join h1 h2 (fun b hb => ⟨(h5 b hb).1, (h5 b hb).2.2⟩) h6, fun b hb => hU b ((h3 b).2 hb), fun b hb => hV b ((h4 b).2 hb)⟩
theorem Cx.Ka {φ : ι → Prop} {l : ι → List HP} (i : ι) (hq : φ i) (k : Cx F O w0 w (l i ++ rest)) : Cx F O w0 w (Px φ l :: rest) := by
  obtain ⟨U, V, h, hU, hV⟩ := k.sep
  obtain ⟨U1, V1, U2, V2, e1, e2, e3, e4, e5, e6⟩ := Sep.split h
  exact ⟨k.os, k.tape, k.output, k.size, k.block, k.fin, k.qG, U, V, ⟨U1, V1, U2, V2, ⟨i, hq, e1⟩, e2, e3, e4, fun b hb => ⟨(e5 b hb).1, fun hr => Sep.apart e1 b hb hr, (e5 b hb).2⟩, e6⟩, hU, hV⟩
theorem Cx.Ho {h h' : HP} (k : Cx F O w0 w hs) (i : Nat) (hi : hs[i]? = some h) (hp : ∀ S R, h.p w S R → h'.p w (fun _ => False) R) : Cx F O w0 w (h' :: hs) := by
  obtain ⟨U, V, h1, hU, hV⟩ := k.sep
  obtain ⟨S, R, U', V', e1, e2, e3, e4, e5, e6⟩ := Sep.cut hi h1
  refine ⟨k.os, k.tape, k.output, k.size, k.block, k.fin, k.qG, U, V, ⟨_, R, U, V, hp _ _ e1, h1, fun b => ⟨.inr, fun h => h.elim (fun h => h.elim) id⟩, fun b => ⟨.inr, fun h => h.elim (fun h => (e4 b).2 (.inl h)) id⟩, fun b hb => hb.elim, fun b hb hu => ?_⟩, hU, hV⟩
  exact Sep.apart h1 b hu ((e4 b).2 (.inl hb))
end
structure Vl (γ δ : Type) where
  V : γ → Value
  q : Rl γ δ
  inj : ∀ a b, V a = V b → a = b
def vI : Vl Int Int := ⟨fun y => .int .i64 y, SQ, fun a b h => by simpa using h⟩
def vH (E : bx α) : Vl Hd (List α) := ⟨hV, SH E, fun a b h => by
  obtain ⟨a1, a2, a3⟩ := a
  obtain ⟨b1, b2, b3⟩ := b
  simp only [hV, Value.slice.injEq] at h
  obtain ⟨rfl, rfl, rfl⟩ := h
  rfl⟩
def vS (E : bx α) (hE : ∀ a b, E.f a = E.f b → a = b) : Vl α α := ⟨fun y => .agg ⟨E.f y⟩, SQ, fun a b h => by
  simp only [Value.agg.injEq, Array.mk.injEq] at h
  exact hE a b h⟩
def kx (e : Ky × γ × δ) : Ky × δ := (e.1, e.2.2)
def Jc (w : World) (b : Nat) (ks : List Ky) (vs : List Value) : Prop :=
  ks.length = vs.length ∧ ∃ (es : Array MapEntry) (clock : Nat), w.heap[b]? = some (.map es clock) ∧ es.toList.map (·.key) = ks.map kV ∧ es.toList.map (·.val) = vs ∧ Stamped es clock
def jg (l : List (Ky × γ × δ)) : List Ky := l.map (·.1)
def nM (v : Vl γ δ) (l : List (Ky × γ × δ)) : List Value := l.map fun e => v.V e.2.1
def Fits (m : Mp δ) (l : List (Ky × γ × δ)) : Prop := (l.map kx).Perm m ∧ kX m
def MS (v : Vl γ δ) (b : Nat) (m : Mp δ) : HP := Px (Fits (γ := γ) m) fun l => [Mb b (jg l) (nM v l), Sh v.q (l.map (·.2.1)) (l.map (·.2.2))]
def RM (v : Vl γ δ) : Rl Nat (Mp δ) where
  r w R b m := R b ∧ ∃ l : List (Ky × γ × δ), Fits m l ∧ Jc w b (jg l) (nM v l) ∧ ∀ e ∈ l, v.q.r w R e.2.1 e.2.2
  loc := by
    rintro w w' R b m ⟨h0, l, h1, ⟨h2, es, clock, h3, h4⟩, h5⟩ hk
    exact ⟨h0, l, h1, ⟨h2, es, clock, by rw [hk b h0]; exact h3, h4⟩, fun e he => v.q.loc _ _ _ _ _ (h5 e he) hk⟩
  mono := by
    rintro w R R' b m hR ⟨h0, l, h1, h2, h5⟩
    exact ⟨hR _ h0, l, h1, h2, fun e he => v.q.mono _ _ _ _ _ hR (h5 e he)⟩
def vM (v : Vl γ δ) : Vl Nat (Mp δ) := ⟨fun b => .map (some b), RM v, fun a b h => by simpa using h⟩
theorem Fits.none {m : Mp δ} {l : List (Ky × γ × δ)} (h : Fits m l) {key : Ky} (hk : kK (jg l) key = none) : aO m key = none := by
  rw [pq]
  rw [mR] at hk
  intro q
  apply hk
  obtain ⟨p, hp, rfl⟩ := List.mem_map.1 q
  obtain ⟨e, he, rfl⟩ := List.mem_map.1 (h.1.mem_iff.2 hp)
  exact List.mem_map.2 ⟨e, he, rfl⟩
theorem Fits.some {m : Mp δ} {l : List (Ky × γ × δ)} (h : Fits m l) {key : Ky} {j : Nat} (hk : kK (jg l) key = some j) : ∃ e, l[j]? = some e ∧ e.1 = key ∧ aO m key = some e.2.2 := by
  have h1 := sW hk
  unfold jg at h1
  rw [List.getElem?_map, Option.map_eq_some_iff] at h1
  obtain ⟨e, he, h2⟩ := h1
  refine ⟨e, he, h2, dF h.2.nodup ?_⟩
  rw [← h2]
  exact h.1.mem_iff.1 (List.mem_map.2 ⟨e, List.mem_of_getElem? he, rfl⟩)
theorem Fits.len {m : Mp δ} {l : List (Ky × γ × δ)} (h : Fits m l) : (jg l).length = m.length := by
  have := h.1.length_eq
  simpa [jg] using this
section
variable {F O : Nat → Prop} {w0 w w' : World} {hs rest : List HP}
def Acc (F O : Nat → Prop) (w0 w : World) (v : Vl γ δ) (b : Nat) (m : Mp δ) (hs : List HP) : Prop :=
  ∃ l : List (Ky × γ × δ), Fits m l ∧ Jc w b (jg l) (nM v l) ∧ ∀ e ∈ l, Cx F O w0 w (Sh v.q [e.2.1] [e.2.2] :: hs)
theorem Cw {b : Nat} {ks : List Ky} {vs : List Value} {S R : Nat → Prop} (h : (Mb b ks vs).p w S R) : Jc w b ks vs := ⟨h.1, h.2.1⟩
theorem Cx.acc {v : Vl γ δ} {b : Nat} {m : Mp δ} (k : Cx F O w0 w (MS v b m :: rest)) : Acc F O w0 w v b m (MS v b m :: rest) := by
  obtain ⟨l, hf, k1⟩ := k.AL
  obtain ⟨S, R, hb⟩ := k1.get 0 rfl
  refine ⟨l, hf, Cw hb, fun e he => ?_⟩
  refine k.Ho 0 rfl fun S R ⟨l', xb, pf⟩ => ?_
  obtain ⟨S1, R1, U1, V1, e1, e2, e3, e4, _⟩ := Sep.cut (i := 0) rfl pf
  obtain ⟨S2, R2, U2, V2, g1, g2, g3, g4, _⟩ := Sep.cut (i := 0) rfl e2
  obtain ⟨_, es, clock, m1, m2, m3, _⟩ := Cw hb
  obtain ⟨_, es', clock', n1, n2, n3, _⟩ := Cw e1
  rw [m1] at n1
  obtain ⟨rfl, rfl⟩ : es = es' ∧ clock = clock' := by simpa using n1
  obtain ⟨j, hj⟩ := List.getElem?_of_mem he
  have hk : (jg l)[j]? = (jg l')[j]? := by
    have : (jg l).map kV = (jg l').map kV := m2.symm.trans n2
    have h1 := congrArg (fun x => x[j]?) this
    simp only [List.getElem?_map] at h1
    cases ha : (jg l)[j]? <;> cases hb : (jg l')[j]? <;> rw [ha, hb] at h1 <;> simp at h1 <;> first | rfl | rw [pn h1]
  have hv : (nM v l)[j]? = (nM v l')[j]? := by rw [← m3, ← n3]
  unfold jg at hk
  unfold nM at hv
  rw [List.getElem?_map, List.getElem?_map, hj] at hk hv
  cases wY : l'[j]? with
  | none => rw [wY] at hk; cases hk
  | some e' =>
    rw [wY] at hk hv
    simp only [Option.map_some, Option.some.injEq] at hk hv
    have hy := v.inj _ _ hv
    have hx : e.2.2 = e'.2.2 := by
      have q1 := dF hf.2.nodup (hf.1.mem_iff.1 (List.mem_map.2 ⟨e, he, rfl⟩))
      have q2 := dF xb.2.nodup (xb.1.mem_iff.1 (List.mem_map.2 ⟨e', List.mem_of_getElem? wY, rfl⟩))
      rw [hk] at q1
      exact Option.some.inj (q1.symm.trans q2)
    refine ⟨fun _ h => h, rfl, fun j2 y x h1 h2 => ?_⟩
    cases j2 with
    | succ j2 => cases h1
    | zero =>
      obtain rfl := Option.some.inj h1
      obtain rfl := Option.some.inj h2
      rw [hy, hx]
      refine v.q.mono _ _ _ _ _ (fun b hb => (e4 b).2 (.inr ((g4 b).2 (.inl hb)))) (g1.2.2 j _ _ ?_ ?_)
      · rw [List.getElem?_map, wY]; rfl
      · rw [List.getElem?_map, wY]; rfl
theorem Cx.Hp {v : Vl γ δ} {b : Nat} {m : Mp δ} (k : Cx F O w0 w hs) (i : Nat) (hi : hs[i]? = some (Sh (RM v) [b] [m])) : Acc F O w0 w v b m hs := by
  obtain ⟨S, R, hh⟩ := k.get i hi
  obtain ⟨_, l, hf, hm, _⟩ := hh.2.2 0 _ _ rfl rfl
  refine ⟨l, hf, hm, fun e he => ?_⟩
  refine k.Ho i hi fun S R Eg => ?_
  obtain ⟨_, l', xb, Ln, hq⟩ := Eg.2.2 0 _ _ rfl rfl
  obtain ⟨_, es, clock, m1, m2, m3, _⟩ := hm
  obtain ⟨_, es', clock', n1, n2, n3, _⟩ := Ln
  rw [m1] at n1
  obtain ⟨rfl, rfl⟩ : es = es' ∧ clock = clock' := by simpa using n1
  obtain ⟨j, hj⟩ := List.getElem?_of_mem he
  have hk : (jg l)[j]? = (jg l')[j]? := by
    have : (jg l).map kV = (jg l').map kV := m2.symm.trans n2
    have h1 := congrArg (fun x => x[j]?) this
    simp only [List.getElem?_map] at h1
    cases ha : (jg l)[j]? <;> cases hb : (jg l')[j]? <;> rw [ha, hb] at h1 <;> simp at h1 <;> first | rfl | rw [pn h1]
  have hv : (nM v l)[j]? = (nM v l')[j]? := by rw [← m3, ← n3]
  unfold jg at hk
  unfold nM at hv
  rw [List.getElem?_map, List.getElem?_map, hj] at hk hv
  cases wY : l'[j]? with
  | none => rw [wY] at hk; cases hk
  | some e' =>
    rw [wY] at hk hv
    simp only [Option.map_some, Option.some.injEq] at hk hv
    have hy := v.inj _ _ hv
    have hx : e.2.2 = e'.2.2 := by
      have q1 := dF hf.2.nodup (hf.1.mem_iff.1 (List.mem_map.2 ⟨e, he, rfl⟩))
      have q2 := dF xb.2.nodup (xb.1.mem_iff.1 (List.mem_map.2 ⟨e', List.mem_of_getElem? wY, rfl⟩))
      rw [hk] at q1
      exact Option.some.inj (q1.symm.trans q2)
    refine ⟨fun _ h => h, rfl, fun j2 y x h1 h2 => ?_⟩
    cases j2 with
    | succ j2 => cases h1
    | zero =>
      obtain rfl := Option.some.inj h1
      obtain rfl := Option.some.inj h2
      rw [hy, hx]
      exact hq e' (List.mem_of_getElem? wY)
theorem Cx.Eo {v : Vl γ δ} {b : Nat} {m : Mp δ} (l : List (Ky × γ × δ)) (hf : Fits m l) (k : Cx F O w0 w (Mb b (jg l) (nM v l) :: Sh v.q (l.map (·.2.1)) (l.map (·.2.2)) :: rest)) : Cx F O w0 w (MS v b m :: rest) :=
  Cx.Ka (φ := Fits (γ := γ) m) (l := fun l => [Mb b (jg l) (nM v l), Sh v.q (l.map (·.2.1)) (l.map (·.2.2))]) l hf k
theorem Cx.qP {v : Vl γ δ} {b : Nat} (k : Cx F O w0 w (hs ++ [Mb b [] []])) : Cx F O w0 w (MS v b [] :: hs) := by
  refine Cx.Eo [] ⟨.refl _, kX.nil⟩ ?_
  have k1 : Cx F O w0 w (Mb b [] [] :: hs) := k.perm (List.perm_append_comm (l₂ := [_]))
  exact (k1.Lr v.q).perm (.swap _ _ _)
theorem Cx.Hq {v : Vl γ δ} {b : Nat} {m : Mp δ} (k : Cx F O w0 w (MS v b m :: rest)) : Cx F O w0 w (Sh (RM v) [b] [m] :: rest) := by
  have := k.I5 (h' := Sh (RM v) [b] [m]) 0 rfl Option.none ⟨rfl, rfl, rfl, Nat.le_refl _, fun _ _ _ => rfl⟩ fun S R h1 h2 h3 => by
    refine ⟨fun g hg => (by cases hg), fun _ => False, fun b => R b ∨ S b, ⟨fun _ h => h, rfl, fun j y x e1 e2 => ?_⟩, fun b hb => hb.elim, fun b hb => ⟨h3 b (hb.elim .inr .inl), hb.elim .inl (fun h => .inr (.inl h))⟩⟩
    cases j with
    | succ j => cases e1
    | zero =>
      obtain rfl := Option.some.inj e1
      obtain rfl := Option.some.inj e2
      obtain ⟨l, hf, pf⟩ := h1
      obtain ⟨S1, R1, U1, V1, e1, e2, e3, e4, _⟩ := Sep.cut (i := 0) rfl pf
      obtain ⟨S2, R2, U2, V2, g1, g2, g3, g4, _⟩ := Sep.cut (i := 0) rfl e2
      refine ⟨.inr ((e3 _).2 (.inl e1.2.2)), l, hf, Cw e1, fun e he => ?_⟩
      obtain ⟨j, hj⟩ := List.getElem?_of_mem he
      refine v.q.mono _ _ _ _ _ (fun b hb => .inl ((e4 b).2 (.inr ((g4 b).2 (.inl hb))))) (g1.2.2 j _ _ ?_ ?_)
      · rw [List.getElem?_map, hj]; rfl
      · rw [List.getElem?_map, hj]; rfl
  simpa only [List.set_cons_zero] using this
end
section
variable {P : Program} {n : Nat} {ops : Array Oper} {L : St} {w w0 : World} {F O : Nat → Prop} {hs rest : List HP} {K : St → World → Prop} {v : Vl γ δ} {b : Nat} {m : Mp δ}
theorem xt {t kt e : TypeId} {key : Ky} {ks : List Ky} {vs : List Value} {z : Value} (hF : Jc w b ks vs) (s7 : P.underlying t = some (.map kt e)) (s8 : P.underlying kt = some .string) (hz : (zeroValue e).run P w = .ok z w) (ok : Bool) :
    (kK ks key = none ∧ (Instr.lookup t (.map (some b)) (kV key) ok).run P w = .ok (if ok then .tuple #[z, .bool false] else z) w) ∨
    ∃ j val, kK ks key = some j ∧ vs[j]? = some val ∧ (Instr.lookup t (.map (some b)) (kV key) ok).run P w = .ok (if ok then .tuple #[val, .bool true] else val) w := by
  obtain ⟨hl, es, clock, m1, m2, m3, m4⟩ := hF
  have J3 := run_checkKey (P := P) (w := w) s8 (show IsKey .string (kV key) from trivial) es.isEmpty 9999
  rcases xp (d := .string) rfl (k := key) m2 m4.2.2 with ⟨f1, f2⟩ | ⟨j, en, f1, f2, f3, f4⟩
  · refine .inl ⟨f1, ?_⟩
    unfold Instr.lookup
    simp only [Sem.run_bind, run_underlying s7, Result.andThen_ok, MapKept.run_getObj_map m1, Sem.run_pure, J3, run_findKey s8 f2, hz]
  · refine .inr ⟨j, en.val, f1, ?_, ?_⟩
    · rw [← m3, List.getElem?_map, f3]; rfl
    · unfold Instr.lookup
      simp only [Sem.run_bind, run_underlying s7, Result.andThen_ok, MapKept.run_getObj_map m1, Sem.run_pure, J3, run_findKey s8 f2]
theorem ta {dst : Option Nat} {t kt e ty : TypeId} {x y : Operand} {pos : String} {cv : Array Edge} {g : Option (Nat × Bool)} {ok : Bool} (ss : List Nat) (d : Nat) {key : Ky} {z : Value}
    (aR : (jO ops ss L ⟨dst, .lookup t x y ok, ty, pos, cv, g⟩, dst, (decide (d < n)), (L.any fun p => p.1 == d), (toSS [x, y] (lk L)).map SV.ak, P.underlying t, P.underlying kt) = (true, some d, true, false, some [.map (some b), kV key], some (.map kt e), some .string))
    (hz : (zeroValue e).run P w = .ok z w) (hA : Acc F O w0 w v b m hs)
    (h0 : aO m key = none → K ((d, if ok then .dB [.v z, .b false] else .v z) :: L) w)
    (h1 : ∀ u a, aO m key = some a → Cx F O w0 w (Sh v.q [u] [a] :: hs) → K ((d, if ok then .dB [.v (v.V u), .b true] else .v (v.V u)) :: L) w) :
    ji P n ops L w ⟨dst, .lookup t x y ok, ty, pos, cv, g⟩ K := by
  simp only [Prod.mk.injEq, Option.map_eq_some_iff, decide_eq_true_eq] at aR
  obtain ⟨s1, rfl, s3, s4, ⟨svs, s5, s6⟩, s7, s8⟩ := aR
  refine iy (xs := [x, y]) (svs := svs) ss (d := d) (by simp [k8, s1, s3, s4, s5]) fun a ha he => ?_
  rw [s6] at he
  simp only [List.map_cons, List.map_nil, List.cons.injEq, and_true] at he
  obtain ⟨l, hf, hm, hq⟩ := hA
  rcases xt hm s7 s8 hz ok (key := key) with ⟨f1, f2⟩ | ⟨j, val, f1, f2, f3⟩
  · unfold Oper.wp execOp
    simp only [he.1, he.2, Sem.run_bind, f2, Result.andThen_ok, Sem.run_pure]
    exact ⟨if ok then .dB [.v z, .b false] else .v z, by cases ok <;> rfl, h0 (hf.none f1)⟩
  · obtain ⟨en, e1, e2, e3⟩ := hf.some f1
    unfold nM at f2
    rw [List.getElem?_map, e1] at f2
    obtain rfl := Option.some.inj f2
    unfold Oper.wp execOp
    simp only [he.1, he.2, Sem.run_bind, f3, Result.andThen_ok, Sem.run_pure]
    exact ⟨if ok then .dB [.v (v.V en.2.1), .b true] else .v (v.V en.2.1), by cases ok <;> rfl, h1 _ _ e3 (hq en (List.mem_of_getElem? e1))⟩
theorem xu {dst : Option Nat} {t kt e ty : TypeId} {x y : Operand} {pos : String} {cv : Array Edge} {g : Option (Nat × Bool)} {ok : Bool} {v : Vl α α} {m : Mp α} (hv : v.q = SQ) (ss : List Nat) (d : Nat) {key : Ky} (z : α) (sv : SV)
    (aR : (jO ops ss L ⟨dst, .lookup t x y ok, ty, pos, cv, g⟩, dst, (decide (d < n)), (L.any fun p => p.1 == d), (toSS [x, y] (lk L)).map SV.ak, P.underlying t, P.underlying kt) = (true, some d, true, false, some [.map (some b), kV key], some (.map kt e), some .string))
    (hz : (zeroValue e).run P w = .ok (v.V z) w) (hA : Acc F O w0 w v b m hs) (Ep : SV.val sv = v.V ((aO m key).getD z))
    (h1 : K ((d, if ok then .dB [sv, .b (aO m key).isSome] else sv) :: L) w) :
    ji P n ops L w ⟨dst, .lookup t x y ok, ty, pos, cv, g⟩ K := by
  simp only [Prod.mk.injEq, Option.map_eq_some_iff, decide_eq_true_eq] at aR
  obtain ⟨s1, rfl, s3, s4, ⟨svs, s5, s6⟩, s7, s8⟩ := aR
  refine iy (xs := [x, y]) (svs := svs) ss (d := d) (by simp [k8, s1, s3, s4, s5]) fun a ha he => ?_
  rw [s6] at he
  simp only [List.map_cons, List.map_nil, List.cons.injEq, and_true] at he
  obtain ⟨l, hf, hm, hq⟩ := hA
  have Er : ∃ val is, (Instr.lookup t (.map (some b)) (kV key) ok).run P w = .ok (if ok then .tuple #[val, .bool is] else val) w ∧ val = SV.val sv ∧ is = (aO m key).isSome := by
    rcases xt hm s7 s8 hz ok (key := key) with ⟨f1, f2⟩ | ⟨j, val, f1, f2, f3⟩
    · exact ⟨v.V z, false, f2, by rw [Ep, hf.none f1]; rfl, by rw [hf.none f1]; rfl⟩
    · obtain ⟨en, e1, e2, e3⟩ := hf.some f1
      unfold nM at f2
      rw [List.getElem?_map, e1] at f2
      obtain rfl := Option.some.inj f2
      have hk := hq en (List.mem_of_getElem? e1)
      obtain ⟨S, R, hh⟩ := hk.get 0 rfl
      have hr := hh.2.2 0 _ _ rfl rfl
      rw [hv] at hr
      have I4 : en.2.1 = en.2.2 := hr
      exact ⟨v.V en.2.1, true, f3, by rw [Ep, e3, I4]; rfl, by rw [e3]; rfl⟩
  obtain ⟨val, is, r1, r2, r3⟩ := Er
  unfold Oper.wp execOp
  simp only [he.1, he.2, Sem.run_bind, r1, Result.andThen_ok, Sem.run_pure]
  refine ⟨if ok then .dB [sv, .b (aO m key).isSome] else sv, ?_, h1⟩
  cases ok
  · simp only [Bool.false_eq_true, if_false, r2]
  · simp only [if_true, r2, r3]; rfl
theorem xv {dst : Option Nat} {x : Operand} {t kt e ty : TypeId} {pos : String} {cv : Array Edge} {g : Option (Nat × Bool)} (ss : List Nat) (d : Nat)
    (aR : (jO ops ss L ⟨dst, .call ⟨.builtin .len, #[x], #[t]⟩, ty, pos, cv, g⟩, dst, (decide (d < n)), (L.any fun p => p.1 == d), (toSS [x] (lk L)).map SV.ak, P.underlying t) = (true, some d, true, false, some [.map (some b)], some (.map kt e)))
    (hA : Acc F O w0 w v b m hs) (hk : K ((d, I ((m.length : Nat) : Int)) :: L) w) :
    ji P n ops L w ⟨dst, .call ⟨.builtin .len, #[x], #[t]⟩, ty, pos, cv, g⟩ K := by
  simp only [Prod.mk.injEq, Option.map_eq_some_iff, decide_eq_true_eq] at aR
  obtain ⟨s1, rfl, s3, s4, ⟨svs, s5, s6⟩, s7⟩ := aR
  refine iy (xs := [x]) (svs := svs) ss (d := d) (by simp [k8, s1, s3, s4, s5]) fun a ha he => ?_
  rw [s6] at he
  simp only [List.map_cons, List.map_nil, List.cons.injEq, and_true] at he
  obtain ⟨l, hf, ⟨hl, es, clock, m1, m2, m3, m4⟩, hq⟩ := hA
  have lK : es.size = m.length := by
    have := congrArg List.length m2
    rw [← hf.len]
    simpa using this
  have dW : (Builtin.len_ #[t] ty #[.map (some b)]).run P w = .ok (.int .i64 ((m.length : Nat) : Int)) w := by
    unfold Builtin.len_
    simp [Sem.run_bind, run_underlying s7, Result.andThen_ok, MapKept.run_getObj_map m1, goInt, lK, Result.andThen]
  unfold Oper.wp execOp
  simp only [resolve, invoke, builtin, Sem.run_bind, Sem.run_pure, Result.andThen_ok, List.map_toArray, List.map_cons, List.map_nil, he, dW]
  exact ⟨_, rfl, hk⟩
theorem p_ {t kt e ty : TypeId} {mo y x : Operand} {pos : String} {cv : Array Edge} {g : Option (Nat × Bool)} (ss : List Nat) {key : Ky} {u : γ} {a : δ}
    (aR : (jO ops ss L (⟨none, .mapUpdate t mo y x, ty, pos, cv, g⟩ : Oper), (toSS [mo, y, x] (lk L)).map SV.ak, P.underlying t, P.underlying kt) = (true, some [.map (some b), kV key, v.V u], some (.map kt e), some .string))
    (k : Cx F O w0 w (MS v b m :: Sh v.q [u] [a] :: rest)) (hk : ∀ w', Cx F O w0 w' (MS v b (bq m key a) :: rest) → K L w') :
    ji P n ops L w ⟨none, .mapUpdate t mo y x, ty, pos, cv, g⟩ K := by
  obtain ⟨l, hf, k1⟩ := k.AL
  refine Hi ss 0 (v.V u) aR k1 rfl fun w' k' => hk w' ?_
  have k2 : Cx F O w0 w' (Sh v.q (l.map (·.2.1)) (l.map (·.2.2)) :: Sh v.q [u] [a] :: Mb b (nK (jg l) key) (nL (jg l) (nM v l) key (v.V u)) :: rest) := by
    have k3 : Cx F O w0 w' (Mb b (nK (jg l) key) (nL (jg l) (nM v l) key (v.V u)) :: Sh v.q (l.map (·.2.1)) (l.map (·.2.2)) :: Sh v.q [u] [a] :: rest) := k'
    exact k3.perm ((List.Perm.swap _ _ _).trans (.cons _ (.swap _ _ _)))
  have k3 := k2.Lt
  cases Jd : kK (jg l) key with
  | none =>
    have Mx : key ∉ m.map (·.1) := by rw [← pq]; exact hf.none Jd
    refine Cx.Eo (l ++ [(key, u, a)]) ⟨?_, hf.2.bq key a⟩ ?_
    · rw [List.map_append]
      exact (List.perm_append_comm.trans (List.Perm.cons _ hf.1)).trans (AJ a Mx).symm
    · have e1 : nK (jg l) key = jg (l ++ [(key, u, a)]) := by unfold nK; rw [Jd]; simp [jg]
      have e2 : nL (jg l) (nM v l) key (v.V u) = nM v (l ++ [(key, u, a)]) := by unfold nL; rw [Jd]; simp [nM]
      rw [e1, e2] at k3
      have e3 : (l ++ [(key, u, a)]).map (·.2.1) = l.map (·.2.1) ++ [u] := by simp
      have e4 : (l ++ [(key, u, a)]).map (·.2.2) = l.map (·.2.2) ++ [a] := by simp
      show Cx F O w0 w' (Mb b _ _ :: Sh v.q _ _ :: rest)
      rw [e3, e4]
      exact k3.perm (.swap _ _ _)
  | some j =>
    obtain ⟨en, f1, f2, f3⟩ := hf.some Jd
    have hj : j < l.length := (List.getElem?_eq_some_iff.1 f1).1
    have SC : l[j] = en := (List.getElem?_eq_some_iff.1 f1).2
    refine Cx.Eo (l.set j (key, u, a)) ⟨?_, hf.2.bq key a⟩ ?_
    · obtain ⟨x1, x2, g1, g2⟩ := Cv hf.2 a (oC f3)
      rw [g2]
      have p1 : ((l.set j (key, u, a)).map kx).Perm ((key, a) :: (l.eraseIdx j).map kx) := by
        have := Ca (l := l) (i := j) (key, u, a) hj
        exact (this.symm.map kx)
      have p2 : (l.map kx).Perm ((key, en.2.2) :: (l.eraseIdx j).map kx) := by
        have := sU f1
        refine (this.map kx).trans ?_
        rw [List.map_cons, show kx en = (key, en.2.2) from by unfold kx; rw [f2]]
      have p3 : ((key, en.2.2) :: (l.eraseIdx j).map kx).Perm ((key, en.2.2) :: (x1 ++ x2)) := by
        refine p2.symm.trans (hf.1.trans ?_)
        rw [g1]
        exact List.perm_middle
      exact p1.trans ((List.Perm.cons _ (List.Perm.cons_inv p3)).trans List.perm_middle.symm)
    · have e1 : nK (jg l) key = jg (l.set j (key, u, a)) := by
        unfold nK; rw [Jd]
        unfold jg
        rw [List.map_set]
        apply List.ext_getElem?
        intro q
        rw [List.getElem?_set]
        by_cases hq : j = q
        · subst hq
          rw [if_pos rfl, List.getElem?_map, f1]
          simp [f2, hj]
        · rw [if_neg hq]
      have e2 : nL (jg l) (nM v l) key (v.V u) = nM v (l.set j (key, u, a)) := by unfold nL; rw [Jd]; simp [nM]
      rw [e1, e2] at k3
      show Cx F O w0 w' (Mb b _ _ :: Sh v.q _ _ :: rest)
      have k4 : Cx F O w0 w' (Sh v.q ((l.set j (key, u, a)).map (·.2.1)) ((l.set j (key, u, a)).map (·.2.2)) :: Mb b (jg (l.set j (key, u, a))) (nM v (l.set j (key, u, a))) :: rest) := by
        have := k3.J4 (h' := Sh v.q ((l.set j (key, u, a)).map (·.2.1)) ((l.set j (key, u, a)).map (·.2.2))) 0 rfl fun w S R ⟨h0, h1, h2⟩ => by
          refine ⟨h0, by simp, fun i y x g1 g2 => ?_⟩
          rw [List.map_set, List.getElem?_set] at g1 g2
          split at g1
          · rename_i zI
            rw [if_pos zI] at g2
            split at g1
            · rename_i eN
              rw [if_pos (by simpa using eN)] at g2
              obtain rfl := Option.some.inj g1
              obtain rfl := Option.some.inj g2
              exact h2 l.length _ _ (by rw [List.getElem?_append_right (by simp)]; simp) (by rw [List.getElem?_append_right (by simp)]; simp)
            · cases g1
          · rename_i zI
            rw [if_neg zI] at g2
            refine h2 i y x ?_ ?_
            · rw [List.getElem?_append_left (List.getElem?_eq_some_iff.1 g1).1]; exact g1
            · rw [List.getElem?_append_left (List.getElem?_eq_some_iff.1 g2).1]; exact g2
        simpa only [List.set_cons_zero] using this
      exact k4.perm (.swap _ _ _)
theorem se {t kt e ty : TypeId} {mo y x : Operand} {pos : String} {cv : Array Edge} {g : Option (Nat × Bool)} {v : Vl α α} {m : Mp α} (hv : v.q = SQ) (ss : List Nat) {key : Ky} (a : α)
    (aR : (jO ops ss L (⟨none, .mapUpdate t mo y x, ty, pos, cv, g⟩ : Oper), (toSS [mo, y, x] (lk L)).map SV.ak, P.underlying t, P.underlying kt) = (true, some [.map (some b), kV key, v.V a], some (.map kt e), some .string))
    (k : Cx F O w0 w (MS v b m :: rest)) (hk : ∀ w', Cx F O w0 w' (MS v b (bq m key a) :: rest) → K L w') :
    ji P n ops L w ⟨none, .mapUpdate t mo y x, ty, pos, cv, g⟩ K := by
  have k1 : Cx F O w0 w (Sh v.q [a] [a] :: MS v b m :: rest) := by rw [hv]; exact k.Mz a
  exact p_ ss aR (k1.perm (.swap _ _ _)) hk
end
end Go.Sx
namespace Go.Sx
open Go.RowKit Go.MapKept
set_option linter.unusedSimpArgs false
set_option linter.unusedVariables false
variable {α β γ δ ε ζ σ ι : Type}
def Et (sh : Bool) (b r : Nat) (ks : List Ky) (vs : List Value) (left : List Ky) (cur : Option Ky) : HP where
  p w S R := ks.length = vs.length ∧ (∃ (es : Array MapEntry) (clock since c0 : Nat) (seen : Array Nat), w.heap[b]? = some (.map es clock) ∧ es.toList.map (·.key) = ks.map kV ∧ es.toList.map (·.val) = vs ∧ Stamped es clock ∧
    w.heap[r]? = some (.mapIter (some b) since seen c0) ∧ (∀ x ∈ es.toList, x.born < since) ∧ since ≤ c0 ∧ since ≤ clock ∧ ((leftOf es seen).toList.map (·.key)).Perm (left.map kV) ∧
    (∀ k, cur = some k → ∃ e ∈ es.toList, e.key = kV k ∧ c0 = clock ∧ ∃ Cy : Array Nat, seen = Cy.push e.born)) ∧ (if sh = true then R b else S b) ∧ S r
  loc := by
    rintro w w' S R ⟨h0, ⟨es, clock, since, c0, seen, h1, h2, h3, h4, h5, h6⟩, h7, h8⟩ hk
    have hb : S b ∨ R b := by cases sh; exact .inl h7; exact .inr h7
    exact ⟨h0, ⟨es, clock, since, c0, seen, by rw [hk b hb]; exact h1, h2, h3, h4, by rw [hk r (.inl h8)]; exact h5, h6⟩, h7, h8⟩
def QU (b : Nat) (ks : List Ky) (vs : List Value) : HP where
  p w S R := (∀ x, ¬ S x) ∧ R b ∧ Jc w b ks vs
  loc := by
    rintro w w' S R ⟨h0, h1, h2, es, clock, h3, h4⟩ hk
    exact ⟨h0, h1, h2, es, clock, by rw [hk b (.inr h1)]; exact h3, h4⟩
section
variable {P : Program} {n : Nat} {ops : Array Oper} {L : St} {w w0 : World} {F O : Nat → Prop} {hs rest : List HP} {K : St → World → Prop}
theorem uG {dst : Option Nat} {t kt e ty : TypeId} {x : Operand} {pos : String} {cv : Array Edge} {g : Option (Nat × Bool)} (ss : List Nat) (d i : Nat) {b : Nat} {ks : List Ky} {vs : List Value} {h : HP} (sh : Bool)
    (aR : (jO ops ss L ⟨dst, .range t x, ty, pos, cv, g⟩, dst, (decide (d < n)), (L.any fun p => p.1 == d), (toSS [x] (lk L)).map SV.ak, P.underlying t) = (true, some d, true, false, some [.map (some b)], some (.map kt e)))
    (k : Cx F O w0 w hs) (hi : hs[i]? = some h) (ha : ∀ S R, h.p w S R → Jc w b ks vs ∧ (if sh = true then R b else S b)) (hk : ∀ r w', Cx F O w0 w' (hs.set i (Et sh b r ks vs ks none)) → K ((d, .v (.pointer (some ⟨r, 0, none⟩))) :: L) w') :
    ji P n ops L w ⟨dst, .range t x, ty, pos, cv, g⟩ K := by
  simp only [Prod.mk.injEq, Option.map_eq_some_iff, decide_eq_true_eq] at aR
  obtain ⟨s1, rfl, s3, s4, ⟨svs, s5, s6⟩, s7⟩ := aR
  refine iy (xs := [x]) (svs := svs) ss (d := d) (by simp [k8, s1, s3, s4, s5]) fun a I3 he => ?_
  rw [s6] at he
  simp only [List.map_cons, List.map_nil, List.cons.injEq, and_true] at he
  obtain ⟨S, R, hp⟩ := k.get i hi
  obtain ⟨⟨hl, es, clock, m1, m2, m3, m4⟩, hS⟩ := ha S R hp
  have dW := run_range_map (P := P) w t kt e b es clock s7 m1
  unfold Oper.wp execOp
  simp only [he, Sem.run_bind, dW, Result.andThen_ok, Sem.run_pure]
  refine ⟨.v (.pointer (some ⟨w.heap.size, 0, none⟩)), rfl, hk w.heap.size _ (k.I5 i hi none (World.grownBy_alloc w _ none) fun S R hS hd eN => ?_)⟩
  obtain ⟨_, Lu⟩ := ha S R hS
  have MD : b < w.heap.size := by cases sh; exact eN b (.inl Lu); exact eN b (.inr Lu)
  refine ⟨fun g hg => (by cases hg), fun q => S q ∨ q = w.heap.size, R, ⟨hl, ⟨es, clock, clock, clock, #[], ?_, m2, m3, m4, (heap_alloc w _).1, m4.1, Nat.le_refl _, Nat.le_refl _, ?_, fun k hk => by cases hk⟩, ?_, .inr rfl⟩, fun q hq => ?_, fun q hq => ⟨?_, .inl hq⟩⟩
  · rw [heap_alloc_old w _ MD]; exact m1
  · unfold leftOf
    have : es.filter (fun e => !(#[] : Array Nat).contains e.born) = es := Array.filter_eq_self.2 (fun x hx => by simp)
    rw [this, m2]
  · cases sh
    · exact .inl Lu
    · exact Lu
  · rcases hq with hq | rfl
    · exact ⟨by rw [World.size_alloc]; have := eN q (.inl hq); omega, hd q hq, .inl hq⟩
    · exact ⟨by rw [World.size_alloc]; omega, fun hr => by have := eN _ (.inr hr); omega, .inr (Nat.le_refl _)⟩
  · rw [World.size_alloc]; have := eN q (.inr hq); omega
theorem Cz {dst : Option Nat} {ty : TypeId} {x : Operand} {pos : String} {cv : Array Edge} {g : Option (Nat × Bool)} (ss : List Nat) (d i : Nat) {sh : Bool} {b r : Nat} {ks left : List Ky} {vs : List Value} {cur : Option Ky}
    (aR : (jO ops ss L ⟨dst, .next x false, ty, pos, cv, g⟩, dst, (decide (d < n)), (L.any fun p => p.1 == d), (toSS [x] (lk L)).map SV.ak) = (true, some d, true, false, some [.pointer (some ⟨r, 0, none⟩)]))
    (k : Cx F O w0 w hs) (hi : hs[i]? = some (Et sh b r ks vs left cur))
    (h0 : left = [] → K ((d, .dB [.b false]) :: L) w)
    (h1 : ∀ key xw v w', left.Perm (key :: xw) → Cx F O w0 w' (hs.set i (Et sh b r ks vs xw (some key))) → K ((d, .dB [.b true, .s key, .v v]) :: L) w') :
    ji P n ops L w ⟨dst, .next x false, ty, pos, cv, g⟩ K := by
  simp only [Prod.mk.injEq, Option.map_eq_some_iff, decide_eq_true_eq] at aR
  obtain ⟨s1, rfl, s3, s4, ⟨svs, s5, s6⟩⟩ := aR
  refine iy (xs := [x]) (svs := svs) ss (d := d) (by simp [k8, s1, s3, s4, s5]) fun a ha he => ?_
  rw [s6] at he
  simp only [List.map_cons, List.map_nil, List.cons.injEq, and_true] at he
  obtain ⟨S, R, hl, ⟨es, clock, since, c0, seen, m1, m2, m3, m4, m5, m6, m7, QV, m8, m9⟩, hS, Kb⟩ := k.get i hi
  rcases run_next_at (P := P) w ty r b since c0 seen es clock m5 m1 m6 m7 with ⟨f1, dW⟩ | ⟨e, f1, w1, f2, dW⟩
  · unfold Oper.wp execOp
    simp only [he, Sem.run_bind, dW, Result.andThen_ok, Sem.run_pure]
    refine ⟨.dB [.b false], rfl, h0 ?_⟩
    have h2 := m8.length_eq
    simp only [List.length_map, Array.length_toList, f1] at h2
    exact List.eq_nil_of_length_eq_zero h2.symm
  · obtain ⟨g1, g2⟩ := mem_left f1
    obtain ⟨key, ME, Je⟩ := Hj m2 g1
    have hp := AH m4.2.1 f1
    have vP : kV key ∈ left.map kV := m8.mem_iff.1 (by rw [← Je]; exact List.mem_map.2 ⟨e, f1, rfl⟩)
    obtain ⟨Hr, QW, QX⟩ := List.mem_map.1 vP
    obtain rfl := pn QX
    have DH := List.perm_cons_erase QW
    unfold Oper.wp execOp
    simp only [he, Sem.run_bind, dW, Result.andThen_ok, Sem.run_pure]
    rw [Je]
    refine ⟨.dB [.b true, .s Hr, .v e.val], rfl, h1 Hr (left.erase Hr) e.val _ DH ?_⟩
    have CA : w1.heap[r]? = some (.mapIter (some b) since seen c0) := by rcases f2 with rfl | rfl <;> exact m5
    have xx : w1.heap[b]? = some (.map es clock) := by rcases f2 with rfl | rfl <;> exact m1
    have QY : r ≠ b := fun h => by rw [h, m1] at m5; cases m5
    have QZ : w.grownBy (ChangeMaps.setBlock w1 r (.mapIter (some b) since (seen.push e.born) clock)) (some r) := by
      rcases f2 with rfl | rfl
      · exact ⟨rfl, rfl, rfl, by simp [ChangeMaps.setBlock], fun q hq gf => by
          simp only [ChangeMaps.setBlock]
          exact (heap_set CA).2 q fun e => gf (by rw [e])⟩
      · exact ⟨rfl, rfl, rfl, (by show w.heap.size ≤ (w.heap.setIfInBounds r _).size; simp), fun q hq gf => (heap_set m5).2 q fun e => gf (by rw [e])⟩
    refine k.I5 i hi (some r) QZ fun S R hS hd eN => ?_
    obtain ⟨hl, ⟨Pr, MF, MG, SD, PE, q1, q2, q3, q4, q5, q6, q7, PF, q8, q9⟩, hS, Kb⟩ := hS
    rw [m1] at q1
    simp only [Option.some.injEq, Obj.map.injEq] at q1
    obtain ⟨rfl, rfl⟩ := q1
    rw [m5] at q5
    simp only [Option.some.injEq, Obj.mapIter.injEq] at q5
    obtain ⟨_, rfl, rfl, rfl⟩ := q5
    have lK : (ChangeMaps.setBlock w1 r (.mapIter (some b) since (seen.push e.born) clock)).heap.size = w.heap.size := by
      rcases f2 with h | h
      · rw [h]; simp only [ChangeMaps.setBlock, Array.size_setIfInBounds]
      · rw [h]; simp only [ChangeMaps.setBlock, Array.size_setIfInBounds]; rfl
    refine ⟨fun g' hg => (by simp only [Option.some.injEq] at hg; subst hg; exact Kb), S, R, ⟨hl, ⟨es, clock, since, clock, seen.push e.born, ?_, q2, q3, q4, ?_, q6, PF, PF, ?_, fun k hk => ?_⟩, hS, Kb⟩, fun q hq => ⟨by rw [lK]; exact eN q (.inl hq), hd q hq, .inl hq⟩, fun q hq => ⟨by rw [lK]; exact eN q (.inr hq), .inl hq⟩⟩
    · simp only [ChangeMaps.setBlock]
      rw [(heap_set CA).2 b QY.symm]; exact xx
    · simp only [ChangeMaps.setBlock]
      exact (heap_set CA).1
    · have p1 := hp.map (·.key)
      simp only [List.map_cons, Je] at p1
      have p2 := DH.map kV
      simp only [List.map_cons] at p2
      exact List.Perm.cons_inv ((p1.symm.trans q8).trans p2)
    · obtain rfl := Option.some.inj hk
      exact ⟨e, g1, Je, rfl, seen, rfl⟩
theorem AM {dst : Option Nat} {ty : TypeId} {x : Operand} {pos : String} {cv : Array Edge} {g : Option (Nat × Bool)} (ss : List Nat) (d i : Nat) {sh : Bool} {b r : Nat} {ks left : List Ky} {vs : List Value} {key : Ky}
    (aR : (jO ops ss L ⟨dst, .entry x, ty, pos, cv, g⟩, dst, (decide (d < n)), (L.any fun p => p.1 == d), (toSS [x] (lk L)).map SV.ak) = (true, some d, true, false, some [.pointer (some ⟨r, 0, none⟩)]))
    (k : Cx F O w0 w hs) (hi : hs[i]? = some (Et sh b r ks vs left (some key)))
    (h1 : ∀ (j : Nat) v, ks[j]? = some key → vs[j]? = some v → K ((d, .dB [.s key, .v v]) :: L) w) :
    ji P n ops L w ⟨dst, .entry x, ty, pos, cv, g⟩ K := by
  simp only [Prod.mk.injEq, Option.map_eq_some_iff, decide_eq_true_eq] at aR
  obtain ⟨s1, rfl, s3, s4, ⟨svs, s5, s6⟩⟩ := aR
  refine iy (xs := [x]) (svs := svs) ss (d := d) (by simp [k8, s1, s3, s4, s5]) fun a ha he => ?_
  rw [s6] at he
  simp only [List.map_cons, List.map_nil, List.cons.injEq, and_true] at he
  obtain ⟨S, R, hl, ⟨es, clock, since, c0, seen, m1, m2, m3, m4, m5, m6, m7, QV, m8, m9⟩, hS, Kb⟩ := k.get i hi
  obtain ⟨e, e1, e2, rfl, Cy, rfl⟩ := m9 key rfl
  have dW := run_entry_at (P := P) w r b since Cy es c0 e m5 m1 e1 m4.2.1
  unfold Oper.wp execOp
  simp only [he, Sem.run_bind, dW, Result.andThen_ok, Sem.run_pure]
  rw [e2]
  obtain ⟨j, hj⟩ := List.getElem?_of_mem e1
  refine ⟨.dB [.s key, .v e.val], rfl, h1 j e.val ?_ ?_⟩
  · have h1 := congrArg (fun x => x[j]?) m2
    simp only [List.getElem?_map, hj, Option.map_some, e2] at h1
    cases hq : ks[j]? with
    | none => rw [hq] at h1; cases h1
    | some k' => rw [hq] at h1; simp only [Option.map_some, Option.some.injEq] at h1; rw [pn h1]
  · rw [← m3, List.getElem?_map, hj]; rfl
end
structure Hs (m : Mp δ) (left : Mp δ) (cur : Option (Ky × δ)) (l : List (Ky × γ × δ)) (BB : List Ky) : Prop where
  fits : Fits m l
  perm : BB.Perm (left.map (·.1))
  nd : (left.map (·.1)).Nodup
  sub : ∀ p ∈ left, p ∈ m
  cur : ∀ p, cur = some p → p ∈ m ∧ p.1 ∉ left.map (·.1)
def MV (v : Vl γ δ) (sh : Bool) (b r : Nat) (m left : Mp δ) (cur : Option (Ky × δ)) : HP :=
  Px (fun l : List (Ky × γ × δ) × List Ky => Hs m left cur l.1 l.2) fun l => [Et sh b r (jg l.1) (nM v l.1) l.2 (cur.map (·.1)), Sh v.q (l.1.map (·.2.1)) (l.1.map (·.2.2))]
section
variable {P : Program} {n : Nat} {ops : Array Oper} {L : St} {w w0 : World} {F O : Nat → Prop} {hs rest : List HP} {K : St → World → Prop} {v : Vl γ δ} {b r : Nat} {m left : Mp δ} {cur : Option (Ky × δ)} {sh : Bool}
theorem Hs.start {l : List (Ky × γ × δ)} (h : Fits m l) : Hs m m none l (jg l) :=
  ⟨h, by
    have e : jg l = (l.map kx).map (·.1) := by simp [jg, kx, List.map_map, Function.comp_def]
    rw [e]; exact h.1.map _, h.2.nodup, fun _ h => h, fun _ h => by cases h⟩
theorem Cx.Eu (l : List (Ky × γ × δ)) (BB : List Ky) (h : Hs m left cur l BB) (k : Cx F O w0 w (Et sh b r (jg l) (nM v l) BB (cur.map (·.1)) :: Sh v.q (l.map (·.2.1)) (l.map (·.2.2)) :: rest)) : Cx F O w0 w (MV v sh b r m left cur :: rest) :=
  Cx.Ka (φ := fun l : List (Ky × γ × δ) × List Ky => Hs m left cur l.1 l.2) (l := fun l => [Et sh b r (jg l.1) (nM v l.1) l.2 (cur.map (·.1)), Sh v.q (l.1.map (·.2.1)) (l.1.map (·.2.2))]) (l, BB) h k
theorem kZ {dst : Option Nat} {t kt e ty : TypeId} {x : Operand} {pos : String} {cv : Array Edge} {g : Option (Nat × Bool)} (ss : List Nat) (d : Nat)
    (aR : (jO ops ss L ⟨dst, .range t x, ty, pos, cv, g⟩, dst, (decide (d < n)), (L.any fun p => p.1 == d), (toSS [x] (lk L)).map SV.ak, P.underlying t) = (true, some d, true, false, some [.map (some b)], some (.map kt e)))
    (k : Cx F O w0 w (MS v b m :: rest)) (hk : ∀ r w', Cx F O w0 w' (MV v false b r m m none :: rest) → K ((d, .v (.pointer (some ⟨r, 0, none⟩))) :: L) w') :
    ji P n ops L w ⟨dst, .range t x, ty, pos, cv, g⟩ K := by
  obtain ⟨l, hf, k1⟩ := k.AL
  refine uG ss d 0 (ks := jg l) (vs := nM v l) false aR k1 rfl (fun S R h => ⟨Cw h, h.2.2⟩) fun r w' k' => hk r w' ?_
  exact Cx.Eu l (jg l) (Hs.start hf) k'
theorem qQ {dst : Option Nat} {t kt e ty : TypeId} {x : Operand} {pos : String} {cv : Array Edge} {g : Option (Nat × Bool)} (ss : List Nat) (d i : Nat)
    (aR : (jO ops ss L ⟨dst, .range t x, ty, pos, cv, g⟩, dst, (decide (d < n)), (L.any fun p => p.1 == d), (toSS [x] (lk L)).map SV.ak, P.underlying t) = (true, some d, true, false, some [.map (some b)], some (.map kt e)))
    (k : Cx F O w0 w hs) (hi : hs[i]? = some (Sh (RM v) [b] [m])) (hk : ∀ r w', Cx F O w0 w' (MV v true b r m m none :: hs) → K ((d, .v (.pointer (some ⟨r, 0, none⟩))) :: L) w') :
    ji P n ops L w ⟨dst, .range t x, ty, pos, cv, g⟩ K := by
  obtain ⟨S, R, hh⟩ := k.get i hi
  obtain ⟨_, l, hf, hm, _⟩ := hh.2.2 0 _ _ rfl rfl
  have k1 : Cx F O w0 w (Sh v.q (l.map (·.2.1)) (l.map (·.2.2)) :: hs) := by
    have key : ∀ l' : List (Ky × γ × δ), (∀ e ∈ l', e ∈ l) → Cx F O w0 w (Sh v.q (l'.map (·.2.1)) (l'.map (·.2.2)) :: hs) := by
      intro l'
      induction l' with
      | nil => intro _; exact k.Lr v.q
      | cons e l' ih =>
        intro Kc
        have k2 := ih fun e he => Kc e (List.mem_cons_of_mem _ he)
        have hA := Cx.Hp (v := v) (b := b) (m := m) k2 (i + 1) (by simpa using hi)
        obtain ⟨l2, Cm, Po, Q0⟩ := hA
        have he := Kc e List.mem_cons_self
        have Lv : ∃ e2 ∈ l2, e2.2.1 = e.2.1 ∧ e2.2.2 = e.2.2 := by
          obtain ⟨_, es, clock, m1, m2, m3, _⟩ := hm
          obtain ⟨_, es', clock', n1, n2, n3, _⟩ := Po
          rw [m1] at n1
          obtain ⟨rfl, rfl⟩ : es = es' ∧ clock = clock' := by simpa using n1
          obtain ⟨j, hj⟩ := List.getElem?_of_mem he
          have hk : (jg l)[j]? = (jg l2)[j]? := by
            have : (jg l).map kV = (jg l2).map kV := m2.symm.trans n2
            have h1 := congrArg (fun x => x[j]?) this
            simp only [List.getElem?_map] at h1
            cases ha : (jg l)[j]? <;> cases hb : (jg l2)[j]? <;> rw [ha, hb] at h1 <;> simp at h1 <;> first | rfl | rw [pn h1]
          have hv : (nM v l)[j]? = (nM v l2)[j]? := by rw [← m3, ← n3]
          unfold jg at hk
          unfold nM at hv
          rw [List.getElem?_map, List.getElem?_map, hj] at hk hv
          cases wY : l2[j]? with
          | none => rw [wY] at hk; cases hk
          | some e' =>
            rw [wY] at hk hv
            simp only [Option.map_some, Option.some.injEq] at hk hv
            refine ⟨e', List.mem_of_getElem? wY, (v.inj _ _ hv).symm, ?_⟩
            have q1 := dF hf.2.nodup (hf.1.mem_iff.1 (List.mem_map.2 ⟨e, he, rfl⟩))
            have q2 := dF Cm.2.nodup (Cm.1.mem_iff.1 (List.mem_map.2 ⟨e', List.mem_of_getElem? wY, rfl⟩))
            rw [hk] at q1
            exact Option.some.inj (q2.symm.trans q1)
        obtain ⟨e2, h1, h2, h3⟩ := Lv
        have k3 := Q0 e2 h1
        rw [h2, h3] at k3
        exact k3.Lt
    exact key l fun e he => he
  have k2 : Cx F O w0 w (QU b (jg l) (nM v l) :: Sh v.q (l.map (·.2.1)) (l.map (·.2.2)) :: hs) := k1.Ho (i + 1) (by simpa using hi) fun S R h => by
    obtain ⟨hR, _⟩ := h.2.2 0 _ _ rfl rfl
    exact ⟨fun _ h => h, hR, hm⟩
  refine uG ss d 0 (ks := jg l) (vs := nM v l) true aR k2 rfl (fun S R h => ⟨h.2.2, h.2.1⟩) fun r w' k' => hk r w' ?_
  exact Cx.Eu l (jg l) (Hs.start hf) k'
theorem jj {dst : Option Nat} {ty : TypeId} {x : Operand} {pos : String} {cv : Array Edge} {g : Option (Nat × Bool)} (ss : List Nat) (d : Nat)
    (aR : (jO ops ss L ⟨dst, .next x false, ty, pos, cv, g⟩, dst, (decide (d < n)), (L.any fun p => p.1 == d), (toSS [x] (lk L)).map SV.ak) = (true, some d, true, false, some [.pointer (some ⟨r, 0, none⟩)]))
    (k : Cx F O w0 w (MV v sh b r m left cur :: rest))
    (h0 : left = [] → Cx F O w0 w (MV v sh b r m left cur :: rest) → K ((d, .dB [.b false]) :: L) w)
    (h1 : ∀ key a xw val w', left.Perm ((key, a) :: xw) → (left.map (·.1)).Nodup → Cx F O w0 w' (MV v sh b r m xw (some (key, a)) :: rest) → K ((d, .dB [.b true, .s key, .v val]) :: L) w') :
    ji P n ops L w ⟨dst, .next x false, ty, pos, cv, g⟩ K := by
  obtain ⟨⟨l, BB⟩, hf, k1⟩ := k.AL
  refine Cz ss d 0 aR k1 rfl (fun hl => h0 ?_ k) fun key MH val w' hp k' => ?_
  · have h2 := hf.perm.length_eq
    rw [show BB = [] from hl, List.length_nil, List.length_map] at h2
    exact List.eq_nil_of_length_eq_zero h2.symm
  · have vP : key ∈ left.map (·.1) := hf.perm.mem_iff.1 (hp.mem_iff.2 List.mem_cons_self)
    obtain ⟨p, xy, Ht⟩ := List.mem_map.1 vP
    obtain ⟨j, hj⟩ := List.getElem?_of_mem xy
    have DH := sU hj
    obtain ⟨pk, pa⟩ := p
    simp only at Ht
    subst Ht
    have tW := (DH.map (·.1)).nodup_iff.1 hf.nd
    rw [List.map_cons, List.nodup_cons] at tW
    refine h1 pk pa (left.eraseIdx j) val w' DH hf.nd ?_
    refine Cx.Eu l MH ⟨hf.fits, ?_, tW.2, fun q hq => hf.sub q (List.mem_of_mem_eraseIdx hq), fun q hq => ?_⟩ k'
    · exact List.Perm.cons_inv ((hp.symm.trans hf.perm).trans (DH.map (·.1)))
    · obtain rfl := Option.some.inj hq
      exact ⟨hf.sub _ xy, tW.1⟩
theorem qU {dst : Option Nat} {ty : TypeId} {x : Operand} {pos : String} {cv : Array Edge} {g : Option (Nat × Bool)} (ss : List Nat) (d : Nat) {key : Ky} {a : δ}
    (aR : (jO ops ss L ⟨dst, .entry x, ty, pos, cv, g⟩, dst, (decide (d < n)), (L.any fun p => p.1 == d), (toSS [x] (lk L)).map SV.ak) = (true, some d, true, false, some [.pointer (some ⟨r, 0, none⟩)]))
    (k : Cx F O w0 w (MV v sh b r m left (some (key, a)) :: rest))
    (h1 : ∀ u, Cx F O w0 w (Sh v.q [u] [a] :: MV v sh b r m left (some (key, a)) :: rest) → K ((d, .dB [.s key, .v (v.V u)]) :: L) w) :
    ji P n ops L w ⟨dst, .entry x, ty, pos, cv, g⟩ K := by
  obtain ⟨⟨l, BB⟩, hf, k1⟩ := k.AL
  refine AM ss d 0 aR k1 rfl fun j val hj hv => ?_
  unfold jg at hj
  unfold nM at hv
  rw [List.getElem?_map, Option.map_eq_some_iff] at hj hv
  obtain ⟨e, he, PG⟩ := hj
  obtain ⟨e', MI, rfl⟩ := hv
  simp only at he MI PG
  rw [he] at MI
  obtain rfl := Option.some.inj MI
  have ha : e.2.2 = a := by
    have q1 := dF hf.fits.2.nodup (hf.fits.1.mem_iff.1 (List.mem_map.2 ⟨e, List.mem_of_getElem? he, rfl⟩))
    have q2 := dF hf.fits.2.nodup (hf.cur _ rfl).1
    rw [PG] at q1
    exact Option.some.inj (q1.symm.trans q2)
  refine h1 e.2.1 ?_
  have k2 : Cx F O w0 w (Sh v.q [e.2.1] [a] :: (Et sh b r (jg l) (nM v l) BB ((some (key, a)).map (·.1)) :: Sh v.q (l.map (·.2.1)) (l.map (·.2.2)) :: rest)) := Cx.dup k1 1 rfl fun w S R h => by
    refine ⟨fun _ h => h, rfl, fun j2 y x g1 g2 => ?_⟩
    cases j2 with
    | succ j2 => cases g1
    | zero =>
      obtain rfl := Option.some.inj g1
      obtain rfl := Option.some.inj g2
      exact h.2.2 j _ _ (by rw [List.getElem?_map, he]; rfl) (by rw [List.getElem?_map, he, ← ha]; rfl)
  have k3 : Cx F O w0 w (Et sh b r (jg l) (nM v l) BB ((some (key, a)).map (·.1)) :: Sh v.q (l.map (·.2.1)) (l.map (·.2.2)) :: Sh v.q [e.2.1] [a] :: rest) := k2.perm ((List.Perm.swap _ _ _).trans (.cons _ (.swap _ _ _)))
  exact (Cx.Eu l BB hf k3).perm (.swap _ _ _)
theorem oD {dst : Option Nat} {ty : TypeId} {x : Operand} {pos : String} {cv : Array Edge} {g : Option (Nat × Bool)} {v : Vl α α} {m left : Mp α} (hv : v.q = SQ) (ss : List Nat) (d : Nat) {key : Ky} {a : α} (sv : SV)
    (aR : (jO ops ss L ⟨dst, .entry x, ty, pos, cv, g⟩, dst, (decide (d < n)), (L.any fun p => p.1 == d), (toSS [x] (lk L)).map SV.ak) = (true, some d, true, false, some [.pointer (some ⟨r, 0, none⟩)]))
    (k : Cx F O w0 w (MV v sh b r m left (some (key, a)) :: rest)) (Ep : SV.val sv = v.V a)
    (h1 : K ((d, .dB [.s key, sv]) :: L) w) :
    ji P n ops L w ⟨dst, .entry x, ty, pos, cv, g⟩ K := by
  have main : ji P n ops L w ⟨dst, .entry x, ty, pos, cv, g⟩ fun L' w' => L' = (d, .dB [.s key, .v (v.V a)]) :: L ∧ w' = w := by
    refine qU ss d aR k fun u k' => ?_
    obtain ⟨S, R, hh⟩ := k'.get 0 rfl
    have hr := hh.2.2 0 _ _ rfl rfl
    rw [hv] at hr
    have I4 : u = a := hr
    rw [I4]; exact ⟨rfl, rfl⟩
  intro ac Q1
  obtain ⟨q1, q2⟩ := main ac Q1
  refine ⟨q1, Oper.wp_mono ?_ q2⟩
  rintro a' w' ⟨L', hf, rfl, rfl⟩
  refine ⟨_, ?_, h1⟩
  have e : (Kn ((d, .dB [.s key, .v (v.V a)]) :: L)).map (fun e => (e.k, e.g, e.x.val)) = (Kn ((d, .dB [.s key, sv]) :: L)).map (fun e => (e.k, e.g, e.x.val)) := by
    simp [Kn, SV.val, SV.ak, Ep]
  refine ⟨⟨hf.defers, hf.size, fun en he hg => ?_⟩, fun en he g w hg => ?_⟩
  · simp only [Kn, List.map_cons, List.mem_cons] at he
    rcases he with rfl | he
    · have := hf.at_ { k := d, g := none, x := .dB [.s key, .v (v.V a)] } (by simp [Kn]) hg
      simpa [SV.val, SV.ak, Ep] using this
    · exact hf.at_ en (by simp only [Kn, List.map_cons, List.mem_cons]; exact .inr he) hg
  · simp only [Kn, List.map_cons, List.mem_cons, List.mem_map] at he
    rcases he with rfl | ⟨p, _, rfl⟩ <;> cases hg
theorem Cx.uH (k : Cx F O w0 w (MV v false b r m left cur :: rest)) : Cx F O w0 w (MS v b m :: rest) := by
  obtain ⟨⟨l, BB⟩, hf, k1⟩ := k.AL
  refine Cx.Eo l hf.fits ?_
  have := k1.J4 (h' := Mb b (jg l) (nM v l)) 0 rfl fun w S R h => by
    obtain ⟨hl, ⟨es, clock, since, c0, seen, m1, m2, m3, m4, m5⟩, hS, Kb⟩ := h
    exact ⟨hl, ⟨es, clock, m1, m2, m3, m4⟩, hS⟩
  exact this
end
end Go.Sx
namespace Go.Sx
open Go.RowKit Go.MapKept
set_option linter.unusedSimpArgs false
set_option linter.unusedVariables false
variable {α β γ δ ε ζ σ ι : Type}
def Kd (E : bx α) : Prop := ∀ a b, E.f a = E.f b → a = b
theorem bJ : Kd eI := fun a b h => by simpa [eI] using h
theorem bK : Kd eS := fun a b h => by simpa [eS] using h
theorem bL {E : bx α} {F : bx β} (h1 : Kd E) (h2 : Kd F) : Kd (eP E F) := fun a b h => by
  have h3 : E.f a.1 ++ F.f a.2 = E.f b.1 ++ F.f b.2 := h
  obtain ⟨q1, q2⟩ := List.append_inj h3 (by rw [E.len, E.len])
  exact Prod.ext (h1 _ _ q1) (h2 _ _ q2)
section
variable {P : Program} {n : Nat} {ops : Array Oper} {L : St} {w w0 : World} {F O : Nat → Prop} {hs rest : List HP} {K : St → World → Prop} {b : Nat}
theorem AN {dst : Option Nat} {t kt e ty : TypeId} {x y : Operand} {pos : String} {cv : Array Edge} {g : Option (Nat × Bool)} {v : Vl α α} {m : Mp α} (hv : v.q = SQ) (ss : List Nat) (d : Nat) {key : Ky} (z : α) (sv : SV)
    (aR : (jO ops ss L ⟨dst, .lookup t x y true, ty, pos, cv, g⟩, dst, (decide (d < n)), (L.any fun p => p.1 == d), (toSS [x, y] (lk L)).map SV.ak, P.underlying t, P.underlying kt) = (true, some d, true, false, some [.map (some b), kV key], some (.map kt e), some .string))
    (hz : (zeroValue e).run P w = .ok (v.V z) w) (hA : Acc F O w0 w v b m hs) (Ep : SV.val sv = v.V ((aO m key).getD z))
    (h1 : K ((d, .dB [sv, .b (aO m key).isSome]) :: L) w) :
    ji P n ops L w ⟨dst, .lookup t x y true, ty, pos, cv, g⟩ K := xu (ok := true) hv ss d z sv aR hz hA Ep h1
theorem mu {dst : Option Nat} {t kt e ty : TypeId} {x y : Operand} {pos : String} {cv : Array Edge} {g : Option (Nat × Bool)} {v : Vl α α} {m : Mp α} (hv : v.q = SQ) (ss : List Nat) (d : Nat) {key : Ky} (z : α) (sv : SV)
    (aR : (jO ops ss L ⟨dst, .lookup t x y false, ty, pos, cv, g⟩, dst, (decide (d < n)), (L.any fun p => p.1 == d), (toSS [x, y] (lk L)).map SV.ak, P.underlying t, P.underlying kt) = (true, some d, true, false, some [.map (some b), kV key], some (.map kt e), some .string))
    (hz : (zeroValue e).run P w = .ok (v.V z) w) (hA : Acc F O w0 w v b m hs) (Ep : SV.val sv = v.V ((aO m key).getD z))
    (h1 : K ((d, sv) :: L) w) :
    ji P n ops L w ⟨dst, .lookup t x y false, ty, pos, cv, g⟩ K := xu (ok := false) hv ss d z sv aR hz hA Ep h1
theorem yS {E : bx α} {u : Hd} {a : List α} (k : Cx F O w0 w (Sh (vH E).q [u] [a] :: hs)) : ∃ A c, u = (A, a.length, c) := by
  obtain ⟨S, R, hh⟩ := k.get 0 rfl
  have hr := hh.2.2 0 _ _ rfl rfl
  obtain ⟨u1, u2, u3⟩ := u
  have h2 : u2 = a.length := hr.1
  exact ⟨u1, u3, by rw [h2]⟩
theorem uI {dst : Option Nat} {t kt e ty : TypeId} {x y : Operand} {pos : String} {cv : Array Edge} {g : Option (Nat × Bool)} {E : bx α} {m : Mp (List α)} (ss : List Nat) (d : Nat) {key : Ky}
    (aR : (jO ops ss L ⟨dst, .lookup t x y true, ty, pos, cv, g⟩, dst, (decide (d < n)), (L.any fun p => p.1 == d), (toSS [x, y] (lk L)).map SV.ak, P.underlying t, P.underlying kt) = (true, some d, true, false, some [.map (some b), kV key], some (.map kt e), some .string))
    (hz : (zeroValue e).run P w = .ok (.slice Option.none 0 0) w) (hA : Acc F O w0 w (vH E) b m hs)
    (h0 : aO m key = none → K ((d, .dB [.v (.slice Option.none 0 0), .b false]) :: L) w)
    (h1 : ∀ A c a, aO m key = some a → Cx F O w0 w (Sh (SH E) [(A, a.length, c)] [a] :: hs) → K ((d, .dB [.v (.slice A a.length c), .b true]) :: L) w) :
    ji P n ops L w ⟨dst, .lookup t x y true, ty, pos, cv, g⟩ K :=
  ta (ok := true) (v := vH E) ss d aR hz hA h0 fun u a ha k => by
    obtain ⟨A, c, rfl⟩ := yS k
    exact h1 A c a ha k
theorem AO {dst : Option Nat} {t kt e ty : TypeId} {x y : Operand} {pos : String} {cv : Array Edge} {g : Option (Nat × Bool)} {E : bx α} {m : Mp (List α)} (ss : List Nat) (d : Nat) {key : Ky}
    (aR : (jO ops ss L ⟨dst, .lookup t x y false, ty, pos, cv, g⟩, dst, (decide (d < n)), (L.any fun p => p.1 == d), (toSS [x, y] (lk L)).map SV.ak, P.underlying t, P.underlying kt) = (true, some d, true, false, some [.map (some b), kV key], some (.map kt e), some .string))
    (hz : (zeroValue e).run P w = .ok (.slice Option.none 0 0) w) (hA : Acc F O w0 w (vH E) b m hs)
    (h0 : aO m key = none → K ((d, .v (.slice Option.none 0 0)) :: L) w)
    (h1 : ∀ A c a, aO m key = some a → Cx F O w0 w (Sh (SH E) [(A, a.length, c)] [a] :: hs) → K ((d, .v (.slice A a.length c)) :: L) w) :
    ji P n ops L w ⟨dst, .lookup t x y false, ty, pos, cv, g⟩ K :=
  ta (ok := false) (v := vH E) ss d aR hz hA h0 fun u a ha k => by
    obtain ⟨A, c, rfl⟩ := yS k
    exact h1 A c a ha k
theorem oE {dst : Option Nat} {t kt e ty : TypeId} {x y : Operand} {pos : String} {cv : Array Edge} {g : Option (Nat × Bool)} {v : Vl γ δ} {m : Mp (Mp δ)} (ss : List Nat) (d : Nat) {key : Ky}
    (aR : (jO ops ss L ⟨dst, .lookup t x y true, ty, pos, cv, g⟩, dst, (decide (d < n)), (L.any fun p => p.1 == d), (toSS [x, y] (lk L)).map SV.ak, P.underlying t, P.underlying kt) = (true, some d, true, false, some [.map (some b), kV key], some (.map kt e), some .string))
    (hz : (zeroValue e).run P w = .ok (.map none) w) (hA : Acc F O w0 w (vM v) b m hs)
    (h0 : aO m key = none → K ((d, .dB [.v (.map none), .b false]) :: L) w)
    (h1 : ∀ u a, aO m key = some a → Cx F O w0 w (Sh (RM v) [u] [a] :: hs) → K ((d, .dB [.v (.map (some u)), .b true]) :: L) w) :
    ji P n ops L w ⟨dst, .lookup t x y true, ty, pos, cv, g⟩ K :=
  ta (ok := true) (v := vM v) ss d aR hz hA h0 fun u a ha k => h1 u a ha k
theorem qY {dst : Option Nat} {ty : TypeId} {x : Operand} {pos : String} {cv : Array Edge} {g : Option (Nat × Bool)} {E : bx α} {m left : Mp (List α)} {sh : Bool} {r : Nat} (ss : List Nat) (d : Nat) {key : Ky} {a : List α}
    (aR : (jO ops ss L ⟨dst, .entry x, ty, pos, cv, g⟩, dst, (decide (d < n)), (L.any fun p => p.1 == d), (toSS [x] (lk L)).map SV.ak) = (true, some d, true, false, some [.pointer (some ⟨r, 0, none⟩)]))
    (k : Cx F O w0 w (MV (vH E) sh b r m left (some (key, a)) :: rest))
    (h1 : ∀ A c, Cx F O w0 w (Sh (SH E) [(A, a.length, c)] [a] :: MV (vH E) sh b r m left (some (key, a)) :: rest) → K ((d, .dB [.s key, .v (.slice A a.length c)]) :: L) w) :
    ji P n ops L w ⟨dst, .entry x, ty, pos, cv, g⟩ K :=
  qU ss d aR k fun u k' => by
    obtain ⟨A, c, rfl⟩ := yS k'
    exact h1 A c k'
theorem tb {dst : Option Nat} {ty : TypeId} {x : Operand} {pos : String} {cv : Array Edge} {g : Option (Nat × Bool)} {v : Vl γ δ} {m left : Mp (Mp δ)} {sh : Bool} {r : Nat} (ss : List Nat) (d : Nat) {key : Ky} {a : Mp δ}
    (aR : (jO ops ss L ⟨dst, .entry x, ty, pos, cv, g⟩, dst, (decide (d < n)), (L.any fun p => p.1 == d), (toSS [x] (lk L)).map SV.ak) = (true, some d, true, false, some [.pointer (some ⟨r, 0, none⟩)]))
    (k : Cx F O w0 w (MV (vM v) sh b r m left (some (key, a)) :: rest))
    (h1 : ∀ u, Cx F O w0 w (Sh (RM v) [u] [a] :: MV (vM v) sh b r m left (some (key, a)) :: rest) → K ((d, .dB [.s key, .v (.map (some u))]) :: L) w) :
    ji P n ops L w ⟨dst, .entry x, ty, pos, cv, g⟩ K :=
  qU ss d aR k h1
end
section
variable {F O F1 O1 : Nat → Prop} {w0 w w' : World} {hs rest : List HP} {E : bx α}
theorem Cx.Q2 {A : Option Addr} {n c : Nat} {hd : List Hd} {jI : List (List α)} (k : Cx F O w0 w (O2 E A n c hd jI :: rest)) : Cx F O w0 w (OG eH (SH E) A n c hd jI :: rest) := by
  obtain ⟨hl, k1⟩ := k.D_
  refine Cx.og ?_
  have key : ∀ (hd : List Hd) (jI : List (List α)) (hs : List HP), hd.length = jI.length → Cx F O w0 w (rows E hd jI ++ hs) → Cx F O w0 w (Sh (SH E) hd jI :: hs) := by
    intro hd
    induction hd with
    | nil =>
      intro jI hs hq kk
      cases jI with
      | nil => exact Cx.Lr kk (SH E)
      | cons => cases hq
    | cons a tl ih =>
      intro jI hs hq kk
      cases jI with
      | nil => cases hq
      | cons x xs =>
        have k2 : Cx F O w0 w (Ow E a.1 a.2.1 a.2.2 x :: (rows E tl xs ++ hs)) := kk
        have k3 := k2.share
        have k4 : Cx F O w0 w (rows E tl xs ++ (Sh (SH E) [(a.1, a.2.1, a.2.2)] [x] :: hs)) := k3.perm (by
          have := (List.perm_middle (a := Sh (SH E) [(a.1, a.2.1, a.2.2)] [x]) (l₁ := rows E tl xs) (l₂ := hs)).symm
          exact this)
        have k5 := ih xs _ (by simpa using hq) k4
        exact (k5.perm (.swap _ _ _)).Lt
  have k2 : Cx F O w0 w (rows E hd jI ++ (Ow eH A n c hd :: rest)) := k1.perm (by
    have := (List.perm_middle (a := Ow eH A n c hd) (l₁ := rows E hd jI) (l₂ := rest)).symm
    exact this)
  exact (key hd jI _ hl k2).perm (.swap _ _ _)
variable {A : Option Addr} {n c : Nat} {ys : List Hd} {xs : List (List α)}
theorem Cx.Ke {j : Int} {x : List α} (k : Cx F O w0 w hs) (i : Nat) (hi : hs[i]? = some (OG eH (SH E) A n c ys xs)) (hx : an xs j = some x) : ∃ B d, an ys j = some (B, x.length, d) ∧ x.length ≤ d := by
  obtain ⟨S, R, h⟩ := k.get i hi
  obtain ⟨_, hl, h2⟩ := OG.parts h
  obtain ⟨h0, h1⟩ := bn hx
  have eN := (List.getElem?_eq_some_iff.1 h1).1
  have hh : ys[j.toNat]? = some (ys[j.toNat]'(hl ▸ eN)) := List.getElem?_eq_getElem _
  have hr := h2 _ _ _ hh h1
  refine ⟨(ys[j.toNat]'(hl ▸ eN)).1, (ys[j.toNat]'(hl ▸ eN)).2.2, ?_, hr.2.1⟩
  unfold an
  rw [if_pos h0, hh, ← hr.1]
theorem Cx.Gd {j : Int} {m : Nat} {x : List α} {B : Option Addr} {d : Nat} (k : Cx F O w0 w hs) (i : Nat) (hi : hs[i]? = some (OG eH (SH E) A n c ys xs)) (hx : an xs j = some x) (hh : an ys j = some (B, m, d)) : Rd w B (E.all x) := by
  obtain ⟨S, R, h⟩ := k.get i hi
  obtain ⟨_, hl, h2⟩ := OG.parts h
  exact (h2 _ _ _ (lS hh) (lS hx)).2.2.1
theorem OG.Ev {j : Int} {m : Nat} {x : List α} {B : Option Addr} {d : Nat} (hO : ∀ b, O1 b → ¬ F1 b) (hr : ∀ (i : Nat) (h : HP), rest[i]? = some h → ∃ S R, h.p w S R ∧ (∀ b, R b → O1 b) ∧ ∀ b, S b → ¬ F1 b) (i : Nat) (hi : rest[i]? = some (OG eH (SH E) A n c ys xs)) (hx : an xs j = some x) (hh : an ys j = some (B, m, d)) : Ro F1 w B (E.all x) := by
  have h := yP.lR hr i hi
  have h2 := h.el _ _ _ (lS hh) (lS hx)
  exact ⟨h2.2.2.1, fun gf a ha hf => hO _ (h2.2.2.2 gf a ha) hf⟩
theorem Cx.Ge {j : Int} {m : Nat} {x : List α} {B : Option Addr} {d : Nat} (k : Cx F O w0 w hs) (i : Nat) (hi : hs[i]? = some (OG eH (SH E) A n c ys xs)) (hx : an xs j = some x) (hh : an ys j = some (B, m, d)) : Cx F O w0 w (Sh (SH E) [(B, m, d)] [x] :: hs) :=
  k.dup i hi fun w S R h => by
    obtain ⟨_, hl, h2⟩ := OG.parts h
    refine ⟨fun _ h => h, rfl, fun j2 y z e1 e2 => ?_⟩
    cases j2 with
    | succ j2 => cases e1
    | zero =>
      obtain rfl := Option.some.inj e1
      obtain rfl := Option.some.inj e2
      exact h2 _ _ _ (lS hh) (lS hx)
theorem Cx.Kf (k : Cx F O w0 w hs) (E : bx α) : Cx F O w0 w (Sh (SH E) [(Option.none, 0, 0)] [[]] :: hs) := by
  obtain ⟨U, V, h1, hU, hV⟩ := k.sep
  refine ⟨k.os, k.tape, k.output, k.size, k.block, k.fin, k.qG, U, V, ⟨fun _ => False, fun _ => False, U, V, ⟨fun _ h => h, rfl, fun j y x e1 e2 => ?_⟩, h1, by simp, by simp, fun b hb => hb.elim, fun b hb => hb.elim⟩, hU, hV⟩
  cases j with
  | succ j => cases e1
  | zero =>
    obtain rfl := Option.some.inj e1
    obtain rfl := Option.some.inj e2
    exact ⟨rfl, Nat.le_refl _, Rd.nil E w, fun gf => absurd rfl gf⟩
end
end Go.Sx
