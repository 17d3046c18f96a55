import Derived.OpenShut
import Derived.ShutString
import Derived.ChangeOld
import Derived.Below
import Derived.JoinedCond
import Derived.MapKept
import Derived.Maps.RangeRun
import Derived.Sort.OwnSorted
import Derived.Sort.KeysCollected
import Derived.Shelf.Sort.Plain
import Derived.Shelf.Slices.In.SortNone
import Derived.Sort.OwnSortedInts
import Derived.Shelf.Strconv.Itoa3
import Derived.Laws.FloatArith
import Derived.Test.YtoedpdamhabkoaaGreatK1
namespace Go.Sx
open Go.RowKit
set_option linter.unusedSimpArgs false
set_option linter.unusedVariables false
def QF : Exit → Act → World → Prop := fun _ _ _ => False
section
variable {P : Program} {ops : Array Oper} {Ls : List Nat} {C : Nat → World → Prop}
def nx (Ls : List Nat) (p i : Nat) : Nat := if Ls.contains i then p + 1 else p
def NL (P : Program) (ops : Array Oper) (Ls : List Nat) (C : Nat → World → Prop) (Q : Act → World → Prop) : Nat → Nat → Array Bool → Act → World → Prop
  | 0, _, aT, a, w => Region.ready .any ops aT = [] ∧ Q a w
  | k + 1, p, aT, a, w => (Region.ready .any ops aT = [] → Q a w) ∧
      ∀ i ∈ Region.ready .any ops aT, wpOp P ops QF i (fun a' w' => C (nx Ls p i) w' ∧ NL P ops Ls C Q k (nx Ls p i) (aT.setIfInBounds i true) a' w') a w
theorem Lt {i : Nat} {a : Act} {w : World} {K : Act → World → Prop} {Q : Exit → Act → World → Prop} (h : wpOp P ops QF i K a w) : wpOp P ops Q i K a w := by
  unfold wpOp at *
  split
  · rename_i ho; simp only [ho] at h; exact h
  · rename_i o ho
    simp only [ho] at h
    split
    · rename_i hw
      rw [if_pos hw] at h
      rcases h with h | ⟨_, a', w', hf⟩
      · exact .inl (Oper.Nu (fun _ _ _ hf => hf.elim) h)
      · exact hf.elim
    · rename_i hw
      rw [if_neg hw] at h
      exact h
theorem zB {Q : Act → World → Prop} {Q' : Exit → Act → World → Prop} (hq : ∀ a w, Q a w → Q' .normal a w) : ∀ (k p : Nat) (aT : Array Bool) (a : Act) (w : World), NL P ops Ls C Q k p aT a w → wpAny P .any ops Q' k aT a w
  | 0, _, _, _, _, h => ⟨h.1, hq _ _ h.2⟩
  | k + 1, _, _, _, _, h => ⟨fun h0 => hq _ _ (h.1 h0), fun i hi => wpOp_mono (fun a' w' h' => zB hq k _ _ a' w' h'.2) (Lt (h.2 i hi))⟩
def YC (P : Program) (ops : Array Oper) (C : World → Prop) (o : Oper) (v : Value) (a : Act) : Prop :=
  (Region.wanted o (yielded ops a.tmps) = true ∧ ∀ w, C w → (execOp a.eval o).run P w = .ok (.value v) w) ∨ (Region.wanted o (yielded ops a.tmps) = false ∧ v = undef)
theorem YC.op {D : World → Prop} {i : Nat} {o : Oper} {v : Value} {a : Act} {w : World} {Q : Exit → Act → World → Prop} (hi : ops[i]? = some o) (hy : YC P ops D o v a) (hw : D w) {K : Act → World → Prop} (h : K (a.put o.dst v) w) : wpOp P ops Q i K a w := by
  unfold wpOp
  simp only [hi]
  rcases hy with ⟨h1, h2⟩ | ⟨h1, rfl⟩
  · rw [if_pos h1]
    refine .inl ?_
    unfold Oper.wp
    rw [h2 w hw]
    exact h
  · rw [if_neg (by simp [h1])]
    exact h
theorem wpOp_put {D : World → Prop} {j : Nat} {oi oj : Oper} {v : Value} {w : World} (hj : ops[j]? = some oj) (SW : oi.apart ops oj = true) (SX : ∀ cs b, oi.op ≠ .select cs b) (SY : ∀ cs b, oj.op ≠ .select cs b) {K : Act → World → Prop} {a : Act}
    (hy : YC P ops D oi v a) (h : wpOp P ops QF j K (a.put oi.dst v) w) : wpOp P ops QF j (fun a' w' => YC P ops D oi v a' ∧ K (a'.put oi.dst v) w') a w := by
  obtain ⟨h1, h2, h3⟩ := Oper.apart_spec SW
  have sK : ∀ (u : Value), YC P ops D oi v (a.put oj.dst u) := fun u => by
    unfold YC at *
    rw [execOp_put oi SX a oj.dst u h3, wanted_put oi a oj.dst u h3]
    exact hy
  have NM : ∀ (u : Value) (d : Deferred), YC P ops D oi v ({ a with defers := d :: a.defers }.put oj.dst u) := fun u d => by
    have h4 := sK u
    unfold YC at *
    have e1 : ({ a with defers := d :: a.defers } : Act).put oj.dst u = { a.put oj.dst u with defers := d :: a.defers } := by
      unfold Act.put; split <;> rfl
    rw [e1]
    exact h4
  unfold wpOp at *
  simp only [hj] at *
  rw [wanted_put oj a oi.dst v h1] at h
  split
  · rename_i hw
    rw [if_pos hw] at h
    rcases h with h | ⟨_, a', w', hf⟩
    · refine .inl ?_
      unfold Oper.wp at *
      rw [execOp_put oj SY a oi.dst v h1] at h
      generalize (execOp a.eval oj).run P w = r at *
      cases r with
      | ok x w' =>
        cases x <;> simp only [Oper.upon] at h ⊢ <;> first | exact h.elim | skip
        case value u => exact ⟨sK u, by rw [← Act.put_comm a v u h2]; exact h⟩
        case skip => exact ⟨sK _, by rw [← Act.put_comm a v undef h2]; exact h⟩
        case defer d =>
          refine ⟨NM _ d, ?_⟩
          have e1 : (({ a with defers := d :: a.defers } : Act).put oj.dst undef).put oi.dst v = ({ a.put oi.dst v with defers := d :: (a.put oi.dst v).defers } : Act).put oj.dst undef := by
            rw [← Act.put_comm _ v undef h2]
            unfold Act.put; cases oi.dst <;> rfl
          rw [e1]; exact h
        case enter f args =>
          refine h.mono fun e RH he => ?_
          cases e with
          | returned u => exact ⟨sK u, by rw [← Act.put_comm a v u h2]; exact he⟩
          | panicked c => exact he
          | outgrown => exact he
        case row row args =>
          refine h.mono fun u RH he => ⟨sK u, by rw [← Act.put_comm a v u h2]; exact he⟩
      | halt x w' => cases x <;> simp only [Oper.upon] at h ⊢ <;> exact h
    · exact hf.elim
  · rename_i hw
    rw [if_neg hw] at h
    exact ⟨sK _, by rw [← Act.put_comm a v undef h2]; exact h⟩
def asks (ops : Array Oper) (j i : Nat) : Bool := match ops[j]? with
  | some o => o.after.any fun e => Region.binds .any e && e.on == i
  | none => false
def r5 (ops : Array Oper) (SZ : Nat → Bool) (j i : Nat) : Bool := asks ops j i || match ops[j]? with
  | some o => o.after.any fun e => Region.binds .any e && !SZ e.on && asks ops e.on i
  | none => false
def ahead (ops : Array Oper) (Ls : List Nat) (aT : Array Bool) (i : Nat) : Nat := (Ls.filter fun j => !aT.getD j true && !r5 ops (fun x => aT.getD x false) j i).length
theorem G5 {i j : Nat} {oj : Oper} (hj : ops[j]? = some oj) (Je : ∀ e ∈ oj.after, Region.binds .any e = true → e.on ≠ i) : asks ops j i = false := by
  unfold asks
  rw [hj]
  simp only [Array.any_eq_false']
  intro e he
  have := Je e he
  cases hb : Region.binds .any e with
  | false => simp
  | true => simpa using this hb
theorem AW {aT : Array Bool} {i j : Nat} (hj : j ∈ Region.ready .any ops aT) (hi : aT.getD i true = false) : r5 ops (fun x => aT.getD x false) j i = false := by
  obtain ⟨Ji, oj, M8, FR⟩ := mem_ready.1 hj
  have EL : aT.getD i false = false := by
    rcases Nat.lt_or_ge i aT.size with h' | h'
    · simp [h'] at hi ⊢; exact hi
    · simp [Array.getElem?_eq_none h']
  unfold r5
  rw [G5 M8 (fun e he hb heq => by have := FR e he hb; rw [heq, EL] at this; cases this), M8]
  simp only [Bool.false_or, Array.any_eq_false']
  intro e he
  cases hb : Region.binds .any e with
  | false => simp
  | true => simp only [FR e he hb]; simp
theorem AX {aT : Array Bool} {i j x : Nat} (hj : j ∈ Region.ready .any ops aT) (hi : aT.getD i true = false) (h : r5 ops (fun x => aT.getD x false) x i = true) : r5 ops (fun y => (aT.setIfInBounds j true).getD y false) x i = true := by
  have IQ : asks ops j i = false := by
    have := AW hj hi
    unfold r5 at this
    rw [Bool.or_eq_false_iff] at this
    exact this.1
  unfold r5 at h ⊢
  rw [Bool.or_eq_true] at h ⊢
  rcases h with h | h
  · exact .inl h
  · refine .inr ?_
    cases ho : ops[x]? with
    | none => rw [ho] at h; cases h
    | some o =>
      rw [ho] at h
      simp only [Array.any_eq_true'] at h ⊢
      obtain ⟨e, he, hq⟩ := h
      refine ⟨e, he, ?_⟩
      simp only [Bool.and_eq_true, Bool.not_eq_true'] at hq ⊢
      obtain ⟨⟨h1, h2⟩, h3⟩ := hq
      refine ⟨⟨h1, ?_⟩, h3⟩
      by_cases RU : j = e.on
      · rw [← RU, IQ] at h3; cases h3
      · rw [getD_set_ne false RU]; exact h2
theorem G6 {aT : Array Bool} {i j : Nat} (hr : j ∈ Region.ready .any ops aT) (hi : aT.getD i true = false) : ahead ops Ls (aT.setIfInBounds j true) i ≤ ahead ops Ls aT i := by
  unfold ahead
  rw [← List.countP_eq_length_filter, ← List.countP_eq_length_filter]
  refine List.countP_mono_left fun x _ hx => ?_
  simp only [Bool.and_eq_true, Bool.not_eq_true'] at hx ⊢
  refine ⟨?_, ?_⟩
  · by_cases NO : j = x
    · subst NO
      have := hx.1
      rcases Nat.lt_or_ge j aT.size with h | h
      · simp [h] at this
      · simp [Array.getElem?_eq_none h] at this
    · rw [getD_set_ne true NO] at hx; exact hx.1
  · cases hq : r5 ops (fun x => aT.getD x false) x i with
    | false => rfl
    | true => rw [AX hr hi hq] at hx; exact absurd hx.2 (by decide)
theorem G7 {aT : Array Bool} {i j : Nat} (hr : j ∈ Region.ready .any ops aT) (hi : aT.getD i true = false) (hj : Ls.contains j = true) (NP : aT.getD j true = false) : ahead ops Ls (aT.setIfInBounds j true) i + 1 ≤ ahead ops Ls aT i := by
  have S2 := AW hr hi
  unfold ahead
  rw [← List.countP_eq_length_filter, ← List.countP_eq_length_filter]
  have key : ∀ l : List Nat, l.countP (fun x => !(aT.setIfInBounds j true).getD x true && !r5 ops (fun y => (aT.setIfInBounds j true).getD y false) x i) ≤ l.countP (fun x => !aT.getD x true && !r5 ops (fun y => aT.getD y false) x i) := fun l => by
    refine List.countP_mono_left fun x _ hx => ?_
    simp only [Bool.and_eq_true, Bool.not_eq_true'] at hx ⊢
    refine ⟨?_, ?_⟩
    · by_cases NO : j = x
      · subst NO; exact NP
      · rw [getD_set_ne true NO] at hx; exact hx.1
    · cases hq : r5 ops (fun x => aT.getD x false) x i with
      | false => rfl
      | true => rw [AX hr hi hq] at hx; exact absurd hx.2 (by decide)
  have S3 : (aT.setIfInBounds j true).getD j true = true := by
    rcases Nat.lt_or_ge j aT.size with h | h
    · simp [h]
    · simp [Array.getElem?_eq_none h]
  induction Ls with
  | nil => simp at hj
  | cons x l ih =>
    rw [List.countP_cons, List.countP_cons]
    by_cases hx : x = j
    · subst hx
      have := key l
      simp only [S3, NP, S2, Bool.not_true, Bool.false_and, Bool.not_false, Bool.and_self, if_true]
      simp only [Bool.false_eq_true, if_false]
      omega
    · have h1 : l.contains j = true := by
        simp only [List.contains_cons, Bool.or_eq_true, beq_iff_eq] at hj
        exact hj.resolve_left (fun e => hx e.symm)
      have := ih h1
      have hm : (if (!(aT.setIfInBounds j true).getD x true && !r5 ops (fun y => (aT.setIfInBounds j true).getD y false) x i) = true then 1 else 0) ≤ (if (!aT.getD x true && !r5 ops (fun y => aT.getD y false) x i) = true then 1 else 0) := by
        have := key [x]
        simpa [List.countP_cons] using this
      omega
theorem AY {Q : Act → World → Prop} {i m : Nat} {oi : Oper} {v : Value} (KB : ∀ p q x, p ≤ q → C p x → C q x) (hi : ops[i]? = some oi) (S4 : Ls.contains i = false) (NQ : ∀ (j : Nat) (o : Oper) cs b, ops[j]? = some o → o.op ≠ .select cs b) :
    ∀ (k p : Nat) (aT : Array Bool) (a : Act) (w : World), C p w → p + ahead ops Ls aT i ≤ m →
      (∀ j oj, ops[j]? = some oj → j ≠ i → aT.getD j true = false → (∀ e ∈ oj.after, Region.binds .any e = true → e.on ≠ i) → oi.apart ops oj = true) →
      i ∈ Region.ready .any ops aT → YC P ops (C m) oi v a →
      NL P ops Ls C Q k p (aT.setIfInBounds i true) (a.put oi.dst v) w → NL P ops Ls C Q (k + 1) p aT a w := by
  have RV : ∀ p, nx Ls p i = p := fun p => by unfold nx; rw [S4]; rfl
  intro k
  induction k with
  | zero =>
    intro p aT a w hw hm _ hr hy H
    refine ⟨fun h => (by rw [h] at hr; cases hr), fun j hj => ?_⟩
    by_cases IQ : j = i
    · subst IQ; rw [RV]; exact hy.op hi (KB p m w (by omega) hw) ⟨hw, H⟩
    · have := ready_mono hj IQ
      rw [H.1] at this
      cases this
  | succ k ih =>
    intro p aT a w hw hm KC hr hy H
    refine ⟨fun h => (by rw [h] at hr; cases hr), fun j hj => ?_⟩
    by_cases IQ : j = i
    · subst IQ; rw [RV]; exact hy.op hi (KB p m w (by omega) hw) ⟨hw, H⟩
    · have h1 := H.2 j (ready_mono hj IQ)
      obtain ⟨Ji, oj, M8, FR⟩ := mem_ready.1 hj
      have Je : ∀ e ∈ oj.after, Region.binds .any e = true → e.on ≠ i := fun e he hb heq => by
        have h1 := FR e he hb
        have h0 := (mem_ready.1 hr).1
        rw [heq] at h1
        rcases Nat.lt_or_ge i aT.size with h' | h'
        · simp [h'] at h0 h1; rw [h0] at h1; cases h1
        · simp [Array.getElem?_eq_none h'] at h1
      have h2 := wpOp_put M8 (KC j oj M8 IQ Ji Je) (fun cs b => NQ i oi cs b hi) (fun cs b => NQ j oj cs b M8) hy h1
      have Lu : ∀ m om, ops[m]? = some om → m ≠ i → (aT.setIfInBounds j true).getD m true = false →
          (∀ e ∈ om.after, Region.binds .any e = true → e.on ≠ i) → oi.apart ops om = true := fun m om hm S5 NP NR => by
        refine KC m om hm S5 ?_ NR
        by_cases RW : j = m
        · subst RW; exact Ji
        · rw [getD_set_ne true RW] at NP; exact NP
      have RT : nx Ls p j + ahead ops Ls (aT.setIfInBounds j true) i ≤ m := by
        unfold nx
        split
        · rename_i hc
          have := G7 (ops := ops) (Ls := Ls) hj (mem_ready.1 hr).1 hc Ji
          omega
        · have := G6 (ops := ops) (Ls := Ls) hj (mem_ready.1 hr).1
          omega
      refine wpOp_mono (fun a' w' h3 => ?_) h2
      obtain ⟨S6, O0, h4⟩ := h3
      refine ⟨O0, ih _ (aT.setIfInBounds j true) a' w' O0 RT Lu (ready_mono hr (Ne.symm IQ)) S6 ?_⟩
      rw [Array.setIfInBounds_comm _ _ IQ]
      exact h4
def cls : List (World → Prop) → Nat → World → Prop
  | [], _, _ => True
  | c :: _, 0, x => c x
  | _ :: cs, p + 1, x => cls cs p x
def Aq : List (World → Prop) → Prop
  | c :: d :: cs => (∀ x, c x → d x) ∧ Aq (d :: cs)
  | _ => True
theorem Aq.step : ∀ (l : List (World → Prop)) (p : Nat) (x : World), Aq l → cls l p x → cls l (p + 1) x
  | [], _, _, _, _ => trivial
  | [_], 0, _, _, _ => trivial
  | [_], _ + 1, _, _, _ => trivial
  | _ :: _ :: _, 0, x, h, hx => h.1 x hx
  | _ :: d :: cs, p + 1, x, h, hx => Aq.step (d :: cs) p x h.2 hx
theorem Aq.le {l : List (World → Prop)} (h : Aq l) : ∀ p q x, p ≤ q → cls l p x → cls l q x := by
  intro p q x S7 hx
  obtain ⟨d, rfl⟩ := Nat.exists_eq_add_of_le S7
  induction d with
  | zero => exact hx
  | succ d ih => exact Aq.step l _ x h (ih (by omega))
inductive MT where
  | nil
  | q (i m : Nat) (r : MT)
  | op (i : Nat) (r : MT)
  | br (i j : Nat) (ri rj : MT)
def MT.depth : MT → Nat
  | .nil => 0
  | .q _ _ r => r.depth + 1
  | .op _ r => r.depth + 1
  | .br _ _ r _ => r.depth + 1
def MT.drop : Nat → MT → MT
  | k + 1, .q _ _ r => r.drop k
  | _, π => π
def vJ (ops : Array Oper) (Ls : List Nat) : MT → Nat → Array Bool → Bool
  | .nil, _, aT => (Region.ready .any ops aT).isEmpty
  | .q i m π, p, aT => (Region.ready .any ops aT).contains i && Region.free .any ops aT i && !Ls.contains i && decide (p + ahead ops Ls aT i ≤ m) && vJ ops Ls π p (aT.setIfInBounds i true)
  | .op i π, p, aT => Region.ready .any ops aT == [i] && vJ ops Ls π (nx Ls p i) (aT.setIfInBounds i true)
  | .br i j ri rj, p, aT => Region.ready .any ops aT == [i, j] && rj.depth == ri.depth && vJ ops Ls ri (nx Ls p i) (aT.setIfInBounds i true) && vJ ops Ls rj (nx Ls p j) (aT.setIfInBounds j true)
def MX (P : Program) (n : Nat) (ops : Array Oper) (Ls : List Nat) (C : List (World → Prop)) (Q : Act → World → Prop) (π : MT) (p : Nat) (aT : Array Bool) (L : List En) (w : World) : Prop :=
  Region.noSelect ops = true → Aq C → vJ ops Ls π p aT = true → cls C p w → ∀ a, Fu n a L → NL P ops Ls (cls C) Q π.depth p aT a w
variable {C : List (World → Prop)}
theorem d_ {n p : Nat} {Q : Act → World → Prop} {aT : Array Bool} {L : St} {w : World} (h : At n Q L w) : MX P n ops Ls C Q .nil p aT (Kn L) w :=
  fun _ _ hB _ a ha => ⟨by simpa [vJ] using hB, h a ha⟩
def FT (ops : Array Oper) (m : Nat) : Nat → MT → Option (List Oper)
  | 0, _ => some []
  | k + 1, .q i m' r => if m' = m then match ops[i]?, FT ops m k r with
    | some o, some l => some (o :: l)
    | _, _ => none else none
  | _ + 1, _ => none
theorem FU {n p m : Nat} {Q : Act → World → Prop} {ss : List Nat} {w : World} {L' : List En} : ∀ (k : Nat) (π : MT) (l : List Oper) (aT : Array Bool) (L : List En) (os os' : List SV) (cs : List j3),
    FT ops m k π = some l → AU P n ops ss l L os = some (L', cs, os') → (∀ w, cls C m w → ∀ c ∈ cs, c w) → (∀ nt, MX P n ops Ls C Q (π.drop k) p nt L' w) → MX P n ops Ls C Q π p aT L w := by
  intro k
  induction k with
  | zero =>
    intro π l aT L os os' cs hq h hc hk
    simp only [FT, Option.some.injEq] at hq
    subst hq
    simp only [AU, Option.some.injEq, Prod.mk.injEq] at h
    obtain ⟨rfl, rfl, rfl⟩ := h
    have e : π.drop 0 = π := by cases π <;> rfl
    rw [e] at hk
    exact hk aT
  | succ k ih =>
    intro π l aT L os os' cs hq h hc hk
    cases π with
    | q i m' π =>
      simp only [FT] at hq
      split at hq
      · rename_i OR
        subst OR
        split at hq
        · rename_i o l' ho Pn
          simp only [Option.some.injEq] at hq
          subst hq
          simp only [AU] at h
          split at h
          · rename_i L1 c1 CH h1
            split at h
            · rename_i L2 c2 M5 h2
              simp only [Option.some.injEq, Prod.mk.injEq] at h
              obtain ⟨rfl, rfl, rfl⟩ := h
              intro IS Gt hB hw a ha
              simp only [vJ, Bool.and_eq_true, decide_eq_true_eq, Bool.not_eq_true'] at hB
              obtain ⟨⟨⟨⟨hr, hf⟩, RX⟩, RY⟩, hB⟩ := hB
              have KD := ih π l' (aT.setIfInBounds i true) L1 CH _ c2 Pn h2 (fun w hw c yR => hc w hw c (List.mem_append_right _ yR)) hk IS Gt hB hw
              rcases xW ha h1 with ⟨PI, v, lH, GL⟩ | ⟨PI, GL⟩
              · exact AY Gt.le ho RX (Region.noSelect_spec IS) _ p aT a w hw RY (Region.free_spec ho hf) (by simpa using hr) (.inl ⟨PI, fun w' O0 => lH w' fun c yR => hc w' O0 c (List.mem_append_left _ yR)⟩) (KD _ GL)
              · exact AY Gt.le ho RX (Region.noSelect_spec IS) _ p aT a w hw RY (Region.free_spec ho hf) (by simpa using hr) (.inr ⟨PI, rfl⟩) (KD _ GL)
            · cases h
          · cases h
        · cases hq
      · cases hq
    | _ => cases hq
theorem PJ {n p : Nat} {Q : Act → World → Prop} {w : World} {π : MT} {aT : Array Bool} {L : St} (k m : Nat) (ss : List Nat) (os : List SV) (L' : St) (cs : List j3)
    (hs : ((FT ops m k π).bind fun l => AU P n ops ss l (Kn L) os).map (fun r => (L'.map fun e => (look r.1 e.1).map fun e => (e.g, e.x.val), r.2.1, r.2.2)) = some (L'.map fun p => some (none, p.2.val), cs, []))
    (hc : ∀ w, cls C m w → I9 cs w) (h : ∀ nt, MX P n ops Ls C Q (π.drop k) p nt (Kn L') w) : MX P n ops Ls C Q π p aT (Kn L) w := by
  rw [Option.map_bind] at hs
  simp only [Option.bind_eq_some_iff] at hs
  obtain ⟨l, hl, hs⟩ := hs
  obtain ⟨Lc, he, hk⟩ := K_.sK (P := P) (n := n) (ops := ops) (ss := ss) (l := l) (L := L) (os := os) (L' := L') (cs := cs) hs
  refine FU k π l aT (Kn L) os [] cs hl he (fun w hw => xo (hc w hw)) fun nt => ?_
  intro IS Gt hB hw a ha
  exact h nt IS Gt hB hw a (hk a ha)
theorem cC {n p : Nat} {Q : Act → World → Prop} {w : World} {π : MT} {aT : Array Bool} {L : St} {i : Nat} {o : Oper} (hl : Ls.contains i = true) (ho : ops[i]? = some o)
    (h : uy P n ops L w o fun L' w' => cls C (p + 1) w' ∧ ∀ nt, MX P n ops Ls C Q π (p + 1) nt (Kn L') w') : MX P n ops Ls C Q (.op i π) p aT (Kn L) w := by
  intro IS Gt hB hw a ha
  have FV : nx Ls p i = p + 1 := by unfold nx; rw [if_pos hl]
  simp only [vJ, Bool.and_eq_true, beq_iff_eq, FV] at hB
  obtain ⟨hr, hB⟩ := hB
  obtain ⟨h1, h2⟩ := h a ha
  refine ⟨fun h0 => (by rw [h0] at hr; cases hr), fun j hj => ?_⟩
  rw [hr] at hj
  simp only [List.mem_singleton] at hj
  subst hj
  unfold wpOp
  simp only [ho, FV]
  rw [if_pos h1]
  refine .inl (Oper.wp_mono ?_ h2)
  rintro a' w' ⟨L', hf, hc, hk⟩
  exact ⟨hc, hk _ IS Gt hB hc a' hf⟩
theorem KE {n p : Nat} {Q : Act → World → Prop} {w : World} {πi πj : MT} {aT : Array Bool} {L : St} {i j : Nat} {oi oj : Oper} (S8 : Ls.contains i = true) (S9 : Ls.contains j = true) (hi : ops[i]? = some oi) (hj : ops[j]? = some oj)
    (h : uy P n ops L w oi fun L' w' => cls C (p + 1) w' ∧ ∀ nt, MX P n ops Ls C Q πi (p + 1) nt (Kn L') w')
    (h' : uy P n ops L w oj fun L' w' => cls C (p + 1) w' ∧ ∀ nt, MX P n ops Ls C Q πj (p + 1) nt (Kn L') w') : MX P n ops Ls C Q (.br i j πi πj) p aT (Kn L) w := by
  intro IS Gt hB hw a ha
  have FV : nx Ls p i = p + 1 := by unfold nx; rw [if_pos S8]
  have NS : nx Ls p j = p + 1 := by unfold nx; rw [if_pos S9]
  simp only [vJ, Bool.and_eq_true, beq_iff_eq, FV, NS] at hB
  obtain ⟨⟨⟨hr, hd⟩, S_⟩, Ta⟩ := hB
  refine ⟨fun h0 => (by rw [h0] at hr; cases hr), fun k hk => ?_⟩
  rw [hr] at hk
  simp only [List.mem_cons, List.not_mem_nil, or_false] at hk
  rcases hk with rfl | rfl
  · obtain ⟨h1, h2⟩ := h a ha
    unfold wpOp
    simp only [hi, FV]
    rw [if_pos h1]
    refine .inl (Oper.wp_mono ?_ h2)
    rintro a' w' ⟨L', hf, hc, hk⟩
    exact ⟨hc, hk _ IS Gt S_ hc a' hf⟩
  · obtain ⟨h1, h2⟩ := h' a ha
    unfold wpOp
    simp only [hj, NS]
    rw [if_pos h1]
    refine .inl (Oper.wp_mono ?_ h2)
    rintro a' w' ⟨L', hf, hc, hk⟩
    have := hk _ IS Gt Ta hc a' hf
    rw [hd] at this
    exact ⟨hc, this⟩
theorem NT {n : Nat} {id : Nat} {l : List Oper} {Q : Exit → Act → World → Prop} {L : St} {w : World} (hm : P.follows .mixedOrders = true) (π : MT) (Ls : List Nat) (C : List (World → Prop))
    (hB : (Region.noSelect l.toArray, vJ l.toArray Ls π 0 (Array.replicate l.length false), π.depth == l.length) = (true, true, true)) (Gt : Aq C) (hC : cls C 0 (w.drewN 1)) (h : ∀ aT, MX P n l.toArray Ls C (Q .normal) π 0 aT (Kn L) (w.drewN 1)) :
    W P n (.region id l.toArray true) Q L w := by
  intro a ha
  simp only [Prod.mk.injEq, beq_iff_eq] at hB
  obtain ⟨h1, h2, h3⟩ := hB
  refine wp_region_any hm ?_
  have := h (Array.replicate l.length false) h1 Gt h2 hC a ha
  rw [h3] at this
  exact zB (fun _ _ hq => hq) _ _ _ _ _ (by rw [show l.toArray.size = l.length from by simp]; exact this)
end
end Go.Sx
namespace Go.Sx
open Go.RowKit
set_option linter.unusedSimpArgs false
set_option linter.unusedVariables false
variable {α β : Type}
instance {n : Nat} [Inhabited α] : Inhabited (ae α n) := ⟨ae.rep n default⟩
def ae.of [Inhabited α] (n : Nat) (l : List α) : ae α n := if h : l.length = n then ⟨l, h⟩ else ae.rep n default
theorem ae.NU [Inhabited α] {n : Nat} {l : List α} (h : l.length = n) : (ae.of n l).l = l := by
  unfold ae.of
  rw [dif_pos h]
def Jj (xs : List α) (l : Int) (z : α) (b : Nat) : Option (List α) := if 0 ≤ l ∧ (xs.length + l.toNat) * b ≤ 140737488355328 then some (xs ++ List.replicate l.toNat z) else none
theorem FW {xs ys : List α} {l : Int} {z : α} {b : Nat} (h : Jj xs l z b = some ys) : 0 ≤ l ∧ (xs.length + l.toNat) * b ≤ 140737488355328 ∧ ys = xs ++ List.replicate l.toNat z := by
  unfold Jj at h
  split at h
  · rename_i hc
    simp only [Option.some.injEq] at h
    exact ⟨hc.1, hc.2, h.symm⟩
  · cases h
abbrev SV.ar (E : fm α) {n : Nat} (x : ae α n) : SV := .vec (n * E.sz) (E.vec x)
section
variable {P : Program} {n : Nat} {Q : Exit → Act → World → Prop} {ops : Array Oper} {L : St} {w w0 : World} {F O : Nat → Prop} {hs : List HP} {K : St → World → Prop}
theorem G8 {x : Code} (K : St → World → Prop) (h1 : W P n x (Exit.then (fun a w => ∃ L, Fu n a (Kn L) ∧ K L w) Q) L w) (h2 : ∀ L w, K L w → At n (Q .normal) L w) : W P n x Q L w := by
  intro a ha
  refine wp_mono (h1 a ha) ?_
  intro e a' w' hq
  cases e with
  | normal => obtain ⟨L', hf, hk⟩ := hq; exact h2 L' w' hk a' hf
  | _ => exact hq
theorem Ro.Jk (E : fm α) : Ro F w none (E.all ([] : List α)) := Ro.nil (A := none)
theorem Src.sl {E : fm α} {A : Option Addr} {xs : List α} {m c sz : Nat} (h : Rd w A (E.all xs)) (hn : xs.length = m) (hs : E.sz = sz) : Src P sz w (.slice A m c) m (E.all xs) :=
  Src.slice h (by rw [fm.dx, hn, hs])
theorem y1 {xs ys : List α} {lo hi : Int} (h : x5 xs lo hi = some ys) (h0 : lo = 0) : ys = xs.take ys.length := by
  obtain ⟨h1, h2, h3, h4⟩ := iB h
  have hl := lh h
  rw [hl]
  subst h0
  rw [h4]
  simp
theorem KF {E : fm α} {m : Nat} {x : ae α m} {i : Int} {y : α} {v : Value} (h : aS x.l i = some y) (hv : (E.f y)[0]? = some v) : (0 ≤ i ∧ i < ((m : Nat) : Int)) ∧ (SV.cl [SV.ar E x])[i.toNat * E.sz]? = some v := by
  have h1 := kS h
  rw [x.h] at h1
  refine ⟨h1, ?_⟩
  rw [oB]
  have := E.CV (eR h).2 hv
  simp only [SV.cl, List.append_nil]
  show (E.all x.l)[i.toNat * E.sz]? = some v
  simpa using this
theorem Lv {E : fm α} {m : Nat} {x : ae α m} {i : Int} {y : α} {vs : List Value} (h : aS x.l i = some y) (hv : E.f y = vs) : (0 ≤ i ∧ i < ((m : Nat) : Int)) ∧ ((SV.cl [SV.ar E x]).drop (i.toNat * E.sz)).take E.sz = vs := by
  have h1 := kS h
  rw [x.h] at h1
  refine ⟨h1, ?_⟩
  rw [oB, ← hv]
  simp only [SV.cl, List.append_nil]
  exact E.DX (eR h).2
theorem Lw {fn : Func} {R : Ending → World → Prop} (os : List SV) (xs : List SV) (cs : List j3) (hr : zn P fn.results.toList L os = some (xs, cs, [])) (hc : I9 cs w) (h : R (.returned (CU xs).val) w) : At n (bodyPost P fn R .normal) L w :=
  GQ (P := P) (fn := fn) os xs cs hr hc h
theorem KG {E : fm α} {m : Nat} (x : ae α m) : SV.cl [SV.ar E x] = (eV E m).f x := by
  rw [oB]
  show E.all x.l ++ [] = E.all x.l
  rw [List.append_nil]
theorem Rd.Tb {w : World} {A p : Option Addr} {E : fm α} {m : Nat} {xs : List (ae α m)} {i : Int} {x : ae α m} (h : Rd w A ((eV E m).all xs)) (hg : aS xs i = some x) (hp : Pt A (i.toNat * (eV E m).sz + 0) p) (hm : 0 < (eV E m).sz) : ∃ a, p = some a ∧ Rd w (some a) (SV.cl [SV.ar E x]) := by
  rw [KG]
  refine h.RQ hg hp ?_ hm (by omega)
  rw [List.drop_zero]
  have := (eV E m).len x
  rw [← this, List.take_length]
theorem G9 {E : fm α} {k m : Nat} {x : ae (ae α k) m} {i : Int} {y : ae α k} (h : aS x.l i = some y) : (0 ≤ i ∧ i < ((m : Nat) : Int)) ∧ ((SV.cl [SV.ar (eV E k) x]).drop (i.toNat * (eV E k).sz)).take (eV E k).sz = SV.cl [SV.ar E y] :=
  Lv h (KG y).symm
theorem Cx.M9 {t : TypeId} {g : Nat} {ys : List SV} (k : Cx F O w0 w hs) (i : Nat) (hi : hs[i]? = some (Bx t g ys)) (off : Nat) (v : SV) (h : (CK off ys).map SV.val = some v.val) : ∃ a, some (⟨g, off, none⟩ : Addr) = some a ∧ w.cell? a = some v.val := by
  simp only [Option.map_eq_some_iff] at h
  obtain ⟨x, hx, he⟩ := h
  rw [← he]
  exact (k.uz i hi).Ks (Pt.at g off) (zc hx).1
theorem Cx.PK {t : TypeId} {g : Nat} {ys : List SV} (k : Cx F O w0 w hs) (i : Nat) (hi : hs[i]? = some (Bx t g ys)) (off m : Nat) (zs : List SV) (h : (zd off m ys).map SV.cl = some (SV.cl zs)) (hm : 0 < m) : ∃ a, some (⟨g, off, none⟩ : Addr) = some a ∧ Rd w (some a) (SV.cl zs) := by
  simp only [Option.map_eq_some_iff] at h
  obtain ⟨x, hx, he⟩ := h
  obtain ⟨e1, e2, e3⟩ := yD hx
  rw [← he, ← e1]
  exact (k.uz i hi).Kt (Pt.at g off) (by rw [dZ]; exact e3) hm
theorem Jl {ty t : TypeId} {p x : Operand} {pos : String} {lM : Array Edge} {g : Option (Nat × Bool)} (ss : List Nat) (i : Nat) {pa : Option Addr} {sv : SV} {svs : List SV} {bt : TypeId} {b : Nat} {ys : List SV} (zs : List SV) {off : Nat}
    (gE : (vI ops ss L (⟨none, .store t p x, ty, pos, lM, g⟩ : Oper), (none : Option Nat), (toSS [p, x] (lk L)).map SV.ad, qZ P t, qx sv, svs.all SV.Am) = (true, none, some [.pointer pa, sv.val], some (SV.width svs), some svs, true))
    (hp : Pt (some ⟨b, 0, none⟩) off pa) (k : Cx F O w0 w hs) (hi : hs[i]? = some (Bx bt b ys)) (hz : (Gy off (SV.width svs) svs ys).map SV.cl = some (SV.cl zs))
    (hk : ∀ w', Cx F O w0 w' (hs.set i (Bx bt b zs)) → K L w') :
    uy P n ops L w ⟨none, .store t p x, ty, pos, lM, g⟩ K := by
  simp only [Option.map_eq_some_iff] at hz
  obtain ⟨Un, K2, he⟩ := hz
  obtain ⟨e1, e2, e3, e4⟩ := AP K2
  refine G0 ss i zs gE hp k hi ?_ e4 hk
  rw [← he, e1]
  unfold pat
  rw [dZ]
end
end Go.Sx
namespace Go.Sx
open Go.RowKit
set_option linter.unusedSimpArgs false
set_option linter.unusedVariables false
inductive Bl : St → St → Prop
  | a {l} : Bl l l
  | z {l} : Bl l []
  | k {x l l'} : Bl l l' → Bl (x :: l) (x :: l')
  | s {x l l'} : Bl l l' → Bl (x :: l) l'
  | n {l l'} (i : Nat) (v : SV) : Bl l l' → Bl l ((i, v) :: l')
theorem Bl.kk {x y l l'} (h : Bl l l') : Bl (x :: y :: l) (x :: y :: l') := .k (.k h)
theorem Bl.uk {x y z l l'} (h : Bl l l') : Bl (x :: y :: z :: l) (x :: y :: z :: l') := .k (.kk h)
theorem Bl.bX {x y z u l l'} (h : Bl l l') : Bl (x :: y :: z :: u :: l) (x :: y :: z :: u :: l') := .kk (.kk h)
theorem Bl.ss {x y l l'} (h : Bl l l') : Bl (x :: y :: l) l' := .s (.s h)
theorem Bl.oQ {x y z l l'} (h : Bl l l') : Bl (x :: y :: z :: l) l' := .s (.ss h)
theorem Bl.jn {x y z u l l'} (h : Bl l l') : Bl (x :: y :: z :: u :: l) l' := .ss (.ss h)
section
variable {α β σ ρ : Type} {P : Program} {n : Nat} {Q : Exit → Act → World → Prop} {ops : Array Oper} {L L' : St} {w w0 : World} {os : List SV} {cs : List j3} {F O : Nat → Prop} {hs : List HP}
structure Ask (os : List SV) (cs : List j3) (w : World) : Prop where
  h : I9 cs w
def dp (p : Prop) : j3 := fun _ => p
def dS (A : Option Addr) : j3 := fun _ => A.isSome = true
def dI (i : Int) (n : Nat) (A : Option Addr) : j3 := fun _ => 0 ≤ i ∧ i < (n : Int) ∧ A.isSome = true
def dC (p : Option Addr) (v : SV) : j3 := fun w => ∃ a, p = some a ∧ w.cell? a = some v.val
def dR (p : Option Addr) (cs : List SV) : j3 := fun w => ∃ a, p = some a ∧ Rd w (some a) (SV.cl cs)
theorem qe : Ask [] [] w := ⟨trivial⟩
theorem qo (v : SV) (r : Ask os cs w) : Ask (v :: os) cs w := ⟨r.h⟩
theorem qc (c : j3) (p : c w) (r : Ask os cs w) : Ask os (c :: cs) w := ⟨p, r.h⟩
theorem qp (p : Prop) (h : p) (r : Ask os cs w) : Ask os (dp p :: cs) w := ⟨h, r.h⟩
theorem qs (g off : Nat) (r : Ask os cs w) : Ask os (dS (some ⟨g, off, none⟩) :: cs) w := ⟨rfl, r.h⟩
theorem qS {A : Option Addr} (h : A.isSome = true) (r : Ask os cs w) : Ask os (dS A :: cs) w := ⟨h, r.h⟩
theorem qI {m : Nat} {v : ae α m} {i : Int} {x : α} (g off : Nat) (h : aS v.l i = some x) (r : Ask os cs w) : Ask os (dI i m (some ⟨g, off, none⟩) :: cs) w :=
  ⟨⟨(kS h).1, by have := (kS h).2; have := v.h; omega, rfl⟩, r.h⟩
class Pos (E : fm α) : Prop where h : 0 < E.sz
instance : Pos e8 := ⟨by decide⟩
instance : Pos SF := ⟨by decide⟩
instance : Pos dt := ⟨by decide⟩
instance : Pos cj := ⟨by decide⟩
instance : Pos eI := ⟨by decide⟩
instance : Pos eS := ⟨by decide⟩
instance : Pos eB := ⟨by decide⟩
instance {a : fm α} {b : fm β} [h : Pos a] : Pos (eP a b) := ⟨Nat.lt_of_lt_of_le h.h (Nat.le_add_right _ _)⟩
instance {E : fm α} {m : Nat} [h : Pos E] : Pos (eV E (m + 1)) := ⟨Nat.mul_pos (Nat.succ_pos m) h.h⟩
theorem qJ {E : fm α} [he : Pos E] {A : Option Addr} {xs : List α} {i : Int} {x : α} {m : Nat} (rd : Rd w A (E.all xs)) (h : aS xs i = some x) (hl : xs.length = m) (r : Ask os cs w) : Ask os (dI i m A :: cs) w :=
  ⟨rd.ix h hl he.h, r.h⟩
theorem qC {p : Option Addr} (v : SV) (h : ∃ a, p = some a ∧ w.cell? a = some v.val) (r : Ask os cs w) : Ask (v :: os) (dC p v :: cs) w := ⟨h, r.h⟩
theorem qR {p : Option Addr} (zs : List SV) (h : ∃ a, p = some a ∧ Rd w (some a) (SV.cl zs)) (r : Ask os cs w) : Ask (.agg zs :: os) (dR p zs :: cs) w := ⟨h, r.h⟩
theorem qB {t : TypeId} {g : Nat} {ys : List SV} (k : Cx F O w0 w hs) (i : Nat) (hi : hs[i]? = some (Bx t g ys)) (off : Nat) (v : SV) (h : (CK off ys).map SV.val = some v.val) (r : Ask os cs w) : Ask (v :: os) (dC (some ⟨g, off, none⟩) v :: cs) w := ⟨k.M9 i hi off v h, r.h⟩
theorem Cx.nU {t : TypeId} {g m : Nat} {ys : List SV} (k : Cx F O w0 w hs) (i : Nat) (hi : hs[i]? = some (Bx t g ys)) (E : fm α) (x : ae α m) (off : Nat) (hd : ((sE off ys).bind List.head?).map (fun v => (v.xe, v.val)) = some (true, .agg ⟨E.all x.l⟩)) : Rd w (some ⟨g, off, none⟩) (E.all x.l) := (k.uz i hi).vec hd
theorem qV {E : fm α} {A : Option Addr} {m : Nat} {xs : ae α m} {i : Int} {x : α} (rd : Rd w A (E.all xs.l)) (h : aS xs.l i = some x) (hA : A.isSome = true) (s : SV) (hs : E.f x = [s.val]) (r : Ask os cs w) : Ask (s :: os) (dI i m A :: dC (nM A i E.sz) s :: cs) w :=
  ⟨⟨(kS h).1, by have := (kS h).2; have := xs.h; omega, hA⟩, rd.el h (k := 0) (Pt.x6 A i E.sz) (by rw [hs]; rfl), r.h⟩
theorem qW {E : fm α} [he : Pos E] {A : Option Addr} {xs : List α} {i : Int} {x : α} {m : Nat} (rd : Rd w A (E.all xs)) (h : aS xs i = some x) (hl : xs.length = m) (s : SV) (hs : E.f x = [s.val]) (r : Ask os cs w) : Ask (s :: os) (dI i m A :: dC (nM A i E.sz) s :: cs) w :=
  ⟨rd.ix h hl he.h, rd.el h (k := 0) (Pt.x6 A i E.sz) (by rw [hs]; rfl), r.h⟩
theorem qX {xs : List UInt8} {i : Int} {y : UInt8} (h : aS xs i = some y) (r : Ask os cs w) : Ask (.u8 y :: os) (dp (0 ≤ i ∧ xs[i.toNat]? = some y) :: cs) w := ⟨eR h, r.h⟩
theorem qT {t : TypeId} {g : Nat} {ys : List SV} (k : Cx F O w0 w hs) (i : Nat) (hi : hs[i]? = some (Bx t g ys)) (off m : Nat) (zs : List SV) (h : (zd off m ys).map SV.cl = some (SV.cl zs)) (hm : 0 < m) (r : Ask os cs w) : Ask (.agg zs :: os) (dR (some ⟨g, off, none⟩) zs :: cs) w := ⟨k.PK i hi off m zs h hm, r.h⟩
theorem ba {l : List Oper} (k : Nat) (ss : List Nat) (b : Bl L L') (q : Ask os cs w) (hs : (AU P n ops ss (l.take k) (Kn L) os).map (fun r => (L'.map fun e => (look r.1 e.1).map fun e => (e.g, e.x.val), r.2.1, r.2.2)) = some (L'.map fun p => some (none, p.2.val), cs, [])) (h : WL P n ops Q (l.drop k) L' w) : WL P n ops Q l L w := La k ss os L' cs hs q.h h
theorem bO {id : Nat} {l : List Oper} (ss : List Nat) (b : Bl L L') (q : Ask os cs w) (hs : (AU P n l.toArray ss l (Kn L) os).map (fun r => (L'.map fun e => (look r.1 e.1).map fun e => (e.g, e.x.val), r.2.1, r.2.2)) = some (L'.map fun p => some (none, p.2.val), cs, [])) (h : At n (Q .normal) L' w) : W P n (.region id l.toArray false) Q L w := I_ ss os L' cs hs q.h h
theorem Gu {id : Nat} {l : List Oper} (hm : P.follows .mixedOrders = true) (hB : Region.lexB .any l.toArray = true) (b : Bl L L') (q : ∀ m, Ask os cs (w.drewN m)) (hs : (AU P n l.toArray [] l (Kn L) os).map (fun r => (L'.map fun e => (look r.1 e.1).map fun e => (e.g, e.x.val), r.2.1, r.2.2)) = some (L'.map fun p => some (none, p.2.val), cs, [])) (h : ∀ m, At n (Q .normal) L' (w.drewN m)) : W P n (.region id l.toArray true) Q L w := Lb hm os L' cs hB hs (fun m => (q m).h) h
theorem cK {p : Nat} {Ls : List Nat} {C : List (World → Prop)} {Q : Act → World → Prop} {π : MT} {aT : Array Bool} (k m : Nat) (ss : List Nat) (b : Bl L L') (q : ∀ w, cls C m w → Ask os cs w)
    (hs : ((FT ops m k π).bind fun l => AU P n ops ss l (Kn L) os).map (fun r => (L'.map fun e => (look r.1 e.1).map fun e => (e.g, e.x.val), r.2.1, r.2.2)) = some (L'.map fun p => some (none, p.2.val), cs, [])) (h : ∀ nt, MX P n ops Ls C Q (π.drop k) p nt (Kn L') w) : MX P n ops Ls C Q π p aT (Kn L) w := PJ k m ss os L' cs hs (fun w hw => (q w hw).h) h
theorem jS {Q : Exit → Act → World → Prop} {K : St → World → Prop} (h : K L' w) (hk : L'.map (fun p => (find L p.1).map SV.val) = L'.map (fun p => some p.2.val)) : At n (Exit.then (fun a w => ∃ L, Fu n a (Kn L) ∧ K L w) Q .normal) L w := xX L' hk (Ld h)
theorem mN {Q : Exit → Act → World → Prop} {rel : σ → St → World → Prop} {y : σ ⊕ ρ} (s' : σ) (hy : y = .inl s') (h : rel s' L' w) (hk : L'.map (fun p => (find L p.1).map SV.val) = L'.map (fun p => some p.2.val)) : At n (Exit.then (fun a w => ∃ s' L', y = .inl s' ∧ Fu n a (Kn L') ∧ rel s' L' w) Q .normal) L w := xX L' hk (GU s' hy h)
theorem rv {c : Code} (step : σ → Option (σ ⊕ ρ)) (rel : σ → St → World → Prop) (s0 : σ) (r : ρ) (hm : cf step s0 = some r) (h0 : rel s0 L' w0) (hk : L'.map (fun p => (find L p.1).map SV.val) = L'.map (fun p => some p.2.val))
    (hb : ∀ s L w y, rel s L w → step s = some y → (∀ r', y = .inr r' → r' = r) → W P n c (Exit.then (fun a w => ∃ s' L', y = .inl s' ∧ Fu n a (Kn L') ∧ rel s' L' w) Q) L w) : W P n (.loop c) Q L w0 := GN L' hk (Le step rel s0 r hm h0 hb)
theorem aR {fn : Func} {R : Ending → World → Prop} (xs : List SV) (q : Ask os cs w) (hr : zn P fn.results.toList L os = some (xs, cs, [])) (h : R (.returned (CU xs).val) w) : At n (bodyPost P fn R .ret) L w := GQ os xs cs hr q.h h
theorem px {fn : Func} {R : Ending → World → Prop} (xs : List SV) (q : Ask os cs w) (hr : zn P fn.results.toList L os = some (xs, cs, [])) (h : R (.returned (CU xs).val) w) : At n (bodyPost P fn R .normal) L w := Lw os xs cs hr q.h h
theorem lj {l : List Oper} (k : Nat) (c : Bool) (b : Bl L L') (hk : ((k, SV.b c) :: L').map (fun p => (find L p.1).map SV.val) = ((k, SV.b c) :: L').map (fun p => some p.2.val))
    (h1 : c = true → WL P n ops Q l ((k, .b true) :: L') w) (h2 : c = false → WL P n ops Q l ((k, .b false) :: L') w) : WL P n ops Q l L w := by
  have key : WL P n ops Q l ((k, SV.b c) :: L') w → WL P n ops Q l L w := fun h => xX (q := fun a w => wpList P ops Q l a w) ((k, SV.b c) :: L') hk h
  cases c with
  | true => exact key (h1 rfl)
  | false => exact key (h2 rfl)
theorem ob {a : Option α} {f : α → Option β} {r : β} (h : a.bind f = some r) : ∃ x, a = some x ∧ f x = some r := Option.bind_eq_some_iff.1 h
theorem nm {a : α} {f : α → Option β} {r : β} (h : (some a).bind f = some r) : ∃ x, a = x ∧ f x = some r := ⟨a, rfl, h⟩
inductive Aj {β : Type} : List β → List β → Prop
  | e : Aj [] []
  | z {l} : Aj l []
  | k {x l l'} : Aj l l' → Aj (x :: l) (x :: l')
  | s {x l l'} : Aj l l' → Aj (x :: l) l'
theorem Aj.kk {β : Type} {x y : β} {l l'} (h : Aj l l') : Aj (x :: y :: l) (x :: y :: l') := .k (.k h)
theorem Aj.bX {β : Type} {x y z u : β} {l l'} (h : Aj l l') : Aj (x :: y :: z :: u :: l) (x :: y :: z :: u :: l') := .kk (.kk h)
theorem Aj.ss {β : Type} {x y : β} {l l'} (h : Aj l l') : Aj (x :: y :: l) l' := .s (.s h)
theorem Aj.jn {β : Type} {x y z u : β} {l l'} (h : Aj l l') : Aj (x :: y :: z :: u :: l) l' := .ss (.ss h)
inductive FX {β : Type} : List β → β → List β → Prop
  | h {x l} : FX (x :: l) x l
  | t {x y l l'} : FX l x l' → FX (y :: l) x (y :: l')
inductive yI {β : Type} : List β → List β → List β → Prop
  | e : yI [] [] []
  | i {x l a b} : yI l a b → yI (x :: l) (x :: a) b
  | r {x l a b} : yI l a b → yI (x :: l) a (x :: b)
inductive App {β : Type} : List β → List β → List β → Prop
  | n {l} : App [] l l
  | c {x a b l} : App a b l → App (x :: a) b (x :: l)
theorem App.eq {β : Type} {a b l : List β} (h : App a b l) : l = a ++ b := by induction h <;> simp_all
theorem yI.perm {β : Type} {l a b : List β} (h : yI l a b) : l.Perm (a ++ b) := by
  induction h with
  | e => exact .nil
  | i _ ih => exact .cons _ ih
  | r _ ih => exact (List.Perm.cons _ ih).trans (List.perm_middle.symm)
theorem FX.perm {β : Type} {x : β} {l l' : List β} (h : FX l x l') : l.Perm (x :: l') := by
  induction h with
  | h => exact .refl _
  | t _ ih => exact (List.Perm.cons _ ih).trans (.swap _ _ _)
theorem Sep.perm {w : World} {a b : List HP} (h : a.Perm b) : ∀ {U V : Nat → Prop}, Sep w a U V → Sep w b U V := by
  induction h with
  | nil => exact fun h => h
  | cons x _ ih =>
    rintro U V ⟨S, R, U', V', h1, h2, h3⟩
    exact ⟨S, R, U', V', h1, ih h2, h3⟩
  | swap x y l =>
    intro U V h
    exact Sep.cut (i := 1) (h := x) rfl h
  | trans _ _ Tc Td => exact fun h => Td (Tc h)
theorem Cx.perm {a b : List HP} (k : Cx F O w0 w a) (h : a.Perm b) : Cx F O w0 w b := by
  obtain ⟨U, V, h1, h2, h3⟩ := k.sep
  exact ⟨k.os, k.tape, k.output, k.size, k.block, k.fin, k.FO, U, V, Sep.perm h h1, h2, h3⟩
theorem Cx.tl {x : HP} (k : Cx F O w0 w (x :: hs)) : Cx F O w0 w hs := k.drop 0
theorem Aj.sub {a b : List HP} (h : Aj a b) : ∃ c, a.Perm (c ++ b) := by
  induction h with
  | e => exact ⟨[], .refl _⟩
  | z => rename_i l; exact ⟨l, by rw [List.append_nil]⟩
  | k _ ih => obtain ⟨c, hc⟩ := ih; exact ⟨c, (List.Perm.cons _ hc).trans List.perm_middle.symm⟩
  | s _ ih => rename_i x _ _ _; obtain ⟨c, hc⟩ := ih; exact ⟨x :: c, .cons _ hc⟩
theorem Cx.NV {a b : List HP} (k : Cx F O w0 w (a ++ b)) : Cx F O w0 w b := by
  induction a with
  | nil => exact k
  | cons x l ih => exact ih k.tl
theorem Cx.de {GV : List HP} (k : Cx F O w0 w hs) (h : Aj hs GV) : Cx F O w0 w GV := by
  obtain ⟨c, hc⟩ := h.sub
  exact (k.perm hc).NV
theorem Cx.pk {x : HP} {GV : List HP} (k : Cx F O w0 w hs) (h : FX hs x GV) : Cx F O w0 w (x :: GV) := k.perm h.perm
theorem Cx.go {ins rest : List HP} (k : Cx F O w0 w hs) (p : yI hs ins rest) : ∃ F1 O1 : Nat → Prop, Cx F1 O1 w w ins ∧ (∀ b, O b → O1 b) ∧ (∀ (i : Nat) (h : HP), rest[i]? = some h → ∃ S R, h.p w S R ∧ (∀ b, R b → O1 b) ∧ ∀ b, S b → ¬ F1 b) ∧ (∀ b, F1 b → F b ∨ w0.heap.size ≤ b) ∧
    ∀ w' outs all, Cx F1 O1 w w' outs → App outs rest all → Cx F O w0 w' all := by
  obtain ⟨F1, O1, h1, h2, h3, h4, h5⟩ := (k.perm p.perm).enter
  exact ⟨F1, O1, h1, h2, h3, h4, fun w' outs all hk ha => ha.eq ▸ h5 w' outs hk⟩
inductive zC (F O : Nat → Prop) (w0 : World) : List HP → List (World → Prop) → Prop
  | l {h : List HP} : zC F O w0 h [fun x => Cx F O w0 x h]
  | c {h h' : List HP} {C : List (World → Prop)} : Aj h h' → zC F O w0 h' C → zC F O w0 h ((fun x => Cx F O w0 x h) :: C)
theorem zC.spec {hs : List HP} {C : List (World → Prop)} (h : zC F O w0 hs C) : Aq C ∧ ∀ w, cls C 0 w ↔ Cx F O w0 w hs := by
  induction h with
  | l => exact ⟨trivial, fun w => Iff.rfl⟩
  | c h1 hc ih =>
    cases hc with
    | l => exact ⟨⟨fun x hx => Cx.de hx h1, trivial⟩, fun w => Iff.rfl⟩
    | c h2 h3 => exact ⟨⟨fun x hx => Cx.de hx h1, ih.1⟩, fun w => Iff.rfl⟩
theorem qO {id : Nat} {l : List Oper} {C : List (World → Prop)} (hm : P.follows .mixedOrders = true) (π : MT) (Ls : List Nat) (k : Cx F O w0 (w.drewN 1) hs) (ch : zC F O w0 hs C)
    (hB : (Region.noSelect l.toArray, vJ l.toArray Ls π 0 (Array.replicate l.length false), π.depth == l.length) = (true, true, true)) (h : ∀ aT, MX P n l.toArray Ls C (Q .normal) π 0 aT (Kn L) (w.drewN 1)) :
    W P n (.region id l.toArray true) Q L w := NT hm π Ls C hB ch.spec.1 ((ch.spec.2 _).2 k) h
inductive ET : List SV → List SV → List SV → Prop
  | k {s y ys zs} : ET s ys zs → ET s (y :: ys) (y :: zs)
  | h {s y ys} : ET [s] (y :: ys) (s :: ys)
  | h2 {s t y u ys} : ET [s, t] (y :: u :: ys) (s :: t :: ys)
  | h3 {s t r y u v ys} : ET [s, t, r] (y :: u :: v :: ys) (s :: t :: r :: ys)
  | h4 {s t r q y u v x ys} : ET [s, t, r, q] (y :: u :: v :: x :: ys) (s :: t :: r :: q :: ys)
  | all {s ys} : ET s ys s
theorem ET.kk {s y u ys zs} (h : ET s ys zs) : ET s (y :: u :: ys) (y :: u :: zs) := .k (.k h)
theorem ET.bX {s y u v x ys zs} (h : ET s ys zs) : ET s (y :: u :: v :: x :: ys) (y :: u :: v :: x :: zs) := .kk (.kk h)
theorem en {K : St → World → Prop} {ty t : TypeId} {p x : Operand} {pos : String} {lM : Array Edge} {g : Option (Nat × Bool)} (ss : List Nat) (i : Nat) {pa : Option Addr} (sv : SV) (svs : List SV) {bt : TypeId} {b : Nat} {ys zs : List SV} {off : Nat}
    (hp : Pt (some ⟨b, 0, none⟩) off pa) (k : Cx F O w0 w hs) (hi : hs[i]? = some (Bx bt b ys)) (md : ET svs ys zs)
    (gE : (vI ops ss L (⟨none, .store t p x, ty, pos, lM, g⟩ : Oper), (none : Option Nat), (toSS [p, x] (lk L)).map SV.ad, qZ P t, qx sv, svs.all SV.Am) = (true, none, some [.pointer pa, sv.val], some (SV.width svs), some svs, true))
    (hz : (Gy off (SV.width svs) svs ys).map SV.cl = some (SV.cl zs))
    (hk : ∀ w', Cx F O w0 w' (hs.set i (Bx bt b zs)) → K L w') :
    uy P n ops L w ⟨none, .store t p x, ty, pos, lM, g⟩ K := Jl ss i zs gE hp k hi hz hk
inductive M_ : List SV → fm α → {m : Nat} → ae α m → ae α m → Nat → List SV → Prop
  | h {E : fm α} {m : Nat} {x y : ae α m} {ys} : M_ (.ar E x :: ys) E x y 0 (.ar E y :: ys)
  | t {E : fm α} {m o : Nat} {x y : ae α m} {u ys zs} : M_ ys E x y o zs → M_ (u :: ys) E x y (SV.width [u] + o) (u :: zs)
theorem M_.split {E : fm α} {m o : Nat} {x y : ae α m} {ys zs : List SV} (h : M_ ys E x y o zs) : ∃ pre post, ys = pre ++ .ar E x :: post ∧ zs = pre ++ .ar E y :: post ∧ o = SV.width pre := by
  induction h with
  | h => exact ⟨[], _, rfl, rfl, rfl⟩
  | t _ ih =>
    obtain ⟨p, q, rfl, rfl, rfl⟩ := ih
    exact ⟨_ :: p, q, rfl, rfl, (vq [_] p).symm⟩
theorem ll {K : St → World → Prop} {ty t : TypeId} {p x : Operand} {pos : String} {lM : Array Edge} {g : Option (Nat × Bool)} {E : fm α} (ss : List Nat) (i : Nat) {pa : Option Addr} (sv : SV) (svs : List SV) {bt : TypeId} {b : Nat} {m o o' : Nat} {x0 x1 : ae α m} {ys zs : List SV} {j : Int} {e0 y : α} {kk : Nat}
    (hv : iy x0 j y = x1) (hx : aS x0.l j = some e0) (hp : Pt (some ⟨b, 0, none⟩) (o' + (j.toNat * E.sz + kk)) pa) (k : Cx F O w0 w hs) (hi : hs[i]? = some (Bx bt b ys)) (vu : M_ ys E x0 x1 o zs) (hy : E.f y = pat (E.f e0) kk (SV.cl svs))
    (gE : (vI ops ss L (⟨none, .store t p x, ty, pos, lM, g⟩ : Oper), (none : Option Nat), (toSS [p, x] (lk L)).map SV.ad, qZ P t, qx sv, svs.all SV.Am, o') = (true, none, some [.pointer pa, sv.val], some (SV.width svs), some svs, true, o))
    (hl : Nat.ble (kk + SV.width svs) E.sz = true)
    (hk : ∀ w', Cx F O w0 w' (hs.set i (Bx bt b zs)) → K L w') :
    uy P n ops L w ⟨none, .store t p x, ty, pos, lM, g⟩ K := by
  obtain ⟨pre, post, rfl, rfl, rfl⟩ := vu.split
  simp only [Prod.mk.injEq] at gE
  obtain ⟨s1, s2, s3, s4, s5, s6, rfl⟩ := gE
  subst hv
  exact Lr (E := E) (kk := kk) (sv := sv) (svs := svs) ss i pre post x0 y (by rw [s1, s3, s4, s5, s6]) hp k hi hx hy (Nat.le_of_ble_eq_true hl) hk
end
end Go.Sx
namespace Go.Sx
open Go.RowKit
set_option linter.unusedSimpArgs false
set_option linter.unusedVariables false
variable {α β : Type}
abbrev Hd := Option Addr × Nat × Nat
def eH : fm Hd := ⟨1, fun h => [.slice h.1 h.2.1 h.2.2], fun _ => rfl, fun x v h => by rw [List.mem_singleton.1 h]; rfl⟩
instance : Pos eH := ⟨by decide⟩
def rows (E : fm α) : List Hd → List (List α) → List HP
  | h :: hs, x :: xs => Ow E h.1 h.2.1 h.2.2 x :: rows E hs xs
  | _, _ => []
section
variable {F O : Nat → Prop} {w0 w w' : World} {hs rest : List HP}
theorem Ow.PL {E : fm α} {A : Option Addr} {n c : Nat} {xs : List α} {S R : Nat → Prop} (h : (Ow E A n c xs).p w S R) : n ≤ c := by
  rcases h.2 with ⟨_, h1, h2⟩ | ⟨g, t, cur, _, _, h3, _⟩ <;> omega
end
section
variable {F O F1 O1 : Nat → Prop} {w0 w w' : World} {hs rest : List HP} {E : fm α} {A : Option Addr} {hd : List Hd} {PM : List (List α)}
end
section
variable {P : Program} {n : Nat} {ops : Array Oper} {L : St} {w w0 : World} {F O : Nat → Prop} {hs rest : List HP} {K : St → World → Prop}
end
section
variable {P : Program} {n : Nat} {Q : Act → World → Prop} {ops : Array Oper} {Ls : List Nat} {C : List (World → Prop)} {L L' : St} {w : World} {π : MT} {p : Nat}
end
end Go.Sx
namespace Go.Sx
open Go.ChangeShapes Go.WideShapes Go.ChangeAt Go.RowKit
set_option linter.unusedSimpArgs false
set_option linter.unusedVariables false
variable {α σ ρ : Type}
theorem gx {n : Int} (h : -9223372036854775808 ≤ n ∧ n < 9223372036854775808) : aD n = n := by
  simp only [aD, IntKind.wrap, IntKind.signed, IntKind.bits, reduceIte]
  simp only [show (2 : Int) ^ 64 = 18446744073709551616 from rfl, show (2 : Int) ^ 63 = 9223372036854775808 from rfl, show (2 : Nat) ^ 64 = 18446744073709551616 from rfl, show (2 : Nat) ^ 63 = 9223372036854775808 from rfl, show (64 - 1 : Nat) = 63 from rfl]
  first | omega | (simp; omega)
theorem mO {xs ys : List α} {b : Nat} (h : (xs.length + ys.length) * b ≤ 140737488355328) : app xs ys b = some (xs ++ ys) := by
  unfold app; rw [if_pos h]
theorem lN {p : Prop} [Decidable p] (h : p) : pr p = some () := by
  unfold pr; rw [if_pos h]
theorem uB {xs : List α} {lo hi : Int} (h : 0 ≤ lo ∧ lo ≤ hi ∧ hi ≤ xs.length) : x5 xs lo hi = some ((xs.take hi.toNat).drop lo.toNat) := by
  unfold x5; rw [if_pos h]
theorem D1 {f : σ → Option (σ ⊕ ρ)} (P : Nat → σ → Prop) (Q : ρ → Prop) (n : Nat)
    (h : ∀ i s, P i s → (i < n ∧ ∃ s', f s = some (.inl s') ∧ P (i + 1) s') ∨ ∃ r, f s = some (.inr r) ∧ Q r) :
    ∀ s, P 0 s → ∃ r, cf f s = some r ∧ Q r := by
  have key : ∀ k i s, n - i ≤ k → P i s → ∃ r, cf f s = some r ∧ Q r := by
    intro k
    induction k with
    | zero =>
      intro i s hk hp
      rcases h i s hp with ⟨hi, _⟩ | ⟨r, hr, hq⟩
      · omega
      · exact ⟨r, l5 hr, hq⟩
    | succ k ih =>
      intro i s hk hp
      rcases h i s hp with ⟨hi, s', GV, O2⟩ | ⟨r, hr, hq⟩
      · rw [r4 GV]
        exact ih (i + 1) s' (by omega) O2
      · exact ⟨r, l5 hr, hq⟩
  exact fun s hp => key n 0 s (by omega) hp
theorem rn {f : σ → Option (σ ⊕ ρ)} (P : Nat → σ → Prop) (r : ρ) (n : Nat) (s : σ) (h0 : P 0 s)
    (h : ∀ i s, P i s → (i < n ∧ ∃ s', f s = some (.inl s') ∧ P (i + 1) s') ∨ f s = some (.inr r)) : cf f s = some r := by
  obtain ⟨r', h1, rfl⟩ := D1 P (fun r' => r' = r) n (fun i s hp => (h i s hp).imp id fun e => ⟨r, e, rfl⟩) s h0
  exact h1
theorem iz {f : σ → Option (σ ⊕ ρ)} (s : Nat → σ) (n : Nat) {r : ρ} (h : ∀ i, i < n → f (s i) = some (.inl (s (i + 1)))) (he : f (s n) = some (.inr r)) : cf f (s 0) = some r :=
  rn (fun i x => x = s i ∧ i ≤ n) r n (s 0) ⟨rfl, by omega⟩ (by
    rintro i x ⟨rfl, hi⟩
    by_cases q7 : i < n
    · exact .inl ⟨q7, _, h i q7, rfl, by omega⟩
    · obtain rfl : i = n := by omega
      exact .inr he)
theorem wf_u8 {n : Int} (h : (Lit.int .u8 n).wf = true) : 0 ≤ n ∧ n ≤ 255 := by
  simpa [Lit.wf, IntKind.min, IntKind.max, IntKind.signed, IntKind.bits] using h
theorem wf_u64 {n : Int} (h : (Lit.int .u64 n).wf = true) : 0 ≤ n ∧ n ≤ 18446744073709551615 := by
  simpa [Lit.wf, IntKind.min, IntKind.max, IntKind.signed, IntKind.bits] using h
theorem Lx {n : Int} (h : (Lit.int .u8 n).wf = true) : ∃ x : UInt8, Value.int .u8 n = SV.val (.u8 x) := by
  have := wf_u8 h
  refine ⟨UInt8.ofNat n.toNat, ?_⟩
  simp only [SV.val, Value.int.injEq, true_and]
  simp; omega
theorem Jm {n : Int} (h : (Lit.int .u64 n).wf = true) : ∃ x : UInt64, Value.int .u64 n = SV.val (.u64 x) := by
  have := wf_u64 h
  refine ⟨UInt64.ofNat n.toNat, ?_⟩
  simp only [SV.val, Value.int.injEq, true_and]
  simp; omega
section
variable {H : Type} {enc : TypeId × Value → H} {P : Program} {w : World} {held : Bool}
end
end Go.Sx
namespace Go.Sx
open Go.RowKit Go.ChangeShapes Go.WideShapes Go.ChangeAt
set_option linter.unusedSimpArgs false
set_option linter.unusedVariables false
section
variable {P : Program} {n : Nat} {ops : Array Oper} {L : St} {w : World} {K : St → World → Prop}
end
section
variable {α : Type} {F O : Nat → Prop} {w0 w : World} {hs : List HP}
end
section
variable {α : Type} {F O : Nat → Prop} {w0 w : World} {hs rest : List HP} {E : fm α} {A : Option Addr} {n c m : Nat} {hd : List Hd} {PM : List (List α)}
end
section
variable {P : Program} {n : Nat} {ops : Array Oper} {L : St} {w w0 : World} {F O : Nat → Prop} {hs : List HP} {K : St → World → Prop}
end
section
variable {P : Program} {n : Nat} {Q : Exit → Act → World → Prop} {L L' : St} {w : World} {c : Code}
def Lp (P : Program) (c : Code) (Q : Exit → Act → World → Prop) (a : Act) (w : World) : Prop :=
  ∀ b k cs, ∃ e a' w', Q e a' w' ∧ Arrives P (lone (b.at a (.code c :: .inLoop c :: k)) cs w) b k cs e a' w'
theorem Lp.start {a : Act} (h : Lp P c Q a w) : (Code.loop c).wp P Q a w := by
  intro b k cs
  obtain ⟨e, a', w', hq, CZ⟩ := h b k cs
  exact ⟨e, a', w', hq, .of_steps (.one step_loop) CZ⟩
theorem Lp.round {a : Act} (h : c.wp P (Exit.then (Lp P c Q) Q) a w) : Lp P c Q a w := by
  intro b k cs
  obtain ⟨e, a₁, w₁, hq, CZ⟩ := h b (.inLoop c :: k) cs
  cases e with
  | normal =>
    obtain ⟨e₂, a₂, w₂, NW, Jn⟩ := hq b k cs
    exact ⟨e₂, a₂, w₂, NW, .of_steps (Steps.trans CZ (.one step_inLoop)) Jn⟩
  | exit id => exact ⟨_, a₁, w₁, hq, .pass (x := .inLoop c) rfl (fun _ _ => .inl (by simp)) CZ⟩
  | goto l => exact ⟨_, a₁, w₁, hq, .pass (x := .inLoop c) rfl (fun _ _ => .inl (by simp)) CZ⟩
  | ret => exact ⟨_, a₁, w₁, hq, .pass (x := .inLoop c) rfl (fun _ _ => .inl (by simp)) CZ⟩
  | panic ch => exact ⟨_, a₁, w₁, hq, .pass (x := .inLoop c) rfl (fun _ _ => .inl (by simp)) CZ⟩
  | outgrown => exact ⟨_, a₁, w₁, hq, .pass (x := .inLoop c) rfl (fun _ _ => .inl (by simp)) CZ⟩
theorem PN (h : W P n c (Exit.then (Lp P c Q) Q) L w) : W P n (.loop c) Q L w := fun a ha => Lp.start (Lp.round (h a ha))
end
section
variable {P : Program} {n : Nat} {ops : Array Oper} {L : St} {w : World} {K : St → World → Prop}
structure Ly (P : Program) (f : FuncId) : Prop where
  ok : ∃ fn, P.funcs[f]? = some fn ∧ (fn.name == "runtime.NumGoroutine") = false ∧ fn.body.isNone = true ∧ Extern.findNext fn = none ∧ Extern.find fn = some Extern.MathFloatBits.float64bits
theorem G_ {dst : Option Nat} {f : FuncId} {xs : Array Operand} {zA : Array TypeId} {ty : TypeId} {pos : String} {lM : Array Edge} {g : Option (Nat × Bool)} (hf : Ly P f) (ss : List Nat) (d : Nat) (b : Nat) (hb : b < 18446744073709551616)
    (hs : (vI ops ss L ⟨dst, .call ⟨.value (.func f), xs, zA⟩, ty, pos, lM, g⟩, dst, (decide (d < n)), (L.any fun p => p.1 == d), (toSS xs.toList (lk L)).map SV.ad) = (true, some d, true, false, some [.float .f64 b]))
    (hk : K ((d, .u64 (UInt64.ofNat b)) :: L) w) : uy P n ops L w ⟨dst, .call ⟨.value (.func f), xs, zA⟩, ty, pos, lM, g⟩ K := by
  simp only [Prod.mk.injEq, Option.map_eq_some_iff, decide_eq_true_eq] at hs
  obtain ⟨s1, s2, s3, s4, ⟨vs, s5, s6⟩⟩ := hs
  subst s2
  refine rr (xs := xs.toList) (svs := vs) ss (d := d) (by simp [ux, s1, s3, s4, s5]) fun a ha he => ?_
  rw [s6] at he
  have tU : (#[] ++ xs.map a.eval ++ #[] : Array Value) = #[.float .f64 b] := by
    apply Array.ext'
    simpa using he
  obtain ⟨fn, h1, h2, h3, h4, h5⟩ := hf.ok
  have lH : (execOp a.eval ⟨some d, .call ⟨.value (.func f), xs, zA⟩, ty, pos, lM, g⟩).run P w = .ok (.value (SV.val (.u64 (UInt64.ofNat b)))) w := by
    show (callFunc f (#[] ++ xs.map a.eval ++ #[])).run P w = _
    rw [tU, run_callFunc_extern h1 h2 h3 h4 h5]
    have e : (UInt64.ofNat b).toNat = b := by simp only [UInt64.toNat_ofNat']; omega
    simp only [SV.val, e]
    rfl
  unfold Oper.wp
  rw [lH]
  exact ⟨_, rfl, hk⟩
end
section
variable {P : Program} {n : Nat} {ops : Array Oper} {L : St} {w : World} {K : St → World → Prop}
end
def eQ : fm (Option Addr) := ⟨1, fun a => [.pointer a], fun _ => rfl, fun x v h => by rw [List.mem_singleton.1 h]; rfl⟩
instance : Pos eQ := ⟨by decide⟩
theorem Ha {β : Type} {Q : Nat → β → Prop} : ∀ (n : Nat), (∀ i, i < n → ∃ y, Q i y) → ∃ l : List β, l.length = n ∧ ∀ (i : Nat) (y : β), l[i]? = some y → Q i y
  | 0, _ => ⟨[], rfl, fun i y h => by cases h⟩
  | n + 1, h => by
    obtain ⟨l, hl, hQ⟩ := Ha n fun i hi => h i (by omega)
    obtain ⟨y, hy⟩ := h n (by omega)
    refine ⟨l ++ [y], by simp [hl], fun i z hz => ?_⟩
    rw [List.getElem?_append] at hz
    split at hz
    · exact hQ i z hz
    · have hi : i = n := by
        have := (List.getElem?_eq_some_iff.1 hz).1
        simp at this
        omega
      subst hi
      rw [hl] at hz
      simp at hz
      subst hz
      exact hy
section
variable {H : Type} {enc : TypeId × Value → H} {P : Program} {w : World} {held : Bool}
end
section
variable {ops : Array Oper} {Ls : List Nat}
def BO (ops : Array Oper) (m : Nat) (i : Nat) : Bool := !m.testBit i && ((ops[i]?).map (·.after.all fun e => !Region.binds .any e || m.testBit e.on)).getD false
def Hb (ops : Array Oper) (m : Nat) (i : Nat) : Bool :=
  match ops[i]? with
  | none => false
  | some oi => (List.range ops.size).all fun j => j == i || m.testBit j || match ops[j]? with
      | some oj => oj.after.any (fun e => Region.binds .any e && e.on == i) || oi.apart ops oj
      | none => true
def D2 (ops : Array Oper) (Ls : List Nat) (m : Nat) (i : Nat) : Nat := (Ls.filter fun j => decide (j < ops.size) && !m.testBit j && !r5 ops m.testBit j i).length
def Ar (ops : Array Oper) (Ls : List Nat) : MT → Nat → Nat → Bool
  | .nil, _, m => (List.range ops.size).all fun i => !BO ops m i
  | .q i k π, p, m => decide (i < ops.size) && BO ops m i && Hb ops m i && !Ls.contains i && decide (p + D2 ops Ls m i ≤ k) && Ar ops Ls π p (m ||| 2 ^ i)
  | .op i π, p, m => ((List.range ops.size).filter fun j => BO ops m j) == [i] && Ar ops Ls π (nx Ls p i) (m ||| 2 ^ i)
  | .br i j ri rj, p, m => ((List.range ops.size).filter fun j => BO ops m j) == [i, j] && rj.depth == ri.depth && Ar ops Ls ri (nx Ls p i) (m ||| 2 ^ i) && Ar ops Ls rj (nx Ls p j) (m ||| 2 ^ j)
def Rel (ops : Array Oper) (aT : Array Bool) (m : Nat) : Prop := aT.size = ops.size ∧ ∀ j, aT.getD j false = m.testBit j
theorem Rel.lt {aT : Array Bool} {m : Nat} (h : Rel ops aT m) {j : Nat} (hj : j < ops.size) : aT.getD j true = m.testBit j := by
  rw [← h.2 j, Array.getD_eq_getD_getElem?, Array.getD_eq_getD_getElem?, Array.getElem?_eq_getElem (by rw [h.1]; exact hj)]
  rfl
theorem Rel.ge {aT : Array Bool} {m : Nat} (h : Rel ops aT m) {j : Nat} (hj : ¬ j < ops.size) : aT.getD j true = true := by
  rw [Array.getD_eq_getD_getElem?, Array.getElem?_eq_none (by rw [h.1]; omega)]
  rfl
theorem Rel.ready {aT : Array Bool} {m : Nat} (h : Rel ops aT m) : Region.ready .any ops aT = (List.range ops.size).filter fun j => BO ops m j := by
  unfold Region.ready
  refine List.filter_congr fun i hi => ?_
  rw [List.mem_range] at hi
  unfold BO
  rw [h.lt hi]
  simp only [h.2]
theorem Rel.free {aT : Array Bool} {m i : Nat} (h : Rel ops aT m) : Region.free .any ops aT i = Hb ops m i := by
  unfold Region.free Hb
  cases ho : ops[i]? with
  | none => rfl
  | some oi =>
    simp only []
    rw [Bool.eq_iff_iff, List.all_eq_true, List.all_eq_true]
    refine ⟨fun hq j hj => ?_, fun hq j hj => ?_⟩
    · have := hq j hj
      rw [h.lt (List.mem_range.1 hj)] at this
      exact this
    · have := hq j hj
      rw [h.lt (List.mem_range.1 hj)]
      exact this
theorem Rel.Te {aT : Array Bool} {m i : Nat} (h : Rel ops aT m) : ahead ops Ls aT i = D2 ops Ls m i := by
  unfold ahead D2
  congr 1
  refine List.filter_congr fun j _ => ?_
  have hf : (fun x => aT.getD x false) = m.testBit := funext h.2
  rw [hf]
  by_cases hj : j < ops.size
  · rw [h.lt hj, decide_eq_true hj]; rfl
  · rw [h.ge hj, decide_eq_false hj]; rfl
theorem Rel.step {aT : Array Bool} {m i : Nat} (h : Rel ops aT m) (hi : i < ops.size) : Rel ops (aT.setIfInBounds i true) (m ||| 2 ^ i) := by
  refine ⟨by simpa using h.1, fun j => ?_⟩
  rw [Nat.testBit_or, Nat.testBit_two_pow]
  by_cases Ns : i = j
  · subst Ns
    rw [Array.getD_eq_getD_getElem?, Array.getElem?_setIfInBounds_self_of_lt (by rw [h.1]; exact hi)]
    simp
  · rw [← h.2 j, Array.getD_eq_getD_getElem?, Array.getElem?_setIfInBounds_ne Ns, ← Array.getD_eq_getD_getElem?]
    simp [Ns]
theorem zD : ∀ (π : MT) (p m : Nat) (aT : Array Bool), Rel ops aT m → Ar ops Ls π p m = true → vJ ops Ls π p aT = true
  | .nil, p, m, aT, h, hq => by
    simp only [vJ, h.ready, List.isEmpty_iff, List.filter_eq_nil_iff]
    simp only [Ar, List.all_eq_true, Bool.not_eq_true'] at hq
    intro a ha
    rw [hq a ha]
    exact Bool.false_ne_true
  | .q i k π, p, m, aT, h, hq => by
    simp only [Ar, Bool.and_eq_true, decide_eq_true_eq, Bool.not_eq_true'] at hq
    obtain ⟨⟨⟨⟨⟨h1, h2⟩, h3⟩, h4⟩, h5⟩, h6⟩ := hq
    simp only [vJ, Bool.and_eq_true, decide_eq_true_eq, Bool.not_eq_true']
    refine ⟨⟨⟨⟨?_, by rw [h.free]; exact h3⟩, h4⟩, by rw [h.Te]; exact h5⟩, zD π p _ _ (h.step h1) h6⟩
    rw [h.ready, List.contains_iff_mem, List.mem_filter]
    exact ⟨List.mem_range.2 h1, h2⟩
  | .op i π, p, m, aT, h, hq => by
    simp only [Ar, Bool.and_eq_true] at hq
    simp only [vJ, Bool.and_eq_true]
    have hi : i < ops.size := by
      have : i ∈ (List.range ops.size).filter fun j => BO ops m j := by rw [beq_iff_eq.1 hq.1]; exact List.mem_singleton.2 rfl
      exact List.mem_range.1 (List.mem_filter.1 this).1
    exact ⟨by rw [h.ready]; exact hq.1, zD π _ _ _ (h.step hi) hq.2⟩
  | .br i j ri rj, p, m, aT, h, hq => by
    simp only [Ar, Bool.and_eq_true] at hq
    obtain ⟨⟨⟨h1, h2⟩, h3⟩, h4⟩ := hq
    simp only [vJ, Bool.and_eq_true]
    have hi : i < ops.size := by
      have : i ∈ (List.range ops.size).filter fun j => BO ops m j := by rw [beq_iff_eq.1 h1]; simp
      exact List.mem_range.1 (List.mem_filter.1 this).1
    have hj : j < ops.size := by
      have : j ∈ (List.range ops.size).filter fun j => BO ops m j := by rw [beq_iff_eq.1 h1]; simp
      exact List.mem_range.1 (List.mem_filter.1 this).1
    exact ⟨⟨⟨by rw [h.ready]; exact h1, h2⟩, zD ri _ _ _ (h.step hi) h3⟩, zD rj _ _ _ (h.step hj) h4⟩
end
theorem PO {P : Program} {n : Nat} {Q : Exit → Act → World → Prop} {L : St} {w w0 : World} {F O : Nat → Prop} {hs : List HP} {id : Nat} {l : List Oper} {C : List (World → Prop)} (hm : P.follows .mixedOrders = true) (π : MT) (Ls : List Nat) (k : Cx F O w0 (w.drewN 1) hs) (ch : zC F O w0 hs C)
    (hB : (Region.noSelect l.toArray, Ar l.toArray Ls π 0 0, π.depth == l.length) = (true, true, true)) (h : ∀ aT, MX P n l.toArray Ls C (Q .normal) π 0 aT (Kn L) (w.drewN 1)) :
    W P n (.region id l.toArray true) Q L w := by
  simp only [Prod.mk.injEq] at hB
  refine qO hm π Ls k ch ?_ h
  rw [hB.1, hB.2.2, zD π 0 0 (Array.replicate l.length false) ⟨by simp, fun j => ?_⟩ hB.2.1]
  rw [Array.getD_eq_getD_getElem?, Nat.zero_testBit]
  by_cases hj : j < l.length
  · simp [hj]
  · simp [hj]
end Go.Sx
namespace Go.Sx
open Go.RowKit Go.MapKept
set_option linter.unusedSimpArgs false
set_option linter.unusedVariables false
section
variable {P : Program} {n : Nat} {ops : Array Oper} {L : St} {w w0 : World} {F O : Nat → Prop} {hs : List HP} {K : St → World → Prop}
end
end Go.Sx
namespace Go.Sx
open Go.RowKit
set_option linter.unusedSimpArgs false
set_option linter.unusedVariables false
variable {α β γ δ : Type}
section
variable {F O F1 O1 : Nat → Prop} {w0 w w' : World} {hs : List HP}
end
def hV (h : Hd) : Value := .slice h.1 h.2.1 h.2.2
section
variable {F O : Nat → Prop} {w0 w : World} {hs rest : List HP} {E : fm α} {b : Nat} {ks : List (List UInt8)} {hd : List Hd} {PM : List (List α)}
end
section
variable {P : Program} {n : Nat} {ops : Array Oper} {L : St} {w w0 : World} {F O : Nat → Prop} {hs rest : List HP} {K : St → World → Prop} {E : fm α}
end
end Go.Sx
namespace Go.Sx
open Go.RowKit Go.MapKept
set_option linter.unusedSimpArgs false
set_option linter.unusedVariables false
variable {α : Type}
section
variable {P : Program} {n : Nat} {ops : Array Oper} {L : St} {w w0 : World} {F O : Nat → Prop} {hs rest : List HP} {K : St → World → Prop}
variable {E : fm α} {b r : Nat} {ks left : List (List UInt8)} {hd : List Hd} {PM : List (List α)}
end
section
variable {P : Program} {n : Nat} {Q : Exit → Act → World → Prop} {L L' : St} {w : World}
end
end Go.Sx
namespace Go.Sx
open Go.RowKit
set_option linter.unusedSimpArgs false
set_option linter.unusedVariables false
variable {α β γ δ ε ζ : Type}
structure Rl (γ δ : Type) where
  r : World → (Nat → Prop) → γ → δ → Prop
  loc : ∀ w w' R y x, r w R y x → (∀ b, R b → w'.heap[b]? = w.heap[b]?) → r w' R y x
  mono : ∀ w R R' y x, (∀ b, R b → R' b) → r w R y x → r w R' y x
def SH (E : fm α) : Rl Hd (List α) where
  r w R h x := h.2.1 = x.length ∧ x.length ≤ h.2.2 ∧ Rd w h.1 (E.all x) ∧ (E.all x ≠ [] → ∀ a, h.1 = some a → R a.block)
  loc := by
    rintro w w' R y x ⟨h1, h2, h3, h4⟩ hk
    refine ⟨h1, h2, ⟨h3.1, fun a j u ha hu => ?_⟩, h4⟩
    have h5 := h3.2 a j u ha hu
    have sJ : E.all x ≠ [] := fun e => by rw [e] at hu; cases hu
    have h6 := hk (a.add j).block (by rw [oS]; exact h4 sJ a ha)
    rw [World.cell?_of_block h6]
    exact h5
  mono := by
    rintro w R R' y x hR ⟨h1, h2, h3, h4⟩
    exact ⟨h1, h2, h3, fun sJ a ha => hR _ (h4 sJ a ha)⟩
def Sh (q : Rl γ δ) (ys : List γ) (xs : List δ) : HP where
  p w S R := (∀ b, ¬ S b) ∧ ys.length = xs.length ∧ ∀ (j : Nat) (y : γ) (x : δ), ys[j]? = some y → xs[j]? = some x → q.r w R y x
  loc := by
    rintro w w' S R ⟨h0, h1, h2⟩ hk
    exact ⟨h0, h1, fun j y x e1 e2 => q.loc _ _ _ _ _ (h2 j y x e1 e2) fun b hb => hk b (.inr hb)⟩
section
variable {F O : Nat → Prop} {w0 w w' : World} {hs rest : List HP}
theorem Cx.share {E : fm α} {A : Option Addr} {n c : Nat} {xs : List α} (k : Cx F O w0 w (Ow E A n c xs :: rest)) : Cx F O w0 w (Sh (SH E) [(A, n, c)] [xs] :: rest) := by
  have := k.RI (h' := Sh (SH E) [(A, n, c)] [xs]) 0 rfl Option.none ⟨rfl, rfl, rfl, Nat.le_refl _, fun _ _ _ => rfl⟩ fun S R h1 h2 h3 => by
    refine ⟨fun g hg => (by cases hg), fun _ => False, fun b => R b ∨ S b, ⟨fun _ h => h, rfl, fun j y x e1 e2 => ?_⟩, fun b hb => hb.elim, fun b hb => ⟨h3 b (hb.elim .inr .inl), hb.elim .inl (fun h => .inr (.inl h))⟩⟩
    cases j with
    | succ j => cases e1
    | zero =>
      obtain rfl := Option.some.inj e1
      obtain rfl := Option.some.inj e2
      refine ⟨h1.1.symm, by rw [h1.1]; exact Ow.PL h1, Ow.Nw h1, fun sJ a ha => ?_⟩
      rcases h1.2 with ⟨h4, _⟩ | ⟨g, t, cur, h4, _, _, _, _, _, h5⟩
      · rw [h4] at ha; cases ha
      · rw [h4] at ha
        obtain rfl := Option.some.inj ha
        exact .inr h5
  simpa only [List.set_cons_zero] using this
variable {E : fm γ} {q : Rl γ δ} {A : Option Addr} {n c : Nat} {ys : List γ} {xs : List δ}
end
section
variable {F O : Nat → Prop} {w0 w : World} {hs : List HP}
theorem Cx.fS {E : fm α} {A : Option Addr} {n c : Nat} {x : List α} (k : Cx F O w0 w hs) (i : Nat) (hi : hs[i]? = some (Sh (SH E) [(A, n, c)] [x])) : x.length = n := by
  obtain ⟨S, R, h⟩ := k.get i hi
  exact ((h.2.2 0 _ _ rfl rfl).1).symm
theorem Cx.kr {E : fm α} {A : Option Addr} {n c : Nat} {x : List α} (k : Cx F O w0 w hs) (i : Nat) (hi : hs[i]? = some (Sh (SH E) [(A, n, c)] [x])) : n ≤ c := by
  obtain ⟨S, R, h⟩ := k.get i hi
  have h1 := h.2.2 0 _ _ rfl rfl
  have h2 : n = x.length := h1.1
  have h3 : x.length ≤ c := h1.2.1
  omega
theorem Cx.PQ {E : fm α} {A : Option Addr} {n c : Nat} {x : List α} (k : Cx F O w0 w hs) (i : Nat) (hi : hs[i]? = some (Sh (SH E) [(A, n, c)] [x])) : Rd w A (E.all x) := by
  obtain ⟨S, R, h⟩ := k.get i hi
  exact (h.2.2 0 _ _ rfl rfl).2.2.1
end
section
variable {F O F1 O1 : Nat → Prop} {w0 w w' : World} {hs rest : List HP} {E : fm γ} {q : Rl γ δ} {A : Option Addr} {ys : List γ} {xs : List δ}
theorem Cx.off (k : Cx F O w0 w hs) : ∀ b, O b → ¬ F b := fun b ho hf => (k.fin b hf).2 ho
end
section
variable {P : Program} {n : Nat} {ops : Array Oper} {L : St} {w w0 : World} {F O : Nat → Prop} {hs rest : List HP} {K : St → World → Prop} {E : fm γ} {q : Rl γ δ}
end
end Go.Sx
namespace Go.Sx
open Go.RowKit
set_option linter.unusedSimpArgs false
set_option linter.unusedVariables false
variable {γ δ : Type}
section
variable {H : Type} {enc : TypeId × Value → H} {P : Program} {w : World} {held : Bool}
end
end Go.Sx
namespace Go.Sx
open Go.RowKit
set_option linter.unusedSimpArgs false
set_option linter.unusedVariables false
variable {α β γ δ : Type}
section
variable {F O F1 O1 : Nat → Prop} {w0 w w' : World} {hs rest : List HP} {E : fm α} {A : Option Addr} {n c : Nat} {x : List α}
theorem Ro.kF (hO : ∀ b, O1 b → ¬ F1 b) (hr : ∀ (i : Nat) (h : HP), rest[i]? = some h → ∃ S R, h.p w S R ∧ (∀ b, R b → O1 b) ∧ ∀ b, S b → ¬ F1 b) (i : Nat) (hi : rest[i]? = some (Sh (SH E) [(A, n, c)] [x])) : Ro F1 w A (E.all x) := by
  obtain ⟨S, R, h, hR, hS⟩ := hr i _ hi
  have h1 := h.2.2 0 _ _ rfl rfl
  exact ⟨h1.2.2.1, fun sJ a ha hf => hO _ (hR _ (h1.2.2.2 sJ a ha)) hf⟩
theorem Cx.Lz (k : Cx F O w0 w hs) (i : Nat) (hi : hs[i]? = some (Ow E A n c x)) (h : x ≠ []) : ∃ g, A = some ⟨g, 0, Option.none⟩ := by
  obtain ⟨S, R, h0, h1⟩ := k.get i hi
  rcases h1 with ⟨_, h2, _⟩ | ⟨g, t, cur, h2, _⟩
  · exact absurd (List.eq_nil_of_length_eq_zero (h0.trans h2)) h
  · exact ⟨g, h2⟩
end
section
variable {σ ρ : Type} {P : Program} {n : Nat} {Q : Exit → Act → World → Prop} {c : Code} {L L' : St} {w0 : World}
end
end Go.Sx
namespace Go.Sx
open Go.RowKit
set_option linter.unusedSimpArgs false
set_option linter.unusedVariables false
section
variable {P : Program} {n : Nat} {ops : Array Oper} {L : St} {w w0 : World} {F O : Nat → Prop} {hs : List HP} {K : St → World → Prop}
end
open Go.ChangeShapes Go.WideShapes in
theorem D3 {P : Program} {w : World} {r : Reach} {base : Nat} {t e : TypeId} {v : Value} {n : Nat} (ht : P.underlying t = some (.array n e)) (h : Value.okWide P w r base t v) : ∃ cs, v = .agg cs := by
  unfold Value.okWide at h
  rw [ht] at h
  obtain ⟨cs, h, _⟩ := h
  exact ⟨cs, h⟩
open Go.ChangeShapes Go.WideShapes in
theorem Hc {H : Type} {enc : TypeId × Value → H} {P : Program} {w : World} {base : Nat} {spare : Nat → Bool} {held : Bool} {fuel : Nat} {t e : TypeId} {cs : List Value} {x : DataW H × List MemPlace} {n : Nat} (ht : P.underlying t = some (.array n e)) (he : P.underlying e = some (.int .u8)) (Tf : P.cellsOf e = 1) (Tg : P.cellsOf t = n) (h : DataW.trod enc P w base spare held fuel t cs = some x) : ∃ v : ae UInt8 n, cs = SV.cl [.ar e8 v] := by
  obtain ⟨xs, m, _, _, hl, hx, Th⟩ := DataW.trod_array ht h
  rw [Tg] at hl
  have key : ∀ i, i < n → ∃ y : UInt8, cs[i]? = some (bV y) := by
    intro i hi
    have h1 := Th i hi
    rw [Tf, Nat.mul_one, List.getElem?_eq_getElem (by omega)] at h1
    obtain ⟨m, hm, _, hw⟩ := DataW.trod_int he h1
    obtain ⟨y, hy⟩ := Lx hw
    refine ⟨y, ?_⟩
    have h2 : ((cs.drop i).take 1)[0]? = some (Value.int .u8 m) := by rw [hm]; rfl
    rw [List.getElem?_take_of_lt (by omega), List.getElem?_drop, Nat.add_zero] at h2
    rw [h2, hy]
    rfl
  obtain ⟨l, RO, hq⟩ := Ha n key
  refine ⟨⟨l, RO⟩, ?_⟩
  show cs = e8.all l ++ []
  rw [Lh, List.append_nil]
  refine List.ext_getElem (by simp; omega) fun i h1 h2 => ?_
  have h3 := hq i l[i] (List.getElem?_eq_getElem (by omega))
  rw [List.getElem?_eq_getElem h1] at h3
  rw [List.getElem_map]
  exact Option.some.inj h3
end Go.Sx
namespace Go.Sx
open Go.RowKit
set_option linter.unusedSimpArgs false
set_option linter.unusedVariables false
section
variable {α β σ ρ : Type} {P : Program} {n : Nat} {Q : Exit → Act → World → Prop} {ops : Array Oper} {L L' : St} {w w0 : World} {os : List SV} {cs : List j3} {F O : Nat → Prop} {hs : List HP} {rest : List Oper}
end
end Go.Sx
namespace Go.Sx
open Go.RowKit
set_option linter.unusedSimpArgs false
set_option linter.unusedVariables false
def wC : Nat := 9221120237041090561
def pV (b : Nat) : Nat := if (Ieee.double.read b).isNaN then wC else b
def Fl (x b : Nat) : Prop := b < 18446744073709551616 ∧ pV b = x
def lG (op : BinOp) (x y : Nat) : Nat := (floatBits op .f64 x y).getD wC
def dr (op : BinOp) (x y : Nat) : Bool :=
  match op with
  | .eql => Ieee.double.order x y == some .eq
  | .neq => Ieee.double.order x y != some .eq
  | .lss => Ieee.double.order x y == some .lt
  | .leq => Ieee.double.order x y == some .lt || Ieee.double.order x y == some .eq
  | .gtr => Ieee.double.order x y == some .gt
  | .geq => Ieee.double.order x y == some .gt || Ieee.double.order x y == some .eq
  | _ => false
def x9 (n : Int) : Nat := floatOfInt .f64 n
theorem sO (b : Nat) : (∃ s f, Ieee.double.read b = .nan s f ∧ Ieee.double.read (pV b) = .nan false 2251799813685249) ∨ (pV b = b ∧ (Ieee.double.read b).isNaN = false) := by
  unfold pV
  cases h : Ieee.double.read b with
  | nan s f => left; exact ⟨s, f, rfl, by show Ieee.double.read wC = _; decide⟩
  | number s m e => right; exact ⟨rfl, rfl⟩
  | infinity s => right; exact ⟨rfl, rfl⟩
theorem y2 (d : Ieee.Datum) (s : Bool) (f : Nat) : d.sum (.nan s f) = none ∧ d.product (.nan s f) = none ∧ (∀ k, d.quotient k (.nan s f) = none) ∧ d.order (.nan s f) = none := by
  cases d <;> exact ⟨rfl, rfl, fun _ => rfl, rfl⟩
theorem y3 (d : Ieee.Datum) (s : Bool) (f : Nat) : (Ieee.Datum.nan s f).sum d = none ∧ (Ieee.Datum.nan s f).product d = none ∧ (∀ k, (Ieee.Datum.nan s f).quotient k d = none) ∧ (Ieee.Datum.nan s f).order d = none := by
  cases d <;> exact ⟨rfl, rfl, fun _ => rfl, rfl⟩
theorem Jo (s : Bool) (f : Nat) : (Ieee.Datum.nan s f).opposite = .nan (!s) f := rfl
theorem FY (a b : Nat) : Ieee.double.order (pV a) (pV b) = Ieee.double.order a b := by
  unfold Ieee.Format.order
  rcases sO a with ⟨s, f, h1, h2⟩ | ⟨h1, _⟩ <;> rcases sO b with ⟨s', f', h3, h4⟩ | ⟨h3, _⟩
  · rw [h1, h2, h3, h4]; rfl
  · rw [h1, h2, (y3 _ _ _).2.2.2, (y3 _ _ _).2.2.2]
  · rw [h3, h4, (y2 _ _ _).2.2.2, (y2 _ _ _).2.2.2]
  · rw [h1, h3]
theorem He (op : BinOp) (a b : Nat) : dr op (pV a) (pV b) = dr op a b := by
  unfold dr; rw [FY]
theorem Hf (op : BinOp) (a b : Nat) : floatBits op .f64 (pV a) (pV b) = floatBits op .f64 a b := by
  unfold floatBits
  have e : (FloatKind.f64).format = Ieee.double := rfl
  rw [e]
  cases op <;> simp only [Ieee.Format.add, Ieee.Format.sub, Ieee.Format.mul, Ieee.Format.div]
  all_goals
    rcases sO a with ⟨s, f, h1, h2⟩ | ⟨h1, _⟩ <;> rcases sO b with ⟨s', f', h3, h4⟩ | ⟨h3, _⟩
    · rw [h1, h2, h3, h4]; rfl
    · rw [h1, h2]; simp [y3]
    · rw [h3, h4]; simp [y2, Jo]
    · rw [h1, h3]
theorem ya (neg : Bool) {Jp : Nat} (h : Jp ≤ Ieee.double.infRung) : (Ieee.double.read (Ieee.double.word neg Jp)).isNaN = false := by
  have h1 : Ieee.double.word neg Jp % Ieee.double.signWeight = Jp := by
    have hs : Ieee.double.infRung < Ieee.double.signWeight := by decide
    unfold Ieee.Format.word
    split
    · rw [Nat.add_mod_left, Nat.mod_eq_of_lt (by omega)]
    · rw [Nat.mod_eq_of_lt (by omega)]
  unfold Ieee.Format.read
  dsimp only
  rw [h1]
  split
  · rfl
  · split
    · rfl
    · split
      · rfl
      · omega
theorem sP {d : Ieee.Datum} (h : d.isNaN = false) : (Ieee.double.read (Ieee.double.write d)).isNaN = false := by
  cases d with
  | nan => cases h
  | infinity s => exact ya s (Nat.le_refl _)
  | number s m e =>
    unfold Ieee.Format.write Ieee.Format.nearest
    dsimp only
    split
    · exact ya s (Nat.zero_le _)
    · exact ya s (Nat.min_le_right ..)
theorem Hg {a b d : Ieee.Datum} (h : a.sum b = some d) : d.isNaN = false := by
  cases a <;> cases b <;> simp only [Ieee.Datum.sum] at h <;> first | cases h; done | skip
  · simp only [Option.some.injEq] at h; subst h; rfl
  · simp only [Option.some.injEq] at h; subst h; rfl
  · simp only [Option.some.injEq] at h; subst h; rfl
  · split at h
    · simp only [Option.some.injEq] at h; subst h; rfl
    · cases h
theorem D4 {a b d : Ieee.Datum} (h : a.product b = some d) : d.isNaN = false := by
  cases a <;> cases b <;> simp only [Ieee.Datum.product] at h <;> first | (cases h; done) | skip
  all_goals first
    | (simp only [Option.some.injEq] at h; subst h; rfl)
    | (split at h
       · cases h
       · simp only [Option.some.injEq] at h; subst h; rfl)
theorem C0 {k : Nat} {a b d : Ieee.Datum} (h : a.quotient k b = some d) : d.isNaN = false := by
  cases a <;> cases b <;> simp only [Ieee.Datum.quotient] at h <;> first | (cases h; done) | skip
  all_goals first
    | (simp only [Option.some.injEq] at h; subst h; rfl)
    | (split at h
       · split at h
         · cases h
         · simp only [Option.some.injEq] at h; subst h; rfl
       · simp only [Option.some.injEq] at h; subst h; rfl)
theorem Jq {op : BinOp} {a b r : Nat} (h : floatBits op .f64 a b = some r) : Fl r r := by
  refine ⟨?_, ?_⟩
  · have := floatBits_wf h
    simpa [Lit.wf] using this
  · have h1 : (Ieee.double.read r).isNaN = false := by
      unfold floatBits at h
      have e : (FloatKind.f64).format = Ieee.double := rfl
      rw [e] at h
      split at h
      · obtain ⟨d, h2, rfl⟩ := Option.map_eq_some_iff.1 h; exact sP (Hg h2)
      · obtain ⟨d, h2, rfl⟩ := Option.map_eq_some_iff.1 h; exact sP (Hg h2)
      · obtain ⟨d, h2, rfl⟩ := Option.map_eq_some_iff.1 h; exact sP (D4 h2)
      · obtain ⟨d, h2, rfl⟩ := Option.map_eq_some_iff.1 h; exact sP (C0 h2)
      · cases h
    unfold pV
    rw [h1]; rfl
theorem Jr (q : Question) (t : Nat) (k : Nat) (hq : ∃ x y, q = .nanBits .f64 x y) : Fl wC (q.cut t) := by
  obtain ⟨x, y, rfl⟩ := hq
  simp only [Question.cut]
  have h1 : t % 2 < 2 := Nat.mod_lt _ (by decide)
  have h2 : t / 2 % (2 ^ 52 - 1) < 2 ^ 52 - 1 := Nat.mod_lt _ (by decide)
  generalize t % 2 = u at *
  generalize t / 2 % (2 ^ 52 - 1) = v at *
  refine ⟨by omega, ?_⟩
  unfold pV
  have h3 : (Ieee.double.read (u * 2 ^ 63 + 0x7ff0000000000000 + 1 + v)).isNaN = true := by
    have hw : Ieee.double.signWeight = 2 ^ 63 := by decide
    have hi : Ieee.double.infRung = 0x7ff0000000000000 := by decide
    have hb : Ieee.double.binade = 2 ^ 52 := by decide
    unfold Ieee.Format.read
    dsimp only
    rw [hw, hi, hb]
    have h4 : (u * 2 ^ 63 + 0x7ff0000000000000 + 1 + v) % 2 ^ 63 = 0x7ff0000000000000 + 1 + v := by omega
    rw [h4, if_neg (by omega), if_neg (by omega), if_neg (by omega)]
    rfl
  rw [h3]; rfl
theorem Js {P : Program} {w : World} {op : BinOp} {t : TypeId} {x y a b : Nat} (DT : op = .add ∨ op = .sub ∨ op = .mul ∨ op = .quo) (hx : Fl x a) (hy : Fl y b) :
    ∃ r w', (binOp op t (.float .f64 a) (.float .f64 b)).run P w = .ok (.float .f64 r) w' ∧ Fl (lG op x y) r ∧ (w' = w ∨ w' = w.drewN 1) := by
  have e : floatBits op .f64 x y = floatBits op .f64 a b := by rw [← hx.2, ← hy.2, Hf]
  cases h : floatBits op .f64 a b with
  | some r =>
    refine ⟨r, w, run_float_arith w op t .f64 a b r h, ?_, .inl rfl⟩
    unfold lG; rw [e, h]; exact Jq h
  | none =>
    refine ⟨(Question.nanBits .f64 a b).cut (w.tape w.drawn (.nanBits .f64 a b)), w.drewN 1, ?_, ?_, .inr rfl⟩
    · have h' := h
      unfold floatBits at h'
      rcases DT with rfl | rfl | rfl | rfl <;> simp only at h' <;> simp [binOp, Op.floatArith, h', choose, Sem.run, Question.forced, World.drewN]
    · unfold lG; rw [e, h]; exact Jr _ _ 0 ⟨_, _, rfl⟩
theorem Hh {P : Program} {w : World} {op : BinOp} {t : TypeId} {x y a b : Nat} (DT : op = .eql ∨ op = .neq ∨ op = .lss ∨ op = .leq ∨ op = .gtr ∨ op = .geq) (hx : Fl x a) (hy : Fl y b) :
    (binOp op t (.float .f64 a) (.float .f64 b)).run P w = .ok (SV.val (.b (dr op x y))) w := by
  rw [← hx.2, ← hy.2, He]
  rcases DT with rfl | rfl | rfl | rfl | rfl | rfl <;> simp [binOp, Op.floatCmp, SV.val, dr, FloatKind.format]
theorem Hi {P : Program} {w : World} {src dst : TypeId} {n : Int} {q : IntKind} (hs : (P.underlying src).isSome = true) (hd : P.underlying dst = some (.float .f64)) :
    (convert src dst (.int q n)).run P w = .ok (.float .f64 (x9 n)) w := run_convert_int_float w src dst q .f64 n hs hd
theorem Hj {d : Ieee.Datum} (hd : d.isNaN = false) : Fl (Ieee.double.write d) (Ieee.double.write d) := by
  have h2 : Ieee.double.write d < 2 ^ Ieee.double.width := Ieee.Format.write_lt _ _
  have h4 : (Ieee.double.read (Ieee.double.write d)).isNaN = false := sP hd
  have h3 : (2 ^ Ieee.double.width : Nat) = 18446744073709551616 := by decide
  rw [h3] at h2
  refine ⟨h2, ?_⟩
  unfold pV
  rw [if_neg (by rw [h4]; decide)]
theorem EU (n : Int) : x9 n = Ieee.double.write (.number (n < 0) n.natAbs 0) := by
  unfold x9 floatOfInt FloatKind.nearest FloatKind.encode FloatKind.format
  rfl
theorem Jt (n : Int) : Fl (x9 n) (x9 n) := by
  rw [EU]
  exact Hj rfl
theorem Fl.self {b : Nat} (h : b < 18446744073709551616) : Fl (pV b) b := ⟨h, rfl⟩
def eF : fm UInt64 := ⟨1, fun a => [.float .f64 a.toNat], fun _ => rfl, fun x v h => by rw [List.mem_singleton.1 h]; rfl⟩
instance : Pos eF := ⟨by decide⟩
theorem Fl.u (x : UInt64) : Fl (pV x.toNat) x.toNat := ⟨x.toNat_lt, rfl⟩
theorem Fl.lit {c : Nat} (h : (decide (c < 18446744073709551616) && (pV c == c)) = true) : Fl c c := by
  simp only [Bool.and_eq_true, decide_eq_true_eq, beq_iff_eq] at h
  exact ⟨h.1, h.2⟩
theorem Fl.bits {x b : Nat} (h : Fl x b) (hn : x ≠ wC) : b = x := by
  rcases sO b with ⟨s, f, h1, h2⟩ | ⟨h1, h2⟩
  · exfalso; apply hn; rw [← h.2]; unfold pV; rw [h1]; rfl
  · rw [← h1, h.2]
section
variable {P : Program} {n : Nat} {ops : Array Oper} {L : St} {w w0 : World} {F O : Nat → Prop} {K4 : List HP} {K : St → World → Prop}
theorem oC {dst : Option Nat} {AZ : BinOp} {t ty : TypeId} {x y : Operand} {pp : TypeId} {pos : String} {lM : Array Edge} {g : Option (Nat × Bool)} (ss : List Nat) (d : Nat) {X Y u v : Nat}
    (hs : (vI ops ss L ⟨dst, .binOp AZ t x y pp, ty, pos, lM, g⟩, dst, (decide (d < n)), (L.any fun p => p.1 == d), (toSS [x, y] (lk L)).map SV.ad) = (true, some d, true, false, some [.float .f64 u, .float .f64 v]))
    (DT : AZ = .add ∨ AZ = .sub ∨ AZ = .mul ∨ AZ = .quo) (hx : Fl X u) (hy : Fl Y v) (k : Cx F O w0 w K4) (hk : ∀ r w', Fl (lG AZ X Y) r → Cx F O w0 w' K4 → K ((d, .v (.float .f64 r)) :: L) w') :
    uy P n ops L w ⟨dst, .binOp AZ t x y pp, ty, pos, lM, g⟩ K := by
  simp only [Prod.mk.injEq, Option.map_eq_some_iff, decide_eq_true_eq] at hs
  obtain ⟨s1, rfl, s3, s4, ⟨svs, s5, s6⟩⟩ := hs
  refine rr (xs := [x, y]) (svs := svs) ss (d := d) (by simp [ux, s1, s3, s4, s5]) fun a ha he => ?_
  rw [s6] at he
  simp only [List.map_cons, List.map_nil, List.cons.injEq, and_true] at he
  obtain ⟨r, w', h1, h2, h3⟩ := Js (P := P) (w := w) (t := t) DT hx hy
  have hg : (eqGuard AZ t x y (.float .f64 u) (.float .f64 v)).run P w = .ok () w := by
    rcases DT with rfl | rfl | rfl | rfl <;> rfl
  unfold Oper.wp execOp
  simp only [he.1, he.2, Sem.run_bind, hg, h1, Result.andThen_ok, Sem.run_pure]
  refine ⟨.v (.float .f64 r), rfl, hk r w' h2 ?_⟩
  rcases h3 with rfl | rfl
  · exact k
  · exact k.drew 1
theorem jy {dst : Option Nat} {AZ : BinOp} {t ty : TypeId} {x y : Operand} {pp : TypeId} {pos : String} {lM : Array Edge} {g : Option (Nat × Bool)} (ss : List Nat) (d : Nat) {X Y u v : Nat}
    (hs : (vI ops ss L ⟨dst, .binOp AZ t x y pp, ty, pos, lM, g⟩, dst, (decide (d < n)), (L.any fun p => p.1 == d), (toSS [x, y] (lk L)).map SV.ad) = (true, some d, true, false, some [.float .f64 u, .float .f64 v]))
    (DT : AZ = .eql ∨ AZ = .neq ∨ AZ = .lss ∨ AZ = .leq ∨ AZ = .gtr ∨ AZ = .geq) (hx : Fl X u) (hy : Fl Y v) (hk : K ((d, .b (dr AZ X Y)) :: L) w) :
    uy P n ops L w ⟨dst, .binOp AZ t x y pp, ty, pos, lM, g⟩ K := by
  simp only [Prod.mk.injEq, Option.map_eq_some_iff, decide_eq_true_eq] at hs
  obtain ⟨s1, rfl, s3, s4, ⟨svs, s5, s6⟩⟩ := hs
  refine rr (xs := [x, y]) (svs := svs) ss (d := d) (by simp [ux, s1, s3, s4, s5]) fun a ha he => ?_
  rw [s6] at he
  simp only [List.map_cons, List.map_nil, List.cons.injEq, and_true] at he
  have h1 := Hh (P := P) (w := w) (t := t) DT hx hy
  have hg : (eqGuard AZ t x y (.float .f64 u) (.float .f64 v)).run P w = .ok () w := by
    rcases DT with rfl | rfl | rfl | rfl | rfl | rfl <;> rfl
  unfold Oper.wp execOp
  simp only [he.1, he.2, Sem.run_bind, hg, h1, Result.andThen_ok, Sem.run_pure]
  exact ⟨.b (dr AZ X Y), rfl, hk⟩
theorem Ju {dst : Option Nat} {src t ty : TypeId} {x : Operand} {pos : String} {lM : Array Edge} {g : Option (Nat × Bool)} (ss : List Nat) (d : Nat) {q : IntKind} {m : Int}
    (hs : (vI ops ss L ⟨dst, .convert src t x, ty, pos, lM, g⟩, dst, (decide (d < n)), (L.any fun p => p.1 == d), (toSS [x] (lk L)).map SV.ad, (P.underlying src).isSome, P.underlying t) = (true, some d, true, false, some [.int q m], true, some (.float .f64)))
    (hk : K ((d, .v (.float .f64 (x9 m))) :: L) w) : uy P n ops L w ⟨dst, .convert src t x, ty, pos, lM, g⟩ K := by
  simp only [Prod.mk.injEq, Option.map_eq_some_iff, decide_eq_true_eq] at hs
  obtain ⟨s1, rfl, s3, s4, ⟨svs, s5, s6⟩, s7, s8⟩ := hs
  refine rr (xs := [x]) (svs := svs) ss (d := d) (by simp [ux, s1, s3, s4, s5]) fun a ha he => ?_
  rw [s6] at he
  simp only [List.map_cons, List.map_nil, List.cons.injEq, and_true] at he
  unfold Oper.wp execOp
  simp only [he, Sem.run_bind, Hi s7 s8, Result.andThen_ok, Sem.run_pure]
  exact ⟨.v (.float .f64 (x9 m)), rfl, hk⟩
theorem A_ {dst : Option Nat} {f : FuncId} {xs : Array Operand} {zA : Array TypeId} {ty : TypeId} {pos : String} {lM : Array Edge} {g : Option (Nat × Bool)} (hf : Ly P f) (ss : List Nat) (d : Nat) {X u : Nat} (hx : Fl X u) (hn : X ≠ wC)
    (hs : (vI ops ss L ⟨dst, .call ⟨.value (.func f), xs, zA⟩, ty, pos, lM, g⟩, dst, (decide (d < n)), (L.any fun p => p.1 == d), (toSS xs.toList (lk L)).map SV.ad) = (true, some d, true, false, some [.float .f64 u]))
    (hk : K ((d, .u64 (UInt64.ofNat X)) :: L) w) : uy P n ops L w ⟨dst, .call ⟨.value (.func f), xs, zA⟩, ty, pos, lM, g⟩ K := by
  obtain rfl := hx.bits hn
  exact G_ hf ss d _ hx.1 hs hk
end
structure NY (P : Program) (f : FuncId) : Prop where
  ok : ∃ fn, P.funcs[f]? = some fn ∧ (fn.name == "runtime.NumGoroutine") = false ∧ fn.body.isNone = true ∧ Extern.findNext fn = none ∧ Extern.find fn = some Extern.MathFloatBits.float64frombits
section
variable {P : Program} {n : Nat} {ops : Array Oper} {L : St} {w : World} {K : St → World → Prop}
theorem Hk {dst : Option Nat} {f : FuncId} {xs : Array Operand} {zA : Array TypeId} {ty : TypeId} {pos : String} {lM : Array Edge} {g : Option (Nat × Bool)} (hf : NY P f) (ss : List Nat) (d : Nat) (u : UInt64)
    (hs : (vI ops ss L ⟨dst, .call ⟨.value (.func f), xs, zA⟩, ty, pos, lM, g⟩, dst, (decide (d < n)), (L.any fun p => p.1 == d), (toSS xs.toList (lk L)).map SV.ad) = (true, some d, true, false, some [.int .u64 u.toNat]))
    (hk : K ((d, .v (.float .f64 u.toNat)) :: L) w) : uy P n ops L w ⟨dst, .call ⟨.value (.func f), xs, zA⟩, ty, pos, lM, g⟩ K := by
  simp only [Prod.mk.injEq, Option.map_eq_some_iff, decide_eq_true_eq] at hs
  obtain ⟨s1, s2, s3, s4, ⟨vs, s5, s6⟩⟩ := hs
  subst s2
  refine rr (xs := xs.toList) (svs := vs) ss (d := d) (by simp [ux, s1, s3, s4, s5]) fun a ha he => ?_
  rw [s6] at he
  have tU : (#[] ++ xs.map a.eval ++ #[] : Array Value) = #[.int .u64 u.toNat] := by
    apply Array.ext'
    simpa using he
  obtain ⟨fn, h1, h2, h3, h4, h5⟩ := hf.ok
  have lH : (execOp a.eval ⟨some d, .call ⟨.value (.func f), xs, zA⟩, ty, pos, lM, g⟩).run P w = .ok (.value (.float .f64 u.toNat)) w := by
    show (callFunc f (#[] ++ xs.map a.eval ++ #[])).run P w = _
    rw [tU, run_callFunc_extern h1 h2 h3 h4 h5]
    rfl
  unfold Oper.wp
  rw [lH]
  exact ⟨.v (.float .f64 u.toNat), rfl, hk⟩
end
end Go.Sx
namespace Go.Sx
open Go.RowKit
set_option linter.unusedSimpArgs false
set_option linter.unusedVariables false
section
variable {H : Type} {enc : TypeId × Value → H} {P : Program} {w : World} {held : Bool}
theorem zE {k : FloatKind} {t : TypeId} {base : Nat} {spare : Nat → Bool} {fuel : Nat} {cs : List Value} {x : DataW H × List MemPlace} (ht : P.underlying t = some (.float k)) (h : DataW.trod enc P w base spare held fuel t cs = some x) : ∃ b, cs = [.float k b] ∧ x = (.lit (.float k b), []) ∧ (Lit.float k b).wf = true := by
  cases fuel with
  | zero => simp [DataW.trod] at h
  | succ n =>
    unfold DataW.trod at h
    rw [ht] at h
    split at h <;> simp_all
theorem okWide_float {k : FloatKind} {t : TypeId} {r : Reach} {base : Nat} {v : Value} (ht : P.underlying t = some (.float k)) (h : Value.okWide P w r base t v) : ∃ n, v = .float k n := by
  simp only [Value.okWide, ht, Cell.okWide] at h
  cases v <;> simp_all [Cell.ok]
theorem Hl {b : Nat} (h : (Lit.float .f64 b).wf = true) : b < 18446744073709551616 := by
  simpa [Lit.wf] using h
theorem EV {b : Nat} (h : b < 18446744073709551616) : pV b < 18446744073709551616 := by
  unfold pV
  split
  · decide
  · exact h
end
end Go.Sx
namespace Go.Sx
open Go.RowKit
set_option linter.unusedVariables false
noncomputable def mr (k_ : Int) : Option (Int × Int × Int) :=
  if k_ = 1 then (some ((64 : Int), (64 : Int), (16 : Int))) else (if k_ = 2 then (some ((32 : Int), (32 : Int), (8 : Int))) else (some ((0 : Int), (0 : Int), (0 : Int))))
noncomputable def iN (n : Int) (lo : Int) (hi : Int) : Option Bool :=
  some ((decide (lo ≤ n)) && (decide (n ≤ hi)))
noncomputable def nu  : Option Int :=
  some (0 : Int)
noncomputable def lV (k_ : Int) (ca : UInt32) (az : Int) (bE : Int) (bW : List UInt8) (ay : List UInt8) (r_ : (Int × Int × Int)) (aL : Bool) : Option Int :=
  if aL = true then (some (23 : Int)) else (if ((decide (k_ = 2)) && (decide ((65535 : UInt32) < ca))) = true then (some (24 : Int)) else ((iN az (0 : Int) (255 : Int)).bind fun mA => if (!mA) = true then (some (25 : Int)) else ((iN bE (0 : Int) r_.2.1).bind fun nr => if (!nr) = true then (some (26 : Int)) else (if r_.2.2 < ((bW.length : Nat) : Int) then (some (27 : Int)) else (if r_.2.2 < ((ay.length : Nat) : Int) then (some (28 : Int)) else (nu))))))
noncomputable def kC (k_ : Int) (bb : Int) (dy : Int) (bm : Int) (bM : Int) (aV : UInt64) (ca : UInt32) (az : Int) (bE : Int) (bW : List UInt8) (ay : List UInt8) (r_ : (Int × Int × Int)) (least : Int) : Option Int :=
  (iN bb (1 : Int) r_.2.1).bind fun ah => if (!ah) = true then (some (20 : Int)) else ((iN dy (0 : Int) r_.2.1).bind fun aX => if (!aX) = true then (some (8 : Int)) else ((iN bm (0 : Int) (255 : Int)).bind fun eK => if (!eK) = true then (some (21 : Int)) else ((iN bM least (255 : Int)).bind fun gl => if (!gl) = true then (some (22 : Int)) else (if ((decide (ca ≠ 0)) && (decide ((4294967296 : UInt64) ≤ aV))) = true then (lV k_ ca az bE bW ay r_ ((decide (ca ≠ 0)) && (decide ((4294967296 : UInt64) ≤ aV)))) else (lV k_ ca az bE bW ay r_ (((decide (ca = 0)) && (decide (k_ = 2))) && (decide ((281474976710656 : UInt64) ≤ aV))))))))
noncomputable def jz (k_ : Int) (bb : Int) (dy : Int) (bm : Int) (bM : Int) (cY : UInt32) (aV : UInt64) (ca : UInt32) (az : Int) (bE : Int) (bW : List UInt8) (ay : List UInt8) : Option Int :=
  (mr k_).bind fun r_ => if r_.2.1 = 0 then (some (1 : Int)) else (if ca ≠ 0 then (kC k_ bb dy bm bM aV ca az bE bW ay r_ (0 : Int)) else (kC k_ bb dy bm bM aV ca az bE bW ay r_ (1 : Int)))
noncomputable def l9 (k_ : Int) : Option (List (Int × Int × Int × List UInt8 × Int)) :=
  if k_ = 1 then (some ([((1 : Int), (0 : Int), (1 : Int), ([100, 105, 103, 101, 115, 116] : List UInt8), (20 : Int)), ((2 : Int), (1 : Int), (1 : Int), ([107, 101, 121] : List UInt8), (8 : Int)), ((3 : Int), (2 : Int), (1 : Int), ([102, 97, 110, 111, 117, 116] : List UInt8), (21 : Int)), ((4 : Int), (3 : Int), (1 : Int), ([100, 101, 112, 116, 104] : List UInt8), (22 : Int)), ((5 : Int), (4 : Int), (4 : Int), ([108, 101, 97, 102] : List UInt8), (1 : Int)), ((6 : Int), (8 : Int), (8 : Int), ([111, 102, 102, 115, 101, 116] : List UInt8), (23 : Int)), ((7 : Int), (12 : Int), (4 : Int), ([120, 111, 102] : List UInt8), (24 : Int)), ((8 : Int), (16 : Int), (1 : Int), ([110, 111, 100, 101] : List UInt8), (25 : Int)), ((9 : Int), (17 : Int), (1 : Int), ([105, 110, 110, 101, 114] : List UInt8), (26 : Int))] : List (Int × Int × Int × List UInt8 × Int))) else ((aS ([((1 : Int), (0 : Int), (1 : Int), ([100, 105, 103, 101, 115, 116] : List UInt8), (20 : Int)), ((2 : Int), (1 : Int), (1 : Int), ([107, 101, 121] : List UInt8), (8 : Int)), ((3 : Int), (2 : Int), (1 : Int), ([102, 97, 110, 111, 117, 116] : List UInt8), (21 : Int)), ((4 : Int), (3 : Int), (1 : Int), ([100, 101, 112, 116, 104] : List UInt8), (22 : Int)), ((5 : Int), (4 : Int), (4 : Int), ([108, 101, 97, 102] : List UInt8), (1 : Int)), ((6 : Int), (8 : Int), (8 : Int), ([111, 102, 102, 115, 101, 116] : List UInt8), (23 : Int)), ((7 : Int), (12 : Int), (4 : Int), ([120, 111, 102] : List UInt8), (24 : Int)), ((8 : Int), (16 : Int), (1 : Int), ([110, 111, 100, 101] : List UInt8), (25 : Int)), ((9 : Int), (17 : Int), (1 : Int), ([105, 110, 110, 101, 114] : List UInt8), (26 : Int))] : List (Int × Int × Int × List UInt8 × Int)) (5 : Int)).bind fun aL => (aS (([((1 : Int), (0 : Int), (1 : Int), ([100, 105, 103, 101, 115, 116] : List UInt8), (20 : Int)), ((2 : Int), (1 : Int), (1 : Int), ([107, 101, 121] : List UInt8), (8 : Int)), ((3 : Int), (2 : Int), (1 : Int), ([102, 97, 110, 111, 117, 116] : List UInt8), (21 : Int)), ((4 : Int), (3 : Int), (1 : Int), ([100, 101, 112, 116, 104] : List UInt8), (22 : Int)), ((5 : Int), (4 : Int), (4 : Int), ([108, 101, 97, 102] : List UInt8), (1 : Int)), ((6 : Int), (8 : Int), (8 : Int), ([111, 102, 102, 115, 101, 116] : List UInt8), (23 : Int)), ((7 : Int), (12 : Int), (4 : Int), ([120, 111, 102] : List UInt8), (24 : Int)), ((8 : Int), (16 : Int), (1 : Int), ([110, 111, 100, 101] : List UInt8), (25 : Int)), ((9 : Int), (17 : Int), (1 : Int), ([105, 110, 110, 101, 114] : List UInt8), (26 : Int))] : List (Int × Int × Int × List UInt8 × Int)).set (Int.toNat (5 : Int)) (aL.1, aL.2.1, (6 : Int), aL.2.2.2.1, aL.2.2.2.2)) (6 : Int)).bind fun j5 => (aS ((([((1 : Int), (0 : Int), (1 : Int), ([100, 105, 103, 101, 115, 116] : List UInt8), (20 : Int)), ((2 : Int), (1 : Int), (1 : Int), ([107, 101, 121] : List UInt8), (8 : Int)), ((3 : Int), (2 : Int), (1 : Int), ([102, 97, 110, 111, 117, 116] : List UInt8), (21 : Int)), ((4 : Int), (3 : Int), (1 : Int), ([100, 101, 112, 116, 104] : List UInt8), (22 : Int)), ((5 : Int), (4 : Int), (4 : Int), ([108, 101, 97, 102] : List UInt8), (1 : Int)), ((6 : Int), (8 : Int), (8 : Int), ([111, 102, 102, 115, 101, 116] : List UInt8), (23 : Int)), ((7 : Int), (12 : Int), (4 : Int), ([120, 111, 102] : List UInt8), (24 : Int)), ((8 : Int), (16 : Int), (1 : Int), ([110, 111, 100, 101] : List UInt8), (25 : Int)), ((9 : Int), (17 : Int), (1 : Int), ([105, 110, 110, 101, 114] : List UInt8), (26 : Int))] : List (Int × Int × Int × List UInt8 × Int)).set (Int.toNat (5 : Int)) (aL.1, aL.2.1, (6 : Int), aL.2.2.2.1, aL.2.2.2.2)).set (Int.toNat (6 : Int)) (j5.1, j5.2.1, (2 : Int), j5.2.2.2.1, j5.2.2.2.2)) (7 : Int)).bind fun eZ => (aS (((([((1 : Int), (0 : Int), (1 : Int), ([100, 105, 103, 101, 115, 116] : List UInt8), (20 : Int)), ((2 : Int), (1 : Int), (1 : Int), ([107, 101, 121] : List UInt8), (8 : Int)), ((3 : Int), (2 : Int), (1 : Int), ([102, 97, 110, 111, 117, 116] : List UInt8), (21 : Int)), ((4 : Int), (3 : Int), (1 : Int), ([100, 101, 112, 116, 104] : List UInt8), (22 : Int)), ((5 : Int), (4 : Int), (4 : Int), ([108, 101, 97, 102] : List UInt8), (1 : Int)), ((6 : Int), (8 : Int), (8 : Int), ([111, 102, 102, 115, 101, 116] : List UInt8), (23 : Int)), ((7 : Int), (12 : Int), (4 : Int), ([120, 111, 102] : List UInt8), (24 : Int)), ((8 : Int), (16 : Int), (1 : Int), ([110, 111, 100, 101] : List UInt8), (25 : Int)), ((9 : Int), (17 : Int), (1 : Int), ([105, 110, 110, 101, 114] : List UInt8), (26 : Int))] : List (Int × Int × Int × List UInt8 × Int)).set (Int.toNat (5 : Int)) (aL.1, aL.2.1, (6 : Int), aL.2.2.2.1, aL.2.2.2.2)).set (Int.toNat (6 : Int)) (j5.1, j5.2.1, (2 : Int), j5.2.2.2.1, j5.2.2.2.2)).set (Int.toNat (7 : Int)) (eZ.1, (14 : Int), eZ.2.2.1, eZ.2.2.2.1, eZ.2.2.2.2)) (8 : Int)).bind fun jT => some ((((([((1 : Int), (0 : Int), (1 : Int), ([100, 105, 103, 101, 115, 116] : List UInt8), (20 : Int)), ((2 : Int), (1 : Int), (1 : Int), ([107, 101, 121] : List UInt8), (8 : Int)), ((3 : Int), (2 : Int), (1 : Int), ([102, 97, 110, 111, 117, 116] : List UInt8), (21 : Int)), ((4 : Int), (3 : Int), (1 : Int), ([100, 101, 112, 116, 104] : List UInt8), (22 : Int)), ((5 : Int), (4 : Int), (4 : Int), ([108, 101, 97, 102] : List UInt8), (1 : Int)), ((6 : Int), (8 : Int), (8 : Int), ([111, 102, 102, 115, 101, 116] : List UInt8), (23 : Int)), ((7 : Int), (12 : Int), (4 : Int), ([120, 111, 102] : List UInt8), (24 : Int)), ((8 : Int), (16 : Int), (1 : Int), ([110, 111, 100, 101] : List UInt8), (25 : Int)), ((9 : Int), (17 : Int), (1 : Int), ([105, 110, 110, 101, 114] : List UInt8), (26 : Int))] : List (Int × Int × Int × List UInt8 × Int)).set (Int.toNat (5 : Int)) (aL.1, aL.2.1, (6 : Int), aL.2.2.2.1, aL.2.2.2.2)).set (Int.toNat (6 : Int)) (j5.1, j5.2.1, (2 : Int), j5.2.2.2.1, j5.2.2.2.2)).set (Int.toNat (7 : Int)) (eZ.1, (14 : Int), eZ.2.2.1, eZ.2.2.2.1, eZ.2.2.2.2)).set (Int.toNat (8 : Int)) (jT.1, (15 : Int), jT.2.2.1, jT.2.2.2.1, jT.2.2.2.2)))
noncomputable def pO (bb : Int) (dy : Int) (bm : Int) (bM : Int) (cY : UInt32) (aV : UInt64) (ca : UInt32) (az : Int) (bE : Int) (bW : List UInt8) (ay : List UInt8) (field : Int) : Option UInt64 :=
  if field = 1 then (some (UInt64.ofInt bb)) else (if field = 2 then (some (UInt64.ofInt dy)) else (if field = 3 then (some (UInt64.ofInt bm)) else (if field = 4 then (some (UInt64.ofInt bM)) else (if field = 5 then (some (UInt64.ofNat cY.toNat)) else (if field = 6 then (some aV) else (if field = 7 then (some (UInt64.ofNat ca.toNat)) else (if field = 8 then (some (UInt64.ofInt az)) else (some (UInt64.ofInt bE)))))))))
noncomputable def mP (at_ : Int) (size : Int) (v : UInt64) : (List UInt8 × Int) → Option ((List UInt8 × Int) ⊕ (List UInt8))
  | (b1, aL) => if aL < size then ((pr (0 ≤ aD (8 * aL))).bind fun u => (aS b1 (aD (at_ + aL))).bind fun j5 => some (.inl (b1.set (Int.toNat (aD (at_ + aL))) (UInt8.ofNat (aK v (Int.toNat (aD (8 * aL)))).toNat), aD (aL + 1)))) else (Option.map Sum.inr (some b1))
noncomputable def pW (b : List UInt8) (at_ : Int) (size : Int) (v : UInt64) : Option (List UInt8) :=
  cf (mP at_ size v) (b, (0 : Int))
noncomputable def mB (aL : Int) (b1 : List UInt8) : Option ((List UInt8 × Int) ⊕ (List UInt8 × Int)) :=
  some (.inl (b1, aD (aL + 1)))
noncomputable def ln (aL : Int) (b2 : List UInt8) : Option ((List UInt8 × Int) ⊕ (List UInt8 × Int)) :=
  mB aL b2
noncomputable def jU (bb : Int) (dy : Int) (bm : Int) (bM : Int) (cY : UInt32) (aV : UInt64) (ca : UInt32) (az : Int) (bE : Int) (bW : List UInt8) (ay : List UInt8) (ah : (Int × Int × Int)) (aX : (List (Int × Int × Int × List UInt8 × Int))) : (List UInt8 × Int) → Option ((List UInt8 × Int) ⊕ (List UInt8 × Int))
  | (b, aL) => if aL < ((aX.length : Nat) : Int) then ((aS aX aL).bind fun eZ => if ((decide (eZ.1 = 7)) && (decide (ca = 0))) = true then (ln aL b) else ((pO bb dy bm bM cY aV ca az bE bW ay eZ.1).bind fun eK => (pW b eZ.2.1 eZ.2.2.1 eK).bind fun gl => ln aL gl)) else (Option.map Sum.inr ((x5 b (aD (ah.1 - (aD (2 * ah.2.2)))) ((Int.toNat ah.1 : Nat) : Int)).bind fun b3 => (x5 (DC b (Int.toNat (aD (ah.1 - (aD (2 * ah.2.2))))) b3.length bW) (aD (ah.1 - ah.2.2)) ((Int.toNat ah.1 : Nat) : Int)).bind fun b4 => some (DC (DC b (Int.toNat (aD (ah.1 - (aD (2 * ah.2.2))))) b3.length bW) (Int.toNat (aD (ah.1 - ah.2.2))) b4.length ay, (0 : Int))))
noncomputable def kG (k_ : Int) (bb : Int) (dy : Int) (bm : Int) (bM : Int) (cY : UInt32) (aV : UInt64) (ca : UInt32) (az : Int) (bE : Int) (bW : List UInt8) (ay : List UInt8) : Option (List UInt8 × Int) :=
  (jz k_ bb dy bm bM cY aV ca az bE bW ay).bind fun r_ => if r_ ≠ 0 then (some (([] : List UInt8), r_)) else ((mr k_).bind fun ah => (pr ((0 : Int) ≤ ah.1 ∧ (ah.1 : Int) ≤ ah.1 ∧ Int.toNat ah.1 * 1 ≤ 140737488355328)).bind fun u => (l9 k_).bind fun aX => cf (jU bb dy bm bM cY aV ca az bE bW ay ah aX) (List.replicate (Int.toNat ah.1) (0 : UInt8), (0 : Int)))
noncomputable def sQ  : Option (ae UInt64 8) :=
  some (⟨[(7640891576956012808 : UInt64), (13503953896175478587 : UInt64), (4354685564936845355 : UInt64), (11912009170470909681 : UInt64), (5840696475078001361 : UInt64), (11170449401992604703 : UInt64), (2270897969802886507 : UInt64), (6620516959819538809 : UInt64)], rfl⟩ : ae UInt64 8)
noncomputable def oT (b : List UInt8) (at_ : Int) (n : Int) : (UInt64 × Int) → Option ((UInt64 × Int) ⊕ (UInt64 × Int))
  | (w_, aL) => if aL < n then ((aS b (aD (at_ + aL))).bind fun eZ => (pr (0 ≤ aD (8 * aL))).bind fun u => some (.inl (w_ ||| (aC (UInt64.ofNat eZ.toNat) (Int.toNat (aD (8 * aL)))), aD (aL + 1)))) else (Option.map Sum.inr (some (w_, (0 : Int))))
noncomputable def oH (b : List UInt8) (at_ : Int) (n : Int) : Option (UInt64 × Int) :=
  if at_ < 0 then (some ((0 : UInt64), (1 : Int))) else (if ((decide (((b.length : Nat) : Int) < at_)) || (decide ((aD (((b.length : Nat) : Int) - at_)) < n))) = true then (some ((0 : UInt64), (3 : Int))) else (cf (oT b at_ n) ((0 : UInt64), (0 : Int))))
noncomputable def iM (b : List UInt8) (at_ : Int) : Option (UInt64 × Int) :=
  (oH b at_ (8 : Int)).bind fun r_ => some (r_.1, r_.2)
noncomputable def od (block : List UInt8) : (ae UInt64 8 × Int) → Option ((ae UInt64 8 × Int) ⊕ (ae UInt64 8 × Int))
  | (h, aL) => if aL < 8 then ((iM block (aD (8 * aL))).bind fun ah => (aS h.l aL).bind fun eZ => (aS h.l aL).bind fun jT => (some (iy h aL (eZ ^^^ ah.1))).bind fun v => some (.inl (v, aD (aL + 1)))) else (Option.map Sum.inr (some (h, (0 : Int))))
noncomputable def oU (block : List UInt8) : Option (ae UInt64 8 × Int) :=
  if ((block.length : Nat) : Int) ≠ 64 then (some ((ae.rep 8 ((0 : UInt64) : UInt64)), (1 : Int))) else ((sQ).bind fun r_ => cf (od block) (r_, (0 : Int)))
noncomputable def q8 (b : List UInt8) (n : Int) : Option Int :=
  if ((b.length : Nat) : Int) < n then (some (3 : Int)) else (if n < ((b.length : Nat) : Int) then (some (2 : Int)) else (some (0 : Int)))
noncomputable def sn (b : List UInt8) (at_ : Int) : Option (UInt32 × Int) :=
  (oH b at_ (4 : Int)).bind fun r_ => some (UInt32.ofNat r_.1.toNat, r_.2)
noncomputable def qy (m_ : List UInt32) (b : List UInt8) : (List UInt32 × Int) → Option ((List UInt32 × Int) ⊕ (List UInt32))
  | (xt, aL) => if aL < ((m_.length : Nat) : Int) then ((sn b (aD (4 * aL))).bind fun r_ => (aS xt aL).bind fun j5 => some (.inl (xt.set (Int.toNat aL) r_.1, aD (aL + 1)))) else (Option.map Sum.inr (some xt))
noncomputable def q9 (m_ : List UInt32) (b : List UInt8) : Option (List UInt32) :=
  cf (qy m_ b) (m_, (0 : Int))
noncomputable def vt  : Option (ae UInt32 8) :=
  some (⟨[(1779033703 : UInt32), (3144134277 : UInt32), (1013904242 : UInt32), (2773480762 : UInt32), (1359893119 : UInt32), (2600822924 : UInt32), (528734635 : UInt32), (1541459225 : UInt32)], rfl⟩ : ae UInt32 8)
noncomputable def qz (ah : (List UInt32)) : (ae UInt32 8 × Int) → Option ((ae UInt32 8 × Int) ⊕ (ae UInt32 8 × Int))
  | (h, aL) => if aL < 8 then ((aS h.l aL).bind fun eZ => (aS (ae.of 8 ah).l aL).bind fun jT => (aS h.l aL).bind fun mw => (some (iy h aL (eZ ^^^ jT))).bind fun v => some (.inl (v, aD (aL + 1)))) else (Option.map Sum.inr (some (h, (0 : Int))))
noncomputable def tm (block : List UInt8) : Option (ae UInt32 8 × Int) :=
  (q8 block (32 : Int)).bind fun r_ => if r_ ≠ 0 then (some ((ae.rep 8 ((0 : UInt32) : UInt32)), r_)) else ((q9 ((ae.rep 8 (0 : UInt32)).l) block).bind fun ah => (vt).bind fun aX => cf (qz ah) (aX, (0 : Int)))
noncomputable def q_ (k_ : Int) (block : List UInt8) : Option ((ae UInt64 8 × List UInt8) ⊕ (ae UInt32 8 × List UInt8)) :=
  if k_ = 1 then ((oU block).bind fun r_ => some (Sum.inl (r_.1, ([] : List UInt8)))) else ((tm block).bind fun ah => some (Sum.inr (ah.1, ([] : List UInt8))))
noncomputable def iO (k_ : Int) : Option Int :=
  if k_ = 1 then (some (128 : Int)) else (some (64 : Int))
noncomputable def kt (b : List UInt8) (n : Int) : Option (List UInt8) :=
  (pr ((0 : Int) ≤ (0 : Int) ∧ ((0 : Int) : Int) ≤ n ∧ Int.toNat n * 1 ≤ 140737488355328)).bind fun u => (app (List.replicate (Int.toNat (0 : Int)) (0 : UInt8)) b 1).bind fun b1 => (Jj b1 (aD (n - ((b.length : Nat) : Int))) (0 : UInt8) 1).bind fun b2 => some b2
noncomputable def l_ (oR : UInt64) (pE : UInt64) (n : UInt64) : Option (UInt64 × UInt64 × Bool) :=
  (CX oR n (0 : UInt64)).bind fun r_ => (CX pE (0 : UInt64) r_.2).bind fun ah => some (r_.1, ah.1, decide (ah.2 = 1))
noncomputable def mn (b : List UInt8) : (ae UInt64 16 × Int) → Option ((ae UInt64 16 × Int) ⊕ (ae UInt64 16 × Int))
  | (m_, aL) => if aL < 16 then ((iM b (aD (8 * aL))).bind fun r_ => (aS m_.l aL).bind fun eZ => (some (iy m_ aL r_.1)).bind fun v => some (.inl (v, aD (aL + 1)))) else (Option.map Sum.inr (some (m_, (0 : Int))))
noncomputable def oV (b : List UInt8) : Option (ae UInt64 16 × Int) :=
  if ((b.length : Nat) : Int) ≠ 128 then (some ((ae.rep 16 (0 : UInt64)), (1 : Int))) else (cf (mn b) ((ae.rep 16 (0 : UInt64)), (0 : Int)))
noncomputable def oW (v4 : ae UInt64 16) : Option (ae UInt64 16) :=
  some v4
noncomputable def oX (node : Bool) (v2 : ae UInt64 16) : Option (ae UInt64 16) :=
  if node = true then ((aS v2.l (15 : Int)).bind fun nK => (aS v2.l (15 : Int)).bind fun mH => (some (iy v2 (15 : Int) (18446744073709551615 ^^^ nK))).bind fun v5 => oW v5) else (oW v2)
noncomputable def r6 (h : ae UInt64 8) (il : UInt64) (im : UInt64) (last : Bool) (node : Bool) : Option (ae UInt64 16) :=
  (x5 ((ae.rep 16 (0 : UInt64)).l) 0 (8 : Int)).bind fun b => (sQ).bind fun r_ => (x5 ((tT (ae.rep 16 (0 : UInt64)) 0 b.length h.l).l) (8 : Int) ((16 : Nat) : Int)).bind fun b1 => (aS (tT (tT (ae.rep 16 (0 : UInt64)) 0 b.length h.l) (Int.toNat (8 : Int)) b1.length r_.l).l (12 : Int)).bind fun aL => (aS (tT (tT (ae.rep 16 (0 : UInt64)) 0 b.length h.l) (Int.toNat (8 : Int)) b1.length r_.l).l (12 : Int)).bind fun j5 => (some (iy (tT (tT (ae.rep 16 (0 : UInt64)) 0 b.length h.l) (Int.toNat (8 : Int)) b1.length r_.l) (12 : Int) (aL ^^^ il))).bind fun v => (aS v.l (13 : Int)).bind fun eZ => (aS v.l (13 : Int)).bind fun jT => (some (iy v (13 : Int) (eZ ^^^ im))).bind fun v1 => if last = true then ((aS v1.l (14 : Int)).bind fun mw => (aS v1.l (14 : Int)).bind fun mC => (some (iy v1 (14 : Int) (18446744073709551615 ^^^ mw))).bind fun v3 => oX node v3) else (oX node v1)
noncomputable def oY (round : Int) : Option (ae Int 16) :=
  (aS (⟨[(⟨[(0 : Int), (1 : Int), (2 : Int), (3 : Int), (4 : Int), (5 : Int), (6 : Int), (7 : Int), (8 : Int), (9 : Int), (10 : Int), (11 : Int), (12 : Int), (13 : Int), (14 : Int), (15 : Int)], rfl⟩ : ae Int 16), (⟨[(14 : Int), (10 : Int), (4 : Int), (8 : Int), (9 : Int), (15 : Int), (13 : Int), (6 : Int), (1 : Int), (12 : Int), (0 : Int), (2 : Int), (11 : Int), (7 : Int), (5 : Int), (3 : Int)], rfl⟩ : ae Int 16), (⟨[(11 : Int), (8 : Int), (12 : Int), (0 : Int), (5 : Int), (2 : Int), (15 : Int), (13 : Int), (10 : Int), (14 : Int), (3 : Int), (6 : Int), (7 : Int), (1 : Int), (9 : Int), (4 : Int)], rfl⟩ : ae Int 16), (⟨[(7 : Int), (9 : Int), (3 : Int), (1 : Int), (13 : Int), (12 : Int), (11 : Int), (14 : Int), (2 : Int), (6 : Int), (5 : Int), (10 : Int), (4 : Int), (0 : Int), (15 : Int), (8 : Int)], rfl⟩ : ae Int 16), (⟨[(9 : Int), (0 : Int), (5 : Int), (7 : Int), (2 : Int), (4 : Int), (10 : Int), (15 : Int), (14 : Int), (1 : Int), (11 : Int), (12 : Int), (6 : Int), (8 : Int), (3 : Int), (13 : Int)], rfl⟩ : ae Int 16), (⟨[(2 : Int), (12 : Int), (6 : Int), (10 : Int), (0 : Int), (11 : Int), (8 : Int), (3 : Int), (4 : Int), (13 : Int), (7 : Int), (5 : Int), (15 : Int), (14 : Int), (1 : Int), (9 : Int)], rfl⟩ : ae Int 16), (⟨[(12 : Int), (5 : Int), (1 : Int), (15 : Int), (14 : Int), (13 : Int), (4 : Int), (10 : Int), (0 : Int), (7 : Int), (6 : Int), (3 : Int), (9 : Int), (2 : Int), (8 : Int), (11 : Int)], rfl⟩ : ae Int 16), (⟨[(13 : Int), (11 : Int), (7 : Int), (14 : Int), (12 : Int), (1 : Int), (3 : Int), (9 : Int), (5 : Int), (0 : Int), (15 : Int), (4 : Int), (8 : Int), (6 : Int), (2 : Int), (10 : Int)], rfl⟩ : ae Int 16), (⟨[(6 : Int), (15 : Int), (14 : Int), (9 : Int), (11 : Int), (3 : Int), (0 : Int), (8 : Int), (12 : Int), (2 : Int), (13 : Int), (7 : Int), (1 : Int), (4 : Int), (10 : Int), (5 : Int)], rfl⟩ : ae Int 16), (⟨[(10 : Int), (2 : Int), (8 : Int), (4 : Int), (7 : Int), (6 : Int), (1 : Int), (5 : Int), (15 : Int), (11 : Int), (9 : Int), (14 : Int), (3 : Int), (12 : Int), (13 : Int), (0 : Int)], rfl⟩ : ae Int 16)], rfl⟩ : ae (ae Int 16) 10).l (Int.tmod (aD ((Int.tmod round 10) + 10)) 10)).bind fun aL => some aL
noncomputable def pP  : Option (ae (ae Int 4) 8) :=
  some (⟨[(⟨[(0 : Int), (4 : Int), (8 : Int), (12 : Int)], rfl⟩ : ae Int 4), (⟨[(1 : Int), (5 : Int), (9 : Int), (13 : Int)], rfl⟩ : ae Int 4), (⟨[(2 : Int), (6 : Int), (10 : Int), (14 : Int)], rfl⟩ : ae Int 4), (⟨[(3 : Int), (7 : Int), (11 : Int), (15 : Int)], rfl⟩ : ae Int 4), (⟨[(0 : Int), (5 : Int), (10 : Int), (15 : Int)], rfl⟩ : ae Int 4), (⟨[(1 : Int), (6 : Int), (11 : Int), (12 : Int)], rfl⟩ : ae Int 4), (⟨[(2 : Int), (7 : Int), (8 : Int), (13 : Int)], rfl⟩ : ae Int 4), (⟨[(3 : Int), (4 : Int), (9 : Int), (14 : Int)], rfl⟩ : ae Int 4)], rfl⟩ : ae (ae Int 4) 8)
noncomputable def e7 (x_ : UInt64) (k_ : Int) : Option UInt64 :=
  some ((aC x_ (((UInt64.ofInt k_) &&& 63).toNat)) ||| (aK x_ (((64 : UInt64) - ((UInt64.ofInt k_) &&& 63)).toNat)))
noncomputable def pX (v : ae UInt64 16) (p : ae Int 4) (x_ : UInt64) (y_ : UInt64) : Option (ae UInt64 16) :=
  (aS p.l (0 : Int)).bind fun eZ => (aS p.l (1 : Int)).bind fun jT => (aS p.l (2 : Int)).bind fun mw => (aS p.l (3 : Int)).bind fun mC => (aS v.l eZ).bind fun nK => (aS v.l jT).bind fun mH => (aS v.l eZ).bind fun vv => (some (iy v eZ (nK + (mH + x_)))).bind fun v1 => (aS v1.l mC).bind fun ta => (aS v1.l eZ).bind fun nv => (e7 (ta ^^^ nv) (-32 : Int)).bind fun r_ => (aS v1.l mC).bind fun fx => (some (iy v1 mC r_)).bind fun v2 => (aS v2.l mw).bind fun wD => (aS v2.l mC).bind fun yT => (aS v2.l mw).bind fun As => (some (iy v2 mw (wD + yT))).bind fun v3 => (aS v3.l jT).bind fun vK => (aS v3.l mw).bind fun rW => (e7 (vK ^^^ rW) (-24 : Int)).bind fun ah => (aS v3.l jT).bind fun nw => (some (iy v3 jT ah)).bind fun v4 => (aS v4.l eZ).bind fun lW => (aS v4.l jT).bind fun ny => (aS v4.l eZ).bind fun tn => (some (iy v4 eZ (lW + (ny + y_)))).bind fun v5 => (aS v5.l mC).bind fun vL => (aS v5.l eZ).bind fun Au => (e7 (vL ^^^ Au) (-16 : Int)).bind fun aX => (aS v5.l mC).bind fun BP => (some (iy v5 mC aX)).bind fun v6 => (aS v6.l mw).bind fun tp => (aS v6.l mC).bind fun vM => (aS v6.l mw).bind fun FZ => (some (iy v6 mw (tp + vM))).bind fun v7 => (aS v7.l jT).bind fun D5 => (aS v7.l mw).bind fun Jv => (e7 (D5 ^^^ Jv) (-63 : Int)).bind fun eK => (aS v7.l jT).bind fun PR => (some (iy v7 jT eK)).bind fun v8 => some v8
noncomputable def oZ (m_ : ae UInt64 16) (r_ : (ae Int 16)) (ah : (ae (ae Int 4) 8)) : (ae UInt64 16 × Int) → Option ((ae UInt64 16 × Int) ⊕ (ae UInt64 16 × ae UInt64 16))
  | (v1, aL) => if aL < 8 then ((aS ah.l aL).bind fun eZ => (aS r_.l (aD (2 * aL))).bind fun jT => (aS m_.l jT).bind fun mw => (aS r_.l (aD ((aD (2 * aL)) + 1))).bind fun mC => (aS m_.l mC).bind fun nK => (pX v1 eZ mw nK).bind fun aX => some (.inl (aX, aD (aL + 1)))) else (Option.map Sum.inr (some (v1, m_)))
noncomputable def pY (v : ae UInt64 16) (m_ : ae UInt64 16) (round : Int) : Option (ae UInt64 16 × ae UInt64 16) :=
  (oY round).bind fun r_ => (pP).bind fun ah => cf (oZ m_ r_ ah) (v, (0 : Int))
noncomputable def pZ (v : ae UInt64 16) : (ae UInt64 8 × Int) → Option ((ae UInt64 8 × Int) ⊕ (ae UInt64 8))
  | (h1, j5) => if j5 < 8 then ((aS h1.l j5).bind fun eZ => (aS v.l j5).bind fun jT => (aS v.l (aD (j5 + 8))).bind fun mw => (aS h1.l j5).bind fun mC => (some (iy h1 j5 (eZ ^^^ (jT ^^^ mw)))).bind fun v1 => some (.inl (v1, aD (j5 + 1)))) else (Option.map Sum.inr (some h1))
noncomputable def p5 (h : ae UInt64 8) : (ae UInt64 16 × ae UInt64 16 × Int) → Option ((ae UInt64 16 × ae UInt64 16 × Int) ⊕ (ae UInt64 8))
  | (xt, v, aL) => if aL < 12 then ((pY v xt aL).bind fun ah => some (.inl (ah.2, ah.1, aD (aL + 1)))) else (Option.map Sum.inr (cf (pZ v) (h, (0 : Int))))
noncomputable def uC (h : ae UInt64 8) (m_ : ae UInt64 16) (il : UInt64) (im : UInt64) (last : Bool) (node : Bool) : Option (ae UInt64 8) :=
  (r6 h il im last node).bind fun r_ => cf (p5 h) (m_, r_, (0 : Int))
noncomputable def mu (h : ae UInt64 8) (b : List UInt8) (oR : UInt64) (pE : UInt64) (last : Bool) (node : Bool) : Option (ae UInt64 8) :=
  (oV b).bind fun r_ => (uC h r_.1 oR pE last node).bind fun ah => some ah
noncomputable def fE (aA : Int) (b1 : List UInt8) (vv : ae UInt64 8) (ta : UInt64) (nv : UInt64) (fx : List UInt8) : Option ((ae UInt64 8 × UInt64 × UInt64 × List UInt8 × List UInt8) ⊕ (ae UInt64 8 × UInt64 × UInt64 × List UInt8 × Int)) :=
  (x5 b1 0 (if aD (aA - ((fx.length : Nat) : Int)) < ((b1.length : Nat) : Int) then aD (aA - ((fx.length : Nat) : Int)) else ((b1.length : Nat) : Int))).bind fun b3 => (app fx b3 1).bind fun b4 => (x5 b1 (if aD (aA - ((fx.length : Nat) : Int)) < ((b1.length : Nat) : Int) then aD (aA - ((fx.length : Nat) : Int)) else ((b1.length : Nat) : Int)) ((b1.length : Nat) : Int)).bind fun b5 => some (.inl (vv, ta, nv, b4, b5))
noncomputable def iH (aA : Int) : (ae UInt64 8 × UInt64 × UInt64 × List UInt8 × List UInt8) → Option ((ae UInt64 8 × UInt64 × UInt64 × List UInt8 × List UInt8) ⊕ (ae UInt64 8 × UInt64 × UInt64 × List UInt8 × Int))
  | (aL, mC, nK, mH, b1) => if 0 < ((b1.length : Nat) : Int) then (if ((mH.length : Nat) : Int) = aA then ((l_ mC nK (UInt64.ofInt aA)).bind fun r_ => (mu aL mH r_.1 r_.2.1 false false).bind fun ah => (x5 mH 0 (0 : Int)).bind fun b2 => fE aA b1 ah r_.1 r_.2.1 b2) else (fE aA b1 aL mC nK mH)) else (Option.map Sum.inr (some (aL, mC, nK, mH, aA)))
noncomputable def gn (ra : ae UInt64 8) (bG : UInt64) (bH : UInt64) (cA : List UInt8) (aA : Int) (b : List UInt8) : Option (ae UInt64 8 × UInt64 × UInt64 × List UInt8 × Int) :=
  cf (iH aA) (ra, bG, bH, cA, b)
noncomputable def tq (b : List UInt8) : Option (ae UInt32 16 × Int) :=
  (q8 b (64 : Int)).bind fun r_ => if r_ ≠ 0 then (some ((ae.rep 16 (0 : UInt32)), r_)) else ((q9 ((ae.rep 16 (0 : UInt32)).l) b).bind fun ah => some ((ae.of 16 ah), (0 : Int)))
noncomputable def oe (v4 : ae UInt32 16) : Option (ae UInt32 16) :=
  some v4
noncomputable def og (node : Bool) (v2 : ae UInt32 16) : Option (ae UInt32 16) :=
  if node = true then ((aS v2.l (15 : Int)).bind fun nK => (aS v2.l (15 : Int)).bind fun mH => (some (iy v2 (15 : Int) (4294967295 ^^^ nK))).bind fun v5 => oe v5) else (oe v2)
noncomputable def tr (h : ae UInt32 8) (count : UInt64) (last : Bool) (node : Bool) : Option (ae UInt32 16) :=
  (vt).bind fun r_ => (x5 ((ae.rep 16 (0 : UInt32)).l) 0 (8 : Int)).bind fun b => (x5 ((tT (ae.rep 16 (0 : UInt32)) 0 b.length h.l).l) (8 : Int) ((16 : Nat) : Int)).bind fun b1 => (aS (tT (tT (ae.rep 16 (0 : UInt32)) 0 b.length h.l) (Int.toNat (8 : Int)) b1.length r_.l).l (12 : Int)).bind fun aL => (aS (tT (tT (ae.rep 16 (0 : UInt32)) 0 b.length h.l) (Int.toNat (8 : Int)) b1.length r_.l).l (12 : Int)).bind fun j5 => (some (iy (tT (tT (ae.rep 16 (0 : UInt32)) 0 b.length h.l) (Int.toNat (8 : Int)) b1.length r_.l) (12 : Int) (aL ^^^ (UInt32.ofNat count.toNat)))).bind fun v => (aS v.l (13 : Int)).bind fun eZ => (aS v.l (13 : Int)).bind fun jT => (some (iy v (13 : Int) (eZ ^^^ (UInt32.ofNat (aK count ((32 : UInt64).toNat)).toNat)))).bind fun v1 => if last = true then ((aS v1.l (14 : Int)).bind fun mw => (aS v1.l (14 : Int)).bind fun mC => (some (iy v1 (14 : Int) (4294967295 ^^^ mw))).bind fun v3 => og node v3) else (og node v1)
noncomputable def so  : Option (ae (ae Int 4) 8) :=
  some (⟨[(⟨[(0 : Int), (4 : Int), (8 : Int), (12 : Int)], rfl⟩ : ae Int 4), (⟨[(1 : Int), (5 : Int), (9 : Int), (13 : Int)], rfl⟩ : ae Int 4), (⟨[(2 : Int), (6 : Int), (10 : Int), (14 : Int)], rfl⟩ : ae Int 4), (⟨[(3 : Int), (7 : Int), (11 : Int), (15 : Int)], rfl⟩ : ae Int 4), (⟨[(0 : Int), (5 : Int), (10 : Int), (15 : Int)], rfl⟩ : ae Int 4), (⟨[(1 : Int), (6 : Int), (11 : Int), (12 : Int)], rfl⟩ : ae Int 4), (⟨[(2 : Int), (7 : Int), (8 : Int), (13 : Int)], rfl⟩ : ae Int 4), (⟨[(3 : Int), (4 : Int), (9 : Int), (14 : Int)], rfl⟩ : ae Int 4)], rfl⟩ : ae (ae Int 4) 8)
noncomputable def jh (x_ : UInt32) (k_ : Int) : Option UInt32 :=
  some ((tS x_ (((UInt64.ofInt k_) &&& 31).toNat)) ||| (l3 x_ (((32 : UInt64) - ((UInt64.ofInt k_) &&& 31)).toNat)))
noncomputable def wE (v : ae UInt32 16) (a_ : Int) (b : Int) (c : Int) (d : Int) (x_ : UInt32) (y_ : UInt32) : Option (ae UInt32 16) :=
  (aS v.l a_).bind fun eZ => (aS v.l b).bind fun jT => (aS v.l a_).bind fun mw => (some (iy v a_ (eZ + (jT + x_)))).bind fun v1 => (aS v1.l d).bind fun mC => (aS v1.l a_).bind fun nK => (jh (mC ^^^ nK) (-16 : Int)).bind fun r_ => (aS v1.l d).bind fun mH => (some (iy v1 d r_)).bind fun v2 => (aS v2.l c).bind fun vv => (aS v2.l d).bind fun ta => (aS v2.l c).bind fun nv => (some (iy v2 c (vv + ta))).bind fun v3 => (aS v3.l b).bind fun fx => (aS v3.l c).bind fun wD => (jh (fx ^^^ wD) (-12 : Int)).bind fun ah => (aS v3.l b).bind fun yT => (some (iy v3 b ah)).bind fun v4 => (aS v4.l a_).bind fun As => (aS v4.l b).bind fun vK => (aS v4.l a_).bind fun rW => (some (iy v4 a_ (As + (vK + y_)))).bind fun v5 => (aS v5.l d).bind fun nw => (aS v5.l a_).bind fun lW => (jh (nw ^^^ lW) (-8 : Int)).bind fun aX => (aS v5.l d).bind fun ny => (some (iy v5 d aX)).bind fun v6 => (aS v6.l c).bind fun tn => (aS v6.l d).bind fun vL => (aS v6.l c).bind fun Au => (some (iy v6 c (tn + vL))).bind fun v7 => (aS v7.l b).bind fun BP => (aS v7.l c).bind fun tp => (jh (BP ^^^ tp) (-7 : Int)).bind fun eK => (aS v7.l b).bind fun vM => (some (iy v7 b eK)).bind fun v8 => some v8
noncomputable def qA (m_ : ae UInt32 16) (ah : (ae Int 16)) (aX : (ae (ae Int 4) 8)) : (ae UInt32 16 × Int) → Option ((ae UInt32 16 × Int) ⊕ (ae UInt32 16 × ae UInt32 16))
  | (v1, aL) => if aL < 8 then ((aS aX.l aL).bind fun eZ => (aS eZ.l (0 : Int)).bind fun jT => (aS eZ.l (1 : Int)).bind fun mw => (aS eZ.l (2 : Int)).bind fun mC => (aS eZ.l (3 : Int)).bind fun nK => (aS ah.l (aD (2 * aL))).bind fun mH => (aS m_.l mH).bind fun vv => (aS ah.l (aD ((aD (2 * aL)) + 1))).bind fun ta => (aS m_.l ta).bind fun nv => (wE v1 jT mw mC nK vv nv).bind fun eK => some (.inl (eK, aD (aL + 1)))) else (Option.map Sum.inr (some (v1, m_)))
noncomputable def ts (v : ae UInt32 16) (m_ : ae UInt32 16) (r_ : Int) : Option (ae UInt32 16 × ae UInt32 16) :=
  (oY r_).bind fun ah => (so).bind fun aX => cf (qA m_ ah aX) (v, (0 : Int))
noncomputable def sq (v : ae UInt32 16) : (ae UInt32 8 × Int) → Option ((ae UInt32 8 × Int) ⊕ (ae UInt32 8))
  | (h1, aL) => if aL < 8 then ((aS h1.l aL).bind fun j5 => (aS v.l aL).bind fun eZ => (aS v.l (aD (aL + 8))).bind fun jT => (aS h1.l aL).bind fun mw => (some (iy h1 aL (j5 ^^^ (eZ ^^^ jT)))).bind fun v1 => some (.inl (v1, aD (aL + 1)))) else (Option.map Sum.inr (some h1))
noncomputable def wG (h : ae UInt32 8) (v : ae UInt32 16) : Option (ae UInt32 8) :=
  cf (sq v) (h, (0 : Int))
noncomputable def uD (h : ae UInt32 8) : (ae UInt32 16 × ae UInt32 16 × Int) → Option ((ae UInt32 16 × ae UInt32 16 × Int) ⊕ (ae UInt32 8))
  | (xt, v, aL) => if aL < 10 then ((ts v xt aL).bind fun ah => some (.inl (ah.2, ah.1, aD (aL + 1)))) else (Option.map Sum.inr ((wG h v).bind fun aX => some aX))
noncomputable def zF (h : ae UInt32 8) (m_ : ae UInt32 16) (count : UInt64) (last : Bool) (node : Bool) : Option (ae UInt32 8) :=
  (tr h count last node).bind fun r_ => cf (uD h) (m_, r_, (0 : Int))
noncomputable def oh (h : ae UInt32 8) (b : List UInt8) (oR : UInt64) (pE : UInt64) (last : Bool) (node : Bool) : Option (ae UInt32 8) :=
  (tq b).bind fun r_ => (zF h r_.1 oR last node).bind fun ah => some ah
noncomputable def iI (aA : Int) (b1 : List UInt8) (vv : ae UInt32 8) (ta : UInt64) (nv : UInt64) (fx : List UInt8) : Option ((ae UInt32 8 × UInt64 × UInt64 × List UInt8 × List UInt8) ⊕ (ae UInt32 8 × UInt64 × UInt64 × List UInt8 × Int)) :=
  (x5 b1 0 (if aD (aA - ((fx.length : Nat) : Int)) < ((b1.length : Nat) : Int) then aD (aA - ((fx.length : Nat) : Int)) else ((b1.length : Nat) : Int))).bind fun b3 => (app fx b3 1).bind fun b4 => (x5 b1 (if aD (aA - ((fx.length : Nat) : Int)) < ((b1.length : Nat) : Int) then aD (aA - ((fx.length : Nat) : Int)) else ((b1.length : Nat) : Int)) ((b1.length : Nat) : Int)).bind fun b5 => some (.inl (vv, ta, nv, b4, b5))
noncomputable def j_ (aA : Int) : (ae UInt32 8 × UInt64 × UInt64 × List UInt8 × List UInt8) → Option ((ae UInt32 8 × UInt64 × UInt64 × List UInt8 × List UInt8) ⊕ (ae UInt32 8 × UInt64 × UInt64 × List UInt8 × Int))
  | (aL, mC, nK, mH, b1) => if 0 < ((b1.length : Nat) : Int) then (if ((mH.length : Nat) : Int) = aA then ((l_ mC nK (UInt64.ofInt aA)).bind fun r_ => (oh aL mH r_.1 r_.2.1 false false).bind fun ah => (x5 mH 0 (0 : Int)).bind fun b2 => iI aA b1 ah r_.1 r_.2.1 b2) else (iI aA b1 aL mC nK mH)) else (Option.map Sum.inr (some (aL, mC, nK, mH, aA)))
noncomputable def jA (ra : ae UInt32 8) (bG : UInt64) (bH : UInt64) (cA : List UInt8) (aA : Int) (b : List UInt8) : Option (ae UInt32 8 × UInt64 × UInt64 × List UInt8 × Int) :=
  cf (j_ aA) (ra, bG, bH, cA, b)
noncomputable def lp (fJ : Int) (eD : Int) (cw : List UInt8) (dK : List UInt8) (jl : Bool) (ep : UInt64) : Option ((Int × Int × List UInt8 × List UInt8 × ae UInt64 8 × UInt64 × UInt64 × List UInt8 × Int) ⊕ (Int × Int × List UInt8 × List UInt8 × ae UInt32 8 × UInt64 × UInt64 × List UInt8 × Int)) :=
  (q_ fJ cw).bind fun r_ => (Sum.elim (fun ah => if 0 < ((dK.length : Nat) : Int) then ((iO fJ).bind fun eK => (kt dK eK).bind fun gl => (gn ah.1 (0 : UInt64) (0 : UInt64) ah.2 (128 : Int) gl).bind fun mA => some (Sum.inl (fJ, eD, cw, dK, mA.1, mA.2.1, mA.2.2.1, mA.2.2.2.1, mA.2.2.2.2))) else (some (Sum.inl (fJ, eD, cw, dK, ah.1, (0 : UInt64), (0 : UInt64), ah.2, (128 : Int))))) (fun aX => if 0 < ((dK.length : Nat) : Int) then ((iO fJ).bind fun nr => (kt dK nr).bind fun nV => (jA aX.1 (0 : UInt64) (0 : UInt64) aX.2 (64 : Int) nV).bind fun ue => some (Sum.inr (fJ, eD, cw, dK, ue.1, ue.2.1, ue.2.2.1, ue.2.2.2.1, ue.2.2.2.2))) else (some (Sum.inr (fJ, eD, cw, dK, aX.1, (0 : UInt64), (0 : UInt64), aX.2, (64 : Int)))))) r_
noncomputable def p6 (k_ : Int) (block : List UInt8) (tt : Int) (key : List UInt8) : Option ((Int × Int × List UInt8 × List UInt8 × ae UInt64 8 × UInt64 × UInt64 × List UInt8 × Int) ⊕ (Int × Int × List UInt8 × List UInt8 × ae UInt32 8 × UInt64 × UInt64 × List UInt8 × Int)) :=
  (app ([] : List UInt8) block 1).bind fun b => (app ([] : List UInt8) key 1).bind fun b1 => (lp k_ tt b b1 false (0 : UInt64)).bind fun r_ => (Sum.elim (fun ah => some (Sum.inl (ah.1, ah.2.1, ah.2.2.1, ah.2.2.2.1, ah.2.2.2.2.1, ah.2.2.2.2.2.1, ah.2.2.2.2.2.2.1, ah.2.2.2.2.2.2.2.1, ah.2.2.2.2.2.2.2.2))) (fun aX => some (Sum.inr (aX.1, aX.2.1, aX.2.2.1, aX.2.2.2.1, aX.2.2.2.2.1, aX.2.2.2.2.2.1, aX.2.2.2.2.2.2.1, aX.2.2.2.2.2.2.2.1, aX.2.2.2.2.2.2.2.2)))) r_
noncomputable def mQ (k_ : Int) (bb : Int) (dy : Int) (bm : Int) (bM : Int) (cY : UInt32) (aV : UInt64) (ca : UInt32) (az : Int) (bE : Int) (bW : List UInt8) (ay : List UInt8) (key : List UInt8) : Option (Int ⊕ (Int × Int × List UInt8 × List UInt8 × ae UInt64 8 × UInt64 × UInt64 × List UInt8 × Int) ⊕ (Int × Int × List UInt8 × List UInt8 × ae UInt32 8 × UInt64 × UInt64 × List UInt8 × Int)) :=
  (kG k_ bb dy bm bM cY aV ca az bE bW ay).bind fun r_ => if r_.2 ≠ 0 then (some (Sum.inl r_.2)) else (if ((decide (((key.length : Nat) : Int) ≠ 0)) && (decide (((key.length : Nat) : Int) ≠ dy))) = true then (some (Sum.inl (8 : Int))) else ((p6 k_ r_.1 bb key).bind fun ah => (Sum.elim (fun aX => some (Sum.inr (Sum.inl (aX.1, aX.2.1, aX.2.2.1, aX.2.2.2.1, aX.2.2.2.2.1, aX.2.2.2.2.2.1, aX.2.2.2.2.2.2.1, aX.2.2.2.2.2.2.2.1, aX.2.2.2.2.2.2.2.2)))) (fun eK => some (Sum.inr (Sum.inr (eK.1, eK.2.1, eK.2.2.1, eK.2.2.2.1, eK.2.2.2.2.1, eK.2.2.2.2.2.1, eK.2.2.2.2.2.2.1, eK.2.2.2.2.2.2.2.1, eK.2.2.2.2.2.2.2.2))))) ah))
noncomputable def js (fJ : Int) (eD : Int) (cw : List UInt8) (dK : List UInt8) (jl : Bool) (ep : UInt64) (mD : ae UInt64 8) (dk : UInt64) (dm : UInt64) (fV : List UInt8) (fF : Int) : Option (ae UInt64 8 × UInt64 × UInt64 × List UInt8 × Int × Int × Int × List UInt8 × List UInt8 × Bool × UInt64) :=
  some (mD, dk, dm, fV, fF, fJ, eD, cw, dK, jl, ep)
noncomputable def mE (w_ : UInt64) : (List UInt8 × Int) → Option ((List UInt8 × Int) ⊕ (List UInt8))
  | (b, aL) => if aL < 8 then ((pr (0 ≤ aD (8 * aL))).bind fun u => (aS b aL).bind fun j5 => some (.inl (b.set (Int.toNat aL) (UInt8.ofNat (aK w_ (Int.toNat (aD (8 * aL)))).toNat), aD (aL + 1)))) else (Option.map Sum.inr (some b))
noncomputable def mR (w_ : UInt64) : Option (List UInt8) :=
  cf (mE w_) (List.replicate (Int.toNat (8 : Int)) (0 : UInt8), (0 : Int))
noncomputable def oo (h : ae UInt64 8) : (List UInt8 × Int) → Option ((List UInt8 × Int) ⊕ (List UInt8))
  | (b, aL) => if aL < 8 then ((aS h.l aL).bind fun j5 => (mR j5).bind fun r_ => (app b r_ 1).bind fun b1 => some (.inl (b1, aD (aL + 1)))) else (Option.map Sum.inr (some b))
noncomputable def o0 (h : ae UInt64 8) : Option (List UInt8) :=
  cf (oo h) (List.replicate (Int.toNat (0 : Int)) (0 : UInt8), (0 : Int))
noncomputable def jm (ra : ae UInt64 8) (bG : UInt64) (bH : UInt64) (cA : List UInt8) (aA : Int) (node : Bool) (c0 : UInt64) (c2 : UInt64) : Option (List UInt8 × ae UInt64 8 × UInt64 × UInt64 × List UInt8 × Int) :=
  (kt cA aA).bind fun ah => (mu ra ah c0 c2 true node).bind fun aX => (o0 aX).bind fun eK => some (eK, ra, bG, bH, cA, aA)
noncomputable def iP (ra : ae UInt64 8) (bG : UInt64) (bH : UInt64) (cA : List UInt8) (aA : Int) (node : Bool) : Option (List UInt8 × ae UInt64 8 × UInt64 × UInt64 × List UInt8 × Int) :=
  (l_ bG bH (UInt64.ofInt ((cA.length : Nat) : Int))).bind fun r_ => jm ra bG bH cA aA node r_.1 r_.2.1
noncomputable def eJ (fJ : Int) (eD : Int) (cw : List UInt8) (dK : List UInt8) (jl : Bool) (ep : UInt64) (mD : ae UInt64 8) (dk : UInt64) (dm : UInt64) (fV : List UInt8) (fF : Int) (hD : Int) : Option (List UInt8 × Int × ae UInt64 8 × UInt64 × UInt64 × List UInt8 × Int × Int × Int × List UInt8 × List UInt8 × Bool × UInt64) :=
  (js fJ eD cw dK jl ep mD dk dm fV fF).bind fun r_ => if hD < 1 then (some (([] : List UInt8), (1 : Int), r_.1, r_.2.1, r_.2.2.1, r_.2.2.2.1, r_.2.2.2.2.1, r_.2.2.2.2.2.1, r_.2.2.2.2.2.2.1, r_.2.2.2.2.2.2.2.1, r_.2.2.2.2.2.2.2.2.1, r_.2.2.2.2.2.2.2.2.2.1, r_.2.2.2.2.2.2.2.2.2.2)) else ((iO r_.2.2.2.2.2.1).bind fun ah => if (aD (Int.tdiv ah 2)) < hD then (some (([] : List UInt8), (1 : Int), r_.1, r_.2.1, r_.2.2.1, r_.2.2.2.1, r_.2.2.2.2.1, r_.2.2.2.2.2.1, r_.2.2.2.2.2.2.1, r_.2.2.2.2.2.2.2.1, r_.2.2.2.2.2.2.2.2.1, r_.2.2.2.2.2.2.2.2.2.1, r_.2.2.2.2.2.2.2.2.2.2)) else ((iP r_.1 r_.2.1 r_.2.2.1 r_.2.2.2.1 r_.2.2.2.2.1 r_.2.2.2.2.2.2.2.2.2.1).bind fun aX => (x5 aX.1 0 hD).bind fun b => (pr (hD ≤ hD ∧ hD ≤ ((aX.1.length : Nat) : Int))).bind fun u => some (b, (0 : Int), aX.2.1, aX.2.2.1, aX.2.2.2.1, aX.2.2.2.2.1, aX.2.2.2.2.2, r_.2.2.2.2.2.1, r_.2.2.2.2.2.2.1, r_.2.2.2.2.2.2.2.1, r_.2.2.2.2.2.2.2.2.1, r_.2.2.2.2.2.2.2.2.2.1, r_.2.2.2.2.2.2.2.2.2.2)))
noncomputable def nN (fJ : Int) (eD : Int) (cw : List UInt8) (dK : List UInt8) (jl : Bool) (ep : UInt64) (mD : ae UInt32 8) (dk : UInt64) (dm : UInt64) (fV : List UInt8) (fF : Int) : Option (ae UInt32 8 × UInt64 × UInt64 × List UInt8 × Int × Int × Int × List UInt8 × List UInt8 × Bool × UInt64) :=
  some (mD, dk, dm, fV, fF, fJ, eD, cw, dK, jl, ep)
noncomputable def qD (h : ae UInt32 8) : (List UInt8 × Int) → Option ((List UInt8 × Int) ⊕ (List UInt8))
  | (b, aL) => if aL < 8 then ((aS h.l aL).bind fun j5 => (app b ([UInt8.ofNat j5.toNat, UInt8.ofNat (l3 j5 ((8 : UInt64).toNat)).toNat, UInt8.ofNat (l3 j5 ((16 : UInt64).toNat)).toNat, UInt8.ofNat (l3 j5 ((24 : UInt64).toNat)).toNat] : List UInt8) 1).bind fun b1 => some (.inl (b1, aD (aL + 1)))) else (Option.map Sum.inr (some b))
noncomputable def tu (h : ae UInt32 8) : Option (List UInt8) :=
  cf (qD h) (List.replicate (Int.toNat (0 : Int)) (0 : UInt8), (0 : Int))
noncomputable def kZ (ra : ae UInt32 8) (bG : UInt64) (bH : UInt64) (cA : List UInt8) (aA : Int) (node : Bool) (c0 : UInt64) (c2 : UInt64) : Option (List UInt8 × ae UInt32 8 × UInt64 × UInt64 × List UInt8 × Int) :=
  (kt cA aA).bind fun ah => (oh ra ah c0 c2 true node).bind fun aX => (tu aX).bind fun eK => some (eK, ra, bG, bH, cA, aA)
noncomputable def ma (ra : ae UInt32 8) (bG : UInt64) (bH : UInt64) (cA : List UInt8) (aA : Int) (node : Bool) : Option (List UInt8 × ae UInt32 8 × UInt64 × UInt64 × List UInt8 × Int) :=
  (l_ bG bH (UInt64.ofInt ((cA.length : Nat) : Int))).bind fun r_ => kZ ra bG bH cA aA node r_.1 r_.2.1
noncomputable def oD (fJ : Int) (eD : Int) (cw : List UInt8) (dK : List UInt8) (jl : Bool) (ep : UInt64) (mD : ae UInt32 8) (dk : UInt64) (dm : UInt64) (fV : List UInt8) (fF : Int) (hD : Int) : Option (List UInt8 × Int × ae UInt32 8 × UInt64 × UInt64 × List UInt8 × Int × Int × Int × List UInt8 × List UInt8 × Bool × UInt64) :=
  (nN fJ eD cw dK jl ep mD dk dm fV fF).bind fun r_ => if hD < 1 then (some (([] : List UInt8), (1 : Int), r_.1, r_.2.1, r_.2.2.1, r_.2.2.2.1, r_.2.2.2.2.1, r_.2.2.2.2.2.1, r_.2.2.2.2.2.2.1, r_.2.2.2.2.2.2.2.1, r_.2.2.2.2.2.2.2.2.1, r_.2.2.2.2.2.2.2.2.2.1, r_.2.2.2.2.2.2.2.2.2.2)) else ((iO r_.2.2.2.2.2.1).bind fun ah => if (aD (Int.tdiv ah 2)) < hD then (some (([] : List UInt8), (1 : Int), r_.1, r_.2.1, r_.2.2.1, r_.2.2.2.1, r_.2.2.2.2.1, r_.2.2.2.2.2.1, r_.2.2.2.2.2.2.1, r_.2.2.2.2.2.2.2.1, r_.2.2.2.2.2.2.2.2.1, r_.2.2.2.2.2.2.2.2.2.1, r_.2.2.2.2.2.2.2.2.2.2)) else ((ma r_.1 r_.2.1 r_.2.2.1 r_.2.2.2.1 r_.2.2.2.2.1 r_.2.2.2.2.2.2.2.2.2.1).bind fun aX => (x5 aX.1 0 hD).bind fun b => (pr (hD ≤ hD ∧ hD ≤ ((aX.1.length : Nat) : Int))).bind fun u => some (b, (0 : Int), aX.2.1, aX.2.2.1, aX.2.2.2.1, aX.2.2.2.2.1, aX.2.2.2.2.2, r_.2.2.2.2.2.1, r_.2.2.2.2.2.2.1, r_.2.2.2.2.2.2.2.1, r_.2.2.2.2.2.2.2.2.1, r_.2.2.2.2.2.2.2.2.2.1, r_.2.2.2.2.2.2.2.2.2.2)))
noncomputable def oJ (k_ : Int) (bb : Int) (dy : Int) (bm : Int) (bM : Int) (cY : UInt32) (aV : UInt64) (ca : UInt32) (az : Int) (bE : Int) (bW : List UInt8) (ay : List UInt8) (key : List UInt8) (last : Bool) (out : Int) (data : List UInt8) : Option (List UInt8 × Int) :=
  (mQ k_ bb dy bm bM cY aV ca az bE bW ay key).bind fun r_ => (Sum.elim (fun ah => if ah ≠ 0 then (some (([] : List UInt8), ah)) else none) (Sum.elim (fun aX => if 0 ≠ 0 then (some (([] : List UInt8), (0 : Int))) else ((gn aX.2.2.2.2.1 aX.2.2.2.2.2.1 aX.2.2.2.2.2.2.1 aX.2.2.2.2.2.2.2.1 aX.2.2.2.2.2.2.2.2 data).bind fun gl => (eJ aX.1 aX.2.1 aX.2.2.1 aX.2.2.2.1 last (0 : UInt64) gl.1 gl.2.1 gl.2.2.1 gl.2.2.2.1 gl.2.2.2.2 out).bind fun mA => some (mA.1, mA.2.1))) (fun eK => if 0 ≠ 0 then (some (([] : List UInt8), (0 : Int))) else ((jA eK.2.2.2.2.1 eK.2.2.2.2.2.1 eK.2.2.2.2.2.2.1 eK.2.2.2.2.2.2.2.1 eK.2.2.2.2.2.2.2.2 data).bind fun nr => (oD eK.1 eK.2.1 eK.2.2.1 eK.2.2.2.1 last (0 : UInt64) nr.1 nr.2.1 nr.2.2.1 nr.2.2.2.1 nr.2.2.2.2 out).bind fun nV => some (nV.1, nV.2.1))))) r_
noncomputable def lI (kind : Int) : Option Int :=
  if kind = 1 then (some (64 : Int)) else (if kind = 2 then (some (32 : Int)) else (some (0 : Int)))
noncomputable def ic (kind : Int) (bb : Int) (dy : Int) (bm : Int) (bM : Int) (cY : UInt32) (aV : UInt64) (ca : UInt32) (az : Int) (bE : Int) (bW : List UInt8) (ay : List UInt8) : Option Int :=
  (lI kind).bind fun r_ => if r_ = 0 then (some (1 : Int)) else (if ((decide (bb < 1)) || (decide (r_ < bb))) = true then (some (20 : Int)) else (if ((decide (dy < 0)) || (decide (r_ < dy))) = true then (some (8 : Int)) else (if ((decide (bm < 0)) || (decide (255 < bm))) = true then (some (21 : Int)) else (if (((decide (bM < 0)) || (decide (255 < bM))) || ((decide (bM = 0)) && (decide (ca = 0)))) = true then (some (22 : Int)) else (if (((decide (ca ≠ 0)) && (decide ((4294967295 : UInt64) < aV))) || (((decide (ca = 0)) && (decide (kind = 2))) && (decide ((281474976710655 : UInt64) < aV)))) = true then (some (23 : Int)) else (if ((decide (kind = 2)) && (decide ((65535 : UInt32) < ca))) = true then (some (24 : Int)) else (if ((decide (az < 0)) || (decide (255 < az))) = true then (some (25 : Int)) else (if ((decide (bE < 0)) || (decide (r_ < bE))) = true then (some (26 : Int)) else (if (aD (Int.tdiv r_ 4)) < ((bW.length : Nat) : Int) then (some (27 : Int)) else (if (aD (Int.tdiv r_ 4)) < ((ay.length : Nat) : Int) then (some (28 : Int)) else (some (0 : Int))))))))))))
noncomputable def wH (kind : Int) : Option Int :=
  if kind = 1 then (some (64 : Int)) else (some (32 : Int))
noncomputable def D6 (kind : Int) : Option Int :=
  (lI kind).bind fun r_ => some r_
noncomputable def yJ (kind : Int) (field : Int) : Option (Int × Int) :=
  if ((decide (1 ≤ field)) && (decide (field ≤ 4))) = true then (some (aD (field - 1), (1 : Int))) else (if field = 5 then (some ((4 : Int), (4 : Int))) else (if ((decide (field = 6)) && (decide (kind = 1))) = true then (some ((8 : Int), (8 : Int))) else (if field = 6 then (some ((8 : Int), (6 : Int))) else (if ((decide (field = 7)) && (decide (kind = 1))) = true then (some ((12 : Int), (4 : Int))) else (if field = 7 then (some ((12 : Int), (2 : Int))) else (if ((decide (field = 8)) && (decide (kind = 1))) = true then (some ((16 : Int), (1 : Int))) else (if field = 8 then (some ((14 : Int), (1 : Int))) else (if ((decide (field = 9)) && (decide (kind = 1))) = true then (some ((17 : Int), (1 : Int))) else (if field = 9 then (some ((15 : Int), (1 : Int))) else (some ((0 : Int), (0 : Int))))))))))))
noncomputable def tv (at_ : Int) (n : Int) (v : UInt64) : (List UInt8 × Int) → Option ((List UInt8 × Int) ⊕ (List UInt8))
  | (b1, i) => if i < n then ((aS b1 (aD (at_ + i))).bind fun aL => some (.inl (b1.set (Int.toNat (aD (at_ + i))) (UInt8.ofNat (aK v (((8 : UInt64) * (UInt64.ofInt i)).toNat)).toNat), aD (i + 1)))) else (Option.map Sum.inr (some b1))
noncomputable def yb (b : List UInt8) (at_ : Int) (n : Int) (v : UInt64) : Option (List UInt8) :=
  cf (tv at_ n v) (b, (0 : Int))
noncomputable def tV (f : Int) (b1 : List UInt8) : Option ((List UInt8 × Int) ⊕ (List UInt8 × Int)) :=
  some (.inl (b1, aD (f + 1)))
noncomputable def qE (f : Int) (b2 : List UInt8) : Option ((List UInt8 × Int) ⊕ (List UInt8 × Int)) :=
  tV f b2
noncomputable def oq (ay : List UInt8) (gl : Int) : (List UInt8 × Int) → Option ((List UInt8 × Int) ⊕ (List UInt8 × Int))
  | (b4, i1) => if i1 < ((ay.length : Nat) : Int) then ((aS ay i1).bind fun mw => (aS b4 (aD ((aD (3 * (aD (Int.tdiv gl 4)))) + i1))).bind fun mC => some (.inl (b4.set (Int.toNat (aD ((aD (3 * (aD (Int.tdiv gl 4)))) + i1))) mw, aD (i1 + 1)))) else (Option.map Sum.inr (some (b4, (0 : Int))))
noncomputable def ot (bW : List UInt8) (ay : List UInt8) (gl : Int) : (List UInt8 × Int) → Option ((List UInt8 × Int) ⊕ (List UInt8 × Int))
  | (b3, i) => if i < ((bW.length : Nat) : Int) then ((aS bW i).bind fun eZ => (aS b3 (aD ((aD (2 * (aD (Int.tdiv gl 4)))) + i))).bind fun jT => some (.inl (b3.set (Int.toNat (aD ((aD (2 * (aD (Int.tdiv gl 4)))) + i))) eZ, aD (i + 1)))) else (Option.map Sum.inr (cf (oq ay gl) (b3, (0 : Int))))
noncomputable def ou (kind : Int) (bb : Int) (dy : Int) (bm : Int) (bM : Int) (cY : UInt32) (aV : UInt64) (ca : UInt32) (az : Int) (bE : Int) (bW : List UInt8) (ay : List UInt8) : (List UInt8 × Int) → Option ((List UInt8 × Int) ⊕ (List UInt8 × Int))
  | (b, f) => if f ≤ 9 then (if ((decide (f = 7)) && (decide (ca = 0))) = true then (qE f b) else ((yJ kind f).bind fun aX => (aS ([UInt64.ofInt bb, UInt64.ofInt dy, UInt64.ofInt bm, UInt64.ofInt bM, UInt64.ofNat cY.toNat, aV, UInt64.ofNat ca.toNat, UInt64.ofInt az, UInt64.ofInt bE] : List UInt64) (aD (f - 1))).bind fun aL => (yb b aX.1 aX.2 aL).bind fun eK => qE f eK)) else (Option.map Sum.inr ((lI kind).bind fun gl => cf (ot bW ay gl) (b, (0 : Int))))
noncomputable def mb (kind : Int) (bb : Int) (dy : Int) (bm : Int) (bM : Int) (cY : UInt32) (aV : UInt64) (ca : UInt32) (az : Int) (bE : Int) (bW : List UInt8) (ay : List UInt8) : Option (List UInt8 × Int) :=
  (ic kind bb dy bm bM cY aV ca az bE bW ay).bind fun r_ => if r_ ≠ 0 then (some (([] : List UInt8), r_)) else ((D6 kind).bind fun ah => (pr ((0 : Int) ≤ ah ∧ (ah : Int) ≤ ah ∧ Int.toNat ah * 1 ≤ 140737488355328)).bind fun u => cf (ou kind bb dy bm bM cY aV ca az bE bW ay) (List.replicate (Int.toNat ah) (0 : UInt8), (1 : Int)))
noncomputable def wc (b : List UInt8) (at_ : Int) : (UInt64 × Int) → Option ((UInt64 × Int) ⊕ (UInt64 × Int))
  | (w_, i) => if 0 ≤ i then ((aS b (aD (at_ + i))).bind fun aL => some (.inl ((w_ * 256) + (UInt64.ofNat aL.toNat), aD (i - 1)))) else (Option.map Sum.inr (some (w_, (0 : Int))))
noncomputable def ry (b : List UInt8) (at_ : Int) (n : Int) : Option (UInt64 × Int) :=
  if at_ < 0 then (some ((0 : UInt64), (1 : Int))) else (if ((decide (((b.length : Nat) : Int) < at_)) || (decide ((aD (((b.length : Nat) : Int) - at_)) < n))) = true then (some ((0 : UInt64), (3 : Int))) else (cf (wc b at_) ((0 : UInt64), aD (n - 1))))
noncomputable def zG (i : Int) : Option UInt64 :=
  (aS (⟨[(7640891576956012808 : UInt64), (13503953896175478587 : UInt64), (4354685564936845355 : UInt64), (11912009170470909681 : UInt64), (5840696475078001361 : UInt64), (11170449401992604703 : UInt64), (2270897969802886507 : UInt64), (6620516959819538809 : UInt64)], rfl⟩ : ae UInt64 8).l (Int.tmod i 8)).bind fun aL => some aL
noncomputable def rz (block : List UInt8) : (ae UInt64 8 × Int) → Option ((ae UInt64 8 × Int) ⊕ (ae UInt64 8 × Int))
  | (h, i) => if i < 8 then ((ry block (aD (8 * i)) (8 : Int)).bind fun r_ => (zG i).bind fun ah => (aS h.l i).bind fun aL => (some (iy h i (ah ^^^ r_.1))).bind fun v => some (.inl (v, aD (i + 1)))) else (Option.map Sum.inr (some (h, (0 : Int))))
noncomputable def uE (block : List UInt8) : Option (ae UInt64 8 × Int) :=
  if ((block.length : Nat) : Int) ≠ 64 then (some ((ae.rep 8 (0 : UInt64)), (1 : Int))) else (cf (rz block) ((ae.rep 8 (0 : UInt64)), (0 : Int)))
noncomputable def xu  : Option (ae UInt32 8) :=
  some (⟨[(1779033703 : UInt32), (3144134277 : UInt32), (1013904242 : UInt32), (2773480762 : UInt32), (1359893119 : UInt32), (2600822924 : UInt32), (528734635 : UInt32), (1541459225 : UInt32)], rfl⟩ : ae UInt32 8)
noncomputable def tw (b : List UInt8) (at_ : Int) : Option UInt32 :=
  (aS b at_).bind fun aL => (aS b (aD (at_ + 1))).bind fun j5 => (aS b (aD (at_ + 2))).bind fun eZ => (aS b (aD (at_ + 3))).bind fun jT => some ((((UInt32.ofNat aL.toNat) + (tS (UInt32.ofNat j5.toNat) ((8 : UInt64).toNat))) + (tS (UInt32.ofNat eZ.toNat) ((16 : UInt64).toNat))) + (tS (UInt32.ofNat jT.toNat) ((24 : UInt64).toNat)))
noncomputable def rA (block : List UInt8) : (ae UInt32 8 × Int) → Option ((ae UInt32 8 × Int) ⊕ (ae UInt32 8 × Int))
  | (h, i) => if i < 8 then ((aS h.l i).bind fun aL => (tw block (aD (4 * i))).bind fun ah => (aS h.l i).bind fun eZ => (some (iy h i (aL ^^^ ah))).bind fun v => some (.inl (v, aD (i + 1)))) else (Option.map Sum.inr (some (h, (0 : Int))))
noncomputable def uF (block : List UInt8) : Option (ae UInt32 8 × Int) :=
  if ((block.length : Nat) : Int) < 32 then (some ((ae.rep 8 (0 : UInt32)), (3 : Int))) else (if 32 < ((block.length : Nat) : Int) then (some ((ae.rep 8 (0 : UInt32)), (2 : Int))) else ((xu).bind fun r_ => cf (rA block) (r_, (0 : Int))))
noncomputable def nO (tx : Int) (mS : Int) (r7 : Int) (mT : Int) (oK : Int) (p7 : UInt32) (mU : UInt64) (r8 : UInt32) (ku : Int) (oL : Int) (wI : Bool) (uG : ae UInt64 16) (yK : Bool) (D7 : UInt64) (D8 : UInt64) (zH : List UInt8) (tz : UInt64) (ah : (ae UInt64 8 × Int)) : (ae UInt64 16 × Int) → Option ((ae UInt64 16 × Int) ⊕ (ae UInt64 16 × Int × Int × Int × Int × Int × UInt32 × UInt64 × UInt32 × Int × Int × Bool × ae UInt64 16 × Bool × UInt64 × UInt64 × List UInt8 × UInt64))
  | (h, i) => if i < 8 then ((aS ah.1.l i).bind fun aL => (aS h.l i).bind fun lW => (some (iy h i aL)).bind fun v => some (.inl (v, aD (i + 1)))) else (Option.map Sum.inr (some (h, tx, mS, r7, mT, oK, p7, mU, r8, ku, oL, wI, uG, yK, D7, D8, zH, tz)))
noncomputable def nP (tx : Int) (mS : Int) (r7 : Int) (mT : Int) (oK : Int) (p7 : UInt32) (mU : UInt64) (r8 : UInt32) (ku : Int) (oL : Int) (wI : Bool) (uG : ae UInt64 16) (yK : Bool) (D7 : UInt64) (D8 : UInt64) (zH : List UInt8) (tz : UInt64) (aX : (ae UInt32 8 × Int)) : (ae UInt64 16 × Int) → Option ((ae UInt64 16 × Int) ⊕ (ae UInt64 16 × Int × Int × Int × Int × Int × UInt32 × UInt64 × UInt32 × Int × Int × Bool × ae UInt64 16 × Bool × UInt64 × UInt64 × List UInt8 × UInt64))
  | (h1, i1) => if i1 < 8 then ((aS aX.1.l i1).bind fun ny => (aS h1.l i1).bind fun tn => (some (iy h1 i1 (UInt64.ofNat ny.toNat))).bind fun v1 => some (.inl (v1, aD (i1 + 1)))) else (Option.map Sum.inr (some (h1, tx, mS, r7, mT, oK, p7, mU, r8, ku, oL, wI, uG, yK, D7, D8, zH, tz)))
noncomputable def lX (tx : Int) (mS : Int) (r7 : Int) (mT : Int) (oK : Int) (p7 : UInt32) (mU : UInt64) (r8 : UInt32) (ku : Int) (oL : Int) (Hm : List UInt8) (BQ : List UInt8) (RZ : List UInt8) (wI : Bool) (uG : ae UInt64 16) (yK : Bool) (D7 : UInt64) (D8 : UInt64) (zH : List UInt8) (tz : UInt64) : Option (ae UInt64 16 × Int × Int × Int × Int × Int × UInt32 × UInt64 × UInt32 × Int × Int × Bool × ae UInt64 16 × Bool × UInt64 × UInt64 × List UInt8 × UInt64) :=
  if yK = true then (some (uG, tx, mS, r7, mT, oK, p7, mU, r8, ku, oL, wI, uG, yK, D7, D8, zH, tz)) else ((mb tx mS r7 mT oK p7 mU r8 ku oL Hm BQ).bind fun r_ => if tx = 1 then ((uE r_.1).bind fun ah => cf (nO tx mS r7 mT oK p7 mU r8 ku oL wI uG yK D7 D8 zH tz ah) ((ae.rep 16 (0 : UInt64)), (0 : Int))) else ((uF r_.1).bind fun aX => cf (nP tx mS r7 mT oK p7 mU r8 ku oL wI uG yK D7 D8 zH tz aX) ((ae.rep 16 (0 : UInt64)), (0 : Int))))
noncomputable def rB (b : List UInt8) : (ae UInt64 16 × Int) → Option ((ae UInt64 16 × Int) ⊕ (ae UInt64 16 × Int))
  | (m_, i) => if i < 16 then ((ry b (aD (8 * i)) (8 : Int)).bind fun r_ => (aS m_.l i).bind fun aL => (some (iy m_ i r_.1)).bind fun v => some (.inl (v, aD (i + 1)))) else (Option.map Sum.inr (some (m_, (0 : Int))))
noncomputable def uH (b : List UInt8) : Option (ae UInt64 16 × Int) :=
  if ((b.length : Nat) : Int) ≠ 128 then (some ((ae.rep 16 (0 : UInt64)), (1 : Int))) else (cf (rB b) ((ae.rep 16 (0 : UInt64)), (0 : Int)))
noncomputable def we (v7 : ae UInt64 16) : Option (ae UInt64 16) :=
  some v7
noncomputable def wg (node : Bool) (v5 : ae UInt64 16) : Option (ae UInt64 16) :=
  if node = true then ((aS v5.l (15 : Int)).bind fun ta => (aS v5.l (15 : Int)).bind fun nv => (some (iy v5 (15 : Int) (18446744073709551615 ^^^ ta))).bind fun v8 => we v8) else (we v5)
noncomputable def wh (h : ae UInt64 8) (lo : UInt64) (hi : UInt64) (last : Bool) (node : Bool) : (ae UInt64 16 × Int) → Option ((ae UInt64 16 × Int) ⊕ (ae UInt64 16))
  | (v, i) => if i < 8 then ((aS h.l i).bind fun aL => (aS v.l i).bind fun j5 => (some (iy v i aL)).bind fun v1 => (zG i).bind fun r_ => (aS v1.l (aD (i + 8))).bind fun eZ => (some (iy v1 (aD (i + 8)) r_)).bind fun v2 => some (.inl (v2, aD (i + 1)))) else (Option.map Sum.inr ((aS v.l (12 : Int)).bind fun jT => (aS v.l (12 : Int)).bind fun mw => (some (iy v (12 : Int) (jT ^^^ lo))).bind fun v3 => (aS v3.l (13 : Int)).bind fun mC => (aS v3.l (13 : Int)).bind fun nK => (some (iy v3 (13 : Int) (mC ^^^ hi))).bind fun v4 => if last = true then ((aS v4.l (14 : Int)).bind fun mH => (aS v4.l (14 : Int)).bind fun vv => (some (iy v4 (14 : Int) (18446744073709551615 ^^^ mH))).bind fun v6 => wg node v6) else (wg node v4)))
noncomputable def wJ (h : ae UInt64 8) (lo : UInt64) (hi : UInt64) (last : Bool) (node : Bool) : Option (ae UInt64 16) :=
  cf (wh h lo hi last node) ((ae.rep 16 (0 : UInt64)), (0 : Int))
noncomputable def xv (i : Int) : Option (ae Int 4) :=
  (aS (⟨[(⟨[(0 : Int), (4 : Int), (8 : Int), (12 : Int)], rfl⟩ : ae Int 4), (⟨[(1 : Int), (5 : Int), (9 : Int), (13 : Int)], rfl⟩ : ae Int 4), (⟨[(2 : Int), (6 : Int), (10 : Int), (14 : Int)], rfl⟩ : ae Int 4), (⟨[(3 : Int), (7 : Int), (11 : Int), (15 : Int)], rfl⟩ : ae Int 4), (⟨[(0 : Int), (5 : Int), (10 : Int), (15 : Int)], rfl⟩ : ae Int 4), (⟨[(1 : Int), (6 : Int), (11 : Int), (12 : Int)], rfl⟩ : ae Int 4), (⟨[(2 : Int), (7 : Int), (8 : Int), (13 : Int)], rfl⟩ : ae Int 4), (⟨[(3 : Int), (4 : Int), (9 : Int), (14 : Int)], rfl⟩ : ae Int 4)], rfl⟩ : ae (ae Int 4) 8).l (Int.tmod i 8)).bind fun aL => some aL
noncomputable def wi (r_ : Int) : Option Int :=
  some r_
noncomputable def zI (n : Int) (m_ : Int) : Option Int :=
  (pr (m_ ≠ 0)).bind fun u => if (Int.tmod n m_) < 0 then (wi (aD ((Int.tmod n m_) + m_))) else (wi (Int.tmod n m_))
noncomputable def C1 (c : UInt8) : Option Int :=
  if ((decide ((48 : UInt8) ≤ c)) && (decide (c ≤ 57))) = true then (some ((c - 48).toNat : Int)) else (if ((decide ((97 : UInt8) ≤ c)) && (decide (c ≤ 102))) = true then (some (aD (((c - 97).toNat : Int) + 10))) else (if ((decide ((65 : UInt8) ≤ c)) && (decide (c ≤ 70))) = true then (some (aD (((c - 65).toNat : Int) + 10))) else (some (-1 : Int))))
noncomputable def p8 (round : Int) (i : Int) : Option Int :=
  (zI round (10 : Int)).bind fun r_ => (aS ([48, 49, 50, 51, 52, 53, 54, 55, 56, 57, 97, 98, 99, 100, 101, 102, 101, 97, 52, 56, 57, 102, 100, 54, 49, 99, 48, 50, 98, 55, 53, 51, 98, 56, 99, 48, 53, 50, 102, 100, 97, 101, 51, 54, 55, 49, 57, 52, 55, 57, 51, 49, 100, 99, 98, 101, 50, 54, 53, 97, 52, 48, 102, 56, 57, 48, 53, 55, 50, 52, 97, 102, 101, 49, 98, 99, 54, 56, 51, 100, 50, 99, 54, 97, 48, 98, 56, 51, 52, 100, 55, 53, 102, 101, 49, 57, 99, 53, 49, 102, 101, 100, 52, 97, 48, 55, 54, 51, 57, 50, 56, 98, 100, 98, 55, 101, 99, 49, 51, 57, 53, 48, 102, 52, 56, 54, 50, 97, 54, 102, 101, 57, 98, 51, 48, 56, 99, 50, 100, 55, 49, 52, 97, 53, 97, 50, 56, 52, 55, 54, 49, 53, 102, 98, 57, 101, 51, 99, 100, 48] : List UInt8) (aD ((aD (16 * r_)) + i))).bind fun c => (C1 c).bind fun ah => some ah
noncomputable def oM (a_ : Int) : Option Bool :=
  some ((decide (0 ≤ a_)) && (decide (a_ ≤ 15)))
noncomputable def lq (w_ : UInt64) (n : Int) : Option UInt64 :=
  (zI n (64 : Int)).bind fun r_ => if r_ = 0 then (some w_) else ((pr (0 ≤ r_)).bind fun u => (pr (0 ≤ aD (64 - r_))).bind fun u1 => some ((aK w_ (Int.toNat r_)) ||| (aC w_ (Int.toNat (aD (64 - r_))))))
noncomputable def BR (v : ae UInt64 16) (a_ : Int) (b : Int) (c : Int) (d : Int) (x_ : UInt64) (y_ : UInt64) : Option (ae UInt64 16 × Int) :=
  (oM a_).bind fun r_ => if (!r_) = true then (some ((ae.rep 16 ((0 : UInt64) : UInt64)), (1 : Int))) else ((oM b).bind fun ah => if (!ah) = true then (some ((ae.rep 16 ((0 : UInt64) : UInt64)), (1 : Int))) else ((oM c).bind fun aX => if (!aX) = true then (some ((ae.rep 16 ((0 : UInt64) : UInt64)), (1 : Int))) else ((oM d).bind fun eK => if (((((((!eK) || (decide (a_ = b))) || (decide (a_ = c))) || (decide (a_ = d))) || (decide (b = c))) || (decide (b = d))) || (decide (c = d))) = true then (some ((ae.rep 16 ((0 : UInt64) : UInt64)), (1 : Int))) else ((aS v.l a_).bind fun jT => (aS v.l b).bind fun mw => (aS v.l a_).bind fun mC => (some (iy v a_ ((jT + mw) + x_))).bind fun v1 => (aS v1.l d).bind fun nK => (aS v1.l a_).bind fun mH => (lq (nK ^^^ mH) (32 : Int)).bind fun gl => (aS v1.l d).bind fun vv => (some (iy v1 d gl)).bind fun v2 => (aS v2.l c).bind fun ta => (aS v2.l d).bind fun nv => (aS v2.l c).bind fun fx => (some (iy v2 c (ta + nv))).bind fun v3 => (aS v3.l b).bind fun wD => (aS v3.l c).bind fun yT => (lq (wD ^^^ yT) (24 : Int)).bind fun mA => (aS v3.l b).bind fun As => (some (iy v3 b mA)).bind fun v4 => (aS v4.l a_).bind fun vK => (aS v4.l b).bind fun rW => (aS v4.l a_).bind fun nw => (some (iy v4 a_ ((vK + rW) + y_))).bind fun v5 => (aS v5.l d).bind fun lW => (aS v5.l a_).bind fun ny => (lq (lW ^^^ ny) (16 : Int)).bind fun nr => (aS v5.l d).bind fun tn => (some (iy v5 d nr)).bind fun v6 => (aS v6.l c).bind fun vL => (aS v6.l d).bind fun Au => (aS v6.l c).bind fun BP => (some (iy v6 c (vL + Au))).bind fun v7 => (aS v7.l b).bind fun tp => (aS v7.l c).bind fun vM => (lq (tp ^^^ vM) (63 : Int)).bind fun nV => (aS v7.l b).bind fun FZ => (some (iy v7 b nV)).bind fun v8 => some (v8, (0 : Int))))))
noncomputable def uI (m_ : ae UInt64 16) (round : Int) : (ae UInt64 16 × Int) → Option ((ae UInt64 16 × Int) ⊕ (ae UInt64 16 × Int))
  | (v1, i) => if i < 8 then ((xv i).bind fun r_ => (aS r_.l (0 : Int)).bind fun aL => (aS r_.l (1 : Int)).bind fun eZ => (aS r_.l (2 : Int)).bind fun jT => (aS r_.l (3 : Int)).bind fun mw => (p8 round (aD (2 * i))).bind fun ah => (aS m_.l ah).bind fun mC => (p8 round (aD ((aD (2 * i)) + 1))).bind fun aX => (aS m_.l aX).bind fun nK => (BR v1 aL eZ jT mw mC nK).bind fun eK => some (.inl (eK.1, aD (i + 1)))) else (Option.map Sum.inr (some (v1, (0 : Int))))
noncomputable def uJ (v : ae UInt64 16) (m_ : ae UInt64 16) (round : Int) : Option (ae UInt64 16 × Int) :=
  if ((decide (round < 0)) || (decide (11 < round))) = true then (some ((ae.rep 16 ((0 : UInt64) : UInt64)), (1 : Int))) else (cf (uI m_ round) (v, (0 : Int)))
noncomputable def wK (v : ae UInt64 16) : (ae UInt64 8 × Int) → Option ((ae UInt64 8 × Int) ⊕ (ae UInt64 8))
  | (h1, i) => if i < 8 then ((aS h1.l i).bind fun aL => (aS v.l i).bind fun j5 => (aS v.l (aD (i + 8))).bind fun eZ => (aS h1.l i).bind fun jT => (some (iy h1 i ((aL ^^^ j5) ^^^ eZ))).bind fun v1 => some (.inl (v1, aD (i + 1)))) else (Option.map Sum.inr (some h1))
noncomputable def wL (h : ae UInt64 8) (m_ : ae UInt64 16) : (ae UInt64 16 × Int) → Option ((ae UInt64 16 × Int) ⊕ (ae UInt64 8))
  | (v, ah) => if ah < 12 then ((uJ v m_ ah).bind fun aX => some (.inl (aX.1, aD (ah + 1)))) else (Option.map Sum.inr (cf (wK v) (h, (0 : Int))))
noncomputable def BS (h : ae UInt64 8) (m_ : ae UInt64 16) (lo : UInt64) (hi : UInt64) (last : Bool) (node : Bool) : Option (ae UInt64 8) :=
  (wJ h lo hi last node).bind fun r_ => cf (wL h m_) (r_, (0 : Int))
noncomputable def rC (b : List UInt8) : (ae UInt32 16 × Int) → Option ((ae UInt32 16 × Int) ⊕ (ae UInt32 16 × Int))
  | (m_, i) => if i < 16 then ((tw b (aD (4 * i))).bind fun r_ => (aS m_.l i).bind fun aL => (some (iy m_ i r_)).bind fun v => some (.inl (v, aD (i + 1)))) else (Option.map Sum.inr (some (m_, (0 : Int))))
noncomputable def uK (b : List UInt8) : Option (ae UInt32 16 × Int) :=
  if ((b.length : Nat) : Int) < 64 then (some ((ae.rep 16 (0 : UInt32)), (3 : Int))) else (if 64 < ((b.length : Nat) : Int) then (some ((ae.rep 16 (0 : UInt32)), (2 : Int))) else (cf (rC b) ((ae.rep 16 (0 : UInt32)), (0 : Int))))
noncomputable def rD (v7 : ae UInt32 16) : Option (ae UInt32 16) :=
  some v7
noncomputable def rE (node : Bool) (v5 : ae UInt32 16) : Option (ae UInt32 16) :=
  if node = true then ((aS v5.l (15 : Int)).bind fun nv => (aS v5.l (15 : Int)).bind fun fx => (some (iy v5 (15 : Int) (nv ^^^ 4294967295))).bind fun v8 => rD v8) else (rD v5)
noncomputable def rG (h : ae UInt32 8) (count : UInt64) (last : Bool) (node : Bool) (r_ : (ae UInt32 8)) : (ae UInt32 16 × Int) → Option ((ae UInt32 16 × Int) ⊕ (ae UInt32 16))
  | (v, i) => if i < 8 then ((aS h.l i).bind fun aL => (aS v.l i).bind fun j5 => (some (iy v i aL)).bind fun v1 => (aS r_.l i).bind fun eZ => (aS v1.l (aD (i + 8))).bind fun jT => (some (iy v1 (aD (i + 8)) eZ)).bind fun v2 => some (.inl (v2, aD (i + 1)))) else (Option.map Sum.inr ((aS v.l (12 : Int)).bind fun mw => (aS v.l (12 : Int)).bind fun mC => (some (iy v (12 : Int) (mw ^^^ (UInt32.ofNat count.toNat)))).bind fun v3 => (aS v3.l (13 : Int)).bind fun nK => (aS v3.l (13 : Int)).bind fun mH => (some (iy v3 (13 : Int) (nK ^^^ (UInt32.ofNat (aK count ((32 : UInt64).toNat)).toNat)))).bind fun v4 => if last = true then ((aS v4.l (14 : Int)).bind fun vv => (aS v4.l (14 : Int)).bind fun ta => (some (iy v4 (14 : Int) (vv ^^^ 4294967295))).bind fun v6 => rE node v6) else (rE node v4)))
noncomputable def uL (h : ae UInt32 8) (count : UInt64) (last : Bool) (node : Bool) : Option (ae UInt32 16) :=
  (xu).bind fun r_ => cf (rG h count last node r_) ((ae.rep 16 (0 : UInt32)), (0 : Int))
noncomputable def zJ (i : Int) : Option (Int × Int × Int × Int) :=
  if i < 4 then (some (i, aD (i + 4), aD (i + 8), aD (i + 12))) else (some (aD (i - 4), aD (4 + (Int.tmod (aD ((aD (i - 4)) + 1)) 4)), aD (8 + (Int.tmod (aD ((aD (i - 4)) + 2)) 4)), aD (12 + (Int.tmod (aD ((aD (i - 4)) + 3)) 4))))
noncomputable def qF (a_ : Int) (b : Int) (c : Int) (d : Int) (i : Int) : Int → Option (Int ⊕ (Int ⊕ Bool))
  | j => if j < i then ((aS ([a_, b, c, d] : List Int) i).bind fun eZ => (aS ([a_, b, c, d] : List Int) j).bind fun jT => if eZ = jT then (Option.map Sum.inr (Option.map Sum.inr (some false))) else (some (.inl (aD (j + 1))))) else (Option.map Sum.inr (some (.inl (aD (i + 1)))))
noncomputable def tW (a_ : Int) (b : Int) (c : Int) (d : Int) : Int → Option (Int ⊕ Bool)
  | i => if i < 4 then ((aS ([a_, b, c, d] : List Int) i).bind fun aL => (RP (!(decide (aL < 0))) (aS ([a_, b, c, d] : List Int) i)).bind fun j5 => if ((decide (aL < 0)) || (decide (15 < j5))) = true then (Option.map Sum.inr (some false)) else (cf (qF a_ b c d i) (0 : Int))) else (Option.map Sum.inr (some true))
noncomputable def tA (a_ : Int) (b : Int) (c : Int) (d : Int) : Option Bool :=
  cf (tW a_ b c d) (0 : Int)
noncomputable def mV (x_ : UInt32) (r_ : Int) : Option UInt32 :=
  some ((l3 x_ ((UInt64.ofInt r_).toNat)) ||| (tS x_ ((UInt64.ofInt (aD (32 - r_))).toNat)))
noncomputable def BT (v : ae UInt32 16) (a_ : Int) (b : Int) (c : Int) (d : Int) (x_ : UInt32) (y_ : UInt32) : Option (ae UInt32 16 × Int) :=
  (tA a_ b c d).bind fun r_ => if (!r_) = true then (some ((ae.rep 16 ((0 : UInt32) : UInt32)), (1 : Int))) else ((aS v.l a_).bind fun jT => (aS v.l b).bind fun mw => (aS v.l a_).bind fun mC => (some (iy v a_ ((jT + mw) + x_))).bind fun v1 => (aS v1.l d).bind fun nK => (aS v1.l a_).bind fun mH => (mV (nK ^^^ mH) (16 : Int)).bind fun ah => (aS v1.l d).bind fun vv => (some (iy v1 d ah)).bind fun v2 => (aS v2.l c).bind fun ta => (aS v2.l d).bind fun nv => (aS v2.l c).bind fun fx => (some (iy v2 c (ta + nv))).bind fun v3 => (aS v3.l b).bind fun wD => (aS v3.l c).bind fun yT => (mV (wD ^^^ yT) (12 : Int)).bind fun aX => (aS v3.l b).bind fun As => (some (iy v3 b aX)).bind fun v4 => (aS v4.l a_).bind fun vK => (aS v4.l b).bind fun rW => (aS v4.l a_).bind fun nw => (some (iy v4 a_ ((vK + rW) + y_))).bind fun v5 => (aS v5.l d).bind fun lW => (aS v5.l a_).bind fun ny => (mV (lW ^^^ ny) (8 : Int)).bind fun eK => (aS v5.l d).bind fun tn => (some (iy v5 d eK)).bind fun v6 => (aS v6.l c).bind fun vL => (aS v6.l d).bind fun Au => (aS v6.l c).bind fun BP => (some (iy v6 c (vL + Au))).bind fun v7 => (aS v7.l b).bind fun tp => (aS v7.l c).bind fun vM => (mV (tp ^^^ vM) (7 : Int)).bind fun gl => (aS v7.l b).bind fun FZ => (some (iy v7 b gl)).bind fun v8 => some (v8, (0 : Int)))
noncomputable def uM (m_ : ae UInt32 16) (r_ : Int) : (ae UInt32 16 × Int) → Option ((ae UInt32 16 × Int) ⊕ (ae UInt32 16 × Int))
  | (v1, i) => if i < 8 then ((zJ i).bind fun ah => (p8 r_ (aD (2 * i))).bind fun aX => (aS m_.l aX).bind fun aL => (p8 r_ (aD ((aD (2 * i)) + 1))).bind fun eK => (aS m_.l eK).bind fun eZ => (BT v1 ah.1 ah.2.1 ah.2.2.1 ah.2.2.2 aL eZ).bind fun gl => some (.inl (gl.1, aD (i + 1)))) else (Option.map Sum.inr (some (v1, (0 : Int))))
noncomputable def uN (v : ae UInt32 16) (m_ : ae UInt32 16) (r_ : Int) : Option (ae UInt32 16 × Int) :=
  if ((decide (r_ < 0)) || (decide (9 < r_))) = true then (some ((ae.rep 16 ((0 : UInt32) : UInt32)), (1 : Int))) else (cf (uM m_ r_) (v, (0 : Int)))
noncomputable def xw (v : ae UInt32 16) : (ae UInt32 8 × Int) → Option ((ae UInt32 8 × Int) ⊕ (ae UInt32 8))
  | (h1, i) => if i < 8 then ((aS h1.l i).bind fun aL => (aS v.l i).bind fun j5 => (aS v.l (aD (i + 8))).bind fun eZ => (aS h1.l i).bind fun jT => (some (iy h1 i ((aL ^^^ j5) ^^^ eZ))).bind fun v1 => some (.inl (v1, aD (i + 1)))) else (Option.map Sum.inr (some h1))
noncomputable def yc (h : ae UInt32 8) (v : ae UInt32 16) : Option (ae UInt32 8) :=
  cf (xw v) (h, (0 : Int))
noncomputable def wM (h : ae UInt32 8) (m_ : ae UInt32 16) : (ae UInt32 16 × Int) → Option ((ae UInt32 16 × Int) ⊕ (ae UInt32 8))
  | (v, ah) => if ah < 10 then ((uN v m_ ah).bind fun aX => some (.inl (aX.1, aD (ah + 1)))) else (Option.map Sum.inr ((yc h v).bind fun eK => some eK))
noncomputable def BU (h : ae UInt32 8) (m_ : ae UInt32 16) (count : UInt64) (last : Bool) (node : Bool) : Option (ae UInt32 8) :=
  (uL h count last node).bind fun r_ => cf (wM h m_) (r_, (0 : Int))
noncomputable def r9 (ah : (ae UInt64 8)) : (ae UInt64 16 × Int) → Option ((ae UInt64 16 × Int) ⊕ (ae UInt64 16))
  | (h1, i1) => if i1 < 8 then ((aS ah.l i1).bind fun eZ => (aS h1.l i1).bind fun jT => (some (iy h1 i1 eZ)).bind fun v1 => some (.inl (v1, aD (i1 + 1)))) else (Option.map Sum.inr (some h1))
noncomputable def uO (h : ae UInt64 16) (b : List UInt8) (lo : UInt64) (hi : UInt64) (last : Bool) (node : Bool) : (ae UInt64 8 × Int) → Option ((ae UInt64 8 × Int) ⊕ (ae UInt64 16))
  | (s_, i) => if i < 8 then ((aS h.l i).bind fun aL => (aS s_.l i).bind fun j5 => (some (iy s_ i aL)).bind fun v => some (.inl (v, aD (i + 1)))) else (Option.map Sum.inr ((uH b).bind fun r_ => (BS s_ r_.1 lo hi last node).bind fun ah => cf (r9 ah) (h, (0 : Int))))
noncomputable def sa (eK : (ae UInt32 8)) : (ae UInt64 16 × Int) → Option ((ae UInt64 16 × Int) ⊕ (ae UInt64 16))
  | (h2, i3) => if i3 < 8 then ((aS eK.l i3).bind fun nK => (aS h2.l i3).bind fun mH => (some (iy h2 i3 (UInt64.ofNat nK.toNat))).bind fun v3 => some (.inl (v3, aD (i3 + 1)))) else (Option.map Sum.inr (some h2))
noncomputable def uP (h : ae UInt64 16) (b : List UInt8) (lo : UInt64) (last : Bool) (node : Bool) : (ae UInt32 8 × Int) → Option ((ae UInt32 8 × Int) ⊕ (ae UInt64 16))
  | (PS, i2) => if i2 < 8 then ((aS h.l i2).bind fun mw => (aS PS.l i2).bind fun mC => (some (iy PS i2 (UInt32.ofNat mw.toNat))).bind fun v2 => some (.inl (v2, aD (i2 + 1)))) else (Option.map Sum.inr ((uK b).bind fun aX => (BU PS aX.1 lo last node).bind fun eK => cf (sa eK) (h, (0 : Int))))
noncomputable def uQ (kind : Int) (h : ae UInt64 16) (b : List UInt8) (lo : UInt64) (hi : UInt64) (last : Bool) (node : Bool) : Option (ae UInt64 16) :=
  if kind = 1 then (cf (uO h b lo hi last node) ((ae.rep 8 (0 : UInt64)), (0 : Int))) else (cf (uP h b lo last node) ((ae.rep 8 (0 : UInt32)), (0 : Int)))
noncomputable def uR (n : Int) : (UInt64 × List UInt8 × Int) → Option ((UInt64 × List UInt8 × Int) ⊕ (List UInt8))
  | (k4, b, i) => if i < n then ((app b ([UInt8.ofNat (k4 % 256).toNat] : List UInt8) 1).bind fun b1 => some (.inl (k4 / 256, b1, aD (i + 1)))) else (Option.map Sum.inr (some b))
noncomputable def uS (w_ : UInt64) (n : Int) : Option (List UInt8) :=
  cf (uR n) (w_, ([] : List UInt8), (0 : Int))
noncomputable def rH (kind : Int) (h : ae UInt64 16) : (List UInt8 × Int) → Option ((List UInt8 × Int) ⊕ (List UInt8))
  | (b, i) => if i < 8 then ((aS h.l i).bind fun aL => (wH kind).bind fun r_ => (uS aL (aD (Int.tdiv r_ 8))).bind fun ah => (app b ah 1).bind fun b1 => some (.inl (b1, aD (i + 1)))) else (Option.map Sum.inr (some b))
noncomputable def p9 (kind : Int) (h : ae UInt64 16) : Option (List UInt8) :=
  cf (rH kind h) (([] : List UInt8), (0 : Int))
noncomputable def tX (k_ : Int) (length : Int) (s_ : Int) (hD : Int) : Option (Int × Int × UInt32 × UInt64 × Bool × Bool) :=
  if (!(decide (length ≠ (-1)))) = true then (some (k_, s_, UInt32.ofInt (aD (hD + 1)), aC (UInt64.ofInt s_) ((32 : UInt64).toNat), decide (length ≠ (-1)), true)) else (some (k_, s_, UInt32.ofInt length, UInt64.ofInt length, decide (length ≠ (-1)), (decide (1 ≤ length)) && (decide (length ≤ hD))))
noncomputable def BV (k_ : Int) (length : Int) : Option (Int × Int × UInt32 × UInt64 × Bool × Bool) :=
  if k_ = 1 then (tX k_ length (64 : Int) (4294967294 : Int)) else (if k_ = 2 then (tX k_ length (32 : Int) (65534 : Int)) else (some (k_, (0 : Int), (0 : UInt32), (0 : UInt64), decide (length ≠ (-1)), false)))
noncomputable def sR (zK : Int) (rI : Int) (yd : UInt32) (BW : UInt64) (Jw : Bool) (key : List UInt8) (dw : List UInt8) (bP : List UInt8) : Option (Int × Int × UInt32) :=
  some (rI, ((key.length : Nat) : Int), yd)
noncomputable def C2 (k_ : Int) (length : Int) (key : List UInt8) (dw : List UInt8) (bP : List UInt8) : Option (Int × Int × UInt32 × UInt64 × Bool × Int) :=
  (BV k_ length).bind fun r_ => if (!r_.2.2.2.2.2) = true then (some (r_.1, r_.2.1, r_.2.2.1, r_.2.2.2.1, r_.2.2.2.2.1, (1 : Int))) else (if r_.2.1 < ((key.length : Nat) : Int) then (some (r_.1, r_.2.1, r_.2.2.1, r_.2.2.2.1, r_.2.2.2.2.1, (8 : Int))) else ((sR r_.1 r_.2.1 r_.2.2.1 r_.2.2.2.1 r_.2.2.2.2.1 key dw bP).bind fun ah => (jz k_ ah.1 ah.2.1 (1 : Int) (1 : Int) (0 : UInt32) (0 : UInt64) ah.2.2 (0 : Int) (0 : Int) dw bP).bind fun aX => some (r_.1, r_.2.1, r_.2.2.1, r_.2.2.2.1, r_.2.2.2.2.1, aX)))
noncomputable def ye (b : List UInt8) : Option (List UInt8) :=
  (app ([] : List UInt8) b 1).bind fun b1 => some b1
noncomputable def wN (kH : Int) (kI : Int) (lr : UInt32) (jV : UInt64) (jW : Bool) (cI : List UInt8) (bk : List UInt8) (al : List UInt8) (dN : List UInt8) (jB : UInt64) (fy : ae UInt8 64) (dP : Int) : Option ((Int × Int × UInt32 × UInt64 × Bool × List UInt8 × List UInt8 × List UInt8 × List UInt8 × ae UInt8 64) ⊕ (Int × Int × UInt32 × UInt64 × Bool × List UInt8 × List UInt8 × List UInt8 × Int × Int × List UInt8 × List UInt8 × ae UInt64 8 × UInt64 × UInt64 × List UInt8 × Int × List UInt8 × ae UInt8 64) ⊕ (Int × Int × UInt32 × UInt64 × Bool × List UInt8 × List UInt8 × List UInt8 × Int × Int × List UInt8 × List UInt8 × ae UInt32 8 × UInt64 × UInt64 × List UInt8 × Int × List UInt8 × ae UInt8 64)) :=
  (sR kH kI lr jV jW cI bk al).bind fun r_ => (mQ kH r_.1 r_.2.1 (1 : Int) (1 : Int) (0 : UInt32) (0 : UInt64) r_.2.2 (0 : Int) (0 : Int) bk al cI).bind fun ah => (Sum.elim (fun aX => some (Sum.inl (kH, kI, lr, jV, jW, cI, bk, al, ([] : List UInt8), fy))) (Sum.elim (fun eK => some (Sum.inr (Sum.inl (kH, kI, lr, jV, jW, cI, bk, al, eK.1, eK.2.1, eK.2.2.1, eK.2.2.2.1, eK.2.2.2.2.1, eK.2.2.2.2.2.1, eK.2.2.2.2.2.2.1, eK.2.2.2.2.2.2.2.1, eK.2.2.2.2.2.2.2.2, ([] : List UInt8), fy)))) (fun gl => some (Sum.inr (Sum.inr (kH, kI, lr, jV, jW, cI, bk, al, gl.1, gl.2.1, gl.2.2.1, gl.2.2.2.1, gl.2.2.2.2.1, gl.2.2.2.2.2.1, gl.2.2.2.2.2.2.1, gl.2.2.2.2.2.2.2.1, gl.2.2.2.2.2.2.2.2, ([] : List UInt8), fy)))))) ah
noncomputable def F0 (k_ : Int) (length : Int) (key : List UInt8) (dw : List UInt8) (bP : List UInt8) : Option (Int ⊕ (Int × Int × UInt32 × UInt64 × Bool × List UInt8 × List UInt8 × List UInt8 × List UInt8 × ae UInt8 64) ⊕ (Int × Int × UInt32 × UInt64 × Bool × List UInt8 × List UInt8 × List UInt8 × Int × Int × List UInt8 × List UInt8 × ae UInt64 8 × UInt64 × UInt64 × List UInt8 × Int × List UInt8 × ae UInt8 64) ⊕ (Int × Int × UInt32 × UInt64 × Bool × List UInt8 × List UInt8 × List UInt8 × Int × Int × List UInt8 × List UInt8 × ae UInt32 8 × UInt64 × UInt64 × List UInt8 × Int × List UInt8 × ae UInt8 64)) :=
  (C2 k_ length key dw bP).bind fun r_ => if r_.2.2.2.2.2 ≠ 0 then (some (Sum.inl r_.2.2.2.2.2)) else ((ye key).bind fun ah => (ye dw).bind fun aX => (ye bP).bind fun eK => (wN r_.1 r_.2.1 r_.2.2.1 r_.2.2.2.1 r_.2.2.2.2.1 ah aX eK ([] : List UInt8) (0 : UInt64) (ae.rep 64 (0 : UInt8)) (0 : Int)).bind fun gl => (Sum.elim (fun mA => some (Sum.inr (Sum.inl (mA.1, mA.2.1, mA.2.2.1, mA.2.2.2.1, mA.2.2.2.2.1, mA.2.2.2.2.2.1, mA.2.2.2.2.2.2.1, mA.2.2.2.2.2.2.2.1, mA.2.2.2.2.2.2.2.2.1, mA.2.2.2.2.2.2.2.2.2)))) (Sum.elim (fun nr => some (Sum.inr (Sum.inr (Sum.inl (nr.1, nr.2.1, nr.2.2.1, nr.2.2.2.1, nr.2.2.2.2.1, nr.2.2.2.2.2.1, nr.2.2.2.2.2.2.1, nr.2.2.2.2.2.2.2.1, nr.2.2.2.2.2.2.2.2.1, nr.2.2.2.2.2.2.2.2.2.1, nr.2.2.2.2.2.2.2.2.2.2.1, nr.2.2.2.2.2.2.2.2.2.2.2.1, nr.2.2.2.2.2.2.2.2.2.2.2.2.1, nr.2.2.2.2.2.2.2.2.2.2.2.2.2.1, nr.2.2.2.2.2.2.2.2.2.2.2.2.2.2.1, nr.2.2.2.2.2.2.2.2.2.2.2.2.2.2.2.1, nr.2.2.2.2.2.2.2.2.2.2.2.2.2.2.2.2.1, nr.2.2.2.2.2.2.2.2.2.2.2.2.2.2.2.2.2.1, nr.2.2.2.2.2.2.2.2.2.2.2.2.2.2.2.2.2.2))))) (fun nV => some (Sum.inr (Sum.inr (Sum.inr (nV.1, nV.2.1, nV.2.2.1, nV.2.2.2.1, nV.2.2.2.2.1, nV.2.2.2.2.2.1, nV.2.2.2.2.2.2.1, nV.2.2.2.2.2.2.2.1, nV.2.2.2.2.2.2.2.2.1, nV.2.2.2.2.2.2.2.2.2.1, nV.2.2.2.2.2.2.2.2.2.2.1, nV.2.2.2.2.2.2.2.2.2.2.2.1, nV.2.2.2.2.2.2.2.2.2.2.2.2.1, nV.2.2.2.2.2.2.2.2.2.2.2.2.2.1, nV.2.2.2.2.2.2.2.2.2.2.2.2.2.2.1, nV.2.2.2.2.2.2.2.2.2.2.2.2.2.2.2.1, nV.2.2.2.2.2.2.2.2.2.2.2.2.2.2.2.2.1, nV.2.2.2.2.2.2.2.2.2.2.2.2.2.2.2.2.2.1, nV.2.2.2.2.2.2.2.2.2.2.2.2.2.2.2.2.2.2))))))) gl)
noncomputable def D9 (fT : List UInt8) : Option (Int ⊕ (List UInt8) ⊕ (List UInt8 × Int × Int × UInt32 × UInt64 × Bool × List UInt8 × List UInt8 × List UInt8 × List UInt8 × ae UInt8 64) ⊕ (List UInt8 × Int × Int × UInt32 × UInt64 × Bool × List UInt8 × List UInt8 × List UInt8 × Int × Int × List UInt8 × List UInt8 × ae UInt64 8 × UInt64 × UInt64 × List UInt8 × Int × List UInt8 × ae UInt8 64) ⊕ (List UInt8 × Int × Int × UInt32 × UInt64 × Bool × List UInt8 × List UInt8 × List UInt8 × Int × Int × List UInt8 × List UInt8 × ae UInt32 8 × UInt64 × UInt64 × List UInt8 × Int × List UInt8 × ae UInt8 64)) :=
  if 64 < ((fT.length : Nat) : Int) then (some (Sum.inl (8 : Int))) else ((F0 (1 : Int) (-1 : Int) fT ([] : List UInt8) ([] : List UInt8)).bind fun r_ => (Sum.elim (fun ah => if ah ≠ 0 then (some (Sum.inl ah)) else ((app ([] : List UInt8) fT 1).bind fun b => some (Sum.inr (Sum.inl b)))) (Sum.elim (fun aX => if 0 ≠ 0 then (some (Sum.inl (0 : Int))) else ((app ([] : List UInt8) fT 1).bind fun b0 => some (Sum.inr (Sum.inr (Sum.inl (b0, aX.1, aX.2.1, aX.2.2.1, aX.2.2.2.1, aX.2.2.2.2.1, aX.2.2.2.2.2.1, aX.2.2.2.2.2.2.1, aX.2.2.2.2.2.2.2.1, aX.2.2.2.2.2.2.2.2.1, aX.2.2.2.2.2.2.2.2.2)))))) (Sum.elim (fun eK => if 0 ≠ 0 then (some (Sum.inl (0 : Int))) else ((app ([] : List UInt8) fT 1).bind fun b1 => some (Sum.inr (Sum.inr (Sum.inr (Sum.inl (b1, eK.1, eK.2.1, eK.2.2.1, eK.2.2.2.1, eK.2.2.2.2.1, eK.2.2.2.2.2.1, eK.2.2.2.2.2.2.1, eK.2.2.2.2.2.2.2.1, eK.2.2.2.2.2.2.2.2.1, eK.2.2.2.2.2.2.2.2.2.1, eK.2.2.2.2.2.2.2.2.2.2.1, eK.2.2.2.2.2.2.2.2.2.2.2.1, eK.2.2.2.2.2.2.2.2.2.2.2.2.1, eK.2.2.2.2.2.2.2.2.2.2.2.2.2.1, eK.2.2.2.2.2.2.2.2.2.2.2.2.2.2.1, eK.2.2.2.2.2.2.2.2.2.2.2.2.2.2.2.1, eK.2.2.2.2.2.2.2.2.2.2.2.2.2.2.2.2.1, eK.2.2.2.2.2.2.2.2.2.2.2.2.2.2.2.2.2.1, eK.2.2.2.2.2.2.2.2.2.2.2.2.2.2.2.2.2.2))))))) (fun gl => if 0 ≠ 0 then (some (Sum.inl (0 : Int))) else ((app ([] : List UInt8) fT 1).bind fun b2 => some (Sum.inr (Sum.inr (Sum.inr (Sum.inr (b2, gl.1, gl.2.1, gl.2.2.1, gl.2.2.2.1, gl.2.2.2.2.1, gl.2.2.2.2.2.1, gl.2.2.2.2.2.2.1, gl.2.2.2.2.2.2.2.1, gl.2.2.2.2.2.2.2.2.1, gl.2.2.2.2.2.2.2.2.2.1, gl.2.2.2.2.2.2.2.2.2.2.1, gl.2.2.2.2.2.2.2.2.2.2.2.1, gl.2.2.2.2.2.2.2.2.2.2.2.2.1, gl.2.2.2.2.2.2.2.2.2.2.2.2.2.1, gl.2.2.2.2.2.2.2.2.2.2.2.2.2.2.1, gl.2.2.2.2.2.2.2.2.2.2.2.2.2.2.2.1, gl.2.2.2.2.2.2.2.2.2.2.2.2.2.2.2.2.1, gl.2.2.2.2.2.2.2.2.2.2.2.2.2.2.2.2.2.1, gl.2.2.2.2.2.2.2.2.2.2.2.2.2.2.2.2.2.2)))))))))) r_)
noncomputable def yf (bI : List UInt8) : Option (List UInt8) :=
  some bI
noncomputable def yg (bI : List UInt8) : Option (List UInt8) :=
  (yf bI).bind fun r_ => some r_
noncomputable def vN (bI : List UInt8) (kJ : Int) (kK : Int) (kL : UInt32) (jJ : UInt64) (jK : Bool) (a1 : List UInt8) (aN : List UInt8) (ak : List UInt8) (cS : List UInt8) (cp : UInt64) (bJ : ae UInt8 64) (bd : Int) : Option (Int × Int × UInt32 × UInt64 × Bool × List UInt8 × List UInt8 × List UInt8 × List UInt8 × UInt64 × ae UInt8 64 × Int × List UInt8) :=
  some (kJ, kK, kL, jJ, jK, a1, aN, ak, cS, cp, bJ, bd, bI)
noncomputable def rJ  : Option (List Int) :=
  some ([] : List Int)
noncomputable def vO (bI : List UInt8) (kJ : Int) (kK : Int) (kL : UInt32) (jJ : UInt64) (jK : Bool) (a1 : List UInt8) (aN : List UInt8) (ak : List UInt8) (cS : List UInt8) (cp : UInt64) (bJ : ae UInt8 64) (bd : Int) : Option (Int × Int × UInt32 × UInt64 × Bool × List UInt8 × List UInt8 × List UInt8 × List UInt8 × UInt64 × ae UInt8 64 × Int × List UInt8) :=
  (vN bI kJ kK kL jJ jK a1 aN ak cS cp bJ bd).bind fun r_ => (rJ).bind fun ah => some (r_.1, r_.2.1, r_.2.2.1, r_.2.2.2.1, r_.2.2.2.2.1, r_.2.2.2.2.2.1, r_.2.2.2.2.2.2.1, r_.2.2.2.2.2.2.2.1, r_.2.2.2.2.2.2.2.2.1, r_.2.2.2.2.2.2.2.2.2.1, r_.2.2.2.2.2.2.2.2.2.2.1, r_.2.2.2.2.2.2.2.2.2.2.2.1, r_.2.2.2.2.2.2.2.2.2.2.2.2)
noncomputable def vP (bI : List UInt8) (kJ : Int) (kK : Int) (kL : UInt32) (jJ : UInt64) (jK : Bool) (a1 : List UInt8) (aN : List UInt8) (ak : List UInt8) (aO : Int) (ax : Int) (aB : List UInt8) (aU : List UInt8) (aP : Bool) (ao : UInt64) (aW : ae UInt64 8) (ai : UInt64) (aj : UInt64) (av : List UInt8) (aq : Int) (cS : List UInt8) (cp : UInt64) (bJ : ae UInt8 64) (bd : Int) : Option (ae UInt64 8 × UInt64 × UInt64 × List UInt8 × Int × Int × Int × List UInt8 × List UInt8 × Bool × UInt64 × Int × Int × UInt32 × UInt64 × Bool × List UInt8 × List UInt8 × List UInt8 × List UInt8 × UInt64 × ae UInt8 64 × Int × List UInt8) :=
  some (aW, ai, aj, av, aq, aO, ax, aB, aU, aP, ao, kJ, kK, kL, jJ, jK, a1, aN, ak, cS, cp, bJ, bd, bI)
noncomputable def vQ (bI : List UInt8) (kJ : Int) (kK : Int) (kL : UInt32) (jJ : UInt64) (jK : Bool) (a1 : List UInt8) (aN : List UInt8) (ak : List UInt8) (aO : Int) (ax : Int) (aB : List UInt8) (aU : List UInt8) (aP : Bool) (ao : UInt64) (aW : ae UInt64 8) (ai : UInt64) (aj : UInt64) (av : List UInt8) (aq : Int) (cS : List UInt8) (cp : UInt64) (bJ : ae UInt8 64) (bd : Int) : Option (ae UInt64 8 × UInt64 × UInt64 × List UInt8 × Int × Int × Int × List UInt8 × List UInt8 × Bool × UInt64 × Int × Int × UInt32 × UInt64 × Bool × List UInt8 × List UInt8 × List UInt8 × List UInt8 × UInt64 × ae UInt8 64 × Int × List UInt8) :=
  (vP bI kJ kK kL jJ jK a1 aN ak aO ax aB aU aP ao aW ai aj av aq cS cp bJ bd).bind fun r_ => (rJ).bind fun ah => some (r_.1, r_.2.1, r_.2.2.1, r_.2.2.2.1, r_.2.2.2.2.1, r_.2.2.2.2.2.1, r_.2.2.2.2.2.2.1, r_.2.2.2.2.2.2.2.1, r_.2.2.2.2.2.2.2.2.1, r_.2.2.2.2.2.2.2.2.2.1, r_.2.2.2.2.2.2.2.2.2.2.1, r_.2.2.2.2.2.2.2.2.2.2.2.1, r_.2.2.2.2.2.2.2.2.2.2.2.2.1, r_.2.2.2.2.2.2.2.2.2.2.2.2.2.1, r_.2.2.2.2.2.2.2.2.2.2.2.2.2.2.1, r_.2.2.2.2.2.2.2.2.2.2.2.2.2.2.2.1, r_.2.2.2.2.2.2.2.2.2.2.2.2.2.2.2.2.1, r_.2.2.2.2.2.2.2.2.2.2.2.2.2.2.2.2.2.1, r_.2.2.2.2.2.2.2.2.2.2.2.2.2.2.2.2.2.2.1, r_.2.2.2.2.2.2.2.2.2.2.2.2.2.2.2.2.2.2.2.1, r_.2.2.2.2.2.2.2.2.2.2.2.2.2.2.2.2.2.2.2.2.1, r_.2.2.2.2.2.2.2.2.2.2.2.2.2.2.2.2.2.2.2.2.2.1, r_.2.2.2.2.2.2.2.2.2.2.2.2.2.2.2.2.2.2.2.2.2.2.1, r_.2.2.2.2.2.2.2.2.2.2.2.2.2.2.2.2.2.2.2.2.2.2.2)
noncomputable def vR (bI : List UInt8) (kJ : Int) (kK : Int) (kL : UInt32) (jJ : UInt64) (jK : Bool) (a1 : List UInt8) (aN : List UInt8) (ak : List UInt8) (aO : Int) (ax : Int) (aB : List UInt8) (aU : List UInt8) (aP : Bool) (ao : UInt64) (aW : ae UInt32 8) (ai : UInt64) (aj : UInt64) (av : List UInt8) (aq : Int) (cS : List UInt8) (cp : UInt64) (bJ : ae UInt8 64) (bd : Int) : Option (ae UInt32 8 × UInt64 × UInt64 × List UInt8 × Int × Int × Int × List UInt8 × List UInt8 × Bool × UInt64 × Int × Int × UInt32 × UInt64 × Bool × List UInt8 × List UInt8 × List UInt8 × List UInt8 × UInt64 × ae UInt8 64 × Int × List UInt8) :=
  some (aW, ai, aj, av, aq, aO, ax, aB, aU, aP, ao, kJ, kK, kL, jJ, jK, a1, aN, ak, cS, cp, bJ, bd, bI)
noncomputable def vS (bI : List UInt8) (kJ : Int) (kK : Int) (kL : UInt32) (jJ : UInt64) (jK : Bool) (a1 : List UInt8) (aN : List UInt8) (ak : List UInt8) (aO : Int) (ax : Int) (aB : List UInt8) (aU : List UInt8) (aP : Bool) (ao : UInt64) (aW : ae UInt32 8) (ai : UInt64) (aj : UInt64) (av : List UInt8) (aq : Int) (cS : List UInt8) (cp : UInt64) (bJ : ae UInt8 64) (bd : Int) : Option (ae UInt32 8 × UInt64 × UInt64 × List UInt8 × Int × Int × Int × List UInt8 × List UInt8 × Bool × UInt64 × Int × Int × UInt32 × UInt64 × Bool × List UInt8 × List UInt8 × List UInt8 × List UInt8 × UInt64 × ae UInt8 64 × Int × List UInt8) :=
  (vR bI kJ kK kL jJ jK a1 aN ak aO ax aB aU aP ao aW ai aj av aq cS cp bJ bd).bind fun r_ => (rJ).bind fun ah => some (r_.1, r_.2.1, r_.2.2.1, r_.2.2.2.1, r_.2.2.2.2.1, r_.2.2.2.2.2.1, r_.2.2.2.2.2.2.1, r_.2.2.2.2.2.2.2.1, r_.2.2.2.2.2.2.2.2.1, r_.2.2.2.2.2.2.2.2.2.1, r_.2.2.2.2.2.2.2.2.2.2.1, r_.2.2.2.2.2.2.2.2.2.2.2.1, r_.2.2.2.2.2.2.2.2.2.2.2.2.1, r_.2.2.2.2.2.2.2.2.2.2.2.2.2.1, r_.2.2.2.2.2.2.2.2.2.2.2.2.2.2.1, r_.2.2.2.2.2.2.2.2.2.2.2.2.2.2.2.1, r_.2.2.2.2.2.2.2.2.2.2.2.2.2.2.2.2.1, r_.2.2.2.2.2.2.2.2.2.2.2.2.2.2.2.2.2.1, r_.2.2.2.2.2.2.2.2.2.2.2.2.2.2.2.2.2.2.1, r_.2.2.2.2.2.2.2.2.2.2.2.2.2.2.2.2.2.2.2.1, r_.2.2.2.2.2.2.2.2.2.2.2.2.2.2.2.2.2.2.2.2.1, r_.2.2.2.2.2.2.2.2.2.2.2.2.2.2.2.2.2.2.2.2.2.1, r_.2.2.2.2.2.2.2.2.2.2.2.2.2.2.2.2.2.2.2.2.2.2.1, r_.2.2.2.2.2.2.2.2.2.2.2.2.2.2.2.2.2.2.2.2.2.2.2)
noncomputable def KH  : Option Bool :=
  (D9 ([] : List UInt8)).bind fun r_ => (Sum.elim (fun ah => some false) (Sum.elim (fun aX => if 0 ≠ 0 then (some false) else ((yg aX).bind fun nr => some (decide (7 = 251)))) (Sum.elim (fun eK => if 0 ≠ 0 then (some false) else ((vO eK.1 eK.2.1 eK.2.2.1 eK.2.2.2.1 eK.2.2.2.2.1 eK.2.2.2.2.2.1 eK.2.2.2.2.2.2.1 eK.2.2.2.2.2.2.2.1 eK.2.2.2.2.2.2.2.2.1 eK.2.2.2.2.2.2.2.2.2.1 (0 : UInt64) eK.2.2.2.2.2.2.2.2.2.2 (-1 : Int)).bind fun nV => some (decide (251 = 251)))) (Sum.elim (fun gl => if 0 ≠ 0 then (some false) else ((vQ gl.1 gl.2.1 gl.2.2.1 gl.2.2.2.1 gl.2.2.2.2.1 gl.2.2.2.2.2.1 gl.2.2.2.2.2.2.1 gl.2.2.2.2.2.2.2.1 gl.2.2.2.2.2.2.2.2.1 gl.2.2.2.2.2.2.2.2.2.1 gl.2.2.2.2.2.2.2.2.2.2.1 gl.2.2.2.2.2.2.2.2.2.2.2.1 gl.2.2.2.2.2.2.2.2.2.2.2.2.1 false (0 : UInt64) gl.2.2.2.2.2.2.2.2.2.2.2.2.2.1 gl.2.2.2.2.2.2.2.2.2.2.2.2.2.2.1 gl.2.2.2.2.2.2.2.2.2.2.2.2.2.2.2.1 gl.2.2.2.2.2.2.2.2.2.2.2.2.2.2.2.2.1 gl.2.2.2.2.2.2.2.2.2.2.2.2.2.2.2.2.2.1 gl.2.2.2.2.2.2.2.2.2.2.2.2.2.2.2.2.2.2.1 (0 : UInt64) gl.2.2.2.2.2.2.2.2.2.2.2.2.2.2.2.2.2.2.2 (-1 : Int)).bind fun ue => some (decide (251 = 251)))) (fun mA => if 0 ≠ 0 then (some false) else ((vS mA.1 mA.2.1 mA.2.2.1 mA.2.2.2.1 mA.2.2.2.2.1 mA.2.2.2.2.2.1 mA.2.2.2.2.2.2.1 mA.2.2.2.2.2.2.2.1 mA.2.2.2.2.2.2.2.2.1 mA.2.2.2.2.2.2.2.2.2.1 mA.2.2.2.2.2.2.2.2.2.2.1 mA.2.2.2.2.2.2.2.2.2.2.2.1 mA.2.2.2.2.2.2.2.2.2.2.2.2.1 false (0 : UInt64) mA.2.2.2.2.2.2.2.2.2.2.2.2.2.1 mA.2.2.2.2.2.2.2.2.2.2.2.2.2.2.1 mA.2.2.2.2.2.2.2.2.2.2.2.2.2.2.2.1 mA.2.2.2.2.2.2.2.2.2.2.2.2.2.2.2.2.1 mA.2.2.2.2.2.2.2.2.2.2.2.2.2.2.2.2.2.1 mA.2.2.2.2.2.2.2.2.2.2.2.2.2.2.2.2.2.2.1 (0 : UInt64) mA.2.2.2.2.2.2.2.2.2.2.2.2.2.2.2.2.2.2.2 (-1 : Int)).bind fun KI => some (decide (251 = 251)))))))) r_
noncomputable def nQ  : Option Unit :=
  some ()
noncomputable def xx (work : UInt64) : Option UInt64 :=
  (nQ).bind fun r_ => some work
noncomputable def yh  : Option Unit :=
  (xx (0 : UInt64)).bind fun r_ => some ()
noncomputable def EW (n : UInt64) : Option Unit :=
  (nQ).bind fun r_ => some ()
noncomputable def BX  : Option Unit :=
  some ()
noncomputable def EX  : Option Unit :=
  (yh).bind fun r_ => (BX).bind fun ah => some ()
noncomputable def DD  : Option Unit :=
  (nQ).bind fun r_ => some ()
noncomputable def Hn  : Option Unit :=
  some ()
noncomputable def Ba  : Option Unit :=
  (Hn).bind fun r_ => some ()
noncomputable def KJ  : Option Bool :=
  (Ba).bind fun r_ => (Ba).bind fun ah => some (decide ((0 : UInt64) = 0))
noncomputable def mF  : Option Unit :=
  some ()
noncomputable def o1  : Option Unit :=
  mF
noncomputable def jt (key : List UInt8) (dw : List UInt8) (bP : List UInt8) : Option Int :=
  some ((key.length : Nat) : Int)
noncomputable def nW (key : List UInt8) (dw : List UInt8) (bP : List UInt8) : Option Int :=
  (o1).bind fun r_ => if 64 < ((key.length : Nat) : Int) then (some (8 : Int)) else ((jt key dw bP).bind fun ah => (jz (1 : Int) (64 : Int) ah (1 : Int) (1 : Int) (0 : UInt32) (0 : UInt64) (4294967295 : UInt32) (0 : Int) (0 : Int) dw bP).bind fun aX => some aX)
noncomputable def mW (b : List UInt8) : Option (List UInt8) :=
  (app ([] : List UInt8) b 1).bind fun b1 => some b1
noncomputable def lu (cI : List UInt8) (bk : List UInt8) (al : List UInt8) (jB : UInt64) (fy : ae UInt8 64) (dP : Int) : Option (Int × Int × List UInt8 × List UInt8 × ae UInt64 8 × UInt64 × UInt64 × List UInt8 × Int × ae UInt8 64) :=
  (jt cI bk al).bind fun r_ => (mQ (1 : Int) (64 : Int) r_ (1 : Int) (1 : Int) (0 : UInt32) (0 : UInt64) (4294967295 : UInt32) (0 : Int) (0 : Int) bk al cI).bind fun ah => (Sum.elim (fun aX => none) (Sum.elim (fun eK => some (eK.1, eK.2.1, eK.2.2.1, eK.2.2.2.1, eK.2.2.2.2.1, eK.2.2.2.2.2.1, eK.2.2.2.2.2.2.1, eK.2.2.2.2.2.2.2.1, eK.2.2.2.2.2.2.2.2, fy)) (fun gl => none))) ah
noncomputable def sb (key : List UInt8) (dw : List UInt8) (bP : List UInt8) : Option (Int ⊕ (List UInt8 × List UInt8 × List UInt8 × Int × Int × List UInt8 × List UInt8 × ae UInt64 8 × UInt64 × UInt64 × List UInt8 × Int × ae UInt8 64)) :=
  (nW key dw bP).bind fun r_ => if r_ ≠ 0 then (some (Sum.inl r_)) else ((mW key).bind fun ah => (mW dw).bind fun aX => (mW bP).bind fun eK => (lu ah aX eK (0 : UInt64) (ae.rep 64 (0 : UInt8)) (0 : Int)).bind fun gl => some (Sum.inr (ah, aX, eK, gl.1, gl.2.1, gl.2.2.1, gl.2.2.2.1, gl.2.2.2.2.1, gl.2.2.2.2.2.1, gl.2.2.2.2.2.2.1, gl.2.2.2.2.2.2.2.1, gl.2.2.2.2.2.2.2.2.1, gl.2.2.2.2.2.2.2.2.2)))
noncomputable def nA (fT : List UInt8) : Option (Int ⊕ (List UInt8 × List UInt8 × List UInt8 × List UInt8 × Int × Int × List UInt8 × List UInt8 × ae UInt64 8 × UInt64 × UInt64 × List UInt8 × Int × ae UInt8 64)) :=
  if 64 < ((fT.length : Nat) : Int) then (some (Sum.inl (8 : Int))) else ((sb fT ([] : List UInt8) ([] : List UInt8)).bind fun r_ => (Sum.elim (fun ah => if ah ≠ 0 then (some (Sum.inl ah)) else none) (fun aX => (app ([] : List UInt8) fT 1).bind fun b0 => some (Sum.inr (b0, aX.1, aX.2.1, aX.2.2.1, aX.2.2.2.1, aX.2.2.2.2.1, aX.2.2.2.2.2.1, aX.2.2.2.2.2.2.1, aX.2.2.2.2.2.2.2.1, aX.2.2.2.2.2.2.2.2.1, aX.2.2.2.2.2.2.2.2.2.1, aX.2.2.2.2.2.2.2.2.2.2.1, aX.2.2.2.2.2.2.2.2.2.2.2.1, aX.2.2.2.2.2.2.2.2.2.2.2.2)))) r_)
noncomputable def ek (bI : List UInt8) (a1 : List UInt8) (aN : List UInt8) (ak : List UInt8) (aO : Int) (ax : Int) (aB : List UInt8) (aU : List UInt8) (aP : Bool) (ao : UInt64) (aW : ae UInt64 8) (ai : UInt64) (aj : UInt64) (av : List UInt8) (aq : Int) (cp : UInt64) (bJ : ae UInt8 64) (bd : Int) : Option (ae UInt64 8 × UInt64 × UInt64 × List UInt8 × Int × Int × Int × List UInt8 × List UInt8 × Bool × UInt64 × UInt64 × ae UInt8 64 × Int) :=
  some (aW, ai, aj, av, aq, aO, ax, aB, aU, aP, ao, cp, bJ, bd)
noncomputable def ji (cI : List UInt8) (bk : List UInt8) (al : List UInt8) (cq : Int) (bA : Int) (bN : List UInt8) (cR : List UInt8) (cr : Bool) (bh : UInt64) (dq : ae UInt64 8) (aG : UInt64) (aH : UInt64) (bw : List UInt8) (bj : Int) (jB : UInt64) (fy : ae UInt8 64) (dP : Int) : Option (ae UInt64 8 × UInt64 × UInt64 × List UInt8 × Int × Int × Int × List UInt8 × List UInt8 × Bool × UInt64 × UInt64 × ae UInt8 64 × Int) :=
  some (dq, aG, aH, bw, bj, cq, bA, bN, cR, cr, bh, jB, fy, dP)
noncomputable def j6 (cI : List UInt8) (bk : List UInt8) (al : List UInt8) (cq : Int) (bA : Int) (bN : List UInt8) (cR : List UInt8) (cr : Bool) (bh : UInt64) (dq : ae UInt64 8) (aG : UInt64) (aH : UInt64) (bw : List UInt8) (bj : Int) (jB : UInt64) (fy : ae UInt8 64) (dP : Int) : Option (ae UInt64 8 × UInt64 × UInt64 × List UInt8 × Int × Int × Int × List UInt8 × List UInt8 × Bool × UInt64 × List UInt8 × UInt64 × ae UInt8 64 × Int) :=
  (eJ cq bA bN cR cr bh dq aG aH bw bj (64 : Int)).bind fun r_ => (pr (r_.1 ≠ [])).bind fun u => some (r_.2.2.1, r_.2.2.2.1, r_.2.2.2.2.1, r_.2.2.2.2.2.1, r_.2.2.2.2.2.2.1, r_.2.2.2.2.2.2.2.1, r_.2.2.2.2.2.2.2.2.1, r_.2.2.2.2.2.2.2.2.2.1, r_.2.2.2.2.2.2.2.2.2.2.1, r_.2.2.2.2.2.2.2.2.2.2.2.1, r_.2.2.2.2.2.2.2.2.2.2.2.2, r_.1, jB, fy, dP)
noncomputable def iq (ra : ae UInt64 8) (bG : UInt64) (bH : UInt64) (cA : List UInt8) (aA : Int) : Option (ae UInt64 8 × UInt64 × UInt64 × List UInt8 × Int × ae UInt64 8 × UInt64 × UInt64 × List UInt8 × Int) :=
  (pr ((0 : Int) ≤ (0 : Int) ∧ ((0 : Int) : Int) ≤ aA ∧ Int.toNat aA * 1 ≤ 140737488355328)).bind fun u => (app (List.replicate (Int.toNat (0 : Int)) (0 : UInt8)) cA 1).bind fun b => some (ra, bG, bH, b, aA, ra, bG, bH, cA, aA)
noncomputable def kD (fJ : Int) (eD : Int) (cw : List UInt8) (dK : List UInt8) (jl : Bool) (ep : UInt64) (mD : ae UInt64 8) (dk : UInt64) (dm : UInt64) (fV : List UInt8) (fF : Int) : Option (Int × Int × List UInt8 × List UInt8 × Bool × UInt64 × ae UInt64 8 × UInt64 × UInt64 × List UInt8 × Int × ae UInt64 8 × UInt64 × UInt64 × List UInt8 × Int × Int × Int × Bool × UInt64) :=
  (js fJ eD cw dK jl ep mD dk dm fV fF).bind fun r_ => (iq r_.1 r_.2.1 r_.2.2.1 r_.2.2.2.1 r_.2.2.2.2.1).bind fun ah => some (r_.2.2.2.2.2.1, r_.2.2.2.2.2.2.1, r_.2.2.2.2.2.2.2.1, r_.2.2.2.2.2.2.2.2.1, r_.2.2.2.2.2.2.2.2.2.1, r_.2.2.2.2.2.2.2.2.2.2, ah.1, ah.2.1, ah.2.2.1, ah.2.2.2.1, ah.2.2.2.2.1, ah.2.2.2.2.2.1, ah.2.2.2.2.2.2.1, ah.2.2.2.2.2.2.2.1, ah.2.2.2.2.2.2.2.2.1, ah.2.2.2.2.2.2.2.2.2, r_.2.2.2.2.2.1, r_.2.2.2.2.2.2.1, r_.2.2.2.2.2.2.2.2.2.1, r_.2.2.2.2.2.2.2.2.2.2)
noncomputable def pF (jL : Int) (gG : Int) (fi : List UInt8) (iw : List UInt8) (jM : Bool) (fW : UInt64) (lv : ae UInt64 8) (ec : UInt64) (ed : UInt64) (eL : List UInt8) (fX : Int) (uT : UInt64) (p_ : ae UInt8 64) (mX : Int) (ee : Int) (dj : Int) (ef : Bool) (cL : UInt64) (eE : ae UInt64 8) (cb : UInt64) (cc : UInt64) (b_ : List UInt8) (cM : Int) (gH : UInt64) (fY : ae UInt8 64) (fo : Int) : Option (Int × Int × List UInt8 × List UInt8 × Bool × UInt64 × ae UInt64 8 × UInt64 × UInt64 × List UInt8 × Int × UInt64 × ae UInt8 64 × Int × ae UInt64 8 × UInt64 × UInt64 × List UInt8 × Int × Int × Int × Bool × UInt64 × UInt64 × ae UInt8 64 × Int) :=
  some (jL, gG, fi, iw, jM, fW, lv, ec, ed, eL, fX, uT, p_, mX, eE, cb, cc, b_, cM, ee, dj, ef, cL, gH, fY, fo)
noncomputable def sr (uU : List UInt8) (rK : List UInt8) (kM : List UInt8) (jL : Int) (gG : Int) (fi : List UInt8) (iw : List UInt8) (jM : Bool) (fW : UInt64) (lv : ae UInt64 8) (ec : UInt64) (ed : UInt64) (eL : List UInt8) (fX : Int) (uT : UInt64) (p_ : ae UInt8 64) (mX : Int) (jN : List UInt8) (iQ : List UInt8) (fK : List UInt8) (ee : Int) (dj : Int) (ef : Bool) (cL : UInt64) (eE : ae UInt64 8) (cb : UInt64) (cc : UInt64) (b_ : List UInt8) (cM : Int) (gH : UInt64) (fY : ae UInt8 64) (fo : Int) : Option (Int × Int × List UInt8 × List UInt8 × Bool × UInt64 × ae UInt64 8 × UInt64 × UInt64 × List UInt8 × Int × UInt64 × ae UInt8 64 × Int × ae UInt64 8 × UInt64 × UInt64 × List UInt8 × Int × Int × Int × Bool × UInt64 × UInt64 × ae UInt8 64 × Int) :=
  pF jL gG fi iw jM fW lv ec ed eL fX uT p_ mX ee dj ef cL eE cb cc b_ cM gH fY fo
noncomputable def hP (cI : List UInt8) (bk : List UInt8) (al : List UInt8) (cq : Int) (bA : Int) (bN : List UInt8) (cR : List UInt8) (cr : Bool) (bh : UInt64) (dq : ae UInt64 8) (aG : UInt64) (aH : UInt64) (bw : List UInt8) (bj : Int) (jB : UInt64) (fy : ae UInt8 64) (dP : Int) : Option (Int × Int × List UInt8 × List UInt8 × Bool × UInt64 × ae UInt64 8 × UInt64 × UInt64 × List UInt8 × Int × UInt64 × ae UInt8 64 × Int × ae UInt64 8 × UInt64 × UInt64 × List UInt8 × Int × Int × Int × Bool × UInt64 × UInt64 × ae UInt8 64 × Int) :=
  (ji cI bk al cq bA bN cR cr bh dq aG aH bw bj jB fy dP).bind fun r_ => (kD r_.2.2.2.2.2.1 r_.2.2.2.2.2.2.1 r_.2.2.2.2.2.2.2.1 r_.2.2.2.2.2.2.2.2.1 r_.2.2.2.2.2.2.2.2.2.1 r_.2.2.2.2.2.2.2.2.2.2.1 r_.1 r_.2.1 r_.2.2.1 r_.2.2.2.1 r_.2.2.2.2.1).bind fun ah => (sr cI bk al ah.1 ah.2.1 ah.2.2.1 ah.2.2.2.1 ah.2.2.2.2.1 ah.2.2.2.2.2.1 ah.2.2.2.2.2.2.1 ah.2.2.2.2.2.2.2.1 ah.2.2.2.2.2.2.2.2.1 ah.2.2.2.2.2.2.2.2.2.1 ah.2.2.2.2.2.2.2.2.2.2.1 r_.2.2.2.2.2.2.2.2.2.2.2.1 r_.2.2.2.2.2.2.2.2.2.2.2.2.1 r_.2.2.2.2.2.2.2.2.2.2.2.2.2 cI bk al ah.2.2.2.2.2.2.2.2.2.2.2.2.2.2.2.2.1 ah.2.2.2.2.2.2.2.2.2.2.2.2.2.2.2.2.2.1 ah.2.2.2.2.2.2.2.2.2.2.2.2.2.2.2.2.2.2.1 ah.2.2.2.2.2.2.2.2.2.2.2.2.2.2.2.2.2.2.2 ah.2.2.2.2.2.2.2.2.2.2.2.1 ah.2.2.2.2.2.2.2.2.2.2.2.2.1 ah.2.2.2.2.2.2.2.2.2.2.2.2.2.1 ah.2.2.2.2.2.2.2.2.2.2.2.2.2.2.1 ah.2.2.2.2.2.2.2.2.2.2.2.2.2.2.2.1 r_.2.2.2.2.2.2.2.2.2.2.2.1 r_.2.2.2.2.2.2.2.2.2.2.2.2.1 r_.2.2.2.2.2.2.2.2.2.2.2.2.2).bind fun aX => some (aX.1, aX.2.1, aX.2.2.1, aX.2.2.2.1, aX.2.2.2.2.1, aX.2.2.2.2.2.1, aX.2.2.2.2.2.2.1, aX.2.2.2.2.2.2.2.1, aX.2.2.2.2.2.2.2.2.1, aX.2.2.2.2.2.2.2.2.2.1, aX.2.2.2.2.2.2.2.2.2.2.1, aX.2.2.2.2.2.2.2.2.2.2.2.1, aX.2.2.2.2.2.2.2.2.2.2.2.2.1, aX.2.2.2.2.2.2.2.2.2.2.2.2.2.1, aX.2.2.2.2.2.2.2.2.2.2.2.2.2.2.1, aX.2.2.2.2.2.2.2.2.2.2.2.2.2.2.2.1, aX.2.2.2.2.2.2.2.2.2.2.2.2.2.2.2.2.1, aX.2.2.2.2.2.2.2.2.2.2.2.2.2.2.2.2.2.1, aX.2.2.2.2.2.2.2.2.2.2.2.2.2.2.2.2.2.2.1, aX.2.2.2.2.2.2.2.2.2.2.2.2.2.2.2.2.2.2.2.1, aX.2.2.2.2.2.2.2.2.2.2.2.2.2.2.2.2.2.2.2.2.1, aX.2.2.2.2.2.2.2.2.2.2.2.2.2.2.2.2.2.2.2.2.2.1, aX.2.2.2.2.2.2.2.2.2.2.2.2.2.2.2.2.2.2.2.2.2.2.1, aX.2.2.2.2.2.2.2.2.2.2.2.2.2.2.2.2.2.2.2.2.2.2.2.1, aX.2.2.2.2.2.2.2.2.2.2.2.2.2.2.2.2.2.2.2.2.2.2.2.2.1, aX.2.2.2.2.2.2.2.2.2.2.2.2.2.2.2.2.2.2.2.2.2.2.2.2.2)
noncomputable def iR (dw : List UInt8) (bP : List UInt8) (root : List UInt8) (i : UInt64) (p : Int) : Option (List UInt8) :=
  (oJ (1 : Int) p (0 : Int) (0 : Int) (0 : Int) (64 : UInt32) i (4294967295 : UInt32) (0 : Int) (64 : Int) dw bP ([] : List UInt8) false p root).bind fun r_ => some r_.1
noncomputable def gr (dw : List UInt8) (bP : List UInt8) (root : List UInt8) (i : UInt64) : Option (List UInt8) :=
  if ((274877906944 : UInt64) - (i * 64)) < 64 then (iR dw bP root i (aD ((274877906944 : UInt64) - (i * 64)).toNat)) else (iR dw bP root i (64 : Int))
noncomputable def iS (n0 : Int) (aL : UInt64) (out : List UInt8) (ny : ae UInt8 64) (tn : Int) : Option ((UInt64 × ae UInt8 64 × Int × List UInt8) ⊕ (List UInt8 × Int × ae UInt64 8 × UInt64 × UInt64 × List UInt8 × Int × Int × Int × List UInt8 × List UInt8 × Bool × UInt64 × List UInt8 × UInt64 × ae UInt8 64 × Int)) :=
  (x5 ny.l (aD (aL % 64).toNat) (aD ((aD (aL % 64).toNat) + (if aD (64 - (aD (aL % 64).toNat)) < aD (n0 - ((out.length : Nat) : Int)) then aD (64 - (aD (aL % 64).toNat)) else aD (n0 - ((out.length : Nat) : Int)))))).bind fun b => (app out b 1).bind fun zL => some (.inl (aL + (UInt64.ofInt (if aD (64 - (aD (aL % 64).toNat)) < aD (n0 - ((out.length : Nat) : Int)) then aD (64 - (aD (aL % 64).toNat)) else aD (n0 - ((out.length : Nat) : Int)))), ny, tn, zL))
noncomputable def gR (bk : List UInt8) (al : List UInt8) (ah : (ae UInt64 8 × UInt64 × UInt64 × List UInt8 × Int × Int × Int × List UInt8 × List UInt8 × Bool × UInt64 × List UInt8 × UInt64 × ae UInt8 64 × Int)) (n0 : Int) : (UInt64 × ae UInt8 64 × Int × List UInt8) → Option ((UInt64 × ae UInt8 64 × Int × List UInt8) ⊕ (List UInt8 × Int × ae UInt64 8 × UInt64 × UInt64 × List UInt8 × Int × Int × Int × List UInt8 × List UInt8 × Bool × UInt64 × List UInt8 × UInt64 × ae UInt8 64 × Int))
  | (aL, nw, lW, out) => if ((out.length : Nat) : Int) < n0 then (if lW ≠ (aD (aL / 64).toNat) then ((gr bk al ah.2.2.2.2.2.2.2.2.2.2.2.1 (aL / 64)).bind fun aX => iS n0 aL out (tT nw 0 64 aX) (aD (aL / 64).toNat)) else (iS n0 aL out nw lW)) else (Option.map Sum.inr (some (out, (0 : Int), ah.1, ah.2.1, ah.2.2.1, ah.2.2.2.1, ah.2.2.2.2.1, ah.2.2.2.2.2.1, ah.2.2.2.2.2.2.1, ah.2.2.2.2.2.2.2.1, ah.2.2.2.2.2.2.2.2.1, ah.2.2.2.2.2.2.2.2.2.1, ah.2.2.2.2.2.2.2.2.2.2.1, ah.2.2.2.2.2.2.2.2.2.2.2.1, aL, nw, lW)))
noncomputable def gS (bk : List UInt8) (al : List UInt8) (ah : (ae UInt64 8 × UInt64 × UInt64 × List UInt8 × Int × Int × Int × List UInt8 × List UInt8 × Bool × UInt64 × List UInt8 × UInt64 × ae UInt8 64 × Int)) (n0 : Int) : Option (List UInt8 × Int × ae UInt64 8 × UInt64 × UInt64 × List UInt8 × Int × Int × Int × List UInt8 × List UInt8 × Bool × UInt64 × List UInt8 × UInt64 × ae UInt8 64 × Int) :=
  cf (gR bk al ah n0) (ah.2.2.2.2.2.2.2.2.2.2.2.2.1, ah.2.2.2.2.2.2.2.2.2.2.2.2.2.1, ah.2.2.2.2.2.2.2.2.2.2.2.2.2.2, ([] : List UInt8))
noncomputable def j7 (cI : List UInt8) (bk : List UInt8) (al : List UInt8) (cq : Int) (bA : Int) (bN : List UInt8) (cR : List UInt8) (cr : Bool) (bh : UInt64) (dq : ae UInt64 8) (aG : UInt64) (aH : UInt64) (bw : List UInt8) (bj : Int) (jB : UInt64) (fy : ae UInt8 64) (dP : Int) : Option (List UInt8 × Int × ae UInt64 8 × UInt64 × UInt64 × List UInt8 × Int × Int × Int × List UInt8 × List UInt8 × Bool × UInt64 × List UInt8 × UInt64 × ae UInt8 64 × Int) :=
  (ji cI bk al cq bA bN cR cr bh dq aG aH bw bj jB fy dP).bind fun r_ => (j6 cI bk al r_.2.2.2.2.2.1 r_.2.2.2.2.2.2.1 r_.2.2.2.2.2.2.2.1 r_.2.2.2.2.2.2.2.2.1 r_.2.2.2.2.2.2.2.2.2.1 r_.2.2.2.2.2.2.2.2.2.2.1 r_.1 r_.2.1 r_.2.2.1 r_.2.2.2.1 r_.2.2.2.2.1 r_.2.2.2.2.2.2.2.2.2.2.2.1 r_.2.2.2.2.2.2.2.2.2.2.2.2.1 r_.2.2.2.2.2.2.2.2.2.2.2.2.2).bind fun ah => if ((274877906944 : UInt64) - ah.2.2.2.2.2.2.2.2.2.2.2.2.1) = 0 then (some (([] : List UInt8), (70 : Int), ah.1, ah.2.1, ah.2.2.1, ah.2.2.2.1, ah.2.2.2.2.1, ah.2.2.2.2.2.1, ah.2.2.2.2.2.2.1, ah.2.2.2.2.2.2.2.1, ah.2.2.2.2.2.2.2.2.1, ah.2.2.2.2.2.2.2.2.2.1, ah.2.2.2.2.2.2.2.2.2.2.1, ah.2.2.2.2.2.2.2.2.2.2.2.1, ah.2.2.2.2.2.2.2.2.2.2.2.2.1, ah.2.2.2.2.2.2.2.2.2.2.2.2.2.1, ah.2.2.2.2.2.2.2.2.2.2.2.2.2.2)) else (if ((274877906944 : UInt64) - ah.2.2.2.2.2.2.2.2.2.2.2.2.1) < (8 : UInt64) then (gS bk al ah (aD ((274877906944 : UInt64) - ah.2.2.2.2.2.2.2.2.2.2.2.2.1).toNat)) else (gS bk al ah (8 : Int)))
noncomputable def gy (tB : List UInt8) (o2 : List UInt8) (mY : List UInt8) (iT : List UInt8) (mc : Int) (ka : Int) (lx : List UInt8) (nB : List UInt8) (me : Bool) (jC : UInt64) (nC : ae UInt64 8) (gT : UInt64) (gW : UInt64) (ke : List UInt8) (jD : Int) (tC : UInt64) (rb : ae UInt8 64) (o3 : Int) (p : Int) : Option (UInt64 × ae UInt64 8 × UInt64 × UInt64 × List UInt8 × Int × Int × Int × List UInt8 × List UInt8 × Bool × UInt64 × List UInt8 × UInt64 × ae UInt8 64 × Int × Int) :=
  (j7 o2 mY iT mc ka lx nB me jC nC gT gW ke jD tC rb o3).bind fun r_ => if r_.2.1 ≠ 0 then (some ((0 : UInt64), r_.2.2.1, r_.2.2.2.1, r_.2.2.2.2.1, r_.2.2.2.2.2.1, r_.2.2.2.2.2.2.1, r_.2.2.2.2.2.2.2.1, r_.2.2.2.2.2.2.2.2.1, r_.2.2.2.2.2.2.2.2.2.1, r_.2.2.2.2.2.2.2.2.2.2.1, r_.2.2.2.2.2.2.2.2.2.2.2.1, r_.2.2.2.2.2.2.2.2.2.2.2.2.1, r_.2.2.2.2.2.2.2.2.2.2.2.2.2.1, r_.2.2.2.2.2.2.2.2.2.2.2.2.2.2.1, r_.2.2.2.2.2.2.2.2.2.2.2.2.2.2.2.1, r_.2.2.2.2.2.2.2.2.2.2.2.2.2.2.2.2, (6 : Int))) else ((iM r_.1 (0 : Int)).bind fun ah => some (ah.1, r_.2.2.1, r_.2.2.2.1, r_.2.2.2.2.1, r_.2.2.2.2.2.1, r_.2.2.2.2.2.2.1, r_.2.2.2.2.2.2.2.1, r_.2.2.2.2.2.2.2.2.1, r_.2.2.2.2.2.2.2.2.2.1, r_.2.2.2.2.2.2.2.2.2.2.1, r_.2.2.2.2.2.2.2.2.2.2.2.1, r_.2.2.2.2.2.2.2.2.2.2.2.2.1, r_.2.2.2.2.2.2.2.2.2.2.2.2.2.1, r_.2.2.2.2.2.2.2.2.2.2.2.2.2.2.1, r_.2.2.2.2.2.2.2.2.2.2.2.2.2.2.2.1, r_.2.2.2.2.2.2.2.2.2.2.2.2.2.2.2.2, p))
noncomputable def jO (er : List UInt8) (dJ : List UInt8) (cW : List UInt8) (bL : List UInt8) (dQ : Int) (cZ : Int) (dz : List UInt8) (et : List UInt8) (dT : Bool) (cG : UInt64) (eu : ae UInt64 8) (b8 : UInt64) (b9 : UInt64) (c_ : List UInt8) (cH : Int) (gX : UInt64) (gd : ae UInt8 64) (fp : Int) (draw : Int) (p : UInt64) : Option (ae UInt64 8 × UInt64 × UInt64 × List UInt8 × Int × Int × Int × List UInt8 × List UInt8 × Bool × UInt64 × List UInt8 × UInt64 × ae UInt8 64 × Int × Int × UInt64) :=
  (gy er dJ cW bL dQ cZ dz et dT cG eu b8 b9 c_ cH gX gd fp draw).bind fun r_ => some (r_.2.1, r_.2.2.1, r_.2.2.2.1, r_.2.2.2.2.1, r_.2.2.2.2.2.1, r_.2.2.2.2.2.2.1, r_.2.2.2.2.2.2.2.1, r_.2.2.2.2.2.2.2.2.1, r_.2.2.2.2.2.2.2.2.2.1, r_.2.2.2.2.2.2.2.2.2.2.1, r_.2.2.2.2.2.2.2.2.2.2.2.1, r_.2.2.2.2.2.2.2.2.2.2.2.2.1, r_.2.2.2.2.2.2.2.2.2.2.2.2.2.1, r_.2.2.2.2.2.2.2.2.2.2.2.2.2.2.1, r_.2.2.2.2.2.2.2.2.2.2.2.2.2.2.2.1, r_.2.2.2.2.2.2.2.2.2.2.2.2.2.2.2.2, r_.1)
noncomputable def vT (bI : List UInt8) (a1 : List UInt8) (aN : List UInt8) (ak : List UInt8) (aO : Int) (ax : Int) (aB : List UInt8) (aU : List UInt8) (aP : Bool) (ao : UInt64) (aW : ae UInt64 8) (ai : UInt64) (aj : UInt64) (av : List UInt8) (aq : Int) (cp : UInt64) (bJ : ae UInt8 64) (bd : Int) (work : UInt64) : Option (Int × ae UInt64 8 × UInt64 × UInt64 × List UInt8 × Int × Int × Int × List UInt8 × List UInt8 × Bool × UInt64 × List UInt8 × UInt64 × ae UInt8 64 × Int × UInt64) :=
  (ek bI a1 aN ak aO ax aB aU aP ao aW ai aj av aq cp bJ bd).bind fun r_ => (hP a1 aN ak r_.2.2.2.2.2.1 r_.2.2.2.2.2.2.1 r_.2.2.2.2.2.2.2.1 r_.2.2.2.2.2.2.2.2.1 r_.2.2.2.2.2.2.2.2.2.1 r_.2.2.2.2.2.2.2.2.2.2.1 r_.1 r_.2.1 r_.2.2.1 r_.2.2.2.1 r_.2.2.2.2.1 r_.2.2.2.2.2.2.2.2.2.2.2.1 r_.2.2.2.2.2.2.2.2.2.2.2.2.1 r_.2.2.2.2.2.2.2.2.2.2.2.2.2).bind fun ah => (jO bI a1 aN ak ah.2.2.2.2.2.2.2.2.2.2.2.2.2.2.2.2.2.2.2.1 ah.2.2.2.2.2.2.2.2.2.2.2.2.2.2.2.2.2.2.2.2.1 ah.2.2.1 ah.2.2.2.1 ah.2.2.2.2.2.2.2.2.2.2.2.2.2.2.2.2.2.2.2.2.2.1 ah.2.2.2.2.2.2.2.2.2.2.2.2.2.2.2.2.2.2.2.2.2.2.1 ah.2.2.2.2.2.2.2.2.2.2.2.2.2.2.1 ah.2.2.2.2.2.2.2.2.2.2.2.2.2.2.2.1 ah.2.2.2.2.2.2.2.2.2.2.2.2.2.2.2.2.1 ah.2.2.2.2.2.2.2.2.2.2.2.2.2.2.2.2.2.1 ah.2.2.2.2.2.2.2.2.2.2.2.2.2.2.2.2.2.2.1 ah.2.2.2.2.2.2.2.2.2.2.2.2.2.2.2.2.2.2.2.2.2.2.2.1 ah.2.2.2.2.2.2.2.2.2.2.2.2.2.2.2.2.2.2.2.2.2.2.2.2.1 ah.2.2.2.2.2.2.2.2.2.2.2.2.2.2.2.2.2.2.2.2.2.2.2.2.2 (0 : Int) work).bind fun aX => if aX.2.2.2.2.2.2.2.2.2.2.2.2.2.2.2.1 ≠ 0 then none else (some (aX.2.2.2.2.2.2.2.2.2.2.2.2.2.2.2.1, aX.1, aX.2.1, aX.2.2.1, aX.2.2.2.1, aX.2.2.2.2.1, aX.2.2.2.2.2.1, aX.2.2.2.2.2.2.1, aX.2.2.2.2.2.2.2.1, aX.2.2.2.2.2.2.2.2.1, aX.2.2.2.2.2.2.2.2.2.1, aX.2.2.2.2.2.2.2.2.2.2.1, aX.2.2.2.2.2.2.2.2.2.2.2.1, aX.2.2.2.2.2.2.2.2.2.2.2.2.1, aX.2.2.2.2.2.2.2.2.2.2.2.2.2.1, aX.2.2.2.2.2.2.2.2.2.2.2.2.2.2.1, aX.2.2.2.2.2.2.2.2.2.2.2.2.2.2.2.2))
noncomputable def D_ (bI : List UInt8) (a1 : List UInt8) (aN : List UInt8) (ak : List UInt8) (aO : Int) (ax : Int) (aB : List UInt8) (aU : List UInt8) (aP : Bool) (ao : UInt64) (aW : ae UInt64 8) (ai : UInt64) (aj : UInt64) (av : List UInt8) (aq : Int) (cp : UInt64) (bJ : ae UInt8 64) (bd : Int) : Option (UInt64 × Int × ae UInt64 8 × UInt64 × UInt64 × List UInt8 × Int × Int × Int × List UInt8 × List UInt8 × Bool × UInt64 × List UInt8 × UInt64 × ae UInt8 64 × Int) :=
  (vT bI a1 aN ak aO ax aB aU aP ao aW ai aj av aq cp bJ bd (0 : UInt64)).bind fun r_ => if r_.1 ≠ 0 then (some ((0 : UInt64), r_.1, r_.2.1, r_.2.2.1, r_.2.2.2.1, r_.2.2.2.2.1, r_.2.2.2.2.2.1, r_.2.2.2.2.2.2.1, r_.2.2.2.2.2.2.2.1, r_.2.2.2.2.2.2.2.2.1, r_.2.2.2.2.2.2.2.2.2.1, r_.2.2.2.2.2.2.2.2.2.2.1, r_.2.2.2.2.2.2.2.2.2.2.2.1, r_.2.2.2.2.2.2.2.2.2.2.2.2.1, r_.2.2.2.2.2.2.2.2.2.2.2.2.2.1, r_.2.2.2.2.2.2.2.2.2.2.2.2.2.2.1, r_.2.2.2.2.2.2.2.2.2.2.2.2.2.2.2.1)) else (some (r_.2.2.2.2.2.2.2.2.2.2.2.2.2.2.2.2, (0 : Int), r_.2.1, r_.2.2.1, r_.2.2.2.1, r_.2.2.2.2.1, r_.2.2.2.2.2.1, r_.2.2.2.2.2.2.1, r_.2.2.2.2.2.2.2.1, r_.2.2.2.2.2.2.2.2.1, r_.2.2.2.2.2.2.2.2.2.1, r_.2.2.2.2.2.2.2.2.2.2.1, r_.2.2.2.2.2.2.2.2.2.2.2.1, r_.2.2.2.2.2.2.2.2.2.2.2.2.1, r_.2.2.2.2.2.2.2.2.2.2.2.2.2.1, r_.2.2.2.2.2.2.2.2.2.2.2.2.2.2.1, r_.2.2.2.2.2.2.2.2.2.2.2.2.2.2.2.1))
noncomputable def ig (bI : List UInt8) (a1 : List UInt8) (aN : List UInt8) (ak : List UInt8) (aO : Int) (ax : Int) (aB : List UInt8) (aU : List UInt8) (aP : Bool) (ao : UInt64) (aW : ae UInt64 8) (ai : UInt64) (aj : UInt64) (av : List UInt8) (aq : Int) (cS : List UInt8) (cp : UInt64) (bJ : ae UInt8 64) (bd : Int) : Option (ae UInt64 8 × UInt64 × UInt64 × List UInt8 × Int × Int × Int × List UInt8 × List UInt8 × Bool × UInt64 × UInt64 × ae UInt8 64 × Int) :=
  some (aW, ai, aj, av, aq, aO, ax, aB, aU, aP, ao, cp, bJ, bd)
noncomputable def gY (cI : List UInt8) (bk : List UInt8) (al : List UInt8) (cq : Int) (bA : Int) (bN : List UInt8) (cR : List UInt8) (cr : Bool) (bh : UInt64) (dq : ae UInt64 8) (aG : UInt64) (aH : UInt64) (bw : List UInt8) (bj : Int) (dN : List UInt8) (jB : UInt64) (fy : ae UInt8 64) (dP : Int) : Option (ae UInt64 8 × UInt64 × UInt64 × List UInt8 × Int × Int × Int × List UInt8 × List UInt8 × Bool × UInt64 × UInt64 × ae UInt8 64 × Int) :=
  some (dq, aG, aH, bw, bj, cq, bA, bN, cR, cr, bh, jB, fy, dP)
noncomputable def nR (jL : Int) (gG : Int) (fi : List UInt8) (iw : List UInt8) (jM : Bool) (fW : UInt64) (lv : ae UInt64 8) (ec : UInt64) (ed : UInt64) (eL : List UInt8) (fX : Int) (uT : UInt64) (p_ : ae UInt8 64) (mX : Int) (ee : Int) (dj : Int) (ef : Bool) (cL : UInt64) (eE : ae UInt64 8) (cb : UInt64) (cc : UInt64) (b_ : List UInt8) (cM : Int) (gH : UInt64) (fY : ae UInt8 64) (fo : Int) : Option (Int × Int × List UInt8 × List UInt8 × Bool × UInt64 × ae UInt64 8 × UInt64 × UInt64 × List UInt8 × Int × UInt64 × ae UInt8 64 × Int × ae UInt64 8 × UInt64 × UInt64 × List UInt8 × Int × Int × Int × Bool × UInt64 × UInt64 × ae UInt8 64 × Int) :=
  some (jL, gG, fi, iw, jM, fW, lv, ec, ed, eL, fX, uT, p_, mX, eE, cb, cc, b_, cM, ee, dj, ef, cL, gH, fY, fo)
noncomputable def pG (uU : List UInt8) (rK : List UInt8) (kM : List UInt8) (jL : Int) (gG : Int) (fi : List UInt8) (iw : List UInt8) (jM : Bool) (fW : UInt64) (lv : ae UInt64 8) (ec : UInt64) (ed : UInt64) (eL : List UInt8) (fX : Int) (yi : List UInt8) (uT : UInt64) (p_ : ae UInt8 64) (mX : Int) (jN : List UInt8) (iQ : List UInt8) (fK : List UInt8) (ee : Int) (dj : Int) (ef : Bool) (cL : UInt64) (eE : ae UInt64 8) (cb : UInt64) (cc : UInt64) (b_ : List UInt8) (cM : Int) (o4 : List UInt8) (gH : UInt64) (fY : ae UInt8 64) (fo : Int) : Option (Int × Int × List UInt8 × List UInt8 × Bool × UInt64 × ae UInt64 8 × UInt64 × UInt64 × List UInt8 × Int × UInt64 × ae UInt8 64 × Int × ae UInt64 8 × UInt64 × UInt64 × List UInt8 × Int × Int × Int × Bool × UInt64 × UInt64 × ae UInt8 64 × Int) :=
  nR jL gG fi iw jM fW lv ec ed eL fX uT p_ mX ee dj ef cL eE cb cc b_ cM gH fY fo
noncomputable def iU (cI : List UInt8) (bk : List UInt8) (al : List UInt8) (cq : Int) (bA : Int) (bN : List UInt8) (cR : List UInt8) (cr : Bool) (bh : UInt64) (dq : ae UInt64 8) (aG : UInt64) (aH : UInt64) (bw : List UInt8) (bj : Int) (dN : List UInt8) (jB : UInt64) (fy : ae UInt8 64) (dP : Int) : Option (Int × Int × List UInt8 × List UInt8 × Bool × UInt64 × ae UInt64 8 × UInt64 × UInt64 × List UInt8 × Int × UInt64 × ae UInt8 64 × Int × ae UInt64 8 × UInt64 × UInt64 × List UInt8 × Int × Int × Int × Bool × UInt64 × UInt64 × ae UInt8 64 × Int) :=
  (gY cI bk al cq bA bN cR cr bh dq aG aH bw bj dN jB fy dP).bind fun r_ => (kD r_.2.2.2.2.2.1 r_.2.2.2.2.2.2.1 r_.2.2.2.2.2.2.2.1 r_.2.2.2.2.2.2.2.2.1 r_.2.2.2.2.2.2.2.2.2.1 r_.2.2.2.2.2.2.2.2.2.2.1 r_.1 r_.2.1 r_.2.2.1 r_.2.2.2.1 r_.2.2.2.2.1).bind fun ah => (pG cI bk al ah.1 ah.2.1 ah.2.2.1 ah.2.2.2.1 ah.2.2.2.2.1 ah.2.2.2.2.2.1 ah.2.2.2.2.2.2.1 ah.2.2.2.2.2.2.2.1 ah.2.2.2.2.2.2.2.2.1 ah.2.2.2.2.2.2.2.2.2.1 ah.2.2.2.2.2.2.2.2.2.2.1 dN r_.2.2.2.2.2.2.2.2.2.2.2.1 r_.2.2.2.2.2.2.2.2.2.2.2.2.1 r_.2.2.2.2.2.2.2.2.2.2.2.2.2 cI bk al ah.2.2.2.2.2.2.2.2.2.2.2.2.2.2.2.2.1 ah.2.2.2.2.2.2.2.2.2.2.2.2.2.2.2.2.2.1 ah.2.2.2.2.2.2.2.2.2.2.2.2.2.2.2.2.2.2.1 ah.2.2.2.2.2.2.2.2.2.2.2.2.2.2.2.2.2.2.2 ah.2.2.2.2.2.2.2.2.2.2.2.1 ah.2.2.2.2.2.2.2.2.2.2.2.2.1 ah.2.2.2.2.2.2.2.2.2.2.2.2.2.1 ah.2.2.2.2.2.2.2.2.2.2.2.2.2.2.1 ah.2.2.2.2.2.2.2.2.2.2.2.2.2.2.2.1 dN r_.2.2.2.2.2.2.2.2.2.2.2.1 r_.2.2.2.2.2.2.2.2.2.2.2.2.1 r_.2.2.2.2.2.2.2.2.2.2.2.2.2).bind fun aX => some (aX.1, aX.2.1, aX.2.2.1, aX.2.2.2.1, aX.2.2.2.2.1, aX.2.2.2.2.2.1, aX.2.2.2.2.2.2.1, aX.2.2.2.2.2.2.2.1, aX.2.2.2.2.2.2.2.2.1, aX.2.2.2.2.2.2.2.2.2.1, aX.2.2.2.2.2.2.2.2.2.2.1, aX.2.2.2.2.2.2.2.2.2.2.2.1, aX.2.2.2.2.2.2.2.2.2.2.2.2.1, aX.2.2.2.2.2.2.2.2.2.2.2.2.2.1, aX.2.2.2.2.2.2.2.2.2.2.2.2.2.2.1, aX.2.2.2.2.2.2.2.2.2.2.2.2.2.2.2.1, aX.2.2.2.2.2.2.2.2.2.2.2.2.2.2.2.2.1, aX.2.2.2.2.2.2.2.2.2.2.2.2.2.2.2.2.2.1, aX.2.2.2.2.2.2.2.2.2.2.2.2.2.2.2.2.2.2.1, aX.2.2.2.2.2.2.2.2.2.2.2.2.2.2.2.2.2.2.2.1, aX.2.2.2.2.2.2.2.2.2.2.2.2.2.2.2.2.2.2.2.2.1, aX.2.2.2.2.2.2.2.2.2.2.2.2.2.2.2.2.2.2.2.2.2.1, aX.2.2.2.2.2.2.2.2.2.2.2.2.2.2.2.2.2.2.2.2.2.2.1, aX.2.2.2.2.2.2.2.2.2.2.2.2.2.2.2.2.2.2.2.2.2.2.2.1, aX.2.2.2.2.2.2.2.2.2.2.2.2.2.2.2.2.2.2.2.2.2.2.2.2.1, aX.2.2.2.2.2.2.2.2.2.2.2.2.2.2.2.2.2.2.2.2.2.2.2.2.2)
noncomputable def kf (cI : List UInt8) (bk : List UInt8) (al : List UInt8) (cq : Int) (bA : Int) (bN : List UInt8) (cR : List UInt8) (cr : Bool) (bh : UInt64) (dq : ae UInt64 8) (aG : UInt64) (aH : UInt64) (bw : List UInt8) (bj : Int) (dN : List UInt8) (jB : UInt64) (fy : ae UInt8 64) (dP : Int) : Option (ae UInt64 8 × UInt64 × UInt64 × List UInt8 × Int × Int × Int × List UInt8 × List UInt8 × Bool × UInt64 × UInt64 × ae UInt8 64 × Int) :=
  some (dq, aG, aH, bw, bj, cq, bA, bN, cR, cr, bh, jB, fy, dP)
noncomputable def hH (n0 : Int) (aL : UInt64) (out : List UInt8) (lW : ae UInt8 64) (ny : Int) : Option ((UInt64 × ae UInt8 64 × Int × List UInt8) ⊕ (List UInt8 × Int × ae UInt64 8 × UInt64 × UInt64 × List UInt8 × Int × Int × Int × List UInt8 × List UInt8 × Bool × UInt64 × UInt64 × ae UInt8 64 × Int)) :=
  (x5 lW.l (aD (aL % 64).toNat) (aD ((aD (aL % 64).toNat) + (if aD (64 - (aD (aL % 64).toNat)) < aD (n0 - ((out.length : Nat) : Int)) then aD (64 - (aD (aL % 64).toNat)) else aD (n0 - ((out.length : Nat) : Int)))))).bind fun b => (app out b 1).bind fun zL => some (.inl (aL + (UInt64.ofInt (if aD (64 - (aD (aL % 64).toNat)) < aD (n0 - ((out.length : Nat) : Int)) then aD (64 - (aD (aL % 64).toNat)) else aD (n0 - ((out.length : Nat) : Int)))), lW, ny, zL))
noncomputable def f_ (bk : List UInt8) (al : List UInt8) (dN : List UInt8) (ah : (ae UInt64 8 × UInt64 × UInt64 × List UInt8 × Int × Int × Int × List UInt8 × List UInt8 × Bool × UInt64 × UInt64 × ae UInt8 64 × Int)) (n0 : Int) : (UInt64 × ae UInt8 64 × Int × List UInt8) → Option ((UInt64 × ae UInt8 64 × Int × List UInt8) ⊕ (List UInt8 × Int × ae UInt64 8 × UInt64 × UInt64 × List UInt8 × Int × Int × Int × List UInt8 × List UInt8 × Bool × UInt64 × UInt64 × ae UInt8 64 × Int))
  | (aL, rW, nw, out) => if ((out.length : Nat) : Int) < n0 then (if nw ≠ (aD (aL / 64).toNat) then ((gr bk al dN (aL / 64)).bind fun aX => hH n0 aL out (tT rW 0 64 aX) (aD (aL / 64).toNat)) else (hH n0 aL out rW nw)) else (Option.map Sum.inr (some (out, (0 : Int), ah.1, ah.2.1, ah.2.2.1, ah.2.2.2.1, ah.2.2.2.2.1, ah.2.2.2.2.2.1, ah.2.2.2.2.2.2.1, ah.2.2.2.2.2.2.2.1, ah.2.2.2.2.2.2.2.2.1, ah.2.2.2.2.2.2.2.2.2.1, ah.2.2.2.2.2.2.2.2.2.2.1, aL, rW, nw)))
noncomputable def ga (bk : List UInt8) (al : List UInt8) (dN : List UInt8) (ah : (ae UInt64 8 × UInt64 × UInt64 × List UInt8 × Int × Int × Int × List UInt8 × List UInt8 × Bool × UInt64 × UInt64 × ae UInt8 64 × Int)) (n0 : Int) : Option (List UInt8 × Int × ae UInt64 8 × UInt64 × UInt64 × List UInt8 × Int × Int × Int × List UInt8 × List UInt8 × Bool × UInt64 × UInt64 × ae UInt8 64 × Int) :=
  cf (f_ bk al dN ah n0) (ah.2.2.2.2.2.2.2.2.2.2.2.1, ah.2.2.2.2.2.2.2.2.2.2.2.2.1, ah.2.2.2.2.2.2.2.2.2.2.2.2.2, ([] : List UInt8))
noncomputable def iV (cI : List UInt8) (bk : List UInt8) (al : List UInt8) (cq : Int) (bA : Int) (bN : List UInt8) (cR : List UInt8) (cr : Bool) (bh : UInt64) (dq : ae UInt64 8) (aG : UInt64) (aH : UInt64) (bw : List UInt8) (bj : Int) (dN : List UInt8) (jB : UInt64) (fy : ae UInt8 64) (dP : Int) : Option (List UInt8 × Int × ae UInt64 8 × UInt64 × UInt64 × List UInt8 × Int × Int × Int × List UInt8 × List UInt8 × Bool × UInt64 × UInt64 × ae UInt8 64 × Int) :=
  (gY cI bk al cq bA bN cR cr bh dq aG aH bw bj dN jB fy dP).bind fun r_ => (kf cI bk al r_.2.2.2.2.2.1 r_.2.2.2.2.2.2.1 r_.2.2.2.2.2.2.2.1 r_.2.2.2.2.2.2.2.2.1 r_.2.2.2.2.2.2.2.2.2.1 r_.2.2.2.2.2.2.2.2.2.2.1 r_.1 r_.2.1 r_.2.2.1 r_.2.2.2.1 r_.2.2.2.2.1 dN r_.2.2.2.2.2.2.2.2.2.2.2.1 r_.2.2.2.2.2.2.2.2.2.2.2.2.1 r_.2.2.2.2.2.2.2.2.2.2.2.2.2).bind fun ah => if ((274877906944 : UInt64) - ah.2.2.2.2.2.2.2.2.2.2.2.1) = 0 then (some (([] : List UInt8), (70 : Int), ah.1, ah.2.1, ah.2.2.1, ah.2.2.2.1, ah.2.2.2.2.1, ah.2.2.2.2.2.1, ah.2.2.2.2.2.2.1, ah.2.2.2.2.2.2.2.1, ah.2.2.2.2.2.2.2.2.1, ah.2.2.2.2.2.2.2.2.2.1, ah.2.2.2.2.2.2.2.2.2.2.1, ah.2.2.2.2.2.2.2.2.2.2.2.1, ah.2.2.2.2.2.2.2.2.2.2.2.2.1, ah.2.2.2.2.2.2.2.2.2.2.2.2.2)) else (if ((274877906944 : UInt64) - ah.2.2.2.2.2.2.2.2.2.2.2.1) < (8 : UInt64) then (ga bk al dN ah (aD ((274877906944 : UInt64) - ah.2.2.2.2.2.2.2.2.2.2.2.1).toNat)) else (ga bk al dN ah (8 : Int)))
noncomputable def fC (tB : List UInt8) (o2 : List UInt8) (mY : List UInt8) (iT : List UInt8) (mc : Int) (ka : Int) (lx : List UInt8) (nB : List UInt8) (me : Bool) (jC : UInt64) (nC : ae UInt64 8) (gT : UInt64) (gW : UInt64) (ke : List UInt8) (jD : Int) (uV : List UInt8) (tC : UInt64) (rb : ae UInt8 64) (o3 : Int) (p : Int) : Option (UInt64 × ae UInt64 8 × UInt64 × UInt64 × List UInt8 × Int × Int × Int × List UInt8 × List UInt8 × Bool × UInt64 × UInt64 × ae UInt8 64 × Int × Int) :=
  (iV o2 mY iT mc ka lx nB me jC nC gT gW ke jD uV tC rb o3).bind fun r_ => if r_.2.1 ≠ 0 then (some ((0 : UInt64), r_.2.2.1, r_.2.2.2.1, r_.2.2.2.2.1, r_.2.2.2.2.2.1, r_.2.2.2.2.2.2.1, r_.2.2.2.2.2.2.2.1, r_.2.2.2.2.2.2.2.2.1, r_.2.2.2.2.2.2.2.2.2.1, r_.2.2.2.2.2.2.2.2.2.2.1, r_.2.2.2.2.2.2.2.2.2.2.2.1, r_.2.2.2.2.2.2.2.2.2.2.2.2.1, r_.2.2.2.2.2.2.2.2.2.2.2.2.2.1, r_.2.2.2.2.2.2.2.2.2.2.2.2.2.2.1, r_.2.2.2.2.2.2.2.2.2.2.2.2.2.2.2, (6 : Int))) else ((iM r_.1 (0 : Int)).bind fun ah => some (ah.1, r_.2.2.1, r_.2.2.2.1, r_.2.2.2.2.1, r_.2.2.2.2.2.1, r_.2.2.2.2.2.2.1, r_.2.2.2.2.2.2.2.1, r_.2.2.2.2.2.2.2.2.1, r_.2.2.2.2.2.2.2.2.2.1, r_.2.2.2.2.2.2.2.2.2.2.1, r_.2.2.2.2.2.2.2.2.2.2.2.1, r_.2.2.2.2.2.2.2.2.2.2.2.2.1, r_.2.2.2.2.2.2.2.2.2.2.2.2.2.1, r_.2.2.2.2.2.2.2.2.2.2.2.2.2.2.1, r_.2.2.2.2.2.2.2.2.2.2.2.2.2.2.2, p))
noncomputable def jX (er : List UInt8) (dJ : List UInt8) (cW : List UInt8) (bL : List UInt8) (dQ : Int) (cZ : Int) (dz : List UInt8) (et : List UInt8) (dT : Bool) (cG : UInt64) (eu : ae UInt64 8) (b8 : UInt64) (b9 : UInt64) (c_ : List UInt8) (cH : Int) (qa : List UInt8) (gX : UInt64) (gd : ae UInt8 64) (fp : Int) (draw : Int) (p : UInt64) : Option (ae UInt64 8 × UInt64 × UInt64 × List UInt8 × Int × Int × Int × List UInt8 × List UInt8 × Bool × UInt64 × UInt64 × ae UInt8 64 × Int × Int × UInt64) :=
  (fC er dJ cW bL dQ cZ dz et dT cG eu b8 b9 c_ cH qa gX gd fp draw).bind fun r_ => some (r_.2.1, r_.2.2.1, r_.2.2.2.1, r_.2.2.2.2.1, r_.2.2.2.2.2.1, r_.2.2.2.2.2.2.1, r_.2.2.2.2.2.2.2.1, r_.2.2.2.2.2.2.2.2.1, r_.2.2.2.2.2.2.2.2.2.1, r_.2.2.2.2.2.2.2.2.2.2.1, r_.2.2.2.2.2.2.2.2.2.2.2.1, r_.2.2.2.2.2.2.2.2.2.2.2.2.1, r_.2.2.2.2.2.2.2.2.2.2.2.2.2.1, r_.2.2.2.2.2.2.2.2.2.2.2.2.2.2.1, r_.2.2.2.2.2.2.2.2.2.2.2.2.2.2.2, r_.1)
noncomputable def jk (mw : UInt64) (n2 : Int) : Option Int :=
  (aS ([0, 1, 2, 2, 3, 3, 3, 3, 4, 4, 4, 4, 4, 4, 4, 4, 5, 5, 5, 5, 5, 5, 5, 5, 5, 5, 5, 5, 5, 5, 5, 5, 6, 6, 6, 6, 6, 6, 6, 6, 6, 6, 6, 6, 6, 6, 6, 6, 6, 6, 6, 6, 6, 6, 6, 6, 6, 6, 6, 6, 6, 6, 6, 6, 7, 7, 7, 7, 7, 7, 7, 7, 7, 7, 7, 7, 7, 7, 7, 7, 7, 7, 7, 7, 7, 7, 7, 7, 7, 7, 7, 7, 7, 7, 7, 7, 7, 7, 7, 7, 7, 7, 7, 7, 7, 7, 7, 7, 7, 7, 7, 7, 7, 7, 7, 7, 7, 7, 7, 7, 7, 7, 7, 7, 7, 7, 7, 7, 8, 8, 8, 8, 8, 8, 8, 8, 8, 8, 8, 8, 8, 8, 8, 8, 8, 8, 8, 8, 8, 8, 8, 8, 8, 8, 8, 8, 8, 8, 8, 8, 8, 8, 8, 8, 8, 8, 8, 8, 8, 8, 8, 8, 8, 8, 8, 8, 8, 8, 8, 8, 8, 8, 8, 8, 8, 8, 8, 8, 8, 8, 8, 8, 8, 8, 8, 8, 8, 8, 8, 8, 8, 8, 8, 8, 8, 8, 8, 8, 8, 8, 8, 8, 8, 8, 8, 8, 8, 8, 8, 8, 8, 8, 8, 8, 8, 8, 8, 8, 8, 8, 8, 8, 8, 8, 8, 8, 8, 8, 8, 8, 8, 8, 8, 8, 8, 8, 8, 8, 8, 8, 8, 8, 8, 8, 8, 8] : List UInt8) ((UInt8.ofNat mw.toNat).toNat : Int)).bind fun c => some (aD (n2 + (c.toNat : Int)))
noncomputable def k9 (jT : UInt64) (n1 : Int) : Option Int :=
  if (256 : UInt64) ≤ jT then (jk (aK jT ((8 : UInt64).toNat)) (aD (n1 + 8))) else (jk jT n1)
noncomputable def la (eZ : UInt64) (n : Int) : Option Int :=
  if (65536 : UInt64) ≤ eZ then (k9 (aK eZ ((16 : UInt64).toNat)) (aD (n + 16))) else (k9 eZ n)
noncomputable def o5 (x_ : UInt64) : Option Int :=
  if (4294967296 : UInt64) ≤ x_ then (la (aK x_ ((32 : UInt64).toNat)) (32 : Int)) else (la x_ (0 : Int))
noncomputable def jo (x_ : UInt64) : Option Int :=
  (o5 x_).bind fun r_ => some (aD (64 - r_))
noncomputable def qG (hi : UInt64) (lo : UInt64) (y_ : UInt64) (r_ : Int) (q1 : UInt64) (q0 : UInt64) : Option (UInt64 × UInt64) :=
  some ((q1 * 4294967296) + q0, aK ((((((((aC hi ((UInt64.ofInt r_).toNat)) ||| (aK lo (((64 : UInt64) - (UInt64.ofInt r_)).toNat))) * 4294967296) + (aK (aC lo ((UInt64.ofInt r_).toNat)) ((32 : UInt64).toNat))) - (q1 * (aC y_ ((UInt64.ofInt r_).toNat)))) * 4294967296) + ((aC lo ((UInt64.ofInt r_).toNat)) &&& 4294967295)) - (q0 * (aC y_ ((UInt64.ofInt r_).toNat)))) ((UInt64.ofInt r_).toNat))
noncomputable def ov (hi : UInt64) (lo : UInt64) (y_ : UInt64) (r_ : Int) (q1 : UInt64) (Na : UInt64) : Option (UInt64 × UInt64) :=
  qG hi lo y_ r_ q1 Na
noncomputable def j1 (hi : UInt64) (lo : UInt64) (y_ : UInt64) (r_ : Int) (q1 : UInt64) : (UInt64 × UInt64) → Option ((UInt64 × UInt64) ⊕ (UInt64 × UInt64))
  | (sd, CI) => if ((decide ((4294967296 : UInt64) ≤ CI)) || (decide ((((4294967296 : UInt64) * sd) + ((aC lo ((UInt64.ofInt r_).toNat)) &&& 4294967295)) < (CI * ((aC y_ ((UInt64.ofInt r_).toNat)) &&& 4294967295))))) = true then (if (4294967296 : UInt64) ≤ (sd + (aK (aC y_ ((UInt64.ofInt r_).toNat)) ((32 : UInt64).toNat))) then (Option.map Sum.inr (ov hi lo y_ r_ q1 (CI - 1))) else (some (.inl (sd + (aK (aC y_ ((UInt64.ofInt r_).toNat)) ((32 : UInt64).toNat)), CI - 1)))) else (Option.map Sum.inr (ov hi lo y_ r_ q1 CI))
noncomputable def mo (hi : UInt64) (lo : UInt64) (y_ : UInt64) (r_ : Int) (q1 : UInt64) : Option (UInt64 × UInt64) :=
  (pr ((aK (aC y_ ((UInt64.ofInt r_).toNat)) ((32 : UInt64).toNat)) ≠ 0)).bind fun u3 => cf (j1 hi lo y_ r_ q1) ((((((aC hi ((UInt64.ofInt r_).toNat)) ||| (aK lo (((64 : UInt64) - (UInt64.ofInt r_)).toNat))) * 4294967296) + (aK (aC lo ((UInt64.ofInt r_).toNat)) ((32 : UInt64).toNat))) - (q1 * (aC y_ ((UInt64.ofInt r_).toNat)))) - (((((((aC hi ((UInt64.ofInt r_).toNat)) ||| (aK lo (((64 : UInt64) - (UInt64.ofInt r_)).toNat))) * 4294967296) + (aK (aC lo ((UInt64.ofInt r_).toNat)) ((32 : UInt64).toNat))) - (q1 * (aC y_ ((UInt64.ofInt r_).toNat)))) / (aK (aC y_ ((UInt64.ofInt r_).toNat)) ((32 : UInt64).toNat))) * (aK (aC y_ ((UInt64.ofInt r_).toNat)) ((32 : UInt64).toNat))), (((((aC hi ((UInt64.ofInt r_).toNat)) ||| (aK lo (((64 : UInt64) - (UInt64.ofInt r_)).toNat))) * 4294967296) + (aK (aC lo ((UInt64.ofInt r_).toNat)) ((32 : UInt64).toNat))) - (q1 * (aC y_ ((UInt64.ofInt r_).toNat)))) / (aK (aC y_ ((UInt64.ofInt r_).toNat)) ((32 : UInt64).toNat)))
noncomputable def lb (hi : UInt64) (lo : UInt64) (y_ : UInt64) (r_ : Int) (Nb : UInt64) : Option (UInt64 × UInt64) :=
  mo hi lo y_ r_ Nb
noncomputable def j2 (hi : UInt64) (lo : UInt64) (y_ : UInt64) (r_ : Int) : (UInt64 × UInt64) → Option ((UInt64 × UInt64) ⊕ (UInt64 × UInt64))
  | (CJ, l0) => if ((decide ((4294967296 : UInt64) ≤ CJ)) || (decide ((((4294967296 : UInt64) * l0) + (aK (aC lo ((UInt64.ofInt r_).toNat)) ((32 : UInt64).toNat))) < (CJ * ((aC y_ ((UInt64.ofInt r_).toNat)) &&& 4294967295))))) = true then (if (4294967296 : UInt64) ≤ (l0 + (aK (aC y_ ((UInt64.ofInt r_).toNat)) ((32 : UInt64).toNat))) then (Option.map Sum.inr (lb hi lo y_ r_ (CJ - 1))) else (some (.inl (CJ - 1, l0 + (aK (aC y_ ((UInt64.ofInt r_).toNat)) ((32 : UInt64).toNat)))))) else (Option.map Sum.inr (lb hi lo y_ r_ CJ))
noncomputable def ow (hi : UInt64) (lo : UInt64) (y_ : UInt64) : Option (UInt64 × UInt64) :=
  if hi = 0 then ((pr (y_ ≠ 0)).bind fun u => (pr (y_ ≠ 0)).bind fun u1 => some (lo / y_, lo % y_)) else ((jo y_).bind fun r_ => (pr ((aK (aC y_ ((UInt64.ofInt r_).toNat)) ((32 : UInt64).toNat)) ≠ 0)).bind fun u2 => cf (j2 hi lo y_ r_) (((aC hi ((UInt64.ofInt r_).toNat)) ||| (aK lo (((64 : UInt64) - (UInt64.ofInt r_)).toNat))) / (aK (aC y_ ((UInt64.ofInt r_).toNat)) ((32 : UInt64).toNat)), ((aC hi ((UInt64.ofInt r_).toNat)) ||| (aK lo (((64 : UInt64) - (UInt64.ofInt r_)).toNat))) - ((((aC hi ((UInt64.ofInt r_).toNat)) ||| (aK lo (((64 : UInt64) - (UInt64.ofInt r_)).toNat))) / (aK (aC y_ ((UInt64.ofInt r_).toNat)) ((32 : UInt64).toNat))) * (aK (aC y_ ((UInt64.ofInt r_).toNat)) ((32 : UInt64).toNat)))))
noncomputable def ox (hi : UInt64) (lo : UInt64) (y_ : UInt64) : Option (UInt64 × UInt64) :=
  if y_ ≤ hi then none else (ow hi lo y_)
noncomputable def o6 (hi : UInt64) (lo : UInt64) (y_ : UInt64) : Option (UInt64 × UInt64) :=
  if y_ = 0 then none else (ox hi lo y_)
noncomputable def iW (er : List UInt8) (dJ : List UInt8) (cW : List UInt8) (bL : List UInt8) (n : UInt64) (r_ : (UInt64 × UInt64)) (ah : (UInt64 × ae UInt64 8 × UInt64 × UInt64 × List UInt8 × Int × Int × Int × List UInt8 × List UInt8 × Bool × UInt64 × List UInt8 × UInt64 × ae UInt8 64 × Int × Int)) : (Int × Int × List UInt8 × List UInt8 × Bool × UInt64 × ae UInt64 8 × UInt64 × UInt64 × List UInt8 × Int × UInt64 × ae UInt8 64 × Int × Int × UInt64 × Int) → Option ((Int × Int × List UInt8 × List UInt8 × Bool × UInt64 × ae UInt64 8 × UInt64 × UInt64 × List UInt8 × Int × UInt64 × ae UInt8 64 × Int × Int × UInt64 × Int) ⊕ (UInt64 × ae UInt64 8 × UInt64 × UInt64 × List UInt8 × Int × Int × Int × List UInt8 × List UInt8 × Bool × UInt64 × List UInt8 × UInt64 × ae UInt8 64 × Int × Int))
  | (Bb, Bc, yL, yM, Bd, Be, Bf, Bg, Bh, uW, yj, yl, ym, yn, yo, l6, tries) => if (((decide (r_.2 ≠ 0)) && (decide (((0 - r_.2) - 1) < l6))) && (decide (tries < 64))) = true then ((fC er dJ cW bL Bb Bc yL yM Bd Be Bf Bg Bh uW yj ah.2.2.2.2.2.2.2.2.2.2.2.2.1 yl ym yn yo).bind fun aX => some (.inl (aX.2.2.2.2.2.2.1, aX.2.2.2.2.2.2.2.1, aX.2.2.2.2.2.2.2.2.1, aX.2.2.2.2.2.2.2.2.2.1, aX.2.2.2.2.2.2.2.2.2.2.1, aX.2.2.2.2.2.2.2.2.2.2.2.1, aX.2.1, aX.2.2.1, aX.2.2.2.1, aX.2.2.2.2.1, aX.2.2.2.2.2.1, aX.2.2.2.2.2.2.2.2.2.2.2.2.1, aX.2.2.2.2.2.2.2.2.2.2.2.2.2.1, aX.2.2.2.2.2.2.2.2.2.2.2.2.2.2.1, aX.2.2.2.2.2.2.2.2.2.2.2.2.2.2.2, aX.1, aD (tries + 1)))) else (Option.map Sum.inr ((pr (n ≠ 0)).bind fun u1 => some (l6 % n, Bf, Bg, Bh, uW, yj, Bb, Bc, yL, yM, Bd, Be, ah.2.2.2.2.2.2.2.2.2.2.2.2.1, yl, ym, yn, yo)))
noncomputable def mZ (er : List UInt8) (dJ : List UInt8) (cW : List UInt8) (bL : List UInt8) (dQ : Int) (cZ : Int) (dz : List UInt8) (et : List UInt8) (dT : Bool) (cG : UInt64) (eu : ae UInt64 8) (b8 : UInt64) (b9 : UInt64) (c_ : List UInt8) (cH : Int) (gX : UInt64) (gd : ae UInt8 64) (fp : Int) (draw : Int) (n : UInt64) : Option (UInt64 × ae UInt64 8 × UInt64 × UInt64 × List UInt8 × Int × Int × Int × List UInt8 × List UInt8 × Bool × UInt64 × List UInt8 × UInt64 × ae UInt8 64 × Int × Int) :=
  (pr (n ≠ 0)).bind fun u => (o6 ((1 : UInt64) % n) (0 : UInt64) n).bind fun r_ => (gy er dJ cW bL dQ cZ dz et dT cG eu b8 b9 c_ cH gX gd fp draw).bind fun ah => cf (iW er dJ cW bL n r_ ah) (ah.2.2.2.2.2.2.1, ah.2.2.2.2.2.2.2.1, ah.2.2.2.2.2.2.2.2.1, ah.2.2.2.2.2.2.2.2.2.1, ah.2.2.2.2.2.2.2.2.2.2.1, ah.2.2.2.2.2.2.2.2.2.2.2.1, ah.2.1, ah.2.2.1, ah.2.2.2.1, ah.2.2.2.2.1, ah.2.2.2.2.2.1, ah.2.2.2.2.2.2.2.2.2.2.2.2.2.1, ah.2.2.2.2.2.2.2.2.2.2.2.2.2.2.1, ah.2.2.2.2.2.2.2.2.2.2.2.2.2.2.2.1, ah.2.2.2.2.2.2.2.2.2.2.2.2.2.2.2.2, ah.1, (1 : Int))
noncomputable def EY (kH : Int) (kI : Int) (lr : UInt32) (jV : UInt64) (jW : Bool) (cI : List UInt8) (bk : List UInt8) (al : List UInt8) (cq : Int) (bA : Int) (bN : List UInt8) (cR : List UInt8) (cr : Bool) (bh : UInt64) (dq : ae UInt64 8) (aG : UInt64) (aH : UInt64) (bw : List UInt8) (bj : Int) (jB : UInt64) (fy : ae UInt8 64) (dP : Int) : Option (ae UInt64 8 × UInt64 × UInt64 × List UInt8 × Int × Int × Int × List UInt8 × List UInt8 × Bool × UInt64 × Int × Int × UInt32 × UInt64 × Bool × List UInt8 × List UInt8 × List UInt8 × UInt64 × ae UInt8 64 × Int) :=
  some (dq, aG, aH, bw, bj, cq, bA, bN, cR, cr, bh, kH, kI, lr, jV, jW, cI, bk, al, jB, fy, dP)
noncomputable def EZ (kH : Int) (kI : Int) (lr : UInt32) (jV : UInt64) (jW : Bool) (cI : List UInt8) (bk : List UInt8) (al : List UInt8) (cq : Int) (bA : Int) (bN : List UInt8) (cR : List UInt8) (cr : Bool) (bh : UInt64) (dq : ae UInt64 8) (aG : UInt64) (aH : UInt64) (bw : List UInt8) (bj : Int) (jB : UInt64) (fy : ae UInt8 64) (dP : Int) : Option (ae UInt64 8 × UInt64 × UInt64 × List UInt8 × Int × Int × Int × List UInt8 × List UInt8 × Bool × UInt64 × Int × Int × UInt32 × UInt64 × Bool × List UInt8 × List UInt8 × List UInt8 × List UInt8 × UInt64 × ae UInt8 64 × Int) :=
  (eJ cq bA bN cR cr bh dq aG aH bw bj kI).bind fun r_ => (pr (r_.1 ≠ [])).bind fun u => some (r_.2.2.1, r_.2.2.2.1, r_.2.2.2.2.1, r_.2.2.2.2.2.1, r_.2.2.2.2.2.2.1, r_.2.2.2.2.2.2.2.1, r_.2.2.2.2.2.2.2.2.1, r_.2.2.2.2.2.2.2.2.2.1, r_.2.2.2.2.2.2.2.2.2.2.1, r_.2.2.2.2.2.2.2.2.2.2.2.1, r_.2.2.2.2.2.2.2.2.2.2.2.2, kH, kI, lr, jV, jW, cI, bk, al, r_.1, jB, fy, dP)
noncomputable def uX (kH : Int) (kI : Int) (lr : UInt32) (jV : UInt64) (jW : Bool) (cI : List UInt8) (bk : List UInt8) (al : List UInt8) (cq : Int) (bA : Int) (bN : List UInt8) (cR : List UInt8) (cr : Bool) (bh : UInt64) (dq : ae UInt64 8) (aG : UInt64) (aH : UInt64) (bw : List UInt8) (bj : Int) (dN : List UInt8) (jB : UInt64) (fy : ae UInt8 64) (dP : Int) : Option (ae UInt64 8 × UInt64 × UInt64 × List UInt8 × Int × Int × Int × List UInt8 × List UInt8 × Bool × UInt64 × Int × Int × UInt32 × UInt64 × Bool × List UInt8 × List UInt8 × List UInt8 × UInt64 × ae UInt8 64 × Int) :=
  some (dq, aG, aH, bw, bj, cq, bA, bN, cR, cr, bh, kH, kI, lr, jV, jW, cI, bk, al, jB, fy, dP)
noncomputable def uY (kH : Int) (kI : Int) (lr : UInt32) (jV : UInt64) (jW : Bool) (cI : List UInt8) (bk : List UInt8) (al : List UInt8) (cq : Int) (bA : Int) (bN : List UInt8) (cR : List UInt8) (cr : Bool) (bh : UInt64) (dq : ae UInt64 8) (aG : UInt64) (aH : UInt64) (bw : List UInt8) (bj : Int) (dN : List UInt8) (jB : UInt64) (fy : ae UInt8 64) (dP : Int) : Option (ae UInt64 8 × UInt64 × UInt64 × List UInt8 × Int × Int × Int × List UInt8 × List UInt8 × Bool × UInt64 × Int × Int × UInt32 × UInt64 × Bool × List UInt8 × List UInt8 × List UInt8 × UInt64 × ae UInt8 64 × Int) :=
  some (dq, aG, aH, bw, bj, cq, bA, bN, cR, cr, bh, kH, kI, lr, jV, jW, cI, bk, al, jB, fy, dP)
noncomputable def qb (zK : Int) (rI : Int) (yd : UInt32) (dw : List UInt8) (bP : List UInt8) (root : List UInt8) (i : UInt64) (p : Int) : Option (List UInt8) :=
  (oJ zK p (0 : Int) (0 : Int) (0 : Int) (UInt32.ofInt rI) i yd (0 : Int) rI dw bP ([] : List UInt8) false p root).bind fun r_ => some r_.1
noncomputable def xy (zK : Int) (rI : Int) (yd : UInt32) (BW : UInt64) (Jw : Bool) (dw : List UInt8) (bP : List UInt8) (root : List UInt8) (i : UInt64) : Option (List UInt8) :=
  if (BW - (i * (UInt64.ofInt rI))) < (UInt64.ofInt rI) then (qb zK rI yd dw bP root i (aD (BW - (i * (UInt64.ofInt rI))).toNat)) else (qb zK rI yd dw bP root i rI)
noncomputable def qd (ah : (ae UInt64 8 × UInt64 × UInt64 × List UInt8 × Int × Int × Int × List UInt8 × List UInt8 × Bool × UInt64 × Int × Int × UInt32 × UInt64 × Bool × List UInt8 × List UInt8 × List UInt8 × UInt64 × ae UInt8 64 × Int)) (n8 : Int) (aL : UInt64) (out : List UInt8) (FZ : ae UInt8 64) (D5 : Int) : Option ((UInt64 × ae UInt8 64 × Int × List UInt8) ⊕ (List UInt8 × Int × ae UInt64 8 × UInt64 × UInt64 × List UInt8 × Int × Int × Int × List UInt8 × List UInt8 × Bool × UInt64 × Int × Int × UInt32 × UInt64 × Bool × List UInt8 × List UInt8 × List UInt8 × UInt64 × ae UInt8 64 × Int)) :=
  (pr ((UInt64.ofInt ah.2.2.2.2.2.2.2.2.2.2.2.2.1) ≠ 0)).bind fun u1 => (x5 FZ.l (aD (aL % (UInt64.ofInt ah.2.2.2.2.2.2.2.2.2.2.2.2.1)).toNat) (aD ((aD (aL % (UInt64.ofInt ah.2.2.2.2.2.2.2.2.2.2.2.2.1)).toNat) + (if aD (ah.2.2.2.2.2.2.2.2.2.2.2.2.1 - (aD (aL % (UInt64.ofInt ah.2.2.2.2.2.2.2.2.2.2.2.2.1)).toNat)) < aD (n8 - ((out.length : Nat) : Int)) then aD (ah.2.2.2.2.2.2.2.2.2.2.2.2.1 - (aD (aL % (UInt64.ofInt ah.2.2.2.2.2.2.2.2.2.2.2.2.1)).toNat)) else aD (n8 - ((out.length : Nat) : Int)))))).bind fun b => (app out b 1).bind fun zL => some (.inl (aL + (UInt64.ofInt (if aD (ah.2.2.2.2.2.2.2.2.2.2.2.2.1 - (aD (aL % (UInt64.ofInt ah.2.2.2.2.2.2.2.2.2.2.2.2.1)).toNat)) < aD (n8 - ((out.length : Nat) : Int)) then aD (ah.2.2.2.2.2.2.2.2.2.2.2.2.1 - (aD (aL % (UInt64.ofInt ah.2.2.2.2.2.2.2.2.2.2.2.2.1)).toNat)) else aD (n8 - ((out.length : Nat) : Int)))), FZ, D5, zL))
noncomputable def uZ (dN : List UInt8) (ah : (ae UInt64 8 × UInt64 × UInt64 × List UInt8 × Int × Int × Int × List UInt8 × List UInt8 × Bool × UInt64 × Int × Int × UInt32 × UInt64 × Bool × List UInt8 × List UInt8 × List UInt8 × UInt64 × ae UInt8 64 × Int)) (n8 : Int) : (UInt64 × ae UInt8 64 × Int × List UInt8) → Option ((UInt64 × ae UInt8 64 × Int × List UInt8) ⊕ (List UInt8 × Int × ae UInt64 8 × UInt64 × UInt64 × List UInt8 × Int × Int × Int × List UInt8 × List UInt8 × Bool × UInt64 × Int × Int × UInt32 × UInt64 × Bool × List UInt8 × List UInt8 × List UInt8 × UInt64 × ae UInt8 64 × Int))
  | (aL, tp, vM, out) => if ((out.length : Nat) : Int) < n8 then ((pr ((UInt64.ofInt ah.2.2.2.2.2.2.2.2.2.2.2.2.1) ≠ 0)).bind fun u => if vM ≠ (aD (aL / (UInt64.ofInt ah.2.2.2.2.2.2.2.2.2.2.2.2.1)).toNat) then ((xy ah.2.2.2.2.2.2.2.2.2.2.2.1 ah.2.2.2.2.2.2.2.2.2.2.2.2.1 ah.2.2.2.2.2.2.2.2.2.2.2.2.2.1 ah.2.2.2.2.2.2.2.2.2.2.2.2.2.2.1 ah.2.2.2.2.2.2.2.2.2.2.2.2.2.2.2.1 ah.2.2.2.2.2.2.2.2.2.2.2.2.2.2.2.2.2.1 ah.2.2.2.2.2.2.2.2.2.2.2.2.2.2.2.2.2.2.1 dN (aL / (UInt64.ofInt ah.2.2.2.2.2.2.2.2.2.2.2.2.1))).bind fun aX => qd ah n8 aL out (tT tp 0 64 aX) (aD (aL / (UInt64.ofInt ah.2.2.2.2.2.2.2.2.2.2.2.2.1)).toNat)) else (qd ah n8 aL out tp vM)) else (Option.map Sum.inr (some (out, (0 : Int), ah.1, ah.2.1, ah.2.2.1, ah.2.2.2.1, ah.2.2.2.2.1, ah.2.2.2.2.2.1, ah.2.2.2.2.2.2.1, ah.2.2.2.2.2.2.2.1, ah.2.2.2.2.2.2.2.2.1, ah.2.2.2.2.2.2.2.2.2.1, ah.2.2.2.2.2.2.2.2.2.2.1, ah.2.2.2.2.2.2.2.2.2.2.2.1, ah.2.2.2.2.2.2.2.2.2.2.2.2.1, ah.2.2.2.2.2.2.2.2.2.2.2.2.2.1, ah.2.2.2.2.2.2.2.2.2.2.2.2.2.2.1, ah.2.2.2.2.2.2.2.2.2.2.2.2.2.2.2.1, ah.2.2.2.2.2.2.2.2.2.2.2.2.2.2.2.2.1, ah.2.2.2.2.2.2.2.2.2.2.2.2.2.2.2.2.2.1, ah.2.2.2.2.2.2.2.2.2.2.2.2.2.2.2.2.2.2.1, aL, tp, vM)))
noncomputable def qf (dN : List UInt8) (ah : (ae UInt64 8 × UInt64 × UInt64 × List UInt8 × Int × Int × Int × List UInt8 × List UInt8 × Bool × UInt64 × Int × Int × UInt32 × UInt64 × Bool × List UInt8 × List UInt8 × List UInt8 × UInt64 × ae UInt8 64 × Int)) (n8 : Int) : Option (List UInt8 × Int × ae UInt64 8 × UInt64 × UInt64 × List UInt8 × Int × Int × Int × List UInt8 × List UInt8 × Bool × UInt64 × Int × Int × UInt32 × UInt64 × Bool × List UInt8 × List UInt8 × List UInt8 × UInt64 × ae UInt8 64 × Int) :=
  cf (uZ dN ah n8) (ah.2.2.2.2.2.2.2.2.2.2.2.2.2.2.2.2.2.2.2.1, ah.2.2.2.2.2.2.2.2.2.2.2.2.2.2.2.2.2.2.2.2.1, ah.2.2.2.2.2.2.2.2.2.2.2.2.2.2.2.2.2.2.2.2.2, ([] : List UInt8))
noncomputable def E0 (kH : Int) (kI : Int) (lr : UInt32) (jV : UInt64) (jW : Bool) (cI : List UInt8) (bk : List UInt8) (al : List UInt8) (cq : Int) (bA : Int) (bN : List UInt8) (cR : List UInt8) (cr : Bool) (bh : UInt64) (dq : ae UInt64 8) (aG : UInt64) (aH : UInt64) (bw : List UInt8) (bj : Int) (dN : List UInt8) (jB : UInt64) (fy : ae UInt8 64) (dP : Int) (n : Int) : Option (List UInt8 × Int × ae UInt64 8 × UInt64 × UInt64 × List UInt8 × Int × Int × Int × List UInt8 × List UInt8 × Bool × UInt64 × Int × Int × UInt32 × UInt64 × Bool × List UInt8 × List UInt8 × List UInt8 × UInt64 × ae UInt8 64 × Int) :=
  (uX kH kI lr jV jW cI bk al cq bA bN cR cr bh dq aG aH bw bj dN jB fy dP).bind fun r_ => if ((decide (n < 0)) || (decide (65536 < n))) = true then (some (([] : List UInt8), (1 : Int), r_.1, r_.2.1, r_.2.2.1, r_.2.2.2.1, r_.2.2.2.2.1, r_.2.2.2.2.2.1, r_.2.2.2.2.2.2.1, r_.2.2.2.2.2.2.2.1, r_.2.2.2.2.2.2.2.2.1, r_.2.2.2.2.2.2.2.2.2.1, r_.2.2.2.2.2.2.2.2.2.2.1, r_.2.2.2.2.2.2.2.2.2.2.2.1, r_.2.2.2.2.2.2.2.2.2.2.2.2.1, r_.2.2.2.2.2.2.2.2.2.2.2.2.2.1, r_.2.2.2.2.2.2.2.2.2.2.2.2.2.2.1, r_.2.2.2.2.2.2.2.2.2.2.2.2.2.2.2.1, r_.2.2.2.2.2.2.2.2.2.2.2.2.2.2.2.2.1, r_.2.2.2.2.2.2.2.2.2.2.2.2.2.2.2.2.2.1, r_.2.2.2.2.2.2.2.2.2.2.2.2.2.2.2.2.2.2.1, r_.2.2.2.2.2.2.2.2.2.2.2.2.2.2.2.2.2.2.2.1, r_.2.2.2.2.2.2.2.2.2.2.2.2.2.2.2.2.2.2.2.2.1, r_.2.2.2.2.2.2.2.2.2.2.2.2.2.2.2.2.2.2.2.2.2)) else ((uY r_.2.2.2.2.2.2.2.2.2.2.2.1 r_.2.2.2.2.2.2.2.2.2.2.2.2.1 r_.2.2.2.2.2.2.2.2.2.2.2.2.2.1 r_.2.2.2.2.2.2.2.2.2.2.2.2.2.2.1 r_.2.2.2.2.2.2.2.2.2.2.2.2.2.2.2.1 r_.2.2.2.2.2.2.2.2.2.2.2.2.2.2.2.2.1 r_.2.2.2.2.2.2.2.2.2.2.2.2.2.2.2.2.2.1 r_.2.2.2.2.2.2.2.2.2.2.2.2.2.2.2.2.2.2.1 r_.2.2.2.2.2.1 r_.2.2.2.2.2.2.1 r_.2.2.2.2.2.2.2.1 r_.2.2.2.2.2.2.2.2.1 r_.2.2.2.2.2.2.2.2.2.1 r_.2.2.2.2.2.2.2.2.2.2.1 r_.1 r_.2.1 r_.2.2.1 r_.2.2.2.1 r_.2.2.2.2.1 dN r_.2.2.2.2.2.2.2.2.2.2.2.2.2.2.2.2.2.2.2.1 r_.2.2.2.2.2.2.2.2.2.2.2.2.2.2.2.2.2.2.2.2.1 r_.2.2.2.2.2.2.2.2.2.2.2.2.2.2.2.2.2.2.2.2.2).bind fun ah => if ((decide (0 < n)) && (decide ((ah.2.2.2.2.2.2.2.2.2.2.2.2.2.2.1 - ah.2.2.2.2.2.2.2.2.2.2.2.2.2.2.2.2.2.2.2.1) = 0))) = true then (some (([] : List UInt8), (70 : Int), ah.1, ah.2.1, ah.2.2.1, ah.2.2.2.1, ah.2.2.2.2.1, ah.2.2.2.2.2.1, ah.2.2.2.2.2.2.1, ah.2.2.2.2.2.2.2.1, ah.2.2.2.2.2.2.2.2.1, ah.2.2.2.2.2.2.2.2.2.1, ah.2.2.2.2.2.2.2.2.2.2.1, ah.2.2.2.2.2.2.2.2.2.2.2.1, ah.2.2.2.2.2.2.2.2.2.2.2.2.1, ah.2.2.2.2.2.2.2.2.2.2.2.2.2.1, ah.2.2.2.2.2.2.2.2.2.2.2.2.2.2.1, ah.2.2.2.2.2.2.2.2.2.2.2.2.2.2.2.1, ah.2.2.2.2.2.2.2.2.2.2.2.2.2.2.2.2.1, ah.2.2.2.2.2.2.2.2.2.2.2.2.2.2.2.2.2.1, ah.2.2.2.2.2.2.2.2.2.2.2.2.2.2.2.2.2.2.1, ah.2.2.2.2.2.2.2.2.2.2.2.2.2.2.2.2.2.2.2.1, ah.2.2.2.2.2.2.2.2.2.2.2.2.2.2.2.2.2.2.2.2.1, ah.2.2.2.2.2.2.2.2.2.2.2.2.2.2.2.2.2.2.2.2.2)) else (if (ah.2.2.2.2.2.2.2.2.2.2.2.2.2.2.1 - ah.2.2.2.2.2.2.2.2.2.2.2.2.2.2.2.2.2.2.2.1) < (UInt64.ofInt n) then (qf dN ah (aD (ah.2.2.2.2.2.2.2.2.2.2.2.2.2.2.1 - ah.2.2.2.2.2.2.2.2.2.2.2.2.2.2.2.2.2.2.2.1).toNat)) else (qf dN ah n)))
noncomputable def mG  : Option (List Int × Nat) :=
  some (([] : List Int), 0)
noncomputable def lO (bI : List UInt8) (a1 : List UInt8) (aN : List UInt8) (ak : List UInt8) (aO : Int) (ax : Int) (aB : List UInt8) (aU : List UInt8) (aP : Bool) (ao : UInt64) (aW : ae UInt64 8) (ai : UInt64) (aj : UInt64) (av : List UInt8) (aq : Int) (cp : UInt64) (bJ : ae UInt8 64) (bd : Int) : Option (ae UInt64 8 × UInt64 × UInt64 × List UInt8 × Int × Int × Int × List UInt8 × List UInt8 × Bool × UInt64 × UInt64 × ae UInt8 64 × Int) :=
  (ek bI a1 aN ak aO ax aB aU aP ao aW ai aj av aq cp bJ bd).bind fun r_ => (mG).bind fun ah => some (r_.1, r_.2.1, r_.2.2.1, r_.2.2.2.1, r_.2.2.2.2.1, r_.2.2.2.2.2.1, r_.2.2.2.2.2.2.1, r_.2.2.2.2.2.2.2.1, r_.2.2.2.2.2.2.2.2.1, r_.2.2.2.2.2.2.2.2.2.1, r_.2.2.2.2.2.2.2.2.2.2.1, r_.2.2.2.2.2.2.2.2.2.2.2.1, r_.2.2.2.2.2.2.2.2.2.2.2.2.1, r_.2.2.2.2.2.2.2.2.2.2.2.2.2)
noncomputable def na  : Option Bool :=
  (nA ([] : List UInt8)).bind fun r_ => (Sum.elim (fun ah => some false) (fun aX => (lO aX.1 aX.2.1 aX.2.2.1 aX.2.2.2.1 aX.2.2.2.2.1 aX.2.2.2.2.2.1 aX.2.2.2.2.2.2.1 aX.2.2.2.2.2.2.2.1 false (0 : UInt64) aX.2.2.2.2.2.2.2.2.1 aX.2.2.2.2.2.2.2.2.2.1 aX.2.2.2.2.2.2.2.2.2.2.1 aX.2.2.2.2.2.2.2.2.2.2.2.1 aX.2.2.2.2.2.2.2.2.2.2.2.2.1 (0 : UInt64) aX.2.2.2.2.2.2.2.2.2.2.2.2.2 (-1 : Int)).bind fun eK => some true)) r_
noncomputable def kT (er : List UInt8) (dJ : List UInt8) (cW : List UInt8) (bL : List UInt8) (dQ : Int) (cZ : Int) (dz : List UInt8) (et : List UInt8) (dT : Bool) (cG : UInt64) (eu : ae UInt64 8) (b8 : UInt64) (b9 : UInt64) (c_ : List UInt8) (cH : Int) (gX : UInt64) (gd : ae UInt8 64) (fp : Int) (draw : Int) (p : UInt64) (p1 : UInt64) : Option (ae UInt64 8 × UInt64 × UInt64 × List UInt8 × Int × Int × Int × List UInt8 × List UInt8 × Bool × UInt64 × List UInt8 × UInt64 × ae UInt8 64 × Int × Int × UInt64 × UInt64) :=
  (mZ er dJ cW bL dQ cZ dz et dT cG eu b8 b9 c_ cH gX gd fp draw p).bind fun r_ => some (r_.2.1, r_.2.2.1, r_.2.2.2.1, r_.2.2.2.2.1, r_.2.2.2.2.2.1, r_.2.2.2.2.2.2.1, r_.2.2.2.2.2.2.2.1, r_.2.2.2.2.2.2.2.2.1, r_.2.2.2.2.2.2.2.2.2.1, r_.2.2.2.2.2.2.2.2.2.2.1, r_.2.2.2.2.2.2.2.2.2.2.2.1, r_.2.2.2.2.2.2.2.2.2.2.2.2.1, r_.2.2.2.2.2.2.2.2.2.2.2.2.2.1, r_.2.2.2.2.2.2.2.2.2.2.2.2.2.2.1, r_.2.2.2.2.2.2.2.2.2.2.2.2.2.2.2.1, r_.2.2.2.2.2.2.2.2.2.2.2.2.2.2.2.2, p, r_.1)
noncomputable def ly (bI : List UInt8) (a1 : List UInt8) (aN : List UInt8) (ak : List UInt8) (aO : Int) (ax : Int) (aB : List UInt8) (aU : List UInt8) (aP : Bool) (ao : UInt64) (aW : ae UInt64 8) (ai : UInt64) (aj : UInt64) (av : List UInt8) (aq : Int) (cp : UInt64) (bJ : ae UInt8 64) (bd : Int) (work : UInt64) (E1 : UInt64) : Option (Int × ae UInt64 8 × UInt64 × UInt64 × List UInt8 × Int × Int × Int × List UInt8 × List UInt8 × Bool × UInt64 × List UInt8 × UInt64 × ae UInt8 64 × Int × UInt64 × UInt64) :=
  (ek bI a1 aN ak aO ax aB aU aP ao aW ai aj av aq cp bJ bd).bind fun r_ => (hP a1 aN ak r_.2.2.2.2.2.1 r_.2.2.2.2.2.2.1 r_.2.2.2.2.2.2.2.1 r_.2.2.2.2.2.2.2.2.1 r_.2.2.2.2.2.2.2.2.2.1 r_.2.2.2.2.2.2.2.2.2.2.1 r_.1 r_.2.1 r_.2.2.1 r_.2.2.2.1 r_.2.2.2.2.1 r_.2.2.2.2.2.2.2.2.2.2.2.1 r_.2.2.2.2.2.2.2.2.2.2.2.2.1 r_.2.2.2.2.2.2.2.2.2.2.2.2.2).bind fun ah => (kT bI a1 aN ak ah.2.2.2.2.2.2.2.2.2.2.2.2.2.2.2.2.2.2.2.1 ah.2.2.2.2.2.2.2.2.2.2.2.2.2.2.2.2.2.2.2.2.1 ah.2.2.1 ah.2.2.2.1 ah.2.2.2.2.2.2.2.2.2.2.2.2.2.2.2.2.2.2.2.2.2.1 ah.2.2.2.2.2.2.2.2.2.2.2.2.2.2.2.2.2.2.2.2.2.2.1 ah.2.2.2.2.2.2.2.2.2.2.2.2.2.2.1 ah.2.2.2.2.2.2.2.2.2.2.2.2.2.2.2.1 ah.2.2.2.2.2.2.2.2.2.2.2.2.2.2.2.2.1 ah.2.2.2.2.2.2.2.2.2.2.2.2.2.2.2.2.2.1 ah.2.2.2.2.2.2.2.2.2.2.2.2.2.2.2.2.2.2.1 ah.2.2.2.2.2.2.2.2.2.2.2.2.2.2.2.2.2.2.2.2.2.2.2.1 ah.2.2.2.2.2.2.2.2.2.2.2.2.2.2.2.2.2.2.2.2.2.2.2.2.1 ah.2.2.2.2.2.2.2.2.2.2.2.2.2.2.2.2.2.2.2.2.2.2.2.2.2 (0 : Int) work E1).bind fun aX => if aX.2.2.2.2.2.2.2.2.2.2.2.2.2.2.2.1 ≠ 0 then none else (some (aX.2.2.2.2.2.2.2.2.2.2.2.2.2.2.2.1, aX.1, aX.2.1, aX.2.2.1, aX.2.2.2.1, aX.2.2.2.2.1, aX.2.2.2.2.2.1, aX.2.2.2.2.2.2.1, aX.2.2.2.2.2.2.2.1, aX.2.2.2.2.2.2.2.2.1, aX.2.2.2.2.2.2.2.2.2.1, aX.2.2.2.2.2.2.2.2.2.2.1, aX.2.2.2.2.2.2.2.2.2.2.2.1, aX.2.2.2.2.2.2.2.2.2.2.2.2.1, aX.2.2.2.2.2.2.2.2.2.2.2.2.2.1, aX.2.2.2.2.2.2.2.2.2.2.2.2.2.2.1, aX.2.2.2.2.2.2.2.2.2.2.2.2.2.2.2.2.1, aX.2.2.2.2.2.2.2.2.2.2.2.2.2.2.2.2.2))
noncomputable def hT (bI : List UInt8) (a1 : List UInt8) (aN : List UInt8) (ak : List UInt8) (aO : Int) (ax : Int) (aB : List UInt8) (aU : List UInt8) (aP : Bool) (ao : UInt64) (aW : ae UInt64 8) (ai : UInt64) (aj : UInt64) (av : List UInt8) (aq : Int) (cp : UInt64) (bJ : ae UInt8 64) (bd : Int) (n : UInt64) : Option ((ae UInt64 8 × UInt64 × UInt64 × List UInt8 × Int × Int × Int × List UInt8 × List UInt8 × Bool × UInt64 × UInt64 × ae UInt8 64 × Int) ⊕ (UInt64 × Int × ae UInt64 8 × UInt64 × UInt64 × List UInt8 × Int × Int × Int × List UInt8 × List UInt8 × Bool × UInt64 × List UInt8 × UInt64 × ae UInt8 64 × Int)) :=
  (ek bI a1 aN ak aO ax aB aU aP ao aW ai aj av aq cp bJ bd).bind fun r_ => if n = 0 then (some (Sum.inl (r_.1, r_.2.1, r_.2.2.1, r_.2.2.2.1, r_.2.2.2.2.1, r_.2.2.2.2.2.1, r_.2.2.2.2.2.2.1, r_.2.2.2.2.2.2.2.1, r_.2.2.2.2.2.2.2.2.1, r_.2.2.2.2.2.2.2.2.2.1, r_.2.2.2.2.2.2.2.2.2.2.1, r_.2.2.2.2.2.2.2.2.2.2.2.1, r_.2.2.2.2.2.2.2.2.2.2.2.2.1, r_.2.2.2.2.2.2.2.2.2.2.2.2.2))) else ((ly bI a1 aN ak r_.2.2.2.2.2.1 r_.2.2.2.2.2.2.1 r_.2.2.2.2.2.2.2.1 r_.2.2.2.2.2.2.2.2.1 r_.2.2.2.2.2.2.2.2.2.1 r_.2.2.2.2.2.2.2.2.2.2.1 r_.1 r_.2.1 r_.2.2.1 r_.2.2.2.1 r_.2.2.2.2.1 r_.2.2.2.2.2.2.2.2.2.2.2.1 r_.2.2.2.2.2.2.2.2.2.2.2.2.1 r_.2.2.2.2.2.2.2.2.2.2.2.2.2 n (0 : UInt64)).bind fun ah => if ah.1 ≠ 0 then (some (Sum.inr ((0 : UInt64), ah.1, ah.2.1, ah.2.2.1, ah.2.2.2.1, ah.2.2.2.2.1, ah.2.2.2.2.2.1, ah.2.2.2.2.2.2.1, ah.2.2.2.2.2.2.2.1, ah.2.2.2.2.2.2.2.2.1, ah.2.2.2.2.2.2.2.2.2.1, ah.2.2.2.2.2.2.2.2.2.2.1, ah.2.2.2.2.2.2.2.2.2.2.2.1, ah.2.2.2.2.2.2.2.2.2.2.2.2.1, ah.2.2.2.2.2.2.2.2.2.2.2.2.2.1, ah.2.2.2.2.2.2.2.2.2.2.2.2.2.2.1, ah.2.2.2.2.2.2.2.2.2.2.2.2.2.2.2.1))) else (some (Sum.inr (ah.2.2.2.2.2.2.2.2.2.2.2.2.2.2.2.2.2, (0 : Int), ah.2.1, ah.2.2.1, ah.2.2.2.1, ah.2.2.2.2.1, ah.2.2.2.2.2.1, ah.2.2.2.2.2.2.1, ah.2.2.2.2.2.2.2.1, ah.2.2.2.2.2.2.2.2.1, ah.2.2.2.2.2.2.2.2.2.1, ah.2.2.2.2.2.2.2.2.2.2.1, ah.2.2.2.2.2.2.2.2.2.2.2.1, ah.2.2.2.2.2.2.2.2.2.2.2.2.1, ah.2.2.2.2.2.2.2.2.2.2.2.2.2.1, ah.2.2.2.2.2.2.2.2.2.2.2.2.2.2.1, ah.2.2.2.2.2.2.2.2.2.2.2.2.2.2.2.1))))
noncomputable def jY (bI : List UInt8) (a1 : List UInt8) (aN : List UInt8) (ak : List UInt8) (aO : Int) (ax : Int) (aB : List UInt8) (aU : List UInt8) (aP : Bool) (ao : UInt64) (aW : ae UInt64 8) (ai : UInt64) (aj : UInt64) (av : List UInt8) (aq : Int) (cp : UInt64) (bJ : ae UInt8 64) (bd : Int) (work : UInt64) : Option (Int × ae UInt64 8 × UInt64 × UInt64 × List UInt8 × Int × Int × Int × List UInt8 × List UInt8 × Bool × UInt64 × List UInt8 × UInt64 × ae UInt8 64 × Int × UInt64) :=
  (ek bI a1 aN ak aO ax aB aU aP ao aW ai aj av aq cp bJ bd).bind fun r_ => (hP a1 aN ak r_.2.2.2.2.2.1 r_.2.2.2.2.2.2.1 r_.2.2.2.2.2.2.2.1 r_.2.2.2.2.2.2.2.2.1 r_.2.2.2.2.2.2.2.2.2.1 r_.2.2.2.2.2.2.2.2.2.2.1 r_.1 r_.2.1 r_.2.2.1 r_.2.2.2.1 r_.2.2.2.2.1 r_.2.2.2.2.2.2.2.2.2.2.2.1 r_.2.2.2.2.2.2.2.2.2.2.2.2.1 r_.2.2.2.2.2.2.2.2.2.2.2.2.2).bind fun ah => (jO bI a1 aN ak ah.2.2.2.2.2.2.2.2.2.2.2.2.2.2.2.2.2.2.2.1 ah.2.2.2.2.2.2.2.2.2.2.2.2.2.2.2.2.2.2.2.2.1 ah.2.2.1 ah.2.2.2.1 ah.2.2.2.2.2.2.2.2.2.2.2.2.2.2.2.2.2.2.2.2.2.1 ah.2.2.2.2.2.2.2.2.2.2.2.2.2.2.2.2.2.2.2.2.2.2.1 ah.2.2.2.2.2.2.2.2.2.2.2.2.2.2.1 ah.2.2.2.2.2.2.2.2.2.2.2.2.2.2.2.1 ah.2.2.2.2.2.2.2.2.2.2.2.2.2.2.2.2.1 ah.2.2.2.2.2.2.2.2.2.2.2.2.2.2.2.2.2.1 ah.2.2.2.2.2.2.2.2.2.2.2.2.2.2.2.2.2.2.1 ah.2.2.2.2.2.2.2.2.2.2.2.2.2.2.2.2.2.2.2.2.2.2.2.1 ah.2.2.2.2.2.2.2.2.2.2.2.2.2.2.2.2.2.2.2.2.2.2.2.2.1 ah.2.2.2.2.2.2.2.2.2.2.2.2.2.2.2.2.2.2.2.2.2.2.2.2.2 (0 : Int) work).bind fun aX => if aX.2.2.2.2.2.2.2.2.2.2.2.2.2.2.2.1 ≠ 0 then none else (some (aX.2.2.2.2.2.2.2.2.2.2.2.2.2.2.2.1, aX.1, aX.2.1, aX.2.2.1, aX.2.2.2.1, aX.2.2.2.2.1, aX.2.2.2.2.2.1, aX.2.2.2.2.2.2.1, aX.2.2.2.2.2.2.2.1, aX.2.2.2.2.2.2.2.2.1, aX.2.2.2.2.2.2.2.2.2.1, aX.2.2.2.2.2.2.2.2.2.2.1, aX.2.2.2.2.2.2.2.2.2.2.2.1, aX.2.2.2.2.2.2.2.2.2.2.2.2.1, aX.2.2.2.2.2.2.2.2.2.2.2.2.2.1, aX.2.2.2.2.2.2.2.2.2.2.2.2.2.2.1, aX.2.2.2.2.2.2.2.2.2.2.2.2.2.2.2.2))
noncomputable def lP (bI : List UInt8) (a1 : List UInt8) (aN : List UInt8) (ak : List UInt8) (aO : Int) (ax : Int) (aB : List UInt8) (aU : List UInt8) (aP : Bool) (ao : UInt64) (aW : ae UInt64 8) (ai : UInt64) (aj : UInt64) (av : List UInt8) (aq : Int) (cp : UInt64) (bJ : ae UInt8 64) (bd : Int) : Option (UInt64 × Int × ae UInt64 8 × UInt64 × UInt64 × List UInt8 × Int × Int × Int × List UInt8 × List UInt8 × Bool × UInt64 × List UInt8 × UInt64 × ae UInt8 64 × Int) :=
  (jY bI a1 aN ak aO ax aB aU aP ao aW ai aj av aq cp bJ bd (0 : UInt64)).bind fun r_ => if r_.1 ≠ 0 then (some ((0 : UInt64), r_.1, r_.2.1, r_.2.2.1, r_.2.2.2.1, r_.2.2.2.2.1, r_.2.2.2.2.2.1, r_.2.2.2.2.2.2.1, r_.2.2.2.2.2.2.2.1, r_.2.2.2.2.2.2.2.2.1, r_.2.2.2.2.2.2.2.2.2.1, r_.2.2.2.2.2.2.2.2.2.2.1, r_.2.2.2.2.2.2.2.2.2.2.2.1, r_.2.2.2.2.2.2.2.2.2.2.2.2.1, r_.2.2.2.2.2.2.2.2.2.2.2.2.2.1, r_.2.2.2.2.2.2.2.2.2.2.2.2.2.2.1, r_.2.2.2.2.2.2.2.2.2.2.2.2.2.2.2.1)) else (some (r_.2.2.2.2.2.2.2.2.2.2.2.2.2.2.2.2, (0 : Int), r_.2.1, r_.2.2.1, r_.2.2.2.1, r_.2.2.2.2.1, r_.2.2.2.2.2.1, r_.2.2.2.2.2.2.1, r_.2.2.2.2.2.2.2.1, r_.2.2.2.2.2.2.2.2.1, r_.2.2.2.2.2.2.2.2.2.1, r_.2.2.2.2.2.2.2.2.2.2.1, r_.2.2.2.2.2.2.2.2.2.2.2.1, r_.2.2.2.2.2.2.2.2.2.2.2.2.1, r_.2.2.2.2.2.2.2.2.2.2.2.2.2.1, r_.2.2.2.2.2.2.2.2.2.2.2.2.2.2.1, r_.2.2.2.2.2.2.2.2.2.2.2.2.2.2.2.1))
noncomputable def nb (w_ : UInt64) : Option Nat :=
  some (lG .quo (x9 ((aK w_ ((11 : UInt64).toNat)).toNat : Int)) 4845873199050653696)
noncomputable def j8 (bI : List UInt8) (a1 : List UInt8) (aN : List UInt8) (ak : List UInt8) (aO : Int) (ax : Int) (aB : List UInt8) (aU : List UInt8) (aP : Bool) (ao : UInt64) (aW : ae UInt64 8) (ai : UInt64) (aj : UInt64) (av : List UInt8) (aq : Int) (cp : UInt64) (bJ : ae UInt8 64) (bd : Int) : Option (Nat × Int × ae UInt64 8 × UInt64 × UInt64 × List UInt8 × Int × Int × Int × List UInt8 × List UInt8 × Bool × UInt64 × List UInt8 × UInt64 × ae UInt8 64 × Int) :=
  (lP bI a1 aN ak aO ax aB aU aP ao aW ai aj av aq cp bJ bd).bind fun r_ => (nb r_.1).bind fun ah => some (ah, r_.2.1, r_.2.2.1, r_.2.2.2.1, r_.2.2.2.2.1, r_.2.2.2.2.2.1, r_.2.2.2.2.2.2.1, r_.2.2.2.2.2.2.2.1, r_.2.2.2.2.2.2.2.2.1, r_.2.2.2.2.2.2.2.2.2.1, r_.2.2.2.2.2.2.2.2.2.2.1, r_.2.2.2.2.2.2.2.2.2.2.2.1, r_.2.2.2.2.2.2.2.2.2.2.2.2.1, r_.2.2.2.2.2.2.2.2.2.2.2.2.2.1, r_.2.2.2.2.2.2.2.2.2.2.2.2.2.2.1, r_.2.2.2.2.2.2.2.2.2.2.2.2.2.2.2.1, r_.2.2.2.2.2.2.2.2.2.2.2.2.2.2.2.2)
noncomputable def tD (x_ : Nat) : Option Nat :=
  (pr (x_ ≠ wC)).bind fun u => some (pV (((UInt64.ofNat x_) &&& ~~~9223372036854775808)).toNat)
noncomputable def oy (f1 : Nat) : Option Bool :=
  some (dr .gtr f1 9218868437227405311)
noncomputable def mf (f : Nat) : Option Bool :=
  (tD f).bind fun r_ => oy r_
noncomputable def kg (bI : List UInt8) (a1 : List UInt8) (aN : List UInt8) (ak : List UInt8) (aO : Int) (ax : Int) (aB : List UInt8) (aU : List UInt8) (aP : Bool) (ao : UInt64) (aW : ae UInt64 8) (ai : UInt64) (aj : UInt64) (av : List UInt8) (aq : Int) (cS : List UInt8) (cp : UInt64) (bJ : ae UInt8 64) (bd : Int) (work : UInt64) : Option (Int × ae UInt64 8 × UInt64 × UInt64 × List UInt8 × Int × Int × Int × List UInt8 × List UInt8 × Bool × UInt64 × UInt64 × ae UInt8 64 × Int × UInt64) :=
  (ig bI a1 aN ak aO ax aB aU aP ao aW ai aj av aq cS cp bJ bd).bind fun r_ => (iU a1 aN ak r_.2.2.2.2.2.1 r_.2.2.2.2.2.2.1 r_.2.2.2.2.2.2.2.1 r_.2.2.2.2.2.2.2.2.1 r_.2.2.2.2.2.2.2.2.2.1 r_.2.2.2.2.2.2.2.2.2.2.1 r_.1 r_.2.1 r_.2.2.1 r_.2.2.2.1 r_.2.2.2.2.1 cS r_.2.2.2.2.2.2.2.2.2.2.2.1 r_.2.2.2.2.2.2.2.2.2.2.2.2.1 r_.2.2.2.2.2.2.2.2.2.2.2.2.2).bind fun ah => (jX bI a1 aN ak ah.2.2.2.2.2.2.2.2.2.2.2.2.2.2.2.2.2.2.2.1 ah.2.2.2.2.2.2.2.2.2.2.2.2.2.2.2.2.2.2.2.2.1 ah.2.2.1 ah.2.2.2.1 ah.2.2.2.2.2.2.2.2.2.2.2.2.2.2.2.2.2.2.2.2.2.1 ah.2.2.2.2.2.2.2.2.2.2.2.2.2.2.2.2.2.2.2.2.2.2.1 ah.2.2.2.2.2.2.2.2.2.2.2.2.2.2.1 ah.2.2.2.2.2.2.2.2.2.2.2.2.2.2.2.1 ah.2.2.2.2.2.2.2.2.2.2.2.2.2.2.2.2.1 ah.2.2.2.2.2.2.2.2.2.2.2.2.2.2.2.2.2.1 ah.2.2.2.2.2.2.2.2.2.2.2.2.2.2.2.2.2.2.1 cS ah.2.2.2.2.2.2.2.2.2.2.2.2.2.2.2.2.2.2.2.2.2.2.2.1 ah.2.2.2.2.2.2.2.2.2.2.2.2.2.2.2.2.2.2.2.2.2.2.2.2.1 ah.2.2.2.2.2.2.2.2.2.2.2.2.2.2.2.2.2.2.2.2.2.2.2.2.2 (0 : Int) work).bind fun aX => if aX.2.2.2.2.2.2.2.2.2.2.2.2.2.2.1 ≠ 0 then none else (some (aX.2.2.2.2.2.2.2.2.2.2.2.2.2.2.1, aX.1, aX.2.1, aX.2.2.1, aX.2.2.2.1, aX.2.2.2.2.1, aX.2.2.2.2.2.1, aX.2.2.2.2.2.2.1, aX.2.2.2.2.2.2.2.1, aX.2.2.2.2.2.2.2.2.1, aX.2.2.2.2.2.2.2.2.2.1, aX.2.2.2.2.2.2.2.2.2.2.1, aX.2.2.2.2.2.2.2.2.2.2.2.1, aX.2.2.2.2.2.2.2.2.2.2.2.2.1, aX.2.2.2.2.2.2.2.2.2.2.2.2.2.1, aX.2.2.2.2.2.2.2.2.2.2.2.2.2.2.2))
noncomputable def ki (bI : List UInt8) (a1 : List UInt8) (aN : List UInt8) (ak : List UInt8) (aO : Int) (ax : Int) (aB : List UInt8) (aU : List UInt8) (aP : Bool) (ao : UInt64) (aW : ae UInt64 8) (ai : UInt64) (aj : UInt64) (av : List UInt8) (aq : Int) (cS : List UInt8) (cp : UInt64) (bJ : ae UInt8 64) (bd : Int) : Option (UInt64 × Int × ae UInt64 8 × UInt64 × UInt64 × List UInt8 × Int × Int × Int × List UInt8 × List UInt8 × Bool × UInt64 × UInt64 × ae UInt8 64 × Int) :=
  (kg bI a1 aN ak aO ax aB aU aP ao aW ai aj av aq cS cp bJ bd (0 : UInt64)).bind fun r_ => if r_.1 ≠ 0 then (some ((0 : UInt64), r_.1, r_.2.1, r_.2.2.1, r_.2.2.2.1, r_.2.2.2.2.1, r_.2.2.2.2.2.1, r_.2.2.2.2.2.2.1, r_.2.2.2.2.2.2.2.1, r_.2.2.2.2.2.2.2.2.1, r_.2.2.2.2.2.2.2.2.2.1, r_.2.2.2.2.2.2.2.2.2.2.1, r_.2.2.2.2.2.2.2.2.2.2.2.1, r_.2.2.2.2.2.2.2.2.2.2.2.2.1, r_.2.2.2.2.2.2.2.2.2.2.2.2.2.1, r_.2.2.2.2.2.2.2.2.2.2.2.2.2.2.1)) else (some (r_.2.2.2.2.2.2.2.2.2.2.2.2.2.2.2, (0 : Int), r_.2.1, r_.2.2.1, r_.2.2.2.1, r_.2.2.2.2.1, r_.2.2.2.2.2.1, r_.2.2.2.2.2.2.1, r_.2.2.2.2.2.2.2.1, r_.2.2.2.2.2.2.2.2.1, r_.2.2.2.2.2.2.2.2.2.1, r_.2.2.2.2.2.2.2.2.2.2.1, r_.2.2.2.2.2.2.2.2.2.2.2.1, r_.2.2.2.2.2.2.2.2.2.2.2.2.1, r_.2.2.2.2.2.2.2.2.2.2.2.2.2.1, r_.2.2.2.2.2.2.2.2.2.2.2.2.2.2.1))
noncomputable def gZ (bI : List UInt8) (a1 : List UInt8) (aN : List UInt8) (ak : List UInt8) (aO : Int) (ax : Int) (aB : List UInt8) (aU : List UInt8) (aP : Bool) (ao : UInt64) (aW : ae UInt64 8) (ai : UInt64) (aj : UInt64) (av : List UInt8) (aq : Int) (cS : List UInt8) (cp : UInt64) (bJ : ae UInt8 64) (bd : Int) : Option (Nat × Int × ae UInt64 8 × UInt64 × UInt64 × List UInt8 × Int × Int × Int × List UInt8 × List UInt8 × Bool × UInt64 × UInt64 × ae UInt8 64 × Int) :=
  (ki bI a1 aN ak aO ax aB aU aP ao aW ai aj av aq cS cp bJ bd).bind fun r_ => (nb r_.1).bind fun ah => some (ah, r_.2.1, r_.2.2.1, r_.2.2.2.1, r_.2.2.2.2.1, r_.2.2.2.2.2.1, r_.2.2.2.2.2.2.1, r_.2.2.2.2.2.2.2.1, r_.2.2.2.2.2.2.2.2.1, r_.2.2.2.2.2.2.2.2.2.1, r_.2.2.2.2.2.2.2.2.2.2.1, r_.2.2.2.2.2.2.2.2.2.2.2.1, r_.2.2.2.2.2.2.2.2.2.2.2.2.1, r_.2.2.2.2.2.2.2.2.2.2.2.2.2.1, r_.2.2.2.2.2.2.2.2.2.2.2.2.2.2.1, r_.2.2.2.2.2.2.2.2.2.2.2.2.2.2.2)
noncomputable def ij (bI : List UInt8) (a1 : List UInt8) (aN : List UInt8) (ak : List UInt8) (aO : Int) (ax : Int) (aB : List UInt8) (aU : List UInt8) (aP : Bool) (ao : UInt64) (aW : ae UInt64 8) (ai : UInt64) (aj : UInt64) (av : List UInt8) (aq : Int) (cS : List UInt8) (cp : UInt64) (bJ : ae UInt8 64) (bd : Int) (lo : Nat) (hi : Nat) : Option (Nat × Int × ae UInt64 8 × UInt64 × UInt64 × List UInt8 × Int × Int × Int × List UInt8 × List UInt8 × Bool × UInt64 × UInt64 × ae UInt8 64 × Int) :=
  (ig bI a1 aN ak aO ax aB aU aP ao aW ai aj av aq cS cp bJ bd).bind fun r_ => if (!(dr .leq lo hi)) = true then (some (0, (1 : Int), r_.1, r_.2.1, r_.2.2.1, r_.2.2.2.1, r_.2.2.2.2.1, r_.2.2.2.2.2.1, r_.2.2.2.2.2.2.1, r_.2.2.2.2.2.2.2.1, r_.2.2.2.2.2.2.2.2.1, r_.2.2.2.2.2.2.2.2.2.1, r_.2.2.2.2.2.2.2.2.2.2.1, r_.2.2.2.2.2.2.2.2.2.2.2.1, r_.2.2.2.2.2.2.2.2.2.2.2.2.1, r_.2.2.2.2.2.2.2.2.2.2.2.2.2)) else ((mf lo).bind fun ah => if ah = true then (some (0, (1 : Int), r_.1, r_.2.1, r_.2.2.1, r_.2.2.2.1, r_.2.2.2.2.1, r_.2.2.2.2.2.1, r_.2.2.2.2.2.2.1, r_.2.2.2.2.2.2.2.1, r_.2.2.2.2.2.2.2.2.1, r_.2.2.2.2.2.2.2.2.2.1, r_.2.2.2.2.2.2.2.2.2.2.1, r_.2.2.2.2.2.2.2.2.2.2.2.1, r_.2.2.2.2.2.2.2.2.2.2.2.2.1, r_.2.2.2.2.2.2.2.2.2.2.2.2.2)) else ((mf hi).bind fun aX => if aX = true then (some (0, (1 : Int), r_.1, r_.2.1, r_.2.2.1, r_.2.2.2.1, r_.2.2.2.2.1, r_.2.2.2.2.2.1, r_.2.2.2.2.2.2.1, r_.2.2.2.2.2.2.2.1, r_.2.2.2.2.2.2.2.2.1, r_.2.2.2.2.2.2.2.2.2.1, r_.2.2.2.2.2.2.2.2.2.2.1, r_.2.2.2.2.2.2.2.2.2.2.2.1, r_.2.2.2.2.2.2.2.2.2.2.2.2.1, r_.2.2.2.2.2.2.2.2.2.2.2.2.2)) else ((mf (lG .sub hi lo)).bind fun eK => if eK = true then (some (0, (1 : Int), r_.1, r_.2.1, r_.2.2.1, r_.2.2.2.1, r_.2.2.2.2.1, r_.2.2.2.2.2.1, r_.2.2.2.2.2.2.1, r_.2.2.2.2.2.2.2.1, r_.2.2.2.2.2.2.2.2.1, r_.2.2.2.2.2.2.2.2.2.1, r_.2.2.2.2.2.2.2.2.2.2.1, r_.2.2.2.2.2.2.2.2.2.2.2.1, r_.2.2.2.2.2.2.2.2.2.2.2.2.1, r_.2.2.2.2.2.2.2.2.2.2.2.2.2)) else ((gZ bI a1 aN ak r_.2.2.2.2.2.1 r_.2.2.2.2.2.2.1 r_.2.2.2.2.2.2.2.1 r_.2.2.2.2.2.2.2.2.1 r_.2.2.2.2.2.2.2.2.2.1 r_.2.2.2.2.2.2.2.2.2.2.1 r_.1 r_.2.1 r_.2.2.1 r_.2.2.2.1 r_.2.2.2.2.1 cS r_.2.2.2.2.2.2.2.2.2.2.2.1 r_.2.2.2.2.2.2.2.2.2.2.2.2.1 r_.2.2.2.2.2.2.2.2.2.2.2.2.2).bind fun gl => if gl.2.1 ≠ 0 then (some (0, gl.2.1, gl.2.2.1, gl.2.2.2.1, gl.2.2.2.2.1, gl.2.2.2.2.2.1, gl.2.2.2.2.2.2.1, gl.2.2.2.2.2.2.2.1, gl.2.2.2.2.2.2.2.2.1, gl.2.2.2.2.2.2.2.2.2.1, gl.2.2.2.2.2.2.2.2.2.2.1, gl.2.2.2.2.2.2.2.2.2.2.2.1, gl.2.2.2.2.2.2.2.2.2.2.2.2.1, gl.2.2.2.2.2.2.2.2.2.2.2.2.2.1, gl.2.2.2.2.2.2.2.2.2.2.2.2.2.2.1, gl.2.2.2.2.2.2.2.2.2.2.2.2.2.2.2)) else (some (lG .add lo (lG .mul (lG .sub hi lo) gl.1), (0 : Int), gl.2.2.1, gl.2.2.2.1, gl.2.2.2.2.1, gl.2.2.2.2.2.1, gl.2.2.2.2.2.2.1, gl.2.2.2.2.2.2.2.1, gl.2.2.2.2.2.2.2.2.1, gl.2.2.2.2.2.2.2.2.2.1, gl.2.2.2.2.2.2.2.2.2.2.1, gl.2.2.2.2.2.2.2.2.2.2.2.1, gl.2.2.2.2.2.2.2.2.2.2.2.2.1, gl.2.2.2.2.2.2.2.2.2.2.2.2.2.1, gl.2.2.2.2.2.2.2.2.2.2.2.2.2.2.1, gl.2.2.2.2.2.2.2.2.2.2.2.2.2.2.2))))))
noncomputable def vw (f : Nat) : Option Bool :=
  some (dr .neq f f)
noncomputable def pH (f : Nat) : Option UInt64 :=
  (vw f).bind fun r_ => if r_ = true then (some (9221120237041090560 : UInt64)) else ((pr (f ≠ wC)).bind fun u => some (UInt64.ofNat f))
noncomputable def e9 (a_ : Nat) (b : Nat) : Option Bool :=
  (pH a_).bind fun r_ => (pH b).bind fun ah => some (decide (r_ = ah))
noncomputable def mg (fT : ae UInt8 8) (n : UInt64) (lo : Nat) (hi : Nat) : Option Bool :=
  (na).bind fun r_ => if (!r_) = true then (some false) else ((nA fT.l).bind fun ah => (Sum.elim (fun aX => some false) (fun eK => (hT eK.1 eK.2.1 eK.2.2.1 eK.2.2.2.1 eK.2.2.2.2.1 eK.2.2.2.2.2.1 eK.2.2.2.2.2.2.1 eK.2.2.2.2.2.2.2.1 false (0 : UInt64) eK.2.2.2.2.2.2.2.2.1 eK.2.2.2.2.2.2.2.2.2.1 eK.2.2.2.2.2.2.2.2.2.2.1 eK.2.2.2.2.2.2.2.2.2.2.2.1 eK.2.2.2.2.2.2.2.2.2.2.2.2.1 (0 : UInt64) eK.2.2.2.2.2.2.2.2.2.2.2.2.2 (-1 : Int) n).bind fun gl => (Sum.elim (fun mA => if (((decide (n = 0)) && false) || ((decide ((0 : UInt64) < n)) && true)) = true then (some false) else ((j8 eK.1 eK.2.1 eK.2.2.1 eK.2.2.2.1 mA.2.2.2.2.2.1 mA.2.2.2.2.2.2.1 mA.2.2.2.2.2.2.2.1 mA.2.2.2.2.2.2.2.2.1 mA.2.2.2.2.2.2.2.2.2.1 mA.2.2.2.2.2.2.2.2.2.2.1 mA.1 mA.2.1 mA.2.2.1 mA.2.2.2.1 mA.2.2.2.2.1 mA.2.2.2.2.2.2.2.2.2.2.2.1 mA.2.2.2.2.2.2.2.2.2.2.2.2.1 mA.2.2.2.2.2.2.2.2.2.2.2.2.2).bind fun nV => if nV.2.1 ≠ 0 then (some false) else (if (dr .geq nV.1 0) = true then (if (!(dr .lss nV.1 4607182418800017408)) = true then (some false) else ((ij eK.1 eK.2.1 eK.2.2.1 eK.2.2.2.1 nV.2.2.2.2.2.2.2.1 nV.2.2.2.2.2.2.2.2.1 nV.2.2.2.2.2.2.2.2.2.1 nV.2.2.2.2.2.2.2.2.2.2.1 nV.2.2.2.2.2.2.2.2.2.2.2.1 nV.2.2.2.2.2.2.2.2.2.2.2.2.1 nV.2.2.1 nV.2.2.2.1 nV.2.2.2.2.1 nV.2.2.2.2.2.1 nV.2.2.2.2.2.2.1 nV.2.2.2.2.2.2.2.2.2.2.2.2.2.1 nV.2.2.2.2.2.2.2.2.2.2.2.2.2.2.1 nV.2.2.2.2.2.2.2.2.2.2.2.2.2.2.2.1 nV.2.2.2.2.2.2.2.2.2.2.2.2.2.2.2.2 lo hi).bind fun ue => if (dr .neq (lG .sub lo lo) 0) = true then (if ue.2.1 = 1 then ((e9 ue.1 0).bind fun KI => some KI) else (some false)) else (if (dr .neq (lG .sub hi hi) 0) = true then (if ue.2.1 = 1 then ((e9 ue.1 0).bind fun Ea => some Ea) else (some false)) else (if (dr .gtr lo hi) = true then (if ue.2.1 = 1 then ((e9 ue.1 0).bind fun Ec => some Ec) else (some false)) else (if (dr .neq (lG .sub (lG .sub hi lo) (lG .sub hi lo)) 0) = true then (if ue.2.1 = 1 then ((e9 ue.1 0).bind fun Ed => some Ed) else (some false)) else (if ue.2.1 = 0 then (if (dr .geq ue.1 lo) = true then (if (dr .neq lo hi) = true then (some true) else (some (dr .eql ue.1 lo))) else (some false)) else (some false))))))) else (some false)))) (fun nr => if (((decide (n = 0)) && (decide (nr.2.1 ≠ 1))) || ((decide ((0 : UInt64) < n)) && ((decide (nr.2.1 ≠ 0)) || (decide (n ≤ nr.1))))) = true then (some false) else ((gZ eK.1 eK.2.1 eK.2.2.1 eK.2.2.2.1 nr.2.2.2.2.2.2.2.1 nr.2.2.2.2.2.2.2.2.1 nr.2.2.2.2.2.2.2.2.2.1 nr.2.2.2.2.2.2.2.2.2.2.1 nr.2.2.2.2.2.2.2.2.2.2.2.1 nr.2.2.2.2.2.2.2.2.2.2.2.2.1 nr.2.2.1 nr.2.2.2.1 nr.2.2.2.2.1 nr.2.2.2.2.2.1 nr.2.2.2.2.2.2.1 nr.2.2.2.2.2.2.2.2.2.2.2.2.2.1 nr.2.2.2.2.2.2.2.2.2.2.2.2.2.2.1 nr.2.2.2.2.2.2.2.2.2.2.2.2.2.2.2.1 nr.2.2.2.2.2.2.2.2.2.2.2.2.2.2.2.2).bind fun qg => if qg.2.1 ≠ 0 then (some false) else (if (dr .geq qg.1 0) = true then (if (!(dr .lss qg.1 4607182418800017408)) = true then (some false) else ((ij eK.1 eK.2.1 eK.2.2.1 eK.2.2.2.1 qg.2.2.2.2.2.2.2.1 qg.2.2.2.2.2.2.2.2.1 qg.2.2.2.2.2.2.2.2.2.1 qg.2.2.2.2.2.2.2.2.2.2.1 qg.2.2.2.2.2.2.2.2.2.2.2.1 qg.2.2.2.2.2.2.2.2.2.2.2.2.1 qg.2.2.1 qg.2.2.2.1 qg.2.2.2.2.1 qg.2.2.2.2.2.1 qg.2.2.2.2.2.2.1 nr.2.2.2.2.2.2.2.2.2.2.2.2.2.1 qg.2.2.2.2.2.2.2.2.2.2.2.2.2.1 qg.2.2.2.2.2.2.2.2.2.2.2.2.2.2.1 qg.2.2.2.2.2.2.2.2.2.2.2.2.2.2.2 lo hi).bind fun pv => if (dr .neq (lG .sub lo lo) 0) = true then (if pv.2.1 = 1 then ((e9 pv.1 0).bind fun Ho => some Ho) else (some false)) else (if (dr .neq (lG .sub hi hi) 0) = true then (if pv.2.1 = 1 then ((e9 pv.1 0).bind fun Hp => some Hp) else (some false)) else (if (dr .gtr lo hi) = true then (if pv.2.1 = 1 then ((e9 pv.1 0).bind fun Hq => some Hq) else (some false)) else (if (dr .neq (lG .sub (lG .sub hi lo) (lG .sub hi lo)) 0) = true then (if pv.2.1 = 1 then ((e9 pv.1 0).bind fun Hr => some Hr) else (some false)) else (if pv.2.1 = 0 then (if (dr .geq pv.1 lo) = true then (if (dr .neq lo hi) = true then (some true) else (some (dr .eql pv.1 lo))) else (some false)) else (some false))))))) else (some false))))) gl)) ah)
end Go.Sx
