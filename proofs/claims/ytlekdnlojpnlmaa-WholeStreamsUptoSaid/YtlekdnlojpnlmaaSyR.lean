import Derived.Test.YtlekdnlojpnlmaaSyQ
import Derived.Test.YtlekdnlojpnlmaaSyP
namespace Go.Sx
open Go.RowKit Go.ChangeShapes Go.WideShapes Go.ChangeAt
set_option linter.unusedSimpArgs false
set_option linter.unusedVariables false

section
variable {P : Program} {n : Nat} {ops : Array Oper} {L : St} {w : World} {K : St → World → Prop}
end

section
variable {α : Type} {F O : Nat → Prop} {w0 w : World} {hs : List HP}
end
/-! ### rows of which the first ones are given away -/
section
variable {α : Type} {F O : Nat → Prop} {w0 w : World} {hs rest : List HP} {E : Enc α} {A : Option Addr} {n c m : Nat} {hd : List Hd} {xss : List (List α)}
end
/-! ### bytes as bytes: the block is marked -/
section
variable {P : Program} {n : Nat} {ops : Array Oper} {L : St} {w w0 : World} {F O : Nat → Prop} {hs : List HP} {K : St → World → Prop}
end

/-! ### loops, round by round -/
section
variable {P : Program} {n : Nat} {Q : Exit → Act → World → Prop} {L L' : St} {w : World} {c : Code}
def Lp (P : Program) (c : Code) (Q : Exit → Act → World → Prop) (a : Act) (w : World) : Prop :=
  ∀ b k cs, ∃ e a' w', Q e a' w' ∧ Arrives P (lone (b.at a (.code c :: .inLoop c :: k)) cs w) b k cs e a' w'
theorem Lp.start {a : Act} (h : Lp P c Q a w) : (Code.loop c).wp P Q a w := by
  intro b k cs
  obtain ⟨e, a', w', hq, harr⟩ := h b k cs
  exact ⟨e, a', w', hq, .of_steps (.one step_loop) harr⟩
theorem Lp.round {a : Act} (h : c.wp P (Exit.then (Lp P c Q) Q) a w) : Lp P c Q a w := by
  intro b k cs
  obtain ⟨e, a₁, w₁, hq, harr⟩ := h b (.inLoop c :: k) cs
  cases e with
  | normal =>
    obtain ⟨e₂, a₂, w₂, hq₂, harr₂⟩ := hq b k cs
    exact ⟨e₂, a₂, w₂, hq₂, .of_steps (Steps.trans harr (.one step_inLoop)) harr₂⟩
  | exit id => exact ⟨_, a₁, w₁, hq, .pass (x := .inLoop c) rfl (fun _ _ => .inl (by simp)) harr⟩
  | goto l => exact ⟨_, a₁, w₁, hq, .pass (x := .inLoop c) rfl (fun _ _ => .inl (by simp)) harr⟩
  | ret => exact ⟨_, a₁, w₁, hq, .pass (x := .inLoop c) rfl (fun _ _ => .inl (by simp)) harr⟩
  | panic ch => exact ⟨_, a₁, w₁, hq, .pass (x := .inLoop c) rfl (fun _ _ => .inl (by simp)) harr⟩
  | outgrown => exact ⟨_, a₁, w₁, hq, .pass (x := .inLoop c) rfl (fun _ _ => .inl (by simp)) harr⟩
/-- a loop: its first round -/
theorem W_un (h : W P n c (Exit.then (Lp P c Q) Q) L w) : W P n (.loop c) Q L w := fun a ha => Lp.start (Lp.round (h a ha))
/-- one round more -/
theorem At_un (h : W P n c (Exit.then (Lp P c Q) Q) L w) : At n (Exit.then (Lp P c Q) Q .normal) L w := fun a ha => Lp.round (h a ha)
end
/-! ### numbers with a point, which are known; pointers in a row -/
section
variable {P : Program} {n : Nat} {ops : Array Oper} {L : St} {w : World} {K : St → World → Prop}
end
section
variable {P : Program} {n : Nat} {ops : Array Oper} {L : St} {w : World} {K : St → World → Prop}
end
def eQ : Enc (Option Addr) := ⟨1, fun a => [.pointer a], fun _ => rfl, fun x v h => by rw [List.mem_singleton.1 h]; rfl⟩
instance : Pos eQ := ⟨by decide⟩

/-! ### rows of rows that come in -/
/-- how long rows are together, each counted one more -/
def Tot : List (List UInt8) → Nat
  | [] => 0
  | x :: xs => x.length + 1 + Tot xs
section
variable {H : Type} {enc : TypeId × Value → H} {P : Program} {w : World} {held : Bool}
/-- readings, and the bytes that they are -/
def Fam : List (DataW H) → List (List UInt8) → Prop
  | [], [] => True
  | d :: ds, x :: xs => (x = [] ∨ ∃ zs : List Int, d = .slice (lits .u8 (zs.take x.length)) (lits .u8 (zs.drop x.length)) ∧ x.length ≤ zs.length) ∧ Fam ds xs
  | _, _ => False
end
/-! ### the same check with a number for what is done: for long regions -/
section
variable {ops : Array Oper} {Ls : List Nat}
def rdyN (ops : Array Oper) (m : Nat) (i : Nat) : Bool := !m.testBit i && ((ops[i]?).map (·.after.all fun e => !Region.binds .any e || m.testBit e.on)).getD false
def freeN (ops : Array Oper) (m : Nat) (i : Nat) : Bool :=
  match ops[i]? with
  | none => false
  | some oi => (List.range ops.size).all fun j => j == i || m.testBit j || match ops[j]? with
      | some oj => oj.after.any (fun e => Region.binds .any e && e.on == i) || oi.apart ops oj
      | none => true
def aheadN (ops : Array Oper) (Ls : List Nat) (m : Nat) (i : Nat) : Nat := (Ls.filter fun j => decide (j < ops.size) && !m.testBit j && !asks2 ops m.testBit j i).length
def mixN (ops : Array Oper) (Ls : List Nat) : MT → Nat → Nat → Bool
  | .nil, _, m => (List.range ops.size).all fun i => !rdyN ops m i
  | .q i k π, p, m => decide (i < ops.size) && rdyN ops m i && freeN ops m i && !Ls.contains i && decide (p + aheadN ops Ls m i ≤ k) && mixN ops Ls π p (m ||| 2 ^ i)
  | .op i π, p, m => ((List.range ops.size).filter fun j => rdyN ops m j) == [i] && mixN ops Ls π (nx Ls p i) (m ||| 2 ^ i)
  | .br i j ri rj, p, m => ((List.range ops.size).filter fun j => rdyN ops m j) == [i, j] && rj.depth == ri.depth && mixN ops Ls ri (nx Ls p i) (m ||| 2 ^ i) && mixN ops Ls rj (nx Ls p j) (m ||| 2 ^ j)
/-- the number tells what is listed -/
def Rel (ops : Array Oper) (listed : Array Bool) (m : Nat) : Prop := listed.size = ops.size ∧ ∀ j, listed.getD j false = m.testBit j
theorem Rel.lt {listed : Array Bool} {m : Nat} (h : Rel ops listed m) {j : Nat} (hj : j < ops.size) : listed.getD j true = m.testBit j := by
  rw [← h.2 j, Array.getD_eq_getD_getElem?, Array.getD_eq_getD_getElem?, Array.getElem?_eq_getElem (by rw [h.1]; exact hj)]
  rfl
theorem Rel.ge {listed : Array Bool} {m : Nat} (h : Rel ops listed m) {j : Nat} (hj : ¬ j < ops.size) : listed.getD j true = true := by
  rw [Array.getD_eq_getD_getElem?, Array.getElem?_eq_none (by rw [h.1]; omega)]
  rfl
theorem Rel.ready {listed : Array Bool} {m : Nat} (h : Rel ops listed m) : Region.ready .any ops listed = (List.range ops.size).filter fun j => rdyN ops m j := by
  unfold Region.ready
  refine List.filter_congr fun i hi => ?_
  rw [List.mem_range] at hi
  unfold rdyN
  rw [h.lt hi]
  simp only [h.2]
theorem Rel.free {listed : Array Bool} {m i : Nat} (h : Rel ops listed m) : Region.free .any ops listed i = freeN ops m i := by
  unfold Region.free freeN
  cases ho : ops[i]? with
  | none => rfl
  | some oi =>
    simp only []
    rw [Bool.eq_iff_iff, List.all_eq_true, List.all_eq_true]
    refine ⟨fun hq j hj => ?_, fun hq j hj => ?_⟩
    · have := hq j hj
      rw [h.lt (List.mem_range.1 hj)] at this
      exact this
    · have := hq j hj
      rw [h.lt (List.mem_range.1 hj)]
      exact this
theorem Rel.ahd {listed : Array Bool} {m i : Nat} (h : Rel ops listed m) : ahead ops Ls listed i = aheadN ops Ls m i := by
  unfold ahead aheadN
  congr 1
  refine List.filter_congr fun j _ => ?_
  have hf : (fun x => listed.getD x false) = m.testBit := funext h.2
  rw [hf]
  by_cases hj : j < ops.size
  · rw [h.lt hj, decide_eq_true hj]; rfl
  · rw [h.ge hj, decide_eq_false hj]; rfl
theorem Rel.step {listed : Array Bool} {m i : Nat} (h : Rel ops listed m) (hi : i < ops.size) : Rel ops (listed.setIfInBounds i true) (m ||| 2 ^ i) := by
  refine ⟨by simpa using h.1, fun j => ?_⟩
  rw [Nat.testBit_or, Nat.testBit_two_pow]
  by_cases hij : i = j
  · subst hij
    rw [Array.getD_eq_getD_getElem?, Array.getElem?_setIfInBounds_self_of_lt (by rw [h.1]; exact hi)]
    simp
  · rw [← h.2 j, Array.getD_eq_getD_getElem?, Array.getElem?_setIfInBounds_ne hij, ← Array.getD_eq_getD_getElem?]
    simp [hij]
theorem mixN_B : ∀ (π : MT) (p m : Nat) (listed : Array Bool), Rel ops listed m → mixN ops Ls π p m = true → mixB ops Ls π p listed = true
  | .nil, p, m, listed, h, hq => by
    simp only [mixB, h.ready, List.isEmpty_iff, List.filter_eq_nil_iff]
    simp only [mixN, List.all_eq_true, Bool.not_eq_true'] at hq
    intro a ha
    rw [hq a ha]
    exact Bool.false_ne_true
  | .q i k π, p, m, listed, h, hq => by
    simp only [mixN, Bool.and_eq_true, decide_eq_true_eq, Bool.not_eq_true'] at hq
    obtain ⟨⟨⟨⟨⟨h1, h2⟩, h3⟩, h4⟩, h5⟩, h6⟩ := hq
    simp only [mixB, Bool.and_eq_true, decide_eq_true_eq, Bool.not_eq_true']
    refine ⟨⟨⟨⟨?_, by rw [h.free]; exact h3⟩, h4⟩, by rw [h.ahd]; exact h5⟩, mixN_B π p _ _ (h.step h1) h6⟩
    rw [h.ready, List.contains_iff_mem, List.mem_filter]
    exact ⟨List.mem_range.2 h1, h2⟩
  | .op i π, p, m, listed, h, hq => by
    simp only [mixN, Bool.and_eq_true] at hq
    simp only [mixB, Bool.and_eq_true]
    have hi : i < ops.size := by
      have : i ∈ (List.range ops.size).filter fun j => rdyN ops m j := by rw [beq_iff_eq.1 hq.1]; exact List.mem_singleton.2 rfl
      exact List.mem_range.1 (List.mem_filter.1 this).1
    exact ⟨by rw [h.ready]; exact hq.1, mixN_B π _ _ _ (h.step hi) hq.2⟩
  | .br i j ri rj, p, m, listed, h, hq => by
    simp only [mixN, Bool.and_eq_true] at hq
    obtain ⟨⟨⟨h1, h2⟩, h3⟩, h4⟩ := hq
    simp only [mixB, Bool.and_eq_true]
    have hi : i < ops.size := by
      have : i ∈ (List.range ops.size).filter fun j => rdyN ops m j := by rw [beq_iff_eq.1 h1]; simp
      exact List.mem_range.1 (List.mem_filter.1 this).1
    have hj : j < ops.size := by
      have : j ∈ (List.range ops.size).filter fun j => rdyN ops m j := by rw [beq_iff_eq.1 h1]; simp
      exact List.mem_range.1 (List.mem_filter.1 this).1
    exact ⟨⟨⟨by rw [h.ready]; exact h1, h2⟩, mixN_B ri _ _ _ (h.step hi) h3⟩, mixN_B rj _ _ _ (h.step hj) h4⟩
end
theorem W_mN {P : Program} {n : Nat} {Q : Exit → Act → World → Prop} {L : St} {w w0 : World} {F O : Nat → Prop} {hs : List HP} {id : Nat} {l : List Oper} {C : List (World → Prop)} (hm : P.follows .mixedOrders = true) (π : MT) (Ls : List Nat) (k : Cx F O w0 (w.drewN 1) hs) (ch : Chain F O w0 hs C)
    (hB : (Region.noSelect l.toArray, mixN l.toArray Ls π 0 0, π.depth == l.length) = (true, true, true)) (h : ∀ listed, MX P n l.toArray Ls C (Q .normal) π 0 listed (Kn L) (w.drewN 1)) :
    W P n (.region id l.toArray true) Q L w := by
  simp only [Prod.mk.injEq] at hB
  refine W_m hm π Ls k ch ?_ h
  rw [hB.1, hB.2.2, mixN_B π 0 0 (Array.replicate l.length false) ⟨by simp, fun j => ?_⟩ hB.2.1]
  rw [Array.getD_eq_getD_getElem?, Nat.zero_testBit]
  by_cases hj : j < l.length
  · simp [hj]
  · simp [hj]

end Go.Sx

