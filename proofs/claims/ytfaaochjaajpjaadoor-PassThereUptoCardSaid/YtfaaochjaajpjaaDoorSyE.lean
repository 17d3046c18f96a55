import Derived.Test.YtfaaochjaajpjaaDoorSyD
import Derived.Maps.AppendAt
namespace Go.Sx
open Go.RowKit
set_option linter.unusedSimpArgs false
set_option linter.unusedVariables false

/-- a piece of memory: what it says, which blocks it owns, which it shares -/
structure HP where
  p : World → (Nat → Prop) → (Nat → Prop) → Prop
  loc : ∀ w w' S R, p w S R → (∀ b, S b ∨ R b → w'.heap[b]? = w.heap[b]?) → p w' S R

/-- the pieces, apart from each other: U is what they own, V what they share -/
def Sep (w : World) : List HP → (Nat → Prop) → (Nat → Prop) → Prop
  | [], U, V => (∀ b, ¬ U b) ∧ ∀ b, ¬ V b
  | h :: hs, U, V => ∃ S R U' V', h.p w S R ∧ Sep w hs U' V' ∧ (∀ b, U b ↔ S b ∨ U' b) ∧ (∀ b, V b ↔ R b ∨ V' b) ∧ (∀ b, S b → ¬ U' b ∧ ¬ R b ∧ ¬ V' b) ∧ ∀ b, R b → ¬ U' b

theorem Sep.apart {w : World} : ∀ {hs : List HP} {U V : Nat → Prop}, Sep w hs U V → ∀ b, U b → ¬ V b := by
  intro hs
  induction hs with
  | nil => intro U V h b hb; exact absurd hb (h.1 b)
  | cons x hs ih =>
    rintro U V ⟨S, R, U', V', h1, h2, h3, h4, h5, h6⟩ b hb hv
    rcases (h3 b).1 hb with hs' | hu
    · rcases (h4 b).1 hv with hr | hv'
      · exact (h5 b hs').2.1 hr
      · exact (h5 b hs').2.2 hv'
    · rcases (h4 b).1 hv with hr | hv'
      · exact h6 b hr hu
      · exact ih h2 b hu hv'

theorem Sep.keep {w w' : World} : ∀ {hs : List HP} {U V : Nat → Prop}, Sep w hs U V → (∀ b, U b ∨ V b → w'.heap[b]? = w.heap[b]?) → Sep w' hs U V := by
  intro hs
  induction hs with
  | nil => intro U V h _; exact h
  | cons x hs ih =>
    rintro U V ⟨S, R, U', V', h1, h2, h3, h4, h5, h6⟩ hk
    exact ⟨S, R, U', V', x.loc _ _ _ _ h1 fun b hb => hk b (hb.imp (fun h => (h3 b).2 (.inl h)) (fun h => (h4 b).2 (.inl h))), ih h2 fun b hb => hk b (hb.imp (fun h => (h3 b).2 (.inr h)) (fun h => (h4 b).2 (.inr h))), h3, h4, h5, h6⟩

theorem Sep.split {w : World} : ∀ {as bs : List HP} {U V : Nat → Prop}, Sep w (as ++ bs) U V →
    ∃ U1 V1 U2 V2, Sep w as U1 V1 ∧ Sep w bs U2 V2 ∧ (∀ b, U b ↔ U1 b ∨ U2 b) ∧ (∀ b, V b ↔ V1 b ∨ V2 b) ∧ (∀ b, U1 b → ¬ U2 b ∧ ¬ V2 b) ∧ ∀ b, V1 b → ¬ U2 b := by
  intro as
  induction as with
  | nil => intro bs U V h; exact ⟨fun _ => False, fun _ => False, U, V, ⟨fun _ h => h, fun _ h => h⟩, h, by simp, by simp, fun _ h => h.elim, fun _ h => h.elim⟩
  | cons x as ih =>
    rintro bs U V ⟨S, R, U', V', h1, h2, h3, h4, h5, h6⟩
    obtain ⟨U1, V1, U2, V2, e1, e2, e3, e4, e5, e6⟩ := ih h2
    refine ⟨fun b => S b ∨ U1 b, fun b => R b ∨ V1 b, U2, V2, ⟨S, R, U1, V1, h1, e1, fun _ => Iff.rfl, fun _ => Iff.rfl, fun b hb => ?_, fun b hb => ?_⟩, e2, ?_, ?_, ?_, ?_⟩
    · have := h5 b hb
      rw [e3, e4] at this
      exact ⟨fun h => this.1 (.inl h), this.2.1, fun h => this.2.2 (.inl h)⟩
    · have := h6 b hb
      rw [e3] at this
      exact fun h => this (.inl h)
    · intro b; rw [h3, e3, or_assoc]
    · intro b; rw [h4, e4, or_assoc]
    · rintro b (hb | hb)
      · have := h5 b hb
        rw [e3, e4] at this
        exact ⟨fun h => this.1 (.inr h), fun h => this.2.2 (.inr h)⟩
      · exact e5 b hb
    · rintro b (hb | hb)
      · have := h6 b hb
        rw [e3] at this
        exact fun h => this (.inr h)
      · exact e6 b hb

theorem Sep.join {w : World} : ∀ {as bs : List HP} {U1 V1 U2 V2 : Nat → Prop}, Sep w as U1 V1 → Sep w bs U2 V2 → (∀ b, U1 b → ¬ U2 b ∧ ¬ V2 b) → (∀ b, V1 b → ¬ U2 b) →
    Sep w (as ++ bs) (fun b => U1 b ∨ U2 b) (fun b => V1 b ∨ V2 b) := by
  intro as
  induction as with
  | nil =>
    rintro bs U1 V1 U2 V2 ⟨ha, hb⟩ h2 h3 h4
    have e1 : (fun b => U1 b ∨ U2 b) = U2 := by funext b; simp [ha b]
    have e2 : (fun b => V1 b ∨ V2 b) = V2 := by funext b; simp [hb b]
    rw [e1, e2]; exact h2
  | cons x as ih =>
    rintro bs U1 V1 U2 V2 ⟨S, R, U', V', h1, h2, h3, h4, h5, h6⟩ hb hu hv
    refine ⟨S, R, _, _, h1, ih h2 hb (fun b h => hu b ((h3 b).2 (.inr h))) (fun b h => hv b ((h4 b).2 (.inr h))), fun b => by simp only [h3, or_assoc], fun b => by simp only [h4, or_assoc], fun b hs => ?_, fun b hr => ?_⟩
    · have e := h5 b hs
      have e' := hu b ((h3 b).2 (.inl hs))
      exact ⟨fun h => h.elim e.1 e'.1, e.2.1, fun h => h.elim e.2.2 e'.2⟩
    · have e := h6 b hr
      have e' := hv b ((h4 b).2 (.inl hr))
      exact fun h => h.elim e e'

theorem Sep.cut {w : World} {hs : List HP} {i : Nat} {h : HP} {U V : Nat → Prop} (hi : hs[i]? = some h) (k : Sep w hs U V) :
    ∃ S R U' V', h.p w S R ∧ Sep w (hs.eraseIdx i) U' V' ∧ (∀ b, U b ↔ S b ∨ U' b) ∧ (∀ b, V b ↔ R b ∨ V' b) ∧ (∀ b, S b → ¬ U' b ∧ ¬ R b ∧ ¬ V' b) ∧ ∀ b, R b → ¬ U' b := by
  induction hs generalizing i U V with
  | nil => simp at hi
  | cons x hs ih =>
    cases i with
    | zero =>
      simp only [List.getElem?_cons_zero, Option.some.injEq] at hi
      subst hi
      exact k
    | succ i =>
      simp only [List.getElem?_cons_succ] at hi
      obtain ⟨S, R, U', V', h1, h2, h3, h4, h5, h6⟩ := k
      obtain ⟨S1, R1, U1, V1, e1, e2, e3, e4, e5, e6⟩ := ih hi h2
      refine ⟨S1, R1, fun b => S b ∨ U1 b, fun b => R b ∨ V1 b, e1, ⟨S, R, U1, V1, h1, e2, fun _ => Iff.rfl, fun _ => Iff.rfl, fun b hb => ?_, fun b hb => ?_⟩, ?_, ?_, ?_, ?_⟩
      · have := h5 b hb
        rw [e3, e4] at this
        exact ⟨fun h => this.1 (.inr h), this.2.1, fun h => this.2.2 (.inr h)⟩
      · have := h6 b hb
        rw [e3] at this
        exact fun h => this (.inr h)
      · intro b; rw [h3, e3]; constructor <;> (rintro (h | h | h) <;> simp [h])
      · intro b; rw [h4, e4]; constructor <;> (rintro (h | h | h) <;> simp [h])
      · intro b hb
        refine ⟨?_, (e5 b hb).2.1, ?_⟩
        · rintro (h | h)
          · exact (h5 b h).1 ((e3 b).2 (.inl hb))
          · exact (e5 b hb).1 h
        · rintro (h | h)
          · exact h6 b h ((e3 b).2 (.inl hb))
          · exact (e5 b hb).2.2 h
      · intro b hb
        rintro (h | h)
        · exact (h5 b h).2.2 ((e4 b).2 (.inl hb))
        · exact e6 b hb h

theorem Sep.put {w : World} {hs : List HP} {i : Nat} {h h' : HP} (hi : hs[i]? = some h) {S R U' V' : Nat → Prop} (h1 : h'.p w S R) (h2 : Sep w (hs.eraseIdx i) U' V') (h3 : ∀ b, S b → ¬ U' b ∧ ¬ R b ∧ ¬ V' b) (h4 : ∀ b, R b → ¬ U' b) :
    Sep w (hs.set i h') (fun b => S b ∨ U' b) (fun b => R b ∨ V' b) := by
  induction hs generalizing i U' V' with
  | nil => simp at hi
  | cons x hs ih =>
    cases i with
    | zero => exact ⟨S, R, U', V', h1, h2, fun _ => Iff.rfl, fun _ => Iff.rfl, h3, h4⟩
    | succ i =>
      simp only [List.getElem?_cons_succ] at hi
      simp only [List.eraseIdx_cons_succ] at h2
      obtain ⟨S1, R1, U1, V1, e1, e2, e3, e4, e5, e6⟩ := h2
      have key := ih hi e2 (fun b hb => ⟨fun h => (h3 b hb).1 ((e3 b).2 (.inr h)), (h3 b hb).2.1, fun h => (h3 b hb).2.2 ((e4 b).2 (.inr h))⟩) (fun b hb h => h4 b hb ((e3 b).2 (.inr h)))
      refine ⟨S1, R1, _, _, e1, key, fun b => ?_, fun b => ?_, fun b hb => ?_, fun b hb => ?_⟩
      · simp only [e3]; constructor <;> (rintro (h | h | h) <;> simp [h])
      · simp only [e4]; constructor <;> (rintro (h | h | h) <;> simp [h])
      · refine ⟨?_, (e5 b hb).2.1, ?_⟩
        · rintro (h | h)
          · exact (h3 b h).1 ((e3 b).2 (.inl hb))
          · exact (e5 b hb).1 h
        · rintro (h | h)
          · exact h4 b h ((e3 b).2 (.inl hb))
          · exact (e5 b hb).2.2 h
      · rintro (h | h)
        · exact (h3 b h).2.2 ((e4 b).2 (.inl hb))
        · exact e6 b hb h

/-- THE MEMORY: what was there at w0, apart from F, is as it was; of the rest these pieces are known; O: old blocks that may be shared. -/
structure Cx (F O : Nat → Prop) (w0 w : World) (hs : List HP) : Prop where
  os : w.os = w0.os
  tape : w.tape = w0.tape
  output : w.output = w0.output
  size : w0.heap.size ≤ w.heap.size
  block : ∀ b, b < w0.heap.size → ¬ F b → w.heap[b]? = w0.heap[b]?
  fin : ∀ b, F b → b < w0.heap.size ∧ ¬ O b
  oin : ∀ b, O b → b < w0.heap.size
  sep : ∃ U V, Sep w hs U V ∧ (∀ b, U b → F b ∨ (w0.heap.size ≤ b ∧ b < w.heap.size)) ∧ ∀ b, V b → (O b ∨ F b) ∨ (w0.heap.size ≤ b ∧ b < w.heap.size)

section
variable {F O : Nat → Prop} {w0 w w' : World} {hs : List HP}

theorem Cx.drew (h : Cx F O w0 w hs) (m : Nat) : Cx F O w0 (w.drewN m) hs := by
  obtain ⟨U, V, h1, h2, h3⟩ := h.sep
  exact ⟨h.os, h.tape, h.output, h.size, h.block, h.fin, h.oin, U, V, Sep.keep (w := w) (w' := w.drewN m) h1 fun _ _ => rfl, h2, h3⟩
theorem Cx.drop (h : Cx F O w0 w hs) (i : Nat) : Cx F O w0 w (hs.eraseIdx i) := by
  cases hi : hs[i]? with
  | none =>
    have : hs.eraseIdx i = hs := List.eraseIdx_of_length_le (by simpa using hi)
    rw [this]; exact h
  | some x =>
    obtain ⟨U, V, h1, h2, h3⟩ := h.sep
    obtain ⟨S, R, U', V', e1, e2, e3, e4, e5, e6⟩ := Sep.cut hi h1
    exact ⟨h.os, h.tape, h.output, h.size, h.block, h.fin, h.oin, U', V', e2, fun b hb => h2 b ((e3 b).2 (.inr hb)), fun b hb => h3 b ((e4 b).2 (.inr hb))⟩
theorem Cx.get {h : HP} (k : Cx F O w0 w hs) (i : Nat) (hi : hs[i]? = some h) : ∃ S R, h.p w S R := by
  obtain ⟨U, V, h1, h2, h3⟩ := k.sep
  obtain ⟨S, R, U', V', e1, _⟩ := Sep.cut hi h1
  exact ⟨S, R, e1⟩

/-- one piece turns: its own blocks alone, and new ones -/
theorem Cx.upd {h h' : HP} (k : Cx F O w0 w hs) (i : Nat) (hi : hs[i]? = some h) (row : Option Nat) (hg : w.grownBy w' row)
    (hstep : ∀ S R, h.p w S R → (∀ b, S b → ¬ R b) → (∀ b, S b ∨ R b → b < w.heap.size) → (∀ g, row = some g → S g) ∧ ∃ S' R', h'.p w' S' R' ∧ (∀ b, S' b → b < w'.heap.size ∧ ¬ R' b ∧ (S b ∨ w.heap.size ≤ b)) ∧ ∀ b, R' b → b < w'.heap.size ∧ (R b ∨ S b ∨ w.heap.size ≤ b)) : Cx F O w0 w' (hs.set i h') := by
  obtain ⟨U, V, h1, h2, h3⟩ := k.sep
  obtain ⟨S, R, U', V', e1, e2, e3, e4, e5, e6⟩ := Sep.cut hi h1
  have hU : ∀ b, U b → b < w.heap.size := fun b hb => (h2 b hb).elim (fun h => Nat.lt_of_lt_of_le (k.fin b h).1 k.size) (·.2)
  have hV : ∀ b, V b → b < w.heap.size := fun b hb => (h3 b hb).elim (fun h => Nat.lt_of_lt_of_le (h.elim (k.oin b) fun h => (k.fin b h).1) k.size) (·.2)
  obtain ⟨hrow, S', R', f1, f2, f3⟩ := hstep S R e1 (fun b hb => (e5 b hb).2.1) (fun b hb => hb.elim (fun h => hU b ((e3 b).2 (.inl h))) (fun h => hV b ((e4 b).2 (.inl h))))
  have hkeep : ∀ b, b < w.heap.size → ¬ S b → w'.heap[b]? = w.heap[b]? := fun b hb hn => hg.block b hb fun e => hn (hrow b e.symm)
  have e2' : Sep w' (hs.eraseIdx i) U' V' := Sep.keep e2 fun b hb => by
    rcases hb with hb | hb
    · exact hkeep b (hU b ((e3 b).2 (.inr hb))) fun hs => (e5 b hs).1 hb
    · exact hkeep b (hV b ((e4 b).2 (.inr hb))) fun hs => (e5 b hs).2.2 hb
  have hnew : ∀ b, w.heap.size ≤ b → ¬ U' b ∧ ¬ V' b := fun b hb => ⟨fun h => by have := hU b ((e3 b).2 (.inr h)); omega, fun h => by have := hV b ((e4 b).2 (.inr h)); omega⟩
  refine ⟨hg.os.trans k.os, hg.tape.trans k.tape, hg.output.trans k.output, Nat.le_trans k.size hg.size, fun b hb hn => ?_, k.fin, k.oin, _, _, Sep.put hi f1 e2' (fun b hb => ?_) (fun b hb => ?_), ?_, ?_⟩
  · rw [hkeep b (Nat.lt_of_lt_of_le hb k.size) fun hs => ?_]
    · exact k.block b hb hn
    · rcases h2 b ((e3 b).2 (.inl hs)) with h | h
      · exact hn h
      · omega
  · obtain ⟨g1, g2, g3⟩ := f2 b hb
    rcases g3 with g3 | g3
    · exact ⟨(e5 b g3).1, g2, (e5 b g3).2.2⟩
    · exact ⟨(hnew b g3).1, g2, (hnew b g3).2⟩
  · obtain ⟨g1, g2⟩ := f3 b hb
    rcases g2 with g2 | g2 | g2
    · exact e6 b g2
    · exact (e5 b g2).1
    · exact (hnew b g2).1
  · rintro b (hb | hb)
    · obtain ⟨g1, g2, g3⟩ := f2 b hb
      rcases g3 with g3 | g3
      · rcases h2 b ((e3 b).2 (.inl g3)) with h | h
        · exact .inl h
        · exact .inr ⟨h.1, g1⟩
      · exact .inr ⟨Nat.le_trans k.size g3, g1⟩
    · rcases h2 b ((e3 b).2 (.inr hb)) with h | h
      · exact .inl h
      · exact .inr ⟨h.1, Nat.lt_of_lt_of_le h.2 hg.size⟩
  · rintro b (hb | hb)
    · obtain ⟨g1, g2⟩ := f3 b hb
      rcases g2 with g2 | g2 | g2
      · rcases h3 b ((e4 b).2 (.inl g2)) with h | h
        · exact .inl h
        · exact .inr ⟨h.1, g1⟩
      · rcases h2 b ((e3 b).2 (.inl g2)) with h | h
        · exact .inl (.inr h)
        · exact .inr ⟨h.1, g1⟩
      · exact .inr ⟨Nat.le_trans k.size g2, g1⟩
    · rcases h3 b ((e4 b).2 (.inr hb)) with h | h
      · exact .inl h
      · exact .inr ⟨h.1, Nat.lt_of_lt_of_le h.2 hg.size⟩

/-- A CALL: it is handed 'ins', the rest stays; what it shares lies in what is shared already -/
theorem Cx.enter {ins rest : List HP} (k : Cx F O w0 w (ins ++ rest)) : ∃ F1 O1 : Nat → Prop, Cx F1 O1 w w ins ∧ (∀ b, O b → O1 b) ∧ (∀ (i : Nat) (h : HP), rest[i]? = some h → ∃ S R, h.p w S R ∧ (∀ b, R b → O1 b) ∧ ∀ b, S b → ¬ F1 b) ∧ (∀ b, F1 b → F b ∨ w0.heap.size ≤ b) ∧
    ∀ w' outs, Cx F1 O1 w w' outs → Cx F O w0 w' (outs ++ rest) := by
  obtain ⟨U, V, h1, h2, h3⟩ := k.sep
  obtain ⟨U1, V1, U2, V2, e1, e2, e3, e4, e5, e6⟩ := Sep.split h1
  have hU : ∀ b, U b → b < w.heap.size := fun b hb => (h2 b hb).elim (fun h => Nat.lt_of_lt_of_le (k.fin b h).1 k.size) (·.2)
  have hV : ∀ b, V b → b < w.heap.size := fun b hb => (h3 b hb).elim (fun h => Nat.lt_of_lt_of_le (h.elim (k.oin b) fun h => (k.fin b h).1) k.size) (·.2)
  have hOw : ∀ b, O b → b < w.heap.size := fun b hb => Nat.lt_of_lt_of_le (k.oin b hb) k.size
  have hUO : ∀ b, U b → ¬ O b := fun b hb ho => (h2 b hb).elim (fun h => (k.fin b h).2 ho) (fun h => by have := k.oin b ho; omega)
  refine ⟨U1, fun b => O b ∨ V1 b ∨ V2 b, ⟨rfl, rfl, rfl, Nat.le_refl _, fun _ _ _ => rfl, fun b hb => ⟨hU b ((e3 b).2 (.inl hb)), ?_⟩, ?_, U1, V1, e1, fun b hb => .inl hb, fun b hb => .inl (.inl (.inr (.inl hb)))⟩, fun b hb => .inl hb, ?_, fun b hb => (h2 b ((e3 b).2 (.inl hb))).imp id (·.1), ?_⟩
  · rintro (h | h | h)
    · exact hUO b ((e3 b).2 (.inl hb)) h
    · exact Sep.apart e1 b hb h
    · exact (e5 b hb).2 h
  · rintro b (h | h | h)
    · exact hOw b h
    · exact hV b ((e4 b).2 (.inl h))
    · exact hV b ((e4 b).2 (.inr h))
  · intro i h hi
    obtain ⟨S, R, U', V', f1, f2, f3, f4, f5, f6⟩ := Sep.cut hi e2
    exact ⟨S, R, f1, fun b hb => .inr (.inr ((f4 b).2 (.inl hb))), fun b hb hf => (e5 b hf).1 ((f3 b).2 (.inl hb))⟩
  · intro w' outs k'
    obtain ⟨U', V', g1, g2, g3⟩ := k'.sep
    have e2' : Sep w' rest U2 V2 := Sep.keep e2 fun b hb => by
      refine k'.block b ?_ ?_
      · exact hb.elim (fun h => hU b ((e3 b).2 (.inr h))) (fun h => hV b ((e4 b).2 (.inr h)))
      · exact fun hf => hb.elim (fun h => (e5 b hf).1 h) (fun h => (e5 b hf).2 h)
    refine ⟨k'.os.trans k.os, k'.tape.trans k.tape, k'.output.trans k.output, Nat.le_trans k.size k'.size, fun b hb hn => ?_, k.fin, k.oin, _, _, Sep.join g1 e2' (fun b hb => ?_) (fun b hb => ?_), ?_, ?_⟩
    · rw [k'.block b (Nat.lt_of_lt_of_le hb k.size) fun hf => ?_]
      · exact k.block b hb hn
      · rcases h2 b ((e3 b).2 (.inl hf)) with h | h
        · exact hn h
        · omega
    · rcases g2 b hb with h | h
      · exact e5 b h
      · exact ⟨fun h' => by have := hU b ((e3 b).2 (.inr h')); omega, fun h' => by have := hV b ((e4 b).2 (.inr h')); omega⟩
    · intro h'
      rcases g3 b hb with (h | h) | h
      · rcases h with h | h | h
        · exact hUO b ((e3 b).2 (.inr h')) h
        · exact e6 b h h'
        · exact Sep.apart e2 b h' h
      · exact (e5 b h).1 h'
      · have := hU b ((e3 b).2 (.inr h')); omega
    · rintro b (hb | hb)
      · rcases g2 b hb with h | h
        · rcases h2 b ((e3 b).2 (.inl h)) with h' | h'
          · exact .inl h'
          · exact .inr ⟨h'.1, Nat.lt_of_lt_of_le h'.2 k'.size⟩
        · exact .inr ⟨Nat.le_trans k.size h.1, h.2⟩
      · rcases h2 b ((e3 b).2 (.inr hb)) with h' | h'
        · exact .inl h'
        · exact .inr ⟨h'.1, Nat.lt_of_lt_of_le h'.2 k'.size⟩
    · have old : ∀ b, V b → (O b ∨ F b) ∨ (w0.heap.size ≤ b ∧ b < w'.heap.size) := fun b hb => (h3 b hb).imp id fun h => ⟨h.1, Nat.lt_of_lt_of_le h.2 k'.size⟩
      rintro b (hb | hb)
      · rcases g3 b hb with (h | h) | h
        · rcases h with h | h | h
          · exact .inl (.inl h)
          · exact old b ((e4 b).2 (.inl h))
          · exact old b ((e4 b).2 (.inr h))
        · rcases h2 b ((e3 b).2 (.inl h)) with h' | h'
          · exact .inl (.inr h')
          · exact .inr ⟨h'.1, Nat.lt_of_lt_of_le h'.2 k'.size⟩
        · exact .inr ⟨Nat.le_trans k.size h.1, h.2⟩
      · exact old b ((e4 b).2 (.inr hb))

theorem Cx.upd1 {h h' : HP} (k : Cx F O w0 w hs) (i : Nat) (hi : hs[i]? = some h) (row : Option Nat) (hg : w.grownBy w' row)
    (hstep : ∀ S R, h.p w S R → (∀ b, S b → b < w.heap.size) → (∀ g, row = some g → S g) ∧ ∃ S' R', h'.p w' S' R' ∧ (∀ b, S' b → b < w'.heap.size ∧ (S b ∨ w.heap.size ≤ b)) ∧ ∀ b, ¬ R' b) : Cx F O w0 w' (hs.set i h') :=
  k.upd i hi row hg fun S R hp hd hlt => by
    obtain ⟨h1, S', R', h2, h3, h4⟩ := hstep S R hp fun b hb => hlt b (.inl hb)
    exact ⟨h1, S', R', h2, fun b hb => ⟨(h3 b hb).1, h4 b, (h3 b hb).2⟩, fun b hb => (h4 b hb).elim⟩
def N0 : Nat → Prop := fun _ => False
theorem Cx.refl (w : World) : Cx N0 N0 w w [] := ⟨rfl, rfl, rfl, Nat.le_refl _, fun _ _ _ => rfl, fun _ h => h.elim, fun _ h => h.elim, N0, N0, ⟨fun _ h => h, fun _ h => h⟩, fun _ h => h.elim, fun _ h => h.elim⟩
theorem Cx.below {w0 w : World} {O : Nat → Prop} {hs : List HP} (k : Cx N0 O w0 w hs) : Below w0.heap.size w0 w := ⟨k.os, k.tape, k.output, k.size, fun b hb => k.block b hb fun h => h⟩
/-- what a call made is new -/
theorem Cx.call {as : List HP} (k : Cx F O w0 w hs) (k' : Cx N0 N0 w w' as) : Cx F O w0 w' (hs ++ as) := by
  obtain ⟨U, V, h1, h2, h3⟩ := k.sep
  obtain ⟨U', V', g1, g2, g3⟩ := k'.sep
  have hU : ∀ b, U b → b < w.heap.size := fun b hb => (h2 b hb).elim (fun h => Nat.lt_of_lt_of_le (k.fin b h).1 k.size) (·.2)
  have hV : ∀ b, V b → b < w.heap.size := fun b hb => (h3 b hb).elim (fun h => Nat.lt_of_lt_of_le (h.elim (k.oin b) fun h => (k.fin b h).1) k.size) (·.2)
  have gU : ∀ b, U' b → w.heap.size ≤ b ∧ b < w'.heap.size := fun b hb => (g2 b hb).elim (fun h => h.elim) id
  have gV : ∀ b, V' b → w.heap.size ≤ b ∧ b < w'.heap.size := fun b hb => (g3 b hb).elim (fun h => h.elim (fun h => h.elim) (fun h => h.elim)) id
  have e1 : Sep w' hs U V := Sep.keep h1 fun b hb => k'.block b (hb.elim (hU b) (hV b)) fun h => h
  refine ⟨k'.os.trans k.os, k'.tape.trans k.tape, k'.output.trans k.output, Nat.le_trans k.size k'.size, fun b hb hn => ?_, k.fin, k.oin, _, _, Sep.join e1 g1 (fun b hb => ⟨fun h => ?_, fun h => ?_⟩) (fun b hb h => ?_), ?_, ?_⟩
  · rw [k'.block b (Nat.lt_of_lt_of_le hb k.size) fun h => h]; exact k.block b hb hn
  · have := hU b hb; have := gU b h; omega
  · have := hU b hb; have := gV b h; omega
  · have := hV b hb; have := gU b h; omega
  · rintro b (hb | hb)
    · exact (h2 b hb).imp id fun h => ⟨h.1, Nat.lt_of_lt_of_le h.2 k'.size⟩
    · exact .inr ⟨Nat.le_trans k.size (gU b hb).1, (gU b hb).2⟩
  · rintro b (hb | hb)
    · exact (h3 b hb).imp id fun h => ⟨h.1, Nat.lt_of_lt_of_le h.2 k'.size⟩
    · exact .inr ⟨Nat.le_trans k.size (gV b hb).1, (gV b hb).2⟩
end
end Go.Sx
