import Derived.Test.YtjddlmbpkkbkoaaGreatSyO
namespace Go.Sx
open Go.RowKit
set_option linter.unusedSimpArgs false
set_option linter.unusedVariables false
variable {α β : Type}

abbrev Hd := Option Addr × Nat × Nat
def eH : Enc Hd := ⟨1, fun h => [.slice h.1 h.2.1 h.2.2], fun _ => rfl, fun x v h => by rw [List.mem_singleton.1 h]; rfl⟩
instance : Pos eH := ⟨by decide⟩
def rows (E : Enc α) : List Hd → List (List α) → List HP
  | h :: hs, x :: xs => Ow E h.1 h.2.1 h.2.2 x :: rows E hs xs
  | _, _ => []
theorem rows_get {E : Enc α} {hd : List Hd} {xss : List (List α)} {i : Nat} {h : Hd} {x : List α} (h1 : hd[i]? = some h) (h2 : xss[i]? = some x) : (rows E hd xss)[i]? = some (Ow E h.1 h.2.1 h.2.2 x) := by
  induction hd generalizing xss i with
  | nil => cases h1
  | cons a as ih =>
    cases xss with
    | nil => cases h2
    | cons b bs =>
      cases i with
      | zero =>
        simp only [List.getElem?_cons_zero, Option.some.injEq] at h1 h2
        subst h1; subst h2; rfl
      | succ i =>
        simp only [List.getElem?_cons_succ] at h1 h2
        exact ih h1 h2
theorem rows_set {E : Enc α} : ∀ (hd : List Hd) (xss : List (List α)) (i : Nat) (h : Hd) (x : List α), hd.length = xss.length → (rows E hd xss).set i (Ow E h.1 h.2.1 h.2.2 x) = rows E (hd.set i h) (xss.set i x)
  | [], xss, _, _, _, _ => rfl
  | _ :: _, [], _, _, _, h => by cases h
  | a :: as, b :: bs, 0, h, x, _ => rfl
  | a :: as, b :: bs, i + 1, h, x, hl => by
    simp only [List.length_cons, Nat.add_right_cancel_iff] at hl
    simp only [rows, List.set_cons_succ, rows_set as bs i h x hl]
theorem rows_app {E : Enc α} : ∀ (hd hd2 : List Hd) (xss xss2 : List (List α)), hd.length = xss.length → rows E (hd ++ hd2) (xss ++ xss2) = rows E hd xss ++ rows E hd2 xss2
  | [], hd2, [], xss2, _ => rfl
  | [], _, _ :: _, _, h => by cases h
  | _ :: _, _, [], _, h => by cases h
  | a :: as, hd2, b :: bs, xss2, hl => by
    simp only [List.length_cons, Nat.add_right_cancel_iff] at hl
    simp only [List.cons_append, rows, rows_app as hd2 bs xss2 hl]
theorem rows_length {E : Enc α} : ∀ (hd : List Hd) (xss : List (List α)), hd.length = xss.length → (rows E hd xss).length = hd.length
  | [], _, _ => by simp [rows]
  | _ :: _, [], h => by cases h
  | a :: as, b :: bs, hl => by
    simp only [List.length_cons, Nat.add_right_cancel_iff] at hl
    simp [rows, rows_length as bs hl]

def Pk (q : Prop) (l : List HP) : HP where
  p w S R := q ∧ Sep w l S R
  loc := by
    rintro w w' S R ⟨h0, h⟩ hk
    exact ⟨h0, h.keep hk⟩
section
variable {F O : Nat → Prop} {w0 w w' : World} {hs rest : List HP}
theorem perm_cut {β : Type} {l : List β} {i : Nat} {x : β} (h : l[i]? = some x) : l.Perm (x :: l.eraseIdx i) := by
  induction l generalizing i with
  | nil => cases h
  | cons y l ih =>
    cases i with
    | zero =>
      simp only [List.getElem?_cons_zero, Option.some.injEq] at h
      subst h
      exact .refl _
    | succ i =>
      simp only [List.getElem?_cons_succ] at h
      simp only [List.eraseIdx_cons_succ]
      exact (List.Perm.cons _ (ih h)).trans (.swap _ _ _)
theorem perm_put {β : Type} {l : List β} {i : Nat} (x : β) (h : i < l.length) : (x :: l.eraseIdx i).Perm (l.set i x) := by
  have h1 : (l.set i x)[i]? = some x := by simp [h]
  have h2 := perm_cut h1
  rw [List.eraseIdx_set_eq] at h2
  exact h2.symm
theorem Cx.unpk {q : Prop} {l : List HP} (k : Cx F O w0 w (Pk q l :: rest)) : q ∧ Cx F O w0 w (l ++ rest) := by
  obtain ⟨U, V, ⟨S, R, U', V', ⟨hq, h1⟩, h2, h3, h4, h5, h6⟩, hU, hV⟩ := k.sep
  refine ⟨hq, k.os, k.tape, k.output, k.size, k.block, k.fin, k.oin, _, _, Sep.join h1 h2 (fun b hb => ⟨(h5 b hb).1, (h5 b hb).2.2⟩) h6, fun b hb => hU b ((h3 b).2 hb), fun b hb => hV b ((h4 b).2 hb)⟩
theorem Cx.dopk {q : Prop} {l : List HP} (hq : q) (k : Cx F O w0 w (l ++ rest)) : Cx F O w0 w (Pk q l :: rest) := by
  obtain ⟨U, V, h, hU, hV⟩ := k.sep
  obtain ⟨U1, V1, U2, V2, e1, e2, e3, e4, e5, e6⟩ := Sep.split h
  refine ⟨k.os, k.tape, k.output, k.size, k.block, k.fin, k.oin, U, V, ⟨U1, V1, U2, V2, ⟨hq, e1⟩, e2, e3, e4, fun b hb => ⟨(e5 b hb).1, fun hr => Sep.apart e1 b hb hr, (e5 b hb).2⟩, e6⟩, hU, hV⟩
theorem Ow.lec' {E : Enc α} {A : Option Addr} {n c : Nat} {xs : List α} {S R : Nat → Prop} (h : (Ow E A n c xs).p w S R) : n ≤ c := by
  rcases h.2 with ⟨_, h1, h2⟩ | ⟨g, t, cur, _, _, h3, _⟩ <;> omega
end

section
variable {F O F1 O1 : Nat → Prop} {w0 w w' : World} {hs rest : List HP} {E : Enc α} {A : Option Addr} {hd : List Hd} {xss : List (List α)}
theorem ro_of_ow {n c : Nat} {xs : List α} {S R : Nat → Prop} (h : (Ow E A n c xs).p w S R) (hS : ∀ b, S b → ¬ F1 b) : Ro F1 w A (E.all xs) := by
  refine ⟨Ow.rd' h, fun _ a ha => ?_⟩
  rcases h.2 with ⟨h1, _⟩ | ⟨g, t, cur, h1, _, _, _, _, _, h7⟩
  · rw [h1] at ha; cases ha
  · rw [h1] at ha
    simp only [Option.some.injEq] at ha
    subst ha
    exact hS g h7
end

section
variable {P : Program} {n : Nat} {ops : Array Oper} {L : St} {w w0 : World} {F O : Nat → Prop} {hs rest : List HP} {K : St → World → Prop}
end

section
variable {P : Program} {n : Nat} {Q : Act → World → Prop} {ops : Array Oper} {Ls : List Nat} {C : List (World → Prop)} {L L' : St} {w : World} {π : MT} {p : Nat}
end

theorem Rd.nilA {w : World} {A : Option Addr} {cs : List Value} (h : Rd w A cs) (hA : A.isNone = true) : cs = [] := by
  cases cs with
  | nil => rfl
  | cons v vs =>
    have := h.isSome (off := 0) (v := v) rfl
    cases A <;> simp_all
theorem all_nil {E : Enc α} [hp : Pos E] {xs : List α} (h : E.all xs = []) : xs = [] := by
  cases xs with
  | nil => rfl
  | cons x xs =>
    have := congrArg List.length h
    rw [Enc.all_length] at this
    have hq := hp.1
    simp only [List.length_cons, List.length_nil] at this
    exact absurd this (Nat.ne_of_gt (Nat.mul_pos (Nat.succ_pos _) hq))

end Go.Sx

