import Derived.Test.YtlekdnlojpnlmaaSyU
namespace Go.Sx
open Go.RowKit
set_option linter.unusedSimpArgs false
set_option linter.unusedVariables false
variable {α β γ δ ε ζ : Type}

/-! ### slices of structs that hold slices, the call's own: the rows within are shared, and nobody writes them -/
structure Rl (γ δ : Type) where
  r : World → (Nat → Prop) → γ → δ → Prop
  loc : ∀ w w' R y x, r w R y x → (∀ b, R b → w'.heap[b]? = w.heap[b]?) → r w' R y x
  mono : ∀ w R R' y x, (∀ b, R b → R' b) → r w R y x → r w R' y x
def SH (E : Enc α) : Rl Hd (List α) where
  r w R h x := h.2.1 = x.length ∧ x.length ≤ h.2.2 ∧ Rd w h.1 (E.all x) ∧ (E.all x ≠ [] → ∀ a, h.1 = some a → R a.block)
  loc := by
    rintro w w' R y x ⟨h1, h2, h3, h4⟩ hk
    refine ⟨h1, h2, ⟨h3.1, fun a j u ha hu => ?_⟩, h4⟩
    have h5 := h3.2 a j u ha hu
    have hne : E.all x ≠ [] := fun e => by rw [e] at hu; cases hu
    have h6 := hk (a.add j).block (by rw [addr_add_block]; exact h4 hne a ha)
    rw [World.cell?_of_block h6]
    exact h5
  mono := by
    rintro w R R' y x hR ⟨h1, h2, h3, h4⟩
    exact ⟨h1, h2, h3, fun hne a ha => hR _ (h4 hne a ha)⟩
/-- what is shared: it owns nothing -/
def Sh (q : Rl γ δ) (ys : List γ) (xs : List δ) : HP where
  p w S R := (∀ b, ¬ S b) ∧ ys.length = xs.length ∧ ∀ (j : Nat) (y : γ) (x : δ), ys[j]? = some y → xs[j]? = some x → q.r w R y x
  loc := by
    rintro w w' S R ⟨h0, h1, h2⟩ hk
    exact ⟨h0, h1, fun j y x e1 e2 => q.loc _ _ _ _ _ (h2 j y x e1 e2) fun b hb => hk b (.inr hb)⟩
section
variable {F O : Nat → Prop} {w0 w w' : World} {hs rest : List HP}
/-- a row of one's own is shared from here on -/
theorem Cx.share {E : Enc α} {A : Option Addr} {n c : Nat} {xs : List α} (k : Cx F O w0 w (Ow E A n c xs :: rest)) : Cx F O w0 w (Sh (SH E) [(A, n, c)] [xs] :: rest) := by
  have := k.upd (h' := Sh (SH E) [(A, n, c)] [xs]) 0 rfl Option.none ⟨rfl, rfl, rfl, Nat.le_refl _, fun _ _ _ => rfl⟩ fun S R h1 h2 h3 => by
    refine ⟨fun g hg => (by cases hg), fun _ => False, fun b => R b ∨ S b, ⟨fun _ h => h, rfl, fun j y x e1 e2 => ?_⟩, fun b hb => hb.elim, fun b hb => ⟨h3 b (hb.elim .inr .inl), hb.elim .inl (fun h => .inr (.inl h))⟩⟩
    cases j with
    | succ j => cases e1
    | zero =>
      obtain rfl := Option.some.inj e1
      obtain rfl := Option.some.inj e2
      refine ⟨h1.1.symm, by rw [h1.1]; exact Ow.lec' h1, Ow.rd' h1, fun hne a ha => ?_⟩
      rcases h1.2 with ⟨h4, _⟩ | ⟨g, t, cur, h4, _, _, _, _, _, h5⟩
      · rw [h4] at ha; cases ha
      · rw [h4] at ha
        obtain rfl := Option.some.inj ha
        exact .inr h5
  simpa only [List.set_cons_zero] using this
variable {E : Enc γ} {q : Rl γ δ} {A : Option Addr} {n c : Nat} {ys : List γ} {xs : List δ}
end

section
variable {F O : Nat → Prop} {w0 w : World} {hs : List HP}
theorem Cx.shlen {E : Enc α} {A : Option Addr} {n c : Nat} {x : List α} (k : Cx F O w0 w hs) (i : Nat) (hi : hs[i]? = some (Sh (SH E) [(A, n, c)] [x])) : x.length = n := by
  obtain ⟨S, R, h⟩ := k.get i hi
  exact ((h.2.2 0 _ _ rfl rfl).1).symm
theorem Cx.shlec {E : Enc α} {A : Option Addr} {n c : Nat} {x : List α} (k : Cx F O w0 w hs) (i : Nat) (hi : hs[i]? = some (Sh (SH E) [(A, n, c)] [x])) : n ≤ c := by
  obtain ⟨S, R, h⟩ := k.get i hi
  have h1 := h.2.2 0 _ _ rfl rfl
  have h2 : n = x.length := h1.1
  have h3 : x.length ≤ c := h1.2.1
  omega
theorem Cx.shrd {E : Enc α} {A : Option Addr} {n c : Nat} {x : List α} (k : Cx F O w0 w hs) (i : Nat) (hi : hs[i]? = some (Sh (SH E) [(A, n, c)] [x])) : Rd w A (E.all x) := by
  obtain ⟨S, R, h⟩ := k.get i hi
  exact (h.2.2 0 _ _ rfl rfl).2.2.1
end

/-! ### a parameter whose rows are shared -/
section
variable {F O F1 O1 : Nat → Prop} {w0 w w' : World} {hs rest : List HP} {E : Enc γ} {q : Rl γ δ} {A : Option Addr} {ys : List γ} {xs : List δ}
theorem Cx.off (k : Cx F O w0 w hs) : ∀ b, O b → ¬ F b := fun b ho hf => (k.fin b hf).2 ho
end
section
variable {P : Program} {n : Nat} {ops : Array Oper} {L : St} {w w0 : World} {F O : Nat → Prop} {hs rest : List HP} {K : St → World → Prop} {E : Enc γ} {q : Rl γ δ}
end
end Go.Sx

