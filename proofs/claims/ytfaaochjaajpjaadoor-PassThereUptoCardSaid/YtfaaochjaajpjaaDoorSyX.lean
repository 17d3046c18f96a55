import Derived.Test.YtfaaochjaajpjaaDoorSyW
import Derived.Test.YtfaaochjaajpjaaDoorSyV
namespace Go.Sx
open Go.RowKit
set_option linter.unusedSimpArgs false
set_option linter.unusedVariables false
variable {α β γ δ : Type}
section
variable {F O F1 O1 : Nat → Prop} {w0 w w' : World} {hs rest : List HP} {E : Enc α} {A : Option Addr} {n c : Nat} {x : List α}
/-- a shared slice is read by a callee -/
theorem Ro.of_sh (hO : ∀ b, O1 b → ¬ F1 b) (hr : ∀ (i : Nat) (h : HP), rest[i]? = some h → ∃ S R, h.p w S R ∧ (∀ b, R b → O1 b) ∧ ∀ b, S b → ¬ F1 b) (i : Nat) (hi : rest[i]? = some (Sh (SH E) [(A, n, c)] [x])) : Ro F1 w A (E.all x) := by
  obtain ⟨S, R, h, hR, hS⟩ := hr i _ hi
  have h1 := h.2.2 0 _ _ rfl rfl
  exact ⟨h1.2.2.1, fun hne a ha hf => hO _ (hR _ (h1.2.2.2 hne a ha)) hf⟩
/-- a slice that holds something is not nil -/
theorem Cx.owsome (k : Cx F O w0 w hs) (i : Nat) (hi : hs[i]? = some (Ow E A n c x)) (h : x ≠ []) : ∃ g, A = some ⟨g, 0, Option.none⟩ := by
  obtain ⟨S, R, h0, h1⟩ := k.get i hi
  rcases h1 with ⟨_, h2, _⟩ | ⟨g, t, cur, h2, _⟩
  · exact absurd (List.eq_nil_of_length_eq_zero (h0.trans h2)) h
  · exact ⟨g, h2⟩
end
theorem FamG.len {H : Type} {m : DataW H → δ → Prop} {bulk : DataW H → Nat} {bulkAll : List (DataW H) → Nat} (h0 : ∀ d ds, bulkAll (d :: ds) = bulk d + bulkAll ds) (h1 : ∀ d, 1 ≤ bulk d) : ∀ (ds : List (DataW H)) (xs : List δ), FamG m ds xs → xs.length ≤ bulkAll ds
  | [], [], _ => Nat.zero_le _
  | [], _ :: _, h => h.elim
  | _ :: _, [], h => h.elim
  | d :: ds, x :: xs, ⟨_, hr⟩ => by
    have := FamG.len h0 h1 ds xs hr
    have := h1 d
    simp only [List.length_cons, h0]
    omega
section
variable {σ ρ : Type} {P : Program} {n : Nat} {Q : Exit → Act → World → Prop} {c : Code} {L L' : St} {w0 : World}
theorem Lp_loop (step : σ → Option (σ ⊕ ρ)) (rel : σ → St → World → Prop) (r : ρ)
    (hb : ∀ s L w y, rel s L w → step s = some y → (∀ r', y = .inr r' → r' = r) →
      W P n c (Exit.then (fun a w => ∃ s' L', y = .inl s' ∧ Fu n a (Kn L') ∧ rel s' L' w) Q) L w) :
    ∀ (k : Nat) (s : σ) (L : St) (w : World) (a : Act), rel s L w → Fu n a (Kn L) → runK step k s = some r → Lp P c Q a w := by
  intro k
  induction k with
  | zero => intro s L w a _ _ h; cases h
  | succ k ih =>
    intro s L w a hrel hfu hrun
    rw [runK] at hrun
    cases hs : step s with
    | none => rw [hs] at hrun; cases hrun
    | some y =>
      rw [hs] at hrun
      refine Lp.round (wp_mono (hb s L w y hrel hs (by intro r' e; subst e; simpa using hrun) a hfu) ?_)
      intro e a' w' hq
      cases e with
      | normal =>
        obtain ⟨s', L1, rfl, hfu', hrel'⟩ := hq
        exact ih s' L1 w' a' hrel' hfu' (by simpa using hrun)
      | _ => exact hq
/-- behind a round: the loop, by what is true at each round -/
theorem At_lp (step : σ → Option (σ ⊕ ρ)) (rel : σ → St → World → Prop) (s0 : σ) (r : ρ) (hm : whileO step s0 = some r) (h0 : rel s0 L' w0) (hk : L'.map (fun p => (find L p.1).map SV.val) = L'.map (fun p => some p.2.val))
    (hb : ∀ s L w y, rel s L w → step s = some y → (∀ r', y = .inr r' → r' = r) → W P n c (Exit.then (fun a w => ∃ s' L', y = .inl s' ∧ Fu n a (Kn L') ∧ rel s' L' w) Q) L w) : At n (Exit.then (Lp P c Q) Q .normal) L w0 := by
  refine At_forget L' hk ?_
  intro a ha
  obtain ⟨k, hk0⟩ := whileO_some.1 hm
  exact Lp_loop step rel r hb k s0 L' w0 a h0 ha hk0
end
end Go.Sx
