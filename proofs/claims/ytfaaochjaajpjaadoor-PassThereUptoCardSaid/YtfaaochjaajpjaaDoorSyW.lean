import Derived.Test.YtfaaochjaajpjaaDoorSyU
namespace Go.Sx
open Go.RowKit
set_option linter.unusedSimpArgs false
set_option linter.unusedVariables false
variable {α β γ δ ε ζ : Type}

/-! ### slices of structs that hold slices, the call's own: the rows within are shared, and nobody writes them -/
structure Rl (γ δ : Type) where
  r : World → (Nat → Prop) → γ → δ → Prop
  loc : ∀ w w' R y x, r w R y x → (∀ b, R b → w'.heap[b]? = w.heap[b]?) → r w' R y x
  mono : ∀ w R R' y x, (∀ b, R b → R' b) → r w R y x → r w R' y x
def SQ : Rl α α := ⟨fun _ _ y x => y = x, fun _ _ _ _ _ h _ => h, fun _ _ _ _ _ _ h => h⟩
def SH (E : Enc α) : Rl Hd (List α) where
  r w R h x := h.2.1 = x.length ∧ x.length ≤ h.2.2 ∧ Rd w h.1 (E.all x) ∧ (E.all x ≠ [] → ∀ a, h.1 = some a → R a.block)
  loc := by
    rintro w w' R y x ⟨h1, h2, h3, h4⟩ hk
    refine ⟨h1, h2, ⟨h3.1, fun a j u ha hu => ?_⟩, h4⟩
    have h5 := h3.2 a j u ha hu
    have hne : E.all x ≠ [] := fun e => by rw [e] at hu; cases hu
    have h6 := hk (a.add j).block (by rw [addr_add_block]; exact h4 hne a ha)
    rw [World.cell?_of_block h6]
    exact h5
  mono := by
    rintro w R R' y x hR ⟨h1, h2, h3, h4⟩
    exact ⟨h1, h2, h3, fun hne a ha => hR _ (h4 hne a ha)⟩
def SP (q : Rl α β) (p : Rl γ δ) : Rl (α × γ) (β × δ) where
  r w R y x := q.r w R y.1 x.1 ∧ p.r w R y.2 x.2
  loc := by rintro w w' R y x ⟨h1, h2⟩ hk; exact ⟨q.loc _ _ _ _ _ h1 hk, p.loc _ _ _ _ _ h2 hk⟩
  mono := by rintro w R R' y x hR ⟨h1, h2⟩; exact ⟨q.mono _ _ _ _ _ hR h1, p.mono _ _ _ _ _ hR h2⟩
/-- what is shared: it owns nothing -/
def Sh (q : Rl γ δ) (ys : List γ) (xs : List δ) : HP where
  p w S R := (∀ b, ¬ S b) ∧ ys.length = xs.length ∧ ∀ (j : Nat) (y : γ) (x : δ), ys[j]? = some y → xs[j]? = some x → q.r w R y x
  loc := by
    rintro w w' S R ⟨h0, h1, h2⟩ hk
    exact ⟨h0, h1, fun j y x e1 e2 => q.loc _ _ _ _ _ (h2 j y x e1 e2) fun b hb => hk b (.inr hb)⟩
def OG (E : Enc γ) (q : Rl γ δ) (A : Option Addr) (n c : Nat) (ys : List γ) (xs : List δ) : HP := Pk True [Ow E A n c ys, Sh q ys xs]
section
variable {F O : Nat → Prop} {w0 w w' : World} {hs rest : List HP}
theorem Cx.merge {h1 h2 h3 : HP} (k : Cx F O w0 w (h1 :: h2 :: rest)) (hp : ∀ w S1 R1 S2 R2, h1.p w S1 R1 → h2.p w S2 R2 → h3.p w (fun b => S1 b ∨ S2 b) (fun b => R1 b ∨ R2 b)) : Cx F O w0 w (h3 :: rest) := by
  obtain ⟨U, V, ⟨S1, R1, U1, V1, e1, ⟨S2, R2, U2, V2, g1, g2, g3, g4, g5, g6⟩, e3, e4, e5, e6⟩, hU, hV⟩ := k.sep
  refine ⟨k.os, k.tape, k.output, k.size, k.block, k.fin, k.oin, U, V, ⟨_, _, U2, V2, hp _ _ _ _ _ e1 g1, g2, fun b => ?_, fun b => ?_, fun b hb => ?_, fun b hb => ?_⟩, hU, hV⟩
  · rw [e3, g3, or_assoc]
  · rw [e4, g4, or_assoc]
  · rcases hb with hb | hb
    · have h := e5 b hb
      rw [g3, g4] at h
      exact ⟨fun q => h.1 (.inr q), fun q => q.elim h.2.1 (fun q => h.2.2 (.inl q)), fun q => h.2.2 (.inr q)⟩
    · have h := g5 b hb
      exact ⟨h.1, fun q => q.elim (fun q => e6 b q ((g3 b).2 (.inl hb))) h.2.1, h.2.2⟩
  · rcases hb with hb | hb
    · exact fun q => e6 b hb ((g3 b).2 (.inr q))
    · exact g6 b hb
/-- a piece that owns nothing, out of one that is there -/
theorem Cx.dup {h h' : HP} (k : Cx F O w0 w hs) (i : Nat) (hi : hs[i]? = some h) (hp : ∀ w S R, h.p w S R → h'.p w (fun _ => False) R) : Cx F O w0 w (h' :: hs) := by
  obtain ⟨U, V, h1, hU, hV⟩ := k.sep
  obtain ⟨S, R, U', V', e1, e2, e3, e4, e5, e6⟩ := Sep.cut hi h1
  refine ⟨k.os, k.tape, k.output, k.size, k.block, k.fin, k.oin, U, V, ⟨_, R, U, V, hp _ _ _ e1, h1, fun b => ⟨.inr, fun h => h.elim (fun h => h.elim) id⟩, fun b => ⟨.inr, fun h => h.elim (fun h => (e4 b).2 (.inl h)) id⟩, fun b hb => hb.elim, fun b hb hu => ?_⟩, hU, hV⟩
  exact Sep.apart h1 b hu ((e4 b).2 (.inl hb))
/-- a row of one's own is shared from here on -/
theorem Cx.share {E : Enc α} {A : Option Addr} {n c : Nat} {xs : List α} (k : Cx F O w0 w (Ow E A n c xs :: rest)) : Cx F O w0 w (Sh (SH E) [(A, n, c)] [xs] :: rest) := by
  have := k.upd (h' := Sh (SH E) [(A, n, c)] [xs]) 0 rfl Option.none ⟨rfl, rfl, rfl, Nat.le_refl _, fun _ _ _ => rfl⟩ fun S R h1 h2 h3 => by
    refine ⟨fun g hg => (by cases hg), fun _ => False, fun b => R b ∨ S b, ⟨fun _ h => h, rfl, fun j y x e1 e2 => ?_⟩, fun b hb => hb.elim, fun b hb => ⟨h3 b (hb.elim .inr .inl), hb.elim .inl (fun h => .inr (.inl h))⟩⟩
    cases j with
    | succ j => cases e1
    | zero =>
      obtain rfl := Option.some.inj e1
      obtain rfl := Option.some.inj e2
      refine ⟨h1.1.symm, by rw [h1.1]; exact Ow.lec' h1, Ow.rd' h1, fun hne a ha => ?_⟩
      rcases h1.2 with ⟨h4, _⟩ | ⟨g, t, cur, h4, _, _, _, _, _, h5⟩
      · rw [h4] at ha; cases ha
      · rw [h4] at ha
        obtain rfl := Option.some.inj ha
        exact .inr h5
  simpa only [List.set_cons_zero] using this
/-- what was shared ahead of the call -/
theorem Cx.shold (k : Cx F O w0 w hs) (q : Rl γ δ) {y : γ} {x : δ} (h : q.r w0 O y x) : Cx F O w0 w (Sh q [y] [x] :: hs) := by
  obtain ⟨U, V, h1, hU, hV⟩ := k.sep
  have hw : q.r w O y x := q.loc _ _ _ _ _ h fun b hb => k.block b (k.oin b hb) fun hf => (k.fin b hf).2 hb
  refine ⟨k.os, k.tape, k.output, k.size, k.block, k.fin, k.oin, U, fun b => O b ∨ V b, ⟨fun _ => False, O, U, V, ⟨fun _ h => h, rfl, fun j y' x' e1 e2 => ?_⟩, h1, fun b => ⟨.inr, fun h => h.elim (fun h => h.elim) id⟩, fun b => Iff.rfl, fun b hb => hb.elim, fun b hb hu => ?_⟩, hU, fun b hb => hb.elim (fun h => .inl (.inl h)) (hV b)⟩
  · cases j with
    | succ j => cases e1
    | zero =>
      obtain rfl := Option.some.inj e1
      obtain rfl := Option.some.inj e2
      exact hw
  · rcases hU b hu with h | h
    · exact (k.fin b h).2 hb
    · have := k.oin b hb; omega
theorem Cx.shz (k : Cx F O w0 w hs) (q : Rl γ δ) : Cx F O w0 w (Sh q [] [] :: hs) := by
  obtain ⟨U, V, h1, hU, hV⟩ := k.sep
  exact ⟨k.os, k.tape, k.output, k.size, k.block, k.fin, k.oin, U, V, ⟨fun _ => False, fun _ => False, U, V, ⟨fun _ h => h, rfl, fun j y x e1 _ => by cases e1⟩, h1, by simp, by simp, fun b hb => hb.elim, fun b hb => hb.elim⟩, hU, hV⟩
theorem Cx.shq (k : Cx F O w0 w hs) (x : α) : Cx F O w0 w (Sh SQ [x] [x] :: hs) := by
  obtain ⟨U, V, h1, hU, hV⟩ := k.sep
  refine ⟨k.os, k.tape, k.output, k.size, k.block, k.fin, k.oin, U, V, ⟨fun _ => False, fun _ => False, U, V, ⟨fun _ h => h, rfl, fun j y x' e1 e2 => ?_⟩, h1, by simp, by simp, fun b hb => hb.elim, fun b hb => hb.elim⟩, hU, hV⟩
  rw [e1] at e2
  exact Option.some.inj e2
theorem Cx.shp {q : Rl α β} {p : Rl γ δ} {y1 : α} {x1 : β} {y2 : γ} {x2 : δ} (k : Cx F O w0 w (Sh q [y1] [x1] :: Sh p [y2] [x2] :: rest)) : Cx F O w0 w (Sh (SP q p) [(y1, y2)] [(x1, x2)] :: rest) :=
  k.merge fun w S1 R1 S2 R2 h1 h2 => ⟨fun b hb => hb.elim (h1.1 b) (h2.1 b), rfl, fun j y x e1 e2 => by
    cases j with
    | succ j => cases e1
    | zero =>
      obtain rfl := Option.some.inj e1
      obtain rfl := Option.some.inj e2
      exact ⟨q.mono _ _ _ _ _ (fun b hb => .inl hb) (h1.2.2 0 _ _ rfl rfl), p.mono _ _ _ _ _ (fun b hb => .inr hb) (h2.2.2 0 _ _ rfl rfl)⟩⟩
theorem Cx.sha {q : Rl γ δ} {ys ys' : List γ} {xs xs' : List δ} (k : Cx F O w0 w (Sh q ys xs :: Sh q ys' xs' :: rest)) : Cx F O w0 w (Sh q (ys ++ ys') (xs ++ xs') :: rest) :=
  k.merge fun w S1 R1 S2 R2 h1 h2 => ⟨fun b hb => hb.elim (h1.1 b) (h2.1 b), by simp [h1.2.1, h2.2.1], fun j y x e1 e2 => by
    by_cases hj : j < ys.length
    · rw [List.getElem?_append_left hj] at e1
      rw [List.getElem?_append_left (by have := h1.2.1; omega)] at e2
      exact q.mono _ _ _ _ _ (fun b hb => .inl hb) (h1.2.2 j _ _ e1 e2)
    · rw [List.getElem?_append_right (by omega)] at e1
      rw [List.getElem?_append_right (by have := h1.2.1; omega), ← h1.2.1] at e2
      exact q.mono _ _ _ _ _ (fun b hb => .inr hb) (h2.2.2 _ _ _ e1 e2)⟩
theorem Cx.og {E : Enc γ} {q : Rl γ δ} {A : Option Addr} {n c : Nat} {ys : List γ} {xs : List δ} (k : Cx F O w0 w (Ow E A n c ys :: Sh q ys xs :: rest)) : Cx F O w0 w (OG E q A n c ys xs :: rest) := Cx.dopk (l := [_, _]) trivial k
theorem Cx.ogun {E : Enc γ} {q : Rl γ δ} {A : Option Addr} {n c : Nat} {ys : List γ} {xs : List δ} (k : Cx F O w0 w (OG E q A n c ys xs :: rest)) : Cx F O w0 w (Ow E A n c ys :: Sh q ys xs :: rest) := k.unpk.2
theorem Cx.ognil (k : Cx F O w0 w hs) (E : Enc γ) (q : Rl γ δ) : Cx F O w0 w (OG E q Option.none 0 0 [] [] :: hs) := by
  refine Cx.og ?_
  have k1 := (k.shz q).nil E
  exact k1.perm (List.perm_append_comm (l₂ := [_]))
theorem OG.parts {E : Enc γ} {q : Rl γ δ} {A : Option Addr} {n c : Nat} {ys : List γ} {xs : List δ} {S R : Nat → Prop} (h : (OG E q A n c ys xs).p w S R) :
    (∃ S' R', (Ow E A n c ys).p w S' R' ∧ ∀ b, S' b → S b) ∧ ys.length = xs.length ∧ ∀ (j : Nat) (y : γ) (x : δ), ys[j]? = some y → xs[j]? = some x → q.r w R y x := by
  obtain ⟨_, hS⟩ := h
  obtain ⟨S1, R1, U1, V1, e1, e2, e3, e4, _⟩ := Sep.cut (i := 0) rfl hS
  obtain ⟨S2, R2, U2, V2, g1, g2, g3, g4, _⟩ := Sep.cut (i := 0) rfl e2
  refine ⟨⟨S1, R1, e1, fun b hb => (e3 b).2 (.inl hb)⟩, g1.2.1, fun j y x f1 f2 => q.mono _ _ _ _ _ (fun b hb => (e4 b).2 (.inr ((g4 b).2 (.inl hb)))) (g1.2.2 j y x f1 f2)⟩
variable {E : Enc γ} {q : Rl γ δ} {A : Option Addr} {n c : Nat} {ys : List γ} {xs : List δ}
theorem Cx.oglen (k : Cx F O w0 w hs) (i : Nat) (hi : hs[i]? = some (OG E q A n c ys xs)) : xs.length = n := by
  obtain ⟨S, R, h⟩ := k.get i hi
  obtain ⟨⟨_, _, h1, _⟩, h2, _⟩ := OG.parts h
  rw [← h2]; exact h1.1
theorem Cx.oglen' (k : Cx F O w0 w hs) (i : Nat) (hi : hs[i]? = some (OG E q A n c ys xs)) : ys.length = n := by
  obtain ⟨S, R, h⟩ := k.get i hi
  obtain ⟨⟨_, _, h1, _⟩, h2, _⟩ := OG.parts h
  exact h1.1
theorem Cx.oglec (k : Cx F O w0 w hs) (i : Nat) (hi : hs[i]? = some (OG E q A n c ys xs)) : n ≤ c := by
  obtain ⟨S, R, h⟩ := k.get i hi
  obtain ⟨⟨_, _, h1, _⟩, h2, _⟩ := OG.parts h
  exact Ow.lec' h1
theorem Cx.ogrd (k : Cx F O w0 w hs) (i : Nat) (hi : hs[i]? = some (OG E q A n c ys xs)) : Rd w A (E.all ys) := by
  obtain ⟨S, R, h⟩ := k.get i hi
  obtain ⟨⟨_, _, h1, _⟩, h2, _⟩ := OG.parts h
  exact Ow.rd' h1
end

section
variable {F O : Nat → Prop} {w0 w : World} {hs : List HP}
theorem Cx.shdup {q : Rl γ δ} {ys : List γ} {xs : List δ} (k : Cx F O w0 w hs) (i : Nat) (hi : hs[i]? = some (Sh q ys xs)) : Cx F O w0 w (Sh q ys xs :: hs) :=
  k.dup i hi fun _ _ _ h => ⟨fun _ h => h, h.2.1, h.2.2⟩
theorem Cx.shlen {E : Enc α} {A : Option Addr} {n c : Nat} {x : List α} (k : Cx F O w0 w hs) (i : Nat) (hi : hs[i]? = some (Sh (SH E) [(A, n, c)] [x])) : x.length = n := by
  obtain ⟨S, R, h⟩ := k.get i hi
  exact ((h.2.2 0 _ _ rfl rfl).1).symm
theorem Cx.shlec {E : Enc α} {A : Option Addr} {n c : Nat} {x : List α} (k : Cx F O w0 w hs) (i : Nat) (hi : hs[i]? = some (Sh (SH E) [(A, n, c)] [x])) : n ≤ c := by
  obtain ⟨S, R, h⟩ := k.get i hi
  have h1 := h.2.2 0 _ _ rfl rfl
  have h2 : n = x.length := h1.1
  have h3 : x.length ≤ c := h1.2.1
  omega
theorem Cx.shrd {E : Enc α} {A : Option Addr} {n c : Nat} {x : List α} (k : Cx F O w0 w hs) (i : Nat) (hi : hs[i]? = some (Sh (SH E) [(A, n, c)] [x])) : Rd w A (E.all x) := by
  obtain ⟨S, R, h⟩ := k.get i hi
  exact (h.2.2 0 _ _ rfl rfl).2.2.1
end

/-! ### a parameter whose rows are shared -/
structure RoH (F O : Nat → Prop) (w : World) (E : Enc γ) (q : Rl γ δ) (A : Option Addr) (ys : List γ) (xs : List δ) : Prop where
  ro : Ro F w A (E.all ys)
  len : ys.length = xs.length
  el : ∀ (j : Nat) (y : γ) (x : δ), ys[j]? = some y → xs[j]? = some x → q.r w O y x
section
variable {F O F1 O1 : Nat → Prop} {w0 w w' : World} {hs rest : List HP} {E : Enc γ} {q : Rl γ δ} {A : Option Addr} {ys : List γ} {xs : List δ}
theorem RoH.at (h : RoH F O w E q A ys xs) {j : Int} {x : δ} (hx : geti xs j = some x) : ∃ y, geti ys j = some y ∧ q.r w O y x := by
  obtain ⟨h0, h1⟩ := geti_some hx
  have hlt := (List.getElem?_eq_some_iff.1 h1).1
  have hh : ys[j.toNat]? = some (ys[j.toNat]'(h.len ▸ hlt)) := List.getElem?_eq_getElem _
  refine ⟨ys[j.toNat]'(h.len ▸ hlt), ?_, h.el _ _ _ hh h1⟩
  unfold geti
  rw [if_pos h0, hh]
theorem SH.rh {E : Enc α} {R : Nat → Prop} {h : Hd} {x : List α} (q : (SH E).r w R h x) (hR : ∀ b, R b → ¬ F b) : RH F w E h x :=
  ⟨q.1, q.2.1, q.2.2.1, fun hne a ha hf => hR _ (q.2.2.2 hne a ha) hf⟩
theorem Cx.off (k : Cx F O w0 w hs) : ∀ b, O b → ¬ F b := fun b ho hf => (k.fin b hf).2 ho
theorem RoH.rog {r : γ → δ → Prop} (h : RoH F O w E q A ys xs) (hO : ∀ b, O b → ¬ F b) (conv : ∀ (R : Nat → Prop) y x, (∀ b, R b → ¬ F b) → q.r w R y x → r y x) : RoG F w E r A ys xs :=
  ⟨h.ro, h.len, fun j y x e1 e2 => conv O y x hO (h.el j y x e1 e2)⟩
theorem og_ro {n c : Nat} {S R : Nat → Prop} (h : (OG E q A n c ys xs).p w S R) (hS : ∀ b, S b → ¬ F1 b) : Ro F1 w A (E.all ys) := by
  obtain ⟨⟨_, _, h1, h2⟩, _⟩ := OG.parts h
  exact ro_of_ow h1 fun b hb => hS b (h2 b hb)
theorem RoH.of_rest {n c : Nat} (hr : ∀ (i : Nat) (h : HP), rest[i]? = some h → ∃ S R, h.p w S R ∧ (∀ b, R b → O1 b) ∧ ∀ b, S b → ¬ F1 b) (i : Nat) (hi : rest[i]? = some (OG E q A n c ys xs)) : RoH F1 O1 w E q A ys xs := by
  obtain ⟨S, R, h, hR, hS⟩ := hr i _ hi
  obtain ⟨_, h1, h2⟩ := OG.parts h
  exact ⟨og_ro h hS, h1, fun j y x e1 e2 => q.mono _ _ _ _ _ hR (h2 j y x e1 e2)⟩
theorem RoG.of_rest {n c : Nat} {r : γ → δ → Prop} (hO : ∀ b, O1 b → ¬ F1 b) (hr : ∀ (i : Nat) (h : HP), rest[i]? = some h → ∃ S R, h.p w S R ∧ (∀ b, R b → O1 b) ∧ ∀ b, S b → ¬ F1 b) (i : Nat) (hi : rest[i]? = some (OG E q A n c ys xs)) (conv : ∀ (R : Nat → Prop) y x, (∀ b, R b → ¬ F1 b) → q.r w R y x → r y x) : RoG F1 w E r A ys xs :=
  (RoH.of_rest hr i hi).rog hO conv
theorem RoG.of_cx {n c : Nat} {r : γ → δ → Prop} (k : Cx F O w0 w hs) (i : Nat) (hi : hs[i]? = some (OG E q A n c ys xs)) (conv : ∀ (R : Nat → Prop) y x, (∀ b, R b → ¬ N0 b) → q.r w R y x → r y x) : RoG N0 w E r A ys xs := by
  obtain ⟨S, R, h⟩ := k.get i hi
  obtain ⟨_, h1, h2⟩ := OG.parts h
  exact ⟨og_ro h fun _ _ h => h, h1, fun j y x e1 e2 => conv R y x (fun _ _ h => h) (h2 j y x e1 e2)⟩
/-- the shared fact of a call's callee -/
theorem RoH.old (h : RoH F O w0 E q A ys xs) (k : Cx F O w0 w hs) (hF : ∀ b, F1 b → F b ∨ w0.heap.size ≤ b) (hO : ∀ b, O b → O1 b) : RoH F1 O1 w E q A ys xs :=
  ⟨Ro.of_old h.ro k hF, h.len, fun j y x e1 e2 => q.mono _ _ _ _ _ hO (q.loc _ _ _ _ _ (h.el j y x e1 e2) fun b hb => k.block b (k.oin b hb) fun hf => (k.fin b hf).2 hb)⟩
theorem RoH.nil : RoH F O w E q Option.none [] [] := ⟨Ro.nilE E, rfl, fun _ _ _ h => by cases h⟩
end
section
variable {P : Program} {n : Nat} {ops : Array Oper} {L : St} {w w0 : World} {F O : Nat → Prop} {hs rest : List HP} {K : St → World → Prop} {E : Enc γ} {q : Rl γ δ}
theorem Op_appendG {dst : Option Nat} {x y : Operand} {t t2 ty : TypeId} {pos : String} {aft : Array Edge} {g : Option (Nat × Bool)} {e : TypeId} {zs : List Value} {bytes : Nat} (tf : TF P t e zs bytes)
    (ss : List Nat) (d : Nat) {A A2 : Option Addr} {n1 n2 c c2 : Nat} {ys ys2 : List γ} {xs xs2 : List δ}
    (hside : (gok ops ss L ⟨dst, .call ⟨.builtin .append, #[x, y], #[t, t2]⟩, ty, pos, aft, g⟩, dst, (decide (d < n)), (L.any fun p => p.1 == d), (toSS [x, y] (lk L)).map SV.vals, (match P.underlying t2 with | some (.slice _) => true | some .string => true | _ => false), E.sz) = (true, some d, true, false, some [.slice A n1 c, .slice A2 n2 c2], true, zs.length))
    (k : Cx F O w0 w (OG E q A n1 c ys xs :: OG E q A2 n2 c2 ys2 xs2 :: rest)) (hroom : (n1 + n2) * bytes ≤ 140737488355328)
    (hk : ∀ A' c' w', Cx F O w0 w' (OG E q A' (n1 + n2) c' (ys ++ ys2) (xs ++ xs2) :: rest) → K ((d, .v (.slice A' (n1 + n2) c')) :: L) w') :
    Op1 P n ops L w ⟨dst, .call ⟨.builtin .append, #[x, y], #[t, t2]⟩, ty, pos, aft, g⟩ K := by
  have hl2 := k.oglen' 1 rfl
  have hrd := k.ogrd 1 rfl
  have hz : E.sz = zs.length := by simp only [Prod.mk.injEq] at hside; exact hside.2.2.2.2.2.2
  have k1 : Cx F O w0 w (OG E q A2 n2 c2 ys2 xs2 :: Ow E A n1 c ys :: Sh q ys xs :: rest) := k.ogun.perm ((List.Perm.cons _ (.swap _ _ _)).trans (.swap _ _ _))
  have k2 := k1.ogun
  have k3 : Cx F O w0 w (Ow E A n1 c ys :: Sh q ys2 xs2 :: Sh q ys xs :: rest) := (k2.tl).perm (.swap _ _ _)
  refine Op_append (E := E) (v := .v (.slice A2 n2 c2)) (ys := ys2) tf ss d 0 hside k3 rfl (Src.sl hrd hl2 hz) hl2 hroom fun A' c' w' k' => hk A' c' w' ?_
  have k4 : Cx F O w0 w' (Sh q ys xs :: Sh q ys2 xs2 :: Ow E A' (n1 + n2) c' (ys ++ ys2) :: rest) := by
    rw [List.set_cons_zero] at k'
    exact k'.perm ((List.Perm.swap _ _ _).trans ((List.Perm.cons _ (.swap _ _ _)).trans (.swap _ _ _)))
  exact Cx.og ((k4.sha).perm (.swap _ _ _))
end
end Go.Sx
