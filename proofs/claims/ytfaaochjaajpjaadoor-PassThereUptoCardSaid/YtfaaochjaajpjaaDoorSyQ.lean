import Derived.Test.YtfaaochjaajpjaaDoorSyO
namespace Go.Sx
open Go.RowKit
set_option linter.unusedSimpArgs false
set_option linter.unusedVariables false
variable {α β : Type}

/-! ### rows of rows: each row within is one's own -/
/-- a slice's header -/
abbrev Hd := Option Addr × Nat × Nat
def eH : Enc Hd := ⟨1, fun h => [.slice h.1 h.2.1 h.2.2], fun _ => rfl, fun x v h => by rw [List.mem_singleton.1 h]; rfl⟩
instance : Pos eH := ⟨by decide⟩
def rows (E : Enc α) : List Hd → List (List α) → List HP
  | h :: hs, x :: xs => Ow E h.1 h.2.1 h.2.2 x :: rows E hs xs
  | _, _ => []
theorem rows_get {E : Enc α} {hd : List Hd} {xss : List (List α)} {i : Nat} {h : Hd} {x : List α} (h1 : hd[i]? = some h) (h2 : xss[i]? = some x) : (rows E hd xss)[i]? = some (Ow E h.1 h.2.1 h.2.2 x) := by
  induction hd generalizing xss i with
  | nil => cases h1
  | cons a as ih =>
    cases xss with
    | nil => cases h2
    | cons b bs =>
      cases i with
      | zero =>
        simp only [List.getElem?_cons_zero, Option.some.injEq] at h1 h2
        subst h1; subst h2; rfl
      | succ i =>
        simp only [List.getElem?_cons_succ] at h1 h2
        exact ih h1 h2
theorem rows_set {E : Enc α} : ∀ (hd : List Hd) (xss : List (List α)) (i : Nat) (h : Hd) (x : List α), hd.length = xss.length → (rows E hd xss).set i (Ow E h.1 h.2.1 h.2.2 x) = rows E (hd.set i h) (xss.set i x)
  | [], xss, _, _, _, _ => rfl
  | _ :: _, [], _, _, _, h => by cases h
  | a :: as, b :: bs, 0, h, x, _ => rfl
  | a :: as, b :: bs, i + 1, h, x, hl => by
    simp only [List.length_cons, Nat.add_right_cancel_iff] at hl
    simp only [rows, List.set_cons_succ, rows_set as bs i h x hl]
theorem rows_erase {E : Enc α} : ∀ (hd : List Hd) (xss : List (List α)) (i : Nat) (h : Hd) (x : List α), hd.length = xss.length → (rows E (hd.set i h) (xss.set i x)).eraseIdx i = (rows E hd xss).eraseIdx i
  | [], xss, _, _, _, _ => rfl
  | _ :: _, [], _, _, _, h => by cases h
  | a :: as, b :: bs, 0, h, x, _ => rfl
  | a :: as, b :: bs, i + 1, h, x, hl => by
    simp only [List.length_cons, Nat.add_right_cancel_iff] at hl
    simp only [rows, List.set_cons_succ, List.eraseIdx_cons_succ, rows_erase as bs i h x hl]
theorem rows_app {E : Enc α} : ∀ (hd hd2 : List Hd) (xss xss2 : List (List α)), hd.length = xss.length → rows E (hd ++ hd2) (xss ++ xss2) = rows E hd xss ++ rows E hd2 xss2
  | [], hd2, [], xss2, _ => rfl
  | [], _, _ :: _, _, h => by cases h
  | _ :: _, _, [], _, h => by cases h
  | a :: as, hd2, b :: bs, xss2, hl => by
    simp only [List.length_cons, Nat.add_right_cancel_iff] at hl
    simp only [List.cons_append, rows, rows_app as hd2 bs xss2 hl]
theorem rows_length {E : Enc α} : ∀ (hd : List Hd) (xss : List (List α)), hd.length = xss.length → (rows E hd xss).length = hd.length
  | [], _, _ => by simp [rows]
  | _ :: _, [], h => by cases h
  | a :: as, b :: bs, hl => by
    simp only [List.length_cons, Nat.add_right_cancel_iff] at hl
    simp [rows, rows_length as bs hl]

/-- several pieces as one -/
def Pk (q : Prop) (l : List HP) : HP where
  p w S R := q ∧ Sep w l S R
  loc := by
    rintro w w' S R ⟨h0, h⟩ hk
    exact ⟨h0, h.keep hk⟩
def O2 (E : Enc α) (A : Option Addr) (n c : Nat) (hd : List Hd) (xss : List (List α)) : HP := Pk (hd.length = xss.length) (Ow eH A n c hd :: rows E hd xss)
/-- one of them is taken out -/
def O2x (E : Enc α) (A : Option Addr) (n c : Nat) (hd : List Hd) (xss : List (List α)) (i : Nat) : HP := Pk (hd.length = xss.length) (Ow eH A n c hd :: (rows E hd xss).eraseIdx i)

section
variable {F O : Nat → Prop} {w0 w w' : World} {hs rest : List HP}
theorem perm_cut {β : Type} {l : List β} {i : Nat} {x : β} (h : l[i]? = some x) : l.Perm (x :: l.eraseIdx i) := by
  induction l generalizing i with
  | nil => cases h
  | cons y l ih =>
    cases i with
    | zero =>
      simp only [List.getElem?_cons_zero, Option.some.injEq] at h
      subst h
      exact .refl _
    | succ i =>
      simp only [List.getElem?_cons_succ] at h
      simp only [List.eraseIdx_cons_succ]
      exact (List.Perm.cons _ (ih h)).trans (.swap _ _ _)
theorem perm_put {β : Type} {l : List β} {i : Nat} (x : β) (h : i < l.length) : (x :: l.eraseIdx i).Perm (l.set i x) := by
  have h1 : (l.set i x)[i]? = some x := by simp [h]
  have h2 := perm_cut h1
  rw [List.eraseIdx_set_eq] at h2
  exact h2.symm
theorem Cx.unpk {q : Prop} {l : List HP} (k : Cx F O w0 w (Pk q l :: rest)) : q ∧ Cx F O w0 w (l ++ rest) := by
  obtain ⟨U, V, ⟨S, R, U', V', ⟨hq, h1⟩, h2, h3, h4, h5, h6⟩, hU, hV⟩ := k.sep
  refine ⟨hq, k.os, k.tape, k.output, k.size, k.block, k.fin, k.oin, _, _, Sep.join h1 h2 (fun b hb => ⟨(h5 b hb).1, (h5 b hb).2.2⟩) h6, fun b hb => hU b ((h3 b).2 hb), fun b hb => hV b ((h4 b).2 hb)⟩
theorem Cx.dopk {q : Prop} {l : List HP} (hq : q) (k : Cx F O w0 w (l ++ rest)) : Cx F O w0 w (Pk q l :: rest) := by
  obtain ⟨U, V, h, hU, hV⟩ := k.sep
  obtain ⟨U1, V1, U2, V2, e1, e2, e3, e4, e5, e6⟩ := Sep.split h
  refine ⟨k.os, k.tape, k.output, k.size, k.block, k.fin, k.oin, U, V, ⟨U1, V1, U2, V2, ⟨hq, e1⟩, e2, e3, e4, fun b hb => ⟨(e5 b hb).1, fun hr => Sep.apart e1 b hb hr, (e5 b hb).2⟩, e6⟩, hU, hV⟩
theorem O2.parts {E : Enc α} {A : Option Addr} {n c : Nat} {hd : List Hd} {xss : List (List α)} {S R : Nat → Prop} (h : (O2 E A n c hd xss).p w S R) :
    hd.length = xss.length ∧ (∃ S' R', (Ow eH A n c hd).p w S' R' ∧ ∀ b, S' b → S b) ∧ ∀ (j : Nat) (h : Hd) (x : List α), hd[j]? = some h → xss[j]? = some x → ∃ S' R', (Ow E h.1 h.2.1 h.2.2 x).p w S' R' ∧ ∀ b, S' b → S b := by
  obtain ⟨hl, hS⟩ := h
  refine ⟨hl, ?_, fun j h x h1 h2 => ?_⟩
  · obtain ⟨S', R', U', V', e1, e2, e3, _⟩ := Sep.cut (i := 0) rfl hS
    exact ⟨S', R', e1, fun b hb => (e3 b).2 (.inl hb)⟩
  · obtain ⟨S', R', U', V', e1, e2, e3, _⟩ := Sep.cut (i := j + 1) (by rw [List.getElem?_cons_succ]; exact rows_get h1 h2) hS
    exact ⟨S', R', e1, fun b hb => (e3 b).2 (.inl hb)⟩
theorem Cx.hd2 {E : Enc α} {A : Option Addr} {n c : Nat} {hd : List Hd} {xss : List (List α)} (k : Cx F O w0 w hs) (i : Nat) (hi : hs[i]? = some (O2 E A n c hd xss)) : Rd w A (eH.all hd) := by
  obtain ⟨S, R, h⟩ := k.get i hi
  obtain ⟨_, ⟨S', R', h1, _⟩, _⟩ := O2.parts h
  exact Ow.rd' h1
theorem Cx.len2 {E : Enc α} {A : Option Addr} {n c : Nat} {hd : List Hd} {xss : List (List α)} (k : Cx F O w0 w hs) (i : Nat) (hi : hs[i]? = some (O2 E A n c hd xss)) : xss.length = n := by
  obtain ⟨S, R, h⟩ := k.get i hi
  obtain ⟨hl, ⟨S', R', h1, _⟩, _⟩ := O2.parts h
  rw [← hl]; exact h1.1
theorem Cx.hlen2 {E : Enc α} {A : Option Addr} {n c : Nat} {hd : List Hd} {xss : List (List α)} (k : Cx F O w0 w hs) (i : Nat) (hi : hs[i]? = some (O2 E A n c hd xss)) : hd.length = n := by
  obtain ⟨S, R, h⟩ := k.get i hi
  obtain ⟨hl, ⟨S', R', h1, _⟩, _⟩ := O2.parts h
  exact h1.1
theorem Ow.lec' {E : Enc α} {A : Option Addr} {n c : Nat} {xs : List α} {S R : Nat → Prop} (h : (Ow E A n c xs).p w S R) : n ≤ c := by
  rcases h.2 with ⟨_, h1, h2⟩ | ⟨g, t, cur, _, _, h3, _⟩ <;> omega
theorem Cx.lec2 {E : Enc α} {A : Option Addr} {n c : Nat} {hd : List Hd} {xss : List (List α)} (k : Cx F O w0 w hs) (i : Nat) (hi : hs[i]? = some (O2 E A n c hd xss)) : n ≤ c := by
  obtain ⟨S, R, h⟩ := k.get i hi
  obtain ⟨hl, ⟨S', R', h1, _⟩, _⟩ := O2.parts h
  exact Ow.lec' h1
/-- the header of a row -/
theorem Cx.at2 {E : Enc α} {A : Option Addr} {n c : Nat} {hd : List Hd} {xss : List (List α)} {j : Int} {x : List α} (k : Cx F O w0 w hs) (i : Nat) (hi : hs[i]? = some (O2 E A n c hd xss)) (hx : geti xss j = some x) : ∃ B d, geti hd j = some (B, x.length, d) ∧ x.length ≤ d := by
  obtain ⟨S, R, h⟩ := k.get i hi
  obtain ⟨hl, _, h2⟩ := O2.parts h
  obtain ⟨h0, h1⟩ := geti_some hx
  have hlt := (List.getElem?_eq_some_iff.1 h1).1
  have hh : hd[j.toNat]? = some (hd[j.toNat]'(hl ▸ hlt)) := List.getElem?_eq_getElem _
  obtain ⟨S', R', hp, _⟩ := h2 _ _ _ hh h1
  refine ⟨(hd[j.toNat]'(hl ▸ hlt)).1, (hd[j.toNat]'(hl ▸ hlt)).2.2, ?_, ?_⟩
  · unfold geti
    rw [if_pos h0, hh, hp.1]
  · rw [hp.1]; exact Ow.lec' hp
theorem geti_ok {β : Type} {l : List β} {j : Int} {x : β} (h : geti l j = some x) : l[j.toNat]? = some x := (geti_some h).2
theorem Cx.in2 {E : Enc α} {A : Option Addr} {n c m : Nat} {hd : List Hd} {xss : List (List α)} {j : Int} {x : List α} {B : Option Addr} {d : Nat} (k : Cx F O w0 w hs) (i : Nat) (hi : hs[i]? = some (O2 E A n c hd xss)) (hx : geti xss j = some x) (hh : geti hd j = some (B, m, d)) : Rd w B (E.all x) := by
  obtain ⟨S, R, h⟩ := k.get i hi
  obtain ⟨hl, _, h2⟩ := O2.parts h
  obtain ⟨S', R', hp, _⟩ := h2 _ _ _ (geti_ok hh) (geti_ok hx)
  exact Ow.rd' hp

/-- a row is taken out -/
theorem Cx.open2 {E : Enc α} {A : Option Addr} {n c m : Nat} {hd : List Hd} {xss : List (List α)} {j : Int} {x : List α} {B : Option Addr} {d : Nat} (k : Cx F O w0 w (O2 E A n c hd xss :: rest)) (hx : geti xss j = some x) (hh : geti hd j = some (B, m, d)) : Cx F O w0 w (O2x E A n c hd xss j.toNat :: Ow E B m d x :: rest) := by
  obtain ⟨hl, k1⟩ := k.unpk
  have hg := rows_get (E := E) (geti_ok hh) (geti_ok hx)
  refine Cx.dopk hl (k1.perm ?_)
  simp only [List.cons_append]
  refine .cons _ (List.Perm.trans (List.Perm.append_right rest (perm_cut hg)) ?_)
  simp only [List.cons_append]
  exact List.perm_middle.symm
/-- and laid back -/
theorem Cx.close2 {E : Enc α} {A : Option Addr} {n c m : Nat} {hd : List Hd} {xss : List (List α)} {j : Int} {x y : List α} {B : Option Addr} {d : Nat} (hx : geti xss j = some x) (hh : geti hd j = some (B, m, d)) (k : Cx F O w0 w (O2x E A n c hd xss j.toNat :: Ow E B m d y :: rest)) : Cx F O w0 w (O2 E A n c hd (xss.set j.toNat y) :: rest) := by
  obtain ⟨hl, k1⟩ := k.unpk
  refine Cx.dopk (by simpa using hl) (k1.perm ?_)
  have hs : hd.set j.toNat (B, m, d) = hd := by
    obtain ⟨h1, h2⟩ := List.getElem?_eq_some_iff.1 (geti_ok hh)
    rw [← h2]; exact List.set_getElem_self h1
  have hr := rows_set (E := E) hd xss j.toNat (B, m, d) y hl
  rw [hs] at hr
  simp only [List.cons_append]
  refine .cons _ (List.Perm.trans List.perm_middle ?_)
  rw [← hr, ← List.cons_append]
  exact List.Perm.append_right rest (perm_put _ (by rw [rows_length _ _ hl]; exact (List.getElem?_eq_some_iff.1 (geti_ok hh)).1))
theorem Cx.nil2 (k : Cx F O w0 w hs) (E : Enc α) : Cx F O w0 w (hs ++ [O2 E Option.none 0 0 [] []]) := by
  have k1 := k.nil eH
  have k2 : Cx F O w0 w (([Ow eH Option.none 0 0 []] : List HP) ++ hs) := k1.perm List.perm_append_comm
  have k3 := Cx.dopk (q := ([] : List Hd).length = ([] : List (List α)).length) rfl k2
  exact k3.perm (List.perm_append_comm (l₁ := [_]))
end

/-! ### rows of rows that are read only -/
structure Ro2 (F : Nat → Prop) (w : World) (E : Enc α) (A : Option Addr) (hd : List Hd) (xss : List (List α)) : Prop where
  ro : Ro F w A (eH.all hd)
  len : hd.length = xss.length
  el : ∀ (j : Nat) (h : Hd) (x : List α), hd[j]? = some h → xss[j]? = some x → h.2.1 = x.length ∧ x.length ≤ h.2.2 ∧ Ro F w h.1 (E.all x)
section
variable {F O F1 O1 : Nat → Prop} {w0 w w' : World} {hs rest : List HP} {E : Enc α} {A : Option Addr} {hd : List Hd} {xss : List (List α)}
theorem Ro2.at (r : Ro2 F w E A hd xss) {j : Int} {x : List α} (hx : geti xss j = some x) : ∃ B d, geti hd j = some (B, x.length, d) ∧ x.length ≤ d ∧ Ro F w B (E.all x) := by
  obtain ⟨h0, h1⟩ := geti_some hx
  have hlt := (List.getElem?_eq_some_iff.1 h1).1
  have hh : hd[j.toNat]? = some (hd[j.toNat]'(r.len ▸ hlt)) := List.getElem?_eq_getElem _
  obtain ⟨e1, e2, e3⟩ := r.el _ _ _ hh h1
  refine ⟨(hd[j.toNat]'(r.len ▸ hlt)).1, (hd[j.toNat]'(r.len ▸ hlt)).2.2, ?_, e2, e3⟩
  unfold geti
  rw [if_pos h0, hh, ← e1]
theorem Ro2.nil : Ro2 F w E none [] [] := ⟨Ro.nilE eH, rfl, fun _ _ _ h => by cases h⟩
theorem ro_of_ow {n c : Nat} {xs : List α} {S R : Nat → Prop} (h : (Ow E A n c xs).p w S R) (hS : ∀ b, S b → ¬ F1 b) : Ro F1 w A (E.all xs) := by
  refine ⟨Ow.rd' h, fun _ a ha => ?_⟩
  rcases h.2 with ⟨h1, _⟩ | ⟨g, t, cur, h1, _, _, _, _, _, h7⟩
  · rw [h1] at ha; cases ha
  · rw [h1] at ha
    simp only [Option.some.injEq] at ha
    subst ha
    exact hS g h7
theorem Ro2.of_p {n c : Nat} {S R : Nat → Prop} (h : (O2 E A n c hd xss).p w S R) (hS : ∀ b, S b → ¬ F1 b) : Ro2 F1 w E A hd xss := by
  obtain ⟨hl, ⟨S', R', h1, h2⟩, h3⟩ := O2.parts h
  refine ⟨ro_of_ow h1 (fun b hb => hS b (h2 b hb)), hl, fun j h x e1 e2 => ?_⟩
  obtain ⟨S', R', f1, f2⟩ := h3 j h x e1 e2
  exact ⟨f1.1.symm, by rw [f1.1]; exact Ow.lec' f1, ro_of_ow f1 (fun b hb => hS b (f2 b hb))⟩
theorem Ro2.of_rest {n c : Nat} (hr : ∀ (i : Nat) (h : HP), rest[i]? = some h → ∃ S R, h.p w S R ∧ (∀ b, R b → O1 b) ∧ ∀ b, S b → ¬ F1 b) (i : Nat) (hi : rest[i]? = some (O2 E A n c hd xss)) : Ro2 F1 w E A hd xss := by
  obtain ⟨S, R, h, _, hS⟩ := hr i _ hi
  exact Ro2.of_p h hS
theorem Ro2.in_rest {n c m d : Nat} {j : Int} {x : List α} {B : Option Addr} (hr : ∀ (i : Nat) (h : HP), rest[i]? = some h → ∃ S R, h.p w S R ∧ (∀ b, R b → O1 b) ∧ ∀ b, S b → ¬ F1 b) (i : Nat) (hi : rest[i]? = some (O2 E A n c hd xss)) (hx : geti xss j = some x) (hh : geti hd j = some (B, m, d)) : Ro F1 w B (E.all x) :=
  ((Ro2.of_rest hr i hi).el _ _ _ (geti_ok hh) (geti_ok hx)).2.2
theorem Ro2.of_old (h : Ro2 F w0 E A hd xss) (k : Cx F O w0 w hs) (hF : ∀ b, F1 b → F b ∨ w0.heap.size ≤ b) : Ro2 F1 w E A hd xss :=
  ⟨Ro.of_old h.ro k hF, h.len, fun j a x e1 e2 => ⟨(h.el j a x e1 e2).1, (h.el j a x e1 e2).2.1, Ro.of_old (h.el j a x e1 e2).2.2 k hF⟩⟩
theorem Ro2.n0 (h : Ro2 F w0 E A hd xss) (k : Cx F O w0 w hs) : Ro2 N0 w E A hd xss := h.of_old k fun _ h => h.elim
theorem Cx.ro2 {n c : Nat} (k : Cx F O w0 w hs) (i : Nat) (hi : hs[i]? = some (O2 E A n c hd xss)) : Ro2 N0 w E A hd xss := by
  obtain ⟨S, R, h⟩ := k.get i hi
  exact Ro2.of_p h fun _ _ h => h
theorem Ro2.cut (h : Ro2 F w E A hd xss) {A2 : Option Addr} {ys : List (List α)} {lo hi : Int} {l m : Nat} (hs : slc xss lo hi = some ys) (hl : l = lo.toNat) (hA : A2 = slA A l m 1) (hm : hi.toNat ≤ m) : Ro2 F w E A2 ((hd.take hi.toNat).drop lo.toNat) ys := by
  have hs' : slc hd lo hi = some ((hd.take hi.toNat).drop lo.toNat) := by
    unfold slc at hs ⊢
    rw [h.len]
    split at hs
    · rename_i hc
      rw [if_pos hc]
    · cases hs
  obtain ⟨_, _, _, rfl⟩ := slc_some hs
  have hlen : (List.drop lo.toNat (List.take hi.toNat hd)).length = (List.drop lo.toNat (List.take hi.toNat xss)).length := by simp [h.len]
  refine ⟨Ro.cut h.ro hs' hl rfl hA hm, hlen, fun j a x e1 e2 => ?_⟩
  rw [List.getElem?_drop, List.getElem?_take] at e1 e2
  split at e1
  · exact h.el _ a x e1 (by simpa [*] using e2)
  · cases e1
theorem Ro2.pre (h : Ro2 F w E A hd xss) {ys : List (List α)} {lo hi : Int} (hs : slc xss lo hi = some ys) (h0 : lo = 0) : Ro2 F w E A (hd.take hi.toNat) ys := by
  obtain ⟨_, _, _, rfl⟩ := slc_some hs
  subst h0
  have hs' : slc hd 0 hi = some (hd.take hi.toNat) := by
    unfold slc at hs ⊢
    rw [h.len]
    split at hs
    · rename_i hc
      rw [if_pos hc]; rfl
    · cases hs
  refine ⟨Ro.pre h.ro hs' rfl, by simp [h.len], fun j a x e1 e2 => ?_⟩
  simp only [Int.toNat_zero, List.drop_zero] at e2
  rw [List.getElem?_take] at e1 e2
  split at e1
  · exact h.el _ a x e1 (by simpa [*] using e2)
  · cases e1
end

section
variable {P : Program} {n : Nat} {ops : Array Oper} {L : St} {w w0 : World} {F O : Nat → Prop} {hs rest : List HP} {K : St → World → Prop}
/-- a slice of rows written out -/
theorem Op_mk2 {dst : Option Nat} {t ty : TypeId} {len : Nat} {parts : Array (Nat × Operand)} {pos : String} {aft : Array Edge} {g : Option (Nat × Bool)} {e : TypeId} {zs : List Value} {bytes : Nat} (tf : TF P t e zs bytes)
    (E : Enc α) (ss : List Nat) (d : Nat) (hd : List Hd) (xss : List (List α)) (ps : List (Nat × SV)) (svs : List SV)
    (hside : (gok ops ss L ⟨dst, .buildSlice t len parts, ty, pos, aft, g⟩, dst, (decide (d < n)), (L.any fun p => p.1 == d), (toPS parts.toList (lk L)).map (·.map fun p => (p.1, p.2.val))) = (true, some d, true, false, some (ps.map fun p => (p.1, p.2.val))))
    (hf : (fillS (fun i => some (i * zs.length, zs.length)) ((List.replicate len zs).flatten.map kst1) ps, decide (len * zs.length ≤ 16777216), hd.length, eH.sz) = (some svs, true, len, zs.length)) (hx : SV.cl svs = eH.all hd) (hl : hd.length = xss.length)
    (k : Cx F O w0 w (rows E hd xss ++ rest)) (hk : ∀ A w', Cx F O w0 w' (O2 E A len len hd xss :: rest) → K ((d, .v (.slice A len len)) :: L) w') :
    Op1 P n ops L w ⟨dst, .buildSlice t len parts, ty, pos, aft, g⟩ K := by
  refine Op_mk tf eH ss d hd ps svs hside hf hx k fun A w' k' => hk A w' (Cx.dopk hl (k'.perm ?_))
  exact (List.perm_append_comm (l₂ := [_])).trans (List.Perm.refl _)
/-- rows behind rows -/
theorem Op_append2 {dst : Option Nat} {x y : Operand} {t t2 ty : TypeId} {pos : String} {aft : Array Edge} {g : Option (Nat × Bool)} {e : TypeId} {zs : List Value} {bytes : Nat} (tf : TF P t e zs bytes)
    {E : Enc α} (ss : List Nat) (d : Nat) {A A2 : Option Addr} {n1 n2 c c2 : Nat} {hd hd2 : List Hd} {xss xss2 : List (List α)}
    (hside : (gok ops ss L ⟨dst, .call ⟨.builtin .append, #[x, y], #[t, t2]⟩, ty, pos, aft, g⟩, dst, (decide (d < n)), (L.any fun p => p.1 == d), (toSS [x, y] (lk L)).map SV.vals, (match P.underlying t2 with | some (.slice _) => true | some .string => true | _ => false), 1) = (true, some d, true, false, some [.slice A n1 c, .slice A2 n2 c2], true, zs.length))
    (k : Cx F O w0 w (O2 E A n1 c hd xss :: O2 E A2 n2 c2 hd2 xss2 :: rest)) (hroom : (n1 + n2) * bytes ≤ 140737488355328)
    (hk : ∀ A' c' w', Cx F O w0 w' (O2 E A' (n1 + n2) c' (hd ++ hd2) (xss ++ xss2) :: rest) → K ((d, .v (.slice A' (n1 + n2) c')) :: L) w') :
    Op1 P n ops L w ⟨dst, .call ⟨.builtin .append, #[x, y], #[t, t2]⟩, ty, pos, aft, g⟩ K := by
  have hl2 : hd2.length = n2 := k.hlen2 1 rfl
  have hrd := k.hd2 1 rfl
  obtain ⟨hl, k1⟩ := k.unpk
  have k2 : Cx F O w0 w (O2 E A2 n2 c2 hd2 xss2 :: ((Ow eH A n1 c hd :: rows E hd xss) ++ rest)) := k1.perm (by simp only [List.cons_append]; exact List.perm_middle (l₁ := _ :: _))
  obtain ⟨hl', k3⟩ := k2.unpk
  have hz : (1 : Nat) = zs.length := by simp only [Prod.mk.injEq] at hside; exact hside.2.2.2.2.2.2
  have k4 : Cx F O w0 w (Ow eH A n1 c hd :: (Ow eH A2 n2 c2 hd2 :: (rows E hd2 xss2 ++ (rows E hd xss ++ rest)))) := k3.perm (by
    simp only [List.cons_append]
    exact (List.Perm.cons _ List.perm_middle).trans (.swap _ _ _))
  refine Op_append (E := eH) (v := .v (.slice A2 n2 c2)) (ys := hd2) tf ss d 0 hside k4 rfl (Src.sl hrd hl2 hz) hl2 hroom fun A' c' w' k' => hk A' c' w' ?_
  have k5 : Cx F O w0 w' (Ow eH A' (n1 + n2) c' (hd ++ hd2) :: (rows E hd2 xss2 ++ (rows E hd xss ++ rest))) := (k'.perm (.swap _ _ _)).tl
  refine Cx.dopk (by simp [hl, hl']) (k5.perm ?_)
  rw [rows_app hd hd2 xss xss2 hl]
  simp only [List.cons_append, List.append_assoc]
  refine .cons _ ?_
  rw [← List.append_assoc, ← List.append_assoc]
  exact List.Perm.append_right rest List.perm_append_comm
/-- a row is laid where one was taken out -/
theorem Op_st2 {ty t : TypeId} {p x : Operand} {pos : String} {aft : Array Edge} {g : Option (Nat × Bool)} {E : Enc α} (ss : List Nat) {pa : Option Addr} {A B A2 : Option Addr} {n1 c m d m2 d2 : Nat} {hd : List Hd} {xss : List (List α)} {j : Int} {y : List α}
    (hside : (gok ops ss L (⟨none, .store t p x, ty, pos, aft, g⟩ : Oper), (none : Option Nat), (toSS [p, x] (lk L)).map SV.vals, szOf P t) = (true, none, some [.pointer pa, .slice A2 m2 d2], some 1))
    (hp : Pt A (j.toNat * eH.sz + 0) pa) (hh : geti hd j = some (B, m, d)) (k : Cx F O w0 w (O2x E A n1 c hd xss j.toNat :: Ow E A2 m2 d2 y :: rest))
    (hk : ∀ w', Cx F O w0 w' (O2 E A n1 c (hd.set j.toNat (A2, m2, d2)) (xss.set j.toNat y) :: rest) → K L w') :
    Op1 P n ops L w ⟨none, .store t p x, ty, pos, aft, g⟩ K := by
  obtain ⟨hl, k1⟩ := k.unpk
  simp only [List.cons_append] at k1
  have hA : A.isSome = true := E_ix (E := eH) (k1.rd 0 rfl) (by decide) (geti_lt hh).1 (geti_ok hh)
  refine Op_ost (E := eH) (kk := 0) (sv := .v (.slice A2 m2 d2)) (svs := [.v (.slice A2 m2 d2)]) ss 0 (j := j.toNat) (x0 := (B, m, d)) (A2, m2, d2) (by
    simp only [Prod.mk.injEq] at hside ⊢
    exact ⟨hside.1, hside.2.1, hside.2.2.1, hside.2.2.2, rfl, rfl⟩) hp k1 rfl (geti_ok hh) hA rfl (Nat.le_refl 1) fun w' k' => hk w' (Cx.dopk (by simpa using hl) ?_)
  rw [List.set_cons_zero] at k'
  refine k'.perm ?_
  simp only [List.cons_append]
  refine .cons _ (List.Perm.trans List.perm_middle ?_)
  have hr := rows_set (E := E) hd xss j.toNat (A2, m2, d2) y hl
  rw [← hr, ← List.cons_append]
  exact List.Perm.append_right rest (perm_put _ (by rw [rows_length _ _ hl]; exact (List.getElem?_eq_some_iff.1 (geti_ok hh)).1))
end

/-! ### regions that draw: splits, and operations that are off -/
section
variable {P : Program} {n : Nat} {Q : Act → World → Prop} {ops : Array Oper} {Ls : List Nat} {C : List (World → Prop)} {L L' : St} {w : World} {π : MT} {p : Nat}
theorem MX_forget (L' : St) (hk : L'.map (fun p => (find L p.1).map SV.val) = L'.map (fun p => some p.2.val)) {listed : Array Bool} (h : MX P n ops Ls C Q π p listed (Kn L') w) : MX P n ops Ls C Q π p listed (Kn L) w :=
  fun hns hmo hB hw => At_forget (q := fun a w => wpC P ops Ls (cls C) Q π.depth p listed a w) L' hk (fun a ha => h hns hmo hB hw a ha)
theorem MX_sp (k : Nat) (c : Bool) (b : Bl L L') (hk : ((k, SV.b c) :: L').map (fun p => (find L p.1).map SV.val) = ((k, SV.b c) :: L').map (fun p => some p.2.val))
    (h1 : c = true → ∀ listed, MX P n ops Ls C Q π p listed (Kn ((k, .b true) :: L')) w) (h2 : c = false → ∀ listed, MX P n ops Ls C Q π p listed (Kn ((k, .b false) :: L')) w) {listed : Array Bool} : MX P n ops Ls C Q π p listed (Kn L) w := by
  refine MX_forget ((k, SV.b c) :: L') hk ?_
  cases c with
  | true => exact h1 rfl listed
  | false => exact h2 rfl listed
/-- a loud operation that is not wanted -/
theorem MX_off {i : Nat} {o : Oper} (d : Nat) (ss : List Nat) (hl : Ls.contains i = true) (ho : ops[i]? = some o) (hs : ((gslot ops o).map (settled ss (Kn L)), o.dst, decide (d < n), L.any fun p => p.1 == d) = (some (some false), some d, true, false))
    (h : ∀ listed, MX P n ops Ls C Q π (p + 1) listed (Kn ((d, .tup []) :: L)) w) {listed : Array Bool} : MX P n ops Ls C Q (.op i π) p listed (Kn L) w := by
  intro hns hmo hB hw a ha
  simp only [Prod.mk.injEq, decide_eq_true_eq, Option.map_eq_some_iff] at hs
  obtain ⟨⟨g, hg, hse⟩, hd, hn, hnew⟩ := hs
  have hnx : nx Ls p i = p + 1 := by unfold nx; rw [if_pos hl]
  simp only [mixB, Bool.and_eq_true, beq_iff_eq, hnx] at hB
  obtain ⟨hr, hB⟩ := hB
  obtain ⟨k, wv, rfl, _, h2⟩ := settled_spec ha hse
  have hnw : Region.wanted o (yielded ops a.tmps) = false := by
    cases hwant : Region.wanted o (yielded ops a.tmps) with
    | true => exact absurd ((gslot_wanted hg).1 hwant k wv rfl) (h2 rfl)
    | false => rfl
  refine ⟨fun h0 => (by rw [h0] at hr; cases hr), fun j hj => ?_⟩
  rw [hr] at hj
  simp only [List.mem_singleton] at hj
  subst hj
  have hc := hmo.le p (p + 1) w (by omega) hw
  unfold wpOp
  simp only [ho, hnx]
  rw [if_neg (by simp [hnw]), hd]
  exact ⟨hc, h _ hns hmo hB hc _ (ha.more (x := .tup []) hn hnew)⟩
end

/-! ### a slice that is nil holds nothing -/
theorem Rd.nilA {w : World} {A : Option Addr} {cs : List Value} (h : Rd w A cs) (hA : A.isNone = true) : cs = [] := by
  cases cs with
  | nil => rfl
  | cons v vs =>
    have := h.isSome (off := 0) (v := v) rfl
    cases A <;> simp_all
theorem all_nil {E : Enc α} [hp : Pos E] {xs : List α} (h : E.all xs = []) : xs = [] := by
  cases xs with
  | nil => rfl
  | cons x xs =>
    have := congrArg List.length h
    rw [Enc.all_length] at this
    have hq := hp.1
    simp only [List.length_cons, List.length_nil] at this
    exact absurd this (Nat.ne_of_gt (Nat.mul_pos (Nat.succ_pos _) hq))

end Go.Sx
