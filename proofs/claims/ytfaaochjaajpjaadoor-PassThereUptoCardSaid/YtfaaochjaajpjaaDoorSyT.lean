import Derived.Test.YtfaaochjaajpjaaDoorSyS
namespace Go.Sx
open Go.RowKit
set_option linter.unusedSimpArgs false
set_option linter.unusedVariables false
variable {α β γ δ : Type}

/-! ### slices of structs that hold slices, read only: the cells (with the slices' headers) and what they stand for -/
/-- a header stands for what it leads to -/
def RH (F : Nat → Prop) (w : World) (E : Enc α) (h : Hd) (x : List α) : Prop := h.2.1 = x.length ∧ x.length ≤ h.2.2 ∧ Ro F w h.1 (E.all x)
def RQ (y x : α) : Prop := y = x
def RP (r : α → β → Prop) (q : γ → δ → Prop) (y : α × γ) (x : β × δ) : Prop := r y.1 x.1 ∧ q y.2 x.2
structure RoG (F : Nat → Prop) (w : World) (E : Enc γ) (r : γ → δ → Prop) (A : Option Addr) (ys : List γ) (xs : List δ) : Prop where
  ro : Ro F w A (E.all ys)
  len : ys.length = xs.length
  el : ∀ (j : Nat) (y : γ) (x : δ), ys[j]? = some y → xs[j]? = some x → r y x
section
variable {F O F1 O1 : Nat → Prop} {w0 w w' : World} {hs : List HP}
theorem RoG.at {E : Enc γ} {r : γ → δ → Prop} {A : Option Addr} {ys : List γ} {xs : List δ} (h : RoG F w E r A ys xs) {j : Int} {x : δ} (hx : geti xs j = some x) : ∃ y, geti ys j = some y ∧ r y x := by
  obtain ⟨h0, h1⟩ := geti_some hx
  have hlt := (List.getElem?_eq_some_iff.1 h1).1
  have hh : ys[j.toNat]? = some (ys[j.toNat]'(h.len ▸ hlt)) := List.getElem?_eq_getElem _
  refine ⟨ys[j.toNat]'(h.len ▸ hlt), ?_, h.el _ _ _ hh h1⟩
  unfold geti
  rw [if_pos h0, hh]
theorem RoG.mono {E : Enc γ} {r r' : γ → δ → Prop} {A : Option Addr} {ys : List γ} {xs : List δ} (h : RoG F w E r A ys xs) (hro : Ro F w A (E.all ys) → Ro F1 w' A (E.all ys)) (hr : ∀ y x, r y x → r' y x) : RoG F1 w' E r' A ys xs :=
  ⟨hro h.ro, h.len, fun j y x h1 h2 => hr y x (h.el j y x h1 h2)⟩
theorem RH.old {E : Enc α} {h : Hd} {x : List α} (q : RH F w0 E h x) (k : Cx F O w0 w hs) (hF : ∀ b, F1 b → F b ∨ w0.heap.size ≤ b) : RH F1 w E h x := ⟨q.1, q.2.1, Ro.of_old q.2.2 k hF⟩
theorem RH.cx {E : Enc α} {h : Hd} {x : List α} (q : RH F w0 E h x) (k : Cx F O w0 w hs) : RH N0 w E h x := q.old k fun _ h => h.elim
theorem RoG.nil {E : Enc γ} {r : γ → δ → Prop} : RoG F w E r Option.none [] [] := ⟨Ro.nilE E, rfl, fun _ _ _ h => by cases h⟩
end

/-! ### maps whose values are rows of one's own -/
def hV (h : Hd) : Value := .slice h.1 h.2.1 h.2.2
def MR (E : Enc α) (b : Nat) (ks : List (List UInt8)) (hd : List Hd) (xss : List (List α)) : HP := Pk (hd.length = xss.length ∧ ks.length = hd.length) (Mb b ks (hd.map hV) :: rows E hd xss)
section
variable {F O : Nat → Prop} {w0 w : World} {hs rest : List HP} {E : Enc α} {b : Nat} {ks : List (List UInt8)} {hd : List Hd} {xss : List (List α)}
theorem Cx.mr_new (k : Cx F O w0 w (hs ++ [Mb b [] []])) (E : Enc α) : Cx F O w0 w (hs ++ [MR E b [] [] []]) := by
  have k1 : Cx F O w0 w (([Mb b [] []] : List HP) ++ hs) := k.perm List.perm_append_comm
  have k2 : Cx F O w0 w (MR E b [] [] [] :: hs) := Cx.dopk ⟨rfl, rfl⟩ k1
  exact k2.perm (List.perm_append_comm (l₁ := [_]))
theorem MR.parts {S R : Nat → Prop} (h : (MR E b ks hd xss).p w S R) :
    hd.length = xss.length ∧ ks.length = hd.length ∧ (∃ S' R', (Mb b ks (hd.map hV)).p w S' R' ∧ ∀ b, S' b → S b) ∧ ∀ (j : Nat) (h : Hd) (x : List α), hd[j]? = some h → xss[j]? = some x → ∃ S' R', (Ow E h.1 h.2.1 h.2.2 x).p w S' R' ∧ ∀ b, S' b → S b := by
  obtain ⟨⟨hl, hk⟩, hS⟩ := h
  refine ⟨hl, hk, ?_, fun j h x h1 h2 => ?_⟩
  · obtain ⟨S', R', U', V', e1, e2, e3, _⟩ := Sep.cut (i := 0) rfl hS
    exact ⟨S', R', e1, fun b hb => (e3 b).2 (.inl hb)⟩
  · obtain ⟨S', R', U', V', e1, e2, e3, _⟩ := Sep.cut (i := j + 1) (by rw [List.getElem?_cons_succ]; exact rows_get h1 h2) hS
    exact ⟨S', R', e1, fun b hb => (e3 b).2 (.inl hb)⟩
/-- a key's row: its header, and that it may be read -/
theorem Cx.mr_at {j : Nat} {key : List UInt8} (k : Cx F O w0 w hs) (i : Nat) (hi : hs[i]? = some (MR E b ks hd xss)) (hj : kfind ks key = some j) : ∃ x B d, xss[j]? = some x ∧ hd[j]? = some (B, x.length, d) ∧ x.length ≤ d := by
  obtain ⟨S, R, h⟩ := k.get i hi
  obtain ⟨hl, hk, _, h2⟩ := MR.parts h
  have hlt : j < ks.length := (List.getElem?_eq_some_iff.1 (kfind_some hj)).1
  have hh : hd[j]? = some (hd[j]'(by omega)) := List.getElem?_eq_getElem _
  have hx : xss[j]? = some (xss[j]'(by omega)) := List.getElem?_eq_getElem _
  obtain ⟨S', R', hp, _⟩ := h2 _ _ _ hh hx
  refine ⟨xss[j]'(by omega), (hd[j]'(by omega)).1, (hd[j]'(by omega)).2.2, hx, ?_, ?_⟩
  · rw [hh, hp.1]
  · rw [hp.1]; exact Ow.lec' hp
theorem Cx.mr_in {j m : Nat} {x : List α} {B : Option Addr} {d : Nat} (k : Cx F O w0 w hs) (i : Nat) (hi : hs[i]? = some (MR E b ks hd xss)) (hx : xss[j]? = some x) (hh : hd[j]? = some (B, m, d)) : Rd w B (E.all x) := by
  obtain ⟨S, R, h⟩ := k.get i hi
  obtain ⟨hl, hk, _, h2⟩ := MR.parts h
  obtain ⟨S', R', hp, _⟩ := h2 _ _ _ hh hx
  exact Ow.rd' hp
end
theorem mput_len {β γ : Type} {ks : List (List UInt8)} {vs : List β} {us : List γ} {k : List UInt8} {v : β} {u : γ} (h : vs.length = us.length) : (mputV ks vs k v).length = (mputV ks us k u).length := by
  unfold mputV
  split <;> simp [h]
theorem mput_lenK {β : Type} {ks : List (List UInt8)} {vs : List β} {k : List UInt8} {v : β} (h : ks.length = vs.length) : (mputK ks k).length = (mputV ks vs k v).length := by
  unfold mputK mputV
  split <;> simp [h]
theorem mput_map {β γ : Type} (f : β → γ) {ks : List (List UInt8)} {vs : List β} {k : List UInt8} {v : β} : (mputV ks vs k v).map f = mputV ks (vs.map f) k (f v) := by
  unfold mputV
  split <;> simp
section
variable {P : Program} {n : Nat} {ops : Array Oper} {L : St} {w w0 : World} {F O : Nat → Prop} {hs rest : List HP} {K : St → World → Prop} {E : Enc α}
/-- what lies at a key: nothing, or a row -/
theorem Op_lookR {dst : Option Nat} {t kt e ty : TypeId} {x y : Operand} {pos : String} {aft : Array Edge} {g : Option (Nat × Bool)} (ss : List Nat) (d : Nat) {b : Nat} {key : List UInt8} {ks : List (List UInt8)} {hd : List Hd} {xss : List (List α)}
    (hside : (gok ops ss L ⟨dst, .lookup t x y true, ty, pos, aft, g⟩, dst, (decide (d < n)), (L.any fun p => p.1 == d), (toSS [x, y] (lk L)).map SV.vals, P.underlying t, P.underlying kt) = (true, some d, true, false, some [.map (some b), kV key], some (.map kt e), some .string))
    (hz : (zeroValue e).run P w = .ok (.slice Option.none 0 0) w) (k : Cx F O w0 w (MR E b ks hd xss :: rest))
    (h0 : kfind ks key = none → K ((d, .tup [.v (.slice Option.none 0 0), .b false]) :: L) w)
    (h1 : ∀ j r B c, kfind ks key = some j → xss[j]? = some r → hd[j]? = some (B, r.length, c) → r.length ≤ c → K ((d, .tup [.v (.slice B r.length c), .b true]) :: L) w) :
    Op1 P n ops L w ⟨dst, .lookup t x y true, ty, pos, aft, g⟩ K := by
  obtain ⟨_, k1⟩ := k.unpk
  refine Op_look ss d 0 hside hz k1 rfl h0 fun j v hj hv => ?_
  obtain ⟨r, B, c, e1, e2, e3⟩ := k.mr_at 0 rfl hj
  rw [List.getElem?_map, e2] at hv
  obtain rfl := Option.some.inj hv
  exact h1 j r B c hj e1 e2 e3
/-- a row is put -/
theorem Op_updR {t kt e ty : TypeId} {m y x : Operand} {pos : String} {aft : Array Edge} {g : Option (Nat × Bool)} (ss : List Nat) {b : Nat} {key : List UInt8} {ks : List (List UInt8)} {hd : List Hd} {xss : List (List α)} {A : Option Addr} {n1 c : Nat} {r : List α}
    (hside : (gok ops ss L (⟨none, .mapUpdate t m y x, ty, pos, aft, g⟩ : Oper), (toSS [m, y, x] (lk L)).map SV.vals, P.underlying t, P.underlying kt) = (true, some [.map (some b), kV key, .slice A n1 c], some (.map kt e), some .string))
    (k : Cx F O w0 w (MR E b ks hd xss :: Ow E A n1 c r :: rest)) (hk : ∀ w', Cx F O w0 w' (MR E b (mputK ks key) (mputV ks hd key (A, n1, c)) (mputV ks xss key r) :: rest) → K L w') :
    Op1 P n ops L w ⟨none, .mapUpdate t m y x, ty, pos, aft, g⟩ K := by
  obtain ⟨⟨hl, hkl⟩, k1⟩ := k.unpk
  refine Op_upd ss 0 (.slice A n1 c) hside k1 rfl fun w' k' => hk w' ?_
  rw [List.cons_append, List.set_cons_zero] at k'
  have e1 : mputV ks (hd.map hV) key (.slice A n1 c) = (mputV ks hd key (A, n1, c)).map hV := by rw [mput_map]; rfl
  rw [e1] at k'
  refine Cx.dopk ⟨mput_len hl, mput_lenK hkl⟩ ?_
  cases hf : kfind ks key with
  | none =>
    have e2 : mputV ks hd key (A, n1, c) = hd ++ [(A, n1, c)] := by unfold mputV; rw [hf]
    have e3 : mputV ks xss key r = xss ++ [r] := by unfold mputV; rw [hf]
    rw [e2] at k' ⊢
    rw [e3, rows_app hd [(A, n1, c)] xss [r] hl]
    refine k'.perm ?_
    simp only [List.cons_append, List.append_assoc]
    refine .cons _ (List.perm_middle.trans ?_)
    exact (List.perm_middle (l₁ := rows E hd xss)).symm
  | some j =>
    have hlt : j < ks.length := (List.getElem?_eq_some_iff.1 (kfind_some hf)).1
    have e2 : mputV ks hd key (A, n1, c) = hd.set j (A, n1, c) := by unfold mputV; rw [hf]
    have e3 : mputV ks xss key r = xss.set j r := by unfold mputV; rw [hf]
    rw [e2] at k' ⊢
    rw [e3]
    have hg : (rows E hd xss)[j]? = some (Ow E (hd[j]'(by omega)).1 (hd[j]'(by omega)).2.1 (hd[j]'(by omega)).2.2 (xss[j]'(by omega))) := rows_get (List.getElem?_eq_getElem _) (List.getElem?_eq_getElem _)
    have hr := rows_set (E := E) hd xss j (A, n1, c) r hl
    rw [← hr]
    have k2 : Cx F O w0 w' (Ow E (hd[j]'(by omega)).1 (hd[j]'(by omega)).2.1 (hd[j]'(by omega)).2.2 (xss[j]'(by omega)) :: (Mb b (mputK ks key) ((hd.set j (A, n1, c)).map hV) :: Ow E A n1 c r :: ((rows E hd xss).eraseIdx j ++ rest))) := k'.perm (by
      have p1 := perm_cut hg
      refine (List.Perm.cons _ (List.Perm.append_right _ p1)).trans ?_
      simp only [List.cons_append]
      refine (List.Perm.swap _ _ _).trans (.cons _ (.cons _ ?_))
      exact List.perm_middle)
    refine k2.tl.perm ?_
    simp only [List.cons_append]
    refine .cons _ ?_
    have p2 := perm_put (l := rows E hd xss) (i := j) (Ow E A n1 c r) (by rw [rows_length hd xss hl]; omega)
    exact (List.Perm.append_right rest p2)
/-- a row is gone -/
theorem Op_delR {x y : Operand} {t t2 kt e ty : TypeId} {pos : String} {aft : Array Edge} {g : Option (Nat × Bool)} (ss : List Nat) {b : Nat} {key : List UInt8} {ks : List (List UInt8)} {hd : List Hd} {xss : List (List α)}
    (hside : (gok ops ss L (⟨none, .call ⟨.builtin .delete, #[x, y], #[t, t2]⟩, ty, pos, aft, g⟩ : Oper), (toSS [x, y] (lk L)).map SV.vals, P.underlying t, P.underlying kt) = (true, some [.map (some b), kV key], some (.map kt e), some .string))
    (k : Cx F O w0 w (MR E b ks hd xss :: rest)) (hk : ∀ w', Cx F O w0 w' (MR E b (mdelK ks key) (mdelV ks hd key) (mdelV ks xss key) :: rest) → K L w') :
    Op1 P n ops L w ⟨none, .call ⟨.builtin .delete, #[x, y], #[t, t2]⟩, ty, pos, aft, g⟩ K := by
  obtain ⟨⟨hl, hkl⟩, k1⟩ := k.unpk
  refine Op_del ss 0 hside k1 rfl fun w' k' => hk w' ?_
  rw [List.cons_append, List.set_cons_zero] at k'
  cases hf : kfind ks key with
  | none =>
    have e0 : mdelK ks key = ks := by unfold mdelK; rw [hf]
    have e1 : mdelV ks (hd.map hV) key = hd.map hV := by unfold mdelV; rw [hf]
    have e2 : mdelV ks hd key = hd := by unfold mdelV; rw [hf]
    have e3 : mdelV ks xss key = xss := by unfold mdelV; rw [hf]
    rw [e0, e1] at k'
    rw [e0, e2, e3]
    exact Cx.dopk ⟨hl, hkl⟩ k'
  | some j =>
    have hlt : j < ks.length := (List.getElem?_eq_some_iff.1 (kfind_some hf)).1
    have e0 : mdelK ks key = ks.eraseIdx j := by unfold mdelK; rw [hf]
    have e1 : mdelV ks (hd.map hV) key = (hd.eraseIdx j).map hV := by unfold mdelV; rw [hf, map_erase]
    have e2 : mdelV ks hd key = hd.eraseIdx j := by unfold mdelV; rw [hf]
    have e3 : mdelV ks xss key = xss.eraseIdx j := by unfold mdelV; rw [hf]
    rw [e0, e1] at k'
    rw [e0, e2, e3]
    refine Cx.dopk ⟨by simp [List.length_eraseIdx, hl], by simp [List.length_eraseIdx, hkl]⟩ ?_
    have hrr : ∀ (hd : List Hd) (xss : List (List α)) (j : Nat), hd.length = xss.length → rows E (hd.eraseIdx j) (xss.eraseIdx j) = (rows E hd xss).eraseIdx j := by
      intro hd
      induction hd with
      | nil => intro xss j _; simp [rows]
      | cons a as ih =>
        intro xss j hq
        cases xss with
        | nil => cases hq
        | cons c cs =>
          cases j with
          | zero => rfl
          | succ j =>
            simp only [List.length_cons, Nat.add_right_cancel_iff] at hq
            simp only [List.eraseIdx_cons_succ, rows, ih cs j hq]
    have hg : (rows E hd xss)[j]? = some (Ow E (hd[j]'(by omega)).1 (hd[j]'(by omega)).2.1 (hd[j]'(by omega)).2.2 (xss[j]'(by omega))) := rows_get (List.getElem?_eq_getElem _) (List.getElem?_eq_getElem _)
    rw [hrr hd xss j hl]
    refine (k'.perm ?_ : Cx F O w0 w' (Ow E (hd[j]'(by omega)).1 (hd[j]'(by omega)).2.1 (hd[j]'(by omega)).2.2 (xss[j]'(by omega)) :: (Mb b (ks.eraseIdx j) ((hd.eraseIdx j).map hV) :: ((rows E hd xss).eraseIdx j ++ rest)))).tl
    refine (List.Perm.cons _ (List.Perm.append_right _ (perm_cut hg))).trans ?_
    simp only [List.cons_append]
    exact List.Perm.swap _ _ _
end
/-- what lies at a key -/
def mget (ks : List (List UInt8)) (xss : List (List α)) (k : List UInt8) : Option (List α) := match kfind ks k with | some j => xss[j]? | none => none
theorem mget_none {ks : List (List UInt8)} {xss : List (List α)} {k : List UInt8} (h : kfind ks k = none) : mget ks xss k = none := by unfold mget; rw [h]
theorem mget_some {ks : List (List UInt8)} {xss : List (List α)} {k : List UInt8} {j : Nat} {x : List α} (h : kfind ks k = some j) (hx : xss[j]? = some x) : mget ks xss k = some x := by unfold mget; rw [h]; exact hx
theorem MR.in_rest {F1 O1 : Nat → Prop} {w : World} {rest : List HP} {E : Enc α} {b j m d : Nat} {ks : List (List UInt8)} {hd : List Hd} {xss : List (List α)} {x : List α} {B : Option Addr} (hr : ∀ (i : Nat) (h : HP), rest[i]? = some h → ∃ S R, h.p w S R ∧ (∀ b, R b → O1 b) ∧ ∀ b, S b → ¬ F1 b) (i : Nat) (hi : rest[i]? = some (MR E b ks hd xss)) (hx : xss[j]? = some x) (hh : hd[j]? = some (B, m, d)) : Ro F1 w B (E.all x) := by
  obtain ⟨S, R, h, _, hS⟩ := hr i _ hi
  obtain ⟨_, _, _, h2⟩ := MR.parts h
  obtain ⟨S', R', hp, hq⟩ := h2 _ _ _ hh hx
  exact ro_of_ow hp fun b hb => hS b (hq b hb)
end Go.Sx
