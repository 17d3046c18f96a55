import Derived.Test.YtnbefeefdcmbaaaProg
import Derived.Test.YtnbefeefdcmbaaaK1
namespace Go.Sx
open Go.RowKit
set_option linter.unusedSimpArgs false
set_option linter.unusedVariables false
structure xK (w : World) (S : Nat → Prop) (hd : List Hd) (xs : List (List UInt8)) (m : Nat) : Prop where
  len : hd.length = xs.length
  row : ∀ (j : Nat) (h : Hd) (x : List UInt8), hd[j]? = some h → xs[j]? = some x → h.2.1 = x.length ∧ x.length ≤ h.2.2 ∧ (m ≤ j → h.2.2 = x.length) ∧ (x ≠ [] → ∃ g o t cur, h.1 = some ⟨g, o, none⟩ ∧ Rw w g cur t ∧ S g ∧ (cur.toList.drop o).take x.length = e8.all x)
  apart : ∀ (j j' : Nat) (h h' : Hd) (x x' : List UInt8) (g o g' o' : Nat), j ≠ j' → hd[j]? = some h → xs[j]? = some x → hd[j']? = some h' → xs[j']? = some x' → h.1 = some ⟨g, o, none⟩ → h'.1 = some ⟨g', o', none⟩ → x ≠ [] → x' ≠ [] → g ≠ g' ∨ o + x.length ≤ o' ∨ o' + x'.length ≤ o
def WR (hd : List Hd) (xs : List (List UInt8)) (m : Nat) : HP where
  p w S R := xK w S hd xs m
  loc := by
    rintro w w' S R ⟨h1, h2, h3⟩ hk
    refine ⟨h1, fun j h x e1 e2 => ?_, h3⟩
    obtain ⟨a, b, c, d⟩ := h2 j h x e1 e2
    refine ⟨a, b, c, fun hx => ?_⟩
    obtain ⟨g, o, t, cur, d1, d2, d3, d4⟩ := d hx
    exact ⟨g, o, t, cur, d1, d2.keep (hk g (.inl d3)), d3, d4⟩
def OC (A : Option Addr) (n c : Nat) (hd : List Hd) (xs : List (List UInt8)) (m : Nat) : HP := Pk (hd.length = xs.length) [Ow eH A n c hd, WR hd xs m]
theorem fK (g o j : Nat) : (⟨g, o, none⟩ : Addr).add j = ⟨g, o + j, none⟩ := by unfold Addr.add; split <;> simp_all
theorem xK.rd {w : World} {S : Nat → Prop} {hd : List Hd} {xs : List (List UInt8)} {m j : Nat} {h : Hd} {x : List UInt8} (q : xK w S hd xs m) (e1 : hd[j]? = some h) (e2 : xs[j]? = some x) : Rd w h.1 (e8.all x) := by
  obtain ⟨_, _, _, d⟩ := q.row j h x e1 e2
  by_cases hx : x = []
  · subst hx
    exact ⟨fun h => absurd rfl h, fun _ j u _ hu => by simp [Enc.all] at hu⟩
  · obtain ⟨g, o, t, cur, d1, d2, d3, d4⟩ := d hx
    rw [d1]
    refine ⟨fun _ => ⟨_, rfl⟩, fun a i u ha hu => ?_⟩
    obtain rfl := Option.some.inj ha
    rw [fK, d2.cell, ← Array.getElem?_toList]
    rw [← d4, List.getElem?_take] at hu
    split at hu
    · rw [List.getElem?_drop] at hu; exact hu
    · cases hu
section
variable {F O : Nat → Prop} {w0 w w' : World} {hs rest : List HP} {A : Option Addr} {n c m : Nat} {hd : List Hd} {xs : List (List UInt8)}
theorem OC.parts {S R : Nat → Prop} (h : (OC A n c hd xs m).p w S R) : (∃ S' R', (Ow eH A n c hd).p w S' R') ∧ (∃ S', xK w S' hd xs m ∧ (∀ b, S' b → S b)) ∧ hd.length = xs.length := by
  obtain ⟨hl, hS⟩ := h
  obtain ⟨S1, R1, U1, V1, e1, e2, e3, e4, _⟩ := Sep.cut (i := 0) rfl hS
  obtain ⟨S2, R2, U2, V2, g1, g2, g3, g4, _⟩ := Sep.cut (i := 0) rfl e2
  exact ⟨⟨S1, R1, e1⟩, ⟨S2, g1, fun b hb => (e3 b).2 (.inr ((g3 b).2 (.inl hb)))⟩, hl⟩
theorem Cx.gJ (k : Cx F O w0 w hs) (i : Nat) (hi : hs[i]? = some (OC A n c hd xs m)) : Rd w A (eH.all hd) := by
  obtain ⟨S, R, h⟩ := k.get i hi
  obtain ⟨⟨_, _, h1⟩, _⟩ := OC.parts h
  exact Ow.rd' h1
theorem Cx.fE (k : Cx F O w0 w hs) (i : Nat) (hi : hs[i]? = some (OC A n c hd xs m)) : hd.length = n := by
  obtain ⟨S, R, h⟩ := k.get i hi
  obtain ⟨⟨_, _, h1⟩, _⟩ := OC.parts h
  exact h1.1
theorem Cx.lU (k : Cx F O w0 w hs) (i : Nat) (hi : hs[i]? = some (OC A n c hd xs m)) {j : Int} {x : List UInt8} (hx : ai xs j = some x) :
    ∃ B d, ai hd j = some (B, x.length, d) ∧ x.length ≤ d ∧ (m ≤ j.toNat → d = x.length) := by
  obtain ⟨S, R, h⟩ := k.get i hi
  obtain ⟨_, ⟨S', h1, _⟩, h3⟩ := OC.parts h
  obtain ⟨⟨B, n', d⟩, e1, e2, e3⟩ := qL h3 hx
  obtain ⟨a, b, c, _⟩ := h1.row _ _ _ e2 e3
  have a' : n' = x.length := a
  subst a'
  exact ⟨B, d, e1, b, c⟩
theorem Cx.o5 (k : Cx F O w0 w hs) (i : Nat) (hi : hs[i]? = some (OC A n c hd xs m)) {j : Int} {x : List UInt8} {B : Option Addr} {d : Nat} (hx : ai xs j = some x) (hh : ai hd j = some (B, x.length, d)) : Rd w B (e8.all x) := by
  obtain ⟨S, R, h⟩ := k.get i hi
  obtain ⟨_, ⟨S', h1, _⟩, h3⟩ := OC.parts h
  exact h1.rd (aI hh).2 (aI hx).2
end
theorem Cx.vV {F O : Nat → Prop} {w0 w : World} {hs : List HP} {A : Option Addr} {n c m : Nat} {hd : List Hd} {xs : List (List UInt8)} (k : Cx F O w0 w hs) (i : Nat) (hi : hs[i]? = some (OC A n c hd xs m)) : xs.length ≤ maxLen := by
  obtain ⟨S, R, h⟩ := k.get i hi
  obtain ⟨⟨_, _, h1⟩, _, h3⟩ := OC.parts h
  have := h1.1
  rcases h1.2 with ⟨_, h2, _⟩ | ⟨g, t, cur, _, _, h3, h4, _⟩ <;> omega
theorem qM {α : Type} {X : Int} {xs : List α} {x y : α} {j : Nat} (h : ai xs X = some x) (hm : (xs.set j y).length ≤ maxLen) : X.toNat + 1 ≤ (bf (X + 1)).toNat := su h (by rwa [List.length_set] at hm)
theorem sD (l : List Value) (k : Nat) (v : Value) (h : k < l.length) : pat l k [v] = l.set k v := by
  unfold pat
  rw [List.set_eq_take_append_cons_drop, if_pos h]
  simp
theorem uA {l : List Value} {o q n : Nat} {v : Value} : ((l.set (o + q) v).drop o).take n = ((l.drop o).take n).set q v := by
  rw [List.drop_set, if_neg (by omega), Nat.add_sub_cancel_left, List.take_set]
theorem sF {l : List Value} {o p n : Nat} {v : Value} (h : p < o ∨ o + n ≤ p) : ((l.set p v).drop o).take n = (l.drop o).take n := by
  rw [List.drop_set]
  rcases h with h | h
  · rw [if_pos h]
  · by_cases hp : p < o
    · rw [if_pos hp]
    · rw [if_neg hp, List.take_set, List.set_eq_of_length_le (by rw [List.length_take]; omega)]
theorem uB (x : List UInt8) (q : Nat) (v : UInt8) : e8.all (x.set q v) = (e8.all x).set q (bV v) := by rw [iF, iF, List.map_set]
section
variable {P : Program} {n : Nat} {ops : Array Oper} {L : St} {w w0 : World} {F O : Nat → Prop} {hs rest : List HP} {K : St → World → Prop}
variable {A : Option Addr} {n1 c m : Nat} {hd : List Hd} {xs : List (List UInt8)}
theorem sG {ty t : TypeId} {p x : Operand} {pos : String} {gm : Array Edge} {g : Option (Nat × Bool)} (ss : List Nat) {pa : Option Addr} {j q : Int} {y : List UInt8} {B : Option Addr} {d : Nat} {old : UInt8} (v : UInt8)
    (hside : (mi ops ss L (⟨none, .store t p x, ty, pos, gm, g⟩ : Oper), (none : Option Nat), (toSS [p, x] (lk L)).map SV.vals, dP P t) = (true, none, some [.pointer pa, (SV.u8 v).val], some 1))
    (hp : Pt B (q.toNat * 1 + 0) pa) (k : Cx F O w0 w (OC A n1 c hd xs m :: rest)) (hy : ai xs j = some y) (hh : ai hd j = some (B, y.length, d)) (hq : ai y q = some old)
    (hk : ∀ w', Cx F O w0 w' (OC A n1 c hd (xs.set j.toNat (y.set q.toNat v)) m :: rest) → K L w') :
    mr P n ops L w ⟨none, .store t p x, ty, pos, gm, g⟩ K := by
  obtain ⟨hl, k1⟩ := k.rY
  have hq2 := (aI hq).2
  have zg := (List.getElem?_eq_some_iff.1 hq2).1
  have hy2 := (aI hy).2
  have hh2 := (aI hh).2
  have hyn : y ≠ [] := fun e => by subst e; simp at zg
  obtain ⟨S0, R0, h0⟩ := k1.get 1 rfl
  obtain ⟨_, _, _, hd0⟩ := h0.row _ _ _ hh2 hy2
  obtain ⟨b, o, bt, cur, d1, d2, d3, d4⟩ := hd0 hyn
  have d1' : B = some ⟨b, o, none⟩ := d1
  subst d1'
  have hsz : o + y.length ≤ cur.size := by
    have := congrArg List.length d4
    have h1 : e8.sz = 1 := rfl
    simp only [Enc.ag, List.length_take, List.length_drop, Array.length_toList, h1] at this
    have := List.length_pos_iff.2 hyn
    omega
  refine jQ (sv := .u8 v) (svs := [.u8 v]) ss (by
    simp only [Prod.mk.injEq] at hside ⊢
    exact ⟨hside.1, hside.2.1, hside.2.2.1, hside.2.2.2, rfl, rfl⟩) (b := b) (off := o + q.toNat) (cur := cur) (bt := bt) ?_ d2 (by
    show o + q.toNat + 1 ≤ cur.size
    omega) (hk _ (Cx.oZ (by simpa using hl) ?_))
  · rw [hp rfl]
    simp [fa, fK]
  · have hcl : SV.cl [SV.u8 v] = [bV v] := rfl
    rw [hcl]
    have hps : pat cur.toList (o + q.toNat) [bV v] = cur.toList.set (o + q.toNat) (bV v) := sD _ _ _ (by rw [Array.length_toList]; omega)
    have := k1.upd (h' := WR hd (xs.set j.toNat (y.set q.toNat v)) m) 1 rfl (some b) (dG b (pat cur.toList (o + q.toNat) [bV v]).toArray) fun S R h1 h2 h3 => by
      obtain ⟨_, _, _, hd1⟩ := h1.row _ _ _ hh2 hy2
      obtain ⟨b', o', t', cur', f1, f2, f3, f4⟩ := hd1 hyn
      simp only [Option.some.injEq, Addr.mk.injEq, and_true] at f1
      obtain ⟨rfl, rfl⟩ := f1
      obtain ⟨rfl, rfl⟩ := d2.inj f2
      refine ⟨fun g hg => by cases hg; exact f3, S, R, ⟨?_, ?_, ?_⟩, fun b hb => ⟨by simp [World.setRow]; exact h3 b (.inl hb), h2 b hb, .inl hb⟩, fun b hb => ⟨by simp [World.setRow]; exact h3 b (.inr hb), .inl hb⟩⟩
      · rw [List.length_set]; exact h1.len
      · intro i h x e1 e2
        rw [List.getElem?_set] at e2
        by_cases hij : j.toNat = i
        · subst hij
          rw [if_pos rfl] at e2
          split at e2
          · obtain rfl := Option.some.inj e2
            rw [hh2] at e1
            obtain rfl := Option.some.inj e1
            obtain ⟨a1, a2, a3, _⟩ := h1.row _ _ _ hh2 hy2
            rw [List.length_set]
            refine ⟨a1, a2, a3, fun _ => ⟨b, o, bt, _, rfl, gI d2 (o + q.toNat) [bV v] (by simp; omega), f3, ?_⟩⟩
            rw [hps]
            show ((cur.toList.set (o + q.toNat) (bV v)).drop o).take y.length = _
            rw [uA, d4, uB]
          · cases e2
        · rw [if_neg hij] at e2
          obtain ⟨a1, a2, a3, a4⟩ := h1.row _ _ _ e1 e2
          refine ⟨a1, a2, a3, fun hx => ?_⟩
          obtain ⟨g', o', t', cur', c1, c2, c3, c4⟩ := a4 hx
          by_cases hg : g' = b
          · subst hg
            obtain ⟨rfl, rfl⟩ := c2.inj d2
            refine ⟨g', o', t', _, c1, gI d2 (o + q.toNat) [bV v] (by simp; omega), c3, ?_⟩
            rw [hps]
            show ((cur'.toList.set (o + q.toNat) (bV v)).drop o').take x.length = _
            rw [sF, c4]
            rcases h1.apart _ _ _ _ _ _ g' o g' o' hij hh2 hy2 e1 e2 rfl c1 hyn hx with h | h | h
            · exact absurd rfl h
            · left; omega
            · right; omega
          · exact ⟨g', o', t', cur', c1, c2.keep (by
              have := (dG (w := w) b (pat cur.toList (o + q.toNat) [bV v]).toArray).block g' c2.lt (fun e => hg (Option.some.inj e))
              exact this), c3, c4⟩
      · intro i i' h h' x x' g1 o1 g2 o2 hne e1 e2 e3 e4 p1 p2 n1 n2
        rw [List.getElem?_set] at e2 e4
        have key : ∀ (i : Nat) (x : List UInt8), (if j.toNat = i then (if i < xs.length then some (y.set q.toNat v) else none) else xs[i]?) = some x → ∃ z, xs[i]? = some z ∧ z.length = x.length := by
          intro i x e
          by_cases hij : j.toNat = i
          · subst hij
            rw [if_pos rfl] at e
            split at e
            · obtain rfl := Option.some.inj e
              exact ⟨y, hy2, by rw [List.length_set]⟩
            · cases e
          · rw [if_neg hij] at e
            exact ⟨x, e, rfl⟩
        obtain ⟨z, z1, z2⟩ := key i x (by rw [← e2]; by_cases hij : j.toNat = i <;> simp [hij])
        obtain ⟨z', z3, z4⟩ := key i' x' (by rw [← e4]; by_cases hij : j.toNat = i' <;> simp [hij])
        rw [← z2, ← z4]
        refine h1.apart i i' h h' z z' g1 o1 g2 o2 hne e1 z1 e3 z3 p1 p2 ?_ ?_
        · intro e; rw [e] at z2; exact n1 (List.length_eq_zero_iff.1 z2.symm)
        · intro e; rw [e] at z4; exact n2 (List.length_eq_zero_iff.1 z4.symm)
    simpa using this
end
section
variable {α : Type} {P : Program} {w : World}
theorem lV {t t2 e ty : TypeId} {zs : List Value} {bytes : Nat} (tf : TF P t e zs bytes) (ht2 : (match P.underlying t2 with | some (.slice _) => true | some .string => true | _ => false) = true) {E : Enc α} (hE : E.sz = zs.length) {A : Option Addr} {n m c : Nat} {x : Value} {xs ys : List α}
    (hA : Rd w A (E.all xs)) (xY : xs.length = n) (hr : ¬ n + m ≤ c) (hx : Src P zs.length w x m (E.all ys)) (hym : ys.length = m) (hroom : (n + m) * bytes ≤ 140737488355328) :
    ∃ A' c' w', (Builtin.append_ #[t, t2] ty #[.slice A n c, x]).run P w = .ok (.slice A' (n + m) c') w' ∧ (∃ S', (Ow E A' (n + m) c' (xs ++ ys)).p w' S' (fun _ => False) ∧ (∀ b, S' b → b < w'.heap.size ∧ w.heap.size ≤ b)) ∧
      w.grownBy w' none := by
  obtain ⟨i, z, hi, hz, hzc, hsz, hby⟩ := tf.parts
  have qx : (∃ e', P.underlying t2 = some (.slice e')) ∨ P.underlying t2 = some .string := by
    split at ht2
    · exact .inl ⟨_, by assumption⟩
    · exact .inr (by assumption)
    · cases ht2
  have kT : (sizeOf e).run P w = .ok zs.length w := by rw [← hsz]; exact dE hi w
  have hmb : n + m ≤ (n + m) * bytes := Nat.le_mul_of_pos_right _ tf.hb
  have hml : n + m ≤ maxLen := by unfold maxLen; omega
  have hlen : (xs ++ ys).length = n + m := by rw [List.length_append, xY, hym]
  have hys : (E.all ys).length = m * zs.length := hx.hl
  have hcf : ∀ w', w'.heap = w.heap → (Builtin.firstCells zs.length m x).run P w' = .ok (E.all ys).toArray w' := fun w' hw => by
    have := hx.cells m w' (Nat.le_refl _) hw
    rwa [← hys, List.take_length] at this
  have hge := grownCap_ge w (n + m) c e
  have hcm : grownCap w (n + m) c e ≤ maxLen := grownCap_le_maxLen w (n + m) c e hml
  have hold : ∃ olds : List Value, olds = E.all xs ∧ (Builtin.firstCells zs.length n (.slice A n c)).run P w.drew = .ok olds.toArray w.drew := by
    refine ⟨_, rfl, ?_⟩
    have h1 : (E.all xs).length = n * zs.length := by rw [Enc.ag, xY, hE]
    have := (Src.slice (P := P) (sz := zs.length) (m := n) (c := c) hA h1).cells n w.drew (Nat.le_refl _) rfl
    rwa [← h1, List.take_length] at this
  obtain ⟨olds, rfl, hold⟩ := hold
  have hc0 := hcf w.drew rfl
  have hnb : Builtin.nextslicecap (n + m) c * i.bytes ≤ 281474976710656 := by rw [hby]; exact growslice_fits (by omega) hroom
  have h63 : ¬ (9223372036854775807 < ((n : Int) + (m : Int))) := by omega
  have h48 : ¬ (281474976710656 < Builtin.nextslicecap (n + m) c * i.bytes) := by omega
  refine ⟨some ⟨w.heap.size, 0, none⟩, grownCap w (n + m) c e, w.drew.alloc (.cells ((E.all xs).toArray ++ (E.all ys).toArray ++ Builtin.zeroCells z.cells (grownCap w (n + m) c e - (n + m))) e), ?_, ⟨fun b => b = w.heap.size, ⟨hlen, .inr ⟨w.heap.size, e, _, rfl, Rw.new w.drew _ _, hge, hcm, ?_, ?_, rfl⟩⟩, ?_⟩, ⟨rfl, rfl, rfl, by simp, fun k hk _ => heap_alloc_old w.drew _ hk⟩⟩
  · rcases qx with ⟨e', hd⟩ | hd <;> simp [Builtin.append_, run_underlying tf.ht, run_underlying hd, kT, hx.len, hr, h63, h48, typeInfo, zeroValue, hi, hz, Question.forced, hold, hc0, newRow, grownCap] <;> (congr 2; apply Array.ext'; simp)
  · simp only [Array.size_append, List.size_toArray, size_zeroCells, hzc, Enc.ag, xY, hym, ← Nat.add_mul, hE]
    exact Nat.mul_le_mul_right _ (by omega)
  · simp only [Array.toList_append, List.append_assoc]
    rw [← List.append_assoc, ← Enc.all_append]
    have : (E.all (xs ++ ys)).length = (n + m) * E.sz := by rw [Enc.ag, hlen]
    rw [← this, List.take_left]
  · intro b hb
    subst hb
    exact ⟨by simp, Nat.le_refl _⟩
end
section
variable {α : Type} {P : Program} {n : Nat} {ops : Array Oper} {L : St} {w w0 : World} {F O : Nat → Prop} {hs rest : List HP} {K : St → World → Prop}
theorem nH {dst : Option Nat} {x y : Operand} {t t2 ty : TypeId} {pos : String} {gm : Array Edge} {g : Option (Nat × Bool)} {e : TypeId} {zs : List Value} {bytes : Nat} (tf : TF P t e zs bytes)
    {E : Enc α} (ss : List Nat) (d : Nat) {A : Option Addr} {n1 m c : Nat} {v : SV} {xs ys : List α}
    (hside : (mi ops ss L ⟨dst, .call ⟨.builtin .append, #[x, y], #[t, t2]⟩, ty, pos, gm, g⟩, dst, (decide (d < n)), (L.any fun p => p.1 == d), (toSS [x, y] (lk L)).map SV.vals, (match P.underlying t2 with | some (.slice _) => true | some .string => true | _ => false), E.sz) = (true, some d, true, false, some [.slice A n1 c, v.val], true, zs.length))
    (k : Cx F O w0 w hs) (hA : Rd w A (E.all xs)) (hn : xs.length = n1) (hx : Src P zs.length w v.val m (E.all ys)) (hm : ys.length = m) (hf : ¬ n1 + m ≤ c) (hroom : (n1 + m) * bytes ≤ 140737488355328)
    (hk : ∀ A' c' w', Cx F O w0 w' (hs ++ [Ow E A' (n1 + m) c' (xs ++ ys)]) → K ((d, .v (.slice A' (n1 + m) c')) :: L) w') :
    mr P n ops L w ⟨dst, .call ⟨.builtin .append, #[x, y], #[t, t2]⟩, ty, pos, gm, g⟩ K := by
  simp only [Prod.mk.injEq, Option.map_eq_some_iff, decide_eq_true_eq] at hside
  obtain ⟨s1, rfl, s3, s4, ⟨svs, s5, s6⟩, s7, s8⟩ := hside
  refine lN (xs := [x, y]) (svs := svs) ss (d := d) (by simp [Side, s1, s3, s4, s5]) fun a ha he => ?_
  rw [s6] at he
  simp only [List.map_cons, List.map_nil, List.cons.injEq, and_true] at he
  obtain ⟨A', c', w', hrun, ⟨S', hS', hb⟩, hgrow⟩ := lV (P := P) tf (t2 := t2) s7 s8 (ty := ty) hA hn hf hx hm hroom
  unfold Oper.wp execOp
  simp only [resolve, invoke, builtin, Sem.run_bind, Sem.run_pure, Result.andThen_ok, List.map_toArray, List.map_cons, List.map_nil, he.1, he.2, hrun]
  refine ⟨.v (.slice A' (n1 + m) c'), rfl, hk A' c' w' ?_⟩
  have k0 : Cx N0 N0 w w ([] ++ [Ow E Option.none 0 0 []]) := (Cx.refl w).nil E
  have k1 := k0.uk (h' := Ow E A' (n1 + m) c' (xs ++ ys)) 0 rfl Option.none hgrow fun S R _ _ => ⟨fun g hg => (by cases hg), S', fun _ => False, hS', fun b hb' => ⟨(hb b hb').1, .inr (hb b hb').2⟩, fun _ h => h⟩
  exact k.call k1
theorem Cx.mergeD {h1 h2 h3 : HP} (k : Cx F O w0 w (h1 :: h2 :: rest)) (hp : ∀ S1 R1 S2 R2, h1.p w S1 R1 → h2.p w S2 R2 → (∀ b, S1 b → ¬ S2 b) → h3.p w (fun b => S1 b ∨ S2 b) (fun b => R1 b ∨ R2 b)) : Cx F O w0 w (h3 :: rest) := by
  obtain ⟨U, V, ⟨S1, R1, U1, V1, e1, ⟨S2, R2, U2, V2, g1, g2, g3, g4, g5, g6⟩, e3, e4, e5, e6⟩, hU, hV⟩ := k.sep
  refine ⟨k.os, k.tape, k.output, k.size, k.block, k.fin, k.qj, U, V, ⟨_, _, U2, V2, hp _ _ _ _ e1 g1 (fun b hb hs => (e5 b hb).1 ((g3 b).2 (.inl hs))), g2, fun b => ?_, fun b => ?_, fun b hb => ?_, fun b hb => ?_⟩, hU, hV⟩
  · rw [e3, g3, or_assoc]
  · rw [e4, g4, or_assoc]
  · rcases hb with hb | hb
    · have h := e5 b hb
      rw [g3, g4] at h
      exact ⟨fun q => h.1 (.inr q), fun q => q.elim h.2.1 (fun q => h.2.2 (.inl q)), fun q => h.2.2 (.inr q)⟩
    · have h := g5 b hb
      exact ⟨h.1, fun q => q.elim (fun q => e6 b q ((g3 b).2 (.inl hb))) h.2.1, h.2.2⟩
  · rcases hb with hb | hb
    · exact fun q => e6 b hb ((g3 b).2 (.inr q))
    · exact g6 b hb
theorem WR.put {hd : List Hd} {xs : List (List UInt8)} {m j : Nat} {A2 : Option Addr} {n2 c2 : Nat} {y : List UInt8} (k : Cx F O w0 w (WR hd xs m :: Ow e8 A2 n2 c2 y :: rest)) (hm : m ≤ j) : Cx F O w0 w (WR (hd.set j (A2, n2, c2)) (xs.set j y) (j + 1) :: rest) := by
  refine k.mergeD fun S1 R1 S2 R2 h1 h2 hdis => ⟨by simp [h1.len], ?_, ?_⟩
  · intro i h x e1 e2
    rw [List.getElem?_set] at e1 e2
    by_cases hij : j = i
    · subst hij
      rw [if_pos rfl] at e1 e2
      split at e1
      · split at e2
        · obtain rfl := Option.some.inj e1
          obtain rfl := Option.some.inj e2
          have hl := h2.1
          refine ⟨hl.symm, ?_, fun h => by omega, fun hx => ?_⟩
          · have := Ow.vS h2
            show y.length ≤ c2
            omega
          · rcases h2.2 with ⟨_, hn, _⟩ | ⟨g, t, cur, a1, a2, a3, a4, a5, a6, a7⟩
            · exact absurd (List.length_eq_zero_iff.1 (hl.trans hn)) hx
            · refine ⟨g, 0, t, cur, a1, a2, .inr a7, ?_⟩
              have h1 : e8.sz = 1 := rfl
              rw [h1, Nat.mul_one, ← hl] at a6
              exact a6
        · cases e2
      · cases e1
    · rw [if_neg hij] at e1 e2
      obtain ⟨a1, a2, a3, a4⟩ := h1.row _ _ _ e1 e2
      refine ⟨a1, a2, fun h => a3 (by omega), fun hx => ?_⟩
      obtain ⟨g, o, t, cur, b1, b2, b3, b4⟩ := a4 hx
      exact ⟨g, o, t, cur, b1, b2, .inl b3, b4⟩
  · have new : ∀ (g o : Nat), A2 = some ⟨g, o, none⟩ → y ≠ [] → S2 g := by
      intro g o e hy
      rcases h2.2 with ⟨h, _⟩ | ⟨g', t, cur, a1, a2, a3, a4, a5, a6, a7⟩
      · rw [h] at e; cases e
      · rw [a1] at e
        simp only [Option.some.injEq, Addr.mk.injEq, and_true] at e
        rw [← e.1]; exact a7
    have old : ∀ (i : Nat) (h : Hd) (x : List UInt8) (g o : Nat), hd[i]? = some h → xs[i]? = some x → h.1 = some ⟨g, o, none⟩ → x ≠ [] → S1 g := by
      intro i h x g o e1 e2 e3 hx
      obtain ⟨_, _, _, a4⟩ := h1.row _ _ _ e1 e2
      obtain ⟨g', o', t, cur, b1, b2, b3, b4⟩ := a4 hx
      rw [b1] at e3
      simp only [Option.some.injEq, Addr.mk.injEq, and_true] at e3
      rw [← e3.1]; exact b3
    intro i i' h h' x x' g1 o1 g2 o2 hne e1 e2 e3 e4 p1 p2 n1 n2
    rw [List.getElem?_set] at e1 e2 e3 e4
    by_cases hi : j = i
    · subst hi
      rw [if_pos rfl] at e1 e2
      rw [if_neg hne] at e3 e4
      split at e1
      · split at e2
        · obtain rfl := Option.some.inj e1
          obtain rfl := Option.some.inj e2
          left
          intro e
          subst e
          exact hdis g1 (old _ _ _ _ _ e3 e4 p2 n2) (new _ _ p1 n1)
        · cases e2
      · cases e1
    · rw [if_neg hi] at e1 e2
      by_cases hi' : j = i'
      · subst hi'
        rw [if_pos rfl] at e3 e4
        split at e3
        · split at e4
          · obtain rfl := Option.some.inj e3
            obtain rfl := Option.some.inj e4
            left
            intro e
            subst e
            exact hdis g1 (old _ _ _ _ _ e1 e2 p1 n1) (new _ _ p2 n2)
          · cases e4
        · cases e3
      · rw [if_neg hi'] at e3 e4
        exact h1.apart _ _ _ _ _ _ _ _ _ _ hne e1 e2 e3 e4 p1 p2 n1 n2
theorem qN {ty t : TypeId} {p x : Operand} {pos : String} {gm : Array Edge} {g : Option (Nat × Bool)} (ss : List Nat) {pa : Option Addr} {A A2 B : Option Addr} {n1 c m n2 c2 l d : Nat} {hd : List Hd} {xs : List (List UInt8)} {j : Int} {y : List UInt8}
    (hside : (mi ops ss L (⟨none, .store t p x, ty, pos, gm, g⟩ : Oper), (none : Option Nat), (toSS [p, x] (lk L)).map SV.vals, dP P t) = (true, none, some [.pointer pa, .slice A2 n2 c2], some 1))
    (hp : Pt A (j.toNat * eH.sz + 0) pa) (hh : ai hd j = some (B, l, d)) (hm : m ≤ j.toNat) (k : Cx F O w0 w (OC A n1 c hd xs m :: Ow e8 A2 n2 c2 y :: rest))
    (hk : ∀ w', Cx F O w0 w' (OC A n1 c (hd.set j.toNat (A2, n2, c2)) (xs.set j.toNat y) (j.toNat + 1) :: rest) → K L w') :
    mr P n ops L w ⟨none, .store t p x, ty, pos, gm, g⟩ K := by
  obtain ⟨hl, k1⟩ := k.rY
  have hA : A.isSome = true := vJ (E := eH) (k1.rd 0 rfl) (by decide) (kV hh).1 (iT hh)
  refine uo (E := eH) (kk := 0) (sv := .v (.slice A2 n2 c2)) (svs := [.v (.slice A2 n2 c2)]) ss 0 (j := j.toNat) (x0 := (B, l, d)) (A2, n2, c2) (by
    simp only [Prod.mk.injEq] at hside ⊢
    exact ⟨hside.1, hside.2.1, hside.2.2.1, hside.2.2.2, rfl, rfl⟩) hp k1 rfl (iT hh) hA rfl (Nat.le_refl 1) fun w' k' => hk w' (Cx.oZ (by simpa using hl) ?_)
  have k2 : Cx F O w0 w' (Ow eH A n1 c (hd.set j.toNat (A2, n2, c2)) :: WR hd xs m :: Ow e8 A2 n2 c2 y :: rest) := by simpa using k'
  have k3 : Cx F O w0 w' (WR hd xs m :: Ow e8 A2 n2 c2 y :: Ow eH A n1 c (hd.set j.toNat (A2, n2, c2)) :: rest) := k2.perm ((List.Perm.swap _ _ _).trans (List.Perm.cons _ (.swap _ _ _)))
  exact (WR.put k3 hm).vU
end
def hdw (B : Option Addr) : Nat → List (List UInt8) → List Hd
  | _, [] => []
  | lo, x :: r => (fa B lo, x.length, x.length) :: hdw B (lo + x.length) r
theorem kW (B : Option Addr) : ∀ (lo : Nat) (l : List (List UInt8)), (hdw B lo l).length = l.length
  | _, [] => rfl
  | lo, x :: r => by simp [hdw, kW B _ r]
theorem kX (B : Option Addr) : ∀ (l : List (List UInt8)) (lo j : Nat) (x : List UInt8), l[j]? = some x → (hdw B lo l)[j]? = some (fa B (lo + (l.take j).flatten.length), x.length, x.length)
  | [], lo, j, x, h => by cases h
  | y :: r, lo, 0, x, h => by
    simp only [List.getElem?_cons_zero, Option.some.injEq] at h
    subst h
    simp [hdw]
  | y :: r, lo, j + 1, x, h => by
    simp only [List.getElem?_cons_succ] at h
    have := kX B r (lo + y.length) j x h
    simp only [hdw, List.getElem?_cons_succ, this, List.take_succ_cons, List.flatten_cons, List.length_append]
    congr 3
    omega
theorem kY : ∀ (l : List (List UInt8)) (j : Nat) (x : List UInt8), l[j]? = some x → (l.flatten.drop (l.take j).flatten.length).take x.length = x ∧ (l.take j).flatten.length + x.length ≤ l.flatten.length
  | [], j, x, h => by cases h
  | y :: r, 0, x, h => by
    simp only [List.getElem?_cons_zero, Option.some.injEq] at h
    subst h
    simp
  | y :: r, j + 1, x, h => by
    simp only [List.getElem?_cons_succ] at h
    obtain ⟨h1, h2⟩ := kY r j x h
    simp only [List.take_succ_cons, List.flatten_cons, List.length_append]
    rw [List.drop_append, List.drop_of_length_le (by omega), List.nil_append, Nat.add_sub_cancel_left]
    exact ⟨h1, by omega⟩
theorem jW (l : List (List UInt8)) : ∀ (i j : Nat) (x : List UInt8), i < j → l[i]? = some x → (l.take i).flatten.length + x.length ≤ (l.take j).flatten.length := by
  intro i j x hij h
  have h1 := (kY (l.take j) i x (by rw [List.getElem?_take, if_pos hij]; exact h)).2
  rwa [List.take_take, Nat.min_eq_left (by omega)] at h1
theorem WR.of {w w0 : World} {F O : Nat → Prop} {rest : List HP} {B : Option Addr} {bn bc : Nat} {bs : List UInt8} {l : List (List UInt8)} (k : Cx F O w0 w (Ow e8 B bn bc bs :: rest)) (hf : l.flatten = bs) : Cx F O w0 w (WR (hdw B 0 l) l 0 :: rest) := by
  have := k.upd (h' := WR (hdw B 0 l) l 0) 0 rfl Option.none ⟨rfl, rfl, rfl, Nat.le_refl _, fun _ _ _ => rfl⟩ fun S R h1 h2 h3 => by
    refine ⟨fun g hg => (by cases hg), S, R, ⟨kW B 0 l, ?_, ?_⟩, fun b hb => ⟨h3 b (.inl hb), h2 b hb, .inl hb⟩, fun b hb => ⟨h3 b (.inr hb), .inl hb⟩⟩
    · intro j h x e1 e2
      rw [kX B l 0 j x e2] at e1
      obtain rfl := Option.some.inj e1
      refine ⟨rfl, Nat.le_refl _, fun _ => rfl, fun hx => ?_⟩
      obtain ⟨f1, f2⟩ := kY l j x e2
      rw [hf] at f1 f2
      rcases h1.2 with ⟨_, hn, _⟩ | ⟨g, t, cur, a1, a2, a3, a4, a5, a6, a7⟩
      · have : bs.length = 0 := h1.1.trans hn
        have := List.length_pos_iff.2 hx
        omega
      · subst a1
        refine ⟨g, (l.take j).flatten.length, t, cur, by simp [fa, fK], a2, a7, ?_⟩
        have hz : e8.sz = 1 := rfl
        rw [hz, Nat.mul_one, ← h1.1] at a6
        have h4 : ((cur.toList.take bs.length).drop (l.take j).flatten.length).take x.length = (cur.toList.drop (l.take j).flatten.length).take x.length := by
          rw [List.drop_take, List.take_take, Nat.min_eq_left (by omega)]
        rw [← h4, a6, iF, iF, ← List.map_drop, ← List.map_take, f1]
    · intro i i' h h' x x' g1 o1 g2 o2 hne e1 e2 e3 e4 p1 p2 n1 n2
      rw [kX B l 0 i x e2] at e1
      rw [kX B l 0 i' x' e4] at e3
      obtain rfl := Option.some.inj e1
      obtain rfl := Option.some.inj e3
      right
      rcases h1.2 with ⟨hB, _⟩ | ⟨g, t, cur, a1, _⟩
      · subst hB; cases p1
      · subst a1
        simp only [fa, fK, Option.map_some, Option.some.injEq, Addr.mk.injEq, and_true, Nat.zero_add] at p1 p2
        rcases Nat.lt_or_gt_of_ne hne with hlt | hlt
        · left
          have := jW l i i' x hlt e2
          omega
        · right
          have := jW l i' i x' hlt e4
          omega
  simpa using this
theorem OC.of {w w0 : World} {F O : Nat → Prop} {rest : List HP} {A B : Option Addr} {n c bn bc : Nat} {bs : List UInt8} {l : List (List UInt8)} (k : Cx F O w0 w (Ow eH A n c (hdw B 0 l) :: Ow e8 B bn bc bs :: rest)) (hf : l.flatten = bs) : Cx F O w0 w (OC A n c (hdw B 0 l) l 0 :: rest) :=
  Cx.oZ (l := [_, _]) (kW B 0 l) (WR.of k.vU hf).vU
end Go.Sx
namespace Go.Sx
open Go.RowKit Go.Proofs
set_option linter.unusedVariables false
set_option linter.unusedSimpArgs false
set_option maxRecDepth 20000
theorem sH : TF Try.prog 22 5 [.int .u8 0] 1 := ⟨by kernel_rfl, by kernel_rfl, by decide, by decide⟩
theorem iU : TF Try.prog 24 22 [.slice none 0 0] 24 := ⟨by kernel_rfl, by kernel_rfl, by decide, by decide⟩
noncomputable def aN (n : Int) : (List (List UInt8) × List UInt8) → Option ((List (List UInt8) × List UInt8) ⊕ (List (List UInt8) × Int))
  | (ps, own) => if n < ((own.length : Nat) : Int) then ((uq own 0 n).bind fun a => (app ps ([a] : List (List UInt8)) 24).bind fun ps1 => (uq own n ((own.length : Nat) : Int)).bind fun lW => some (.inl (ps1, lW))) else (Option.map Sum.inr (if 0 < ((own.length : Nat) : Int) then ((app ps ([own] : List (List UInt8)) 24).bind fun ps1 => some (ps1, (0 : Int))) else (some (ps, (0 : Int)))))
noncomputable def dA (b : List UInt8) (n : Int) : Option (List (List UInt8) × Int) :=
  if n < 1 then (some (([] : List (List UInt8)), (1 : Int))) else ((app ([] : List UInt8) b 1).bind fun own => ah (aN n) (([] : List (List UInt8)), own))
theorem fa0 (B : Option Addr) : fa B 0 = B := by
  cases B with
  | none => rfl
  | some a => simp [fa, Addr.add]
theorem uC (B : Option Addr) (lo N m : Nat) (h : m ≠ N) : rH (fa B lo) N m 1 = fa B (lo + N) := by
  unfold rH
  rw [if_neg h]
  cases B with
  | none => rfl
  | some a =>
    simp only [fa, Option.map_some, Nat.mul_one, jk]
theorem jv (B : Option Addr) (x : List UInt8) : ∀ (lo : Nat) (l : List (List UInt8)), hdw B lo l ++ [(fa B (lo + l.flatten.length), x.length, x.length)] = hdw B lo (l ++ [x])
  | lo, [] => by simp [hdw]
  | lo, y :: l => by
    have := jv B x (lo + y.length) l
    simp only [hdw, List.cons_append, List.flatten_cons, List.length_append]
    rw [← this, Nat.add_assoc]
theorem nI {F O : Nat → Prop} {w : World} (b : List UInt8) (n : Int) (bJ : Option Addr) (fF : Nat) (bK : Nat) (jX : Ro F w bJ (e8.all b)) (fG : b.length = fF) (iq : fF ≤ bK) (k : Cx F O w w []) (r : (List (List UInt8) × Int)) (hm : dA b n = some r) :
    Calls Try.prog 5 (vals [sl bJ fF bK, I n]) w (fun e w' => ∃ A n1 c hd, r.1.length = n1 ∧ e = .returned (SV.val (.mg [sl A n1 c, I r.2])) ∧ Cx F O w w' [OC A n1 c hd r.1 0]) := by
 unfold dA at hm
 subst fG
 refine calls [sl bJ b.length bK, I n] Try.func5 rfl (of_decide_eq_true (by kernel_rfl)) ?_
 refine af <| aU [] .a qe (by kernel_rfl) ?_
 refine ae <| af <| af <| aU [] (.n 9 (.b (decide (n < 1))) .a) qe (by kernel_rfl) ?_
 refine ae <| aC (n < 1) (by kernel_rfl) (fun hc => ?_) (fun hc => ?_)
 · rw [if_pos hc] at hm
   refine af <| aU [] (.n 4 (sl none 0 0) (.n 5 (I 1) .z)) qe (by kernel_rfl) ?_
   refine ae <| aO (aY ?_)
   have k_ : Cx F O w w [Ow eH none 0 0 [], Ow e8 none 0 0 []] := (k.nil eH).nil e8
   have fM := OC.of (l := []) (B := none) k_ rfl
   obtain rfl := Option.some.inj hm
   refine aQ [sl none 0 0, I 1] qe (by kernel_rfl) ?_
   exact ⟨none, 0, 0, _, rfl, rfl, fM⟩
 rw [if_neg hc] at hm
 have fM := k.nil e8
 refine aG <| ae <| af <| bD <| dJ 1 [] (.n 10 (sl bJ b.length bK) .a) qe (by kernel_rfl) ?_
 refine aK ?_
 obtain ⟨b1, o6, hm⟩ := ob hm
 obtain ⟨hz, hl⟩ := bU o6
 rw [List.nil_append] at hl
 rw [hl] at hm
 refine bM (E := e8) (v := sl bJ b.length bK) (ys := b) sH [] 11 0 (by kernel_rfl) fM rfl (Src.sl (jX.cx fM) rfl (by rfl)) rfl (by have := hz; simp only [List.length_nil] at this; omega) ?_
 intro B bc sZ pz
 rw [List.nil_append, Nat.zero_add] at pz
 have hbc : b.length ≤ bc := pz.vg 0 rfl
 refine dJ 1 [] (.n 6 (sl B b.length bc) (.ss .a)) qe (by rw [Nat.zero_add]; kernel_rfl) ?_
 refine aH <| ae <| af <| aU [] (.n 7 (sl none 0 0) .a) qe (by kernel_rfl) ?_
 refine ae <| af <| ak ?_
 have kZ : Cx F O w sZ [Ow e8 B b.length bc b, Ow eH none 0 0 []] := pz.nil eH
 refine jG (aN n) (fun s L wr => ∃ (ps : List (List UInt8)) (own : List UInt8) (A0 : Option Addr) (c0 : Nat) (lo : Nat), (ps, own) = s ∧ L = [(0, sl bJ b.length bK), (1, I n), (6, sl (fa B lo) own.length (bc - lo)), (7, sl A0 ps.length c0)] ∧ (ps.flatten ++ own = b ∧ ps.flatten.length = lo) ∧ Cx F O w wr [Ow e8 B b.length bc b, Ow eH A0 ps.length c0 (hdw B 0 ps)]) (([] : List (List UInt8)), b) r hm ⟨[], b, none, 0, 0, rfl, by rw [fa0, Nat.sub_zero], ⟨rfl, rfl⟩, kZ⟩ (by kernel_rfl) ?_
 intro uD L_ w_ y0 hrel hstep hr0
 obtain ⟨ps, own, A0, c0, lo, rfl, rfl, ⟨hfl, hlo⟩, jY⟩ := hrel
 have hm := hstep; simp only [aN] at hm
 clear hstep
 have hsum : lo + own.length = b.length := by rw [← hfl, List.length_append, hlo]
 refine af <| af <| aU [] (.n 15 (.b (decide (n < ((own.length : Nat) : Int)))) .a) qe (by kernel_rfl) ?_
 refine ae <| aC (n < ((own.length : Nat) : Int)) (by kernel_rfl) (fun hc1 => ?_) (fun hc1 => ?_)
 · rw [if_pos hc1] at hm
   obtain ⟨a, yV, hm⟩ := ob hm
   have hs := jo yV
   have hal := nX yV
   have hN : a.length = Int.toNat n := by rw [hal]; simp
   refine aG <| ae <| ak <| af <| bD ?_
   refine dJ 5 [] (.n 16 (sl A0 ps.length c0) (.n 20 (sl (fa B lo) a.length a.length) .a)) (qp (0 ≤ n ∧ n ≤ (((bc - lo : Nat) : Nat) : Int)) (by omega) <| qp (0 ≤ n ∧ n ≤ ((Int.toNat n : Nat) : Int)) (by omega) <| qo (.v (.slice (fa B lo) a.length a.length)) <| qp (Value.slice (rH (fa B lo) 0 (Int.toNat n) 1) (Int.toNat n - 0) (Int.toNat n - 0) = .slice (fa B lo) a.length a.length) (by rw [lS, hN]; rfl) <| qe) (by kernel_rfl) ?_
   refine aK <| ik iU eH [] 21 ([(fa B lo, a.length, a.length)] : List Hd) [(0, sl (fa B lo) a.length a.length)] [sl (fa B lo) a.length a.length] (by kernel_rfl) (by kernel_rfl) (by kernel_rfl) jY ?_
   intro A1 vW iQ
   refine aK ?_
   obtain ⟨ps1, qO, hm⟩ := ob hm
   obtain ⟨hz1, hl1⟩ := bU qO
   refine bM (E := eH) (v := sl A1 1 1) (ys := ([(fa B lo, a.length, a.length)] : List Hd)) iU [] 22 1 (by kernel_rfl) iQ rfl (Src.sl (iQ.rd 2 rfl) (iQ.len 2 rfl) (by rfl)) (iQ.len 2 rfl) (by simp only [List.length_cons, List.length_nil] at hz1; omega) ?_
   intro A2 c1 uF oh
   have pF : Cx F O w uF [Ow e8 B b.length bc b, Ow eH A2 (ps.length + 1) c1 (hdw B 0 ps ++ [(fa B lo, a.length, a.length)])] := oh.jU (.kk .z)
   have hsn := jv B a 0 ps
   rw [Nat.zero_add, hlo] at hsn
   rw [hsn, ← hl1] at pF
   obtain ⟨lW, qP, hm⟩ := ob hm
   have hs1 := jo qP
   have hol := nX qP
   simp only [Int.toNat_natCast] at hol
   refine dJ 1 [] (.n 7 (sl A2 (ps.length + 1) c1) (.oV (.s (.vN .z)))) qe (by kernel_rfl) ?_
   refine aH <| ae ?_
   refine aU [] (.n 6 (sl (fa B (lo + a.length)) lW.length (bc - (lo + a.length))) (.vN .z)) (qp (0 ≤ n ∧ n ≤ ((own.length : Nat) : Int)) (by omega) <| qo (.v (.slice (fa B (lo + a.length)) lW.length (bc - (lo + a.length)))) <| qp (Value.slice (rH (fa B lo) (Int.toNat n) (bc - lo) 1) (own.length - Int.toNat n) (bc - lo - Int.toNat n) = .slice (fa B (lo + a.length)) lW.length (bc - (lo + a.length))) (by
     rw [uC B lo (Int.toNat n) (bc - lo) (by omega), hN, hol]
     congr 1
     omega) <| qe) (by kernel_rfl) ?_
   refine fC ?_
   have hlen1 : ps1.length = ps.length + 1 := by rw [hl1, List.length_append]; rfl
   have hown : a ++ lW = own := by
     rw [hs.2.2.2, hs1.2.2.2]
     simp only [Int.toNat_natCast, List.take_length, Int.toNat_zero, List.drop_zero]
     exact List.take_append_drop _ _
   refine gp (ps1, lW) (Option.some.inj hm).symm ⟨ps1, lW, A2, c1, lo + a.length, rfl, rfl, ⟨?_, ?_⟩, ?_⟩ (by rw [hlen1]; kernel_rfl)
   · rw [hl1, List.flatten_append, List.flatten_singleton, List.append_assoc, hown, hfl]
   · rw [hl1, List.flatten_append, List.flatten_singleton, List.length_append, hlo]
   · rw [hlen1]; exact pF
 rw [if_neg hc1] at hm
 refine dH (bz (bz (f_ ?_)))
 have hm := aS hm hr0
 refine ae <| af <| af <| aU [] (.n 28 (.b (decide (0 < ((own.length : Nat) : Int)))) .a) qe (by kernel_rfl) ?_
 refine ae <| aC (0 < ((own.length : Nat) : Int)) (by kernel_rfl) (fun hc2 => ?_) (fun hc2 => ?_)
 · rw [if_pos hc2] at hm
   obtain ⟨ps1, qO, hm⟩ := ob hm
   obtain ⟨hz1, hl1⟩ := bU qO
   refine bD ?_
   refine dJ 7 [] (.n 29 (sl A0 ps.length c0) (.n 35 (sl (fa B lo) own.length own.length) .z)) (qp (0 ≤ ((own.length : Nat) : Int) ∧ ((own.length : Nat) : Int) ≤ (((bc - lo : Nat) : Nat) : Int)) (by omega) <| qp (0 ≤ ((own.length : Nat) : Int) ∧ ((own.length : Nat) : Int) ≤ ((Int.toNat ((own.length : Nat) : Int) : Nat) : Int)) (by omega) <| qo (.v (.slice (fa B lo) own.length own.length)) <| qp (Value.slice (rH (fa B lo) 0 (Int.toNat ((own.length : Nat) : Int)) 1) (Int.toNat ((own.length : Nat) : Int) - 0) (Int.toNat ((own.length : Nat) : Int) - 0) = .slice (fa B lo) own.length own.length) (by rw [lS]; rfl) <| qe) (by kernel_rfl) ?_
   refine aK <| ik iU eH [] 36 ([(fa B lo, own.length, own.length)] : List Hd) [(0, sl (fa B lo) own.length own.length)] [sl (fa B lo) own.length own.length] (by kernel_rfl) (by kernel_rfl) (by kernel_rfl) jY ?_
   intro A1 vW iQ
   refine aK ?_
   refine bM (E := eH) (v := sl A1 1 1) (ys := ([(fa B lo, own.length, own.length)] : List Hd)) iU [] 37 1 (by kernel_rfl) iQ rfl (Src.sl (iQ.rd 2 rfl) (iQ.len 2 rfl) (by rfl)) (iQ.len 2 rfl) (by simp only [List.length_cons, List.length_nil] at hz1; omega) ?_
   intro A2 c1 uF oh
   have pF : Cx F O w uF [Ow e8 B b.length bc b, Ow eH A2 (ps.length + 1) c1 (hdw B 0 ps ++ [(fa B lo, own.length, own.length)])] := oh.jU (.kk .z)
   have hsn := jv B own 0 ps
   rw [Nat.zero_add, hlo] at hsn
   rw [hsn, ← hl1] at pF
   refine dJ 1 [] (.n 7 (sl A2 (ps.length + 1) c1) .z) qe (by kernel_rfl) ?_
   refine aH <| ae <| af <| aU [] (.n 4 (sl A2 (ps.length + 1) c1) (.n 5 (I 0) .z)) qe (by kernel_rfl) ?_
   refine ae <| aO ?_
   obtain rfl := Option.some.inj hm
   refine aQ [sl A2 (ps.length + 1) c1, I 0] qe (by kernel_rfl) ?_
   have hlen1 : ps1.length = ps.length + 1 := by rw [hl1, List.length_append]; rfl
   exact ⟨A2, ps.length + 1, c1, _, hlen1, rfl, OC.of pF.vU (by rw [hl1, List.flatten_append, List.flatten_singleton, hfl])⟩
 rw [if_neg hc2] at hm
 refine aG <| ae <| af <| aU [] (.n 4 (sl A0 ps.length c0) (.n 5 (I 0) .z)) qe (by kernel_rfl) ?_
 refine ae <| aO ?_
 obtain rfl := Option.some.inj hm
 refine aQ [sl A0 ps.length c0, I 0] qe (by kernel_rfl) ?_
 have hown : own = [] := List.length_eq_zero_iff.1 (by omega)
 exact ⟨A0, ps.length, c0, _, rfl, rfl, OC.of jY.vU (by rw [← hfl, hown, List.append_nil])⟩
end Go.Sx
namespace Go.Sx
open Go.RowKit Go.Proofs
set_option linter.unusedVariables false
set_option linter.unusedSimpArgs false
set_option maxRecDepth 20000
theorem uG : ig Try.prog 4 := ⟨⟨Try.f4, _, Try.func4, rfl, by kernel_rfl⟩⟩
theorem uH : ig Try.prog 5 := ⟨⟨Try.f5, _, Try.func5, rfl, by kernel_rfl⟩⟩
theorem uI : ig Try.prog 6 := ⟨⟨Try.f6, _, Try.func6, rfl, by kernel_rfl⟩⟩
theorem nJ : ig Try.prog 7 := ⟨⟨Try.f7, _, Try.func7, rfl, by kernel_rfl⟩⟩
theorem uJ : ig Try.prog 8 := ⟨⟨Try.f8, _, Try.func8, rfl, by kernel_rfl⟩⟩
theorem uK : ig Try.prog 9 := ⟨⟨Try.f9, _, Try.func9, rfl, by kernel_rfl⟩⟩
theorem sJ : ig Try.prog 10 := ⟨⟨Try.f10, _, Try.func10, rfl, by kernel_rfl⟩⟩
theorem sK : ig Try.prog 11 := ⟨⟨Try.f11, _, Try.func11, rfl, by kernel_rfl⟩⟩
theorem sN : ig Try.prog 12 := ⟨⟨Try.f12, _, Try.func12, rfl, by kernel_rfl⟩⟩
theorem sO : ig Try.prog 13 := ⟨⟨Try.f13, _, Try.func13, rfl, by kernel_rfl⟩⟩
theorem sQ : ig Try.prog 14 := ⟨⟨Try.f14, _, Try.func14, rfl, by kernel_rfl⟩⟩
theorem bG : TF Try.prog 22 5 [.int .u8 0] 1 := ⟨by kernel_rfl, by kernel_rfl, by decide, by decide⟩
theorem oq : TF Try.prog 24 22 [.slice none 0 0] 24 := ⟨by kernel_rfl, by kernel_rfl, by decide, by decide⟩
theorem dR : Try.prog.follows .mixedOrders = true := by kernel_rfl
noncomputable def df (b : List UInt8) : Option (List UInt8) :=
  (app ([] : List UInt8) b 1).bind fun b1 => some b1
theorem lg {F O : Nat → Prop} {w : World} (b : List UInt8) (bJ : Option Addr) (fF : Nat) (bK : Nat) (jX : Ro F w bJ (e8.all b)) (fG : b.length = fF) (iq : fF ≤ bK) (k : Cx F O w w []) (r : (List UInt8)) (hm : df b = some r) :
    Calls Try.prog 4 (vals [sl bJ fF bK]) w (fun e w' => ∃ A n c, r.length = n ∧ e = .returned (SV.val (sl A n c)) ∧ Cx F O w w' [Ow e8 A n c r]) := by
 unfold df at hm
 subst fG
 refine calls [sl bJ b.length bK] Try.func4 rfl (of_decide_eq_true (by kernel_rfl)) ?_
 refine af <| aU [] .a qe (by kernel_rfl) ?_
 refine ae <| af <| bD <| aK <| ik bG e8 [] 3 ([] : List UInt8) [] [] (by kernel_rfl) (by kernel_rfl) (by kernel_rfl) k ?_
 intro A0 w_ k_
 refine dJ 1 [] (.n 4 (sl bJ b.length bK) (.k .z)) qe (by kernel_rfl) ?_
 refine aK ?_
 obtain ⟨b1, o6, hm⟩ := ob hm
 obtain ⟨hz, hl⟩ := bU o6
 refine bM (E := e8) (v := sl bJ b.length bK) (ys := b) bG [] 5 0 (by kernel_rfl) k_ rfl (Src.sl (jX.cx k_) rfl (by rfl)) rfl (by have := k_.len 0 rfl; have := hm; omega) ?_
 intro A1 c0 sZ fM
 rw [← hl] at fM
 refine dJ 1 [] (.n 2 (sl A1 (0 + b.length) c0) .z) qe (by kernel_rfl) ?_
 refine aH <| ae <| aO ?_
 obtain rfl := Option.some.inj hm
 refine aQ [sl A1 (0 + b.length) c0] qe (by kernel_rfl) ?_
 exact ⟨A1, 0 + b.length, c0, fM.len 0 rfl, rfl, fM⟩
noncomputable def bH (i : Int) (l1 : List (List UInt8)) (piece1 : List UInt8) : Option ((List (List UInt8) × List UInt8 × Int) ⊕ (List (List UInt8) × Int)) :=
  some (.inl (l1, piece1, bf (i + 1)))
noncomputable def aT (b : List UInt8) (n : Int) : (List (List UInt8) × List UInt8 × Int) → Option ((List (List UInt8) × List UInt8 × Int) ⊕ (List (List UInt8) × Int))
  | (l, piece, i) => if i < ((b.length : Nat) : Int) then ((ai b i).bind fun bP => (app piece ([bP] : List UInt8) 1).bind fun piece2 => if ((decide (((piece.length + 1 : Nat) : Int) = n)) || (decide (i = (bf (((b.length : Nat) : Int) - 1))))) = true then ((app l ([piece2] : List (List UInt8)) 24).bind fun l2 => bH i l2 ([] : List UInt8)) else (bH i l piece2)) else (Option.map Sum.inr (some (l, (0 : Int))))
noncomputable def dS (b : List UInt8) (n : Int) : Option (List (List UInt8) × Int) :=
  if n < 1 then (some (([] : List (List UInt8)), (1 : Int))) else (ah (aT b n) (([] : List (List UInt8)), ([] : List UInt8), (0 : Int)))
theorem o7 {F O : Nat → Prop} {w : World} (b : List UInt8) (n : Int) (bJ : Option Addr) (fF : Nat) (bK : Nat) (jX : Ro F w bJ (e8.all b)) (fG : b.length = fF) (iq : fF ≤ bK) (k : Cx F O w w []) (r : (List (List UInt8) × Int)) (hm : dS b n = some r) :
    Calls Try.prog 6 (vals [sl bJ fF bK, I n]) w (fun e w' => ∃ A n1 c hd, r.1.length = n1 ∧ e = .returned (SV.val (.mg [sl A n1 c, I r.2])) ∧ Cx F O w w' [O2 e8 A n1 c hd r.1]) := by
 unfold dS at hm
 subst fG
 refine calls [sl bJ b.length bK, I n] Try.func6 rfl (of_decide_eq_true (by kernel_rfl)) ?_
 refine af <| aU [] .a qe (by kernel_rfl) ?_
 refine ae <| af <| aU [] (.n 6 (sl none 0 0) .a) qe (by kernel_rfl) ?_
 refine ae <| af <| af <| aU [] (.n 10 (.b (decide (n < 1))) .a) qe (by kernel_rfl) ?_
 refine ae <| aC (n < 1) (by kernel_rfl) (fun hc => ?_) (fun hc => ?_)
 · rw [if_pos hc] at hm
   refine af <| aU [] (.n 4 (sl none 0 0) (.n 5 (I 1) .z)) qe (by kernel_rfl) ?_
   refine ae <| aO (aY ?_)
   have k_ := k.vT e8
   obtain rfl := Option.some.inj hm
   refine aQ [sl none 0 0, I 1] qe (by kernel_rfl) ?_
   exact ⟨none, 0, 0, ([] : List Hd), k_.jr 0 rfl, rfl, k_⟩
 rw [if_neg hc] at hm
 refine aG <| ae <| af <| aU [] (.n 7 (sl none 0 0) (.s .a)) qe (by kernel_rfl) ?_
 refine ae <| af <| af <| aU [] (.n 8 (I 0) .a) qe (by kernel_rfl) ?_
 refine ae <| ak ?_
 have pz := k.vT e8
 have kZ := pz.nil e8
 refine jG (aT b n) (fun s L wr => ∃ (l : List (List UInt8)) (piece : List UInt8) (i : Int) (A0 : Option Addr) (n2 : Nat) (c0 : Nat) (hd0 : List Hd) (A1 : Option Addr) (n3 : Nat) (c1 : Nat), (l, piece, i) = s ∧ L = [(0, sl bJ b.length bK), (1, I n), (6, sl A0 n2 c0), (7, sl A1 n3 c1), (8, I i)] ∧ l.length = n2 ∧ piece.length = n3 ∧ Cx F O w wr [O2 e8 A0 n2 c0 hd0 l, Ow e8 A1 n3 c1 piece]) (([] : List (List UInt8)), ([] : List UInt8), (0 : Int)) r hm ⟨([] : List (List UInt8)), ([] : List UInt8), (0 : Int), none, 0, 0, ([] : List Hd), none, 0, 0, rfl, rfl, kZ.jr 0 rfl, kZ.len 1 rfl, kZ⟩ (by kernel_rfl) ?_
 intro uD L_ w_ y0 hrel hstep hr0
 obtain ⟨l, piece, i, A0, _, c0, hd0, A1, _, c1, rfl, rfl, rfl, rfl, fM⟩ := hrel
 have hm := hstep; simp only [aT] at hm
 clear hstep
 refine af <| af <| aU [] (.n 14 (.b (decide (i < ((b.length : Nat) : Int)))) .a) qe (by kernel_rfl) ?_
 refine ae <| aC (i < ((b.length : Nat) : Int)) (by kernel_rfl) (fun hc1 => ?_) (fun hc1 => ?_)
 · rw [if_pos hc1] at hm
   refine aG <| ae <| vH (fun L wr => ∃ (l1 : List (List UInt8)) (piece1 : List UInt8) (A2 : Option Addr) (n4 : Nat) (c2 : Nat) (hd1 : List Hd) (A3 : Option Addr) (n5 : Nat) (c3 : Nat), bH i l1 piece1 = some y0 ∧ L = [(0, sl bJ b.length bK), (1, I n), (6, sl A2 n4 c2), (7, sl A3 n5 c3), (8, I i)] ∧ l1.length = n4 ∧ piece1.length = n5 ∧ Cx F O w wr [O2 e8 A2 n4 c2 hd1 l1, Ow e8 A3 n5 c3 piece1]) ?_ ?_
   ·
    refine ak <| af <| bD ?_
    obtain ⟨bP, lX, hm⟩ := ob hm
    refine dJ 5 [] (.n 17 (sl A1 piece.length c1) (.n 21 (.u8 bP) (.s .a))) (qW (jX.cx fM) lX rfl (.u8 bP) rfl <| qe) (by kernel_rfl) ?_
    refine aK <| ik bG e8 [] 22 ([bP] : List UInt8) [(0, .u8 bP)] [.u8 bP] (by kernel_rfl) (by kernel_rfl) (by kernel_rfl) fM ?_
    intro A4 sZ jY
    refine aK ?_
    obtain ⟨piece2, qQ, hm⟩ := ob hm
    obtain ⟨hz, hl⟩ := bU qQ
    refine bM (E := e8) (v := sl A4 1 1) (ys := ([bP] : List UInt8)) bG [] 23 1 (by kernel_rfl) jY rfl (Src.sl (jY.rd 2 rfl) (jY.len 2 rfl) (by rfl)) (jY.len 2 rfl) (by have := jY.len 1 rfl; have := (jY.len 2 rfl); omega) ?_
    intro A5 c4 vW iQ
    rw [← hl] at iQ
    have oh := iQ.jU (.kk .z)
    refine dJ 1 [] (.n 7 (sl A5 (piece.length + 1) c4) (.oV (.vN (.s .a)))) qe (by kernel_rfl) ?_
    refine aH <| ae <| af <| aU [] (.n 34 (.b ((decide (((piece.length + 1 : Nat) : Int) = n)) || (decide (i = (bf (((b.length : Nat) : Int) - 1)))))) .a) qe (by kernel_rfl) ?_
    refine ae <| iD ((decide (((piece.length + 1 : Nat) : Int) = n)) || (decide (i = (bf (((b.length : Nat) : Int) - 1))))) (by kernel_rfl) (fun hc2 => ?_) (fun hc2 => ?_)
    · rw [if_pos hc2] at hm
      refine af <| bD <| dJ 2 [] (.n 35 (sl A0 l.length c0) (.n 36 (sl A5 (piece.length + 1) c4) (.ss .a))) qe (by kernel_rfl) ?_
      refine aK ?_
      have pF := (oh.pk .h).pk (.t .h)
      refine uw (rest := [O2 e8 A0 l.length c0 hd0 l]) oq e8 [] 37 ([(A5, piece.length + 1, c4)] : List Hd) ([piece2] : List (List UInt8)) [(0, sl A5 (piece.length + 1) c4)] [sl A5 (piece.length + 1) c4] (by kernel_rfl) (by kernel_rfl) (by kernel_rfl) rfl pF ?_
      intro A6 uF vk
      refine aK ?_
      have uM := (vk.pk .h).pk (.t .h)
      obtain ⟨l2, xZ, hm⟩ := ob hm
      obtain ⟨hz1, hl1⟩ := bU xZ
      refine nC oq [] 38 (by kernel_rfl) uM (by have := uM.jr 0 rfl; have := uM.jr 1 rfl; omega) ?_
      intro A7 c5 yX qR
      rw [← hl1] at qR
      refine dJ 1 [] (.n 6 (sl A7 (l.length + 1) c5) (.oV (.kk (.s .a)))) qe (by kernel_rfl) ?_
      refine aH <| ae <| aU [] (.n 7 (sl none 0 0) .a) qe (by kernel_rfl) ?_
      refine fC ?_
      have iR := qR.nil e8
      exact vO ⟨l2, ([] : List UInt8), A7, l.length + 1, c5, hd0 ++ ([(A5, piece.length + 1, c4)] : List Hd), none, 0, 0, hm, rfl, iR.jr 0 rfl, iR.len 1 rfl, iR⟩ (by kernel_rfl)
    rw [if_neg (by rw [hc2]; decide)] at hm
    refine aG <| fC ?_
    exact vO ⟨l, piece2, A0, l.length, c0, hd0, A5, piece.length + 1, c4, hm, rfl, oh.jr 0 rfl, oh.len 1 rfl, oh⟩ (by kernel_rfl)
   rintro L_ zh ⟨l1, piece1, A2, _, c2, hd1, A3, _, c3, hm, rfl, rfl, rfl, qU⟩
   simp only [bH] at hm
   refine aU [] (.n 8 (I (bf (i + 1))) (.iO .z)) qe (by kernel_rfl) ?_
   exact gp (l1, piece1, bf (i + 1)) (Option.some.inj hm).symm ⟨l1, piece1, bf (i + 1), A2, l1.length, c2, hd1, A3, piece1.length, c3, rfl, rfl, qU.jr 0 rfl, qU.len 1 rfl, qU⟩ (by kernel_rfl)
 rw [if_neg hc1] at hm
 refine dH (bz (bz (f_ ?_)))
 have hm := aS hm hr0
 refine ae <| af <| aU [] (.n 4 (sl A0 l.length c0) (.n 5 (I 0) .z)) qe (by kernel_rfl) ?_
 refine ae <| aO ?_
 obtain rfl := Option.some.inj hm
 refine aQ [sl A0 l.length c0, I 0] qe (by kernel_rfl) ?_
 have o8 := fM.jU (.k .z)
 exact ⟨A0, l.length, c0, hd0, o8.jr 0 rfl, rfl, o8⟩
theorem nK {F O : Nat → Prop} {w : World} (a_ : List UInt8) (b : List UInt8) (lh : Option Addr) (nM : Nat) (lq : Nat) (bJ : Option Addr) (fF : Nat) (bK : Nat) (uN : Ro F w lh (e8.all a_)) (qV : a_.length = nM) (tq : nM ≤ lq) (jX : Ro F w bJ (e8.all b)) (fG : b.length = fF) (iq : fF ≤ bK) (k : Cx F O w w []) (r : Bool) (hm : dw a_ b = some r) :
    Calls Try.prog 9 (vals [sl lh nM lq, sl bJ fF bK]) w (fun e w' => e = .returned (SV.val (.b r)) ∧ Cx F O w w' []) := by
 unfold dw at hm
 subst qV
 subst fG
 refine calls [sl lh a_.length lq, sl bJ b.length bK] Try.func9 rfl (of_decide_eq_true (by kernel_rfl)) ?_
 refine af <| aU [] .a qe (by kernel_rfl) ?_
 refine ae <| af <| af <| aU [] (.n 10 (.b (decide (((a_.length : Nat) : Int) ≠ ((b.length : Nat) : Int)))) .a) qe (by kernel_rfl) ?_
 refine ae <| aC (((a_.length : Nat) : Int) ≠ ((b.length : Nat) : Int)) (by kernel_rfl) (fun hc => ?_) (fun hc => ?_)
 · rw [if_pos hc] at hm
   refine af <| aU [] (.n 4 (.b false) .z) qe (by kernel_rfl) ?_
   refine ae <| aO (aY ?_)
   obtain rfl := Option.some.inj hm
   refine aQ [.b false] qe (by kernel_rfl) ?_
   exact ⟨rfl, k⟩
 rw [if_neg hc] at hm
 refine aG <| ae <| af <| af <| aU [] (.n 5 (I 0) (.s .a)) qe (by kernel_rfl) ?_
 refine ae <| ak <| jG (bQ a_ b) (fun s L wr => ∃ (i : Int), i = s ∧ L = [(0, sl lh a_.length lq), (1, sl bJ b.length bK), (5, I i)] ∧ Cx F O w wr []) (0 : Int) r hm ⟨(0 : Int), rfl, rfl, k⟩ (by kernel_rfl) ?_
 intro uD L_ w_ y0 hrel hstep hr0
 obtain ⟨i, rfl, rfl, k_⟩ := hrel
 have hm := hstep; simp only [bQ] at hm
 clear hstep
 refine af <| af <| aU [] (.n 14 (.b (decide (i < ((a_.length : Nat) : Int)))) .a) qe (by kernel_rfl) ?_
 refine ae <| aC (i < ((a_.length : Nat) : Int)) (by kernel_rfl) (fun hc1 => ?_) (fun hc1 => ?_)
 · rw [if_pos hc1] at hm
   refine aG <| ae <| af <| ak <| af ?_
   obtain ⟨bP, lX, hm⟩ := ob hm
   obtain ⟨x_1, jZ, hm⟩ := ob hm
   refine xW dR (by kernel_rfl) (.n 25 (.b (decide (bP ≠ x_1))) (.s .a)) (fun m => qW (uN.cx (k_.drew m)) lX rfl (.u8 bP) rfl <| qW (jX.cx (k_.drew m)) jZ rfl (.u8 x_1) rfl <| qe) (by kernel_rfl) (fun m_ => ?_)
   have fM := k_.drew m_
   refine ae <| aC (bP ≠ x_1) (by kernel_rfl) (fun hc2 => ?_) (fun hc2 => ?_)
   · rw [if_pos hc2] at hm
     refine af <| aU [] (.n 4 (.b false) .z) qe (by kernel_rfl) ?_
     refine ae <| aO (fZ (aY (aY (fZ (aY ?_)))))
     have hm := aS hm hr0
     obtain rfl := Option.some.inj hm
     refine aQ [.b false] qe (by kernel_rfl) ?_
     exact ⟨rfl, fM⟩
   rw [if_neg hc2] at hm
   refine aG <| fC <| ae <| aU [] (.n 5 (I (bf (i + 1))) (.s (.kk .z))) qe (by kernel_rfl) ?_
   exact gp (bf (i + 1)) (Option.some.inj hm).symm ⟨bf (i + 1), rfl, rfl, fM⟩ (by kernel_rfl)
 rw [if_neg hc1] at hm
 refine dH (bz (bz (f_ ?_)))
 have hm := aS hm hr0
 refine ae <| af <| aU [] (.n 4 (.b true) .z) qe (by kernel_rfl) ?_
 refine ae <| aO ?_
 obtain rfl := Option.some.inj hm
 refine aQ [.b true] qe (by kernel_rfl) ?_
 exact ⟨rfl, k_⟩
noncomputable def bu (a_ : List UInt8) (b : List UInt8) : Option Bool :=
  (dw a_ b).bind fun r_ => some r_
theorem gK {F O : Nat → Prop} {w : World} (a_ : List UInt8) (b : List UInt8) (lh : Option Addr) (nM : Nat) (lq : Nat) (bJ : Option Addr) (fF : Nat) (bK : Nat) (uN : Ro F w lh (e8.all a_)) (qV : a_.length = nM) (tq : nM ≤ lq) (jX : Ro F w bJ (e8.all b)) (fG : b.length = fF) (iq : fF ≤ bK) (k : Cx F O w w []) (r : Bool) (hm : bu a_ b = some r) :
    Calls Try.prog 7 (vals [sl lh nM lq, sl bJ fF bK]) w (fun e w' => e = .returned (SV.val (.b r)) ∧ Cx F O w w' []) := by
 unfold bu at hm
 subst qV
 subst fG
 refine calls [sl lh a_.length lq, sl bJ b.length bK] Try.func7 rfl (of_decide_eq_true (by kernel_rfl)) ?_
 refine af <| aU [] .a qe (by kernel_rfl) ?_
 refine ae <| af <| bD <| dJ 2 [] (.n 5 (sl lh a_.length lq) (.n 6 (sl bJ b.length bK) .z)) qe (by kernel_rfl) ?_
 refine aK ?_
 obtain ⟨r_, lu, hm⟩ := ob hm
 refine aX [] 7 _ uK (by kernel_rfl) (nK (F := N0) (O := N0) _ _ _ _ _ _ _ _ (Ro.n0 (uN.cx k)) rfl tq (Ro.n0 (jX.cx k)) rfl iq (Cx.refl _) _ lu) ?_
 rintro e_ w_ ⟨rfl, k_⟩
 have fM := k.call k_
 refine ⟨.b r_, rfl, ?_⟩
 refine dJ 1 [] (.n 4 (.b r_) .z) qe (by kernel_rfl) ?_
 refine aH <| ae <| aO ?_
 obtain rfl := Option.some.inj hm
 refine aQ [.b r_] qe (by kernel_rfl) ?_
 exact ⟨rfl, fM⟩
theorem lY {F O : Nat → Prop} {w : World} (b : List UInt8) (at_ : Int) (n : Int) (bJ : Option Addr) (fF : Nat) (bK : Nat) (jX : Ro F w bJ (e8.all b)) (fG : b.length = fF) (iq : fF ≤ bK) (k : Cx F O w w []) (r : (UInt64 × Int)) (hm : bW b at_ n = some r) :
    Calls Try.prog 13 (vals [sl bJ fF bK, I at_, I n]) w (fun e w' => e = .returned (SV.val (.mg [.u64 r.1, I r.2])) ∧ Cx F O w w' []) := by
 unfold bW at hm
 subst fG
 refine calls [sl bJ b.length bK, I at_, I n] Try.func13 rfl (of_decide_eq_true (by kernel_rfl)) ?_
 refine af <| aU [] .a qe (by kernel_rfl) ?_
 refine ae <| af <| af <| aU [] (.n 11 (.b (decide (at_ < 0))) .a) qe (by kernel_rfl) ?_
 refine ae <| aC (at_ < 0) (by kernel_rfl) (fun hc => ?_) (fun hc => ?_)
 · rw [if_pos hc] at hm
   refine af <| aU [] (.n 6 (.u64 0) (.n 7 (I 1) .z)) qe (by kernel_rfl) ?_
   refine ae <| aO (aY ?_)
   obtain rfl := Option.some.inj hm
   refine aQ [.u64 0, I 1] qe (by kernel_rfl) ?_
   exact ⟨rfl, k⟩
 rw [if_neg hc] at hm
 refine aG <| ae <| af <| af <| aU [] (.n 23 (.b ((decide (((b.length : Nat) : Int) < at_)) || (decide ((bf (((b.length : Nat) : Int) - at_)) < n)))) (.s .a)) qe (by kernel_rfl) ?_
 refine ae <| iD ((decide (((b.length : Nat) : Int) < at_)) || (decide ((bf (((b.length : Nat) : Int) - at_)) < n))) (by kernel_rfl) (fun hc1 => ?_) (fun hc1 => ?_)
 · rw [if_pos hc1] at hm
   refine af <| aU [] (.n 6 (.u64 0) (.n 7 (I 3) .z)) qe (by kernel_rfl) ?_
   refine ae <| aO (aY ?_)
   obtain rfl := Option.some.inj hm
   refine aQ [.u64 0, I 3] qe (by kernel_rfl) ?_
   exact ⟨rfl, k⟩
 rw [if_neg (by rw [hc1]; decide)] at hm
 refine aG <| ae <| af <| aU [] (.n 8 (.u64 0) (.s .a)) qe (by kernel_rfl) ?_
 refine ae <| af <| af <| aU [] (.n 24 (I n) (.n 25 (I 0) (.vN .z))) qe (by kernel_rfl) ?_
 refine ae <| ak <| jG (dn b at_ n) (fun s L wr => ∃ (w_ : UInt64) (bP : Int), (w_, bP) = s ∧ L = [(0, sl bJ b.length bK), (1, I at_), (8, .u64 w_), (24, I n), (25, I bP)] ∧ Cx F O w wr []) ((0 : UInt64), (0 : Int)) r hm ⟨(0 : UInt64), (0 : Int), rfl, rfl, k⟩ (by kernel_rfl) ?_
 intro uD L_ sZ y0 hrel hstep hr0
 obtain ⟨w_, bP, rfl, rfl, k_⟩ := hrel
 have hm := hstep; simp only [dn] at hm
 clear hstep
 refine af <| aU [] (.n 26 (.b (decide (bP < n))) .a) qe (by kernel_rfl) ?_
 refine ae <| af <| aC (bP < n) (by kernel_rfl) (fun hc2 => ?_) (fun hc2 => ?_)
 · rw [if_pos hc2] at hm
   refine aG <| ae <| af <| ak <| af <| aU [] (.n 9 (I bP) (.s .a)) qe (by kernel_rfl) ?_
   refine ae ?_
   obtain ⟨pq, qY, hm⟩ := ob hm
   obtain ⟨u, vX, hm⟩ := ob hm
   refine aU [] (.n 8 (.u64 (w_ ||| (fV (UInt64.ofNat pq.toNat) (Int.toNat (bf (8 * bP)))))) (.s (.kk (.s .a)))) (qW (jX.cx k_) qY rfl (.u8 pq) rfl <| qp (0 ≤ bf (8 * bP)) (fJ vX) <| qe) (by kernel_rfl) ?_
   refine fC <| ae <| aU [] (.n 25 (I (bf (bP + 1))) (.iO .z)) qe (by kernel_rfl) ?_
   exact gp (w_ ||| (fV (UInt64.ofNat pq.toNat) (Int.toNat (bf (8 * bP)))), bf (bP + 1)) (Option.some.inj hm).symm ⟨w_ ||| (fV (UInt64.ofNat pq.toNat) (Int.toNat (bf (8 * bP)))), bf (bP + 1), rfl, rfl, k_⟩ (by kernel_rfl)
 rw [if_neg hc2] at hm
 refine dH (bz (bz (f_ ?_)))
 have hm := aS hm hr0
 refine ae <| af <| aU [] (.n 6 (.u64 w_) (.n 7 (I 0) .z)) qe (by kernel_rfl) ?_
 refine ae <| aO ?_
 obtain rfl := Option.some.inj hm
 refine aQ [.u64 w_, I 0] qe (by kernel_rfl) ?_
 exact ⟨rfl, k_⟩
theorem jH {F O : Nat → Prop} {w : World} (b : List UInt8) (at_ : Int) (bJ : Option Addr) (fF : Nat) (bK : Nat) (jX : Ro F w bJ (e8.all b)) (fG : b.length = fF) (iq : fF ≤ bK) (k : Cx F O w w []) (r : (UInt32 × Int)) (hm : bg b at_ = some r) :
    Calls Try.prog 10 (vals [sl bJ fF bK, I at_]) w (fun e w' => e = .returned (SV.val (.mg [.u32 r.1, I r.2])) ∧ Cx F O w w' []) := by
 unfold bg at hm
 subst fG
 refine calls [sl bJ b.length bK, I at_] Try.func10 rfl (of_decide_eq_true (by kernel_rfl)) ?_
 refine af <| aU [] .a qe (by kernel_rfl) ?_
 refine ae <| af <| bD <| dJ 2 [] (.n 9 (sl bJ b.length bK) (.n 10 (I at_) .z)) qe (by kernel_rfl) ?_
 refine aK ?_
 obtain ⟨r_, lu, hm⟩ := ob hm
 refine aX [] 11 _ sO (by kernel_rfl) (lY (F := N0) (O := N0) _ _ _ _ _ _ (Ro.n0 (jX.cx k)) rfl iq (Cx.refl _) _ lu) ?_
 rintro e_ w_ ⟨rfl, k_⟩
 have fM := k.call k_
 refine ⟨.mg [.u64 r_.1, I r_.2], rfl, ?_⟩
 refine dJ 5 [] (.n 6 (.u64 r_.1) (.n 7 (I r_.2) .z)) qe (by kernel_rfl) ?_
 refine aH <| ae <| af <| aU [] (.n 4 (.u32 (UInt32.ofNat r_.1.toNat)) (.n 5 (I r_.2) .z)) qe (by kernel_rfl) ?_
 refine ae <| aO ?_
 obtain rfl := Option.some.inj hm
 refine aQ [.u32 (UInt32.ofNat r_.1.toNat), I r_.2] qe (by kernel_rfl) ?_
 exact ⟨rfl, fM⟩
noncomputable def dK (b : List UInt8) : (List UInt8 × Int) → Option ((List UInt8 × Int) ⊕ (List UInt8))
  | (s_, bP) => if bP < ((b.length : Nat) : Int) then ((ai b bP).bind fun x_1 => (ai ([48, 49, 50, 51, 52, 53, 54, 55, 56, 57, 97, 98, 99, 100, 101, 102] : List UInt8) ((pI x_1 ((4 : UInt64).toNat)).toNat : Int)).bind fun c1 => (ai ([48, 49, 50, 51, 52, 53, 54, 55, 56, 57, 97, 98, 99, 100, 101, 102] : List UInt8) ((x_1 &&& 15).toNat : Int)).bind fun c2 => (app s_ ([c1, c2] : List UInt8) 1).bind fun xM => some (.inl (xM, bf (bP + 1)))) else (Option.map Sum.inr (some s_))
noncomputable def dB (b : List UInt8) : Option (List UInt8) :=
  (need ((0 : Int) ≤ (0 : Int) ∧ ((0 : Int) : Int) ≤ bf (2 * ((b.length : Nat) : Int)) ∧ Int.toNat (bf (2 * ((b.length : Nat) : Int))) * 1 ≤ 140737488355328)).bind fun u => ah (dK b) (List.replicate (Int.toNat (0 : Int)) (0 : UInt8), (0 : Int))
theorem nN {F O : Nat → Prop} {w : World} (b : List UInt8) (bJ : Option Addr) (fF : Nat) (bK : Nat) (jX : Ro F w bJ (e8.all b)) (fG : b.length = fF) (iq : fF ≤ bK) (k : Cx F O w w []) (r : (List UInt8)) (hm : dB b = some r) :
    Calls Try.prog 11 (vals [sl bJ fF bK]) w (fun e w' => e = .returned (SV.val (.s r)) ∧ Cx F O w w' []) := by
 unfold dB at hm
 subst fG
 refine calls [sl bJ b.length bK] Try.func11 rfl (of_decide_eq_true (by kernel_rfl)) ?_
 refine af <| aU [] .a qe (by kernel_rfl) ?_
 refine ae <| af <| bD <| dJ 3 [] (.n 8 (I (bf (2 * ((b.length : Nat) : Int)))) .a) qe (by kernel_rfl) ?_
 refine aK ?_
 obtain ⟨u, vX, hm⟩ := ob hm
 refine rX bG e8 (0 : UInt8) rfl [] 9 (I 0) (I (bf (2 * ((b.length : Nat) : Int)))) (0 : Int) (bf (2 * ((b.length : Nat) : Int))) (by kernel_rfl) (fJ vX).1 (fJ vX).2.1 (fJ vX).2.2 k ?_
 intro A w_ k_
 refine dJ 1 [] (.n 3 (sl A (Int.toNat (0 : Int)) (Int.toNat (bf (2 * ((b.length : Nat) : Int))))) (.ss .a)) qe (by kernel_rfl) ?_
 refine aH <| ae <| af <| af <| aU [] (.n 10 (sl bJ b.length bK) (.n 11 (I ((b.length : Nat) : Int)) (.n 12 (I 0) (.k .z)))) qe (by kernel_rfl) ?_
 refine ae <| ak <| jG (dK b) (fun s L wr => ∃ (s_ : List UInt8) (bP : Int) (A1 : Option Addr) (n : Nat) (c : Nat), (s_, bP) = s ∧ L = [(3, sl A1 n c), (10, sl bJ b.length bK), (11, I ((b.length : Nat) : Int)), (12, I bP)] ∧ s_.length = n ∧ Cx F O w wr [Ow e8 A1 n c s_]) (List.replicate (Int.toNat (0 : Int)) (0 : UInt8), (0 : Int)) r hm ⟨List.replicate (Int.toNat (0 : Int)) (0 : UInt8), (0 : Int), A, Int.toNat (0 : Int), Int.toNat (bf (2 * ((b.length : Nat) : Int))), rfl, rfl, k_.len 0 rfl, k_⟩ (by kernel_rfl) ?_
 intro uD L_ sZ y0 hrel hstep hr0
 obtain ⟨s_, bP, A1, _, c, rfl, rfl, rfl, fM⟩ := hrel
 have hm := hstep; simp only [dK] at hm
 clear hstep
 refine af <| aU [] (.n 13 (.b (decide (bP < ((b.length : Nat) : Int)))) .a) qe (by kernel_rfl) ?_
 refine ae <| af <| aC (bP < ((b.length : Nat) : Int)) (by kernel_rfl) (fun hc => ?_) (fun hc => ?_)
 · rw [if_pos hc] at hm
   refine aG <| ae <| af <| ak <| af ?_
   obtain ⟨x_1, jZ, hm⟩ := ob hm
   refine aU [] (.n 5 (.u8 x_1) (.s .a)) (qW (jX.cx fM) jZ rfl (.u8 x_1) rfl <| qe) (by kernel_rfl) ?_
   refine ae ?_
   have pz := fM.drew 1
   refine xX dR (.q 0 1 (.q 1 2 (.q 2 1 (.q 3 0 (.q 4 2 (.q 5 1 (.q 6 0 (.op 7 (.op 8 (.q 9 2 .nil)))))))))) [7, 8] pz (.c (.k .e) (.c (.z) .l)) (by kernel_rfl) (fun _ => ?_)
   refine n_ 1 1 [] (.n 16 (sl A1 s_.length c) .a) (fun x hx => qe) (by kernel_rfl) (fun _ => ?_)
   refine n_ 1 2 [] (.n 17 (.u8 x_1) .a) (fun x hx => qe) (by kernel_rfl) (fun _ => ?_)
   refine n_ 1 1 [] (.n 18 (.u8 (pI x_1 ((4 : UInt64).toNat))) (.s .a)) (fun x hx => qe) (by kernel_rfl) (fun _ => ?_)
   obtain ⟨c1, x9, hm⟩ := ob hm
   refine n_ 1 0 [] (.n 19 (.u8 c1) (.s .a)) (fun x hx => qX x9 <| qe) (by kernel_rfl) (fun _ => ?_)
   refine n_ 1 2 [] (.n 20 (.u8 x_1) (.kk (.s .a))) (fun x hx => qe) (by kernel_rfl) (fun _ => ?_)
   refine n_ 1 1 [] (.n 21 (.u8 (x_1 &&& 15)) (.s .a)) (fun x hx => qe) (by kernel_rfl) (fun _ => ?_)
   obtain ⟨c2, yc, hm⟩ := ob hm
   refine n_ 1 0 [] (.n 22 (.u8 c2) (.s .a)) (fun x hx => qX yc <| qe) (by kernel_rfl) (fun _ => ?_)
   refine nZ (by kernel_rfl) rfl <| ik bG e8 [] 23 ([c1, c2] : List UInt8) [(0, .u8 c1), (1, .u8 c2)] [.u8 c1, .u8 c2] (by kernel_rfl) (by kernel_rfl) (by kernel_rfl) pz ?_
   intro A2 vW kZ
   refine ⟨(kZ.jU (.k .z)), fun _ => ?_⟩
   refine nZ (by kernel_rfl) rfl ?_
   obtain ⟨xM, vY, hm⟩ := ob hm
   obtain ⟨hz, hl⟩ := bU vY
   refine bM (E := e8) (v := sl A2 2 2) (ys := ([c1, c2] : List UInt8)) bG [] 24 0 (by kernel_rfl) kZ rfl (Src.sl (kZ.rd 1 rfl) (kZ.len 1 rfl) (by rfl)) (kZ.len 1 rfl) (by have := kZ.len 0 rfl; have := (kZ.len 1 rfl); omega) ?_
   intro A3 c3 uF jY
   rw [← hl] at jY
   have iQ := jY.jU (.k .z)
   refine ⟨(iQ.jU .z), fun _ => ?_⟩
   refine n_ 1 2 [] (.n 3 (sl A3 (s_.length + 2) c3) (.oV (.ss .a))) (fun x hx => qe) (by kernel_rfl) (fun _ => ?_)
   refine nz <| fC <| ae <| aU [] (.n 12 (I (bf (bP + 1))) (.vN .z)) qe (by kernel_rfl) ?_
   exact gp (xM, bf (bP + 1)) (Option.some.inj hm).symm ⟨xM, bf (bP + 1), A3, s_.length + 2, c3, rfl, rfl, iQ.len 0 rfl, iQ⟩ (by kernel_rfl)
 rw [if_neg hc] at hm
 refine dH (bz (bz (f_ ?_)))
 have hm := aS hm hr0
 refine ae <| af <| aU [] (.n 2 (.s s_) .z) (qo (.s s_) <| qc (fun w => Rd w A1 (s_.map bV) ∧ s_.length = s_.length) ⟨iF s_ ▸ (fM.rd 0 rfl), (fM.len 0 rfl)⟩ <| qe) (by kernel_rfl) ?_
 refine ae <| aO ?_
 obtain rfl := Option.some.inj hm
 refine aQ [.s s_] qe (by kernel_rfl) ?_
 have oh := fM.jU .z
 exact ⟨rfl, oh⟩
theorem fQ {F O : Nat → Prop} {w : World} (x_ : UInt64) (k_ : Int) (k : Cx F O w w []) (r : UInt64) (hm : aZ x_ k_ = some r) :
    Calls Try.prog 14 (vals [.u64 x_, I k_]) w (fun e w' => e = .returned (SV.val (.u64 r)) ∧ Cx F O w w' []) := by
 unfold aZ at hm
 refine calls [.u64 x_, I k_] Try.func14 rfl (of_decide_eq_true (by kernel_rfl)) ?_
 refine af <| aU [] .a qe (by kernel_rfl) ?_
 refine ae <| af <| aU [] (.n 5 (.u64 ((UInt64.ofInt k_) &&& 63)) (.k .z)) qe (by kernel_rfl) ?_
 refine ae <| af <| aU [] (.n 4 (.u64 ((fV x_ (((UInt64.ofInt k_) &&& 63).toNat)) ||| (iZ x_ (((64 : UInt64) - ((UInt64.ofInt k_) &&& 63)).toNat)))) .z) qe (by kernel_rfl) ?_
 refine ae <| aO ?_
 obtain rfl := Option.some.inj hm
 refine aQ [.u64 ((fV x_ (((UInt64.ofInt k_) &&& 63).toNat)) ||| (iZ x_ (((64 : UInt64) - ((UInt64.ofInt k_) &&& 63)).toNat)))] qe (by kernel_rfl) ?_
 exact ⟨rfl, k⟩
noncomputable def bT (w_ : UInt64) (n : Int) : Option UInt64 :=
  (aZ w_ (bf (64 - (Int.tmod (bf ((Int.tmod n 64) + 64)) 64)))).bind fun r_ => some r_
theorem jI {F O : Nat → Prop} {w : World} (w_ : UInt64) (n : Int) (k : Cx F O w w []) (r : UInt64) (hm : bT w_ n = some r) :
    Calls Try.prog 12 (vals [.u64 w_, I n]) w (fun e w' => e = .returned (SV.val (.u64 r)) ∧ Cx F O w w' []) := by
 unfold bT at hm
 refine calls [.u64 w_, I n] Try.func12 rfl (of_decide_eq_true (by kernel_rfl)) ?_
 refine af <| aU [] .a qe (by kernel_rfl) ?_
 refine ae <| af <| bD <| dJ 6 [] (.n 5 (.u64 w_) (.n 10 (I (bf (64 - (Int.tmod (bf ((Int.tmod n 64) + 64)) 64)))) .z)) (qp ((64 : Int) ≠ (0 : Int)) (by omega) <| qp ((64 : Int) ≠ (0 : Int)) (by omega) <| qe) (by kernel_rfl) ?_
 refine aK ?_
 obtain ⟨r_, lu, hm⟩ := ob hm
 refine aX [] 11 _ sQ (by kernel_rfl) (fQ (F := N0) (O := N0) _ _ (Cx.refl _) _ lu) ?_
 rintro e_ sZ ⟨rfl, k_⟩
 have fM := k.call k_
 refine ⟨.u64 r_, rfl, ?_⟩
 refine dJ 1 [] (.n 4 (.u64 r_) .z) qe (by kernel_rfl) ?_
 refine aH <| ae <| aO ?_
 obtain rfl := Option.some.inj hm
 refine aQ [.u64 r_] qe (by kernel_rfl) ?_
 exact ⟨rfl, fM⟩
noncomputable def bY  : Option Bool :=
  (bg ([(1 : UInt8), (2 : UInt8), (3 : UInt8), (4 : UInt8)] : List UInt8) (0 : Int)).bind fun r_ => if ((decide (r_.1 = 67305985)) && (decide (r_.2 = 0))) = true then ((dB ([(0 : UInt8), (255 : UInt8)] : List UInt8)).bind fun bZ => if bZ = ([48, 48, 102, 102] : List UInt8) then ((bT (1 : UInt64) (1 : Int)).bind fun dh => some (decide (dh = 9223372036854775808))) else (some false)) else (some false)
theorem lZ {F O : Nat → Prop} {w : World} (k : Cx F O w w []) (r : Bool) (hm : bY = some r) :
    Calls Try.prog 8 (vals []) w (fun e w' => e = .returned (SV.val (.b r)) ∧ Cx F O w w' []) := by
 unfold bY at hm
 refine calls [] Try.func8 rfl (of_decide_eq_true (by kernel_rfl)) ?_
 refine af <| aU [] .a qe (by kernel_rfl) ?_
 refine ae <| af <| bD <| aK <| ik bG e8 [] 4 ([(1 : UInt8), (2 : UInt8), (3 : UInt8), (4 : UInt8)] : List UInt8) [(0, .u8 1), (1, .u8 2), (2, .u8 3), (3, .u8 4)] [.u8 1, .u8 2, .u8 3, .u8 4] (by kernel_rfl) (by kernel_rfl) (by kernel_rfl) k ?_
 intro A w_ k_
 refine aK ?_
 obtain ⟨r_, lu, hm⟩ := ob hm
 refine aX [] 5 _ sJ (by kernel_rfl) (jH (F := N0) (O := N0) _ _ _ _ _ (Ro.n0 (k_.rd 0 rfl)) (k_.len 0 rfl) (k_.vg 0 rfl) (Cx.refl _) _ lu) ?_
 rintro e_ sZ ⟨rfl, fM⟩
 have pz := k_.call fM
 refine ⟨.mg [.u32 r_.1, I r_.2], rfl, ?_⟩
 have kZ := pz.jU .z
 refine dJ 5 [] (.n 1 (.u32 r_.1) (.n 2 (I r_.2) .z)) qe (by kernel_rfl) ?_
 refine aH <| ae <| af <| bD <| dJ 7 [] (.n 14 (.b ((decide (r_.1 = 67305985)) && (decide (r_.2 = 0)))) .z) qe (by kernel_rfl) ?_
 refine og 14 ((decide (r_.1 = 67305985)) && (decide (r_.2 = 0))) .z (by kernel_rfl) (fun hg => ?_) (fun hg => ?_)
 · rw [if_pos hg] at hm
   refine aK <| ik bG e8 [14] 15 ([(0 : UInt8), (255 : UInt8)] : List UInt8) [(0, .u8 0), (1, .u8 255)] [.u8 0, .u8 255] (by kernel_rfl) (by kernel_rfl) (by kernel_rfl) kZ ?_
   intro A1 vW jY
   refine aK ?_
   obtain ⟨bZ, qZ, hm⟩ := ob hm
   refine aX [14] 16 _ sK (by kernel_rfl) (nN (F := N0) (O := N0) _ _ _ _ (Ro.n0 (jY.rd 0 rfl)) (jY.len 0 rfl) (jY.vg 0 rfl) (Cx.refl _) _ qZ) ?_
   rintro e_ uF ⟨rfl, iQ⟩
   have oh := jY.call iQ
   refine ⟨.s bZ, rfl, ?_⟩
   have pF := oh.jU .z
   refine dJ 3 [14] (.n 19 (.b (decide (bZ = ([48, 48, 102, 102] : List UInt8)))) .z) qe (by kernel_rfl) ?_
   refine og 19 (decide (bZ = ([48, 48, 102, 102] : List UInt8))) .z (by kernel_rfl) (fun hg1 => ?_) (fun hg1 => ?_)
   · rw [if_pos (of_decide_eq_true hg1)] at hm
     refine aK ?_
     obtain ⟨dh, rf, hm⟩ := ob hm
     refine aX [19] 20 _ sN (by kernel_rfl) (jI (F := N0) (O := N0) _ _ (Cx.refl _) _ rf) ?_
     rintro e_ yX ⟨rfl, vk⟩
     have uM := pF.call vk
     refine ⟨.u64 dh, rfl, ?_⟩
     refine dJ 3 [19] (.n 0 (.b (decide (dh = 9223372036854775808))) .z) qe (by kernel_rfl) ?_
     refine aH <| ae <| aO ?_
     obtain rfl := Option.some.inj hm
     refine aQ [.b (decide (dh = 9223372036854775808))] qe (by kernel_rfl) ?_
     exact ⟨rfl, uM⟩
   · rw [if_neg (of_decide_eq_false hg1)] at hm
     refine dJ 4 [19] (.n 0 (.b false) .z) qe (by kernel_rfl) ?_
     refine aH <| ae <| aO ?_
     obtain rfl := Option.some.inj hm
     refine aQ [.b false] qe (by kernel_rfl) ?_
     exact ⟨rfl, pF⟩
 · rw [if_neg (by rw [hg]; decide)] at hm
   refine dJ 5 [14] (.n 19 (.b false) .z) qe (by kernel_rfl) ?_
   refine dJ 4 [19] (.n 0 (.b false) .z) qe (by kernel_rfl) ?_
   refine aH <| ae <| aO ?_
   obtain rfl := Option.some.inj hm
   refine aQ [.b false] qe (by kernel_rfl) ?_
   exact ⟨rfl, kZ⟩
noncomputable def au (i1 : Int) : (List (List UInt8) × Int) → Option ((List (List UInt8) × Int) ⊕ ((List (List UInt8) × Int) ⊕ Bool))
  | (l1, ed) => (ai l1 i1).bind fun b3 => if ed < ((b3.length : Nat) : Int) then ((ai l1 i1).bind fun b4 => (ai l1 i1).bind fun b5 => (ai b5 ed).bind fun bP => (ai b4 ed).bind fun x_1 => some (.inl (l1.set (Int.toNat i1) (b4.set (Int.toNat ed) (255 ^^^ bP)), bf (ed + 1)))) else (Option.map Sum.inr ((ai l1 i1).bind fun b6 => (app b6 ([UInt8.ofInt i1] : List UInt8) 1).bind fun b7 => (ai l1 i1).bind fun b8 => some (.inl (l1.set (Int.toNat i1) b7, bf (i1 + 1)))))
noncomputable def ax (dh : (List (List UInt8) × Int)) (l : List (List UInt8)) (i2 : Int) : Int → Option (Int ⊕ (Int ⊕ Bool))
  | iG => (ai dh.1 i2).bind fun b9 => if iG < ((b9.length : Nat) : Int) then ((ai l i2).bind fun b10 => (ai b10 iG).bind fun pq => (ai dh.1 i2).bind fun b11 => (ai b11 iG).bind fun vZ => if pq ≠ (255 ^^^ vZ) then (Option.map Sum.inr (Option.map Sum.inr (some false))) else (some (.inl (bf (iG + 1))))) else (Option.map Sum.inr ((ai l i2).bind fun b12 => (ai dh.1 i2).bind fun b13 => (ai b12 ((b13.length : Nat) : Int)).bind fun v_ => if v_ ≠ (UInt8.ofInt i2) then (Option.map Sum.inr (some false)) else (some (.inl (bf (i2 + 1))))))
noncomputable def ay (b : List UInt8) (r_ : (List UInt8)) (bZ : (List (List UInt8) × Int)) (dh : (List (List UInt8) × Int)) (l : List (List UInt8)) : Int → Option (Int ⊕ Bool)
  | i2 => if i2 < ((bZ.1.length : Nat) : Int) then (ah (ax dh l i2) (0 : Int)) else (Option.map Sum.inr ((bu b r_).bind fun wo => if wo = true then ((bY).bind fun wu => some wu) else (some false)))
noncomputable def aA (b : List UInt8) (r_ : (List UInt8)) (bZ : (List (List UInt8) × Int)) (dh : (List (List UInt8) × Int)) : (List (List UInt8) × Int) → Option ((List (List UInt8) × Int) ⊕ Bool)
  | (l, i1) => if i1 < ((bZ.1.length : Nat) : Int) then (ah (au i1) (l, (0 : Int))) else (Option.map Sum.inr (ah (ay b r_ bZ dh l) (0 : Int)))
noncomputable def aB (b : List UInt8) (r_ : (List UInt8)) (bZ : (List (List UInt8) × Int)) (dh : (List (List UInt8) × Int)) : Int → Option (Int ⊕ Bool)
  | i => if i < ((bZ.1.length : Nat) : Int) then ((ai bZ.1 i).bind fun b1 => (ai dh.1 i).bind fun b2 => (bu b1 b2).bind fun wz => if (!wz) = true then (Option.map Sum.inr (some false)) else (some (.inl (bf (i + 1))))) else (Option.map Sum.inr (ah (aA b r_ bZ dh) (bZ.1, (0 : Int))))
noncomputable def bI (b : List UInt8) (n : Int) : Option Bool :=
  (df b).bind fun r_ => (dA r_ n).bind fun bZ => (dS b n).bind fun dh => if ((decide (bZ.2 ≠ dh.2)) || (decide (((bZ.1.length : Nat) : Int) ≠ ((dh.1.length : Nat) : Int)))) = true then (some false) else ((bu b r_).bind fun wB => if (!wB) = true then (some false) else (ah (aB b r_ bZ dh) (0 : Int)))
theorem jw {F O : Nat → Prop} {w : World} (b : List UInt8) (n : Int) (bJ : Option Addr) (fF : Nat) (bK : Nat) (jX : Ro F w bJ (e8.all b)) (fG : b.length = fF) (iq : fF ≤ bK) (k : Cx F O w w []) (r : Bool) (hm : bI b n = some r) :
    Calls Try.prog 3 (vals [sl bJ fF bK, I n]) w (fun e w' => e = .returned (SV.val (.b r)) ∧ Cx F O w w' []) := by
 unfold bI at hm
 subst fG
 refine calls [sl bJ b.length bK, I n] Try.func3 rfl (of_decide_eq_true (by kernel_rfl)) ?_
 refine af <| aU [] .a qe (by kernel_rfl) ?_
 refine ae <| af <| bD <| dJ 1 [] (.n 15 (sl bJ b.length bK) .a) qe (by kernel_rfl) ?_
 refine aK ?_
 obtain ⟨r_, lu, hm⟩ := ob hm
 refine aX [] 16 _ uG (by kernel_rfl) (lg (F := N0) (O := N0) _ _ _ _ (Ro.n0 (jX.cx k)) rfl iq (Cx.refl _) _ lu) ?_
 rintro e_ w_ ⟨A, _, c, rfl, rfl, k_⟩
 have fM := k.call k_
 refine ⟨sl A r_.length c, rfl, ?_⟩
 refine dJ 1 [] (.n 5 (sl A r_.length c) (.ss .a)) qe (by kernel_rfl) ?_
 refine aH <| ae <| af <| bD <| dJ 2 [] (.n 18 (sl A r_.length c) (.n 19 (I n) .a)) qe (by kernel_rfl) ?_
 refine aK ?_
 obtain ⟨bZ, qZ, hm⟩ := ob hm
 refine aX [] 20 _ uH (by kernel_rfl) (nI (F := N0) (O := N0) _ _ _ _ _ (Ro.n0 (fM.rd 0 rfl)) (fM.len 0 rfl) (fM.vg 0 rfl) (Cx.refl _) _ qZ) ?_
 rintro e_ sZ ⟨A1, _, c1, hd, rfl, rfl, pz⟩
 have kZ := fM.call pz
 refine ⟨.mg [sl A1 bZ.1.length c1, I bZ.2], rfl, ?_⟩
 refine dJ 5 [] (.n 6 (sl A1 bZ.1.length c1) (.n 7 (I bZ.2) (.xU .a))) qe (by kernel_rfl) ?_
 refine aH <| ae <| af <| bD <| dJ 2 [] (.n 24 (sl bJ b.length bK) (.n 25 (I n) (.iO .z))) qe (by kernel_rfl) ?_
 refine aK ?_
 obtain ⟨dh, rf, hm⟩ := ob hm
 refine aX [] 26 _ uI (by kernel_rfl) (o7 (F := N0) (O := N0) _ _ _ _ _ (Ro.n0 (jX.cx kZ)) rfl iq (Cx.refl _) _ rf) ?_
 rintro e_ vW ⟨A2, _, c2, hd1, rfl, rfl, jY⟩
 have iQ := kZ.call jY
 refine ⟨.mg [sl A2 dh.1.length c2, I dh.2], rfl, ?_⟩
 refine dJ 5 [] (.n 8 (sl A2 dh.1.length c2) (.n 9 (I dh.2) (.xU .a))) qe (by kernel_rfl) ?_
 refine aH <| ae <| af <| af <| bD <| dJ 11 [] (.n 39 (.b ((decide (bZ.2 ≠ dh.2)) || (decide (((bZ.1.length : Nat) : Int) ≠ ((dh.1.length : Nat) : Int))))) (.k (.s (.k (.s .a))))) qe (by kernel_rfl) ?_
 refine og 39 ((decide (bZ.2 ≠ dh.2)) || (decide (((bZ.1.length : Nat) : Int) ≠ ((dh.1.length : Nat) : Int)))) (.s .a) (by kernel_rfl) (fun hg => ?_) (fun hg => ?_)
 · rw [if_pos hg] at hm
   refine dJ 5 [39] (.n 44 (.b true) (.s .a)) qe (by kernel_rfl) ?_
   refine aH <| ae <| iD true (by kernel_rfl) (fun _ => ?_) (fun h => by cases h)
   refine af <| aU [] (.n 4 (.b false) .z) qe (by kernel_rfl) ?_
   refine ae <| aO (aY ?_)
   obtain rfl := Option.some.inj hm
   refine aQ [.b false] qe (by kernel_rfl) ?_
   have oh := iQ.jU .z
   exact ⟨rfl, oh⟩
 · rw [if_neg (by rw [hg]; decide)] at hm
   refine dJ 2 [39] (.n 40 (sl bJ b.length bK) (.n 41 (sl A r_.length c) .a)) qe (by kernel_rfl) ?_
   refine aK ?_
   obtain ⟨wB, wC, hm⟩ := ob hm
   refine aX [39] 42 _ nJ (by kernel_rfl) (gK (F := N0) (O := N0) _ _ _ _ _ _ _ _ (Ro.n0 (jX.cx iQ)) rfl iq (Ro.n0 (iQ.rd 0 rfl)) (iQ.len 0 rfl) (iQ.vg 0 rfl) (Cx.refl _) _ wC) ?_
   rintro e_ uF ⟨rfl, pF⟩
   have vk := iQ.call pF
   refine ⟨.b wB, rfl, ?_⟩
   refine dJ 2 [39] (.n 44 (.b (!wB)) (.oV .a)) qe (by kernel_rfl) ?_
   refine aH <| ae <| iD (!wB) (by kernel_rfl) (fun hc => ?_) (fun hc => ?_)
   · rw [if_pos hc] at hm
     refine af <| aU [] (.n 4 (.b false) .z) qe (by kernel_rfl) ?_
     refine ae <| aO (aY ?_)
     obtain rfl := Option.some.inj hm
     refine aQ [.b false] qe (by kernel_rfl) ?_
     have uM := vk.jU .z
     exact ⟨rfl, uM⟩
   rw [if_neg (by rw [hc]; decide)] at hm
   refine aG <| ae <| af <| af <| aU [] (.n 10 (I 0) (.s .a)) qe (by kernel_rfl) ?_
   refine ae <| ak <| jG (aB b r_ bZ dh) (fun s L wr => ∃ (i : Int), i = s ∧ L = [(0, sl bJ b.length bK), (5, sl A r_.length c), (6, sl A1 bZ.1.length c1), (8, sl A2 dh.1.length c2), (10, I i)] ∧ Cx F O w wr [Ow e8 A r_.length c r_, OC A1 bZ.1.length c1 hd bZ.1 0, O2 e8 A2 dh.1.length c2 hd1 dh.1]) (0 : Int) r hm ⟨(0 : Int), rfl, rfl, vk⟩ (by kernel_rfl) ?_
   intro uD L_ yX y0 hrel hstep hr0
   obtain ⟨i, rfl, rfl, qR⟩ := hrel
   have hm := hstep; simp only [aB] at hm
   clear hstep
   refine af <| af <| aU [] (.n 48 (.b (decide (i < ((bZ.1.length : Nat) : Int)))) .a) qe (by kernel_rfl) ?_
   refine ae <| aC (i < ((bZ.1.length : Nat) : Int)) (by kernel_rfl) (fun hc1 => ?_) (fun hc1 => ?_)
   · rw [if_pos hc1] at hm
     refine aG <| ae <| af <| ak <| af ?_
     have iR := qR.drew 1
     refine xX dR (.q 0 1 (.q 1 1 (.q 2 0 (.q 3 0 (.q 4 1 (.q 5 1 (.q 6 0 (.q 7 0 (.op 8 (.q 9 1 .nil)))))))))) [8] iR (.c (.kk (.k .e)) .l) (by kernel_rfl) (fun _ => ?_)
     refine n_ 2 1 [] (.n 51 (sl A1 bZ.1.length c1) (.n 52 (I i) (.s .a))) (fun x hx => qe) (by kernel_rfl) (fun _ => ?_)
     obtain ⟨b1, o6, hm⟩ := ob hm
     obtain ⟨wE, wF, hh, hle, hw⟩ := iR.lU 1 rfl o6
     refine n_ 2 0 [] (.n 54 (sl wE b1.length wF) (.ss .a)) (fun x hx => qJ (hx.gJ 1 rfl) hh (iR.fE 1 rfl) <| qC (sl wE b1.length wF) (Rd.el (k := 0) (hx.gJ 1 rfl) hh (Pt.nY A1 i 1) rfl) <| qe) (by kernel_rfl) (fun _ => ?_)
     refine n_ 2 1 [] (.n 55 (sl A2 dh.1.length c2) (.n 56 (I i) .a)) (fun x hx => qe) (by kernel_rfl) (fun _ => ?_)
     obtain ⟨b2, wG, hm⟩ := ob hm
     obtain ⟨wH, wI, hh1, hle1⟩ := iR.at2 2 rfl wG
     refine n_ 2 0 [] (.n 58 (sl wH b2.length wI) (.ss .a)) (fun x hx => qJ (hx.hd2 2 rfl) hh1 (iR.hlen2 2 rfl) <| qC (sl wH b2.length wI) (Rd.el (k := 0) (hx.hd2 2 rfl) hh1 (Pt.nY A2 i 1) rfl) <| qe) (by kernel_rfl) (fun _ => ?_)
     refine nZ (by kernel_rfl) rfl ?_
     obtain ⟨wz, wJ, hm⟩ := ob hm
     refine aX [] 59 _ nJ (by kernel_rfl) (gK (F := N0) (O := N0) _ _ _ _ _ _ _ _ (Ro.n0 (iR.o5 1 rfl o6 hh)) rfl hle (Ro.n0 (iR.in2 2 rfl wG hh1)) rfl hle1 (Cx.refl _) _ wJ) ?_
     rintro e_ zh ⟨rfl, qU⟩
     have o8 := iR.call qU
     refine ⟨.b wz, rfl, ?_⟩
     refine ⟨o8, fun _ => ?_⟩
     refine n_ 1 1 [] (.n 60 (.b (!wz)) (.xU .a)) (fun x hx => qe) (by kernel_rfl) (fun _ => ?_)
     refine nz <| ae <| iD (!wz) (by kernel_rfl) (fun hc2 => ?_) (fun hc2 => ?_)
     · rw [if_pos hc2] at hm
       refine af <| aU [] (.n 4 (.b false) .z) qe (by kernel_rfl) ?_
       refine ae <| aO (fZ (aY (aY (fZ (aY ?_)))))
       have hm := aS hm hr0
       obtain rfl := Option.some.inj hm
       refine aQ [.b false] qe (by kernel_rfl) ?_
       have yf := o8.jU .z
       exact ⟨rfl, yf⟩
     rw [if_neg (by rw [hc2]; decide)] at hm
     refine aG <| fC <| ae <| aU [] (.n 10 (I (bf (i + 1))) (.s (.iO .z))) qe (by kernel_rfl) ?_
     exact gp (bf (i + 1)) (Option.some.inj hm).symm ⟨bf (i + 1), rfl, rfl, o8⟩ (by kernel_rfl)
   rw [if_neg hc1] at hm
   refine dH (bz (bz (f_ ?_)))
   have hm := aS hm hr0
   refine ae <| af <| af <| aU [] (.n 11 (I 0) (.s (.iO .z))) qe (by kernel_rfl) ?_
   refine ae <| ak <| jG (aA b r_ bZ dh) (fun s L wr => ∃ (l : List (List UInt8)) (i1 : Int) (hd2 : List Hd) (m_ : Nat), (l, i1) = s ∧ L = [(0, sl bJ b.length bK), (5, sl A r_.length c), (6, sl A1 bZ.1.length c1), (8, sl A2 dh.1.length c2), (11, I i1)] ∧ m_ ≤ Int.toNat i1 ∧ Cx F O w wr [Ow e8 A r_.length c r_, OC A1 bZ.1.length c1 hd2 l m_, O2 e8 A2 dh.1.length c2 hd1 dh.1]) (bZ.1, (0 : Int)) r hm ⟨bZ.1, (0 : Int), hd, 0, rfl, rfl, (Nat.zero_le _), qR⟩ (by kernel_rfl) ?_
   intro uD L_ zO y0 hrel hstep hr0
   obtain ⟨l, i1, hd2, m_, rfl, rfl, hdl, wK⟩ := hrel
   have hm := hstep; simp only [aA] at hm
   clear hstep
   refine af <| af <| aU [] (.n 64 (.b (decide (i1 < ((bZ.1.length : Nat) : Int)))) .a) qe (by kernel_rfl) ?_
   refine ae <| aC (i1 < ((bZ.1.length : Nat) : Int)) (by kernel_rfl) (fun hc3 => ?_) (fun hc3 => ?_)
   · rw [if_pos hc3] at hm
     refine aG <| ae <| af <| ak <| af <| af <| aU [] (.n 12 (I 0) (.s .a)) qe (by kernel_rfl) ?_
     refine ae <| ak <| jG (au i1) (fun s L wr => ∃ (l1 : List (List UInt8)) (ed : Int), (l1, ed) = s ∧ L = [(0, sl bJ b.length bK), (5, sl A r_.length c), (6, sl A1 bZ.1.length c1), (8, sl A2 dh.1.length c2), (11, I i1), (12, I ed)] ∧ Cx F O w wr [Ow e8 A r_.length c r_, OC A1 bZ.1.length c1 hd2 l1 m_, O2 e8 A2 dh.1.length c2 hd1 dh.1]) (l, (0 : Int)) y0 hm ⟨l, (0 : Int), rfl, rfl, wK⟩ (by kernel_rfl) ?_
     intro zi L_ zQ y1 hrel hstep hr1
     obtain ⟨l1, ed, rfl, rfl, jJ⟩ := hrel
     have hm := hstep; simp only [au] at hm
     clear hstep
     refine af <| af ?_
     obtain ⟨b3, yg, hm⟩ := ob hm
     obtain ⟨yh, yj, hh2, hle2, hw1⟩ := jJ.lU 1 rfl yg
     refine aU [] (.n 73 (.b (decide (ed < ((b3.length : Nat) : Int)))) .a) (qJ (jJ.gJ 1 rfl) hh2 (jJ.fE 1 rfl) <| qC (sl yh b3.length yj) (Rd.el (k := 0) (jJ.gJ 1 rfl) hh2 (Pt.nY A1 i1 1) rfl) <| qe) (by kernel_rfl) ?_
     refine ae <| aC (ed < ((b3.length : Nat) : Int)) (by kernel_rfl) (fun hc4 => ?_) (fun hc4 => ?_)
     · rw [if_pos hc4] at hm
       refine aG <| ae <| af <| ak ?_
       have o9 := jJ.drew 1
       refine xX dR (.q 0 0 (.q 1 0 (.q 2 0 (.q 3 0 (.q 4 0 (.q 5 0 (.q 6 0 (.q 7 0 (.q 8 0 (.q 9 0 (.q 10 0 (.q 11 0 (.q 12 0 (.q 13 0 (.op 14 .nil))))))))))))))) [14] o9 (.c (.k (.s (.k .e))) .l) (by kernel_rfl) (fun _ => ?_)
       obtain ⟨b4, uO, hm⟩ := ob hm
       obtain ⟨uP, yl, hh3, hle3, hw2⟩ := o9.lU 1 rfl uO
       obtain ⟨b5, wL, hm⟩ := ob hm
       obtain ⟨yt, yu, hh4, zk, hw3⟩ := o9.lU 1 rfl wL
       obtain ⟨bP, lX, hm⟩ := ob hm
       obtain ⟨x_1, jZ, hm⟩ := ob hm
       refine n_ 14 0 [] (.n 88 (.u8 (255 ^^^ bP)) (.n 89 (.v (.pointer (rG uP ed 1))) (.s .a))) (fun x hx => qJ (hx.gJ 1 rfl) hh3 (o9.fE 1 rfl) <| qC (sl uP b4.length yl) (Rd.el (k := 0) (hx.gJ 1 rfl) hh3 (Pt.nY A1 i1 1) rfl) <| qJ (hx.gJ 1 rfl) hh4 (o9.fE 1 rfl) <| qC (sl yt b5.length yu) (Rd.el (k := 0) (hx.gJ 1 rfl) hh4 (Pt.nY A1 i1 1) rfl) <| qW (hx.o5 1 rfl wL hh4) lX rfl (.u8 bP) rfl <| qJ (hx.o5 1 rfl uO hh3) jZ rfl <| qe) (by kernel_rfl) (fun _ => ?_)
       refine nZ (by kernel_rfl) rfl ?_
       have yw := ((o9.pk (.t (.t .h))).pk (.t .h)).pk (.t (.t .h))
       refine sG [] (255 ^^^ bP) (by kernel_rfl) (Pt.nY uP ed 1) yw uO hh3 jZ ?_
       intro zS wM
       refine ⟨(wM.jU (.s (.kk .e))), fun _ => ?_⟩
       refine nz <| fC <| ae <| aU [] (.n 12 (I (bf (ed + 1))) (.ss (.iO (.k .z)))) qe (by kernel_rfl) ?_
       have yx := ((wM.pk (.t (.t .h))).pk (.t .h)).pk (.t (.t .h))
       exact gp (l1.set (Int.toNat i1) (b4.set (Int.toNat ed) (255 ^^^ bP)), bf (ed + 1)) (Option.some.inj hm).symm ⟨l1.set (Int.toNat i1) (b4.set (Int.toNat ed) (255 ^^^ bP)), bf (ed + 1), rfl, rfl, yx⟩ (by kernel_rfl)
     rw [if_neg hc4] at hm
     refine dH (bz (bz (f_ ?_)))
     have hm := aS hm hr1
     refine ae <| bD ?_
     obtain ⟨b6, wO, hm⟩ := ob hm
     obtain ⟨wP, uQ, hh5, zl, hw4⟩ := jJ.lU 1 rfl wO
     refine dJ 8 [] (.n 90 (sl A1 bZ.1.length c1) (.n 91 (I i1) (.n 95 (sl wP b6.length uQ) (.n 97 (.u8 (UInt8.ofInt i1)) (.s (.iO (.k .z))))))) (qJ (jJ.gJ 1 rfl) hh5 (jJ.fE 1 rfl) <| qC (sl wP b6.length uQ) (Rd.el (k := 0) (jJ.gJ 1 rfl) hh5 (Pt.nY A1 i1 1) rfl) <| qe) (by kernel_rfl) ?_
     refine aK <| ik bG e8 [] 98 ([UInt8.ofInt i1] : List UInt8) [(0, .u8 (UInt8.ofInt i1))] [.u8 (UInt8.ofInt i1)] (by kernel_rfl) (by kernel_rfl) (by kernel_rfl) jJ ?_
     intro A3 zT nO
     refine aK ?_
     obtain ⟨b7, yz, hm⟩ := ob hm
     obtain ⟨hz, hl⟩ := bU yz
     refine nH (E := e8) (c := uQ) (v := sl A3 1 1) (ys := ([UInt8.ofInt i1] : List UInt8)) bG [] 99 (by kernel_rfl) nO (nO.o5 1 rfl wO hh5) rfl (Src.sl (nO.rd 3 rfl) (nO.len 3 rfl) (by rfl)) (nO.len 3 rfl) (by have := hw4 hdl; have := (nO.len 3 rfl); omega) (by have := hz; have := (nO.len 3 rfl); omega) ?_
     intro A4 c3 zn wQ
     rw [← hl] at wQ
     have sS := wQ.jU (.kk (.k (.s (.k .e))))
     obtain ⟨b8, wR, hm⟩ := ob hm
     obtain ⟨zo, zq, yY, zt, hw5⟩ := sS.lU 1 rfl wR
     refine dJ 1 [] (.n 100 (.v (.pointer (rG A1 i1 1))) (.k (.oV (.s .a)))) (qJ (sS.gJ 1 rfl) yY (sS.fE 1 rfl) <| qe) (by kernel_rfl) ?_
     refine aK ?_
     have yA := (((sS.pk (.t (.t .h))).pk (.t .h)).pk (.t (.t (.t .h)))).pk (.t (.t (.t .h)))
     refine qN [] (j := i1) (by kernel_rfl) (Pt.nY A1 i1 1) yY hdl yA ?_
     intro zu yB
     refine aH <| fC <| ae <| aU [] (.n 11 (I (bf (i1 + 1))) (.ss (.iO .z))) qe (by kernel_rfl) ?_
     have wS := ((yB.pk (.t (.t .h))).pk (.t .h)).pk (.t (.t .h))
     exact gp (l1.set (Int.toNat i1) b7, bf (i1 + 1)) (Option.some.inj hm).symm ⟨l1.set (Int.toNat i1) b7, bf (i1 + 1), hd2.set (Int.toNat i1) (A4, b6.length + 1, c3), Int.toNat i1 + 1, rfl, rfl, (qM wR (wS.vV 1 rfl)), wS⟩ (by kernel_rfl)
   rw [if_neg hc3] at hm
   refine dH (bz (bz (f_ ?_)))
   have hm := aS hm hr0
   refine ae <| af <| af <| aU [] (.n 13 (I 0) (.s (.iO .z))) qe (by kernel_rfl) ?_
   refine ae <| ak <| jG (ay b r_ bZ dh l) (fun s L wr => ∃ (i2 : Int), i2 = s ∧ L = [(0, sl bJ b.length bK), (5, sl A r_.length c), (6, sl A1 bZ.1.length c1), (8, sl A2 dh.1.length c2), (13, I i2)] ∧ Cx F O w wr [Ow e8 A r_.length c r_, OC A1 bZ.1.length c1 hd2 l m_, O2 e8 A2 dh.1.length c2 hd1 dh.1]) (0 : Int) r hm ⟨(0 : Int), rfl, rfl, wK⟩ (by kernel_rfl) ?_
   intro uD L_ zx y0 hrel hstep hr0
   obtain ⟨i2, rfl, rfl, o_⟩ := hrel
   have hm := hstep; simp only [ay] at hm
   clear hstep
   refine af <| af <| aU [] (.n 104 (.b (decide (i2 < ((bZ.1.length : Nat) : Int)))) .a) qe (by kernel_rfl) ?_
   refine ae <| aC (i2 < ((bZ.1.length : Nat) : Int)) (by kernel_rfl) (fun hc5 => ?_) (fun hc5 => ?_)
   · rw [if_pos hc5] at hm
     refine aG <| ae <| af <| ak <| af <| af <| aU [] (.n 14 (I 0) (.s .a)) qe (by kernel_rfl) ?_
     refine ae <| ak <| jG (ax dh l i2) (fun s L wr => ∃ (iG : Int), iG = s ∧ L = [(0, sl bJ b.length bK), (5, sl A r_.length c), (6, sl A1 bZ.1.length c1), (8, sl A2 dh.1.length c2), (13, I i2), (14, I iG)] ∧ Cx F O w wr [Ow e8 A r_.length c r_, OC A1 bZ.1.length c1 hd2 l m_, O2 e8 A2 dh.1.length c2 hd1 dh.1]) (0 : Int) y0 hm ⟨(0 : Int), rfl, rfl, o_⟩ (by kernel_rfl) ?_
     intro zi L_ zy y1 hrel hstep hr1
     obtain ⟨iG, rfl, rfl, b_⟩ := hrel
     have hm := hstep; simp only [ax] at hm
     clear hstep
     refine af <| af ?_
     obtain ⟨b9, yC, hm⟩ := ob hm
     obtain ⟨yD, yE, hh7, zA⟩ := b_.at2 2 rfl yC
     refine aU [] (.n 113 (.b (decide (iG < ((b9.length : Nat) : Int)))) .a) (qJ (b_.hd2 2 rfl) hh7 (b_.hlen2 2 rfl) <| qC (sl yD b9.length yE) (Rd.el (k := 0) (b_.hd2 2 rfl) hh7 (Pt.nY A2 i2 1) rfl) <| qe) (by kernel_rfl) ?_
     refine ae <| aC (iG < ((b9.length : Nat) : Int)) (by kernel_rfl) (fun hc6 => ?_) (fun hc6 => ?_)
     · rw [if_pos hc6] at hm
       refine aG <| ae <| af <| ak <| af ?_
       obtain ⟨b10, tu, hm⟩ := ob hm
       obtain ⟨wU, wV, yF, zB, hw6⟩ := b_.lU 1 rfl tu
       obtain ⟨pq, qY, hm⟩ := ob hm
       obtain ⟨b11, tC, hm⟩ := ob hm
       obtain ⟨wW, wX, hh9, zC⟩ := b_.at2 2 rfl tC
       obtain ⟨vZ, wY, hm⟩ := ob hm
       refine xW dR (by kernel_rfl) (.n 131 (.b (decide (pq ≠ (255 ^^^ vZ)))) (.s .a)) (fun m => qJ ((b_.drew m).gJ 1 rfl) yF (b_.fE 1 rfl) <| qC (sl wU b10.length wV) (Rd.el (k := 0) ((b_.drew m).gJ 1 rfl) yF (Pt.nY A1 i2 1) rfl) <| qW ((b_.drew m).o5 1 rfl tu yF) qY rfl (.u8 pq) rfl <| qJ ((b_.drew m).hd2 2 rfl) hh9 (b_.hlen2 2 rfl) <| qC (sl wW b11.length wX) (Rd.el (k := 0) ((b_.drew m).hd2 2 rfl) hh9 (Pt.nY A2 i2 1) rfl) <| qW ((b_.drew m).in2 2 rfl tC hh9) wY rfl (.u8 vZ) rfl <| qe) (by kernel_rfl) (fun zD => ?_)
       have wZ := b_.drew zD
       refine ae <| aC (pq ≠ (255 ^^^ vZ)) (by kernel_rfl) (fun yG => ?_) (fun yG => ?_)
       · rw [if_pos yG] at hm
         refine af <| aU [] (.n 4 (.b false) .z) qe (by kernel_rfl) ?_
         refine ae <| aO (fZ (aY (aY (fZ (aY (fZ (aY (aY (fZ (aY ?_))))))))))
         have hm := aS hm hr1
         have hm := aS hm hr0
         obtain rfl := Option.some.inj hm
         refine aQ [.b false] qe (by kernel_rfl) ?_
         have yH := wZ.jU .z
         exact ⟨rfl, yH⟩
       rw [if_neg yG] at hm
       refine aG <| fC <| ae <| aU [] (.n 14 (I (bf (iG + 1))) (.s (.iO (.k .z)))) qe (by kernel_rfl) ?_
       exact gp (bf (iG + 1)) (Option.some.inj hm).symm ⟨bf (iG + 1), rfl, rfl, wZ⟩ (by kernel_rfl)
     rw [if_neg hc6] at hm
     refine dH (bz (bz (f_ ?_)))
     have hm := aS hm hr1
     refine ae <| af ?_
     obtain ⟨b12, tH, hm⟩ := ob hm
     obtain ⟨xe, xg, uS, yZ, hw7⟩ := b_.lU 1 rfl tH
     obtain ⟨b13, xk, hm⟩ := ob hm
     obtain ⟨xn, xq, xu, y5⟩ := b_.at2 2 rfl xk
     obtain ⟨v_, xw, hm⟩ := ob hm
     refine xW dR (by kernel_rfl) (.n 145 (.b (decide (v_ ≠ (UInt8.ofInt i2)))) (.s (.iO (.k .z)))) (fun m => qJ ((b_.drew m).gJ 1 rfl) uS (b_.fE 1 rfl) <| qC (sl xe b12.length xg) (Rd.el (k := 0) ((b_.drew m).gJ 1 rfl) uS (Pt.nY A1 i2 1) rfl) <| qJ ((b_.drew m).hd2 2 rfl) xu (b_.hlen2 2 rfl) <| qC (sl xn b13.length xq) (Rd.el (k := 0) ((b_.drew m).hd2 2 rfl) xu (Pt.nY A2 i2 1) rfl) <| qW ((b_.drew m).o5 1 rfl tH uS) xw rfl (.u8 v_) rfl <| qe) (by kernel_rfl) (fun zF => ?_)
     have xx := b_.drew zF
     refine ae <| aC (v_ ≠ (UInt8.ofInt i2)) (by kernel_rfl) (fun hc8 => ?_) (fun hc8 => ?_)
     · rw [if_pos hc8] at hm
       refine af <| aU [] (.n 4 (.b false) .z) qe (by kernel_rfl) ?_
       refine ae <| aO (fZ (aY (aY (fZ (aY ?_)))))
       have hm := aS hm hr0
       obtain rfl := Option.some.inj hm
       refine aQ [.b false] qe (by kernel_rfl) ?_
       have yI := xx.jU .z
       exact ⟨rfl, yI⟩
     rw [if_neg hc8] at hm
     refine aG <| fC <| ae <| aU [] (.n 13 (I (bf (i2 + 1))) (.s (.iO .z))) qe (by kernel_rfl) ?_
     exact gp (bf (i2 + 1)) (Option.some.inj hm).symm ⟨bf (i2 + 1), rfl, rfl, xx⟩ (by kernel_rfl)
   rw [if_neg hc5] at hm
   refine dH (bz (bz (f_ ?_)))
   have hm := aS hm hr0
   refine ae <| af <| bD <| dJ 2 [] (.n 146 (sl bJ b.length bK) (.n 147 (sl A r_.length c) .z)) qe (by kernel_rfl) ?_
   refine aK ?_
   obtain ⟨wo, xy, hm⟩ := ob hm
   refine aX [] 148 _ nJ (by kernel_rfl) (gK (F := N0) (O := N0) _ _ _ _ _ _ _ _ (Ro.n0 (jX.cx o_)) rfl iq (Ro.n0 (o_.rd 0 rfl)) (o_.len 0 rfl) (o_.vg 0 rfl) (Cx.refl _) _ xy) ?_
   rintro e_ zG ⟨rfl, yJ⟩
   have yK := o_.call yJ
   refine ⟨.b wo, rfl, ?_⟩
   have xA := yK.jU .z
   refine dJ 1 [] (.n 149 (.b wo) .z) qe (by kernel_rfl) ?_
   refine og 149 wo .z (by kernel_rfl) (fun hg1 => ?_) (fun hg1 => ?_)
   · rw [if_pos hg1] at hm
     refine aK ?_
     obtain ⟨wu, xB, hm⟩ := ob hm
     refine aX [149] 150 _ uJ (by kernel_rfl) (lZ (F := N0) (O := N0)  (Cx.refl _) _ xB) ?_
     rintro e_ zH ⟨rfl, yL⟩
     have yM := xA.call yL
     refine ⟨.b wu, rfl, ?_⟩
     refine dJ 2 [149] (.n 4 (.b wu) .z) qe (by kernel_rfl) ?_
     refine aH <| ae <| aO ?_
     obtain rfl := Option.some.inj hm
     refine aQ [.b wu] qe (by kernel_rfl) ?_
     exact ⟨rfl, yM⟩
   · rw [if_neg (by rw [hg1]; decide)] at hm
     refine dJ 3 [149] (.n 4 (.b false) .z) qe (by kernel_rfl) ?_
     refine aH <| ae <| aO ?_
     obtain rfl := Option.some.inj hm
     refine aQ [.b false] qe (by kernel_rfl) ?_
     exact ⟨rfl, xA⟩
end Go.Sx
namespace Go.Sx
open Go.RowKit
set_option linter.unusedVariables false
set_option linter.unusedSimpArgs false
theorem d_ (i : Nat) (h : i ≤ 1000000000) : bf ((i : Int) + 1) = ((i + 1 : Nat) : Int) := by rw [nD (by omega)]; omega
theorem rq (a b : List UInt8) (ha : a.length ≤ 16000000) : dw a b = some (decide (a = b)) := by
  unfold dw
  by_cases hn : ((a.length : Nat) : Int) ≠ ((b.length : Nat) : Int)
  · rw [if_pos hn]
    congr 1
    exact (decide_eq_false fun e => hn (by rw [e])).symm
  rw [if_neg hn]
  have hl : a.length = b.length := by omega
  refine jV (fun i s => s = (i : Int) ∧ i ≤ a.length ∧ a.take i = b.take i) _ a.length _ ⟨rfl, by omega, rfl⟩ ?_
  rintro i s ⟨rfl, hi, he⟩
  unfold bQ
  by_cases hlt : i < a.length
  · rw [if_pos (by omega), aP hlt, aP (show i < b.length by omega)]
    simp only [Option.bind_some]
    by_cases hx : a[i] = b[i]
    · left
      refine ⟨hlt, _, by rw [if_neg (by simpa using hx)], by rw [d_ i (by omega)], by omega, ?_⟩
      rw [List.take_add_one, List.take_add_one, he, List.getElem?_eq_getElem hlt, List.getElem?_eq_getElem (show i < b.length by omega), hx]
    · right
      rw [if_pos hx]
      simp only [Option.map_some, Option.some.injEq, Sum.inr.injEq]
      refine (decide_eq_false fun e => hx ?_).symm
      subst e; rfl
  · right
    obtain rfl : i = a.length := by omega
    rw [if_neg (by omega)]
    simp only [Option.map_some, Option.some.injEq, Sum.inr.injEq]
    rw [List.take_length, hl, List.take_length] at he
    exact (decide_eq_true he).symm
def y7 (s : UInt64) (x : UInt8) : UInt64 := 2 * s + (UInt64.ofNat x.toNat + 1) * 11400714819323198485
def xC (n : Nat) (s : UInt64) : Bool := decide (n = 1024) || (decide (64 ≤ n) && decide (iZ s ((58 : UInt64).toNat) = 0))
def cut : List UInt8 → List UInt8 → UInt64 → List (List UInt8)
  | [], _, _ => []
  | x :: r, p, s => if (xC (p.length + 1) (y7 s x) || r.isEmpty) = true then (p ++ [x]) :: cut r [] 0 else cut r (p ++ [x]) (y7 s x)
end Go.Sx
namespace Go.Sx
open Go.RowKit
set_option linter.unusedVariables false
set_option linter.unusedSimpArgs false
def uT (N : Nat) : Nat → List UInt8 → List (List UInt8)
  | 0, _ => []
  | f + 1, l => if l = [] then [] else if l.length ≤ N then [l] else l.take N :: uT N f (l.drop N)
theorem ru (N : Nat) (hN : 1 ≤ N) : ∀ (f g : Nat) (l : List UInt8), l.length ≤ f → l.length ≤ g → uT N f l = uT N g l := by
  intro f
  induction f with
  | zero =>
    intro g l h1 h2
    have : l = [] := List.length_eq_zero_iff.1 (by omega)
    subst this
    cases g <;> rfl
  | succ f ih =>
    intro g l h1 h2
    cases g with
    | zero =>
      have : l = [] := List.length_eq_zero_iff.1 (by omega)
      subst this
      rfl
    | succ g =>
      simp only [uT]
      split
      · rfl
      · split
        · rfl
        · rw [ih g (l.drop N) (by rw [List.length_drop]; omega) (by rw [List.length_drop]; omega)]
def PC (N : Nat) (l : List UInt8) : List (List UInt8) := uT N l.length l
theorem jy (N : Nat) : PC N [] = [] := rfl
theorem lC (N : Nat) (l : List UInt8) (h : l ≠ []) (hl : l.length ≤ N) : PC N l = [l] := by
  unfold PC
  have := List.length_pos_iff.2 h
  obtain ⟨f, hf⟩ : ∃ f, l.length = f + 1 := ⟨l.length - 1, by omega⟩
  rw [hf, uT, if_neg h, if_pos hl]
theorem lD (N : Nat) (hN : 1 ≤ N) (l : List UInt8) (hl : N < l.length) : PC N l = l.take N :: PC N (l.drop N) := by
  unfold PC
  obtain ⟨f, hf⟩ : ∃ f, l.length = f + 1 := ⟨l.length - 1, by omega⟩
  have hne : l ≠ [] := fun e => by subst e; simp at hl
  rw [hf, uT, if_neg hne, if_neg (by omega), ru N hN f (l.drop N).length _ (by rw [List.length_drop]; omega) (Nat.le_refl _)]
theorem ry (N : Nat) (hN : 1 ≤ N) : ∀ (m : Nat) (l : List UInt8), l.length ≤ m → (PC N l).length ≤ l.length ∧ ∀ x ∈ PC N l, x.length ≤ l.length
  | 0, l, h => by
    have : l = [] := List.length_eq_zero_iff.1 (by omega)
    subst this
    simp [jy]
  | m + 1, l, h => by
    by_cases h0 : l = []
    · subst h0; simp [jy]
    · by_cases hl : l.length ≤ N
      · have := List.length_pos_iff.2 h0
        rw [lC N l h0 hl]
        refine ⟨by simp; omega, fun x hx => ?_⟩
        obtain rfl : x = l := by simpa using hx
        exact Nat.le_refl _
      · obtain ⟨h1, h2⟩ := ry N hN m (l.drop N) (by rw [List.length_drop]; omega)
        rw [List.length_drop] at h1
        rw [lD N hN l (by omega)]
        refine ⟨by rw [List.length_cons]; omega, fun x hx => ?_⟩
        rcases List.mem_cons.1 hx with rfl | hx
        · rw [List.length_take]; omega
        · have := h2 x hx
          rw [List.length_drop] at this
          omega
theorem rC {a c : List (List UInt8)} (h : a.length + c.length ≤ 100000000) : app a c 24 = some (a ++ c) := qG (by omega)
theorem ou {a c : List UInt8} (h : a.length + c.length ≤ 100000000) : app a c 1 = some (a ++ c) := qG (by omega)
theorem l7 (n : Int) (hn : 1 ≤ n) : ∀ (m : Nat) (own : List UInt8) (ps : List (List UInt8)), own.length ≤ m → ps.length + own.length ≤ 10000000 → ah (aN n) (ps, own) = some (ps ++ PC n.toNat own, 0)
  | m, own, ps, hm, hb => by
    by_cases hc : n < ((own.length : Nat) : Int)
    · have hs : aN n (ps, own) = some (.inl (ps ++ [own.take n.toNat], own.drop n.toNat)) := by
        unfold aN
        simp only []
        rw [if_pos hc, qH (by omega)]
        simp only [Option.bind_some]
        rw [rC (by simp; omega), qH (by omega)]
        simp only [Option.bind_some, Int.toNat_natCast, List.take_length]
        rfl
      cases m with
      | zero => omega
      | succ m =>
        rw [fD hs, l7 n hn m (own.drop n.toNat) _ (by rw [List.length_drop]; omega) (by rw [List.length_append, List.length_drop, List.length_singleton]; omega), lD n.toNat (by omega) own (by omega)]
        simp
    · refine dF ?_
      unfold aN
      simp only []
      rw [if_neg hc]
      by_cases h0 : own = []
      · subst h0
        rw [if_neg (by simp), jy, List.append_nil]
        rfl
      · have := List.length_pos_iff.2 h0
        rw [if_pos (by omega), rC (by simp; omega), lC _ own h0 (by omega)]
        rfl
theorem yN (b : List UInt8) (hb : b.length ≤ 1048576) (n : Int) : dA b n = some (if n < 1 then ([], 1) else (PC n.toNat b, 0)) := by
  unfold dA
  by_cases h : n < 1
  · rw [if_pos h, if_pos h]
  · rw [if_neg h, if_neg h, ou (by simp; omega)]
    simp only [Option.bind_some, List.nil_append]
    rw [l7 n (by omega) b.length b [] (Nat.le_refl _) (by simp; omega)]
    rfl
theorem jA (b : List UInt8) (hb : b.length ≤ 1048576) (n : Int) (hn : 1 ≤ n) : ∀ (m i : Nat) (l : List (List UInt8)) (p : List UInt8), i + m = b.length → p.length ≤ i → l.length ≤ i → (p.length : Int) < n → (m = 0 → p = []) →
    ah (aT b n) (l, p, (i : Int)) = some (l ++ PC n.toNat (p ++ b.drop i), 0)
  | 0, i, l, p, hi, hp, hl, hpn, h0 => by
    obtain rfl := h0 rfl
    refine dF ?_
    unfold aT
    simp only []
    rw [if_neg (by omega), List.drop_eq_nil_of_le (by omega)]
    simp [jy]
  | m + 1, i, l, p, hi, hp, hl, hpn, h0 => by
    have hib : i < b.length := by omega
    have hd := List.drop_eq_getElem_cons hib
    have hw : bf (((b.length : Nat) : Int) - 1) = ((b.length - 1 : Nat) : Int) := by rw [nD (by omega)]; omega
    have hpre : aT b n (l, p, (i : Int)) = some (.inl (if ((p.length + 1 : Nat) : Int) = n ∨ m = 0 then (l ++ [p ++ [b[i]]], [], ((i + 1 : Nat) : Int)) else (l, p ++ [b[i]], ((i + 1 : Nat) : Int)))) := by
      unfold aT bH
      simp only []
      rw [if_pos (by omega), aP hib]
      simp only [Option.bind_some]
      rw [ou (by simp; omega)]
      simp only [Option.bind_some]
      rw [hw, d_ i (by omega)]
      by_cases hc : ((p.length + 1 : Nat) : Int) = n ∨ m = 0
      · rw [if_pos hc, if_pos (by simp only [Bool.or_eq_true, decide_eq_true_eq]; omega), rC (by simp; omega)]
        rfl
      · rw [if_neg hc, if_neg (by simp only [Bool.or_eq_true, decide_eq_true_eq]; omega)]
    rw [fD hpre]
    have hrest : (b.drop (i + 1)).length = m := by rw [List.length_drop]; omega
    by_cases hc : ((p.length + 1 : Nat) : Int) = n ∨ m = 0
    · rw [if_pos hc, jA b hb n hn m (i + 1) (l ++ [p ++ [b[i]]]) [] (by omega) (by simp) (by simp; omega) (by simp; omega) (fun _ => rfl), hd]
      have hsplit : p ++ b[i] :: b.drop (i + 1) = (p ++ [b[i]]) ++ b.drop (i + 1) := by simp
      rw [hsplit, List.nil_append]
      by_cases hm : m = 0
      · have h1 : b.drop (i + 1) = [] := List.length_eq_zero_iff.1 (by omega)
        rw [h1, List.append_nil, jy, List.append_nil, lC n.toNat (p ++ [b[i]]) (by simp) (by simp; omega)]
      · have hpl : (p ++ [b[i]]).length = n.toNat := by simp; omega
        rw [lD n.toNat (by omega) ((p ++ [b[i]]) ++ b.drop (i + 1)) (by rw [List.length_append, hpl, hrest]; omega), ← hpl, List.take_left, List.drop_left]
        simp
    · rw [if_neg hc, jA b hb n hn m (i + 1) l (p ++ [b[i]]) (by omega) (by simp; omega) (by omega) (by simp; omega) (fun h => absurd (.inr h) hc), hd]
      simp
theorem yO (b : List UInt8) (hb : b.length ≤ 1048576) (n : Int) : dS b n = some (if n < 1 then ([], 1) else (PC n.toNat b, 0)) := by
  unfold dS
  by_cases h : n < 1
  · rw [if_pos h, if_pos h]
  · rw [if_neg h, if_neg h]
    have := jA b hb n (by omega) b.length 0 [] [] (by omega) (by simp) (by simp) (by simp; omega) (fun _ => rfl)
    rw [show ((0 : Nat) : Int) = 0 from rfl] at this
    rw [this]
    rfl
theorem lF (a : List UInt8) (h : a.length ≤ 16000000) : bu a a = some true := by
  unfold bu
  rw [rq a a h]
  simp
def cu (x : List UInt8) : List UInt8 := x.map (fun c => 255 ^^^ c)
def fin1 (i : Nat) (x : List UInt8) : List UInt8 := cu x ++ [UInt8.ofInt (i : Int)]
theorem uU (l : List (List UInt8)) (i : Nat) (hi : i < l.length) (hil : i ≤ 100000000) (hx : l[i].length ≤ 16000000) : ah (au (i : Int)) (l, (0 : Int)) = some (.inl (l.set i (fin1 i l[i]), ((i + 1 : Nat) : Int))) := by
  have h0 : (l, (0 : Int)) = (l.set i (cu (l[i].take 0) ++ l[i].drop 0), ((0 : Nat) : Int)) := by simp [cu]
  rw [h0]
  refine dm (fun k => (l.set i (cu (l[i].take k) ++ l[i].drop k), (k : Int))) l[i].length (fun k hk => ?_) ?_
  · have hg : ai (l.set i (cu (l[i].take k) ++ l[i].drop k)) (i : Int) = some (cu (l[i].take k) ++ l[i].drop k) := by
      rw [aP (by rw [List.length_set]; exact hi), List.getElem_set_self]
    have hlen : (cu (l[i].take k) ++ l[i].drop k).length = l[i].length := by
      simp only [cu, List.length_append, List.length_map, List.length_take, List.length_drop]; omega
    have hcl : (cu (l[i].take k)).length = k := by simp only [cu, List.length_map, List.length_take]; omega
    have hgk : ai (cu (l[i].take k) ++ l[i].drop k) (k : Int) = some l[i][k] := by
      rw [aP (by rw [hlen]; exact hk)]
      congr 1
      rw [List.getElem_append_right (by omega)]
      simp [hcl]
    unfold au
    simp only []
    rw [hg]
    simp only [Option.bind_some]
    rw [if_pos (by rw [hlen]; omega), hgk]
    simp only [Option.bind_some]
    rw [d_ k (by omega), Int.toNat_natCast, Int.toNat_natCast, List.set_set]
    congr 4
    rw [List.set_append_right _ _ (by omega), hcl, Nat.sub_self, List.drop_eq_getElem_cons hk, List.set_cons_zero, List.take_add_one, List.getElem?_eq_getElem hk]
    have hcm : cu (l[i].take k ++ [l[i][k]]) = cu (l[i].take k) ++ [255 ^^^ l[i][k]] := by simp only [cu, List.map_append, List.map_cons, List.map_nil]
    simp only [Option.toList_some, hcm, List.append_assoc, List.cons_append, List.nil_append]
  · have hend : cu (l[i].take l[i].length) ++ l[i].drop l[i].length = cu l[i] := by rw [List.take_length, List.drop_length, List.append_nil]
    rw [hend]
    have hg : ai (l.set i (cu l[i])) (i : Int) = some (cu l[i]) := by
      rw [aP (by rw [List.length_set]; exact hi), List.getElem_set_self]
    have hcl : (cu l[i]).length = l[i].length := by simp [cu]
    unfold au
    simp only []
    rw [hg]
    simp only [Option.bind_some]
    rw [if_neg (by rw [hcl]; omega), ou (by simp; omega)]
    simp only [Option.bind_some]
    rw [d_ i (by omega), Int.toNat_natCast, List.set_set]
    rfl
def iH (L : List (List UInt8)) (i : Nat) : List (List UInt8) := L.mapIdx (fun j x => if j < i then fin1 j x else x)
theorem dU (L : List (List UInt8)) (i : Nat) : (iH L i).length = L.length := by simp [iH]
theorem iw (L : List (List UInt8)) (i j : Nat) (hj : j < L.length) : (iH L i)[j]'(by rw [dU]; exact hj) = if j < i then fin1 j L[j] else L[j] := by simp [iH]
theorem pg (L : List (List UInt8)) (i : Nat) (hi : i < L.length) : (iH L i).set i (fin1 i L[i]) = iH L (i + 1) := by
  refine List.ext_getElem (by simp [dU]) fun j h1 h2 => ?_
  have hj : j < L.length := by rw [dU] at h2; exact h2
  rw [List.getElem_set, iw L (i + 1) j hj]
  by_cases hij : i = j
  · subst hij
    rw [if_pos rfl, if_pos (by omega)]
  · rw [if_neg hij, iw L i j hj]
    by_cases hlt : j < i
    · rw [if_pos hlt, if_pos (by omega)]
    · rw [if_neg hlt, if_neg (by omega)]
theorem uV (L : List (List UInt8)) (z : Int) (i : Nat) (hi : i < L.length) (hil : i ≤ 100000000) (hx : L[i].length ≤ 16000000) : ah (ax (L, z) (iH L L.length) (i : Int)) (0 : Int) = some (.inl ((i + 1 : Nat) : Int)) := by
  have hg : ai (iH L L.length) (i : Int) = some (fin1 i L[i]) := by
    rw [aP (by rw [dU]; exact hi), iw L L.length i hi, if_pos hi]
  have hfl : (fin1 i L[i]).length = L[i].length + 1 := by simp [fin1, cu]
  refine dm (fun k => (k : Int)) L[i].length (fun k hk => ?_) ?_
  · unfold ax
    simp only []
    rw [aP hi]
    simp only [Option.bind_some]
    rw [if_pos (by omega), hg]
    simp only [Option.bind_some]
    rw [aP (show k < (fin1 i L[i]).length by omega), aP hk]
    simp only [Option.bind_some]
    have : (fin1 i L[i])[k]'(by omega) = 255 ^^^ L[i][k] := by
      unfold fin1
      rw [List.getElem_append_left (by simp [cu]; exact hk)]
      simp [cu]
    rw [this, if_neg (by simp), d_ k (by omega)]
  · unfold ax
    simp only []
    rw [aP hi]
    simp only [Option.bind_some]
    rw [if_neg (by omega), hg]
    simp only [Option.bind_some]
    rw [aP (show L[i].length < (fin1 i L[i]).length by omega)]
    simp only [Option.bind_some]
    have : (fin1 i L[i])[L[i].length]'(by omega) = UInt8.ofInt (i : Int) := by
      unfold fin1
      rw [List.getElem_append_right (by simp [cu])]
      simp [cu]
    rw [this, if_neg (by simp), d_ i (by omega)]
    rfl
theorem sU : bg ([1, 2, 3, 4] : List UInt8) (0 : Int) = some (67305985, 0) := by
  have h : bW ([1, 2, 3, 4] : List UInt8) (0 : Int) (4 : Int) = some (67305985, 0) := by
    unfold bW
    rw [if_neg (by decide), if_neg (by decide)]
    exact bC.2 ⟨6, by kernel_rfl⟩
  unfold bg
  rw [h]
  rfl
theorem uX : dB ([0, 255] : List UInt8) = some [48, 48, 102, 102] := by
  unfold dB
  rw [rZ (by decide)]
  simp only [Option.bind_some]
  exact bC.2 ⟨4, by kernel_rfl⟩
theorem sV : bT (1 : UInt64) (1 : Int) = some 9223372036854775808 := by kernel_rfl
theorem rD : bY = some true := by
  unfold bY
  rw [sU]
  simp only [Option.bind_some]
  rw [if_pos (by decide), uX]
  simp only [Option.bind_some]
  rw [if_pos trivial, sV]
  rfl
theorem l9 (b : List UInt8) (hb : b.length ≤ 1048576) (L : List (List UInt8)) (z : Int) (hL : L.length ≤ 1048576) (hx : ∀ x ∈ L, x.length ≤ 1048576) : ah (aB b b (L, z) (L, z)) (0 : Int) = some true := by
  have h3 : ah (ay b b (L, z) (L, z) (iH L L.length)) (0 : Int) = some true := by
    refine dm (fun i => (i : Int)) L.length (fun i hi => ?_) ?_
    · unfold ay
      simp only []
      rw [if_pos (by omega)]
      exact uV L z i hi (by omega) (by have := hx _ (List.getElem_mem hi); omega)
    · unfold ay
      simp only []
      rw [if_neg (by omega), lF b (by omega)]
      simp only [Option.bind_some, if_true]
      rw [rD]
      rfl
  have h1 : ah (aA b b (L, z) (L, z)) (L, (0 : Int)) = some true := by
    have h0 : (L, (0 : Int)) = (iH L 0, ((0 : Nat) : Int)) := by
      have : iH L 0 = L := List.ext_getElem (by simp [dU]) fun j h1 h2 => by rw [iw L 0 j h2, if_neg (by omega)]
      rw [this]; rfl
    rw [h0]
    refine dm (fun i => (iH L i, (i : Int))) L.length (fun i hi => ?_) ?_
    · have hat := iw L i i hi
      rw [if_neg (by omega)] at hat
      unfold aA
      simp only []
      rw [if_pos (by omega), uU (iH L i) i (by rw [dU]; exact hi) (by omega) (by rw [hat]; have := hx _ (List.getElem_mem hi); omega), hat, pg L i hi]
    · unfold aA
      simp only []
      rw [if_neg (by omega), h3]
      rfl
  refine dm (fun i => (i : Int)) L.length (fun i hi => ?_) ?_
  · unfold aB
    simp only []
    rw [if_pos (by omega), aP hi]
    simp only [Option.bind_some]
    rw [lF _ (by have := hx _ (List.getElem_mem hi); omega)]
    simp only [Option.bind_some, Bool.not_true, Bool.false_eq_true, if_false]
    rw [d_ i (by omega)]
  · unfold aB
    simp only []
    rw [if_neg (by omega), h1]
    rfl
theorem jB (b : List UInt8) (hb : b.length ≤ 1048576) (n : Int) (hn : -9223372036854775808 ≤ n ∧ n ≤ 9223372036854775807) : bI b n = some true := by
  unfold bI df
  rw [ou (by simp; omega)]
  simp only [Option.bind_some, List.nil_append]
  rw [yN b hb n]
  simp only [Option.bind_some]
  rw [yO b hb n]
  simp only [Option.bind_some]
  rw [if_neg (by simp), lF b (by omega)]
  simp only [Option.bind_some, Bool.not_true, Bool.false_eq_true, if_false]
  by_cases h : n < 1
  · rw [if_pos h]
    exact l9 b hb [] 1 (by simp) (fun x hx => by cases hx)
  · rw [if_neg h]
    obtain ⟨h1, h2⟩ := ry n.toNat (by omega) b.length b (Nat.le_refl _)
    exact l9 b hb _ 0 (by omega) (fun x hx => by have := h2 x hx; omega)
end Go.Sx
