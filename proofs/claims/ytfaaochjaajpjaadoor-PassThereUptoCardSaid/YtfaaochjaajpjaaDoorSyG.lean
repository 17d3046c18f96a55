import Derived.Test.YtfaaochjaajpjaaDoorSyF
namespace Go.Sx
open Go.RowKit
set_option linter.unusedSimpArgs false
set_option linter.unusedVariables false
variable {α β : Type}

/-! ### rows that may be written -/
def NF (fr : Nat × Nat) (n : Nat) : Prop := fr.2 = fr.1 ∨ n ≤ fr.1
def Rw (w : World) (g : Nat) (cur : Array Value) (t : TypeId) : Prop := ∃ fr, w.heap[g]? = some (.cells cur t fr) ∧ NF fr cur.size
theorem Rw.lt {w : World} {g : Nat} {cur : Array Value} {t : TypeId} (h : Rw w g cur t) : g < w.heap.size := by
  obtain ⟨fr, h, _⟩ := h
  exact (Array.getElem?_eq_some_iff.1 h).1
theorem Rw.keep {w w' : World} {g : Nat} {cur : Array Value} {t : TypeId} (h : Rw w g cur t) (he : w'.heap[g]? = w.heap[g]?) : Rw w' g cur t := by
  obtain ⟨fr, h, h2⟩ := h
  exact ⟨fr, by rw [he]; exact h, h2⟩
theorem Rw.inj {w : World} {g : Nat} {cur cur' : Array Value} {t t' : TypeId} (h : Rw w g cur t) (h' : Rw w g cur' t') : cur = cur' ∧ t = t' := by
  obtain ⟨fr, h, _⟩ := h
  obtain ⟨fr', h', _⟩ := h'
  rw [h] at h'
  simp only [Option.some.injEq, Obj.cells.injEq] at h'
  exact ⟨h'.1, h'.2.1⟩
theorem Rw.cell {w : World} {g : Nat} {cur : Array Value} {t : TypeId} (h : Rw w g cur t) (j : Nat) : w.cell? ⟨g, j, none⟩ = cur[j]? := by
  obtain ⟨fr, h, _⟩ := h
  exact cell_of_row w g j cur t fr h
theorem Rw.new (w : World) (cur : Array Value) (t : TypeId) : Rw (w.alloc (.cells cur t)) w.heap.size cur t := ⟨(0, 0), heap_alloc_new w _, .inl rfl⟩
theorem Rw.set {w : World} {g : Nat} {cur cs : Array Value} {t : TypeId} (h : Rw w g cur t) (hs : cs.size = cur.size) : Rw (w.setRow g cs) g cs t := by
  obtain ⟨fr, h, h2⟩ := h
  exact ⟨fr, setRow_heap w g cur cs t fr h, by rw [hs]; exact h2⟩
theorem run_storeCells_rw (P : Program) (g o : Nat) (t : TypeId) : ∀ (vs : List Value) (i : Nat) (cur : Array Value) (w : World), Rw w g cur t → o + i + vs.length ≤ cur.size → (∀ v ∈ vs, v.oneCell' = true) →
    (storeCells ⟨g, o, none⟩ vs i).run P w = .ok () (w.setRow g (cur.toList.take (o + i) ++ vs ++ cur.toList.drop (o + i + vs.length)).toArray)
  | [], i, cur, w, hg, _, _ => by
    simp only [storeCells, List.append_nil, List.length_nil, Nat.add_zero, List.take_append_drop, Array.toArray_toList]
    obtain ⟨fr, hg, _⟩ := hg
    rw [setRow_self w g cur t fr hg]
    rfl
  | v :: rest, i, cur, w, hg, hl, h1 => by
    have hi : o + i < cur.size := by simp at hl; omega
    have hadd : (⟨g, o, none⟩ : Addr).add i = ⟨g, o + i, none⟩ := by unfold Addr.add; split <;> simp_all
    obtain ⟨fr, hg, hn⟩ := hg
    have hcell : w.cell? ⟨g, o + i, none⟩ = some cur[o + i] := by simp [World.cell?, hg, hi]
    have hfro : w.frozen? ⟨g, o + i, none⟩ = false := by
      simp only [World.frozen?, hg, Bool.and_eq_false_iff, decide_eq_false_iff_not]
      rcases hn with hn | hn
      · by_cases h : fr.1 ≤ o + i
        · exact .inr (by omega)
        · exact .inl h
      · exact .inl (by omega)
    have hst : (store ((⟨g, o, none⟩ : Addr).add i) v).run P w = .ok () (w.setRow g (cur.setIfInBounds (o + i) v)) := by
      rw [hadd, run_store P w _ v _ (h1 v (by simp)), hcell]
      simp [hfro, setCell_eq_setRow w g (o + i) cur t fr v hg]
    have ih := run_storeCells_rw P g o t rest (i + 1) (cur.setIfInBounds (o + i) v) (w.setRow g (cur.setIfInBounds (o + i) v)) ⟨fr, setRow_heap w g cur _ t fr hg, by simpa using hn⟩ (by simp at hl ⊢; omega) (fun x hx => h1 x (by simp [hx]))
    simp only [storeCells, Sem.run_bind, hst, Result.andThen_ok, ih, setRow_setRow]
    congr 3
    have e := list_seg_step cur.toList (o + i) v rest (by simp at hl ⊢; omega)
    simpa [Array.toList_setIfInBounds, Nat.add_assoc] using e

/-! ### pieces of memory -/
/-- a row of the call's own: from its block's beginning on; behind it may lie more -/
def Ow (E : Enc α) (A : Option Addr) (n c : Nat) (xs : List α) : HP where
  p w S R := xs.length = n ∧ ((A = none ∧ n = 0 ∧ c = 0) ∨ ∃ g t cur, A = some ⟨g, 0, none⟩ ∧ Rw w g cur t ∧ n ≤ c ∧ c ≤ maxLen ∧ c * E.sz ≤ cur.size ∧ cur.toList.take (n * E.sz) = E.all xs ∧ S g)
  loc := by
    rintro w w' S R ⟨h0, h⟩ hk
    refine ⟨h0, h.imp id ?_⟩
    rintro ⟨g, t, cur, h1, h2, h3⟩
    exact ⟨g, t, cur, h1, h2.keep (hk g (.inl h3.2.2.2.2)), h3⟩
/-- a variable -/
def Bx (t : TypeId) (g : Nat) (ys : List SV) : HP where
  p w S R := Rw w g ⟨SV.cl ys⟩ t ∧ S g
  loc := by
    rintro w w' S R ⟨h1, h2⟩ hk
    exact ⟨h1.keep (hk g (.inl h2)), h2⟩
/-- what lies about a window -/
structure Win where
  g : Nat
  t : TypeId
  pre : List Value
  post : List Value
/-- a window of a block, that may be written -/
def Mw (E : Enc α) (A : Option Addr) (n : Nat) (xs : List α) (G : Win) : HP where
  p w S R := xs.length = n ∧ ((A = none ∧ n = 0) ∨ (A = some ⟨G.g, G.pre.length, none⟩ ∧ Rw w G.g ⟨G.pre ++ E.all xs ++ G.post⟩ G.t ∧ S G.g))
  loc := by
    rintro w w' S R ⟨h0, h⟩ hk
    refine ⟨h0, h.imp id ?_⟩
    rintro ⟨h1, h2, h3⟩
    exact ⟨h1, h2.keep (hk G.g (.inl h3)), h3⟩

theorem Ow.rd' {E : Enc α} {A : Option Addr} {n c : Nat} {xs : List α} {w : World} {S R : Nat → Prop} (h : (Ow E A n c xs).p w S R) : Rd w A (E.all xs) := by
  obtain ⟨h0, h⟩ := h
  rcases h with ⟨_, hn, _⟩ | ⟨g, t, cur, rfl, h2, h3, h4, h5, h6, h7⟩
  · have : xs = [] := List.eq_nil_of_length_eq_zero (h0.trans hn)
    subst this
    exact ⟨fun h => absurd rfl h, fun _ j u _ hu => by simp [Enc.all] at hu⟩
  · refine ⟨fun _ => ⟨_, rfl⟩, fun a j u ha hu => ?_⟩
    cases ha
    have e1 : (⟨g, 0, none⟩ : Addr).add j = ⟨g, j, none⟩ := by unfold Addr.add; split <;> simp_all
    rw [e1, h2.cell j, ← Array.getElem?_toList]
    rw [← h6, List.getElem?_take] at hu
    split at hu
    · exact hu
    · cases hu
section
variable {F O : Nat → Prop} {w0 w w' : World} {hs : List HP}
theorem Cx.len {E : Enc α} {A : Option Addr} {n c : Nat} {xs : List α} (k : Cx F O w0 w hs) (i : Nat) (hi : hs[i]? = some (Ow E A n c xs)) : xs.length = n := by
  obtain ⟨S, R, h⟩ := k.get i hi
  exact h.1
theorem Cx.rd {E : Enc α} {A : Option Addr} {n c : Nat} {xs : List α} (k : Cx F O w0 w hs) (i : Nat) (hi : hs[i]? = some (Ow E A n c xs)) : Rd w A (E.all xs) := by
  obtain ⟨S, R, h⟩ := k.get i hi
  exact Ow.rd' h
theorem Cx.lec {E : Enc α} {A : Option Addr} {n c : Nat} {xs : List α} (k : Cx F O w0 w hs) (i : Nat) (hi : hs[i]? = some (Ow E A n c xs)) : n ≤ c := by
  obtain ⟨S, R, h⟩ := k.get i hi
  rcases h.2 with ⟨_, h1, h2⟩ | ⟨g, t, cur, _, _, h3, _⟩ <;> omega
theorem Cx.mlen {E : Enc α} {A : Option Addr} {n : Nat} {G : Win} {xs : List α} (k : Cx F O w0 w hs) (i : Nat) (hi : hs[i]? = some (Mw E A n xs G)) : xs.length = n := by
  obtain ⟨S, R, h⟩ := k.get i hi
  exact h.1
theorem Cx.mrd {E : Enc α} {A : Option Addr} {n : Nat} {G : Win} {xs : List α} (k : Cx F O w0 w hs) (i : Nat) (hi : hs[i]? = some (Mw E A n xs G)) : Rd w A (E.all xs) := by
  obtain ⟨S, R, h0, h⟩ := k.get i hi
  rcases h with ⟨_, hn⟩ | ⟨rfl, h2, h3⟩
  · have : xs = [] := List.eq_nil_of_length_eq_zero (h0.trans hn)
    subst this
    exact ⟨fun h => absurd rfl h, fun _ j u _ hu => by simp [Enc.all] at hu⟩
  · refine ⟨fun _ => ⟨_, rfl⟩, fun a j u ha hu => ?_⟩
    cases ha
    have e1 : (⟨G.g, G.pre.length, none⟩ : Addr).add j = ⟨G.g, G.pre.length + j, none⟩ := by unfold Addr.add; split <;> simp_all
    rw [e1, h2.cell]
    have hj := (List.getElem?_eq_some_iff.1 hu).1
    simp only [List.getElem?_toArray, List.append_assoc]
    rw [List.getElem?_append_right (by omega), List.getElem?_append_left (by omega)]
    rw [show G.pre.length + j - G.pre.length = j from by omega]
    exact hu
theorem Cx.bxh {t : TypeId} {g : Nat} {ys : List SV} (k : Cx F O w0 w hs) (i : Nat) (hi : hs[i]? = some (Bx t g ys)) : Rw w g ⟨SV.cl ys⟩ t := by
  obtain ⟨S, R, h⟩ := k.get i hi
  exact h.1
theorem Cx.brd {t : TypeId} {g : Nat} {ys : List SV} (k : Cx F O w0 w hs) (i : Nat) (hi : hs[i]? = some (Bx t g ys)) : Rd w (some ⟨g, 0, none⟩) (SV.cl ys) := by
  refine ⟨fun _ => ⟨_, rfl⟩, fun a j u ha hu => ?_⟩
  cases ha
  have e : (⟨g, 0, none⟩ : Addr).add j = ⟨g, j, none⟩ := by unfold Addr.add; split <;> simp_all
  rw [e, (k.bxh i hi).cell j]
  simpa using hu

/-- what was there ahead of the call, and is nobody's to write -/
def Ro (F : Nat → Prop) (w : World) (A : Option Addr) (cs : List Value) : Prop := Rd w A cs ∧ (cs ≠ [] → ∀ a, A = some a → ¬ F a.block)
theorem addr_add_block (a : Addr) (n : Nat) : (a.add n).block = a.block := by
  unfold Addr.add; split <;> rfl
theorem Ro.cx {A : Option Addr} {cs : List Value} (h : Ro F w0 A cs) (k : Cx F O w0 w hs) : Rd w A cs :=
  ⟨h.1.1, fun a j u ha hu => by
    have h1 := h.1.2 a j u ha hu
    have hb : (a.add j).block < w0.heap.size := World.block_lt_of_cell? w0 _ h1
    have h2 := k.block _ hb (by rw [addr_add_block]; exact h.2 (fun e => by rw [e] at hu; cases hu) a ha)
    rw [World.cell?_of_block h2]
    exact h1⟩
theorem Ro.nil {A : Option Addr} : Ro F w none [] := ⟨⟨fun h => absurd rfl h, fun _ _ _ h => by cases h⟩, fun _ _ h => by cases h⟩
theorem Ro.n0 {A : Option Addr} {cs : List Value} (h : Rd w A cs) : Ro N0 w A cs := ⟨h, fun _ _ _ h => h⟩
theorem fa_block {A : Option Addr} {n : Nat} {a : Addr} (h : fa A n = some a) : ∃ b, A = some b ∧ b.block = a.block := by
  unfold fa at h
  simp only [Option.map_eq_some_iff] at h
  obtain ⟨b, hb, rfl⟩ := h
  exact ⟨b, hb, (addr_add_block b n).symm⟩

/-- a piece is seen in another way -/
theorem Cx.sub {ι : Type} {h : HP} {h' : ι → HP} (k : Cx F O w0 w hs) (i : Nat) (hi : hs[i]? = some h) (he : ∀ S R, h.p w S R → ∃ x, (h' x).p w S R) : ∃ x, Cx F O w0 w (hs.set i (h' x)) := by
  obtain ⟨U, V, h1, h2, h3⟩ := k.sep
  obtain ⟨S, R, U', V', e1, e2, e3, e4, e5, e6⟩ := Sep.cut hi h1
  obtain ⟨x, hx⟩ := he S R e1
  refine ⟨x, k.os, k.tape, k.output, k.size, k.block, k.fin, k.oin, _, _, Sep.put hi hx e2 e5 e6, fun b hb => h2 b ((e3 b).2 hb), fun b hb => h3 b ((e4 b).2 hb)⟩
theorem Cx.as {h h' : HP} (k : Cx F O w0 w hs) (i : Nat) (hi : hs[i]? = some h) (he : ∀ S R, h.p w S R → h'.p w S R) : Cx F O w0 w (hs.set i h') := by
  obtain ⟨_, hk⟩ := k.sub (ι := Unit) (h' := fun _ => h') i hi (fun S R hp => ⟨(), he S R hp⟩)
  exact hk
theorem Cx.front {h : HP} (k : Cx F O w0 w hs) (i : Nat) (hi : hs[i]? = some h) : Cx F O w0 w (h :: hs.eraseIdx i) := by
  obtain ⟨U, V, h1, h2, h3⟩ := k.sep
  obtain ⟨S, R, U', V', e1, e2, e3, e4, e5, e6⟩ := Sep.cut hi h1
  exact ⟨k.os, k.tape, k.output, k.size, k.block, k.fin, k.oin, U, V, ⟨S, R, U', V', e1, e2, e3, e4, e5, e6⟩, h2, h3⟩

/-- a prefix -/
theorem Cx.pre {E : Enc α} {A : Option Addr} {n c : Nat} {xs : List α} (k : Cx F O w0 w hs) (i : Nat) (hi : hs[i]? = some (Ow E A n c xs)) (m c' : Nat) (ys : List α) (hm : m ≤ n) (hmc : m ≤ c') (hc : c' ≤ c) (hy : ys = xs.take m) : Cx F O w0 w (hs.set i (Ow E A m c' ys)) := by
  refine k.as i hi fun S R h => ?_
  subst hy
  obtain ⟨h0, h⟩ := h
  refine ⟨by rw [List.length_take]; omega, ?_⟩
  rcases h with ⟨h1, h2, h3⟩ | ⟨g, t, cur, h1, h2, h3, h4, h5, h6, h7⟩
  · exact .inl ⟨h1, by omega, by omega⟩
  · refine .inr ⟨g, t, cur, h1, h2, hmc, by omega, Nat.le_trans (Nat.mul_le_mul_right _ hc) h5, ?_, h7⟩
    rw [← Enc.all_take, ← h6, List.take_take, Nat.min_eq_left (Nat.mul_le_mul_right _ hm)]
/-- an empty slice that is nil -/
theorem Sep.snoc {h : HP} (hp : h.p w (fun _ => False) (fun _ => False)) {U V : Nat → Prop} (hS : Sep w hs U V) : Sep w (hs ++ [h]) U V := by
  have h1 : Sep w [h] (fun _ => False) (fun _ => False) := ⟨_, _, fun _ => False, fun _ => False, hp, ⟨fun _ h => h, fun _ h => h⟩, by simp, by simp, by simp, by simp⟩
  have h2 := Sep.join hS h1 (fun b _ => ⟨fun h => h, fun h => h⟩) (fun b _ h => h)
  have e1 : (fun b => U b ∨ False) = U := by funext b; simp
  have e2 : (fun b => V b ∨ False) = V := by funext b; simp
  rwa [e1, e2] at h2
theorem Cx.nil (k : Cx F O w0 w hs) (E : Enc α) : Cx F O w0 w (hs ++ [Ow E none 0 0 []]) := by
  obtain ⟨U, V, h1, h2, h3⟩ := k.sep
  exact ⟨k.os, k.tape, k.output, k.size, k.block, k.fin, k.oin, U, V, Sep.snoc (h := Ow E none 0 0 []) ⟨rfl, .inl ⟨rfl, rfl, rfl⟩⟩ h1, h2, h3⟩
/-- a new block -/
theorem Cx.new (k : Cx F O w0 w hs) (o : Obj) (h : HP) (hp : h.p (w.alloc o) (fun b => b = w.heap.size) (fun _ => False)) : Cx F O w0 (w.alloc o) (hs ++ [h]) := by
  refine k.call ⟨rfl, rfl, rfl, by rw [World.size_alloc]; omega, fun b hb _ => heap_alloc_old w o hb, fun _ h => h.elim, fun _ h => h.elim, fun b => b = w.heap.size, fun _ => False,
    ⟨_, _, fun _ => False, fun _ => False, hp, ⟨fun _ h => h, fun _ h => h⟩, by simp, by simp, by simp, by simp⟩, fun b hb => .inr ?_, fun _ h => h.elim⟩
  subst hb
  exact ⟨Nat.le_refl _, by rw [World.size_alloc]; omega⟩

/-! ### writing into a block -/
theorem patch_heap {g : Nat} {cur : Array Value} {t : TypeId} (h : Rw w g cur t) (off : Nat) (vs : List Value) (hl : off + vs.length ≤ cur.size) : Rw (w.setRow g (pat cur.toList off vs).toArray) g (pat cur.toList off vs).toArray t :=
  h.set (by simp only [List.size_toArray]; rw [pat_length (by simpa using hl)]; simp)
theorem grown_patch (g : Nat) (cs : Array Value) : w.grownBy (w.setRow g cs) (some g) :=
  ⟨rfl, rfl, rfl, by simp, fun k _ hk => setRow_other w g k _ (fun e => hk (by simp [e]))⟩

/-- a variable's cells are written over -/
theorem Cx.bput {t : TypeId} {g : Nat} {ys zs : List SV} (k : Cx F O w0 w hs) (i : Nat) (hi : hs[i]? = some (Bx t g ys)) (off : Nat) (vs : List Value) (hz : SV.cl zs = pat (SV.cl ys) off vs) (hl : off + vs.length ≤ SV.width ys) : Cx F O w0 (w.setRow g (pat (SV.cl ys) off vs).toArray) (hs.set i (Bx t g zs)) := by
  refine k.upd1 i hi (some g) (grown_patch g _) fun S R hS hlt => ⟨fun b hb => by cases hb; exact hS.2, fun b => b = g, fun _ => False, ⟨?_, rfl⟩, fun b hb => ?_, fun _ h => h⟩
  · have := patch_heap hS.1 off vs (by simpa [cl_length] using hl)
    rw [hz]
    exact this
  · subst hb
    exact ⟨by simp [World.setRow]; exact hlt _ hS.2, .inl hS.2⟩
/-- a row's cells are written over -/
theorem Cx.oput {E : Enc α} {A : Option Addr} {n c : Nat} {xs xs' : List α} (k : Cx F O w0 w hs) (i : Nat) (hi : hs[i]? = some (Ow E A n c xs)) {g : Nat} {cur : Array Value} {t : TypeId} (hA : A = some ⟨g, 0, none⟩) (hc : Rw w g cur t) (off : Nat) (vs : List Value)
    (hl : xs'.length = xs.length) (hz : E.all xs' = pat (E.all xs) off vs) (hle : off + vs.length ≤ n * E.sz) : Cx F O w0 (w.setRow g (pat cur.toList off vs).toArray) (hs.set i (Ow E A n c xs')) := by
  subst hA
  refine k.upd1 i hi (some g) (grown_patch g _) fun S R hS hlt => ?_
  obtain ⟨h0, h⟩ := hS
  rcases h with ⟨h1, _⟩ | ⟨g', t', cur', h1, h2, h3, h4, h5, h6, h7⟩
  · cases h1
  · simp only [Option.some.injEq, Addr.mk.injEq, and_true] at h1
    subst h1
    obtain ⟨rfl, rfl⟩ := hc.inj h2
    refine ⟨fun b hb => by cases hb; exact h7, fun b => b = g, fun _ => False, ⟨by rw [hl, h0], .inr ⟨g, t, _, rfl, patch_heap hc off vs (by have := Nat.mul_le_mul_right E.sz h3; omega), h3, h4, ?_, ?_, rfl⟩⟩, fun b hb => ?_, fun _ h => h⟩
    · have hsz : off + vs.length ≤ cur.toList.length := by
        have := Nat.mul_le_mul_right E.sz h3
        simp only [Array.length_toList]; omega
      simp only [List.size_toArray, pat_length hsz]
      simpa using h5
    · rw [hz, ← h6]
      simp only [pat]
      have e : cur.toList = cur.toList.take (n * E.sz) ++ cur.toList.drop (n * E.sz) := (List.take_append_drop _ _).symm
      have hsz : n * E.sz ≤ cur.toList.length := by
        have := Nat.mul_le_mul_right E.sz h3
        simp only [Array.length_toList]; omega
      rw [List.take_append, List.take_append]
      simp only [List.length_append, List.length_take]
      rw [List.take_take, List.take_of_length_le (l := vs) (by omega), List.take_take, List.drop_take]
      rw [show min off cur.toList.length = off from by omega, show min (n * E.sz) off = off from by omega, show min off (n * E.sz) = off from by omega]
    · subst hb
      exact ⟨by simp [World.setRow]; exact hlt _ h7, .inl h7⟩
theorem Cx.oat {E : Enc α} {A : Option Addr} {n c : Nat} {xs : List α} (k : Cx F O w0 w hs) (i : Nat) (hi : hs[i]? = some (Ow E A n c xs)) (hA : A.isSome = true) : ∃ g t cur, A = some ⟨g, 0, none⟩ ∧ Rw w g cur t ∧ n * E.sz ≤ cur.size := by
  obtain ⟨S, R, h0, h⟩ := k.get i hi
  rcases h with ⟨rfl, _⟩ | ⟨g, t, cur, h1, h2, h3, h4, h5, h6, h7⟩
  · cases hA
  · exact ⟨g, t, cur, h1, h2, Nat.le_trans (Nat.mul_le_mul_right _ h3) h5⟩
/-- a window's cells are written over -/
theorem Cx.mput {E : Enc α} {A : Option Addr} {n : Nat} {xs xs' : List α} {G : Win} (k : Cx F O w0 w hs) (i : Nat) (hi : hs[i]? = some (Mw E A n xs G)) (hA : A.isSome = true) (off : Nat) (vs : List Value)
    (hl : xs'.length = xs.length) (hz : E.all xs' = pat (E.all xs) off vs) (hle : off + vs.length ≤ n * E.sz) :
    A = some ⟨G.g, G.pre.length, none⟩ ∧ ∃ cur, Rw w G.g cur G.t ∧ G.pre.length + n * E.sz ≤ cur.size ∧ Cx F O w0 (w.setRow G.g (pat cur.toList (G.pre.length + off) vs).toArray) (hs.set i (Mw E A n xs' G)) := by
  obtain ⟨S0, R0, h0, h⟩ := k.get i hi
  rcases h with ⟨rfl, _⟩ | ⟨rfl, h2, h3⟩
  · cases hA
  · refine ⟨rfl, _, h2, by simp [Enc.all_length, h0], ?_⟩
    refine k.upd1 i hi (some G.g) (grown_patch G.g _) fun S R hS hlt => ?_
    obtain ⟨_, h⟩ := hS
    rcases h with ⟨h1, _⟩ | ⟨_, _, h7⟩
    · cases h1
    refine ⟨fun b hb => by cases hb; exact h7, fun b => b = G.g, fun _ => False, ⟨by rw [hl, h0], .inr ⟨rfl, ?_, rfl⟩⟩, fun b hb => ?_, fun _ h => h⟩
    · have := patch_heap h2 (G.pre.length + off) vs (by simp [Enc.all_length, h0]; omega)
      rw [hz, ← pat_mid _ _ _ _ _ (by rw [Enc.all_length, h0]; exact hle)]
      exact this
    · subst hb
      exact ⟨by simp [World.setRow]; exact hlt _ h7, .inl h7⟩
end
end Go.Sx
