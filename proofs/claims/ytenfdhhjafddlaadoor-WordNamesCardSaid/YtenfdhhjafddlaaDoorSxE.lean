import Derived.Test.YtenfdhhjafddlaaDoorSxD
import Derived.Maps.AppendAt
namespace Go.Sx
open Go.RowKit
set_option linter.unusedSimpArgs false
set_option linter.unusedVariables false

/-- a piece of memory that the call owns: what it says, of which blocks -/
structure HP where
  p : World → (Nat → Prop) → Prop
  loc : ∀ w w' S, p w S → (∀ b, S b → w'.heap[b]? = w.heap[b]?) → p w' S

def Sep (w : World) (N : Nat) : (Nat → Prop) → List HP → Prop
  | _, [] => True
  | T, h :: hs => ∃ S : Nat → Prop, h.p w S ∧ (∀ b, S b → b < N ∧ ¬ T b) ∧ Sep w N (fun b => T b ∨ S b) hs

theorem Sep.weak {w : World} {N N' : Nat} (hN : N ≤ N') : ∀ (hs : List HP) (T T' : Nat → Prop), (∀ b, T' b → T b) → Sep w N T hs → Sep w N' T' hs := by
  intro hs
  induction hs with
  | nil => intro T T' h hs; trivial
  | cons h hs ih =>
    rintro T T' hT ⟨S, h1, h2, h3⟩
    refine ⟨S, h1, fun b hb => ⟨Nat.lt_of_lt_of_le (h2 b hb).1 hN, fun ht => (h2 b hb).2 (hT b ht)⟩, ih _ _ ?_ h3⟩
    rintro b (hb | hb)
    · exact .inl (hT b hb)
    · exact .inr hb

theorem Sep.keep {w w' : World} {N : Nat} : ∀ (hs : List HP) (T : Nat → Prop), (∀ b, b < N → ¬ T b → w'.heap[b]? = w.heap[b]?) → Sep w N T hs → Sep w' N T hs := by
  intro hs
  induction hs with
  | nil => intro T h hs; trivial
  | cons h hs ih =>
    rintro T hT ⟨S, h1, h2, h3⟩
    refine ⟨S, h.loc _ _ _ h1 fun b hb => hT b (h2 b hb).1 (h2 b hb).2, h2, ih _ ?_ h3⟩
    intro b hb hnt
    exact hT b hb fun ht => hnt (.inl ht)

theorem Sep.app {w : World} {N N' : Nat} (hN : N ≤ N') (as : List HP) (ha : Sep w N' (fun b => b < N) as) : ∀ (hs : List HP) (T : Nat → Prop), (∀ b, T b → b < N) → Sep w N T hs → Sep w N' T (hs ++ as) := by
  intro hs
  induction hs with
  | nil => intro T hT h; exact Sep.weak (Nat.le_refl _) as _ _ hT ha
  | cons h hs ih =>
    rintro T hT ⟨S, h1, h2, h3⟩
    refine ⟨S, h1, fun b hb => ⟨Nat.lt_of_lt_of_le (h2 b hb).1 hN, (h2 b hb).2⟩, ih _ ?_ h3⟩
    rintro b (hb | hb)
    · exact hT b hb
    · exact (h2 b hb).1

/-- one piece turns: its own blocks alone, and new ones -/
theorem Sep.upd {w w' : World} {N N' : Nat} (hN : N ≤ N') {h h' : HP} (hstep : ∀ S, h.p w S → (∀ b, S b → b < N) → ∃ S', h'.p w' S' ∧ (∀ b, S' b → b < N' ∧ (S b ∨ N ≤ b)) ∧ ∀ b, b < N → ¬ S b → w'.heap[b]? = w.heap[b]?) :
    ∀ (hs : List HP) (i : Nat) (T : Nat → Prop), (∀ b, T b → b < N) → hs[i]? = some h → Sep w N T hs → Sep w' N' T (hs.set i h') ∧ ∀ b, T b → w'.heap[b]? = w.heap[b]? := by
  intro hs
  induction hs with
  | nil => intro i T hT hi; simp at hi
  | cons x hs ih =>
    rintro i T hT hi ⟨S, h1, h2, h3⟩
    cases i with
    | zero =>
      simp only [List.getElem?_cons_zero, Option.some.injEq] at hi
      subst hi
      obtain ⟨S', e1, e2, e3⟩ := hstep S h1 fun b hb => (h2 b hb).1
      refine ⟨⟨S', e1, fun b hb => ⟨(e2 b hb).1, fun ht => ?_⟩, ?_⟩, fun b hb => e3 b (hT b hb) fun hs => (h2 b hs).2 hb⟩
      · rcases (e2 b hb).2 with hs | hs
        · exact (h2 b hs).2 ht
        · have := hT b ht; omega
      · have k1 : Sep w' N (fun b => T b ∨ S b) hs := Sep.keep hs _ (fun b hb hnt => e3 b hb fun hs => hnt (.inr hs)) h3
        -- the blocks of the rest lie below N, apart from T and S
        have k2 : ∀ (l : List HP) (U V : Nat → Prop), (∀ b, b < N → V b → U b) → Sep w' N U l → Sep w' N' V l := by
          intro l
          induction l with
          | nil => intro U V hUV hl; trivial
          | cons y l ihl =>
            rintro U V hUV ⟨S1, f1, f2, f3⟩
            refine ⟨S1, f1, fun b hb => ⟨Nat.lt_of_lt_of_le (f2 b hb).1 hN, fun hv => (f2 b hb).2 (hUV b (f2 b hb).1 hv)⟩, ihl _ _ ?_ f3⟩
            rintro b hbn (hb | hb)
            · exact .inl (hUV b hbn hb)
            · exact .inr hb
        refine k2 hs _ _ ?_ k1
        rintro b hbn (hb | hb)
        · exact .inl hb
        · rcases (e2 b hb).2 with hs | hs
          · exact .inr hs
          · omega
    | succ i =>
      simp only [List.getElem?_cons_succ] at hi
      obtain ⟨e1, e2⟩ := ih i (fun b => T b ∨ S b) (fun b hb => hb.elim (fun x => hT b x) (fun x => (h2 b x).1)) hi h3
      exact ⟨⟨S, x.loc _ _ _ h1 fun b hb => e2 b (.inr hb), fun b hb => ⟨Nat.lt_of_lt_of_le (h2 b hb).1 hN, (h2 b hb).2⟩, e1⟩, fun b hb => e2 b (.inl hb)⟩

theorem Sep.get {w : World} {N : Nat} {h : HP} : ∀ (hs : List HP) (i : Nat) (T : Nat → Prop), hs[i]? = some h → Sep w N T hs → ∃ S, h.p w S ∧ ∀ b, S b → b < N ∧ ¬ T b := by
  intro hs
  induction hs with
  | nil => intro i T hi; simp at hi
  | cons x hs ih =>
    rintro i T hi ⟨S, h1, h2, h3⟩
    cases i with
    | zero =>
      simp only [List.getElem?_cons_zero, Option.some.injEq] at hi
      subst hi
      exact ⟨S, h1, h2⟩
    | succ i =>
      simp only [List.getElem?_cons_succ] at hi
      obtain ⟨S', e1, e2⟩ := ih i _ hi h3
      exact ⟨S', e1, fun b hb => ⟨(e2 b hb).1, fun ht => (e2 b hb).2 (.inl ht)⟩⟩

theorem Sep.drop {w : World} {N : Nat} : ∀ (hs : List HP) (i : Nat) (T : Nat → Prop), Sep w N T hs → Sep w N T (hs.eraseIdx i) := by
  intro hs
  induction hs with
  | nil => intro i T h; trivial
  | cons x hs ih =>
    rintro i T ⟨S, h1, h2, h3⟩
    cases i with
    | zero => exact Sep.weak (Nat.le_refl _) hs _ _ (fun b hb => .inl hb) h3
    | succ i => exact ⟨S, h1, h2, ih i _ h3⟩

/-- THE MEMORY: what was there at w0 is as it was; of the call's own memory these pieces are known. -/
structure Cx (w0 w : World) (hs : List HP) : Prop where
  below : Below w0.heap.size w0 w
  sep : Sep w w.heap.size (fun b => b < w0.heap.size) hs

theorem Cx.refl (w : World) : Cx w w [] := ⟨Below.refl _ _, trivial⟩
theorem Cx.drew {w0 w : World} {hs : List HP} (h : Cx w0 w hs) (m : Nat) : Cx w0 (w.drewN m) hs :=
  ⟨⟨h.below.os, h.below.tape, h.below.output, h.below.size, h.below.block⟩, Sep.keep (w := w) (w' := w.drewN m) (N := w.heap.size) hs _ (fun _ _ _ => rfl) h.sep⟩
theorem Cx.call {w0 w w' : World} {hs as : List HP} (h : Cx w0 w hs) (k : Cx w w' as) : Cx w0 w' (hs ++ as) := by
  refine ⟨h.below.trans (k.below.mono h.below.size), ?_⟩
  have h1 : Sep w' w.heap.size (fun b => b < w0.heap.size) hs := Sep.keep hs _ (fun b hb _ => k.below.block b hb) h.sep
  exact Sep.app k.below.size as k.sep hs _ (fun b hb => Nat.lt_of_lt_of_le hb h.below.size) h1
theorem Cx.drop {w0 w : World} {hs : List HP} (h : Cx w0 w hs) (i : Nat) : Cx w0 w (hs.eraseIdx i) := ⟨h.below, Sep.drop hs i _ h.sep⟩
theorem Cx.none_ {w0 w : World} {hs : List HP} (h : Cx w0 w hs) : Cx w0 w [] := ⟨h.below, trivial⟩
theorem Cx.upd {w0 w w' : World} {hs : List HP} {h h' : HP} (k : Cx w0 w hs) (i : Nat) (hi : hs[i]? = some h) (row : Option Nat) (hg : w.grownBy w' row)
    (hstep : ∀ S, h.p w S → (∀ g, row = some g → S g) ∧ ∃ S', h'.p w' S' ∧ ∀ b, S' b → b < w'.heap.size ∧ (S b ∨ w.heap.size ≤ b)) : Cx w0 w' (hs.set i h') := by
  have hrow : ∀ S, h.p w S → ∀ b, b < w.heap.size → ¬ S b → w'.heap[b]? = w.heap[b]? := by
    intro S hS b hb hn
    refine hg.block b hb fun e => ?_
    exact hn ((hstep S hS).1 b e.symm)
  obtain ⟨e1, e2⟩ := Sep.upd hg.size (h := h) (h' := h') (fun S hS _ => by
    obtain ⟨_, S', f1, f2⟩ := hstep S hS
    exact ⟨S', f1, f2, hrow S hS⟩) hs i _ (fun b hb => Nat.lt_of_lt_of_le hb k.below.size) hi k.sep
  refine ⟨k.below.trans ⟨hg.os, hg.tape, hg.output, hg.size, fun b hb => e2 b hb⟩, e1⟩

/-! ### an owned slice -/
variable {α : Type}
def OwS (e : TypeId) (φ : α → Value) (A : Option Addr) (n c : Nat) (xs : List α) : HP where
  p w S := w.ownsRow 0 e 1 (.slice A n c) n (xs.map φ) ∧ ∀ b, (Value.slice A n c).ownBlock = some b → S b
  loc := by
    rintro w w' S ⟨h1, h2⟩ hS
    refine ⟨⟨h1.1, ?_⟩, h2⟩
    rcases h1.2 with hn | ⟨g, cap, cur, hv, hb, hgg, rest⟩
    · exact .inl hn
    · refine .inr ⟨g, cap, cur, hv, hb, ?_, rest⟩
      rw [hS g (h2 g (by rw [hv]; rfl))]
      exact hgg

theorem OwS.len {e : TypeId} {φ : α → Value} {A : Option Addr} {n c : Nat} {xs : List α} {w : World} {S : Nat → Prop} (h : (OwS e φ A n c xs).p w S) : xs.length = n := by
  have := h.1.1
  simpa using this
theorem OwS.rd {e : TypeId} {φ : α → Value} {A : Option Addr} {n c : Nat} {xs : List α} {w : World} {S : Nat → Prop} (h : (OwS e φ A n c xs).p w S) : Rd w A (xs.map φ) := by
  have hl := OwS.len h
  obtain ⟨h1, _⟩ := h
  rcases h1.2 with ⟨hv, hx⟩ | ⟨g, cap, cur, hv, _⟩
  · have : xs.map φ = [] := by rw [List.eq_nil_of_length_eq_zero (hl.trans hx)]; rfl
    rw [this]
    exact ⟨fun h => absurd rfl h, fun _ j u _ hu => by simp at hu⟩
  · simp only [Value.slice.injEq] at hv
    obtain ⟨rfl, _, _⟩ := hv
    refine ⟨fun _ => ⟨_, rfl⟩, fun a j u ha hu => ?_⟩
    cases ha
    exact h1.cells (g := g) rfl j u hu
theorem Cx.len {w0 w : World} {hs : List HP} {e : TypeId} {φ : α → Value} {A : Option Addr} {n c : Nat} {xs : List α} (k : Cx w0 w hs) (i : Nat) (hi : hs[i]? = some (OwS e φ A n c xs)) : xs.length = n := by
  obtain ⟨S, h, _⟩ := Sep.get hs i _ hi k.sep
  exact OwS.len h
theorem Cx.rd {w0 w : World} {hs : List HP} {e : TypeId} {φ : α → Value} {A : Option Addr} {n c : Nat} {xs : List α} (k : Cx w0 w hs) (i : Nat) (hi : hs[i]? = some (OwS e φ A n c xs)) : Rd w A (xs.map φ) := by
  obtain ⟨S, h, _⟩ := Sep.get hs i _ hi k.sep
  exact OwS.rd h
theorem Rd.below {w w' : World} {A : Option Addr} {cs : List Value} (h : Rd w A cs) (hb : Below w.heap.size w w') : Rd w' A cs :=
  ⟨h.1, fun a j u ha hu => by
    have h1 := h.2 a j u ha hu
    rw [hb.cell (World.block_lt_of_cell? w _ h1)]
    exact h1⟩
theorem Rd.cx {w w' : World} {hs : List HP} {A : Option Addr} {cs : List Value} (h : Rd w A cs) (k : Cx w w' hs) : Rd w' A cs := h.below k.below
/-! ### what the element's type is -/
structure TF (P : Program) (t e : TypeId) (z : Value) (bytes : Nat) : Prop where
  ht : P.underlying t = some (.slice e)
  hi : (P.info? e).map (fun i => (i.zero, i.size, i.bytes)) = some (some z, 1, bytes)
  hz : z.cells = #[z]
  hb : 0 < bytes

def one (φ : α → Value) : Prop := ∀ x, (φ x).oneCell' = true

theorem Rd.len {w : World} {A : Option Addr} {cs : List Value} (h : Rd w A cs) : cs ≠ [] → ∃ a, A = some a := h.1

section
variable {P : Program} {n : Nat} {Q : Exit → Act → World → Prop} {ops : Array Oper} {rest : List Oper} {L : St} {w w0 : World} {hs : List HP} {K : St → World → Prop}

theorem run_app {t e : TypeId} {z : Value} {bytes : Nat} (tf : TF P t e z bytes) {φ : α → Value} (hφ : one φ) {A A2 : Option Addr} {n m c c2 : Nat} {xs ys : List α} (ty : TypeId) (hm : ys.length = m)
    (hown : w.ownsRow 0 e 1 (.slice A n c) n (xs.map φ)) (hr : Rd w A2 (ys.map φ)) (hroom : (n + m) * bytes ≤ 140737488355328) :
    ∃ A' c' w', (Builtin.append_ #[t, t] ty #[.slice A n c, .slice A2 m c2]).run P w = .ok (.slice A' (n + m) c') w' ∧ w'.ownsRow 0 e 1 (.slice A' (n + m) c') (n + m) ((xs ++ ys).map φ) ∧
      w.grownBy w' (Value.slice A n c).ownBlock ∧ ∀ b, (Value.slice A' (n + m) c').ownBlock = some b → b < w'.heap.size ∧ ((Value.slice A n c).ownBlock = some b ∨ w.heap.size ≤ b) := by
  obtain ⟨i, hi, hz0, hz1, hz2⟩ := info_parts tf.hi
  have hml : n + m ≤ maxLen := by
    have := Nat.le_mul_of_pos_right (n + m) tf.hb
    unfold maxLen
    omega
  have main : ∃ v' w', (Builtin.append_ #[t, t] ty #[.slice A n c, .slice A2 m c2]).run P w = .ok v' w' ∧ w'.ownsRow 0 e 1 v' (n + m) (xs.map φ ++ ys.map φ) ∧ w.grownBy w' (Value.slice A n c).ownBlock ∧
      (v'.ownBlock = (Value.slice A n c).ownBlock ∨ v'.ownBlock = some w.heap.size ∨ v'.ownBlock = none) := by
    cases A2 with
    | none =>
      have hy : ys = [] := by
        cases ys with
        | nil => rfl
        | cons y ys => obtain ⟨a, ha⟩ := hr.1 (by simp); cases ha
      subst hy
      simp only [List.length_nil] at hm
      subst hm
      refine ⟨_, w, ?_, by simpa using hown, ⟨rfl, rfl, rfl, Nat.le_refl _, fun _ _ _ => rfl⟩, .inl rfl⟩
      rcases hown.2 with ⟨hv, hn⟩ | ⟨g, cap, cur, hv, _, _, hnc, _⟩
      · simp only [Value.slice.injEq] at hv
        obtain ⟨rfl, hx, rfl⟩ := hv
        simp [Builtin.append_, run_underlying tf.ht, sizeOf, typeInfo, hi, Builtin.lenOf, Builtin.firstCells, hx]
      · simp only [Value.slice.injEq] at hv
        obtain ⟨rfl, _, rfl⟩ := hv
        simp [Builtin.append_, run_underlying tf.ht, sizeOf, typeInfo, hi, Builtin.lenOf, Builtin.firstCells, hnc, storeCells]
    | some a =>
      subst hm
      obtain ⟨v', w', h1, h2, h3, _, h5⟩ := run_append_own_at (P := P) w 0 t ty e i z 1 bytes tf.ht hi hz0 hz1 hz2 (by rw [tf.hz]; rfl) (by omega) (.slice A n c) n (xs.map φ) hown a ys.length c2 (ys.map φ) (by simp)
        (fun j u hu => hr.2 a j u rfl hu) (by intro u hu; obtain ⟨y, _, rfl⟩ := List.mem_map.1 hu; exact hφ y) hml hroom (Nat.zero_le _)
      exact ⟨v', w', h1, h2, h3, h5.imp id .inl⟩
  obtain ⟨v', w', h1, h2, h3, h4⟩ := main
  have hform : ∃ A' c', v' = .slice A' (n + m) c' := by
    rcases h2.2 with ⟨rfl, hn⟩ | ⟨g, cap, cur, rfl, _⟩
    · exact ⟨none, 0, by rw [hn]⟩
    · exact ⟨some ⟨g, 0, none⟩, cap, rfl⟩
  obtain ⟨A', c', rfl⟩ := hform
  refine ⟨A', c', w', h1, ?_, h3, ?_⟩
  · rw [List.map_append]
    exact h2
  · intro b hb
    have hlt := (h2.lt b hb).2
    refine ⟨hlt, ?_⟩
    rcases h4 with h4 | h4 | h4
    · rw [h4] at hb; exact .inl hb
    · rw [h4] at hb; simp at hb; exact .inr (by omega)
    · rw [h4] at hb; cases hb

/-- append onto a slice of the call's own -/
theorem Op_append {dst : Option Nat} {x y : Operand} {t ty : TypeId} {pos : String} {aft : Array Edge} {g : Option (Nat × Bool)} {e : TypeId} {z : Value} {bytes : Nat} (tf : TF P t e z bytes)
    {φ : α → Value} (hφ : one φ) (ss : List Nat) (d : Nat) (i : Nat) {A A2 : Option Addr} {n1 m c c2 : Nat} {xs ys : List α}
    (hside : (gok ops ss L ⟨dst, .call ⟨.builtin .append, #[x, y], #[t, t]⟩, ty, pos, aft, g⟩, dst, (decide (d < n)), (L.any fun p => p.1 == d), toSS [x, y] (lk L)) = (true, some d, true, false, some [.v (.slice A n1 c), .v (.slice A2 m c2)]))
    (k : Cx w0 w hs) (hi : hs[i]? = some (OwS e φ A n1 c xs)) (hm : ys.length = m) (hr : Rd w A2 (ys.map φ)) (hroom : (n1 + m) * bytes ≤ 140737488355328)
    (hk : ∀ A' c' w', Cx w0 w' (hs.set i (OwS e φ A' (n1 + m) c' (xs ++ ys))) → K ((d, .v (.slice A' (n1 + m) c')) :: L) w') :
    Op1 P n ops L w ⟨dst, .call ⟨.builtin .append, #[x, y], #[t, t]⟩, ty, pos, aft, g⟩ K := by
  refine WL_of ss hside fun a ha he => ?_
  have hd : dst = some d := by simp only [Prod.mk.injEq] at hside; exact hside.2.1
  subst hd
  simp only [List.map_cons, List.map_nil, SV.vals, SV.val, List.cons.injEq, and_true] at he
  obtain ⟨S, hS, _⟩ := Sep.get hs i _ hi k.sep
  obtain ⟨A', c', w', hrun, hown, hgrow, hblk⟩ := run_app (P := P) tf hφ (c2 := c2) ty hm hS.1 hr hroom
  unfold Oper.wp execOp
  simp only [resolve, invoke, builtin, Sem.run_bind, Sem.run_pure, Result.andThen_ok, List.map_toArray, List.map_cons, List.map_nil, he.1, he.2, hrun]
  refine ⟨.v (.slice A' (n1 + m) c'), rfl, hk A' c' w' ?_⟩
  refine k.upd i hi _ hgrow fun S hS => ⟨fun b hb => hS.2 b hb, fun b => (Value.slice A' (n1 + m) c').ownBlock = some b, ⟨hown, fun b hb => hb⟩, fun b hb => ⟨(hblk b hb).1, ?_⟩⟩
  rcases (hblk b hb).2 with h | h
  · exact .inl (hS.2 b h)
  · exact .inr h
end
end Go.Sx
