import Derived.Test.YtfaaochjaajpjaaDoorSyN
namespace Go.Sx
open Go.RowKit
set_option linter.unusedSimpArgs false
set_option linter.unusedVariables false

/-! ### the same, said shorter: lists are made by matching -/
/-- what is known is kept, left out, or new (the check is made elsewhere) -/
inductive Bl : St → St → Prop
  | a {l} : Bl l l
  | z {l} : Bl l []
  | k {x l l'} : Bl l l' → Bl (x :: l) (x :: l')
  | s {x l l'} : Bl l l' → Bl (x :: l) l'
  | n {l l'} (i : Nat) (v : SV) : Bl l l' → Bl l ((i, v) :: l')
theorem Bl.kk {x y l l'} (h : Bl l l') : Bl (x :: y :: l) (x :: y :: l') := .k (.k h)
theorem Bl.kkk {x y z l l'} (h : Bl l l') : Bl (x :: y :: z :: l) (x :: y :: z :: l') := .k (.kk h)
theorem Bl.kkkk {x y z u l l'} (h : Bl l l') : Bl (x :: y :: z :: u :: l) (x :: y :: z :: u :: l') := .kk (.kk h)
theorem Bl.ss {x y l l'} (h : Bl l l') : Bl (x :: y :: l) l' := .s (.s h)
theorem Bl.sss {x y z l l'} (h : Bl l l') : Bl (x :: y :: z :: l) l' := .s (.ss h)
theorem Bl.ssss {x y z u l l'} (h : Bl l l') : Bl (x :: y :: z :: u :: l) l' := .ss (.ss h)

section
variable {α β σ ρ : Type} {P : Program} {n : Nat} {Q : Exit → Act → World → Prop} {ops : Array Oper} {L L' : St} {w w0 : World} {os : List SV} {cs : List Cond} {F O : Nat → Prop} {hs : List HP}

structure Ask (os : List SV) (cs : List Cond) (w : World) : Prop where
  h : All cs w
def dp (p : Prop) : Cond := fun _ => p
def dS (A : Option Addr) : Cond := fun _ => A.isSome = true
def dI (i : Int) (n : Nat) (A : Option Addr) : Cond := fun _ => 0 ≤ i ∧ i < (n : Int) ∧ A.isSome = true
def dC (p : Option Addr) (v : SV) : Cond := fun w => ∃ a, p = some a ∧ w.cell? a = some v.val
def dR (p : Option Addr) (cs : List SV) : Cond := fun w => ∃ a, p = some a ∧ Rd w (some a) (SV.cl cs)
theorem qe : Ask [] [] w := ⟨trivial⟩
theorem qo (v : SV) (r : Ask os cs w) : Ask (v :: os) cs w := ⟨r.h⟩
theorem qc (c : Cond) (p : c w) (r : Ask os cs w) : Ask os (c :: cs) w := ⟨p, r.h⟩
theorem qp (p : Prop) (h : p) (r : Ask os cs w) : Ask os (dp p :: cs) w := ⟨h, r.h⟩
theorem qs (g off : Nat) (r : Ask os cs w) : Ask os (dS (some ⟨g, off, none⟩) :: cs) w := ⟨rfl, r.h⟩
theorem qS {A : Option Addr} (h : A.isSome = true) (r : Ask os cs w) : Ask os (dS A :: cs) w := ⟨h, r.h⟩
theorem qI {m : Nat} {v : Vec α m} {i : Int} {x : α} (g off : Nat) (h : geti v.l i = some x) (r : Ask os cs w) : Ask os (dI i m (some ⟨g, off, none⟩) :: cs) w :=
  ⟨⟨(geti_lt h).1, by have := (geti_lt h).2; have := v.h; omega, rfl⟩, r.h⟩
class Pos (E : Enc α) : Prop where h : 0 < E.sz
instance : Pos e8 := ⟨by decide⟩
instance : Pos e16 := ⟨by decide⟩
instance : Pos e32 := ⟨by decide⟩
instance : Pos e64 := ⟨by decide⟩
instance : Pos eI := ⟨by decide⟩
instance : Pos eS := ⟨by decide⟩
instance : Pos eB := ⟨by decide⟩
instance {a : Enc α} {b : Enc β} [h : Pos a] : Pos (eP a b) := ⟨Nat.lt_of_lt_of_le h.h (Nat.le_add_right _ _)⟩
instance {E : Enc α} {m : Nat} [h : Pos E] : Pos (eV E (m + 1)) := ⟨Nat.mul_pos (Nat.succ_pos m) h.h⟩
theorem qJ {E : Enc α} [he : Pos E] {A : Option Addr} {xs : List α} {i : Int} {x : α} {m : Nat} (rd : Rd w A (E.all xs)) (h : geti xs i = some x) (hl : xs.length = m) (r : Ask os cs w) : Ask os (dI i m A :: cs) w :=
  ⟨rd.ix h hl he.h, r.h⟩
theorem qJp {A : Option Addr} {i : Int} {m : Nat} (h : 0 ≤ i ∧ i < (m : Int) ∧ A.isSome = true) (r : Ask os cs w) : Ask os (dI i m A :: cs) w := ⟨h, r.h⟩
theorem qC {p : Option Addr} (v : SV) (h : ∃ a, p = some a ∧ w.cell? a = some v.val) (r : Ask os cs w) : Ask (v :: os) (dC p v :: cs) w := ⟨h, r.h⟩
theorem qR {p : Option Addr} (zs : List SV) (h : ∃ a, p = some a ∧ Rd w (some a) (SV.cl zs)) (r : Ask os cs w) : Ask (.agg zs :: os) (dR p zs :: cs) w := ⟨h, r.h⟩
/-- a cell of a variable -/
theorem qB {t : TypeId} {g : Nat} {ys : List SV} (k : Cx F O w0 w hs) (i : Nat) (hi : hs[i]? = some (Bx t g ys)) (off : Nat) (v : SV) (h : (cellS off ys).map SV.val = some v.val) (r : Ask os cs w) : Ask (v :: os) (dC (some ⟨g, off, none⟩) v :: cs) w := ⟨k.bld i hi off v h, r.h⟩
theorem Cx.vrd {t : TypeId} {g m : Nat} {ys : List SV} (k : Cx F O w0 w hs) (i : Nat) (hi : hs[i]? = some (Bx t g ys)) (E : Enc α) (x : Vec α m) (off : Nat) (hd : ((dropS off ys).bind List.head?).map (fun v => (v.isVec, v.val)) = some (true, .agg ⟨E.all x.l⟩)) : Rd w (some ⟨g, off, none⟩) (E.all x.l) := (k.brd i hi).vec hd
/-- an element of an array, indexed and read -/
theorem qV {E : Enc α} {A : Option Addr} {m : Nat} {xs : Vec α m} {i : Int} {x : α} (rd : Rd w A (E.all xs.l)) (h : geti xs.l i = some x) (hA : A.isSome = true) (s : SV) (hs : E.f x = [s.val]) (r : Ask os cs w) : Ask (s :: os) (dI i m A :: dC (ixA A i E.sz) s :: cs) w :=
  ⟨⟨(geti_lt h).1, by have := (geti_lt h).2; have := xs.h; omega, hA⟩, rd.el h (k := 0) (Pt.ix1 A i E.sz) (by rw [hs]; rfl), r.h⟩
/-- an element of a slice, indexed and read -/
theorem qW {E : Enc α} [he : Pos E] {A : Option Addr} {xs : List α} {i : Int} {x : α} {m : Nat} (rd : Rd w A (E.all xs)) (h : geti xs i = some x) (hl : xs.length = m) (s : SV) (hs : E.f x = [s.val]) (r : Ask os cs w) : Ask (s :: os) (dI i m A :: dC (ixA A i E.sz) s :: cs) w :=
  ⟨rd.ix h hl he.h, rd.el h (k := 0) (Pt.ix1 A i E.sz) (by rw [hs]; rfl), r.h⟩

theorem qX {xs : List UInt8} {i : Int} {y : UInt8} (h : geti xs i = some y) (r : Ask os cs w) : Ask (.u8 y :: os) (dp (0 ≤ i ∧ xs[i.toNat]? = some y) :: cs) w := ⟨geti_some h, r.h⟩
theorem qT {t : TypeId} {g : Nat} {ys : List SV} (k : Cx F O w0 w hs) (i : Nat) (hi : hs[i]? = some (Bx t g ys)) (off m : Nat) (zs : List SV) (h : (partsS off m ys).map SV.cl = some (SV.cl zs)) (hm : 0 < m) (r : Ask os cs w) : Ask (.agg zs :: os) (dR (some ⟨g, off, none⟩) zs :: cs) w := ⟨k.blds i hi off m zs h hm, r.h⟩
theorem WLs {l : List Oper} (k : Nat) (ss : List Nat) (b : Bl L L') (q : Ask os cs w) (hs : (evs P n ops ss (l.take k) (Kn L) os).map (fun r => (L'.map fun e => (look r.1 e.1).map fun e => (e.g, e.x.val), r.2.1, r.2.2)) = some (L'.map fun p => some (none, p.2.val), cs, [])) (h : WL P n ops Q (l.drop k) L' w) : WL P n ops Q l L w := WL_seg k ss os L' cs hs q.h h
theorem W_q {id : Nat} {l : List Oper} (ss : List Nat) (b : Bl L L') (q : Ask os cs w) (hs : (evs P n l.toArray ss l (Kn L) os).map (fun r => (L'.map fun e => (look r.1 e.1).map fun e => (e.g, e.x.val), r.2.1, r.2.2)) = some (L'.map fun p => some (none, p.2.val), cs, [])) (h : At n (Q .normal) L' w) : W P n (.region id l.toArray false) Q L w := W_quiet ss os L' cs hs q.h h
theorem W_d {id : Nat} {l : List Oper} (hm : P.follows .mixedOrders = true) (hB : Region.lexB .any l.toArray = true) (b : Bl L L') (q : ∀ m, Ask os cs (w.drewN m)) (hs : (evs P n l.toArray [] l (Kn L) os).map (fun r => (L'.map fun e => (look r.1 e.1).map fun e => (e.g, e.x.val), r.2.1, r.2.2)) = some (L'.map fun p => some (none, p.2.val), cs, [])) (h : ∀ m, At n (Q .normal) L' (w.drewN m)) : W P n (.region id l.toArray true) Q L w := W_draw hm os L' cs hB hs (fun m => (q m).h) h
theorem MXq {p : Nat} {Ls : List Nat} {C : List (World → Prop)} {Q : Act → World → Prop} {π : MT} {listed : Array Bool} (k m : Nat) (ss : List Nat) (b : Bl L L') (q : ∀ w, cls C m w → Ask os cs w)
    (hs : ((qops ops m k π).bind fun l => evs P n ops ss l (Kn L) os).map (fun r => (L'.map fun e => (look r.1 e.1).map fun e => (e.g, e.x.val), r.2.1, r.2.2)) = some (L'.map fun p => some (none, p.2.val), cs, [])) (h : ∀ listed', MX P n ops Ls C Q (π.drop k) p listed' (Kn L') w) : MX P n ops Ls C Q π p listed (Kn L) w := MX_q k m ss os L' cs hs (fun w hw => (q w hw).h) h
theorem At_c {Q : Exit → Act → World → Prop} {K : St → World → Prop} (h : K L' w) (hk : L'.map (fun p => (find L p.1).map SV.val) = L'.map (fun p => some p.2.val)) : At n (Exit.then (fun a w => ∃ L, Fu n a (Kn L) ∧ K L w) Q .normal) L w := At_forget L' hk (At_cut h)
theorem At_rd {Q : Exit → Act → World → Prop} {rel : σ → St → World → Prop} {y : σ ⊕ ρ} (s' : σ) (hy : y = .inl s') (h : rel s' L' w) (hk : L'.map (fun p => (find L p.1).map SV.val) = L'.map (fun p => some p.2.val)) : At n (Exit.then (fun a w => ∃ s' L', y = .inl s' ∧ Fu n a (Kn L') ∧ rel s' L' w) Q .normal) L w := At_forget L' hk (At_round s' hy h)
theorem W_lp {c : Code} (step : σ → Option (σ ⊕ ρ)) (rel : σ → St → World → Prop) (s0 : σ) (r : ρ) (hm : whileO step s0 = some r) (h0 : rel s0 L' w0) (hk : L'.map (fun p => (find L p.1).map SV.val) = L'.map (fun p => some p.2.val))
    (hb : ∀ s L w y, rel s L w → step s = some y → (∀ r', y = .inr r' → r' = r) → W P n c (Exit.then (fun a w => ∃ s' L', y = .inl s' ∧ Fu n a (Kn L') ∧ rel s' L' w) Q) L w) : W P n (.loop c) Q L w0 := W_forget L' hk (W_loop step rel s0 r hm h0 hb)
theorem At_rt {fn : Func} {R : Ending → World → Prop} (xs : List SV) (q : Ask os cs w) (hr : resS P fn.results.toList L os = some (xs, cs, [])) (h : R (.returned (resOf xs).val) w) : At n (bodyPost P fn R .ret) L w := At_ret os xs cs hr q.h h
theorem At_en {fn : Func} {R : Ending → World → Prop} (xs : List SV) (q : Ask os cs w) (hr : resS P fn.results.toList L os = some (xs, cs, [])) (h : R (.returned (resOf xs).val) w) : At n (bodyPost P fn R .normal) L w := At_end os xs cs hr q.h h
theorem WL_sp {l : List Oper} (k : Nat) (c : Bool) (b : Bl L L') (hk : ((k, SV.b c) :: L').map (fun p => (find L p.1).map SV.val) = ((k, SV.b c) :: L').map (fun p => some p.2.val))
    (h1 : c = true → WL P n ops Q l ((k, .b true) :: L') w) (h2 : c = false → WL P n ops Q l ((k, .b false) :: L') w) : WL P n ops Q l L w := by
  have key : WL P n ops Q l ((k, SV.b c) :: L') w → WL P n ops Q l L w := fun h => At_forget (q := fun a w => wpList P ops Q l a w) ((k, SV.b c) :: L') hk h
  cases c with
  | true => exact key (h1 rfl)
  | false => exact key (h2 rfl)
theorem ob {a : Option α} {f : α → Option β} {r : β} (h : a.bind f = some r) : ∃ x, a = some x ∧ f x = some r := Option.bind_eq_some_iff.1 h
/-- a name for a term -/
theorem nm {a : α} {f : α → Option β} {r : β} (h : (some a).bind f = some r) : ∃ x, a = x ∧ f x = some r := ⟨a, rfl, h⟩

/-! ### pieces of memory -/
inductive Sel {β : Type} : List β → List β → Prop
  | e : Sel [] []
  | z {l} : Sel l []
  | k {x l l'} : Sel l l' → Sel (x :: l) (x :: l')
  | s {x l l'} : Sel l l' → Sel (x :: l) l'
theorem Sel.kk {β : Type} {x y : β} {l l'} (h : Sel l l') : Sel (x :: y :: l) (x :: y :: l') := .k (.k h)
theorem Sel.kkkk {β : Type} {x y z u : β} {l l'} (h : Sel l l') : Sel (x :: y :: z :: u :: l) (x :: y :: z :: u :: l') := .kk (.kk h)
theorem Sel.ss {β : Type} {x y : β} {l l'} (h : Sel l l') : Sel (x :: y :: l) l' := .s (.s h)
theorem Sel.ssss {β : Type} {x y z u : β} {l l'} (h : Sel l l') : Sel (x :: y :: z :: u :: l) l' := .ss (.ss h)
inductive Pick {β : Type} : List β → β → List β → Prop
  | h {x l} : Pick (x :: l) x l
  | t {x y l l'} : Pick l x l' → Pick (y :: l) x (y :: l')
inductive Parti {β : Type} : List β → List β → List β → Prop
  | e : Parti [] [] []
  | i {x l a b} : Parti l a b → Parti (x :: l) (x :: a) b
  | r {x l a b} : Parti l a b → Parti (x :: l) a (x :: b)
inductive App {β : Type} : List β → List β → List β → Prop
  | n {l} : App [] l l
  | c {x a b l} : App a b l → App (x :: a) b (x :: l)
theorem App.eq {β : Type} {a b l : List β} (h : App a b l) : l = a ++ b := by induction h <;> simp_all
theorem Parti.perm {β : Type} {l a b : List β} (h : Parti l a b) : l.Perm (a ++ b) := by
  induction h with
  | e => exact .nil
  | i _ ih => exact .cons _ ih
  | r _ ih => exact (List.Perm.cons _ ih).trans (List.perm_middle.symm)
theorem Pick.perm {β : Type} {x : β} {l l' : List β} (h : Pick l x l') : l.Perm (x :: l') := by
  induction h with
  | h => exact .refl _
  | t _ ih => exact (List.Perm.cons _ ih).trans (.swap _ _ _)
theorem Sep.perm {w : World} {a b : List HP} (h : a.Perm b) : ∀ {U V : Nat → Prop}, Sep w a U V → Sep w b U V := by
  induction h with
  | nil => exact fun h => h
  | cons x _ ih =>
    rintro U V ⟨S, R, U', V', h1, h2, h3⟩
    exact ⟨S, R, U', V', h1, ih h2, h3⟩
  | swap x y l =>
    intro U V h
    exact Sep.cut (i := 1) (h := x) rfl h
  | trans _ _ ih1 ih2 => exact fun h => ih2 (ih1 h)
theorem Cx.perm {a b : List HP} (k : Cx F O w0 w a) (h : a.Perm b) : Cx F O w0 w b := by
  obtain ⟨U, V, h1, h2, h3⟩ := k.sep
  exact ⟨k.os, k.tape, k.output, k.size, k.block, k.fin, k.oin, U, V, Sep.perm h h1, h2, h3⟩
theorem Cx.tl {x : HP} (k : Cx F O w0 w (x :: hs)) : Cx F O w0 w hs := k.drop 0
theorem Cx.none (k : Cx F O w0 w hs) : Cx F O w0 w [] := by
  induction hs with
  | nil => exact k
  | cons x l ih => exact ih k.tl
theorem Sel.sub {a b : List HP} (h : Sel a b) : ∃ c, a.Perm (c ++ b) := by
  induction h with
  | e => exact ⟨[], .refl _⟩
  | z => rename_i l; exact ⟨l, by rw [List.append_nil]⟩
  | k _ ih => obtain ⟨c, hc⟩ := ih; exact ⟨c, (List.Perm.cons _ hc).trans List.perm_middle.symm⟩
  | s _ ih => rename_i x _ _ _; obtain ⟨c, hc⟩ := ih; exact ⟨x :: c, .cons _ hc⟩
theorem Cx.dropl {a b : List HP} (k : Cx F O w0 w (a ++ b)) : Cx F O w0 w b := by
  induction a with
  | nil => exact k
  | cons x l ih => exact ih k.tl
theorem Cx.sel {hs' : List HP} (k : Cx F O w0 w hs) (h : Sel hs hs') : Cx F O w0 w hs' := by
  obtain ⟨c, hc⟩ := h.sub
  exact (k.perm hc).dropl
theorem Cx.pk {x : HP} {hs' : List HP} (k : Cx F O w0 w hs) (h : Pick hs x hs') : Cx F O w0 w (x :: hs') := k.perm h.perm
theorem Cx.go {ins rest : List HP} (k : Cx F O w0 w hs) (p : Parti hs ins rest) : ∃ F1 O1 : Nat → Prop, Cx F1 O1 w w ins ∧ (∀ b, O b → O1 b) ∧ (∀ (i : Nat) (h : HP), rest[i]? = some h → ∃ S R, h.p w S R ∧ (∀ b, R b → O1 b) ∧ ∀ b, S b → ¬ F1 b) ∧ (∀ b, F1 b → F b ∨ w0.heap.size ≤ b) ∧
    ∀ w' outs all, Cx F1 O1 w w' outs → App outs rest all → Cx F O w0 w' all := by
  obtain ⟨F1, O1, h1, h2, h3, h4, h5⟩ := (k.perm p.perm).enter
  exact ⟨F1, O1, h1, h2, h3, h4, fun w' outs all hk ha => ha.eq ▸ h5 w' outs hk⟩

/-! ### classes of worlds -/
inductive Chain (F O : Nat → Prop) (w0 : World) : List HP → List (World → Prop) → Prop
  | l {h : List HP} : Chain F O w0 h [fun x => Cx F O w0 x h]
  | c {h h' : List HP} {C : List (World → Prop)} : Sel h h' → Chain F O w0 h' C → Chain F O w0 h ((fun x => Cx F O w0 x h) :: C)
theorem Chain.spec {hs : List HP} {C : List (World → Prop)} (h : Chain F O w0 hs C) : Mono C ∧ ∀ w, cls C 0 w ↔ Cx F O w0 w hs := by
  induction h with
  | l => exact ⟨trivial, fun w => Iff.rfl⟩
  | c h1 hc ih =>
    cases hc with
    | l => exact ⟨⟨fun x hx => Cx.sel hx h1, trivial⟩, fun w => Iff.rfl⟩
    | c h2 h3 => exact ⟨⟨fun x hx => Cx.sel hx h1, ih.1⟩, fun w => Iff.rfl⟩
theorem W_m {id : Nat} {l : List Oper} {C : List (World → Prop)} (hm : P.follows .mixedOrders = true) (π : MT) (Ls : List Nat) (k : Cx F O w0 (w.drewN 1) hs) (ch : Chain F O w0 hs C)
    (hB : (Region.noSelect l.toArray, mixB l.toArray Ls π 0 (Array.replicate l.length false), π.depth == l.length) = (true, true, true)) (h : ∀ listed, MX P n l.toArray Ls C (Q .normal) π 0 listed (Kn L) (w.drewN 1)) :
    W P n (.region id l.toArray true) Q L w := W_mix hm π Ls C hB ch.spec.1 ((ch.spec.2 _).2 k) h

/-! ### stores -/
/-- cells with some of them replaced (the check is made elsewhere) -/
inductive Mid : List SV → List SV → List SV → Prop
  | k {s y ys zs} : Mid s ys zs → Mid s (y :: ys) (y :: zs)
  | h {s y ys} : Mid [s] (y :: ys) (s :: ys)
  | h2 {s t y u ys} : Mid [s, t] (y :: u :: ys) (s :: t :: ys)
  | h3 {s t r y u v ys} : Mid [s, t, r] (y :: u :: v :: ys) (s :: t :: r :: ys)
  | h4 {s t r q y u v x ys} : Mid [s, t, r, q] (y :: u :: v :: x :: ys) (s :: t :: r :: q :: ys)
  | all {s ys} : Mid s ys s
theorem Mid.kk {s y u ys zs} (h : Mid s ys zs) : Mid s (y :: u :: ys) (y :: u :: zs) := .k (.k h)
theorem Mid.kkkk {s y u v x ys zs} (h : Mid s ys zs) : Mid s (y :: u :: v :: x :: ys) (y :: u :: v :: x :: zs) := .kk (.kk h)
theorem Op_b {K : St → World → Prop} {ty t : TypeId} {p x : Operand} {pos : String} {aft : Array Edge} {g : Option (Nat × Bool)} (ss : List Nat) (i : Nat) {pa : Option Addr} (sv : SV) (svs : List SV) {bt : TypeId} {b : Nat} {ys zs : List SV} {off : Nat}
    (hp : Pt (some ⟨b, 0, none⟩) off pa) (k : Cx F O w0 w hs) (hi : hs[i]? = some (Bx bt b ys)) (md : Mid svs ys zs)
    (hside : (gok ops ss L (⟨none, .store t p x, ty, pos, aft, g⟩ : Oper), (none : Option Nat), (toSS [p, x] (lk L)).map SV.vals, szOf P t, cellsS sv, svs.all SV.one1) = (true, none, some [.pointer pa, sv.val], some (SV.width svs), some svs, true))
    (hz : (putS off (SV.width svs) svs ys).map SV.cl = some (SV.cl zs))
    (hk : ∀ w', Cx F O w0 w' (hs.set i (Bx bt b zs)) → K L w') :
    Op1 P n ops L w ⟨none, .store t p x, ty, pos, aft, g⟩ K := Op_bput ss i zs hside hp k hi hz hk
/-- an array among cells, and the cells with another one in its place -/
inductive Vup : List SV → Enc α → {m : Nat} → Vec α m → Vec α m → Nat → List SV → Prop
  | h {E : Enc α} {m : Nat} {x y : Vec α m} {ys} : Vup (.ar E x :: ys) E x y 0 (.ar E y :: ys)
  | t {E : Enc α} {m o : Nat} {x y : Vec α m} {u ys zs} : Vup ys E x y o zs → Vup (u :: ys) E x y (SV.width [u] + o) (u :: zs)
theorem Vup.split {E : Enc α} {m o : Nat} {x y : Vec α m} {ys zs : List SV} (h : Vup ys E x y o zs) : ∃ pre post, ys = pre ++ .ar E x :: post ∧ zs = pre ++ .ar E y :: post ∧ o = SV.width pre := by
  induction h with
  | h => exact ⟨[], _, rfl, rfl, rfl⟩
  | t _ ih =>
    obtain ⟨p, q, rfl, rfl, rfl⟩ := ih
    exact ⟨_ :: p, q, rfl, rfl, (width_app [_] p).symm⟩
/-- a store into an array's element -/
theorem Op_vs {K : St → World → Prop} {ty t : TypeId} {p x : Operand} {pos : String} {aft : Array Edge} {g : Option (Nat × Bool)} {E : Enc α} (ss : List Nat) (i : Nat) {pa : Option Addr} (sv : SV) (svs : List SV) {bt : TypeId} {b : Nat} {m o o' : Nat} {x0 x1 : Vec α m} {ys zs : List SV} {j : Int} {e0 y : α} {kk : Nat}
    (hv : vst x0 j y = x1) (hx : geti x0.l j = some e0) (hp : Pt (some ⟨b, 0, none⟩) (o' + (j.toNat * E.sz + kk)) pa) (k : Cx F O w0 w hs) (hi : hs[i]? = some (Bx bt b ys)) (vu : Vup ys E x0 x1 o zs) (hy : E.f y = pat (E.f e0) kk (SV.cl svs))
    (hside : (gok ops ss L (⟨none, .store t p x, ty, pos, aft, g⟩ : Oper), (none : Option Nat), (toSS [p, x] (lk L)).map SV.vals, szOf P t, cellsS sv, svs.all SV.one1, o') = (true, none, some [.pointer pa, sv.val], some (SV.width svs), some svs, true, o))
    (hl : Nat.ble (kk + SV.width svs) E.sz = true)
    (hk : ∀ w', Cx F O w0 w' (hs.set i (Bx bt b zs)) → K L w') :
    Op1 P n ops L w ⟨none, .store t p x, ty, pos, aft, g⟩ K := by
  obtain ⟨pre, post, rfl, rfl, rfl⟩ := vu.split
  simp only [Prod.mk.injEq] at hside
  obtain ⟨s1, s2, s3, s4, s5, s6, rfl⟩ := hside
  subst hv
  exact Op_vst (E := E) (kk := kk) (sv := sv) (svs := svs) ss i pre post x0 y (by rw [s1, s3, s4, s5, s6]) hp k hi hx hy (Nat.le_of_ble_eq_true hl) hk
end
end Go.Sx
