import Derived.Test.YtfaaochjaajpjaaDoorSyE
namespace Go.Sx
open Go.RowKit
set_option linter.unusedSimpArgs false
set_option linter.unusedVariables false
variable {α β : Type}

/-! ### how a thing lies in cells -/
structure Enc (α : Type) where
  sz : Nat
  f : α → List Value
  len : ∀ x, (f x).length = sz
  one : ∀ x, ∀ v ∈ f x, v.oneCell' = true
def Enc.all (E : Enc α) : List α → List Value
  | [] => []
  | x :: xs => E.f x ++ E.all xs
theorem Enc.all_length (E : Enc α) (xs : List α) : (E.all xs).length = xs.length * E.sz := by
  induction xs with
  | nil => simp [Enc.all]
  | cons x xs ih => simp only [Enc.all, List.length_append, E.len, ih, List.length_cons, Nat.add_mul]; omega
theorem Enc.all_append (E : Enc α) (xs ys : List α) : E.all (xs ++ ys) = E.all xs ++ E.all ys := by
  induction xs with
  | nil => rfl
  | cons x xs ih => simp [Enc.all, ih, List.append_assoc]
theorem Enc.all_one (E : Enc α) (xs : List α) : ∀ v ∈ E.all xs, v.oneCell' = true := by
  induction xs with
  | nil => intro v hv; cases hv
  | cons x xs ih =>
    intro v hv
    simp only [Enc.all, List.mem_append] at hv
    exact hv.elim (E.one x v) (ih v)
theorem Enc.all_take (E : Enc α) (xs : List α) (j : Nat) : (E.all xs).take (j * E.sz) = E.all (xs.take j) := by
  by_cases h : j ≤ xs.length
  · have e : E.all xs = E.all (xs.take j) ++ E.all (xs.drop j) := by rw [← Enc.all_append, List.take_append_drop]
    rw [e]
    have : (E.all (xs.take j)).length = j * E.sz := by rw [Enc.all_length, List.length_take, Nat.min_eq_left h]
    rw [← this, List.take_left]
  · rw [List.take_of_length_le (l := xs) (by omega), List.take_of_length_le]
    rw [Enc.all_length]
    exact Nat.mul_le_mul_right _ (by omega)
theorem Enc.all_drop (E : Enc α) (xs : List α) (j : Nat) : (E.all xs).drop (j * E.sz) = E.all (xs.drop j) := by
  by_cases h : j ≤ xs.length
  · have e : E.all xs = E.all (xs.take j) ++ E.all (xs.drop j) := by rw [← Enc.all_append, List.take_append_drop]
    rw [e]
    have : (E.all (xs.take j)).length = j * E.sz := by rw [Enc.all_length, List.length_take, Nat.min_eq_left h]
    rw [← this, List.drop_left]
  · rw [List.drop_of_length_le (by omega : xs.length ≤ j), List.drop_of_length_le]
    · rfl
    · rw [Enc.all_length]
      exact Nat.mul_le_mul_right _ (by omega)
theorem Enc.all_split (E : Enc α) {xs : List α} {j : Nat} {x : α} (h : xs[j]? = some x) : E.all xs = E.all (xs.take j) ++ E.f x ++ E.all (xs.drop (j + 1)) := by
  have hlt := (List.getElem?_eq_some_iff.1 h).1
  have e : xs = xs.take j ++ (x :: xs.drop (j + 1)) := by
    have := List.take_append_drop j xs
    rw [List.drop_eq_getElem_cons hlt, (List.getElem?_eq_some_iff.1 h).2] at this
    exact this.symm
  rw [show E.all xs = E.all (xs.take j ++ (x :: xs.drop (j + 1))) from by rw [← e], Enc.all_append]
  simp [Enc.all, List.append_assoc]
theorem Enc.all_at (E : Enc α) {xs : List α} {j : Nat} {x : α} (h : xs[j]? = some x) : ((E.all xs).drop (j * E.sz)).take E.sz = E.f x := by
  rw [Enc.all_drop]
  have hlt := (List.getElem?_eq_some_iff.1 h).1
  rw [List.drop_eq_getElem_cons hlt, (List.getElem?_eq_some_iff.1 h).2]
  simp only [Enc.all]
  have := E.len x
  rw [← this, List.take_left]
theorem Enc.all_cell (E : Enc α) {xs : List α} {j : Nat} {x : α} (h : xs[j]? = some x) {k : Nat} {v : Value} (hv : (E.f x)[k]? = some v) : (E.all xs)[j * E.sz + k]? = some v := by
  have h1 := E.all_at h
  have hk : k < E.sz := by rw [← E.len x]; exact (List.getElem?_eq_some_iff.1 hv).1
  rw [← h1, List.getElem?_take_of_lt hk, List.getElem?_drop] at hv
  exact hv

/-- a stretch of cells written over -/
def pat (l : List Value) (k : Nat) (vs : List Value) : List Value := l.take k ++ vs ++ l.drop (k + vs.length)
theorem pat_length {l vs : List Value} {k : Nat} (h : k + vs.length ≤ l.length) : (pat l k vs).length = l.length := by
  simp only [pat, List.length_append, List.length_take, List.length_drop]; omega
theorem pat_mid (a l b : List Value) (k : Nat) (vs : List Value) (h : k + vs.length ≤ l.length) : pat (a ++ l ++ b) (a.length + k) vs = a ++ pat l k vs ++ b := by
  unfold pat
  rw [List.append_assoc a l b, List.take_append, List.take_of_length_le (by omega), List.drop_append, List.drop_of_length_le (by omega)]
  rw [show a.length + k - a.length = k from by omega, show a.length + k + vs.length - a.length = k + vs.length from by omega]
  rw [List.take_append_of_le_length (by omega), List.drop_append_of_le_length h]
  simp [List.append_assoc]
theorem Enc.all_set (E : Enc α) {xs : List α} {j : Nat} {x y : α} (h : xs[j]? = some x) {k : Nat} {vs : List Value} (hy : E.f y = pat (E.f x) k vs) (hk : k + vs.length ≤ E.sz) : E.all (xs.set j y) = pat (E.all xs) (j * E.sz + k) vs := by
  have hlt := (List.getElem?_eq_some_iff.1 h).1
  rw [E.all_split h]
  have hl : (E.all (xs.take j)).length = j * E.sz := by rw [Enc.all_length, List.length_take, Nat.min_eq_left (Nat.le_of_lt hlt)]
  rw [← hl, pat_mid _ _ _ _ _ (by rw [E.len]; exact hk), ← hy]
  have h2 : (xs.set j y)[j]? = some y := by simp [hlt]
  rw [E.all_split h2]
  rw [List.take_set, List.set_eq_of_length_le (by simp; omega), List.drop_set_of_lt (by omega)]

def e8 : Enc UInt8 := ⟨1, fun x => [bV x], fun _ => rfl, fun x v h => by rw [List.mem_singleton.1 h]; rfl⟩
def e16 : Enc UInt16 := ⟨1, fun x => [.int .u16 x.toNat], fun _ => rfl, fun x v h => by rw [List.mem_singleton.1 h]; rfl⟩
def e32 : Enc UInt32 := ⟨1, fun x => [.int .u32 x.toNat], fun _ => rfl, fun x v h => by rw [List.mem_singleton.1 h]; rfl⟩
def e64 : Enc UInt64 := ⟨1, fun x => [.int .u64 x.toNat], fun _ => rfl, fun x v h => by rw [List.mem_singleton.1 h]; rfl⟩
def eI : Enc Int := ⟨1, fun x => [.int .i64 x], fun _ => rfl, fun x v h => by rw [List.mem_singleton.1 h]; rfl⟩
def eS : Enc (List UInt8) := ⟨1, fun x => [.string ⟨⟨x⟩⟩], fun _ => rfl, fun x v h => by rw [List.mem_singleton.1 h]; rfl⟩
def eB : Enc Bool := ⟨1, fun x => [.bool x], fun _ => rfl, fun x v h => by rw [List.mem_singleton.1 h]; rfl⟩
def eP (E : Enc α) (F : Enc β) : Enc (α × β) := ⟨E.sz + F.sz, fun x => E.f x.1 ++ F.f x.2, fun x => by simp [E.len, F.len], fun x v h => by
  simp only [List.mem_append] at h
  exact h.elim (E.one _ v) (F.one _ v)⟩
def eV (E : Enc α) (n : Nat) : Enc (Vec α n) := ⟨n * E.sz, fun x => E.all x.l, fun x => by rw [E.all_length, x.h], fun x => E.all_one x.l⟩
/-- an array's cells -/
def Enc.vec (E : Enc α) {n : Nat} (x : Vec α n) : Cells (n * E.sz) := ⟨E.all x.l, by rw [E.all_length, x.h], E.all_one x.l⟩

theorem e8_all (xs : List UInt8) : e8.all xs = xs.map bV := by
  induction xs with
  | nil => rfl
  | cons x xs ih => simp [Enc.all, e8, ih] ; exact ih

/-! ### addresses -/
/-- p is so many cells behind A -/
def Pt (A : Option Addr) (off : Nat) (p : Option Addr) : Prop := A.isSome = true → p = fa A off
theorem add_of_add (a : Addr) (i j : Nat) : (a.add i).add j = a.add (i + j) := by
  unfold Addr.add
  by_cases hi : i = 0 <;> by_cases hj : j = 0 <;> simp [hi, hj, Nat.add_assoc]
theorem Pt.refl (A : Option Addr) : Pt A 0 A := fun h => by
  cases A with
  | none => cases h
  | some a => simp [fa, Addr.add]
theorem Pt.ix {A p : Option Addr} {off : Nat} (h : Pt A off p) (i : Int) (s : Nat) : Pt A (off + i.toNat * s) (ixA p i s) := fun hA => by
  rw [h hA]
  cases A with
  | none => cases hA
  | some a => simp [ixA, fa, add_of_add]
theorem Pt.fa {A p : Option Addr} {off : Nat} (h : Pt A off p) (k : Nat) : Pt A (off + k) (fa p k) := fun hA => by
  rw [h hA]
  cases A with
  | none => cases hA
  | some a => simp [Sx.fa, add_of_add]
theorem Pt.some {A p : Option Addr} {off : Nat} (h : Pt A off p) (hA : A.isSome = true) : p.isSome = true := by
  rw [h hA]
  cases A with
  | none => cases hA
  | some a => rfl
theorem Pt.congr {A p : Option Addr} {off off' : Nat} (h : Pt A off p) (e : off = off') : Pt A off' p := e ▸ h

theorem Rd.cellP {w : World} {A p : Option Addr} {off : Nat} {cs : List Value} {v : Value} (h : Rd w A cs) (hp : Pt A off p) (hv : cs[off]? = some v) : ∃ a, p = some a ∧ w.cell? a = some v := by
  obtain ⟨a, rfl⟩ := h.1 (by intro e; rw [e] at hv; cases hv)
  exact ⟨a.add off, hp rfl, h.2 a off v rfl hv⟩
theorem Rd.partP {w : World} {A p : Option Addr} {off n : Nat} {cs : List Value} (h : Rd w A cs) (hp : Pt A off p) (hl : off + n ≤ cs.length) (hn : 0 < n) : ∃ a, p = some a ∧ Rd w (some a) ((cs.drop off).take n) := by
  obtain ⟨a, rfl⟩ := h.1 (by intro e; rw [e] at hl; simp at hl; omega)
  refine ⟨a.add off, hp rfl, fun _ => ⟨_, rfl⟩, fun b j u hb hu => ?_⟩
  cases hb
  rw [List.getElem?_take] at hu
  split at hu
  · rw [List.getElem?_drop] at hu
    rw [add_of_add]
    exact h.2 a _ u rfl hu
  · cases hu
theorem Rd.isSome {w : World} {A : Option Addr} {cs : List Value} {off : Nat} {v : Value} (h : Rd w A cs) (hv : cs[off]? = some v) : A.isSome = true := by
  obtain ⟨a, rfl⟩ := h.1 (by intro e; rw [e] at hv; cases hv)
  rfl

/-! ### an element of a row -/
theorem E_ix {E : Enc α} {w : World} {A : Option Addr} {xs : List α} {i : Int} {x : α} (h : Rd w A (E.all xs)) (hsz : 0 < E.sz) (h0 : 0 ≤ i) (hx : xs[i.toNat]? = some x) : A.isSome = true := by
  obtain ⟨a, rfl⟩ := h.1 (by
    intro e
    have := congrArg List.length e
    rw [Enc.all_length] at this
    have hlt := (List.getElem?_eq_some_iff.1 hx).1
    have : 0 < xs.length * E.sz := Nat.mul_pos (by omega) hsz
    simp_all)
  rfl

end Go.Sx
