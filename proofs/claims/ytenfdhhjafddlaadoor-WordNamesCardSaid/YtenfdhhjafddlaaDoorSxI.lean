import Derived.Test.YtenfdhhjafddlaaDoorSxH
namespace Go.Sx
open Go.RowKit
set_option linter.unusedSimpArgs false
set_option linter.unusedVariables false
variable {α : Type}

/-! ### words for the printed walks -/
abbrev I (n : Int) : SV := .i .i64 n
abbrev sl (A : Option Addr) (n c : Nat) : SV := .v (.slice A n c)
abbrev pt (g off : Nat) : SV := .v (.pointer (some ⟨g, off, none⟩))
abbrev w64 (n : Int) : Int := IntKind.i64.wrap n

theorem exit_of {σ ρ : Type} {e : Option ρ} {y : σ ⊕ ρ} {r : ρ} (hm : e.map Sum.inr = some y) (hr : ∀ r', y = .inr r' → r' = r) : e = some r := by
  simp only [Option.map_eq_some_iff] at hm
  obtain ⟨r', he, hy⟩ := hm
  rw [he, hr r' hy.symm]

/-- an element -/
def geti (xs : List α) (i : Int) : Option α := if 0 ≤ i then xs[i.toNat]? else none
theorem geti_some {xs : List α} {i : Int} {x : α} (h : geti xs i = some x) : 0 ≤ i ∧ xs[i.toNat]? = some x := by
  unfold geti at h
  split at h
  · exact ⟨by assumption, h⟩
  · cases h
theorem geti_lt {xs : List α} {i : Int} {x : α} (h : geti xs i = some x) : 0 ≤ i ∧ i < xs.length := by
  obtain ⟨h1, h2⟩ := geti_some h
  have := (List.getElem?_eq_some_iff.1 h2).1
  omega
theorem geti_nat {xs : List α} {i : Nat} (h : i < xs.length) : geti xs (i : Int) = some xs[i] := by
  unfold geti
  rw [if_pos (by omega)]
  simp [h]
/-- an element, where a guard holds -/
def gif {β : Type} [Inhabited β] (c : Bool) (o : Option β) : Option β := if c then o else some default
theorem gif_some {β : Type} [Inhabited β] {c : Bool} {o : Option β} {x : β} (h : gif c o = some x) (hc : c = true) : o = some x := by
  subst hc; simpa [gif] using h
theorem gif_not {β : Type} [Inhabited β] {c : Bool} {o : Option β} {x : β} (h : gif (!c) o = some x) (hc : c = false) : o = some x := by
  subst hc; simpa [gif] using h

theorem Rd.nil {α : Type} {φ : α → Value} (w : World) : Rd w none (([] : List α).map φ) := ⟨fun h => absurd rfl h, fun _ _ _ h => by cases h⟩
theorem Rd.ix {w : World} {A : Option Addr} {φ : α → Value} {xs : List α} {i : Int} {x : α} {n : Nat} (h : Rd w A (xs.map φ)) (hg : geti xs i = some x) (hn : xs.length = n) : 0 ≤ i ∧ i < (n : Int) ∧ A.isSome = true := by
  have h1 := geti_lt hg
  refine ⟨h1.1, by omega, ?_⟩
  obtain ⟨a, ha⟩ := h.1 (by intro e; simp at e; subst e; simp at h1; omega)
  rw [ha]; rfl
theorem Rd.ld {w : World} {A : Option Addr} {φ : α → Value} {xs : List α} {i : Int} {x : α} (h : Rd w A (xs.map φ)) (hg : geti xs i = some x) : ∃ a, ixA A i 1 = some a ∧ w.cell? a = some (φ x) := by
  obtain ⟨h1, h2⟩ := geti_some hg
  obtain ⟨a, ha⟩ := h.1 (by intro e; simp at e; subst e; simp at h2)
  subst ha
  refine ⟨a.add i.toNat, by simp [ixA], h.2 a _ _ rfl (by simp [h2])⟩

/-- a cut out of a list -/
def slc (xs : List α) (lo hi : Int) : Option (List α) := if 0 ≤ lo ∧ lo ≤ hi ∧ hi ≤ xs.length then some ((xs.take hi.toNat).drop lo.toNat) else none
theorem slc_some {xs ys : List α} {lo hi : Int} (h : slc xs lo hi = some ys) : 0 ≤ lo ∧ lo ≤ hi ∧ hi ≤ xs.length ∧ ys = (xs.take hi.toNat).drop lo.toNat := by
  unfold slc at h
  split at h
  · rename_i hc
    simp only [Option.some.injEq] at h
    exact ⟨hc.1, hc.2.1, hc.2.2, h.symm⟩
  · cases h
theorem slc_len {xs ys : List α} {lo hi : Int} (h : slc xs lo hi = some ys) : ys.length = hi.toNat - lo.toNat := by
  obtain ⟨h1, h2, h3, rfl⟩ := slc_some h
  simp
  omega
theorem add_of_add (a : Addr) (i j : Nat) : (a.add i).add j = a.add (i + j) := by
  unfold Addr.add
  by_cases hi : i = 0 <;> by_cases hj : j = 0 <;> simp [hi, hj, Nat.add_assoc]
/-- the header of a cut -/
theorem slx (A : Option Addr) (l m n n' : Nat) (hn : n = n') (hm : n' ≤ m - l) : ∃ A2 c2, Value.slice (slA A l m 1) n (m - l) = .slice A2 n' c2 ∧ n' ≤ c2 ∧ A2 = slA A l m 1 := by
  subst hn
  exact ⟨_, _, rfl, hm, rfl⟩
theorem Rd.cut {w : World} {A A2 : Option Addr} {φ : α → Value} {xs ys : List α} {lo hi : Int} {l m : Nat} (h : Rd w A (xs.map φ)) (hs : slc xs lo hi = some ys) (hl : l = lo.toNat) (hA : A2 = slA A l m 1) (hm : hi.toNat ≤ m) : Rd w A2 (ys.map φ) := by
  obtain ⟨h1, h2, h3, rfl⟩ := slc_some hs
  subst hA; subst hl
  by_cases he : m = lo.toNat
  · have : (xs.take hi.toNat).drop lo.toNat = [] := by
      apply List.eq_nil_of_length_eq_zero
      simp; omega
    rw [this]
    exact ⟨fun h => absurd rfl h, fun _ j u _ hu => by simp at hu⟩
  · unfold slA
    rw [if_neg he]
    refine ⟨fun hne => ?_, fun a j u ha hu => ?_⟩
    · obtain ⟨a, ha⟩ := h.1 (by intro e; simp at e; subst e; simp at hne)
      exact ⟨_, by rw [ha]; rfl⟩
    · simp only [Option.map_eq_some_iff] at ha
      obtain ⟨b, hb, rfl⟩ := ha
      have e1 : (b.add (lo.toNat * 1)).add j = b.add (lo.toNat + j) := by rw [add_of_add, Nat.mul_one]
      rw [e1]
      refine h.2 b _ u hb ?_
      rw [List.map_drop, List.map_take, List.getElem?_drop] at hu
      rw [List.getElem?_take] at hu
      split at hu
      · exact hu
      · cases hu

/-- a step that is asked for room -/
def app (xs ys : List α) (b : Nat) : Option (List α) := if (xs.length + ys.length) * b ≤ 140737488355328 then some (xs ++ ys) else none
theorem app_some {xs ys zs : List α} {b : Nat} (h : app xs ys b = some zs) : (xs.length + ys.length) * b ≤ 140737488355328 ∧ zs = xs ++ ys := by
  unfold app at h
  split at h
  · simp only [Option.some.injEq] at h; exact ⟨by assumption, h.symm⟩
  · cases h
def need (p : Prop) [Decidable p] : Option Unit := if p then some () else none
theorem need_some {p : Prop} [Decidable p] {u : Unit} (h : need p = some u) : p := by
  unfold need at h
  split at h
  · assumption
  · cases h

theorem OwS.nil (e : TypeId) (φ : α → Value) (w : World) : (OwS e φ none 0 0 []).p w (fun _ => False) :=
  ⟨World.ownsRow_nil w 0 e 1, fun b hb => by cases hb⟩
theorem Sep.snoc {w : World} {N : Nat} {h : HP} (hp : h.p w (fun _ => False)) : ∀ (hs : List HP) (T : Nat → Prop), Sep w N T hs → Sep w N T (hs ++ [h]) := by
  intro hs
  induction hs with
  | nil => intro T _; exact ⟨fun _ => False, hp, fun b hb => hb.elim, trivial⟩
  | cons x hs ih =>
    rintro T ⟨S, h1, h2, h3⟩
    exact ⟨S, h1, h2, ih _ h3⟩
theorem Cx.nil {w0 w : World} {hs : List HP} (k : Cx w0 w hs) (e : TypeId) (φ : α → Value) : Cx w0 w (hs ++ [OwS e φ none 0 0 []]) := ⟨k.below, Sep.snoc (OwS.nil e φ w) hs _ k.sep⟩
theorem Cx.lec {w0 w : World} {hs : List HP} {e : TypeId} {φ : α → Value} {A : Option Addr} {n c : Nat} {xs : List α} (k : Cx w0 w hs) (i : Nat) (hi : hs[i]? = some (OwS e φ A n c xs)) : n ≤ c := by
  obtain ⟨S, h, _⟩ := Sep.get hs i _ hi k.sep
  rcases h.1.2 with ⟨hv, h0⟩ | ⟨g, cap, cur, hv, _, _, hnc, _⟩
  · simp only [Value.slice.injEq] at hv
    omega
  · simp only [Value.slice.injEq] at hv
    omega
theorem Sep.front {w : World} {N : Nat} {h : HP} : ∀ (hs : List HP) (i : Nat) (T : Nat → Prop), hs[i]? = some h → Sep w N T hs → Sep w N T (h :: hs.eraseIdx i) := by
  intro hs
  induction hs with
  | nil => intro i T hi; simp at hi
  | cons x hs ih =>
    rintro i T hi ⟨S, h1, h2, h3⟩
    cases i with
    | zero =>
      simp only [List.getElem?_cons_zero, Option.some.injEq] at hi
      subst hi
      exact ⟨S, h1, h2, h3⟩
    | succ i =>
      simp only [List.getElem?_cons_succ] at hi
      obtain ⟨S', e1, e2, e3⟩ := ih i _ hi h3
      refine ⟨S', e1, fun b hb => ⟨(e2 b hb).1, fun ht => (e2 b hb).2 (.inl ht)⟩, S, h1, fun b hb => ⟨(h2 b hb).1, ?_⟩, Sep.weak (Nat.le_refl _) _ _ _ ?_ e3⟩
      · rintro (ht | hs')
        · exact (h2 b hb).2 ht
        · exact (e2 b hs').2 (.inr hb)
      · rintro b ((ht | hs') | hs')
        · exact .inl (.inl ht)
        · exact .inr hs'
        · exact .inl (.inr hs')
theorem Cx.front {w0 w : World} {hs : List HP} {h : HP} (k : Cx w0 w hs) (i : Nat) (hi : hs[i]? = some h) : Cx w0 w (h :: hs.eraseIdx i) := ⟨k.below, Sep.front hs i _ hi k.sep⟩

/-! ### elements of one cell -/
def uV16 (x : UInt16) : Value := .int .u16 x.toNat
def uV32 (x : UInt32) : Value := .int .u32 x.toNat
def uV64 (x : UInt64) : Value := .int .u64 x.toNat
def iV (x : Int) : Value := .int .i64 x
def sV (x : List UInt8) : Value := .string ⟨⟨x⟩⟩
def oV (x : Bool) : Value := .bool x
theorem one_b : one bV := fun _ => rfl
theorem one_u16 : one uV16 := fun _ => rfl
theorem one_u32 : one uV32 := fun _ => rfl
theorem one_u64 : one uV64 := fun _ => rfl
theorem one_i : one iV := fun _ => rfl
theorem one_s : one sV := fun _ => rfl
theorem one_o : one oV := fun _ => rfl
/-! ### math/bits.Add64 -/
structure IsAdd (P : Program) (f : FuncId) : Prop where
  ok : ∃ fn, P.funcs[f]? = some fn ∧ (fn.name == "runtime.NumGoroutine") = false ∧ fn.body.isNone = true ∧ Extern.findNext fn = none ∧ Extern.find fn = some add64Entry
def add64 (x y c : UInt64) : Option (UInt64 × UInt64) := if c.toNat ≤ 1 then some (UInt64.ofNat (x.toNat + y.toNat + c.toNat), UInt64.ofNat ((x.toNat + y.toNat + c.toNat) / 18446744073709551616)) else none
section
variable {P : Program} {n : Nat} {ops : Array Oper} {L : St} {w : World} {K : St → World → Prop}
theorem Op_add64 {dst : Option Nat} {f : FuncId} {xs : Array Operand} {ats : Array TypeId} {ty : TypeId} {pos : String} {aft : Array Edge} {g : Option (Nat × Bool)} (hadd : IsAdd P f) (ss : List Nat) (d : Nat) (x y c : UInt64) {r : UInt64 × UInt64}
    (hs : (gok ops ss L ⟨dst, .call ⟨.value (.func f), xs, ats⟩, ty, pos, aft, g⟩, dst, (decide (d < n)), (L.any fun p => p.1 == d), toSS xs.toList (lk L)) = (true, some d, true, false, some [.u64 x, .u64 y, .u64 c]))
    (hr : add64 x y c = some r) (hk : K ((d, .tup [.u64 r.1, .u64 r.2]) :: L) w) : Op1 P n ops L w ⟨dst, .call ⟨.value (.func f), xs, ats⟩, ty, pos, aft, g⟩ K := by
  refine WL_of ss hs fun a ha he => ?_
  have hd : dst = some d := by simp only [Prod.mk.injEq] at hs; exact hs.2.1
  subst hd
  unfold add64 at hr
  split at hr
  · rename_i hc
    simp only [Option.some.injEq] at hr
    subst hr
    have hargs : (#[] ++ xs.map a.eval ++ #[] : Array Value) = #[.int .u64 x.toNat, .int .u64 y.toNat, .int .u64 c.toNat] := by
      apply Array.ext'
      simpa [SV.vals, SV.val] using he
    obtain ⟨fn, h1, h2, h3, h4, h5⟩ := hadd.ok
    have hx := x.toNat_lt; have hy := y.toNat_lt; have hcc := c.toNat_lt
    have hrun : (execOp a.eval ⟨some d, .call ⟨.value (.func f), xs, ats⟩, ty, pos, aft, g⟩).run P w = .ok (.value (SV.tup [.u64 (UInt64.ofNat (x.toNat + y.toNat + c.toNat)), .u64 (UInt64.ofNat ((x.toNat + y.toNat + c.toNat) / 18446744073709551616))]).val) w := by
      show (callFunc f (#[] ++ xs.map a.eval ++ #[])).run P w = _
      rw [hargs, run_callFunc_extern h1 h2 h3 h4 h5, run_add64 x.toNat y.toNat c.toNat (by omega) (by omega) (by omega) (by omega)]
      have q1 : (UInt64.ofNat (x.toNat + y.toNat + c.toNat)).toNat = (x.toNat + y.toNat + c.toNat) % 18446744073709551616 := rfl
      have q2 : (UInt64.ofNat ((x.toNat + y.toNat + c.toNat) / 18446744073709551616)).toNat = ((x.toNat + y.toNat + c.toNat) / 18446744073709551616) % 18446744073709551616 := rfl
      have e1 : ((x.toNat : Int) + y.toNat + c.toNat) % 18446744073709551616 = ((UInt64.ofNat (x.toNat + y.toNat + c.toNat)).toNat : Int) := by rw [q1]; omega
      have e2 : ((x.toNat : Int) + y.toNat + c.toNat) / 18446744073709551616 = ((UInt64.ofNat ((x.toNat + y.toNat + c.toNat) / 18446744073709551616)).toNat : Int) := by
        rw [q2]
        simp only [Nat.reducePow] at hx hy
        omega
      rw [e1, e2]
      rfl
    unfold Oper.wp
    rw [hrun]
    exact ⟨_, rfl, hk⟩
  · cases hr
end
end Go.Sx
