import Derived.Test.YtfaaochjaajpjaaDoorSyO
import Derived.OpenShut
import Derived.ShutString
import Derived.ChangeOld
import Derived.Below
import Derived.JoinedCond
/- Words for the plain laws and for the frames. No premise. -/
namespace Go.Sx
open Go.ChangeShapes Go.WideShapes Go.ChangeAt Go.RowKit
set_option linter.unusedSimpArgs false
set_option linter.unusedVariables false
variable {α σ ρ : Type}

/-! ### numbers -/
theorem w64_id {n : Int} (h : -9223372036854775808 ≤ n ∧ n < 9223372036854775808) : w64 n = n := by
  simp only [w64, IntKind.wrap, IntKind.signed, IntKind.bits, reduceIte]
  simp only [show (2 : Int) ^ 64 = 18446744073709551616 from rfl, show (2 : Int) ^ 63 = 9223372036854775808 from rfl, show (2 : Nat) ^ 64 = 18446744073709551616 from rfl, show (2 : Nat) ^ 63 = 9223372036854775808 from rfl, show (64 - 1 : Nat) = 63 from rfl]
  first | omega | (simp; omega)

theorem geti_at {xs : List α} {i : Nat} {x : α} (h : xs[i]? = some x) : geti xs (i : Int) = some x := by
  unfold geti
  rw [if_pos (by omega)]
  simpa using h
theorem app_ok {xs ys : List α} {b : Nat} (h : (xs.length + ys.length) * b ≤ 140737488355328) : app xs ys b = some (xs ++ ys) := by
  unfold app; rw [if_pos h]
theorem need_ok {p : Prop} [Decidable p] (h : p) : need p = some () := by
  unfold need; rw [if_pos h]
theorem slc_ok {xs : List α} {lo hi : Int} (h : 0 ≤ lo ∧ lo ≤ hi ∧ hi ≤ xs.length) : slc xs lo hi = some ((xs.take hi.toNat).drop lo.toNat) := by
  unfold slc; rw [if_pos h]

/-! ### loops -/
theorem whileO_inv {f : σ → Option (σ ⊕ ρ)} (P : Nat → σ → Prop) (Q : ρ → Prop) (n : Nat)
    (h : ∀ i s, P i s → (i < n ∧ ∃ s', f s = some (.inl s') ∧ P (i + 1) s') ∨ ∃ r, f s = some (.inr r) ∧ Q r) :
    ∀ s, P 0 s → ∃ r, whileO f s = some r ∧ Q r := by
  have key : ∀ k i s, n - i ≤ k → P i s → ∃ r, whileO f s = some r ∧ Q r := by
    intro k
    induction k with
    | zero =>
      intro i s hk hp
      rcases h i s hp with ⟨hi, _⟩ | ⟨r, hr, hq⟩
      · omega
      · exact ⟨r, whileO_done hr, hq⟩
    | succ k ih =>
      intro i s hk hp
      rcases h i s hp with ⟨hi, s', hs', hp'⟩ | ⟨r, hr, hq⟩
      · rw [whileO_next hs']
        exact ih (i + 1) s' (by omega) hp'
      · exact ⟨r, whileO_done hr, hq⟩
  exact fun s hp => key n 0 s (by omega) hp
/-- the loop gives r -/
theorem whileO_eq {f : σ → Option (σ ⊕ ρ)} (P : Nat → σ → Prop) (r : ρ) (n : Nat) (s : σ) (h0 : P 0 s)
    (h : ∀ i s, P i s → (i < n ∧ ∃ s', f s = some (.inl s') ∧ P (i + 1) s') ∨ f s = some (.inr r)) : whileO f s = some r := by
  obtain ⟨r', h1, rfl⟩ := whileO_inv P (fun r' => r' = r) n (fun i s hp => (h i s hp).imp id fun e => ⟨r, e, rfl⟩) s h0
  exact h1
/-- a loop of n rounds -/
theorem whileO_run {f : σ → Option (σ ⊕ ρ)} (s : Nat → σ) (n : Nat) {r : ρ} (h : ∀ i, i < n → f (s i) = some (.inl (s (i + 1)))) (he : f (s n) = some (.inr r)) : whileO f (s 0) = some r :=
  whileO_eq (fun i x => x = s i ∧ i ≤ n) r n (s 0) ⟨rfl, by omega⟩ (by
    rintro i x ⟨rfl, hi⟩
    by_cases hlt : i < n
    · exact .inl ⟨hlt, _, h i hlt, rfl, by omega⟩
    · obtain rfl : i = n := by omega
      exact .inr he)

/-! ### what came in -/
/-- a slice of integers that came in: nil; or a row of cells -/
def IsRow (k : IntKind) (w : World) (a : Option Addr) (len cap : Nat) (zs : List Int) : Prop :=
  (a = none ∧ len = 0 ∧ cap = 0 ∧ zs = []) ∨
  ∃ x, a = some x ∧ len ≤ cap ∧ cap ≤ maxLen ∧ zs.length = cap ∧ (∀ i, i < zs.length → w.cell? (x.add i) = some (.int k (zs.getD i 0))) ∧ ∀ n ∈ zs, (Lit.int k n).wf = true

theorem wf_u8 {n : Int} (h : (Lit.int .u8 n).wf = true) : 0 ≤ n ∧ n ≤ 255 := by
  simpa [Lit.wf, IntKind.min, IntKind.max, IntKind.signed, IntKind.bits] using h
theorem wf_i8 {n : Int} (h : (Lit.int .i8 n).wf = true) : -128 ≤ n ∧ n ≤ 127 := by
  simpa [Lit.wf, IntKind.min, IntKind.max, IntKind.signed, IntKind.bits] using h
theorem wf_u16 {n : Int} (h : (Lit.int .u16 n).wf = true) : 0 ≤ n ∧ n ≤ 65535 := by
  simpa [Lit.wf, IntKind.min, IntKind.max, IntKind.signed, IntKind.bits] using h
theorem wf_u32 {n : Int} (h : (Lit.int .u32 n).wf = true) : 0 ≤ n ∧ n ≤ 4294967295 := by
  simpa [Lit.wf, IntKind.min, IntKind.max, IntKind.signed, IntKind.bits] using h
theorem wf_u64 {n : Int} (h : (Lit.int .u64 n).wf = true) : 0 ≤ n ∧ n ≤ 18446744073709551615 := by
  simpa [Lit.wf, IntKind.min, IntKind.max, IntKind.signed, IntKind.bits] using h
theorem wf_i64 {n : Int} (h : (Lit.int .i64 n).wf = true) : -9223372036854775808 ≤ n ∧ n ≤ 9223372036854775807 := by
  simpa [Lit.wf, IntKind.min, IntKind.max, IntKind.signed, IntKind.bits] using h
theorem get_u8 {n : Int} (h : (Lit.int .u8 n).wf = true) : ∃ x : UInt8, Value.int .u8 n = SV.val (.u8 x) := by
  have := wf_u8 h
  refine ⟨UInt8.ofNat n.toNat, ?_⟩
  simp only [SV.val, Value.int.injEq, true_and]
  simp; omega
theorem get_u16 {n : Int} (h : (Lit.int .u16 n).wf = true) : ∃ x : UInt16, Value.int .u16 n = SV.val (.u16 x) := by
  have := wf_u16 h
  refine ⟨UInt16.ofNat n.toNat, ?_⟩
  simp only [SV.val, Value.int.injEq, true_and]
  simp; omega
theorem get_u32 {n : Int} (h : (Lit.int .u32 n).wf = true) : ∃ x : UInt32, Value.int .u32 n = SV.val (.u32 x) := by
  have := wf_u32 h
  refine ⟨UInt32.ofNat n.toNat, ?_⟩
  simp only [SV.val, Value.int.injEq, true_and]
  simp; omega
theorem get_u64 {n : Int} (h : (Lit.int .u64 n).wf = true) : ∃ x : UInt64, Value.int .u64 n = SV.val (.u64 x) := by
  have := wf_u64 h
  refine ⟨UInt64.ofNat n.toNat, ?_⟩
  simp only [SV.val, Value.int.injEq, true_and]
  simp; omega

theorem row_list {k : IntKind} {β : Type} {φ : β → Value} {w : World} {a : Option Addr} {len cap : Nat} {zs : List Int} (h : IsRow k w a len cap zs)
    (hg : ∀ n : Int, (Lit.int k n).wf = true → ∃ x : β, Value.int k n = φ x) : ∃ b : List β, Rd w a (b.map φ) ∧ b.length = len ∧ len ≤ cap := by
  rcases h with ⟨rfl, rfl, rfl, rfl⟩ | ⟨x, rfl, hl, hm, hz, hc, hw⟩
  · exact ⟨[], ⟨fun h => absurd rfl h, fun _ _ _ h => by cases h⟩, rfl, by omega⟩
  · have key : ∀ zs : List Int, (∀ n ∈ zs, (Lit.int k n).wf = true) → ∃ b : List β, b.length = zs.length ∧ ∀ (i : Nat) (n : Int), zs[i]? = some n → ∃ y : β, b[i]? = some y ∧ Value.int k n = φ y := by
      intro zs
      induction zs with
      | nil => intro _; exact ⟨[], rfl, fun i n h => by simp at h⟩
      | cons z zs ih =>
        intro hw
        obtain ⟨b, hb, hi⟩ := ih fun n hn => hw n (List.mem_cons_of_mem _ hn)
        obtain ⟨y, hy⟩ := hg z (hw z List.mem_cons_self)
        refine ⟨y :: b, by simp [hb], fun i n hin => ?_⟩
        cases i with
        | zero => simp at hin; subst hin; exact ⟨y, by simp, hy⟩
        | succ i => simp at hin; obtain ⟨y', h1, h2⟩ := hi i n hin; exact ⟨y', by simpa using h1, h2⟩
    obtain ⟨b, hb, hi⟩ := key zs hw
    refine ⟨b.take len, ⟨fun _ => ⟨x, rfl⟩, fun a j u ha hu => ?_⟩, by simp; omega, hl⟩
    cases ha
    rw [List.map_take, List.getElem?_take] at hu
    split at hu
    · rename_i hj
      have hjz : j < zs.length := by omega
      obtain ⟨y, h1, h2⟩ := hi j zs[j] (by simp [hjz])
      rw [List.getElem?_map, h1] at hu
      simp only [Option.map_some, Option.some.injEq] at hu
      rw [hc j hjz, ← hu, ← h2]
      simp [hjz]
    · cases hu
theorem row_u8 {w : World} {a : Option Addr} {len cap : Nat} {zs : List Int} (h : IsRow .u8 w a len cap zs) : ∃ b : List UInt8, Rd w a (b.map bV) ∧ b.length = len ∧ len ≤ cap :=
  row_list h fun n hn => by obtain ⟨x, hx⟩ := get_u8 hn; exact ⟨x, hx⟩
def iV (n : Int) : Value := .int .i64 n
theorem row_i64 {w : World} {a : Option Addr} {len cap : Nat} {zs : List Int} (h : IsRow .i64 w a len cap zs) : ∃ b : List Int, Rd w a (b.map iV) ∧ b.length = len ∧ len ≤ cap :=
  row_list h fun n hn => ⟨n, rfl⟩
theorem row_u64 {w : World} {a : Option Addr} {len cap : Nat} {zs : List Int} (h : IsRow .u64 w a len cap zs) : ∃ b : List UInt64, Rd w a (b.map fun x => SV.val (.u64 x)) ∧ b.length = len ∧ len ≤ cap :=
  row_list h fun n hn => by obtain ⟨x, hx⟩ := get_u64 hn; exact ⟨x, hx⟩
theorem e64_all (xs : List UInt64) : e64.all xs = xs.map fun x => SV.val (.u64 x) := by
  induction xs with
  | nil => rfl
  | cons x xs ih =>
    show SV.val (.u64 x) :: e64.all xs = _
    rw [ih]
    rfl
theorem get_str (s : ByteArray) : ∃ l : List UInt8, Value.string s = SV.val (.s l) ∧ l.length = s.size := by
  obtain ⟨⟨l⟩⟩ := s
  exact ⟨l, rfl, rfl⟩
theorem get_u32' (x : UInt32) : x.toNat < 4294967296 := x.toNat_lt


/-! ### opening what came in, cell by cell -/
section
variable {H : Type} {enc : TypeId × Value → H} {P : Program} {w : World} {held : Bool}
theorem open_row {t e : TypeId} {k : IntKind} {fuel : Nat} {cs : List Value} {x : DataW H × List MemPlace} (ht : P.underlying t = some (.slice e)) (he : P.underlying e = some (.int k)) (hc : P.cellsOf e = 1)
    (h : DataW.trod enc P w 0 (fun _ => true) held fuel t cs = some x) :
    ∃ a len cap zs, cs = [.slice a len cap] ∧ IsRow k w a len cap zs ∧ (len = 0 ∨ (x.1 = .slice (lits k (zs.take len)) (lits k (zs.drop len)) ∧ len ≤ zs.length)) := by
  rcases open_ints ht he hc h with ⟨rfl, _⟩ | ⟨x', l, c, zs, rfl, _, hl, hm, hz, hxx, hcell, hwz⟩
  · exact ⟨none, 0, 0, [], rfl, .inl ⟨rfl, rfl, rfl, rfl⟩, .inl rfl⟩
  · simp only [if_true] at hz
    refine ⟨some x', l, c, zs, rfl, .inr ⟨_, rfl, hl, hm, by simpa using hz, hcell, hwz⟩, .inr ⟨by rw [hxx], by omega⟩⟩
theorem open_fld {t : TypeId} {fs : Array Field} {fuel : Nat} {cs : List Value} {x : DataW H × List MemPlace} (ht : P.underlying t = some (.struct fs)) (h : DataW.trod enc P w 0 (fun _ => true) held fuel t cs = some x) :
    ∃ (xs : List (DataW H × List MemPlace)) (n : Nat), x.1 = .agg (xs.map (·.1)) ∧ cs.length = P.cellsOf t ∧ ∀ (i : Nat) (f : Field) (ft : TypeId) (off len : Nat), fs[i]? = some f → f.type = ft → f.offset = off → P.cellsOf ft = len →
      ∃ y, y.1 ∈ xs.map (·.1) ∧ DataW.trod enc P w 0 (fun _ => true) held n ft ((cs.drop off).take len) = some y := by
  obtain ⟨xs, n, _, rfl, hl, hlen, hf⟩ := DataW.trod_struct ht h
  refine ⟨xs, n, rfl, hl, ?_⟩
  rintro i f ft off len hi rfl rfl rfl
  have hlt : i < xs.length := by
    rw [hlen]
    have := (Array.getElem?_eq_some_iff.1 hi).1
    exact this
  refine ⟨xs[i], List.mem_map.2 ⟨xs[i], List.getElem_mem hlt, rfl⟩, ?_⟩
  rw [hf i f hi]
  simp [hlt]
end
theorem cut_at (cs : List Value) (off n off2 : Nat) (h : off + n = off2) : cs.drop off = (cs.drop off).take n ++ cs.drop off2 := by
  subst h
  rw [← List.drop_drop, List.take_append_drop]
theorem cut_end (cs : List Value) (n m : Nat) (h : cs.length = n) (hm : n = m) : cs.drop m = [] := by
  subst hm; subst h; simp
end Go.Sx
