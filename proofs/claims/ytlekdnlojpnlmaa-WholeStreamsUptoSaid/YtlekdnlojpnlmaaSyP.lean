import Derived.Test.YtlekdnlojpnlmaaSyO
import Derived.OpenShut
import Derived.ShutString
import Derived.ChangeOld
import Derived.Below
import Derived.JoinedCond
/- Words for the plain laws and for the frames. No premise. -/
namespace Go.Sx
open Go.ChangeShapes Go.WideShapes Go.ChangeAt Go.RowKit
set_option linter.unusedSimpArgs false
set_option linter.unusedVariables false
variable {α σ ρ : Type}

/-! ### numbers -/
theorem w64_id {n : Int} (h : -9223372036854775808 ≤ n ∧ n < 9223372036854775808) : w64 n = n := by
  simp only [w64, IntKind.wrap, IntKind.signed, IntKind.bits, reduceIte]
  simp only [show (2 : Int) ^ 64 = 18446744073709551616 from rfl, show (2 : Int) ^ 63 = 9223372036854775808 from rfl, show (2 : Nat) ^ 64 = 18446744073709551616 from rfl, show (2 : Nat) ^ 63 = 9223372036854775808 from rfl, show (64 - 1 : Nat) = 63 from rfl]
  first | omega | (simp; omega)

theorem app_ok {xs ys : List α} {b : Nat} (h : (xs.length + ys.length) * b ≤ 140737488355328) : app xs ys b = some (xs ++ ys) := by
  unfold app; rw [if_pos h]
theorem need_ok {p : Prop} [Decidable p] (h : p) : need p = some () := by
  unfold need; rw [if_pos h]
theorem slc_ok {xs : List α} {lo hi : Int} (h : 0 ≤ lo ∧ lo ≤ hi ∧ hi ≤ xs.length) : slc xs lo hi = some ((xs.take hi.toNat).drop lo.toNat) := by
  unfold slc; rw [if_pos h]

/-! ### loops -/
theorem whileO_inv {f : σ → Option (σ ⊕ ρ)} (P : Nat → σ → Prop) (Q : ρ → Prop) (n : Nat)
    (h : ∀ i s, P i s → (i < n ∧ ∃ s', f s = some (.inl s') ∧ P (i + 1) s') ∨ ∃ r, f s = some (.inr r) ∧ Q r) :
    ∀ s, P 0 s → ∃ r, whileO f s = some r ∧ Q r := by
  have key : ∀ k i s, n - i ≤ k → P i s → ∃ r, whileO f s = some r ∧ Q r := by
    intro k
    induction k with
    | zero =>
      intro i s hk hp
      rcases h i s hp with ⟨hi, _⟩ | ⟨r, hr, hq⟩
      · omega
      · exact ⟨r, whileO_done hr, hq⟩
    | succ k ih =>
      intro i s hk hp
      rcases h i s hp with ⟨hi, s', hs', hp'⟩ | ⟨r, hr, hq⟩
      · rw [whileO_next hs']
        exact ih (i + 1) s' (by omega) hp'
      · exact ⟨r, whileO_done hr, hq⟩
  exact fun s hp => key n 0 s (by omega) hp
/-- the loop gives r -/
theorem whileO_eq {f : σ → Option (σ ⊕ ρ)} (P : Nat → σ → Prop) (r : ρ) (n : Nat) (s : σ) (h0 : P 0 s)
    (h : ∀ i s, P i s → (i < n ∧ ∃ s', f s = some (.inl s') ∧ P (i + 1) s') ∨ f s = some (.inr r)) : whileO f s = some r := by
  obtain ⟨r', h1, rfl⟩ := whileO_inv P (fun r' => r' = r) n (fun i s hp => (h i s hp).imp id fun e => ⟨r, e, rfl⟩) s h0
  exact h1
/-- a loop of n rounds -/
theorem whileO_run {f : σ → Option (σ ⊕ ρ)} (s : Nat → σ) (n : Nat) {r : ρ} (h : ∀ i, i < n → f (s i) = some (.inl (s (i + 1)))) (he : f (s n) = some (.inr r)) : whileO f (s 0) = some r :=
  whileO_eq (fun i x => x = s i ∧ i ≤ n) r n (s 0) ⟨rfl, by omega⟩ (by
    rintro i x ⟨rfl, hi⟩
    by_cases hlt : i < n
    · exact .inl ⟨hlt, _, h i hlt, rfl, by omega⟩
    · obtain rfl : i = n := by omega
      exact .inr he)

/-! ### what came in -/
/-- a slice of integers that came in: nil; or a row of cells -/
def IsRow (k : IntKind) (w : World) (a : Option Addr) (len cap : Nat) (zs : List Int) : Prop :=
  (a = none ∧ len = 0 ∧ cap = 0 ∧ zs = []) ∨
  ∃ x, a = some x ∧ len ≤ cap ∧ cap ≤ maxLen ∧ zs.length = cap ∧ (∀ i, i < zs.length → w.cell? (x.add i) = some (.int k (zs.getD i 0))) ∧ ∀ n ∈ zs, (Lit.int k n).wf = true

theorem wf_u8 {n : Int} (h : (Lit.int .u8 n).wf = true) : 0 ≤ n ∧ n ≤ 255 := by
  simpa [Lit.wf, IntKind.min, IntKind.max, IntKind.signed, IntKind.bits] using h
theorem wf_u16 {n : Int} (h : (Lit.int .u16 n).wf = true) : 0 ≤ n ∧ n ≤ 65535 := by
  simpa [Lit.wf, IntKind.min, IntKind.max, IntKind.signed, IntKind.bits] using h
theorem get_u8 {n : Int} (h : (Lit.int .u8 n).wf = true) : ∃ x : UInt8, Value.int .u8 n = SV.val (.u8 x) := by
  have := wf_u8 h
  refine ⟨UInt8.ofNat n.toNat, ?_⟩
  simp only [SV.val, Value.int.injEq, true_and]
  simp; omega
theorem get_u16 {n : Int} (h : (Lit.int .u16 n).wf = true) : ∃ x : UInt16, Value.int .u16 n = SV.val (.u16 x) := by
  have := wf_u16 h
  refine ⟨UInt16.ofNat n.toNat, ?_⟩
  simp only [SV.val, Value.int.injEq, true_and]
  simp; omega
theorem row_list {k : IntKind} {β : Type} {φ : β → Value} {w : World} {a : Option Addr} {len cap : Nat} {zs : List Int} (h : IsRow k w a len cap zs)
    (hg : ∀ n : Int, (Lit.int k n).wf = true → ∃ x : β, Value.int k n = φ x) : ∃ b : List β, Rd w a (b.map φ) ∧ b.length = len ∧ len ≤ cap := by
  rcases h with ⟨rfl, rfl, rfl, rfl⟩ | ⟨x, rfl, hl, hm, hz, hc, hw⟩
  · exact ⟨[], ⟨fun h => absurd rfl h, fun _ _ _ h => by cases h⟩, rfl, by omega⟩
  · have key : ∀ zs : List Int, (∀ n ∈ zs, (Lit.int k n).wf = true) → ∃ b : List β, b.length = zs.length ∧ ∀ (i : Nat) (n : Int), zs[i]? = some n → ∃ y : β, b[i]? = some y ∧ Value.int k n = φ y := by
      intro zs
      induction zs with
      | nil => intro _; exact ⟨[], rfl, fun i n h => by simp at h⟩
      | cons z zs ih =>
        intro hw
        obtain ⟨b, hb, hi⟩ := ih fun n hn => hw n (List.mem_cons_of_mem _ hn)
        obtain ⟨y, hy⟩ := hg z (hw z List.mem_cons_self)
        refine ⟨y :: b, by simp [hb], fun i n hin => ?_⟩
        cases i with
        | zero => simp at hin; subst hin; exact ⟨y, by simp, hy⟩
        | succ i => simp at hin; obtain ⟨y', h1, h2⟩ := hi i n hin; exact ⟨y', by simpa using h1, h2⟩
    obtain ⟨b, hb, hi⟩ := key zs hw
    refine ⟨b.take len, ⟨fun _ => ⟨x, rfl⟩, fun a j u ha hu => ?_⟩, by simp; omega, hl⟩
    cases ha
    rw [List.map_take, List.getElem?_take] at hu
    split at hu
    · rename_i hj
      have hjz : j < zs.length := by omega
      obtain ⟨y, h1, h2⟩ := hi j zs[j] (by simp [hjz])
      rw [List.getElem?_map, h1] at hu
      simp only [Option.map_some, Option.some.injEq] at hu
      rw [hc j hjz, ← hu, ← h2]
      simp [hjz]
    · cases hu
theorem row_u8 {w : World} {a : Option Addr} {len cap : Nat} {zs : List Int} (h : IsRow .u8 w a len cap zs) : ∃ b : List UInt8, Rd w a (b.map bV) ∧ b.length = len ∧ len ≤ cap :=
  row_list h fun n hn => by obtain ⟨x, hx⟩ := get_u8 hn; exact ⟨x, hx⟩
/-! ### opening what came in, cell by cell -/
section
variable {H : Type} {enc : TypeId × Value → H} {P : Program} {w : World} {held : Bool}
theorem open_row {t e : TypeId} {k : IntKind} {fuel : Nat} {cs : List Value} {x : DataW H × List MemPlace} (ht : P.underlying t = some (.slice e)) (he : P.underlying e = some (.int k)) (hc : P.cellsOf e = 1)
    (h : DataW.trod enc P w 0 (fun _ => true) held fuel t cs = some x) :
    ∃ a len cap zs, cs = [.slice a len cap] ∧ IsRow k w a len cap zs ∧ (len = 0 ∨ (x.1 = .slice (lits k (zs.take len)) (lits k (zs.drop len)) ∧ len ≤ zs.length)) := by
  rcases open_ints ht he hc h with ⟨rfl, _⟩ | ⟨x', l, c, zs, rfl, _, hl, hm, hz, hxx, hcell, hwz⟩
  · exact ⟨none, 0, 0, [], rfl, .inl ⟨rfl, rfl, rfl, rfl⟩, .inl rfl⟩
  · simp only [if_true] at hz
    refine ⟨some x', l, c, zs, rfl, .inr ⟨_, rfl, hl, hm, by simpa using hz, hcell, hwz⟩, .inr ⟨by rw [hxx], by omega⟩⟩
end
end Go.Sx

