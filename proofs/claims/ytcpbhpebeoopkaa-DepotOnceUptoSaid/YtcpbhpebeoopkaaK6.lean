import Derived.Test.YtcpbhpebeoopkaaK5
namespace Go.Sx
open Go.RowKit
set_option linter.unusedVariables false
set_option linter.unusedSimpArgs false
theorem KG (x : UInt64) : ((4294967296 : UInt64) ≤ x) ↔ ((4294967295 : UInt64) < x) := by
  rw [UInt64.le_iff_toNat_le, UInt64.lt_iff_toNat_lt, show (4294967296 : UInt64).toNat = 4294967296 from rfl, show (4294967295 : UInt64).toNat = 4294967295 from rfl]; omega
theorem KH (x : UInt64) : ((281474976710656 : UInt64) ≤ x) ↔ ((281474976710655 : UInt64) < x) := by
  rw [UInt64.le_iff_toNat_le, UInt64.lt_iff_toNat_lt, show (281474976710656 : UInt64).toNat = 281474976710656 from rfl, show (281474976710655 : UInt64).toNat = 281474976710655 from rfl]; omega
variable {α : Type}
theorem FA {β : Type} (f : Bool → β) (c d : Bool) : (if c = true then f c else f d) = f (c || d) := by cases c <;> rfl
theorem Gj {c d : Prop} [Decidable c] [Decidable d] {x y z : α} (h : c ↔ d) (e : y = z) : (if c then x else y) = (if d then x else z) := by
  subst e
  by_cases hd : d
  · rw [if_pos hd, if_pos (h.2 hd)]
  · rw [if_neg hd, if_neg fun hc => hd (h.1 hc)]
theorem xY (k S m q d ky f dp : Int) (lf : UInt32) (off : UInt64) (ee : UInt32) (nd eL : Int) (bZ cg : List UInt8) (hk : gw k = some (S, m, q)) (hm : gi k = some m) (h0 : m ≠ 0) (hq : aA (Int.tdiv m 4) = q) : fK k d ky f dp lf off ee nd eL bZ cg = cI k d ky f dp lf off ee nd eL bZ cg := by
  unfold fK cI
  rw [hk, hm]
  simp only [Option.bind_some]
  rw [if_neg h0, if_neg h0, hq]
  have key : ∀ least : Int, (least = 0 ∧ ee ≠ 0 ∨ least = 1 ∧ ee = 0) → fc k d ky f dp off ee nd eL bZ cg (S, m, q) least = (if ((decide (d < 1)) || (decide (m < d))) = true then
      (some (20 : Int))
    else (if ((decide (ky < 0)) || (decide (m < ky))) = true then
      (some (8 : Int))
    else (if ((decide (f < 0)) || (decide (255 < f))) = true then
      (some (21 : Int))
    else (if (((decide (dp < 0)) || (decide (255 < dp))) || ((decide (dp = 0)) && (decide (ee = 0)))) = true then
      (some (22 : Int))
    else (if (((decide (ee ≠ 0)) && (decide ((4294967295 : UInt64) < off))) || (((decide (ee = 0)) && (decide (k = 2))) && (decide ((281474976710655 : UInt64) < off)))) = true then
      (some (23 : Int))
    else (if ((decide (k = 2)) && (decide ((65535 : UInt32) < ee))) = true then
      (some (24 : Int))
    else (if ((decide (nd < 0)) || (decide (255 < nd))) = true then
      (some (25 : Int))
    else (if ((decide (eL < 0)) || (decide (m < eL))) = true then
      (some (26 : Int))
    else (if q < ((bZ.length : Nat) : Int) then
      (some (27 : Int))
    else (if q < ((cg.length : Nat) : Int) then
      (some (28 : Int))
    else (some (0 : Int)))))))))))) := by
    intro least hl
    unfold fc
    rw [FA]
    unfold fX g_
    simp only [dH, Option.bind_some]
    refine Gj (by simp only [Bool.not_eq_true', Bool.and_eq_false_iff, decide_eq_false_iff_not, Bool.or_eq_true, decide_eq_true_eq]; omega) ?_
    refine Gj (by simp only [Bool.not_eq_true', Bool.and_eq_false_iff, decide_eq_false_iff_not, Bool.or_eq_true, decide_eq_true_eq]; omega) ?_
    refine Gj (by simp only [Bool.not_eq_true', Bool.and_eq_false_iff, decide_eq_false_iff_not, Bool.or_eq_true, decide_eq_true_eq]; omega) ?_
    refine Gj (by
      simp only [Bool.not_eq_true', Bool.and_eq_false_iff, decide_eq_false_iff_not, Bool.or_eq_true, decide_eq_true_eq, Bool.and_eq_true]
      rcases hl with ⟨rfl, hx⟩ | ⟨rfl, hx⟩
      · simp only [hx, and_false, or_false]; omega
      · simp only [hx, and_true]; omega) ?_
    refine Gj (by simp only [KG, KH]) ?_
    refine Gj Iff.rfl ?_
    refine Gj (by simp only [Bool.not_eq_true', Bool.and_eq_false_iff, decide_eq_false_iff_not, Bool.or_eq_true, decide_eq_true_eq]; omega) ?_
    refine Gj (by simp only [Bool.not_eq_true', Bool.and_eq_false_iff, decide_eq_false_iff_not, Bool.or_eq_true, decide_eq_true_eq]; omega) ?_
    rfl
  by_cases hx : ee = 0
  · rw [if_neg (by simpa using hx)]
    exact key 1 (.inr ⟨rfl, hx⟩)
  · rw [if_pos hx]
    exact key 0 (.inl ⟨rfl, hx⟩)
theorem xZ (k d ky f dp : Int) (lf : UInt32) (off : UInt64) (ee : UInt32) (nd eL : Int) (bZ cg : List UInt8) : fK k d ky f dp lf off ee nd eL bZ cg = cI k d ky f dp lf off ee nd eL bZ cg := by
  by_cases k1 : k = 1
  · subst k1
    exact xY 1 64 64 16 _ _ _ _ _ _ _ _ _ _ _ rfl rfl (by omega) rfl
  · by_cases k2 : k = 2
    · subst k2
      exact xY 2 32 32 8 _ _ _ _ _ _ _ _ _ _ _ rfl rfl (by omega) rfl
    · unfold fK gw cI gi
      simp only [k1, k2, if_false, Option.bind_some, if_true]
theorem j5 {c : Prop} [Decidable c] {n : Int} {Q : Int → Prop} {e : Option Int} (h0 : n ≠ 0) (h : ¬ c → ∃ r, e = some r ∧ (r = 0 → Q r)) : ∃ r, (if c then some n else e) = some r ∧ (r = 0 → Q r) := by
  by_cases hc : c
  · rw [if_pos hc]; exact ⟨n, rfl, fun h => absurd h h0⟩
  · rw [if_neg hc]; exact h hc
theorem tC (k d ky f dp : Int) (lf : UInt32) (off : UInt64) (ee : UInt32) (nd eL : Int) (bZ cg : List UInt8) : ∃ r, cI k d ky f dp lf off ee nd eL bZ cg = some r ∧ (r = 0 → (k = 1 ∧ 1 ≤ d ∧ d ≤ 64 ∧ ky ≤ 64 ∧ bZ.length ≤ 16 ∧ cg.length ≤ 16) ∨ (k = 2 ∧ 1 ≤ d ∧ d ≤ 32 ∧ ky ≤ 32 ∧ bZ.length ≤ 8 ∧ cg.length ≤ 8)) := by
  have q1 : aA (Int.tdiv 64 4) = 16 := by rfl
  have q2 : aA (Int.tdiv 32 4) = 8 := by rfl
  have key : ∀ m q : Int, aA (Int.tdiv m 4) = q → gi k = some m → m ≠ 0 → ∃ r, cI k d ky f dp lf off ee nd eL bZ cg = some r ∧ (r = 0 → (1 ≤ d ∧ d ≤ m ∧ ky ≤ m ∧ (bZ.length : Int) ≤ q ∧ (cg.length : Int) ≤ q)) := by
    intro m q hq hm h0
    unfold cI
    rw [hm]
    simp only [Option.bind_some]
    rw [if_neg h0, hq]
    refine j5 (Q := fun _ => _) (by omega) fun h1 => j5 (Q := fun _ => _) (by omega) fun h2 => j5 (Q := fun _ => _) (by omega) fun h3 => j5 (Q := fun _ => _) (by omega) fun h4 => j5 (Q := fun _ => _) (by omega) fun h5 => j5 (Q := fun _ => _) (by omega) fun h6 => j5 (Q := fun _ => _) (by omega) fun h7 => j5 (Q := fun _ => _) (by omega) fun h8 => j5 (Q := fun _ => _) (by omega) fun h9 => j5 (Q := fun _ => _) (by omega) fun S4 => ⟨0, rfl, fun _ => ?_⟩
    simp only [Bool.or_eq_true, decide_eq_true_eq] at h1 h2
    omega
  by_cases k1 : k = 1
  · obtain ⟨r, h1, h2⟩ := key 64 16 q1 (by rw [k1]; rfl) (by omega)
    exact ⟨r, h1, fun h => .inl ⟨k1, by have := h2 h; omega⟩⟩
  · by_cases k2 : k = 2
    · obtain ⟨r, h1, h2⟩ := key 32 8 q2 (by rw [k2]; rfl) (by omega)
      exact ⟨r, h1, fun h => .inr ⟨k2, by have := h2 h; omega⟩⟩
    · refine ⟨1, ?_, fun h => by omega⟩
      unfold cI gi
      simp only [k1, k2, if_false, Option.bind_some, if_true]
end Go.Sx
namespace Go.Sx
open Go.RowKit
set_option linter.unusedVariables false
set_option linter.unusedSimpArgs false
def ps (at_ : Nat) (v : UInt64) (b : List UInt8) (i : Nat) : List UInt8 := b.set (at_ + i) (UInt8.ofNat (dz v (8 * i)).toNat)
def FB (b : List UInt8) (at_ n : Nat) (v : UInt64) : List UInt8 := (List.range n).foldl (ps at_ v) b
theorem zj (at_ : Nat) (v : UInt64) (n : Nat) (b : List UInt8) : ((List.range n).foldl (ps at_ v) b).length = b.length := by
  induction n with
  | zero => rfl
  | succ n ih => rw [List.range_succ, List.foldl_append]; simp only [List.foldl_cons, List.foldl_nil, ps, List.length_set, ih]
theorem Dj (b : List UInt8) (at_ n : Nat) (v : UInt64) : (FB b at_ n v).length = b.length := zj _ _ _ _
theorem FC (a i : Nat) (h : a < 1000) (hi : i < 1000) : aA ((a : Int) + (i : Int)) = ((a + i : Nat) : Int) := by rw [cw (by omega)]; omega
theorem Oe (b : List UInt8) (at_ n : Nat) (v : UInt64) (hn : n ≤ 8) (hb : at_ + n ≤ b.length) (ha : at_ < 1000) : j9 b (at_ : Int) (n : Int) v = some (FB b at_ n v) := by
  unfold j9
  refine bY (fun i => ((List.range i).foldl (ps at_ v) b, (i : Int))) n (fun i hi => ?_) ?_
  · unfold gM
    simp only []
    rw [if_pos (by omega), Dc i (by omega), iE (by omega), FC _ _ ha (by omega), bM (by rw [zj]; omega), aY i (by omega), List.range_succ, List.foldl_append]
    rfl
  · unfold gM
    simp only []
    rw [if_neg (by omega)]
    rfl
theorem m8 : ∀ i : Nat, i < 8 → ((8 : UInt64) * UInt64.ofInt (i : Int)).toNat = 8 * i := by decide +kernel
theorem Of (b : List UInt8) (at_ n : Nat) (v : UInt64) (hn : n ≤ 8) (hb : at_ + n ≤ b.length) (ha : at_ < 1000) : qZ b (at_ : Int) (n : Int) v = some (FB b at_ n v) := by
  unfold qZ
  refine bY (fun i => ((List.range i).foldl (ps at_ v) b, (i : Int))) n (fun i hi => ?_) ?_
  · unfold mV
    simp only []
    rw [if_pos (by omega), FC _ _ ha (by omega), bM (by rw [zj]; omega), aY i (by omega), m8 i (by omega), List.range_succ, List.foldl_append]
    rfl
  · unfold mV
    simp only []
    rw [if_neg (by omega)]
    rfl
def FD (b : List UInt8) (at_ : Nat) (xs : List UInt8) : List UInt8 := (List.range xs.length).foldl (fun (b : List UInt8) (i : Nat) => b.set (at_ + i) (xs.getD i 0)) b
theorem Dk (at_ : Nat) (xs : List UInt8) (n : Nat) (b : List UInt8) (hn : n ≤ xs.length) (hb : at_ + n ≤ b.length) : (List.range n).foldl (fun (b : List UInt8) (i : Nat) => b.set (at_ + i) (xs.getD i 0)) b = b.take at_ ++ xs.take n ++ b.drop (at_ + n) := by
  induction n with
  | zero => simp
  | succ n ih =>
    rw [List.range_succ, List.foldl_append, ih (by omega) (by omega)]
    simp only [List.foldl_cons, List.foldl_nil]
    have hd : b.drop (at_ + n) = b[at_ + n] :: b.drop (at_ + (n + 1)) := List.drop_eq_getElem_cons (by omega)
    rw [hd, List.set_append_right _ _ (by simp; omega)]
    have hx : at_ + n - (b.take at_ ++ xs.take n).length = 0 := by simp; omega
    rw [hx, List.set_cons_zero, List.take_succ_eq_append_getElem (by omega)]
    simp only [List.append_assoc, List.cons_append, List.nil_append]
    congr 3
    simp [List.getD_eq_getElem?_getD, show n < xs.length from by omega]
theorem lZ (b : List UInt8) (at_ : Nat) (xs : List UInt8) (h : at_ + xs.length ≤ b.length) : (FD b at_ xs).length = b.length := by
  unfold FD; rw [Dk at_ xs xs.length b (Nat.le_refl _) h]; simp; omega
theorem Ag (b : List UInt8) (at_ n : Nat) (xs : List UInt8) (hn : xs.length ≤ n) (h : at_ + xs.length ≤ b.length) : zF b at_ n xs = FD b at_ xs := by
  unfold FD; rw [Dk at_ xs xs.length b (Nat.le_refl _) h, zF, List.take_length, List.take_of_length_le hn, Nat.min_eq_right hn]
def zk (k : Int) (i : Nat) : Nat × Nat := if k = 1 then [(0, 1), (1, 1), (2, 1), (3, 1), (4, 4), (8, 8), (12, 4), (16, 1), (17, 1)].getD i (0, 0) else [(0, 1), (1, 1), (2, 1), (3, 1), (4, 4), (8, 6), (12, 2), (14, 1), (15, 1)].getD i (0, 0)
theorem Dl (k : Int) : ∀ i : Nat, i < 9 → (zk k i).1 + (zk k i).2 ≤ 18 ∧ (zk k i).2 ≤ 8 := by
  intro i hi
  unfold zk
  by_cases hk : k = 1
  · simp only [hk, if_true]; revert i; decide
  · simp only [hk, if_false]; revert i; decide
theorem Iv (k : Int) (hk : k = 1 ∨ k = 2) : ∀ i : Nat, i < 9 → rK k ((i + 1 : Nat) : Int) = some (((zk k i).1 : Int), ((zk k i).2 : Int)) := by
  rcases hk with rfl | rfl <;> decide +kernel
theorem KI (k : Int) : ∃ rows, gg k = some rows ∧ rows.length = 9 ∧ ∀ i : Nat, i < 9 → ∃ row, an rows (i : Int) = some row ∧ row.1 = ((i + 1 : Nat) : Int) ∧ row.2.1 = ((zk k i).1 : Int) ∧ row.2.2.1 = ((zk k i).2 : Int) := by
  by_cases hk : k = 1
  · subst hk
    refine ⟨_, rfl, rfl, fun i hi => ?_⟩
    match i, hi with
    | 0, _ => exact ⟨_, rfl, rfl, rfl, rfl⟩
    | 1, _ => exact ⟨_, rfl, rfl, rfl, rfl⟩
    | 2, _ => exact ⟨_, rfl, rfl, rfl, rfl⟩
    | 3, _ => exact ⟨_, rfl, rfl, rfl, rfl⟩
    | 4, _ => exact ⟨_, rfl, rfl, rfl, rfl⟩
    | 5, _ => exact ⟨_, rfl, rfl, rfl, rfl⟩
    | 6, _ => exact ⟨_, rfl, rfl, rfl, rfl⟩
    | 7, _ => exact ⟨_, rfl, rfl, rfl, rfl⟩
    | 8, _ => exact ⟨_, rfl, rfl, rfl, rfl⟩
  · have h2 : ∀ i, zk k i = zk 2 i := fun i => by unfold zk; simp only [hk, if_false]; rfl
    have h3 : gg k = gg 2 := by unfold gg; rw [if_neg hk, if_neg (by decide)]
    rw [h3]
    simp only [h2]
    refine ⟨_, rfl, rfl, fun i hi => ?_⟩
    match i, hi with
    | 0, _ => exact ⟨_, rfl, rfl, rfl, rfl⟩
    | 1, _ => exact ⟨_, rfl, rfl, rfl, rfl⟩
    | 2, _ => exact ⟨_, rfl, rfl, rfl, rfl⟩
    | 3, _ => exact ⟨_, rfl, rfl, rfl, rfl⟩
    | 4, _ => exact ⟨_, rfl, rfl, rfl, rfl⟩
    | 5, _ => exact ⟨_, rfl, rfl, rfl, rfl⟩
    | 6, _ => exact ⟨_, rfl, rfl, rfl, rfl⟩
    | 7, _ => exact ⟨_, rfl, rfl, rfl, rfl⟩
    | 8, _ => exact ⟨_, rfl, rfl, rfl, rfl⟩
section
variable (k d ky f dp : Int) (lf : UInt32) (off : UInt64) (ee : UInt32) (nd eL : Int) (bZ cg : List UInt8)
def Ah : List UInt64 := [UInt64.ofInt d, UInt64.ofInt ky, UInt64.ofInt f, UInt64.ofInt dp, UInt64.ofNat lf.toNat, off, UInt64.ofNat ee.toNat, UInt64.ofInt nd, UInt64.ofInt eL]
theorem Iw (i : Nat) (hi : i < 9) : jX d ky f dp lf off ee nd eL bZ cg ((i + 1 : Nat) : Int) = some ((Ah d ky f dp lf off ee nd eL).getD i 0) := by
  match i, hi with
  | 0, _ => rfl
  | 1, _ => rfl
  | 2, _ => rfl
  | 3, _ => rfl
  | 4, _ => rfl
  | 5, _ => rfl
  | 6, _ => rfl
  | 7, _ => rfl
  | 8, _ => rfl
def Js (b : List UInt8) (i : Nat) : List UInt8 := if i = 6 ∧ ee = 0 then b else FB b (zk k i).1 (zk k i).2 ((Ah d ky f dp lf off ee nd eL).getD i 0)
def uo (b : List UInt8) (n : Nat) : List UInt8 := (List.range n).foldl (Js k d ky f dp lf off ee nd eL) b
theorem iR (b : List UInt8) (n : Nat) : (uo k d ky f dp lf off ee nd eL b n).length = b.length := by
  unfold uo
  induction n with
  | zero => rfl
  | succ n ih =>
    rw [List.range_succ, List.foldl_append]
    simp only [List.foldl_cons, List.foldl_nil, Js]
    split
    · exact ih
    · rw [Dj, ih]
def Bi (S : Nat) : List UInt8 := FD (FD (uo k d ky f dp lf off ee nd eL (List.replicate S 0) 9) (S / 2) bZ) (S / 4 * 3) cg
def Bj : List UInt8 := Bi k d ky f dp lf off ee nd eL bZ cg (if k = 1 then 64 else 32)
theorem Gk (S q : Nat) (hS : S = 64 ∧ q = 16 ∨ S = 32 ∧ q = 8) (m : Int) (hs : bZ.length ≤ q) (hp : cg.length ≤ q) (rows : List (Int × Int × Int × List UInt8 × Int)) (hl : rows.length = 9)
    (hr : ∀ i : Nat, i < 9 → ∃ row, an rows (i : Int) = some row ∧ row.1 = ((i + 1 : Nat) : Int) ∧ row.2.1 = ((zk k i).1 : Int) ∧ row.2.2.1 = ((zk k i).2 : Int)) :
    aP (eE d ky f dp lf off ee nd eL bZ cg ((S : Int), m, (q : Int)) rows) (List.replicate S 0, (0 : Int)) = some (Bi k d ky f dp lf off ee nd eL bZ cg S, 0) := by
  refine bY (fun i => (uo k d ky f dp lf off ee nd eL (List.replicate S 0) i, (i : Int))) 9 (fun i hi => ?_) ?_
  · obtain ⟨row, h1, h2, h3, h4⟩ := hr i hi
    obtain ⟨g1, g2⟩ := Dl k i hi
    unfold eE fD gB
    simp only []
    rw [hl, if_pos (by omega), h1]
    simp only [Option.bind_some]
    rw [h2, h3, h4, aY i (by omega)]
    have Og : uo k d ky f dp lf off ee nd eL (List.replicate S 0) (i + 1) = Js k d ky f dp lf off ee nd eL (uo k d ky f dp lf off ee nd eL (List.replicate S 0) i) i := by
      unfold uo; rw [List.range_succ, List.foldl_append]; rfl
    rw [Og]
    unfold Js
    by_cases hc : i = 6 ∧ ee = 0
    · rw [if_pos (by simp only [Bool.and_eq_true, decide_eq_true_eq]; exact ⟨by omega, hc.2⟩), if_pos hc]
    · rw [if_neg (by simp only [Bool.and_eq_true, decide_eq_true_eq]; exact fun h => hc ⟨by omega, h.2⟩), if_neg hc, Iw _ _ _ _ _ _ _ _ _ _ _ i hi]
      simp only [Option.bind_some]
      rw [Oe _ _ _ _ g2 (by rw [iR]; simp; omega) (by omega)]
      rfl
  · unfold eE
    simp only []
    have hlen : (uo k d ky f dp lf off ee nd eL (List.replicate S 0) 9).length = S := by rw [iR]; simp
    have e1 : aA ((S : Int) - aA (2 * (q : Int))) = ((S / 2 : Nat) : Int) := by rw [cw (n := 2 * (q : Int)) (by omega), cw (by omega)]; omega
    have e2 : aA ((S : Int) - (q : Int)) = ((S / 4 * 3 : Nat) : Int) := by rw [cw (by omega)]; omega
    rw [hl, if_neg (by omega), e1, e2, Int.toNat_natCast]
    rw [kD (by rw [hlen]; omega)]
    simp only [Option.bind_some, Int.toNat_natCast]
    have l1 : ((uo k d ky f dp lf off ee nd eL (List.replicate S 0) 9).take S).drop (S / 2) = (uo k d ky f dp lf off ee nd eL (List.replicate S 0) 9).drop (S / 2) := by rw [List.take_of_length_le (by omega)]
    rw [l1, Ag _ _ _ _ (by rw [List.length_drop, hlen]; omega) (by rw [hlen]; omega)]
    have rJ : (FD (uo k d ky f dp lf off ee nd eL (List.replicate S 0) 9) (S / 2) bZ).length = S := by rw [lZ _ _ _ (by omega), hlen]
    rw [kD (by rw [rJ]; omega)]
    simp only [Option.bind_some, Int.toNat_natCast]
    rw [List.take_of_length_le (by omega), Ag _ _ _ _ (by rw [List.length_drop, rJ]; omega) (by rw [rJ]; omega)]
    rfl
theorem x5 (at_ : Nat) (xs : List UInt8) (n : Nat) (b : List UInt8) : ((List.range n).foldl (fun (b : List UInt8) (i : Nat) => b.set (at_ + i) (xs.getD i 0)) b).length = b.length := by
  induction n with
  | zero => rfl
  | succ n ih => rw [List.range_succ, List.foldl_append]; simp only [List.foldl_cons, List.foldl_nil, List.length_set, ih]
theorem Ai (xs : List UInt8) (i : Nat) (h : i < xs.length) : xs.getD i 0 = xs[i] := by simp [List.getD_eq_getElem?_getD, h]
theorem Gl (hk : k = 1 ∨ k = 2) (S q : Nat) (hS : S = 64 ∧ q = 16 ∨ S = 32 ∧ q = 8) (hM : gi k = some (S : Int)) (hs : bZ.length ≤ q) (hp : cg.length ≤ q) :
    aP (iN k d ky f dp lf off ee nd eL bZ cg) (List.replicate S 0, (1 : Int)) = some (Bi k d ky f dp lf off ee nd eL bZ cg S, 0) := by
  refine bY (fun i => (uo k d ky f dp lf off ee nd eL (List.replicate S 0) i, ((i + 1 : Nat) : Int))) 9 (fun i hi => ?_) ?_
  · obtain ⟨g1, g2⟩ := Dl k i hi
    unfold iN kG nr
    simp only []
    rw [if_pos (by omega), aY (i + 1) (by omega)]
    have Og : uo k d ky f dp lf off ee nd eL (List.replicate S 0) (i + 1) = Js k d ky f dp lf off ee nd eL (uo k d ky f dp lf off ee nd eL (List.replicate S 0) i) i := by
      unfold uo; rw [List.range_succ, List.foldl_append]; rfl
    rw [Og]
    unfold Js
    by_cases hc : i = 6 ∧ ee = 0
    · rw [if_pos (by simp only [Bool.and_eq_true, decide_eq_true_eq]; exact ⟨by omega, hc.2⟩), if_pos hc]
    · rw [if_neg (by simp only [Bool.and_eq_true, decide_eq_true_eq]; exact fun h => hc ⟨by omega, h.2⟩), if_neg hc, Iv k hk i hi]
      simp only [Option.bind_some]
      have hw : aA (((i + 1 : Nat) : Int) - 1) = (i : Int) := by rw [cw (by omega)]; omega
      have hg : an [UInt64.ofInt d, UInt64.ofInt ky, UInt64.ofInt f, UInt64.ofInt dp, UInt64.ofNat lf.toNat, off, UInt64.ofNat ee.toNat, UInt64.ofInt nd, UInt64.ofInt eL] (i : Int) = some ((Ah d ky f dp lf off ee nd eL).getD i 0) := by
        rw [bM (by simp; omega)]
        simp [Ah, List.getD_eq_getElem?_getD, hi]
      rw [hw, hg]
      simp only [Option.bind_some]
      rw [Of _ _ _ _ g2 (by rw [iR]; simp; omega) (by omega)]
      rfl
  · unfold iN
    simp only []
    have hlen : (uo k d ky f dp lf off ee nd eL (List.replicate S 0) 9).length = S := by rw [iR]; simp
    rw [if_neg (by omega), hM]
    simp only [Option.bind_some]
    have t4 : aA (Int.tdiv (S : Int) 4) = ((S / 4 : Nat) : Int) := by rcases hS with ⟨rfl, _⟩ | ⟨rfl, _⟩ <;> rfl
    have e1 : aA (2 * ((S / 4 : Nat) : Int)) = ((S / 2 : Nat) : Int) := by rw [cw (by omega)]; omega
    have e2 : aA (3 * ((S / 4 : Nat) : Int)) = ((S / 4 * 3 : Nat) : Int) := by rw [cw (by omega)]; omega
    rw [show aP (iM bZ cg (S : Int)) (uo k d ky f dp lf off ee nd eL (List.replicate S 0) 9, 0) = some (Bi k d ky f dp lf off ee nd eL bZ cg S, 0) from ?_]
    · rfl
    refine bY (fun i => ((List.range i).foldl (fun (b : List UInt8) (i : Nat) => b.set (S / 2 + i) (bZ.getD i 0)) (uo k d ky f dp lf off ee nd eL (List.replicate S 0) 9), (i : Int))) bZ.length (fun i hi => ?_) ?_
    · unfold iM
      simp only []
      rw [if_pos (by omega), t4, e1, bM hi, FC _ _ (by omega) (by omega), bM (by rw [x5, hlen]; omega), aY i (by omega), List.range_succ, List.foldl_append]
      simp only [Option.bind_some, List.foldl_cons, List.foldl_nil, Int.toNat_natCast, Ai _ _ hi]
    · unfold iM
      simp only []
      rw [if_neg (by omega)]
      rw [show aP (iL cg (S : Int)) ((List.range bZ.length).foldl (fun (b : List UInt8) (i : Nat) => b.set (S / 2 + i) (bZ.getD i 0)) (uo k d ky f dp lf off ee nd eL (List.replicate S 0) 9), 0) = some (Bi k d ky f dp lf off ee nd eL bZ cg S, 0) from ?_]
      · rfl
      have rJ : (FD (uo k d ky f dp lf off ee nd eL (List.replicate S 0) 9) (S / 2) bZ).length = S := by rw [lZ _ _ _ (by omega), hlen]
      refine bY (fun i => ((List.range i).foldl (fun (b : List UInt8) (i : Nat) => b.set (S / 4 * 3 + i) (cg.getD i 0)) (FD (uo k d ky f dp lf off ee nd eL (List.replicate S 0) 9) (S / 2) bZ), (i : Int))) cg.length (fun i hi => ?_) ?_
      · unfold iL
        simp only []
        rw [if_pos (by omega), t4, e2, bM hi, FC _ _ (by omega) (by omega), bM (by rw [x5, rJ]; omega), aY i (by omega), List.range_succ, List.foldl_append]
        simp only [Option.bind_some, List.foldl_cons, List.foldl_nil, Int.toNat_natCast, Ai _ _ hi]
      · unfold iL
        simp only []
        rw [if_neg (by omega)]
        rfl
theorem Ix (h : cI k d ky f dp lf off ee nd eL bZ cg = some 0) :
    ey k d ky f dp lf off ee nd eL bZ cg = some (Bj k d ky f dp lf off ee nd eL bZ cg, 0) ∧ ep k d ky f dp lf off ee nd eL bZ cg = some (Bj k d ky f dp lf off ee nd eL bZ cg, 0) := by
  obtain ⟨r, h1, h2⟩ := tC k d ky f dp lf off ee nd eL bZ cg
  rw [h] at h1
  obtain rfl := Option.some.inj h1
  obtain ⟨rows, r1, r2, r3⟩ := KI k
  rcases h2 rfl with ⟨rfl, _, _, _, hs, hp⟩ | ⟨rfl, _, _, _, hs, hp⟩
  · constructor
    · unfold ey
      rw [xZ, h, r1]
      exact Gk 1 d ky f dp lf off ee nd eL bZ cg 64 16 (by omega) 64 hs hp rows r2 r3
    · unfold ep
      rw [h]
      exact Gl 1 d ky f dp lf off ee nd eL bZ cg (by omega) 64 16 (by omega) rfl hs hp
  · constructor
    · unfold ey
      rw [xZ, h, r1]
      exact Gk 2 d ky f dp lf off ee nd eL bZ cg 32 8 (by omega) 32 hs hp rows r2 r3
    · unfold ep
      rw [h]
      exact Gl 2 d ky f dp lf off ee nd eL bZ cg (by omega) 32 8 (by omega) rfl hs hp
theorem x6 (h : (k = 1 ∧ bZ.length ≤ 16 ∧ cg.length ≤ 16) ∨ (k = 2 ∧ bZ.length ≤ 8 ∧ cg.length ≤ 8)) : (Bj k d ky f dp lf off ee nd eL bZ cg).length = if k = 1 then 64 else 32 := by
  unfold Bj Bi
  rcases h with ⟨rfl, hs, hp⟩ | ⟨rfl, hs, hp⟩
  · simp only [if_true]
    rw [lZ _ _ _ (by rw [lZ _ _ _ (by rw [iR]; simp; omega), iR]; simp; omega), lZ _ _ _ (by rw [iR]; simp; omega), iR]
    simp
  · simp only [show ¬ ((2 : Int) = 1) from by omega, if_false]
    rw [lZ _ _ _ (by rw [lZ _ _ _ (by rw [iR]; simp; omega), iR]; simp; omega), lZ _ _ _ (by rw [iR]; simp; omega), iR]
    simp
end
end Go.Sx
namespace Go.Sx
open Go.RowKit
set_option linter.unusedVariables false
set_option linter.unusedSimpArgs false
section
variable {σ : Type}
def dh (f : σ → List UInt8 → UInt64 × UInt64 → σ) (B : Nat) (h : σ) (c : UInt64 × UInt64) (M : List UInt8) : σ × (UInt64 × UInt64) × List UInt8 :=
  if eN : 0 < B ∧ B < M.length then dh f B (f h (M.take B) (iY c (UInt64.ofNat B))) (iY c (UInt64.ofNat B)) (M.drop B) else (h, c, M)
termination_by M.length
decreasing_by simp only [List.length_drop]; omega
theorem gT (f : σ → List UInt8 → UInt64 × UInt64 → σ) (B : Nat) (h : σ) (c : UInt64 × UInt64) (M : List UInt8) (hM : M.length ≤ B) : dh f B h c M = (h, c, M) := by
  rw [dh, dif_neg (by omega)]
theorem oK (f : σ → List UInt8 → UInt64 × UInt64 → σ) (B : Nat) (h : σ) (c : UInt64 × UInt64) (M : List UInt8) (hB : 0 < B) (hM : B < M.length) : dh f B h c M = dh f B (f h (M.take B) (iY c (UInt64.ofNat B))) (iY c (UInt64.ofNat B)) (M.drop B) := by
  rw [dh, dif_pos ⟨hB, hM⟩]
theorem zl (f : σ → List UInt8 → UInt64 × UInt64 → σ) (B : Nat) (hB : 0 < B) : ∀ (n : Nat) (h : σ) (c : UInt64 × UInt64) (M : List UInt8), M.length ≤ n → (dh f B h c M).2.2.length ≤ B ∧ (dh f B h c M).2.2 = M.drop (M.length - (dh f B h c M).2.2.length) ∧ (dh f B h c M).2.2.length ≤ M.length := by
  intro n
  induction n with
  | zero => intro h c M hM; rw [gT f B h c M (by omega)]; simp; omega
  | succ n ih =>
    intro h c M hM
    by_cases hl : B < M.length
    · rw [oK f B h c M hB hl]
      obtain ⟨h1, h2, h3⟩ := ih (f h (M.take B) (iY c (UInt64.ofNat B))) (iY c (UInt64.ofNat B)) (M.drop B) (by simp only [List.length_drop]; omega)
      refine ⟨h1, ?_, by simp only [List.length_drop] at h3; omega⟩
      rw [List.drop_drop] at h2
      simp only [List.length_drop] at h2 h3
      rw [show B + (M.length - B - (dh f B (f h (M.take B) (iY c (UInt64.ofNat B))) (iY c (UInt64.ofNat B)) (M.drop B)).2.2.length) = M.length - (dh f B (f h (M.take B) (iY c (UInt64.ofNat B))) (iY c (UInt64.ofNat B)) (M.drop B)).2.2.length from by omega] at h2
      exact h2
    · rw [gT f B h c M (by omega)]
      simp; omega
end
def pad (n : Nat) (xs : List UInt8) : List UInt8 := xs ++ List.replicate (n - xs.length) 0
theorem l0 (n : Nat) (xs : List UInt8) (h : xs.length ≤ n) : (pad n xs).length = n := by simp [pad]; omega
theorem sr (n : Nat) : UInt64.ofInt (n : Int) = UInt64.ofNat n := by
  rw [← UInt64.toNat_inj]
  unfold UInt64.ofInt
  simp
  omega
theorem FE (c : UInt64 × UInt64) (n : UInt64) : ∃ o, gh c.1 c.2 n = some ((iY c n).1, (iY c n).2, o) := ⟨_, Ig _ _ _⟩
theorem Gm (c : UInt64 × UInt64) (n : UInt64) : ∃ o, mB c.1 c.2 n = some ((iY c n).1, (iY c n).2, o) := ⟨_, N4 _ _ _⟩
theorem FF (b : List UInt8) (n : Nat) (hb : b.length ≤ n) (hn : n ≤ 1000) : eZ b (n : Int) = some (pad n b) := by
  unfold eZ
  rw [iE (by omega)]
  simp only [Option.bind_some]
  rw [fJ (by simp; omega)]
  simp only [Option.bind_some]
  have e : aA ((n : Int) - (b.length : Int)) = ((n - b.length : Nat) : Int) := by rw [cw (by omega)]; omega
  rw [e]
  unfold D7
  rw [if_pos (by simp; omega)]
  simp only [Option.bind_some, Int.toNat_natCast]
  rfl
theorem Dm (b : List UInt8) (a n : Nat) (hb : b.length ≤ 33554432) (ha : a ≤ b.length) (hn : n ≤ 1000) : oF b (a : Int) (n : Int) = some (pad n ((b.drop a).take n)) := by
  unfold oF
  have hz : ∀ i, i ≤ n → (pad n ((b.drop a).take n)).take i = pad i ((b.drop a).take i) := by
    intro i hi
    unfold pad
    rw [List.take_append, List.take_take, Nat.min_eq_left hi, List.take_replicate]
    congr 2
    simp only [List.length_take, List.length_drop]; omega
  have hlen := l0 n ((b.drop a).take n) (by simp; omega)
  suffices Oh : aP (kT b (a : Int) (n : Int)) (([] : List UInt8), (0 : Int)) = some ((pad n ((b.drop a).take n)).take n) by rw [Oh, List.take_of_length_le (by omega)]
  refine bY (fun i => ((pad n ((b.drop a).take n)).take i, (i : Int))) n (fun i hi => ?_) ?_
  · unfold kT mX qd
    have e1 : aA ((a : Int) + (i : Int)) = ((a + i : Nat) : Int) := by rw [cw (by omega)]; omega
    have hs : (pad n ((b.drop a).take n)).take (i + 1) = (pad n ((b.drop a).take n)).take i ++ [(pad n ((b.drop a).take n))[i]] := List.take_succ_eq_append_getElem (by omega)
    simp only []
    rw [if_pos (by omega), e1, hs, aY i (by omega)]
    by_cases Cf : a + i < b.length
    · rw [if_pos (by omega), bM Cf]
      simp only [Option.bind_some]
      rw [fJ (by simp; omega)]
      simp only [Option.bind_some]
      have hx : (pad n ((b.drop a).take n))[i] = b[a + i] := by
        unfold pad
        rw [List.getElem_append_left (by simp; omega)]
        simp
      rw [hx]
    · rw [if_neg (by omega), fJ (by simp; omega)]
      simp only [Option.bind_some]
      have hx : (pad n ((b.drop a).take n))[i] = 0 := by
        unfold pad
        rw [List.getElem_append_right (by simp; omega)]
        simp
      rw [hx]
  · unfold kT
    simp only []
    rw [if_neg (by omega)]
    rfl
theorem Dn (k : Int) (B : Nat) (hB : ki k = some (B : Int)) (S5 : B ≤ 1000) (key : List UInt8) (hk : key.length ≤ B) : lU k key = some (if key = [] then [] else pad B key) := by
  unfold lU
  by_cases h0 : key = []
  · subst h0; rfl
  rw [if_neg (by have := List.length_pos_iff.2 h0; omega), if_neg h0]
  have hlen := l0 B key hk
  suffices Oh : aP (jz k key) (([] : List UInt8), (0 : Int)) = some ((pad B key).take B) by rw [Oh, List.take_of_length_le (by omega)]
  refine bY (fun i => ((pad B key).take i, (i : Int))) B (fun i hi => ?_) ?_
  · unfold jz lj nP
    have hs : (pad B key).take (i + 1) = (pad B key).take i ++ [(pad B key)[i]] := List.take_succ_eq_append_getElem (by omega)
    simp only []
    rw [hB]
    simp only [Option.bind_some]
    rw [if_pos (by omega), hs, aY i (by omega)]
    by_cases Cf : i < key.length
    · rw [if_pos (by omega), bM Cf]
      simp only [Option.bind_some]
      rw [fJ (by simp; omega)]
      simp only [Option.bind_some]
      have hx : (pad B key)[i] = key[i] := by
        unfold pad
        rw [List.getElem_append_left (by omega)]
      rw [hx]
    · rw [if_neg (by omega), fJ (by simp; omega)]
      simp only [Option.bind_some]
      have hx : (pad B key)[i] = 0 := by
        unfold pad
        rw [List.getElem_append_right (by omega)]
        simp
      rw [hx]
  · unfold jz
    simp only []
    rw [hB]
    simp only [Option.bind_some]
    rw [if_neg (by omega)]
    rfl
end Go.Sx
namespace Go.Sx
open Go.RowKit
set_option linter.unusedVariables false
set_option linter.unusedSimpArgs false
structure jf where
  σ : Type
  k : Int
  B : Nat
  S : Nat
  f : σ → List UInt8 → UInt64 × UInt64 → Bool → Bool → σ
  st : List UInt8 → σ
  Oi : σ → List UInt8
  Iy : σ → ag UInt64 16
  hk : k = 1 ∧ B = 128 ∧ S = 64 ∨ k = 2 ∧ B = 64 ∧ S = 32
  Iz : ∀ h, (Oi h).length = S
  Cf : ∀ h b (c : UInt64 × UInt64) last node, b.length = B → ly k (Iy h) b c.1 c.2 last node = some (Iy (f h b c last node))
  IA : ∀ h, jb k (Iy h) = some (Oi h)
  IB : ∀ (d ky fn dp : Int) (lf : UInt32) (off : UInt64) (ee : UInt32) (nd eL : Int) (bZ cg key : List UInt8) (last : Bool) (from_ : ag UInt64 16) (lo hi : UInt64) (msg : List UInt8) (cn : UInt64) (eO : List UInt8), ep k d ky fn dp lf off ee nd eL bZ cg = some (eO, 0) → eO.length = S →
    fe k d ky fn dp lf off ee nd eL bZ cg key last from_ false lo hi msg cn = some (Iy (st eO), k, d, ky, fn, dp, lf, off, ee, nd, eL, last, from_, false, lo, hi, msg, cn)
theorem jf.hB (H : jf) : ki H.k = some (H.B : Int) := by
  rcases H.hk with ⟨h1, h2, _⟩ | ⟨h1, h2, _⟩ <;> rw [h1, h2] <;> rfl
theorem jf.hS (H : jf) : jT H.k = some (H.S : Int) := by
  rcases H.hk with ⟨h1, _, h2⟩ | ⟨h1, _, h2⟩ <;> rw [h1, h2] <;> rfl
def qv (h : ag UInt64 8) : ag UInt64 16 := ⟨h.l ++ List.replicate 8 0, by simp [h.h]⟩
theorem IC (h : ag UInt64 8) (i : Nat) (hi : i < 8) : (qv h).g i = h.g i := by
  have hl : i < h.l.length := by rw [h.h]; exact hi
  simp [ag.g, qv, List.getD_eq_getElem?_getD, List.getElem?_append_left hl]
theorem FG (h r : ag UInt64 8) : (List.range 8).foldl (fun v (i : Nat) => da v i (r.g i)) (qv h) = qv r := by
  obtain ⟨a, b, c, d, e, f, g, q, rfl⟩ := rr (v := h)
  obtain ⟨a', b', c', d', e', f', g', q', rfl⟩ := rr (v := r)
  rfl
theorem Dp (h : ag UInt64 8) : (List.range 8).foldl (fun v (i : Nat) => da v i ((qv h).g i)) (ag.rep 8 (0 : UInt64)) = h := by
  obtain ⟨a, b, c, d, e, f, g, q, rfl⟩ := rr (v := h)
  rfl
theorem ID (r : ag UInt64 8) : (List.range 8).foldl (fun v (i : Nat) => da v i (r.g i)) (ag.rep 16 (0 : UInt64)) = qv r := by
  obtain ⟨a', b', c', d', e', f', g', q', rfl⟩ := rr (v := r)
  rfl
theorem Oj (h : ag UInt64 8) (b : List UInt8) (c : UInt64 × UInt64) (last node : Bool) (hb : b.length = 128) : ly 1 (qv h) b c.1 c.2 last node = some (qv (Fb h (Wb b) c.1 c.2 last node)) := by
  unfold ly
  rw [if_pos rfl]
  refine gv _ 8 (fun v (i : Nat) => da v i ((qv h).g i)) _ _ (fun v i hi => ?_) ?_
  · unfold nZ
    simp only []
    rw [if_pos (by omega), bc _ _ (by omega), bc _ _ hi, aY i (by omega)]
    rfl
  · rw [Dp]
    unfold nZ
    simp only []
    rw [if_neg (by omega), Ii b hb]
    simp only [Option.bind_some]
    rw [rF]
    simp only [Option.bind_some]
    rw [show aP (lV (Fb h (Wb b) c.1 c.2 last node)) (qv h, 0) = some (qv (Fb h (Wb b) c.1 c.2 last node)) from ?_]
    · rfl
    refine gv _ 8 (fun v (i : Nat) => da v i ((Fb h (Wb b) c.1 c.2 last node).g i)) _ _ (fun v i hi => ?_) ?_
    · unfold lV
      simp only []
      rw [if_pos (by omega), bc _ _ hi, bc _ _ (by omega), aY i (by omega)]
      rfl
    · rw [FG]
      unfold lV
      simp only []
      rw [if_neg (by omega)]
      rfl
theorem FH (h : ag UInt64 8) : jb 1 (qv h) = some (Il h) := by
  unfold jb
  refine bY (fun i => ((List.range i).foldl (fun b i => b ++ tR 8 (h.g i)) [], (i : Int))) 8 (fun i hi => ?_) rfl
  unfold lz
  simp only []
  have hs := Db (h.g i) 8 (by omega)
  rw [if_pos (by omega), bc _ _ (by omega), IC h i hi, aY i (by omega)]
  simp only [Option.bind_some]
  rw [show jT 1 = some 64 from rfl]
  simp only [Option.bind_some]
  rw [show aA (Int.tdiv 64 8) = ((8 : Nat) : Int) from rfl, hs]
  simp only [Option.bind_some]
  have hq : (List.range (i + 1)).foldl (fun b i => b ++ tR 8 (h.g i)) [] = (List.range i).foldl (fun b i => b ++ tR 8 (h.g i)) [] ++ tR 8 (h.g i) := by rw [List.range_succ, List.foldl_append]; rfl
  rw [fJ (by rw [ru _ 8 (fun i => nh 8 _)]; simp; omega), hq]
  rfl
theorem FI (d ky fn dp : Int) (lf : UInt32) (off : UInt64) (ee : UInt32) (nd eL : Int) (bZ cg key : List UInt8) (last : Bool) (from_ : ag UInt64 16) (lo hi : UInt64) (msg : List UInt8) (cn : UInt64) (eO : List UInt8) (he : ep 1 d ky fn dp lf off ee nd eL bZ cg = some (eO, 0)) (hl : eO.length = 64) :
    fe 1 d ky fn dp lf off ee nd eL bZ cg key last from_ false lo hi msg cn = some (qv (Df eO), 1, d, ky, fn, dp, lf, off, ee, nd, eL, last, from_, false, lo, hi, msg, cn) := by
  unfold fe
  rw [if_neg (by decide), he]
  simp only [Option.bind_some]
  rw [if_pos trivial, Ij eO hl]
  simp only [Option.bind_some]
  refine gv _ 8 (fun v (i : Nat) => da v i ((Df eO).g i)) _ _ (fun v i hi => ?_) ?_
  · unfold ir
    simp only []
    rw [if_pos (by omega), bc _ _ hi, bc _ _ (by omega), aY i (by omega)]
    rfl
  · rw [ID]
    unfold ir
    simp only []
    rw [if_neg (by omega)]
    rfl
def BD : jf := ⟨ag UInt64 8, 1, 128, 64, fun h b c last node => Fb h (Wb b) c.1 c.2 last node, Df, Il, qv, .inl ⟨rfl, rfl, rfl⟩, wR, Oj, FH, FI⟩
def up (x : UInt32) : UInt64 := UInt64.ofNat x.toNat
theorem down_up (x : UInt32) : UInt32.ofNat (up x).toNat = x := by
  have := x.toNat_lt
  unfold up
  rw [← UInt32.toNat_inj]
  simp only [UInt32.toNat_ofNat', UInt64.toNat_ofNat']
  omega
def rv (h : ag UInt32 8) : ag UInt64 16 := ⟨h.l.map up ++ List.replicate 8 0, by simp [h.h]⟩
theorem IE (h : ag UInt32 8) (i : Nat) (hi : i < 8) : (rv h).g i = up (h.g i) := by
  obtain ⟨a, b, c, d, e, f, g, q, rfl⟩ := rr (v := h)
  match i, hi with
  | 0, _ => rfl
  | 1, _ => rfl
  | 2, _ => rfl
  | 3, _ => rfl
  | 4, _ => rfl
  | 5, _ => rfl
  | 6, _ => rfl
  | 7, _ => rfl
theorem FJ (h r : ag UInt32 8) : (List.range 8).foldl (fun v (i : Nat) => da v i (up (r.g i))) (rv h) = rv r := by
  obtain ⟨a, b, c, d, e, f, g, q, rfl⟩ := rr (v := h)
  obtain ⟨a', b', c', d', e', f', g', q', rfl⟩ := rr (v := r)
  rfl
theorem Dq (h : ag UInt32 8) : (List.range 8).foldl (fun v (i : Nat) => da v i (UInt32.ofNat ((rv h).g i).toNat)) (ag.rep 8 (0 : UInt32)) = h := by
  obtain ⟨a, b, c, d, e, f, g, q, rfl⟩ := rr (v := h)
  show (⟨[UInt32.ofNat (up a).toNat, UInt32.ofNat (up b).toNat, UInt32.ofNat (up c).toNat, UInt32.ofNat (up d).toNat, UInt32.ofNat (up e).toNat, UInt32.ofNat (up f).toNat, UInt32.ofNat (up g).toNat, UInt32.ofNat (up q).toNat], rfl⟩ : ag UInt32 8) = _
  apply ag.ext
  simp only [down_up]
theorem IF (r : ag UInt32 8) : (List.range 8).foldl (fun v (i : Nat) => da v i (up (r.g i))) (ag.rep 16 (0 : UInt64)) = rv r := by
  obtain ⟨a', b', c', d', e', f', g', q', rfl⟩ := rr (v := r)
  rfl
theorem Ol (h : ag UInt32 8) (b : List UInt8) (c : UInt64 × UInt64) (last node : Bool) (hb : b.length = 64) : ly 2 (rv h) b c.1 c.2 last node = some (rv (Fs h (Ws b) c.1 last node)) := by
  unfold ly
  rw [if_neg (by decide)]
  refine gv _ 8 (fun v (i : Nat) => da v i (UInt32.ofNat ((rv h).g i).toNat)) _ _ (fun v i hi => ?_) ?_
  · unfold n6
    simp only []
    rw [if_pos (by omega), bc _ _ (by omega), bc _ _ hi, aY i (by omega)]
    rfl
  · rw [Dq]
    unfold n6
    simp only []
    rw [if_neg (by omega), Fw b hb]
    simp only [Option.bind_some]
    rw [RO]
    simp only [Option.bind_some]
    rw [show aP (lW (Fs h (Ws b) c.1 last node)) (rv h, 0) = some (rv (Fs h (Ws b) c.1 last node)) from ?_]
    · rfl
    refine gv _ 8 (fun v (i : Nat) => da v i (up ((Fs h (Ws b) c.1 last node).g i))) _ _ (fun v i hi => ?_) ?_
    · unfold lW
      simp only []
      rw [if_pos (by omega), bc _ _ hi, bc _ _ (by omega), aY i (by omega)]
      rfl
    · rw [FJ]
      unfold lW
      simp only []
      rw [if_neg (by omega)]
      rfl
theorem FK (h : ag UInt32 8) : jb 2 (rv h) = some (Iu h) := by
  unfold jb
  refine bY (fun i => ((List.range i).foldl (fun b i => b ++ tR 4 (UInt64.ofNat (h.g i).toNat)) [], (i : Int))) 8 (fun i hi => ?_) rfl
  unfold lz
  simp only []
  have hs := Db (up (h.g i)) 4 (by omega)
  rw [if_pos (by omega), bc _ _ (by omega), IE h i hi, aY i (by omega)]
  simp only [Option.bind_some]
  rw [show jT 2 = some 32 from rfl]
  simp only [Option.bind_some]
  rw [show aA (Int.tdiv 32 8) = ((4 : Nat) : Int) from rfl, hs]
  simp only [Option.bind_some]
  have hq : (List.range (i + 1)).foldl (fun b i => b ++ tR 4 (UInt64.ofNat (h.g i).toNat)) [] = (List.range i).foldl (fun b i => b ++ tR 4 (UInt64.ofNat (h.g i).toNat)) [] ++ tR 4 (UInt64.ofNat (h.g i).toNat) := by rw [List.range_succ, List.foldl_append]; rfl
  rw [fJ (by rw [ru _ 4 (fun i => nh 4 _)]; simp; omega), hq]
  rfl
theorem FL (d ky fn dp : Int) (lf : UInt32) (off : UInt64) (ee : UInt32) (nd eL : Int) (bZ cg key : List UInt8) (last : Bool) (from_ : ag UInt64 16) (lo hi : UInt64) (msg : List UInt8) (cn : UInt64) (eO : List UInt8) (he : ep 2 d ky fn dp lf off ee nd eL bZ cg = some (eO, 0)) (hl : eO.length = 32) :
    fe 2 d ky fn dp lf off ee nd eL bZ cg key last from_ false lo hi msg cn = some (rv (Di eO), 2, d, ky, fn, dp, lf, off, ee, nd, eL, last, from_, false, lo, hi, msg, cn) := by
  unfold fe
  rw [if_neg (by decide), he]
  simp only [Option.bind_some]
  rw [if_neg (by decide), Fx eO hl]
  simp only [Option.bind_some]
  refine gv _ 8 (fun v (i : Nat) => da v i (up ((Di eO).g i))) _ _ (fun v i hi => ?_) ?_
  · unfold iu
    simp only []
    rw [if_pos (by omega), bc _ _ hi, bc _ _ (by omega), aY i (by omega)]
    rfl
  · rw [IF]
    unfold iu
    simp only []
    rw [if_neg (by omega)]
    rfl
def small : jf := ⟨ag UInt32 8, 2, 64, 32, fun h b c last node => Fs h (Ws b) c.1 last node, Di, Iu, rv, .inr ⟨rfl, rfl, rfl⟩, wS, Ol, FK, FL⟩
end Go.Sx
namespace Go.Sx
open Go.RowKit
set_option linter.unusedVariables false
set_option linter.unusedSimpArgs false
def jf.run (H : jf) (eO M : List UInt8) : H.σ × (UInt64 × UInt64) × List UInt8 := dh (fun h b c => H.f h b c false false) H.B (H.st eO) (0, 0) M
def jf.hash (H : jf) (eO M : List UInt8) (last : Bool) : List UInt8 :=
  H.Oi (H.f (H.run eO M).1 (pad H.B (H.run eO M).2.2) (iY (H.run eO M).2.1 (UInt64.ofNat (H.run eO M).2.2.length)) true last)
theorem jf.x7 (H : jf) (eO M : List UInt8) (last : Bool) : (H.hash eO M last).length = H.S := H.Iz _
theorem jf.bp (H : jf) : 0 < H.B ∧ H.B ≤ 128 := by rcases H.hk with ⟨_, h, _⟩ | ⟨_, h, _⟩ <;> omega
section
variable (H : jf) (d ky fn dp : Int) (lf : UInt32) (off : UInt64) (ee : UInt32) (nd eL : Int) (bZ cg key : List UInt8) (last : Bool) (from_ : ag UInt64 16) (msg : List UInt8) (cn : UInt64) (eO : List UInt8)
theorem Bk (he : ep H.k d ky fn dp lf off ee nd eL bZ cg = some (eO, 0)) (hl : eO.length = H.S) (hm : msg.length ≤ 16000000) :
    jA H.k d ky fn dp lf off ee nd eL bZ cg key last from_ false 0 0 msg cn =
      some (H.Iy (H.run eO msg).1, (H.run eO msg).2.1.1, (H.run eO msg).2.1.2, ((msg.length - (H.run eO msg).2.2.length : Nat) : Int), H.k, d, ky, fn, dp, lf, off, ee, nd, eL, last, from_, false, 0, 0, msg, cn) := by
  have hb := H.bp
  unfold jA
  rw [H.IB d ky fn dp lf off ee nd eL bZ cg key last from_ 0 0 msg cn eO he hl]
  simp only [Option.bind_some]
  rw [H.hB]
  simp only [Option.bind_some]
  refine gZ (fun i s => ∃ (h : H.σ) (c : UInt64 × UInt64) (a : Nat), s = (H.Iy h, c.1, c.2, (a : Int)) ∧ a ≤ msg.length ∧ a = i * H.B ∧ dh (fun h b c => H.f h b c false false) H.B h c (msg.drop a) = H.run eO msg) _ msg.length _ ⟨H.st eO, (0, 0), 0, rfl, by omega, by omega, rfl⟩ ?_
  rintro i s ⟨h, c, a, rfl, ha, N3, hr⟩
  unfold ko
  simp only []
  have e1 : aA ((a : Int) + (H.B : Int)) = ((a + H.B : Nat) : Int) := by rw [cw (by omega)]; omega
  rw [e1]
  by_cases eN : a + H.B < msg.length
  · left
    have Pg : i ≤ i * H.B := Nat.le_mul_of_pos_right i hb.1
    obtain ⟨o, mQ⟩ := Gm c (UInt64.ofNat H.B)
    refine ⟨by omega, (H.Iy (H.f h ((msg.drop a).take H.B) (iY c (UInt64.ofNat H.B)) false false), (iY c (UInt64.ofNat H.B)).1, (iY c (UInt64.ofNat H.B)).2, ((a + H.B : Nat) : Int)), ?_, H.f h ((msg.drop a).take H.B) (iY c (UInt64.ofNat H.B)) false false, iY c (UInt64.ofNat H.B), a + H.B, rfl, by omega, by rw [N3, Nat.succ_mul], ?_⟩
    · rw [if_pos (by omega), sr, mQ]
      simp only [Option.bind_some]
      rw [Dm msg a H.B (by omega) (by omega) (by omega)]
      simp only [Option.bind_some]
      have hp : pad H.B ((msg.drop a).take H.B) = (msg.drop a).take H.B := by
        unfold pad
        rw [show H.B - ((msg.drop a).take H.B).length = 0 from by simp; omega]
        simp
      rw [hp, H.Cf h _ (iY c (UInt64.ofNat H.B)) false false (by simp; omega)]
      rfl
    · rw [← hr, oK _ H.B h c (msg.drop a) hb.1 (by simp; omega), List.drop_drop]
  · right
    rw [if_neg (by omega)]
    have vB := gT (fun h b c => H.f h b c false false) H.B h c (msg.drop a) (by simp; omega)
    rw [vB] at hr
    rw [← hr]
    simp only [Option.map_some, Option.some.injEq, Sum.inr.injEq, Prod.mk.injEq, true_and, and_true, List.length_drop]
    omega
theorem jf.held (H : jf) (eO M : List UInt8) : (H.run eO M).2.2.length ≤ H.B ∧ (H.run eO M).2.2 = M.drop (M.length - (H.run eO M).2.2.length) ∧ (H.run eO M).2.2.length ≤ M.length :=
  zl _ H.B H.bp.1 M.length _ _ M (Nat.le_refl _)
theorem FM (he : ep H.k d ky fn dp lf off ee nd eL bZ cg = some (eO, 0)) (hl : eO.length = H.S) (hm : msg.length ≤ 16000000) :
    lA H.k d ky fn dp lf off ee nd eL bZ cg key last from_ false 0 0 msg cn = some (H.hash eO msg last, H.k, d, ky, fn, dp, lf, off, ee, nd, eL, last, from_, false, 0, 0, msg, cn) := by
  have hb := H.bp
  unfold lA
  rw [Bk H d ky fn dp lf off ee nd eL bZ cg key last from_ msg cn eO he hl hm]
  simp only [Option.bind_some]
  obtain ⟨h1, h2, h3⟩ := H.held eO msg
  have e1 : aA ((msg.length : Int) - ((msg.length - (H.run eO msg).2.2.length : Nat) : Int)) = (((H.run eO msg).2.2.length : Nat) : Int) := by rw [cw (by omega)]; omega
  obtain ⟨o, mQ⟩ := Gm (H.run eO msg).2.1 (UInt64.ofNat (H.run eO msg).2.2.length)
  rw [e1, sr, mQ]
  simp only [Option.bind_some]
  rw [H.hB]
  simp only [Option.bind_some]
  rw [Dm msg _ H.B (by omega) (by omega) (by omega), ← h2]
  simp only [Option.bind_some]
  rw [List.take_of_length_le h1]
  rw [H.Cf _ _ _ true last (l0 _ _ h1)]
  simp only [Option.bind_some]
  rw [H.IA]
  rfl
theorem Bm (b : List UInt8) (lo hi : UInt64) (tN : Bool) (hm : msg.length + b.length ≤ 16000000) :
    jU H.k d ky fn dp lf off ee nd eL bZ cg key last from_ tN lo hi msg cn b = some (H.k, d, ky, fn, dp, lf, off, ee, nd, eL, last, from_, tN, lo, hi, msg ++ b, cn + UInt64.ofInt ((b.length : Nat) : Int)) := by
  unfold jU
  rw [show ((msg, (0 : Int)) : List UInt8 × Int) = (msg ++ b.take 0, ((0 : Nat) : Int)) from by simp]
  refine bY (fun i => (msg ++ b.take i, (i : Int))) b.length (fun i hi => ?_) ?_
  · unfold im
    simp only []
    rw [if_pos (by omega), bM hi]
    simp only [Option.bind_some]
    rw [fJ (by simp; omega), aY i (by omega), List.take_succ_eq_append_getElem hi, List.append_assoc]
    rfl
  · unfold im
    simp only []
    rw [if_neg (by omega), List.take_length]
    rfl
end
def jf.Gn (H : jf) (eO M : List UInt8) (last : Bool) (out : Int) : List UInt8 × Int := if out < 1 ∨ (H.S : Int) < out then ([], 1) else ((H.hash eO M last).take out.toNat, 0)
def jf.kb (H : jf) (key : List UInt8) : List UInt8 := if key = [] then [] else pad H.B key
theorem jf.zm (H : jf) (key : List UInt8) (h : key.length ≤ H.B) : (H.kb key).length ≤ H.B := by
  unfold jf.kb
  split
  · simp
  · rw [l0 _ _ h]; exact Nat.le_refl _
theorem x8 (H : jf) (d ky fn dp : Int) (lf : UInt32) (off : UInt64) (ee : UInt32) (nd eL : Int) (bZ cg key : List UInt8) (last : Bool) (out : Int) (data eO : List UInt8) (hc : cI H.k d ky fn dp lf off ee nd eL bZ cg = some 0) (he : ep H.k d ky fn dp lf off ee nd eL bZ cg = some (eO, 0)) (hl : eO.length = H.S) (mj : key = [] ∨ (key.length : Int) = ky) (vP : key.length ≤ H.B) (hd : data.length ≤ 12000000) :
    mZ H.k d ky fn dp lf off ee nd eL bZ cg key last out data = some (H.Gn eO (H.kb key ++ data) last out) := by
  have hb := H.bp
  unfold mZ uJ
  rw [hc]
  simp only [Option.bind_some, ne_eq, not_true_eq_false, if_false]
  rw [if_neg (by
    simp only [Bool.and_eq_true, decide_eq_true_eq]
    rintro ⟨h1, h2⟩
    rcases mj with rfl | h
    · exact h1 rfl
    · exact h2 h)]
  rw [show lU H.k key = some (H.kb key) from Dn H.k H.B H.hB (by omega) key vP]
  simp only [Option.bind_some, Sum.elim_inr]
  unfold jf.Gn
  by_cases h1 : out < 1
  · rw [if_pos h1, if_pos (.inl h1)]
  rw [if_neg h1, H.hS]
  simp only [Option.bind_some]
  by_cases h2 : (H.S : Int) < out
  · rw [if_pos h2, if_pos (.inr h2)]
  rw [if_neg h2, if_neg (by omega)]
  have LI := H.zm key vP
  rw [Bm H d ky fn dp lf off ee nd eL bZ cg key last (ag.rep 16 0) (H.kb key) 0 data 0 0 false (by omega)]
  simp only [Option.bind_some]
  rw [FM H d ky fn dp lf off ee nd eL bZ cg key last _ _ _ eO he hl (by rw [List.length_append]; omega)]
  simp only [Option.bind_some]
  rw [kD (by rw [H.x7]; omega)]
  simp
end Go.Sx
namespace Go.Sx
open Go.RowKit
set_option linter.unusedVariables false
set_option linter.unusedSimpArgs false
def fB (h : ag UInt64 8) (b : List UInt8) (c : UInt64 × UInt64) (last node : Bool) : ag UInt64 8 := Fb h (Wb b) c.1 c.2 last node
def fS (h : ag UInt32 8) (b : List UInt8) (c : UInt64 × UInt64) (last node : Bool) : ag UInt32 8 := Fs h (Ws b) c.1 last node
theorem uS (h : ag UInt64 8) (b : List UInt8) (c : UInt64 × UInt64) (last node : Bool) (hb : b.length = 128) : gy h b c.1 c.2 last node = some (fB h b c last node) := by
  unfold gy
  rw [Ih b hb]
  simp only [Option.bind_some]
  rw [wF]
  rfl
theorem KJ (b : List UInt8) (h : ag UInt64 8) (lo hi : UInt64) (held : List UInt8) (hb : b.length ≤ 12000000) (hh : held.length ≤ 128) :
    b6 128 b h lo hi held = some (.inl (h, lo, hi, held ++ b.take (min (128 - held.length) b.length), b.drop (min (128 - held.length) b.length))) := by
  unfold b6
  have e1 : aA ((128 : Int) - ((held.length : Nat) : Int)) = ((128 - held.length : Nat) : Int) := by rw [cw (by omega)]; omega
  have e2 : (if aA ((128 : Int) - ((held.length : Nat) : Int)) < ((b.length : Nat) : Int) then aA ((128 : Int) - ((held.length : Nat) : Int)) else ((b.length : Nat) : Int)) = ((min (128 - held.length) b.length : Nat) : Int) := by
    rw [e1]; split <;> omega
  rw [e2, kD (by omega)]
  simp only [Option.bind_some, Int.toNat_natCast, Int.toNat_zero, List.drop_zero]
  rw [fJ (by simp; omega), kD (by omega)]
  simp only [Option.bind_some, Int.toNat_natCast]
  rw [List.take_of_length_le (i := b.length) (Nat.le_refl _)]
theorem Aj (h : ag UInt64 8) (c : UInt64 × UInt64) (held b : List UInt8) (hb : b.length ≤ 12000000) (hh : held.length ≤ 128) :
    cy h c.1 c.2 held 128 b = some ((dh (fun h b c => fB h b c false false) 128 h c (held ++ b)).1, (dh (fun h b c => fB h b c false false) 128 h c (held ++ b)).2.1.1, (dh (fun h b c => fB h b c false false) 128 h c (held ++ b)).2.1.2, (dh (fun h b c => fB h b c false false) 128 h c (held ++ b)).2.2, 128) := by
  unfold cy
  refine gZ (fun i s => ∃ (h' : ag UInt64 8) (c' : UInt64 × UInt64) (gW b' : List UInt8), s = (h', c'.1, c'.2, gW, b') ∧ gW.length ≤ 128 ∧ b'.length + i ≤ b.length ∧ dh (fun h b c => fB h b c false false) 128 h' c' (gW ++ b') = dh (fun h b c => fB h b c false false) 128 h c (held ++ b)) _ b.length _ ⟨h, c, held, b, rfl, hh, by omega, rfl⟩ ?_
  rintro i s ⟨h', c', gW, b', rfl, Eg, RR, hr⟩
  rw [← hr]
  unfold dv
  simp only []
  by_cases h0 : b'.length = 0
  · right
    obtain rfl := List.length_eq_zero_iff.1 h0
    rw [if_neg (by simp), List.append_nil, gT _ _ _ _ _ Eg]
    rfl
  · left
    refine ⟨by omega, ?_⟩
    rw [if_pos (by omega)]
    by_cases hf : gW.length = 128
    · rw [if_pos (by omega)]
      obtain ⟨o, mQ⟩ := FE c' (UInt64.ofNat 128)
      have e3 : UInt64.ofInt 128 = UInt64.ofNat 128 := rfl
      rw [e3, mQ]
      simp only [Option.bind_some]
      rw [uS h' gW (iY c' (UInt64.ofNat 128)) false false hf]
      simp only [Option.bind_some]
      rw [kD (by omega)]
      simp only [Option.bind_some, Int.toNat_zero, List.take_zero, List.drop_nil]
      rw [KJ b' _ _ _ [] (by omega) (by simp)]
      refine ⟨_, rfl, _, iY c' (UInt64.ofNat 128), _, _, rfl, by simp; omega, by simp; omega, ?_⟩
      rw [oK _ 128 h' c' (gW ++ b') (by omega) (by simp; omega)]
      rw [show (gW ++ b').take 128 = gW from by rw [List.take_append_of_le_length (by omega), List.take_of_length_le (by omega)], show (gW ++ b').drop 128 = b' from by rw [← hf, List.drop_left]]
      rw [List.nil_append, List.take_append_drop]
    · rw [if_neg (by omega), KJ b' _ _ _ gW (by omega) Eg]
      refine ⟨_, rfl, _, c', _, _, rfl, by simp; omega, by simp; omega, ?_⟩
      rw [List.append_assoc, List.take_append_drop]
theorem KK (h : ag UInt64 8) (c : UInt64 × UInt64) (held : List UInt8) (node : Bool) (hh : held.length ≤ 128) :
    dK h c.1 c.2 held 128 node = some (Il (fB h (pad 128 held) (iY c (UInt64.ofNat held.length)) true node), h, c.1, c.2, held, 128) := by
  unfold dK dX
  obtain ⟨o, mQ⟩ := FE c (UInt64.ofNat held.length)
  rw [sr, mQ]
  simp only [Option.bind_some]
  have := FF held 128 hh (by omega)
  rw [show ((128 : Nat) : Int) = 128 from rfl] at this
  rw [this]
  simp only [Option.bind_some]
  rw [uS h _ (iY c (UInt64.ofNat held.length)) true node (l0 _ _ hh)]
  simp only [Option.bind_some]
  rw [Im]
  rfl
theorem rP (h : ag UInt32 8) (b : List UInt8) (c : UInt64 × UInt64) (last node : Bool) (hb : b.length = 64) : fx h b c.1 c.2 last node = some (fS h b c last node) := by
  unfold fx
  rw [Fv b hb]
  simp only [Option.bind_some]
  rw [RN]
  rfl
theorem KL (b : List UInt8) (h : ag UInt32 8) (lo hi : UInt64) (held : List UInt8) (hb : b.length ≤ 12000000) (hh : held.length ≤ 64) :
    b7 64 b h lo hi held = some (.inl (h, lo, hi, held ++ b.take (min (64 - held.length) b.length), b.drop (min (64 - held.length) b.length))) := by
  unfold b7
  have e1 : aA ((64 : Int) - ((held.length : Nat) : Int)) = ((64 - held.length : Nat) : Int) := by rw [cw (by omega)]; omega
  have e2 : (if aA ((64 : Int) - ((held.length : Nat) : Int)) < ((b.length : Nat) : Int) then aA ((64 : Int) - ((held.length : Nat) : Int)) else ((b.length : Nat) : Int)) = ((min (64 - held.length) b.length : Nat) : Int) := by
    rw [e1]; split <;> omega
  rw [e2, kD (by omega)]
  simp only [Option.bind_some, Int.toNat_natCast, Int.toNat_zero, List.drop_zero]
  rw [fJ (by simp; omega), kD (by omega)]
  simp only [Option.bind_some, Int.toNat_natCast]
  rw [List.take_of_length_le (i := b.length) (Nat.le_refl _)]
theorem Ak (h : ag UInt32 8) (c : UInt64 × UInt64) (held b : List UInt8) (hb : b.length ≤ 12000000) (hh : held.length ≤ 64) :
    cz h c.1 c.2 held 64 b = some ((dh (fun h b c => fS h b c false false) 64 h c (held ++ b)).1, (dh (fun h b c => fS h b c false false) 64 h c (held ++ b)).2.1.1, (dh (fun h b c => fS h b c false false) 64 h c (held ++ b)).2.1.2, (dh (fun h b c => fS h b c false false) 64 h c (held ++ b)).2.2, 64) := by
  unfold cz
  refine gZ (fun i s => ∃ (h' : ag UInt32 8) (c' : UInt64 × UInt64) (gW b' : List UInt8), s = (h', c'.1, c'.2, gW, b') ∧ gW.length ≤ 64 ∧ b'.length + i ≤ b.length ∧ dh (fun h b c => fS h b c false false) 64 h' c' (gW ++ b') = dh (fun h b c => fS h b c false false) 64 h c (held ++ b)) _ b.length _ ⟨h, c, held, b, rfl, hh, by omega, rfl⟩ ?_
  rintro i s ⟨h', c', gW, b', rfl, Eg, RR, hr⟩
  rw [← hr]
  unfold dw
  simp only []
  by_cases h0 : b'.length = 0
  · right
    obtain rfl := List.length_eq_zero_iff.1 h0
    rw [if_neg (by simp), List.append_nil, gT _ _ _ _ _ Eg]
    rfl
  · left
    refine ⟨by omega, ?_⟩
    rw [if_pos (by omega)]
    by_cases hf : gW.length = 64
    · rw [if_pos (by omega)]
      obtain ⟨o, mQ⟩ := FE c' (UInt64.ofNat 64)
      have e3 : UInt64.ofInt 64 = UInt64.ofNat 64 := rfl
      rw [e3, mQ]
      simp only [Option.bind_some]
      rw [rP h' gW (iY c' (UInt64.ofNat 64)) false false hf]
      simp only [Option.bind_some]
      rw [kD (by omega)]
      simp only [Option.bind_some, Int.toNat_zero, List.take_zero, List.drop_nil]
      rw [KL b' _ _ _ [] (by omega) (by simp)]
      refine ⟨_, rfl, _, iY c' (UInt64.ofNat 64), _, _, rfl, by simp; omega, by simp; omega, ?_⟩
      rw [oK _ 64 h' c' (gW ++ b') (by omega) (by simp; omega)]
      rw [show (gW ++ b').take 64 = gW from by rw [List.take_append_of_le_length (by omega), List.take_of_length_le (by omega)], show (gW ++ b').drop 64 = b' from by rw [← hf, List.drop_left]]
      rw [List.nil_append, List.take_append_drop]
    · rw [if_neg (by omega), KL b' _ _ _ gW (by omega) Eg]
      refine ⟨_, rfl, _, c', _, _, rfl, by simp; omega, by simp; omega, ?_⟩
      rw [List.append_assoc, List.take_append_drop]
theorem KM (h : ag UInt32 8) (c : UInt64 × UInt64) (held : List UInt8) (node : Bool) (hh : held.length ≤ 64) :
    dL h c.1 c.2 held 64 node = some (Iu (fS h (pad 64 held) (iY c (UInt64.ofNat held.length)) true node), h, c.1, c.2, held, 64) := by
  unfold dL dY
  obtain ⟨o, mQ⟩ := FE c (UInt64.ofNat held.length)
  rw [sr, mQ]
  simp only [Option.bind_some]
  have := FF held 64 hh (by omega)
  rw [show ((64 : Nat) : Int) = 64 from rfl] at this
  rw [this]
  simp only [Option.bind_some]
  rw [rP h _ (iY c (UInt64.ofNat held.length)) true node (l0 _ _ hh)]
  simp only [Option.bind_some]
  rw [Fz]
  rfl
end Go.Sx
namespace Go.Sx
open Go.RowKit
set_option linter.unusedVariables false
set_option linter.unusedSimpArgs false
theorem IG (d : Int) (eO key : List UInt8) (hl : eO.length = 64) (hk : key.length ≤ 128) : dJ 1 d eO key false 0 = some (.inl (1, d, eO, key, Df eO, 0, 0, BD.kb key, 128)) := by
  unfold dJ jn
  rw [if_pos rfl]
  rw [Ik eO hl]
  simp only [Option.bind_some, Sum.elim_inl]
  unfold jf.kb
  by_cases h0 : key = []
  · subst h0; rfl
  · rw [if_pos (by have := List.length_pos_iff.2 h0; omega), if_neg h0]
    have hp := FF key 128 hk (by omega)
    rw [show ((128 : Nat) : Int) = 128 from rfl] at hp
    rw [show db 1 = some 128 from rfl]
    simp only [Option.bind_some]
    rw [hp]
    simp only [Option.bind_some]
    have hlen := l0 128 key hk
    rw [Aj (Df eO) (0, 0) [] (pad 128 key) (by omega) (by simp)]
    rw [List.nil_append, gT _ _ _ _ _ (by omega)]
    rfl
theorem Om (d : Int) (eO key : List UInt8) (last : Bool) (wr : UInt64) (h : ag UInt64 8) (c : UInt64 × UInt64) (held : List UInt8) (hh : held.length ≤ 128) (out : Int) : ∃ t, gr 1 d eO key last wr h c.1 c.2 held 128 out = some t ∧ (t.1, t.2.1) = (if out < 1 ∨ (64 : Int) < out then ([], 1) else ((Il (fB h (pad 128 held) (iY c (UInt64.ofNat held.length)) true last)).take out.toNat, 0)) := by
  unfold gr hX
  simp only [Option.bind_some]
  by_cases h1 : out < 1
  · rw [if_pos h1, if_pos (.inl h1)]; exact ⟨_, rfl, rfl⟩
  rw [if_neg h1, show db 1 = some 128 from rfl]
  simp only [Option.bind_some]
  rw [show aA (Int.tdiv 128 2) = (64 : Int) from rfl]
  by_cases h2 : (64 : Int) < out
  · rw [if_pos h2, if_pos (.inr h2)]; exact ⟨_, rfl, rfl⟩
  rw [if_neg h2, if_neg (by omega), KK h c held last hh]
  simp only [Option.bind_some]
  rw [kD (by rw [wR]; omega)]
  simp only [Option.bind_some]
  rw [iE (by rw [wR]; omega)]
  exact ⟨_, rfl, by simp⟩
theorem IH (d ky fn dp : Int) (lf : UInt32) (off : UInt64) (ee : UInt32) (nd eL : Int) (bZ cg key : List UInt8) (last : Bool) (out : Int) (data eO : List UInt8) (he : ey 1 d ky fn dp lf off ee nd eL bZ cg = some (eO, 0)) (hl : eO.length = 64) (mj : key = [] ∨ (key.length : Int) = ky) (vP : key.length ≤ 128) (hd : data.length ≤ 12000000) :
    e7 1 d ky fn dp lf off ee nd eL bZ cg key last out data = some (BD.Gn eO (BD.kb key ++ data) last out) := by
  unfold e7 lh
  rw [he]
  simp only [Option.bind_some, ne_eq, not_true_eq_false, if_false]
  rw [if_neg (by
    simp only [Bool.and_eq_true, decide_eq_true_eq]
    rintro ⟨h1, h2⟩
    rcases mj with rfl | h
    · exact h1 rfl
    · exact h2 h)]
  unfold kg
  rw [fJ (by simp; omega), fJ (by simp; omega)]
  simp only [Option.bind_some, List.nil_append]
  rw [IG d eO key hl vP]
  simp only [Option.bind_some, Sum.elim_inl, Sum.elim_inr]
  have LI := BD.zm key vP
  rw [Aj (Df eO) (0, 0) (BD.kb key) data hd LI]
  simp only [Option.bind_some]
  obtain ⟨h1, h2, h3⟩ := BD.held eO (BD.kb key ++ data)
  obtain ⟨t, KN, Bv⟩ := Om d eO key last 0 (dh (fun h b c => fB h b c false false) 128 (Df eO) (0, 0) (BD.kb key ++ data)).1 (dh (fun h b c => fB h b c false false) 128 (Df eO) (0, 0) (BD.kb key ++ data)).2.1 (dh (fun h b c => fB h b c false false) 128 (Df eO) (0, 0) (BD.kb key ++ data)).2.2 h1 out
  rw [KN]
  simp only [Option.bind_some, Option.some.injEq]
  exact Bv
theorem II (d : Int) (eO key : List UInt8) (hl : eO.length = 32) (hk : key.length ≤ 64) : dJ 2 d eO key false 0 = some (.inr (2, d, eO, key, Di eO, 0, 0, small.kb key, 64)) := by
  unfold dJ jn
  rw [if_neg (by decide)]
  rw [Fy eO hl]
  simp only [Option.bind_some, Sum.elim_inr]
  unfold jf.kb
  by_cases h0 : key = []
  · subst h0; rfl
  · rw [if_pos (by have := List.length_pos_iff.2 h0; omega), if_neg h0]
    have hp := FF key 64 hk (by omega)
    rw [show ((64 : Nat) : Int) = 64 from rfl] at hp
    rw [show db 2 = some 64 from rfl]
    simp only [Option.bind_some]
    rw [hp]
    simp only [Option.bind_some]
    have hlen := l0 64 key hk
    rw [Ak (Di eO) (0, 0) [] (pad 64 key) (by omega) (by simp)]
    rw [List.nil_append, gT _ _ _ _ _ (by omega)]
    rfl
theorem On (d : Int) (eO key : List UInt8) (last : Bool) (wr : UInt64) (h : ag UInt32 8) (c : UInt64 × UInt64) (held : List UInt8) (hh : held.length ≤ 64) (out : Int) : ∃ t, fk 2 d eO key last wr h c.1 c.2 held 64 out = some t ∧ (t.1, t.2.1) = (if out < 1 ∨ (32 : Int) < out then ([], 1) else ((Iu (fS h (pad 64 held) (iY c (UInt64.ofNat held.length)) true last)).take out.toNat, 0)) := by
  unfold fk fR
  simp only [Option.bind_some]
  by_cases h1 : out < 1
  · rw [if_pos h1, if_pos (.inl h1)]; exact ⟨_, rfl, rfl⟩
  rw [if_neg h1, show db 2 = some 64 from rfl]
  simp only [Option.bind_some]
  rw [show aA (Int.tdiv 64 2) = (32 : Int) from rfl]
  by_cases h2 : (32 : Int) < out
  · rw [if_pos h2, if_pos (.inr h2)]; exact ⟨_, rfl, rfl⟩
  rw [if_neg h2, if_neg (by omega), KM h c held last hh]
  simp only [Option.bind_some]
  rw [kD (by rw [wS]; omega)]
  simp only [Option.bind_some]
  rw [iE (by rw [wS]; omega)]
  exact ⟨_, rfl, by simp⟩
theorem IJ (d ky fn dp : Int) (lf : UInt32) (off : UInt64) (ee : UInt32) (nd eL : Int) (bZ cg key : List UInt8) (last : Bool) (out : Int) (data eO : List UInt8) (he : ey 2 d ky fn dp lf off ee nd eL bZ cg = some (eO, 0)) (hl : eO.length = 32) (mj : key = [] ∨ (key.length : Int) = ky) (vP : key.length ≤ 64) (hd : data.length ≤ 12000000) :
    e7 2 d ky fn dp lf off ee nd eL bZ cg key last out data = some (small.Gn eO (small.kb key ++ data) last out) := by
  unfold e7 lh
  rw [he]
  simp only [Option.bind_some, ne_eq, not_true_eq_false, if_false]
  rw [if_neg (by
    simp only [Bool.and_eq_true, decide_eq_true_eq]
    rintro ⟨h1, h2⟩
    rcases mj with rfl | h
    · exact h1 rfl
    · exact h2 h)]
  unfold kg
  rw [fJ (by simp; omega), fJ (by simp; omega)]
  simp only [Option.bind_some, List.nil_append]
  rw [II d eO key hl vP]
  simp only [Option.bind_some, Sum.elim_inl, Sum.elim_inr]
  have LI := small.zm key vP
  rw [Ak (Di eO) (0, 0) (small.kb key) data hd LI]
  simp only [Option.bind_some]
  obtain ⟨h1, h2, h3⟩ := small.held eO (small.kb key ++ data)
  obtain ⟨t, KN, Bv⟩ := On d eO key last 0 (dh (fun h b c => fS h b c false false) 64 (Di eO) (0, 0) (small.kb key ++ data)).1 (dh (fun h b c => fS h b c false false) 64 (Di eO) (0, 0) (small.kb key ++ data)).2.1 (dh (fun h b c => fS h b c false false) 64 (Di eO) (0, 0) (small.kb key ++ data)).2.2 h1 out
  rw [KN]
  simp only [Option.bind_some, Option.some.injEq]
  exact Bv
end Go.Sx
namespace Go.Sx
open Go.RowKit
set_option linter.unusedVariables false
set_option linter.unusedSimpArgs false
theorem FN (k d ky fn dp : Int) (lf : UInt32) (off : UInt64) (ee : UInt32) (nd eL : Int) (bZ cg key : List UInt8) (last : Bool) (out : Int) (data : List UInt8) (hc : cI k d ky fn dp lf off ee nd eL bZ cg = some 0) (mj : key = [] ∨ (key.length : Int) = ky) (hd : data.length ≤ 12000000) :
    ∃ (H : jf) (eO M : List UInt8), H.k = k ∧ e7 k d ky fn dp lf off ee nd eL bZ cg key last out data = some (H.Gn eO M last out) ∧ mZ k d ky fn dp lf off ee nd eL bZ cg key last out data = some (H.Gn eO M last out) := by
  obtain ⟨r, h1, h2⟩ := tC k d ky fn dp lf off ee nd eL bZ cg
  rw [hc] at h1
  obtain rfl := Option.some.inj h1
  obtain ⟨LJ, Lv⟩ := Ix k d ky fn dp lf off ee nd eL bZ cg hc
  rcases h2 rfl with ⟨rfl, _, _, h3, hs, hp⟩ | ⟨rfl, _, _, h3, hs, hp⟩
  · have hl : (Bj 1 d ky fn dp lf off ee nd eL bZ cg).length = 64 := by rw [x6 _ _ _ _ _ _ _ _ _ _ _ _ (.inl ⟨rfl, hs, hp⟩)]; rfl
    have vP : key.length ≤ 128 := by
      rcases mj with rfl | h
      · simp
      · omega
    exact ⟨BD, _, _, rfl, IH d ky fn dp lf off ee nd eL bZ cg key last out data _ LJ hl mj vP hd, x8 BD d ky fn dp lf off ee nd eL bZ cg key last out data _ hc Lv hl mj vP hd⟩
  · have hl : (Bj 2 d ky fn dp lf off ee nd eL bZ cg).length = 32 := by rw [x6 _ _ _ _ _ _ _ _ _ _ _ _ (.inr ⟨rfl, hs, hp⟩)]; rfl
    have vP : key.length ≤ 64 := by
      rcases mj with rfl | h
      · simp
      · omega
    exact ⟨small, _, _, rfl, IJ d ky fn dp lf off ee nd eL bZ cg key last out data _ LJ hl mj vP hd, x8 small d ky fn dp lf off ee nd eL bZ cg key last out data _ hc Lv hl mj vP hd⟩
end Go.Sx
namespace Go.Sx
open Go.RowKit Go.Proofs
set_option linter.unusedVariables false
variable {α γ δ : Type}
def BW (w : World) (b : Nat) : Prop := b < w.heap.size
theorem Cx.KO (w : World) : Cx N0 (BW w) w w [] := ⟨rfl, rfl, rfl, Nat.le_refl _, fun _ _ _ => rfl, fun _ h => h.elim, fun _ h => h, N0, N0, ⟨fun _ h => h, fun _ h => h⟩, fun _ h => h.elim, fun _ h => h.elim⟩
theorem RH.sh {w : World} {E : bx α} {y : Hd} {x : List α} (h : RH N0 w E y x) : (SH E).r w (BW w) y x := by
  obtain ⟨h1, h2, h3, h4⟩ := h
  refine ⟨h1, h2, h3, fun gf a ha => ?_⟩
  cases hx : E.all x with
  | nil => exact absurd hx gf
  | cons c cs =>
    have h5 := h3.2 a 0 c ha (by rw [hx]; rfl)
    have hb : (a.add 0).block < w.heap.size := World.block_lt_of_cell? w _ h5
    rwa [gJ] at hb
theorem xq.RS {w : World} {E : bx γ} {r : γ → δ → Prop} {q : Rl γ δ} {A : Option Addr} {ys : List γ} {xs : List δ} (h : xq N0 w E r A ys xs) (conv : ∀ y x, r y x → q.r w (BW w) y x) : yP N0 (BW w) w E q A ys xs := ⟨h.ro, h.len, fun j y x a b => conv _ _ (h.el j y x a b)⟩
end Go.Sx
namespace Go.Sx
open Go.RowKit
set_option linter.unusedVariables false
set_option linter.unusedSimpArgs false
section
variable {α σ ρ τ : Type}
def jN (step : σ → α → σ ⊕ ρ) (fin : σ → ρ) : List α → σ → ρ
  | [], s => fin s
  | x :: r, s => match step s x with | .inl s' => jN step fin r s' | .inr q => q
theorem Al {f : τ → Option (τ ⊕ ρ)} (l : List α) (st : σ → Nat → τ) (step : σ → α → σ ⊕ ρ) (fin : σ → ρ) (I : Nat → σ → Prop)
    (hn : ∀ s i (h : i < l.length), I i s → f (st s i) = some (match step s l[i] with | .inl s' => .inl (st s' (i + 1)) | .inr q => .inr q) ∧ ∀ s', step s l[i] = .inl s' → I (i + 1) s')
    (he : ∀ s, I l.length s → f (st s l.length) = some (.inr (fin s))) (s : σ) (h0 : I 0 s) : aP f (st s 0) = some (jN step fin l s) := by
  have key : ∀ (m k : Nat) (s : σ), m = l.length - k → k ≤ l.length → I k s → aP f (st s k) = some (jN step fin (l.drop k) s) := by
    intro m
    induction m with
    | zero =>
      intro k s hm hk hi
      obtain rfl : k = l.length := by omega
      rw [List.drop_length]
      exact j6 (he s hi)
    | succ m ih =>
      intro k s hm hk hi
      have eN : k < l.length := by omega
      obtain ⟨h1, h2⟩ := hn s k eN hi
      rw [List.drop_eq_getElem_cons eN, jN]
      cases hs : step s l[k] with
      | inl s' =>
        rw [hs] at h1
        rw [lP h1]
        exact ih (k + 1) s' (by omega) (by omega) (h2 s' hs)
      | inr q =>
        rw [hs] at h1
        exact j6 h1
  exact key _ 0 s rfl (Nat.zero_le _) h0
end
def jF (s : List UInt8) : Bool := decide (1 ≤ s.length ∧ s.length ≤ 64) && s.all (fun c => !(decide (c < 33) || decide ((126 : UInt8) < c)))
theorem x9 (p : UInt8 → Bool) : ∀ l : List UInt8, jN (fun (_ : Unit) c => if p c = true then .inr false else .inl ()) (fun _ => true) l () = l.all (fun c => !p c)
  | [] => rfl
  | c :: r => by
    unfold jN
    by_cases h : p c = true
    · simp [h]
    · simp only [h, if_false, Bool.false_eq_true]
      rw [x9 p r]
      simp [h]
theorem ya (s : List UInt8) (hs : s.length ≤ 16000000) : fL s = some (jF s) := by
  unfold fL jF
  by_cases h : ((decide ((s.length : Int) < 1)) || (decide (64 < (s.length : Int)))) = true
  · rw [if_pos h]
    simp only [Bool.or_eq_true, decide_eq_true_eq] at h
    rw [decide_eq_false (by omega)]
    rfl
  · rw [if_neg h]
    simp only [Bool.or_eq_true, decide_eq_true_eq, not_or] at h
    rw [decide_eq_true (by omega), Bool.true_and, ← x9 (fun c => decide (c < 33) || decide ((126 : UInt8) < c))]
    refine Al (f := ff s) s (fun (_ : Unit) i => (i : Int)) _ _ (fun _ _ => True) (fun _ i hi _ => ⟨?_, fun _ _ => trivial⟩) (fun _ _ => ?_) () trivial
    · unfold ff
      rw [if_pos (by omega), bM hi]
      simp only [Option.bind_some, I8]
      by_cases h1 : s[i] < 33
      · simp [h1]
      · simp only [h1, decide_false, Bool.not_false, if_true, Option.bind_some, Bool.false_or, decide_eq_true_eq]
        by_cases h2 : (126 : UInt8) < s[i]
        · simp [h2]
        · simp only [h2, if_false]
          rw [gG i (by omega)]
    · unfold ff
      rw [if_neg (by omega)]
      rfl
noncomputable def oL (sz : Nat) (b : List UInt8) : List UInt8 := ((e7 1 sz 0 1 1 0 0 0 0 0 [] [] [] false sz b).getD ([], 0)).1
theorem Oo (sz : Nat) (h1 : 1 ≤ sz) (h2 : sz ≤ 64) : cI 1 (sz : Int) 0 1 1 0 0 0 0 0 [] [] = some 0 := by
  unfold cI
  rw [show gi 1 = some 64 from rfl]
  simp only [Option.bind_some]
  rw [if_neg (by decide), if_neg (by simp only [Bool.or_eq_true, decide_eq_true_eq]; omega)]
  rfl
theorem yb (sz : Nat) (h1 : 1 ≤ sz) (h2 : sz ≤ 64) (b : List UInt8) (hb : b.length ≤ 12000000) :
    e7 1 sz 0 1 1 0 0 0 0 0 [] [] [] false sz b = some (oL sz b, 0) ∧ mZ 1 sz 0 1 1 0 0 0 0 0 [] [] [] false sz b = some (oL sz b, 0) ∧ (oL sz b).length = sz := by
  obtain ⟨H, eO, M, hk, e1, e2⟩ := FN 1 sz 0 1 1 0 0 0 0 0 [] [] [] false sz b (Oo sz h1 h2) (.inl rfl) hb
  have hS : H.S = 64 := by rcases H.hk with ⟨_, _, h⟩ | ⟨h, _, _⟩ <;> omega
  have ha : H.Gn eO M false sz = ((H.hash eO M false).take sz, 0) := by
    unfold jf.Gn
    rw [if_neg (by omega), Int.toNat_natCast]
  have hd : oL sz b = (H.hash eO M false).take sz := by unfold oL; rw [e1, ha]; rfl
  rw [e1, e2, ha, hd]
  refine ⟨rfl, rfl, ?_⟩
  rw [List.length_take, H.x7, hS]
  omega
theorem Bn (sz : Nat) (h1 : 1 ≤ sz) (h2 : sz ≤ 64) (C : Mp (List UInt8)) (S : Mp (Mp (Int × List UInt8))) (b : List UInt8) (hb : b.length ≤ 12000000) : ez sz C S b = some (oL sz b, (sz : Int)) := by
  unfold ez
  rw [(yb sz h1 h2 b hb).1]
  rfl
abbrev Fi := List UInt8 × List UInt8
theorem Bo (b : List UInt8) (h : b.length ≤ 16000000) : jB b = some b := by
  unfold jB
  rw [fJ (by simp; omega)]
  simp
theorem Dr (l : List Fi) (hl : l.length ≤ 16000000) (hd : ∀ f ∈ l, f.2.length ≤ 16000000) : kr l = some (l, l) := by
  unfold kr
  refine bY (fun i => (l.take i, l.take i, (i : Int))) l.length (fun i hi => ?_) ?_
  · unfold gQ
    simp only []
    rw [if_pos (by omega), bM hi]
    simp only [Option.bind_some]
    rw [Bo _ (hd _ (List.getElem_mem hi))]
    simp only [Option.bind_some]
    rw [fJ (by simp; omega)]
    simp only [Option.bind_some]
    rw [gG i (by omega), List.take_add_one, List.getElem?_eq_getElem hi]
    rfl
  · unfold gQ
    simp only []
    rw [if_neg (by omega), List.take_length]
    rfl
end Go.Sx
namespace Go.Sx
open Go.RowKit
set_option linter.unusedVariables false
set_option linter.unusedSimpArgs false
section
variable {α σ ρ ρ' : Type}
theorem qw {step : σ → α → σ ⊕ ρ} {fin : σ → ρ} (g : ρ → ρ') : ∀ (l : List α) (s : σ), g (jN step fin l s) = jN (fun s x => Sum.map id g (step s x)) (fun s => g (fin s)) l s
  | [], s => rfl
  | x :: r, s => by
    unfold jN
    cases step s x with
    | inl a => exact qw g r a
    | inr q => rfl
end
abbrev Ch := Mp (List UInt8)
abbrev uT := Mp (Int × List UInt8)
abbrev Sn := Mp (Mp (Int × List UInt8))
def Bp (s : Mp Int × Nat) (f : Fi) : (Mp Int × Nat) ⊕ Option Int :=
  if jF f.1 = false then .inr (some 214) else if (aO s.1 f.1).isSome = true then .inr (some 213) else .inl (bq s.1 f.1 s.2, s.2 + 1)
def zn (l : List Fi) : Option Int := jN Bp (fun _ => none) l ([], 0)
noncomputable def pJ (sz : Nat) (C : Ch) (s : Ch × List UInt8) (c : List UInt8) : (Ch × List UInt8) ⊕ Option (Ch × List UInt8) :=
  match (aO C (oL sz c)).or (aO s.1 (oL sz c)) with
  | some o => if o ≠ c then .inr none else .inl (bq s.1 (oL sz c) c, s.2 ++ oL sz c)
  | none => .inl (bq s.1 (oL sz c) c, s.2 ++ oL sz c)
noncomputable def Bq (sz : Nat) (C : Ch) (l : List (List UInt8)) (m : Ch) : Option (Ch × List UInt8) := jN (pJ sz C) some l (m, [])
noncomputable def tD (sz : Nat) (C : Ch) (s : Ch × uT) (f : Fi) : (Ch × uT) ⊕ Option (Ch × uT) :=
  match Bq sz C (cut f.2 [] 0) s.1 with
  | none => .inr none
  | some p => .inl (p.1, bq s.2 f.1 ((f.2.length : Int), p.2))
noncomputable def qx (sz : Nat) (C : Ch) (l : List Fi) : Option (Ch × uT) := jN (tD sz C) some l ([], [])
def qy (C m : Ch) : Ch := m.foldl (fun c p => bq c p.1 p.2) C
noncomputable def tE (sz : Nat) (C : Ch) (S : Sn) (snap : List UInt8) (l : List Fi) : Int × Ch × Sn :=
  match aO S snap with
  | some _ => (if jF snap = true then 213 else 214, C, S)
  | none => if jF snap = false then (214, C, S) else if 64 ≤ S.length ∨ 256 < l.length then (2, C, S) else
    match zn l with
    | some e => (e, C, S)
    | none => match qx sz C l with
      | none => (271, C, S)
      | some p => (0, qy C p.1, bq S snap p.2)
noncomputable def g2 (sz : Nat) (C : Ch) (S : Sn) (md : uT) (i : Nat) (f : Fi) : Option (Ch × List UInt8) → (Int × Ch × uT × Int) ⊕ (Int × Int × Ch × Sn)
  | none => .inr (271, (sz : Int), C, S)
  | some p => .inl ((sz : Int), p.1, bq md f.1 ((f.2.length : Int), p.2), ((i + 1 : Nat) : Int))
def g1 (sz : Nat) (C : Ch) (S : Sn) (snap : List UInt8) : Option (Ch × uT) → Int × Int × Ch × Sn
  | none => (271, (sz : Int), C, S)
  | some p => (0, (sz : Int), qy C p.1, bq S snap p.2)
noncomputable def g0 (sz : Nat) (C : Ch) (S : Sn) (snap : List UInt8) (l : List Fi) : Option Int → Int × Int × Ch × Sn
  | some e => (e, (sz : Int), C, S)
  | none => g1 sz C S snap (qx sz C l)
theorem FO (m : Ch) : ∀ C : Ch, dG cM C m = some (qy C m) := by
  induction m with
  | nil => intro C; rfl
  | cons p r ih =>
    intro C
    obtain ⟨k, v⟩ := p
    simp only [dG, cM, Option.bind_some]
    exact ih _
theorem KP (sz : Nat) (h1 : 1 ≤ sz) (h2 : sz ≤ 64) (C : Ch) (S : Sn) (md : uT) (i : Nat) (f : Fi) (hf : f.2.length ≤ 1048576) (m : Ch) (hi : i ≤ 1000000) :
    aP (cL C S md (i : Int) f (cut f.2 [] 0, 0)) ((sz : Int), m, ([] : List UInt8), (0 : Int)) =
      some (g2 sz C S md i f (Bq sz C (cut f.2 [] 0) m)) := by
  have hc := Bb f.2
  have hb := lI f.2 [] 0 (by simp)
  unfold Bq
  rw [qw (g2 sz C S md i f)]
  refine Al (f := cL C S md (i : Int) f (cut f.2 [] 0, 0)) (cut f.2 [] 0) (fun (s : Ch × List UInt8) k => ((sz : Int), s.1, s.2, (k : Int))) _ _ (fun k s => s.2.length = k * sz) (fun s k hk hI => ?_) (fun s hI => ?_) (m, []) (by simp)
  · have hx := (hb _ (List.getElem_mem hk)).2
    have PR := (yb sz h1 h2 (cut f.2 [] 0)[k] (by omega)).2.2
    unfold cL
    simp only []
    rw [if_pos (by omega), bM hk]
    simp only [Option.bind_some]
    rw [Bn sz h1 h2 C S _ (by omega)]
    simp only [Option.bind_some]
    have Ds : s.2.length + (oL sz (cut f.2 [] 0)[k]).length ≤ 9223372036854775807 := by
      rw [hI, PR]
      have : k * sz ≤ 1048576 * 64 := Nat.mul_le_mul (by omega) h2
      omega
    unfold pJ
    constructor
    · cases hC : aO C (oL sz (cut f.2 [] 0)[k]) with
      | some o =>
        simp only [Option.elim_some, Option.some_or]
        unfold fF
        by_cases ho : o ≠ (cut f.2 [] 0)[k]
        · rw [if_pos ho, if_pos ho]; rfl
        · rw [if_neg ho, if_neg ho, iE Ds]
          simp only [Option.bind_some]
          unfold cK
          rw [gG k (by omega)]; try rfl
      | none =>
        simp only [Option.elim_none, Option.none_or]
        cases hm : aO s.1 (oL sz (cut f.2 [] 0)[k]) with
        | some o =>
          simp only [Option.elim_some]
          unfold dr
          by_cases ho : o ≠ (cut f.2 [] 0)[k]
          · rw [if_pos (by simpa using ho), if_pos ho]; rfl
          · rw [if_neg (by simpa using ho), if_neg ho, iE Ds]
            simp only [Option.bind_some]
            unfold cK
            rw [gG k (by omega)]; try rfl
        | none =>
          simp only [Option.elim_none]
          unfold dr
          rw [if_neg (by simp), iE Ds]
          simp only [Option.bind_some]
          unfold cK
          rw [gG k (by omega)]; try rfl
    · have hlen : (s.2 ++ oL sz (cut f.2 [] 0)[k]).length = (k + 1) * sz := by rw [List.length_append, hI, PR, Nat.succ_mul]
      intro s' pf
      generalize (aO C (oL sz (cut f.2 [] 0)[k])).or (aO s.1 (oL sz (cut f.2 [] 0)[k])) = o at pf
      cases o with
      | none =>
        obtain rfl := Sum.inl.inj pf
        exact hlen
      | some o =>
        simp only [] at pf
        by_cases ho : o ≠ (cut f.2 [] 0)[k]
        · rw [if_pos ho] at pf; cases pf
        · rw [if_neg ho] at pf
          obtain rfl := Sum.inl.inj pf
          exact hlen
  · unfold cL
    simp only []
    rw [if_neg (by omega), gG i (by omega)]
    rfl
theorem KQ (sz : Nat) (h1 : 1 ≤ sz) (h2 : sz ≤ 64) (C : Ch) (S : Sn) (snap : List UInt8) (l : List Fi) (hl : l.length ≤ 256) (hd : ∀ f ∈ l, f.2.length ≤ 1048576) :
    aP (cN C S snap l) ((sz : Int), ([] : Ch), ([] : uT), (0 : Int)) =
      some (g1 sz C S snap (qx sz C l)) := by
  unfold qx
  rw [qw (g1 sz C S snap)]
  refine Al (f := cN C S snap l) l (fun (s : Ch × uT) k => ((sz : Int), s.1, s.2, (k : Int))) _ _ (fun _ _ => True) (fun s k hk _ => ⟨?_, fun _ _ => trivial⟩) (fun s _ => ?_) ([], []) trivial
  · have hx := hd _ (List.getElem_mem hk)
    unfold cN
    simp only []
    rw [if_pos (by omega), bM hk]
    simp only [Option.bind_some]
    rw [tB _ hx]
    simp only [Option.bind_some]
    rw [KP sz h1 h2 C S s.2 k l[k] hx s.1 (by omega)]
    unfold tD
    cases Bq sz C (cut l[k].2 [] 0) s.1 <;> rfl
  · unfold cN
    simp only []
    rw [if_neg (by omega), FO]
    rfl
theorem Dt (sz : Nat) (h1 : 1 ≤ sz) (h2 : sz ≤ 64) (C : Ch) (S : Sn) (snap : List UInt8) (l : List Fi) (RT : snap.length ≤ 16000000) (hd : ∀ f ∈ l, f.1.length ≤ 16000000 ∧ f.2.length ≤ 1048576) :
    ei sz C S snap l = some ((tE sz C S snap l).1, (sz : Int), (tE sz C S snap l).2.1, (tE sz C S snap l).2.2) := by
  unfold ei bR tE
  simp only [Option.bind_some]
  rw [ya snap RT]
  cases hS : aO S snap with
  | some x =>
    simp only [Option.elim_some, Option.bind_some]
    cases hn : jF snap <;> rfl
  | none =>
    simp only [Option.elim_none, Option.bind_some]
    cases hn : jF snap with
    | false => rfl
    | true =>
      simp only [Bool.not_true, Bool.false_eq_true, if_false, Bool.true_eq_false]
      by_cases hw : 64 ≤ S.length ∨ 256 < l.length
      · rw [if_pos hw, if_pos (by simp only [Bool.or_eq_true, decide_eq_true_eq]; omega)]
      rw [if_neg hw, if_neg (by simp only [Bool.or_eq_true, decide_eq_true_eq]; omega)]
      simp only [not_or, Nat.not_le, Nat.not_lt] at hw
      have RU := KQ sz h1 h2 C S snap l hw.2 (fun f hf => (hd f hf).2)
      have key : aP (cO C S snap l (sz : Int)) (([] : Mp Int), (0 : Int)) = some (g0 sz C S snap l (zn l)) := by
        unfold zn
        rw [qw (g0 sz C S snap l)]
        refine Al (f := cO C S snap l (sz : Int)) l (fun (s : Mp Int × Nat) k => (s.1, (k : Int))) _ _ (fun k s => s.2 = k) (fun s k hk hI => ?_) (fun s _ => ?_) ([], 0) rfl
        · have hx := hd _ (List.getElem_mem hk)
          unfold cO Bp
          simp only []
          rw [if_pos (by omega), bM hk]
          simp only [Option.bind_some]
          rw [ya _ hx.1]
          simp only [Option.bind_some]
          constructor
          · cases Oq : jF l[k].1 with
            | false => rfl
            | true =>
              simp only [Bool.not_true, Bool.false_eq_true, if_false, Bool.true_eq_false]
              rw [if_neg (by omega)]
              by_cases hf : (aO s.1 l[k].1).isSome = true
              · rw [if_pos hf, if_pos hf]; rfl
              · rw [if_neg hf, if_neg hf, gG k (by omega), hI]; try rfl
          · intro s' pf
            cases Oq : jF l[k].1 with
            | false => rw [Oq] at pf; cases pf
            | true =>
              rw [Oq] at pf
              simp only [Bool.true_eq_false, if_false] at pf
              by_cases hf : (aO s.1 l[k].1).isSome = true
              · rw [if_pos hf] at pf; cases pf
              · rw [if_neg hf] at pf
                obtain rfl := Sum.inl.inj pf
                show s.2 + 1 = k + 1
                omega
        · unfold cO
          simp only []
          rw [if_neg (by omega), RU]
          rfl
      rw [key]
      cases zn l with
      | some e => rfl
      | none =>
        simp only [g0]
        cases qx sz C l <;> rfl
end Go.Sx
namespace Go.Sx
set_option linter.unusedVariables false
set_option linter.unusedSimpArgs false
def fv (r : Nat) : Nat := if r < 4503599627370496 then r else (4503599627370496 + r % 4503599627370496) * 2 ^ (r / 4503599627370496 - 1)
theorem sa {t k : Nat} (h1 : t = 0 ∨ 4503599627370496 ≤ k) (h2 : k ≤ 2 * 4503599627370496) : fv (t * 4503599627370496 + k) = k * 2 ^ t := by
  unfold fv
  rcases Nat.lt_or_ge k 4503599627370496 with h3 | h3
  · obtain rfl : t = 0 := h1.resolve_right (by omega)
    rw [if_pos (by omega)]; simp
  · rw [if_neg (by omega)]
    rcases Nat.lt_or_ge k (2 * 4503599627370496) with h4 | h4
    · have e1 : (t * 4503599627370496 + k) / 4503599627370496 = t + 1 := by omega
      have e2 : (t * 4503599627370496 + k) % 4503599627370496 = k - 4503599627370496 := by omega
      rw [e1, e2, Nat.add_sub_cancel, show 4503599627370496 + (k - 4503599627370496) = k from by omega]
    · have hk : k = 2 * 4503599627370496 := by omega
      have e1 : (t * 4503599627370496 + k) / 4503599627370496 = t + 2 := by omega
      have e2 : (t * 4503599627370496 + k) % 4503599627370496 = 0 := by omega
      rw [e1, e2, show t + 2 - 1 = t + 1 from rfl, Nat.pow_succ, hk]
      generalize 2 ^ t = z
      omega
theorem Am (r : Nat) : fv r < fv (r + 1) := by
  rcases Nat.lt_or_ge r 4503599627370496 with h | h
  · have e1 := sa (t := 0) (k := r) (.inl rfl) (by omega)
    have e2 := sa (t := 0) (k := r + 1) (.inl rfl) (by omega)
    rw [Nat.zero_mul, Nat.zero_add] at e1 e2
    rw [e1, e2]; omega
  · have hr : r = (r / 4503599627370496 - 1) * 4503599627370496 + (4503599627370496 + r % 4503599627370496) := by omega
    have e1 := sa (t := r / 4503599627370496 - 1) (k := 4503599627370496 + r % 4503599627370496) (.inr (by omega)) (by omega)
    have e2 := sa (t := r / 4503599627370496 - 1) (k := 4503599627370496 + r % 4503599627370496 + 1) (.inr (by omega)) (by omega)
    rw [← Nat.add_assoc, ← hr] at e2
    rw [← hr] at e1
    rw [e1, e2]
    exact Nat.mul_lt_mul_of_pos_right (Nat.lt_succ_self _) (Nat.two_pow_pos _)
theorem uU {a b : Nat} (h : a < b) : fv a < fv b := by
  induction b with
  | zero => omega
  | succ b ih =>
    rcases Nat.lt_or_ge a b with h1 | h1
    · exact Nat.lt_trans (ih h1) (Am b)
    · obtain rfl : a = b := by omega
      exact Am a
theorem uV {a b : Nat} (h : a ≤ b) : fv a ≤ fv b := by
  rcases Nat.lt_or_ge a b with h1 | h1
  · exact Nat.le_of_lt (uU h1)
  · obtain rfl : a = b := by omega
    exact Nat.le_refl _
theorem uW {a b : Nat} : fv a ≤ fv b ↔ a ≤ b :=
  ⟨fun h => by rcases Nat.lt_or_ge b a with q | q; exact absurd (uU q) (by omega); exact q, uV⟩
theorem IK {a b : Nat} (h : fv a = fv b) : a = b := Nat.le_antisymm (uW.1 (by omega)) (uW.1 (by omega))
theorem FP : fv 0 = 0 := rfl
theorem ow {b : Nat} (h : b % 9223372036854775808 < 9218868437227405312) : ∃ m p, Ieee.double.read b = .number (b / 9223372036854775808 % 2 == 1) m p ∧ (-1074 : Int) ≤ p ∧ m * 2 ^ (p + 1074).toNat = fv (b % 9223372036854775808) := by
  have hw : Ieee.double.signWeight = 9223372036854775808 := by decide
  have hi : Ieee.double.infRung = 9218868437227405312 := by decide
  have hb : Ieee.double.binade = 4503599627370496 := by decide
  have hp : Ieee.double.leastPlace = -1074 := by decide
  unfold Ieee.Format.read
  dsimp only
  rw [hw, hi, hb, hp]
  unfold fv
  by_cases h1 : b % 9223372036854775808 < 4503599627370496
  · rw [if_pos h1, if_pos h1]
    exact ⟨_, _, rfl, by omega, by simp⟩
  · rw [if_neg h1, if_neg h1, if_pos h]
    refine ⟨_, _, rfl, by omega, ?_⟩
    rw [show ((-1074 : Int) + ((b % 9223372036854775808 / 4503599627370496 - 1 : Nat) : Int) + 1074).toNat = b % 9223372036854775808 / 4503599627370496 - 1 from by omega]
theorem mG {b : Nat} (h : b % 9223372036854775808 = 9218868437227405312) : Ieee.double.read b = .infinity (b / 9223372036854775808 % 2 == 1) := by
  have hw : Ieee.double.signWeight = 9223372036854775808 := by decide
  have hi : Ieee.double.infRung = 9218868437227405312 := by decide
  have hb : Ieee.double.binade = 4503599627370496 := by decide
  unfold Ieee.Format.read
  dsimp only
  rw [hw, hi, hb, h, if_neg (by decide), if_neg (by decide), if_pos rfl]
def NN (x : Nat) : Prop := x % 9223372036854775808 ≤ 9218868437227405312
instance (x : Nat) : Decidable (NN x) := inferInstanceAs (Decidable (_ ≤ _))
def Du (x : Nat) : Prop := x % 9223372036854775808 < 9218868437227405312
instance (x : Nat) : Decidable (Du x) := inferInstanceAs (Decidable (_ < _))
def fz (x : Nat) : Int := if (x / 9223372036854775808 % 2 == 1) = true then -(fv (x % 9223372036854775808) : Int) else (fv (x % 9223372036854775808) : Int)
theorem zo (s : Bool) (m k c : Nat) : Ieee.signed s m k * (2 ^ c : Nat) = if s = true then -((m * 2 ^ (k + c) : Nat) : Int) else ((m * 2 ^ (k + c) : Nat) : Int) := by
  unfold Ieee.signed
  have e : (m <<< k : Nat) * 2 ^ c = m * 2 ^ (k + c) := by rw [Nat.shiftLeft_eq, Nat.pow_add, Nat.mul_assoc]
  cases s
  · simp only [Bool.false_eq_true, if_false]
    rw [← e]; simp
  · simp only [if_true]
    rw [← e, Int.neg_mul]; simp
theorem yc (a b : Int) {c : Nat} (hc : 0 < c) : compare a b = compare (a * c) (b * c) := by
  have PS : (0 : Int) < (c : Int) := by omega
  simp only [compare, compareOfLessAndEq]
  have h1 : a < b ↔ a * c < b * c := ⟨fun h => Int.mul_lt_mul_of_pos_right h PS, fun h => Int.lt_of_mul_lt_mul_right h (Int.le_of_lt PS)⟩
  have h2 : a = b ↔ a * c = b * c := ⟨fun h => by rw [h], fun h => Int.eq_of_mul_eq_mul_right (by omega) h⟩
  simp only [h1, h2]
theorem ni {x : Nat} (h : Du x) : ∃ m p, Ieee.double.read x = .number (x / 9223372036854775808 % 2 == 1) m p ∧ (-1074 : Int) ≤ p ∧ ∀ base : Int, -1074 ≤ base → base ≤ p → Ieee.signed (x / 9223372036854775808 % 2 == 1) m (p - base).toNat * (2 ^ (base + 1074).toNat : Nat) = fz x := by
  obtain ⟨m, p, h1, h2, h3⟩ := ow h
  refine ⟨m, p, h1, h2, fun base hb hp => ?_⟩
  rw [zo, show (p - base).toNat + (base + 1074).toNat = (p + 1074).toNat from by omega, h3]
  rfl
theorem Br {x y : Nat} (hx : Du x) (hy : Du y) : Ieee.double.order x y = some (compare (fz x) (fz y)) := by
  obtain ⟨m, p, h1, h2, h3⟩ := ni hx
  obtain ⟨n, q, g1, g2, g3⟩ := ni hy
  unfold Ieee.Format.order
  rw [h1, g1]
  simp only [Ieee.Datum.order]
  rw [yc _ _ (Nat.two_pow_pos (min p q + 1074).toNat), h3 _ (by omega) (by omega), g3 _ (by omega) (by omega)]
theorem wT {a b : Int} (h : a < b) : compare a b = .lt := by simp [compare, compareOfLessAndEq, h]
theorem wU {a b : Int} (h : b < a) : compare a b = .gt := by
  simp only [compare, compareOfLessAndEq]
  rw [if_neg (by omega), if_neg (by omega)]
theorem zp {a b : Int} (h : a = b) : compare a b = .eq := by
  simp only [compare, compareOfLessAndEq]
  rw [if_neg (by omega), if_pos h]
theorem Dv {x y : Nat} (hx : NN x) (hy : NN y) : Ieee.double.order x y = some (compare (fz x) (fz y)) := by
  rcases Nat.lt_or_ge (x % 9223372036854775808) 9218868437227405312 with h1 | h1 <;> rcases Nat.lt_or_ge (y % 9223372036854775808) 9218868437227405312 with h2 | h2
  · exact Br h1 h2
  · have e2 : y % 9223372036854775808 = 9218868437227405312 := Nat.le_antisymm hy h2
    obtain ⟨m, p, h3, _, _⟩ := ow h1
    unfold Ieee.Format.order
    rw [h3, mG e2]
    simp only [Ieee.Datum.order]
    have hv := uU h1
    congr 1
    unfold fz
    rw [e2]
    cases hs : (y / 9223372036854775808 % 2 == 1) <;> simp only [Bool.false_eq_true, if_true, if_false]
    · exact (wT (by split <;> omega)).symm
    · exact (wU (by split <;> omega)).symm
  · have e1 : x % 9223372036854775808 = 9218868437227405312 := Nat.le_antisymm hx h1
    obtain ⟨m, p, h3, _, _⟩ := ow h2
    unfold Ieee.Format.order
    rw [h3, mG e1]
    simp only [Ieee.Datum.order]
    have hv := uU h2
    congr 1
    unfold fz
    rw [e1]
    cases hs : (x / 9223372036854775808 % 2 == 1) <;> simp only [Bool.false_eq_true, if_true, if_false]
    · exact (wU (by split <;> omega)).symm
    · exact (wT (by split <;> omega)).symm
  · have e1 : x % 9223372036854775808 = 9218868437227405312 := Nat.le_antisymm hx h1
    have e2 : y % 9223372036854775808 = 9218868437227405312 := Nat.le_antisymm hy h2
    unfold Ieee.Format.order
    rw [mG e1, mG e2]
    simp only [Ieee.Datum.order]
    congr 1
    unfold fz
    rw [e1, e2]
    have hp : 0 < fv 9218868437227405312 := uU (a := 0) (by decide)
    cases hs : (x / 9223372036854775808 % 2 == 1) <;> cases ht : (y / 9223372036854775808 % 2 == 1) <;> simp only [Bool.false_eq_true, if_true, if_false]
    · rw [zp rfl]; rfl
    · rw [wU (by omega)]; rfl
    · rw [wT (by omega)]; rfl
    · rw [zp rfl]; rfl
theorem wV {x y : Nat} (hx : NN x) (hy : NN y) : iz .lss x y = decide (fz x < fz y) ∧ iz .leq x y = decide (fz x ≤ fz y) ∧ iz .gtr x y = decide (fz y < fz x) ∧ iz .geq x y = decide (fz y ≤ fz x) ∧ iz .eql x y = decide (fz x = fz y) ∧ iz .neq x y = decide (fz x ≠ fz y) := by
  unfold iz
  rw [Dv hx hy]
  rcases Int.lt_trichotomy (fz x) (fz y) with h | h | h
  · rw [wT h]
    refine ⟨?_, ?_, ?_, ?_, ?_, ?_⟩ <;> symm <;> simp only [] <;> first | exact decide_eq_true (by omega) | exact decide_eq_false (by omega)
  · rw [zp h]
    refine ⟨?_, ?_, ?_, ?_, ?_, ?_⟩ <;> symm <;> simp only [] <;> first | exact decide_eq_true (by omega) | exact decide_eq_false (by omega)
  · rw [wU h]
    refine ⟨?_, ?_, ?_, ?_, ?_, ?_⟩ <;> symm <;> simp only [] <;> first | exact decide_eq_true (by omega) | exact decide_eq_false (by omega)
theorem Dw (neg : Bool) (n drop : Nat) : Ieee.Toward.even.cut neg n drop = n / 2 ^ drop ∨ (Ieee.Toward.even.cut neg n drop = n / 2 ^ drop + 1 ∧ n % 2 ^ drop ≠ 0) := by
  unfold Ieee.Toward.cut
  dsimp only
  rw [Nat.shiftLeft_eq, Nat.one_mul]
  rcases Nat.le_total drop (n.log2 + 2) with h | h
  · rw [Nat.min_eq_left h]
    cases hb : (decide (2 ^ drop < 2 * (n % 2 ^ drop)) || 2 ^ drop == 2 * (n % 2 ^ drop) && n / 2 ^ drop % 2 == 1) with
    | false => left; simp
    | true =>
      right
      refine ⟨by simp, fun h0 => ?_⟩
      rw [h0] at hb
      have := Nat.two_pow_pos drop
      simp only [Bool.or_eq_true, decide_eq_true_eq, Bool.and_eq_true, beq_iff_eq] at hb
      omega
  · rw [Nat.min_eq_right h]
    have hn : n < 2 ^ (n.log2 + 1) := Nat.lt_log2_self
    have h2 : 2 ^ (n.log2 + 2) = 2 * 2 ^ (n.log2 + 1) := by rw [Nat.pow_succ, Nat.mul_comm]
    have h3 : n < 2 ^ drop := Nat.lt_of_lt_of_le (by omega : n < 2 ^ (n.log2 + 2)) (Nat.pow_le_pow_right (by decide) h)
    left
    rw [Nat.div_eq_of_lt h3, Nat.div_eq_of_lt (by omega), Nat.mod_eq_of_lt (by omega)]
    have : (decide (2 ^ (n.log2 + 2) < 2 * n) || 2 ^ (n.log2 + 2) == 2 * n && 0 % 2 == 1) = false := by
      simp; omega
    rw [this]; rfl
theorem Ot (neg : Bool) (ry : Nat) (place : Int) (h0 : ry ≠ 0) : ∃ t kept lo : Nat, Ieee.double.nearest neg ry place = Ieee.double.word neg (min (t * 4503599627370496 + kept) 9218868437227405312) ∧ (kept = lo ∨ (kept = lo + 1 ∧ lo * 2 ^ t * 2 ^ (-1074 - place).toNat < ry * 2 ^ (place + 1074).toNat)) ∧
    (t = 0 ∨ 4503599627370496 ≤ lo) ∧ lo < 2 * 4503599627370496 ∧ lo * 2 ^ t * 2 ^ (-1074 - place).toNat ≤ ry * 2 ^ (place + 1074).toNat ∧ ry * 2 ^ (place + 1074).toNat < (lo + 1) * 2 ^ t * 2 ^ (-1074 - place).toNat := by
  have hi : Ieee.double.infRung = 9218868437227405312 := by decide
  have hb : Ieee.double.binade = 4503599627370496 := by decide
  have hp : Ieee.double.leastPlace = -1074 := by decide
  have hf : Ieee.double.fractionBits = 52 := rfl
  unfold Ieee.Format.nearest
  rw [if_neg h0]
  dsimp only
  rw [hi, hb, hp, hf]
  have Ou : 2 ^ ry.log2 ≤ ry := Nat.log2_self_le h0
  have Ov : ry < 2 ^ (ry.log2 + 1) := Nat.lt_log2_self
  generalize hL : ry.log2 = L at *
  have KR : max (place + (L : Int) - ((52 : Nat) : Int)) (-1074) = max (place + (L : Int) - 52) (-1074) := rfl
  rw [KR]
  generalize S6 : max (place + (L : Int) - 52) (-1074) = last
  rw [Nat.shiftLeft_eq]
  have hd := Nat.div_add_mod (ry * 2 ^ (place - last).toNat) (2 ^ (last - place).toNat)
  have hm := Nat.mod_lt (ry * 2 ^ (place - last).toNat) (Nat.two_pow_pos (last - place).toNat)
  have hc := Dw neg (ry * 2 ^ (place - last).toNat) (last - place).toNat
  generalize S7 : (place - last).toNat = up at *
  generalize S8 : (last - place).toNat = drop at *
  have K_ : (last - -1074).toNat = (last + 1074).toNat := by omega
  rw [K_]
  generalize ht : (last + 1074).toNat = t
  generalize hu : (place + 1074).toNat = u
  generalize S9 : (-1074 - place).toNat = d
  have IL : up + t + d = u + drop := by omega
  generalize DJ : ry * 2 ^ up / 2 ^ drop = lo at *
  have mv : ∀ a b : Nat, a * 2 ^ drop ≤ b * 2 ^ up → a * 2 ^ t * 2 ^ d ≤ b * 2 ^ u := by
    intro a b h
    have h1 : a * 2 ^ drop * (2 ^ t * 2 ^ d) ≤ b * 2 ^ up * (2 ^ t * 2 ^ d) := Nat.mul_le_mul_right _ h
    have e1 : b * 2 ^ up * (2 ^ t * 2 ^ d) = b * 2 ^ u * 2 ^ drop := by
      rw [Nat.mul_assoc, ← Nat.pow_add, ← Nat.pow_add, ← Nat.add_assoc, IL, Nat.pow_add, Nat.mul_assoc]
    have e2 : a * 2 ^ drop * (2 ^ t * 2 ^ d) = a * 2 ^ t * 2 ^ d * 2 ^ drop := by
      rw [Nat.mul_right_comm, ← Nat.mul_assoc]
    rw [e1, e2] at h1
    exact Nat.le_of_mul_le_mul_right h1 (Nat.two_pow_pos drop)
  have RV : ∀ a b : Nat, b * 2 ^ up < a * 2 ^ drop → b * 2 ^ u < a * 2 ^ t * 2 ^ d := by
    intro a b h
    have h1 : b * 2 ^ up * (2 ^ t * 2 ^ d) < a * 2 ^ drop * (2 ^ t * 2 ^ d) := Nat.mul_lt_mul_of_pos_right h (Nat.mul_pos (Nat.two_pow_pos _) (Nat.two_pow_pos _))
    have e1 : b * 2 ^ up * (2 ^ t * 2 ^ d) = b * 2 ^ u * 2 ^ drop := by
      rw [Nat.mul_assoc, ← Nat.pow_add, ← Nat.pow_add, ← Nat.add_assoc, IL, Nat.pow_add, Nat.mul_assoc]
    have e2 : a * 2 ^ drop * (2 ^ t * 2 ^ d) = a * 2 ^ t * 2 ^ d * 2 ^ drop := by
      rw [Nat.mul_right_comm, ← Nat.mul_assoc]
    rw [e1, e2] at h1
    exact Nat.lt_of_mul_lt_mul_right h1
  have RW : ∀ a b : Nat, a * 2 ^ drop < b * 2 ^ up → a * 2 ^ t * 2 ^ d < b * 2 ^ u := by
    intro a b h
    have h1 : a * 2 ^ drop * (2 ^ t * 2 ^ d) < b * 2 ^ up * (2 ^ t * 2 ^ d) := Nat.mul_lt_mul_of_pos_right h (Nat.mul_pos (Nat.two_pow_pos _) (Nat.two_pow_pos _))
    have e1 : b * 2 ^ up * (2 ^ t * 2 ^ d) = b * 2 ^ u * 2 ^ drop := by
      rw [Nat.mul_assoc, ← Nat.pow_add, ← Nat.pow_add, ← Nat.add_assoc, IL, Nat.pow_add, Nat.mul_assoc]
    have e2 : a * 2 ^ drop * (2 ^ t * 2 ^ d) = a * 2 ^ t * 2 ^ d * 2 ^ drop := by
      rw [Nat.mul_right_comm, ← Nat.mul_assoc]
    rw [e1, e2] at h1
    exact Nat.lt_of_mul_lt_mul_right h1
  have Ox : lo * 2 ^ drop ≤ ry * 2 ^ up := by rw [Nat.mul_comm]; omega
  have Oy : ry * 2 ^ up < (lo + 1) * 2 ^ drop := by
    rw [Nat.add_mul, Nat.one_mul, Nat.mul_comm lo]; omega
  refine ⟨t, _, lo, rfl, ?_, ?_, ?_, mv _ _ Ox, RV _ _ Oy⟩
  · rcases hc with h | ⟨h, gf⟩
    · exact .inl h
    · refine .inr ⟨h, RW _ _ ?_⟩
      rw [Nat.mul_comm lo]; omega
  · rcases Nat.eq_zero_or_pos t with h | h
    · exact .inl h
    · right
      have hx : L + up = 52 + drop := by omega
      have h1 : 2 ^ (52 + drop) ≤ ry * 2 ^ up := by
        rw [← hx, Nat.pow_add]; exact Nat.mul_le_mul_right _ Ou
      rw [← DJ]
      refine (Nat.le_div_iff_mul_le (Nat.two_pow_pos _)).2 ?_
      rw [Nat.pow_add] at h1
      exact h1
  · rw [← DJ]
    refine (Nat.div_lt_iff_lt_mul (Nat.two_pow_pos _)).2 ?_
    have h1 : ry * 2 ^ up < 2 ^ (L + 1 + up) := by
      rw [Nat.pow_add _ (L + 1)]; exact Nat.mul_lt_mul_of_pos_right Ov (Nat.two_pow_pos _)
    have h2 : 2 ^ (L + 1 + up) ≤ 2 ^ (53 + drop) := Nat.pow_le_pow_right (by decide) (by omega)
    rw [Nat.pow_add _ 53] at h2
    exact Nat.lt_of_lt_of_le h1 h2
theorem oM (neg : Bool) (ry : Nat) (place : Int) : ∃ R, R ≤ 9218868437227405312 ∧ Ieee.double.nearest neg ry place = Ieee.double.word neg R ∧
    (∀ r, r ≤ 9218868437227405312 → fv r * 2 ^ (-1074 - place).toNat ≤ ry * 2 ^ (place + 1074).toNat → r ≤ R) ∧ (∀ r, ry * 2 ^ (place + 1074).toNat ≤ fv r * 2 ^ (-1074 - place).toNat → R ≤ r) := by
  by_cases h0 : ry = 0
  · subst h0
    refine ⟨0, by omega, by unfold Ieee.Format.nearest; rw [if_pos rfl], fun r _ h => ?_, fun r _ => Nat.zero_le _⟩
    rw [Nat.zero_mul] at h
    have h1 : fv r = 0 := by
      rcases Nat.eq_zero_or_pos (fv r) with q | q
      · exact q
      · have := Nat.mul_pos q (Nat.two_pow_pos (-1074 - place).toNat); omega
    rw [← FP] at h1
    rw [IK h1]
    exact Nat.le_refl _
  · obtain ⟨t, kept, lo, e, hk, h1, h2, h3, h4⟩ := Ot neg ry place h0
    refine ⟨_, Nat.min_le_right _ _, e, fun r hr h => ?_, fun r h => ?_⟩
    · refine Nat.le_min.2 ⟨?_, hr⟩
      have vP : lo ≤ kept := by omega
      apply Classical.byContradiction
      intro hc
      have h5 : t * 4503599627370496 + (lo + 1) ≤ r := by omega
      have h6 := uV h5
      rw [sa (by omega) (by omega)] at h6
      have h7 := Nat.mul_le_mul_right (2 ^ (-1074 - place).toNat) h6
      omega
    · refine Nat.le_trans (Nat.min_le_left _ _) ?_
      apply Classical.byContradiction
      intro hc
      rcases hk with rfl | ⟨rfl, hs⟩
      · have h5 : r < t * 4503599627370496 + kept := by omega
        have h6 := uU h5
        rw [sa h1 (by omega)] at h6
        have h7 := Nat.mul_lt_mul_of_pos_right h6 (Nat.two_pow_pos (-1074 - place).toNat)
        omega
      · have h5 : r ≤ t * 4503599627370496 + lo := by omega
        have h6 := uV h5
        rw [sa h1 (by omega)] at h6
        have h7 := Nat.mul_le_mul_right (2 ^ (-1074 - place).toNat) h6
        omega
theorem tF (neg : Bool) {R : Nat} (h : R ≤ 9218868437227405312) : Ieee.double.word neg R % 9223372036854775808 = R ∧ (Ieee.double.word neg R / 9223372036854775808 % 2 == 1) = neg ∧ Ieee.double.word neg R < 18446744073709551616 := by
  have hw : Ieee.double.signWeight = 9223372036854775808 := by decide
  unfold Ieee.Format.word
  rw [hw]
  cases neg
  · simp only [Bool.false_eq_true, if_false]
    refine ⟨by omega, ?_, by omega⟩
    rw [show R / 9223372036854775808 = 0 from by omega]; rfl
  · simp only [if_true]
    refine ⟨by omega, ?_, by omega⟩
    rw [show (9223372036854775808 + R) / 9223372036854775808 = 1 from by omega]; rfl
theorem FQ (neg : Bool) {R : Nat} (h : R ≤ 9218868437227405312) : fz (Ieee.double.word neg R) = if neg = true then -(fv R : Int) else (fv R : Int) := by
  obtain ⟨h1, h2, _⟩ := tF neg h
  unfold fz
  rw [h1, h2]
theorem FR (neg : Bool) {R : Nat} (h : R ≤ 9218868437227405312) : NN (Ieee.double.word neg R) := by
  unfold NN; rw [(tF neg h).1]; exact h
end Go.Sx
namespace Go.Sx
set_option linter.unusedVariables false
set_option linter.unusedSimpArgs false
def Fp (x : Nat) : Prop := x ≤ 9218868437227405312
theorem Fp.mod {x : Nat} (h : Fp x) : x % 9223372036854775808 = x := Nat.mod_eq_of_lt (by unfold Fp at h; omega)
theorem Fp.Oz {x : Nat} (h : Fp x) : (x / 9223372036854775808 % 2 == 1) = false := by
  unfold Fp at h
  rw [show x / 9223372036854775808 = 0 from by omega]; rfl
theorem Fp.nn {x : Nat} (h : Fp x) : NN x := by unfold NN; rw [h.mod]; exact h
theorem Fp.fz {x : Nat} (h : Fp x) : fz x = (fv x : Int) := by
  unfold Sx.fz
  rw [h.mod, h.Oz]; rfl
theorem wW {op : BinOp} {x y : Nat} : (op = .add → ic op x y = (Ieee.double.add x y).getD vK) ∧ (op = .sub → ic op x y = (Ieee.double.sub x y).getD vK) ∧ (op = .mul → ic op x y = (Ieee.double.mul x y).getD vK) ∧ (op = .quo → ic op x y = (Ieee.double.div x y).getD vK) := by
  refine ⟨?_, ?_, ?_, ?_⟩ <;> rintro rfl <;> rfl
structure Jt (z : Int) (w : Nat) : Prop where
  ok : ∃ neg R, w = Ieee.double.word neg R ∧ R ≤ 9218868437227405312 ∧ (z < 0 → neg = true) ∧ (0 < z → neg = false) ∧ (∀ r, r ≤ 9218868437227405312 → fv r ≤ z.natAbs → r ≤ R) ∧ (∀ r, z.natAbs ≤ fv r → R ≤ r)
theorem Jt.nn {z : Int} {w : Nat} (h : Jt z w) : NN w := by
  obtain ⟨neg, R, rfl, h1, _⟩ := h.ok
  exact FR neg h1
theorem Jt.ge {z : Int} {w y : Nat} (h : Jt z w) (hy : NN y) (hz : fz y ≤ z) : fz y ≤ fz w := by
  obtain ⟨neg, R, rfl, h1, h2, h3, h4, h5⟩ := h.ok
  rw [FQ neg h1]
  have e : fz y = if (y / 9223372036854775808 % 2 == 1) = true then -(fv (y % 9223372036854775808) : Int) else (fv (y % 9223372036854775808) : Int) := rfl
  cases hs : (y / 9223372036854775808 % 2 == 1) with
  | false =>
    rw [hs] at e
    simp only [Bool.false_eq_true, if_false] at e
    rcases Int.lt_or_le 0 z with h6 | h6
    · rw [h3 h6]
      simp only [Bool.false_eq_true, if_false]
      have := h4 _ hy (by omega)
      have := uV this
      omega
    · have OA : z = 0 := by omega
      have h7 := h5 0 (by rw [OA]; exact Nat.zero_le _)
      obtain rfl : R = 0 := by omega
      rw [FP]
      split <;> omega
  | true =>
    rw [hs] at e
    simp only [if_true] at e
    rcases Int.lt_or_le z 0 with h6 | h6
    · rw [h2 h6]
      simp only [if_true]
      have := h5 _ (show z.natAbs ≤ fv (y % 9223372036854775808) by omega)
      have := uV this
      omega
    · rcases Int.lt_or_le 0 z with h7 | h7
      · rw [h3 h7]
        simp only [Bool.false_eq_true, if_false]
        omega
      · have OA : z = 0 := by omega
        have h8 := h5 0 (by rw [OA]; exact Nat.zero_le _)
        obtain rfl : R = 0 := by omega
        rw [FP]
        split <;> omega
theorem Dx (s : Bool) (total : Int) (base : Int) (hb : -1074 ≤ base) (z : Int) (hz : total * (2 ^ (base + 1074).toNat : Nat) = z) :
    Jt z (Ieee.double.nearest (if total = 0 then s else decide (total < 0)) total.natAbs base) := by
  obtain ⟨R, h1, h2, h3, h4⟩ := oM (if total = 0 then s else decide (total < 0)) total.natAbs base
  rw [show (-1074 - base).toNat = 0 from by omega, Nat.pow_zero] at h3 h4
  have hp := Nat.two_pow_pos (base + 1074).toNat
  have OB : total.natAbs * 2 ^ (base + 1074).toNat = z.natAbs := by
    rw [← hz, Int.natAbs_mul]; rfl
  rw [OB] at h3 h4
  have Lp : (0 : Int) < ((2 ^ (base + 1074).toNat : Nat) : Int) := by omega
  refine ⟨_, R, h2, h1, fun eN => ?_, fun S_ => ?_, fun r hr h => h3 r hr (by omega), fun r h => h4 r (by omega)⟩
  · have h5 : total < 0 := by
      apply Classical.byContradiction
      intro hc
      have := Int.mul_nonneg (show 0 ≤ total by omega) (Int.le_of_lt Lp)
      omega
    rw [if_neg (by omega), decide_eq_true h5]
  · have h5 : 0 < total := by
      apply Classical.byContradiction
      intro hc
      have := Int.mul_nonneg (show 0 ≤ -total by omega) (Int.le_of_lt Lp)
      rw [Int.neg_mul] at this
      omega
    rw [if_neg (by omega), decide_eq_false (by omega)]
theorem zq (s : Bool) (m k : Nat) : Ieee.signed (!s) m k = -Ieee.signed s m k := by
  unfold Ieee.signed
  cases s <;> simp
theorem An {x y : Nat} (hx : Du x) (hy : Du y) : Jt (fz x - fz y) (ic .sub x y) := by
  obtain ⟨m, p, h1, h2, h3⟩ := ni hx
  obtain ⟨n, q, g1, g2, g3⟩ := ni hy
  rw [(wW (op := .sub)).2.1 rfl]
  unfold Ieee.Format.sub
  rw [h1, g1]
  simp only [Ieee.Datum.opposite, Ieee.Datum.sum, Option.map_some, Option.getD_some]
  refine Dx _ _ (min p q) (by omega) _ ?_
  rw [Int.add_mul, h3 _ (by omega) (by omega), zq, Int.neg_mul, g3 _ (by omega) (by omega)]
  omega
theorem tG {x : Nat} (h : Fp x) : (∃ m p, Ieee.double.read x = .number false m p ∧ (-1074 : Int) ≤ p ∧ m * 2 ^ (p + 1074).toNat = fv x ∧ x < 9218868437227405312) ∨ (Ieee.double.read x = .infinity false ∧ x = 9218868437227405312) := by
  rcases Nat.lt_or_ge x 9218868437227405312 with h1 | h1
  · obtain ⟨m, p, h2, h3, h4⟩ := ow (b := x) (by rw [h.mod]; exact h1)
    rw [h.Oz] at h2; rw [h.mod] at h4
    exact .inl ⟨m, p, h2, h3, h4, h1⟩
  · have e : x = 9218868437227405312 := Nat.le_antisymm h h1
    have := mG (b := x) (by rw [h.mod]; exact e)
    rw [h.Oz] at this
    exact .inr ⟨this, e⟩
theorem tH (ry : Nat) (place : Int) : Fp (Ieee.double.nearest false ry place) := by
  obtain ⟨R, h1, h2, _⟩ := oM false ry place
  rw [h2]; exact h1
theorem Dy : Ieee.double.word false Ieee.double.infRung = 9218868437227405312 := by decide
theorem tI (m k : Nat) : 0 ≤ Ieee.signed false m k := by
  unfold Ieee.signed
  rw [if_neg (by decide)]
  exact Int.natCast_nonneg _
theorem qz : Fp (Ieee.double.write (.infinity false)) := by
  show Fp (Ieee.double.word false Ieee.double.infRung)
  rw [Dy]; exact Nat.le_refl _
theorem FT {t : Int} (h : 0 ≤ t) (p : Int) : Fp (Ieee.double.write (.number (if t = 0 then (false && false) else decide (t < 0)) t.natAbs p)) := by
  have : (if t = 0 then (false && false) else decide (t < 0)) = false := by
    by_cases h0 : t = 0
    · rw [if_pos h0]; rfl
    · rw [if_neg h0]; exact decide_eq_false (by omega)
  rw [this]
  exact tH _ _
theorem getD_map (d : Ieee.Datum) : ((some d).map Ieee.double.write).getD vK = Ieee.double.write d := rfl
theorem Fp.add {x y : Nat} (hx : Fp x) (hy : Fp y) : Fp (ic .add x y) := by
  rw [(wW (op := .add)).1 rfl]
  unfold Ieee.Format.add
  rcases tG hx with ⟨m, p, h1, _⟩ | ⟨h1, _⟩
  · rcases tG hy with ⟨n, q, g1, _⟩ | ⟨g1, _⟩
    · rw [h1, g1, Ieee.Datum.sum, getD_map]
      exact FT (Int.add_nonneg (tI _ _) (tI _ _)) _
    · rw [h1, g1, Ieee.Datum.sum, getD_map]; exact qz
  · rcases tG hy with ⟨n, q, g1, _⟩ | ⟨g1, _⟩
    · rw [h1, g1, Ieee.Datum.sum, getD_map]; exact qz
    · rw [h1, g1, Ieee.Datum.sum, if_pos rfl, getD_map]; exact qz
theorem OC : fz 0 = 0 := by decide
theorem OD : NN 0 := by decide
end Go.Sx
namespace Go.Sx
open Go.RowKit
set_option linter.unusedVariables false
set_option linter.unusedSimpArgs false
theorem uX (s : Bool) (m : Nat) (p : Int) : Ieee.double.write (.number s m p) = Ieee.double.nearest s m p := rfl
theorem jW (v : Nat) (h : v < 9007199254740992) (u0 : Nat) (Ao : u0 = 1074) : cq (v : Int) < 9218868437227405312 ∧ fv (cq (v : Int)) = v * 2 ^ u0 := by
  rw [zL, uX, decide_eq_false (by omega), show ((v : Int)).natAbs = v from rfl]
  obtain ⟨R, h1, h2, h3, h4⟩ := oM false v 0
  rw [show (-1074 - (0 : Int)).toNat = 0 from rfl, show ((0 : Int) + 1074).toNat = u0 from Ao.symm, Nat.pow_zero] at h3 h4
  have key : ∃ r, r < 9218868437227405312 ∧ fv r = v * 2 ^ u0 := by
    rcases Nat.eq_zero_or_pos v with h0 | h0
    · subst h0; exact ⟨0, by omega, FP.trans (Nat.zero_mul _).symm⟩
    · have Ou : 2 ^ v.log2 ≤ v := Nat.log2_self_le (by omega)
      have Ov : v < 2 ^ (v.log2 + 1) := Nat.lt_log2_self
      have Ta : v.log2 ≤ 52 := by
        apply Classical.byContradiction
        intro hc
        have := Nat.pow_le_pow_right (show 0 < 2 by decide) (show 53 ≤ v.log2 by omega)
        omega
      generalize v.log2 = L at *
      have PT : 2 ^ L * 2 ^ (52 - L) = 4503599627370496 := by rw [← Nat.pow_add, show L + (52 - L) = 52 from by omega]
      have k1 : 4503599627370496 ≤ v * 2 ^ (52 - L) := by rw [← PT]; exact Nat.mul_le_mul_right _ Ou
      have k2 : v * 2 ^ (52 - L) < 9007199254740992 := by
        have := Nat.mul_lt_mul_of_pos_right Ov (Nat.two_pow_pos (52 - L))
        rw [Nat.pow_succ, Nat.mul_right_comm, PT] at this
        exact this
      refine ⟨(1022 + L) * 4503599627370496 + v * 2 ^ (52 - L), by omega, ?_⟩
      rw [sa (.inr k1) (by omega), Nat.mul_assoc, ← Nat.pow_add, show 52 - L + (1022 + L) = u0 from by omega]
  obtain ⟨r, CA, DT⟩ := key
  have e : R = r := Nat.le_antisymm (h4 r (by omega)) (h3 r (by omega) (by omega))
  rw [h2]
  show R < _ ∧ fv R = _
  rw [e]
  exact ⟨CA, DT⟩
theorem IM : Fp 4607182418800017408 := by unfold Fp; omega
end Go.Sx
namespace Go.Sx
open Go.RowKit
set_option linter.unusedVariables false
set_option linter.unusedSimpArgs false
theorem zr {m k : Nat} (h : 0 < m * 2 ^ k) : m ≠ 0 := fun e => by subst e; omega
theorem IN {m n : Nat} (hm : m ≠ 0) : n < m <<< (52 + 2 + n.log2 - m.log2) := by
  rw [Nat.shiftLeft_eq]
  have h1 := Nat.log2_self_le hm
  have h2 : n < 2 ^ (n.log2 + 1) := Nat.lt_log2_self
  have h3 : 2 ^ (n.log2 + 1) ≤ 2 ^ (m.log2 + (52 + 2 + n.log2 - m.log2)) := Nat.pow_le_pow_right (by decide) (by omega)
  have h4 : 2 ^ (m.log2 + (52 + 2 + n.log2 - m.log2)) = 2 ^ m.log2 * 2 ^ (52 + 2 + n.log2 - m.log2) := Nat.pow_add _ _ _
  have h5 := Nat.mul_le_mul_right (2 ^ (52 + 2 + n.log2 - m.log2)) h1
  omega
theorem IP {D n Q : Nat} (hn : 0 < n) (h : D ≤ n * Q) : 2 * (D / n) + (D % n != 0).toNat ≤ 2 * Q := by
  have h1 := Nat.div_add_mod D n
  have h2 := Nat.mod_lt D hn
  by_cases h0 : D % n = 0
  · rw [h0]
    have : D / n ≤ Q := Nat.div_le_of_le_mul h
    simp; omega
  · have h3 : D / n < Q := by
      apply Classical.byContradiction
      intro hc
      have h4 : n * Q ≤ n * (D / n) := Nat.mul_le_mul_left n (by omega)
      omega
    have : (D % n != 0).toNat ≤ 1 := Bool.toNat_le _
    omega
theorem tJ {x y : Nat} (hx : Fp x) (hy : Fp y) (JW : y < 9218868437227405312) (h0 : 0 < fv y) : Fp (ic .quo x y) ∧
    (x < 9218868437227405312 → ∀ (w u0 r : Nat), u0 = 1074 → r ≤ 9218868437227405312 → fv r = 2 ^ w → fv x * 2 ^ u0 ≤ 2 ^ w * fv y → ic .quo x y ≤ r) := by
  rw [(wW (op := .quo)).2.2.2 rfl]
  unfold Ieee.Format.div
  rcases tG hy with ⟨n, j, g1, g2, g3, _⟩ | ⟨_, g3⟩
  case inr => omega
  have hn : n ≠ 0 := zr (g3 ▸ h0)
  rcases tG hx with ⟨m, i, f1, f2, f3, _⟩ | ⟨f1, f3⟩
  case inr =>
    rw [f1, g1, Ieee.Datum.quotient, getD_map]
    exact ⟨qz, fun h => by omega⟩
  rw [f1, g1, Ieee.Datum.quotient, if_neg hn]
  dsimp only
  rw [getD_map, uX, show (false ^^ false) = false from rfl, show Ieee.double.fractionBits = 52 from rfl]
  refine ⟨tH _ _, fun _ w u0 r Ao hr hw hle => ?_⟩
  rw [← f3, ← g3] at hle
  generalize KS : 52 + 2 + n.log2 - m.log2 = more
  obtain ⟨R, q1, q2, q3, q4⟩ := oM false (2 * (m <<< more / n) + (m <<< more % n != 0).toNat) (i - j - (more : Int) - 1)
  rw [q2]
  show R ≤ _
  refine q4 _ ?_
  rw [hw]
  generalize hu : (i - j - (more : Int) - 1 + 1074).toNat = u
  generalize hd : (-1074 - (i - j - (more : Int) - 1)).toNat = d
  generalize ha : (i + 1074).toNat = a at hle
  generalize hb : (j + 1074).toNat = b at hle
  have hs : u + b + more + 1 = d + a + u0 := by omega
  by_cases hm : m = 0
  · subst hm; simp
  have hD : n < m <<< more := by rw [← KS]; exact IN hm
  generalize RX : m <<< more = D at hD ⊢
  have RY : D = m * 2 ^ more := by rw [← RX, Nat.shiftLeft_eq]
  have key : D * 2 ^ (a + u0) ≤ n * 2 ^ (w + b + more) := by
    have h1 := Nat.mul_le_mul_right (2 ^ more) hle
    have e1 : m * 2 ^ a * 2 ^ u0 * 2 ^ more = D * 2 ^ (a + u0) := by
      rw [RY, Nat.pow_add]; simp only [Nat.mul_assoc, Nat.mul_comm, Nat.mul_left_comm]
    have e2 : 2 ^ w * (n * 2 ^ b) * 2 ^ more = n * 2 ^ (w + b + more) := by
      rw [Nat.pow_add, Nat.pow_add]; simp only [Nat.mul_assoc, Nat.mul_comm, Nat.mul_left_comm]
    rw [e1, e2] at h1
    exact h1
  have Tb : a + u0 ≤ w + b + more := by
    apply Classical.byContradiction
    intro hc
    have h1 : 2 ^ (w + b + more) ≤ 2 ^ (a + u0) := Nat.pow_le_pow_right (by decide) (by omega)
    have h2 := Nat.mul_le_mul_left n h1
    have h3 : n * 2 ^ (a + u0) < D * 2 ^ (a + u0) := Nat.mul_lt_mul_of_pos_right hD (Nat.two_pow_pos _)
    omega
  have hQ : D ≤ n * 2 ^ (w + b + more - (a + u0)) := by
    refine Nat.le_of_mul_le_mul_right (c := 2 ^ (a + u0)) ?_ (Nat.two_pow_pos _)
    rw [Nat.mul_assoc, ← Nat.pow_add, show w + b + more - (a + u0) + (a + u0) = w + b + more by omega]
    exact key
  have vB := IP (by omega) hQ
  refine Nat.le_trans (Nat.mul_le_mul_right _ vB) ?_
  rw [Nat.mul_assoc, ← Nat.pow_add, ← Nat.pow_add, ← Nat.pow_succ']
  exact Nat.pow_le_pow_right (by decide) (by omega)
theorem Gp {x : Nat} (h : NN x) : Fp (ic .mul x x) := by
  rw [(wW (op := .mul)).2.2.1 rfl]
  unfold Ieee.Format.mul
  rcases Nat.lt_or_ge (x % 9223372036854775808) 9218868437227405312 with h1 | h1
  · obtain ⟨m, p, h2, _⟩ := ow h1
    rw [h2]
    simp only [Ieee.Datum.product, Option.map_some, Option.getD_some, Ieee.Format.write, Bool.xor_self]
    exact tH _ _
  · have h2 := mG (b := x) (Nat.le_antisymm h h1)
    rw [h2]
    simp only [Ieee.Datum.product, Bool.xor_self]
    rw [getD_map]
    exact qz
theorem FU {x : Nat} (h : Fp x) : iz .geq x 0 = true := by
  rw [(wV h.nn OD).2.2.2.1, OC, h.fz]
  exact decide_eq_true (Int.natCast_nonneg _)
theorem Bs {x : Nat} (h : NN x) : iz .eql x x = true := by
  rw [(wV h h).2.2.2.2.1]
  exact decide_eq_true rfl
theorem jG (v : Nat) (h : v < 9007199254740992) : Fp (cq (v : Int)) ∧ cq (v : Int) < 9218868437227405312 := by
  obtain ⟨u0, Ao⟩ : ∃ u0 : Nat, u0 = 1074 := ⟨_, rfl⟩
  have := jW v h u0 Ao
  exact ⟨Nat.le_of_lt this.1, this.1⟩
theorem tK (v : Nat) (h : v < 9007199254740992) (h0 : 0 < v) : 0 < fv (cq (v : Int)) := by
  obtain ⟨u0, Ao⟩ : ∃ u0 : Nat, u0 = 1074 := ⟨_, rfl⟩
  rw [(jW v h u0 Ao).2]
  exact Nat.mul_pos h0 (Nat.two_pow_pos _)
theorem zt {x : Nat} (h : x < 9218868437227405312) : Du x := by unfold Du; rw [Nat.mod_eq_of_lt (by omega)]; exact h
theorem Dz (b t : Nat) (ht : t < 9007199254740992) (h0 : 0 < t) (h : 2 * b ≤ t) : ic .quo (cq (b : Int)) (cq (t : Int)) ≤ 4602678819172646912 := by
  obtain ⟨u0, Ao⟩ : ∃ u0 : Nat, u0 = 1074 := ⟨_, rfl⟩
  obtain ⟨w, hw⟩ : ∃ w : Nat, w + 1 = u0 := ⟨1073, by omega⟩
  obtain ⟨t0, PU⟩ : ∃ t0 : Nat, t0 = 1021 := ⟨_, rfl⟩
  have hb : b < 9007199254740992 := by omega
  refine (tJ (jG b hb).1 (jG t ht).1 (jG t ht).2 (tK t ht h0)).2 (jG b hb).2 w u0 _ Ao (by decide) ?_ ?_
  · have h1 := sa (t := t0) (k := 4503599627370496) (.inr (Nat.le_refl _)) (by decide)
    rw [show t0 * 4503599627370496 + 4503599627370496 = 4602678819172646912 by omega] at h1
    rw [h1, show (4503599627370496 : Nat) = 2 ^ 52 from rfl, ← Nat.pow_add, show 52 + t0 = w by omega]
  · rw [(jW b hb u0 Ao).2, (jW t ht u0 Ao).2, ← hw, Nat.pow_succ]
    generalize 2 ^ w = z
    calc b * (z * 2) * (z * 2) = (2 * b) * (z * (z * 2)) := by simp only [Nat.mul_assoc, Nat.mul_comm, Nat.mul_left_comm]
      _ ≤ t * (z * (z * 2)) := Nat.mul_le_mul_right _ h
      _ = z * (t * (z * 2)) := by simp only [Nat.mul_assoc, Nat.mul_comm, Nat.mul_left_comm]
theorem DA (b c : Nat) (hb : b < 1099511627776) (hc : c < 9007199254740992) (h0 : 0 < c) : ic .quo (cq (b : Int)) (cq (c : Int)) ≤ 4787326403894837248 := by
  obtain ⟨u0, Ao⟩ : ∃ u0 : Nat, u0 = 1074 := ⟨_, rfl⟩
  obtain ⟨w, hw⟩ : ∃ w : Nat, w = u0 + 40 := ⟨_, rfl⟩
  obtain ⟨t0, PU⟩ : ∃ t0 : Nat, t0 = 1062 := ⟨_, rfl⟩
  have Ef : b < 9007199254740992 := by omega
  refine (tJ (jG b Ef).1 (jG c hc).1 (jG c hc).2 (tK c hc h0)).2 (jG b Ef).2 w u0 _ Ao (by decide) ?_ ?_
  · have h1 := sa (t := t0) (k := 4503599627370496) (.inr (Nat.le_refl _)) (by decide)
    rw [show t0 * 4503599627370496 + 4503599627370496 = 4787326403894837248 by omega] at h1
    rw [h1, show (4503599627370496 : Nat) = 2 ^ 52 from rfl, ← Nat.pow_add, show 52 + t0 = w by omega]
  · rw [(jW b Ef u0 Ao).2, (jW c hc u0 Ao).2, hw, Nat.pow_add]
    generalize 2 ^ u0 = z
    calc b * z * z = b * (z * z) := by simp only [Nat.mul_assoc]
      _ ≤ (2 ^ 40 * c) * (z * z) := Nat.mul_le_mul_right _ (by omega)
      _ = z * 2 ^ 40 * (c * z) := by simp only [Nat.mul_assoc, Nat.mul_comm, Nat.mul_left_comm]
theorem Bt {q : Nat} (h : q ≤ 4602678819172646912) : NN (ic .sub 4607182418800017408 q) ∧ iz .geq (ic .sub 4607182418800017408 q) 4602678819172646912 = true := by
  obtain ⟨t0, PU⟩ : ∃ t0 : Nat, t0 = 1021 := ⟨_, rfl⟩
  have hq : Fp q := Nat.le_trans h (by decide)
  have h5 : Fp 4602678819172646912 := by unfold Fp; omega
  have hr := An (x := 4607182418800017408) (y := q) (by unfold Du; omega) (zt (by omega))
  have f1 := sa (t := t0) (k := 4503599627370496) (.inr (Nat.le_refl _)) (by decide)
  rw [show t0 * 4503599627370496 + 4503599627370496 = 4602678819172646912 by omega] at f1
  have f2 := sa (t := t0 + 1) (k := 4503599627370496) (.inr (Nat.le_refl _)) (by decide)
  rw [show (t0 + 1) * 4503599627370496 + 4503599627370496 = 4607182418800017408 by omega, Nat.pow_succ] at f2
  have h6 := uV h
  refine ⟨hr.nn, ?_⟩
  rw [(wV hr.nn h5.nn).2.2.2.1]
  refine decide_eq_true (hr.ge h5.nn ?_)
  rw [IM.fz, hq.fz, h5.fz, f2, f1]
  rw [f1] at h6
  generalize 2 ^ t0 = z at *
  omega
end Go.Sx
namespace Go.Sx
open Go.RowKit
set_option linter.unusedVariables false
set_option linter.unusedSimpArgs false
section
variable {δ : Type}
theorem l_ (k : Ky) (v : δ) : ∀ m : Mp δ, aO (bq m k v) k = some v
  | [] => by simp [bq, aO]
  | p :: r => by
    unfold bq
    by_cases h1 : k = p.1
    · rw [if_pos h1]; simp [aO]
    · rw [if_neg h1]
      by_cases h2 : k < p.1
      · rw [if_pos h2]; simp [aO]
      · rw [if_neg h2, aO, if_neg (fun e => h1 e.symm), l_ k v r]
theorem k6 (k k' : Ky) (v : δ) (m : Mp δ) : aO (bq m k v) k' = if k = k' then some v else aO m k' := by
  by_cases h : k = k'
  · rw [if_pos h, ← h, l_]
  · rw [if_neg h, l5 h]
theorem FV (k : Ky) (v : δ) : ∀ m : Mp δ, bq m k v ≠ []
  | [] => by simp [bq]
  | p :: r => by
    unfold bq
    split
    · simp
    · split <;> simp
theorem qA (k : Ky) (v : δ) : ∀ m : Mp δ, (bq m k v).length ≤ m.length + 1
  | [] => by simp [bq]
  | p :: r => by
    unfold bq
    split
    · simp
    · split
      · simp
      · have := qA k v r
        simp only [List.length_cons]; omega
theorem yd {k : Ky} {v : δ} {q : Ky × δ} : ∀ {m : Mp δ}, q ∈ bq m k v → q = (k, v) ∨ q ∈ m
  | [], h => .inl (by simpa [bq] using h)
  | p :: r, h => by
    unfold bq at h
    split at h
    · rcases List.mem_cons.1 h with h | h
      · exact .inl h
      · exact .inr (List.mem_cons_of_mem _ h)
    · split at h
      · rcases List.mem_cons.1 h with h | h
        · exact .inl h
        · exact .inr h
      · rcases List.mem_cons.1 h with h | h
        · exact .inr (h ▸ List.mem_cons_self)
        · rcases yd h with h | h
          · exact .inl h
          · exact .inr (List.mem_cons_of_mem _ h)
theorem ye (g : Ky × δ → Nat) (k : Ky) (v : δ) : ∀ m : Mp δ, ((bq m k v).map g).sum ≤ (m.map g).sum + g (k, v)
  | [] => by simp [bq]
  | p :: r => by
    unfold bq
    split
    · simp only [List.map_cons, List.sum_cons]; omega
    · split
      · simp only [List.map_cons, List.sum_cons]; omega
      · have := ye g k v r
        simp only [List.map_cons, List.sum_cons]; omega
theorem uY (g : Ky × δ → Int) (k : Ky) (v : δ) : ∀ m : Mp δ, aO m k = none → ((bq m k v).map g).sum = (m.map g).sum + g (k, v)
  | [], _ => by simp [bq]
  | p :: r, h => by
    unfold aO at h
    by_cases h1 : p.1 = k
    · rw [if_pos h1] at h; cases h
    rw [if_neg h1] at h
    unfold bq
    rw [if_neg (fun e => h1 e.symm)]
    split
    · simp only [List.map_cons, List.sum_cons]; omega
    · have := uY g k v r h
      simp only [List.map_cons, List.sum_cons]; omega
theorem uZ (m : Mp (List UInt8)) (k : Ky) : ∀ C : Ch, (m.map (·.1)).Nodup → aO (qy C m) k = (aO m k).or (aO C k) := by
  induction m with
  | nil => intro C _; rfl
  | cons p r ih =>
    intro C hn
    rw [List.map_cons, List.nodup_cons] at hn
    show aO (qy (bq C p.1 p.2) r) k = _
    rw [ih _ hn.2, k6]
    rw [aO]
    by_cases h : p.1 = k
    · rw [if_pos h, if_pos h, pq.2 (h ▸ hn.1)]; rfl
    · rw [if_neg h, if_neg h]
theorem yf (m : Ch) : ∀ C : Ch, kX C → kX (qy C m) := by
  induction m with
  | nil => intro C h; exact h
  | cons p r ih => intro C h; exact ih _ (h.bq _ _)
end
def di (C : Ch) : Nat := (C.map (fun p => p.2.length)).sum
structure RZ (sz : Nat) (cs : List (List UInt8)) (m m' : Ch) : Prop where
  qN : kX m → kX m'
  has : ∀ c ∈ cs, aO m' (oL sz c) = some c
  mono : ∀ k v, aO m k = some v → aO m' k = some v
  sum : di m' ≤ di m + cs.flatten.length
  mem : ∀ p ∈ m', p ∈ m ∨ p.2 ∈ cs
  ne : (cs ≠ [] ∨ m ≠ []) → m' ≠ []
theorem yg {sz : Nat} {s : Ch × List UInt8} {c : List UInt8} {s' : Ch × List UInt8} {C : Ch} (h : pJ sz C s c = .inl s') : s' = (bq s.1 (oL sz c) c, s.2 ++ oL sz c) ∧ ∀ o, aO C (oL sz c) = none → aO s.1 (oL sz c) = some o → o = c := by
  unfold pJ at h
  cases hC : aO C (oL sz c) with
  | some o =>
    rw [hC] at h
    simp only [Option.some_or] at h
    by_cases ho : o ≠ c
    · rw [if_pos ho] at h; cases h
    · rw [if_neg ho] at h
      exact ⟨(Sum.inl.inj h).symm, fun _ e => by cases e⟩
  | none =>
    rw [hC] at h
    simp only [Option.none_or] at h
    cases hm : aO s.1 (oL sz c) with
    | none =>
      rw [hm] at h
      exact ⟨(Sum.inl.inj h).symm, fun _ _ e => by cases e⟩
    | some o =>
      rw [hm] at h
      simp only [] at h
      by_cases ho : o ≠ c
      · rw [if_pos ho] at h; cases h
      · rw [if_neg ho] at h
        exact ⟨(Sum.inl.inj h).symm, fun o' _ e => by cases e; exact Classical.not_not.1 ho⟩
theorem Ap {sz : Nat} : ∀ (cs : List (List UInt8)) (m : Ch) (e : List UInt8) (r : Ch × List UInt8), jN (pJ sz []) some cs (m, e) = some r → RZ sz cs m r.1
  | [], m, e, r, h => by
    cases h
    exact ⟨fun h => h, fun c hc => (by cases hc), fun _ _ h => h, by simp, fun p hp => .inl hp, fun h => h.elim (fun q => absurd rfl q) id⟩
  | c :: cs, m, e, r, h => by
    unfold jN at h
    cases hs : pJ sz [] (m, e) c with
    | inr q => rw [hs] at h; simp only [] at h; subst h; unfold pJ at hs; exfalso; revert hs; split
               · split
                 · intro hs; cases hs
                 · intro hs; cases hs
               · intro hs; cases hs
    | inl s' =>
      rw [hs] at h
      obtain ⟨rfl, h2⟩ := yg hs
      have ih := Ap cs _ _ r h
      refine ⟨fun hm => ih.qN (hm.bq _ _), fun x hx => ?_, fun k v hk => ?_, ?_, fun p hp => ?_, fun _ => ih.ne (.inr (FV _ _ _))⟩
      · rcases List.mem_cons.1 hx with rfl | hx
        · exact ih.mono _ _ (l_ _ _ _)
        · exact ih.has x hx
      · refine ih.mono k v ?_
        rw [k6]
        by_cases OE : oL sz c = k
        · rw [if_pos OE]
          subst OE
          rw [h2 v rfl hk]
        · rw [if_neg OE]; exact hk
      · have h3 : di r.1 ≤ di (bq m (oL sz c) c) + cs.flatten.length := ih.sum
        have h4 : di (bq m (oL sz c) c) ≤ di m + c.length := ye (fun p : Ky × List UInt8 => p.2.length) (oL sz c) c m
        rw [List.flatten_cons, List.length_append]
        omega
      · rcases ih.mem p hp with h3 | h3
        · rcases yd h3 with rfl | h3
          · exact .inr List.mem_cons_self
          · exact .inl h3
        · exact .inr (List.mem_cons_of_mem _ h3)
theorem u4 {sz : Nat} (C : Ch) : ∀ (cs : List (List UInt8)) (m : Ch) (e : List UInt8) (r : Ch × List UInt8), jN (pJ sz []) some cs (m, e) = some r → (∀ c ∈ cs, aO C (oL sz c) = some c) → jN (pJ sz C) some cs (m, e) = some r
  | [], _, _, _, h, _ => h
  | c :: cs, m, e, r, h, hC => by
    unfold jN at h ⊢
    cases hs : pJ sz [] (m, e) c with
    | inr q => rw [hs] at h; simp only [] at h; subst h; unfold pJ at hs; exfalso; revert hs; split
               · split
                 · intro hs; cases hs
                 · intro hs; cases hs
               · intro hs; cases hs
    | inl s' =>
      rw [hs] at h
      obtain ⟨rfl, h2⟩ := yg hs
      have MQ : pJ sz C (m, e) c = .inl (bq m (oL sz c) c, e ++ oL sz c) := by
        unfold pJ
        rw [hC c List.mem_cons_self]
        simp
      rw [MQ]
      exact u4 C cs _ _ r h (fun x hx => hC x (List.mem_cons_of_mem _ hx))
def rQ (m : uT) : Int := (m.map (fun p => p.2.1)).sum
structure Kept (sz : Nat) (l : List Fi) (m : Ch) (md : uT) (r : Ch × uT) : Prop where
  qN : kX m → kX r.1
  KT : kX md → kX r.2
  has : ∀ f ∈ l, ∀ c ∈ cut f.2 [] 0, aO r.1 (oL sz c) = some c
  mono : ∀ k v, aO m k = some v → aO r.1 k = some v
  sum : di r.1 ≤ di m + (l.map (fun f => f.2.length)).sum
  mem : ∀ p ∈ r.1, p ∈ m ∨ 1 ≤ p.2.length
  ne : ((l.map (fun f => f.2.length)).sum ≠ 0 ∨ m ≠ []) → r.1 ≠ []
  PV : (l.map (·.1)).Nodup → (∀ f ∈ l, aO md f.1 = none) → rQ r.2 = rQ md + ((l.map (fun f => f.2.length)).sum : Nat)
  len : r.2.length ≤ md.length + l.length
theorem yh {sz : Nat} : ∀ (l : List Fi) (m : Ch) (md : uT) (r : Ch × uT), jN (tD sz []) some l (m, md) = some r → Kept sz l m md r
  | [], m, md, r, h => by
    cases h
    exact ⟨fun h => h, fun h => h, fun f hf => (by cases hf), fun _ _ h => h, by simp, fun p hp => .inl hp, fun h => h.elim (fun q => absurd rfl q) id, fun _ _ => by simp, by simp⟩
  | f :: l, m, md, r, h => by
    unfold jN tD at h
    unfold Bq at h
    cases he : jN (pJ sz []) some (cut f.2 [] 0) (m, []) with
    | none => rw [he] at h; cases h
    | some q =>
      rw [he] at h
      have ih : Kept sz l q.1 (bq md f.1 ((f.2.length : Int), q.2)) r := yh l _ _ r h
      have hE := Ap _ _ _ _ he
      have zC := Ac f.2
      refine ⟨fun hm => ih.qN (hE.qN hm), fun hm => ih.KT (hm.bq _ _), fun g hg c hc => ?_, fun k v hk => ih.mono k v (hE.mono k v hk), ?_, fun p hp => ?_, fun gf => ?_, fun tW Gq => ?_, ?_⟩
      · rcases List.mem_cons.1 hg with rfl | hg
        · exact ih.mono _ _ (hE.has c hc)
        · exact ih.has g hg c hc
      · have h3 := ih.sum
        have h4 := hE.sum
        rw [zC] at h4
        rw [List.map_cons, List.sum_cons]
        omega
      · rcases ih.mem p hp with h3 | h3
        · rcases hE.mem p h3 with h3 | h3
          · exact .inl h3
          · exact .inr (lI f.2 [] 0 (by simp) _ h3).1
        · exact .inr h3
      · refine ih.ne ?_
        rw [List.map_cons, List.sum_cons] at gf
        by_cases h0 : (l.map (fun f => f.2.length)).sum ≠ 0
        · exact .inl h0
        · refine .inr (hE.ne ?_)
          rcases gf with h5 | h5
          · left
            intro e0
            rw [e0] at zC
            rw [← zC] at h5
            simp at h5 h0
            omega
          · exact .inr h5
      · rw [List.map_cons, List.nodup_cons] at tW
        have h3 := ih.PV tW.2 (fun g hg => by
          rw [k6, if_neg (fun e : f.1 = g.1 => tW.1 (e ▸ List.mem_map_of_mem hg))]
          exact Gq g (List.mem_cons_of_mem _ hg))
        have h4 : rQ (bq md f.1 ((f.2.length : Int), q.2)) = rQ md + (f.2.length : Int) := uY (fun p : Ky × (Int × List UInt8) => p.2.1) f.1 ((f.2.length : Int), q.2) md (Gq f List.mem_cons_self)
        rw [List.map_cons, List.sum_cons]
        omega
      · have h3 := ih.len
        have h4 := qA f.1 ((f.2.length : Int), q.2) md
        simp only [List.length_cons] at *
        omega
theorem tL {sz : Nat} (C : Ch) : ∀ (l : List Fi) (m : Ch) (md : uT) (r : Ch × uT), jN (tD sz []) some l (m, md) = some r → (∀ f ∈ l, ∀ c ∈ cut f.2 [] 0, aO C (oL sz c) = some c) → jN (tD sz C) some l (m, md) = some r
  | [], _, _, _, h, _ => h
  | f :: l, m, md, r, h, hC => by
    unfold jN tD at h ⊢
    unfold Bq at h ⊢
    cases he : jN (pJ sz []) some (cut f.2 [] 0) (m, []) with
    | none => rw [he] at h; cases h
    | some q =>
      rw [he] at h
      rw [u4 C _ _ _ _ he (hC f List.mem_cons_self)]
      exact tL C l _ _ r h (fun g hg => hC g (List.mem_cons_of_mem _ hg))
theorem u5 : ∀ (l : List Fi) (m : Mp Int) (j : Nat), jN Bp (fun _ => (none : Option Int)) l (m, j) = none → (l.map (·.1)).Nodup ∧ ∀ f ∈ l, aO m f.1 = none
  | [], _, _, _ => ⟨List.nodup_nil, fun f hf => by cases hf⟩
  | f :: l, m, j, h => by
    unfold jN Bp at h
    by_cases h1 : jF f.1 = false
    · rw [if_pos h1] at h; cases h
    rw [if_neg h1] at h
    by_cases h2 : (aO m f.1).isSome = true
    · rw [if_pos h2] at h; cases h
    rw [if_neg h2] at h
    obtain ⟨h3, h4⟩ := u5 l _ _ h
    have h5 : aO m f.1 = none := by simpa using h2
    have h6 : ∀ g ∈ l, f.1 ≠ g.1 ∧ aO m g.1 = none := fun g hg => by
      have h7 := h4 g hg
      rw [k6] at h7
      by_cases h8 : f.1 = g.1
      · rw [if_pos h8] at h7; cases h7
      · rw [if_neg h8] at h7; exact ⟨h8, h7⟩
    refine ⟨?_, fun g hg => ?_⟩
    · rw [List.map_cons, List.nodup_cons]
      refine ⟨fun hc => ?_, h3⟩
      obtain ⟨g, hg, he⟩ := List.mem_map.1 hc
      exact (h6 g hg).1 he.symm
    · rcases List.mem_cons.1 hg with rfl | hg
      · exact h5
      · exact (h6 g hg).2
end Go.Sx
namespace Go.Sx
open Go.RowKit
set_option linter.unusedVariables false
set_option linter.unusedSimpArgs false
def told (S : Sn) : Int := (S.map (fun p => rQ p.2)).sum
theorem IQ (C : Ch) : ∀ s : Int, dG ct (aA s) C = some (aA (s + (di C : Int))) := by
  induction C with
  | nil => intro s; simp [dG, di]
  | cons p r ih =>
    intro s
    obtain ⟨k, v⟩ := p
    simp only [dG, ct, Option.bind_some, od]
    rw [ih]
    congr 2
    simp only [di, List.map_cons, List.sum_cons]
    omega
theorem IS (S : Sn) : ∀ s : Int, dG cr (aA s) S = some (aA (s + told S)) := by
  induction S with
  | nil => intro s; simp [dG, told]
  | cons p r ih =>
    intro s
    obtain ⟨k, v⟩ := p
    simp only [dG, cr]
    rw [qi]
    simp only [Option.bind_some]
    rw [ih]
    congr 2
    simp only [told, rQ, List.map_cons, List.sum_cons]
    omega
theorem u6 (C : Ch) (h : ∀ p ∈ C, 1 ≤ p.2.length) : C.length ≤ di C := by
  induction C with
  | nil => simp
  | cons p r ih =>
    have h1 := ih (fun q hq => h q (List.mem_cons_of_mem _ hq))
    have h2 := h p List.mem_cons_self
    simp only [di, List.map_cons, List.sum_cons, List.length_cons] at h1 ⊢
    omega
theorem DB (C : Ch) (k : Ky) (v : List UInt8) (h : aO C k = some v) : v.length ≤ di C := by
  have hm := oC h
  revert hm
  induction C with
  | nil => intro hm; cases hm
  | cons p r ih =>
    intro hm
    simp only [di, List.map_cons, List.sum_cons]
    rcases List.mem_cons.1 hm with rfl | hm
    · simp only []; omega
    · have : v.length ≤ di r := by
        clear ih h
        induction r with
        | nil => cases hm
        | cons q r ih =>
          simp only [di, List.map_cons, List.sum_cons]
          rcases List.mem_cons.1 hm with rfl | hm
          · simp only []; omega
          · have := ih (List.mem_cons_of_mem _ hm) hm
            unfold di at this
            omega
      unfold di at this
      omega
noncomputable def u7 (C : Ch) : Nat := ic .quo (cq (di C : Int)) (cq (C.length : Int))
noncomputable def FW (C : Ch) (T : Int) : Nat := ic .sub 4607182418800017408 (ic .quo (cq (di C : Int)) (cq T))
theorem yi (sz : Int) (C : Ch) (S : Sn) (hC : ∀ p ∈ C, 1 ≤ p.2.length) (hB : di C ≤ 1000000000) (hT : 0 ≤ told S ∧ told S ≤ 1099511627776) :
    ∃ sp, dt sz C S = some ((C.length : Int), (di C : Int), told S, FW C (told S), u7 C, sp, sz) ∧ (C ≠ [] → Fp sp) := by
  have hlen := u6 C hC
  unfold dt bR
  simp only [Option.bind_some]
  have e0 := IQ C 0
  have e1 := IS S 0
  rw [show aA 0 = 0 from rfl, Int.zero_add] at e0 e1
  rw [cw (by omega)] at e0 e1
  rw [e0]
  simp only [Option.bind_some]
  rw [e1]
  simp only [Option.bind_some]
  unfold gD
  rw [iE (by omega)]
  simp only [Option.bind_some]
  have Lq : (qN (C.map (·.1))).length = C.length := by rw [mS, List.length_map]
  have key : ∀ (r6 : Nat), r6 ≤ di C → Du (u7 C) → NN (ic .sub (cq (r6 : Int)) (u7 C)) := fun r6 h hm =>
    (An (zt (jG r6 (by omega)).2) hm).nn
  have hw : ∃ res, aP (cR C sz (di C : Int) (told S) (qN (C.map (·.1)))) ((0 : Nat), (0 : Int)) = some res ∧ (fun res => ∃ sp, res = ((C.length : Int), (di C : Int), told S, FW C (told S), u7 C, sp, sz) ∧ (C ≠ [] → Fp sp)) res := by
    refine sV (f := cR C sz (di C : Int) (told S) (qN (C.map (·.1)))) (fun i s => s.2 = (i : Int) ∧ i ≤ C.length ∧ (C ≠ [] → Fp s.1))
      (fun res => ∃ sp, res = ((C.length : Int), (di C : Int), told S, FW C (told S), u7 C, sp, sz) ∧ (C ≠ [] → Fp sp)) C.length (fun i s hs => ?_) ((0 : Nat), (0 : Int)) ⟨rfl, Nat.zero_le _, fun _ => Nat.zero_le _⟩
    obtain ⟨sum, x⟩ := s
    obtain ⟨rfl, hi, hp⟩ := hs
    simp only [] at hp
    unfold cR
    simp only []
    by_cases eN : i < C.length
    · left
      have gf : C ≠ [] := fun e => by subst e; simp at eN
      have LK : 0 < C.length := by omega
      have PW : Du (u7 C) := zt (Nat.lt_of_le_of_lt (DA (di C) C.length (by omega) (by omega) LK) (by decide))
      rw [if_pos (by omega), bM (by omega)]
      simp only [Option.bind_some]
      refine ⟨eN, ?_⟩
      cases hf : aO C (qN (C.map (·.1)))[i] with
      | none =>
        simp only [Option.elim_none]
        refine ⟨_, rfl, by rw [gG i (by omega)], by omega, fun _ => ?_⟩
        exact (hp gf).add (Gp (key 0 (Nat.zero_le _) PW))
      | some v =>
        simp only [Option.elim_some]
        refine ⟨_, rfl, by rw [gG i (by omega)], by omega, fun _ => ?_⟩
        exact (hp gf).add (Gp (key v.length (DB C _ v hf) PW))
    · right
      rw [if_neg (by omega)]
      refine ⟨_, rfl, _, rfl, fun gf => ?_⟩
      have LK : 0 < C.length := by
        cases C with
        | nil => exact absurd rfl gf
        | cons p r => simp
      exact (tJ (hp gf) (jG C.length (by omega)).1 (jG C.length (by omega)).2 (tK C.length (by omega) LK)).1
  obtain ⟨res, hr, sp, rfl, h⟩ := hw
  exact ⟨sp, hr, h⟩
theorem KU (m : uT) : ∀ s : Mp Int, ∃ s', dG cb s m = some s' ∧ s'.length ≤ s.length + m.length ∧ ∀ k, aO s' k = if k ∈ m.map (·.1) then some 1 else aO s k := by
  induction m with
  | nil => intro s; exact ⟨s, rfl, by simp, fun k => by simp⟩
  | cons p r ih =>
    intro s
    obtain ⟨k0, v⟩ := p
    obtain ⟨s', h1, h2, h3⟩ := ih (bq s k0 1)
    refine ⟨s', ?_, ?_, fun k => ?_⟩
    · simp only [dG, cb, Option.bind_some]
      exact h1
    · have := qA k0 (1 : Int) s
      simp only [List.length_cons]
      omega
    · rw [h3, k6]
      simp only [List.map_cons, List.mem_cons]
      by_cases h4 : k ∈ r.map (·.1)
      · simp [h4]
      · by_cases h5 : k0 = k
        · simp [h5]
        · rw [if_neg h4, if_neg h5, if_neg]
          rintro (h6 | h6)
          · exact h5 h6.symm
          · exact h4 h6
theorem KV (m : uT) : (m.map (·.1)).Nodup → ∀ s : Mp Int, ∃ s', dG ca s m = some s' ∧ s'.length ≤ s.length + m.length ∧ ∀ k, aO s' k = if k ∈ m.map (·.1) then some (aA ((aO s k).getD 0 + 2)) else aO s k := by
  induction m with
  | nil => intro _ s; exact ⟨s, rfl, by simp, fun k => by simp⟩
  | cons p r ih =>
    intro hn s
    obtain ⟨k0, v⟩ := p
    rw [List.map_cons, List.nodup_cons] at hn
    obtain ⟨s', h1, h2, h3⟩ := ih hn.2 (bq s k0 (aA ((aO s k0).getD 0 + 2)))
    refine ⟨s', ?_, ?_, fun k => ?_⟩
    · simp only [dG, ca, Option.bind_some]
      exact h1
    · have := qA k0 (aA ((aO s k0).getD 0 + 2)) s
      simp only [List.length_cons]
      omega
    · rw [h3, k6]
      simp only [List.map_cons, List.mem_cons]
      by_cases h5 : k0 = k
      · subst h5
        rw [if_neg hn.1, if_pos rfl, if_pos (.inl rfl)]
      · rw [if_neg h5]
        by_cases h4 : k ∈ r.map (·.1)
        · rw [if_pos h4, if_pos (.inr h4)]
        · rw [if_neg h4, if_neg]
          rintro (h6 | h6)
          · exact h5 h6.symm
          · exact h4 h6
theorem yj (sz : Int) (C : Ch) (S : Sn) (a b : List UInt8) (m : uT) (ha : aO S a = some m) (hb : aO S b = some m) (hn : (m.map (·.1)).Nodup) (hl : m.length ≤ 1000000) : ec sz C S a b = some ([], 0, sz) := by
  unfold ec bR
  simp only [Option.bind_some]
  rw [ha, hb]
  simp only [Option.elim_some]
  obtain ⟨s, h1, h2, h3⟩ := KU m []
  obtain ⟨s', g1, g2, g3⟩ := KV m hn s
  rw [h1]
  simp only [Option.bind_some]
  rw [g1]
  simp only [Option.bind_some]
  unfold hZ
  simp only [List.length_nil] at h2
  rw [iE (by omega)]
  simp only [Option.bind_some]
  have Lq : (qN (s'.map (·.1))).length = s'.length := by rw [mS, List.length_map]
  have hv : ∀ k, ((aO s' k).getD 0) ≠ 1 ∧ ((aO s' k).getD 0) ≠ 2 := by
    intro k
    rw [g3]
    by_cases hk : k ∈ m.map (·.1)
    · rw [if_pos hk, h3, if_pos hk]
      decide
    · rw [if_neg hk, h3, if_neg hk]
      exact ⟨by simp [aO], by simp [aO]⟩
  refine bY (fun i => (([] : List (List UInt8)), (i : Int))) s'.length (fun i hi => ?_) ?_
  · unfold du
    simp only []
    rw [if_pos (by omega), bM (by omega)]
    simp only [Option.bind_some]
    rw [if_neg (hv _).1, if_neg (hv _).2, if_neg (by simp)]
    unfold b_
    rw [gG i (by omega)]
  · unfold du
    simp only []
    rw [if_neg (by omega)]
    rfl
end Go.Sx
namespace Go.Sx
open Go.RowKit
set_option linter.unusedVariables false
set_option linter.unusedSimpArgs false
theorem yl {δ : Type} {wt : δ → Nat} {N : Nat} : ∀ {l : List δ}, sZ wt l ≤ N → ∀ x ∈ l, wt x ≤ N
  | [], _, x, hx => by cases hx
  | y :: l, h, x, hx => by
    unfold sZ at h
    rcases List.mem_cons.1 hx with rfl | hx
    · omega
    · exact yl (by omega) x hx
theorem ym : ∀ l : List Fi, (l.map (fun f => f.2.length)).sum ≤ sZ (fun z_ : List UInt8 × List UInt8 => max z_.1.length (z_.2.length)) l
  | [] => by simp [sZ]
  | f :: l => by
    have := ym l
    unfold sZ
    simp only [List.map_cons, List.sum_cons]
    omega
theorem IT (n : Nat) (h1 : 1 ≤ n) (h2 : n ≤ 64) : kq (n : Int) = some (.inr ((n : Int), [], [])) := by
  unfold kq
  rw [if_neg (by simp only [Bool.or_eq_true, decide_eq_true_eq]; omega)]
theorem DC : ∀ (l : List Fi) (s : Mp Int × Nat) (e : Int), jN Bp (fun _ => (none : Option Int)) l s = some e → e ≠ 0
  | [], _, _, h => by cases h
  | f :: l, s, e, h => by
    unfold jN Bp at h
    by_cases h1 : jF f.1 = false
    · rw [if_pos h1] at h; cases h; decide
    rw [if_neg h1] at h
    by_cases h2 : (aO s.1 f.1).isSome = true
    · rw [if_pos h2] at h; cases h; decide
    rw [if_neg h2] at h
    exact DC l _ e h
theorem sb (size : UInt8) (l : List (List UInt8 × List UInt8)) (hl : sZ (fun z_ : List UInt8 × List UInt8 => max z_.1.length (z_.2.length)) l ≤ 1048576) (Lk : l.length ≤ 1048576) : iO size l = some true := by
  have hx := yl hl
  have hd : ∀ f ∈ l, f.1.length ≤ 16000000 ∧ f.2.length ≤ 1048576 := fun f hf => by have := hx f hf; omega
  have R3 := ym l
  unfold iO
  rw [Bc]
  simp only [Option.bind_some, Bool.not_true, Bool.false_eq_true, if_false]
  obtain ⟨n, hn, h1, h2⟩ : ∃ n : Nat, aA (1 + ((size % 64).toNat : Int)) = (n : Int) ∧ 1 ≤ n ∧ n ≤ 64 := by
    have h0 : (size % 64).toNat < 64 := by
      have := UInt8.toNat_mod size 64
      rw [this]
      exact Nat.mod_lt _ (by decide)
    refine ⟨1 + (size % 64).toNat, ?_, by omega, by omega⟩
    rw [cw (by omega)]
    omega
  rw [hn, IT n h1 h2]
  simp only [Option.bind_some, Sum.elim_inr, ne_eq, not_true_eq_false, if_false]
  rw [Dr l (by omega) (fun f hf => by have := (hd f hf).2; omega)]
  simp only [Option.bind_some]
  rw [Dt n h1 h2 [] [] _ l (by decide) hd]
  simp only [Option.bind_some]
  rcases Decidable.em ((tE n [] [] [111, 110, 101] l).1 = 0) with h0 | h0
  case inr =>
    rw [if_pos h0]
    have hS : (tE n [] [] [111, 110, 101] l).2.2 = [] := by
      revert h0
      unfold tE
      rw [show aO ([] : Sn) [111, 110, 101] = none from rfl, show jF [111, 110, 101] = true from by decide]
      simp only [Bool.true_eq_false, if_false]
      split
      · intro _; rfl
      · cases zn l with
        | some e => intro _; rfl
        | none =>
          cases qx n [] l with
          | none => intro _; rfl
          | some p => intro h0; exact absurd rfl h0
    rw [hS]
    unfold fG bR cj
    simp only [Option.bind_some]
    rw [iE (by simp)]
    simp only [Option.bind_some]
    have : (qN (([] : Sn).map (·.1))).length = 0 := by rw [mS]; rfl
    rw [this]
    rfl
  rw [if_neg (by simpa using h0)]
  obtain ⟨m, md, hk, PX, hp, hw⟩ : ∃ m md, qx n [] l = some (m, md) ∧ zn l = none ∧ tE n [] [] [111, 110, 101] l = (0, qy [] m, [([111, 110, 101], md)]) ∧ l.length ≤ 256 := by
    revert h0
    unfold tE
    rw [show aO ([] : Sn) [111, 110, 101] = none from rfl, show jF [111, 110, 101] = true from by decide]
    simp only [Bool.true_eq_false, if_false]
    split
    · intro h0; cases h0
    · rename_i hw
      cases hs : zn l with
      | some e => intro h0; exact absurd h0 (DC l _ e hs)
      | none =>
        cases hk : qx n [] l with
        | none => intro h0; cases h0
        | some p => intro _; exact ⟨p.1, p.2, rfl, rfl, rfl, by omega⟩
  clear h0
  rw [hp]
  simp only []
  have hK := yh l [] [] (m, md) hk
  have KW : kX m := hK.qN kX.nil
  have R4 : kX md := hK.KT kX.nil
  have tW := (u5 l [] 0 PX).1
  have lK : rQ md = ((l.map (fun f => f.2.length)).sum : Nat) := by
    have := hK.PV tW (fun f _ => rfl)
    simpa [rQ] using this
  have R5 : qy [] m = m := by
    refine kX.ext (yf m [] kX.nil) KW fun k => ?_
    rw [uZ m k [] KW.nodup]
    cases aO m k <;> rfl
  rw [R5]
  have IU : ∀ p ∈ m, 1 ≤ p.2.length := fun p hp => (hK.mem p hp).elim (fun h => by cases h) id
  have hB : di m ≤ (l.map (fun f => f.2.length)).sum := by have := hK.sum; simpa [di] using this
  generalize hT : (l.map (fun f => f.2.length)).sum = T at *
  have KN : told [([111, 110, 101], md)] = (T : Int) := by unfold told; simp [lK]
  have Bv : told [([111, 110, 101], md), ([116, 119, 111], md)] = 2 * (T : Int) := by unfold told; simp [lK]; omega
  obtain ⟨Tc, CA, _⟩ := yi (n : Int) m [([111, 110, 101], md)] IU (by omega) (by omega)
  rw [CA]
  simp only [Option.bind_some]
  rw [Dt n h1 h2 m _ _ l (by decide) hd]
  have Je : qx n m l = some (m, md) := tL m l [] [] (m, md) hk hK.has
  have Ht : tE n m [([111, 110, 101], md)] [116, 119, 111] l = (0, m, [([111, 110, 101], md), ([116, 119, 111], md)]) := by
    unfold tE
    rw [show aO ([([111, 110, 101], md)] : Sn) [116, 119, 111] = none from rfl, show jF [116, 119, 111] = true from by decide, PX, Je]
    simp only [Bool.true_eq_false, if_false]
    rw [if_neg (by simp; omega)]
    have : qy m m = m := by
      refine kX.ext (yf m m KW) KW fun k => ?_
      rw [uZ m k m KW.nodup]
      cases aO m k <;> rfl
    rw [this]
    rfl
  rw [Ht]
  simp only [Option.bind_some, not_true_eq_false, if_false]
  obtain ⟨sp, DT, Mi⟩ := yi (n : Int) m [([111, 110, 101], md), ([116, 119, 111], md)] IU (by omega) (by omega)
  rw [DT]
  simp only [Option.bind_some]
  rw [yj (n : Int) m _ _ _ md rfl rfl R4.nodup (by have := hK.len; simp only [List.length_nil] at this; omega)]
  simp only [Option.bind_some, KN, Bv]
  rw [if_neg (by rw [cw (by omega)]; simp)]
  have LK := u6 m IU
  by_cases PY : T = 0
  · subst PY
    have hm : m = [] := List.eq_nil_of_length_eq_zero (by omega)
    subst hm
    rfl
  · rw [if_neg (by omega)]
    have gf : m ≠ [] := hK.ne (.inl (by rw [hT]; exact PY))
    have hq : ic .quo (cq (di m : Int)) (cq (2 * (T : Int))) ≤ 4602678819172646912 := by
      rw [show 2 * (T : Int) = ((2 * T : Nat) : Int) by omega]
      exact Dz _ _ (by omega) (by omega) (by omega)
    have PZ := Bt hq
    unfold FW
    rw [if_pos (Bs PZ.1), if_pos PZ.2, FU (Mi gf)]
end Go.Sx
