import Derived.Test.YtapbicobghgmlaaGreatR3
namespace Go.Sx
open Go.RowKit
set_option linter.unusedVariables false
set_option linter.unusedSimpArgs false
/-! ### Order and Choose -/
def plc (n : Nat) : List Int := (List.range n).map fun j : Nat => (j : Int)
theorem plc_len (n : Nat) : (plc n).length = n := by simp [plc]
theorem plc_0 (n : Nat) : List.replicate (Int.toNat (n : Int)) (0 : Int) = plc 0 ++ List.replicate (n - 0) 0 := by simp [plc]
theorem plc_step (n i : Nat) (h : i < n) : (plc i ++ List.replicate (n - i) (0 : Int)).set i (i : Int) = plc (i + 1) ++ List.replicate (n - (i + 1)) (0 : Int) := by
  have e : n - i = (n - (i + 1)) + 1 := by omega
  rw [e, List.replicate_succ, List.set_append_right _ _ (by rw [plc_len]; omega), plc_len, Nat.sub_self, List.set_cons_zero]
  unfold plc
  rw [List.range_succ, List.map_append, List.append_assoc]
  rfl
theorem plc_get (n i : Nat) (h : i < n) : ∃ x, geti (plc i ++ List.replicate (n - i) (0 : Int)) (i : Int) = some x :=
  ⟨_, geti_nat (by simp [plc_len]; omega)⟩
theorem fneb {a b : Bool} (h1 : a = false) (h2 : b = false) : ¬ ((a || b) = true) := by rw [h1, h2]; decide
section
variable (R : List UInt8) (hR : R.length = 64) (d : Int) (blk nk : List UInt8) (last : Bool) (wr : UInt64) (h : Vec UInt64 8) (lo hi : UInt64) (held : List UInt8) (hh : held.length ≤ 128)
  (hn : m_node_Node_Out 1 d blk nk last wr h lo hi held 128 64 = some (R, 0, h, lo, hi, held, 128, 1, d, blk, nk, last, wr))
  (seed key : List UInt8)
variable (n : Nat) (hn2 : n < 256) (m : Nat) (at_ : UInt64) (now : Vec UInt8 64) (hv : Int) (hm : at_.toNat = 8 * m) (hb : m + 64 * n ≤ 34359738368) (ho : Okn R now hv)
include hR hh hn2 hm hb ho
theorem drawnO1 (l : List Int) (hll : l.length = n) : ∃ (l' : List Int) (m' : Nat) (at' : UInt64) (now' : Vec UInt8 64) (hv' : Int), l'.Perm l ∧ m' ≤ m + 64 * n ∧ at'.toNat = 8 * m' ∧ Okn R now' hv' ∧
      m_dice_Dice_drawn_o_s1 seed key [] [] 1 d blk nk last wr h lo hi held 128 R at_ now hv (n : Int) l = some (0, h, lo, hi, held, 128, 1, d, blk, nk, last, wr, at', now', hv', (n : Int), l') := by
  obtain ⟨l', m', at', now', hv', r1, r2, r3, r4, r5⟩ := order1K1 R hR d blk nk last wr h lo hi held seed key 0 n hn2 l hll m at_ now hv hm hb ho
  refine ⟨l', m', at', now', hv', r1, r2, r3, r4, ?_⟩
  unfold m_dice_Dice_drawn_o_s1 m_dice_Dice_none_k_s1
  rw [Option.bind_some]
  rw [copyK1 R d blk nk last wr h lo hi held hh key at_ now hv]
  rw [Option.bind_some]
  dsimp only
  rw [r5, Option.bind_some, if_neg nz]
theorem orderK1 : ∃ (l' : List Int) (m' : Nat) (at' : UInt64) (now' : Vec UInt8 64) (hv' : Int), l'.Perm (plc n) ∧ m' ≤ m + 64 * n ∧ at'.toNat = 8 * m' ∧ Okn R now' hv' ∧
      m_dice_Dice_Order_k_s1 seed key [] [] 1 d blk nk last wr h lo hi held 128 R at_ now hv (n : Int) = some (l', 0, h, lo, hi, held, 128, 1, d, blk, nk, last, wr, at', now', hv') := by
  obtain ⟨l', m', at', now', hv', r1, r2, r3, r4, r5⟩ := drawnO1 R hR d blk nk last wr h lo hi held hh seed key n hn2 m at_ now hv hm hb ho (plc n) (plc_len n)
  refine ⟨l', m', at', now', hv', r1, r2, r3, r4, ?_⟩
  unfold m_dice_Dice_Order_k_s1 m_dice_Dice_none_k_s1
  rw [Option.bind_some, if_neg (fneb (decide_eq_false (by omega)) (decide_eq_false (by omega))), need_ok ⟨by omega, by omega, by omega⟩, Option.bind_some, plc_0]
  refine whileO_run (fun i => (plc i ++ List.replicate (n - i) (0 : Int), (i : Int))) n (fun i hi => ?_) ?_
  · obtain ⟨x, hx⟩ := plc_get n i hi
    unfold m_dice_Dice_Order_k_s1_l0
    dsimp only
    rw [if_pos (by omega), hx, Option.bind_some, show Int.toNat (i : Int) = i from rfl, plc_step n i hi, show w64 ((i : Int) + 1) = ((i + 1 : Nat) : Int) from by rw [w64_id] <;> omega]
  · unfold m_dice_Dice_Order_k_s1_l0
    dsimp only
    rw [if_neg (by omega), Nat.sub_self, List.replicate_zero, List.append_nil, r5, Option.bind_some, if_neg nz]
    rfl
theorem chooseK1 (k : Nat) (hk : k ≤ n) : ∃ (l' : List Int) (m' : Nat) (at' : UInt64) (now' : Vec UInt8 64) (hv' : Int), l'.Perm (plc n) ∧
      m_dice_Dice_Choose_k_s1 seed key [] [] 1 d blk nk last wr h lo hi held 128 R at_ now hv (n : Int) (k : Int) = some (srtI (l'.take k), 0, h, lo, hi, held, 128, 1, d, blk, nk, last, wr, at', now', hv') := by
  obtain ⟨l', m', at', now', hv', r1, r2, r3, r4, r5⟩ := orderK1 R hR d blk nk last wr h lo hi held hh seed key n hn2 m at_ now hv hm hb ho
  have hll : l'.length = n := by rw [r1.length_eq, plc_len]
  refine ⟨l', m', at', now', hv', r1, ?_⟩
  unfold m_dice_Dice_Choose_k_s1 m_dice_Dice_none_k_s1
  rw [Option.bind_some, if_neg (fneb (by rw [decide_eq_false (by omega), decide_eq_false (by omega), decide_eq_false (by omega)]; rfl) (decide_eq_false (by omega)))]
  dsimp only
  rw [r5, Option.bind_some, if_neg nz]
  dsimp only
  rw [slc_ok (by omega), Option.bind_some, need_ok (by omega), Option.bind_some, need_ok (by simp; omega), Option.bind_some]
  rfl
omit hR hh hn2 hm hb ho in
theorem chooseE1 (k : Nat) (hk : n < k) : m_dice_Dice_Choose_k_s1 seed key [] [] 1 d blk nk last wr h lo hi held 128 R at_ now hv (n : Int) (k : Int) = some ([], 1, h, lo, hi, held, 128, 1, d, blk, nk, last, wr, at_, now, hv) := by
  unfold m_dice_Dice_Choose_k_s1 m_dice_Dice_none_k_s1
  rw [Option.bind_some, if_pos (by rw [show decide ((n : Int) < (k : Int)) = true from decide_eq_true (by omega), Bool.or_true])]
include hn
theorem drawnO (l : List Int) (hll : l.length = n) : (2 ≤ n ∧ ∃ (l' : List Int) (m' : Nat) (at' : UInt64) (now' : Vec UInt8 64) (hv' : Int), l'.Perm l ∧ m' ≤ m + 64 * n ∧ at'.toNat = 8 * m' ∧ Okn R now' hv' ∧
      m_dice_Dice_drawn_o seed key [] [] 1 d blk nk last wr h lo hi held 128 at_ now hv (n : Int) l = some (Sum.inl (0, h, lo, hi, held, 128, 1, d, blk, nk, last, wr, R, at', now', hv', (n : Int), l'))) ∨
    (n < 2 ∧ m_dice_Dice_drawn_o seed key [] [] 1 d blk nk last wr h lo hi held 128 at_ now hv (n : Int) l = some (Sum.inr (0, h, lo, hi, held, 128, 1, d, blk, nk, last, wr, at_, now, hv, (n : Int), l))) := by
  rcases order1K R hR d blk nk last wr h lo hi held hn seed key 0 n hn2 l hll m at_ now hv hm hb ho with ⟨h2, l', m', at', now', hv', r1, r2, r3, r4, r5⟩ | ⟨h2, r5⟩
  · refine .inl ⟨h2, l', m', at', now', hv', r1, r2, r3, r4, ?_⟩
    unfold m_dice_Dice_drawn_o m_dice_Dice_none_k
    rw [Option.bind_some]
    rw [copyK d blk nk last wr h lo hi held hh key at_ now hv]
    rw [Option.bind_some]
    dsimp only
    rw [r5, Option.bind_some, Sum.elim_inl, if_neg nz]
  · refine .inr ⟨h2, ?_⟩
    unfold m_dice_Dice_drawn_o m_dice_Dice_none_k
    rw [Option.bind_some]
    rw [copyK d blk nk last wr h lo hi held hh key at_ now hv]
    rw [Option.bind_some]
    dsimp only
    rw [r5, Option.bind_some, Sum.elim_inr, if_neg nz]
theorem orderK : (2 ≤ n ∧ ∃ (l' : List Int) (m' : Nat) (at' : UInt64) (now' : Vec UInt8 64) (hv' : Int), l'.Perm (plc n) ∧ m' ≤ m + 64 * n ∧ at'.toNat = 8 * m' ∧ Okn R now' hv' ∧
      m_dice_Dice_Order_k seed key [] [] 1 d blk nk last wr h lo hi held 128 at_ now hv (n : Int) = some (Sum.inr (l', 0, h, lo, hi, held, 128, 1, d, blk, nk, last, wr, R, at', now', hv'))) ∨
    (n < 2 ∧ m_dice_Dice_Order_k seed key [] [] 1 d blk nk last wr h lo hi held 128 at_ now hv (n : Int) = some (Sum.inl (plc n, 0, h, lo, hi, held, 128, 1, d, blk, nk, last, wr, at_, now, hv))) := by
  have step : ∀ (r : List Int × Int × Vec UInt64 8 × UInt64 × UInt64 × List UInt8 × Int × Int × Int × List UInt8 × List UInt8 × Bool × UInt64 × UInt64 × Vec UInt8 64 × Int ⊕ List Int × Int × Vec UInt64 8 × UInt64 × UInt64 × List UInt8 × Int × Int × Int × List UInt8 × List UInt8 × Bool × UInt64 × List UInt8 × UInt64 × Vec UInt8 64 × Int),
      m_dice_Dice_Order_k_l0 seed key [] [] (n : Int) (h, lo, hi, held, 128, 1, d, blk, nk, last, wr, at_, now, hv) (plc n, (n : Int)) = some (.inr r) → m_dice_Dice_Order_k seed key [] [] 1 d blk nk last wr h lo hi held 128 at_ now hv (n : Int) = some r := by
    intro r hr
    unfold m_dice_Dice_Order_k m_dice_Dice_none_k
    rw [Option.bind_some, if_neg (fneb (decide_eq_false (by omega)) (decide_eq_false (by omega))), need_ok ⟨by omega, by omega, by omega⟩, Option.bind_some, plc_0]
    refine whileO_run (fun i => (plc i ++ List.replicate (n - i) (0 : Int), (i : Int))) n (fun i hi => ?_) ?_
    · obtain ⟨x, hx⟩ := plc_get n i hi
      unfold m_dice_Dice_Order_k_l0
      dsimp only
      rw [if_pos (by omega), hx, Option.bind_some, show Int.toNat (i : Int) = i from rfl, plc_step n i hi, show w64 ((i : Int) + 1) = ((i + 1 : Nat) : Int) from by rw [w64_id] <;> omega]
    · skip
      rw [Nat.sub_self, List.replicate_zero, List.append_nil]
      exact hr
  rcases drawnO R hR d blk nk last wr h lo hi held hh hn seed key n hn2 m at_ now hv hm hb ho (plc n) (plc_len n) with ⟨h2, l', m', at', now', hv', r1, r2, r3, r4, r5⟩ | ⟨h2, r5⟩
  · refine .inl ⟨h2, l', m', at', now', hv', r1, r2, r3, r4, step _ ?_⟩
    unfold m_dice_Dice_Order_k_l0
    dsimp only
    rw [if_neg (by omega), r5, Option.bind_some, Sum.elim_inl, if_neg nz]
    rfl
  · refine .inr ⟨h2, step _ ?_⟩
    unfold m_dice_Dice_Order_k_l0
    dsimp only
    rw [if_neg (by omega), r5, Option.bind_some, Sum.elim_inr, if_neg nz]
    rfl
theorem chooseK (h2 : n < 2) (k : Nat) (hk : k ≤ n) :
      m_dice_Dice_Choose_k seed key [] [] 1 d blk nk last wr h lo hi held 128 at_ now hv (n : Int) (k : Int) = some (Sum.inl (srtI ((plc n).take k), 0, h, lo, hi, held, 128, 1, d, blk, nk, last, wr, at_, now, hv)) := by
  have hll := plc_len n
  have r5 := ((orderK R hR d blk nk last wr h lo hi held hh hn seed key n hn2 m at_ now hv hm hb ho).resolve_left (fun q => by omega)).2
  unfold m_dice_Dice_Choose_k m_dice_Dice_none_k
  rw [Option.bind_some, if_neg (fneb (by rw [decide_eq_false (by omega), decide_eq_false (by omega), decide_eq_false (by omega)]; rfl) (decide_eq_false (by omega)))]
  dsimp only
  rw [r5, Option.bind_some, Sum.elim_inl, if_neg nz]
  dsimp only
  rw [slc_ok (by omega), Option.bind_some, need_ok (by omega), Option.bind_some, need_ok (by simp; omega), Option.bind_some]
  rfl
omit hR hh hn2 hm hb ho hn in
theorem chooseE (k : Nat) (hk : n < k) : m_dice_Dice_Choose_k seed key [] [] 1 d blk nk last wr h lo hi held 128 at_ now hv (n : Int) (k : Int) = some (Sum.inl ([], 1, h, lo, hi, held, 128, 1, d, blk, nk, last, wr, at_, now, hv)) := by
  unfold m_dice_Dice_Choose_k m_dice_Dice_none_k
  rw [Option.bind_some, if_pos (by rw [show decide ((n : Int) < (k : Int)) = true from decide_eq_true (by omega), Bool.or_true])]
end
end Go.Sx

