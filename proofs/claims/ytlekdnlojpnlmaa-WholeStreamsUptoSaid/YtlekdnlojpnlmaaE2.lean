import Derived.Test.YtlekdnlojpnlmaaE1
namespace Go.Sx
open Go.RowKit
set_option linter.unusedVariables false
set_option linter.unusedSimpArgs false
/-! ### the bytes of a stream, read in pieces -/
noncomputable def pcw (k : Int) (s : Nat) (R : List UInt8) (n i : Nat) : List UInt8 := (m_xof_shape_piece k (s : Int) (UInt32.ofInt (n : Int)) (UInt64.ofInt (n : Int)) true [] [] R (UInt64.ofNat i)).getD []
noncomputable def sbw (k : Int) (s : Nat) (R : List UInt8) (n j : Nat) : UInt8 := (pcw k s R n (j / s)).getD (j % s) 0
noncomputable def seg (k : Int) (s : Nat) (R : List UInt8) (n a m : Nat) : List UInt8 := (List.range m).map fun t => sbw k s R n (a + t)
theorem seg_len (k : Int) (s : Nat) (R : List UInt8) (n a m : Nat) : (seg k s R n a m).length = m := by simp [seg]
theorem seg_get (k : Int) (s : Nat) (R : List UInt8) (n a m t : Nat) (h : t < (seg k s R n a m).length) : (seg k s R n a m)[t] = sbw k s R n (a + t) := by simp [seg]
theorem seg_app (k : Int) (s : Nat) (R : List UInt8) (n a m l : Nat) : seg k s R n a m ++ seg k s R n (a + m) l = seg k s R n a (m + l) := by
  unfold seg
  rw [List.range_add, List.map_append, List.map_map]
  congr 1
  refine List.map_congr_left fun t _ => ?_
  show sbw k s R n (a + m + t) = sbw k s R n (a + (m + t))
  rw [Nat.add_assoc]
theorem seg_cut (k : Int) (s : Nat) (R : List UInt8) (n a m : Nat) (h : a + m ≤ n) : slc (seg k s R n 0 n) (a : Int) ((a + m : Nat) : Int) = some (seg k s R n a m) := by
  rw [slc_ok (by rw [seg_len]; omega)]
  congr 1
  show ((seg k s R n 0 n).take (a + m)).drop a = _
  have e1 : seg k s R n 0 n = seg k s R n 0 (a + m) ++ seg k s R n (a + m) (n - (a + m)) := by
    have := seg_app k s R n 0 (a + m) (n - (a + m))
    rw [Nat.zero_add, show a + m + (n - (a + m)) = n from by omega] at this
    exact this.symm
  have e2 : seg k s R n 0 (a + m) = seg k s R n 0 a ++ seg k s R n a m := by
    have := seg_app k s R n 0 a m
    rw [Nat.zero_add] at this
    exact this.symm
  rw [e1, List.take_left' (by rw [seg_len]), e2, List.drop_left' (by rw [seg_len])]
def Okw (k : Int) (s : Nat) (R : List UInt8) (n : Nat) (now : Vec UInt8 64) (hv : Int) : Prop := hv = -1 ∨ ∃ i : Nat, i * s < n ∧ hv = (i : Int) ∧ now.l.take (pl0 s n i) = pcw k s R n i
theorem okw_new (k : Int) (s : Nat) (R : List UInt8) (n : Nat) (now : Vec UInt8 64) : Okw k s R n now (-1) := .inl rfl
theorem vcp_part (x : Vec UInt8 64) (ys : List UInt8) (h : ys.length ≤ 64) : (vcp x 0 64 ys).l.take ys.length = ys := by
  unfold vcp
  rw [dif_pos (by omega)]
  show (lcp x.l 0 64 ys).take ys.length = ys
  unfold lcp
  rw [List.take_zero, List.nil_append, List.take_of_length_le (i := 64) (by omega), List.take_left' rfl]
/-- a round of Read, behind the piece -/
noncomputable def rdb {ρ : Type} (S M : Int) (x_0 : UInt64) (out : List UInt8) (x_26 : Vec UInt8 64) (x_27 : Int) : Option ((UInt64 × Vec UInt8 64 × Int × List UInt8) ⊕ ρ) :=
  (need ((UInt64.ofInt S) ≠ 0)).bind fun u1 =>
    (slc x_26.l (w64 (x_0 % (UInt64.ofInt S)).toNat) (w64 ((w64 (x_0 % (UInt64.ofInt S)).toNat) + (if w64 (S - (w64 (x_0 % (UInt64.ofInt S)).toNat)) < w64 (M - ((out.length : Nat) : Int)) then
      w64 (S - (w64 (x_0 % (UInt64.ofInt S)).toNat))
    else w64 (M - ((out.length : Nat) : Int)))))).bind fun b =>
    (app out b 1).bind fun out1 =>
    some (.inl (x_0 + (UInt64.ofInt (if w64 (S - (w64 (x_0 % (UInt64.ofInt S)).toNat)) < w64 (M - ((out.length : Nat) : Int)) then
      w64 (S - (w64 (x_0 % (UInt64.ofInt S)).toNat))
    else w64 (M - ((out.length : Nat) : Int)))), x_26, x_27, out1))
section
variable {k : Int} {s : Nat} (hK : Kd k s) (R : List UInt8) (hR : R.length ≤ 64) (n : Nat) (hn : 1 ≤ n ∧ n ≤ 3000)
include hK hR hn
theorem pcw_ok (i : UInt64) (hi : i.toNat * s < n) : (pcw k s R n i.toNat).length = pl0 s n i.toNat ∧ m_xof_shape_piece k (s : Int) (UInt32.ofInt (n : Int)) (UInt64.ofInt (n : Int)) true [] [] R i = some (pcw k s R n i.toNat) := by
  obtain ⟨b, h1, h2⟩ := piece_at hK R hR n hn i hi
  unfold pcw
  rw [UInt64.ofNat_toNat, h2]
  exact ⟨h1, rfl⟩
omit hR hn in
theorem sne : UInt64.ofInt (s : Int) ≠ 0 := by
  have hs : 32 ≤ s ∧ s ≤ 64 := by rcases hK.h with ⟨_, h⟩ | ⟨_, h⟩ <;> omega
  have hS := ofN64 s (by omega)
  intro e; rw [e] at hS; have : (0 : UInt64).toNat = 0 := rfl; omega
omit hR in
theorem rdb_ok {ρ : Type} (m a : Nat) (at_ : UInt64) (out : List UInt8) (now : Vec UInt8 64) (hat : at_.toNat = a) (hlt : out.length < m) (hm3 : m ≤ 3000) (hb : a + (m - out.length) ≤ n)
    (hnow : now.l.take (pl0 s n (a / s)) = pcw k s R n (a / s)) (hv : Int) :
    ∃ (j : Nat) (at' : UInt64), 1 ≤ j ∧ j ≤ m - out.length ∧ at'.toNat = a + j ∧ rdb (ρ := ρ) (s : Int) (m : Int) at_ out now hv = some (.inl (at', now, hv, out ++ seg k s R n a j)) := by
  have hs : 32 ≤ s ∧ s ≤ 64 := by rcases hK.h with ⟨_, h⟩ | ⟨_, h⟩ <;> omega
  have hS := ofN64 s (by omega)
  have hmod : (at_ % UInt64.ofInt (s : Int)).toNat = a % s := by rw [UInt64.toNat_mod, hS, hat]
  have hr : a % s < s := Nat.mod_lt _ (by omega)
  have hdm := Nat.div_add_mod a s
  have e1 : w64 (((a % s : Nat)) : Int) = ((a % s : Nat) : Int) := w64n _ (by omega)
  have e2 : w64 ((s : Int) - ((a % s : Nat) : Int)) = ((s - a % s : Nat) : Int) := by rw [show (s : Int) - ((a % s : Nat) : Int) = ((s - a % s : Nat) : Int) from by omega]; exact w64n _ (by omega)
  have e3 : w64 ((m : Int) - ((out.length : Nat) : Int)) = ((m - out.length : Nat) : Int) := by rw [show (m : Int) - ((out.length : Nat) : Int) = ((m - out.length : Nat) : Int) from by omega]; exact w64n _ (by omega)
  have e4 : (if ((s - a % s : Nat) : Int) < ((m - out.length : Nat) : Int) then ((s - a % s : Nat) : Int) else ((m - out.length : Nat) : Int)) = ((min (s - a % s) (m - out.length) : Nat) : Int) := by
    split <;> omega
  obtain ⟨j, hj⟩ : ∃ j, j = min (s - a % s) (m - out.length) := ⟨_, rfl⟩
  have hj1 : 1 ≤ j ∧ j ≤ m - out.length ∧ a % s + j ≤ s := by omega
  refine ⟨j, at_ + UInt64.ofInt (j : Int), hj1.1, hj1.2.1, by rw [UInt64.toNat_add, ofN64 j (by omega), hat]; omega, ?_⟩
  unfold rdb
  rw [need_ok (sne hK), Option.bind_some, hmod, e1, e2, e3, e4, ← hj, show ((a % s : Nat) : Int) + (j : Int) = ((a % s + j : Nat) : Int) from by omega, w64n _ (by omega)]
  have hnl := now.h
  rw [slc_ok (by omega), Option.bind_some]
  have hpl : a % s + j ≤ pl0 s n (a / s) := by
    unfold pl0
    have : a / s * s = s * (a / s) := Nat.mul_comm _ _
    omega
  have hseg : ((now.l.take (((a % s + j : Nat) : Int)).toNat).drop (((a % s : Nat) : Int)).toNat) = seg k s R n a j := by
    show (now.l.take (a % s + j)).drop (a % s) = _
    have e5 : now.l.take (a % s + j) = (pcw k s R n (a / s)).take (a % s + j) := by
      rw [← hnow, List.take_take, Nat.min_eq_left hpl]
    rw [e5]
    have hpc : (pcw k s R n (a / s)).length = pl0 s n (a / s) := by
      rw [← hnow, List.length_take]
      have : pl0 s n (a / s) ≤ s := Nat.min_le_left _ _
      omega
    refine List.ext_getElem (by simp [seg]; omega) fun t h1 h2 => ?_
    have ht : t < j := by rw [seg_len] at h2; exact h2
    rw [List.getElem_drop, List.getElem_take, seg_get]
    unfold sbw
    have d1 : (a + t) / s = a / s := by
      rw [show a + t = s * (a / s) + (a % s + t) from by omega, Nat.mul_add_div (by omega), Nat.div_eq_of_lt (a := a % s + t) (by omega), Nat.add_zero]
    have d2 : (a + t) % s = a % s + t := by
      rw [show a + t = s * (a / s) + (a % s + t) from by omega, Nat.mul_add_mod, Nat.mod_eq_of_lt (by omega)]
    rw [d1, d2, List.getD_eq_getElem?_getD, List.getElem?_eq_getElem (by omega), Option.getD_some]
  rw [hseg, app_ok (by rw [seg_len]; omega), Option.bind_some]
/-- all rounds of Read -/
theorem rdLoop {ρ : Type} (f : (UInt64 × Vec UInt8 64 × Int × List UInt8) → Option ((UInt64 × Vec UInt8 64 × Int × List UInt8) ⊕ ρ)) (fin : UInt64 → Vec UInt8 64 → Int → List UInt8 → ρ) (m a0 : Nat) (hb : a0 + m ≤ n)
    (hf1 : ∀ (at_ : UInt64) (now : Vec UInt8 64) (hv : Int) (out : List UInt8), ((out.length : Nat) : Int) < (m : Int) → f (at_, now, hv, out) =
      if hv ≠ w64 ((at_ / UInt64.ofInt (s : Int)).toNat : Int) then ((m_xof_shape_piece k (s : Int) (UInt32.ofInt (n : Int)) (UInt64.ofInt (n : Int)) true [] [] R (at_ / UInt64.ofInt (s : Int))).bind fun r_2 => rdb (s : Int) (m : Int) at_ out (vcp now 0 64 r_2) (w64 ((at_ / UInt64.ofInt (s : Int)).toNat : Int))) else rdb (s : Int) (m : Int) at_ out now hv)
    (hf2 : ∀ (at_ : UInt64) (now : Vec UInt8 64) (hv : Int) (out : List UInt8), ¬ ((out.length : Nat) : Int) < (m : Int) → f (at_, now, hv, out) = some (.inr (fin at_ now hv out))) :
    ∀ (j : Nat) (at_ : UInt64) (now : Vec UInt8 64) (hv : Int) (out : List UInt8), out.length + j = m → at_.toNat = a0 + out.length → out = seg k s R n a0 out.length → Okw k s R n now hv →
    ∃ (at' : UInt64) (now' : Vec UInt8 64) (hv' : Int), at'.toNat = a0 + m ∧ Okw k s R n now' hv' ∧ whileO f (at_, now, hv, out) = some (fin at' now' hv' (seg k s R n a0 m)) := by
  have hs : 32 ≤ s ∧ s ≤ 64 := by rcases hK.h with ⟨_, h⟩ | ⟨_, h⟩ <;> omega
  have hS := ofN64 s (by omega)
  intro j
  induction j using Nat.strongRecOn with
  | _ j ih =>
    intro at_ now hv out hj hat hout ho
    by_cases h0 : j = 0
    · subst h0
      have hm : out.length = m := by omega
      refine ⟨at_, now, hv, by omega, ho, ?_⟩
      have ho2 : out = seg k s R n a0 m := by rw [← hm]; exact hout
      exact (whileO_done (hf2 at_ now hv out (by omega))).trans (by rw [← ho2])
    · have hdv : (at_ / UInt64.ofInt (s : Int)).toNat = at_.toNat / s := by rw [UInt64.toNat_div, hS]
      have hin : at_.toNat / s * s < n := by
        have := Nat.div_mul_le_self at_.toNat s
        omega
      have hdl : at_.toNat / s ≤ at_.toNat := Nat.div_le_self _ _
      have hpc := pcw_ok hK R hR n hn (at_ / UInt64.ofInt (s : Int)) (by rw [hdv]; exact hin)
      rw [hdv] at hpc
      have hwd : w64 ((at_.toNat / s : Nat) : Int) = ((at_.toNat / s : Nat) : Int) := w64n _ (by omega)
      have hplle : pl0 s n (at_.toNat / s) ≤ s := Nat.min_le_left _ _
      have go : ∀ (now1 : Vec UInt8 64) (hv1 : Int), now1.l.take (pl0 s n (at_.toNat / s)) = pcw k s R n (at_.toNat / s) → Okw k s R n now1 hv1 → f (at_, now, hv, out) = rdb (s : Int) (m : Int) at_ out now1 hv1 →
          ∃ (at' : UInt64) (now' : Vec UInt8 64) (hv' : Int), at'.toNat = a0 + m ∧ Okw k s R n now' hv' ∧ whileO f (at_, now, hv, out) = some (fin at' now' hv' (seg k s R n a0 m)) := by
        intro now1 hv1 q1 q2 q3
        obtain ⟨l, at1, r1, r2, r3, r4⟩ := rdb_ok (ρ := ρ) hK R n hn m at_.toNat at_ out now1 rfl (by omega) (by omega) (by omega) q1 hv1
        have hlen : (out ++ seg k s R n at_.toNat l).length = out.length + l := by rw [List.length_append, seg_len]
        have hcat := seg_app k s R n a0 out.length l
        rw [← hout] at hcat
        obtain ⟨at', now', hv', t1, t2, t3⟩ := ih (j - l) (by omega) at1 now1 hv1 (out ++ seg k s R n at_.toNat l) (by omega) (by omega) (by rw [hlen, hat]; exact hcat) q2
        refine ⟨at', now', hv', t1, t2, ?_⟩
        rw [whileO_next (q3.trans r4)]
        exact t3
      have hf := hf1 at_ now hv out (by omega)
      rw [hdv, hwd] at hf
      by_cases hne : hv = ((at_.toNat / s : Nat) : Int)
      · rw [if_neg (by simpa using hne)] at hf
        rcases ho with h1 | ⟨i, h1, h2, h3⟩
        · omega
        · have hii : i = at_.toNat / s := by omega
          exact go now hv (by rw [← hii]; exact h3) (.inr ⟨i, h1, h2, h3⟩) hf
      · rw [if_pos hne, hpc.2, Option.bind_some] at hf
        have hv1 := vcp_part now (pcw k s R n (at_.toNat / s)) (by omega)
        rw [hpc.1] at hv1
        exact go _ _ hv1 (.inr ⟨at_.toNat / s, hin, rfl, hv1⟩) hf
end
end Go.Sx

