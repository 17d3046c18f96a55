import Derived.Test.YtoedpdamhabkoaaGreatK5
namespace Go.Sx
open Go.RowKit
set_option linter.unusedVariables false
set_option linter.unusedSimpArgs false
def fB (h : ae UInt64 8) (b : List UInt8) (c : UInt64 × UInt64) (last node : Bool) : ae UInt64 8 := Fb h (Wb b) c.1 c.2 last node
theorem Br (h : ae UInt64 8) (b : List UInt8) (c : UInt64 × UInt64) (last node : Bool) (hb : b.length = 128) : mu h b c.1 c.2 last node = some (fB h b c last node) := by
  unfold mu
  rw [Mr b hb]
  simp only [Option.bind_some]
  rw [wF]
  rfl
theorem Oo (b : List UInt8) (h : ae UInt64 8) (lo hi : UInt64) (held : List UInt8) (hb : b.length ≤ 12000000) (hh : held.length ≤ 128) :
    fE 128 b h lo hi held = some (.inl (h, lo, hi, held ++ b.take (min (128 - held.length) b.length), b.drop (min (128 - held.length) b.length))) := by
  unfold fE
  have e1 : aD ((128 : Int) - ((held.length : Nat) : Int)) = ((128 - held.length : Nat) : Int) := by rw [gx (by omega)]; omega
  have e2 : (if aD ((128 : Int) - ((held.length : Nat) : Int)) < ((b.length : Nat) : Int) then aD ((128 : Int) - ((held.length : Nat) : Int)) else ((b.length : Nat) : Int)) = ((min (128 - held.length) b.length : Nat) : Int) := by
    rw [e1]; split <;> omega
  rw [e2, uB (by omega)]
  simp only [Option.bind_some, Int.toNat_natCast, Int.toNat_zero, List.drop_zero]
  rw [mO (by simp; omega), uB (by omega)]
  simp only [Option.bind_some, Int.toNat_natCast]
  rw [List.take_of_length_le (i := b.length) (Nat.le_refl _)]
theorem Fv (h : ae UInt64 8) (c : UInt64 × UInt64) (held b : List UInt8) (hb : b.length ≤ 12000000) (hh : held.length ≤ 128) :
    gn h c.1 c.2 held 128 b = some ((k7 (fun h b c => fB h b c false false) 128 h c (held ++ b)).1, (k7 (fun h b c => fB h b c false false) 128 h c (held ++ b)).2.1.1, (k7 (fun h b c => fB h b c false false) 128 h c (held ++ b)).2.1.2, (k7 (fun h b c => fB h b c false false) 128 h c (held ++ b)).2.2, 128) := by
  unfold gn
  refine rn (fun i s => ∃ (h' : ae UInt64 8) (c' : UInt64 × UInt64) (vg b' : List UInt8), s = (h', c'.1, c'.2, vg, b') ∧ vg.length ≤ 128 ∧ b'.length + i ≤ b.length ∧ k7 (fun h b c => fB h b c false false) 128 h' c' (vg ++ b') = k7 (fun h b c => fB h b c false false) 128 h c (held ++ b)) _ b.length _ ⟨h, c, held, b, rfl, hh, by omega, rfl⟩ ?_
  rintro i s ⟨h', c', vg, b', rfl, R6, Q6, hr⟩
  rw [← hr]
  unfold iH
  simp only []
  by_cases h0 : b'.length = 0
  · right
    obtain rfl := List.length_eq_zero_iff.1 h0
    rw [if_neg (by simp), List.append_nil, sk _ _ _ _ _ R6]
    rfl
  · left
    refine ⟨by omega, ?_⟩
    rw [if_pos (by omega)]
    by_cases hf : vg.length = 128
    · rw [if_pos (by omega)]
      obtain ⟨o, zq⟩ := Om c' (UInt64.ofNat 128)
      have e3 : UInt64.ofInt 128 = UInt64.ofNat 128 := rfl
      rw [e3, zq]
      simp only [Option.bind_some]
      rw [Br h' vg (rY c' (UInt64.ofNat 128)) false false hf]
      simp only [Option.bind_some]
      rw [uB (by omega)]
      simp only [Option.bind_some, Int.toNat_zero, List.take_zero, List.drop_nil]
      rw [Oo b' _ _ _ [] (by omega) (by simp)]
      refine ⟨_, rfl, _, rY c' (UInt64.ofNat 128), _, _, rfl, by simp; omega, by simp; omega, ?_⟩
      rw [Bq _ 128 h' c' (vg ++ b') (by omega) (by simp; omega)]
      rw [show (vg ++ b').take 128 = vg from by rw [List.take_append_of_le_length (by omega), List.take_of_length_le (by omega)], show (vg ++ b').drop 128 = b' from by rw [← hf, List.drop_left]]
      rw [List.nil_append, List.take_append_drop]
    · rw [if_neg (by omega), Oo b' _ _ _ vg (by omega) R6]
      refine ⟨_, rfl, _, c', _, _, rfl, by simp; omega, by simp; omega, ?_⟩
      rw [List.append_assoc, List.take_append_drop]
theorem KO (h : ae UInt64 8) (c : UInt64 × UInt64) (held : List UInt8) (node : Bool) (hh : held.length ≤ 128) :
    iP h c.1 c.2 held 128 node = some (Il (fB h (pad 128 held) (rY c (UInt64.ofNat held.length)) true node), h, c.1, c.2, held, 128) := by
  unfold iP jm
  obtain ⟨o, zq⟩ := Om c (UInt64.ofNat held.length)
  rw [Ft, zq]
  simp only [Option.bind_some]
  have := On held 128 hh (by omega)
  rw [show ((128 : Nat) : Int) = 128 from rfl] at this
  rw [this]
  simp only [Option.bind_some]
  rw [Br h _ (rY c (UInt64.ofNat held.length)) true node (Cv _ _ hh)]
  simp only [Option.bind_some]
  rw [Mv]
  rfl
end Go.Sx
namespace Go.Sx
open Go.RowKit
set_option linter.unusedVariables false
set_option linter.unusedSimpArgs false
theorem Iy (d : Int) (gq key : List UInt8) (hl : gq.length = 64) (hk : key.length ≤ 128) : lp 1 d gq key false 0 = some (.inl (1, d, gq, key, Dq gq, 0, 0, AO.kb key, 128)) := by
  unfold lp q_
  rw [if_pos rfl]
  rw [Mu gq hl]
  simp only [Option.bind_some, Sum.elim_inl]
  unfold rV.kb
  by_cases h0 : key = []
  · subst h0; rfl
  · rw [if_pos (by have := List.length_pos_iff.2 h0; omega), if_neg h0]
    have hp := On key 128 hk (by omega)
    rw [show ((128 : Nat) : Int) = 128 from rfl] at hp
    rw [show iO 1 = some 128 from rfl]
    simp only [Option.bind_some]
    rw [hp]
    simp only [Option.bind_some]
    have hlen := Cv 128 key hk
    rw [Fv (Dq gq) (0, 0) [] (pad 128 key) (by omega) (by simp)]
    rw [List.nil_append, sk _ _ _ _ _ (by omega)]
    rfl
theorem Q7 (d : Int) (gq key : List UInt8) (last : Bool) (wr : UInt64) (h : ae UInt64 8) (c : UInt64 × UInt64) (held : List UInt8) (hh : held.length ≤ 128) (out : Int) : ∃ t, eJ 1 d gq key last wr h c.1 c.2 held 128 out = some t ∧ (t.1, t.2.1) = (if out < 1 ∨ (64 : Int) < out then ([], 1) else ((Il (fB h (pad 128 held) (rY c (UInt64.ofNat held.length)) true last)).take out.toNat, 0)) := by
  unfold eJ js
  simp only [Option.bind_some]
  by_cases h1 : out < 1
  · rw [if_pos h1, if_pos (.inl h1)]; exact ⟨_, rfl, rfl⟩
  rw [if_neg h1, show iO 1 = some 128 from rfl]
  simp only [Option.bind_some]
  rw [show aD (Int.tdiv 128 2) = (64 : Int) from rfl]
  by_cases h2 : (64 : Int) < out
  · rw [if_pos h2, if_pos (.inr h2)]; exact ⟨_, rfl, rfl⟩
  rw [if_neg h2, if_neg (by omega), KO h c held last hh]
  simp only [Option.bind_some]
  rw [uB (by rw [tQ]; omega)]
  simp only [Option.bind_some]
  rw [lN (by rw [tQ]; omega)]
  exact ⟨_, rfl, by simp⟩
theorem MF (d ky fn dp : Int) (lf : UInt32) (off : UInt64) (l2 : UInt32) (nd mJ : Int) (dw jx key : List UInt8) (last : Bool) (out : Int) (data gq : List UInt8) (he : kG 1 d ky fn dp lf off l2 nd mJ dw jx = some (gq, 0)) (hl : gq.length = 64) (I7 : key = [] ∨ (key.length : Int) = ky) (Q8 : key.length ≤ 128) (hd : data.length ≤ 12000000) :
    oJ 1 d ky fn dp lf off l2 nd mJ dw jx key last out data = some (AO.Q5 gq (AO.kb key ++ data) last out) := by
  unfold oJ mQ
  rw [he]
  simp only [Option.bind_some, ne_eq, not_true_eq_false, if_false]
  rw [if_neg (by
    simp only [Bool.and_eq_true, decide_eq_true_eq]
    rintro ⟨h1, h2⟩
    rcases I7 with rfl | h
    · exact h1 rfl
    · exact h2 h)]
  unfold p6
  rw [mO (by simp; omega), mO (by simp; omega)]
  simp only [Option.bind_some, List.nil_append]
  rw [Iy d gq key hl Q8]
  simp only [Option.bind_some, Sum.elim_inl, Sum.elim_inr]
  have TT := AO.Ix key Q8
  rw [Fv (Dq gq) (0, 0) (AO.kb key) data hd TT]
  simp only [Option.bind_some]
  obtain ⟨h1, h2, h3⟩ := AO.held gq (AO.kb key ++ data)
  obtain ⟨t, TU, Ku⟩ := Q7 d gq key last 0 (k7 (fun h b c => fB h b c false false) 128 (Dq gq) (0, 0) (AO.kb key ++ data)).1 (k7 (fun h b c => fB h b c false false) 128 (Dq gq) (0, 0) (AO.kb key ++ data)).2.1 (k7 (fun h b c => fB h b c false false) 128 (Dq gq) (0, 0) (AO.kb key ++ data)).2.2 h1 out
  rw [TU]
  simp only [Option.bind_some, Option.some.injEq]
  exact Ku
end Go.Sx
namespace Go.Sx
open Go.RowKit
set_option linter.unusedVariables false
set_option linter.unusedSimpArgs false
theorem Oq (kl : Nat) (h : kl ≤ 64) : ic 1 64 (kl : Int) 1 1 0 0 4294967295 0 0 [] [] = some 0 := by
  unfold ic
  rw [show lI 1 = some 64 from rfl]
  simp only [Option.bind_some]
  rw [if_neg (by omega), show aD (Int.tdiv 64 4) = 16 from rfl, if_neg (by decide), if_neg (by simp only [Bool.or_eq_true, decide_eq_true_eq]; omega), if_neg (by decide), if_neg (by decide), if_neg (by decide), if_neg (by decide), if_neg (by decide), if_neg (by decide), if_neg (by decide), if_neg (by decide)]
theorem Q9 (i : UInt64) (h : i.toNat < 4294967296) : ic 1 64 0 0 0 64 i 4294967295 0 64 [] [] = some 0 := by
  have hi : ¬ (4294967295 : UInt64) < i := by
    intro hh
    have := UInt64.lt_iff_toNat_lt.1 hh
    have e : (4294967295 : UInt64).toNat = 4294967295 := rfl
    omega
  unfold ic
  rw [show lI 1 = some 64 from rfl]
  simp only [Option.bind_some]
  rw [if_neg (by omega), show aD (Int.tdiv 64 4) = 16 from rfl, if_neg (by decide), if_neg (by decide), if_neg (by decide), if_neg (by decide), if_neg (by simp [hi]), if_neg (by decide), if_neg (by decide), if_neg (by decide), if_neg (by decide), if_neg (by decide)]
theorem Ot (H : rV) (hS : H.S = 64) (gq M : List UInt8) : (H.Q5 gq M false 64).1.length = 64 := by
  unfold rV.Q5
  rw [if_neg (by omega)]
  have := H.Iw gq M false
  simp only [List.length_take]
  omega
theorem Kg (n : Nat) (h : n < 9223372036854775808) : aD (n : Int) = (n : Int) := by
  rw [gx] <;> omega
theorem Iz (root : List UInt8) (hr : root.length ≤ 64) (i : UInt64) (h : i.toNat < 4294967296) : ∃ b, b.length = 64 ∧ gr [] [] root i = some b := by
  have cj : (64 : UInt64).toNat = 64 := rfl
  have eT : (274877906944 : UInt64).toNat = 274877906944 := rfl
  have hm : (i * 64).toNat = i.toNat * 64 := by rw [UInt64.toNat_mul, cj]; omega
  have hs : ((274877906944 : UInt64) - i * 64).toNat = 274877906944 - i.toNat * 64 := by
    rw [UInt64.toNat_sub_of_le _ _ (UInt64.le_iff_toNat_le.2 (by rw [hm, eT]; omega)), hm, eT]
  have hn : ¬ ((274877906944 : UInt64) - i * 64) < 64 := by
    intro hh
    have := UInt64.lt_iff_toNat_lt.1 hh
    rw [hs, cj] at this; omega
  unfold gr
  rw [if_neg hn]
  unfold iR
  obtain ⟨Ou, _⟩ := It 1 64 0 0 0 64 i 4294967295 0 64 [] [] (Q9 i h)
  rw [MF 64 0 0 0 64 i 4294967295 0 64 [] [] [] false 64 root _ Ou (by rw [Du _ _ _ _ _ _ _ _ _ _ _ _ (.inl ⟨rfl, by simp, by simp⟩)]; rfl) (.inl rfl) (by simp) (by omega)]
  exact ⟨_, Ot AO rfl _ _, rfl⟩
noncomputable def Ng (root : List UInt8) (i : UInt64) : List UInt8 := (gr [] [] root i).getD []
theorem Cw (root : List UInt8) (hr : root.length ≤ 64) (i : UInt64) (h : i.toNat < 4294967296) : (Ng root i).length = 64 ∧ gr [] [] root i = some (Ng root i) := by
  obtain ⟨b, h1, h2⟩ := Iz root hr i h
  unfold Ng
  rw [h2]
  exact ⟨h1, rfl⟩
theorem Q_ (d : Int) (gq key : List UInt8) (last : Bool) (wr : UInt64) (h : ae UInt64 8) (lo hi : UInt64) (held : List UInt8) (hh : held.length ≤ 128) :
    eJ 1 d gq key last wr h lo hi held 128 64 = some (Il (fB h (pad 128 held) (rY (lo, hi) (UInt64.ofNat held.length)) true last), 0, h, lo, hi, held, 128, 1, d, gq, key, last, wr) := by
  unfold eJ js
  simp only [Option.bind_some]
  rw [if_neg (by omega), show iO 1 = some 128 from rfl]
  simp only [Option.bind_some]
  rw [show aD (Int.tdiv 128 2) = (64 : Int) from rfl, if_neg (by omega), KO h (lo, hi) held last hh]
  simp only [Option.bind_some]
  rw [uB (by rw [tQ]; omega)]
  simp only [Option.bind_some]
  rw [lN (by rw [tQ]; omega)]
  simp only [Option.bind_some]
  rw [show (64 : Int).toNat = (Il (fB h (pad 128 held) (rY (lo, hi) (UInt64.ofNat held.length)) true last)).length from by rw [tQ]; rfl]
  simp
end Go.Sx
namespace Go.Sx
open Go.RowKit
set_option linter.unusedVariables false
set_option linter.unusedSimpArgs false
noncomputable def Fw (root : List UInt8) (at_ : UInt64) : List UInt8 := ((Ng root (at_ / 64)).take (at_.toNat % 64 + 8)).drop (at_.toNat % 64)
def y8 (root : List UInt8) (now : ae UInt8 64) (hv : Int) : Prop := hv = -1 ∨ ∃ i : UInt64, i.toNat < 4294967296 ∧ hv = (i.toNat : Int) ∧ now.l = Ng root i
theorem Fx (root : List UInt8) (now : ae UInt8 64) : y8 root now (-1) := .inl rfl
theorem vi (at_ : UInt64) : (at_ / 64).toNat = at_.toNat / 64 := by rw [UInt64.toNat_div]; rfl
theorem IA (at_ : UInt64) : (at_ % 64).toNat = at_.toNat % 64 := by rw [UInt64.toNat_mod]; rfl
theorem xP (x : ae UInt8 64) (ys : List UInt8) (h : ys.length = 64) : (tT x 0 64 ys).l = ys := by
  unfold tT
  rw [dif_pos (by omega)]
  show DC x.l 0 64 ys = ys
  unfold DC
  have := x.h
  simp only [List.take_zero, List.nil_append, Nat.zero_add]
  rw [List.take_of_length_le (by omega), List.drop_eq_nil_of_le (by omega), List.append_nil]
section
variable (root : List UInt8) (hr : root.length ≤ 64) (at_ : UInt64) (h8 : at_.toNat % 8 = 0) (xT : at_.toNat + 8 ≤ 274877906944)
include h8 xT hr
theorem Cy : (Fw root at_).length = 8 := by
  have := (Cw root hr (at_ / 64) (by rw [vi]; omega)).1
  unfold Fw
  simp only [List.length_drop, List.length_take]
  omega
theorem Ov : (if aD (64 - (aD ((at_ % 64).toNat : Int))) < aD (8 - ((([] : List UInt8).length : Nat) : Int)) then aD (64 - (aD ((at_ % 64).toNat : Int))) else aD (8 - ((([] : List UInt8).length : Nat) : Int))) = 8 := by
  have hm := IA at_
  have hp := And.intro hr xT
  have e1 : aD ((at_ % 64).toNat : Int) = ((at_.toNat % 64 : Nat) : Int) := by rw [hm, Kg _ (by omega)]
  have e2 : aD (8 - ((([] : List UInt8).length : Nat) : Int)) = 8 := rfl
  have e3 : aD (64 - ((at_.toNat % 64 : Nat) : Int)) = 64 - ((at_.toNat % 64 : Nat) : Int) := by rw [gx]; omega
  rw [e1, e2, e3, if_neg (by omega)]
theorem Kh (x : ae UInt8 64) (hx : x.l = Ng root (at_ / 64)) : x5 x.l (aD ((at_ % 64).toNat : Int)) (aD ((aD ((at_ % 64).toNat : Int)) + 8)) = some (Fw root at_) := by
  have hm := IA at_
  have hp := (Cw root hr (at_ / 64) (by rw [vi]; omega)).1
  have e1 : aD ((at_ % 64).toNat : Int) = ((at_.toNat % 64 : Nat) : Int) := by rw [hm, Kg _ (by omega)]
  rw [e1, gx (n := ((at_.toNat % 64 : Nat) : Int) + 8) (by omega), uB (by rw [hx, hp]; omega), hx]
  rfl
theorem Ox (h : ae UInt64 8) (lo hi : UInt64) (held : List UInt8) (bl kd d : Int) (gq key : List UInt8) (last : Bool) (wr : UInt64) (now : ae UInt8 64) (hv : Int) (ho : y8 root now hv) :
    ∃ ib mM, y8 root ib mM ∧ gS [] [] (h, lo, hi, held, bl, kd, d, gq, key, last, wr, root, at_, now, hv) 8 = some (Fw root at_, 0, h, lo, hi, held, bl, kd, d, gq, key, last, wr, root, at_ + 8, ib, mM) := by
  have hp := Cw root hr (at_ / 64) (by rw [vi]; omega)
  have hl := Cy root hr at_ h8 xT
  have ew : aD ((at_ / 64).toNat : Int) = ((at_ / 64).toNat : Int) := Kg _ (by rw [vi]; omega)
  have key : ∃ ib mM, y8 root ib mM ∧ gR [] [] (h, lo, hi, held, bl, kd, d, gq, key, last, wr, root, at_, now, hv) 8 (at_, now, hv, []) = some (.inl (at_ + 8, ib, mM, Fw root at_)) := by
    unfold gR iS
    simp only []
    rw [if_pos (by decide), Ov root hr at_ h8 xT]
    by_cases sJ : hv = aD ((at_ / 64).toNat : Int)
    · rw [if_neg (by simpa using sJ)]
      rcases ho with hm | ⟨i, Ra, Oy, Oz⟩
      · rw [hm, ew] at sJ; omega
      · have Rc : i = at_ / 64 := by
          rw [Oy, ew] at sJ
          exact UInt64.toNat_inj.1 (by omega)
        subst Rc
        rw [Kh root hr at_ h8 xT now Oz]
        simp only [Option.bind_some]
        rw [mO (by simp only [List.length_nil]; omega)]
        exact ⟨now, hv, .inr ⟨_, Ra, Oy, Oz⟩, rfl⟩
    · rw [if_pos sJ, hp.2]
      simp only [Option.bind_some]
      rw [Kh root hr at_ h8 xT _ (xP now _ hp.1)]
      simp only [Option.bind_some]
      rw [mO (by simp only [List.length_nil]; omega)]
      exact ⟨_, _, .inr ⟨at_ / 64, by rw [vi]; omega, ew, xP now _ hp.1⟩, rfl⟩
  obtain ⟨ib, mM, CQ, hs⟩ := key
  refine ⟨ib, mM, CQ, ?_⟩
  unfold gS
  refine iz (fun i => if i = 0 then (at_, now, hv, []) else (at_ + 8, ib, mM, Fw root at_)) 1 (fun i hi => ?_) ?_
  · obtain rfl : i = 0 := by omega
    exact hs
  · rw [if_neg (by decide)]
    unfold gR
    simp only []
    rw [if_neg (by rw [hl]; decide)]
    rfl
theorem MG (h : ae UInt64 8) (lo hi : UInt64) (held : List UInt8) (bl kd d : Int) (gq key : List UInt8) (last : Bool) (wr : UInt64) (now : ae UInt8 64) (hv : Int) (ho : y8 root now hv) :
    ∃ ib mM, y8 root ib mM ∧ ga [] [] root (h, lo, hi, held, bl, kd, d, gq, key, last, wr, at_, now, hv) 8 = some (Fw root at_, 0, h, lo, hi, held, bl, kd, d, gq, key, last, wr, at_ + 8, ib, mM) := by
  have hp := Cw root hr (at_ / 64) (by rw [vi]; omega)
  have hl := Cy root hr at_ h8 xT
  have ew : aD ((at_ / 64).toNat : Int) = ((at_ / 64).toNat : Int) := Kg _ (by rw [vi]; omega)
  have key : ∃ ib mM, y8 root ib mM ∧ f_ [] [] root (h, lo, hi, held, bl, kd, d, gq, key, last, wr, at_, now, hv) 8 (at_, now, hv, []) = some (.inl (at_ + 8, ib, mM, Fw root at_)) := by
    unfold f_ hH
    simp only []
    rw [if_pos (by decide), Ov root hr at_ h8 xT]
    by_cases sJ : hv = aD ((at_ / 64).toNat : Int)
    · rw [if_neg (by simpa using sJ)]
      rcases ho with hm | ⟨i, Ra, Oy, Oz⟩
      · rw [hm, ew] at sJ; omega
      · have Rc : i = at_ / 64 := by
          rw [Oy, ew] at sJ
          exact UInt64.toNat_inj.1 (by omega)
        subst Rc
        rw [Kh root hr at_ h8 xT now Oz]
        simp only [Option.bind_some]
        rw [mO (by simp only [List.length_nil]; omega)]
        exact ⟨now, hv, .inr ⟨_, Ra, Oy, Oz⟩, rfl⟩
    · rw [if_pos sJ, hp.2]
      simp only [Option.bind_some]
      rw [Kh root hr at_ h8 xT _ (xP now _ hp.1)]
      simp only [Option.bind_some]
      rw [mO (by simp only [List.length_nil]; omega)]
      exact ⟨_, _, .inr ⟨at_ / 64, by rw [vi]; omega, ew, xP now _ hp.1⟩, rfl⟩
  obtain ⟨ib, mM, CQ, hs⟩ := key
  refine ⟨ib, mM, CQ, ?_⟩
  unfold ga
  refine iz (fun i => if i = 0 then (at_, now, hv, []) else (at_ + 8, ib, mM, Fw root at_)) 1 (fun i hi => ?_) ?_
  · obtain rfl : i = 0 := by omega
    exact hs
  · rw [if_neg (by decide)]
    unfold f_
    simp only []
    rw [if_neg (by rw [hl]; decide)]
    rfl
end
end Go.Sx
namespace Go.Sx
open Go.RowKit
set_option linter.unusedVariables false
set_option linter.unusedSimpArgs false
theorem nz : ¬ ((0 : Int) ≠ 0) := by decide
theorem Dv (at_ : UInt64) (h : at_.toNat ≤ 274877906944) : ((274877906944 : UInt64) - at_).toNat = 274877906944 - at_.toNat := by
  rw [UInt64.toNat_sub_of_le _ _ (UInt64.le_iff_toNat_le.2 h)]; rfl
theorem Fy (at_ : UInt64) (h : at_.toNat + 8 ≤ 274877906944) : ¬ ((274877906944 : UInt64) - at_) = 0 := by
  intro e
  have := congrArg UInt64.toNat e
  rw [Dv at_ (by omega)] at this
  have e0 : (0 : UInt64).toNat = 0 := rfl
  omega
theorem Fz (at_ : UInt64) (h : at_.toNat + 8 ≤ 274877906944) : ¬ ((274877906944 : UInt64) - at_) < 8 := by
  intro e
  have := UInt64.lt_iff_toNat_lt.1 e
  rw [Dv at_ (by omega)] at this
  have e0 : (8 : UInt64).toNat = 8 := rfl
  omega
section
variable (R : List UInt8) (hR : R.length = 64) (d : Int) (gq nk : List UInt8) (last : Bool) (wr : UInt64) (h : ae UInt64 8) (lo hi : UInt64) (held : List UInt8) (hh : held.length ≤ 128)
  (hn : eJ 1 d gq nk last wr h lo hi held 128 64 = some (R, 0, h, lo, hi, held, 128, 1, d, gq, nk, last, wr))
  (fT key : List UInt8) (at_ : UInt64) (now : ae UInt8 64) (hv : Int)
include hh in
theorem MH : iq h lo hi held 128 = some (h, lo, hi, held, 128, h, lo, hi, held, 128) := by
  unfold iq
  rw [lN (by decide)]
  rw [Option.bind_some]
  rw [show Int.toNat (0 : Int) = 0 from rfl, List.replicate_zero, mO (by simp only [List.length_nil]; omega)]
  rfl
include hh in
theorem IB : kD 1 d gq nk last wr h lo hi held 128 = some (1, d, gq, nk, last, wr, h, lo, hi, held, 128, h, lo, hi, held, 128, 1, d, last, wr) := by
  unfold kD js
  rw [Option.bind_some]
  rw [MH h lo hi held hh]
  rfl
include hh in
theorem KP : hP key [] [] 1 d gq nk last wr h lo hi held 128 at_ now hv = some (1, d, gq, nk, last, wr, h, lo, hi, held, 128, at_, now, hv, h, lo, hi, held, 128, 1, d, last, wr, at_, now, hv) := by
  unfold hP ji
  rw [Option.bind_some]
  rw [IB d gq nk last wr h lo hi held hh]
  rfl
include hh in
theorem MI : iU key [] [] 1 d gq nk last wr h lo hi held 128 R at_ now hv = some (1, d, gq, nk, last, wr, h, lo, hi, held, 128, at_, now, hv, h, lo, hi, held, 128, 1, d, last, wr, at_, now, hv) := by
  unfold iU gY
  rw [Option.bind_some]
  rw [IB d gq nk last wr h lo hi held hh]
  rfl
include hn hR in
theorem OA : j6 key [] [] 1 d gq nk last wr h lo hi held 128 at_ now hv = some (h, lo, hi, held, 128, 1, d, gq, nk, last, wr, R, at_, now, hv) := by
  unfold j6
  rw [hn]
  rw [Option.bind_some]
  rw [lN (by intro e; dsimp only at e; rw [e] at hR; cases hR)]
  rfl
variable (h8 : at_.toNat % 8 = 0) (xT : at_.toNat + 8 ≤ 274877906944) (ho : y8 R now hv)
include hn hR h8 xT ho in
theorem IC : ∃ ib mM, y8 R ib mM ∧ j7 key [] [] 1 d gq nk last wr h lo hi held 128 at_ now hv = some (Fw R at_, 0, h, lo, hi, held, 128, 1, d, gq, nk, last, wr, R, at_ + 8, ib, mM) := by
  obtain ⟨ib, mM, CQ, hs⟩ := Ox R (by omega) at_ h8 xT h lo hi held 128 1 d gq nk last wr now hv ho
  refine ⟨ib, mM, CQ, ?_⟩
  unfold j7 ji
  rw [Option.bind_some]
  rw [OA R hR d gq nk last wr h lo hi held hn key at_ now hv]
  rw [Option.bind_some]
  rw [if_neg (Fy at_ xT), if_neg (Fz at_ xT)]
  exact hs
include hR h8 xT ho in
theorem FA : ∃ ib mM, y8 R ib mM ∧ iV key [] [] 1 d gq nk last wr h lo hi held 128 R at_ now hv = some (Fw R at_, 0, h, lo, hi, held, 128, 1, d, gq, nk, last, wr, at_ + 8, ib, mM) := by
  obtain ⟨ib, mM, CQ, hs⟩ := MG R (by omega) at_ h8 xT h lo hi held 128 1 d gq nk last wr now hv ho
  refine ⟨ib, mM, CQ, ?_⟩
  unfold iV gY kf
  rw [Option.bind_some, Option.bind_some]
  rw [if_neg (Fy at_ xT), if_neg (Fz at_ xT)]
  exact hs
noncomputable def IX (R : List UInt8) (at_ : UInt64) : UInt64 := AM (Fw R at_) 0
include hR h8 xT in
theorem FB : iM (Fw R at_) 0 = some (IX R at_, 0) := by
  have hl := Cy R (by omega) at_ h8 xT
  exact Ew (Fw R at_) 0 (by omega) (by omega)
include hn hR h8 xT ho hh in
end
end Go.Sx
namespace Go.Sx
open Go.RowKit
set_option linter.unusedVariables false
set_option linter.unusedSimpArgs false
section
variable (at_ n : UInt64) (m : Nat) (hm : at_.toNat = 8 * m) (hl : m < 34359738368) (hn : m + n.toNat ≤ 34359738368)
include hm
end
section
variable (R : List UInt8) (hR : R.length = 64) (d : Int) (gq nk : List UInt8) (last : Bool) (wr : UInt64) (h : ae UInt64 8) (lo hi : UInt64) (held : List UInt8)
  (hn : eJ 1 d gq nk last wr h lo hi held 128 64 = some (R, 0, h, lo, hi, held, 128, 1, d, gq, nk, last, wr))
  (fT key : List UInt8) (at_ : UInt64) (now : ae UInt8 64) (hv : Int)
variable (n : UInt64) (m : Nat) (hm : at_.toNat = 8 * m) (hl : m < 34359738368) (hk : m + n.toNat ≤ 34359738368)
include hm hl hk in
end
end Go.Sx
namespace Go.Sx
open Go.RowKit
set_option linter.unusedVariables false
set_option linter.unusedSimpArgs false
theorem OB (b : List UInt8) (h : b.length ≤ 64) : mW b = some b := by
  unfold mW
  rw [mO (by simp only [List.length_nil]; omega), Option.bind_some, List.nil_append]
theorem MJ (key : List UInt8) (h : key.length ≤ 64) : nW key [] [] = some 0 := by
  unfold nW o1 mF jt
  rw [Option.bind_some, if_neg (by omega), Option.bind_some, Af, Oq _ h, Option.bind_some]
theorem OC (key : List UInt8) (h : key.length ≤ 64) : ∃ gq, gq.length = 64 ∧ mQ 1 64 ((key.length : Nat) : Int) 1 1 0 0 4294967295 0 0 [] [] key = some (Sum.inr (Sum.inl (1, 64, gq, key, Dq gq, 0, 0, AO.kb key, 128))) := by
  obtain ⟨Ou, _⟩ := It 1 64 ((key.length : Nat) : Int) 1 1 0 0 4294967295 0 0 [] [] (Oq _ h)
  have Q6 : (Ir 1 64 ((key.length : Nat) : Int) 1 1 0 0 4294967295 0 0 [] []).length = 64 := by rw [Du _ _ _ _ _ _ _ _ _ _ _ _ (.inl ⟨rfl, by simp, by simp⟩)]; rfl
  refine ⟨_, Q6, ?_⟩
  unfold mQ
  rw [Ou]
  rw [Option.bind_some]
  dsimp only
  rw [if_neg nz, if_neg (by simp)]
  unfold p6
  rw [mO (by simp; omega), mO (by simp; omega)]
  rw [Option.bind_some, Option.bind_some, List.nil_append, List.nil_append]
  rw [Iy 64 _ key Q6 (by omega)]
  rw [Option.bind_some, Sum.elim_inl, Option.bind_some, Sum.elim_inl]
theorem OD (fT : List UInt8) (h : fT.length ≤ 64) : ∃ gq, gq.length = 64 ∧ nA fT = some (Sum.inr (fT, fT, [], [], 1, 64, gq, fT, Dq gq, 0, 0, AO.kb fT, 128, ae.rep 64 (0 : UInt8))) := by
  obtain ⟨gq, hb, hn⟩ := OC fT h
  refine ⟨gq, hb, ?_⟩
  unfold nA
  rw [if_neg (by omega)]
  unfold sb
  rw [MJ fT h, Option.bind_some, if_neg nz, OB fT h, OB [] (by simp)]
  rw [Option.bind_some, Option.bind_some, Option.bind_some]
  unfold lu jt
  rw [Option.bind_some, hn, Option.bind_some, Sum.elim_inr, Sum.elim_inl, Option.bind_some, Option.bind_some, Sum.elim_inr]
  rw [mO (by simp only [List.length_nil]; omega), Option.bind_some, List.nil_append]
end Go.Sx
namespace Go.Sx
open Go.RowKit
set_option linter.unusedVariables false
set_option linter.unusedSimpArgs false
noncomputable def OE (i : Nat) : Bool := match jk (UInt64.ofNat i) 0 with
  | some c => decide (1 ≤ c ∧ c ≤ 8 ∧ 2 ^ (c.toNat - 1) ≤ i ∧ i < 2 ^ c.toNat)
  | none => false
theorem MK : (List.range 256).all (fun i => i == 0 || OE i) = true := by kernel_rfl
theorem ML (n : UInt64) (h1 : 0 < n.toNat) (h2 : n.toNat < 256) : ∃ c : Nat, 1 ≤ c ∧ c ≤ 8 ∧ 2 ^ (c - 1) ≤ n.toNat ∧ n.toNat < 2 ^ c ∧ jk n 0 = some (c : Int) := by
  have h := List.all_eq_true.1 MK n.toNat (List.mem_range.2 h2)
  rw [Bool.or_eq_true, beq_iff_eq] at h
  have h := h.resolve_left (by omega)
  unfold OE at h
  rw [UInt64.ofNat_toNat] at h
  split at h
  · rename_i c hc
    obtain ⟨q1, q2, q3, q4⟩ := of_decide_eq_true h
    refine ⟨c.toNat, by omega, by omega, q3, q4, ?_⟩
    rw [hc]
    congr 1
    omega
  · cases h
theorem Ki (x : UInt64) (s : Nat) (h : x.toNat * 2 ^ s < 18446744073709551616) : (aC x s).toNat = x.toNat * 2 ^ s := by
  show (x.toBitVec <<< s).toNat = _
  rw [BitVec.toNat_shiftLeft, Nat.shiftLeft_eq]
  exact Nat.mod_eq_of_lt h
theorem y9 (x : UInt64) (s : Nat) : (aK x s).toNat = x.toNat / 2 ^ s := by
  show (x.toBitVec >>> s).toNat = _
  rw [BitVec.toNat_ushiftRight, Nat.shiftRight_eq_div_pow]
  rfl
section
variable (hi lo y : UInt64) (r : Int) (hy : 0 < (aK (aC y ((UInt64.ofInt r).toNat)) ((32 : UInt64).toNat)).toNat) (KQ : (aK (aC y ((UInt64.ofInt r).toNat)) ((32 : UInt64).toNat)).toNat < 4294967296)
include hy in
theorem R7 : aK (aC y ((UInt64.ofInt r).toNat)) ((32 : UInt64).toNat) ≠ 0 := by
  intro e; rw [e] at hy; exact absurd hy (by decide)
include hy KQ
theorem Re (q1 : UInt64) : ∀ (k : Nat) (l0 q : UInt64), 4294967296 ≤ l0.toNat + k → l0.toNat < 4294967296 → ∃ x, cf (j1 hi lo y r q1) (l0, q) = some x := by
  intro k
  induction k with
  | zero => intro l0 q h1 h2; omega
  | succ k ih =>
    intro l0 q h1 h2
    have hs : (l0 + aK (aC y ((UInt64.ofInt r).toNat)) ((32 : UInt64).toNat)).toNat = l0.toNat + (aK (aC y ((UInt64.ofInt r).toNat)) ((32 : UInt64).toNat)).toNat := by
      rw [UInt64.toNat_add]; omega
    by_cases hc : ((decide ((4294967296 : UInt64) ≤ q)) || (decide ((((4294967296 : UInt64) * l0) + ((aC lo ((UInt64.ofInt r).toNat)) &&& 4294967295)) < (q * ((aC y ((UInt64.ofInt r).toNat)) &&& 4294967295))))) = true
    · by_cases hd : (4294967296 : UInt64) ≤ l0 + aK (aC y ((UInt64.ofInt r).toNat)) ((32 : UInt64).toNat)
      · refine ⟨_, l5 (r := ?_) ?_⟩
        rotate_left
        · unfold j1
          simp only []
          rw [if_pos hc, if_pos hd]
          rfl
      · have q7 : ¬ 4294967296 ≤ (l0 + aK (aC y ((UInt64.ofInt r).toNat)) ((32 : UInt64).toNat)).toNat := fun h => hd (UInt64.le_iff_toNat_le.2 h)
        obtain ⟨x, hx⟩ := ih (l0 + aK (aC y ((UInt64.ofInt r).toNat)) ((32 : UInt64).toNat)) (q - 1) (by omega) (by omega)
        refine ⟨x, ?_⟩
        rw [r4 (s' := (l0 + aK (aC y ((UInt64.ofInt r).toNat)) ((32 : UInt64).toNat), q - 1)) (by
          unfold j1
          simp only []
          rw [if_pos hc, if_neg hd])]
        exact hx
    · refine ⟨_, l5 (r := ?_) ?_⟩
      rotate_left
      · unfold j1
        simp only []
        rw [if_neg hc]
        rfl
theorem OF (q1 : UInt64) : ∃ x, mo hi lo y r q1 = some x := by
  unfold mo
  rw [lN (R7 y r hy), Option.bind_some]
  generalize hY : aK (aC y ((UInt64.ofInt r).toNat)) ((32 : UInt64).toNat) = Y
  generalize ((((aC hi ((UInt64.ofInt r).toNat)) ||| (aK lo (((64 : UInt64) - (UInt64.ofInt r)).toNat))) * 4294967296) + (aK (aC lo ((UInt64.ofInt r).toNat)) ((32 : UInt64).toNat))) - (q1 * (aC y ((UInt64.ofInt r).toNat))) = X
  rw [hY] at hy KQ
  have hX : (X - X / Y * Y).toNat < 4294967296 := by
    have e1 : (X / Y * Y).toNat = X.toNat / Y.toNat * Y.toNat := by
      rw [UInt64.toNat_mul, UInt64.toNat_div]
      exact Nat.mod_eq_of_lt (Nat.lt_of_le_of_lt (Nat.div_mul_le_self _ _) X.toNat_lt)
    rw [UInt64.toNat_sub_of_le _ _ (UInt64.le_iff_toNat_le.2 (by rw [e1]; exact Nat.div_mul_le_self _ _)), e1]
    have h1 := Nat.mod_lt X.toNat hy
    have h2 := Nat.div_add_mod X.toNat Y.toNat
    rw [Nat.mul_comm] at h2
    omega
  subst hY
  exact Re hi lo y r hy KQ q1 4294967296 _ _ (by omega) hX
theorem Rf : ∀ (k : Nat) (q l0 : UInt64), 4294967296 ≤ l0.toNat + k → l0.toNat < 4294967296 → ∃ x, cf (j2 hi lo y r) (q, l0) = some x := by
  intro k
  induction k with
  | zero => intro q l0 h1 h2; omega
  | succ k ih =>
    intro q l0 h1 h2
    have hs : (l0 + aK (aC y ((UInt64.ofInt r).toNat)) ((32 : UInt64).toNat)).toNat = l0.toNat + (aK (aC y ((UInt64.ofInt r).toNat)) ((32 : UInt64).toNat)).toNat := by
      rw [UInt64.toNat_add]; omega
    by_cases hc : ((decide ((4294967296 : UInt64) ≤ q)) || (decide ((((4294967296 : UInt64) * l0) + (aK (aC lo ((UInt64.ofInt r).toNat)) ((32 : UInt64).toNat))) < (q * ((aC y ((UInt64.ofInt r).toNat)) &&& 4294967295))))) = true
    · by_cases hd : (4294967296 : UInt64) ≤ l0 + aK (aC y ((UInt64.ofInt r).toNat)) ((32 : UInt64).toNat)
      · obtain ⟨x, hx⟩ := OF hi lo y r hy KQ (q - 1)
        refine ⟨x, l5 ?_⟩
        unfold j2
        simp only []
        rw [if_pos hc, if_pos hd]
        unfold lb
        rw [hx]
        rfl
      · have q7 : ¬ 4294967296 ≤ (l0 + aK (aC y ((UInt64.ofInt r).toNat)) ((32 : UInt64).toNat)).toNat := fun h => hd (UInt64.le_iff_toNat_le.2 h)
        obtain ⟨x, hx⟩ := ih (q - 1) (l0 + aK (aC y ((UInt64.ofInt r).toNat)) ((32 : UInt64).toNat)) (by omega) (by omega)
        refine ⟨x, ?_⟩
        rw [r4 (s' := (q - 1, l0 + aK (aC y ((UInt64.ofInt r).toNat)) ((32 : UInt64).toNat))) (by
          unfold j2
          simp only []
          rw [if_pos hc, if_neg hd])]
        exact hx
    · obtain ⟨x, hx⟩ := OF hi lo y r hy KQ q
      refine ⟨x, l5 ?_⟩
      unfold j2
      simp only []
      rw [if_neg hc]
      unfold lb
      rw [hx]
      rfl
end
end Go.Sx
namespace Go.Sx
open Go.RowKit
set_option linter.unusedVariables false
set_option linter.unusedSimpArgs false
section
variable (R : List UInt8) (hR : R.length = 64) (d : Int) (gq nk : List UInt8) (last : Bool) (wr : UInt64) (h : ae UInt64 8) (lo hi : UInt64) (held : List UInt8)
  (hn : eJ 1 d gq nk last wr h lo hi held 128 64 = some (R, 0, h, lo, hi, held, 128, 1, d, gq, nk, last, wr))
  (fT key : List UInt8) (EB : Int)
include hR
theorem MM (at_ : UInt64) (now : ae UInt8 64) (hv : Int) (h8 : at_.toNat % 8 = 0) (xT : at_.toNat + 8 ≤ 274877906944) (ho : y8 R now hv) :
    ∃ ib mM, y8 R ib mM ∧ fC fT key [] [] 1 d gq nk last wr h lo hi held 128 R at_ now hv EB = some (IX R at_, h, lo, hi, held, 128, 1, d, gq, nk, last, wr, at_ + 8, ib, mM, EB) := by
  obtain ⟨ib, mM, CQ, hs⟩ := FA R hR d gq nk last wr h lo hi held key at_ now hv h8 xT ho
  refine ⟨ib, mM, CQ, ?_⟩
  unfold fC
  rw [hs, Option.bind_some, if_neg nz, FB R hR at_ h8 xT, Option.bind_some]
include hn in
theorem OG (at_ : UInt64) (now : ae UInt8 64) (hv : Int) (h8 : at_.toNat % 8 = 0) (xT : at_.toNat + 8 ≤ 274877906944) (ho : y8 R now hv) :
    ∃ ib mM, y8 R ib mM ∧ gy fT key [] [] 1 d gq nk last wr h lo hi held 128 at_ now hv EB = some (IX R at_, h, lo, hi, held, 128, 1, d, gq, nk, last, wr, R, at_ + 8, ib, mM, EB) := by
  obtain ⟨ib, mM, CQ, hs⟩ := IC R hR d gq nk last wr h lo hi held hn key at_ now hv h8 xT ho
  refine ⟨ib, mM, CQ, ?_⟩
  unfold gy
  rw [hs, Option.bind_some, if_neg nz, FB R hR at_ h8 xT, Option.bind_some]
variable (n : UInt64) (h1 : 0 < n.toNat)
include h1
variable (h2 : n.toNat < 256) (m : Nat) (at_ : UInt64) (now : ae UInt8 64) (hv : Int) (hm : at_.toNat = 8 * m) (hl : m + 64 ≤ 34359738368) (ho : y8 R now hv)
include h2 hm hl ho
end
end Go.Sx
namespace Go.Sx
open Go.RowKit
set_option linter.unusedVariables false
set_option linter.unusedSimpArgs false
theorem len8 (n : UInt64) (a : Int) (ha : 0 ≤ a ∧ a ≤ 56) (h1 : 0 < n.toNat) (h2 : n.toNat < 256) : ∃ c : Nat, 1 ≤ c ∧ c ≤ 8 ∧ 2 ^ (c - 1) ≤ n.toNat ∧ n.toNat < 2 ^ c ∧ jk n a = some (a + (c : Int)) := by
  obtain ⟨c, q1, q2, q3, q4, q5⟩ := ML n h1 h2
  refine ⟨c, q1, q2, q3, q4, ?_⟩
  unfold jk at q5 ⊢
  rw [Option.bind_eq_some_iff] at q5
  obtain ⟨t, ht, he⟩ := q5
  rw [ht, Option.bind_some]
  simp only [Option.some.injEq] at he ⊢
  have UO := t.toNat_lt
  rw [gx (by omega)] at he
  rw [gx (by omega)]
  omega
theorem KR (n : UInt64) (a : Int) (ha : 0 ≤ a ∧ a ≤ 48) (h1 : 0 < n.toNat) (h2 : n.toNat < 65536) : ∃ c : Nat, 1 ≤ c ∧ c ≤ 16 ∧ 2 ^ (c - 1) ≤ n.toNat ∧ n.toNat < 2 ^ c ∧ k9 n a = some (a + (c : Int)) := by
  unfold k9
  by_cases h : (256 : UInt64) ≤ n
  · have h3 := UInt64.le_iff_toNat_le.1 h
    have e1 : (256 : UInt64).toNat = 256 := rfl
    rw [if_pos h, gx (by omega)]
    have hs : (aK n ((8 : UInt64).toNat)).toNat = n.toNat / 2 ^ 8 := y9 n 8
    obtain ⟨c, q1, q2, q3, q4, q5⟩ := len8 (aK n ((8 : UInt64).toNat)) (a + 8) (by omega) (by rw [hs]; omega) (by rw [hs]; omega)
    refine ⟨c + 8, by omega, by omega, ?_, ?_, by rw [q5]; congr 1; omega⟩
    · rw [hs] at q3
      rw [show c + 8 - 1 = c - 1 + 8 from by omega, Nat.pow_add]
      exact (Nat.le_div_iff_mul_le (by decide)).1 q3
    · rw [hs] at q4
      rw [Nat.pow_add]
      exact (Nat.div_lt_iff_lt_mul (by decide)).1 q4
  · have h3 : ¬ 256 ≤ n.toNat := fun e => h (UInt64.le_iff_toNat_le.2 e)
    rw [if_neg h]
    obtain ⟨c, q1, q2, q3, q4, q5⟩ := len8 n a (by omega) h1 (by omega)
    exact ⟨c, q1, by omega, q3, q4, q5⟩
theorem KS (n : UInt64) (a : Int) (ha : 0 ≤ a ∧ a ≤ 32) (h1 : 0 < n.toNat) (h2 : n.toNat < 4294967296) : ∃ c : Nat, 1 ≤ c ∧ c ≤ 32 ∧ 2 ^ (c - 1) ≤ n.toNat ∧ n.toNat < 2 ^ c ∧ la n a = some (a + (c : Int)) := by
  unfold la
  by_cases h : (65536 : UInt64) ≤ n
  · have h3 := UInt64.le_iff_toNat_le.1 h
    have e1 : (65536 : UInt64).toNat = 65536 := rfl
    rw [if_pos h, gx (by omega)]
    have hs : (aK n ((16 : UInt64).toNat)).toNat = n.toNat / 2 ^ 16 := y9 n 16
    obtain ⟨c, q1, q2, q3, q4, q5⟩ := KR (aK n ((16 : UInt64).toNat)) (a + 16) (by omega) (by rw [hs]; omega) (by rw [hs]; omega)
    refine ⟨c + 16, by omega, by omega, ?_, ?_, by rw [q5]; congr 1; omega⟩
    · rw [hs] at q3
      rw [show c + 16 - 1 = c - 1 + 16 from by omega, Nat.pow_add]
      exact (Nat.le_div_iff_mul_le (by decide)).1 q3
    · rw [hs] at q4
      rw [Nat.pow_add]
      exact (Nat.div_lt_iff_lt_mul (by decide)).1 q4
  · have h3 : ¬ 65536 ≤ n.toNat := fun e => h (UInt64.le_iff_toNat_le.2 e)
    rw [if_neg h]
    obtain ⟨c, q1, q2, q3, q4, q5⟩ := KR n a (by omega) h1 (by omega)
    exact ⟨c, q1, by omega, q3, q4, q5⟩
theorem Rg (n : UInt64) (h1 : 0 < n.toNat) : ∃ c : Nat, 1 ≤ c ∧ c ≤ 64 ∧ 2 ^ (c - 1) ≤ n.toNat ∧ n.toNat < 2 ^ c ∧ jo n = some ((64 - c : Nat) : Int) := by
  have hn := n.toNat_lt
  have key : ∃ c : Nat, 1 ≤ c ∧ c ≤ 64 ∧ 2 ^ (c - 1) ≤ n.toNat ∧ n.toNat < 2 ^ c ∧ o5 n = some (c : Int) := by
    unfold o5
    by_cases h : (4294967296 : UInt64) ≤ n
    · have h3 := UInt64.le_iff_toNat_le.1 h
      have e1 : (4294967296 : UInt64).toNat = 4294967296 := rfl
      rw [if_pos h]
      have hs : (aK n ((32 : UInt64).toNat)).toNat = n.toNat / 2 ^ 32 := y9 n 32
      obtain ⟨c, q1, q2, q3, q4, q5⟩ := KS (aK n ((32 : UInt64).toNat)) 32 (by omega) (by rw [hs]; omega) (by rw [hs]; omega)
      refine ⟨c + 32, by omega, by omega, ?_, ?_, by rw [q5]; congr 1; omega⟩
      · rw [hs] at q3
        rw [show c + 32 - 1 = c - 1 + 32 from by omega, Nat.pow_add]
        exact (Nat.le_div_iff_mul_le (by decide)).1 q3
      · rw [hs] at q4
        rw [Nat.pow_add]
        exact (Nat.div_lt_iff_lt_mul (by decide)).1 q4
    · have h3 : ¬ 4294967296 ≤ n.toNat := fun e => h (UInt64.le_iff_toNat_le.2 e)
      rw [if_neg h]
      obtain ⟨c, q1, q2, q3, q4, q5⟩ := KS n 0 (by omega) h1 (by omega)
      exact ⟨c, q1, by omega, q3, q4, by rw [q5]; congr 1; omega⟩
  obtain ⟨c, q1, q2, q3, q4, q5⟩ := key
  refine ⟨c, q1, q2, q3, q4, ?_⟩
  unfold jo
  rw [q5, Option.bind_some, gx (by omega)]
  congr 1
  omega
theorem Rh (n : UInt64) (h1 : 0 < n.toNat) : ∃ x, o6 (1 % n) 0 n = some x := by
  have e1 : (1 : UInt64).toNat = 1 := rfl
  have Gk : ¬ n = 0 := by intro e; rw [e] at h1; exact absurd h1 (by decide)
  have hm : (1 % n).toNat < n.toNat := by rw [UInt64.toNat_mod, e1]; exact Nat.mod_lt _ h1
  unfold o6 ox
  rw [if_neg Gk, if_neg (by intro h; have := UInt64.le_iff_toNat_le.1 h; omega)]
  unfold ow
  by_cases h0 : 1 % n = 0
  · rw [if_pos h0, lN Gk, Option.bind_some, Option.bind_some]; exact ⟨_, rfl⟩
  rw [if_neg h0]
  obtain ⟨c, q1, q2, q3, q4, q5⟩ := Rg n h1
  have hr : (UInt64.ofInt ((64 - c : Nat) : Int)).toNat = 64 - c := by
    rw [Ft, UInt64.toNat_ofNat_of_lt' (by show 64 - c < 18446744073709551616; omega)]
  have hp : 2 ^ c * 2 ^ (64 - c) = 18446744073709551616 := by
    rw [← Nat.pow_add, show c + (64 - c) = 64 from by omega]
  have TV : 2 ^ (c - 1) * 2 ^ (64 - c) = 9223372036854775808 := by
    rw [← Nat.pow_add, show c - 1 + (64 - c) = 63 from by omega]
  have OH : 0 < 2 ^ (64 - c) := Nat.pow_pos (by omega)
  have q7 : n.toNat * 2 ^ (64 - c) < 18446744073709551616 := by
    rw [← hp]; exact (Nat.mul_lt_mul_right OH).2 q4
  have Ny : 9223372036854775808 ≤ n.toNat * 2 ^ (64 - c) := by
    rw [← TV]; exact Nat.mul_le_mul_right _ q3
  have hY : (aK (aC n ((UInt64.ofInt ((64 - c : Nat) : Int)).toNat)) ((32 : UInt64).toNat)).toNat = n.toNat * 2 ^ (64 - c) / 4294967296 := by
    rw [y9, hr, Ki _ _ q7]
    rfl
  have hy : 0 < (aK (aC n ((UInt64.ofInt ((64 - c : Nat) : Int)).toNat)) ((32 : UInt64).toNat)).toNat := by rw [hY]; omega
  have KQ : (aK (aC n ((UInt64.ofInt ((64 - c : Nat) : Int)).toNat)) ((32 : UInt64).toNat)).toNat < 4294967296 := by rw [hY]; omega
  rw [q5, Option.bind_some, lN (R7 n _ hy), Option.bind_some]
  refine Rf (1 % n) 0 n _ hy KQ 4294967296 _ _ (by omega) ?_
  generalize hX : aC (1 % n) ((UInt64.ofInt ((64 - c : Nat) : Int)).toNat) ||| aK 0 (((64 : UInt64) - (UInt64.ofInt ((64 - c : Nat) : Int))).toNat) = X
  generalize aK (aC n ((UInt64.ofInt ((64 - c : Nat) : Int)).toNat)) ((32 : UInt64).toNat) = Y at hy KQ
  have e2 : (X / Y * Y).toNat = X.toNat / Y.toNat * Y.toNat := by
    rw [UInt64.toNat_mul, UInt64.toNat_div]
    exact Nat.mod_eq_of_lt (Nat.lt_of_le_of_lt (Nat.div_mul_le_self _ _) X.toNat_lt)
  rw [UInt64.toNat_sub_of_le _ _ (UInt64.le_iff_toNat_le.2 (by rw [e2]; exact Nat.div_mul_le_self _ _)), e2]
  have h3 := Nat.mod_lt X.toNat hy
  have h4 := Nat.div_add_mod X.toNat Y.toNat
  rw [Nat.mul_comm] at h4
  omega
section
variable (R : List UInt8) (hR : R.length = 64) (d : Int) (gq nk : List UInt8) (last : Bool) (wr : UInt64) (h : ae UInt64 8) (lo hi : UInt64) (held : List UInt8)
  (fT key : List UInt8) (EB : Int)
include hR
variable (n : UInt64) (h1 : 0 < n.toNat)
include h1
theorem Kj (x : UInt64 × UInt64) (y : (UInt64 × ae UInt64 8 × UInt64 × UInt64 × List UInt8 × Int × Int × Int × List UInt8 × List UInt8 × Bool × UInt64 × List UInt8 × UInt64 × ae UInt8 64 × Int × Int)) (hy : y.2.2.2.2.2.2.2.2.2.2.2.2.1 = R) : ∀ (k t m : Nat) (at_ : UInt64) (now : ae UInt8 64) (hv : Int) (w : UInt64), t + k = 64 → at_.toNat = 8 * m → m + k ≤ 34359738368 → y8 R now hv →
    ∃ (v : UInt64) (m' : Nat) (yY : UInt64) (ib : ae UInt8 64) (mM : Int), m ≤ m' ∧ m' ≤ m + k ∧ yY.toNat = 8 * m' ∧ y8 R ib mM ∧ v.toNat < n.toNat ∧
      cf (iW fT key [] [] n x y) (1, d, gq, nk, last, wr, h, lo, hi, held, 128, at_, now, hv, EB, w, (t : Int)) = some (v, h, lo, hi, held, 128, 1, d, gq, nk, last, wr, R, yY, ib, mM, EB) := by
  have Gk : n ≠ 0 := by intro e; rw [e] at h1; exact absurd h1 (by decide)
  intro k
  induction k with
  | zero =>
    intro t m at_ now hv w ht hm hl ho
    refine ⟨w % n, m, at_, now, hv, by omega, by omega, hm, ho, by rw [UInt64.toNat_mod]; exact Nat.mod_lt _ h1, l5 ?_⟩
    unfold iW
    dsimp only
    rw [if_neg (by
      rw [show (decide ((t : Int) < 64)) = false from decide_eq_false (by omega), Bool.and_false]; decide), lN Gk, Option.bind_some, hy]
    rfl
  | succ k ih =>
    intro t m at_ now hv w ht hm hl ho
    by_cases hc : (((decide (x.2 ≠ 0)) && (decide (((0 - x.2) - 1) < w))) && (decide ((t : Int) < 64))) = true
    · obtain ⟨EC, Jh, Ri, hd⟩ := MM R hR d gq nk last wr h lo hi held fT key EB at_ now hv (by omega) (by omega) ho
      obtain ⟨v, m', yY, ib, mM, q0, q1, q2, q3, q4, q5⟩ := ih (t + 1) (m + 1) (at_ + 8) EC Jh (IX R at_) (by omega) (by rw [UInt64.toNat_add, hm, show (8 : UInt64).toNat = 8 from rfl]; omega) (by omega) Ri
      refine ⟨v, m', yY, ib, mM, by omega, by omega, q2, q3, q4, ?_⟩
      rw [r4 (s' := (1, d, gq, nk, last, wr, h, lo, hi, held, 128, at_ + 8, EC, Jh, EB, IX R at_, ((t + 1 : Nat) : Int))) (by
        unfold iW
        dsimp only
        rw [if_pos hc, hy, hd, Option.bind_some]
        dsimp only
        rw [show aD ((t : Int) + 1) = ((t + 1 : Nat) : Int) from by rw [gx] <;> omega])]
      exact q5
    · refine ⟨w % n, m, at_, now, hv, by omega, by omega, hm, ho, by rw [UInt64.toNat_mod]; exact Nat.mod_lt _ h1, l5 ?_⟩
      unfold iW
      dsimp only
      rw [if_neg hc, lN Gk, Option.bind_some, hy]
      rfl
end
section
variable (R : List UInt8) (hR : R.length = 64) (d : Int) (gq nk : List UInt8) (last : Bool) (wr : UInt64) (h : ae UInt64 8) (lo hi : UInt64) (held : List UInt8)
  (hn : eJ 1 d gq nk last wr h lo hi held 128 64 = some (R, 0, h, lo, hi, held, 128, 1, d, gq, nk, last, wr))
  (fT key : List UInt8) (EB : Int)
variable (n : UInt64) (h1 : 0 < n.toNat) (m : Nat) (at_ : UInt64) (now : ae UInt8 64) (hv : Int) (hm : at_.toNat = 8 * m) (hl : m + 64 ≤ 34359738368) (ho : y8 R now hv)
include hR hn h1 hm hl ho
theorem MN : ∃ (v : UInt64) (m' : Nat) (yY : UInt64) (ib : ae UInt8 64) (mM : Int), m + 1 ≤ m' ∧ m' ≤ m + 64 ∧ yY.toNat = 8 * m' ∧ y8 R ib mM ∧ v.toNat < n.toNat ∧
      mZ fT key [] [] 1 d gq nk last wr h lo hi held 128 at_ now hv EB n = some (v, h, lo, hi, held, 128, 1, d, gq, nk, last, wr, R, yY, ib, mM, EB) := by
  have Gk : n ≠ 0 := by intro e; rw [e] at h1; exact absurd h1 (by decide)
  obtain ⟨x, hx⟩ := Rh n h1
  obtain ⟨EC, Jh, Ri, hd⟩ := OG R hR d gq nk last wr h lo hi held hn fT key EB at_ now hv (by omega) (by omega) ho
  obtain ⟨v, m', yY, ib, mM, q0, q1, q2, q3, q4, q5⟩ := Kj R hR d gq nk last wr h lo hi held fT key EB n h1 x (IX R at_, h, lo, hi, held, 128, 1, d, gq, nk, last, wr, R, at_ + 8, EC, Jh, EB) rfl 63 1 (m + 1) (at_ + 8) EC Jh (IX R at_) rfl (by rw [UInt64.toNat_add, hm, show (8 : UInt64).toNat = 8 from rfl]; omega) (by omega) Ri
  refine ⟨v, m', yY, ib, mM, by omega, by omega, q2, q3, q4, ?_⟩
  unfold mZ
  rw [lN Gk, Option.bind_some, hx, Option.bind_some, hd, Option.bind_some]
  exact q5
end
end Go.Sx
namespace Go.Sx
set_option linter.unusedVariables false
set_option linter.unusedSimpArgs false
def fv (r : Nat) : Nat := if r < 4503599627370496 then r else (4503599627370496 + r % 4503599627370496) * 2 ^ (r / 4503599627370496 - 1)
theorem Cz {t k : Nat} (h1 : t = 0 ∨ 4503599627370496 ≤ k) (h2 : k ≤ 2 * 4503599627370496) : fv (t * 4503599627370496 + k) = k * 2 ^ t := by
  unfold fv
  rcases Nat.lt_or_ge k 4503599627370496 with h3 | h3
  · obtain rfl : t = 0 := h1.resolve_right (by omega)
    rw [if_pos (by omega)]; simp
  · rw [if_neg (by omega)]
    rcases Nat.lt_or_ge k (2 * 4503599627370496) with h4 | h4
    · have e1 : (t * 4503599627370496 + k) / 4503599627370496 = t + 1 := by omega
      have e2 : (t * 4503599627370496 + k) % 4503599627370496 = k - 4503599627370496 := by omega
      rw [e1, e2, Nat.add_sub_cancel, show 4503599627370496 + (k - 4503599627370496) = k from by omega]
    · have hk : k = 2 * 4503599627370496 := by omega
      have e1 : (t * 4503599627370496 + k) / 4503599627370496 = t + 2 := by omega
      have e2 : (t * 4503599627370496 + k) % 4503599627370496 = 0 := by omega
      rw [e1, e2, show t + 2 - 1 = t + 1 from rfl, Nat.pow_succ, hk]
      generalize 2 ^ t = z
      omega
theorem FC (r : Nat) : fv r < fv (r + 1) := by
  rcases Nat.lt_or_ge r 4503599627370496 with h | h
  · have e1 := Cz (t := 0) (k := r) (.inl rfl) (by omega)
    have e2 := Cz (t := 0) (k := r + 1) (.inl rfl) (by omega)
    rw [Nat.zero_mul, Nat.zero_add] at e1 e2
    rw [e1, e2]; omega
  · have hr : r = (r / 4503599627370496 - 1) * 4503599627370496 + (4503599627370496 + r % 4503599627370496) := by omega
    have e1 := Cz (t := r / 4503599627370496 - 1) (k := 4503599627370496 + r % 4503599627370496) (.inr (by omega)) (by omega)
    have e2 := Cz (t := r / 4503599627370496 - 1) (k := 4503599627370496 + r % 4503599627370496 + 1) (.inr (by omega)) (by omega)
    rw [← Nat.add_assoc, ← hr] at e2
    rw [← hr] at e1
    rw [e1, e2]
    exact Nat.mul_lt_mul_of_pos_right (Nat.lt_succ_self _) (Nat.two_pow_pos _)
theorem vj {a b : Nat} (h : a < b) : fv a < fv b := by
  induction b with
  | zero => omega
  | succ b ih =>
    rcases Nat.lt_or_ge a b with h1 | h1
    · exact Nat.lt_trans (ih h1) (FC b)
    · obtain rfl : a = b := by omega
      exact FC a
theorem yQ {a b : Nat} (h : a ≤ b) : fv a ≤ fv b := by
  rcases Nat.lt_or_ge a b with h1 | h1
  · exact Nat.le_of_lt (vj h1)
  · obtain rfl : a = b := by omega
    exact Nat.le_refl _
theorem Gl {a b : Nat} : fv a < fv b ↔ a < b :=
  ⟨fun h => by rcases Nat.lt_or_ge a b with q | q; exact q; exact absurd (yQ q) (by omega), vj⟩
theorem Bs {a b : Nat} : fv a ≤ fv b ↔ a ≤ b :=
  ⟨fun h => by rcases Nat.lt_or_ge b a with q | q; exact absurd (vj q) (by omega); exact q, yQ⟩
theorem MO {a b : Nat} (h : fv a = fv b) : a = b := Nat.le_antisymm (Bs.1 (by omega)) (Bs.1 (by omega))
theorem CA : fv 0 = 0 := rfl
theorem qv {b : Nat} (h : b % 9223372036854775808 < 9218868437227405312) : ∃ m p, Ieee.double.read b = .number (b / 9223372036854775808 % 2 == 1) m p ∧ (-1074 : Int) ≤ p ∧ m * 2 ^ (p + 1074).toNat = fv (b % 9223372036854775808) := by
  have hw : Ieee.double.signWeight = 9223372036854775808 := by decide
  have hi : Ieee.double.infRung = 9218868437227405312 := by decide
  have hb : Ieee.double.binade = 4503599627370496 := by decide
  have hp : Ieee.double.leastPlace = -1074 := by decide
  unfold Ieee.Format.read
  dsimp only
  rw [hw, hi, hb, hp]
  unfold fv
  by_cases h1 : b % 9223372036854775808 < 4503599627370496
  · rw [if_pos h1, if_pos h1]
    exact ⟨_, _, rfl, by omega, by simp⟩
  · rw [if_neg h1, if_neg h1, if_pos h]
    refine ⟨_, _, rfl, by omega, ?_⟩
    rw [show ((-1074 : Int) + ((b % 9223372036854775808 / 4503599627370496 - 1 : Nat) : Int) + 1074).toNat = b % 9223372036854775808 / 4503599627370496 - 1 from by omega]
theorem qw {b : Nat} (h : b % 9223372036854775808 = 9218868437227405312) : Ieee.double.read b = .infinity (b / 9223372036854775808 % 2 == 1) := by
  have hw : Ieee.double.signWeight = 9223372036854775808 := by decide
  have hi : Ieee.double.infRung = 9218868437227405312 := by decide
  have hb : Ieee.double.binade = 4503599627370496 := by decide
  unfold Ieee.Format.read
  dsimp only
  rw [hw, hi, hb, h, if_neg (by decide), if_neg (by decide), if_pos rfl]
theorem Ag {b : Nat} (h : 9218868437227405312 < b % 9223372036854775808) : (Ieee.double.read b).isNaN = true := by
  have hw : Ieee.double.signWeight = 9223372036854775808 := by decide
  have hi : Ieee.double.infRung = 9218868437227405312 := by decide
  have hb : Ieee.double.binade = 4503599627370496 := by decide
  unfold Ieee.Format.read
  dsimp only
  rw [hw, hi, hb, if_neg (by omega), if_neg (by omega), if_neg (by omega)]
  rfl
def NN (x : Nat) : Prop := x % 9223372036854775808 ≤ 9218868437227405312
instance (x : Nat) : Decidable (NN x) := inferInstanceAs (Decidable (_ ≤ _))
def yZ (x : Nat) : Prop := x % 9223372036854775808 < 9218868437227405312
instance (x : Nat) : Decidable (yZ x) := inferInstanceAs (Decidable (_ < _))
theorem yZ.nn {x : Nat} (h : yZ x) : NN x := Nat.le_of_lt h
def fz (x : Nat) : Int := if (x / 9223372036854775808 % 2 == 1) = true then -(fv (x % 9223372036854775808) : Int) else (fv (x % 9223372036854775808) : Int)
theorem ED (s : Bool) (m k c : Nat) : Ieee.signed s m k * (2 ^ c : Nat) = if s = true then -((m * 2 ^ (k + c) : Nat) : Int) else ((m * 2 ^ (k + c) : Nat) : Int) := by
  unfold Ieee.signed
  have e : (m <<< k : Nat) * 2 ^ c = m * 2 ^ (k + c) := by rw [Nat.shiftLeft_eq, Nat.pow_add, Nat.mul_assoc]
  cases s
  · simp only [Bool.false_eq_true, if_false]
    rw [← e]; simp
  · simp only [if_true]
    rw [← e, Int.neg_mul]; simp
theorem Dw (a b : Int) {c : Nat} (hc : 0 < c) : compare a b = compare (a * c) (b * c) := by
  have R8 : (0 : Int) < (c : Int) := by omega
  simp only [compare, compareOfLessAndEq]
  have h1 : a < b ↔ a * c < b * c := ⟨fun h => Int.mul_lt_mul_of_pos_right h R8, fun h => Int.lt_of_mul_lt_mul_right h (Int.le_of_lt R8)⟩
  have h2 : a = b ↔ a * c = b * c := ⟨fun h => by rw [h], fun h => Int.eq_of_mul_eq_mul_right (by omega) h⟩
  simp only [h1, h2]
theorem pN {x : Nat} (h : yZ x) : ∃ m p, Ieee.double.read x = .number (x / 9223372036854775808 % 2 == 1) m p ∧ (-1074 : Int) ≤ p ∧ ∀ base : Int, -1074 ≤ base → base ≤ p → Ieee.signed (x / 9223372036854775808 % 2 == 1) m (p - base).toNat * (2 ^ (base + 1074).toNat : Nat) = fz x := by
  obtain ⟨m, p, h1, h2, h3⟩ := qv h
  refine ⟨m, p, h1, h2, fun base hb hp => ?_⟩
  rw [ED, show (p - base).toNat + (base + 1074).toNat = (p + 1074).toNat from by omega, h3]
  rfl
theorem Gm {x y : Nat} (hx : yZ x) (hy : yZ y) : Ieee.double.order x y = some (compare (fz x) (fz y)) := by
  obtain ⟨m, p, h1, h2, h3⟩ := pN hx
  obtain ⟨n, q, g1, g2, g3⟩ := pN hy
  unfold Ieee.Format.order
  rw [h1, g1]
  simp only [Ieee.Datum.order]
  rw [Dw _ _ (Nat.two_pow_pos (min p q + 1074).toNat), h3 _ (by omega) (by omega), g3 _ (by omega) (by omega)]
theorem CB {a b : Int} (h : a < b) : compare a b = .lt := by simp [compare, compareOfLessAndEq, h]
theorem CC {a b : Int} (h : b < a) : compare a b = .gt := by
  simp only [compare, compareOfLessAndEq]
  rw [if_neg (by omega), if_neg (by omega)]
theorem EE {a b : Int} (h : a = b) : compare a b = .eq := by
  simp only [compare, compareOfLessAndEq]
  rw [if_neg (by omega), if_pos h]
theorem ID {x y : Nat} (hx : NN x) (hy : NN y) : Ieee.double.order x y = some (compare (fz x) (fz y)) := by
  rcases Nat.lt_or_ge (x % 9223372036854775808) 9218868437227405312 with h1 | h1 <;> rcases Nat.lt_or_ge (y % 9223372036854775808) 9218868437227405312 with h2 | h2
  · exact Gm h1 h2
  · have e2 : y % 9223372036854775808 = 9218868437227405312 := Nat.le_antisymm hy h2
    obtain ⟨m, p, h3, _, _⟩ := qv h1
    unfold Ieee.Format.order
    rw [h3, qw e2]
    simp only [Ieee.Datum.order]
    have hv := vj h1
    congr 1
    unfold fz
    rw [e2]
    cases hs : (y / 9223372036854775808 % 2 == 1) <;> simp only [Bool.false_eq_true, if_true, if_false]
    · exact (CB (by split <;> omega)).symm
    · exact (CC (by split <;> omega)).symm
  · have e1 : x % 9223372036854775808 = 9218868437227405312 := Nat.le_antisymm hx h1
    obtain ⟨m, p, h3, _, _⟩ := qv h2
    unfold Ieee.Format.order
    rw [h3, qw e1]
    simp only [Ieee.Datum.order]
    have hv := vj h2
    congr 1
    unfold fz
    rw [e1]
    cases hs : (x / 9223372036854775808 % 2 == 1) <;> simp only [Bool.false_eq_true, if_true, if_false]
    · exact (CC (by split <;> omega)).symm
    · exact (CB (by split <;> omega)).symm
  · have e1 : x % 9223372036854775808 = 9218868437227405312 := Nat.le_antisymm hx h1
    have e2 : y % 9223372036854775808 = 9218868437227405312 := Nat.le_antisymm hy h2
    unfold Ieee.Format.order
    rw [qw e1, qw e2]
    simp only [Ieee.Datum.order]
    congr 1
    unfold fz
    rw [e1, e2]
    have hp : 0 < fv 9218868437227405312 := vj (a := 0) (by decide)
    cases hs : (x / 9223372036854775808 % 2 == 1) <;> cases ht : (y / 9223372036854775808 % 2 == 1) <;> simp only [Bool.false_eq_true, if_true, if_false]
    · rw [EE rfl]; rfl
    · rw [CC (by omega)]; rfl
    · rw [CB (by omega)]; rfl
    · rw [EE rfl]; rfl
theorem Gn {x y : Nat} (h : ¬ NN x ∨ ¬ NN y) : Ieee.double.order x y = none := by
  unfold Ieee.Format.order
  rcases h with h | h
  · have h1 := Ag (Nat.lt_of_not_le h)
    cases hr : Ieee.double.read x <;> rw [hr] at h1 <;> first | cases h1; done | exact (y3 _ _ _).2.2.2
  · have h1 := Ag (Nat.lt_of_not_le h)
    cases hr : Ieee.double.read y <;> rw [hr] at h1 <;> first | cases h1; done | exact (y2 _ _ _).2.2.2
theorem oA {x y : Nat} (hx : NN x) (hy : NN y) : dr .lss x y = decide (fz x < fz y) ∧ dr .leq x y = decide (fz x ≤ fz y) ∧ dr .gtr x y = decide (fz y < fz x) ∧ dr .geq x y = decide (fz y ≤ fz x) ∧ dr .eql x y = decide (fz x = fz y) ∧ dr .neq x y = decide (fz x ≠ fz y) := by
  unfold dr
  rw [ID hx hy]
  rcases Int.lt_trichotomy (fz x) (fz y) with h | h | h
  · rw [CB h]
    refine ⟨?_, ?_, ?_, ?_, ?_, ?_⟩ <;> symm <;> simp only [] <;> first | exact decide_eq_true (by omega) | exact decide_eq_false (by omega)
  · rw [EE h]
    refine ⟨?_, ?_, ?_, ?_, ?_, ?_⟩ <;> symm <;> simp only [] <;> first | exact decide_eq_true (by omega) | exact decide_eq_false (by omega)
  · rw [CC h]
    refine ⟨?_, ?_, ?_, ?_, ?_, ?_⟩ <;> symm <;> simp only [] <;> first | exact decide_eq_true (by omega) | exact decide_eq_false (by omega)
theorem Dx {x y : Nat} (h : ¬ NN x ∨ ¬ NN y) : dr .lss x y = false ∧ dr .leq x y = false ∧ dr .gtr x y = false ∧ dr .geq x y = false ∧ dr .eql x y = false ∧ dr .neq x y = true := by
  unfold dr
  rw [Gn h]
  exact ⟨rfl, rfl, rfl, rfl, rfl, rfl⟩
theorem IE (neg : Bool) (n drop : Nat) : Ieee.Toward.even.cut neg n drop = n / 2 ^ drop ∨ (Ieee.Toward.even.cut neg n drop = n / 2 ^ drop + 1 ∧ n % 2 ^ drop ≠ 0) := by
  unfold Ieee.Toward.cut
  dsimp only
  rw [Nat.shiftLeft_eq, Nat.one_mul]
  rcases Nat.le_total drop (n.log2 + 2) with h | h
  · rw [Nat.min_eq_left h]
    cases hb : (decide (2 ^ drop < 2 * (n % 2 ^ drop)) || 2 ^ drop == 2 * (n % 2 ^ drop) && n / 2 ^ drop % 2 == 1) with
    | false => left; simp
    | true =>
      right
      refine ⟨by simp, fun h0 => ?_⟩
      rw [h0] at hb
      have := Nat.two_pow_pos drop
      simp only [Bool.or_eq_true, decide_eq_true_eq, Bool.and_eq_true, beq_iff_eq] at hb
      omega
  · rw [Nat.min_eq_right h]
    have hn : n < 2 ^ (n.log2 + 1) := Nat.lt_log2_self
    have h2 : 2 ^ (n.log2 + 2) = 2 * 2 ^ (n.log2 + 1) := by rw [Nat.pow_succ, Nat.mul_comm]
    have h3 : n < 2 ^ drop := Nat.lt_of_lt_of_le (by omega : n < 2 ^ (n.log2 + 2)) (Nat.pow_le_pow_right (by decide) h)
    left
    rw [Nat.div_eq_of_lt h3, Nat.div_eq_of_lt (by omega), Nat.mod_eq_of_lt (by omega)]
    have : (decide (2 ^ (n.log2 + 2) < 2 * n) || 2 ^ (n.log2 + 2) == 2 * n && 0 % 2 == 1) = false := by
      simp; omega
    rw [this]; rfl
theorem Rj (neg : Bool) (za : Nat) (place : Int) (h0 : za ≠ 0) : ∃ t kept lo : Nat, Ieee.double.nearest neg za place = Ieee.double.word neg (min (t * 4503599627370496 + kept) 9218868437227405312) ∧ (kept = lo ∨ (kept = lo + 1 ∧ lo * 2 ^ t * 2 ^ (-1074 - place).toNat < za * 2 ^ (place + 1074).toNat)) ∧
    (t = 0 ∨ 4503599627370496 ≤ lo) ∧ lo < 2 * 4503599627370496 ∧ lo * 2 ^ t * 2 ^ (-1074 - place).toNat ≤ za * 2 ^ (place + 1074).toNat ∧ za * 2 ^ (place + 1074).toNat < (lo + 1) * 2 ^ t * 2 ^ (-1074 - place).toNat := by
  have hi : Ieee.double.infRung = 9218868437227405312 := by decide
  have hb : Ieee.double.binade = 4503599627370496 := by decide
  have hp : Ieee.double.leastPlace = -1074 := by decide
  have hf : Ieee.double.fractionBits = 52 := rfl
  unfold Ieee.Format.nearest
  rw [if_neg h0]
  dsimp only
  rw [hi, hb, hp, hf]
  have Pa : 2 ^ za.log2 ≤ za := Nat.log2_self_le h0
  have Rk : za < 2 ^ (za.log2 + 1) := Nat.lt_log2_self
  generalize hL : za.log2 = L at *
  have OI : max (place + (L : Int) - ((52 : Nat) : Int)) (-1074) = max (place + (L : Int) - 52) (-1074) := rfl
  rw [OI]
  generalize UP : max (place + (L : Int) - 52) (-1074) = last
  rw [Nat.shiftLeft_eq]
  have hd := Nat.div_add_mod (za * 2 ^ (place - last).toNat) (2 ^ (last - place).toNat)
  have hm := Nat.mod_lt (za * 2 ^ (place - last).toNat) (Nat.two_pow_pos (last - place).toNat)
  have hc := IE neg (za * 2 ^ (place - last).toNat) (last - place).toNat
  generalize UQ : (place - last).toNat = up at *
  generalize UR : (last - place).toNat = drop at *
  have OQ : (last - -1074).toNat = (last + 1074).toNat := by omega
  rw [OQ]
  generalize ht : (last + 1074).toNat = t
  generalize hu : (place + 1074).toNat = u
  generalize US : (-1074 - place).toNat = d
  have MP : up + t + d = u + drop := by omega
  generalize AS : za * 2 ^ up / 2 ^ drop = lo at *
  have mv : ∀ a b : Nat, a * 2 ^ drop ≤ b * 2 ^ up → a * 2 ^ t * 2 ^ d ≤ b * 2 ^ u := by
    intro a b h
    have h1 : a * 2 ^ drop * (2 ^ t * 2 ^ d) ≤ b * 2 ^ up * (2 ^ t * 2 ^ d) := Nat.mul_le_mul_right _ h
    have e1 : b * 2 ^ up * (2 ^ t * 2 ^ d) = b * 2 ^ u * 2 ^ drop := by
      rw [Nat.mul_assoc, ← Nat.pow_add, ← Nat.pow_add, ← Nat.add_assoc, MP, Nat.pow_add, Nat.mul_assoc]
    have e2 : a * 2 ^ drop * (2 ^ t * 2 ^ d) = a * 2 ^ t * 2 ^ d * 2 ^ drop := by
      rw [Nat.mul_right_comm, ← Nat.mul_assoc]
    rw [e1, e2] at h1
    exact Nat.le_of_mul_le_mul_right h1 (Nat.two_pow_pos drop)
  have TW : ∀ a b : Nat, b * 2 ^ up < a * 2 ^ drop → b * 2 ^ u < a * 2 ^ t * 2 ^ d := by
    intro a b h
    have h1 : b * 2 ^ up * (2 ^ t * 2 ^ d) < a * 2 ^ drop * (2 ^ t * 2 ^ d) := Nat.mul_lt_mul_of_pos_right h (Nat.mul_pos (Nat.two_pow_pos _) (Nat.two_pow_pos _))
    have e1 : b * 2 ^ up * (2 ^ t * 2 ^ d) = b * 2 ^ u * 2 ^ drop := by
      rw [Nat.mul_assoc, ← Nat.pow_add, ← Nat.pow_add, ← Nat.add_assoc, MP, Nat.pow_add, Nat.mul_assoc]
    have e2 : a * 2 ^ drop * (2 ^ t * 2 ^ d) = a * 2 ^ t * 2 ^ d * 2 ^ drop := by
      rw [Nat.mul_right_comm, ← Nat.mul_assoc]
    rw [e1, e2] at h1
    exact Nat.lt_of_mul_lt_mul_right h1
  have TX : ∀ a b : Nat, a * 2 ^ drop < b * 2 ^ up → a * 2 ^ t * 2 ^ d < b * 2 ^ u := by
    intro a b h
    have h1 : a * 2 ^ drop * (2 ^ t * 2 ^ d) < b * 2 ^ up * (2 ^ t * 2 ^ d) := Nat.mul_lt_mul_of_pos_right h (Nat.mul_pos (Nat.two_pow_pos _) (Nat.two_pow_pos _))
    have e1 : b * 2 ^ up * (2 ^ t * 2 ^ d) = b * 2 ^ u * 2 ^ drop := by
      rw [Nat.mul_assoc, ← Nat.pow_add, ← Nat.pow_add, ← Nat.add_assoc, MP, Nat.pow_add, Nat.mul_assoc]
    have e2 : a * 2 ^ drop * (2 ^ t * 2 ^ d) = a * 2 ^ t * 2 ^ d * 2 ^ drop := by
      rw [Nat.mul_right_comm, ← Nat.mul_assoc]
    rw [e1, e2] at h1
    exact Nat.lt_of_mul_lt_mul_right h1
  have Rm : lo * 2 ^ drop ≤ za * 2 ^ up := by rw [Nat.mul_comm]; omega
  have Rn : za * 2 ^ up < (lo + 1) * 2 ^ drop := by
    rw [Nat.add_mul, Nat.one_mul, Nat.mul_comm lo]; omega
  refine ⟨t, _, lo, rfl, ?_, ?_, ?_, mv _ _ Rm, TW _ _ Rn⟩
  · rcases hc with h | ⟨h, sJ⟩
    · exact .inl h
    · refine .inr ⟨h, TX _ _ ?_⟩
      rw [Nat.mul_comm lo]; omega
  · rcases Nat.eq_zero_or_pos t with h | h
    · exact .inl h
    · right
      have hx : L + up = 52 + drop := by omega
      have h1 : 2 ^ (52 + drop) ≤ za * 2 ^ up := by
        rw [← hx, Nat.pow_add]; exact Nat.mul_le_mul_right _ Pa
      rw [← AS]
      refine (Nat.le_div_iff_mul_le (Nat.two_pow_pos _)).2 ?_
      rw [Nat.pow_add] at h1
      exact h1
  · rw [← AS]
    refine (Nat.div_lt_iff_lt_mul (Nat.two_pow_pos _)).2 ?_
    have h1 : za * 2 ^ up < 2 ^ (L + 1 + up) := by
      rw [Nat.pow_add _ (L + 1)]; exact Nat.mul_lt_mul_of_pos_right Rk (Nat.two_pow_pos _)
    have h2 : 2 ^ (L + 1 + up) ≤ 2 ^ (53 + drop) := Nat.pow_le_pow_right (by decide) (by omega)
    rw [Nat.pow_add _ 53] at h2
    exact Nat.lt_of_lt_of_le h1 h2
theorem vC (neg : Bool) (za : Nat) (place : Int) : ∃ R, R ≤ 9218868437227405312 ∧ Ieee.double.nearest neg za place = Ieee.double.word neg R ∧
    (∀ r, r ≤ 9218868437227405312 → fv r * 2 ^ (-1074 - place).toNat ≤ za * 2 ^ (place + 1074).toNat → r ≤ R) ∧ (∀ r, za * 2 ^ (place + 1074).toNat ≤ fv r * 2 ^ (-1074 - place).toNat → R ≤ r) := by
  by_cases h0 : za = 0
  · subst h0
    refine ⟨0, by omega, by unfold Ieee.Format.nearest; rw [if_pos rfl], fun r _ h => ?_, fun r _ => Nat.zero_le _⟩
    rw [Nat.zero_mul] at h
    have h1 : fv r = 0 := by
      rcases Nat.eq_zero_or_pos (fv r) with q | q
      · exact q
      · have := Nat.mul_pos q (Nat.two_pow_pos (-1074 - place).toNat); omega
    rw [← CA] at h1
    rw [MO h1]
    exact Nat.le_refl _
  · obtain ⟨t, kept, lo, e, hk, h1, h2, h3, h4⟩ := Rj neg za place h0
    refine ⟨_, Nat.min_le_right _ _, e, fun r hr h => ?_, fun r h => ?_⟩
    · refine Nat.le_min.2 ⟨?_, hr⟩
      have Q8 : lo ≤ kept := by omega
      apply Classical.byContradiction
      intro hc
      have h5 : t * 4503599627370496 + (lo + 1) ≤ r := by omega
      have h6 := yQ h5
      rw [Cz (by omega) (by omega)] at h6
      have h7 := Nat.mul_le_mul_right (2 ^ (-1074 - place).toNat) h6
      omega
    · refine Nat.le_trans (Nat.min_le_left _ _) ?_
      apply Classical.byContradiction
      intro hc
      rcases hk with rfl | ⟨rfl, hs⟩
      · have h5 : r < t * 4503599627370496 + kept := by omega
        have h6 := vj h5
        rw [Cz h1 (by omega)] at h6
        have h7 := Nat.mul_lt_mul_of_pos_right h6 (Nat.two_pow_pos (-1074 - place).toNat)
        omega
      · have h5 : r ≤ t * 4503599627370496 + lo := by omega
        have h6 := yQ h5
        rw [Cz h1 (by omega)] at h6
        have h7 := Nat.mul_le_mul_right (2 ^ (-1074 - place).toNat) h6
        omega
theorem tR (neg : Bool) {R : Nat} (h : R ≤ 9218868437227405312) : Ieee.double.word neg R % 9223372036854775808 = R ∧ (Ieee.double.word neg R / 9223372036854775808 % 2 == 1) = neg ∧ Ieee.double.word neg R < 18446744073709551616 := by
  have hw : Ieee.double.signWeight = 9223372036854775808 := by decide
  unfold Ieee.Format.word
  rw [hw]
  cases neg
  · simp only [Bool.false_eq_true, if_false]
    refine ⟨by omega, ?_, by omega⟩
    rw [show R / 9223372036854775808 = 0 from by omega]; rfl
  · simp only [if_true]
    refine ⟨by omega, ?_, by omega⟩
    rw [show (9223372036854775808 + R) / 9223372036854775808 = 1 from by omega]; rfl
theorem CD (neg : Bool) {R : Nat} (h : R ≤ 9218868437227405312) : fz (Ieee.double.word neg R) = if neg = true then -(fv R : Int) else (fv R : Int) := by
  obtain ⟨h1, h2, _⟩ := tR neg h
  unfold fz
  rw [h1, h2]
theorem FD (neg : Bool) {R : Nat} (h : R ≤ 9218868437227405312) : NN (Ieee.double.word neg R) := by
  unfold NN; rw [(tR neg h).1]; exact h
end Go.Sx
namespace Go.Sx
set_option linter.unusedVariables false
set_option linter.unusedSimpArgs false
def Fp (x : Nat) : Prop := x ≤ 9218868437227405312
theorem Fp.mod {x : Nat} (h : Fp x) : x % 9223372036854775808 = x := Nat.mod_eq_of_lt (by unfold Fp at h; omega)
theorem Fp.Rp {x : Nat} (h : Fp x) : (x / 9223372036854775808 % 2 == 1) = false := by
  unfold Fp at h
  rw [show x / 9223372036854775808 = 0 from by omega]; rfl
theorem Fp.nn {x : Nat} (h : Fp x) : NN x := by unfold NN; rw [h.mod]; exact h
theorem Fp.fz {x : Nat} (h : Fp x) : fz x = (fv x : Int) := by
  unfold Sx.fz
  rw [h.mod, h.Rp]; rfl
theorem xc {op : BinOp} {x y : Nat} : (op = .add → lG op x y = (Ieee.double.add x y).getD wC) ∧ (op = .sub → lG op x y = (Ieee.double.sub x y).getD wC) ∧ (op = .mul → lG op x y = (Ieee.double.mul x y).getD wC) ∧ (op = .quo → lG op x y = (Ieee.double.div x y).getD wC) := by
  refine ⟨?_, ?_, ?_, ?_⟩ <;> rintro rfl <;> rfl
structure IY (z : Int) (w : Nat) : Prop where
  ok : ∃ neg R, w = Ieee.double.word neg R ∧ R ≤ 9218868437227405312 ∧ (z < 0 → neg = true) ∧ (0 < z → neg = false) ∧ (∀ r, r ≤ 9218868437227405312 → fv r ≤ z.natAbs → r ≤ R) ∧ (∀ r, z.natAbs ≤ fv r → R ≤ r)
theorem IY.nn {z : Int} {w : Nat} (h : IY z w) : NN w := by
  obtain ⟨neg, R, rfl, h1, _⟩ := h.ok
  exact FD neg h1
theorem IY.ge {z : Int} {w y : Nat} (h : IY z w) (hy : NN y) (hz : fz y ≤ z) : fz y ≤ fz w := by
  obtain ⟨neg, R, rfl, h1, h2, h3, h4, h5⟩ := h.ok
  rw [CD neg h1]
  have e : fz y = if (y / 9223372036854775808 % 2 == 1) = true then -(fv (y % 9223372036854775808) : Int) else (fv (y % 9223372036854775808) : Int) := rfl
  cases hs : (y / 9223372036854775808 % 2 == 1) with
  | false =>
    rw [hs] at e
    simp only [Bool.false_eq_true, if_false] at e
    rcases Int.lt_or_le 0 z with h6 | h6
    · rw [h3 h6]
      simp only [Bool.false_eq_true, if_false]
      have := h4 _ hy (by omega)
      have := yQ this
      omega
    · have IU : z = 0 := by omega
      have h7 := h5 0 (by rw [IU]; exact Nat.zero_le _)
      obtain rfl : R = 0 := by omega
      rw [CA]
      split <;> omega
  | true =>
    rw [hs] at e
    simp only [if_true] at e
    rcases Int.lt_or_le z 0 with h6 | h6
    · rw [h2 h6]
      simp only [if_true]
      have := h5 _ (show z.natAbs ≤ fv (y % 9223372036854775808) by omega)
      have := yQ this
      omega
    · rcases Int.lt_or_le 0 z with h7 | h7
      · rw [h3 h7]
        simp only [Bool.false_eq_true, if_false]
        omega
      · have IU : z = 0 := by omega
        have h8 := h5 0 (by rw [IU]; exact Nat.zero_le _)
        obtain rfl : R = 0 := by omega
        rw [CA]
        split <;> omega
theorem IY.le {z : Int} {w y : Nat} (h : IY z w) (hy : NN y) (hz : z ≤ fz y) : fz w ≤ fz y := by
  obtain ⟨neg, R, rfl, h1, h2, h3, h4, h5⟩ := h.ok
  rw [CD neg h1]
  have e : fz y = if (y / 9223372036854775808 % 2 == 1) = true then -(fv (y % 9223372036854775808) : Int) else (fv (y % 9223372036854775808) : Int) := rfl
  cases hs : (y / 9223372036854775808 % 2 == 1) with
  | false =>
    rw [hs] at e
    simp only [Bool.false_eq_true, if_false] at e
    rcases Int.lt_or_le 0 z with h6 | h6
    · rw [h3 h6]
      simp only [Bool.false_eq_true, if_false]
      have := h5 _ (show z.natAbs ≤ fv (y % 9223372036854775808) by omega)
      have := yQ this
      omega
    · rcases Int.lt_or_le z 0 with h7 | h7
      · rw [h2 h7]
        simp only [if_true]
        omega
      · have IU : z = 0 := by omega
        have h8 := h5 0 (by rw [IU]; exact Nat.zero_le _)
        obtain rfl : R = 0 := by omega
        rw [CA]
        split <;> omega
  | true =>
    rw [hs] at e
    simp only [if_true] at e
    rcases Int.lt_or_le z 0 with h6 | h6
    · rw [h2 h6]
      simp only [if_true]
      have := h4 _ hy (by omega)
      have := yQ this
      omega
    · have IU : z = 0 := by omega
      have h7 := h5 0 (by rw [IU]; exact Nat.zero_le _)
      obtain rfl : R = 0 := by omega
      rw [CA]
      split <;> omega
theorem Dy (s : Bool) (total : Int) (base : Int) (hb : -1074 ≤ base) (z : Int) (hz : total * (2 ^ (base + 1074).toNat : Nat) = z) :
    IY z (Ieee.double.nearest (if total = 0 then s else decide (total < 0)) total.natAbs base) := by
  obtain ⟨R, h1, h2, h3, h4⟩ := vC (if total = 0 then s else decide (total < 0)) total.natAbs base
  rw [show (-1074 - base).toNat = 0 from by omega, Nat.pow_zero] at h3 h4
  have hp := Nat.two_pow_pos (base + 1074).toNat
  have Rq : total.natAbs * 2 ^ (base + 1074).toNat = z.natAbs := by
    rw [← hz, Int.natAbs_mul]; rfl
  rw [Rq] at h3 h4
  have O2 : (0 : Int) < ((2 ^ (base + 1074).toNat : Nat) : Int) := by omega
  refine ⟨_, R, h2, h1, fun q7 => ?_, fun UT => ?_, fun r hr h => h3 r hr (by omega), fun r h => h4 r (by omega)⟩
  · have h5 : total < 0 := by
      apply Classical.byContradiction
      intro hc
      have := Int.mul_nonneg (show 0 ≤ total by omega) (Int.le_of_lt O2)
      omega
    rw [if_neg (by omega), decide_eq_true h5]
  · have h5 : 0 < total := by
      apply Classical.byContradiction
      intro hc
      have := Int.mul_nonneg (show 0 ≤ -total by omega) (Int.le_of_lt O2)
      rw [Int.neg_mul] at this
      omega
    rw [if_neg (by omega), decide_eq_false (by omega)]
theorem Kk {x y : Nat} (hx : yZ x) (hy : yZ y) : IY (fz x + fz y) (lG .add x y) := by
  obtain ⟨m, p, h1, h2, h3⟩ := pN hx
  obtain ⟨n, q, g1, g2, g3⟩ := pN hy
  rw [(xc (op := .add)).1 rfl]
  unfold Ieee.Format.add
  rw [h1, g1]
  simp only [Ieee.Datum.sum, Option.map_some, Option.getD_some]
  refine Dy _ _ (min p q) (by omega) _ ?_
  rw [Int.add_mul, h3 _ (by omega) (by omega), g3 _ (by omega) (by omega)]
theorem Ah (s : Bool) (m k : Nat) : Ieee.signed (!s) m k = -Ieee.signed s m k := by
  unfold Ieee.signed
  cases s <;> simp
theorem Kl {x y : Nat} (hx : yZ x) (hy : yZ y) : IY (fz x - fz y) (lG .sub x y) := by
  obtain ⟨m, p, h1, h2, h3⟩ := pN hx
  obtain ⟨n, q, g1, g2, g3⟩ := pN hy
  rw [(xc (op := .sub)).2.1 rfl]
  unfold Ieee.Format.sub
  rw [h1, g1]
  simp only [Ieee.Datum.opposite, Ieee.Datum.sum, Option.map_some, Option.getD_some]
  refine Dy _ _ (min p q) (by omega) _ ?_
  rw [Int.add_mul, h3 _ (by omega) (by omega), Ah, Int.neg_mul, g3 _ (by omega) (by omega)]
  omega
theorem IF {x : Nat} (h : Fp x) : (∃ m p, Ieee.double.read x = .number false m p ∧ (-1074 : Int) ≤ p ∧ m * 2 ^ (p + 1074).toNat = fv x ∧ x < 9218868437227405312) ∨ (Ieee.double.read x = .infinity false ∧ x = 9218868437227405312) := by
  rcases Nat.lt_or_ge x 9218868437227405312 with h1 | h1
  · obtain ⟨m, p, h2, h3, h4⟩ := qv (b := x) (by rw [h.mod]; exact h1)
    rw [h.Rp] at h2; rw [h.mod] at h4
    exact .inl ⟨m, p, h2, h3, h4, h1⟩
  · have e : x = 9218868437227405312 := Nat.le_antisymm h h1
    have := qw (b := x) (by rw [h.mod]; exact e)
    rw [h.Rp] at this
    exact .inr ⟨this, e⟩
theorem Gp : Ieee.double.write (.infinity false) = 9218868437227405312 := by decide
theorem getD_map (d : Ieee.Datum) : ((some d).map Ieee.double.write).getD wC = Ieee.double.write d := rfl
theorem CE {x : Nat} (h : yZ x) : lG .sub x x = 0 := by
  obtain ⟨m, p, h1, _⟩ := qv h
  rw [(xc (op := .sub)).2.1 rfl]
  unfold Ieee.Format.sub
  rw [h1]
  simp only [Ieee.Datum.opposite, Ieee.Datum.sum, Option.map_some, Option.getD_some, Ieee.Format.write]
  have h0 : Ieee.signed (x / 9223372036854775808 % 2 == 1) m (p - min p p).toNat + Ieee.signed (!(x / 9223372036854775808 % 2 == 1)) m (p - min p p).toNat = 0 := by
    rw [Ah]; omega
  rw [h0, if_pos rfl]
  have hs : ((x / 9223372036854775808 % 2 == 1) && !(x / 9223372036854775808 % 2 == 1)) = false := by cases (x / 9223372036854775808 % 2 == 1) <;> rfl
  rw [hs, Int.natAbs_zero]
  unfold Ieee.Format.nearest
  rw [if_pos rfl]; rfl
theorem Dz {x : Nat} (h : ¬ yZ x) : lG .sub x x = wC := by
  rw [(xc (op := .sub)).2.1 rfl]
  unfold Ieee.Format.sub
  rcases Nat.lt_or_ge 9218868437227405312 (x % 9223372036854775808) with h1 | h1
  · have := Ag h1
    cases hr : Ieee.double.read x <;> rw [hr] at this <;> first | (cases this; done) | rfl
  · rw [qw (Nat.le_antisymm h1 (Nat.le_of_not_lt h))]
    simp only [Ieee.Datum.opposite, Ieee.Datum.sum]
    rw [if_neg (by cases (x / 9223372036854775808 % 2 == 1) <;> decide)]
    rfl
theorem FE : ¬ NN wC := by decide
theorem IG : fz 0 = 0 := by decide
theorem EF : NN 0 := by decide
theorem CF (x : Nat) : dr .neq (lG .sub x x) 0 = decide (¬ yZ x) := by
  by_cases h : yZ x
  · rw [CE h, (oA EF EF).2.2.2.2.2]
    simp [h]
  · rw [Dz h, (Dx (.inl FE)).2.2.2.2.2]
    simp [h]
end Go.Sx
namespace Go.Sx
open Go.RowKit
set_option linter.unusedVariables false
set_option linter.unusedSimpArgs false
theorem pw (v a b c : Nat) (h : a + b = c) : v * 2 ^ a * 2 ^ b = v * 2 ^ c := by rw [Nat.mul_assoc, ← Nat.pow_add, h]
theorem yB (s : Bool) (m : Nat) (p : Int) : Ieee.double.write (.number s m p) = Ieee.double.nearest s m p := rfl
theorem EG (v : Nat) (h : v < 9007199254740992) (u0 : Nat) (Rr : u0 = 1074) : x9 (v : Int) < 9218868437227405312 ∧ fv (x9 (v : Int)) = v * 2 ^ u0 := by
  rw [EU, yB, decide_eq_false (by omega), show ((v : Int)).natAbs = v from rfl]
  obtain ⟨R, h1, h2, h3, h4⟩ := vC false v 0
  rw [show (-1074 - (0 : Int)).toNat = 0 from rfl, show ((0 : Int) + 1074).toNat = u0 from Rr.symm, Nat.pow_zero] at h3 h4
  have key : ∃ r, r < 9218868437227405312 ∧ fv r = v * 2 ^ u0 := by
    rcases Nat.eq_zero_or_pos v with h0 | h0
    · subst h0; exact ⟨0, by omega, CA.trans (Nat.zero_mul _).symm⟩
    · have Pa : 2 ^ v.log2 ≤ v := Nat.log2_self_le (by omega)
      have Rk : v < 2 ^ (v.log2 + 1) := Nat.lt_log2_self
      have UU : v.log2 ≤ 52 := by
        apply Classical.byContradiction
        intro hc
        have := Nat.pow_le_pow_right (show 0 < 2 by decide) (show 53 ≤ v.log2 by omega)
        omega
      generalize v.log2 = L at *
      have R9 : 2 ^ L * 2 ^ (52 - L) = 4503599627370496 := by rw [← Nat.pow_add, show L + (52 - L) = 52 from by omega]
      have k1 : 4503599627370496 ≤ v * 2 ^ (52 - L) := by rw [← R9]; exact Nat.mul_le_mul_right _ Pa
      have k2 : v * 2 ^ (52 - L) < 9007199254740992 := by
        have := Nat.mul_lt_mul_of_pos_right Rk (Nat.two_pow_pos (52 - L))
        rw [Nat.pow_succ, Nat.mul_right_comm, R9] at this
        exact this
      refine ⟨(1022 + L) * 4503599627370496 + v * 2 ^ (52 - L), by omega, ?_⟩
      rw [Cz (.inr k1) (by omega), Nat.mul_assoc, ← Nat.pow_add, show 52 - L + (1022 + L) = u0 from by omega]
  obtain ⟨r, TY, Nn⟩ := key
  have e : R = r := Nat.le_antisymm (h4 r (by omega)) (h3 r (by omega) (by omega))
  rw [h2]
  show R < _ ∧ fv R = _
  rw [e]
  exact ⟨TY, Nn⟩
theorem OJ : Ieee.double.read 4845873199050653696 = .number false 4503599627370496 1 := by decide
theorem MQ (t0 : Nat) (h : t0 = 1021) : fv 4607182418800017407 = 9007199254740991 * 2 ^ t0 := by
  subst h
  exact Cz (t := 1021) (k := 9007199254740991) (.inr (by decide)) (by decide)
noncomputable def CG (w : UInt64) : Nat := lG .quo (x9 ((aK w ((11 : UInt64).toNat)).toNat : Int)) 4845873199050653696
theorem Ai (w : UInt64) : CG w ≤ 4607182418800017407 := by
  unfold CG
  have hv : (aK w ((11 : UInt64).toNat)).toNat < 9007199254740992 := by
    have h1 : (aK w ((11 : UInt64).toNat)).toNat = w.toNat / 2 ^ 11 := by
      show (w.toBitVec >>> 11).toNat = _
      rw [BitVec.toNat_ushiftRight, Nat.shiftRight_eq_div_pow]
      rfl
    rw [h1]
    have := w.toNat_lt
    omega
  generalize (aK w ((11 : UInt64).toNat)).toNat = v at hv
  obtain ⟨u0, Rr⟩ : ∃ u0 : Nat, u0 = 1074 := ⟨_, rfl⟩
  obtain ⟨t0, TZ⟩ : ∃ t0 : Nat, t0 = 1021 := ⟨_, rfl⟩
  obtain ⟨h1, h2⟩ := EG v hv u0 Rr
  have hp : Fp (x9 (v : Int)) := Nat.le_of_lt h1
  rcases IF hp with ⟨m, p, h3, h4, h5, _⟩ | ⟨_, h3⟩
  · rw [(xc (op := .quo)).2.2.2 rfl]
    unfold Ieee.Format.div
    rw [h3, OJ, Ieee.Datum.quotient, if_neg (by decide)]
    dsimp only
    rw [getD_map, yB, show (false ^^ false) = false from rfl, show Ieee.double.fractionBits = 52 from rfl, show (4503599627370496 : Nat).log2 = 52 from by decide]
    rw [h2] at h5
    have hm : m < 9007199254740992 := by
      apply Classical.byContradiction
      intro hc
      have h6 : 9007199254740992 * 2 ^ (p + 1074).toNat ≤ m * 2 ^ (p + 1074).toNat := Nat.mul_le_mul_right _ (by omega)
      have UW : 1 ≤ 2 ^ (p + 1074).toNat := Nat.one_le_two_pow
      have T0 := h3
      have q7 : ∀ b s m p, Ieee.double.read b = .number s m p → m < 9007199254740992 := by
        intro b s m p hr
        have hw : Ieee.double.signWeight = 9223372036854775808 := by decide
        have hi : Ieee.double.infRung = 9218868437227405312 := by decide
        have hb : Ieee.double.binade = 4503599627370496 := by decide
        unfold Ieee.Format.read at hr
        dsimp only at hr
        rw [hw, hi, hb] at hr
        split at hr
        · injection hr; omega
        · split at hr
          · injection hr; omega
          · split at hr <;> cases hr
      exact hc (q7 _ _ _ _ T0)
    have T1 : m.log2 ≤ 52 := by
      rcases Nat.eq_zero_or_pos m with h0 | h0
      · subst h0; decide
      · have Pa : 2 ^ m.log2 ≤ m := Nat.log2_self_le (by omega)
        apply Classical.byContradiction
        intro hc
        have := Nat.pow_le_pow_right (show 0 < 2 by decide) (show 53 ≤ m.log2 by omega)
        omega
    generalize R_ : 52 + 2 + 52 - m.log2 = more
    have Ny : 54 ≤ more := by omega
    have hdiv : m <<< more = m * 2 ^ (more - 52) * 4503599627370496 := by
      rw [Nat.shiftLeft_eq, Nat.mul_assoc, show (4503599627370496 : Nat) = 2 ^ 52 from rfl, ← Nat.pow_add, show more - 52 + 52 = more from by omega]
    rw [hdiv, Nat.mul_div_cancel _ (by decide), Nat.mul_mod_left]
    rw [show ((0 : Nat) != 0).toNat = 0 from rfl, Nat.add_zero]
    obtain ⟨R, q1, q2, q3, q4⟩ := vC false (2 * (m * 2 ^ (more - 52))) (p - 1 - (more : Int) - 1)
    rw [q2]
    show R ≤ _
    refine q4 _ ?_
    rw [MQ t0 TZ]
    generalize hu : (p - 1 - (more : Int) - 1 + 1074).toNat = u
    generalize hd : (-1074 - (p - 1 - (more : Int) - 1)).toNat = d
    have hs : u + 2 + more = (p + 1074).toNat + d := by omega
    refine Nat.le_of_mul_le_mul_right (c := 2 ^ (p + 1074).toNat) ?_ (Nat.two_pow_pos _)
    have e1 : 2 * (m * 2 ^ (more - 52)) * 2 ^ u * 2 ^ (p + 1074).toNat = v * 2 ^ (1023 + more + u) := by
      calc 2 * (m * 2 ^ (more - 52)) * 2 ^ u * 2 ^ (p + 1074).toNat
          = (m * 2 ^ (p + 1074).toNat) * (2 ^ 1 * 2 ^ (more - 52) * 2 ^ u) := by
            generalize 2 ^ (p + 1074).toNat = a
            generalize 2 ^ (more - 52) = b
            generalize 2 ^ u = c
            simp only [Nat.pow_one, Nat.mul_assoc, Nat.mul_comm, Nat.mul_left_comm]
        _ = v * 2 ^ (1023 + more + u) := by
            rw [← Nat.pow_add, ← Nat.pow_add]
            exact (congrArg (· * 2 ^ (1 + (more - 52) + u)) h5).trans (pw v u0 _ _ (by omega))
    have e2 : 9007199254740991 * 2 ^ t0 * 2 ^ d * 2 ^ (p + 1074).toNat = 9007199254740991 * 2 ^ (1023 + more + u) := by
      rw [Nat.mul_assoc, ← Nat.pow_add, Nat.mul_assoc, ← Nat.pow_add, show t0 + (d + (p + 1074).toNat) = 1023 + more + u from by omega]
    rw [e1, e2]
    exact Nat.mul_le_mul_right _ (by omega)
  · omega
theorem vk (w : UInt64) : Fp (CG w) := Nat.le_trans (Ai w) (by decide)
theorem DA (w : UInt64) : dr .geq (CG w) 0 = true := by
  rw [(oA (vk w).nn EF).2.2.2.1, IG, (vk w).fz]
  exact decide_eq_true (Int.natCast_nonneg _)
theorem IH : Fp 4607182418800017408 := by unfold Fp; omega
theorem DB (w : UInt64) : dr .lss (CG w) 4607182418800017408 = true := by
  rw [(oA (vk w).nn IH.nn).1, IH.fz, (vk w).fz]
  have h1 := Ai w
  have h2 : fv (CG w) < fv 4607182418800017408 := vj (Nat.lt_of_le_of_lt h1 (by decide))
  exact decide_eq_true (by omega)
theorem II (w : UInt64) : nb w = some (CG w) := rfl
theorem Km (x : Nat) (h : x < 18446744073709551616) : ((UInt64.ofNat x) &&& ~~~(9223372036854775808 : UInt64)).toNat = x % 9223372036854775808 := by
  rw [UInt64.toNat_and, UInt64.toNat_ofNat_of_lt' (by exact h)]
  rw [show (~~~(9223372036854775808 : UInt64)).toNat = 2 ^ 63 - 1 from by decide]
  exact Nat.and_two_pow_sub_one_eq_mod x 63
theorem Ko {x : Nat} (h : NN x) : pV x = x := by
  have h1 : (Ieee.double.read x).isNaN = false := by
    rcases Nat.lt_or_ge (x % 9223372036854775808) 9218868437227405312 with h2 | h2
    · obtain ⟨m, p, h3, _⟩ := qv h2
      rw [h3]; rfl
    · rw [qw (Nat.le_antisymm h h2)]; rfl
  unfold pV
  rw [if_neg (by rw [h1]; decide)]
theorem IJ : Fp 9218868437227405311 := by unfold Fp; omega
theorem MR (x : Nat) (h : x < 18446744073709551616) (hn : NN x) : mf x = some (decide (x % 9223372036854775808 = 9218868437227405312)) := by
  have hp : Fp (x % 9223372036854775808) := hn
  unfold mf tD oy
  rw [lN (by intro e; rw [e] at hn; exact FE hn), Option.bind_some, Km x h, Ko hp.nn, Option.bind_some, (oA hp.nn IJ.nn).2.2.1, IJ.fz, hp.fz]
  refine congrArg some (decide_eq_decide.2 ⟨fun q => ?_, fun q => ?_⟩)
  · have : fv 9218868437227405311 < fv (x % 9223372036854775808) := by omega
    have := Gl.1 this
    have h2 : x % 9223372036854775808 ≤ 9218868437227405312 := hn
    omega
  · rw [q]
    have : fv 9218868437227405311 < fv 9218868437227405312 := vj (by decide)
    omega
theorem MS {z : Int} {w : Nat} (h : IY z w) : w < 18446744073709551616 := by
  obtain ⟨neg, R, rfl, h1, _⟩ := h.ok
  exact (tR neg h1).2.2
theorem xd {x : Nat} (h : NN x) (h2 : ¬ (x % 9223372036854775808 = 9218868437227405312)) : yZ x := by
  unfold NN at h; unfold yZ; omega
theorem Gq {d s : Nat} (hd : yZ d) (hz : 0 ≤ fz d) (hs : Fp s) (GV : s < 9218868437227405312) : NN (lG .mul d s) ∧ lG .mul d s < 18446744073709551616 ∧ 0 ≤ fz (lG .mul d s) ∧ (fz d = 0 → fz (lG .mul d s) = 0) := by
  obtain ⟨m, p, h1, h2, h3⟩ := qv hd
  rcases IF hs with ⟨n, q, g1, _⟩ | ⟨_, g1⟩
  · rw [(xc (op := .mul)).2.2.1 rfl]
    unfold Ieee.Format.mul
    rw [h1, g1, Ieee.Datum.product, getD_map, yB, Bool.xor_false]
    obtain ⟨R, q1, q2, q3, q4⟩ := vC (d / 9223372036854775808 % 2 == 1) (m * n) (p + q)
    rw [q2, CD _ q1]
    have IZ : fz d = if (d / 9223372036854775808 % 2 == 1) = true then -(fv (d % 9223372036854775808) : Int) else (fv (d % 9223372036854775808) : Int) := rfl
    have Jc : fz d = 0 → R = 0 := by
      intro h0
      rw [IZ] at h0
      have hv : fv (d % 9223372036854775808) = 0 := by split at h0 <;> omega
      rw [hv] at h3
      have hm : m = 0 := by
        rcases Nat.eq_zero_or_pos m with h | h
        · exact h
        · have := Nat.mul_pos h (Nat.two_pow_pos (p + 1074).toNat); omega
      have := q4 0 (by rw [hm, Nat.zero_mul, Nat.zero_mul]; exact Nat.zero_le _)
      omega
    refine ⟨FD _ q1, (tR _ q1).2.2, ?_, fun h0 => ?_⟩
    · cases PV : (d / 9223372036854775808 % 2 == 1) with
      | false => simp only [Bool.false_eq_true, if_false]; exact Int.natCast_nonneg _
      | true =>
        rw [PV] at IZ
        simp only [if_true] at IZ ⊢
        rw [Jc (by omega), CA]; omega
    · rw [Jc h0, CA]; split <;> rfl
  · omega
theorem EH {lo d p : Nat} (AS : yZ lo) (hp : NN p) (hl : p < 18446744073709551616) (hz : 0 ≤ fz p) : NN (lG .add lo p) ∧ fz lo ≤ fz (lG .add lo p) ∧ (fz p = 0 → fz (lG .add lo p) = fz lo) := by
  by_cases hn : yZ p
  · have hr := Kk AS hn
    refine ⟨hr.nn, hr.ge AS.nn (by omega), fun h0 => ?_⟩
    have h1 := hr.ge AS.nn (by omega)
    have h2 := hr.le AS.nn (by omega)
    omega
  · have hi : p % 9223372036854775808 = 9218868437227405312 := by unfold NN at hp; unfold yZ at hn; omega
    have OH : 0 < fv 9218868437227405312 := by
      have : fv 0 < fv 9218868437227405312 := vj (by decide)
      rw [CA] at this; exact this
    have IZ : fz p = if (p / 9223372036854775808 % 2 == 1) = true then -(fv (p % 9223372036854775808) : Int) else (fv (p % 9223372036854775808) : Int) := rfl
    rw [hi] at IZ
    cases hs : (p / 9223372036854775808 % 2 == 1) with
    | true => rw [hs] at IZ; simp only [if_true] at IZ; omega
    | false =>
      have e : lG .add lo p = 9218868437227405312 := by
        obtain ⟨m, q, h1, _⟩ := qv AS
        rw [(xc (op := .add)).1 rfl]
        unfold Ieee.Format.add
        rw [h1, qw hi, hs, Ieee.Datum.sum, getD_map, Gp]
      rw [e]
      have hI : Fp 9218868437227405312 := by unfold Fp; omega
      rw [hI.fz]
      rw [hs] at IZ
      simp only [Bool.false_eq_true, if_false] at IZ
      refine ⟨hI.nn, ?_, fun h0 => by omega⟩
      have h5 : fv (lo % 9223372036854775808) < fv 9218868437227405312 := vj AS
      unfold fz
      split <;> omega
end Go.Sx
namespace Go.Sx
open Go.RowKit
set_option linter.unusedVariables false
set_option linter.unusedSimpArgs false
theorem MU : na = some true := by
  obtain ⟨gq, hb, hn⟩ := OD [] (by simp)
  unfold na
  rw [hn, Option.bind_some, Sum.elim_inr]
  unfold lO ek mG
  rw [Option.bind_some, Option.bind_some, Option.bind_some]
section
variable (R : List UInt8) (hR : R.length = 64) (d : Int) (gq nk : List UInt8) (last : Bool) (wr : UInt64) (h : ae UInt64 8) (lo hi : UInt64) (held : List UInt8) (hh : held.length ≤ 128)
  (hn : eJ 1 d gq nk last wr h lo hi held 128 64 = some (R, 0, h, lo, hi, held, 128, 1, d, gq, nk, last, wr))
  (fT key : List UInt8) (at_ : UInt64) (now : ae UInt8 64) (hv : Int)
theorem Rt : hT fT key [] [] 1 d gq nk last wr h lo hi held 128 at_ now hv 0 = some (Sum.inl (h, lo, hi, held, 128, 1, d, gq, nk, last, wr, at_, now, hv)) := by
  unfold hT ek
  rw [Option.bind_some, if_pos rfl]
include hR hh hn in
theorem Ru (n : UInt64) (h1 : 0 < n.toNat) (m : Nat) (hm : at_.toNat = 8 * m) (hl : m + 64 ≤ 34359738368) (ho : y8 R now hv) :
    ∃ (v : UInt64) (m' : Nat) (yY : UInt64) (ib : ae UInt8 64) (mM : Int), m + 1 ≤ m' ∧ m' ≤ m + 64 ∧ yY.toNat = 8 * m' ∧ y8 R ib mM ∧ v.toNat < n.toNat ∧
      hT fT key [] [] 1 d gq nk last wr h lo hi held 128 at_ now hv n = some (Sum.inr (v, 0, h, lo, hi, held, 128, 1, d, gq, nk, last, wr, R, yY, ib, mM)) := by
  have Gk : n ≠ 0 := by intro e; rw [e] at h1; exact absurd h1 (by decide)
  obtain ⟨v, m', yY, ib, mM, q0, q1, q2, q3, q4, q5⟩ := MN R hR d gq nk last wr h lo hi held hn fT key 0 n h1 m at_ now hv hm hl ho
  refine ⟨v, m', yY, ib, mM, q0, q1, q2, q3, q4, ?_⟩
  unfold hT ek ly ek kT
  rw [Option.bind_some, if_neg Gk, Option.bind_some, KP d gq nk last wr h lo hi held hh key at_ now hv, Option.bind_some]
  dsimp only
  rw [q5, Option.bind_some, Option.bind_some, if_neg nz, Option.bind_some, if_neg nz]
variable (m : Nat) (hm : at_.toNat = 8 * m) (hl : m + 1 ≤ 34359738368) (ho : y8 R now hv)
include hR hh hm hl ho
theorem KT : ∃ (yY : UInt64) (ib : ae UInt8 64) (mM : Int), yY.toNat = 8 * (m + 1) ∧ y8 R ib mM ∧
      gZ fT key [] [] 1 d gq nk last wr h lo hi held 128 R at_ now hv = some (CG (IX R at_), 0, h, lo, hi, held, 128, 1, d, gq, nk, last, wr, yY, ib, mM) := by
  obtain ⟨ib, mM, CQ, hs⟩ := FA R hR d gq nk last wr h lo hi held key at_ now hv (by omega) (by omega) ho
  refine ⟨at_ + 8, ib, mM, by rw [UInt64.toNat_add, hm, show (8 : UInt64).toNat = 8 from rfl]; omega, CQ, ?_⟩
  unfold gZ ki kg ig
  rw [Option.bind_some]
  rw [MI R d gq nk last wr h lo hi held hh key at_ now hv]
  rw [Option.bind_some]
  unfold jX fC
  rw [hs, Option.bind_some, if_neg nz, FB R hR at_ (by omega) (by omega), Option.bind_some, Option.bind_some, Option.bind_some, if_neg nz, Option.bind_some, if_neg nz, Option.bind_some]
  dsimp only
  rw [II, Option.bind_some]
include hn in
theorem Rv : ∃ (yY : UInt64) (ib : ae UInt8 64) (mM : Int), yY.toNat = 8 * (m + 1) ∧ y8 R ib mM ∧
      j8 fT key [] [] 1 d gq nk last wr h lo hi held 128 at_ now hv = some (CG (IX R at_), 0, h, lo, hi, held, 128, 1, d, gq, nk, last, wr, R, yY, ib, mM) := by
  obtain ⟨ib, mM, CQ, hs⟩ := IC R hR d gq nk last wr h lo hi held hn key at_ now hv (by omega) (by omega) ho
  refine ⟨at_ + 8, ib, mM, by rw [UInt64.toNat_add, hm, show (8 : UInt64).toNat = 8 from rfl]; omega, CQ, ?_⟩
  unfold j8 lP jY ek
  rw [Option.bind_some]
  rw [KP d gq nk last wr h lo hi held hh key at_ now hv]
  rw [Option.bind_some]
  unfold jO gy
  rw [hs, Option.bind_some, if_neg nz, FB R hR at_ (by omega) (by omega), Option.bind_some, Option.bind_some, Option.bind_some, if_neg nz, Option.bind_some, if_neg nz, Option.bind_some]
  dsimp only
  rw [II, Option.bind_some]
theorem OK (x y : Nat) (hx : x < 18446744073709551616) (hy : y < 18446744073709551616) :
    ∃ r, ij fT key [] [] 1 d gq nk last wr h lo hi held 128 R at_ now hv x y = some r ∧
     ((r.1 = 0 ∧ r.2.1 = 1 ∧ (dr .neq (lG .sub x x) 0 = true ∨ dr .neq (lG .sub y y) 0 = true ∨ dr .gtr x y = true ∨ dr .neq (lG .sub (lG .sub y x) (lG .sub y x)) 0 = true)) ∨
      (r.2.1 = 0 ∧ dr .neq (lG .sub x x) 0 = false ∧ dr .neq (lG .sub y y) 0 = false ∧ dr .gtr x y = false ∧ dr .neq (lG .sub (lG .sub y x) (lG .sub y x)) 0 = false ∧ dr .geq r.1 x = true ∧ (dr .neq x y = false → dr .eql r.1 x = true))) := by
  rw [CF x, CF y, CF (lG .sub y x)]
  unfold ij ig
  rw [Option.bind_some]
  by_cases h1 : dr .leq x y = true
  · rw [if_neg (by rw [h1]; decide)]
    have T2 : NN x ∧ NN y := by
      refine Classical.byContradiction fun hc => ?_
      have := (Dx (x := x) (y := y) (by by_cases q : NN x; exact .inr fun q2 => hc ⟨q, q2⟩; exact .inl q)).2.1
      rw [this] at h1; cases h1
    obtain ⟨FV, OL⟩ := T2
    rw [MR x hx FV, Option.bind_some]
    by_cases h2 : x % 9223372036854775808 = 9218868437227405312
    · rw [if_pos (decide_eq_true h2)]
      exact ⟨_, rfl, .inl ⟨rfl, rfl, .inl (decide_eq_true (by unfold yZ; omega))⟩⟩
    · have MV := xd FV h2
      rw [if_neg (by rw [decide_eq_false h2]; decide), MR y hy OL, Option.bind_some]
      by_cases h3 : y % 9223372036854775808 = 9218868437227405312
      · rw [if_pos (decide_eq_true h3)]
        exact ⟨_, rfl, .inl ⟨rfl, rfl, .inr (.inl (decide_eq_true (by unfold yZ; omega)))⟩⟩
      · have Nh := xd OL h3
        have hr := Kl Nh MV
        rw [if_neg (by rw [decide_eq_false h3]; decide), MR _ (MS hr) hr.nn, Option.bind_some]
        by_cases h4 : lG .sub y x % 9223372036854775808 = 9218868437227405312
        · rw [if_pos (decide_eq_true h4)]
          exact ⟨_, rfl, .inl ⟨rfl, rfl, .inr (.inr (.inr (decide_eq_true (by unfold yZ; omega))))⟩⟩
        · have Sa := xd hr.nn h4
          rw [if_neg (by rw [decide_eq_false h4]; decide)]
          obtain ⟨yY, ib, mM, s1, s2, s3⟩ := KT R hR d gq nk last wr h lo hi held hh fT key at_ now hv m hm hl ho
          dsimp only
          rw [s3, Option.bind_some, if_neg nz]
          have hle : fz x ≤ fz y := by
            rw [(oA FV OL).2.1] at h1
            exact of_decide_eq_true h1
          have hz : 0 ≤ fz (lG .sub y x) := by
            have := hr.ge EF (by rw [IG]; omega)
            rw [IG] at this; exact this
          have Pb := Gq Sa hz (vk (IX R at_)) (Nat.lt_of_le_of_lt (Ai _) (by decide))
          have Pc := EH (d := 0) MV Pb.1 Pb.2.1 Pb.2.2.1
          refine ⟨_, rfl, .inr ⟨rfl, decide_eq_false (fun q => q MV), decide_eq_false (fun q => q Nh), ?_, decide_eq_false (fun q => q Sa), ?_, fun he => ?_⟩⟩
          · rw [(oA FV OL).2.2.1]; exact decide_eq_false (by omega)
          · rw [(oA Pc.1 FV).2.2.2.1]; exact decide_eq_true Pc.2.1
          · rw [(oA FV OL).2.2.2.2.2] at he
            have UX : fz x = fz y := Classical.not_not.1 (of_decide_eq_false he)
            have IU : fz (lG .sub y x) = 0 := by
              have := hr.le EF (by rw [IG]; omega)
              rw [IG] at this; omega
            rw [(oA Pc.1 FV).2.2.2.2.1]
            exact decide_eq_true (Pc.2.2 (Pb.2.2.2 IU))
  · have M7 : dr .leq x y = false := by simpa using h1
    rw [if_pos (by rw [M7]; rfl)]
    refine ⟨_, rfl, .inl ⟨rfl, rfl, ?_⟩⟩
    by_cases MV : yZ x
    · by_cases Nh : yZ y
      · rw [(oA MV.nn Nh.nn).2.1] at M7
        right; right; left
        rw [(oA MV.nn Nh.nn).2.2.1]
        have := of_decide_eq_false M7
        exact decide_eq_true (by omega)
      · exact .inr (.inl (decide_eq_true Nh))
    · exact .inl (decide_eq_true MV)
end
theorem Rx : pH 0 = some 0 := by
  unfold pH vw
  rw [Option.bind_some, (oA EF EF).2.2.2.2.2, if_neg (by decide), lN (by decide), Option.bind_some]
  rfl
theorem MW : e9 0 0 = some true := by
  unfold e9
  rw [Rx, Option.bind_some, Option.bind_some]
  rfl
theorem IK (x y : Nat) (r1 : Nat) (r2 : Int) (hr : ((r1 = 0 ∧ r2 = 1 ∧ (dr .neq (lG .sub x x) 0 = true ∨ dr .neq (lG .sub y y) 0 = true ∨ dr .gtr x y = true ∨ dr .neq (lG .sub (lG .sub y x) (lG .sub y x)) 0 = true)) ∨
      (r2 = 0 ∧ dr .neq (lG .sub x x) 0 = false ∧ dr .neq (lG .sub y y) 0 = false ∧ dr .gtr x y = false ∧ dr .neq (lG .sub (lG .sub y x) (lG .sub y x)) 0 = false ∧ dr .geq r1 x = true ∧ (dr .neq x y = false → dr .eql r1 x = true)))) :
    (if (dr .neq (lG .sub x x) 0) = true then (if r2 = 1 then ((e9 r1 0).bind fun KI => some KI) else (some false)) else (if (dr .neq (lG .sub y y) 0) = true then (if r2 = 1 then ((e9 r1 0).bind fun Ea => some Ea) else (some false)) else (if (dr .gtr x y) = true then (if r2 = 1 then ((e9 r1 0).bind fun Ec => some Ec) else (some false)) else (if (dr .neq (lG .sub (lG .sub y x) (lG .sub y x)) 0) = true then (if r2 = 1 then ((e9 r1 0).bind fun Ed => some Ed) else (some false)) else (if r2 = 0 then (if (dr .geq r1 x) = true then (if (dr .neq x y) = true then (some true) else (some (dr .eql r1 x))) else (some false)) else (some false)))))) = some true := by
  rcases hr with ⟨rfl, rfl, hc⟩ | ⟨rfl, g1, g2, g3, g4, g5, g6⟩
  · simp only [MW, Option.bind_some, if_pos]
    by_cases h1 : dr .neq (lG .sub x x) 0 = true
    · rw [if_pos h1]
    rw [if_neg h1]
    by_cases h2 : dr .neq (lG .sub y y) 0 = true
    · rw [if_pos h2]
    rw [if_neg h2]
    by_cases h3 : dr .gtr x y = true
    · rw [if_pos h3]
    rw [if_neg h3]
    rw [if_pos (by rcases hc with q | q | q | q; exact absurd q h1; exact absurd q h2; exact absurd q h3; exact q)]
  · rw [g1, g2, g3, g4, g5]
    simp only [Bool.false_eq_true, if_false, if_true]
    by_cases h1 : dr .neq x y = true
    · rw [if_pos h1]
    · rw [if_neg h1, g6 (by simpa using h1)]
theorem yC (fT : ae UInt8 8) (n : UInt64) (lo : Nat) (AS : lo < 18446744073709551616) (hi : Nat) (Kq : hi < 18446744073709551616) : mg fT n lo hi = some true := by
  have T3 : fT.l.length ≤ 64 := by rw [fT.h]; omega
  unfold mg
  rw [MU, Option.bind_some, if_neg (by decide)]
  obtain ⟨gq, T4, T5⟩ := OD fT.l T3
  rw [T5, Option.bind_some, Sum.elim_inr]
  dsimp only
  have hh : (AO.kb fT.l).length ≤ 128 := AO.Ix fT.l (by show fT.l.length ≤ 128; omega)
  have NR := Q_ 64 gq fT.l false 0 (Dq gq) 0 0 (AO.kb fT.l) hh
  have hR : (Il (fB (Dq gq) (pad 128 (AO.kb fT.l)) (rY (0, 0) (UInt64.ofNat (AO.kb fT.l).length)) true false)).length = 64 := tQ _
  generalize Il (fB (Dq gq) (pad 128 (AO.kb fT.l)) (rY (0, 0) (UInt64.ofNat (AO.kb fT.l).length)) true false) = R at NR hR
  generalize AO.kb fT.l = held at *
  generalize Dq gq = h at *
  generalize ae.rep 64 (0 : UInt8) = IL
  generalize fT.l = key at *
  by_cases Gk : n = 0
  · subst Gk
    rw [Rt 64 gq key false 0 h 0 0 held key key 0 IL (-1), Option.bind_some, Sum.elim_inl, if_neg (by decide)]
    dsimp only
    obtain ⟨yY, ib, mM, s1, s2, s3⟩ := Rv R hR 64 gq key false 0 h 0 0 held hh NR key key 0 IL (-1) 0 rfl (by omega) (Fx R IL)
    rw [s3, Option.bind_some, if_neg nz]
    dsimp only
    rw [if_pos (DA _), if_neg (by rw [DB]; decide)]
    obtain ⟨r, t1, t2⟩ := OK R hR 64 gq key false 0 h 0 0 held hh key key yY ib mM (0 + 1) s1 (by omega) s2 lo hi AS Kq
    rw [t1, Option.bind_some]
    exact IK lo hi r.1 r.2.1 t2
  · have h1 : 0 < n.toNat := by
      rcases Nat.eq_zero_or_pos n.toNat with q | q
      · exact absurd (UInt64.toNat_inj.1 q) Gk
      · exact q
    obtain ⟨v, m', T6, EC, Jh, q0, q1, q2, q3, q4, q5⟩ := Ru R hR 64 gq key false 0 h 0 0 held hh NR key key 0 IL (-1) n h1 0 rfl (by omega) (Fx R IL)
    have T7 : ¬ n ≤ v := fun e => by have := UInt64.le_iff_toNat_le.1 e; omega
    rw [q5, Option.bind_some, Sum.elim_inr]
    dsimp only
    rw [if_neg (by rw [decide_eq_false Gk, decide_eq_false T7]; simp)]
    obtain ⟨yY, ib, mM, s1, s2, s3⟩ := KT R hR 64 gq key false 0 h 0 0 held hh key key T6 EC Jh m' q2 (by omega) q3
    rw [s3, Option.bind_some, if_neg nz]
    dsimp only
    rw [if_pos (DA _), if_neg (by rw [DB]; decide)]
    obtain ⟨r, t1, t2⟩ := OK R hR 64 gq key false 0 h 0 0 held hh key key yY ib mM (m' + 1) s1 (by omega) s2 lo hi AS Kq
    rw [t1, Option.bind_some]
    exact IK lo hi r.1 r.2.1 t2
end Go.Sx
