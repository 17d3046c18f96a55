import Derived.Test.YtlkkpljellognaaGreatDoorK3
namespace Go.Sx
open Go.RowKit Go.Proofs
set_option linter.unusedVariables false
set_option linter.unusedSimpArgs false
set_option maxRecDepth 20000
theorem BF {F O : Nat → Prop} {w : World} (s_ : List UInt8) (most : Int) (k : Cx F O w w []) (r : (List UInt8 × Int × UInt64 × List UInt8 × Bool)) (hm : lW s_ most = some r) :
    Calls Tryz.prog 15 (vals [.s s_, I most]) w (fun e w' => e = .returned (SV.val (.fV [.agg [.s r.1, I r.2.1, .u64 r.2.2.1, .s r.2.2.2.1], .b r.2.2.2.2])) ∧ Cx F O w w' []) := by
 unfold lW at hm
 refine calls [.s s_, I most] Tryz.func15 rfl (of_decide_eq_true (by kernel_rfl)) ?_
 refine af <| ay <| au <| iH [] 4 [.s ([] : List UInt8), I 0, .u64 0, .s ([] : List UInt8)] (by kernel_rfl) k ?_
 intro g w_ k_
 refine aK 1 [] .a qe (by kernel_rfl) ?_
 refine aj <| ae <| af <| ay <| aK 1 [] (.n 14 (.s s_) (.k (.s .a))) qe (by kernel_rfl) ?_
 refine au ?_
 obtain ⟨r_, fC, hm⟩ := ob hm
 refine ax [] 15 _ Cf (by kernel_rfl) (sN (F := N0) (O := N0) _ _ (Cx.refl _) _ fC) ?_
 rintro e_ qF ⟨A, _, c, rfl, rfl, fQ⟩
 have eX := k_.call fQ
 refine ⟨sl A r_.length c, rfl, ?_⟩
 refine aK 1 [] (.n 6 (sl A r_.length c) (.ss .a)) qe (by kernel_rfl) ?_
 refine aj <| ae <| af <| af <| ay <| aK 4 [] (.n 19 (.b (decide (((r_.length : Nat) : Int) ≠ 4))) .a) qe (by kernel_rfl) ?_
 refine oq 19 (decide (((r_.length : Nat) : Int) ≠ 4)) (.s .a) (by kernel_rfl) (fun hg => ?_) (fun hg => ?_)
 · rw [if_pos (of_decide_eq_true hg)] at hm
   refine aK 6 [19] (.n 25 (.b true) (.s .a)) qe (by kernel_rfl) ?_
   refine aj <| ae <| aN true (by kernel_rfl) (fun _ => ?_) (fun h => by cases h)
   refine af <| ay <| aK 1 [] (.n 26 (.agg [.s ([] : List UInt8), I 0, .u64 0, .s ([] : List UInt8)]) (.ss (.k .z))) qe (by kernel_rfl) ?_
   refine au <| dZ [] 0 (.agg [.s ([] : List UInt8), I 0, .u64 0, .s ([] : List UInt8)]) [.s ([] : List UInt8), I 0, .u64 0, .s ([] : List UInt8)] (Pt.at g 0) eX rfl .all (by kernel_rfl) (by kernel_rfl) ?_
   intro uq gG
   have jV := gG.dm (.k .z)
   refine aK 1 [] (.n 5 (.b false) (.s .a)) qe (by kernel_rfl) ?_
   refine aj <| ae <| aF (aJ ?_)
   obtain rfl := Option.some.inj hm
   refine aG [.agg [.s ([] : List UInt8), I 0, .u64 0, .s ([] : List UInt8)], .b false] (qo (.agg [.s ([] : List UInt8), I 0, .u64 0, .s ([] : List UInt8)]) <| qc (fun w => Rd w (some ⟨g, 0, none⟩) (SV.cl [.s ([] : List UInt8), I 0, .u64 0, .s ([] : List UInt8)])) (jV.xe 0 rfl) <| qe) (by kernel_rfl) ?_
   have jG := jV.dm .z
   exact ⟨rfl, jG⟩
 · rw [if_neg (of_decide_eq_false hg)] at hm
   obtain ⟨gm, nJ, hm⟩ := ob hm
   refine aK 3 [19] (.n 22 (.s gm) .a) (qW (eX.rd 1 rfl) nJ (eX.len 1 rfl) (.s gm) rfl <| qe) (by kernel_rfl) ?_
   refine au ?_
   obtain ⟨bQ, l_, hm⟩ := ob hm
   refine ax [19] 23 _ IB (by kernel_rfl) (BD (F := N0) (O := N0) _ (Cx.refl _) _ l_) ?_
   rintro e_ xU ⟨rfl, mD⟩
   have jA := eX.call mD
   refine ⟨.b bQ, rfl, ?_⟩
   refine aK 2 [19] (.n 25 (.b (!bQ)) (.nG .a)) qe (by kernel_rfl) ?_
   refine aj <| ae <| aN (!bQ) (by kernel_rfl) (fun hc => ?_) (fun hc => ?_)
   · rw [if_pos hc] at hm
     refine af <| ay <| aK 1 [] (.n 26 (.agg [.s ([] : List UInt8), I 0, .u64 0, .s ([] : List UInt8)]) (.ss (.k .z))) qe (by kernel_rfl) ?_
     refine au <| dZ [] 0 (.agg [.s ([] : List UInt8), I 0, .u64 0, .s ([] : List UInt8)]) [.s ([] : List UInt8), I 0, .u64 0, .s ([] : List UInt8)] (Pt.at g 0) jA rfl .all (by kernel_rfl) (by kernel_rfl) ?_
     intro Bf lX
     have qH := lX.dm (.k .z)
     refine aK 1 [] (.n 5 (.b false) (.s .a)) qe (by kernel_rfl) ?_
     refine aj <| ae <| aF (aJ ?_)
     obtain rfl := Option.some.inj hm
     refine aG [.agg [.s ([] : List UInt8), I 0, .u64 0, .s ([] : List UInt8)], .b false] (qo (.agg [.s ([] : List UInt8), I 0, .u64 0, .s ([] : List UInt8)]) <| qc (fun w => Rd w (some ⟨g, 0, none⟩) (SV.cl [.s ([] : List UInt8), I 0, .u64 0, .s ([] : List UInt8)])) (qH.xe 0 rfl) <| qe) (by kernel_rfl) ?_
     have jF := qH.dm .z
     exact ⟨rfl, jF⟩
   rw [if_neg (by rw [hc]; decide)] at hm
   refine aH <| ae <| af <| ay ?_
   obtain ⟨zF, CU, hm⟩ := ob hm
   refine aK 3 [] (.n 30 (.s zF) (.s .a)) (qW (jA.rd 1 rfl) CU (jA.len 1 rfl) (.s zF) rfl <| qe) (by kernel_rfl) ?_
   refine au ?_
   obtain ⟨aX, pJ, hm⟩ := ob hm
   refine ax [] 31 _ CB (by kernel_rfl) (uz (F := N0) (O := N0) _ (Cx.refl _) _ pJ) ?_
   rintro e_ D9 ⟨rfl, ji⟩
   have jk := jA.call ji
   refine ⟨.fV [.u64 aX.1, .b aX.2], rfl, ?_⟩
   refine aK 5 [] (.n 7 (.u64 aX.1) (.n 8 (.b aX.2) (.ss .a))) qe (by kernel_rfl) ?_
   refine aj <| ae <| af <| ay ?_
   obtain ⟨zG, CV, hm⟩ := ob hm
   refine aK 3 [] (.n 37 (.s zG) .a) (qW (jk.rd 1 rfl) CV (jk.len 1 rfl) (.s zG) rfl <| qe) (by kernel_rfl) ?_
   refine au ?_
   have kR := jk.dm (.kk .e)
   obtain ⟨gy, pK, hm⟩ := ob hm
   refine ax [] 38 _ CB (by kernel_rfl) (uz (F := N0) (O := N0) _ (Cx.refl _) _ pK) ?_
   rintro e_ Es ⟨rfl, lS⟩
   have lF := kR.call lS
   refine ⟨.fV [.u64 gy.1, .b gy.2], rfl, ?_⟩
   refine aK 5 [] (.n 9 (.u64 gy.1) (.n 10 (.b gy.2) (.ss .a))) qe (by kernel_rfl) ?_
   refine aj <| ae <| af <| ay ?_
   obtain ⟨Ic, Gn, hm⟩ := ob hm
   refine aK 3 [] (.n 44 (.s Ic) .a) (qW (lF.rd 1 rfl) Gn (lF.len 1 rfl) (.s Ic) rfl <| qe) (by kernel_rfl) ?_
   refine au ?_
   obtain ⟨dw, sJ, hm⟩ := ob hm
   refine ax [] 45 _ IC (by kernel_rfl) (zW (F := N0) (O := N0) _ (Cx.refl _) _ sJ) ?_
   rintro e_ G9 ⟨A1, _, c1, A2, _, c2, rfl, rfl, rfl, oG⟩
   have rC := lF.call oG
   refine ⟨.fV [.agg [I dw.1, I dw.2.1, I dw.2.2.1, I dw.2.2.2.1, I dw.2.2.2.2.1, sl A1 dw.2.2.2.2.2.1.length c1, sl A2 dw.2.2.2.2.2.2.1.length c2], I dw.2.2.2.2.2.2.2.1, I dw.2.2.2.2.2.2.2.2], rfl, ?_⟩
   refine aK 4 [] (.n 46 (.agg [I dw.1, I dw.2.1, I dw.2.2.1, I dw.2.2.2.1, I dw.2.2.2.2.1, sl A1 dw.2.2.2.2.2.1.length c1, sl A2 dw.2.2.2.2.2.2.1.length c2]) (.n 47 (I dw.2.2.2.2.2.2.2.1) (.n 48 (I dw.2.2.2.2.2.2.2.2) (.ss .a)))) qe (by kernel_rfl) ?_
   refine au <| iH [] 11 [I 0, I 0, I 0, I 0, I 0, sl none 0 0, sl none 0 0] (by kernel_rfl) rC ?_
   intro g1 JA sH
   refine au <| dZ [] 4 (.agg [I dw.1, I dw.2.1, I dw.2.2.1, I dw.2.2.2.1, I dw.2.2.2.2.1, sl A1 dw.2.2.2.2.2.1.length c1, sl A2 dw.2.2.2.2.2.2.1.length c2]) [I dw.1, I dw.2.1, I dw.2.2.1, I dw.2.2.2.1, I dw.2.2.2.2.1, sl A1 dw.2.2.2.2.2.1.length c1, sl A2 dw.2.2.2.2.2.2.1.length c2] (Pt.at g1 0) sH rfl .all (by kernel_rfl) (by kernel_rfl) ?_
   intro KL sK
   have lG := sK.dm (.kk .z)
   refine aK 2 [] (.n 13 (I dw.2.2.2.2.2.2.2.2) (.kF .a)) qe (by kernel_rfl) ?_
   refine aj <| ae <| af <| af <| aP [] (.n 64 (.b ((((!aX.2) || (!gy.2)) || (decide (dw.2.2.2.2.2.2.2.2 ≠ 0))) || (decide ((UInt64.ofInt most) ≤ aX.1)))) (.s (.k (.s (.k (.s (.kk .z))))))) qe (by kernel_rfl) ?_
   refine ae <| aN ((((!aX.2) || (!gy.2)) || (decide (dw.2.2.2.2.2.2.2.2 ≠ 0))) || (decide ((UInt64.ofInt most) ≤ aX.1))) (by kernel_rfl) (fun hc1 => ?_) (fun hc1 => ?_)
   · rw [if_pos hc1] at hm
     refine af <| ay <| aK 1 [] (.n 65 (.agg [.s ([] : List UInt8), I 0, .u64 0, .s ([] : List UInt8)]) (.kF .a)) qe (by kernel_rfl) ?_
     refine au ?_
     have oH := lG.dm (.kk .e)
     refine dZ [] 0 (.agg [.s ([] : List UInt8), I 0, .u64 0, .s ([] : List UInt8)]) [.s ([] : List UInt8), I 0, .u64 0, .s ([] : List UInt8)] (Pt.at g 0) oH rfl .all (by kernel_rfl) (by kernel_rfl) ?_
     intro zI pM
     have qx := pM.dm (.k .z)
     refine aK 1 [] (.n 5 (.b false) (.s .a)) qe (by kernel_rfl) ?_
     refine aj <| ae <| aF (aJ ?_)
     obtain rfl := Option.some.inj hm
     refine aG [.agg [.s ([] : List UInt8), I 0, .u64 0, .s ([] : List UInt8)], .b false] (qo (.agg [.s ([] : List UInt8), I 0, .u64 0, .s ([] : List UInt8)]) <| qc (fun w => Rd w (some ⟨g, 0, none⟩) (SV.cl [.s ([] : List UInt8), I 0, .u64 0, .s ([] : List UInt8)])) (qx.xe 0 rfl) <| qe) (by kernel_rfl) ?_
     have rD := qx.dm .z
     exact ⟨rfl, rD⟩
   rw [if_neg (by rw [hc1]; decide)] at hm
   refine aH <| ae <| af ?_
   have nY := lG.drew 1
   refine B_ bu (.q 0 0 (.q 1 0 (.q 2 0 (.q 3 0 (.q 4 0 (.q 5 0 (.q 6 0 (.q 7 0 (.q 8 0 (.q 9 0 (.op 10 (.q 11 1 .nil)))))))))))) [10] nY (.c (.s (.k .e)) .l) (by kernel_rfl) (fun _ => ?_)
   obtain ⟨rZ, zS, hm⟩ := ob hm
   obtain ⟨uI, uw, hm⟩ := ob hm
   refine jT 10 0 [] (.n 75 (.agg [.s rZ, I (aA aX.1.toNat), .u64 gy.1, .s uI]) (.kF .a)) (fun x hx => qW (hx.rd 1 rfl) zS (nY.len 1 rfl) (.s rZ) rfl <| qW (hx.rd 1 rfl) uw (nY.len 1 rfl) (.s uI) rfl <| qe) (by kernel_rfl) (fun _ => ?_)
   refine jX (by kernel_rfl) rfl ?_
   have tV := nY.dm (.kk .e)
   refine dZ [] 0 (.agg [.s rZ, I (aA aX.1.toNat), .u64 gy.1, .s uI]) [.s rZ, I (aA aX.1.toNat), .u64 gy.1, .s uI] (Pt.at g 0) tV rfl .all (by kernel_rfl) (by kernel_rfl) ?_
   intro zJ rE
   refine ⟨(rE.dm (.s (.k .e))), fun _ => ?_⟩
   refine jT 1 1 [] (.n 5 (.b true) (.s .a)) (fun x hx => qe) (by kernel_rfl) (fun _ => ?_)
   refine iU <| ae <| aF ?_
   obtain rfl := Option.some.inj hm
   refine aG [.agg [.s rZ, I (aA aX.1.toNat), .u64 gy.1, .s uI], .b true] (qo (.agg [.s rZ, I (aA aX.1.toNat), .u64 gy.1, .s uI]) <| qc (fun w => Rd w (some ⟨g, 0, none⟩) (SV.cl [.s rZ, I (aA aX.1.toNat), .u64 gy.1, .s uI])) (rE.xe 0 rfl) <| qe) (by kernel_rfl) ?_
   have rF := rE.dm .z
   exact ⟨rfl, rF⟩
theorem wM {F O : Nat → Prop} {w : World} (ak : Int) (ag : Int) (ai : Int) (ah : Int) (aB : Int) (most : Int) (hold : UInt64) (text : List UInt8) (k : Cx F O w w []) (r : (Int × Int) ⊕ (Int × Int × Int × Int × Int × Int × UInt64 × (List (List UInt8 × Int × UInt64 × List UInt8)))) (hm : kX ak ag ai ah aB most hold text = some r) :
    Calls Tryz.prog 5 (vals [.agg [I ak, I ag, I ai, I ah, I aB], I most, .u64 hold, .s text]) w (fun e w' => match r with | .inl r0 => e = .returned (SV.val (.fV [.v (.pointer none), I r0.1, I r0.2])) ∧ Cx F O w w' [] | .inr r1 => ∃ g A n c, r1.2.2.2.2.2.2.2.length = n ∧ e = .returned (SV.val (.fV [pt g 0, I 0, I 0])) ∧ Cx F O w w' [Bx 54 g [I r1.1, I r1.2.1, I r1.2.2.1, I r1.2.2.2.1, I r1.2.2.2.2.1, I r1.2.2.2.2.2.1, .u64 r1.2.2.2.2.2.2.1, sl A n c], Ow (eP eS (eP eI (eP e64 eS))) A n c r1.2.2.2.2.2.2.2]) := by
 unfold kX at hm
 refine calls [.agg [I ak, I ag, I ai, I ah, I aB], I most, .u64 hold, .s text] Tryz.func5 rfl (of_decide_eq_true (by kernel_rfl)) ?_
 refine af <| ay <| au <| ik [] 4 (.agg [I ak, I ag, I ai, I ah, I aB]) [I ak, I ag, I ai, I ah, I aB] (by kernel_rfl) k ?_
 intro g0 w_ k_
 refine aK 3 [] (.k (.s .a)) qe (by kernel_rfl) ?_
 refine aj <| ae <| af <| ay <| aK 2 [] (.n 17 (.agg [I ak, I ag, I ai, I ah, I aB]) (.n 18 (I most) .a)) (qT k_ 0 rfl 0 5 [I ak, I ag, I ai, I ah, I aB] (by kernel_rfl) (by decide) <| qe) (by kernel_rfl) ?_
 refine au ?_
 obtain ⟨r_, fC, hm⟩ := ob hm
 refine ax [] 19 _ Il (by kernel_rfl) (zV (F := N0) (O := N0) _ _ _ _ _ _ (Cx.refl _) _ fC) ?_
 rintro e_ qF ⟨rfl, fQ⟩
 have eX := k_.call fQ
 refine ⟨I r_, rfl, ?_⟩
 refine aK 1 [] (.n 11 (I r_) (.nG .a)) qe (by kernel_rfl) ?_
 refine aj <| ae <| af <| af <| aP [] (.n 21 (.b (decide (r_ ≠ 0))) .a) qe (by kernel_rfl) ?_
 refine ae <| aQ (r_ ≠ 0) (by kernel_rfl) (fun hc => ?_) (fun hc => ?_)
 · rw [if_pos hc] at hm
   refine af <| aP [] (.n 8 (.v (.pointer none)) (.n 9 (I 0) (.n 10 (I r_) .z))) qe (by kernel_rfl) ?_
   refine ae <| aF (aJ ?_)
   obtain rfl := Option.some.inj hm
   refine aG [.v (.pointer none), I 0, I r_] qe (by kernel_rfl) ?_
   have gG := eX.dm .z
   exact ⟨rfl, gG⟩
 rw [if_neg hc] at hm
 refine aH <| ae <| af <| ay <| aK 4 [] (.n 26 (.agg [I ak, I ag, I ai, I ah, I aB, I most, .u64 hold, sl none 0 0]) (.nG (.k (.s .a)))) (qT eX 0 rfl 0 5 [I ak, I ag, I ai, I ah, I aB] (by kernel_rfl) (by decide) <| qe) (by kernel_rfl) ?_
 refine au <| ik [] 27 (.agg [I ak, I ag, I ai, I ah, I aB, I most, .u64 hold, sl none 0 0]) [I ak, I ag, I ai, I ah, I aB, I most, .u64 hold, sl none 0 0] (by kernel_rfl) eX ?_
 intro g1 uq jV
 refine aK 1 [] (.n 12 (pt g1 0) (.ss .a)) qe (by kernel_rfl) ?_
 refine aj <| ae <| af <| ay <| aK 1 [] (.n 28 (.s text) (.kk .z)) qe (by kernel_rfl) ?_
 refine au ?_
 obtain ⟨bQ, l_, hm⟩ := ob hm
 refine ax [] 29 _ Cf (by kernel_rfl) (sN (F := N0) (O := N0) _ _ (Cx.refl _) _ l_) ?_
 rintro e_ xU ⟨A0, _, c0, rfl, rfl, jG⟩
 have mD := jV.call jG
 refine ⟨sl A0 bQ.length c0, rfl, ?_⟩
 have jA := mD.dm (.s (.kk .e))
 refine aK 1 [] (.n 13 (sl A0 bQ.length c0) (.ss .a)) qe (by kernel_rfl) ?_
 refine aj <| ae <| vM (fun L wr => ∃ (b : List (List UInt8 × Int × UInt64 × List UInt8)) (A1 : Option Addr) (n0 : Nat) (c1 : Nat), iy ak ag ai ah aB most hold b = some r ∧ L = [(12, pt g1 0)] ∧ b.length = n0 ∧ Cx F O w wr [Bx 54 g1 [I ak, I ag, I ai, I ah, I aB, I most, .u64 hold, sl A1 n0 c1], Ow (eP eS (eP eI (eP e64 eS))) A1 n0 c1 b]) ?_ ?_
 ·
  refine af <| aP [] (.n 14 (I 0) .a) qe (by kernel_rfl) ?_
  refine ae <| EL (fun L wr => ∃ (b1 : List (List UInt8 × Int × UInt64 × List UInt8)) (A2 : Option Addr) (n1 : Nat) (c2 : Nat), f_ ak ag ai ah aB most hold b1 = some r ∧ L = [(12, pt g1 0)] ∧ b1.length = n1 ∧ Cx F O w wr [Bx 54 g1 [I ak, I ag, I ai, I ah, I aB, I most, .u64 hold, sl A2 n1 c2], Ow (eP eS (eP eI (eP e64 eS))) A2 n1 c2 b1]) ?_ ?_
  ·
   have qH := jA.nil (eP eS (eP eI (eP e64 eS)))
   have jF := ((qH.pk (.t .h)).pk (.t (.t .h))).pk (.t (.t .h))
   refine mV (bn ak ag ai ah aB most hold bQ) (fun s L wr => ∃ (b2 : List (List UInt8 × Int × UInt64 × List UInt8)) (i : Int) (A3 : Option Addr) (n2 : Nat) (c3 : Nat), (b2, i) = s ∧ L = [(1, I most), (12, pt g1 0), (13, sl A0 bQ.length c0), (14, I i)] ∧ b2.length = n2 ∧ Cx F O w wr [Bx 54 g1 [I ak, I ag, I ai, I ah, I aB, I most, .u64 hold, sl A3 n2 c3], Ow (eP eS (eP eI (eP e64 eS))) A3 n2 c3 b2, Ow eS A0 bQ.length c0 bQ]) (([] : List (List UInt8 × Int × UInt64 × List UInt8)), (0 : Int)) r hm ⟨([] : List (List UInt8 × Int × UInt64 × List UInt8)), (0 : Int), none, 0, 0, rfl, rfl, jF.len 1 rfl, jF⟩ (by kernel_rfl) ?_
   intro yT L_ Bf y0 hrel hstep hr0
   obtain ⟨b2, i, A3, _, c3, rfl, rfl, rfl, lX⟩ := hrel
   have hm := hstep; simp only [bn] at hm
   clear hstep
   refine af <| af <| aP [] (.n 33 (.b (decide (i < ((bQ.length : Nat) : Int)))) .a) qe (by kernel_rfl) ?_
   refine ae <| aQ (i < ((bQ.length : Nat) : Int)) (by kernel_rfl) (fun hc1 => ?_) (fun hc1 => ?_)
   · rw [if_pos hc1] at hm
     refine aH <| ae <| af <| aS <| af <| af ?_
     obtain ⟨gm, nJ, hm⟩ := ob hm
     refine aP [] (.n 47 (.b ((decide (i = (aA (((bQ.length : Nat) : Int) - 1)))) && (decide (gm = ([] : List UInt8))))) (.s .a)) (qp ((decide (i = (aA (((bQ.length : Nat) : Int) - 1)))) = true → 0 ≤ i ∧ i < ((bQ.length : Nat) : Int) ∧ A0.isSome = true) (fun hg0 => Rd.ix (E := eS) (lX.rd 2 rfl) (gQ nJ hg0) (lX.len 2 rfl) (by decide)) <| qo (.s gm) <| qc (fun w => (decide (i = (aA (((bQ.length : Nat) : Int) - 1)))) = true → ∃ a, zn A0 i 1 = some a ∧ w.cell? a = some (SV.val (.s gm))) (fun hg0 => Rd.el (k := 0) (lX.rd 2 rfl) (gQ nJ hg0) (Pt.Hq A0 i 1) rfl) <| qe) (by kernel_rfl) ?_
     refine ae <| aN ((decide (i = (aA (((bQ.length : Nat) : Int) - 1)))) && (decide (gm = ([] : List UInt8)))) (by kernel_rfl) (fun hc2 => ?_) (fun hc2 => ?_)
     · rw [if_pos hc2] at hm
       refine eU (bU (EM (by decide) (bU (bU (iG ?_)))))
       have hm := aV hm hr0
       have ji := lX.dm (.kk .z)
       exact mi ⟨b2, A3, b2.length, c3, hm, rfl, ji.len 1 rfl, ji⟩ (by kernel_rfl)
     rw [if_neg (by rw [hc2]; decide)] at hm
     refine aH <| ae <| af <| ay ?_
     obtain ⟨Ie, MB, hm⟩ := ob hm
     refine aK 5 [] (.n 52 (.s Ie) (.n 53 (I most) (.s .a))) (qW (lX.rd 2 rfl) MB (lX.len 2 rfl) (.s Ie) rfl <| qe) (by kernel_rfl) ?_
     refine au ?_
     obtain ⟨aX, pJ, hm⟩ := ob hm
     refine ax [] 54 _ Io (by kernel_rfl) (BF (F := N0) (O := N0) _ _ (Cx.refl _) _ pJ) ?_
     rintro e_ D9 ⟨rfl, jk⟩
     have kR := lX.call jk
     refine ⟨.fV [.agg [.s aX.1, I aX.2.1, .u64 aX.2.2.1, .s aX.2.2.2.1], .b aX.2.2.2.2], rfl, ?_⟩
     refine aK 3 [] (.n 55 (.agg [.s aX.1, I aX.2.1, .u64 aX.2.2.1, .s aX.2.2.2.1]) (.n 56 (.b aX.2.2.2.2) (.nG .a))) qe (by kernel_rfl) ?_
     refine au <| iH [] 15 [.s ([] : List UInt8), I 0, .u64 0, .s ([] : List UInt8)] (by kernel_rfl) kR ?_
     intro g2 Es lS
     refine au <| dZ [] 3 (.agg [.s aX.1, I aX.2.1, .u64 aX.2.2.1, .s aX.2.2.2.1]) [.s aX.1, I aX.2.1, .u64 aX.2.2.1, .s aX.2.2.2.1] (Pt.at g2 0) lS rfl .all (by kernel_rfl) (by kernel_rfl) ?_
     intro G9 lF
     refine aK 1 [] (.n 16 (.b aX.2.2.2.2) (.k (.ss .a))) qe (by kernel_rfl) ?_
     refine aj <| ae <| af <| af ?_
     obtain ⟨uJ, y5, hm⟩ := ob hm
     refine zh bu (by kernel_rfl) (.n 99 (.b ((((!aX.2.2.2.2) || (decide (i = (aA (((bQ.length : Nat) : Int) - 1))))) || (decide (1024 ≤ ((b2.length : Nat) : Int)))) || ((decide (0 < ((b2.length : Nat) : Int))) && (Op.bytesLess aX.1 uJ.1 || decide (aX.1 = uJ.1))))) (.s .a)) (fun m => qp (((!aX.2.2.2.2) || (decide (i = (aA (((bQ.length : Nat) : Int) - 1))))) = false → (some ⟨g1, 0, none⟩ : Option Addr).isSome = true) (fun hg0 => rfl) <| qp (((!aX.2.2.2.2) || (decide (i = (aA (((bQ.length : Nat) : Int) - 1))))) = false → (some ⟨g1, 0, none⟩ : Option Addr).isSome = true) (fun hg0 => rfl) <| qo (sl A3 b2.length c3) <| qc (fun w => ((!aX.2.2.2.2) || (decide (i = (aA (((bQ.length : Nat) : Int) - 1))))) = false → ∃ a, (some ⟨g1, 7, none⟩ : Option Addr) = some a ∧ w.cell? a = some (SV.val (sl A3 b2.length c3))) (fun hg0 => (lF.drew m).jY 0 rfl 7 (sl A3 b2.length c3) (by kernel_rfl)) <| qp ((((!aX.2.2.2.2) || (decide (i = (aA (((bQ.length : Nat) : Int) - 1))))) || (decide (1024 ≤ ((b2.length : Nat) : Int)))) = false → (some ⟨g1, 0, none⟩ : Option Addr).isSome = true) (fun hg0 => rfl) <| qp ((((!aX.2.2.2.2) || (decide (i = (aA (((bQ.length : Nat) : Int) - 1))))) || (decide (1024 ≤ ((b2.length : Nat) : Int)))) = false → (some ⟨g1, 0, none⟩ : Option Addr).isSome = true) (fun hg0 => rfl) <| qo (sl A3 b2.length c3) <| qc (fun w => (((!aX.2.2.2.2) || (decide (i = (aA (((bQ.length : Nat) : Int) - 1))))) || (decide (1024 ≤ ((b2.length : Nat) : Int)))) = false → ∃ a, (some ⟨g1, 7, none⟩ : Option Addr) = some a ∧ w.cell? a = some (SV.val (sl A3 b2.length c3))) (fun hg0 => (lF.drew m).jY 0 rfl 7 (sl A3 b2.length c3) (by kernel_rfl)) <| qp ((((!aX.2.2.2.2) || (decide (i = (aA (((bQ.length : Nat) : Int) - 1))))) || (decide (1024 ≤ ((b2.length : Nat) : Int)))) = false → (decide (0 < ((b2.length : Nat) : Int))) = true → (some ⟨g2, 0, none⟩ : Option Addr).isSome = true) (fun hg1 => fun hg0 => rfl) <| qo (.s aX.1) <| qc (fun w => (((!aX.2.2.2.2) || (decide (i = (aA (((bQ.length : Nat) : Int) - 1))))) || (decide (1024 ≤ ((b2.length : Nat) : Int)))) = false → (decide (0 < ((b2.length : Nat) : Int))) = true → ∃ a, (some ⟨g2, 0, none⟩ : Option Addr) = some a ∧ w.cell? a = some (SV.val (.s aX.1))) (fun hg1 => fun hg0 => (lF.drew m).jY 3 rfl 0 (.s aX.1) (by kernel_rfl)) <| qp ((((!aX.2.2.2.2) || (decide (i = (aA (((bQ.length : Nat) : Int) - 1))))) || (decide (1024 ≤ ((b2.length : Nat) : Int)))) = false → (decide (0 < ((b2.length : Nat) : Int))) = true → (some ⟨g1, 0, none⟩ : Option Addr).isSome = true) (fun hg1 => fun hg0 => rfl) <| qp ((((!aX.2.2.2.2) || (decide (i = (aA (((bQ.length : Nat) : Int) - 1))))) || (decide (1024 ≤ ((b2.length : Nat) : Int)))) = false → (decide (0 < ((b2.length : Nat) : Int))) = true → (some ⟨g1, 0, none⟩ : Option Addr).isSome = true) (fun hg1 => fun hg0 => rfl) <| qo (sl A3 b2.length c3) <| qc (fun w => (((!aX.2.2.2.2) || (decide (i = (aA (((bQ.length : Nat) : Int) - 1))))) || (decide (1024 ≤ ((b2.length : Nat) : Int)))) = false → (decide (0 < ((b2.length : Nat) : Int))) = true → ∃ a, (some ⟨g1, 7, none⟩ : Option Addr) = some a ∧ w.cell? a = some (SV.val (sl A3 b2.length c3))) (fun hg1 => fun hg0 => (lF.drew m).jY 0 rfl 7 (sl A3 b2.length c3) (by kernel_rfl)) <| qp ((((!aX.2.2.2.2) || (decide (i = (aA (((bQ.length : Nat) : Int) - 1))))) || (decide (1024 ≤ ((b2.length : Nat) : Int)))) = false → (decide (0 < ((b2.length : Nat) : Int))) = true → (some ⟨g1, 0, none⟩ : Option Addr).isSome = true) (fun hg1 => fun hg0 => rfl) <| qp ((((!aX.2.2.2.2) || (decide (i = (aA (((bQ.length : Nat) : Int) - 1))))) || (decide (1024 ≤ ((b2.length : Nat) : Int)))) = false → (decide (0 < ((b2.length : Nat) : Int))) = true → (some ⟨g1, 0, none⟩ : Option Addr).isSome = true) (fun hg1 => fun hg0 => rfl) <| qo (sl A3 b2.length c3) <| qc (fun w => (((!aX.2.2.2.2) || (decide (i = (aA (((bQ.length : Nat) : Int) - 1))))) || (decide (1024 ≤ ((b2.length : Nat) : Int)))) = false → (decide (0 < ((b2.length : Nat) : Int))) = true → ∃ a, (some ⟨g1, 7, none⟩ : Option Addr) = some a ∧ w.cell? a = some (SV.val (sl A3 b2.length c3))) (fun hg1 => fun hg0 => (lF.drew m).jY 0 rfl 7 (sl A3 b2.length c3) (by kernel_rfl)) <| qp ((((!aX.2.2.2.2) || (decide (i = (aA (((bQ.length : Nat) : Int) - 1))))) || (decide (1024 ≤ ((b2.length : Nat) : Int)))) = false → (decide (0 < ((b2.length : Nat) : Int))) = true → 0 ≤ aA (((b2.length : Nat) : Int) - 1) ∧ aA (((b2.length : Nat) : Int) - 1) < ((b2.length : Nat) : Int) ∧ A3.isSome = true) (fun hg1 => fun hg0 => Rd.ix (E := (eP eS (eP eI (eP e64 eS)))) ((lF.drew m).rd 1 rfl) (gQ (iT y5 hg1) hg0) (lF.len 1 rfl) (by decide)) <| qp ((((!aX.2.2.2.2) || (decide (i = (aA (((bQ.length : Nat) : Int) - 1))))) || (decide (1024 ≤ ((b2.length : Nat) : Int)))) = false → (decide (0 < ((b2.length : Nat) : Int))) = true → (zn A3 (aA (((b2.length : Nat) : Int) - 1)) 4 : Option Addr).isSome = true) (fun hg1 => fun hg0 => zC _ _ (EX (E := (eP eS (eP eI (eP e64 eS)))) ((lF.drew m).rd 1 rfl) (by decide) (rW (gQ (iT y5 hg1) hg0)).1 (bC (gQ (iT y5 hg1) hg0)).2)) <| qo (.s uJ.1) <| qc (fun w => (((!aX.2.2.2.2) || (decide (i = (aA (((bQ.length : Nat) : Int) - 1))))) || (decide (1024 ≤ ((b2.length : Nat) : Int)))) = false → (decide (0 < ((b2.length : Nat) : Int))) = true → ∃ a, fa (zn A3 (aA (((b2.length : Nat) : Int) - 1)) 4) 0 = some a ∧ w.cell? a = some (SV.val (.s uJ.1))) (fun hg1 => fun hg0 => Rd.el (k := 0) ((lF.drew m).rd 1 rfl) (gQ (iT y5 hg1) hg0) (Pt.fa2 (Pt.Hq A3 (aA (((b2.length : Nat) : Int) - 1)) 4) 0) rfl) <| qe) (by kernel_rfl) (fun m_ => ?_)
     have oG := lF.drew m_
     refine ae <| aN ((((!aX.2.2.2.2) || (decide (i = (aA (((bQ.length : Nat) : Int) - 1))))) || (decide (1024 ≤ ((b2.length : Nat) : Int)))) || ((decide (0 < ((b2.length : Nat) : Int))) && (Op.bytesLess aX.1 uJ.1 || decide (aX.1 = uJ.1)))) (by kernel_rfl) (fun hc3 => ?_) (fun hc3 => ?_)
     · rw [if_pos hc3] at hm
       refine af <| aP [] (.n 8 (.v (.pointer none)) (.n 9 (I (aA (i + 1))) (.n 10 (I 4) .z))) qe (by kernel_rfl) ?_
       refine ae <| aF (aJ (ed (aJ (aJ (ed (aJ (aJ ?_)))))))
       have hm := aV hm hr0
       obtain rfl := Option.some.inj hm
       refine aG [.v (.pointer none), I (aA (i + 1)), I 4] qe (by kernel_rfl) ?_
       have rC := oG.dm .z
       exact ⟨rfl, rC⟩
     rw [if_neg (by rw [hc3]; decide)] at hm
     refine aH <| ae ?_
     have sH := oG.drew 1
     refine B_ bu (.q 5 0 (.q 0 2 (.q 1 2 (.q 2 2 (.q 3 1 (.q 4 1 (.op 6 (.op 7 (.q 8 2 (.q 9 2 (.op 10 .nil))))))))))) [6, 7, 10] sH (.c (.kD .e) (.c (.k (.s (.kk .e))) (.c (.s (.kk .e)) .l))) (by kernel_rfl) (fun _ => ?_)
     refine jT 1 0 [] (.n 107 (.agg [.s aX.1, I aX.2.1, .u64 aX.2.2.1, .s aX.2.2.2.1]) (.ss .a)) (fun x hx => qT hx 3 rfl 0 4 [.s aX.1, I aX.2.1, .u64 aX.2.2.1, .s aX.2.2.2.1] (by kernel_rfl) (by decide) <| qe) (by kernel_rfl) (fun _ => ?_)
     refine jT 3 2 [] (.n 102 (pt g1 0) (.n 104 (pt g1 0) .a)) (fun x hx => qs g1 0 <| qe) (by kernel_rfl) (fun _ => ?_)
     refine jT 2 1 [] (.n 106 (sl A3 b2.length c3) (.k (.s .a))) (fun x hx => qs g1 0 <| qB hx 0 rfl 7 (sl A3 b2.length c3) (by kernel_rfl) <| qe) (by kernel_rfl) (fun _ => ?_)
     refine jX (by kernel_rfl) rfl <| xM CQ (eP eS (eP eI (eP e64 eS))) [] 108 ([(aX.1, aX.2.1, aX.2.2.1, aX.2.2.2.1)] : List (List UInt8 × Int × UInt64 × List UInt8)) [(0, .agg [.s aX.1, I aX.2.1, .u64 aX.2.2.1, .s aX.2.2.2.1])] [.s aX.1, I aX.2.1, .u64 aX.2.2.1, .s aX.2.2.2.1] (by kernel_rfl) (by kernel_rfl) (by kernel_rfl) sH ?_
     intro A4 JA sK
     refine ⟨(sK.dm (.kD .z)), fun _ => ?_⟩
     refine jX (by kernel_rfl) rfl ?_
     have lG := sK.dm (.kD (.k .e))
     obtain ⟨b3, Me, hm⟩ := ob hm
     obtain ⟨hz, hl⟩ := rX Me
     refine nD (E := (eP eS (eP eI (eP e64 eS)))) (v := sl A4 1 1) (ys := ([(aX.1, aX.2.1, aX.2.2.1, aX.2.2.2.1)] : List (List UInt8 × Int × UInt64 × List UInt8))) CQ [] 109 1 (by kernel_rfl) lG rfl (Src.sl (lG.rd 4 rfl) (lG.len 4 rfl) (by rfl)) (lG.len 4 rfl) (by have := lG.len 1 rfl; have := (lG.len 4 rfl); omega) ?_
     intro A5 c4 KL oH
     rw [← hl] at oH
     have pM := oH.dm (.kD .z)
     refine ⟨(pM.dm (.k (.s (.kk .e)))), fun _ => ?_⟩
     refine jT 2 2 [] (.n 111 (pt g1 7) (.k (.kF .a))) (fun x hx => qs g1 0 <| qs g1 0 <| qe) (by kernel_rfl) (fun _ => ?_)
     refine jX (by kernel_rfl) rfl <| dZ [] 0 (sl A5 (b2.length + 1) c4) [sl A5 (b2.length + 1) c4] (Pt.at g1 7) pM rfl (.kD (.kk (.k .h))) (by kernel_rfl) (by kernel_rfl) ?_
     intro zI qx
     refine ⟨(qx.dm (.ss (.kk .e))), fun _ => ?_⟩
     refine iU <| fO <| ae <| aP [] (.n 14 (I (aA (i + 1))) (.ss (.DF .z))) qe (by kernel_rfl) ?_
     have rD := qx.dm (.kk (.k .z))
     exact jZ (b3, aA (i + 1)) (Option.some.inj hm).symm ⟨b3, aA (i + 1), A5, b2.length + 1, c4, rfl, rfl, rD.len 1 rfl, rD⟩ (by kernel_rfl)
   rw [if_neg hc1] at hm
   refine eU (bU (bU (iG ?_)))
   have hm := aV hm hr0
   have nY := lX.dm (.kk .z)
   exact mi ⟨b2, A3, b2.length, c3, hm, rfl, nY.len 1 rfl, nY⟩ (by kernel_rfl)
  rintro L_ zJ ⟨b1, A2, _, c2, hm, rfl, rfl, tV⟩
  simp only [f_] at hm
  exact mi ⟨b1, A2, b1.length, c2, hm, rfl, tV.len 1 rfl, tV⟩ (by kernel_rfl)
 rintro L_ Bj ⟨b, A1, _, c1, hm, rfl, rfl, rE⟩
 simp only [iy] at hm
 refine af <| aP [] (.n 8 (pt g1 0) (.n 9 (I 0) (.n 10 (I 0) .z))) qe (by kernel_rfl) ?_
 refine ae <| aF ?_
 obtain rfl := Option.some.inj hm
 refine aG [pt g1 0, I 0, I 0] qe (by kernel_rfl) ?_
 exact ⟨g1, A1, b.length, c1, rE.len 1 rfl, rfl, rE⟩
theorem mM {F O : Nat → Prop} {w : World} (k : Cx F O w w []) (r : Bool) (hm : iQ = some r) :
    Calls Tryz.prog 6 (vals []) w (fun e w' => e = .returned (SV.val (.b r)) ∧ Cx F O w w' []) := by
 unfold iQ at hm
 refine calls [] Tryz.func6 rfl (of_decide_eq_true (by kernel_rfl)) ?_
 refine af <| aP [] .a qe (by kernel_rfl) ?_
 refine ae <| af <| ay <| au ?_
 obtain ⟨r_, fC, hm⟩ := ob hm
 refine ax [] 5 _ Ci (by kernel_rfl) (sG (F := N0) (O := N0) _ (Cx.refl _) _ fC) ?_
 rintro e_ w_ ⟨A, _, c, A1, _, c1, rfl, rfl, rfl, k_⟩
 have fQ := k.call k_
 refine ⟨.fV [.agg [I r_.1, I r_.2.1, I r_.2.2.1, I r_.2.2.2.1, I r_.2.2.2.2.1, sl A r_.2.2.2.2.2.1.length c, sl A1 r_.2.2.2.2.2.2.1.length c1], I r_.2.2.2.2.2.2.2.1, I r_.2.2.2.2.2.2.2.2], rfl, ?_⟩
 refine aK 4 [] (.n 6 (.agg [I r_.1, I r_.2.1, I r_.2.2.1, I r_.2.2.2.1, I r_.2.2.2.2.1, sl A r_.2.2.2.2.2.1.length c, sl A1 r_.2.2.2.2.2.2.1.length c1]) (.n 7 (I r_.2.2.2.2.2.2.2.1) (.n 8 (I r_.2.2.2.2.2.2.2.2) .z))) qe (by kernel_rfl) ?_
 refine au <| iH [] 1 [I 0, I 0, I 0, I 0, I 0, sl none 0 0, sl none 0 0] (by kernel_rfl) fQ ?_
 intro g qF eX
 refine au <| dZ [] 2 (.agg [I r_.1, I r_.2.1, I r_.2.2.1, I r_.2.2.2.1, I r_.2.2.2.2.1, sl A r_.2.2.2.2.2.1.length c, sl A1 r_.2.2.2.2.2.2.1.length c1]) [I r_.1, I r_.2.1, I r_.2.2.1, I r_.2.2.2.1, I r_.2.2.2.2.1, sl A r_.2.2.2.2.2.1.length c, sl A1 r_.2.2.2.2.2.2.1.length c1] (Pt.at g 0) eX rfl .all (by kernel_rfl) (by kernel_rfl) ?_
 intro uq gG
 have jV := gG.dm .z
 refine aK 2 [] (.n 2 (I r_.2.2.2.2.2.2.2.1) (.n 3 (I r_.2.2.2.2.2.2.2.2) .z)) qe (by kernel_rfl) ?_
 refine aj <| ae <| af <| aP [] (.n 0 (.b ((decide (r_.2.2.2.2.2.2.2.1 = 13)) && (decide (r_.2.2.2.2.2.2.2.2 = 4)))) .z) qe (by kernel_rfl) ?_
 refine ae <| aF ?_
 obtain rfl := Option.some.inj hm
 refine aG [.b ((decide (r_.2.2.2.2.2.2.2.1 = 13)) && (decide (r_.2.2.2.2.2.2.2.2 = 4)))] qe (by kernel_rfl) ?_
 exact ⟨rfl, jV⟩
theorem tX {F O : Nat → Prop} {w : World} (gZ : Int) (dW : Int) (dX : Int) (fH : Int) (jv : Int) (kL : Int) (kM : UInt64) (aW : Mp (List UInt8 × Int × UInt64)) (oK : Nat) (bY : Nat) (k : Cx F O w w [Bx 50 oK [I gZ, I dW, I dX, I fH, I jv, I kL, .u64 kM, .v (.map (some bY))], MS (vS (eP eS (eP eI e64)) (fZ lJ (fZ lI jP))) bY aW]) (r : (Int × Int × Int × Int × Int × Int × UInt64)) (hm : jO gZ dW dX fH jv kL kM aW = some r) :
    Calls Tryz.prog 17 (vals [pt oK 0]) w (fun e w' => e = .returned (SV.val (.b false)) ∧ Cx F O w w' [Bx 50 oK [I r.1, I r.2.1, I r.2.2.1, I r.2.2.2.1, I r.2.2.2.2.1, I r.2.2.2.2.2.1, .u64 r.2.2.2.2.2.2, .v (.map (some bY))], MS (vS (eP eS (eP eI e64)) (fZ lJ (fZ lI jP))) bY aW]) := by
 unfold jO at hm
 refine calls [pt oK 0] Tryz.func17 rfl (of_decide_eq_true (by kernel_rfl)) ?_
 refine af <| aP [] .a qe (by kernel_rfl) ?_
 refine ae <| af <| aP [5] (.n 2 (.b false) .z) (qs oK 0 <| qs oK 0 <| qB k 0 rfl 7 (.v (.map (some bY))) (by kernel_rfl) <| qe) (by kernel_rfl) ?_
 refine ae <| aF ?_
 obtain rfl := Option.some.inj hm
 refine aG [.b false] qe (by kernel_rfl) ?_
 exact ⟨rfl, k⟩
theorem mO {F O : Nat → Prop} {w : World} (gZ : Int) (dW : Int) (dX : Int) (fH : Int) (jv : Int) (kL : Int) (kM : UInt64) (aW : Mp (List UInt8 × Int × UInt64)) (oK : Nat) (bY : Nat) (k : Cx F O w w [Bx 50 oK [I gZ, I dW, I dX, I fH, I jv, I kL, .u64 kM, .v (.map (some bY))], MS (vS (eP eS (eP eI e64)) (fZ lJ (fZ lI jP))) bY aW]) (r : (List (List UInt8) × Int × Int × Int × Int × Int × Int × UInt64)) (hm : fJ gZ dW dX fH jv kL kM aW = some r) :
    Calls Tryz.prog 8 (vals [pt oK 0]) w (fun e w' => ∃ A n c, r.1.length = n ∧ e = .returned (SV.val (sl A n c)) ∧ Cx F O w w' [Ow eS A n c r.1, Bx 50 oK [I r.2.1, I r.2.2.1, I r.2.2.2.1, I r.2.2.2.2.1, I r.2.2.2.2.2.1, I r.2.2.2.2.2.2.1, .u64 r.2.2.2.2.2.2.2, .v (.map (some bY))], MS (vS (eP eS (eP eI e64)) (fZ lJ (fZ lI jP))) bY aW]) := by
 unfold fJ at hm
 refine calls [pt oK 0] Tryz.func8 rfl (of_decide_eq_true (by kernel_rfl)) ?_
 refine af <| aP [] .a qe (by kernel_rfl) ?_
 refine ae <| af <| af <| ay <| aK 1 [] (.n 5 (pt oK 0) .a) qe (by kernel_rfl) ?_
 refine au ?_
 obtain ⟨r_, fC, hm⟩ := ob hm
 obtain ⟨F1, O1, kin, hO, hre, hF, hb⟩ := k.go (.i (.i .e))
 refine ax [] 6 _ Ip (by kernel_rfl) (tX (F := F1) (O := O1) _ _ _ _ _ _ _ _ _ _ kin _ fC) ?_
 rintro e_ w_ ⟨rfl, k_⟩
 have fQ := hb w_ _ _ k_ (.c (.c .n))
 refine ⟨.b false, rfl, ?_⟩
 refine aj <| ae <| aN false (by kernel_rfl) (fun h => by cases h) (fun _ => ?_)
 refine aH <| ae <| af <| aP [] (.n 3 (sl none 0 0) (.ss .a)) qe (by kernel_rfl) ?_
 refine ae <| af <| af <| ay <| aK 4 [] (.n 10 (.v (.map (some bY))) (.k .z)) (qs oK 0 <| qs oK 0 <| qB fQ 0 rfl 7 (.v (.map (some bY))) (by kernel_rfl) <| qe) (by kernel_rfl) ?_
 refine au ?_
 have eX := (fQ.pk .h).pk (.t .h)
 refine DV (kt := 9) (e := 43) [] 11 (by kernel_rfl) eX ?_
 intro bQ qF gG
 refine aj <| ae <| aS ?_
 obtain ⟨u, CS, hm⟩ := ob hm
 have jV := gG.nil eS
 refine O7 (fun TN L wr => ∃ (l : List (List UInt8)) (left : Mp (List UInt8 × Int × UInt64)) (cur : Option (Ky × (List UInt8 × Int × UInt64))) (A0 : Option Addr) (n0 c0 : Nat), left.length = TN ∧ (l ++ left.map (·.1)).Perm (aW.map (·.1)) ∧ l.length = n0 ∧ L = [(3, sl A0 n0 c0), (11, .v (.pointer (some ⟨bQ, 0, none⟩)))] ∧ Cx F O w wr [MV (vS (eP eS (eP eI e64)) (fZ lJ (fZ lI jP))) false bY bQ aW left cur, Bx 50 oK [I r_.1, I r_.2.1, I r_.2.2.1, I r_.2.2.2.1, I r_.2.2.2.2.1, I r_.2.2.2.2.2.1, .u64 r_.2.2.2.2.2.2, .v (.map (some bY))], Ow eS A0 n0 c0 l]) aW.length ⟨[], aW, none, none, 0, 0, rfl, List.Perm.refl _, rfl, rfl, jV⟩ (by kernel_rfl) ?_
 rintro kn L_ uq ⟨l, left, cur, A0, _, c0, rfl, hperm, rfl, rfl, jG⟩
 refine af <| ay <| au <| FM [] 12 (by kernel_rfl) jG (fun hl mD => ?_) (fun key gm left1 v xU hp hnd jA => ?_)
 ·
   have hp1 : l.Perm (aW.map (·.1)) := by have h_ := hperm; rw [hl, List.map_nil, List.append_nil] at h_; exact h_
   have lX := mD.NK
   refine aK 1 [] (.n 13 (.b false) (.s (.k .z))) qe (by kernel_rfl) ?_
   refine aj <| ae <| af <| aN false (by kernel_rfl) (fun h => by cases h) (fun _ => ?_)
   refine eU (bU (bU (iG ?_)))
   refine ae <| af <| ay <| aK 1 [] (.n 20 (sl A0 l.length c0) (.s .a)) qe (by kernel_rfl) ?_
   refine au <| ax [] 21 _ Iq (by kernel_rfl) (D7 (i := 2) lX rfl (by have h1 := hp1.length_eq; have h2 := dK CS; have h3 := lX.len 2 rfl; rw [List.length_map] at h1; omega)) ?_
   rintro e_ Bf ⟨rfl, qH⟩
   rw [Fh hp1] at qH
   refine ⟨.fV [], rfl, ?_⟩
   refine aj <| ae <| af <| aP [] (.n 2 (sl A0 l.length c0) .z) qe (by kernel_rfl) ?_
   refine ae <| aF ?_
   obtain rfl := Option.some.inj hm
   refine aG [sl A0 l.length c0] qe (by kernel_rfl) ?_
   have jF := ((qH.pk .h).pk (.t .h)).pk (.t (.t .h))
   exact ⟨A0, l.length, c0, jF.len 0 rfl, rfl, jF⟩
 ·
   refine aK 1 [] (.n 13 (.b true) (.s .a)) qe (by kernel_rfl) ?_
   refine aj <| ae <| af <| aN true (by kernel_rfl) (fun _ => ?_) (fun h => by cases h)
   refine aH <| ae <| aS <| af <| ay <| au <| DX (v := (vS (eP eS (eP eI e64)) (fZ lJ (fZ lI jP)))) rfl [] 14 (.agg [.s gm.1, I gm.2.1, .u64 gm.2.2]) (by kernel_rfl) jA rfl ?_
   refine aK 2 [] (.n 4 (.s key) (.ss .a)) qe (by kernel_rfl) ?_
   refine aj <| ae <| ay <| aK 2 [] (.n 16 (sl A0 l.length c0) (.n 17 (.s key) (.s .a))) qe (by kernel_rfl) ?_
   refine au ?_
   have ji := jA.dm (.kk (.k .e))
   refine xM sF eS [] 18 ([key] : List (List UInt8)) [(0, .s key)] [.s key] (by kernel_rfl) (by kernel_rfl) (by kernel_rfl) ji ?_
   intro A1 D9 jk
   refine au ?_
   have hz : (l.length + ([key] : List (List UInt8)).length) * 16 ≤ 140737488355328 := by have h1 := hperm.length_eq; have h2 := hp.length_eq; have h3 := dK CS; simp only [List.length_append, List.length_cons, List.length_nil, List.length_map] at *; omega
   refine nD (E := eS) (v := sl A1 1 1) (ys := ([key] : List (List UInt8))) sF [] 19 2 (by kernel_rfl) jk rfl (Src.sl (jk.rd 3 rfl) (jk.len 3 rfl) (by rfl)) (jk.len 3 rfl) (by have := jk.len 2 rfl; have := (jk.len 3 rfl); omega) ?_
   intro A2 c1 Es kR
   have lS := kR.dm (.kk (.k .z))
   refine aK 1 [] (.n 3 (sl A2 (l.length + 1) c1) (.kF (.s .a))) qe (by kernel_rfl) ?_
   refine aj <| fO ?_
   exact NI left1.length (by have h_ := hp.length_eq; simp only [List.length_cons] at h_; omega) ⟨l ++ ([key] : List (List UInt8)), left1, (some (key, gm)), A2, _, c1, rfl, (by rw [List.append_assoc]; exact (List.Perm.append_left l (hp.map (·.1)).symm).trans hperm), lS.len 2 rfl, rfl, lS⟩ (by kernel_rfl)
theorem wO {F O : Nat → Prop} {w : World} (l : List (List UInt8)) (jS : Int) (iC : Int) (iD : Int) (jq : Int) (kZ : Int) (mX : Int) (mY : UInt64) (xu : List (List UInt8 × Int × UInt64 × List UInt8)) (OM : Option Addr) (QO : Nat) (OO : Nat) (oK : Nat) (pV : Option Addr) (JC : Nat) (sO : Nat) (TP : Ro F w OM (eS.all l)) (QP : l.length = QO) (TQ : QO ≤ OO) (k : Cx F O w w [Bx 54 oK [I jS, I iC, I iD, I jq, I kZ, I mX, .u64 mY, sl pV JC sO], Ow (eP eS (eP eI (eP e64 eS))) pV JC sO xu]) (r : (Bool × Int × Int × Int × Int × Int × Int × UInt64 × (List (List UInt8 × Int × UInt64 × List UInt8)))) (hm : jE l jS iC iD jq kZ mX mY xu = some r) :
    Calls Tryz.prog 7 (vals [sl OM QO OO, pt oK 0]) w (fun e w' => ∃ A n c, r.2.2.2.2.2.2.2.2.length = n ∧ e = .returned (SV.val (.b r.1)) ∧ Cx F O w w' [Bx 54 oK [I r.2.1, I r.2.2.1, I r.2.2.2.1, I r.2.2.2.2.1, I r.2.2.2.2.2.1, I r.2.2.2.2.2.2.1, .u64 r.2.2.2.2.2.2.2.1, sl A n c], Ow (eP eS (eP eI (eP e64 eS))) A n c r.2.2.2.2.2.2.2.2]) := by
 unfold jE at hm
 subst QP
 obtain rfl := k.len 1 rfl
 refine calls [sl OM l.length OO, pt oK 0] Tryz.func7 rfl (of_decide_eq_true (by kernel_rfl)) ?_
 refine af <| aP [] .a qe (by kernel_rfl) ?_
 refine ae <| af <| af <| aP [] (.n 13 (.b (decide (((l.length : Nat) : Int) ≠ ((xu.length : Nat) : Int)))) .a) (qs oK 0 <| qs oK 0 <| qB k 0 rfl 7 (sl pV xu.length sO) (by kernel_rfl) <| qe) (by kernel_rfl) ?_
 refine ae <| aQ (((l.length : Nat) : Int) ≠ ((xu.length : Nat) : Int)) (by kernel_rfl) (fun hc => ?_) (fun hc => ?_)
 · rw [if_pos hc] at hm
   refine af <| aP [] (.n 4 (.b false) .z) qe (by kernel_rfl) ?_
   refine ae <| aF (aJ ?_)
   obtain rfl := Option.some.inj hm
   refine aG [.b false] qe (by kernel_rfl) ?_
   exact ⟨pV, xu.length, sO, k.len 1 rfl, rfl, k⟩
 rw [if_neg hc] at hm
 refine aH <| ae <| af <| af <| aP [] (.n 5 (I 0) (.s .a)) qe (by kernel_rfl) ?_
 refine ae <| aS <| mV (dB l jS iC iD jq kZ mX mY xu) (fun s L wr => ∃ (i : Int), i = s ∧ L = [(0, sl OM l.length OO), (1, pt oK 0), (5, I i)] ∧ Cx F O w wr [Bx 54 oK [I jS, I iC, I iD, I jq, I kZ, I mX, .u64 mY, sl pV xu.length sO], Ow (eP eS (eP eI (eP e64 eS))) pV xu.length sO xu]) (0 : Int) r hm ⟨(0 : Int), rfl, rfl, k⟩ (by kernel_rfl) ?_
 intro yT L_ w_ y0 hrel hstep hr0
 obtain ⟨i, rfl, rfl, k_⟩ := hrel
 have hm := hstep; simp only [dB] at hm
 clear hstep
 refine af <| af <| aP [] (.n 17 (.b (decide (i < ((l.length : Nat) : Int)))) .a) qe (by kernel_rfl) ?_
 refine ae <| aQ (i < ((l.length : Nat) : Int)) (by kernel_rfl) (fun hc1 => ?_) (fun hc1 => ?_)
 · rw [if_pos hc1] at hm
   refine aH <| ae <| af <| aS <| af ?_
   obtain ⟨gm, nJ, hm⟩ := ob hm
   obtain ⟨uI, uw, hm⟩ := ob hm
   refine zh bu (by kernel_rfl) (.n 32 (.b (decide (gm ≠ uI.1))) (.s .a)) (fun m => qW (TP.cx (k_.drew m)) nJ rfl (.s gm) rfl <| qs oK 0 <| qs oK 0 <| qB (k_.drew m) 0 rfl 7 (sl pV xu.length sO) (by kernel_rfl) <| qJ ((k_.drew m).rd 1 rfl) uw (k_.len 1 rfl) <| qS (A := zn pV i 4) (zC _ _ (EX (E := (eP eS (eP eI (eP e64 eS)))) ((k_.drew m).rd 1 rfl) (by decide) (rW uw).1 (bC uw).2)) <| qC (.s uI.1) (Rd.el (k := 0) ((k_.drew m).rd 1 rfl) uw (Pt.fa2 (Pt.Hq pV i 4) 0) rfl) <| qe) (by kernel_rfl) (fun m_ => ?_)
   have fQ := k_.drew m_
   refine ae <| aQ (gm ≠ uI.1) (by kernel_rfl) (fun hc2 => ?_) (fun hc2 => ?_)
   · rw [if_pos hc2] at hm
     refine af <| aP [] (.n 4 (.b false) .z) qe (by kernel_rfl) ?_
     refine ae <| aF (ed (aJ (aJ (ed (aJ ?_)))))
     have hm := aV hm hr0
     obtain rfl := Option.some.inj hm
     refine aG [.b false] qe (by kernel_rfl) ?_
     exact ⟨pV, xu.length, sO, fQ.len 1 rfl, rfl, fQ⟩
   rw [if_neg hc2] at hm
   refine aH <| fO <| ae <| aP [] (.n 5 (I (aA (i + 1))) (.s (.kk .z))) qe (by kernel_rfl) ?_
   exact jZ (aA (i + 1)) (Option.some.inj hm).symm ⟨aA (i + 1), rfl, rfl, fQ⟩ (by kernel_rfl)
 rw [if_neg hc1] at hm
 refine eU (bU (bU (iG ?_)))
 have hm := aV hm hr0
 refine ae <| af <| aP [] (.n 4 (.b true) .z) qe (by kernel_rfl) ?_
 refine ae <| aF ?_
 obtain rfl := Option.some.inj hm
 refine aG [.b true] qe (by kernel_rfl) ?_
 exact ⟨pV, xu.length, sO, k_.len 1 rfl, rfl, k_⟩
theorem uM {F O : Nat → Prop} {w : World} (fF : List UInt8) (bI : List UInt8) (aI : Int) (aO : UInt64) (hT : qm Tryz.prog F w) (k : Cx F O w w []) (r : (List UInt8)) (hm : jh fF bI aI aO = some r) :
    Calls Tryz.prog 20 (vals [.agg [.s fF, .s bI, I aI, .u64 aO]]) w (fun e w' => e = .returned (SV.val (.s r)) ∧ Cx F O w w' []) := by
 unfold jh at hm
 refine calls [.agg [.s fF, .s bI, I aI, .u64 aO]] Tryz.func20 rfl (of_decide_eq_true (by kernel_rfl)) ?_
 refine af <| ay <| au <| ik [] 1 (.agg [.s fF, .s bI, I aI, .u64 aO]) [.s fF, .s bI, I aI, .u64 aO] (by kernel_rfl) k ?_
 intro g w_ k_
 refine aK 1 [] (.k .z) qe (by kernel_rfl) ?_
 refine aj <| ae <| af ?_
 have fQ := k_.drew 1
 refine B_ bu (.q 0 2 (.q 1 2 (.q 2 2 (.q 3 2 (.q 4 1 (.q 5 0 (.q 9 2 (.q 10 1 (.q 11 1 (.q 15 2 (.q 16 2 (.q 17 2 (.op 6 (.q 7 2 (.q 8 2 (.op 12 (.q 13 2 (.q 14 2 (.q 18 2 (.q 19 2 (.q 20 2 .nil))))))))))))))))))))) [6, 12] fQ (.c (.k .e) (.c (.k .e) .l)) (by kernel_rfl) (fun _ => ?_)
 obtain ⟨u, CS, hm⟩ := ob hm
 refine jT 4 2 [] (.n 5 (.s (fF ++ ([32] : List UInt8))) (.n 6 (pt g 1) .a)) (fun x hx => qs g 0 <| qB hx 0 rfl 0 (.s fF) (by kernel_rfl) <| qp (fF.length + ([32] : List UInt8).length ≤ 9223372036854775807) (dK CS) <| qs g 0 <| qe) (by kernel_rfl) (fun _ => ?_)
 refine jT 1 1 [] (.n 7 (pt g 2) (.k (.s .a))) (fun x hx => qs g 1 <| qe) (by kernel_rfl) (fun _ => ?_)
 refine jT 1 0 [] (.n 8 (I aI) (.s .a)) (fun x hx => qB hx 0 rfl 2 (I aI) (by kernel_rfl) <| qe) (by kernel_rfl) (fun _ => ?_)
 refine jT 1 2 [] (.n 12 (pt g 1) .a) (fun x hx => qs g 0 <| qe) (by kernel_rfl) (fun _ => ?_)
 refine jT 2 1 [] (.n 14 (.u64 aO) (.s .a)) (fun x hx => qs g 1 <| qB hx 0 rfl 3 (.u64 aO) (by kernel_rfl) <| qe) (by kernel_rfl) (fun _ => ?_)
 refine jT 3 2 [] (.n 20 (.s bI) (.DF .z)) (fun x hx => qs g 0 <| qs g 1 <| qB hx 0 rfl 1 (.s bI) (by kernel_rfl) <| qe) (by kernel_rfl) (fun _ => ?_)
 refine jX (by kernel_rfl) rfl ?_
 obtain ⟨u1, KJ, hm⟩ := ob hm
 refine ax [] 9 _ IG (by kernel_rfl) (D8 fQ (dK KJ) hT) ?_
 rintro e_ qF ⟨rfl, eX⟩
 refine ⟨.s (Lib.itoa aI), rfl, ?_⟩
 refine ⟨eX, fun _ => ?_⟩
 obtain ⟨u2, QQ, hm⟩ := ob hm
 obtain ⟨u3, QR, hm⟩ := ob hm
 refine jT 2 2 [] (.n 11 (.s (((fF ++ ([32] : List UInt8)) ++ (Lib.itoa aI)) ++ ([32] : List UInt8))) (.s (.kk .z))) (fun x hx => qp ((fF ++ ([32] : List UInt8)).length + (Lib.itoa aI).length ≤ 9223372036854775807) (dK QQ) <| qp (((fF ++ ([32] : List UInt8)) ++ (Lib.itoa aI)).length + ([32] : List UInt8).length ≤ 9223372036854775807) (dK QR) <| qe) (by kernel_rfl) (fun _ => ?_)
 refine jX (by kernel_rfl) rfl <| ax [] 15 _ II (by kernel_rfl) (Ij eX aO hT) ?_
 rintro e_ uq ⟨rfl, gG⟩
 refine ⟨.s (Lib.decDigits aO.toNat), rfl, ?_⟩
 refine ⟨gG, fun _ => ?_⟩
 obtain ⟨u4, QS, hm⟩ := ob hm
 obtain ⟨u5, QT, hm⟩ := ob hm
 obtain ⟨u6, QU, hm⟩ := ob hm
 obtain ⟨u7, QV, hm⟩ := ob hm
 refine jT 5 2 [] (.n 2 (.s (((((((fF ++ ([32] : List UInt8)) ++ (Lib.itoa aI)) ++ ([32] : List UInt8)) ++ (Lib.decDigits aO.toNat)) ++ ([32] : List UInt8)) ++ bI) ++ ([10] : List UInt8))) .z) (fun x hx => qp ((((fF ++ ([32] : List UInt8)) ++ (Lib.itoa aI)) ++ ([32] : List UInt8)).length + (Lib.decDigits aO.toNat).length ≤ 9223372036854775807) (dK QS) <| qp (((((fF ++ ([32] : List UInt8)) ++ (Lib.itoa aI)) ++ ([32] : List UInt8)) ++ (Lib.decDigits aO.toNat)).length + ([32] : List UInt8).length ≤ 9223372036854775807) (dK QT) <| qp ((((((fF ++ ([32] : List UInt8)) ++ (Lib.itoa aI)) ++ ([32] : List UInt8)) ++ (Lib.decDigits aO.toNat)) ++ ([32] : List UInt8)).length + bI.length ≤ 9223372036854775807) (dK QU) <| qp (((((((fF ++ ([32] : List UInt8)) ++ (Lib.itoa aI)) ++ ([32] : List UInt8)) ++ (Lib.decDigits aO.toNat)) ++ ([32] : List UInt8)) ++ bI).length + ([10] : List UInt8).length ≤ 9223372036854775807) (dK QV) <| qe) (by kernel_rfl) (fun _ => ?_)
 refine iU <| ae <| aF ?_
 obtain rfl := Option.some.inj hm
 refine aG [.s (((((((fF ++ ([32] : List UInt8)) ++ (Lib.itoa aI)) ++ ([32] : List UInt8)) ++ (Lib.decDigits aO.toNat)) ++ ([32] : List UInt8)) ++ bI) ++ ([10] : List UInt8))] qe (by kernel_rfl) ?_
 have jV := gG.dm .z
 exact ⟨rfl, jV⟩
theorem tY {F O : Nat → Prop} {w : World} (gZ : Int) (dW : Int) (dX : Int) (fH : Int) (jv : Int) (kL : Int) (kM : UInt64) (aW : Mp (List UInt8 × Int × UInt64)) (oK : Nat) (bY : Nat) (hT : qm Tryz.prog F w) (k : Cx F O w w [Bx 50 oK [I gZ, I dW, I dX, I fH, I jv, I kL, .u64 kM, .v (.map (some bY))], MS (vS (eP eS (eP eI e64)) (fZ lJ (fZ lI jP))) bY aW]) (r : (List UInt8 × Int × Int × Int × Int × Int × Int × UInt64)) (hm : iK gZ dW dX fH jv kL kM aW = some r) :
    Calls Tryz.prog 9 (vals [pt oK 0]) w (fun e w' => e = .returned (SV.val (.s r.1)) ∧ Cx F O w w' [Bx 50 oK [I r.2.1, I r.2.2.1, I r.2.2.2.1, I r.2.2.2.2.1, I r.2.2.2.2.2.1, I r.2.2.2.2.2.2.1, .u64 r.2.2.2.2.2.2.2, .v (.map (some bY))], MS (vS (eP eS (eP eI e64)) (fZ lJ (fZ lI jP))) bY aW]) := by
 unfold iK at hm
 refine calls [pt oK 0] Tryz.func9 rfl (of_decide_eq_true (by kernel_rfl)) ?_
 refine af <| aP [] .a qe (by kernel_rfl) ?_
 refine ae <| af <| ay <| au <| DZ 5 [] 3 (by kernel_rfl) k ?_
 intro g w_ k_
 refine aj <| ae <| af <| af <| ay <| aK 1 [] (.n 6 (pt oK 0) .a) qe (by kernel_rfl) ?_
 refine au ?_
 obtain ⟨r_, fC, hm⟩ := ob hm
 obtain ⟨F1, O1, kin, hO, hre, hF, hb⟩ := k_.go (.i (.i (.r .e)))
 refine ax [] 7 _ FT (by kernel_rfl) (mO (F := F1) (O := O1) _ _ _ _ _ _ _ _ _ _ kin _ fC) ?_
 rintro e_ qF ⟨A, _, c, rfl, rfl, fQ⟩
 have eX := hb qF _ _ fQ (.c (.c (.c .n)))
 refine ⟨sl A r_.1.length c, rfl, ?_⟩
 refine aK 2 [] (.n 8 (I ((r_.1.length : Nat) : Int)) (.n 9 (I 0) (.k (.s .a)))) qe (by kernel_rfl) ?_
 refine aj <| ae <| aS ?_
 have jV := (((eX.pk .h).pk (.t (.t (.t .h)))).pk (.t (.t (.t .h)))).pk (.t (.t (.t .h)))
 refine mV (cu aW r_) (fun s L wr => ∃ (s_ : List UInt8) (gm : Int), (s_, gm) = s ∧ L = [(0, pt oK 0), (3, pt g 0), (7, sl A r_.1.length c), (8, I ((r_.1.length : Nat) : Int)), (9, I gm)] ∧ Cx F O w wr [Bx 50 oK [I r_.2.1, I r_.2.2.1, I r_.2.2.2.1, I r_.2.2.2.2.1, I r_.2.2.2.2.2.1, I r_.2.2.2.2.2.2.1, .u64 r_.2.2.2.2.2.2.2, .v (.map (some bY))], MS (vS (eP eS (eP eI e64)) (fZ lJ (fZ lI jP))) bY aW, Bd 68 5 g s_, Ow eS A r_.1.length c r_.1]) (([] : List UInt8), (0 : Int)) r hm ⟨([] : List UInt8), (0 : Int), rfl, rfl, jV⟩ (by kernel_rfl) ?_
 intro yT L_ uq y0 hrel hstep hr0
 obtain ⟨s_, gm, rfl, rfl, gG⟩ := hrel
 have hm := hstep; simp only [cu] at hm
 clear hstep
 refine af <| aP [] (.n 10 (.b (decide (gm < ((r_.1.length : Nat) : Int)))) .a) qe (by kernel_rfl) ?_
 refine ae <| af <| aQ (gm < ((r_.1.length : Nat) : Int)) (by kernel_rfl) (fun hc => ?_) (fun hc => ?_)
 · rw [if_pos hc] at hm
   refine aH <| ae <| af <| aS <| af ?_
   obtain ⟨rZ, zS, hm⟩ := ob hm
   refine aP [] (.n 5 (.s rZ) (.s .a)) (qW (gG.rd 3 rfl) zS (gG.len 3 rfl) (.s rZ) rfl <| qe) (by kernel_rfl) ?_
   refine ae <| ay <| aK 6 [] (.n 13 (.s rZ) (.n 17 (.v (.map (some bY))) (.n 18 (.s rZ) (.s .a)))) (qs oK 0 <| qs oK 0 <| qB gG 0 rfl 7 (.v (.map (some bY))) (by kernel_rfl) <| qe) (by kernel_rfl) ?_
   refine au ?_
   have jG := (((gG.pk (.t (.t (.t .h)))).pk (.t (.t (.t .h)))).pk (.t (.t .h))).pk (.t (.t (.t .h)))
   obtain ⟨e_, QW, hm⟩ := nm hm
   refine DY (kt := 9) (e := 43) (v := (vS (eP eS (eP eI e64)) (fZ lJ (fZ lI jP)))) (m := aW) (key := rZ) rfl [] 19 (([] : List UInt8), (0 : Int), (0 : UInt64)) (.agg [.s e_.1, I e_.2.1, .u64 e_.2.2]) (by kernel_rfl) (by kernel_rfl) jG.acc (by rw [QW]; rfl) ?_
   refine aK 1 [] (.n 20 (.agg [.s rZ, .s e_.1, I e_.2.1, .u64 e_.2.2]) (.kF .a)) qe (by kernel_rfl) ?_
   refine au ?_
   obtain ⟨bQ, l_, hm⟩ := ob hm
   refine ax [] 21 _ Iu (by kernel_rfl) (uM (F := N0) (O := N0) _ _ _ _ (hT.at jG) (Cx.refl _) _ l_) ?_
   rintro e_ xU ⟨rfl, mD⟩
   have jA := jG.call mD
   refine ⟨.s bQ, rfl, ?_⟩
   refine au ?_
   have lX := (((jA.pk (.t (.t (.t .h)))).pk (.t (.t .h))).pk (.t (.t .h))).pk (.t (.t (.t .h)))
   obtain ⟨u, CS, hm⟩ := ob hm
   refine ax [] 22 _ Ir (by kernel_rfl) (NL lX bQ (dK CS)) ?_
   rintro e_ Bf ⟨rfl, qH⟩
   refine ⟨.fV [I (bQ.length : Nat), .v .nilIface], rfl, ?_⟩
   refine aj <| fO <| ae <| aP [] (.n 9 (I (aA (gm + 1))) (.nG (.kD .z))) qe (by kernel_rfl) ?_
   have jF := (((qH.pk (.t (.t (.t .h)))).pk (.t .h)).pk (.t (.t .h))).pk (.t (.t (.t .h)))
   exact jZ (s_ ++ bQ, aA (gm + 1)) (Option.some.inj hm).symm ⟨s_ ++ bQ, aA (gm + 1), rfl, rfl, jF⟩ (by kernel_rfl)
 rw [if_neg hc] at hm
 refine eU (bU (bU (iG ?_)))
 have hm := aV hm hr0
 refine ae <| af <| ay <| au ?_
 have ji := (((gG.pk (.t (.t (.t .h)))).pk (.t (.t .h))).pk (.t (.t .h))).pk (.t (.t (.t .h)))
 refine ax [] 24 _ Iw (by kernel_rfl) (NM ji) ?_
 rintro e_ D9 ⟨rfl, jk⟩
 refine ⟨.s s_, rfl, ?_⟩
 refine aK 1 [] (.n 2 (.s s_) .z) qe (by kernel_rfl) ?_
 refine aj <| ae <| aF ?_
 obtain rfl := Option.some.inj hm
 refine aG [.s s_] qe (by kernel_rfl) ?_
 have kR := jk.dm (.kk .z)
 exact ⟨rfl, kR⟩
theorem uN {F O : Nat → Prop} {w : World} (ak : Int) (ag : Int) (ai : Int) (ah : Int) (aB : Int) (most : Int) (hold : UInt64) (text : List UInt8) (hT : qm Tryz.prog F w) (k : Cx F O w w []) (r : Bool) (hm : jU ak ag ai ah aB most hold text = some r) :
    Calls Tryz.prog 3 (vals [.agg [I ak, I ag, I ai, I ah, I aB], I most, .u64 hold, .s text]) w (fun e w' => e = .returned (SV.val (.b r)) ∧ Cx F O w w' []) := by
 unfold jU at hm
 refine calls [.agg [I ak, I ag, I ai, I ah, I aB], I most, .u64 hold, .s text] Tryz.func3 rfl (of_decide_eq_true (by kernel_rfl)) ?_
 refine af <| ay <| au <| ik [] 4 (.agg [I ak, I ag, I ai, I ah, I aB]) [I ak, I ag, I ai, I ah, I aB] (by kernel_rfl) k ?_
 intro g w_ k_
 refine aK 1 [] (.k (.s .a)) qe (by kernel_rfl) ?_
 refine aj <| ae <| af <| ay <| aK 4 [] (.n 16 (.agg [I ak, I ag, I ai, I ah, I aB]) (.n 17 (I most) (.n 18 (.u64 hold) (.n 19 (.s text) .a)))) (qT k_ 0 rfl 0 5 [I ak, I ag, I ai, I ah, I aB] (by kernel_rfl) (by decide) <| qe) (by kernel_rfl) ?_
 refine au ?_
 obtain ⟨r_, fC, hm⟩ := ob hm
 refine ax [] 20 _ KD (by kernel_rfl) (zT (F := N0) (O := N0) _ _ _ _ _ _ _ _ (Cx.refl _) _ fC) ?_
 rcases r_ with bQ | aX
 · simp only [Sum.elim_inl, Sum.elim_inr] at hm
   rintro e_ qF ⟨rfl, fQ⟩
   have eX := k_.call fQ
   refine ⟨.fV [.v (.pointer none), I bQ.1, I bQ.2], rfl, ?_⟩
   refine aK 7 [] (.n 9 (.v (.pointer none)) (.n 10 (I bQ.1) (.n 11 (I bQ.2) (.kF (.s .a))))) qe (by kernel_rfl) ?_
   refine aj <| ae <| af <| ay <| aK 4 [] (.n 25 (.agg [I ak, I ag, I ai, I ah, I aB]) (.n 26 (I most) (.n 27 (.u64 hold) (.n 28 (.s text) (.DF (.nG .a)))))) (qT eX 0 rfl 0 5 [I ak, I ag, I ai, I ah, I aB] (by kernel_rfl) (by decide) <| qe) (by kernel_rfl) ?_
   refine au ?_
   obtain ⟨gy, pK, hm⟩ := ob hm
   refine ax [] 29 _ FQ (by kernel_rfl) (wM (F := N0) (O := N0) _ _ _ _ _ _ _ _ (Cx.refl _) _ pK) ?_
   rcases gy with dw | pG
   · simp only [Sum.elim_inl, Sum.elim_inr] at hm
     rintro e_ uq ⟨rfl, gG⟩
     have jV := eX.call gG
     refine ⟨.fV [.v (.pointer none), I dw.1, I dw.2], rfl, ?_⟩
     have jG := jV.dm .z
     refine aK 7 [] (.n 12 (.v (.pointer none)) (.n 13 (I dw.1) (.n 14 (I dw.2) (.kF (.s .a))))) qe (by kernel_rfl) ?_
     refine aj <| ae <| af <| af <| ay <| aK 16 [] (.n 48 (.b (((decide (bQ.1 ≠ dw.1)) || (decide (bQ.2 ≠ dw.2))) || (decide (true ≠ true)))) (.k (.ss (.k (.ss .a))))) qe (by kernel_rfl) ?_
     refine oq 48 (((decide (bQ.1 ≠ dw.1)) || (decide (bQ.2 ≠ dw.2))) || (decide (true ≠ true))) (.s .a) (by kernel_rfl) (fun hg => ?_) (fun hg => ?_)
     · rw [if_pos hg] at hm
       refine aK 3 [48] (.n 51 (.b true) (.s .a)) qe (by kernel_rfl) ?_
       refine aj <| ae <| aN true (by kernel_rfl) (fun _ => ?_) (fun h => by cases h)
       refine af <| aP [] (.n 8 (.b false) .z) qe (by kernel_rfl) ?_
       refine ae <| aF (aJ ?_)
       obtain rfl := Option.some.inj hm
       refine aG [.b false] qe (by kernel_rfl) ?_
       exact ⟨rfl, jG⟩
     · rw [if_neg (by rw [hg]; decide)] at hm
       refine au ?_
       obtain ⟨iP, wF, hm⟩ := ob hm
       refine ax [48] 49 _ yN (by kernel_rfl) (mM (F := N0) (O := N0)  (Cx.refl _) _ wF) ?_
       rintro e_ xU ⟨rfl, mD⟩
       have jA := jG.call mD
       refine ⟨.b iP, rfl, ?_⟩
       refine aK 2 [48] (.n 51 (.b (!iP)) (.ss .a)) qe (by kernel_rfl) ?_
       refine aj <| ae <| aN (!iP) (by kernel_rfl) (fun hc => ?_) (fun hc => ?_)
       · rw [if_pos hc] at hm
         refine af <| aP [] (.n 8 (.b false) .z) qe (by kernel_rfl) ?_
         refine ae <| aF (aJ ?_)
         obtain rfl := Option.some.inj hm
         refine aG [.b false] qe (by kernel_rfl) ?_
         exact ⟨rfl, jA⟩
       rw [if_neg (by rw [hc]; decide)] at hm
       refine aH <| ae <| af <| ay <| aK 3 [] (.n 54 (.b true) (.s .a)) qe (by kernel_rfl) ?_
       refine aK 5 [54] (.n 59 (.fV []) (.k (.s .a))) qe (by kernel_rfl) ?_
       refine aK 7 [54, 59] (.n 8 (.b true) .z) qe (by kernel_rfl) ?_
       refine aj <| ae <| aF ?_
       obtain rfl := Option.some.inj hm
       refine aG [.b true] qe (by kernel_rfl) ?_
       exact ⟨rfl, jA⟩
   · simp only [Sum.elim_inl, Sum.elim_inr] at hm
     rintro e_ Bf ⟨g1, A, _, c, rfl, rfl, lX⟩
     have qH := eX.call lX
     refine ⟨.fV [pt g1 0, I 0, I 0], rfl, ?_⟩
     have jF := qH.dm (.s (.kk .e))
     refine aK 7 [] (.n 12 (pt g1 0) (.n 13 (I 0) (.n 14 (I 0) (.kF (.s .a))))) qe (by kernel_rfl) ?_
     refine aj <| ae <| af <| af <| ay <| aK 16 [] (.n 48 (.b (((decide (bQ.1 ≠ 0)) || (decide (bQ.2 ≠ 0))) || (decide (true ≠ false)))) (.k (.ss (.k (.ss .a))))) qe (by kernel_rfl) ?_
     refine oq 48 (((decide (bQ.1 ≠ 0)) || (decide (bQ.2 ≠ 0))) || (decide (true ≠ false))) (.s .a) (by kernel_rfl) (fun hg0 => ?_) (fun hg0 => ?_)
     · rw [if_pos hg0] at hm
       refine aK 3 [48] (.n 51 (.b true) (.s .a)) qe (by kernel_rfl) ?_
       refine aj <| ae <| aN true (by kernel_rfl) (fun _ => ?_) (fun h => by cases h)
       refine af <| aP [] (.n 8 (.b false) .z) qe (by kernel_rfl) ?_
       refine ae <| aF (aJ ?_)
       obtain rfl := Option.some.inj hm
       refine aG [.b false] qe (by kernel_rfl) ?_
       have ji := jF.dm .z
       exact ⟨rfl, ji⟩
     · rw [if_neg (by rw [hg0]; decide)] at hm
       refine au ?_
       obtain ⟨wW, zM, hm⟩ := ob hm
       refine ax [48] 49 _ yN (by kernel_rfl) (mM (F := N0) (O := N0)  (Cx.refl _) _ zM) ?_
       rintro e_ D9 ⟨rfl, jk⟩
       have kR := jF.call jk
       refine ⟨.b wW, rfl, ?_⟩
       refine aK 2 [48] (.n 51 (.b (!wW)) (.ss .a)) qe (by kernel_rfl) ?_
       refine aj <| ae <| aN (!wW) (by kernel_rfl) (fun hc0 => ?_) (fun hc0 => ?_)
       · rw [if_pos hc0] at hm
         refine af <| aP [] (.n 8 (.b false) .z) qe (by kernel_rfl) ?_
         refine ae <| aF (aJ ?_)
         obtain rfl := Option.some.inj hm
         refine aG [.b false] qe (by kernel_rfl) ?_
         have lS := kR.dm .z
         exact ⟨rfl, lS⟩
       rw [if_neg (by rw [hc0]; decide)] at hm
       refine aH <| ae <| af <| ay <| aK 3 [] (.n 54 (.b true) (.s .a)) qe (by kernel_rfl) ?_
       refine aK 5 [54] (.n 59 (.fV []) (.k (.s .a))) qe (by kernel_rfl) ?_
       refine aK 7 [54, 59] (.n 8 (.b true) .z) qe (by kernel_rfl) ?_
       refine aj <| ae <| aF ?_
       obtain rfl := Option.some.inj hm
       refine aG [.b true] qe (by kernel_rfl) ?_
       have lF := kR.dm .z
       exact ⟨rfl, lF⟩
 · simp only [Sum.elim_inl, Sum.elim_inr] at hm
   rintro e_ Es ⟨g2, b, rfl, oG⟩
   have rC := k_.call oG
   refine ⟨.fV [pt g2 0, I 0, I 0], rfl, ?_⟩
   refine aK 7 [] (.n 9 (pt g2 0) (.n 10 (I 0) (.n 11 (I 0) (.kF (.s .a))))) qe (by kernel_rfl) ?_
   refine aj <| ae <| af <| ay <| aK 4 [] (.n 25 (.agg [I ak, I ag, I ai, I ah, I aB]) (.n 26 (I most) (.n 27 (.u64 hold) (.n 28 (.s text) (.DF (.nG .a)))))) (qT rC 0 rfl 0 5 [I ak, I ag, I ai, I ah, I aB] (by kernel_rfl) (by decide) <| qe) (by kernel_rfl) ?_
   refine au ?_
   obtain ⟨yM, zN, hm⟩ := ob hm
   refine ax [] 29 _ FQ (by kernel_rfl) (wM (F := N0) (O := N0) _ _ _ _ _ _ _ _ (Cx.refl _) _ zN) ?_
   rcases yM with tJ | jy
   · simp only [Sum.elim_inl, Sum.elim_inr] at hm
     rintro e_ G9 ⟨rfl, sH⟩
     have sK := rC.call sH
     refine ⟨.fV [.v (.pointer none), I tJ.1, I tJ.2], rfl, ?_⟩
     have lG := sK.dm (.s (.kk .e))
     refine aK 7 [] (.n 12 (.v (.pointer none)) (.n 13 (I tJ.1) (.n 14 (I tJ.2) (.kF (.s .a))))) qe (by kernel_rfl) ?_
     refine aj <| ae <| af <| af <| ay <| aK 16 [] (.n 48 (.b (((decide (0 ≠ tJ.1)) || (decide (0 ≠ tJ.2))) || (decide (false ≠ true)))) (.k (.ss (.k (.ss .a))))) qe (by kernel_rfl) ?_
     refine oq 48 (((decide (0 ≠ tJ.1)) || (decide (0 ≠ tJ.2))) || (decide (false ≠ true))) (.s .a) (by kernel_rfl) (fun hg1 => ?_) (fun hg1 => ?_)
     · rw [if_pos hg1] at hm
       refine aK 3 [48] (.n 51 (.b true) (.s .a)) qe (by kernel_rfl) ?_
       refine aj <| ae <| aN true (by kernel_rfl) (fun _ => ?_) (fun h => by cases h)
       refine af <| aP [] (.n 8 (.b false) .z) qe (by kernel_rfl) ?_
       refine ae <| aF (aJ ?_)
       obtain rfl := Option.some.inj hm
       refine aG [.b false] qe (by kernel_rfl) ?_
       have oH := lG.dm .z
       exact ⟨rfl, oH⟩
     · rw [if_neg (by rw [hg1]; decide)] at hm
       refine au ?_
       obtain ⟨jJ, wH, hm⟩ := ob hm
       refine ax [48] 49 _ yN (by kernel_rfl) (mM (F := N0) (O := N0)  (Cx.refl _) _ wH) ?_
       rintro e_ JA ⟨rfl, pM⟩
       have qx := lG.call pM
       refine ⟨.b jJ, rfl, ?_⟩
       refine aK 2 [48] (.n 51 (.b (!jJ)) (.ss .a)) qe (by kernel_rfl) ?_
       refine aj <| ae <| aN (!jJ) (by kernel_rfl) (fun hc1 => ?_) (fun hc1 => ?_)
       · rw [if_pos hc1] at hm
         refine af <| aP [] (.n 8 (.b false) .z) qe (by kernel_rfl) ?_
         refine ae <| aF (aJ ?_)
         obtain rfl := Option.some.inj hm
         refine aG [.b false] qe (by kernel_rfl) ?_
         have rD := qx.dm .z
         exact ⟨rfl, rD⟩
       rw [if_neg (by rw [hc1]; decide)] at hm
       cases hm
   · simp only [Sum.elim_inl, Sum.elim_inr] at hm
     rintro e_ zI ⟨g3, A1, _, c1, rfl, rfl, rF⟩
     have xx := rC.call rF
     refine ⟨.fV [pt g3 0, I 0, I 0], rfl, ?_⟩
     have xy := xx.dm (.s (.kD .e))
     refine aK 7 [] (.n 12 (pt g3 0) (.n 13 (I 0) (.n 14 (I 0) (.kF (.s .a))))) qe (by kernel_rfl) ?_
     refine aj <| ae <| af <| af <| ay <| aK 16 [] (.n 48 (.b (((decide (0 ≠ 0)) || (decide (0 ≠ 0))) || (decide (false ≠ false)))) (.k (.ss (.k (.ss .a))))) qe (by kernel_rfl) ?_
     refine oq 48 (((decide (0 ≠ 0)) || (decide (0 ≠ 0))) || (decide (false ≠ false))) (.s .a) (by kernel_rfl) (fun hg2 => ?_) (fun hg2 => ?_)
     · rw [if_pos hg2] at hm
       refine aK 3 [48] (.n 51 (.b true) (.s .a)) qe (by kernel_rfl) ?_
       refine aj <| ae <| aN true (by kernel_rfl) (fun _ => ?_) (fun h => by cases h)
       refine af <| aP [] (.n 8 (.b false) .z) qe (by kernel_rfl) ?_
       refine ae <| aF (aJ ?_)
       obtain rfl := Option.some.inj hm
       refine aG [.b false] qe (by kernel_rfl) ?_
       have zL := xy.dm .z
       exact ⟨rfl, zL⟩
     · rw [if_neg (by rw [hg2]; decide)] at hm
       refine au ?_
       obtain ⟨d_, wI, hm⟩ := ob hm
       refine ax [48] 49 _ yN (by kernel_rfl) (mM (F := N0) (O := N0)  (Cx.refl _) _ wI) ?_
       rintro e_ zJ ⟨rfl, Bo⟩
       have wG := xy.call Bo
       refine ⟨.b d_, rfl, ?_⟩
       refine aK 2 [48] (.n 51 (.b (!d_)) (.ss .a)) qe (by kernel_rfl) ?_
       refine aj <| ae <| aN (!d_) (by kernel_rfl) (fun hc2 => ?_) (fun hc2 => ?_)
       · rw [if_pos hc2] at hm
         refine af <| aP [] (.n 8 (.b false) .z) qe (by kernel_rfl) ?_
         refine ae <| aF (aJ ?_)
         obtain rfl := Option.some.inj hm
         refine aG [.b false] qe (by kernel_rfl) ?_
         have Bq := wG.dm .z
         exact ⟨rfl, Bq⟩
       rw [if_neg (by rw [hc2]; decide)] at hm
       refine aH <| ae <| af <| ay <| aK 3 [] (.n 54 (.b false) (.s .a)) qe (by kernel_rfl) ?_
       refine aK 1 [54] (.n 55 (pt g2 0) .a) qe (by kernel_rfl) ?_
       refine au ?_
       have xA := wG.dm (.kD .e)
       obtain ⟨jR, wJ, hm⟩ := ob hm
       obtain ⟨F10, TR, QX, UB, TS, UC, hb0⟩ := xA.go (.i (.i (.r (.r .e))))
       refine ax [54] 56 _ FT (by kernel_rfl) (mO (F := F10) (O := TR) _ _ _ _ _ _ _ _ _ _ QX _ wJ) ?_
       rintro e_ Bj ⟨A2, _, c2, rfl, rfl, xB⟩
       have yZ := hb0 Bj _ _ xB (.c (.c (.c .n)))
       refine ⟨sl A2 jR.1.length c2, rfl, ?_⟩
       refine aK 1 [54] (.n 57 (pt g3 0) (.k (.s (.k (.s .a))))) qe (by kernel_rfl) ?_
       refine au ?_
       obtain ⟨kJ, wK, hm⟩ := ob hm
       obtain ⟨F11, KN, Bi, Pq, I5, hF1, hb1⟩ := yZ.go (.r (.r (.r (.i (.i .e)))))
       refine ax [54] 58 _ KE (by kernel_rfl) (wO (F := F11) (O := KN) _ _ _ _ _ _ _ _ _ _ _ _ _ _ _ _ (Ro.of_rest I5 0 rfl) (yZ.len 0 rfl) (yZ.J7 0 rfl) Bi _ wK) ?_
       rintro e_ Eb ⟨A3, _, c3, rfl, rfl, Ec⟩
       have F6 := hb1 Eb _ _ Ec (.c (.c .n))
       refine ⟨.b kJ.1, rfl, ?_⟩
       have Bz := F6.dm (.ss (.s (.kk .e)))
       refine aK 1 [54] (.n 59 (.b kJ.1) (.nG .a)) qe (by kernel_rfl) ?_
       refine oq 59 kJ.1 (.s .a) (by kernel_rfl) (fun hg3 => ?_) (fun hg3 => ?_)
       · rw [if_pos hg3] at hm
         refine aK 1 [59] (.n 60 (pt g2 0) (.kk (.s .a))) qe (by kernel_rfl) ?_
         refine au ?_
         obtain ⟨je, wL, hm⟩ := ob hm
         obtain ⟨NS, NT, FZ, hO2, NU, hF2, hb2⟩ := Bz.go (.i (.i .e))
         refine ax [59] 61 _ KF (by kernel_rfl) (tY (F := NS) (O := NT) _ _ _ _ _ _ _ _ _ _ (hT.way Bz hF2) FZ _ wL) ?_
         rintro e_ I7 ⟨rfl, BA⟩
         have F7 := hb2 I7 _ _ BA (.c (.c .n))
         refine ⟨.s je.1, rfl, ?_⟩
         have Ed := F7.dm .z
         refine aK 5 [54, 59] (.n 8 (.b (decide (je.1 = text))) .z) qe (by kernel_rfl) ?_
         refine aj <| ae <| aF ?_
         obtain rfl := Option.some.inj hm
         refine aG [.b (decide (je.1 = text))] qe (by kernel_rfl) ?_
         exact ⟨rfl, Ed⟩
       · rw [if_neg (by rw [hg3]; decide)] at hm
         refine aK 7 [54, 59] (.n 8 (.b false) .z) qe (by kernel_rfl) ?_
         refine aj <| ae <| aF ?_
         obtain rfl := Option.some.inj hm
         refine aG [.b false] qe (by kernel_rfl) ?_
         have F8 := Bz.dm .z
         exact ⟨rfl, F8⟩
end Go.Sx
namespace Go.Sx
open Go.RowKit
set_option linter.unusedVariables false
set_option linter.unusedSimpArgs false
theorem CW (n : Int) (m : Int) (hm : 0 < m) : Int.tmod n m = if 0 ≤ n then n % m else -((-n) % m) := by
  split
  · rename_i h
    rw [Int.tmod_eq_emod_of_nonneg h]
  · rename_i h
    have : n = -(-n) := by omega
    rw [this, Int.neg_tmod, Int.tmod_eq_emod_of_nonneg (by omega)]
    simp
theorem getD_at {α : Type} (l : List α) (i : Nat) (d : α) (h : i < l.length) : l.getD i d = l[i] := by
  rw [List.getD_eq_getElem?_getD, List.getElem?_eq_getElem h]; rfl
def TT (n : Nat) : Nat := if 48 ≤ n ∧ n ≤ 57 then n - 48 else if 97 ≤ n ∧ n ≤ 102 then n - 87 else if 65 ≤ n ∧ n ≤ 70 then n - 55 else 16
def dg (c : UInt8) : Nat := TT c.toNat
theorem nK {p : UInt8 → Prop} (h : ∀ n : Nat, n < 256 → p (UInt8.ofNat n)) (c : UInt8) : p c := by
  have := h c.toNat c.toNat_lt
  simpa using this
def RP (s : List UInt8) (j : Nat) : Nat := dg (s.getD j 0)
def hx (s : List UInt8) (i : Nat) : List UInt8 := (List.range ((i + 1) / 2)).map fun j => UInt8.ofNat (16 * RP s (2 * j) + if 2 * j + 1 < i then RP s (2 * j + 1) else 0)
theorem Oo (n : Nat) : Int.tmod (n : Int) 2 = ((n % 2 : Nat) : Int) := by rw [CW _ _ (by omega), if_pos (by omega)]; omega
theorem JD (n : Nat) : Int.tmod (n : Int) 4 = ((n % 4 : Nat) : Int) := by rw [CW _ _ (by omega), if_pos (by omega)]; omega
def wv (f : Nat → Nat) (a : Nat) : Nat → Nat
  | 0 => 0
  | n + 1 => 2 * wv f a n + f (a + n)
theorem xW {f : Nat → Nat} (hf : ∀ k, f k < 2) (a n : Nat) : wv f a n < 2 ^ n := by
  induction n with
  | zero => simp [wv]
  | succ n ih => have := hf (a + n); simp only [wv, Nat.pow_succ]; omega
theorem BG (f : Nat → Nat) (a n m : Nat) : wv f a (n + m) = wv f a n * 2 ^ m + wv f (a + n) m := by
  induction m with
  | zero => simp [wv]
  | succ m ih =>
    show 2 * wv f a (n + m) + f (a + (n + m)) = wv f a n * 2 ^ (m + 1) + (2 * wv f (a + n) m + f (a + n + m))
    rw [ih, Nat.pow_succ, ← Nat.mul_assoc, Nat.add_assoc a n m]
    omega
theorem MC (f : Nat → Nat) (a : Nat) : ∀ (n N : Nat), (∀ j, j < n → f (a + j) = N / 2 ^ (n - 1 - j) % 2) → wv f a n = N % 2 ^ n := by
  intro n
  induction n with
  | zero => intro N _; simp [wv, Nat.mod_one]
  | succ n ih =>
    intro N h
    have h1 : wv f a n = (N / 2) % 2 ^ n := ih (N / 2) (fun j hj => by
      rw [h j (by omega), Nat.div_div_eq_div_mul, ← Nat.pow_succ']
      congr 3
      omega)
    have h2 := h n (by omega)
    simp only [wv, h1, h2]
    rw [show n + 1 - 1 - n = 0 from by omega, Nat.pow_zero, Nat.div_one, Nat.pow_succ', Nat.mod_mul]
    omega
theorem MF {f : Nat → Nat} (hf : ∀ k, f k < 2) (a n : Nat) : ∀ j, j < n → wv f a n / 2 ^ (n - 1 - j) % 2 = f (a + j) := by
  intro j hj
  obtain ⟨m, rfl⟩ : ∃ m, n = j + 1 + m := ⟨n - j - 1, by omega⟩
  have hm := xW hf (a + (j + 1)) m
  rw [BG, show j + 1 + m - 1 - j = m from by omega, Nat.mul_comm, Nat.mul_add_div (Nat.pow_pos (by omega)), Nat.div_eq_of_lt hm]
  have := hf (a + j)
  simp only [wv]
  omega
theorem I_ {f : Nat → Nat} (a n : Nat) (h : wv f a n = 0) : ∀ j, j < n → f (a + j) = 0 := by
  induction n with
  | zero => intro j hj; omega
  | succ n ih =>
    simp only [wv] at h
    intro j hj
    by_cases hjn : j = n
    · subst hjn; omega
    · exact ih (by omega) j (by omega)
def Ef : List UInt8 := [65, 66, 67, 68, 69, 70, 71, 72, 73, 74, 75, 76, 77, 78, 79, 80, 81, 82, 83, 84, 85, 86, 87, 88, 89, 90, 97, 98, 99, 100, 101, 102, 103, 104, 105, 106, 107, 108, 109, 110, 111, 112, 113, 114, 115, 116, 117, 118, 119, 120, 121, 122, 48, 49, 50, 51, 52, 53, 54, 55, 56, 57, 43, 47]
theorem MG {i : Nat} (h : i < 64) : bZ Ef (i : Int) = some (Ef.getD i 0) := by
  rw [bf (xs := Ef) (by simpa [Ef] using h), getD_at _ _ _ (by simpa [Ef] using h)]
def RQ (n : Nat) : Nat := if 65 ≤ n ∧ n ≤ 90 then n - 65 else if 97 ≤ n ∧ n ≤ 122 then n - 71 else if 48 ≤ n ∧ n ≤ 57 then n + 4 else if n = 43 then 62 else if n = 47 then 63 else 64
def lt (c : UInt8) : Nat := RQ c.toNat
theorem JE (c : UInt8) : lt c ≤ 64 := by
  unfold lt RQ
  split
  · omega
  split
  · omega
  split
  · omega
  split
  · omega
  split <;> omega
theorem Gp : ∀ i : Nat, i < 64 → lt (Ef.getD i 0) = i := by decide +kernel
theorem Gq (c : UInt8) (h : lt c < 64) : Ef.getD (lt c) 0 = c := by
  have := nK (p := fun c => lt c < 64 → Ef.getD (lt c) 0 = c) (by decide +kernel) c
  exact this h
theorem Ja (c : UInt8) : jm c = some (if lt c < 64 then (UInt32.ofNat (lt c), true) else (0, false)) := by
  refine nK (p := fun c => jm c = some (if lt c < 64 then (UInt32.ofNat (lt c), true) else (0, false))) ?_ c
  unfold jm
  decide +kernel
theorem uS (c : UInt8) : ja c = some (if lt c < 64 then (lt c : Int) else -1) := by
  unfold ja
  refine nH (fun i s => s = (i : Int) ∧ i ≤ lt c) _ (lt c) _ ⟨rfl, by omega⟩ ?_
  rintro i s ⟨rfl, hi⟩
  have hle := JE c
  show (i < lt c ∧ ∃ s', jf c (i : Int) = some (.inl s') ∧ s' = ((i + 1 : Nat) : Int) ∧ i + 1 ≤ lt c) ∨ _
  unfold jf
  simp only []
  by_cases h64 : i < 64
  · have e := MG h64
    unfold Ef at e
    rw [if_pos (by omega), e]
    simp only [Option.bind_some]
    by_cases hc : i = lt c
    · right
      subst hc
      have := Gq c h64
      unfold Ef at this
      rw [if_pos this, if_pos h64]
      rfl
    · left
      refine ⟨by omega, _, ?_, rfl, by omega⟩
      have hne : ¬ Ef.getD i 0 = c := by
        intro h
        have := Gp i h64
        rw [h] at this
        omega
      unfold Ef at hne
      rw [if_neg hne, gp (by omega)]
      rfl
  · right
    rw [if_neg (by omega), if_neg (by omega)]
    rfl
def bit (b : List UInt8) (k : Nat) : Nat := (b.getD (k / 8) 0).toNat / 2 ^ (7 - k % 8) % 2
theorem MH (b : List UInt8) (k : Nat) : bit b k < 2 := Nat.mod_lt _ (by omega)
theorem zX {α : Type} (l : List α) (i : Nat) (d : α) (h : l.length ≤ i) : l.getD i d = d := by
  rw [List.getD_eq_getElem?_getD, List.getElem?_eq_none h]; rfl
theorem Jb (b : List UInt8) (k : Nat) (h : 8 * b.length ≤ k) : bit b k = 0 := by
  unfold bit
  rw [zX _ _ _ (by omega)]
  simp
def Jc (b : List UInt8) (n : Nat) : List UInt8 := (List.range n).map fun m => Ef.getD (wv (bit b) (6 * m) 6) 0
def enc (b : List UInt8) : List UInt8 := Jc b ((8 * b.length + 5) / 6)
theorem TU (b : List UInt8) (a : Nat) : wv (bit b) a 6 < 64 := xW (MH b) a 6
def lb (s : List UInt8) (k : Nat) : Nat := lt (s.getD (k / 6) 0) / 2 ^ (5 - k % 6) % 2
theorem xX (s : List UInt8) (k : Nat) : lb s k < 2 := Nat.mod_lt _ (by omega)
theorem MI (s : List UInt8) (k : Nat) (h : 6 * s.length ≤ k) : lb s k = 0 := by
  unfold lb
  rw [zX _ _ _ (by omega), show lt 0 = 64 from by decide]
  have : k % 6 = 0 ∨ k % 6 = 1 ∨ k % 6 = 2 ∨ k % 6 = 3 ∨ k % 6 = 4 ∨ k % 6 = 5 := by omega
  rcases this with h | h | h | h | h | h <;> rw [h]
theorem JF (s : List UInt8) (i : Nat) (hi : i < s.length) (h : lt s[i] < 64) : wv (lb s) (6 * i) 6 = lt s[i] := by
  rw [MC (lb s) (6 * i) 6 (lt s[i])]
  · exact Nat.mod_eq_of_lt (by omega)
  · intro j hj
    unfold lb
    rw [show (6 * i + j) / 6 = i from by omega, show (6 * i + j) % 6 = j from by omega, getD_at _ _ _ hi]
def oJ (f : Nat → Nat) (n : Nat) : List UInt8 := (List.range n).map fun m => UInt8.ofNat (wv f (8 * m) 8)
theorem pW (f : Nat → Nat) (n : Nat) : (oJ f n).length = n := by simp [oJ]
theorem xY (f : Nat → Nat) (n : Nat) : oJ f n ++ [UInt8.ofNat (wv f (8 * n) 8)] = oJ f (n + 1) := by
  unfold oJ; rw [List.range_succ, List.map_append]; rfl
def badL (s : List UInt8) : Nat := s.findIdx (fun c => decide (64 ≤ lt c))
theorem y7 (s : List UInt8) : badL s ≤ s.length := List.findIdx_le_length
theorem uT (s : List UInt8) (i : Nat) (h : i < badL s) (hi : i < s.length) : lt s[i] < 64 := by
  have := List.not_of_lt_findIdx h
  simp only [decide_eq_false_iff_not] at this
  omega
theorem CX (s : List UInt8) (h : badL s < s.length) : lt s[badL s] = 64 := by
  have := List.findIdx_getElem (w := h)
  simp only [decide_eq_true_eq] at this
  have := JE s[badL s]
  simp only [badL] at *
  omega
def iE (s : List UInt8) : List UInt8 × Int × Int :=
  if badL s < s.length then ([], (badL s : Int), 4) else if s.length % 4 = 1 then ([], (s.length : Int), 4) else
  if wv (lb s) (8 * (6 * s.length / 8)) (6 * s.length % 8) ≠ 0 then ([], (s.length : Int) - 1, 4) else (oJ (lb s) (6 * s.length / 8), 0, 0)
theorem p7 (r : Nat) (h : r ≤ 7) : ((jd 1 r) - 1).toNat = 2 ^ r - 1 := by
  have : ∀ r : Nat, r < 8 → ((jd 1 r) - 1).toNat = 2 ^ r - 1 := by decide +kernel
  exact this r (by omega)
theorem MJ {a b : UInt32} (h : a.toNat = b.toNat) : a = b := UInt32.toNat_inj.1 h
theorem Gs (s : List UInt8) (hs : s.length ≤ 4194304) : gJ s = some (iE s) := by
  unfold gJ
  have hbl := y7 s
  refine nH (fun i x => x = (oJ (lb s) (6 * i / 8), ((6 * i % 8 : Nat) : Int), UInt32.ofNat (wv (lb s) (8 * (6 * i / 8)) (6 * i % 8)), (i : Int)) ∧ i ≤ badL s) _ (badL s) _ ⟨by simp [oJ, wv], by omega⟩ ?_
  rintro i x ⟨rfl, hi⟩
  unfold iW
  simp only []
  have hw := xW (xX s) (8 * (6 * i / 8)) (6 * i % 8)
  have TV : 2 ^ (6 * i % 8) ≤ 2 ^ 6 := Nat.pow_le_pow_right (by omega) (by omega)
  by_cases hlt : i < s.length
  · rw [if_pos (by omega), bf hlt]
    simp only [Option.bind_some, Ja]
    have e3 : aA ((i : Int) + 1) = ((i + 1 : Nat) : Int) := by rw [gp (by omega)]; omega
    by_cases hb : i < badL s
    · left
      have hd := uT s i hb hlt
      refine ⟨hb, (oJ (lb s) (6 * (i + 1) / 8), ((6 * (i + 1) % 8 : Nat) : Int), UInt32.ofNat (wv (lb s) (8 * (6 * (i + 1) / 8)) (6 * (i + 1) % 8)), ((i + 1 : Nat) : Int)), ?_, rfl, by omega⟩
      rw [if_pos hd]
      simp only [Bool.not_true, Bool.false_eq_true, if_false]
      have hv : (jd (UInt32.ofNat (wv (lb s) (8 * (6 * i / 8)) (6 * i % 8))) ((6 : UInt64).toNat) ||| UInt32.ofNat (lt s[i])).toNat = wv (lb s) (8 * (6 * i / 8)) (6 * i % 8 + 6) := by
        rw [BG, show 8 * (6 * i / 8) + 6 * i % 8 = 6 * i from by omega, JF s i hlt hd]
        have e1 : (jd (UInt32.ofNat (wv (lb s) (8 * (6 * i / 8)) (6 * i % 8))) ((6 : UInt64).toNat)).toNat = wv (lb s) (8 * (6 * i / 8)) (6 * i % 8) * 64 := by
          simp only [jd, ← UInt32.toNat_toBitVec, BitVec.toNat_shiftLeft]
          simp only [UInt32.toNat_toBitVec, UInt32.toNat_ofNat', show (6 : UInt64).toNat = 6 from rfl, Nat.shiftLeft_eq]
          omega
        have e2 : (UInt32.ofNat (lt s[i])).toNat = lt s[i] := by simp only [UInt32.toNat_ofNat']; omega
        rw [UInt32.toNat_or, e1, e2, show wv (lb s) (8 * (6 * i / 8)) (6 * i % 8) * 64 = wv (lb s) (8 * (6 * i / 8)) (6 * i % 8) <<< 6 from by rw [Nat.shiftLeft_eq], ← Nat.shiftLeft_add_eq_or_of_lt (by omega), Nat.shiftLeft_eq]
      generalize jd (UInt32.ofNat (wv (lb s) (8 * (6 * i / 8)) (6 * i % 8))) ((6 : UInt64).toNat) ||| UInt32.ofNat (lt s[i]) = v at hv
      have e4 : aA (((6 * i % 8 : Nat) : Int) + 6) = ((6 * i % 8 + 6 : Nat) : Int) := by rw [gp (by omega)]; omega
      rw [e4]
      by_cases h8 : 8 ≤ 6 * i % 8 + 6
      · have e5 : aA (((6 * i % 8 + 6 : Nat) : Int) - 8) = ((6 * i % 8 - 2 : Nat) : Int) := by rw [gp (by omega)]; omega
        rw [if_pos (by omega), e5, jI (by omega)]
        simp only [Option.bind_some, Int.toNat_natCast]
        have q0 : 6 * i % 8 + 6 = 8 + (6 * i % 8 - 2) := by omega
        rw [q0, BG] at hv
        have hw2 := xW (xX s) (8 * (6 * i / 8) + 8) (6 * i % 8 - 2)
        have hpr : 2 ^ (6 * i % 8 - 2) ≤ 2 ^ 4 := Nat.pow_le_pow_right (by omega) (by omega)
        have q1 : UInt8.ofNat (oh v (6 * i % 8 - 2)).toNat = UInt8.ofNat (wv (lb s) (8 * (6 * i / 8)) 8) := by
          have : (oh v (6 * i % 8 - 2)).toNat = v.toNat / 2 ^ (6 * i % 8 - 2) := by simp [oh, Nat.shiftRight_eq_div_pow]
          rw [this, hv, Nat.mul_comm, Nat.mul_add_div (Nat.pow_pos (by omega)), Nat.div_eq_of_lt hw2, Nat.add_zero]
        have q2 : v &&& (jd 1 (6 * i % 8 - 2) - 1) = UInt32.ofNat (wv (lb s) (8 * (6 * i / 8) + 8) (6 * i % 8 - 2)) := by
          apply MJ
          rw [UInt32.toNat_and, p7 _ (by omega), Nat.and_two_pow_sub_one_eq_mod, hv, Nat.mul_comm, Nat.mul_add_mod, Nat.mod_eq_of_lt hw2]
          simp only [UInt32.toNat_ofNat']
          omega
        rw [q1, q2, tH (by rw [pW]; simp; omega)]
        simp only [Option.bind_some, fB]
        rw [xY, e3]
        rw [show 6 * (i + 1) / 8 = 6 * i / 8 + 1 from by omega, show 6 * (i + 1) % 8 = 6 * i % 8 - 2 from by omega, show 8 * (6 * i / 8 + 1) = 8 * (6 * i / 8) + 8 from by omega]
      · rw [if_neg (by omega)]
        simp only [fB]
        rw [e3, show 6 * (i + 1) / 8 = 6 * i / 8 from by omega, show 6 * (i + 1) % 8 = 6 * i % 8 + 6 from by omega, ← hv]
        simp
    · right
      obtain rfl : i = badL s := by omega
      have hd := CX s hlt
      rw [if_neg (show ¬ lt s[badL s] < 64 from by omega)]
      simp only [Bool.not_false, if_true, Option.map_some]
      rw [iE, if_pos hlt]
  · right
    have hi' : i = s.length := by omega
    subst hi'
    rw [if_neg (by omega), JD]
    rw [iE, if_neg (show ¬ badL s < s.length from by omega)]
    by_cases h2 : s.length % 4 = 1
    · rw [if_pos (show ((s.length % 4 : Nat) : Int) = 1 from by omega), if_pos h2]; rfl
    · rw [if_neg (show ¬ ((s.length % 4 : Nat) : Int) = 1 from by omega), if_neg h2]
      by_cases h0 : wv (lb s) (8 * (6 * s.length / 8)) (6 * s.length % 8) = 0
      · rw [if_neg (by rw [h0]; decide), if_neg (by simpa using h0)]; rfl
      · have hne : UInt32.ofNat (wv (lb s) (8 * (6 * s.length / 8)) (6 * s.length % 8)) ≠ 0 := by
          intro h
          have := congrArg UInt32.toNat h
          simp only [UInt32.toNat_ofNat', show (0 : UInt32).toNat = 0 from rfl] at this
          omega
        rw [if_pos hne, if_pos h0, gp (by omega)]
        rfl
theorem Jd (s : List UInt8) (hs : s.length ≤ 4194304) (i : Nat) (hi : i < s.length) (hd : lt s[i] < 64) :
    aU (gX s (i : Int)) (oJ (lb s) (6 * i / 8), ((6 * i % 8 : Nat) : Int), ((wv (lb s) (8 * (6 * i / 8)) (6 * i % 8) : Nat) : Int), 5)
      = some (.inl (oJ (lb s) (6 * (i + 1) / 8), ((6 * (i + 1) % 8 : Nat) : Int), ((wv (lb s) (8 * (6 * (i + 1) / 8)) (6 * (i + 1) % 8) : Nat) : Int), ((i + 1 : Nat) : Int))) := by
  refine nH (fun j x => x = (oJ (lb s) ((6 * i + j) / 8), (((6 * i + j) % 8 : Nat) : Int), ((wv (lb s) (8 * ((6 * i + j) / 8)) ((6 * i + j) % 8) : Nat) : Int), (5 : Int) - j) ∧ j ≤ 6) _ 6 _ ⟨by simp, by omega⟩ ?_
  rintro j x ⟨rfl, hj⟩
  unfold gX
  simp only []
  by_cases hlt : j < 6
  · left
    refine ⟨hlt, (oJ (lb s) ((6 * i + (j + 1)) / 8), (((6 * i + (j + 1)) % 8 : Nat) : Int), ((wv (lb s) (8 * ((6 * i + (j + 1)) / 8)) ((6 * i + (j + 1)) % 8) : Nat) : Int), (5 : Int) - ((j + 1 : Nat) : Int)), ?_, rfl, by omega⟩
    rw [if_pos (by omega), bf hi]
    simp only [Option.bind_some, uS]
    rw [if_pos hd, jI (by omega)]
    simp only [Option.bind_some]
    have hw := xW (xX s) (8 * ((6 * i + j) / 8)) ((6 * i + j) % 8)
    have TV : 2 ^ ((6 * i + j) % 8) ≤ 2 ^ 7 := Nat.pow_le_pow_right (by omega) (by omega)
    have e1 : aA ((((6 * i + j) % 8 : Nat) : Int) + 1) = (((6 * i + j) % 8 + 1 : Nat) : Int) := by rw [gp (by omega)]; omega
    have ek : Int.toNat (5 - (j : Int)) = 5 - j := by omega
    have esh : rM .i64 ((lt s[i] : Nat) : Int) (5 - j) = ((lt s[i] / 2 ^ (5 - j) : Nat) : Int) := by
      unfold rM
      rw [Nat.min_eq_left (by simp [IntKind.bits]; omega), Int.fdiv_eq_ediv_of_nonneg _ (by have : (0 : Int) < 2 ^ (5 - j) := Int.pow_pos (by omega); omega)]
      simp
    have e2 : Int.tmod (rM .i64 ((lt s[i] : Nat) : Int) (5 - j)) 2 = ((lb s (6 * i + j) : Nat) : Int) := by
      rw [esh, Oo]
      unfold lb
      rw [show (6 * i + j) / 6 = i from by omega, show (6 * i + j) % 6 = j from by omega, getD_at _ _ _ hi]
    have hb2 := xX s (6 * i + j)
    have e3 : aA (2 * ((wv (lb s) (8 * ((6 * i + j) / 8)) ((6 * i + j) % 8) : Nat) : Int)) = ((2 * wv (lb s) (8 * ((6 * i + j) / 8)) ((6 * i + j) % 8) : Nat) : Int) := by rw [gp (by omega)]; omega
    have e4 : aA (((2 * wv (lb s) (8 * ((6 * i + j) / 8)) ((6 * i + j) % 8) : Nat) : Int) + ((lb s (6 * i + j) : Nat) : Int)) = ((wv (lb s) (8 * ((6 * i + j) / 8)) ((6 * i + j) % 8 + 1) : Nat) : Int) := by
      rw [gp (by omega)]
      simp only [wv]
      rw [show 8 * ((6 * i + j) / 8) + (6 * i + j) % 8 = 6 * i + j from by omega]
      omega
    rw [ek, e1, e2, e3, e4]
    have e5 : aA (5 - (j : Int) - 1) = (5 : Int) - ((j + 1 : Nat) : Int) := by rw [gp (by omega)]; omega
    by_cases h6 : (6 * i + j) % 8 + 1 = 8
    · rw [if_pos (by omega), h6]
      rw [tH (by rw [pW]; simp; omega)]
      simp only [Option.bind_some, fG, e5]
      have q1 : (6 * i + (j + 1)) / 8 = (6 * i + j) / 8 + 1 := by omega
      have q2 : (6 * i + (j + 1)) % 8 = 0 := by omega
      have q3 : ∀ n : Nat, UInt8.ofInt (n : Int) = UInt8.ofNat n := by
        intro n
        apply UInt8.eq_of_toBitVec_eq; apply BitVec.eq_of_toNat_eq
        simp [UInt8.ofInt]
        omega
      rw [q1, q2, ← xY, q3]
      rfl
    · rw [if_neg (by omega)]
      simp only [fG, e5]
      have q1 : (6 * i + (j + 1)) / 8 = (6 * i + j) / 8 := by omega
      have q2 : (6 * i + (j + 1)) % 8 = (6 * i + j) % 8 + 1 := by omega
      rw [q1, q2]
  · right
    obtain rfl : j = 6 := by omega
    rw [if_neg (by omega)]
    have e5 : aA ((i : Int) + 1) = ((i + 1 : Nat) : Int) := by rw [gp (by omega)]; omega
    rw [e5]
    rfl
theorem Gt (s : List UInt8) (hs : s.length ≤ 4194304) : iI s = some (iE s) := by
  unfold iI
  have hbl := y7 s
  refine nH (fun i x => x = (i : Int) ∧ i ≤ badL s) _ (badL s) _ ⟨rfl, by omega⟩ ?_
  rintro i x ⟨rfl, hi⟩
  unfold jr
  simp only []
  by_cases hlt : i < s.length
  · rw [if_pos (by omega), bf hlt]
    simp only [Option.bind_some, uS]
    by_cases hb : i < badL s
    · left
      have hd := uT s i hb hlt
      refine ⟨hb, ((i + 1 : Nat) : Int), ?_, rfl, by omega⟩
      rw [if_pos hd, if_neg (by omega), gp (by omega)]
      congr 2
    · right
      obtain rfl : i = badL s := by omega
      have hd := CX s hlt
      rw [if_neg (show ¬ lt s[badL s] < 64 from by omega), if_pos (by omega)]
      rw [iE, if_pos hlt]
      rfl
  · right
    have hi' : i = s.length := by omega
    subst hi'
    rw [if_neg (by omega), JD]
    rw [iE, if_neg (show ¬ badL s < s.length from by omega)]
    by_cases h2 : s.length % 4 = 1
    · rw [if_pos (show ((s.length % 4 : Nat) : Int) = 1 from by omega), if_pos h2]; rfl
    · rw [if_neg (show ¬ ((s.length % 4 : Nat) : Int) = 1 from by omega), if_neg h2]
      have key : aU (gY s) ([], 0, 0, 0) = some (if wv (lb s) (8 * (6 * s.length / 8)) (6 * s.length % 8) ≠ 0 then ([], (s.length : Int) - 1, 4) else (oJ (lb s) (6 * s.length / 8), 0, 0)) := by
        refine nH (fun i x => x = (oJ (lb s) (6 * i / 8), ((6 * i % 8 : Nat) : Int), ((wv (lb s) (8 * (6 * i / 8)) (6 * i % 8) : Nat) : Int), (i : Int)) ∧ i ≤ s.length) _ s.length _ ⟨by simp [oJ, wv], by omega⟩ ?_
        rintro i x ⟨rfl, hi⟩
        unfold gY
        simp only []
        by_cases hlt : i < s.length
        · left
          refine ⟨hlt, _, ?_, rfl, by omega⟩
          rw [if_pos (by omega), Jd s hs i hlt (uT s i (by omega) hlt)]
        · right
          obtain rfl : i = s.length := by omega
          rw [if_neg (by omega)]
          by_cases h0 : wv (lb s) (8 * (6 * s.length / 8)) (6 * s.length % 8) = 0
          · rw [if_neg (by rw [h0]; decide), if_neg (by simpa using h0)]; rfl
          · rw [if_pos (by omega), if_pos h0, gp (by omega)]
            rfl
      rw [key]
      rfl
theorem Je (b : List UInt8) : (enc b).length = (8 * b.length + 5) / 6 := by simp [enc, Jc]
theorem xZ (s : List UInt8) (h : (iE s).2.2 = 0) : enc (iE s).1 = s := by
  unfold iE at h ⊢
  by_cases h1 : badL s < s.length
  · rw [if_pos h1] at h; simp at h
  rw [if_neg h1] at h ⊢
  by_cases h2 : s.length % 4 = 1
  · rw [if_pos h2] at h; simp at h
  rw [if_neg h2] at h ⊢
  by_cases h3 : wv (lb s) (8 * (6 * s.length / 8)) (6 * s.length % 8) = 0
  · rw [if_neg (by simpa using h3)]
    simp only []
    have hbit : bit (oJ (lb s) (6 * s.length / 8)) = lb s := by
      funext k
      by_cases hk : k < 8 * (6 * s.length / 8)
      · unfold bit
        rw [getD_at _ _ _ (by rw [pW]; omega)]
        simp only [oJ, List.getElem_map, List.getElem_range]
        have hw := xW (xX s) (8 * (k / 8)) 8
        have e : (UInt8.ofNat (wv (lb s) (8 * (k / 8)) 8)).toNat = wv (lb s) (8 * (k / 8)) 8 := by
          simp only [UInt8.toNat_ofNat']; omega
        rw [e]
        have := MF (xX s) (8 * (k / 8)) 8 (k % 8) (by omega)
        rw [show 8 * (k / 8) + k % 8 = k from by omega] at this
        rw [← this]
      · rw [Jb _ _ (by rw [pW]; omega)]
        by_cases hk2 : k < 6 * s.length
        · have := I_ _ _ h3 (k - 8 * (6 * s.length / 8)) (by omega)
          rw [show 8 * (6 * s.length / 8) + (k - 8 * (6 * s.length / 8)) = k from by omega] at this
          exact this.symm
        · rw [MI _ _ (by omega)]
    apply List.ext_getElem
    · rw [Je, pW]
      obtain ⟨q, r, hq, hr⟩ : ∃ q r, s.length = 4 * q + r ∧ (r = 0 ∨ r = 2 ∨ r = 3) := ⟨s.length / 4, s.length % 4, by omega, by omega⟩
      rw [hq]
      rcases hr with rfl | rfl | rfl
      · rw [show 6 * (4 * q + 0) / 8 = 3 * q from by omega]; omega
      · rw [show 6 * (4 * q + 2) / 8 = 3 * q + 1 from by omega]; omega
      · rw [show 6 * (4 * q + 3) / 8 = 3 * q + 2 from by omega]; omega
    · intro j q1 q2
      have hd := uT s j (by have := y7 s; omega) q2
      simp only [enc, Jc, List.getElem_map, List.getElem_range]
      rw [hbit, JF s j q2 hd, Gq _ hd]
  · rw [if_pos h3] at h; simp at h
end Go.Sx
namespace Go.Sx
open Go.RowKit
set_option linter.unusedVariables false
set_option linter.unusedSimpArgs false
theorem wN (n : Nat) (h : n < 9223372036854775808) : aA (n : Int) = (n : Int) := by rw [gp] <;> omega
theorem wS (n : Nat) (h : n < 9223372036854775807) : aA ((n : Int) + 1) = ((n + 1 : Nat) : Int) := by rw [gp] <;> omega
theorem Jf {a b : Bool} (h1 : a = false) (h2 : b = false) : ¬ ((a || b) = true) := by rw [h1, h2]; decide
theorem Nr {a b : Bool} (h1 : a = true) : (a || b) = true := by rw [h1]; rfl
theorem JG {a b : Bool} (h1 : b = true) : (a || b) = true := by rw [h1, Bool.or_true]
theorem Gu {a b : Bool} (h1 : a = true) (h2 : b = true) : (a && b) = true := by rw [h1, h2]; rfl
theorem JH {a b : Bool} (h1 : a = false) : ¬ ((a && b) = true) := by rw [h1, Bool.false_and]; decide
theorem MK {a b : Bool} (h1 : b = false) : ¬ ((a && b) = true) := by rw [h1, Bool.and_false]; decide
theorem sQ {β : Type} [Inhabited β] {c : Bool} (o : Option β) (h : c = true) : kT c o = o := by rw [h]; rfl
theorem uO {β : Type} [Inhabited β] {c : Bool} (o : Option β) (h : c = false) : kT c o = some default := by rw [h]; rfl
theorem qK {β : Type} [Inhabited β] (o : Option β) : kT (!false) o = o := rfl
theorem CY {β : Type} [Inhabited β] (o : Option β) : kT (!true) o = some default := rfl
def dG (s : List UInt8) : Nat → Bool → List UInt8 → Nat × Bool
  | a, ok, [] => (a, ok)
  | a, ok, c :: t => if ok = true then (if s[a]? = some c then dG s (a + 1) true t else (a, false)) else (a, false)
theorem jw (s : List UInt8) : ∀ (t : List UInt8) (a : Nat) (ok : Bool), a ≤ s.length → (dG s a ok t).1 ≤ s.length
  | [], a, ok, h => h
  | c :: t, a, ok, h => by
    unfold dG
    split
    · split
      · rename_i h1
        obtain ⟨h2, _⟩ := List.getElem?_eq_some_iff.1 h1
        exact jw s t (a + 1) true h2
      · exact h
    · exact h
theorem uU (s : List UInt8) (a : Nat) (t : List UInt8) : dG s a false t = (a, false) := by
  cases t <;> rfl
section
variable (s : List UInt8) (hs : s.length ≤ 4194304)
include hs
theorem wP (t : List UInt8) (ht : t.length ≤ 100) (a : Nat) (ha : a ≤ s.length) (ok : Bool) : bF s (a : Int) ok t = some (s, ((dG s a ok t).1 : Int), (dG s a ok t).2) := by
  have key : ∀ (j i a : Nat), i + j = t.length → a ≤ s.length → aU (cZ s true t) ((a : Int), (i : Int)) = some (s, ((dG s a true (t.drop i)).1 : Int), (dG s a true (t.drop i)).2) := by
    intro j
    induction j with
    | zero =>
      intro i a hi ha
      rw [List.drop_eq_nil_of_le (by omega)]
      refine aC ?_
      unfold cZ
      dsimp only
      rw [if_neg (JH (decide_eq_false (by omega)))]
      rfl
    | succ j ih =>
      intro i a hi ha
      have hit : i < t.length := by omega
      rw [List.drop_eq_getElem_cons hit]
      by_cases hlt : a < s.length
      · have e1 : bZ s (a : Int) = some s[a] := bf hlt
        have e2 : bZ t (i : Int) = some t[i] := bf hit
        have d1 : decide ((s.length : Int) ≤ (a : Int)) = false := decide_eq_false (by omega)
        by_cases hc : s[a] = t[i]
        · rw [bD (s' := (((a + 1 : Nat) : Int), ((i + 1 : Nat) : Int))) (by
            unfold cZ
            dsimp only
            rw [if_pos (Gu (decide_eq_true (by omega)) rfl), d1, qK, qK, e1, e2, Option.bind_some, Option.bind_some, if_neg (Jf rfl (decide_eq_false (fun q => q hc))), wS a (by omega), wS i (by omega)])]
          rw [ih (i + 1) (a + 1) (by omega) (by omega)]
          conv => rhs; unfold dG
          rw [if_pos rfl, if_pos (by rw [List.getElem?_eq_getElem hlt, hc])]
        · rw [aC (r := (s, (a : Int), false)) (by
            unfold cZ
            dsimp only
            rw [if_pos (Gu (decide_eq_true (by omega)) rfl), d1, qK, qK, e1, e2, Option.bind_some, Option.bind_some, if_pos (JG (decide_eq_true hc))]
            rfl)]
          unfold dG
          rw [if_pos rfl, if_neg (by rw [List.getElem?_eq_getElem hlt]; exact fun q => hc (Option.some.inj q))]
      · have d1 : decide ((s.length : Int) ≤ (a : Int)) = true := decide_eq_true (by omega)
        rw [aC (r := (s, (a : Int), false)) (by
          unfold cZ
          dsimp only
          rw [if_pos (Gu (decide_eq_true (by omega)) rfl), d1, CY, CY, Option.bind_some, Option.bind_some, if_pos (Nr rfl)]
          rfl)]
        unfold dG
        rw [if_pos rfl, if_neg (by rw [List.getElem?_eq_none (by omega)]; exact fun q => by cases q)]
  unfold bF
  cases ok with
  | true => exact key t.length 0 a (by omega) ha
  | false =>
    rw [uU]
    refine aC ?_
    unfold cZ
    dsimp only
    rw [if_neg (MK rfl)]
    rfl
theorem wQ (t : List UInt8) (ht : t.length ≤ 100) (a : Nat) (ha : a ≤ s.length) (ok : Bool) : aZ s (a : Int) (!ok) t = some (s, ((dG s a ok t).1 : Int), !(dG s a ok t).2) := by
  have key : ∀ (j i a : Nat), i + j = t.length → a ≤ s.length → aU (bz s false t) ((a : Int), (i : Int)) = some (s, ((dG s a true (t.drop i)).1 : Int), !(dG s a true (t.drop i)).2) := by
    intro j
    induction j with
    | zero =>
      intro i a hi ha
      rw [List.drop_eq_nil_of_le (by omega)]
      refine aC ?_
      unfold bz
      dsimp only
      rw [if_neg (JH (decide_eq_false (by omega)))]
      rfl
    | succ j ih =>
      intro i a hi ha
      have hit : i < t.length := by omega
      rw [List.drop_eq_getElem_cons hit]
      by_cases hlt : a < s.length
      · have e1 : bZ s (a : Int) = some s[a] := bf hlt
        have e2 : bZ t (i : Int) = some t[i] := bf hit
        have d1 : decide ((s.length : Int) ≤ (a : Int)) = false := decide_eq_false (by omega)
        by_cases hc : s[a] = t[i]
        · rw [bD (s' := (((a + 1 : Nat) : Int), ((i + 1 : Nat) : Int))) (by
            unfold bz
            dsimp only
            rw [if_pos (Gu (b := !false) (decide_eq_true (by omega)) rfl), d1, qK, qK, e1, e2, Option.bind_some, Option.bind_some, if_neg (Jf rfl (decide_eq_false (fun q => q hc))), wS a (by omega), wS i (by omega)])]
          rw [ih (i + 1) (a + 1) (by omega) (by omega)]
          conv => rhs; unfold dG
          rw [if_pos rfl, if_pos (by rw [List.getElem?_eq_getElem hlt, hc])]
        · rw [aC (r := (s, (a : Int), true)) (by
            unfold bz
            dsimp only
            rw [if_pos (Gu (b := !false) (decide_eq_true (by omega)) rfl), d1, qK, qK, e1, e2, Option.bind_some, Option.bind_some, if_pos (JG (decide_eq_true hc))]
            rfl)]
          unfold dG
          rw [if_pos rfl, if_neg (by rw [List.getElem?_eq_getElem hlt]; exact fun q => hc (Option.some.inj q))]
          rfl
      · have d1 : decide ((s.length : Int) ≤ (a : Int)) = true := decide_eq_true (by omega)
        rw [aC (r := (s, (a : Int), true)) (by
          unfold bz
          dsimp only
          rw [if_pos (Gu (b := !false) (decide_eq_true (by omega)) rfl), d1, CY, CY, Option.bind_some, Option.bind_some, if_pos (Nr rfl)]
          rfl)]
        unfold dG
        rw [if_pos rfl, if_neg (by rw [List.getElem?_eq_none (by omega)]; exact fun q => by cases q)]
        rfl
  unfold aZ
  cases ok with
  | true => exact key t.length 0 a (by omega) ha
  | false =>
    rw [uU]
    refine aC ?_
    unfold bz
    dsimp only
    rw [if_neg (MK (b := !(!false)) rfl)]
    rfl
end
def sZ (c : UInt8) : Bool := decide (lt c < 64)
def kY (s : List UInt8) (a : Nat) (ok : Bool) : List UInt8 := if ok = true then (s.drop a).takeWhile sZ else []
theorem uV (s : List UInt8) (a : Nat) (ok : Bool) (ha : a ≤ s.length) : a + (kY s a ok).length ≤ s.length := by
  unfold kY
  split
  · have := (List.takeWhile_prefix (p := sZ) (l := s.drop a)).length_le
    rw [List.length_drop] at this
    omega
  · simpa using ha
end Go.Sx
namespace Go.Sx
open Go.RowKit
set_option linter.unusedVariables false
set_option linter.unusedSimpArgs false
theorem tZ (s : List UInt8) (a b : Nat) (h1 : a ≤ b) (h2 : b ≤ s.length) : uC s (a : Int) (b : Int) = some ((s.take b).drop a) := yJ ⟨by omega, by omega, by omega⟩
theorem Jg : ∀ c : UInt8, sZ c = ((((decide (0 ≤ yK ([43, 47] : List UInt8) c)) || ((decide ((48 : UInt8) ≤ c)) && (decide (c ≤ 57)))) || ((decide ((65 : UInt8) ≤ c)) && (decide (c ≤ 90)))) || ((decide ((97 : UInt8) ≤ c)) && (decide (c ≤ 122)))) := by
  intro c
  refine nK (p := fun c => sZ c = ((((decide (0 ≤ yK ([43, 47] : List UInt8) c)) || ((decide ((48 : UInt8) ≤ c)) && (decide (c ≤ 57)))) || ((decide ((65 : UInt8) ≤ c)) && (decide (c ≤ 90)))) || ((decide ((97 : UInt8) ≤ c)) && (decide (c ≤ 122))))) ?_ c
  decide +kernel
section
variable (s : List UInt8) (hs : s.length ≤ 4194304)
include hs
theorem zY (a p : Nat) (hp : p < s.length) : bK s (a : Int) true (p : Int) = if sZ s[p] = true then some (.inl ((p + 1 : Nat) : Int)) else Option.map Sum.inr ((uC s (a : Int) (p : Int)).bind fun t => some (t, (a : Int), s, (p : Int), true)) := by
  unfold bK
  dsimp only
  rw [if_pos (Gu rfl (decide_eq_true (by omega))), bf hp, Option.bind_some, show iF ([43, 47] : List UInt8) s[p] = some (yK [43, 47] s[p]) from rfl, Option.bind_some, wS p (by omega), Jg]
  generalize s[p] = c
  cases h1 : decide (0 ≤ yK ([43, 47] : List UInt8) c) with
  | true => rfl
  | false =>
    rw [qK, Option.bind_some, qK]
    cases h2 : decide ((48 : UInt8) ≤ c) with
    | false =>
      rw [show (kT false (some c)) = some default from rfl, Option.bind_some]
      rw [show (!(false || (false && decide ((default : UInt8) ≤ 57)))) = true from rfl, show (kT true (some c)) = some c from rfl, Option.bind_some]
      cases h4 : decide ((65 : UInt8) ≤ c) with
      | false =>
        rw [show kT true (kT false (some c)) = some default from rfl, Option.bind_some]
        rw [show (!((false || (false && decide ((default : UInt8) ≤ 57))) || (false && decide ((default : UInt8) ≤ 90)))) = true from rfl, show (kT true (some c)) = some c from rfl, Option.bind_some]
        cases h6 : decide ((97 : UInt8) ≤ c) with
        | false => rfl
        | true =>
          rw [show kT true (kT true (some c)) = some c from rfl, Option.bind_some]
          rfl
      | true =>
        rw [show kT true (kT true (some c)) = some c from rfl, Option.bind_some]
        cases h5 : decide (c ≤ 90) with
        | true => rfl
        | false =>
          rw [show (!((false || (false && decide ((default : UInt8) ≤ 57))) || (true && false))) = true from rfl, show (kT true (some c)) = some c from rfl, Option.bind_some]
          cases h6 : decide ((97 : UInt8) ≤ c) with
          | false => rfl
          | true =>
            rw [show kT true (kT true (some c)) = some c from rfl, Option.bind_some]
            rfl
    | true =>
      rw [show (kT true (some c)) = some c from rfl, Option.bind_some]
      cases h3 : decide (c ≤ 57) with
      | true => rfl
      | false =>
        rw [show (!(false || (true && false))) = true from rfl, show (kT true (some c)) = some c from rfl, Option.bind_some]
        cases h4 : decide ((65 : UInt8) ≤ c) with
        | false =>
          rw [show kT true (kT false (some c)) = some default from rfl, Option.bind_some]
          rw [show (!((false || (true && false)) || (false && decide ((default : UInt8) ≤ 90)))) = true from rfl, show (kT true (some c)) = some c from rfl, Option.bind_some]
          cases h6 : decide ((97 : UInt8) ≤ c) with
          | false => rfl
          | true =>
            rw [show kT true (kT true (some c)) = some c from rfl, Option.bind_some]
            rfl
        | true =>
          rw [show kT true (kT true (some c)) = some c from rfl, Option.bind_some]
          cases h5 : decide (c ≤ 90) with
          | true => rfl
          | false =>
            rw [show (!((false || (true && false)) || (true && false))) = true from rfl, show (kT true (some c)) = some c from rfl, Option.bind_some]
            cases h6 : decide ((97 : UInt8) ≤ c) with
            | false => rfl
            | true =>
              rw [show kT true (kT true (some c)) = some c from rfl, Option.bind_some]
omit hs in
theorem RS (a : Nat) (h : a ≤ s.length) : ((s.take (a + ((s.drop a).takeWhile sZ).length)).drop a) = (s.drop a).takeWhile sZ := by
  rw [List.drop_take]
  have h1 := (List.takeWhile_prefix (p := sZ) (l := s.drop a))
  have : a + ((s.drop a).takeWhile sZ).length - a = ((s.drop a).takeWhile sZ).length := by omega
  rw [this]
  exact (List.prefix_iff_eq_take.1 h1).symm
theorem JI (a : Nat) (ha : a ≤ s.length) (ok : Bool) : fA s (a : Int) ok = some (kY s a ok, (a : Int), s, ((a + (kY s a ok).length : Nat) : Int), ok) := by
  unfold fA kY
  cases ok with
  | true =>
    rw [if_pos rfl]
    have key : ∀ (j p : Nat), p + j = s.length → a ≤ p → aU (bK s (a : Int) true) (p : Int) = some (((s.take (p + ((s.drop p).takeWhile sZ).length)).drop a), (a : Int), s, ((p + ((s.drop p).takeWhile sZ).length : Nat) : Int), true) := by
      intro j
      induction j with
      | zero =>
        intro p hp hap
        obtain rfl : p = s.length := by omega
        rw [List.drop_length]
        refine aC ?_
        unfold bK
        dsimp only
        rw [if_neg (MK (decide_eq_false (by omega))), tZ s a s.length ha (by omega)]
        rfl
      | succ j ih =>
        intro p hp hap
        have hp' : p < s.length := by omega
        rw [List.drop_eq_getElem_cons hp']
        cases hb : sZ s[p] with
        | true =>
          rw [bD (by rw [zY s hs a p hp', hb]; rfl), ih (p + 1) (by omega) (by omega), List.takeWhile_cons, if_pos hb, List.length_cons, show p + 1 + ((s.drop (p + 1)).takeWhile sZ).length = p + (((s.drop (p + 1)).takeWhile sZ).length + 1) from by omega]
        | false =>
          rw [List.takeWhile_cons, if_neg (by rw [hb]; decide)]
          refine aC ?_
          rw [zY s hs a p hp', hb, if_neg (by decide), tZ s a p hap (by omega)]
          rfl
    rw [key (s.length - a) a (by omega) (Nat.le_refl _), RS s a ha]
  | false =>
    rw [if_neg (by decide)]
    refine aC ?_
    unfold bK
    dsimp only
    rw [if_neg (JH rfl), tZ s a a (Nat.le_refl _) ha]
    simp
theorem JJ (a : Nat) (ha : a ≤ s.length) (ok : Bool) : dD s (a : Int) (!ok) = some (kY s a ok, s, ((a + (kY s a ok).length : Nat) : Int), !ok) := by
  unfold dD kY
  cases ok with
  | true =>
    rw [if_pos rfl]
    have key : ∀ (j p : Nat), p + j = s.length → a ≤ p → aU (bg s (a : Int) (!true)) (p : Int) = some (((s.take (p + ((s.drop p).takeWhile sZ).length)).drop a), s, ((p + ((s.drop p).takeWhile sZ).length : Nat) : Int), !true) := by
      intro j
      induction j with
      | zero =>
        intro p hp hap
        obtain rfl : p = s.length := by omega
        rw [List.drop_length]
        refine aC ?_
        unfold bg
        dsimp only
        rw [if_neg (MK (decide_eq_false (by omega))), tZ s a s.length ha (by omega)]
        rfl
      | succ j ih =>
        intro p hp hap
        have hp' : p < s.length := by omega
        rw [List.drop_eq_getElem_cons hp']
        by_cases hb : lt s[p] < 64
        · have hB : sZ s[p] = true := decide_eq_true hb
          rw [bD (s' := ((p + 1 : Nat) : Int)) (by
            unfold bg
            dsimp only
            rw [if_pos (Gu (a := !(!true)) rfl (decide_eq_true (by omega))), bf hp', Option.bind_some, uS, if_pos hb, Option.bind_some, if_pos (by omega), wS p (by omega)])]
          rw [ih (p + 1) (by omega) (by omega), List.takeWhile_cons, if_pos hB, List.length_cons, show p + 1 + ((s.drop (p + 1)).takeWhile sZ).length = p + (((s.drop (p + 1)).takeWhile sZ).length + 1) from by omega]
        · have hB : sZ s[p] = false := decide_eq_false hb
          rw [List.takeWhile_cons, if_neg (by rw [hB]; decide)]
          refine aC ?_
          unfold bg
          dsimp only
          rw [if_pos (Gu (a := !(!true)) rfl (decide_eq_true (by omega))), bf hp', Option.bind_some, uS, if_neg hb, Option.bind_some, if_neg (by decide), tZ s a p hap (by omega)]
          rfl
    rw [key (s.length - a) a (by omega) (Nat.le_refl _), RS s a ha]
  | false =>
    rw [if_neg (by decide)]
    refine aC ?_
    unfold bg
    dsimp only
    rw [if_neg (JH (a := !(!false)) rfl), tZ s a a (Nat.le_refl _) ha]
    simp
end
end Go.Sx
namespace Go.Sx
open Go.RowKit
set_option linter.unusedVariables false
set_option linter.unusedSimpArgs false
def dv (c : UInt8) : UInt64 := UInt64.ofNat (c - 48).toNat
def wR (c : UInt8) : Bool := decide ((48 : UInt8) ≤ c) && decide (c ≤ 57)
def iL : List UInt8 → Bool → UInt64 → UInt64 × Nat × Bool
  | [], st, v => (v, 0, st)
  | c :: l, st, v => if wR c = true then (if ((st && decide (v = 0)) || decide (((18446744073709551615 : UInt64) - dv c) / 10 < v)) = true then (0, 0, false) else ((iL l true (10 * v + dv c)).1, (iL l true (10 * v + dv c)).2.1 + 1, (iL l true (10 * v + dv c)).2.2)) else (v, 0, st)
theorem CZ : ∀ (l : List UInt8) (st : Bool) (v : UInt64), (iL l st v).2.1 ≤ l.length
  | [], st, v => Nat.le_refl _
  | c :: l, st, v => by
    unfold iL
    split
    · split
      · exact Nat.zero_le _
      · have := CZ l true (10 * v + dv c)
        simp only [List.length_cons]
        omega
    · exact Nat.zero_le _
def dN (s : List UInt8) (a : Nat) (ok : Bool) : UInt64 × Nat × Bool := if ok = true then ((iL (s.drop a) false 0).1, a + (iL (s.drop a) false 0).2.1, (iL (s.drop a) false 0).2.2) else (0, a, false)
theorem mP (s : List UInt8) (a : Nat) (ok : Bool) (ha : a ≤ s.length) : (dN s a ok).2.1 ≤ s.length := by
  unfold dN
  split
  · have := CZ (s.drop a) false 0
    rw [List.length_drop] at this
    show a + _ ≤ _
    omega
  · exact ha
theorem zZ (c : UInt8) (h : wR c = true) : (dv c).toNat ≤ 9 := by
  have key : ∀ n : Nat, n < 256 → wR (UInt8.ofNat n) = true → (dv (UInt8.ofNat n)).toNat ≤ 9 := by decide +kernel
  have := nK (p := fun c => wR c = true → (dv c).toNat ≤ 9) key c
  exact this h
theorem Gv (v : UInt64) (c : UInt8) (h : wR c = true) (hv : ¬ ((18446744073709551615 : UInt64) - dv c) / 10 < v) : (10 * v + dv c).toNat = 10 * v.toNat + (dv c).toNat := by
  have h9 := zZ c h
  have hs : ((18446744073709551615 : UInt64) - dv c).toNat = 18446744073709551615 - (dv c).toNat := by
    rw [UInt64.toNat_sub_of_le _ _ (UInt64.le_iff_toNat_le.2 (by show (dv c).toNat ≤ 18446744073709551615; omega))]; rfl
  have hd : (((18446744073709551615 : UInt64) - dv c) / 10).toNat = (18446744073709551615 - (dv c).toNat) / 10 := by
    rw [UInt64.toNat_div, hs]; rfl
  have hle : v.toNat ≤ (18446744073709551615 - (dv c).toNat) / 10 := by
    rcases Nat.lt_or_ge ((18446744073709551615 - (dv c).toNat) / 10) v.toNat with q | q
    · exact absurd (UInt64.lt_iff_toNat_lt.2 (by rw [hd]; exact q)) hv
    · exact q
  rw [UInt64.toNat_add, UInt64.toNat_mul, show (10 : UInt64).toNat = 10 from rfl]
  omega
section
variable (s : List UInt8) (hs : s.length ≤ 4194304)
include hs
theorem z_ (a : Nat) (ha : a ≤ s.length) (ok : Bool) : df s (a : Int) ok = some ((dN s a ok).1, s, ((dN s a ok).2.1 : Int), (dN s a ok).2.2) := by
  have key : ∀ (j p : Nat) (v : UInt64), p + j = s.length → a ≤ p → aU (bH s (a : Int)) ((p : Int), v) = some ((iL (s.drop p) (decide (a < p)) v).1, s, ((p + (iL (s.drop p) (decide (a < p)) v).2.1 : Nat) : Int), (iL (s.drop p) (decide (a < p)) v).2.2) := by
    intro j
    induction j with
    | zero =>
      intro p v hp hap
      obtain rfl : p = s.length := by omega
      rw [List.drop_length]
      refine aC ?_
      unfold bH
      dsimp only
      have d1 : decide ((s.length : Int) < (s.length : Int)) = false := decide_eq_false (by omega)
      rw [d1, uO _ rfl, Option.bind_some, Bool.false_and, uO _ rfl, Option.bind_some, if_neg (by decide)]
      rw [show decide ((a : Int) < (s.length : Int)) = decide (a < s.length) from decide_eq_decide.2 (by omega)]
      rfl
    | succ j ih =>
      intro p v hp hap
      have hp' : p < s.length := by omega
      rw [List.drop_eq_getElem_cons hp']
      have d1 : decide ((p : Int) < (s.length : Int)) = true := decide_eq_true (by omega)
      have d2 : decide ((a : Int) < (p : Int)) = decide (a < p) := decide_eq_decide.2 (by omega)
      have stepD : wR s[p] = true → bH s (a : Int) ((p : Int), v) = if ((decide (a < p) && decide (v = 0)) || decide (((18446744073709551615 : UInt64) - dv s[p]) / 10 < v)) = true then some (.inr (0, s, (p : Int), false)) else some (.inl (((p + 1 : Nat) : Int), 10 * v + dv s[p])) := by
        intro hD
        unfold wR at hD
        rw [Bool.and_eq_true] at hD
        unfold bH
        dsimp only
        rw [d1, sQ _ rfl, bf hp', Option.bind_some, hD.1, sQ (c := true && true) _ rfl, Option.bind_some, hD.2, if_pos (by rfl), Option.bind_some, d2, wS p (by omega)]
        rfl
      have Oq : wR s[p] = false → bH s (a : Int) ((p : Int), v) = some (.inr (v, s, (p : Int), decide (a < p))) := by
        intro hD
        unfold wR at hD
        unfold bH
        dsimp only
        rw [d1, sQ _ rfl, bf hp', Option.bind_some, d2]
        cases h1 : decide ((48 : UInt8) ≤ s[p]) with
        | false =>
          rw [uO (c := true && false) _ rfl, Option.bind_some, if_neg (JH (a := true && false) rfl)]
          rfl
        | true =>
          rw [sQ (c := true && true) _ rfl, Option.bind_some]
          rw [h1, Bool.true_and] at hD
          rw [if_neg (MK hD)]
          rfl
      cases hD : wR s[p] with
      | false =>
        rw [aC (Oq hD)]
        conv => rhs; unfold iL
        rw [hD]
        rfl
      | true =>
        unfold iL
        rw [if_pos hD]
        by_cases hc : ((decide (a < p) && decide (v = 0)) || decide (((18446744073709551615 : UInt64) - dv s[p]) / 10 < v)) = true
        · rw [aC ((stepD hD).trans (if_pos hc)), if_pos hc]
          rfl
        · rw [bD ((stepD hD).trans (if_neg hc)), if_neg hc, ih (p + 1) _ (by omega) (by omega), show decide (a < p + 1) = true from decide_eq_true (by omega)]
          dsimp only
          rw [show p + 1 + (iL (s.drop (p + 1)) true (10 * v + dv s[p])).2.1 = p + ((iL (s.drop (p + 1)) true (10 * v + dv s[p])).2.1 + 1) from by omega]
  unfold df dN
  cases ok with
  | false => rfl
  | true =>
    rw [if_neg (by decide), if_pos rfl, key (s.length - a) a 0 (by omega) (Nat.le_refl _), show decide (a < a) = false from decide_eq_false (by omega)]
theorem C9 (a : Nat) (ha : a ≤ s.length) (ok : Bool) : b_ s (a : Int) (!ok) = some ((dN s a ok).1, s, ((dN s a ok).2.1 : Int), !(dN s a ok).2.2) := by
  have key : ∀ (c1 : UInt8) (j p : Nat) (v : UInt64), p + j = s.length → (v = 0 ↔ dv c1 = 0) → aU (bW s false c1) ((p : Int), v) = some ((iL (s.drop p) true v).1, s, ((p + (iL (s.drop p) true v).2.1 : Nat) : Int), !(iL (s.drop p) true v).2.2) := by
    intro c1 j
    induction j with
    | zero =>
      intro p v hp hz
      obtain rfl : p = s.length := by omega
      rw [List.drop_length]
      refine aC ?_
      unfold bW
      dsimp only
      rw [if_neg (by omega)]
      rfl
    | succ j ih =>
      intro p v hp hz
      have hp' : p < s.length := by omega
      rw [List.drop_eq_getElem_cons hp']
      have dz : decide (UInt64.ofNat (c1 - 48).toNat = 0) = decide (v = 0) := decide_eq_decide.2 ⟨fun q => hz.2 q, fun q => hz.1 q⟩
      have step : bW s false c1 ((p : Int), v) = if wR s[p] = true then (if ((true && decide (v = 0)) || decide (((18446744073709551615 : UInt64) - dv s[p]) / 10 < v)) = true then some (.inr (0, s, (p : Int), true)) else some (.inl (((p + 1 : Nat) : Int), 10 * v + dv s[p]))) else some (.inr (v, s, (p : Int), false)) := by
        unfold bW
        dsimp only
        rw [if_pos (by omega), bf hp', Option.bind_some, show gW s[p] = some (wR s[p]) from rfl, Option.bind_some, dz, Option.bind_some, wS p (by omega), Bool.true_and]
        rfl
      cases hD : wR s[p] with
      | false =>
        rw [aC (step.trans (by rw [hD]; rfl))]
        conv => rhs; unfold iL
        rw [hD]
        rfl
      | true =>
        unfold iL
        rw [if_pos hD]
        rw [if_pos hD] at step
        by_cases hc : ((true && decide (v = 0)) || decide (((18446744073709551615 : UInt64) - dv s[p]) / 10 < v)) = true
        · rw [aC (step.trans (if_pos hc)), if_pos hc]
          rfl
        · have hv0 : ¬ v = 0 := fun q => hc (by rw [decide_eq_true q]; rfl)
          have hvl : ¬ ((18446744073709551615 : UInt64) - dv s[p]) / 10 < v := fun q => hc (by rw [decide_eq_true q, Bool.or_true])
          have hin := Gv v s[p] hD hvl
          rw [bD (step.trans (if_neg hc)), if_neg hc, ih (p + 1) _ (by omega) ⟨fun q => by
            rw [q] at hin
            have e0 : (0 : UInt64).toNat = 0 := rfl
            exact absurd (UInt64.toNat_inj.1 (by omega : v.toNat = (0 : UInt64).toNat)) hv0, fun q => absurd (hz.2 q) hv0⟩]
          dsimp only
          rw [show p + 1 + (iL (s.drop (p + 1)) true (10 * v + dv s[p])).2.1 = p + ((iL (s.drop (p + 1)) true (10 * v + dv s[p])).2.1 + 1) from by omega]
  unfold b_ dN
  cases ok with
  | false => rfl
  | true =>
    rw [if_pos (rfl : true = true)]
    by_cases hlt : a < s.length
    · rw [if_neg (Jf (a := !true) rfl (decide_eq_false (by omega))), bf hlt, Option.bind_some, show gW s[a] = some (wR s[a]) from rfl, Option.bind_some, Option.bind_some, wS a (by omega), List.drop_eq_getElem_cons hlt]
      cases hD : wR s[a] with
      | false =>
        rw [if_pos (by rfl)]
        unfold iL
        rw [hD]
        rfl
      | true =>
        rw [if_neg (by decide), show (!true) = false from rfl]
        have h9 := zZ s[a] hD
        have hc : ¬ ((false && decide ((0 : UInt64) = 0)) || decide (((18446744073709551615 : UInt64) - dv s[a]) / 10 < 0)) = true := by
          rw [decide_eq_false (p := ((18446744073709551615 : UInt64) - dv s[a]) / 10 < 0) (fun q => by have := UInt64.lt_iff_toNat_lt.1 q; have e0 : (0 : UInt64).toNat = 0 := rfl; omega)]
          decide
        have e1 : 10 * (0 : UInt64) + dv s[a] = dv s[a] := by simp
        have hk := key s[a] (s.length - (a + 1)) (a + 1) (dv s[a]) (by omega) Iff.rfl
        unfold iL
        rw [if_pos hD, if_neg hc, e1]
        dsimp only
        rw [show a + ((iL (s.drop (a + 1)) true (dv s[a])).2.1 + 1) = a + 1 + (iL (s.drop (a + 1)) true (dv s[a])).2.1 from by omega]
        exact hk
    · rw [if_pos (JG (decide_eq_true (by omega))), List.drop_eq_nil_of_le (by omega)]
      rfl
end
end Go.Sx
namespace Go.Sx
open Go.RowKit
set_option linter.unusedVariables false
set_option linter.unusedSimpArgs false
def t_ (K M P L T : Int) : Prop := (0 ≤ K ∧ K ≤ 2) ∧ (1 ≤ L ∧ L ≤ 8) ∧ (1 ≤ P ∧ P ≤ 16) ∧ (4 ≤ T ∧ T ≤ 1024) ∧ (8 * L ≤ M ∧ M ≤ 4096)
instance (K M P L T : Int) : Decidable (t_ K M P L T) := by unfold t_; infer_instance
def n_ (K M P L T : Int) (n : Nat) : Int := if t_ K M P L T then (if n < 8 ∨ 64 < n then 201 else 0) else 200
theorem Gw (M L : Int) (r : List (Int × Int × Int)) (hr : r.length ≤ 100) : ∀ (j i : Nat), i + j = r.length → aU (gq M L r) (i : Int) = some ((r.drop i).all (fun x => decide (x.2.1 ≤ x.1 ∧ x.1 ≤ x.2.2)) && decide (aA (8 * L) ≤ M)) := by
  intro j
  induction j with
  | zero =>
    intro i hi
    rw [List.drop_eq_nil_of_le (by omega)]
    refine aC ?_
    unfold gq
    dsimp only
    rw [if_neg (by omega)]
    rfl
  | succ j ih =>
    intro i hi
    have hi' : i < r.length := by omega
    rw [List.drop_eq_getElem_cons hi', List.all_cons]
    by_cases hb : r[i].2.1 ≤ r[i].1 ∧ r[i].1 ≤ r[i].2.2
    · rw [bD (s' := ((i + 1 : Nat) : Int)) (by
        unfold gq
        dsimp only
        rw [if_pos (by omega), bf hi', Option.bind_some, if_neg (Jf (decide_eq_false (by omega)) (decide_eq_false (by omega))), wS i (by omega)])]
      rw [ih (i + 1) (by omega), decide_eq_true hb, Bool.true_and]
    · rw [decide_eq_false hb, Bool.false_and, Bool.false_and]
      refine aC ?_
      unfold gq
      dsimp only
      rw [if_pos (by omega), bf hi', Option.bind_some, if_pos (by
        by_cases h1 : r[i].1 < r[i].2.1
        · exact Nr (decide_eq_true h1)
        · exact JG (decide_eq_true (by omega)))]
      rfl
theorem ML (K M P L T : Int) : lh K M P L T = some (decide (t_ K M P L T)) := by
  unfold lh kG
  rw [Option.bind_some]
  refine (Gw M L [(K, 0, 2), (L, 1, 8), (P, 1, 16), (T, 4, 1024), (M, 8, 4096)] (by simp) 5 0 rfl).trans ?_
  congr 1
  rw [List.drop_zero]
  simp only [List.all_cons, List.all_nil, Bool.and_true]
  unfold t_
  by_cases hL : 1 ≤ L ∧ L ≤ 8
  · rw [show aA (8 * L) = 8 * L from by rw [gp] <;> omega]
    rw [← Bool.decide_and, ← Bool.decide_and, ← Bool.decide_and, ← Bool.decide_and, ← Bool.decide_and]
    exact decide_eq_decide.2 (by omega)
  · rw [decide_eq_false (p := ((1 : Int) ≤ L ∧ L ≤ 8)) hL, Bool.false_and, Bool.and_false, Bool.false_and]
    exact (decide_eq_false (by omega)).symm
theorem Gx (K M P L T : Int) (iq : List UInt8) : jl K M P L T iq = some (n_ K M P L T iq.length) := by
  unfold jl n_
  rw [ML, Option.bind_some]
  by_cases h : t_ K M P L T
  · rw [decide_eq_true h, if_neg (by decide), if_pos h]
    by_cases h2 : iq.length < 8 ∨ 64 < iq.length
    · rw [if_pos h2, if_pos (by
        rcases h2 with q | q
        · exact Nr (decide_eq_true (by omega))
        · exact JG (decide_eq_true (by omega)))]
    · rw [if_neg h2, if_neg (Jf (decide_eq_false (by omega)) (decide_eq_false (by omega)))]
  · rw [decide_eq_false h, if_pos (by decide), if_neg h]
theorem Gy (K M P L T : Int) (iq : List UInt8) : j_ K M P L T iq = some (n_ K M P L T iq.length) := by
  have hv : lq K M P L T = some (if t_ K M P L T then 0 else 200) := by
    unfold lq
    by_cases h : t_ K M P L T
    · rw [if_pos h]
      unfold t_ at h
      rw [show aA (8 * L) = 8 * L from by rw [gp] <;> omega]
      rw [if_neg (by simp only [Bool.or_eq_true, decide_eq_true_eq]; omega)]
    · rw [if_neg h]
      unfold t_ at h
      by_cases hL : 1 ≤ L ∧ L ≤ 8
      · rw [show aA (8 * L) = 8 * L from by rw [gp] <;> omega]
        rw [if_pos (by simp only [Bool.or_eq_true, decide_eq_true_eq]; omega)]
      · rw [if_pos (by simp only [Bool.or_eq_true, decide_eq_true_eq]; omega)]
  unfold j_ n_
  rw [hv, Option.bind_some]
  by_cases h : t_ K M P L T
  · rw [if_pos h, if_neg (by decide), if_pos h]
    by_cases h2 : iq.length < 8 ∨ 64 < iq.length
    · rw [if_pos h2, if_pos (by
        rcases h2 with q | q
        · exact Nr (decide_eq_true (by omega))
        · exact JG (decide_eq_true (by omega)))]
    · rw [if_neg h2, if_neg (Jf (decide_eq_false (by omega)) (decide_eq_false (by omega)))]
  · rw [if_neg h, if_pos (by decide), if_neg h]
theorem MM (K M P L T : Int) (iq sum : List UInt8) : kH K M P L T iq sum = some (if n_ K M P L T iq.length ≠ 0 then n_ K M P L T iq.length else if ((sum.length : Nat) : Int) ≠ T then 1 else 0) := by
  unfold kH
  rw [Gx, Option.bind_some]
  split
  · rfl
  · split <;> rfl
theorem Jh (n : Nat) : Lib.itoa (n : Int) = Lib.decDigits n := by
  unfold Lib.itoa
  rw [if_neg (by omega)]
  rfl
def OQ (K : Int) : List UInt8 := if K = 0 then [100] else if K = 1 then [105] else [105, 100]
def textS (K : Int) (M P L : Nat) (iq sum : List UInt8) : List UInt8 :=
  ((((((((((([36, 97, 114, 103, 111, 110, 50] : List UInt8) ++ OQ K) ++ ([36, 118, 61, 49, 57, 36, 109, 61] : List UInt8)) ++ Lib.decDigits M) ++ ([44, 116, 61] : List UInt8)) ++ Lib.decDigits P) ++ ([44, 112, 61] : List UInt8)) ++ Lib.decDigits L) ++ ([36] : List UInt8)) ++ enc iq) ++ ([36] : List UInt8)) ++ enc sum
def BH (K M P L T : Int) (iq sum : List UInt8) : List UInt8 × Int := if n_ K M P L T iq.length ≠ 0 then ([], n_ K M P L T iq.length) else if ((sum.length : Nat) : Int) ≠ T then ([], 1) else (textS K M.toNat P.toNat L.toNat iq sum, 0)
theorem QY {K M P L T : Int} {n : Nat} (h : n_ K M P L T n = 0) : t_ K M P L T ∧ 8 ≤ n ∧ n ≤ 64 := by
  unfold n_ at h
  split at h
  · split at h
    · cases h
    · exact ⟨by assumption, by omega, by omega⟩
  · cases h
end Go.Sx
namespace Go.Sx
open Go.RowKit
set_option linter.unusedVariables false
set_option linter.unusedSimpArgs false
theorem Ot (l : List UInt8) (hl : l.length ≤ 4194304) : bM l ([105, 100] : List UInt8) = some (decide (l[0]? = some 105 ∧ l[1]? = some 100)) := by
  unfold bM bG
  match l, hl with
  | [], _ => rfl
  | [x], _ => 
    rw [show decide (((([105, 100] : List UInt8).length : Nat) : Int) ≤ (([x].length : Nat) : Int)) = false from rfl, uO _ rfl, Option.bind_some, Option.bind_some]
    congr 1
    exact (decide_eq_false (fun q => by cases q.2)).symm
  | x :: y :: r, hl =>
    have hd : decide (((([105, 100] : List UInt8).length : Nat) : Int) ≤ (((x :: y :: r).length : Nat) : Int)) = true := decide_eq_true (by simp only [List.length_cons, List.length_nil]; omega)
    rw [hd, sQ _ rfl, show uC (x :: y :: r) 0 ((([105, 100] : List UInt8).length : Nat) : Int) = some [x, y] from by rw [yJ ⟨by omega, by simp, by simp only [List.length_cons, List.length_nil]; omega⟩]; rfl, Option.bind_some, Option.bind_some, Bool.true_and]
    congr 1
    refine decide_eq_decide.2 ⟨fun q => ?_, fun q => ?_⟩
    · injection q with q1 q2
      injection q2 with q3 q4
      exact ⟨by rw [← q1]; rfl, by rw [← q3]; rfl⟩
    · have q1 := Option.some.inj q.1
      have q2 := Option.some.inj q.2
      rw [q1, q2]
theorem JK (l : List UInt8) (hl : l.length ≤ 4194304) : bM l ([105] : List UInt8) = some (decide (l[0]? = some 105)) := by
  unfold bM bG
  match l, hl with
  | [], _ => rfl
  | x :: r, hl =>
    have hd : decide (((([105] : List UInt8).length : Nat) : Int) ≤ (((x :: r).length : Nat) : Int)) = true := decide_eq_true (by simp only [List.length_cons, List.length_nil]; omega)
    rw [hd, sQ _ rfl, show uC (x :: r) 0 ((([105] : List UInt8).length : Nat) : Int) = some [x] from by rw [yJ ⟨by omega, by simp, by simp only [List.length_cons, List.length_nil]; omega⟩]; rfl, Option.bind_some, Option.bind_some, Bool.true_and]
    congr 1
    refine decide_eq_decide.2 ⟨fun q => ?_, fun q => ?_⟩
    · injection q with q1 q2
      rw [← q1]; rfl
    · have q1 := Option.some.inj q
      rw [q1]
def kC (s : List UInt8) (a : Nat) (ok : Bool) : Int × Nat × Bool :=
  if ok = true then (if s[a]? = some 105 then (if s[a + 1]? = some 100 then (2, a + 2, true) else (1, a + 1, true)) else if s[a]? = some 100 then (0, a + 1, true) else (0, a, false)) else (0, a, false)
theorem Aa (s : List UInt8) (a : Nat) (ok : Bool) (ha : a ≤ s.length) : (kC s a ok).2.1 ≤ s.length := by
  unfold kC
  split
  · split
    · rename_i h
      obtain ⟨h2, _⟩ := List.getElem?_eq_some_iff.1 h
      split
      · rename_i h
        obtain ⟨h3, _⟩ := List.getElem?_eq_some_iff.1 h
        show a + 2 ≤ _; omega
      · show a + 1 ≤ _; omega
    · split
      · rename_i h
        obtain ⟨h3, _⟩ := List.getElem?_eq_some_iff.1 h
        show a + 1 ≤ _; omega
      · exact ha
  · exact ha
section
variable (s : List UInt8) (hs : s.length ≤ 4194304)
include hs
theorem MN (a : Nat) (ha : a ≤ s.length) (ok : Bool) : ∃ k', gz s (a : Int) (!ok) = some (k', s, ((kC s a ok).2.1 : Int), !(kC s a ok).2.2) ∧ ((kC s a ok).2.2 = true → k' = (kC s a ok).1) := by
  unfold gz
  cases ok with
  | false => exact ⟨0, rfl, fun q => by cases q⟩
  | true =>
    unfold kC
    rw [if_pos (rfl : true = true)]
    by_cases hlt : a < s.length
    · rw [if_neg (Jf (a := !true) rfl (decide_eq_false (by omega))), bf hlt, Option.bind_some, List.getElem?_eq_getElem hlt]
      by_cases qy : s[a] = 100
      · rw [if_pos qy, if_neg (by rw [qy]; decide), if_pos (by rw [qy]), wS a (by omega)]
        exact ⟨0, rfl, fun _ => rfl⟩
      · have hl := wQ s hs ([105] : List UInt8) (by decide) a ha true
        rw [if_neg qy, hl, Option.bind_some]
        by_cases uf : s[a] = 105
        · have e : dG s a true [105] = (a + 1, true) := by
            unfold dG
            rw [if_pos rfl, if_pos (by rw [List.getElem?_eq_getElem hlt, uf])]
            rfl
          rw [e, if_pos (by rw [uf])]
          dsimp only
          by_cases hlt2 : a + 1 < s.length
          · have d1 : decide (((a + 1 : Nat) : Int) < (s.length : Int)) = true := decide_eq_true (by omega)
            rw [d1, sQ (c := (!!true) && true) _ rfl, bf hlt2, Option.bind_some, List.getElem?_eq_getElem hlt2]
            by_cases h : s[a + 1] = 100
            · rw [if_pos (Gu (a := (!!true) && true) rfl (decide_eq_true h)), if_pos (by rw [h]), wS (a + 1) (by omega)]
              exact ⟨2, rfl, fun _ => rfl⟩
            · rw [if_neg (MK (decide_eq_false h)), if_neg (fun q => h (Option.some.inj q))]
              exact ⟨1, rfl, fun _ => rfl⟩
          · have d1 : decide (((a + 1 : Nat) : Int) < (s.length : Int)) = false := decide_eq_false (by omega)
            rw [d1, uO (c := (!!true) && false) _ rfl, Option.bind_some, if_neg (JH (a := (!!true) && false) rfl), List.getElem?_eq_none (by omega), if_neg (fun q => by cases q)]
            exact ⟨1, rfl, fun _ => rfl⟩
        · have e : dG s a true [105] = (a, false) := by
            unfold dG
            rw [if_pos rfl, if_neg (by rw [List.getElem?_eq_getElem hlt]; exact fun q => uf (Option.some.inj q))]
          rw [e, if_neg (fun q => uf (Option.some.inj q)), if_neg (fun q => qy (Option.some.inj q))]
          dsimp only
          rw [uO (c := (!!false) && _) _ rfl, Option.bind_some, if_neg (JH (a := (!!false) && _) rfl)]
          exact ⟨1, rfl, fun q => by cases q⟩
    · rw [if_pos (JG (decide_eq_true (by omega))), List.getElem?_eq_none (by omega), if_neg (fun q => by cases q), if_neg (fun q => by cases q)]
      exact ⟨0, rfl, fun q => by cases q⟩
theorem Ji : iZ s = bP s s ((kC s (dG s 0 true [36, 97, 114, 103, 111, 110, 50]).1 (dG s 0 true [36, 97, 114, 103, 111, 110, 50]).2).2.1 : Int) (kC s (dG s 0 true [36, 97, 114, 103, 111, 110, 50]).1 (dG s 0 true [36, 97, 114, 103, 111, 110, 50]).2).2.2 (kC s (dG s 0 true [36, 97, 114, 103, 111, 110, 50]).1 (dG s 0 true [36, 97, 114, 103, 111, 110, 50]).2).1 := by
  have h1 := wP s hs ([36, 97, 114, 103, 111, 110, 50] : List UInt8) (by decide) 0 (by omega) true
  have hle := jw s [36, 97, 114, 103, 111, 110, 50] 0 true (by omega)
  unfold iZ
  rw [show (0 : Int) = ((0 : Nat) : Int) from rfl, h1, Option.bind_some]
  generalize dG s 0 true [36, 97, 114, 103, 111, 110, 50] = x at hle ⊢
  obtain ⟨a, ok⟩ := x
  dsimp only at hle ⊢
  have hd : uC s (a : Int) (s.length : Int) = some (s.drop a) := by rw [tZ s a s.length hle (Nat.le_refl _), List.take_length]
  have hdl : (s.drop a).length ≤ 4194304 := by rw [List.length_drop]; omega
  have g0 : (s.drop a)[0]? = s[a]? := by rw [List.getElem?_drop, Nat.add_zero]
  have g1 : (s.drop a)[1]? = s[a + 1]? := by rw [List.getElem?_drop]
  have Ou := wP s hs ([100] : List UInt8) (by decide) a hle ok
  cases ok with
  | false =>
    rw [if_neg (by decide), if_neg (by decide), Ou, Option.bind_some, uU]
    rfl
  | true =>
    rw [if_pos rfl, hd, Option.bind_some, Ot _ hdl, Option.bind_some, g0, g1]
    unfold kC
    rw [if_pos rfl]
    by_cases uf : s[a]? = some 105
    · obtain ⟨hl1, _⟩ := List.getElem?_eq_some_iff.1 uf
      by_cases qy : s[a + 1]? = some 100
      · obtain ⟨hl2, _⟩ := List.getElem?_eq_some_iff.1 qy
        rw [if_pos (decide_eq_true ⟨uf, qy⟩), if_pos uf, if_pos qy, show aA ((a : Int) + 2) = ((a + 2 : Nat) : Int) from by rw [gp] <;> omega]
        rfl
      · rw [if_neg (by rw [decide_eq_false (fun q => qy q.2)]; decide), if_pos rfl, Option.bind_some, JK _ hdl, Option.bind_some, g0, if_pos (decide_eq_true uf), if_pos uf, if_neg qy, wS a (by omega)]
    · rw [if_neg (by rw [decide_eq_false (fun q => uf q.1)]; decide), if_pos rfl, Option.bind_some, JK _ hdl, Option.bind_some, g0, if_neg (by rw [decide_eq_false uf]; decide), Ou, Option.bind_some, if_neg uf]
      unfold dG
      rw [if_pos rfl]
      by_cases qy : s[a]? = some 100
      · rw [if_pos qy, if_pos qy]
        rfl
      · rw [if_neg qy, if_neg qy]
        rfl
end
end Go.Sx
namespace Go.Sx
open Go.RowKit
set_option linter.unusedVariables false
set_option linter.unusedSimpArgs false
def wX (v : UInt64) : Int := if (9223372036854775807 : UInt64) < v then -1 else aA (v.toNat : Int)
theorem MO (v : UInt64) : iV v = some (wX v) := by
  unfold iV wX
  split <;> rfl
theorem MP (v : UInt64) : jC v = some (wX v) := by
  unfold jC wX
  split <;> rfl
def Ac (s : List UInt8) (k w1 w2 w3 : Int) (p4 : Nat) (t1 : List UInt8) (p5 : Nat) (t2 : List UInt8) (p6 : Nat) (ok : Bool) : Int × Int × Int × Int × Int × List UInt8 × List UInt8 × Int × Int :=
  if ((!ok) || (decide ((p6 : Int) < (s.length : Int)))) = true then (0, 0, 0, 0, 0, [], [], (p6 : Int), 4)
  else if (iE t1).2.2 ≠ 0 then (0, 0, 0, 0, 0, [], [], (p4 : Int), 4)
  else if (iE t2).2.2 ≠ 0 then (0, 0, 0, 0, 0, [], [], (p5 : Int), 4)
  else if n_ k w1 w2 w3 (((iE t2).1.length : Nat) : Int) (iE t1).1.length ≠ 0 then (0, 0, 0, 0, 0, [], [], 0, 1)
  else (k, w1, w2, w3, (((iE t2).1.length : Nat) : Int), (iE t1).1, (iE t2).1, 0, 0)
def Gz (s : List UInt8) (k : Int) (a : Nat) (ok : Bool) : Int × Int × Int × Int × Int × List UInt8 × List UInt8 × Int × Int :=
  let x1 := dG s a ok [36, 118, 61, 49, 57, 36, 109, 61]
  let n1 := dN s x1.1 x1.2
  let x2 := dG s n1.2.1 n1.2.2 [44, 116, 61]
  let n2 := dN s x2.1 x2.2
  let x3 := dG s n2.2.1 n2.2.2 [44, 112, 61]
  let n3 := dN s x3.1 x3.2
  let x4 := dG s n3.2.1 n3.2.2 [36]
  let t1 := kY s x4.1 x4.2
  let x5 := dG s (x4.1 + t1.length) x4.2 [36]
  let t2 := kY s x5.1 x5.2
  Ac s k (wX n1.1) (wX n2.1) (wX n3.1) x4.1 t1 x5.1 t2 (x5.1 + t2.length) x5.2
theorem sS (s : List UInt8) (a : Nat) (t : List UInt8) (ok : Bool) (h : (dG s a ok t).2 = true) : ok = true := by
  cases ok with
  | true => rfl
  | false => rw [uU] at h; exact h
theorem uX (s : List UInt8) (a : Nat) (ok : Bool) (h : (dN s a ok).2.2 = true) : ok = true := by
  cases ok with
  | true => rfl
  | false => exact h
def iM (s : List UInt8) : Int × Int × Int × Int × Int × List UInt8 × List UInt8 × Int × Int :=
  Gz s (kC s (dG s 0 true [36, 97, 114, 103, 111, 110, 50]).1 (dG s 0 true [36, 97, 114, 103, 111, 110, 50]).2).1 (kC s (dG s 0 true [36, 97, 114, 103, 111, 110, 50]).1 (dG s 0 true [36, 97, 114, 103, 111, 110, 50]).2).2.1 (kC s (dG s 0 true [36, 97, 114, 103, 111, 110, 50]).1 (dG s 0 true [36, 97, 114, 103, 111, 110, 50]).2).2.2
section
variable (s : List UInt8) (hs : s.length ≤ 4194304)
include hs
theorem uY (a : Nat) (ok : Bool) : (kY s a ok).length ≤ 4194304 := by
  unfold kY
  split
  · have := (List.takeWhile_prefix (p := sZ) (l := s.drop a)).length_le
    rw [List.length_drop] at this
    omega
  · exact Nat.zero_le _
theorem Ov (k : Int) (a : Nat) (ha : a ≤ s.length) (ok : Bool) : bP s s (a : Int) ok k = some (Gz s k a ok) := by
  unfold bP Gz
  dsimp only
  rw [wP s hs _ (by decide) a ha ok, Option.bind_some]
  have h1 := jw s [36, 118, 61, 49, 57, 36, 109, 61] a ok ha
  generalize dG s a ok [36, 118, 61, 49, 57, 36, 109, 61] = x1 at h1 ⊢
  dsimp only
  rw [z_ s hs x1.1 h1 x1.2, Option.bind_some]
  have h2 := mP s x1.1 x1.2 h1
  generalize dN s x1.1 x1.2 = n1 at h2 ⊢
  dsimp only
  rw [MO, Option.bind_some, wP s hs _ (by decide) n1.2.1 h2 n1.2.2, Option.bind_some]
  have h3 := jw s [44, 116, 61] n1.2.1 n1.2.2 h2
  generalize dG s n1.2.1 n1.2.2 [44, 116, 61] = x2 at h3 ⊢
  dsimp only
  rw [z_ s hs x2.1 h3 x2.2, Option.bind_some]
  have h4 := mP s x2.1 x2.2 h3
  generalize dN s x2.1 x2.2 = n2 at h4 ⊢
  dsimp only
  rw [MO, Option.bind_some, wP s hs _ (by decide) n2.2.1 h4 n2.2.2, Option.bind_some]
  have h5 := jw s [44, 112, 61] n2.2.1 n2.2.2 h4
  generalize dG s n2.2.1 n2.2.2 [44, 112, 61] = x3 at h5 ⊢
  dsimp only
  rw [z_ s hs x3.1 h5 x3.2, Option.bind_some]
  have h6 := mP s x3.1 x3.2 h5
  generalize dN s x3.1 x3.2 = n3 at h6 ⊢
  dsimp only
  rw [MO, Option.bind_some, wP s hs _ (by decide) n3.2.1 h6 n3.2.2, Option.bind_some]
  have h7 := jw s [36] n3.2.1 n3.2.2 h6
  generalize dG s n3.2.1 n3.2.2 [36] = x4 at h7 ⊢
  dsimp only
  rw [JI s hs x4.1 h7 x4.2, Option.bind_some]
  have h8 := uV s x4.1 x4.2 h7
  have l1 := uY s hs x4.1 x4.2
  generalize kY s x4.1 x4.2 = t1 at h8 l1 ⊢
  dsimp only
  rw [wP s hs _ (by decide) (x4.1 + t1.length) h8 x4.2, Option.bind_some]
  have h9 := jw s [36] (x4.1 + t1.length) x4.2 h8
  generalize dG s (x4.1 + t1.length) x4.2 [36] = x5 at h9 ⊢
  dsimp only
  rw [JI s hs x5.1 h9 x5.2, Option.bind_some]
  have h10 := uV s x5.1 x5.2 h9
  have l2 := uY s hs x5.1 x5.2
  generalize kY s x5.1 x5.2 = t2 at h10 l2 ⊢
  dsimp only
  unfold Ac
  split
  · rfl
  · rw [Gs t1 l1, Option.bind_some]
    split
    · rfl
    · rw [Gs t2 l2, Option.bind_some]
      split
      · rfl
      · rw [MM, Option.bind_some]
        by_cases hc : n_ k (wX n1.1) (wX n2.1) (wX n3.1) (((iE t2).1.length : Nat) : Int) (iE t1).1.length ≠ 0
        · rw [if_pos hc, if_pos hc, if_pos hc]
        · have e0 : (if n_ k (wX n1.1) (wX n2.1) (wX n3.1) (((iE t2).1.length : Nat) : Int) (iE t1).1.length ≠ 0 then n_ k (wX n1.1) (wX n2.1) (wX n3.1) (((iE t2).1.length : Nat) : Int) (iE t1).1.length else if (((iE t2).1.length : Nat) : Int) ≠ (((iE t2).1.length : Nat) : Int) then (1 : Int) else 0) = 0 := by
            rw [if_neg hc, if_neg (fun q => q rfl)]
          rw [e0, if_neg (fun q => q rfl), if_neg hc]
theorem C_ : iZ s = some (iM s) := by
  rw [Ji s hs, Ov s hs _ _ (Aa s _ _ (jw s _ 0 true (by omega)))]
  rfl
theorem Jj : ku s = some (iM s) := by
  have h0 : aZ s (0 : Int) false ([36, 97, 114, 103, 111, 110, 50] : List UInt8) = some (s, ((dG s 0 true [36, 97, 114, 103, 111, 110, 50]).1 : Int), !(dG s 0 true [36, 97, 114, 103, 111, 110, 50]).2) := wQ s hs ([36, 97, 114, 103, 111, 110, 50] : List UInt8) (by decide) 0 (by omega) true
  have hle := jw s [36, 97, 114, 103, 111, 110, 50] 0 true (by omega)
  unfold ku iM
  rw [h0, Option.bind_some]
  generalize dG s 0 true [36, 97, 114, 103, 111, 110, 50] = x0 at hle ⊢
  dsimp only
  obtain ⟨k', hk, hkk⟩ := MN s hs x0.1 hle x0.2
  rw [hk, Option.bind_some]
  have hkl := Aa s x0.1 x0.2 hle
  generalize kC s x0.1 x0.2 = kx at hkl hkk ⊢
  dsimp only
  unfold Gz
  dsimp only
  rw [wQ s hs _ (by decide) kx.2.1 hkl kx.2.2, Option.bind_some]
  have h1 := jw s [36, 118, 61, 49, 57, 36, 109, 61] kx.2.1 kx.2.2 hkl
  have o1 := sS s kx.2.1 [36, 118, 61, 49, 57, 36, 109, 61] kx.2.2
  generalize dG s kx.2.1 kx.2.2 [36, 118, 61, 49, 57, 36, 109, 61] = x1 at h1 o1 ⊢
  dsimp only
  rw [C9 s hs x1.1 h1 x1.2, Option.bind_some]
  have h2 := mP s x1.1 x1.2 h1
  have o2 := uX s x1.1 x1.2
  generalize dN s x1.1 x1.2 = n1 at h2 o2 ⊢
  dsimp only
  rw [wQ s hs _ (by decide) n1.2.1 h2 n1.2.2, Option.bind_some]
  have h3 := jw s [44, 116, 61] n1.2.1 n1.2.2 h2
  have o3 := sS s n1.2.1 [44, 116, 61] n1.2.2
  generalize dG s n1.2.1 n1.2.2 [44, 116, 61] = x2 at h3 o3 ⊢
  dsimp only
  rw [C9 s hs x2.1 h3 x2.2, Option.bind_some]
  have h4 := mP s x2.1 x2.2 h3
  have o4 := uX s x2.1 x2.2
  generalize dN s x2.1 x2.2 = n2 at h4 o4 ⊢
  dsimp only
  rw [wQ s hs _ (by decide) n2.2.1 h4 n2.2.2, Option.bind_some]
  have h5 := jw s [44, 112, 61] n2.2.1 n2.2.2 h4
  have o5 := sS s n2.2.1 [44, 112, 61] n2.2.2
  generalize dG s n2.2.1 n2.2.2 [44, 112, 61] = x3 at h5 o5 ⊢
  dsimp only
  rw [C9 s hs x3.1 h5 x3.2, Option.bind_some]
  have h6 := mP s x3.1 x3.2 h5
  have o6 := uX s x3.1 x3.2
  generalize dN s x3.1 x3.2 = n3 at h6 o6 ⊢
  dsimp only
  rw [wQ s hs _ (by decide) n3.2.1 h6 n3.2.2, Option.bind_some]
  have h7 := jw s [36] n3.2.1 n3.2.2 h6
  have o7 := sS s n3.2.1 [36] n3.2.2
  generalize dG s n3.2.1 n3.2.2 [36] = x4 at h7 o7 ⊢
  dsimp only
  rw [JJ s hs x4.1 h7 x4.2, Option.bind_some]
  have h8 := uV s x4.1 x4.2 h7
  have l1 := uY s hs x4.1 x4.2
  generalize kY s x4.1 x4.2 = t1 at h8 l1 ⊢
  dsimp only
  rw [wQ s hs _ (by decide) (x4.1 + t1.length) h8 x4.2, Option.bind_some]
  have h9 := jw s [36] (x4.1 + t1.length) x4.2 h8
  have o8 := sS s (x4.1 + t1.length) [36] x4.2
  generalize dG s (x4.1 + t1.length) x4.2 [36] = x5 at h9 o8 ⊢
  dsimp only
  rw [JJ s hs x5.1 h9 x5.2, Option.bind_some]
  have h10 := uV s x5.1 x5.2 h9
  have l2 := uY s hs x5.1 x5.2
  generalize kY s x5.1 x5.2 = t2 at h10 l2 ⊢
  dsimp only
  unfold Ac
  by_cases hbad : ((!x5.2) || (decide (((x5.1 + t2.length : Nat) : Int) < (s.length : Int)))) = true
  · rw [if_pos hbad, if_pos hbad]
  · rw [if_neg hbad, if_neg hbad]
    have hok : x5.2 = true := by
      cases h : x5.2 with
      | true => rfl
      | false => exact absurd (by rw [h]; rfl) hbad
    have QZ := hkk (o1 (o2 (o3 (o4 (o5 (o6 (o7 (o8 hok))))))))
    rw [QZ, Gt t1 l1, Option.bind_some]
    split
    · rfl
    · rw [Gt t2 l2, Option.bind_some]
      split
      · rfl
      · rw [MP, Option.bind_some, MP, Option.bind_some, MP, Option.bind_some, Gy, Option.bind_some]
        split <;> rfl
end
theorem GG : iQ = some true := by
  unfold iQ
  rw [C_ _ (by decide), Option.bind_some]
  have : (iM [36, 97, 114, 103, 111, 110, 50, 105, 100, 36, 118, 61, 49, 56]).2.2.2.2.2.2.2 = (13, 4) := by decide +kernel
  rw [show (iM [36, 97, 114, 103, 111, 110, 50, 105, 100, 36, 118, 61, 49, 56]).2.2.2.2.2.2.2.1 = 13 from by rw [this], show (iM [36, 97, 114, 103, 111, 110, 50, 105, 100, 36, 118, 61, 49, 56]).2.2.2.2.2.2.2.2 = 4 from by rw [this]]
  rfl
end Go.Sx
namespace Go.Sx
open Go.RowKit
set_option linter.unusedVariables false
set_option linter.unusedSimpArgs false
theorem og (s : List UInt8) : ∀ (t : List UInt8) (a : Nat) (ok : Bool), (dG s a ok t).2 = true → ok = true ∧ (dG s a ok t).1 = a + t.length ∧ s.drop a = t ++ s.drop (a + t.length)
  | [], a, ok, h => ⟨h, rfl, rfl⟩
  | c :: t, a, ok, h => by
    unfold dG at h ⊢
    by_cases h0 : ok = true
    · rw [if_pos h0] at h ⊢
      by_cases h1 : s[a]? = some c
      · rw [if_pos h1] at h ⊢
        obtain ⟨_, i2, i3⟩ := og s t (a + 1) true h
        have e : a + 1 + t.length = a + (c :: t).length := by simp only [List.length_cons]; omega
        refine ⟨h0, by rw [i2, e], ?_⟩
        obtain ⟨hl, hc⟩ := List.getElem?_eq_some_iff.1 h1
        rw [List.drop_eq_getElem_cons hl, hc, i3, e]
        rfl
      · rw [if_neg h1] at h; cases h
    · rw [if_neg h0] at h; cases h
theorem JL : ∀ d : Nat, d < 10 → wR (UInt8.ofNat (48 + d)) = true ∧ (dv (UInt8.ofNat (48 + d))).toNat = d ∧ dv (UInt8.ofNat (48 + d)) = UInt64.ofNat d := by decide +kernel
theorem JM (c : UInt8) (h : wR c = true) : c = UInt8.ofNat (48 + (dv c).toNat) := by
  have key : ∀ n : Nat, n < 256 → wR (UInt8.ofNat n) = true → UInt8.ofNat n = UInt8.ofNat (48 + (dv (UInt8.ofNat n)).toNat) := by decide +kernel
  exact nK (p := fun c => wR c = true → c = UInt8.ofNat (48 + (dv c).toNat)) key c h
theorem Jk (c : UInt8) (l : List UInt8) (st : Bool) (v : UInt64) (hc : wR c = true) (h0 : (st && decide (v = 0)) = false) (h1 : v.toNat ≤ 1000000) : iL (c :: l) st v = ((iL l true (10 * v + dv c)).1, (iL l true (10 * v + dv c)).2.1 + 1, (iL l true (10 * v + dv c)).2.2) := by
  rw [iL, if_pos hc, if_neg]
  rw [h0, Bool.false_or, decide_eq_true_eq, UInt64.lt_iff_toNat_lt]
  have hd := zZ c hc
  have e : ((18446744073709551615 : UInt64) - dv c).toNat = 18446744073709551615 - (dv c).toNat := by
    rw [UInt64.toNat_sub_of_le]
    · rfl
    · rw [UInt64.le_iff_toNat_le]; show (dv c).toNat ≤ 18446744073709551615; omega
  rw [UInt64.toNat_div, e]
  show ¬ (18446744073709551615 - (dv c).toNat) / 10 < v.toNat
  omega
theorem Ad : ∀ (l : List UInt8) (v : UInt64), (iL l true v).2.2 = true → Lib.decDigits v.toNat ++ l.take (iL l true v).2.1 = Lib.decDigits (iL l true v).1.toNat
  | [], v, h => by simp [iL]
  | c :: l, v, h => by
    by_cases hc : wR c = true
    · rw [iL, if_pos hc] at h ⊢
      by_cases hb : ((true && decide (v = 0)) || decide (((18446744073709551615 : UInt64) - dv c) / 10 < v)) = true
      · rw [if_pos hb] at h; cases h
      · rw [if_neg hb] at h ⊢
        have ih := Ad l (10 * v + dv c) h
        rw [Bool.true_and, Bool.or_eq_true, decide_eq_true_eq, decide_eq_true_eq, not_or] at hb
        have hv := Gv v c hc hb.2
        have hv0 : v.toNat ≠ 0 := fun q => hb.1 (UInt64.toNat_inj.1 q)
        have hd := zZ c hc
        rw [hv] at ih
        rw [show Lib.decDigits (10 * v.toNat + (dv c).toNat) = Lib.decDigits v.toNat ++ [c] from by
          rw [Lib.decDigits, dif_neg (by omega), show (10 * v.toNat + (dv c).toNat) / 10 = v.toNat from by omega, show (10 * v.toNat + (dv c).toNat) % 10 = (dv c).toNat from by omega, ← JM c hc]] at ih
        rw [List.take_succ_cons, ← ih, List.append_assoc]
        rfl
    · rw [iL, if_neg hc]
      simp
theorem GH (l : List UInt8) (h : (iL l false 0).2.2 = true) : l.take (iL l false 0).2.1 = Lib.decDigits (iL l false 0).1.toNat := by
  cases l with
  | nil => cases h
  | cons c l =>
    by_cases hc : wR c = true
    · rw [Jk c l false 0 hc rfl (by show (0 : Nat) ≤ 1000000; omega)] at h ⊢
      have hk := Ad l _ h
      rw [UInt64.mul_zero, UInt64.zero_add] at *
      have hd := zZ c hc
      rw [Lib.decDigits, dif_pos (by omega), ← JM c hc] at hk
      rw [List.take_succ_cons, ← hk]
      rfl
    · rw [iL, if_neg hc] at h; cases h
theorem uZ (s : List UInt8) (a : Nat) (ok : Bool) (h : (dN s a ok).2.2 = true) : ok = true ∧ s.drop a = Lib.decDigits (dN s a ok).1.toNat ++ s.drop (dN s a ok).2.1 := by
  have ho := uX s a ok h
  subst ho
  refine ⟨rfl, ?_⟩
  unfold dN at h ⊢
  rw [if_pos rfl] at h ⊢
  have := GH _ h
  dsimp only
  rw [← this, ← List.drop_drop, List.take_append_drop]
theorem GI (s : List UInt8) (a : Nat) (ok : Bool) (h : (kC s a ok).2.2 = true) : ok = true ∧ s.drop a = OQ (kC s a ok).1 ++ s.drop (kC s a ok).2.1 := by
  have OT : ∀ (b : Nat) (c : UInt8), s[b]? = some c → s.drop b = c :: s.drop (b + 1) := by
    intro b c q
    obtain ⟨hl, hc⟩ := List.getElem?_eq_some_iff.1 q
    rw [List.drop_eq_getElem_cons hl, hc]
  unfold kC at h ⊢
  by_cases h0 : ok = true
  · rw [if_pos h0] at h ⊢
    refine ⟨h0, ?_⟩
    by_cases h1 : s[a]? = some 105
    · rw [if_pos h1] at h ⊢
      by_cases h2 : s[a + 1]? = some 100
      · rw [if_pos h2] at h ⊢
        rw [OT _ _ h1, OT _ _ h2]
        rfl
      · rw [if_neg h2] at h ⊢
        rw [OT _ _ h1]
        rfl
    · rw [if_neg h1] at h ⊢
      by_cases h3 : s[a]? = some 100
      · rw [if_pos h3] at h ⊢
        rw [OT _ _ h3]
        rfl
      · rw [if_neg h3] at h; cases h
  · rw [if_neg h0] at h; cases h
theorem Jl (b : List UInt8) : ∀ c ∈ enc b, sZ c = true := by
  intro c hc
  unfold enc Jc at hc
  obtain ⟨m, _, rfl⟩ := List.mem_map.1 hc
  unfold sZ
  have := TU b (6 * m)
  rw [Gp _ this]
  exact decide_eq_true this
theorem Dc (s : List UInt8) (a : Nat) : s.drop a = kY s a true ++ s.drop (a + (kY s a true).length) := by
  unfold kY
  rw [if_pos rfl, ← List.drop_drop]
  have : ∀ (l : List UInt8), l = l.takeWhile sZ ++ l.drop (l.takeWhile sZ).length := by
    intro l
    have h1 := List.takeWhile_prefix (p := sZ) (l := l)
    obtain ⟨t, ht⟩ := h1
    have : l.drop (l.takeWhile sZ).length = t := by
      conv => lhs; rw [← ht]
      rw [ht]
      conv => lhs; arg 2; rw [← ht]
      rw [List.drop_left]
    rw [this, ht]
  exact this _
theorem y9 (v : UInt64) (h : 0 ≤ wX v) : wX v = (v.toNat : Int) := by
  unfold wX at h ⊢
  by_cases q : (9223372036854775807 : UInt64) < v
  · rw [if_pos q] at h; omega
  · rw [if_neg q]
    rw [UInt64.lt_iff_toNat_lt] at q
    have : v.toNat ≤ 9223372036854775807 := Nat.le_of_not_lt q
    rw [gp] <;> omega
theorem BI (s : List UInt8) (h : (iM s).2.2.2.2.2.2.2.2 = 0) : BH (iM s).1 (iM s).2.1 (iM s).2.2.1 (iM s).2.2.2.1 (iM s).2.2.2.2.1 (iM s).2.2.2.2.2.1 (iM s).2.2.2.2.2.2.1 = (s, 0) := by
  unfold iM at h ⊢
  have b0 := og s [36, 97, 114, 103, 111, 110, 50] 0 true
  generalize dG s 0 true [36, 97, 114, 103, 111, 110, 50] = x0 at b0 h ⊢
  have b1 := GI s x0.1 x0.2
  generalize kC s x0.1 x0.2 = kx at b1 h ⊢
  unfold Gz at h ⊢
  dsimp only at h ⊢
  have b2 := og s [36, 118, 61, 49, 57, 36, 109, 61] kx.2.1 kx.2.2
  generalize dG s kx.2.1 kx.2.2 [36, 118, 61, 49, 57, 36, 109, 61] = x1 at b2 h ⊢
  have b3 := uZ s x1.1 x1.2
  generalize dN s x1.1 x1.2 = n1 at b3 h ⊢
  have b4 := og s [44, 116, 61] n1.2.1 n1.2.2
  generalize dG s n1.2.1 n1.2.2 [44, 116, 61] = x2 at b4 h ⊢
  have b5 := uZ s x2.1 x2.2
  generalize dN s x2.1 x2.2 = n2 at b5 h ⊢
  have b6 := og s [44, 112, 61] n2.2.1 n2.2.2
  generalize dG s n2.2.1 n2.2.2 [44, 112, 61] = x3 at b6 h ⊢
  have b7 := uZ s x3.1 x3.2
  generalize dN s x3.1 x3.2 = n3 at b7 h ⊢
  have b8 := og s [36] n3.2.1 n3.2.2
  generalize dG s n3.2.1 n3.2.2 [36] = x4 at b8 h ⊢
  have b9 := Dc s x4.1
  have b10 := og s [36] (x4.1 + (kY s x4.1 x4.2).length) x4.2
  generalize dG s (x4.1 + (kY s x4.1 x4.2).length) x4.2 [36] = x5 at b10 h ⊢
  have b11 := Dc s x5.1
  by_cases c0 : ((!x5.2) || (decide (((x5.1 + (kY s x5.1 x5.2).length : Nat) : Int) < (s.length : Int)))) = true
  · unfold Ac at h; rw [if_pos c0] at h; cases h
  · by_cases c1 : (iE (kY s x4.1 x4.2)).2.2 ≠ 0
    · unfold Ac at h; rw [if_neg c0, if_pos c1] at h; cases h
    · by_cases c2 : (iE (kY s x5.1 x5.2)).2.2 ≠ 0
      · unfold Ac at h; rw [if_neg c0, if_neg c1, if_pos c2] at h; cases h
      · by_cases c3 : n_ kx.1 (wX n1.1) (wX n2.1) (wX n3.1) (((iE (kY s x5.1 x5.2)).1.length : Nat) : Int) (iE (kY s x4.1 x4.2)).1.length ≠ 0
        · unfold Ac at h; rw [if_neg c0, if_neg c1, if_neg c2, if_pos c3] at h; cases h
        · unfold Ac
          rw [if_neg c0, if_neg c1, if_neg c2, if_neg c3]
          dsimp only
          rw [Bool.or_eq_true, not_or, Bool.not_eq_true', Bool.not_eq_false, decide_eq_true_eq] at c0
          obtain ⟨c0, c00⟩ := c0
          obtain ⟨o5, p5, q5⟩ := b10 c0
          obtain ⟨o4, p4, q4⟩ := b8 o5
          obtain ⟨o3, q3⟩ := b7 o4
          obtain ⟨o2, p2, q2⟩ := b6 o3
          obtain ⟨o1, q1⟩ := b5 o2
          obtain ⟨o0, p0, q0⟩ := b4 o1
          obtain ⟨oa, qa⟩ := b3 o0
          obtain ⟨ob, pb, qb⟩ := b2 oa
          obtain ⟨oc, qc⟩ := b1 ob
          obtain ⟨od, pd, qd⟩ := b0 oc
          rw [o5] at c1 c3 p5 q5 ⊢
          rw [c0] at c00 c2 c3 ⊢
          have c1' := xZ _ (Classical.not_not.1 c1)
          have c2' := xZ _ (Classical.not_not.1 c2)
          have c3' := Classical.not_not.1 c3
          obtain ⟨hm, hs1, hs2⟩ := QY c3'
          unfold t_ at hm
          unfold BH
          rw [if_neg c3, if_neg (fun q => q rfl)]
          have w1 := y9 n1.1 (by omega)
          have w2 := y9 n2.1 (by omega)
          have w3 := y9 n3.1 (by omega)
          rw [w1, w2, w3]
          simp only [Int.toNat_natCast]
          refine Prod.ext ?_ rfl
          show textS _ _ _ _ _ _ = s
          unfold textS
          rw [c1', c2']
          have e12 : s.drop (x5.1 + (kY s x5.1 true).length) = [] := List.drop_eq_nil_iff.2 (by omega)
          rw [e12, List.append_nil] at b11
          rw [← p5, b11] at q5
          rw [q5] at b9
          rw [← p4, b9] at q4
          rw [q4] at q3
          rw [← p2, q3] at q2
          rw [q2] at q1
          rw [← p0, q1] at q0
          rw [q0] at qa
          rw [← pb, qa] at qb
          rw [qb] at qc
          rw [← pd, qc, List.drop_zero] at qd
          conv => rhs; rw [qd]
          simp only [List.append_assoc]
end Go.Sx
namespace Go.Sx
open Go.RowKit
set_option linter.unusedVariables false
set_option linter.unusedSimpArgs false
def xC (c : UInt8) : List UInt8 → List UInt8 → List (List UInt8)
  | a, [] => [a]
  | a, x :: l => if x = c then a :: xC c [] l else xC c (a ++ [x]) l
def tw (c : UInt8) (s : List UInt8) : List UInt8 := s.takeWhile (fun x => decide (x ≠ c))
def u_ (c : UInt8) (s : List UInt8) : List UInt8 := s.drop ((tw c s).length + 1)
theorem GK (c : UInt8) (s : List UInt8) : (tw c s).length ≤ s.length := List.Sublist.length_le (List.takeWhile_sublist _)
theorem y_ (c x : UInt8) (l : List UInt8) : tw c (x :: l) = if x = c then [] else x :: tw c l := by
  unfold tw
  rw [List.takeWhile_cons]
  by_cases h : x = c <;> simp [h]
theorem uA {c : UInt8} : ∀ {s : List UInt8}, c ∈ s → (tw c s).length < s.length ∧ tw c s = s.take (tw c s).length ∧ s = tw c s ++ c :: u_ c s
  | x :: l, h => by
    unfold u_
    rw [y_]
    by_cases hx : x = c
    · subst hx; simp
    · rw [if_neg hx]
      rcases List.mem_cons.1 h with h | h
      · exact absurd h.symm hx
      · obtain ⟨h1, h2, h3⟩ := uA h
        refine ⟨by simp only [List.length_cons]; omega, by simp only [List.length_cons, List.take_succ_cons]; rw [← h2], ?_⟩
        simp only [List.length_cons, List.cons_append, List.drop_succ_cons]
        unfold u_ at h3
        rw [← h3]
theorem wU {c : UInt8} {s : List UInt8} (h : c ∈ s) : (u_ c s).length < s.length := by
  have h1 := uA h
  have := congrArg List.length h1.2.2
  rw [List.length_append, List.length_cons] at this
  omega
theorem OU (c : UInt8) : ∀ s : List UInt8, Lib.indexByte s c = if c ∈ s then ((tw c s).length : Int) else -1
  | [] => by simp [Lib.indexByte]
  | x :: l => by
    unfold Lib.indexByte
    rw [OU c l, y_]
    by_cases hx : x = c
    · subst hx; simp
    · have h1 : (x == c) = false := by simpa using hx
      rw [h1, if_neg hx]
      by_cases hl : c ∈ l
      · simp [hl, List.mem_cons]
      · have h2 : ¬ c ∈ x :: l := by simp [hl]; exact fun e => hx e.symm
        simp [hl, h2]
theorem Df (c : UInt8) : ∀ (l a : List UInt8), xC c a l = if c ∈ l then (a ++ tw c l) :: xC c [] (u_ c l) else [a ++ l]
  | [], a => by simp [xC]
  | x :: l, a => by
    rw [xC, u_, y_]
    by_cases hx : x = c
    · subst hx; simp
    · rw [if_neg hx, if_neg hx, Df c l (a ++ [x])]
      by_cases hl : c ∈ l
      · simp [hl, u_]
      · have h2 : ¬ c ∈ x :: l := by simp [hl]; exact fun e => hx e.symm
        simp [hl, h2]
def rH (c : UInt8) (s : List UInt8) : List (List UInt8) := xC c [] s
theorem jc (c : UInt8) (s : List UInt8) : rH c s = if c ∈ s then tw c s :: rH c (u_ c s) else [s] := by
  unfold rH
  rw [Df]
  simp
theorem Ae (s : List UInt8) (c : UInt8) (hs : s.length ≤ 4194304) : ∀ (k : Nat) (l : List (List UInt8)) (f i : Nat), i + k = s.length → f ≤ i → l.length ≤ i →
    aU (bT s c) (l, (f : Int), (i : Int)) = some (l ++ xC c ((s.take i).drop f) (s.drop i)) := by
  intro k
  induction k with
  | zero =>
    intro l f i hi hf hl
    have e : bT s c (l, (f : Int), (i : Int)) = some (.inl (l ++ [(s.take i).drop f], aA ((i : Int) + 1), aA ((i : Int) + 1))) := by
      simp only [bT, fM]
      have h0 : (i : Int) = (s.length : Int) := by omega
      rw [if_pos (by omega), uO _ (by simp [h0]), Option.bind_some, if_pos (Nr (by simp [h0])), tZ s f i hf (by omega), Option.bind_some, tH (by simp only [List.length_cons, List.length_nil]; omega)]
      rfl
    rw [bD e, wS i (by omega)]
    have e2 : bT s c (l ++ [(s.take i).drop f], ((i + 1 : Nat) : Int), ((i + 1 : Nat) : Int)) = some (.inr (l ++ [(s.take i).drop f])) := by
      simp only [bT]
      rw [if_neg (by omega)]
      rfl
    rw [aC e2]
    rw [List.drop_of_length_le (by omega : s.length ≤ i)]
    rfl
  | succ k ih =>
    intro l f i hi hf hl
    have hlt : i < s.length := by omega
    have hd : s.drop i = s[i] :: s.drop (i + 1) := List.drop_eq_getElem_cons hlt
    by_cases hc : s[i] = c
    · have e : bT s c (l, (f : Int), (i : Int)) = some (.inl (l ++ [(s.take i).drop f], aA ((i : Int) + 1), aA ((i : Int) + 1))) := by
        simp only [bT, fM]
        have h0 : ¬ (i : Int) = (s.length : Int) := by omega
        rw [if_pos (by omega), sQ _ (by simp [h0]), bf hlt, Option.bind_some, if_pos (JG (by simpa using hc)), tZ s f i hf (by omega), Option.bind_some, tH (by simp only [List.length_cons, List.length_nil]; omega)]
        rfl
      rw [bD e, wS i (by omega), ih (l ++ [(s.take i).drop f]) (i + 1) (i + 1) (by omega) (Nat.le_refl _) (by simp; omega), hd, xC, if_pos hc]
      have : (s.take (i + 1)).drop (i + 1) = [] := List.drop_of_length_le (by rw [List.length_take]; omega)
      rw [this, List.append_assoc]
      rfl
    · have e : bT s c (l, (f : Int), (i : Int)) = some (.inl (l, (f : Int), aA ((i : Int) + 1))) := by
        simp only [bT, fM]
        have h0 : ¬ (i : Int) = (s.length : Int) := by omega
        rw [if_pos (by omega), sQ _ (by simp [h0]), bf hlt, Option.bind_some, if_neg (Jf (by simp [h0]) (by simpa using hc))]
      rw [bD e, wS i (by omega), ih l f (i + 1) (by omega) (by omega) (by omega), hd, xC, if_neg hc]
      have : (s.take (i + 1)).drop f = (s.take i).drop f ++ [s[i]] := by
        rw [List.take_succ_eq_append_getElem hlt, List.drop_append_of_le_length (by rw [List.length_take]; omega)]
      rw [this]
theorem Dh (s : List UInt8) (c : UInt8) (hs : s.length ≤ 4194304) : jM s c = some (rH c s) := by
  unfold jM rH
  have := Ae s c hs s.length [] 0 0 (by omega) (Nat.le_refl _) (Nat.zero_le _)
  simpa using this
theorem JO (s : List UInt8) (hs : s.length ≤ 4194304) : jo s = some (if 10 ∈ s then (tw 10 s, u_ 10 s, true) else (s, [], false)) := by
  unfold jo dV
  rw [OU]
  by_cases h : (10 : UInt8) ∈ s
  · have h1 := uA h
    simp only [h, if_true]
    rw [if_pos (by omega), show (0 : Int) = ((0 : Nat) : Int) from rfl, tZ s 0 _ (Nat.zero_le _) (by omega), Option.bind_some]
    rw [show (((tw 10 s).length : Int) + (([10] : List UInt8).length : Int)) = (((tw 10 s).length : Int) + 1) from rfl, wS _ (by omega), tZ s _ s.length (by omega) (Nat.le_refl _), Option.bind_some]
    simp only [Option.bind_some, List.drop_zero, List.take_length]
    rw [← h1.2.1]
    rfl
  · simp only [h, if_false]
    rw [if_neg (by omega)]
    rfl
def zf : Nat → List UInt8 → List (List UInt8)
  | 0, s => [s]
  | k + 1, s => if 32 ∈ s then tw 32 s :: zf k (u_ 32 s) else [s]
theorem mf : ∀ (k : Nat) (s : List UInt8), s.length ≤ k → zf k s = zf (k + 1) s
  | 0, s, h => by
    have : s = [] := List.eq_nil_of_length_eq_zero (by omega)
    subst this
    simp [zf]
  | k + 1, s, h => by
    rw [zf, zf]
    split
    · rename_i hm
      rw [mf k _ (by have := wU hm; omega)]
    · rfl
theorem Di : ∀ (k : Nat) (s : List UInt8), (rH 32 s).length ≤ k + 1 → zf k s = rH 32 s
  | 0, s, h => by
    rw [jc] at h ⊢
    split at h
    · rename_i hm
      rw [List.length_cons] at h
      have : (rH 32 (u_ 32 s)).length ≠ 0 := by
        rw [jc]; split <;> simp
      omega
    · rename_i hm
      rw [if_neg hm]; rfl
  | k + 1, s, h => by
    rw [jc] at h ⊢
    rw [zf]
    split
    · rename_i hm
      rw [if_pos hm, List.length_cons] at h
      rw [Di k _ (by omega)]
    · rfl
theorem Af : ∀ (k : Nat) (s : List UInt8), k + 1 < (rH 32 s).length → ∃ a b, zf k s = a ++ [b] ∧ a.length = k ∧ (32 : UInt8) ∈ b
  | 0, s, h => by
    rw [jc] at h
    split at h
    · rename_i hm
      exact ⟨[], s, rfl, rfl, hm⟩
    · simp at h
  | k + 1, s, h => by
    rw [jc] at h
    split at h
    · rename_i hm
      rw [List.length_cons] at h
      obtain ⟨a, b, h1, h2, h3⟩ := Af k (u_ 32 s) (by omega)
      refine ⟨tw 32 s :: a, b, ?_, by rw [List.length_cons, h2], h3⟩
      rw [zf, if_pos hm, h1]
      rfl
    · simp at h
end Go.Sx
namespace Go.Sx
open Go.RowKit
set_option linter.unusedVariables false
set_option linter.unusedSimpArgs false
theorem JP (rest : List UInt8) (done : List (List UInt8)) (n : Nat) (hn : 0 < n) (hd : done.length ≤ 4) : eG rest (done ++ List.replicate n []) (done.length : Int) = some (done ++ [rest]) := by
  obtain ⟨m, rfl⟩ : ∃ m, n = m + 1 := ⟨n - 1, by omega⟩
  unfold eG
  have hl : done.length < (done ++ List.replicate (m + 1) ([] : List UInt8)).length := by simp
  rw [bf hl, Option.bind_some, wS _ (by omega), show (0 : Int) = ((0 : Nat) : Int) from rfl, Int.toNat_natCast, yJ ⟨by omega, by omega, by rw [List.length_set]; simp; omega⟩, Option.bind_some]
  congr 1
  simp only [Int.toNat_natCast, List.drop_zero]
  rw [List.replicate_succ, List.set_append_right _ _ (Nat.le_refl _), Nat.sub_self, List.set_cons_zero, List.take_append, List.take_of_length_le (by omega), show done.length + 1 - done.length = 1 by omega]
  rfl
theorem Jm (s : List UInt8) (hs : s.length ≤ 4194304) (N : Nat) (hN : N = min (s.length + 1) 4) : ∀ (k : Nat) (done : List (List UInt8)) (rest : List UInt8), done.length + k + 1 = N → rest.length ≤ s.length →
    aU (aY s) (rest, done ++ List.replicate (N - done.length) [], (done.length : Int)) = some (done ++ zf k rest) := by
  have hE : (if aA ((s.length : Int) + 1) < 4 then aA ((s.length : Int) + 1) else 4) = (N : Int) := by
    rw [wS _ (by omega)]
    split <;> omega
  have hE1 : aA ((N : Int) - 1) = (N : Int) - 1 := gp (by omega)
  intro k
  induction k with
  | zero =>
    intro done rest hd hr
    have e : aY s (rest, done ++ List.replicate (N - done.length) [], (done.length : Int)) = some (.inr (done ++ zf 0 rest)) := by
      simp only [aY, cO, hE, hE1]
      rw [if_neg (by omega), JP rest done _ (by omega) (by omega)]
      rfl
    rw [aC e]
  | succ k ih =>
    intro done rest hd hr
    by_cases hm : (32 : UInt8) ∈ rest
    · have h1 := uA hm
      have e : aY s (rest, done ++ List.replicate (N - done.length) [], (done.length : Int)) = some (.inl (u_ 32 rest, (done ++ [tw 32 rest]) ++ List.replicate (N - (done ++ [tw 32 rest]).length) [], ((done ++ [tw 32 rest]).length : Int))) := by
        simp only [aY, cO, jg, hE, hE1]
        rw [if_pos (by omega), Option.bind_some, OU, if_pos hm, if_neg (by omega), show (((tw 32 rest).length : Int) + 0) = (((tw 32 rest).length : Nat) : Int) by omega, wN _ (by omega), show (0 : Int) = ((0 : Nat) : Int) from rfl, tZ rest 0 _ (Nat.zero_le _) (by omega), Option.bind_some]
        rw [bf (by rw [List.length_append, List.length_replicate]; omega), Option.bind_some]
        rw [show (((tw 32 rest).length : Int) + (([32] : List UInt8).length : Int)) = (((tw 32 rest).length : Int) + 1) from rfl, wS _ (by omega), tZ rest _ rest.length (by omega) (Nat.le_refl _), Option.bind_some, wS _ (by omega), List.drop_zero, ← h1.2.1, List.take_length]
        obtain ⟨m, hm'⟩ : ∃ m, N - done.length = m + 1 := ⟨N - done.length - 1, by omega⟩
        have hm2 : N - (done ++ [tw 32 rest]).length = m := by rw [List.length_append, List.length_singleton]; omega
        rw [hm', hm2, Int.toNat_natCast, List.replicate_succ, List.set_append_right _ _ (Nat.le_refl _), Nat.sub_self, List.set_cons_zero, List.length_append, List.length_singleton, List.append_assoc]
        rfl
      rw [bD e, ih (done ++ [tw 32 rest]) (u_ 32 rest) (by rw [List.length_append, List.length_singleton]; omega) (by have := wU hm; omega), zf, if_pos hm, List.append_assoc]
      rfl
    · have e : aY s (rest, done ++ List.replicate (N - done.length) [], (done.length : Int)) = some (.inr (done ++ [rest])) := by
        simp only [aY, cO, jg, hE, hE1]
        rw [if_pos (by omega), Option.bind_some, OU, if_neg hm, if_pos (by omega), JP rest done _ (by omega) (by omega)]
        rfl
      rw [aC e, zf, if_neg hm]
theorem Jn (s : List UInt8) : zf (min (s.length + 1) 4 - 1) s = zf 3 s := by
  rcases Nat.lt_or_ge s.length 3 with h | h
  · rcases Nat.lt_or_ge s.length 1 with h0 | h0
    · rw [show min (s.length + 1) 4 - 1 = 0 by omega, mf 0 s (by omega), mf 1 s (by omega), mf 2 s (by omega)]
    · rcases Nat.lt_or_ge s.length 2 with h1 | h1
      · rw [show min (s.length + 1) 4 - 1 = 1 by omega, mf 1 s (by omega), mf 2 s (by omega)]
      · rw [show min (s.length + 1) 4 - 1 = 2 by omega, mf 2 s (by omega)]
  · rw [show min (s.length + 1) 4 - 1 = 3 by omega]
theorem GL (s : List UInt8) (hs : s.length ≤ 4194304) : iJ s = some (zf 3 s) := by
  unfold iJ jb gB
  have hE : (if aA ((s.length : Int) + 1) < 4 then aA ((s.length : Int) + 1) else 4) = ((min (s.length + 1) 4 : Nat) : Int) := by
    rw [wS _ (by omega)]
    split <;> omega
  rw [hE, jI (by refine ⟨by omega, by omega, ?_⟩; rw [Int.toNat_natCast]; omega), Option.bind_some]
  have := Jm s hs _ rfl (min (s.length + 1) 4 - 1) [] s (by simp only [List.length_nil]; omega) (Nat.le_refl _)
  simp only [List.nil_append, List.length_nil, Nat.sub_zero] at this
  rw [Int.toNat_natCast]
  rw [show ((0 : Nat) : Int) = (0 : Int) from rfl] at this
  rw [this, Jn]
  rfl
def GM (c : UInt8) : Bool := (decide ((97 : UInt8) ≤ c) && decide (c ≤ 122)) || (decide ((48 : UInt8) ≤ c) && decide (c ≤ 57)) || decide (c = 95) || decide (c = 46) || decide (c = 45)
def uB (s : List UInt8) : Bool := decide (1 ≤ s.length) && decide (s.length ≤ 32) && s.all GM
theorem Q3 : ∀ c : UInt8, (((((!((decide ((48 : UInt8) ≤ c)) && (decide (c ≤ 57)))) && ((decide (c < 97)) || (decide ((122 : UInt8) < c)))) && (decide (c ≠ 95))) && (decide (c ≠ 46))) && (decide (c ≠ 45))) = !GM c := by
  refine nK fun n h => ?_
  revert n
  decide +kernel
theorem BJ (s : List UInt8) (hs : s.length ≤ 4194304) : ∀ (k i : Nat), i + k = s.length → aU (di s) (i : Int) = some ((s.drop i).all GM) := by
  intro k
  induction k with
  | zero =>
    intro i hi
    have e : di s (i : Int) = some (.inr true) := by
      simp only [di]
      rw [if_neg (by omega)]; rfl
    rw [aC e, List.drop_of_length_le (by omega)]; rfl
  | succ k ih =>
    intro i hi
    have hlt : i < s.length := by omega
    rw [List.drop_eq_getElem_cons hlt, List.all_cons]
    by_cases hc : GM s[i] = true
    · have e : di s (i : Int) = some (.inl ((i + 1 : Nat) : Int)) := by
        simp only [di]
        rw [if_pos (by omega), bf hlt, Option.bind_some, if_neg (by unfold GM at hc; rw [hc]; decide), wS _ (by omega)]
      rw [bD e, ih (i + 1) (by omega), hc]; rfl
    · have e : di s (i : Int) = some (.inr false) := by
        simp only [di]
        have hf : GM s[i] = false := by simpa using hc
        rw [if_pos (by omega), bf hlt, Option.bind_some, if_pos (by unfold GM at hf; rw [hf]; decide)]
        rfl
      rw [aC e, show GM s[i] = false by simpa using hc]; rfl
theorem Jo (s : List UInt8) (hs : s.length ≤ 4194304) : jL s = some (uB s) := by
  unfold jL uB
  by_cases h : 1 ≤ s.length ∧ s.length ≤ 32
  · rw [if_neg (Jf (by simp; omega) (by simp; omega)), show (0 : Int) = ((0 : Nat) : Int) from rfl, BJ s hs s.length 0 (by omega)]
    simp [h.1, h.2]
  · have : (decide ((s.length : Int) < 1) || decide (32 < (s.length : Int))) = true := by simp; omega
    rw [if_pos this]
    simp only [Option.some.injEq]
    symm
    simp only [Bool.and_eq_false_iff, decide_eq_false_iff_not]
    rcases Nat.lt_or_ge s.length 1 with h1 | h1
    · exact .inl (.inl (by omega))
    · exact .inl (.inr (by omega))
theorem Eg (s : List UInt8) (hs : s.length ≤ 4194304) : ∀ (k i : Nat), i + k = s.length → aU (dO s) (i : Int) = some ((s.drop i).all GM && (decide (1 ≤ s.length) && decide (s.length ≤ 32))) := by
  intro k
  induction k with
  | zero =>
    intro i hi
    have e : dO s (i : Int) = some (.inr (decide (1 ≤ s.length) && decide (s.length ≤ 32))) := by
      simp only [dO]
      rw [if_neg (by omega)]
      have e1 : decide ((1 : Int) ≤ (s.length : Int)) = decide (1 ≤ s.length) := decide_eq_decide.2 (by omega)
      have e2 : decide ((s.length : Int) ≤ 32) = decide (s.length ≤ 32) := decide_eq_decide.2 (by omega)
      rw [e1, e2]; rfl
    rw [aC e, List.drop_of_length_le (by omega)]; rfl
  | succ k ih =>
    intro i hi
    have hlt : i < s.length := by omega
    rw [List.drop_eq_getElem_cons hlt, List.all_cons]
    have hr := Q3 s[i]
    by_cases hc : GM s[i] = true
    · have e : dO s (i : Int) = some (.inl ((i + 1 : Nat) : Int)) := by
        simp only [dO, gW]
        rw [if_pos (by omega), bf hlt, Option.bind_some, Option.bind_some, if_neg (by rw [hr, hc]; decide), wS _ (by omega)]
      rw [bD e, ih (i + 1) (by omega), hc, Bool.true_and]
    · have hf : GM s[i] = false := by simpa using hc
      have e : dO s (i : Int) = some (.inr false) := by
        simp only [dO, gW]
        rw [if_pos (by omega), bf hlt, Option.bind_some, Option.bind_some, if_pos (by rw [hr, hf]; decide)]
        rfl
      rw [aC e, hf]; rfl
theorem MQ (s : List UInt8) (hs : s.length ≤ 4194304) : kW s = some (uB s) := by
  unfold kW uB
  rw [show (0 : Int) = ((0 : Nat) : Int) from rfl, Eg s hs s.length 0 (by omega), List.drop_zero, Bool.and_comm]
end Go.Sx
namespace Go.Sx
open Go.RowKit
set_option linter.unusedVariables false
set_option linter.unusedSimpArgs false
theorem Dj (c : UInt8) : ∀ (n : Nat) (s : List UInt8), s.length ≤ n → ∀ p ∈ rH c s, p.length ≤ s.length := by
  intro n
  induction n with
  | zero =>
    intro s hs p hp
    have : s = [] := List.eq_nil_of_length_eq_zero (by omega)
    subst this
    rw [jc, if_neg (by simp)] at hp
    rw [List.mem_singleton.1 hp]
    exact Nat.le_refl _
  | succ n ih =>
    intro s hs p hp
    rw [jc] at hp
    split at hp
    · rename_i hm
      have := wU hm
      rcases List.mem_cons.1 hp with rfl | hp
      · exact GK _ _
      · have := ih (u_ c s) (by omega) p hp
        omega
    · rw [List.mem_singleton.1 hp]
      exact Nat.le_refl _
def pX (a b c d : List UInt8) (most : Int) : Bool :=
  uB a && ((dN b 0 true).2.2 && decide ((dN b 0 true).2.1 = b.length)) && ((dN c 0 true).2.2 && decide ((dN c 0 true).2.1 = c.length)) && decide ((iM d).2.2.2.2.2.2.2.2 = 0) && !decide (UInt64.ofInt most ≤ (dN b 0 true).1)
def lineS (s : List UInt8) (most : Int) : Option (List UInt8 × UInt64 × UInt64 × List UInt8) :=
  match rH 32 s with
  | [a, b, c, d] => if pX a b c d most = true then some (a, (dN b 0 true).1, (dN c 0 true).1, d) else none
  | _ => none
def rL : Option (List UInt8 × UInt64 × UInt64 × List UInt8) → List UInt8 × Int × UInt64 × List UInt8 × Bool
  | some (a, t, u, d) => (a, aA t.toNat, u, d, true)
  | none => ([], 0, 0, [], false)
def pL : Option (List UInt8 × UInt64 × UInt64 × List UInt8) → List UInt8 × List UInt8 × Int × UInt64 × Bool
  | some (a, t, u, d) => (a, d, aA t.toNat, u, true)
  | none => ([], [], 0, 0, false)
theorem Dk (s : List UInt8) (hs : s.length ≤ 4194304) : iR s = some ((dN s 0 true).1, (dN s 0 true).2.2 && decide ((dN s 0 true).2.1 = s.length)) := by
  unfold iR
  have h := C9 s hs 0 (Nat.zero_le _) true
  rw [show (false : Bool) = !true from rfl, show (0 : Int) = ((0 : Nat) : Int) from rfl, h, Option.bind_some]
  simp only [Bool.not_not]
  have e : decide ((((dN s 0 true).2.1 : Nat) : Int) = (s.length : Int)) = decide ((dN s 0 true).2.1 = s.length) := decide_eq_decide.2 (by omega)
  rw [e]
theorem Ox (a b c d : List UInt8) (most : Int) (ha : a.length ≤ 4194304) (hb : b.length ≤ 4194304) (hc : c.length ≤ 4194304) (hd : d.length ≤ 4194304) :
    ((kW a).bind fun bQ => if (!bQ) = true then (some (([] : List UInt8), (0 : Int), (0 : UInt64), ([] : List UInt8), false)) else ((iR b).bind fun aX => (iR c).bind fun gy => (ku d).bind fun dw => if ((((!aX.2) || (!gy.2)) || (decide (dw.2.2.2.2.2.2.2.2 ≠ 0))) || (decide ((UInt64.ofInt most) ≤ aX.1))) = true then (some (([] : List UInt8), (0 : Int), (0 : UInt64), ([] : List UInt8), false)) else some (a, aA aX.1.toNat, gy.1, d, true)))
      = some (rL (if pX a b c d most = true then some (a, (dN b 0 true).1, (dN c 0 true).1, d) else none)) := by
  rw [MQ a ha, Option.bind_some, Dk b hb, Dk c hc, Jj d hd]
  simp only [Option.bind_some]
  unfold pX
  cases uB a with
  | false => simp [rL]
  | true =>
    generalize ((dN b 0 true).2.2 && decide ((dN b 0 true).2.1 = b.length)) = x1
    generalize ((dN c 0 true).2.2 && decide ((dN c 0 true).2.1 = c.length)) = x2
    by_cases h3 : (iM d).2.2.2.2.2.2.2.2 = 0
    · by_cases h4 : UInt64.ofInt most ≤ (dN b 0 true).1 <;> cases x1 <;> cases x2 <;> simp [h3, h4, rL]
    · cases x1 <;> cases x2 <;> simp [h3, rL]
theorem GN (s : List UInt8) (most : Int) (hs : s.length ≤ 4194304) : lW s most = some (rL (lineS s most)) := by
  unfold lW lineS
  rw [Dh s 32 hs, Option.bind_some]
  have hl := Dj 32 s.length s (Nat.le_refl _)
  revert hl
  rcases rH 32 s with _ | ⟨a, _ | ⟨b, _ | ⟨c, _ | ⟨d, _ | ⟨e, r⟩⟩⟩⟩⟩ <;> intro hl
  · rfl
  · rfl
  · rfl
  · rfl
  · have h1 := hl a (by simp)
    have h2 := hl b (by simp)
    have h3 := hl c (by simp)
    have h4 := hl d (by simp)
    exact Ox a b c d most (by omega) (by omega) (by omega) (by omega)
  · rw [if_pos (by simp only [List.length_cons]; omega)]
    rfl
theorem MR : ∀ n : Nat, ∀ c ∈ Lib.decDigits n, wR c = true := by
  intro n
  induction n using Nat.strongRecOn with
  | _ n ih =>
    intro c hc
    rw [Lib.decDigits] at hc
    split at hc
    · rw [List.mem_singleton.1 hc]
      exact (JL n (by assumption)).1
    · rcases List.mem_append.1 hc with h | h
      · exact ih (n / 10) (by omega) c h
      · rw [List.mem_singleton.1 h]
        exact (JL (n % 10) (by omega)).1
theorem BK (d : List UInt8) (h : (iM d).2.2.2.2.2.2.2.2 = 0) : (32 : UInt8) ∉ d := by
  have ht := BI d h
  unfold BH at ht
  split at ht
  · rename_i hc
    simp only [Prod.mk.injEq] at ht
    exact absurd ht.2 hc
  · split at ht
    · simp at ht
    · simp only [Prod.mk.injEq, and_true] at ht
      rw [← ht]
      intro hm
      have n1 : ∀ n : Nat, (32 : UInt8) ∉ Lib.decDigits n := fun n q => by have := MR n _ q; revert this; decide
      have n2 : ∀ b : List UInt8, (32 : UInt8) ∉ enc b := fun b q => by have := Jl b _ q; revert this; decide
      have n3 : ∀ K : Int, (32 : UInt8) ∉ OQ K := fun K => by unfold OQ; split <;> (try split) <;> decide
      unfold textS at hm
      simp only [List.mem_append, n1, n2, n3, or_false, false_or] at hm
      revert hm
      decide
theorem x8 (s : List UInt8) (h1 : (dN s 0 true).2.2 = true) (h2 : (dN s 0 true).2.1 = s.length) : s = Lib.decDigits (dN s 0 true).1.toNat := by
  have := (uZ s 0 true h1).2
  rw [h2, List.drop_length, List.append_nil, List.drop_zero] at this
  exact this
theorem JQ (a b c d : List UInt8) (most : Int) (r : List (List UInt8)) (h0 : bZ r 0 = some a) (h1 : bZ r 1 = some b) (h2 : bZ r 2 = some c) (h3 : bZ r 3 = some d) (ha : a.length ≤ 4194304) (hb : b.length ≤ 4194304) (hc : c.length ≤ 4194304) (hd : d.length ≤ 4194304) :
    ((bZ r (0 : Int)).bind fun gm => (jL gm).bind fun bQ => if (!bQ) = true then (some (([] : List UInt8), ([] : List UInt8), (0 : Int), (0 : UInt64), false)) else ((bZ r (1 : Int)).bind fun zF => (bZ r (2 : Int)).bind fun zG => jD most r zF zG))
      = some (pL (if pX a b c d most = true then some (a, (dN b 0 true).1, (dN c 0 true).1, d) else none)) := by
  unfold jD
  simp only [h0, h1, h2, h3, Option.bind_some]
  rw [Jo a ha, Option.bind_some]
  rw [show (0 : Int) = ((0 : Nat) : Int) from rfl, z_ b hb 0 (Nat.zero_le _) true, z_ c hc 0 (Nat.zero_le _) true, C_ d hd]
  simp only [Option.bind_some]
  have hb' := mP b 0 true (Nat.zero_le _)
  have hc' := mP c 0 true (Nat.zero_le _)
  have e1 : decide (((dN b 0 true).2.1 : Int) < (b.length : Int)) = !decide ((dN b 0 true).2.1 = b.length) := by
    rw [← decide_not]; exact decide_eq_decide.2 (by omega)
  have e2 : decide (((dN c 0 true).2.1 : Int) < (c.length : Int)) = !decide ((dN c 0 true).2.1 = c.length) := by
    rw [← decide_not]; exact decide_eq_decide.2 (by omega)
  rw [e1, e2]
  unfold pX
  cases uB a with
  | false => simp [pL]
  | true =>
    generalize (dN b 0 true).2.2 = x1
    generalize decide ((dN b 0 true).2.1 = b.length) = x2
    generalize (dN c 0 true).2.2 = x3
    generalize decide ((dN c 0 true).2.1 = c.length) = x4
    by_cases h5 : (iM d).2.2.2.2.2.2.2.2 = 0
    · by_cases h4 : UInt64.ofInt most ≤ (dN b 0 true).1 <;> cases x1 <;> cases x2 <;> cases x3 <;> cases x4 <;> simp [h5, h4, pL]
    · cases x1 <;> cases x2 <;> cases x3 <;> cases x4 <;> simp [h5, pL]
theorem Jp (k : Nat) : ∀ (s : List UInt8), ∀ p ∈ zf k s, p.length ≤ s.length := by
  induction k with
  | zero => intro s p hp; rw [List.mem_singleton.1 hp]; exact Nat.le_refl _
  | succ k ih =>
    intro s p hp
    rw [zf] at hp
    split at hp
    · rename_i hm
      have := wU hm
      rcases List.mem_cons.1 hp with rfl | hp
      · exact GK _ _
      · have := ih (u_ 32 s) p hp
        omega
    · rw [List.mem_singleton.1 hp]
      exact Nat.le_refl _
theorem GR (s : List UInt8) (most : Int) (hs : s.length ≤ 4194304) : kz s most = some (pL (lineS s most)) := by
  unfold kz lineS
  rw [GL s hs, Option.bind_some]
  have hl := Jp 3 s
  by_cases h4 : (rH 32 s).length ≤ 4
  · rw [Di 3 s (by omega)] at hl ⊢
    revert hl h4
    rcases rH 32 s with _ | ⟨a, _ | ⟨b, _ | ⟨c, _ | ⟨d, _ | ⟨e, r⟩⟩⟩⟩⟩ <;> intro hl h4
    · rfl
    · rfl
    · rfl
    · rfl
    · have h1 := hl a (by simp)
      have h2 := hl b (by simp)
      have h3 := hl c (by simp)
      have h4 := hl d (by simp)
      rw [if_neg (by simp)]
      exact JQ a b c d most _ rfl rfl rfl rfl (by omega) (by omega) (by omega) (by omega)
    · simp only [List.length_cons] at h4; omega
  · obtain ⟨w, b4, h1, h2, h3⟩ := Af 3 s (by omega)
    rw [h1] at hl ⊢
    obtain ⟨a, b, c, rfl⟩ : ∃ a b c, w = [a, b, c] := by
      rcases w with _ | ⟨a, _ | ⟨b, _ | ⟨c, _ | ⟨d, r⟩⟩⟩⟩ <;> simp only [List.length_cons, List.length_nil] at h2 <;> first | omega | exact ⟨a, b, c, rfl⟩
    have q1 := hl a (by simp)
    have q2 := hl b (by simp)
    have q3 := hl c (by simp)
    have q4 := hl b4 (by simp)
    rw [if_neg (by simp), JQ a b c b4 most _ rfl rfl rfl rfl (by omega) (by omega) (by omega) (by omega)]
    have hno : pX a b c b4 most = false := by
      unfold pX
      have : decide ((iM b4).2.2.2.2.2.2.2.2 = 0) = false := decide_eq_false fun q => BK b4 q h3
      rw [this, Bool.and_false, Bool.false_and]
    rw [hno]
    revert h4
    rcases rH 32 s with _ | ⟨a, _ | ⟨b, _ | ⟨c, _ | ⟨d, _ | ⟨e, r⟩⟩⟩⟩⟩ <;> intro h4 <;> first | rfl | (simp only [List.length_cons, List.length_nil] at h4; omega)
theorem GU : ∀ (n : Nat) (s a b c d : List UInt8), s.length ≤ n → rH 32 s = [a, b, c, d] → a ++ [32] ++ b ++ [32] ++ c ++ [32] ++ d = s := by
  intro n s a b c d _ h
  have one : ∀ (s x : List UInt8) (r : List (List UInt8)), rH 32 s = x :: r → r ≠ [] → (32 : UInt8) ∈ s ∧ x = tw 32 s ∧ r = rH 32 (u_ 32 s) := by
    intro s x r h hr
    rw [jc] at h
    split at h
    · rename_i hm
      simp only [List.cons.injEq] at h
      exact ⟨hm, h.1.symm, h.2.symm⟩
    · simp only [List.cons.injEq] at h
      exact absurd h.2.symm hr
  have fin : ∀ (s x : List UInt8), rH 32 s = [x] → x = s := by
    intro s x h
    rw [jc] at h
    split at h
    · rename_i hm
      simp only [List.cons.injEq] at h
      rw [jc] at h
      split at h <;> simp at h
    · simp only [List.cons.injEq, and_true] at h
      exact h.symm
  obtain ⟨m1, e1, r1⟩ := one s a _ h (by simp)
  obtain ⟨m2, e2, r2⟩ := one _ b _ r1.symm (by simp)
  obtain ⟨m3, e3, r3⟩ := one _ c _ r2.symm (by simp)
  have e4 := fin _ d r3.symm
  have j1 := (uA m1).2.2
  have j2 := (uA m2).2.2
  have j3 := (uA m3).2.2
  rw [← e1] at j1
  rw [← e2] at j2
  rw [← e3, ← e4] at j3
  rw [j1, j2, j3]
  simp
theorem x9 (s : List UInt8) (most : Int) (hm : 1 ≤ most ∧ most ≤ 100) {a d : List UInt8} {t u : UInt64} (h : lineS s most = some (a, t, u, d)) :
    a ++ [32] ++ Lib.decDigits t.toNat ++ [32] ++ Lib.decDigits u.toNat ++ [32] ++ d = s ∧ a ≠ [] ∧ t.toNat < 100 := by
  unfold lineS at h
  split at h
  · rename_i x b c y hp
    split at h
    · rename_i hok
      simp only [Option.some.injEq, Prod.mk.injEq] at h
      obtain ⟨rfl, rfl, rfl, rfl⟩ := h
      unfold pX at hok
      simp only [Bool.and_eq_true, decide_eq_true_eq, Bool.not_eq_true', decide_eq_false_iff_not] at hok
      obtain ⟨⟨⟨⟨h1, h2, h3⟩, h4, h5⟩, h6⟩, h7⟩ := hok
      refine ⟨?_, ?_, ?_⟩
      · rw [← x8 b h2 h3, ← x8 c h4 h5]
        exact GU s.length s x b c y (Nat.le_refl _) hp
      · unfold uB at h1
        simp only [Bool.and_eq_true, decide_eq_true_eq] at h1
        intro e
        rw [e] at h1
        simp at h1
      · have hmo : (UInt64.ofInt most).toNat = most.toNat := by
          unfold UInt64.ofInt
          rw [UInt64.toNat_ofNat_of_lt' (by have : UInt64.size = 18446744073709551616 := rfl; omega)]
          omega
        rw [UInt64.le_iff_toNat_le, hmo] at h7
        omega
    · cases h
  · cases h
end Go.Sx
namespace Go.Sx
open Go.RowKit
set_option linter.unusedVariables false
set_option linter.unusedSimpArgs false
theorem blt : ∀ a b : List UInt8, Op.bytesLess a b = decide (a < b)
  | a, [] => by
    have : ¬ a < [] := List.not_lt_nil a
    cases a <;> simp [Op.bytesLess, this]
  | [], y :: b => by
    have : ([] : List UInt8) < y :: b := List.nil_lt_cons y b
    simp [Op.bytesLess, this]
  | x :: a, y :: b => by
    rw [Op.bytesLess, blt a b]
    have := List.cons_lt_cons_iff (a := x) (b := y) (l₁ := a) (l₂ := b)
    by_cases h1 : x < y
    · simp [h1, this]
    · by_cases h2 : x = y
      · subst h2; simp [h1, this]
      · simp [h1, h2, this]
theorem ble (k last : List UInt8) : (Op.bytesLess k last || decide (k = last)) = !decide (last < k) := by
  rw [blt]
  rcases Fz k last with h | h | h
  · have h2 : ¬ last < k := fun q => List.lt_irrefl _ (List.lt_trans h q)
    simp [h, h2]
  · subst h
    simp [List.lt_irrefl]
  · have h2 : ¬ k < last := fun q => List.lt_irrefl _ (List.lt_trans h q)
    have h3 : k ≠ last := fun e => by subst e; exact List.lt_irrefl _ h
    simp [h, h2, h3]
theorem Ag {δ : Type} (k : Ky) (v : δ) : ∀ m : Mp δ, (∀ p ∈ m, p.1 < k) → mr m k v = m ++ [(k, v)]
  | [], _ => rfl
  | p :: r, h => by
    have h1 := h p List.mem_cons_self
    rw [mr, if_neg (fun e => by rw [e] at h1; exact List.lt_irrefl _ h1), if_neg (fun q => List.lt_irrefl _ (List.lt_trans h1 q)), Ag k v r (fun q hq => h q (List.mem_cons_of_mem _ hq))]
    rfl
abbrev US := List UInt8 × UInt64 × UInt64 × List UInt8
def fR (x : US) : List UInt8 × Int × UInt64 × List UInt8 := (x.1, aA x.2.1.toNat, x.2.2.1, x.2.2.2)
def fP (x : US) : List UInt8 × (List UInt8 × Int × UInt64) := (x.1, x.2.2.2, aA x.2.1.toNat, x.2.2.1)
def mg (acc : List US) : List UInt8 := ((acc.getLast?).map (·.1)).getD []
def Rs (acc : List US) : Prop := (acc.map (·.1)).Pairwise (· < ·)
theorem ug (acc : List US) (x : US) : mg (acc ++ [x]) = x.1 := by simp [mg]
theorem Rs.app {acc : List US} {x : US} (h : Rs acc) (hl : acc = [] ∨ mg acc < x.1) : Rs (acc ++ [x]) ∧ ∀ q ∈ acc, q.1 < x.1 := by
  have h2 : ∀ q ∈ acc, q.1 < x.1 := by
    intro q hq
    rcases List.eq_nil_or_concat acc with rfl | ⟨i, z, rfl⟩
    · cases hq
    · rcases hl with hl | hl
      · simp at hl
      · rw [List.concat_eq_append] at *
        rw [ug] at hl
        rcases List.mem_append.1 hq with hq | hq
        · unfold Rs at h
          rw [List.map_append, List.pairwise_append] at h
          exact List.lt_trans (h.2.2 q.1 (List.mem_map.2 ⟨q, hq, rfl⟩) z.1 (by simp)) hl
        · rw [List.mem_singleton.1 hq]; exact hl
  refine ⟨?_, h2⟩
  unfold Rs at h ⊢
  rw [List.map_append, List.pairwise_append]
  refine ⟨h, by simp, fun a ha b hb => ?_⟩
  obtain ⟨q, hq, rfl⟩ := List.mem_map.1 ha
  simp only [List.map_cons, List.map_nil, List.mem_singleton] at hb
  subst hb
  exact h2 q hq
def zg (most : Int) : List (List UInt8) → List US → Nat → Nat ⊕ List US
  | [], acc, i => .inr acc
  | [l], acc, i => if l = [] then .inr acc else .inl (i + 1)
  | l :: l' :: ls, acc, i => match lineS l most with
    | none => .inl (i + 1)
    | some u => if 1024 ≤ acc.length ∨ (acc ≠ [] ∧ ¬ mg acc < u.1) then .inl (i + 1) else zg most (l' :: ls) (acc ++ [u]) (i + 1)
def sU (K M P L T most : Int) : Int := if n_ K M P L T 16 ≠ 0 then n_ K M P L T 16 else if most < 1 ∨ 100 < most then 1 else 0
theorem Oy (K M P L T most : Int) (hold : UInt64) : lU K M P L T most hold = some (if sU K M P L T most ≠ 0 then .inl (sU K M P L T most) else .inr (K, M, P, L, T, most, hold, [])) := by
  unfold lU sU
  rw [Gx, Option.bind_some]
  rw [show (List.replicate (Int.toNat (16 : Int)) (0 : UInt8)).length = 16 from rfl]
  by_cases h : n_ K M P L T 16 = 0
  · rw [if_neg (fun q => q h), h]
    by_cases h2 : most < 1 ∨ 100 < most
    · rw [if_pos (by simpa using h2)]; simp [h2]
    · rw [if_neg (by simpa using h2)]; simp [h2]
  · rw [if_pos h]; simp [h]
theorem Jq (K M P L T most : Int) : lD K M P L T most = some (sU K M P L T most) := by
  unfold lD sU
  rw [Gy, Option.bind_some]
  rw [show (List.replicate (Int.toNat (16 : Int)) (0 : UInt8)).length = 16 from rfl]
  by_cases h : n_ K M P L T 16 = 0
  · rw [if_neg (fun q => q h), h]
    by_cases h2 : most < 1 ∨ 100 < most
    · rw [if_pos (by simpa using h2)]; simp [h2]
    · rw [if_neg (by simpa using h2)]; simp [h2]
  · rw [if_pos h]; simp [h]
end Go.Sx
namespace Go.Sx
open Go.RowKit
set_option linter.unusedVariables false
set_option linter.unusedSimpArgs false
def Eh (K M P L T most : Int) (hold : UInt64) : Nat ⊕ List US → (Int × Int) ⊕ (Int × Int × Int × Int × Int × Int × UInt64 × (List (List UInt8 × Int × UInt64 × List UInt8)))
  | .inl n => .inl ((n : Int), 4)
  | .inr ac => .inr (K, M, P, L, T, most, hold, ac.map fR)
theorem Jr (u : US) : rL (some u) = (u.1, aA u.2.1.toNat, u.2.2.1, u.2.2.2, true) := rfl
theorem Oz (acc : List US) (h : acc ≠ []) : ∃ z, bZ (acc.map fR) (((acc.length - 1 : Nat)) : Int) = some z ∧ z.1 = mg acc := by
  rcases List.eq_nil_or_concat acc with rfl | ⟨i, z, rfl⟩
  · exact absurd rfl h
  · rw [List.concat_eq_append]
    refine ⟨fR z, ?_, by rw [ug]; rfl⟩
    rw [List.map_append, List.length_append, List.length_singleton]
    exact Hu (by simp)
theorem Ah (K M P L T most : Int) (hold : UInt64) (ls : List (List UInt8)) (hls : ls.length ≤ 4194305) (hp : ∀ p ∈ ls, p.length ≤ 4194304) : ∀ (k : Nat) (acc : List US) (i : Nat), i + k = ls.length → acc.length ≤ i →
    aU (bn K M P L T most hold ls) (acc.map fR, (i : Int)) = some (Eh K M P L T most hold (zg most (ls.drop i) acc i)) := by
  intro k
  induction k with
  | zero =>
    intro acc i hi ha
    have e : bn K M P L T most hold ls (acc.map fR, (i : Int)) = some (.inr (Eh K M P L T most hold (.inr acc))) := by
      simp only [bn, f_, iy]
      rw [if_neg (by omega)]
      rfl
    rw [aC e, List.drop_of_length_le (by omega)]
    rfl
  | succ k ih =>
    intro acc i hi ha
    have hlt : i < ls.length := by omega
    have hd : ls.drop i = ls[i] :: ls.drop (i + 1) := List.drop_eq_getElem_cons hlt
    have hw : aA ((ls.length : Int) - 1) = ((ls.length - 1 : Nat) : Int) := by rw [gp (by omega)]; omega
    rw [hd]
    by_cases hlast : i = ls.length - 1
    · have hnil : ls.drop (i + 1) = [] := List.drop_of_length_le (by omega)
      rw [hnil]
      have hdec : decide ((i : Int) = ((ls.length - 1 : Nat) : Int)) = true := by simp; omega
      by_cases he : ls[i] = []
      · have e : bn K M P L T most hold ls (acc.map fR, (i : Int)) = some (.inr (Eh K M P L T most hold (.inr acc))) := by
          simp only [bn, f_, iy]
          rw [if_pos (by omega), hw, hdec, sQ _ rfl, bf hlt, Option.bind_some, if_pos (Gu rfl (by simpa using he))]
          rfl
        rw [aC e, zg, if_pos he]
      · have e : bn K M P L T most hold ls (acc.map fR, (i : Int)) = some (.inr (.inl (((i + 1 : Nat) : Int), 4))) := by
          simp only [bn, f_, iy]
          rw [if_pos (by omega), hw, hdec, sQ _ rfl, bf hlt, Option.bind_some, if_neg (MK (by simpa using he)), Option.bind_some, GN _ _ (hp _ (List.getElem_mem hlt)), Option.bind_some]
          rw [uO _ (by simp), Option.bind_some, if_pos (by simp), wS _ (by omega)]
          rfl
        rw [aC e, zg, if_neg he]
        rfl
    · have hdec : decide ((i : Int) = ((ls.length - 1 : Nat) : Int)) = false := by simp; omega
      obtain ⟨l', r', hr'⟩ : ∃ l' r', ls.drop (i + 1) = l' :: r' := ⟨ls[i + 1], ls.drop (i + 2), List.drop_eq_getElem_cons (by omega)⟩
      have base : bn K M P L T most hold ls (acc.map fR, (i : Int)) = ((kT (!(((!(rL (lineS ls[i] most)).2.2.2.2) || false) || (decide (1024 ≤ (((acc.map fR).length : Nat) : Int))))) (kT (decide (0 < (((acc.map fR).length : Nat) : Int))) (bZ (acc.map fR) (aA ((((acc.map fR).length : Nat) : Int) - 1))))).bind fun uJ => if ((((!(rL (lineS ls[i] most)).2.2.2.2) || false) || (decide (1024 ≤ (((acc.map fR).length : Nat) : Int)))) || ((decide (0 < (((acc.map fR).length : Nat) : Int))) && (Op.bytesLess (rL (lineS ls[i] most)).1 uJ.1 || decide ((rL (lineS ls[i] most)).1 = uJ.1)))) = true then (Option.map Sum.inr (some (Sum.inl (aA ((i : Int) + 1), (4 : Int))))) else ((app (acc.map fR) ([((rL (lineS ls[i] most)).1, (rL (lineS ls[i] most)).2.1, (rL (lineS ls[i] most)).2.2.1, (rL (lineS ls[i] most)).2.2.2.1)] : List (List UInt8 × Int × UInt64 × List UInt8)) 48).bind fun b3 => some (.inl (b3, aA ((i : Int) + 1))))) := by
        simp only [bn, f_, iy]
        rw [if_pos (by omega), hw, hdec, uO _ rfl, Option.bind_some, if_neg (JH rfl), bf hlt, Option.bind_some, GN _ _ (hp _ (List.getElem_mem hlt)), Option.bind_some]
      rw [hr']
      rcases hL : lineS ls[i] most with _ | u
      · have e : bn K M P L T most hold ls (acc.map fR, (i : Int)) = some (.inr (.inl (((i + 1 : Nat) : Int), 4))) := by
          rw [base, hL, uO _ (by simp [rL]), Option.bind_some, if_pos (by simp [rL]), wS _ (by omega)]
          rfl
        rw [aC e, zg, hL]
        rfl
      · rw [hL, Jr] at base
        by_cases h1 : 1024 ≤ acc.length
        · have e : bn K M P L T most hold ls (acc.map fR, (i : Int)) = some (.inr (.inl (((i + 1 : Nat) : Int), 4))) := by
            rw [base, uO _ (by simp; omega), Option.bind_some, if_pos (by simp; left; omega), wS _ (by omega)]
            rfl
          rw [aC e, zg, hL]
          simp only [h1, true_or, if_true]
          rfl
        · by_cases h2 : acc = []
          · subst h2
            have e : bn K M P L T most hold ls (([] : List US).map fR, (i : Int)) = some (.inl (([] ++ [u]).map fR, ((i + 1 : Nat) : Int))) := by
              rw [base, sQ _ (by simp), uO _ (by simp), Option.bind_some, if_neg (by simp), tH (by simp), Option.bind_some, wS _ (by omega)]
              rfl
            rw [bD e, ih ([] ++ [u]) (i + 1) (by omega) (by simp), zg, hL, hr']
            simp
          · obtain ⟨z, hz1, hz2⟩ := Oz acc h2
            have hne : 0 < acc.length := List.length_pos_iff.2 h2
            have hw2 : aA ((((acc.map fR).length : Nat) : Int) - 1) = ((acc.length - 1 : Nat) : Int) := by rw [List.length_map, gp (by omega)]; omega
            have hg : (kT (!(((!true) || false) || (decide (1024 ≤ (((acc.map fR).length : Nat) : Int))))) (kT (decide (0 < (((acc.map fR).length : Nat) : Int))) (bZ (acc.map fR) (aA ((((acc.map fR).length : Nat) : Int) - 1))))) = some z := by
              rw [hw2, hz1, sQ _ (by simp; omega), sQ _ (by simp; omega)]
            rw [hg, Option.bind_some, hz2, ble] at base
            by_cases h3 : mg acc < u.1
            · have e : bn K M P L T most hold ls (acc.map fR, (i : Int)) = some (.inl ((acc ++ [u]).map fR, ((i + 1 : Nat) : Int))) := by
                rw [base, if_neg (by simp [h3]; omega), tH (by simp; omega), Option.bind_some, wS _ (by omega), List.map_append]
                rfl
              rw [bD e, ih (acc ++ [u]) (i + 1) (by omega) (by simp; omega), zg, hL, hr']
              simp only [h1, h3, not_true_eq_false, and_false, or_false, if_false]
            · have e : bn K M P L T most hold ls (acc.map fR, (i : Int)) = some (.inr (.inl (((i + 1 : Nat) : Int), 4))) := by
                rw [base, if_pos (by simp [h3]; right; omega), wS _ (by omega)]
                rfl
              rw [aC e, zg, hL]
              simp only [h2, h3, not_false_eq_true, ne_eq, and_true, or_true, if_true]
              rfl
end Go.Sx
namespace Go.Sx
open Go.RowKit
set_option linter.unusedVariables false
set_option linter.unusedSimpArgs false
theorem GV (c : UInt8) (s : List UInt8) : ∃ x r, rH c s = x :: r := by
  rw [jc]
  split
  · exact ⟨_, _, rfl⟩
  · exact ⟨_, _, rfl⟩
theorem Js (c : UInt8) : ∀ (n : Nat) (s : List UInt8), s.length ≤ n → (rH c s).length ≤ s.length + 1 := by
  intro n
  induction n with
  | zero =>
    intro s hs
    have : s = [] := List.eq_nil_of_length_eq_zero (by omega)
    subst this
    rw [jc, if_neg (by simp)]
    simp
  | succ n ih =>
    intro s hs
    rw [jc]
    split
    · rename_i hm
      have h1 := wU hm
      have h2 := ih (u_ c s) (by omega)
      rw [List.length_cons]; omega
    · simp
theorem MW {a : List UInt8} (h : a ≠ []) : ([] : List UInt8) < a := by
  cases a with
  | nil => exact absurd rfl h
  | cons x l => exact List.nil_lt_cons x l
theorem Jt (u : US) : pL (some u) = (u.1, u.2.2.2, aA u.2.1.toNat, u.2.2.1, true) := rfl
def GX (r2 : Int × Int × Int × Int × Int × Int × UInt64 × (Mp (List UInt8 × Int × UInt64))) : Nat ⊕ List US → (Int × Int) ⊕ (Int × Int × Int × Int × Int × Int × UInt64 × (Mp (List UInt8 × Int × UInt64)))
  | .inl n => .inl ((n : Int), 4)
  | .inr ac => .inr (r2.1, r2.2.1, r2.2.2.1, r2.2.2.2.1, r2.2.2.2.2.1, r2.2.2.2.2.2.1, r2.2.2.2.2.2.2.1, ac.map fP)
theorem Ai (most : Int) (hmo : 1 ≤ most ∧ most ≤ 100) (r2 : Int × Int × Int × Int × Int × Int × UInt64 × (Mp (List UInt8 × Int × UInt64))) : ∀ (n : Nat) (text : List UInt8) (acc : List US) (i : Nat), text.length ≤ n → n + i ≤ 4194304 → Rs acc →
    aU (dE most r2) (text, acc.map fP, mg acc, ((i + 1 : Nat) : Int)) = some (GX r2 (zg most (rH 10 text) acc i)) := by
  intro n
  induction n with
  | zero =>
    intro text acc i hn hi hr
    have ht : text = [] := List.eq_nil_of_length_eq_zero (by omega)
    subst ht
    have e : dE most r2 (([] : List UInt8), acc.map fP, mg acc, ((i + 1 : Nat) : Int)) = some (.inr (GX r2 (.inr acc))) := by
      simp only [dE]
      rw [if_neg (fun q => q rfl)]
      rfl
    rw [aC e, jc, if_neg (by simp)]
    rfl
  | succ n ih =>
    intro text acc i hn hi hr
    by_cases ht : text = []
    · subst ht
      exact ih [] acc i (by simp) (by omega) hr
    · by_cases hm : (10 : UInt8) ∈ text
      · have h1 := GK 10 text
        have h2 := wU hm
        have base : dE most r2 (text, acc.map fP, mg acc, ((i + 1 : Nat) : Int)) = (if (((!true) || (!(pL (lineS (tw 10 text) most)).2.2.2.2)) || (Op.bytesLess (pL (lineS (tw 10 text) most)).1 (mg acc) || decide ((pL (lineS (tw 10 text) most)).1 = mg acc))) = true then (Option.map Sum.inr (some (Sum.inl (((i + 1 : Nat) : Int), (4 : Int))))) else (if 1024 ≤ (((acc.map fP).length : Nat) : Int) then (Option.map Sum.inr (some (Sum.inl (((i + 1 : Nat) : Int), (4 : Int))))) else (some (.inl (u_ 10 text, mr (acc.map fP) (pL (lineS (tw 10 text) most)).1 ((pL (lineS (tw 10 text) most)).2.1, (pL (lineS (tw 10 text) most)).2.2.1, (pL (lineS (tw 10 text) most)).2.2.2.1), (pL (lineS (tw 10 text) most)).1, aA (((i + 1 : Nat) : Int) + 1)))))) := by
          simp only [dE]
          rw [if_pos ht, JO text (by omega), if_pos hm, Option.bind_some, GR _ _ (by show (tw 10 text).length ≤ 4194304; omega), Option.bind_some]
        rw [ble] at base
        have hpc : rH 10 text = tw 10 text :: rH 10 (u_ 10 text) := by rw [jc, if_pos hm]
        obtain ⟨l', ls, hls⟩ := GV 10 (u_ 10 text)
        rw [hpc, hls, zg]
        rcases hL : lineS (tw 10 text) most with _ | u
        · rw [hL] at base
          have e := base.trans (if_pos (by simp [pL]))
          rw [aC e]
          rfl
        · rw [hL, Jt] at base
          have hne := (x9 (tw 10 text) most hmo (a := u.1) (t := u.2.1) (u := u.2.2.1) (d := u.2.2.2) hL).2.1
          simp only at base ⊢
          by_cases h3 : mg acc < u.1
          · rw [if_neg (by simp [h3])] at base
            by_cases h4 : 1024 ≤ acc.length
            · rw [if_pos (by rw [List.length_map]; omega)] at base
              rw [aC base, if_pos (.inl h4)]
              rfl
            · rw [if_neg (by rw [List.length_map]; omega)] at base
              obtain ⟨hr', hal⟩ := hr.app (.inr h3)
              rw [Ag u.1 _ (acc.map fP) (fun p hp => by obtain ⟨q, hq, rfl⟩ := List.mem_map.1 hp; exact hal q hq), wS (i + 1) (by omega)] at base
              have := ih (u_ 10 text) (acc ++ [u]) (i + 1) (by omega) (by omega) hr'
              rw [ug, List.map_append, hls] at this
              rw [bD base, if_neg (by simp [h3]; omega)]
              exact this
          · have hac : acc ≠ [] := fun e => h3 (by rw [e]; exact MW hne)
            rw [if_pos (by simp [h3])] at base
            rw [aC base, if_pos (.inr ⟨hac, h3⟩)]
            rfl
      · have e : dE most r2 (text, acc.map fP, mg acc, ((i + 1 : Nat) : Int)) = some (.inr (.inl (((i + 1 : Nat) : Int), 4))) := by
          simp only [dE]
          rw [if_pos ht, JO text (by omega), if_neg hm, Option.bind_some, GR _ _ (by show text.length ≤ 4194304; omega), Option.bind_some, if_pos (by simp)]
          rfl
        rw [aC e, jc, if_neg hm, zg, if_neg ht]
        rfl
theorem x_ {K M P L T most : Int} (h : sU K M P L T most = 0) : 1 ≤ most ∧ most ≤ 100 := by
  unfold sU at h
  split at h
  · rename_i q; exact absurd h q
  · split at h
    · cases h
    · omega
theorem BL (K M P L T most : Int) (hold : UInt64) (text : List UInt8) (hs : text.length ≤ 1048576) : lC K M P L T most hold text = some (if sU K M P L T most ≠ 0 then .inl (0, sU K M P L T most) else GX (K, M, P, L, T, most, hold, []) (zg most (rH 10 text) [] 0)) := by
  unfold lC
  rw [Oy, Option.bind_some]
  by_cases h : sU K M P L T most = 0
  · rw [if_neg (fun q => q h), if_neg (fun q => q h)]
    simp only [Sum.elim_inr]
    rw [if_neg (fun q => q rfl)]
    exact Ai most (x_ h) (K, M, P, L, T, most, hold, []) text.length text [] 0 (Nat.le_refl _) (by omega) List.Pairwise.nil
  · rw [if_pos h, if_pos h]
    simp only [Sum.elim_inl]
    rw [if_pos h]
theorem BM (K M P L T most : Int) (hold : UInt64) (text : List UInt8) (hs : text.length ≤ 1048576) : kX K M P L T most hold text = some (if sU K M P L T most ≠ 0 then .inl (0, sU K M P L T most) else Eh K M P L T most hold (zg most (rH 10 text) [] 0)) := by
  unfold kX
  rw [Jq, Option.bind_some]
  by_cases h : sU K M P L T most = 0
  · rw [if_neg (fun q => q h), if_neg (fun q => q h), Dh text 10 (by omega), Option.bind_some]
    have hc := Js 10 text.length text (Nat.le_refl _)
    exact Ah K M P L T most hold (rH 10 text) (by omega) (fun p hp => by have := Dj 10 text.length text (Nat.le_refl _) p hp; omega) (rH 10 text).length [] 0 (by omega) (Nat.le_refl _)
  · rw [if_pos h, if_pos h]
end Go.Sx
namespace Go.Sx
open Go.RowKit
set_option linter.unusedVariables false
set_option linter.unusedSimpArgs false
def wY (u : US) : List UInt8 := u.1 ++ [32] ++ Lib.decDigits u.2.1.toNat ++ [32] ++ Lib.decDigits u.2.2.1.toNat ++ [32] ++ u.2.2.2 ++ [10]
theorem GY (most : Int) (hmo : 1 ≤ most ∧ most ≤ 100) : ∀ (n : Nat) (text : List UInt8) (acc : List US) (i : Nat) (ac : List US), text.length ≤ n → Rs acc → zg most (rH 10 text) acc i = .inr ac →
    ∃ ex, ac = acc ++ ex ∧ (ex.map wY).flatten = text ∧ Rs ac ∧ ∀ q ∈ ex, q.2.1.toNat < 100 := by
  intro n
  induction n with
  | zero =>
    intro text acc i ac hn hr h
    have ht : text = [] := List.eq_nil_of_length_eq_zero (by omega)
    subst ht
    rw [jc, if_neg (by simp), zg, if_pos rfl] at h
    simp only [Sum.inr.injEq] at h
    subst h
    exact ⟨[], by simp, rfl, hr, fun q hq => by cases hq⟩
  | succ n ih =>
    intro text acc i ac hn hr h
    by_cases hm : (10 : UInt8) ∈ text
    · have h2 := wU hm
      have h3 := (uA hm).2.2
      obtain ⟨l', ls, hls⟩ := GV 10 (u_ 10 text)
      rw [jc, if_pos hm, hls, zg] at h
      rcases hL : lineS (tw 10 text) most with _ | u
      · rw [hL] at h; cases h
      · rw [hL] at h
        simp only at h
        split at h
        · cases h
        · rename_i hc
          have hb := x9 (tw 10 text) most hmo (a := u.1) (t := u.2.1) (u := u.2.2.1) (d := u.2.2.2) hL
          have hla : acc = [] ∨ mg acc < u.1 := by
            rcases Decidable.em (acc = []) with q | q
            · exact .inl q
            · right
              rcases Decidable.em (mg acc < u.1) with q2 | q2
              · exact q2
              · exact absurd (.inr ⟨q, q2⟩) hc
          rw [← hls] at h
          obtain ⟨ex, e1, e2, e3, e4⟩ := ih (u_ 10 text) (acc ++ [u]) (i + 1) ac (by omega) (hr.app hla).1 h
          refine ⟨u :: ex, by rw [e1]; simp, ?_, e3, fun q hq => ?_⟩
          · rw [List.map_cons, List.flatten_cons, e2, wY, hb.1]
            conv => rhs; rw [h3]
            simp
          · rcases List.mem_cons.1 hq with rfl | hq
            · exact hb.2.2
            · exact e4 q hq
    · rw [jc, if_neg hm, zg] at h
      split at h
      · rename_i ht
        simp only [Sum.inr.injEq] at h
        subst h
        exact ⟨[], by simp, by rw [ht]; rfl, hr, fun q hq => by cases hq⟩
      · cases h
theorem GZ (ac : List US) : ac.length ≤ ((ac.map wY).flatten).length := by
  induction ac with
  | nil => simp
  | cons u l ih =>
    simp only [List.map_cons, List.flatten_cons, List.length_cons, List.length_append, wY]
    omega
theorem Dl (ac : List US) : (ac.map fP).map (·.1) = ac.map (·.1) := by simp [fP, Function.comp_def]
theorem Ju (K M P L T most : Int) (hold : UInt64) (ac : List US) (hr : Rs ac) (hl : ac.length ≤ 1048576) : fJ K M P L T most hold (ac.map fP) = some (ac.map (·.1), K, M, P, L, T, most, hold) := by
  unfold fJ jO
  rw [Option.bind_some, jI (by rw [List.length_map]; omega), Option.bind_some, Dl]
  have : A7 (ac.map (·.1)) = ac.map (·.1) := by
    unfold A7
    refine List.mergeSort_of_pairwise ?_
    unfold Rs at hr
    exact hr.imp fun hab => decide_eq_true (List.le_of_lt hab)
  rw [this]
theorem BN (K M P L T most : Int) (hold : UInt64) (ac : List US) (hl : ac.length ≤ 1048576) : ∀ (k i : Nat), i + k = ac.length → aU (dB (ac.map (·.1)) K M P L T most hold (ac.map fR)) (i : Int) = some (true, K, M, P, L, T, most, hold, ac.map fR) := by
  intro k
  induction k with
  | zero =>
    intro i hi
    have e : dB (ac.map (·.1)) K M P L T most hold (ac.map fR) (i : Int) = some (.inr (true, K, M, P, L, T, most, hold, ac.map fR)) := by
      simp only [dB]
      rw [if_neg (by rw [List.length_map]; omega)]
      rfl
    rw [aC e]
  | succ k ih =>
    intro i hi
    have hlt : i < ac.length := by omega
    have e : dB (ac.map (·.1)) K M P L T most hold (ac.map fR) (i : Int) = some (.inl ((i + 1 : Nat) : Int)) := by
      simp only [dB]
      rw [if_pos (by rw [List.length_map]; omega), bf (by simpa using hlt), Option.bind_some, bf (by simpa using hlt), Option.bind_some, if_neg (by simp [fR]), wS _ (by omega)]
    rw [bD e, ih (i + 1) (by omega)]
theorem G5 (K M P L T most : Int) (hold : UInt64) (ac : List US) (hl : ac.length ≤ 1048576) : jE (ac.map (·.1)) K M P L T most hold (ac.map fR) = some (true, K, M, P, L, T, most, hold, ac.map fR) := by
  unfold jE
  rw [if_neg (by simp), show (0 : Int) = ((0 : Nat) : Int) from rfl, BN K M P L T most hold ac hl ac.length 0 (by omega)]
theorem MZ (u : US) (ht : u.2.1.toNat < 100) (hl : (wY u).length ≤ 1048576) : jh u.1 u.2.2.2 (aA u.2.1.toNat) u.2.2.1 = some (wY u) := by
  unfold jh
  have hw : aA (u.2.1.toNat : Int) = (u.2.1.toNat : Int) := gp (by omega)
  rw [hw, Jh]
  unfold wY at hl
  simp only [List.length_append, List.length_cons, List.length_nil] at hl
  rw [jI (by simp only [List.length_cons, List.length_nil]; omega), Option.bind_some, jI (by omega), Option.bind_some]
  rw [jI (by simp only [List.length_append, List.length_cons, List.length_nil]; omega), Option.bind_some, jI (by simp only [List.length_append, List.length_cons, List.length_nil]; omega), Option.bind_some]
  rw [jI (by simp only [List.length_append, List.length_cons, List.length_nil]; omega), Option.bind_some, jI (by simp only [List.length_append, List.length_cons, List.length_nil]; omega), Option.bind_some]
  rw [jI (by simp only [List.length_append, List.length_cons, List.length_nil]; omega), Option.bind_some, jI (by simp only [List.length_append, List.length_cons, List.length_nil]; omega), Option.bind_some]
  rfl
theorem Ei (ac : List US) (hr : Rs ac) (ht : ∀ q ∈ ac, q.2.1.toNat < 100) (hl : ((ac.map wY).flatten).length ≤ 1048576) (r : List (List UInt8) × Int × Int × Int × Int × Int × Int × UInt64) (h1 : r.1 = ac.map (·.1)) : ∀ (k i : Nat), i + k = ac.length →
    aU (cu (ac.map fP) r) (((ac.take i).map wY).flatten, (i : Int)) = some ((ac.map wY).flatten, r.2.1, r.2.2.1, r.2.2.2.1, r.2.2.2.2.1, r.2.2.2.2.2.1, r.2.2.2.2.2.2.1, r.2.2.2.2.2.2.2) := by
  have hac := GZ ac
  have TW : sW (ac.map fP) := by unfold sW; rw [Dl]; exact hr
  intro k
  induction k with
  | zero =>
    intro i hi
    have e : cu (ac.map fP) r (((ac.take i).map wY).flatten, (i : Int)) = some (.inr ((ac.map wY).flatten, r.2.1, r.2.2.1, r.2.2.2.1, r.2.2.2.2.1, r.2.2.2.2.2.1, r.2.2.2.2.2.2.1, r.2.2.2.2.2.2.2)) := by
      simp only [cu]
      rw [if_neg (by rw [h1, List.length_map]; omega), List.take_of_length_le (by omega)]
      rfl
    rw [aC e]
  | succ k ih =>
    intro i hi
    have hlt : i < ac.length := by omega
    have OA : ((ac.take (i + 1)).map wY).flatten = ((ac.take i).map wY).flatten ++ wY ac[i] := by
      rw [List.take_add_one, List.getElem?_eq_getElem hlt, Option.toList_some, List.map_append, List.flatten_append]
      simp only [List.map_cons, List.map_nil, List.flatten_cons, List.flatten_nil, List.append_nil]
    have hle : ((ac.take (i + 1)).map wY).flatten.length ≤ (ac.map wY).flatten.length := by
      have h : ac.map wY = (ac.take (i + 1)).map wY ++ (ac.drop (i + 1)).map wY := by rw [← List.map_append, List.take_append_drop]
      have h2 := congrArg (fun x => x.flatten.length) h
      simp only [List.flatten_append, List.length_append] at h2
      omega
    rw [OA, List.length_append] at hle
    have hf : lu (ac.map fP) ac[i].1 = some (fP ac[i]).2 := jK TW.nodup (List.mem_map.2 ⟨ac[i], List.getElem_mem hlt, rfl⟩)
    have e : cu (ac.map fP) r (((ac.take i).map wY).flatten, (i : Int)) = some (.inl (((ac.take (i + 1)).map wY).flatten, ((i + 1 : Nat) : Int))) := by
      simp only [cu]
      rw [if_pos (by rw [h1, List.length_map]; omega), h1, bf (by simpa using hlt), Option.bind_some, List.getElem_map, hf, Option.bind_some]
      simp only [Option.getD_some]
      rw [show (fP ac[i]).2 = (ac[i].2.2.2, aA ac[i].2.1.toNat, ac[i].2.2.1) from rfl]
      rw [MZ ac[i] (ht _ (List.getElem_mem hlt)) (by omega), Option.bind_some, jI (by omega), Option.bind_some, wS _ (by omega), OA]
    rw [bD e, ih (i + 1) (by omega)]
theorem uP (K M P L T most : Int) (hold : UInt64) (text : List UInt8) (hs : text.length ≤ 1048576) : jU K M P L T most hold text = some true := by
  unfold jU
  rw [BL K M P L T most hold text hs, Option.bind_some, BM K M P L T most hold text hs, GG]
  by_cases h : sU K M P L T most = 0
  · rw [if_neg (fun q => q h), if_neg (fun q => q h)]
    rcases hR : zg most (rH 10 text) [] 0 with n | ac
    · simp [GX, Eh]
    · obtain ⟨ex, e1, e2, e3, e4⟩ := GY most (x_ h) text.length text [] 0 ac (Nat.le_refl _) List.Pairwise.nil hR
      rw [List.nil_append] at e1
      rw [← e1] at e2 e4
      have hl := GZ ac
      rw [e2] at hl
      have hn := Ju K M P L T most hold ac e3 (by omega)
      have ho := G5 K M P L T most hold ac (by omega)
      have ht : iK K M P L T most hold (ac.map fP) = some (text, K, M, P, L, T, most, hold) := by
        unfold iK
        rw [hn, Option.bind_some]
        have := Ei ac e3 e4 (by rw [e2]; exact hs) (ac.map (·.1), K, M, P, L, T, most, hold) rfl ac.length 0 (by omega)
        rw [List.take_zero, e2] at this
        exact this
      simp only [GX, Eh, Sum.elim_inr, Option.bind_some]
      rw [if_neg (by decide)]
      rw [if_neg (by decide)]
      rw [hn, Option.bind_some, ho, Option.bind_some]
      rw [if_pos rfl, ht, Option.bind_some]
      simp
  · rw [if_pos h, if_pos h]
    simp
end Go.Sx
