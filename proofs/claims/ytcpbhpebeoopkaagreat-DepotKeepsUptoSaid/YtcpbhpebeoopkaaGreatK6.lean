import Derived.Test.YtcpbhpebeoopkaaGreatK5
namespace Go.Sx
open Go.RowKit Go.Proofs
set_option linter.unusedVariables false
set_option linter.unusedSimpArgs false
set_option maxRecDepth 20000
theorem lg {F O : Nat → Prop} {w : World} (wU : List UInt8) (eY : Bool) (iw : Bool) (size : Int) (nK : Nat) (lQ : Option Addr) (xg : Nat) (jM : Nat) (k : Cx F O w w [Bx 75 nK [sl lQ xg jM, .b eY, .b iw], Sh (SH e8) [(lQ, xg, jM)] [wU]]) (r : (Int × List UInt8 × Bool × Bool)) (hm : gI wU eY iw size = some r) :
    Calls Tryz.prog 34 (vals [pt nK 0, I size]) w (fun e w' => ∃ A n c, r.2.1.length = n ∧ e = .returned (SV.val (I r.1)) ∧ Cx F O w w' [Bx 75 nK [sl A n c, .b r.2.2.1, .b r.2.2.2], Sh (SH e8) [(A, n, c)] [r.2.1]]) := by
 unfold gI at hm
 obtain rfl := k.ig 1 rfl
 refine calls [pt nK 0, I size] Tryz.func34 rfl (of_decide_eq_true (by kernel_rfl)) ?_
 refine af <| bg [] .a qe (by kernel_rfl) ?_
 refine ae <| af <| ax <| aW 2 [] (.n 6 (pt nK 0) (.n 7 (I size) (.k .z))) qe (by kernel_rfl) ?_
 refine ai ?_
 have k_ := k.l7 1 rfl
 obtain ⟨r_, dV, hm⟩ := ob hm
 have dK := ((k_.pk (.t (.t .h))).pk (.t .h)).pk (.t (.t .h))
 obtain ⟨F1, O1, kin, hO, hre, hF, hb⟩ := dK.go (.i (.i (.r .e)))
 refine ay [] 8 _ Nh (by kernel_rfl) (tq (F := F1) (O := O1) _ _ _ _ _ _ _ _ kin _ dV) ?_
 rintro e_ w_ ⟨A0, _, c0, rfl, rfl, fF⟩
 have fM := hb w_ _ _ fF (.c (.c .n))
 refine ⟨I r_.1, rfl, ?_⟩
 have g_ := fM.bD (.kk .z)
 refine aW 1 [] (.n 5 (I r_.1) (.nG .a)) qe (by kernel_rfl) ?_
 refine ag <| ae <| af <| af <| bg [] (.n 15 (.b (decide (((r_.2.1.length : Nat) : Int) < r_.1))) .a) (qs nK 0 <| qs nK 0 <| qB g_ 0 rfl 0 (sl A0 r_.2.1.length c0) (by kernel_rfl) <| qe) (by kernel_rfl) ?_
 refine ae <| aZ (((r_.2.1.length : Nat) : Int) < r_.1) (by kernel_rfl) (fun hc => ?_) (fun hc => ?_)
 · rw [if_pos hc] at hm
   refine af <| ax <| aW 3 [] (.n 18 (pt nK 1) .z) (qs nK 0 <| qs nK 0 <| qe) (by kernel_rfl) ?_
   refine ai <| iQ [] 0 (.b true) [.b true] (Pt.at nK 1) g_ rfl (.k .h) (by kernel_rfl) (by kernel_rfl) ?_
   intro o9 gX
   refine ag <| ae <| af <| bg [] (.n 4 (I 0) .z) qe (by kernel_rfl) ?_
   refine ae <| aN (bz ?_)
   obtain rfl := Option.some.inj hm
   refine aO [I 0] qe (by kernel_rfl) ?_
   exact ⟨A0, r_.2.1.length, c0, gX.ig 1 rfl, rfl, gX⟩
 rw [if_neg hc] at hm
 refine aS <| ae <| af <| bg [] (.n 4 (I r_.1) .z) qe (by kernel_rfl) ?_
 refine ae <| aN ?_
 obtain rfl := Option.some.inj hm
 refine aO [I r_.1] qe (by kernel_rfl) ?_
 exact ⟨A0, r_.2.1.length, c0, g_.ig 1 rfl, rfl, g_⟩
theorem zI {F O : Nat → Prop} {w : World} (aY : Int) (ah : Mp (List UInt8)) (aj : Mp (Option (Mp (Int × List UInt8)))) (b : List UInt8) (eU : Nat) (ak : Nat) (au : Nat) (lN : Option Addr) (pX : Nat) (lZ : Nat) (sO : Ro F w lN (e8.all b)) (rO : b.length = pX) (uo : pX ≤ lZ) (k : Cx F O w w [Bx 82 eU [I aY, .v (.map (some ak)), .v (.map (some au))], MS (vH e8) ak ah, MS (vN (vS (eP eI eS) (bT bP bQ))) au aj]) (r : (List UInt8 × Int)) (hm : jK aY ah aj b = some r) :
    Calls Tryz.prog 51 (vals [pt eU 0, sl lN pX lZ]) w (fun e w' => e = .returned (SV.val (.s r.1)) ∧ Cx F O w w' [Bx 82 eU [I r.2, .v (.map (some ak)), .v (.map (some au))], MS (vH e8) ak ah, MS (vN (vS (eP eI eS) (bT bP bQ))) au aj]) := by
 unfold jK at hm
 subst rO
 refine calls [pt eU 0, sl lN b.length lZ] Tryz.func51 rfl (of_decide_eq_true (by kernel_rfl)) ?_
 refine af <| bg [] .a qe (by kernel_rfl) ?_
 refine ae <| af ?_
 have k_ := k.drew 1
 refine xQ bG (.q 9 0 (.q 0 1 (.q 1 1 (.q 2 1 (.q 3 0 (.q 4 0 (.q 5 1 (.q 6 1 (.q 7 0 (.q 8 0 (.op 10 (.q 11 1 (.q 12 1 (.q 13 1 (.q 14 1 (.q 15 1 .nil)))))))))))))))) [10] k_ (.c (.kk (.k .e)) .l) (by kernel_rfl) (fun _ => ?_)
 refine dG 1 0 [] (.n 17 (sl lN b.length lZ) (.k .z)) (fun x hx => qe) (by kernel_rfl) (fun _ => ?_)
 refine dG 3 1 [] (.n 10 (pt eU 0) .a) (fun x hx => qs eU 0 <| qs eU 0 <| qe) (by kernel_rfl) (fun _ => ?_)
 refine dG 2 0 [] (.n 12 (.agg [I aY, I 0, I 1, I 1, .u32 0, .u64 0, .u32 0, I 0, I 0, sl none 0 0, sl none 0 0]) (.s .a)) (fun x hx => qB hx 0 rfl 0 (I aY) (by kernel_rfl) <| qe) (by kernel_rfl) (fun _ => ?_)
 refine dG 2 1 [] (.n 14 (pt eU 0) (.kk .z)) (fun x hx => qs eU 0 <| qe) (by kernel_rfl) (fun _ => ?_)
 refine dG 2 0 [] (.n 16 (I aY) (.s .a)) (fun x hx => qs eU 0 <| qB hx 0 rfl 0 (I aY) (by kernel_rfl) <| qe) (by kernel_rfl) (fun _ => ?_)
 refine dw (by kernel_rfl) rfl ?_
 obtain ⟨r_, dV, hm⟩ := ob hm
 refine ay [] 18 _ Su (by kernel_rfl) (Ht (F := N0) (O := N0) _ _ _ _ _ _ _ _ _ _ _ _ _ _ _ _ _ _ _ _ _ _ _ _ _ _ _ _ (Ro.Qx e8) rfl (Nat.le_refl 0) (Ro.Qx e8) rfl (Nat.le_refl 0) (Ro.Qx e8) rfl (Nat.le_refl 0) (Ro.n0 (sO.cx k_)) rfl uo (Cx.refl _) _ dV) ?_
 rintro e_ w_ ⟨A, _, c, rfl, rfl, dK⟩
 have fF := k_.call dK
 refine ⟨.jc [sl A r_.1.length c, I r_.2], rfl, ?_⟩
 refine ⟨(fF.bD (.kk (.k .z))), fun _ => ?_⟩
 refine dG 5 1 [] (.n 5 (sl A r_.1.length c) .z) (fun x hx => qe) (by kernel_rfl) (fun _ => ?_)
 refine dP <| ae <| af <| bg [] (.n 4 (.s r_.1) .z) (qo (.s r_.1) <| qc (fun w => Rd w A (r_.1.map bV) ∧ r_.1.length = r_.1.length) ⟨uz r_.1 ▸ (fF.rd 3 rfl), (fF.len 3 rfl)⟩ <| qe) (by kernel_rfl) ?_
 refine ae <| aN ?_
 obtain rfl := Option.some.inj hm
 refine aO [.s r_.1] qe (by kernel_rfl) ?_
 have fM := fF.bD (.kk (.k .z))
 exact ⟨rfl, fM⟩
theorem ED {F O : Nat → Prop} {w : World} (wU : List UInt8) (eY : Bool) (iw : Bool) (aY : Int) (ah : Mp (List UInt8)) (aj : Mp (Option (Mp (Int × List UInt8)))) (nK : Nat) (lQ : Option Addr) (xg : Nat) (jM : Nat) (eU : Nat) (ak : Nat) (au : Nat) (k : Cx F O w w [Bx 75 nK [sl lQ xg jM, .b eY, .b iw], Sh (SH e8) [(lQ, xg, jM)] [wU], Bx 82 eU [I aY, .v (.map (some ak)), .v (.map (some au))], MS (vH e8) ak ah, MS (vN (vS (eP eI eS) (bT bP bQ))) au aj]) (r : (List UInt8 × Bool × Bool × Int × Mp (List UInt8))) (hm : ng wU eY iw aY ah aj = some r) :
    Calls Tryz.prog 33 (vals [pt nK 0, pt eU 0]) w (fun e w' => ∃ A n c, r.1.length = n ∧ e = .returned (SV.val (.jc [])) ∧ Cx F O w w' [Bx 75 nK [sl A n c, .b r.2.1, .b r.2.2.1], Sh (SH e8) [(A, n, c)] [r.1], Bx 82 eU [I r.2.2.2.1, .v (.map (some ak)), .v (.map (some au))], MS (vH e8) ak r.2.2.2.2, MS (vN (vS (eP eI eS) (bT bP bQ))) au aj]) := by
 unfold ng at hm
 obtain rfl := k.ig 1 rfl
 refine calls [pt nK 0, pt eU 0] Tryz.func33 rfl (of_decide_eq_true (by kernel_rfl)) ?_
 refine af <| bg [] (.n 4 (.s ([] : List UInt8)) .a) qe (by kernel_rfl) ?_
 refine ae <| af <| ax <| aW 1 [] (.n 8 (pt nK 0) .a) qe (by kernel_rfl) ?_
 refine ai ?_
 have k_ := k.l7 1 rfl
 obtain ⟨r_, dV, hm⟩ := ob hm
 have dK := (((((k_.pk (.t (.t (.t (.t (.t .h)))))).pk (.t (.t (.t (.t (.t .h)))))).pk (.t (.t (.t (.t (.t .h)))))).pk (.t (.t (.t (.t (.t .h)))))).pk (.t (.t (.t (.t .h))))).pk (.t (.t (.t (.t (.t .h)))))
 obtain ⟨F1, O1, kin, hO, hre, hF, hb⟩ := dK.go (.i (.i (.r (.r (.r (.r .e))))))
 refine ay [] 9 _ Ak (by kernel_rfl) (lg (F := F1) (O := O1) _ _ _ _ _ _ _ _ kin _ dV) ?_
 rintro e_ w_ ⟨A0, _, c0, rfl, rfl, fF⟩
 have fM := hb w_ _ _ fF (.c (.c .n))
 refine ⟨I r_.1, rfl, ?_⟩
 have g_ := fM.bD (.kk (.s (.kk (.k .e))))
 refine aW 1 [] (.n 10 (I 0) (.k (.s .a))) qe (by kernel_rfl) ?_
 refine ag <| ae <| aJ <| pg (kP aj r_) (fun s L wr => ∃ (p : List UInt8) (p1 : Bool) (p2 : Bool) (d : Int) (uY : Mp (List UInt8)) (last : List UInt8) (aC : Int) (A1 : Option Addr) (n0 : Nat) (c1 : Nat), (p, p1, p2, d, uY, last, aC) = s ∧ L = [(0, pt nK 0), (1, pt eU 0), (4, .s last), (9, I r_.1), (10, I aC)] ∧ p.length = n0 ∧ Cx F O w wr [Bx 75 nK [sl A1 n0 c1, .b p1, .b p2], Sh (SH e8) [(A1, n0, c1)] [p], Bx 82 eU [I d, .v (.map (some ak)), .v (.map (some au))], MS (vH e8) ak uY, MS (vN (vS (eP eI eS) (bT bP bQ))) au aj]) (r_.2.1, r_.2.2.1, r_.2.2.2, aY, ah, ([] : List UInt8), (0 : Int)) r hm ⟨r_.2.1, r_.2.2.1, r_.2.2.2, aY, ah, ([] : List UInt8), (0 : Int), A0, r_.2.1.length, c0, rfl, rfl, g_.ig 1 rfl, g_⟩ (by kernel_rfl) ?_
 intro BU L_ o9 y0 hrel hstep hr0
 obtain ⟨p, p1, p2, d, uY, last, aC, A1, _, c1, rfl, rfl, rfl, gX⟩ := hrel
 have hm := hstep; simp only [kP] at hm
 clear hstep
 refine af <| bg [] (.n 11 (.b (decide (aC < r_.1))) .a) qe (by kernel_rfl) ?_
 refine ae <| af <| aZ (aC < r_.1) (by kernel_rfl) (fun hc => ?_) (fun hc => ?_)
 · rw [if_pos hc] at hm
   refine aS <| ae <| vG (fun L wr => ∃ (p3 : List UInt8) (p4 : Bool) (p5 : Bool) (d1 : Int) (vX : Mp (List UInt8)) (Jh : List UInt8) (A2 : Option Addr) (n1 : Nat) (c2 : Nat), nD aC p3 p4 p5 d1 vX Jh = some y0 ∧ L = [(0, pt nK 0), (1, pt eU 0), (4, .s Jh), (9, I r_.1), (10, I aC)] ∧ p3.length = n1 ∧ Cx F O w wr [Bx 75 nK [sl A2 n1 c2, .b p4, .b p5], Sh (SH e8) [(A2, n1, c2)] [p3], Bx 82 eU [I d1, .v (.map (some ak)), .v (.map (some au))], MS (vH e8) ak vX, MS (vN (vS (eP eI eS) (bT bP bQ))) au aj]) ?_ ?_
   ·
    refine Qs (fun L wr => ∃ (p6 : List UInt8) (p7 : Bool) (p8 : Bool) (d2 : Int) (y8 : Mp (List UInt8)) (last2 : List UInt8) (A3 : Option Addr) (n2 : Nat) (c3 : Nat), kN aC p6 p7 p8 d2 y8 last2 = some y0 ∧ L = [(0, pt nK 0), (1, pt eU 0), (4, .s last2), (9, I r_.1), (10, I aC)] ∧ p6.length = n2 ∧ Cx F O w wr [Bx 75 nK [sl A3 n2 c3, .b p7, .b p8], Sh (SH e8) [(A3, n2, c3)] [p6], Bx 82 eU [I d2, .v (.map (some ak)), .v (.map (some au))], MS (vH e8) ak y8, MS (vN (vS (eP eI eS) (bT bP bQ))) au aj]) ?_ ?_
    ·
     refine af <| bg [] (.n 5 (I aC) (.s .a)) qe (by kernel_rfl) ?_
     refine ae <| af <| af <| bg [] (.n 16 (.b p1) .a) (qs nK 0 <| qs nK 0 <| qB gX 0 rfl 1 (.b p1) (by kernel_rfl) <| qe) (by kernel_rfl) ?_
     refine ae <| bC p1 (by kernel_rfl) (fun hc1 => ?_) (fun hc1 => ?_)
     · rw [if_pos hc1] at hm
       refine aN (bz (fA (bz (bz (bz (fA ?_))))))
       have hm := cO hm hr0
       obtain rfl := Option.some.inj hm
       refine aO [] qe (by kernel_rfl) ?_
       exact ⟨A1, p.length, c1, gX.ig 1 rfl, rfl, gX⟩
     rw [if_neg (by rw [hc1]; decide)] at hm
     refine aS <| ae <| af <| ax <| aW 2 [] (.n 17 (pt nK 0) (.n 18 (pt nK 0) (.s .a))) qe (by kernel_rfl) ?_
     refine ai ?_
     have jb := gX.l7 1 rfl
     obtain ⟨aQ, fG, hm⟩ := ob hm
     have jf := (((((jb.pk (.t (.t (.t (.t (.t .h)))))).pk (.t (.t (.t (.t (.t .h)))))).pk (.t (.t (.t (.t (.t .h)))))).pk (.t (.t (.t (.t (.t .h)))))).pk (.t (.t (.t (.t .h))))).pk (.t (.t (.t (.t (.t .h)))))
     obtain ⟨F11, H7, wX, TU, Gx, hF1, hb1⟩ := jf.go (.i (.i (.r (.r (.r (.r .e))))))
     refine ay [] 19 _ Ak (by kernel_rfl) (lg (F := F11) (O := H7) _ _ _ _ _ _ _ _ wX _ fG) ?_
     rintro e_ sZ ⟨A4, _, c4, rfl, rfl, jQ⟩
     have jS := hb1 sZ _ _ jQ (.c (.c .n))
     refine ⟨I aQ.1, rfl, ?_⟩
     have dJ := jS.bD (.kk (.s (.kk (.k .e))))
     refine ai ?_
     have dB := dJ.l7 1 rfl
     obtain ⟨bI, kz, hm⟩ := ob hm
     have gz := (((((dB.pk (.t (.t (.t (.t (.t .h)))))).pk (.t (.t (.t (.t (.t .h)))))).pk (.t (.t (.t (.t (.t .h)))))).pk (.t (.t (.t (.t (.t .h)))))).pk (.t (.t (.t (.t .h))))).pk (.t (.t (.t (.t (.t .h)))))
     obtain ⟨TV, TW, Gz, hO2, TY, hF2, hb2⟩ := gz.go (.i (.i (.r (.r (.r (.r .e))))))
     refine ay [] 20 _ CU (by kernel_rfl) (mV (F := TV) (O := TW) _ _ _ _ _ _ _ _ Gz _ kz) ?_
     rintro e_ xk ⟨A5, _, c5, A6, _, c6, rfl, rfl, rfl, iI⟩
     have iJ := hb2 xk _ _ iI (.c (.c (.c .n)))
     refine ⟨sl A5 bI.1.length c5, rfl, ?_⟩
     have iK := iJ.bD (.kk (.k (.s (.kk (.k .e)))))
     refine ai ?_
     have iG := iK.nil e8
     obtain ⟨b, sO, hm⟩ := ob hm
     obtain ⟨hz, hl⟩ := fO sO
     refine dL (E := e8) (v := sl A5 bI.1.length c5) (ys := bI.1) dW [] 21 6 (by kernel_rfl) iG rfl (Src.sl (iG.J7 0 rfl) (iG.ig 0 rfl) (by rfl)) (iG.ig 0 rfl) (by have := iG.len 6 rfl; have := (iG.ig 0 rfl); omega) ?_
     intro A7 c7 xB je
     rw [← hl] at je
     have ku := je.bD (.s (.bH (.kk .e)))
     refine aW 1 [] (.n 6 (sl A7 (0 + bI.1.length) c7) (.kJ (.s .a))) qe (by kernel_rfl) ?_
     refine ag <| ae <| af <| ax <| aW 9 [] (.n 22 (pt nK 0) (.n 30 (.b ((decide (1 ≤ ((0 + bI.1.length : Nat) : Int))) && (decide (((0 + bI.1.length : Nat) : Int) ≤ 1024)))) .a)) qe (by kernel_rfl) ?_
     refine ai ?_
     have oq := ku.l7 1 rfl
     obtain ⟨dN, qL, hm⟩ := ob hm
     have jL := ((((((oq.pk (.t (.t (.t (.t (.t (.t .h))))))).pk (.t (.t (.t (.t (.t (.t .h))))))).pk (.t (.t (.t (.t (.t (.t .h))))))).pk (.t (.t (.t (.t (.t (.t .h))))))).pk (.t (.t (.t (.t (.t (.t .h))))))).pk (.t (.t (.t (.t (.t .h)))))).pk (.t (.t (.t (.t (.t (.t .h))))))
     obtain ⟨X8, X9, Kq, hO3, V7, hF3, hb3⟩ := jL.go (.i (.i (.r (.r (.r (.r (.r .e)))))))
     refine ay [] 31 _ Aj (by kernel_rfl) (kZ (F := X8) (O := X9) _ _ _ _ _ _ _ _ Kq _ qL) ?_
     rintro e_ y5 ⟨A8, _, c8, rfl, rfl, mQ⟩
     have oM := hb3 y5 _ _ mQ (.c (.c .n))
     refine ⟨.jc [], rfl, ?_⟩
     have oN := oM.bD (.kk (.s (.bH .e)))
     refine ag <| ae <| af <| af <| bg [] (.n 41 (.b (dN.2.2 || dN.2.1)) (.nG .a)) (qs nK 0 <| qs nK 0 <| qB oN 0 rfl 2 (.b dN.2.2) (by kernel_rfl) <| qp (dN.2.2 = false → (some ⟨nK, 0, none⟩ : Option Addr).isSome = true) (fun hg0 => rfl) <| qp (dN.2.2 = false → (some ⟨nK, 0, none⟩ : Option Addr).isSome = true) (fun hg0 => rfl) <| qo (.b dN.2.1) <| qc (fun w => dN.2.2 = false → ∃ a, (some ⟨nK, 1, none⟩ : Option Addr) = some a ∧ w.cell? a = some (SV.val (.b dN.2.1))) (fun hg0 => oN.XG 0 rfl 1 (.b dN.2.1) (by kernel_rfl)) <| qe) (by kernel_rfl) ?_
     refine ae <| bC (dN.2.2 || dN.2.1) (by kernel_rfl) (fun hc2 => ?_) (fun hc2 => ?_)
     · rw [if_pos hc2] at hm
       refine dY (bU (iL ?_))
       have ni := oN.bD (.bH (.k .z))
       exact oJ ⟨dN.1, dN.2.1, dN.2.2, d, uY, last, A8, dN.1.length, c8, hm, rfl, ni.ig 1 rfl, ni⟩ (by kernel_rfl)
     rw [if_neg (by rw [hc2]; decide)] at hm
     refine aS <| ae <| af <| ax <| aW 2 [] (.n 42 (pt eU 0) (.n 43 (sl A7 (0 + bI.1.length) c7) (.s .a))) qe (by kernel_rfl) ?_
     refine ai ?_
     have nY := oN.bD (.bH (.kk .e))
     obtain ⟨ja, vk, hm⟩ := ob hm
     obtain ⟨F14, O14, QX, hO4, Yg, hF4, hb4⟩ := nY.go (.r (.r (.i (.i (.i (.r .e))))))
     refine ay [] 44 _ Sm (by kernel_rfl) (zI (F := F14) (O := O14) _ _ _ _ _ _ _ _ _ _ (Ro.of_rest Yg 2 rfl) (nY.len 5 rfl) (nY.EH 5 rfl) QX _ vk) ?_
     rintro e_ CW ⟨rfl, pM⟩
     have ve := hb4 CW _ _ pM (.c (.c (.c .n)))
     refine ⟨.s ja.1, rfl, ?_⟩
     refine aW 1 [] (.n 7 (.s ja.1) (.nG .a)) qe (by kernel_rfl) ?_
     refine ag <| ae <| af <| ax <| aW 8 [] (.n 45 (pt nK 0) (.n 52 (.b ((decide (aC = 0)) || (!(Op.bytesLess ja.1 last || decide (ja.1 = last))))) (.kk (.s (.kk (.s .a)))))) qe (by kernel_rfl) ?_
     refine ai ?_
     have qH := ve.l7 4 rfl
     obtain ⟨iO, wY, hm⟩ := ob hm
     have uq := ((((((qH.pk (.t (.t (.t (.t (.t (.t .h))))))).pk (.t (.t (.t (.t (.t (.t .h))))))).pk (.t (.t (.t (.t (.t .h)))))).pk (.t (.t (.t (.t (.t .h)))))).pk (.t (.t (.t (.t (.t .h)))))).pk (.t (.t (.t (.t (.t .h)))))).pk (.t (.t (.t (.t (.t (.t .h))))))
     obtain ⟨F15, O15, QY, hO5, hre5, hF5, hb5⟩ := uq.go (.i (.i (.r (.r (.r (.r (.r .e)))))))
     refine ay [] 53 _ Aj (by kernel_rfl) (kZ (F := F15) (O := O15) _ _ _ _ _ _ _ _ QY _ wY) ?_
     rintro e_ Du ⟨A9, _, c9, rfl, rfl, uu⟩
     have zH := hb5 Du _ _ uu (.c (.c .n))
     refine ⟨.jc [], rfl, ?_⟩
     have GH := zH.bD (.bH (.k (.s (.k .e))))
     refine ag <| ae <| af <| bg [] (.n 4 (.s ja.1) (.nG .a)) qe (by kernel_rfl) ?_
     refine ae <| ax <| aW 6 [] (.n 58 (.v (.map (some ak))) (.n 59 (.s ja.1) (.n 60 (sl A7 (0 + bI.1.length) c7) (.k (.ss .a))))) (qs eU 0 <| qs eU 0 <| qB GH 2 rfl 1 (.v (.map (some ak))) (by kernel_rfl) <| qe) (by kernel_rfl) ?_
     refine ai ?_
     have Dw := (((((GH.pk (.t (.t (.t (.t .h))))).pk (.t (.t (.t (.t .h))))).pk (.t (.t (.t (.t .h))))).pk (.t (.t (.t (.t .h))))).pk (.t (.t (.t (.t .h))))).pk (.t (.t (.t (.t (.t .h)))))
     have FM := Dw.share
     have Jo := FM.l7 0 rfl
     have H9 := ((((((Jo.pk (.t (.t (.t (.t (.t (.t .h))))))).pk (.t (.t (.t (.t (.t .h)))))).pk (.t (.t (.t (.t (.t .h)))))).pk (.t (.t (.t (.t (.t .h)))))).pk (.t (.t (.t (.t (.t .h)))))).pk (.t (.t (.t (.t (.t .h)))))).pk (.t (.t (.t (.t (.t (.t .h))))))
     refine yM (kt := 9) (e := 22) (v := (vH e8)) (key := ja.1) (u := (A7, 0 + bI.1.length, c7)) (a := b) [] (by kernel_rfl) H9 ?_
     intro Jn H_
     refine ag <| gm ?_
     have GI := (((((H_.pk (.t (.t (.t (.t (.t .h)))))).pk (.t .h)).pk (.t (.t (.t (.t (.t .h)))))).pk (.t (.t (.t (.t (.t .h)))))).pk (.t (.t (.t (.t (.t .h)))))).bD (.bH (.k .z))
     exact oJ ⟨iO.1, iO.2.1, iO.2.2, ja.2, dD uY ja.1 b, ja.1, A9, iO.1.length, c9, hm, rfl, GI.ig 1 rfl, GI⟩ (by kernel_rfl)
    rintro L_ JW ⟨p6, p7, p8, d2, y8, last2, A3, _, c3, hm, rfl, rfl, qK⟩
    simp only [kN] at hm
    exact oJ ⟨p6, p7, p8, d2, y8, last2, A3, p6.length, c3, hm, rfl, qK.ig 1 rfl, qK⟩ (by kernel_rfl)
   rintro L_ BV ⟨p3, p4, p5, d1, vX, Jh, A2, _, c2, hm, rfl, rfl, GK⟩
   simp only [nD] at hm
   refine bg [] (.n 10 (I (aI (aC + 1))) (.bH .z)) qe (by kernel_rfl) ?_
   exact jU (p3, p4, p5, d1, vX, Jh, aI (aC + 1)) (Option.some.inj hm).symm ⟨p3, p4, p5, d1, vX, Jh, aI (aC + 1), A2, p3.length, c2, rfl, rfl, GK.ig 1 rfl, GK⟩ (by kernel_rfl)
 rw [if_neg hc] at hm
 refine dY (bU (bU (iL ?_)))
 have hm := cO hm hr0
 obtain rfl := Option.some.inj hm
 refine xY [] qe (by kernel_rfl) ?_
 exact ⟨A1, p.length, c1, gX.ig 1 rfl, rfl, gX⟩
theorem FW {F O : Nat → Prop} {w : World} (wU : List UInt8) (eY : Bool) (iw : Bool) (size : Int) (nK : Nat) (lQ : Option Addr) (xg : Nat) (jM : Nat) (k : Cx F O w w [Bx 75 nK [sl lQ xg jM, .b eY, .b iw], Sh (SH e8) [(lQ, xg, jM)] [wU]]) (r : (List UInt8 × Bool × Bool) ⊕ ((Mp (Int × List UInt8)) × List UInt8 × Bool × Bool)) (hm : nV wU eY iw size = some r) :
    Calls Tryz.prog 36 (vals [pt nK 0, I size]) w (fun e w' => match r with | .inl r0 => ∃ A n c, r0.1.length = n ∧ e = .returned (SV.val (.v (.map none))) ∧ Cx F O w w' [Bx 75 nK [sl A n c, .b r0.2.1, .b r0.2.2], Sh (SH e8) [(A, n, c)] [r0.1]] | .inr r1 => ∃ b A1 n1 c1, r1.2.1.length = n1 ∧ e = .returned (SV.val (.v (.map (some b)))) ∧ Cx F O w w' [MS (vS (eP eI eS) (bT bP bQ)) b r1.1, Bx 75 nK [sl A1 n1 c1, .b r1.2.2.1, .b r1.2.2.2], Sh (SH e8) [(A1, n1, c1)] [r1.2.1]]) := by
 unfold nV at hm
 obtain rfl := k.ig 1 rfl
 refine calls [pt nK 0, I size] Tryz.func36 rfl (of_decide_eq_true (by kernel_rfl)) ?_
 refine af <| bg [] .a qe (by kernel_rfl) ?_
 refine ae <| af <| ax <| ai <| uB [] 12 (by kernel_rfl) k ?_
 intro b0 w_ k_
 have dK := k_.zY (v := (vS (eP eI eS) (bT bP bQ)))
 refine aW 1 [] (.n 5 (.v (.map (some b0))) (.s .a)) qe (by kernel_rfl) ?_
 refine ag <| ae <| af <| ax <| aW 1 [] (.n 13 (pt nK 0) .a) qe (by kernel_rfl) ?_
 refine ai ?_
 have fF := dK.l7 2 rfl
 obtain ⟨r_, dV, hm⟩ := ob hm
 have fM := (((fF.pk (.t (.t (.t .h)))).pk (.t (.t .h))).pk (.t (.t .h))).pk (.t (.t (.t .h)))
 obtain ⟨F1, O1, kin, hO, hre, hF, hb⟩ := fM.go (.i (.i (.r (.r .e))))
 refine ay [] 14 _ Ak (by kernel_rfl) (lg (F := F1) (O := O1) _ _ _ _ _ _ _ _ kin _ dV) ?_
 rintro e_ o9 ⟨A0, _, c0, rfl, rfl, g_⟩
 have gX := hb o9 _ _ g_ (.c (.c .n))
 refine ⟨I r_.1, rfl, ?_⟩
 have jb := gX.bD (.kk (.k .z))
 refine aW 1 [] (.n 6 (I r_.1) (.ss .a)) qe (by kernel_rfl) ?_
 refine ag <| ae <| af <| ax <| aW 3 [] (.n 15 (pt nK 0) (.n 17 (.b (decide (r_.1 ≤ 256))) .a)) qe (by kernel_rfl) ?_
 refine ai ?_
 have jf := jb.l7 1 rfl
 obtain ⟨aQ, fG, hm⟩ := ob hm
 have jQ := (((jf.pk (.t (.t (.t .h)))).pk (.t (.t (.t .h)))).pk (.t (.t .h))).pk (.t (.t (.t .h)))
 obtain ⟨F11, H7, wX, TU, Gx, hF1, hb1⟩ := jQ.go (.i (.i (.r (.r .e))))
 refine ay [] 18 _ Aj (by kernel_rfl) (kZ (F := F11) (O := H7) _ _ _ _ _ _ _ _ wX _ fG) ?_
 rintro e_ sZ ⟨A2, _, c2, rfl, rfl, jS⟩
 have dJ := hb1 sZ _ _ jS (.c (.c .n))
 refine ⟨.jc [], rfl, ?_⟩
 have dB := dJ.bD (.kk (.s (.k .e)))
 refine ag <| ae <| af <| bg [] (.n 7 (.s ([] : List UInt8)) (.nG .a)) qe (by kernel_rfl) ?_
 refine ae <| af <| af <| bg [] (.n 19 (I r_.1) (.n 20 (I 0) (.k (.s .a)))) qe (by kernel_rfl) ?_
 refine ae <| aJ <| pg (lL size r_) (fun s L wr => ∃ (p : List UInt8) (p1 : Bool) (p2 : Bool) (uY : Mp (Int × List UInt8)) (last : List UInt8) (aC : Int) (A3 : Option Addr) (n0 : Nat) (c3 : Nat), (p, p1, p2, uY, last, aC) = s ∧ L = [(0, pt nK 0), (1, I size), (5, .v (.map (some b0))), (7, .s last), (19, I r_.1), (20, I aC)] ∧ p.length = n0 ∧ Cx F O w wr [Bx 75 nK [sl A3 n0 c3, .b p1, .b p2], Sh (SH e8) [(A3, n0, c3)] [p], MS (vS (eP eI eS) (bT bP bQ)) b0 uY]) (aQ.1, aQ.2.1, aQ.2.2, ([] : Mp (Int × List UInt8)), ([] : List UInt8), (0 : Int)) r hm ⟨aQ.1, aQ.2.1, aQ.2.2, ([] : Mp (Int × List UInt8)), ([] : List UInt8), (0 : Int), A2, aQ.1.length, c2, rfl, rfl, dB.ig 1 rfl, dB⟩ (by kernel_rfl) ?_
 intro BU L_ xk y0 hrel hstep hr0
 obtain ⟨p, p1, p2, uY, last, aC, A3, _, c3, rfl, rfl, rfl, gz⟩ := hrel
 have hm := hstep; simp only [lL] at hm
 clear hstep
 refine af <| bg [] (.n 21 (.b (decide (aC < r_.1))) .a) qe (by kernel_rfl) ?_
 refine ae <| af <| aZ (aC < r_.1) (by kernel_rfl) (fun hc => ?_) (fun hc => ?_)
 · rw [if_pos hc] at hm
   refine aS <| ae <| af <| aJ <| af <| bg [] (.n 8 (I aC) (.s .a)) qe (by kernel_rfl) ?_
   refine ae <| af <| af <| bg [] (.n 26 (.b p1) .a) (qs nK 0 <| qs nK 0 <| qB gz 0 rfl 1 (.b p1) (by kernel_rfl) <| qe) (by kernel_rfl) ?_
   refine ae <| bC p1 (by kernel_rfl) (fun hc1 => ?_) (fun hc1 => ?_)
   · rw [if_pos hc1] at hm
     refine af <| bg [] (.n 4 (.v (.map none)) .z) qe (by kernel_rfl) ?_
     refine ae <| aN (bz (fA (bz (bz (fA (bz ?_))))))
     have hm := cO hm hr0
     obtain rfl := Option.some.inj hm
     refine aO [.v (.map none)] qe (by kernel_rfl) ?_
     have iI := gz.bD (.kk .z)
     exact ⟨A3, p.length, c3, iI.ig 1 rfl, rfl, iI⟩
   rw [if_neg (by rw [hc1]; decide)] at hm
   refine aS <| ae <| af <| ax <| aW 2 [] (.n 27 (pt nK 0) (.n 28 (pt nK 0) (.s .a))) qe (by kernel_rfl) ?_
   refine ai ?_
   have iJ := gz.l7 1 rfl
   obtain ⟨bI, kz, hm⟩ := ob hm
   have iK := (((iJ.pk (.t (.t (.t .h)))).pk (.t (.t (.t .h)))).pk (.t (.t .h))).pk (.t (.t (.t .h)))
   obtain ⟨TV, TW, Gz, hO2, TY, hF2, hb2⟩ := iK.go (.i (.i (.r (.r .e))))
   refine ay [] 29 _ Ak (by kernel_rfl) (lg (F := TV) (O := TW) _ _ _ _ _ _ _ _ Gz _ kz) ?_
   rintro e_ xB ⟨A4, _, c4, rfl, rfl, iG⟩
   have je := hb2 xB _ _ iG (.c (.c .n))
   refine ⟨I bI.1, rfl, ?_⟩
   have ku := je.bD (.kk (.s (.k .e)))
   refine ai ?_
   have oq := ku.l7 1 rfl
   obtain ⟨dN, qL, hm⟩ := ob hm
   have jL := (((oq.pk (.t (.t (.t .h)))).pk (.t (.t (.t .h)))).pk (.t (.t .h))).pk (.t (.t (.t .h)))
   obtain ⟨X8, X9, Kq, hO3, V7, hF3, hb3⟩ := jL.go (.i (.i (.r (.r .e))))
   refine ay [] 30 _ CU (by kernel_rfl) (mV (F := X8) (O := X9) _ _ _ _ _ _ _ _ Kq _ qL) ?_
   rintro e_ y5 ⟨A5, _, c5, A6, _, c6, rfl, rfl, rfl, mQ⟩
   have oM := hb3 y5 _ _ mQ (.c (.c (.c .n)))
   refine ⟨sl A5 dN.1.length c5, rfl, ?_⟩
   have oN := oM.bD (.kk (.k (.s (.k .e))))
   refine aW 2 [] (.n 9 (.s dN.1) (.kJ .a)) (qo (.s dN.1) <| qc (fun w => Rd w A5 (dN.1.map bV) ∧ dN.1.length = dN.1.length) ⟨uz dN.1 ▸ (oN.J7 0 rfl), (oN.ig 0 rfl)⟩ <| qe) (by kernel_rfl) ?_
   refine ag <| ae <| af <| ax <| aW 1 [] (.n 32 (pt nK 0) .a) qe (by kernel_rfl) ?_
   refine ai ?_
   have ni := oN.l7 2 rfl
   obtain ⟨ja, vk, hm⟩ := ob hm
   have nY := ((((ni.pk (.t (.t (.t (.t .h))))).pk (.t (.t (.t (.t .h))))).pk (.t (.t (.t .h)))).pk (.t (.t (.t .h)))).pk (.t (.t (.t (.t .h))))
   obtain ⟨F14, O14, QX, hO4, Yg, hF4, hb4⟩ := nY.go (.i (.i (.r (.r (.r .e)))))
   refine ay [] 33 _ Nh (by kernel_rfl) (tq (F := F14) (O := O14) _ _ _ _ _ _ _ _ QX _ vk) ?_
   rintro e_ CW ⟨A7, _, c7, rfl, rfl, pM⟩
   have ve := hb4 CW _ _ pM (.c (.c .n))
   refine ⟨I ja.1, rfl, ?_⟩
   have qH := ve.bD (.kk (.ss (.k .e)))
   refine aW 1 [] (.n 34 (.agg [I ja.1, .s ([] : List UInt8)]) (.ss .a)) qe (by kernel_rfl) ?_
   refine ai <| bJ [] 10 [I 0, .s ([] : List UInt8)] (by kernel_rfl) qH ?_
   intro g Du uq
   refine ai ?_
   have uu := uq.bD (.bH .e)
   refine iQ [] 3 (.agg [I ja.1, .s ([] : List UInt8)]) [I ja.1, .s ([] : List UInt8)] (Pt.at g 0) uu rfl .all (by kernel_rfl) (by kernel_rfl) ?_
   intro Jn zH
   refine ag <| ae <| af <| ax <| aW 2 [] (.n 35 (pt nK 0) (.n 36 (.s dN.1) (.k (.s .a)))) qe (by kernel_rfl) ?_
   refine ai ?_
   obtain ⟨iO, wY, hm⟩ := ob hm
   refine ay [] 37 _ Fz (by kernel_rfl) (rU (F := N0) (O := N0) _ (Cx.refl _) _ wY) ?_
   rintro e_ JW ⟨rfl, GH⟩
   have Dw := zH.call GH
   refine ⟨.b iO, rfl, ?_⟩
   refine aW 14 [] (.n 51 (.b ((iO && ((decide (aC = 0)) || (!(Op.bytesLess dN.1 last || decide (dN.1 = last))))) && (decide (ja.1 ≤ 1048576)))) (.s (.k (.s (.kk (.s (.Dl (.s .a)))))))) (qp ((iO && ((decide (aC = 0)) || (!(Op.bytesLess dN.1 last || decide (dN.1 = last))))) = true → (some ⟨g, 0, none⟩ : Option Addr).isSome = true) (fun hg0 => rfl) <| qo (I ja.1) <| qc (fun w => (iO && ((decide (aC = 0)) || (!(Op.bytesLess dN.1 last || decide (dN.1 = last))))) = true → ∃ a, (some ⟨g, 0, none⟩ : Option Addr) = some a ∧ w.cell? a = some (SV.val (I ja.1))) (fun hg0 => Dw.XG 3 rfl 0 (I ja.1) (by kernel_rfl)) <| qe) (by kernel_rfl) ?_
   refine ai ?_
   have FM := Dw.l7 1 rfl
   obtain ⟨qw, BZ, hm⟩ := ob hm
   have Jo := ((((FM.pk (.t (.t (.t (.t .h))))).pk (.t (.t (.t (.t .h))))).pk (.t (.t (.t (.t .h))))).pk (.t (.t (.t .h)))).pk (.t (.t (.t (.t .h))))
   obtain ⟨F15, O15, QY, hO5, hre5, hF5, hb5⟩ := Jo.go (.i (.i (.r (.r (.r .e)))))
   refine ay [] 52 _ Aj (by kernel_rfl) (kZ (F := F15) (O := O15) _ _ _ _ _ _ _ _ QY _ BZ) ?_
   rintro e_ BV ⟨A8, _, c8, rfl, rfl, H9⟩
   have H_ := hb5 BV _ _ H9 (.c (.c .n))
   refine ⟨.jc [], rfl, ?_⟩
   have GI := H_.bD (.kk (.s (.kk .e)))
   refine ag <| ae <| af <| bg [] (.n 7 (.s dN.1) (.nG .a)) qe (by kernel_rfl) ?_
   refine ae <| af <| ax <| aW 1 [] (.n 54 (pt nK 0) .a) qe (by kernel_rfl) ?_
   refine ai ?_
   have qK := GI.l7 1 rfl
   obtain ⟨nJ, BX, hm⟩ := ob hm
   have GK := ((((qK.pk (.t (.t (.t (.t .h))))).pk (.t (.t (.t (.t .h))))).pk (.t (.t (.t (.t .h))))).pk (.t (.t (.t .h)))).pk (.t (.t (.t (.t .h))))
   obtain ⟨F16, O16, WH, hO6, hre6, hF6, hb6⟩ := GK.go (.i (.i (.r (.r (.r .e)))))
   refine ay [] 55 _ Ak (by kernel_rfl) (lg (F := F16) (O := O16) _ _ _ _ _ _ _ _ WH _ BX) ?_
   rintro e_ Dv ⟨A9, _, c9, rfl, rfl, Ns⟩
   have Jp := hb6 Dv _ _ Ns (.c (.c .n))
   refine ⟨I nJ.1, rfl, ?_⟩
   have Kr := Jp.bD (.kk (.s (.kk .e)))
   refine aW 1 [] (.n 11 (I nJ.1) (.ss .a)) qe (by kernel_rfl) ?_
   refine ag <| ae <| af <| ax <| aW 4 [] (.n 56 (pt nK 0) (.n 59 (I (aI (nJ.1 * size))) (.s .a))) qe (by kernel_rfl) ?_
   refine ai ?_
   have Nu := Kr.bD (.bH .e)
   have GL := Nu.l7 1 rfl
   obtain ⟨ug, FN, hm⟩ := ob hm
   have Kt := ((((GL.pk (.t (.t (.t (.t .h))))).pk (.t (.t (.t (.t .h))))).pk (.t (.t (.t (.t .h))))).pk (.t (.t (.t .h)))).pk (.t (.t (.t (.t .h))))
   obtain ⟨F17, O17, Ud, hO7, hre7, hF7, hb7⟩ := Kt.go (.i (.i (.r (.r (.r .e)))))
   refine ay [] 60 _ CU (by kernel_rfl) (mV (F := F17) (O := O17) _ _ _ _ _ _ _ _ Ud _ FN) ?_
   rintro e_ GG ⟨QM, _, c10, Nq, _, c11, rfl, rfl, rfl, Ku⟩
   have Eu := hb7 GG _ _ Ku (.c (.c (.c .n)))
   refine ⟨sl QM ug.1.length c10, rfl, ?_⟩
   have Dx := Eu.bD (.kk (.k (.s (.kk .e))))
   refine aW 2 [] (.n 61 (.s ug.1) (.n 62 (pt g 1) (.nG .a))) (qo (.s ug.1) <| qc (fun w => Rd w QM (ug.1.map bV) ∧ ug.1.length = ug.1.length) ⟨uz ug.1 ▸ (Dx.J7 0 rfl), (Dx.ig 0 rfl)⟩ <| qs g 0 <| qe) (by kernel_rfl) ?_
   refine ai <| iQ [] 4 (.s ug.1) [.s ug.1] (Pt.at g 1) Dx rfl (.k .h) (by kernel_rfl) (by kernel_rfl) ?_
   intro QN FO
   have Ia := FO.bD (.s (.bH .e))
   refine ag <| ae <| ax <| aW 3 [] (.n 63 (.v (.map (some b0))) (.n 64 (.s dN.1) (.n 65 (.agg [I ja.1, .s ug.1]) (.ss (.k (.ss .a)))))) (qT Ia 3 rfl 0 2 [I ja.1, .s ug.1] (by kernel_rfl) (by decide) <| qe) (by kernel_rfl) ?_
   refine ai ?_
   have Ew := (((Ia.pk (.t (.t (.t .h)))).pk (.t (.t .h))).pk (.t (.t .h))).pk (.t (.t (.t .h)))
   refine Iq (kt := 9) (e := 99) (v := (vS (eP eI eS) (bT bP bQ))) (key := dN.1) rfl [] (ja.1, ug.1) (by kernel_rfl) Ew ?_
   intro Pj Nv
   refine ag <| gm <| ae <| bg [] (.n 20 (I (aI (aC + 1))) (.nG (.bH (.k .z)))) qe (by kernel_rfl) ?_
   have Dy := (((Nv.pk .h).pk (.t (.t .h))).pk (.t (.t .h))).bD (.kk (.k .z))
   exact jU (ug.2.1, ug.2.2.1, ug.2.2.2, dD uY dN.1 (ja.1, ug.1), dN.1, aI (aC + 1)) (Option.some.inj hm).symm ⟨ug.2.1, ug.2.2.1, ug.2.2.2, dD uY dN.1 (ja.1, ug.1), dN.1, aI (aC + 1), Nq, ug.2.1.length, c11, rfl, rfl, Dy.ig 1 rfl, Dy⟩ (by kernel_rfl)
 rw [if_neg hc] at hm
 refine dY (bU (bU (iL ?_)))
 have hm := cO hm hr0
 refine ae <| af <| bg [] (.n 4 (.v (.map (some b0))) .z) qe (by kernel_rfl) ?_
 refine ae <| aN ?_
 obtain rfl := Option.some.inj hm
 refine aO [.v (.map (some b0))] qe (by kernel_rfl) ?_
 have Ic := ((gz.pk (.t .h)).pk (.t .h)).pk (.t (.t .h))
 exact ⟨b0, A3, p.length, c3, Ic.ig 2 rfl, rfl, Ic⟩
theorem Oa {F O : Nat → Prop} {w : World} (b : List UInt8) (lN : Option Addr) (pX : Nat) (lZ : Nat) (k : Cx F O w w [Ow e8 lN pX lZ b]) (r : Int ⊕ (Int × Mp (List UInt8) × (Mp (Mp (Int × List UInt8))))) (hm : u_ b = some r) :
    Calls Tryz.prog 7 (vals [sl lN pX lZ]) w (fun e w' => match r with | .inl r0 => e = .returned (SV.val (.jc [.v (.pointer none), I r0])) ∧ Cx F O w w' [] | .inr r1 => ∃ g b1 b2, e = .returned (SV.val (.jc [pt g 0, I 0])) ∧ Cx F O w w' [Bx 82 g [I r1.1, .v (.map (some b1)), .v (.map (some b2))], MS (vH e8) b1 r1.2.1, MS (vM (vS (eP eI eS) (bT bP bQ))) b2 r1.2.2]) := by
 unfold u_ at hm
 obtain rfl := k.len 0 rfl
 refine calls [sl lN b.length lZ] Tryz.func7 rfl (of_decide_eq_true (by kernel_rfl)) ?_
 refine af <| bg [] .a qe (by kernel_rfl) ?_
 refine ae <| af <| ax <| aW 2 [] (.n 13 (.agg [sl lN b.length lZ, .b false, .b false]) .z) qe (by kernel_rfl) ?_
 refine ai ?_
 have k_ := k.share
 refine jT [] 14 (.agg [sl lN b.length lZ, .b false, .b false]) [sl lN b.length lZ, .b false, .b false] (by kernel_rfl) k_ ?_
 intro g0 w_ dK
 refine aW 1 [] (.n 4 (pt g0 0) .z) qe (by kernel_rfl) ?_
 refine ag <| ae <| af <| ax <| aW 1 [] (.n 15 (pt g0 0) .a) qe (by kernel_rfl) ?_
 refine ai ?_
 have fF := dK.l7 0 rfl
 obtain ⟨r_, dV, hm⟩ := ob hm
 have fM := ((fF.pk (.t .h)).pk (.t .h)).pk (.t (.t .h))
 obtain ⟨F1, O1, kin, hO, hre, hF, hb⟩ := fM.go (.i (.i (.r .e)))
 refine ay [] 16 _ CU (by kernel_rfl) (mV (F := F1) (O := O1) _ _ _ _ _ _ _ _ kin _ dV) ?_
 rintro e_ o9 ⟨A, _, c, A1, _, c1, rfl, rfl, rfl, g_⟩
 have gX := hb o9 _ _ g_ (.c (.c (.c .n)))
 refine ⟨sl A r_.1.length c, rfl, ?_⟩
 have jb := gX.bD (.kk (.k .z))
 refine aW 2 [] (.n 5 (.s r_.1) (.ss .a)) (qo (.s r_.1) <| qc (fun w => Rd w A (r_.1.map bV) ∧ r_.1.length = r_.1.length) ⟨uz r_.1 ▸ (jb.J7 0 rfl), (jb.ig 0 rfl)⟩ <| qe) (by kernel_rfl) ?_
 refine ag <| ae <| af <| ax <| aW 1 [] (.n 18 (pt g0 0) .a) qe (by kernel_rfl) ?_
 refine ai ?_
 have jf := jb.l7 2 rfl
 obtain ⟨aQ, fG, hm⟩ := ob hm
 have jQ := (((jf.pk (.t (.t (.t .h)))).pk (.t (.t .h))).pk (.t (.t .h))).pk (.t (.t (.t .h)))
 obtain ⟨F11, H7, wX, TU, Gx, hF1, hb1⟩ := jQ.go (.i (.i (.r (.r .e))))
 refine ay [] 19 _ Nh (by kernel_rfl) (tq (F := F11) (O := H7) _ _ _ _ _ _ _ _ wX _ fG) ?_
 rintro e_ sZ ⟨A2, _, c2, rfl, rfl, jS⟩
 have dJ := hb1 sZ _ _ jS (.c (.c .n))
 refine ⟨I aQ.1, rfl, ?_⟩
 have dB := dJ.bD (.kk .z)
 refine aW 1 [] (.n 6 (I aQ.1) (.ss .a)) qe (by kernel_rfl) ?_
 refine ag <| ae <| af <| ax <| aW 11 [] (.n 20 (pt g0 0) (.n 30 (.b (((decide (r_.1 = ([68, 81, 1] : List UInt8))) && (decide (1 ≤ aQ.1))) && (decide (aQ.1 ≤ 64)))) (.k (.s .a)))) qe (by kernel_rfl) ?_
 refine ai ?_
 have gz := dB.l7 1 rfl
 obtain ⟨bI, kz, hm⟩ := ob hm
 have iI := ((gz.pk (.t (.t .h))).pk (.t .h)).pk (.t (.t .h))
 obtain ⟨TV, TW, Gz, hO2, TY, hF2, hb2⟩ := iI.go (.i (.i (.r .e)))
 refine ay [] 31 _ Aj (by kernel_rfl) (kZ (F := TV) (O := TW) _ _ _ _ _ _ _ _ Gz _ kz) ?_
 rintro e_ xk ⟨A3, _, c3, rfl, rfl, iJ⟩
 have iK := hb2 xk _ _ iJ (.c (.c .n))
 refine ⟨.jc [], rfl, ?_⟩
 have iG := iK.bD (.kk .z)
 refine ag <| ae <| af <| ax <| aW 1 [] (.n 32 (I aQ.1) (.nG .a)) qe (by kernel_rfl) ?_
 refine ai ?_
 have je := iG.bD (.kk .e)
 refine uB [] 33 (by kernel_rfl) je ?_
 intro b3 xB ku
 have oq := ku.zY (v := (vH e8))
 refine ai <| uB [] 34 (by kernel_rfl) oq ?_
 intro b4 y5 jL
 have mQ := jL.zY (v := (vN (vS (eP eI eS) (bT bP bQ))))
 refine aW 1 [] (.n 35 (.agg [I aQ.1, .v (.map (some b3)), .v (.map (some b4))]) (.nG .a)) qe (by kernel_rfl) ?_
 refine ai <| jT [] 36 (.agg [I aQ.1, .v (.map (some b3)), .v (.map (some b4))]) [I aQ.1, .v (.map (some b3)), .v (.map (some b4))] (by kernel_rfl) mQ ?_
 intro g1 CW oM
 refine aW 1 [] (.n 7 (pt g1 0) (.ss .a)) qe (by kernel_rfl) ?_
 refine ag <| ae <| af <| ax <| aW 2 [] (.n 37 (pt g0 0) (.n 38 (pt g1 0) .a)) qe (by kernel_rfl) ?_
 refine ai ?_
 have oN := oM.l7 3 rfl
 obtain ⟨dN, qL, hm⟩ := ob hm
 have ni := (((((oN.pk (.t (.t (.t (.t .h))))).pk (.t (.t .h))).pk (.t (.t (.t .h)))).pk (.t (.t (.t (.t (.t .h)))))).pk (.t (.t (.t (.t .h))))).pk (.t (.t (.t (.t (.t .h)))))
 obtain ⟨X8, X9, Kq, hO3, V7, hF3, hb3⟩ := ni.go (.i (.i (.i (.i (.i (.r .e))))))
 refine ay [] 39 _ XW (by kernel_rfl) (ED (F := X8) (O := X9) _ _ _ _ _ _ _ _ _ _ _ _ _ Kq _ qL) ?_
 rintro e_ Du ⟨A4, _, c4, rfl, rfl, nY⟩
 have pM := hb3 Du _ _ nY (.c (.c (.c (.c (.c .n)))))
 refine ⟨.jc [], rfl, ?_⟩
 have ve := pM.bD (.bH (.k .z))
 refine ag <| ae <| af <| ax <| aW 1 [] (.n 40 (pt g0 0) (.nG .a)) qe (by kernel_rfl) ?_
 refine ai ?_
 have qH := ve.bD (.bH (.k .e))
 have uq := qH.l7 1 rfl
 obtain ⟨ja, vk, hm⟩ := ob hm
 have uu := (((((uq.pk (.t (.t (.t (.t (.t .h)))))).pk (.t (.t (.t (.t (.t .h)))))).pk (.t (.t (.t (.t (.t .h)))))).pk (.t (.t (.t (.t (.t .h)))))).pk (.t (.t (.t (.t .h))))).pk (.t (.t (.t (.t (.t .h)))))
 obtain ⟨F14, O14, QX, hO4, Yg, hF4, hb4⟩ := uu.go (.i (.i (.r (.r (.r (.r .e))))))
 refine ay [] 41 _ Ak (by kernel_rfl) (lg (F := F14) (O := O14) _ _ _ _ _ _ _ _ QX _ vk) ?_
 rintro e_ Jn ⟨A5, _, c5, rfl, rfl, zH⟩
 have GH := hb4 Jn _ _ zH (.c (.c .n))
 refine ⟨I ja.1, rfl, ?_⟩
 have Dw := GH.bD (.kk (.s (.kk (.k .e))))
 refine aW 1 [] (.n 8 (I ja.1) (.ss .a)) qe (by kernel_rfl) ?_
 refine ag <| ae <| af <| ax <| aW 3 [] (.n 42 (pt g0 0) (.n 44 (.b (decide (ja.1 ≤ 64))) .a)) qe (by kernel_rfl) ?_
 refine ai ?_
 have FM := Dw.l7 1 rfl
 obtain ⟨iO, wY, hm⟩ := ob hm
 have Jo := (((((FM.pk (.t (.t (.t (.t (.t .h)))))).pk (.t (.t (.t (.t (.t .h)))))).pk (.t (.t (.t (.t (.t .h)))))).pk (.t (.t (.t (.t (.t .h)))))).pk (.t (.t (.t (.t .h))))).pk (.t (.t (.t (.t (.t .h)))))
 obtain ⟨F15, O15, QY, hO5, hre5, hF5, hb5⟩ := Jo.go (.i (.i (.r (.r (.r (.r .e))))))
 refine ay [] 45 _ Aj (by kernel_rfl) (kZ (F := F15) (O := O15) _ _ _ _ _ _ _ _ QY _ wY) ?_
 rintro e_ JW ⟨A6, _, c6, rfl, rfl, H9⟩
 have H_ := hb5 JW _ _ H9 (.c (.c .n))
 refine ⟨.jc [], rfl, ?_⟩
 have GI := H_.bD (.kk (.s (.kk (.k .e))))
 refine ag <| ae <| af <| bg [] (.n 9 (.s ([] : List UInt8)) (.nG .a)) qe (by kernel_rfl) ?_
 refine ae <| vG (fun L wr => ∃ (p : List UInt8) (p1 : Bool) (p2 : Bool) (uY : Mp (Option (Mp (Int × List UInt8)))) (A7 : Option Addr) (n : Nat) (c7 : Nat), sK dN p p1 p2 uY = some r ∧ L = [(4, pt g0 0), (7, pt g1 0)] ∧ p.length = n ∧ Cx F O w wr [Bx 75 g0 [sl A7 n c7, .b p1, .b p2], Sh (SH e8) [(A7, n, c7)] [p], Bx 82 g1 [I dN.2.2.2.1, .v (.map (some b3)), .v (.map (some b4))], MS (vH e8) b3 dN.2.2.2.2, MS (vN (vS (eP eI eS) (bT bP bQ))) b4 uY]) ?_ ?_
 ·
  refine af <| bg [] (.n 46 (I ja.1) (.n 47 (I 0) (.k (.s .a)))) qe (by kernel_rfl) ?_
  refine ae <| Qs (fun L wr => ∃ (p3 : List UInt8) (p4 : Bool) (p5 : Bool) (y8 : Mp (Option (Mp (Int × List UInt8)))) (A8 : Option Addr) (n1 : Nat) (c8 : Nat), pJ dN p3 p4 p5 y8 = some r ∧ L = [(4, pt g0 0), (7, pt g1 0)] ∧ p3.length = n1 ∧ Cx F O w wr [Bx 75 g0 [sl A8 n1 c8, .b p4, .b p5], Sh (SH e8) [(A8, n1, c8)] [p3], Bx 82 g1 [I dN.2.2.2.1, .v (.map (some b3)), .v (.map (some b4))], MS (vH e8) b3 dN.2.2.2.2, MS (vN (vS (eP eI eS) (bT bP bQ))) b4 y8]) ?_ ?_
  ·
   refine pg (pK aQ dN ja) (fun s L wr => ∃ (p6 : List UInt8) (p7 : Bool) (p8 : Bool) (DR : Mp (Option (Mp (Int × List UInt8)))) (last : List UInt8) (aC : Int) (A9 : Option Addr) (n2 : Nat) (c9 : Nat), (p6, p7, p8, DR, last, aC) = s ∧ L = [(4, pt g0 0), (6, I aQ.1), (7, pt g1 0), (9, .s last), (46, I ja.1), (47, I aC)] ∧ p6.length = n2 ∧ Cx F O w wr [Bx 75 g0 [sl A9 n2 c9, .b p7, .b p8], Sh (SH e8) [(A9, n2, c9)] [p6], Bx 82 g1 [I dN.2.2.2.1, .v (.map (some b3)), .v (.map (some b4))], MS (vH e8) b3 dN.2.2.2.2, MS (vN (vS (eP eI eS) (bT bP bQ))) b4 DR]) (iO.1, iO.2.1, iO.2.2, ([] : Mp (Option (Mp (Int × List UInt8)))), ([] : List UInt8), (0 : Int)) r hm ⟨iO.1, iO.2.1, iO.2.2, ([] : Mp (Option (Mp (Int × List UInt8)))), ([] : List UInt8), (0 : Int), A6, iO.1.length, c6, rfl, rfl, GI.ig 1 rfl, GI⟩ (by kernel_rfl) ?_
   intro BU L_ BV y0 hrel hstep hr0
   obtain ⟨p6, p7, p8, DR, last, aC, A9, _, c9, rfl, rfl, rfl, qK⟩ := hrel
   have hm := hstep; simp only [pK] at hm
   clear hstep
   refine af <| bg [] (.n 48 (.b (decide (aC < ja.1))) .a) qe (by kernel_rfl) ?_
   refine ae <| af <| aZ (aC < ja.1) (by kernel_rfl) (fun hc => ?_) (fun hc => ?_)
   · rw [if_pos hc] at hm
     refine aS <| ae <| af <| aJ <| af <| bg [] (.n 10 (I aC) (.s .a)) qe (by kernel_rfl) ?_
     refine ae <| af <| af <| bg [] (.n 53 (.b p7) .a) (qs g0 0 <| qs g0 0 <| qB qK 0 rfl 1 (.b p7) (by kernel_rfl) <| qe) (by kernel_rfl) ?_
     refine ae <| bC p7 (by kernel_rfl) (fun hc1 => ?_) (fun hc1 => ?_)
     · rw [if_pos hc1] at hm
       refine dY (bU (Zv (by decide) (bU (bU (iL ?_)))))
       have hm := cO hm hr0
       exact oJ ⟨p6, p7, p8, DR, A9, p6.length, c9, hm, rfl, qK.ig 1 rfl, qK⟩ (by kernel_rfl)
     rw [if_neg (by rw [hc1]; decide)] at hm
     refine aS <| ae <| af <| ax <| aW 2 [] (.n 54 (pt g0 0) (.n 55 (pt g0 0) (.s .a))) qe (by kernel_rfl) ?_
     refine ai ?_
     have GK := qK.l7 1 rfl
     obtain ⟨qw, BZ, hm⟩ := ob hm
     have Ns := (((((GK.pk (.t (.t (.t (.t (.t .h)))))).pk (.t (.t (.t (.t (.t .h)))))).pk (.t (.t (.t (.t (.t .h)))))).pk (.t (.t (.t (.t (.t .h)))))).pk (.t (.t (.t (.t .h))))).pk (.t (.t (.t (.t (.t .h)))))
     obtain ⟨F16, O16, WH, hO6, hre6, hF6, hb6⟩ := Ns.go (.i (.i (.r (.r (.r (.r .e))))))
     refine ay [] 56 _ Ak (by kernel_rfl) (lg (F := F16) (O := O16) _ _ _ _ _ _ _ _ WH _ BZ) ?_
     rintro e_ Dv ⟨QM, _, c10, rfl, rfl, Jp⟩
     have Kr := hb6 Dv _ _ Jp (.c (.c .n))
     refine ⟨I qw.1, rfl, ?_⟩
     have Nu := Kr.bD (.kk (.s (.kk (.k .e))))
     refine ai ?_
     have GL := Nu.l7 1 rfl
     obtain ⟨nJ, BX, hm⟩ := ob hm
     have Kt := (((((GL.pk (.t (.t (.t (.t (.t .h)))))).pk (.t (.t (.t (.t (.t .h)))))).pk (.t (.t (.t (.t (.t .h)))))).pk (.t (.t (.t (.t (.t .h)))))).pk (.t (.t (.t (.t .h))))).pk (.t (.t (.t (.t (.t .h)))))
     obtain ⟨F17, O17, Ud, hO7, hre7, hF7, hb7⟩ := Kt.go (.i (.i (.r (.r (.r (.r .e))))))
     refine ay [] 57 _ CU (by kernel_rfl) (mV (F := F17) (O := O17) _ _ _ _ _ _ _ _ Ud _ BX) ?_
     rintro e_ GG ⟨Nq, _, c11, Nr, _, c12, rfl, rfl, rfl, Ku⟩
     have Eu := hb7 GG _ _ Ku (.c (.c (.c .n)))
     refine ⟨sl Nq nJ.1.length c11, rfl, ?_⟩
     have Dx := Eu.bD (.kk (.k (.s (.kk (.k .e)))))
     refine aW 2 [] (.n 11 (.s nJ.1) (.kJ .a)) (qo (.s nJ.1) <| qc (fun w => Rd w Nq (nJ.1.map bV) ∧ nJ.1.length = nJ.1.length) ⟨uz nJ.1 ▸ (Dx.J7 0 rfl), (Dx.ig 0 rfl)⟩ <| qe) (by kernel_rfl) ?_
     refine ag <| ae <| af <| ax <| aW 2 [] (.n 59 (pt g0 0) (.n 60 (.s nJ.1) .a)) qe (by kernel_rfl) ?_
     refine ai ?_
     obtain ⟨ug, FN, hm⟩ := ob hm
     refine ay [] 61 _ Fz (by kernel_rfl) (rU (F := N0) (O := N0) _ (Cx.refl _) _ FN) ?_
     rintro e_ QN ⟨rfl, FO⟩
     have Ia := Dx.call FO
     refine ⟨.b ug, rfl, ?_⟩
     have Ew := Ia.bD (.s (.bH (.k .e)))
     refine aW 9 [] (.n 70 (.b (ug && ((decide (aC = 0)) || (!(Op.bytesLess nJ.1 last || decide (nJ.1 = last)))))) (.s (.k (.s (.k (.s (.Dl (.s .a)))))))) qe (by kernel_rfl) ?_
     refine ai ?_
     have Nv := Ew.l7 1 rfl
     obtain ⟨Gf, Jq, hm⟩ := ob hm
     have Dy := (((((Nv.pk (.t (.t (.t (.t (.t .h)))))).pk (.t (.t (.t (.t (.t .h)))))).pk (.t (.t (.t (.t (.t .h)))))).pk (.t (.t (.t (.t (.t .h)))))).pk (.t (.t (.t (.t .h))))).pk (.t (.t (.t (.t (.t .h)))))
     obtain ⟨F18, O18, kin8, hO8, hre8, hF8, hb8⟩ := Dy.go (.i (.i (.r (.r (.r (.r .e))))))
     refine ay [] 71 _ Aj (by kernel_rfl) (kZ (F := F18) (O := O18) _ _ _ _ _ _ _ _ kin8 _ Jq) ?_
     rintro e_ Pj ⟨A13, _, c13, rfl, rfl, Ic⟩
     have QO := hb8 Pj _ _ Ic (.c (.c .n))
     refine ⟨.jc [], rfl, ?_⟩
     have Kv := QO.bD (.kk (.s (.kk (.k .e))))
     refine ag <| ae <| af <| bg [] (.n 9 (.s nJ.1) (.nG .a)) qe (by kernel_rfl) ?_
     refine ae ?_
     have Pm := Kv.drew 1
     refine xQ bG (.q 5 0 (.q 6 0 (.q 0 1 (.q 1 1 (.q 2 1 (.q 3 1 (.q 4 1 (.op 7 (.op 8 .nil))))))))) [7, 8] Pm (.c (.s (.bH .e)) (.c (.kk (.k .z)) .l)) (by kernel_rfl) (fun _ => ?_)
     refine dG 2 0 [] (.n 78 (pt g0 0) (.n 79 (I aQ.1) .a)) (fun x hx => qe) (by kernel_rfl) (fun _ => ?_)
     refine dG 5 1 [] (.n 76 (.v (.map (some b4))) (.n 77 (.s nJ.1) (.Dl (.s .a)))) (fun x hx => qs g1 0 <| qs g1 0 <| qB hx 1 rfl 2 (.v (.map (some b4))) (by kernel_rfl) <| qe) (by kernel_rfl) (fun _ => ?_)
     refine dw (by kernel_rfl) rfl ?_
     have Ie := Pm.bD (.bH (.k .e))
     have Ig := Ie.l7 1 rfl
     obtain ⟨Ag, Jr, hm⟩ := ob hm
     have Pn := (((((Ig.pk (.t (.t (.t (.t (.t .h)))))).pk (.t (.t (.t (.t (.t .h)))))).pk (.t (.t (.t (.t (.t .h)))))).pk (.t (.t (.t (.t (.t .h)))))).pk (.t (.t (.t (.t .h))))).pk (.t (.t (.t (.t (.t .h)))))
     obtain ⟨F19, O19, kin9, hO9, hre9, hF9, hb9⟩ := Pn.go (.i (.i (.r (.r (.r (.r .e))))))
     refine ay [] 80 _ XX (by kernel_rfl) (FW (F := F19) (O := O19) _ _ _ _ _ _ _ _ kin9 _ Jr) ?_
     rcases Ag with zC | rQ
     · simp only [Sum.elim_inl, Sum.elim_inr] at hm
       rintro e_ TZ ⟨A14, _, c14, rfl, rfl, Kw⟩
       have Kz := hb9 TZ _ _ Kw (.c (.c .n))
       refine ⟨.v (.map none), rfl, ?_⟩
       refine ⟨(Kz.bD (.ss (.bH .e))), fun _ => ?_⟩
       refine dw (by kernel_rfl) rfl ?_
       have Po := Kz.shN (vS (eP eI eS) (bT bP bQ))
       have Pq := ((((((Po.pk (.t (.t (.t (.t (.t .h)))))).pk (.t (.t (.t (.t (.t .h)))))).pk (.t (.t (.t (.t (.t .h)))))).pk (.t (.t (.t (.t (.t .h)))))).pk (.t (.t (.t (.t (.t .h)))))).pk (.t (.t (.t (.t (.t .h)))))).pk (.t (.t (.t (.t (.t (.t .h))))))
       refine yM (kt := 9) (e := 85) (v := (vN (vS (eP eI eS) (bT bP bQ)))) (key := nJ.1) (u := Option.none) (a := Option.none) [] (by kernel_rfl) Pq ?_
       intro X7 Ih
       refine ⟨(Ih.bD (.ss (.s (.kk (.k .e))))), fun _ => ?_⟩
       refine dP <| gm <| ae <| bg [] (.n 47 (I (aI (aC + 1))) (.kJ (.s (.bH (.k .z))))) qe (by kernel_rfl) ?_
       have Nw := (((((Ih.pk .h).pk (.t (.t (.t (.t (.t .h)))))).pk (.t (.t (.t (.t (.t .h)))))).pk (.t (.t (.t (.t .h))))).pk (.t (.t (.t (.t .h))))).bD (.bH (.k .z))
       exact jU (zC.1, zC.2.1, zC.2.2, dD DR nJ.1 Option.none, nJ.1, aI (aC + 1)) (Option.some.inj hm).symm ⟨zC.1, zC.2.1, zC.2.2, dD DR nJ.1 Option.none, nJ.1, aI (aC + 1), A14, zC.1.length, c14, rfl, rfl, Nw.ig 1 rfl, Nw⟩ (by kernel_rfl)
     · simp only [Sum.elim_inl, Sum.elim_inr] at hm
       rintro e_ V6 ⟨b5, A15, _, c15, rfl, rfl, Wp⟩
       have QV := hb9 V6 _ _ Wp (.c (.c (.c .n)))
       refine ⟨.v (.map (some b5)), rfl, ?_⟩
       refine ⟨(QV.bD (.ss (.s (.bH .e)))), fun _ => ?_⟩
       refine dw (by kernel_rfl) rfl ?_
       have Wq := QV.Vg
       have T_ := Wq.l7 0 rfl
       have Wu := T_.smN
       have QW := (((((((Wu.pk (.t (.t (.t (.t (.t (.t .h))))))).pk (.t (.t (.t (.t (.t (.t .h))))))).pk (.t (.t (.t (.t (.t (.t .h))))))).pk (.t (.t (.t (.t (.t (.t .h))))))).pk (.t (.t (.t (.t (.t (.t .h))))))).pk (.t (.t (.t (.t (.t (.t .h))))))).pk (.t (.t (.t (.t (.t (.t .h))))))).pk (.t (.t (.t (.t (.t (.t (.t .h)))))))
       refine yM (kt := 9) (e := 85) (v := (vN (vS (eP eI eS) (bT bP bQ)))) (key := nJ.1) (u := (Option.some b5)) (a := (Option.some rQ.1)) [] (by kernel_rfl) QW ?_
       intro X_ Ua
       refine ⟨(Ua.bD (.kJ (.kk (.k .e)))), fun _ => ?_⟩
       refine dP <| gm <| ae <| bg [] (.n 47 (I (aI (aC + 1))) (.kJ (.s (.bH (.k .z))))) qe (by kernel_rfl) ?_
       have KH := (((((Ua.pk .h).pk (.t (.t (.t (.t (.t (.t .h))))))).pk (.t (.t (.t (.t (.t (.t .h))))))).pk (.t (.t (.t (.t (.t .h)))))).pk (.t (.t (.t (.t (.t .h)))))).bD (.bH (.k .z))
       exact jU (rQ.2.1, rQ.2.2.1, rQ.2.2.2, dD DR nJ.1 (Option.some rQ.1), nJ.1, aI (aC + 1)) (Option.some.inj hm).symm ⟨rQ.2.1, rQ.2.2.1, rQ.2.2.2, dD DR nJ.1 (Option.some rQ.1), nJ.1, aI (aC + 1), A15, rQ.2.1.length, c15, rfl, rfl, KH.ig 1 rfl, KH⟩ (by kernel_rfl)
   rw [if_neg hc] at hm
   refine dY (bU (bU (iL ?_)))
   have hm := cO hm hr0
   exact oJ ⟨p6, p7, p8, DR, A9, p6.length, c9, hm, rfl, qK.ig 1 rfl, qK⟩ (by kernel_rfl)
  rintro L_ Ya ⟨p3, p4, p5, y8, A8, _, c8, hm, rfl, rfl, Ub⟩
  simp only [pJ] at hm
  exact oJ ⟨p3, p4, p5, y8, A8, p3.length, c8, hm, rfl, Ub.ig 1 rfl, Ub⟩ (by kernel_rfl)
 rintro L_ Yb ⟨p, p1, p2, uY, A7, _, c7, hm, rfl, rfl, JD⟩
 simp only [sK] at hm
 refine af <| aJ <| af <| bg [] (.n 82 (.b p1) .a) (qs g0 0 <| qs g0 0 <| qB JD 0 rfl 1 (.b p1) (by kernel_rfl) <| qe) (by kernel_rfl) ?_
 refine ae <| bC p1 (by kernel_rfl) (fun hc2 => ?_) (fun hc2 => ?_)
 · rw [if_pos hc2] at hm
   refine af <| bg [] (.n 2 (.v (.pointer none)) (.n 3 (I 3) .z)) qe (by kernel_rfl) ?_
   refine ae <| aN (fA (bz ?_))
   obtain rfl := Option.some.inj hm
   refine aO [.v (.pointer none), I 3] qe (by kernel_rfl) ?_
   have Ij := JD.bD .z
   exact ⟨rfl, Ij⟩
 rw [if_neg (by rw [hc2]; decide)] at hm
 refine af <| bg [] (.n 87 (.b (decide (0 < ((p.length : Nat) : Int)))) (.s .a)) (qs g0 0 <| qs g0 0 <| qB JD 0 rfl 0 (sl A7 p.length c7) (by kernel_rfl) <| qe) (by kernel_rfl) ?_
 refine ae <| aZ (0 < ((p.length : Nat) : Int)) (by kernel_rfl) (fun hc3 => ?_) (fun hc3 => ?_)
 · rw [if_pos hc3] at hm
   refine af <| bg [] (.n 2 (.v (.pointer none)) (.n 3 (I 9) .z)) qe (by kernel_rfl) ?_
   refine ae <| aN (fA (bz ?_))
   obtain rfl := Option.some.inj hm
   refine aO [.v (.pointer none), I 9] qe (by kernel_rfl) ?_
   have Wx := JD.bD .z
   exact ⟨rfl, Wx⟩
 rw [if_neg hc3] at hm
 refine af <| bg [] (.n 94 (.b p2) (.ss .a)) (qs g0 0 <| qs g0 0 <| qB JD 0 rfl 2 (.b p2) (by kernel_rfl) <| qe) (by kernel_rfl) ?_
 refine ae <| bC p2 (by kernel_rfl) (fun hc4 => ?_) (fun hc4 => ?_)
 · rw [if_pos hc4] at hm
   refine af <| bg [] (.n 2 (.v (.pointer none)) (.n 3 (I 274) .z)) qe (by kernel_rfl) ?_
   refine ae <| aN (fA (bz ?_))
   obtain rfl := Option.some.inj hm
   refine aO [.v (.pointer none), I 274] qe (by kernel_rfl) ?_
   have Wy := JD.bD .z
   exact ⟨rfl, Wy⟩
 rw [if_neg (by rw [hc4]; decide)] at hm
 refine aS <| gm <| ae <| af <| bg [] (.n 2 (pt g1 0) (.n 3 (I 0) .z)) qe (by kernel_rfl) ?_
 refine ae <| aN ?_
 have WA := ((((JD.pk (.t (.t (.t .h)))).pk (.t (.t (.t .h)))).pk (.t (.t (.t .h)))).pk (.t (.t (.t .h)))).pk (.t (.t (.t (.t .h))))
 obtain ⟨u, Ap, hm⟩ := ob hm
 have Uc := WA.msN (fK Ap)
 obtain rfl := Option.some.inj hm
 refine aO [pt g1 0, I 0] qe (by kernel_rfl) ?_
 have WB := (((Uc.pk .h).pk (.t (.t (.t (.t .h))))).pk (.t (.t (.t (.t .h))))).bD (.kk (.k .z))
 exact ⟨g1, b3, b4, rfl, WB⟩
theorem Cc {F O : Nat → Prop} {w : World} (aY : Int) (ah : Mp (List UInt8)) (aj : Mp (Mp (Int × List UInt8))) (s_ : List UInt8) (eU : Nat) (ak : Nat) (au : Nat) (k : Cx F O w w [Bx 82 eU [I aY, .v (.map (some ak)), .v (.map (some au))], MS (vH e8) ak ah, MS (vM (vS (eP eI eS) (bT bP bQ))) au aj]) (r : (List (List UInt8) × Int)) (hm : nX aY ah aj s_ = some r) :
    Calls Tryz.prog 52 (vals [pt eU 0, .s s_]) w (fun e w' => ∃ A n c, r.1.length = n ∧ e = .returned (SV.val (sl A n c)) ∧ Cx F O w w' [Ow eS A n c r.1, Bx 82 eU [I r.2, .v (.map (some ak)), .v (.map (some au))], MS (vH e8) ak ah, MS (vM (vS (eP eI eS) (bT bP bQ))) au aj]) := by
 unfold nX at hm
 refine calls [pt eU 0, .s s_] Tryz.func52 rfl (of_decide_eq_true (by kernel_rfl)) ?_
 refine af <| bg [] .a qe (by kernel_rfl) ?_
 refine ae <| af <| bg [] (.n 5 (sl none 0 0) .a) qe (by kernel_rfl) ?_
 refine ae <| af <| aJ ?_
 have dK := k.nil eS
 refine pg (lU aY) (fun s L wr => ∃ (yR : List UInt8) (l : List (List UInt8)) (A0 : Option Addr) (n0 : Nat) (c0 : Nat), (yR, l) = s ∧ L = [(0, pt eU 0), (1, .s yR), (5, sl A0 n0 c0)] ∧ l.length = n0 ∧ Cx F O w wr [Bx 82 eU [I aY, .v (.map (some ak)), .v (.map (some au))], MS (vH e8) ak ah, MS (vM (vS (eP eI eS) (bT bP bQ))) au aj, Ow eS A0 n0 c0 l]) (s_, ([] : List (List UInt8))) r hm ⟨s_, ([] : List (List UInt8)), none, 0, 0, rfl, rfl, dK.len 3 rfl, dK⟩ (by kernel_rfl) ?_
 intro BU L_ w_ y0 hrel hstep hr0
 obtain ⟨yR, l, A0, _, c0, rfl, rfl, rfl, k_⟩ := hrel
 have hm := hstep; simp only [lU] at hm
 clear hstep
 refine af <| af <| bg [] (.n 8 (.b (decide (0 < (yR.length : Int)))) .a) qe (by kernel_rfl) ?_
 refine ae <| aZ (0 < (yR.length : Int)) (by kernel_rfl) (fun hc => ?_) (fun hc => ?_)
 · rw [if_pos hc] at hm
   refine aS <| ae <| af <| aJ <| ax ?_
   obtain ⟨Nb, WC, hm⟩ := ob hm
   have hs := iq WC
   refine aW 7 [] (.n 15 (sl A0 l.length c0) (.n 21 (.s Nb) (.s .a))) (qs eU 0 <| qs eU 0 <| qB k_ 0 rfl 0 (I aY) (by kernel_rfl) <| qp (0 ≤ aY ∧ aY ≤ ((yR.length : Nat) : Int)) (by omega) <| qo (.s Nb) <| qp ((yR.take (Int.toNat aY)).drop 0 = Nb) hs.2.2.2.symm <| qe) (by kernel_rfl) ?_
   refine ai <| uA sN eS [] 22 ([Nb] : List (List UInt8)) [(0, .s Nb)] [.s Nb] (by kernel_rfl) (by kernel_rfl) (by kernel_rfl) k_ ?_
   intro A1 o9 fF
   refine ai ?_
   obtain ⟨l1, TT, hm⟩ := ob hm
   obtain ⟨hz, hl⟩ := fO TT
   refine dL (E := eS) (v := sl A1 1 1) (ys := ([Nb] : List (List UInt8))) sN [] 23 3 (by kernel_rfl) fF rfl (Src.sl (fF.rd 4 rfl) (fF.len 4 rfl) (by rfl)) (fF.len 4 rfl) (by have := fF.len 3 rfl; have := (fF.len 4 rfl); omega) ?_
   intro A2 c1 sZ fM
   rw [← hl] at fM
   have g_ := fM.bD (.bH .z)
   refine aW 1 [] (.n 5 (sl A2 (l.length + 1) c1) (.kJ (.kk .z))) qe (by kernel_rfl) ?_
   refine ag <| gm <| ae ?_
   obtain ⟨QH, WE, hm⟩ := ob hm
   have hs1 := iq WE
   refine bg [] (.n 1 (.s QH) (.kk .z)) (qs eU 0 <| qs eU 0 <| qB g_ 0 rfl 0 (I aY) (by kernel_rfl) <| qp (0 ≤ aY ∧ aY ≤ ((yR.length : Nat) : Int)) (by omega) <| qo (.s QH) <| qp ((yR.take yR.length).drop (Int.toNat aY) = QH) hs1.2.2.2.symm <| qe) (by kernel_rfl) ?_
   exact jU (QH, l1) (Option.some.inj hm).symm ⟨QH, l1, A2, l.length + 1, c1, rfl, rfl, g_.len 3 rfl, g_⟩ (by kernel_rfl)
 rw [if_neg hc] at hm
 refine dY (bU (bU (iL ?_)))
 have hm := cO hm hr0
 refine ae <| af <| bg [] (.n 4 (sl A0 l.length c0) .z) qe (by kernel_rfl) ?_
 refine ae <| aN ?_
 obtain rfl := Option.some.inj hm
 refine aO [sl A0 l.length c0] qe (by kernel_rfl) ?_
 have gX := (((k_.pk (.t (.t .h))).pk (.t (.t .h))).pk (.t (.t .h))).pk (.t (.t (.t .h)))
 exact ⟨A0, l.length, c0, gX.len 0 rfl, rfl, gX⟩
theorem yV {F O : Nat → Prop} {w : World} (aY : Int) (ah : Mp (List UInt8)) (aj : Mp (Mp (Int × List UInt8))) (snap : List UInt8) (name : List UInt8) (eU : Nat) (ak : Nat) (au : Nat) (k : Cx F O w w [Bx 82 eU [I aY, .v (.map (some ak)), .v (.map (some au))], MS (vH e8) ak ah, MS (vM (vS (eP eI eS) (bT bP bQ))) au aj]) (r : (List UInt8 × Int × Int)) (hm : kU aY ah aj snap name = some r) :
    Calls Tryz.prog 26 (vals [pt eU 0, .s snap, .s name]) w (fun e w' => ∃ A n c, r.1.length = n ∧ e = .returned (SV.val (.jc [sl A n c, I r.2.1])) ∧ Cx F O w w' [Ow e8 A n c r.1, Bx 82 eU [I r.2.2, .v (.map (some ak)), .v (.map (some au))], MS (vH e8) ak ah, MS (vM (vS (eP eI eS) (bT bP bQ))) au aj]) := by
 unfold kU at hm
 refine calls [pt eU 0, .s snap, .s name] Tryz.func26 rfl (of_decide_eq_true (by kernel_rfl)) ?_
 refine af <| bg [] .a qe (by kernel_rfl) ?_
 refine ae <| af <| af <| ax <| aW 1 [] (.n 16 (pt eU 0) .a) qe (by kernel_rfl) ?_
 refine ai ?_
 obtain ⟨r_, dV, hm⟩ := ob hm
 obtain ⟨F1, O1, kin, hO, hre, hF, hb⟩ := k.go (.i (.i (.i .e)))
 refine ay [] 17 _ Am (by kernel_rfl) (jI (F := F1) (O := O1) _ _ _ _ _ _ kin _ dV) ?_
 rintro e_ w_ ⟨rfl, k_⟩
 have dK := hb w_ _ _ k_ (.c (.c (.c .n)))
 refine ⟨.b false, rfl, ?_⟩
 refine ag <| ae <| bC false (by kernel_rfl) (fun h => by cases h) (fun _ => ?_)
 refine aS <| ae <| af <| ax <| aW 5 [] (.n 22 (.v (.map (some au))) (.n 23 (.s snap) (.ss (.k (.s .a))))) (qs eU 0 <| qs eU 0 <| qB dK 0 rfl 2 (.v (.map (some au))) (by kernel_rfl) <| qe) (by kernel_rfl) ?_
 refine ai ?_
 have fF := ((dK.pk (.t .h)).pk (.t .h)).pk (.t (.t .h))
 refine Gp (kt := 9) (e := 85) (v := (vS (eP eI eS) (bT bP bQ))) (m := aj) (key := snap) [] 24 (by kernel_rfl) (by kernel_rfl) fF.acc (fun hf => ?_) (fun b aQ hf1 fM => ?_)
 · simp only [hf, Option.elim_none] at hm
   refine aW 5 [] (.n 8 (.v (.map none)) (.n 9 (.b false) (.nG .a))) qe (by kernel_rfl) ?_
   refine ag <| ae <| af <| af <| bg [] (.n 28 (.b true) (.k (.s .a))) qe (by kernel_rfl) ?_
   refine ae <| bC true (by kernel_rfl) (fun _ => ?_) (fun h => by cases h)
   refine af <| bg [] (.n 6 (sl none 0 0) (.n 7 (I 272) .z)) qe (by kernel_rfl) ?_
   refine ae <| aN (bz ?_)
   have g_ := fF.nil e8
   obtain rfl := Option.some.inj hm
   refine aO [sl none 0 0, I 272] qe (by kernel_rfl) ?_
   have gX := (((g_.pk .h).pk (.t (.t .h))).pk (.t (.t .h))).pk (.t (.t (.t .h)))
   exact ⟨none, 0, 0, gX.len 0 rfl, rfl, gX⟩
 · simp only [hf1, Option.elim_some] at hm
   refine aW 5 [] (.n 8 (.v (.map (some b))) (.n 9 (.b true) (.nG .a))) qe (by kernel_rfl) ?_
   refine ag <| ae <| af <| af <| bg [] (.n 28 (.b false) (.k (.s .a))) qe (by kernel_rfl) ?_
   refine ae <| bC false (by kernel_rfl) (fun h => by cases h) (fun _ => ?_)
   refine aS <| ae <| af <| ax <| aW 2 [] (.n 30 (.v (.map (some b))) (.n 31 (.s name) (.ss (.k .z)))) qe (by kernel_rfl) ?_
   refine ai ?_
   obtain ⟨e_, h_e_, hm⟩ := nm hm
   refine K_ (kt := 9) (e := 99) (v := (vS (eP eI eS) (bT bP bQ))) (m := aQ) (key := name) rfl [] 32 ((0 : Int), ([] : List UInt8)) (.agg [I e_.1, .s e_.2]) (by kernel_rfl) (by kernel_rfl) (fM.TK 0 rfl) (by rw [h_e_]; rfl) ?_
   refine aW 3 [] (.n 33 (.agg [I e_.1, .s e_.2]) (.n 34 (.b ((aK aQ name).isSome)) (.nG .a))) qe (by kernel_rfl) ?_
   refine ai <| bJ [] 10 [I 0, .s ([] : List UInt8)] (by kernel_rfl) fM ?_
   intro g o9 jb
   refine ai ?_
   have jf := jb.bD (.bH (.k .e))
   refine iQ [] 4 (.agg [I e_.1, .s e_.2]) [I e_.1, .s e_.2] (Pt.at g 0) jf rfl .all (by kernel_rfl) (by kernel_rfl) ?_
   intro sZ jQ
   have jS := jQ.bD (.s (.bH .e))
   refine aW 1 [] (.n 9 (.b ((aK aQ name).isSome)) (.k (.ss .a))) qe (by kernel_rfl) ?_
   refine ag <| ae <| af <| af <| bg [] (.n 36 (.b (!((aK aQ name).isSome))) (.s .a)) qe (by kernel_rfl) ?_
   refine ae <| bC (!((aK aQ name).isSome)) (by kernel_rfl) (fun hc => ?_) (fun hc => ?_)
   · rw [if_pos hc] at hm
     refine af <| bg [] (.n 6 (sl none 0 0) (.n 7 (I 273) .z)) qe (by kernel_rfl) ?_
     refine ae <| aN (bz ?_)
     have dJ := jS.nil e8
     obtain rfl := Option.some.inj hm
     refine aO [sl none 0 0, I 273] qe (by kernel_rfl) ?_
     have dB := ((((dJ.pk .h).pk (.t (.t .h))).pk (.t (.t .h))).pk (.t (.t (.t (.t .h))))).bD (.bH .z)
     exact ⟨none, 0, 0, dB.len 0 rfl, rfl, dB⟩
   rw [if_neg (by rw [hc]; decide)] at hm
   refine aS <| ae <| af <| bg [] (.n 11 (sl none 0 0) (.s .a)) qe (by kernel_rfl) ?_
   refine ae <| af <| af <| ax <| aW 3 [] (.n 37 (pt eU 0) (.n 39 (.s e_.2) (.k (.s .a)))) (qs g 0 <| qB jS 3 rfl 1 (.s e_.2) (by kernel_rfl) <| qe) (by kernel_rfl) ?_
   refine ai ?_
   obtain ⟨bI, kz, hm⟩ := ob hm
   have gz := (((jS.pk (.t (.t (.t .h)))).pk (.t .h)).pk (.t (.t (.t .h)))).pk (.t (.t (.t .h)))
   obtain ⟨F11, H7, wX, TU, Gx, hF1, hb1⟩ := gz.go (.i (.i (.i (.r .e))))
   refine ay [] 40 _ Sr (by kernel_rfl) (Cc (F := F11) (O := H7) _ _ _ _ _ _ _ wX _ kz) ?_
   rintro e_ xk ⟨A0, _, c0, rfl, rfl, iI⟩
   have iJ := hb1 xk _ _ iI (.c (.c (.c (.c .n))))
   refine ⟨sl A0 bI.1.length c0, rfl, ?_⟩
   have iK := iJ.bD (.bH .z)
   refine aW 2 [] (.n 41 (I ((bI.1.length : Nat) : Int)) (.n 42 (I 0) (.k (.ss .a)))) qe (by kernel_rfl) ?_
   refine ag <| ae <| aJ ?_
   have je := iK.nil e8
   have ku := ((((je.pk .h).pk (.t (.t (.t (.t .h))))).pk (.t (.t (.t (.t .h))))).pk (.t (.t (.t (.t .h))))).pk (.t (.t (.t (.t .h))))
   refine pg (lM ah bI) (fun s L wr => ∃ (b1 : List UInt8) (aC : Int) (A1 : Option Addr) (n0 : Nat) (c1 : Nat), (b1, aC) = s ∧ L = [(0, pt eU 0), (11, sl A1 n0 c1), (40, sl A0 bI.1.length c0), (41, I ((bI.1.length : Nat) : Int)), (42, I aC)] ∧ b1.length = n0 ∧ Cx F O w wr [Bx 82 eU [I bI.2, .v (.map (some ak)), .v (.map (some au))], MS (vH e8) ak ah, MS (vM (vS (eP eI eS) (bT bP bQ))) au aj, Ow e8 A1 n0 c1 b1, Ow eS A0 bI.1.length c0 bI.1]) (([] : List UInt8), (0 : Int)) r hm ⟨([] : List UInt8), (0 : Int), none, 0, 0, rfl, rfl, ku.len 3 rfl, ku⟩ (by kernel_rfl) ?_
   intro BU L_ xB y0 hrel hstep hr0
   obtain ⟨b1, aC, A1, _, c1, rfl, rfl, rfl, iG⟩ := hrel
   have hm := hstep; simp only [lM] at hm
   clear hstep
   refine af <| bg [] (.n 43 (.b (decide (aC < ((bI.1.length : Nat) : Int)))) .a) qe (by kernel_rfl) ?_
   refine ae <| af <| aZ (aC < ((bI.1.length : Nat) : Int)) (by kernel_rfl) (fun hc1 => ?_) (fun hc1 => ?_)
   · rw [if_pos hc1] at hm
     refine aS <| ae <| af <| aJ <| af ?_
     obtain ⟨iy, mf, hm⟩ := ob hm
     refine bg [] (.n 13 (.s iy) (.s .a)) (qW (iG.rd 4 rfl) mf (iG.len 4 rfl) (.s iy) rfl <| qe) (by kernel_rfl) ?_
     refine ae <| af <| ax <| aW 5 [] (.n 50 (.v (.map (some ak))) (.n 51 (.s iy) (.s .a))) (qs eU 0 <| qs eU 0 <| qB iG 0 rfl 1 (.v (.map (some ak))) (by kernel_rfl) <| qe) (by kernel_rfl) ?_
     refine ai ?_
     have oq := ((((iG.pk (.t (.t (.t (.t .h))))).pk (.t (.t (.t (.t .h))))).pk (.t (.t (.t (.t .h))))).pk (.t (.t (.t .h)))).pk (.t (.t (.t (.t .h))))
     refine CJ (kt := 9) (e := 22) (E := e8) (m := ah) (key := iy) [] 52 (by kernel_rfl) (by kernel_rfl) oq.acc (fun hf2 => ?_) (fun A2 c2 dN hf3 jL => ?_)
     · simp only [hf2, Option.elim_none] at hm
       refine aW 5 [] (.n 14 (sl none 0 0) (.n 15 (.b false) (.nG .a))) qe (by kernel_rfl) ?_
       refine ag <| ae <| af <| af <| bg [] (.n 56 (.b true) (.k (.s .a))) qe (by kernel_rfl) ?_
       refine ae <| bC true (by kernel_rfl) (fun _ => ?_) (fun h => by cases h)
       refine af <| bg [] (.n 6 (sl none 0 0) (.n 7 (I 270) .z)) qe (by kernel_rfl) ?_
       refine ae <| aN (bz (fA (bz (bz (fA (bz ?_))))))
       have hm := cO hm hr0
       have mQ := oq.nil e8
       obtain rfl := Option.some.inj hm
       refine aO [sl none 0 0, I 270] qe (by kernel_rfl) ?_
       have oM := ((((mQ.pk (.t (.t .h))).pk (.t .h)).pk (.t (.t .h))).pk (.t (.t (.t (.t (.t .h)))))).bD (.bH .z)
       exact ⟨none, 0, 0, oM.len 0 rfl, rfl, oM⟩
     · simp only [hf3, Option.elim_some] at hm
       refine aW 5 [] (.n 14 (sl A2 dN.length c2) (.n 15 (.b true) (.nG .a))) qe (by kernel_rfl) ?_
       refine ag <| ae <| af <| af <| bg [] (.n 56 (.b false) (.k (.s .a))) qe (by kernel_rfl) ?_
       refine ae <| bC false (by kernel_rfl) (fun h => by cases h) (fun _ => ?_)
       refine aS <| ae <| ax <| aW 2 [] (.n 57 (sl A1 b1.length c1) (.n 58 (sl A2 dN.length c2) (.ss .a))) qe (by kernel_rfl) ?_
       refine ai ?_
       obtain ⟨b2, Gy, hm⟩ := ob hm
       obtain ⟨hz, hl⟩ := fO Gy
       refine dL (E := e8) (v := sl A2 dN.length c2) (ys := dN) dW [] 59 4 (by kernel_rfl) jL rfl (Src.sl (jL.J7 0 rfl) (jL.ig 0 rfl) (by rfl)) (jL.ig 0 rfl) (by have := jL.len 4 rfl; have := (jL.ig 0 rfl); omega) ?_
       intro A3 c3 y5 oN
       rw [← hl] at oN
       have ni := oN.bD (.s (.bH (.k .e)))
       refine aW 1 [] (.n 11 (sl A3 (b1.length + dN.length) c3) (.nG (.k (.s .a)))) qe (by kernel_rfl) ?_
       refine ag <| gm <| ae <| bg [] (.n 42 (I (aI (aC + 1))) (.bH .z)) qe (by kernel_rfl) ?_
       have nY := ((((ni.pk (.t (.t (.t (.t .h))))).pk (.t (.t (.t (.t .h))))).pk (.t (.t (.t (.t .h))))).pk (.t (.t (.t .h)))).pk (.t (.t (.t (.t .h))))
       exact jU (b2, aI (aC + 1)) (Option.some.inj hm).symm ⟨b2, aI (aC + 1), A3, b1.length + dN.length, c3, rfl, rfl, nY.len 3 rfl, nY⟩ (by kernel_rfl)
   rw [if_neg hc1] at hm
   refine dY (bU (bU (iL ?_)))
   have hm := cO hm hr0
   refine ae <| af <| bg [] (.n 6 (sl A1 b1.length c1) (.n 7 (I 0) .z)) qe (by kernel_rfl) ?_
   refine ae <| aN ?_
   obtain rfl := Option.some.inj hm
   refine aO [sl A1 b1.length c1, I 0] qe (by kernel_rfl) ?_
   have pM := ((((iG.pk (.t (.t .h))).pk (.t (.t .h))).pk (.t (.t .h))).pk (.t (.t (.t .h)))).bD (.bH .z)
   exact ⟨A1, b1.length, c1, pM.len 0 rfl, rfl, pM⟩
theorem GR {F O : Nat → Prop} {w : World} (yC : Mp Int) (Hq : Nat) (k : Cx F O w w [MS vI Hq yC]) (r : (List (List UInt8))) (hm : ru yC = some r) :
    Calls Tryz.prog 46 (vals [.v (.map (some Hq))]) w (fun e w' => ∃ A n c, r.length = n ∧ e = .returned (SV.val (sl A n c)) ∧ Cx F O w w' [Ow eS A n c r, MS vI Hq yC]) := by
 unfold ru at hm
 refine calls [.v (.map (some Hq))] Tryz.func46 rfl (of_decide_eq_true (by kernel_rfl)) ?_
 refine af <| bg [] .a qe (by kernel_rfl) ?_
 refine ae <| af <| bg [] (.n 3 (sl none 0 0) .a) qe (by kernel_rfl) ?_
 refine ae <| af <| af <| ax <| aW 1 [] (.n 5 (.v (.map (some Hq))) (.k .z)) qe (by kernel_rfl) ?_
 refine ai <| xU (kt := 9) (e := 3) [] 6 (by kernel_rfl) k ?_
 intro r_ w_ k_
 refine ag <| ae <| aJ ?_
 obtain ⟨u, Ap, hm⟩ := ob hm
 have dK := k_.nil eS
 refine OI (fun QL L wr => ∃ (l : List (List UInt8)) (left : Mp Int) (cur : Option (Ky × Int)) (A0 : Option Addr) (n0 c0 : Nat), left.length = QL ∧ (l ++ left.map (·.1)).Perm (yC.map (·.1)) ∧ l.length = n0 ∧ L = [(3, sl A0 n0 c0), (6, .v (.pointer (some ⟨r_, 0, none⟩)))] ∧ Cx F O w wr [MV vI false Hq r_ yC left cur, Ow eS A0 n0 c0 l]) yC.length ⟨[], yC, none, none, 0, 0, rfl, List.Perm.refl _, rfl, rfl, dK⟩ (by kernel_rfl) ?_
 rintro kn L_ o9 ⟨l, left, cur, A0, _, c0, rfl, hperm, rfl, rfl, fF⟩
 refine af <| ax <| ai <| wE [] 7 (by kernel_rfl) fF (fun hl fM => ?_) (fun key aC left1 v sZ hp hnd g_ => ?_)
 ·
   have hp1 : l.Perm (yC.map (·.1)) := by have h_ := hperm; rw [hl, List.map_nil, List.append_nil] at h_; exact h_
   have gX := fM.KZ
   refine aW 1 [] (.n 8 (.b false) (.s (.k .z))) qe (by kernel_rfl) ?_
   refine ag <| ae <| af <| bC false (by kernel_rfl) (fun h => by cases h) (fun _ => ?_)
   refine dY (bU (bU (iL ?_)))
   refine ae <| af <| ax <| aW 1 [] (.n 15 (sl A0 l.length c0) (.s .a)) qe (by kernel_rfl) ?_
   refine ai <| ay [] 16 _ Ir (by kernel_rfl) (CV (i := 1) gX rfl (by have h1 := hp1.length_eq; have h2 := fK Ap; have h3 := gX.len 1 rfl; rw [List.length_map] at h1; omega)) ?_
   rintro e_ xk ⟨rfl, jb⟩
   rw [EZ hp1] at jb
   refine ⟨.jc [], rfl, ?_⟩
   refine ag <| ae <| af <| bg [] (.n 2 (sl A0 l.length c0) .z) qe (by kernel_rfl) ?_
   refine ae <| aN ?_
   obtain rfl := Option.some.inj hm
   refine aO [sl A0 l.length c0] qe (by kernel_rfl) ?_
   have jf := (jb.pk .h).pk (.t .h)
   exact ⟨A0, l.length, c0, jf.len 0 rfl, rfl, jf⟩
 ·
   refine aW 1 [] (.n 8 (.b true) (.s .a)) qe (by kernel_rfl) ?_
   refine ag <| ae <| af <| bC true (by kernel_rfl) (fun _ => ?_) (fun h => by cases h)
   refine aS <| ae <| aJ <| af <| ax <| ai <| Gn (v := vI) rfl [] 9 (I aC) (by kernel_rfl) g_ rfl ?_
   refine aW 2 [] (.n 4 (.s key) (.ss .a)) qe (by kernel_rfl) ?_
   refine ag <| ae <| ax <| aW 2 [] (.n 11 (sl A0 l.length c0) (.n 12 (.s key) (.s .a))) qe (by kernel_rfl) ?_
   refine ai <| uA sN eS [] 13 ([key] : List (List UInt8)) [(0, .s key)] [.s key] (by kernel_rfl) (by kernel_rfl) (by kernel_rfl) g_ ?_
   intro A1 xB jQ
   refine ai ?_
   have jS := jQ.bD (.kk (.k .e))
   have hz : (l.length + ([key] : List (List UInt8)).length) * 16 ≤ 140737488355328 := by have h1 := hperm.length_eq; have h2 := hp.length_eq; have h3 := fK Ap; simp only [List.length_append, List.length_cons, List.length_nil, List.length_map] at *; omega
   refine dL (E := eS) (v := sl A1 1 1) (ys := ([key] : List (List UInt8))) sN [] 14 1 (by kernel_rfl) jS rfl (Src.sl (jS.rd 2 rfl) (jS.len 2 rfl) (by rfl)) (jS.len 2 rfl) (by have := jS.len 1 rfl; have := (jS.len 2 rfl); omega) ?_
   intro A2 c1 y5 dJ
   have dB := dJ.bD (.kk .z)
   refine aW 1 [] (.n 3 (sl A2 (l.length + 1) c1) (.kJ (.s .a))) qe (by kernel_rfl) ?_
   refine ag <| gm ?_
   exact EY left1.length (by have h_ := hp.length_eq; simp only [List.length_cons] at h_; omega) ⟨l ++ ([key] : List (List UInt8)), left1, (some (key, aC)), A2, _, c1, rfl, (by rw [List.append_assoc]; exact (List.Perm.append_left l (hp.map (·.1)).symm).trans hperm), dB.len 1 rfl, rfl, dB⟩ (by kernel_rfl)
theorem A_ {F O : Nat → Prop} {w : World} (aY : Int) (ah : Mp (List UInt8)) (aj : Mp (Mp (Int × List UInt8))) (eU : Nat) (ak : Nat) (au : Nat) (k : Cx F O w w [Bx 82 eU [I aY, .v (.map (some ak)), .v (.map (some au))], MS (vH e8) ak ah, MS (vM (vS (eP eI eS) (bT bP bQ))) au aj]) (r : (List (List UInt8) × Int)) (hm : j_ aY ah aj = some r) :
    Calls Tryz.prog 16 (vals [pt eU 0]) w (fun e w' => ∃ A n c hd, r.1.length = n ∧ e = .returned (SV.val (sl A n c)) ∧ Cx F O w w' [O2 e8 A n c hd r.1, Bx 82 eU [I r.2, .v (.map (some ak)), .v (.map (some au))], MS (vH e8) ak ah, MS (vM (vS (eP eI eS) (bT bP bQ))) au aj]) := by
 unfold j_ at hm
 refine calls [pt eU 0] Tryz.func16 rfl (of_decide_eq_true (by kernel_rfl)) ?_
 refine af <| bg [] .a qe (by kernel_rfl) ?_
 refine ae <| af <| af <| ax <| aW 1 [] (.n 8 (pt eU 0) .a) qe (by kernel_rfl) ?_
 refine ai ?_
 obtain ⟨r_, dV, hm⟩ := ob hm
 obtain ⟨F1, O1, kin, hO, hre, hF, hb⟩ := k.go (.i (.i (.i .e)))
 refine ay [] 9 _ Am (by kernel_rfl) (jI (F := F1) (O := O1) _ _ _ _ _ _ kin _ dV) ?_
 rintro e_ w_ ⟨rfl, k_⟩
 have dK := hb w_ _ _ k_ (.c (.c (.c .n)))
 refine ⟨.b false, rfl, ?_⟩
 refine ag <| ae <| bC false (by kernel_rfl) (fun h => by cases h) (fun _ => ?_)
 refine aS <| ae <| af <| bg [] (.n 3 (sl none 0 0) (.ss .a)) qe (by kernel_rfl) ?_
 refine ae <| af <| af <| ax <| aW 1 [] (.n 10 (pt eU 0) .a) qe (by kernel_rfl) ?_
 refine ai ?_
 obtain ⟨aQ, fG, hm⟩ := ob hm
 obtain ⟨F11, H7, wX, TU, Gx, hF1, hb1⟩ := dK.go (.i (.i (.i .e)))
 refine ay [] 11 _ Sj (by kernel_rfl) (yI (F := F11) (O := H7) _ _ _ _ _ _ wX _ fG) ?_
 rintro e_ o9 ⟨b, rfl, fF⟩
 have fM := hb1 o9 _ _ fF (.c (.c (.c (.c .n))))
 refine ⟨.v (.map (some b)), rfl, ?_⟩
 refine ai ?_
 obtain ⟨bI, kz, hm⟩ := ob hm
 obtain ⟨TV, TW, Gz, hO2, TY, hF2, hb2⟩ := fM.go (.i (.r (.r (.r .e))))
 refine ay [] 12 _ X3 (by kernel_rfl) (GR (F := TV) (O := TW) _ _ Gz _ kz) ?_
 rintro e_ sZ ⟨A0, _, c0, rfl, rfl, g_⟩
 have gX := hb2 sZ _ _ g_ (.c (.c .n))
 refine ⟨sl A0 bI.length c0, rfl, ?_⟩
 have jb := gX.bD (.k (.s (.kk (.k .e))))
 refine aW 2 [] (.n 13 (I ((bI.length : Nat) : Int)) (.n 14 (I 0) (.k (.ss .a)))) qe (by kernel_rfl) ?_
 refine ag <| ae <| aJ ?_
 have jQ := jb.ZJ e8
 have jS := ((((jQ.pk .h).pk (.t (.t (.t (.t .h))))).pk (.t (.t (.t (.t .h))))).pk (.t (.t (.t (.t .h))))).pk (.t (.t (.t (.t .h))))
 refine pg (jF ah aQ bI) (fun s L wr => ∃ (l : List (List UInt8)) (aC : Int) (A1 : Option Addr) (n0 : Nat) (c1 : Nat) (hd0 : List Hd), (l, aC) = s ∧ L = [(0, pt eU 0), (3, sl A1 n0 c1), (12, sl A0 bI.length c0), (13, I ((bI.length : Nat) : Int)), (14, I aC)] ∧ l.length = n0 ∧ Cx F O w wr [Bx 82 eU [I aQ.2, .v (.map (some ak)), .v (.map (some au))], MS (vH e8) ak ah, MS (vM (vS (eP eI eS) (bT bP bQ))) au aj, O2 e8 A1 n0 c1 hd0 l, Ow eS A0 bI.length c0 bI]) (([] : List (List UInt8)), (0 : Int)) r hm ⟨([] : List (List UInt8)), (0 : Int), none, 0, 0, ([] : List Hd), rfl, rfl, jS.AY 3 rfl, jS⟩ (by kernel_rfl) ?_
 intro BU L_ xk y0 hrel hstep hr0
 obtain ⟨l, aC, A1, _, c1, hd0, rfl, rfl, rfl, jf⟩ := hrel
 have hm := hstep; simp only [jF] at hm
 clear hstep
 refine af <| bg [] (.n 15 (.b (decide (aC < ((bI.length : Nat) : Int)))) .a) qe (by kernel_rfl) ?_
 refine ae <| af <| aZ (aC < ((bI.length : Nat) : Int)) (by kernel_rfl) (fun hc => ?_) (fun hc => ?_)
 · rw [if_pos hc] at hm
   refine aS <| ae <| vG (fun L wr => ∃ (l1 : List (List UInt8)) (A2 : Option Addr) (n1 : Nat) (c2 : Nat) (hd1 : List Hd), jE aC l1 = some y0 ∧ L = [(0, pt eU 0), (3, sl A2 n1 c2), (12, sl A0 bI.length c0), (13, I ((bI.length : Nat) : Int)), (14, I aC)] ∧ l1.length = n1 ∧ Cx F O w wr [Bx 82 eU [I aQ.2, .v (.map (some ak)), .v (.map (some au))], MS (vH e8) ak ah, MS (vM (vS (eP eI eS) (bT bP bQ))) au aj, O2 e8 A2 n1 c2 hd1 l1, Ow eS A0 bI.length c0 bI]) ?_ ?_
   ·
    refine aJ <| af ?_
    obtain ⟨bY, jk, hm⟩ := ob hm
    refine bg [] (.n 5 (.s bY) (.s .a)) (qW (jf.rd 4 rfl) jk (jf.len 4 rfl) (.s bY) rfl <| qe) (by kernel_rfl) ?_
    refine ae <| af <| ax <| aW 5 [] (.n 22 (.v (.map (some ak))) (.n 23 (.s bY) .a)) (qs eU 0 <| qs eU 0 <| qB jf 0 rfl 1 (.v (.map (some ak))) (by kernel_rfl) <| qe) (by kernel_rfl) ?_
    refine ai ?_
    have dJ := ((((jf.pk (.t (.t (.t (.t .h))))).pk (.t (.t (.t (.t .h))))).pk (.t (.t (.t (.t .h))))).pk (.t (.t (.t .h)))).pk (.t (.t (.t (.t .h))))
    refine CJ (kt := 9) (e := 22) (E := e8) (m := ah) (key := bY) [] 24 (by kernel_rfl) (by kernel_rfl) dJ.acc (fun hf => ?_) (fun A3 c3 dN hf1 dB => ?_)
    · simp only [hf, Option.elim_none] at hm
      refine aW 5 [] (.n 7 (.b false) (.nG .a)) qe (by kernel_rfl) ?_
      refine ag <| ae <| af <| bg [] (.n 28 (.b true) (.s .a)) qe (by kernel_rfl) ?_
      refine ae <| bC true (by kernel_rfl) (fun _ => ?_) (fun h => by cases h)
      refine ax <| aW 2 [] (.n 29 (sl A1 l.length c1) (.n 30 (.s bY) (.ss .a))) qe (by kernel_rfl) ?_
      refine ai ?_
      obtain ⟨u, Ap, hm⟩ := ob hm
      refine UO (e := 5) [] 31 bY (by kernel_rfl) (fK Ap) dJ ?_
      intro A4 c4 xB gz
      refine ai ?_
      have iI := (((((gz.pk (.t (.t (.t (.t .h))))).pk (.t (.t (.t (.t .h))))).pk (.t (.t (.t (.t .h))))).pk (.t (.t (.t (.t .h))))).pk (.t (.t (.t (.t .h))))).pk (.t (.t (.t (.t (.t .h)))))
      refine U4 (rest := [MS (vH e8) ak ah, Bx 82 eU [I aQ.2, .v (.map (some ak)), .v (.map (some au))], MS (vM (vS (eP eI eS) (bT bP bQ))) au aj, O2 e8 A1 l.length c1 hd0 l, Ow eS A0 bI.length c0 bI]) Iu e8 [] 32 ([(A4, bY.length, c4)] : List Hd) ([bY] : List (List UInt8)) [(0, sl A4 bY.length c4)] [sl A4 bY.length c4] (by kernel_rfl) (by kernel_rfl) (by kernel_rfl) rfl iI ?_
      intro A5 y5 iJ
      refine ai ?_
      have iK := (((((iJ.pk (.t (.t (.t (.t (.t .h)))))).pk (.t (.t (.t (.t .h))))).pk (.t (.t (.t (.t .h))))).pk (.t (.t (.t (.t .h))))).pk (.t (.t (.t (.t .h))))).pk (.t (.t (.t (.t (.t .h)))))
      obtain ⟨l2, Z9, hm⟩ := ob hm
      obtain ⟨hz, hl⟩ := fO Z9
      refine I8 Iu [] 33 (by kernel_rfl) iK (by have := iK.AY 0 rfl; have := iK.AY 1 rfl; omega) ?_
      intro A6 c5 CW iG
      rw [← hl] at iG
      refine aW 1 [] (.n 3 (sl A6 (l.length + 1) c5) (.kJ (.s (.k (.s .a))))) qe (by kernel_rfl) ?_
      refine ag <| gm ?_
      have je := ((((iG.pk (.t (.t (.t (.t .h))))).pk (.t .h)).pk (.t (.t (.t (.t .h))))).pk (.t (.t (.t .h)))).pk (.t (.t (.t (.t .h))))
      exact oJ ⟨l2, A6, l.length + 1, c5, hd0 ++ ([(A4, bY.length, c4)] : List Hd), hm, rfl, je.AY 3 rfl, je⟩ (by kernel_rfl)
    · simp only [hf1, Option.elim_some] at hm
      refine aW 5 [] (.n 7 (.b true) (.nG .a)) qe (by kernel_rfl) ?_
      refine ag <| ae <| af <| bg [] (.n 28 (.b false) (.s .a)) qe (by kernel_rfl) ?_
      refine ae <| bC false (by kernel_rfl) (fun h => by cases h) (fun _ => ?_)
      refine aS <| gm ?_
      have ku := (((((dB.pk (.t (.t (.t (.t (.t .h)))))).pk (.t (.t (.t (.t (.t .h)))))).pk (.t (.t (.t (.t (.t .h)))))).pk (.t (.t (.t (.t .h))))).pk (.t (.t (.t (.t (.t .h)))))).bD (.bH (.k .z))
      exact oJ ⟨l, A1, l.length, c1, hd0, hm, rfl, ku.AY 3 rfl, ku⟩ (by kernel_rfl)
   rintro L_ Du ⟨l1, A2, _, c2, hd1, hm, rfl, rfl, oq⟩
   simp only [jE] at hm
   refine bg [] (.n 14 (I (aI (aC + 1))) (.bH .z)) qe (by kernel_rfl) ?_
   exact jU (l1, aI (aC + 1)) (Option.some.inj hm).symm ⟨l1, aI (aC + 1), A2, l1.length, c2, hd1, rfl, rfl, oq.AY 3 rfl, oq⟩ (by kernel_rfl)
 rw [if_neg hc] at hm
 refine dY (bU (bU (iL ?_)))
 have hm := cO hm hr0
 refine ae <| af <| bg [] (.n 2 (sl A1 l.length c1) .z) qe (by kernel_rfl) ?_
 refine ae <| aN ?_
 obtain rfl := Option.some.inj hm
 refine aO [sl A1 l.length c1] qe (by kernel_rfl) ?_
 have jL := ((((jf.pk (.t (.t .h))).pk (.t (.t .h))).pk (.t (.t .h))).pk (.t (.t (.t .h)))).bD (.bH .z)
 exact ⟨A1, l.length, c1, hd0, jL.AY 0 rfl, rfl, jL⟩
theorem GU {F O : Nat → Prop} {w : World} (size : UInt8) (one : List (List UInt8 × List UInt8)) (two : List (List UInt8 × List UInt8)) (FX : Option Addr) (WI : Nat) (JE : Nat) (WJ : List (List UInt8 × Hd)) (PH : Option Addr) (WM : Nat) (SC : Nat) (WN : List (List UInt8 × Hd)) (QZ : OJ F O w (eP eS eH) (SP SQ (SH e8)) FX WJ one) (hn_one : one.length = WI) (hc_one : WI ≤ JE) (WO : OJ F O w (eP eS eH) (SP SQ (SH e8)) PH WN two) (hn_two : two.length = WM) (hc_two : WM ≤ SC) (k : Cx F O w w []) (r : Bool) (hm : ry size one two = some r) :
    Calls Tryz.prog 4 (vals [.u8 size, sl FX WI JE, sl PH WM SC]) w (fun e w' => e = .returned (SV.val (.b r)) ∧ Cx F O w w' []) := by
 unfold ry at hm
 have WQ : MN F w (eP eS eH) (RP RQ (RH F w e8)) FX WJ one := QZ.rog k.off (fun R_ y_ x_ X6 q_ => ⟨(And.left q_), (SH.rh (And.right q_) X6)⟩)
 subst hn_one
 have h_two : MN F w (eP eS eH) (RP RQ (RH F w e8)) PH WN two := WO.rog k.off (fun R_ y_ x_ X6 q_ => ⟨(And.left q_), (SH.rh (And.right q_) X6)⟩)
 subst hn_two
 refine calls [.u8 size, sl FX one.length JE, sl PH two.length SC] Tryz.func4 rfl (of_decide_eq_true (by kernel_rfl)) ?_
 refine af <| bg [] .a qe (by kernel_rfl) ?_
 refine ae <| af <| af <| ax <| ai ?_
 obtain ⟨r_, dV, hm⟩ := ob hm
 refine ay [] 23 _ Z5 (by kernel_rfl) (Pg (F := N0) (O := N0)  (Cx.refl _) _ dV) ?_
 rintro e_ w_ ⟨rfl, k_⟩
 have dK := k.call k_
 refine ⟨.b r_, rfl, ?_⟩
 refine aW 1 [] (.n 24 (.b (!r_)) (.s .a)) qe (by kernel_rfl) ?_
 refine ag <| ae <| bC (!r_) (by kernel_rfl) (fun hc => ?_) (fun hc => ?_)
 · rw [if_pos hc] at hm
   refine af <| bg [] (.n 6 (.b false) .z) qe (by kernel_rfl) ?_
   refine ae <| aN (bz ?_)
   obtain rfl := Option.some.inj hm
   refine aO [.b false] qe (by kernel_rfl) ?_
   exact ⟨rfl, dK⟩
 rw [if_neg (by rw [hc]; decide)] at hm
 refine aS <| ae <| af <| ax <| aW 4 [] (.n 29 (I (aI (1 + ((size % 64).toNat : Int)))) (.ss .a)) (qp ((64 : UInt8) ≠ 0) (by show (64 : UInt8) ≠ 0; decide) <| qe) (by kernel_rfl) ?_
 refine ai ?_
 obtain ⟨aQ, fG, hm⟩ := ob hm
 refine ay [] 30 _ XT (by kernel_rfl) (Ph (F := N0) (O := N0) _ (Cx.refl _) _ fG) ?_
 rcases aQ with bI | dN
 · simp only [Sum.elim_inl, Sum.elim_inr] at hm
   rintro e_ o9 ⟨rfl, fF⟩
   have fM := dK.call fF
   refine ⟨.jc [.v (.pointer none), I 1], rfl, ?_⟩
   refine aW 5 [] (.n 7 (.v (.pointer none)) (.n 8 (I 1) (.ss .a))) qe (by kernel_rfl) ?_
   refine ag <| ae <| af <| af <| bg [35] (.n 38 (.b true) (.k (.s .a))) qe (by kernel_rfl) ?_
   refine ae <| bC true (by kernel_rfl) (fun _ => ?_) (fun h => by cases h)
   refine af <| bg [] (.n 6 (.b false) .z) qe (by kernel_rfl) ?_
   refine ae <| aN (bz ?_)
   obtain rfl := Option.some.inj hm
   refine aO [.b false] qe (by kernel_rfl) ?_
   exact ⟨rfl, fM⟩
 · simp only [Sum.elim_inl, Sum.elim_inr] at hm
   rintro e_ sZ ⟨g, b, b1, rfl, g_⟩
   have gX := dK.call g_
   refine ⟨.jc [pt g 0, I 0], rfl, ?_⟩
   refine aW 5 [] (.n 7 (pt g 0) (.n 8 (I 0) (.ss .a))) qe (by kernel_rfl) ?_
   refine ag <| ae <| af <| af <| bg [35] (.n 38 (.b (decide (0 ≠ 0))) (.k (.s .a))) qe (by kernel_rfl) ?_
   refine ae <| aZ (0 ≠ 0) (by kernel_rfl) (fun hc1 => ?_) (fun hc1 => ?_)
   · rw [if_pos hc1] at hm
     refine af <| bg [] (.n 6 (.b false) .z) qe (by kernel_rfl) ?_
     refine ae <| aN (bz ?_)
     obtain rfl := Option.some.inj hm
     refine aO [.b false] qe (by kernel_rfl) ?_
     have jb := gX.bD .z
     exact ⟨rfl, jb⟩
   rw [if_neg hc1] at hm
   refine aS <| ae <| af <| ax <| aW 1 [] (.n 40 (sl FX one.length JE) (.s .a)) qe (by kernel_rfl) ?_
   refine ai ?_
   obtain ⟨ja, vk, hm⟩ := ob hm
   obtain ⟨F1, O1, kin, hO, hre, hF, hb⟩ := gX.go (.r (.r (.r .e)))
   refine ay [] 41 _ RV (by kernel_rfl) (Ho (F := F1) (O := O1) _ _ _ _ _ (OJ.old QZ gX hF hO) rfl hc_one kin _ vk) ?_
   rintro e_ xk ⟨A, _, c, ys, A1, _, c1, ys1, rfl, rfl, rfl, jf⟩
   have jQ := hb xk _ _ jf (.c (.c .n))
   refine ⟨.jc [sl A ja.1.length c, sl A1 ja.2.length c1], rfl, ?_⟩
   refine aW 5 [] (.n 9 (sl A ja.1.length c) (.ss .a)) qe (by kernel_rfl) ?_
   refine ag <| ae <| af <| ax <| aW 1 [] (.n 45 (sl PH two.length SC) (.Dl .z)) qe (by kernel_rfl) ?_
   refine ai ?_
   obtain ⟨iO, wY, hm⟩ := ob hm
   obtain ⟨F11, H7, wX, TU, Gx, hF1, hb1⟩ := jQ.go (.r (.r (.r (.r (.r .e)))))
   refine ay [] 46 _ RV (by kernel_rfl) (Ho (F := F11) (O := H7) _ _ _ _ _ (OJ.old WO jQ hF1 TU) rfl hc_two wX _ wY) ?_
   rintro e_ xB ⟨A2, _, c2, TE, A3, _, c3, ys3, rfl, rfl, rfl, jS⟩
   have dJ := hb1 xB _ _ jS (.c (.c .n))
   refine ⟨.jc [sl A2 iO.1.length c2, sl A3 iO.2.length c3], rfl, ?_⟩
   have dB := dJ.bD (.kk (.k (.s (.kk (.k .e)))))
   refine aW 5 [] (.n 11 (sl A2 iO.1.length c2) (.ss .a)) qe (by kernel_rfl) ?_
   refine ag <| ae <| af <| ax <| aW 1 [] (.n 49 (pt g 0) .a) qe (by kernel_rfl) ?_
   refine ai ?_
   have gz := dB.bD (.bH (.kk .e))
   obtain ⟨qw, BZ, hm⟩ := ob hm
   obtain ⟨TV, TW, Gz, hO2, TY, hF2, hb2⟩ := gz.go (.r (.r (.r (.i (.i (.i .e))))))
   refine ay [] 50 _ CS (by kernel_rfl) (kW (F := TV) (O := TW) _ _ _ _ _ _ Gz _ BZ) ?_
   rintro e_ y5 ⟨A4, _, c4, rfl, rfl, iI⟩
   have iJ := hb2 y5 _ _ iI (.c (.c (.c (.c .n))))
   refine ⟨sl A4 qw.1.length c4, rfl, ?_⟩
   have iK := iJ.bD (.bH (.k (.s (.k .e))))
   refine aW 1 [] (.n 13 (sl A4 qw.1.length c4) (.ss .a)) qe (by kernel_rfl) ?_
   refine ag <| ae <| af <| af <| ax <| aW 2 [] (.n 51 (pt g 0) (.n 52 (sl A ja.1.length c) (.kk (.s .a)))) qe (by kernel_rfl) ?_
   refine ai ?_
   obtain ⟨nJ, BX, hm⟩ := ob hm
   obtain ⟨X8, X9, Kq, hO3, V7, hF3, hb3⟩ := iK.go (.r (.i (.i (.i (.r (.r .e))))))
   refine ay [] 53 _ RX (by kernel_rfl) (yT (F := X8) (O := X9) _ _ _ _ _ _ _ _ _ _ _ _ (MN.of_rest Kq.off V7 2 rfl (fun R_ y_ x_ X6 q_ => ⟨(And.left q_), (SH.rh (And.right q_) X6)⟩)) (iK.AL 5 rfl) (iK.Y2 5 rfl) Kq _ BX) ?_
   rintro e_ CW ⟨rfl, iG⟩
   have je := hb3 CW _ _ iG (.c (.c (.c .n)))
   refine ⟨I nJ.1, rfl, ?_⟩
   have ku := je.bD (.bH (.k .z))
   refine aW 1 [] (.n 54 (.b (decide (nJ.1 ≠ 0))) (.nG .a)) qe (by kernel_rfl) ?_
   refine ag <| ae <| aZ (nJ.1 ≠ 0) (by kernel_rfl) (fun hc2 => ?_) (fun hc2 => ?_)
   · rw [if_pos hc2] at hm
     refine af <| ax <| aW 1 [] (.n 55 (pt g 0) (.s (.k (.s (.k .z))))) qe (by kernel_rfl) ?_
     refine ai ?_
     obtain ⟨ug, FN, hm⟩ := ob hm
     obtain ⟨F14, O14, QX, hO4, Yg, hF4, hb4⟩ := ku.go (.i (.i (.i (.r (.r .e)))))
     refine ay [] 56 _ CS (by kernel_rfl) (kW (F := F14) (O := O14) _ _ _ _ _ _ QX _ FN) ?_
     rintro e_ Du ⟨A5, _, c5, rfl, rfl, oq⟩
     have jL := hb4 Du _ _ oq (.c (.c (.c (.c .n))))
     refine ⟨sl A5 ug.1.length c5, rfl, ?_⟩
     have mQ := jL.bD (.bH (.k .z))
     refine aW 1 [] (.n 57 (sl A4 qw.1.length c4) (.k (.ss .a))) qe (by kernel_rfl) ?_
     refine ai ?_
     obtain ⟨Gf, Jq, hm⟩ := ob hm
     refine ay [] 58 _ CQ (by kernel_rfl) (vU (F := N0) (O := N0) _ _ _ _ _ _ _ _ (Ro.n0 (mQ.rd 0 rfl)) (mQ.len 0 rfl) (mQ.EH 0 rfl) (Ro.n0 (mQ.rd 4 rfl)) (mQ.len 4 rfl) (mQ.EH 4 rfl) (Cx.refl _) _ Jq) ?_
     rintro e_ Jn ⟨rfl, oM⟩
     have oN := mQ.call oM
     refine ⟨.b Gf, rfl, ?_⟩
     have ni := oN.bD (.s (.kk (.k .z)))
     refine aW 1 [] (.n 59 (.b Gf) (.nG .a)) qe (by kernel_rfl) ?_
     refine Hg 59 Gf (.s .a) (by kernel_rfl) (fun hg => ?_) (fun hg => ?_)
     · rw [if_pos hg] at hm
       refine aW 1 [59] (.n 60 (pt g 0) (.k .z)) qe (by kernel_rfl) ?_
       refine ai ?_
       have nY := ni.bD (.kk (.k .e))
       obtain ⟨Ag, Jr, hm⟩ := ob hm
       obtain ⟨F15, O15, QY, hO5, hre5, hF5, hb5⟩ := nY.go (.i (.i (.i .e)))
       refine ay [59] 61 _ XQ (by kernel_rfl) (DC (F := F15) (O := O15) _ _ _ _ _ _ QY _ Jr) ?_
       rintro e_ JW ⟨A6, _, c6, rfl, rfl, pM⟩
       have ve := hb5 JW _ _ pM (.c (.c (.c (.c .n))))
       refine ⟨sl A6 Ag.1.length c6, rfl, ?_⟩
       have qH := ve.bD (.k .z)
       refine aW 4 [59] (.n 6 (.b (decide (((Ag.1.length : Nat) : Int) = 0))) .z) qe (by kernel_rfl) ?_
       refine ag <| ae <| aN (bz ?_)
       obtain rfl := Option.some.inj hm
       refine aO [.b (decide (((Ag.1.length : Nat) : Int) = 0))] qe (by kernel_rfl) ?_
       have uq := qH.bD .z
       exact ⟨rfl, uq⟩
     · rw [if_neg (by rw [hg]; decide)] at hm
       refine aW 6 [59] (.n 6 (.b false) .z) qe (by kernel_rfl) ?_
       refine ag <| ae <| aN (bz ?_)
       obtain rfl := Option.some.inj hm
       refine aO [.b false] qe (by kernel_rfl) ?_
       have uu := ni.bD .z
       exact ⟨rfl, uu⟩
   rw [if_neg hc2] at hm
   refine aS <| ae <| af <| ax <| aW 1 [] (.n 65 (pt g 0) (.ss .a)) qe (by kernel_rfl) ?_
   refine ai ?_
   obtain ⟨zC, h_r_11, hm⟩ := ob hm
   obtain ⟨F16, O16, WH, hO6, hre6, hF6, hb6⟩ := ku.go (.i (.i (.i (.r (.r .e)))))
   refine ay [] 66 _ CS (by kernel_rfl) (kW (F := F16) (O := O16) _ _ _ _ _ _ WH _ h_r_11) ?_
   rintro e_ BV ⟨A7, _, c7, rfl, rfl, zH⟩
   have GH := hb6 BV _ _ zH (.c (.c (.c (.c .n))))
   refine ⟨sl A7 zC.1.length c7, rfl, ?_⟩
   have Dw := GH.bD (.bH (.s (.k .e)))
   refine aW 1 [] (.n 14 (sl A7 zC.1.length c7) (.ss .a)) qe (by kernel_rfl) ?_
   refine ag <| ae <| vG (fun L wr => ∃ (d : Int) (m_ : Mp (List UInt8)) (vX : Mp (Mp (Int × List UInt8))), kH one d m_ vX = some r ∧ L = [(1, sl FX one.length JE), (7, pt g 0)] ∧ Cx F O w wr [Bx 82 g [I d, .v (.map (some b)), .v (.map (some b1))], MS (vH e8) b m_, MS (vM (vS (eP eI eS) (bT bP bQ))) b1 vX]) ?_ ?_
   ·
    refine af <| ax <| aW 2 [] (.n 67 (pt g 0) (.n 68 (sl A2 iO.1.length c2) (.k (.s .a)))) qe (by kernel_rfl) ?_
    refine ai ?_
    obtain ⟨rQ, h_r_12, hm⟩ := ob hm
    obtain ⟨F17, O17, Ud, hO7, hre7, hF7, hb7⟩ := Dw.go (.r (.i (.i (.i (.r .e)))))
    refine ay [] 69 _ RX (by kernel_rfl) (yT (F := F17) (O := O17) _ _ _ _ _ _ _ _ _ _ _ _ (MN.of_rest Ud.off hre7 1 rfl (fun R_ y_ x_ X6 q_ => ⟨(And.left q_), (SH.rh (And.right q_) X6)⟩)) (Dw.AL 4 rfl) (Dw.Y2 4 rfl) Ud _ h_r_12) ?_
    rintro e_ Dv ⟨rfl, FM⟩
    have Jo := hb7 Dv _ _ FM (.c (.c (.c .n)))
    refine ⟨I rQ.1, rfl, ?_⟩
    have H9 := Jo.bD (.bH .z)
    refine aW 1 [] (.n 70 (.b (decide (rQ.1 ≠ 0))) (.nG .a)) qe (by kernel_rfl) ?_
    refine ag <| ae <| aZ (rQ.1 ≠ 0) (by kernel_rfl) (fun hc3 => ?_) (fun hc3 => ?_)
    · rw [if_pos hc3] at hm
      refine af <| ax <| aW 1 [] (.n 71 (pt g 0) (.s .a)) qe (by kernel_rfl) ?_
      refine ai ?_
      have H_ := H9.bD (.bH .e)
      obtain ⟨Vr, h_r_13, hm⟩ := ob hm
      obtain ⟨F18, O18, kin8, hO8, hre8, hF8, hb8⟩ := H_.go (.i (.i (.i (.r .e))))
      refine ay [] 72 _ CS (by kernel_rfl) (kW (F := F18) (O := O18) _ _ _ _ _ _ kin8 _ h_r_13) ?_
      rintro e_ GG ⟨A8, _, c8, rfl, rfl, GI⟩
      have qK := hb8 GG _ _ GI (.c (.c (.c (.c .n))))
      refine ⟨sl A8 Vr.1.length c8, rfl, ?_⟩
      refine aW 1 [] (.n 73 (sl A7 zC.1.length c7) (.k (.ss .a))) qe (by kernel_rfl) ?_
      refine ai ?_
      obtain ⟨Vs, h_r_14, hm⟩ := ob hm
      refine ay [] 74 _ CQ (by kernel_rfl) (vU (F := N0) (O := N0) _ _ _ _ _ _ _ _ (Ro.n0 (qK.rd 0 rfl)) (qK.len 0 rfl) (qK.EH 0 rfl) (Ro.n0 (qK.rd 4 rfl)) (qK.len 4 rfl) (qK.EH 4 rfl) (Cx.refl _) _ h_r_14) ?_
      rintro e_ QN ⟨rfl, GK⟩
      have Ns := qK.call GK
      refine ⟨.b Vs, rfl, ?_⟩
      have Jp := Ns.bD (.s (.kk (.k .z)))
      refine aW 1 [] (.n 75 (.b (!Vs)) (.nG .a)) qe (by kernel_rfl) ?_
      refine ag <| ae <| bC (!Vs) (by kernel_rfl) (fun hc4 => ?_) (fun hc4 => ?_)
      · rw [if_pos hc4] at hm
        refine af <| bg [] (.n 6 (.b false) .z) qe (by kernel_rfl) ?_
        refine ae <| aN (bz ?_)
        obtain rfl := Option.some.inj hm
        refine aO [.b false] qe (by kernel_rfl) ?_
        have Kr := Jp.bD .z
        exact ⟨rfl, Kr⟩
      rw [if_neg (by rw [hc4]; decide)] at hm
      refine aS ?_
      exact oJ ⟨Vr.2, rQ.2.2.1, rQ.2.2.2, hm, rfl, Jp⟩ (by kernel_rfl)
    rw [if_neg hc3] at hm
    refine af <| ax <| aW 1 [] (.n 76 (pt g 0) (.s .a)) qe (by kernel_rfl) ?_
    refine ai ?_
    have Nu := H9.bD (.bH .e)
    obtain ⟨Ko, h_r_15, hm⟩ := ob hm
    obtain ⟨F19, O19, kin9, hO9, hre9, hF9, hb9⟩ := Nu.go (.i (.i (.i (.r .e))))
    refine ay [] 77 _ XU (by kernel_rfl) (EC (F := F19) (O := O19) _ _ _ _ _ _ _ kin9 _ h_r_15) ?_
    rintro e_ Pj ⟨rfl, GL⟩
    have Kt := hb9 Pj _ _ GL (.c (.c (.c .n)))
    refine ⟨I Ko.1, rfl, ?_⟩
    refine aW 2 [] (.n 79 (.b (decide (Ko.1 ≠ 0))) (.ss .a)) qe (by kernel_rfl) ?_
    refine Hg 79 (decide (Ko.1 ≠ 0)) (.s .a) (by kernel_rfl) (fun hg1 => ?_) (fun hg1 => ?_)
    · rw [if_pos (of_decide_eq_true hg1)] at hm
      refine aW 5 [79] (.n 84 (.b true) (.s .a)) qe (by kernel_rfl) ?_
      refine aW 6 [84] (.n 90 (.b true) (.ss .a)) qe (by kernel_rfl) ?_
      refine ag <| ae <| bC true (by kernel_rfl) (fun _ => ?_) (fun h => by cases h)
      refine af <| bg [] (.n 6 (.b false) .z) qe (by kernel_rfl) ?_
      refine ae <| aN (bz ?_)
      obtain rfl := Option.some.inj hm
      refine aO [.b false] qe (by kernel_rfl) ?_
      have Ku := Kt.bD .z
      exact ⟨rfl, Ku⟩
    · rw [if_neg (of_decide_eq_false hg1)] at hm
      refine aW 1 [79] (.n 80 (pt g 0) .a) qe (by kernel_rfl) ?_
      refine ai ?_
      obtain ⟨Nc, h_r_16, hm⟩ := ob hm
      obtain ⟨F110, O110, kin10, hO10, hre10, hF10, hb10⟩ := Kt.go (.i (.i (.i (.r .e))))
      refine ay [79] 81 _ XV (by kernel_rfl) (DD (F := F110) (O := O110) _ _ _ _ _ _ kin10 _ h_r_16) ?_
      rintro e_ TZ ⟨rfl, Eu⟩
      have Dx := hb10 TZ _ _ Eu (.c (.c (.c .n)))
      refine ⟨I Nc.1, rfl, ?_⟩
      refine aW 3 [79] (.n 84 (.b (decide (Nc.1 < 0))) (.nG .a)) qe (by kernel_rfl) ?_
      refine Hg 84 (decide (Nc.1 < 0)) (.s .a) (by kernel_rfl) (fun hg2 => ?_) (fun hg2 => ?_)
      · rw [if_pos (of_decide_eq_true hg2)] at hm
        refine aW 6 [84] (.n 90 (.b true) (.ss .a)) qe (by kernel_rfl) ?_
        refine ag <| ae <| bC true (by kernel_rfl) (fun _ => ?_) (fun h => by cases h)
        refine af <| bg [] (.n 6 (.b false) .z) qe (by kernel_rfl) ?_
        refine ae <| aN (bz ?_)
        obtain rfl := Option.some.inj hm
        refine aO [.b false] qe (by kernel_rfl) ?_
        have FO := Dx.bD .z
        exact ⟨rfl, FO⟩
      · rw [if_neg (of_decide_eq_false hg2)] at hm
        refine aW 1 [84] (.n 85 (pt g 0) .a) qe (by kernel_rfl) ?_
        refine ai ?_
        obtain ⟨Vt, h_r_17, hm⟩ := ob hm
        obtain ⟨F111, O111, kin11, hO11, hre11, hF11, hb11⟩ := Dx.go (.i (.i (.i (.r .e))))
        refine ay [84] 86 _ CS (by kernel_rfl) (kW (F := F111) (O := O111) _ _ _ _ _ _ kin11 _ h_r_17) ?_
        rintro e_ X7 ⟨A9, _, c9, rfl, rfl, Ia⟩
        have Ew := hb11 X7 _ _ Ia (.c (.c (.c (.c .n))))
        refine ⟨sl A9 Vt.1.length c9, rfl, ?_⟩
        refine aW 1 [84] (.n 87 (sl A7 zC.1.length c7) (.k (.s (.k (.s .a))))) qe (by kernel_rfl) ?_
        refine ai ?_
        obtain ⟨Vu, h_r_18, hm⟩ := ob hm
        refine ay [84] 88 _ CQ (by kernel_rfl) (vU (F := N0) (O := N0) _ _ _ _ _ _ _ _ (Ro.n0 (Ew.rd 0 rfl)) (Ew.len 0 rfl) (Ew.EH 0 rfl) (Ro.n0 (Ew.rd 4 rfl)) (Ew.len 4 rfl) (Ew.EH 4 rfl) (Cx.refl _) _ h_r_18) ?_
        rintro e_ V6 ⟨rfl, Nv⟩
        have Dy := Ew.call Nv
        refine ⟨.b Vu, rfl, ?_⟩
        have Ic := Dy.bD (.s (.kk (.k .z)))
        refine aW 2 [84] (.n 90 (.b (!Vu)) (.kJ .a)) qe (by kernel_rfl) ?_
        refine ag <| ae <| bC (!Vu) (by kernel_rfl) (fun hc5 => ?_) (fun hc5 => ?_)
        · rw [if_pos hc5] at hm
          refine af <| bg [] (.n 6 (.b false) .z) qe (by kernel_rfl) ?_
          refine ae <| aN (bz ?_)
          obtain rfl := Option.some.inj hm
          refine aO [.b false] qe (by kernel_rfl) ?_
          have QO := Ic.bD .z
          exact ⟨rfl, QO⟩
        rw [if_neg (by rw [hc5]; decide)] at hm
        refine aS ?_
        exact oJ ⟨Vt.2, Nc.2.2, Ko.2.2, hm, rfl, Ic⟩ (by kernel_rfl)
   rintro L_ X_ ⟨d, m_, vX, hm, rfl, Kv⟩
   simp only [kH] at hm
   refine af <| ax <| aW 1 [] (.n 92 (pt g 0) .a) qe (by kernel_rfl) ?_
   refine ai ?_
   obtain ⟨TQ, h_r_19, hm⟩ := ob hm
   obtain ⟨F112, O112, kin12, hO12, hre12, hF12, hb12⟩ := Kv.go (.i (.i (.i .e)))
   refine ay [] 93 _ CS (by kernel_rfl) (kW (F := F112) (O := O112) _ _ _ _ _ _ kin12 _ h_r_19) ?_
   rintro e_ Ya ⟨QM, _, c10, rfl, rfl, Pm⟩
   have Ie := hb12 Ya _ _ Pm (.c (.c (.c (.c .n))))
   refine ⟨sl QM TQ.1.length c10, rfl, ?_⟩
   refine ai ?_
   obtain ⟨ZZ, h_r_20, hm⟩ := ob hm
   obtain ⟨F113, O113, kin13, hO13, hre13, hF13, hb13⟩ := Ie.go (.i (.r (.r (.r .e))))
   refine ay [] 94 _ Z7 (by kernel_rfl) (Oa (F := F113) (O := O113) _ _ _ _ kin13 _ h_r_20) ?_
   rcases ZZ with Z4 | Ji
   · simp only [Sum.elim_inl, Sum.elim_inr] at hm
     rintro e_ Yb ⟨rfl, Ig⟩
     have Pn := hb13 Yb _ _ Ig .n
     refine ⟨.jc [.v (.pointer none), I Z4], rfl, ?_⟩
     refine aW 5 [] (.n 15 (.v (.pointer none)) (.n 16 (I Z4) (.nG .a))) qe (by kernel_rfl) ?_
     refine ag <| ae <| af <| af <| bg [99] (.n 102 (.b true) (.k (.s .a))) qe (by kernel_rfl) ?_
     refine ae <| bC true (by kernel_rfl) (fun _ => ?_) (fun h => by cases h)
     refine af <| bg [] (.n 6 (.b false) .z) qe (by kernel_rfl) ?_
     refine ae <| aN (bz ?_)
     obtain rfl := Option.some.inj hm
     refine aO [.b false] qe (by kernel_rfl) ?_
     have Kw := Pn.bD .z
     exact ⟨rfl, Kw⟩
   · simp only [Sum.elim_inl, Sum.elim_inr] at hm
     rintro e_ w_21 ⟨g1, b2, b3, rfl, Kz⟩
     have Po := hb13 w_21 _ _ Kz (.c (.c (.c .n)))
     refine ⟨.jc [pt g1 0, I 0], rfl, ?_⟩
     refine aW 5 [] (.n 15 (pt g1 0) (.n 16 (I 0) (.nG .a))) qe (by kernel_rfl) ?_
     refine ag <| ae <| af <| af <| bg [99] (.n 102 (.b (decide (0 ≠ 0))) (.k (.s .a))) qe (by kernel_rfl) ?_
     refine ae <| aZ (0 ≠ 0) (by kernel_rfl) (fun hc6 => ?_) (fun hc6 => ?_)
     · rw [if_pos hc6] at hm
       refine af <| bg [] (.n 6 (.b false) .z) qe (by kernel_rfl) ?_
       refine ae <| aN (bz ?_)
       obtain rfl := Option.some.inj hm
       refine aO [.b false] qe (by kernel_rfl) ?_
       have Pq := Po.bD .z
       exact ⟨rfl, Pq⟩
     rw [if_neg hc6] at hm
     refine aS <| ae <| af <| af <| bg [] (.n 103 (sl FX one.length JE) (.n 104 (I ((one.length : Nat) : Int)) (.n 105 (I 0) (.s (.k (.s .a)))))) qe (by kernel_rfl) ?_
     refine ae <| aJ ?_
     have Nw := (((((Po.pk (.t (.t .h))).pk (.t (.t .h))).pk (.t (.t .h))).pk (.t (.t (.t (.t (.t .h)))))).pk (.t (.t (.t (.t (.t .h)))))).pk (.t (.t (.t (.t (.t .h)))))
     refine pg (l_ one m_ vX Ji) (fun s L wr => ∃ (d1 : Int) (c11 : Int) (aC : Int), (d1, c11, aC) = s ∧ L = [(7, pt g 0), (15, pt g1 0), (103, sl FX one.length JE), (104, I ((one.length : Nat) : Int)), (105, I aC)] ∧ Cx F O w wr [Bx 82 g [I d1, .v (.map (some b)), .v (.map (some b1))], MS (vH e8) b m_, MS (vM (vS (eP eI eS) (bT bP bQ))) b1 vX, Bx 82 g1 [I c11, .v (.map (some b2)), .v (.map (some b3))], MS (vH e8) b2 Ji.2.1, MS (vM (vS (eP eI eS) (bT bP bQ))) b3 Ji.2.2]) (TQ.2, Ji.1, (0 : Int)) r hm ⟨TQ.2, Ji.1, (0 : Int), rfl, rfl, Nw⟩ (by kernel_rfl) ?_
     intro BU L_ w_22 y0 hrel hstep hr0
     obtain ⟨d1, c11, aC, rfl, rfl, Ih⟩ := hrel
     have hm := hstep; simp only [l_] at hm
     clear hstep
     refine af <| bg [] (.n 106 (.b (decide (aC < ((one.length : Nat) : Int)))) .a) qe (by kernel_rfl) ?_
     refine ae <| af <| aZ (aC < ((one.length : Nat) : Int)) (by kernel_rfl) (fun Ol => ?_) (fun Ol => ?_)
     · rw [if_pos Ol] at hm
       refine aS <| ae <| af <| aJ <| af <| ax ?_
       obtain ⟨x_1, kQ, hm⟩ := ob hm
       obtain ⟨⟨q, ⟨B, n, c12⟩⟩, hy, hg3⟩ := QZ.at kQ
       simp only [SP, SQ, SH] at hg3; obtain ⟨rfl, ⟨rfl, hle, hrd, hO14⟩⟩ := hg3
       have hro : Ro F w B (e8.all x_1.2) := ⟨hrd, fun hne_ a_ ha_ hf_ => k.off _ (hO14 hne_ a_ ha_) hf_⟩
       have hsx : (SH e8).r w O (B, x_1.2.length, c12) x_1.2 := ⟨rfl, hle, hrd, hO14⟩
       refine aW 2 [] (.n 108 (.agg [.s x_1.1, sl B x_1.2.length c12]) (.s .a)) (qJ (E := (eP eS eH)) (WQ.ro.cx Ih) hy WQ.len <| qR [.s x_1.1, sl B x_1.2.length c12] (Rd.els (k := 0) (m := 2) (WQ.ro.cx Ih) hy (Pt.Dk FX aC 2) rfl (by decide) (by decide)) <| qe) (by kernel_rfl) ?_
       refine ai <| bJ [] 18 [.s ([] : List UInt8), sl none 0 0] (by kernel_rfl) Ih ?_
       intro g2 w_23 Wp
       refine ai <| iQ [] 6 (.agg [.s x_1.1, sl B x_1.2.length c12]) [.s x_1.1, sl B x_1.2.length c12] (Pt.at g2 0) Wp rfl .all (by kernel_rfl) (by kernel_rfl) ?_
       intro w_24 QV
       refine ag <| ae <| af <| ax <| aW 3 [] (.n 110 (pt g 0) (.n 112 (.s x_1.1) (.k (.s .a)))) (qs g2 0 <| qB QV 6 rfl 0 (.s x_1.1) (by kernel_rfl) <| qe) (by kernel_rfl) ?_
       refine ai ?_
       obtain ⟨Gv, h_r_23, hm⟩ := ob hm
       obtain ⟨F114, O114, kin14, hO15, hre14, hF14, hb14⟩ := QV.go (.i (.i (.i (.r (.r (.r (.r .e)))))))
       refine ay [] 113 _ RY (by kernel_rfl) (yV (F := F114) (O := O114) _ _ _ _ _ _ _ _ kin14 _ h_r_23) ?_
       rintro e_ w_25 ⟨Nq, _, c13, rfl, rfl, Wq⟩
       have T_ := hb14 w_25 _ _ Wq (.c (.c (.c (.c .n))))
       refine ⟨.jc [sl Nq Gv.1.length c13, I Gv.2.1], rfl, ?_⟩
       refine aW 5 [] (.n 19 (sl Nq Gv.1.length c13) (.n 20 (I Gv.2.1) (.nG .a))) qe (by kernel_rfl) ?_
       refine ag <| ae <| af <| ax <| aW 3 [] (.n 117 (pt g1 0) (.n 119 (.s x_1.1) .a)) (qs g2 0 <| qB T_ 7 rfl 0 (.s x_1.1) (by kernel_rfl) <| qe) (by kernel_rfl) ?_
       refine ai ?_
       obtain ⟨Gw, h_r_24, hm⟩ := ob hm
       obtain ⟨F115, O115, kin15, hO16, hre15, hF15, hb15⟩ := T_.go (.r (.r (.r (.r (.i (.i (.i (.r .e))))))))
       refine ay [] 120 _ RY (by kernel_rfl) (yV (F := F115) (O := O115) _ _ _ _ _ _ _ _ kin15 _ h_r_24) ?_
       rintro e_ w_26 ⟨Nr, _, c14, rfl, rfl, Wu⟩
       have QW := hb15 w_26 _ _ Wu (.c (.c (.c (.c .n))))
       refine ⟨.jc [sl Nr Gw.1.length c14, I Gw.2.1], rfl, ?_⟩
       refine aW 5 [] (.n 21 (sl Nr Gw.1.length c14) (.n 22 (I Gw.2.1) (.nG .a))) qe (by kernel_rfl) ?_
       refine ag <| ae <| af <| ax <| aW 7 [] (.n 129 (.b ((decide (Gv.2.1 ≠ 0)) || (decide (Gw.2.1 ≠ 0)))) (.k (.s (.k (.s .a))))) qe (by kernel_rfl) ?_
       refine Hg 129 ((decide (Gv.2.1 ≠ 0)) || (decide (Gw.2.1 ≠ 0))) (.s .a) (by kernel_rfl) (fun hg4 => ?_) (fun hg4 => ?_)
       · rw [if_pos hg4] at hm
         refine aW 7 [129] (.n 136 (.b true) (.s (.k (.s .a)))) qe (by kernel_rfl) ?_
         refine aW 6 [136] (.n 142 (.b true) (.nG .a)) qe (by kernel_rfl) ?_
         refine ag <| ae <| bC true (by kernel_rfl) (fun _ => ?_) (fun h => by cases h)
         refine af <| bg [] (.n 6 (.b false) .z) qe (by kernel_rfl) ?_
         refine ae <| aN (fA (bz (bz (fA (bz ?_)))))
         have hm := cO hm hr0
         obtain rfl := Option.some.inj hm
         refine aO [.b false] qe (by kernel_rfl) ?_
         have Ua := QW.bD .z
         exact ⟨rfl, Ua⟩
       · rw [if_neg (by rw [hg4]; decide)] at hm
         refine aW 3 [129] (.n 130 (sl Nq Gv.1.length c13) (.n 132 (sl B x_1.2.length c12) (.kk (.s .a)))) (qs g2 0 <| qB QW 8 rfl 1 (sl B x_1.2.length c12) (by kernel_rfl) <| qe) (by kernel_rfl) ?_
         refine ai ?_
         have KH := QW.bD (.bH (.bH (.k .e)))
         obtain ⟨Vo, h_r_25, hm⟩ := ob hm
         refine ay [129] 133 _ CQ (by kernel_rfl) (vU (F := N0) (O := N0) _ _ _ _ _ _ _ _ (Ro.n0 (KH.rd 4 rfl)) (KH.len 4 rfl) (KH.EH 4 rfl) (Ro.n0 (hro.cx KH)) rfl hle (Cx.refl _) _ h_r_25) ?_
         rintro e_ w_27 ⟨rfl, Ub⟩
         have JD := KH.call Ub
         refine ⟨.b Vo, rfl, ?_⟩
         have Ij := JD.bD (.bH (.s (.bH .e)))
         refine aW 3 [129] (.n 136 (.b (!Vo)) (.kJ .a)) qe (by kernel_rfl) ?_
         refine Hg 136 (!Vo) (.s .a) (by kernel_rfl) (fun hg5 => ?_) (fun hg5 => ?_)
         · rw [if_pos hg5] at hm
           refine aW 6 [136] (.n 142 (.b true) (.nG .a)) qe (by kernel_rfl) ?_
           refine ag <| ae <| bC true (by kernel_rfl) (fun _ => ?_) (fun h => by cases h)
           refine af <| bg [] (.n 6 (.b false) .z) qe (by kernel_rfl) ?_
           refine ae <| aN (fA (bz (bz (fA (bz ?_)))))
           have hm := cO hm hr0
           obtain rfl := Option.some.inj hm
           refine aO [.b false] qe (by kernel_rfl) ?_
           have Wx := Ij.bD .z
           exact ⟨rfl, Wx⟩
         · rw [if_neg (by rw [hg5]; decide)] at hm
           refine aW 3 [136] (.n 137 (sl Nr Gw.1.length c14) (.n 139 (sl B x_1.2.length c12) (.k (.ss .a)))) (qs g2 0 <| qB Ij 7 rfl 1 (sl B x_1.2.length c12) (by kernel_rfl) <| qe) (by kernel_rfl) ?_
           refine ai ?_
           obtain ⟨Vp, h_r_26, hm⟩ := ob hm
           refine ay [136] 140 _ CQ (by kernel_rfl) (vU (F := N0) (O := N0) _ _ _ _ _ _ _ _ (Ro.n0 (Ij.rd 0 rfl)) (Ij.len 0 rfl) (Ij.EH 0 rfl) (Ro.n0 (hro.cx Ij)) rfl hle (Cx.refl _) _ h_r_26) ?_
           rintro e_ w_28 ⟨rfl, Wy⟩
           have WA := Ij.call Wy
           refine ⟨.b Vp, rfl, ?_⟩
           have Uc := WA.bD (.s (.bH (.kk .z)))
           refine aW 2 [136] (.n 142 (.b (!Vp)) (.kJ .a)) qe (by kernel_rfl) ?_
           refine ag <| ae <| bC (!Vp) (by kernel_rfl) (fun hc8 => ?_) (fun hc8 => ?_)
           · rw [if_pos hc8] at hm
             refine af <| bg [] (.n 6 (.b false) .z) qe (by kernel_rfl) ?_
             refine ae <| aN (fA (bz (bz (fA (bz ?_)))))
             have hm := cO hm hr0
             obtain rfl := Option.some.inj hm
             refine aO [.b false] qe (by kernel_rfl) ?_
             have WB := Uc.bD .z
             exact ⟨rfl, WB⟩
           rw [if_neg (by rw [hc8]; decide)] at hm
           refine aS <| gm <| ae <| bg [] (.n 105 (I (aI (aC + 1))) (.s (.bH .z))) qe (by kernel_rfl) ?_
           have k_84 := (((((Uc.pk (.t (.t .h))).pk (.t (.t .h))).pk (.t (.t .h))).pk (.t (.t (.t (.t (.t .h)))))).pk (.t (.t (.t (.t (.t .h)))))).pk (.t (.t (.t (.t (.t .h)))))
           exact jU (Gv.2.2, Gw.2.2, aI (aC + 1)) (Option.some.inj hm).symm ⟨Gv.2.2, Gw.2.2, aI (aC + 1), rfl, rfl, k_84⟩ (by kernel_rfl)
     rw [if_neg Ol] at hm
     refine dY (bU (bU (iL ?_)))
     have hm := cO hm hr0
     refine ae <| af <| ax <| aW 1 [] (.n 144 (pt g 0) .z) qe (by kernel_rfl) ?_
     refine ai ?_
     obtain ⟨Vq, h_r_27, hm⟩ := ob hm
     obtain ⟨F116, O116, kin16, hO17, hre16, hF16, hb16⟩ := Ih.go (.i (.i (.i (.r (.r (.r .e))))))
     refine ay [] 145 _ XR (by kernel_rfl) (A_ (F := F116) (O := O116) _ _ _ _ _ _ kin16 _ h_r_27) ?_
     rintro e_ w_29 ⟨A13, _, c15, hd, rfl, rfl, Yf⟩
     have k_86 := hb16 w_29 _ _ Yf (.c (.c (.c (.c .n))))
     refine ⟨sl A13 Vq.1.length c15, rfl, ?_⟩
     have k_87 := k_86.bD (.k .z)
     refine aW 3 [] (.n 6 (.b (decide (((Vq.1.length : Nat) : Int) = 0))) .z) qe (by kernel_rfl) ?_
     refine ag <| ae <| aN ?_
     obtain rfl := Option.some.inj hm
     refine aO [.b (decide (((Vq.1.length : Nat) : Int) = 0))] qe (by kernel_rfl) ?_
     have k_88 := k_87.bD .z
     exact ⟨rfl, k_88⟩
end Go.Sx
namespace Go.Sx
open Go.RowKit
set_option linter.unusedVariables false
set_option linter.unusedSimpArgs false
theorem lF (i : Nat) (h : i ≤ 1000000000) : aI ((i : Int) + 1) = ((i + 1 : Nat) : Int) := by rw [fP (by omega)]; omega
theorem WR (a b : List UInt8) (ha : a.length ≤ 16000000) : vT a b = some (decide (a = b)) := by
  unfold vT
  by_cases hn : ((a.length : Nat) : Int) ≠ ((b.length : Nat) : Int)
  · rw [if_pos hn]
    congr 1
    exact (decide_eq_false fun e => hn (by rw [e])).symm
  rw [if_neg hn]
  have hl : a.length = b.length := by omega
  refine qP (fun i s => s = (i : Int) ∧ i ≤ a.length ∧ a.take i = b.take i) _ a.length _ ⟨rfl, by omega, rfl⟩ ?_
  rintro i s ⟨rfl, hi, he⟩
  unfold n_
  by_cases hlt : i < a.length
  · rw [if_pos (by omega), dF hlt, dF (show i < b.length by omega)]
    simp only [Option.bind_some]
    by_cases hx : a[i] = b[i]
    · left
      refine ⟨hlt, _, by rw [if_neg (by simpa using hx)], by rw [lF i (by omega)], by omega, ?_⟩
      rw [List.take_add_one, List.take_add_one, he, List.getElem?_eq_getElem hlt, List.getElem?_eq_getElem (show i < b.length by omega), hx]
    · right
      rw [if_pos hx]
      simp only [Option.map_some, Option.some.injEq, Sum.inr.injEq]
      refine (decide_eq_false fun e => hx ?_).symm
      subst e; rfl
  · right
    obtain rfl : i = a.length := by omega
    rw [if_neg (by omega)]
    simp only [Option.map_some, Option.some.injEq, Sum.inr.injEq]
    rw [List.take_length, hl, List.take_length] at he
    exact (decide_eq_true he).symm
theorem WS (a b : List UInt8) (ha : a.length ≤ 16000000) : lY a b = some (decide (a = b)) := by
  unfold lY
  rw [WR a b ha]
  rfl
def spr (s : UInt64) (x : UInt8) : UInt64 := 2 * s + (UInt64.ofNat x.toNat + 1) * 11400714819323198485
def PI (n : Nat) (s : UInt64) : Bool := decide (n = 1024) || (decide (64 ≤ n) && decide (jR s ((58 : UInt64).toNat) = 0))
def cut : List UInt8 → List UInt8 → UInt64 → List (List UInt8)
  | [], _, _ => []
  | x :: r, p, s => if (PI (p.length + 1) (spr s x) || r.isEmpty) = true then (p ++ [x]) :: cut r [] 0 else cut r (p ++ [x]) (spr s x)
theorem JF : ∀ (r p : List UInt8) (s : UInt64), r ≠ [] → (cut r p s).flatten = p ++ r
  | [], _, _, h => absurd rfl h
  | x :: r, p, s, _ => by
    unfold cut
    split
    · rename_i hc
      cases r with
      | nil => simp [cut]
      | cons y r => rw [List.flatten_cons, JF (y :: r) [] 0 (by simp)]; simp
    · rename_i hc
      cases r with
      | nil => simp at hc
      | cons y r => rw [JF (y :: r) _ _ (by simp)]; simp
theorem SE (data : List UInt8) : (cut data [] 0).flatten = data := by
  cases data with
  | nil => rfl
  | cons x r => rw [JF _ _ _ (by simp)]; rfl
theorem tu : ∀ (r p : List UInt8) (s : UInt64), p.length < 1024 → ∀ c ∈ cut r p s, 1 ≤ c.length ∧ c.length ≤ 1024
  | [], _, _, _, c, h => by cases h
  | x :: r, p, s, hp, c, h => by
    unfold cut at h
    split at h
    · rcases List.mem_cons.1 h with rfl | h
      · simp; omega
      · exact tu r [] 0 (by simp) c h
    · rename_i hc
      have hne : p.length + 1 ≠ 1024 := fun e => hc (by simp [PI, e])
      exact tu r _ _ (by simp; omega) c h
theorem CX (data : List UInt8) : (cut data [] 0).length ≤ data.length := by
  have h1 := SE data
  have h2 := tu data [] 0 (by simp)
  have key : ∀ l : List (List UInt8), (∀ c ∈ l, 1 ≤ c.length ∧ c.length ≤ 1024) → l.length ≤ l.flatten.length := by
    intro l
    induction l with
    | nil => intro _; simp
    | cons c l ih =>
      intro h
      have := ih fun x hx => h x (List.mem_cons_of_mem _ hx)
      have := (h c List.mem_cons_self).1
      simp only [List.length_cons, List.flatten_cons, List.length_append]
      omega
  have := key _ h2
  rw [h1] at this
  exact this
theorem SG (s : UInt64) : o_ s ((1 : UInt64).toNat) = 2 * s := by
  rw [← UInt64.toNat_inj]
  show ((s.toBitVec <<< 1 : BitVec 64)).toNat = _
  rw [BitVec.toNat_shiftLeft, Nat.shiftLeft_eq, UInt64.toNat_mul]
  show s.toNat * 2 ^ 1 % 2 ^ 64 = (2 * s.toNat) % 2 ^ 64
  rw [Nat.mul_comm]
theorem drop_at (data : List UInt8) (i : Nat) (h : i < data.length) : data.drop i = data[i] :: data.drop (i + 1) := List.drop_eq_getElem_cons h
theorem Lr (data : List UInt8) (f i : Nat) (hf : f ≤ i) (h : i < data.length) : (data.take (i + 1)).drop f = (data.take i).drop f ++ [data[i]] := by
  rw [List.take_add_one, List.getElem?_eq_getElem h, List.drop_append, List.length_take, show f - min i data.length = 0 from by omega]
  rfl
theorem JG (data : List UInt8) (hd : data.length ≤ 1048576) : oL data = some (cut data [] 0, 0) := by
  unfold oL
  rw [if_neg (by omega)]
  have go : ∀ (d i f : Nat) (l : List (List UInt8)) (s : UInt64), d + i = data.length → f ≤ i → l.length ≤ i →
      aX (jZ data) (l, (f : Int), s, (i : Int)) = some (l ++ cut (data.drop i) ((data.take i).drop f) s, 0) := by
    intro d
    induction d with
    | zero =>
      intro i f l s hdi hf hl
      refine tN ?_
      unfold jZ
      simp only []
      rw [if_neg (by omega), List.drop_eq_nil_of_le (by omega)]
      simp [cut]
    | succ d ih =>
      intro i f l s hdi hf hl
      have hi : i < data.length := by omega
      have hpl : ((data.take i).drop f).length + 1 = i + 1 - f := by simp; omega
      have hw : aI (aI ((i : Int) + 1) - (f : Int)) = ((i + 1 - f : Nat) : Int) := by rw [lF i (by omega), fP (by omega)]; omega
      have hemp : (data.drop (i + 1)).isEmpty = decide ((i : Int) = aI (((data.length : Nat) : Int) - 1)) := by
        rw [fP (by omega)]
        by_cases he : i + 1 = data.length
        · rw [List.drop_eq_nil_of_le (by omega), decide_eq_true (by omega)]; rfl
        · rw [decide_eq_false (by omega)]
          cases hq : data.drop (i + 1) with
          | nil => have := congrArg List.length hq; simp at this; omega
          | cons _ _ => rfl
      have hcond : ((decide ((aI ((aI ((i : Int) + 1)) - (f : Int))) = 1024)) || ((decide (64 ≤ (aI ((aI ((i : Int) + 1)) - (f : Int))))) && (decide ((jR ((o_ s ((1 : UInt64).toNat)) + (((UInt64.ofNat data[i].toNat) + 1) * 11400714819323198485)) ((58 : UInt64).toNat)) = 0)))) =
          PI (((data.take i).drop f).length + 1) (spr s data[i]) := by
        rw [hw, hpl, SG]
        unfold PI spr
        congr 1
        · exact decide_eq_decide.2 (by omega)
        · congr 1
          exact decide_eq_decide.2 (by omega)
      rw [drop_at data i hi]
      unfold cut
      by_cases hc : (PI (((data.take i).drop f).length + 1) (spr s data[i]) || (data.drop (i + 1)).isEmpty) = true
      · rw [if_pos hc]
        refine (tK (s' := (l ++ [(data.take (i + 1)).drop f], ((i + 1 : Nat) : Int), 0, ((i + 1 : Nat) : Int))) ?_).trans ?_
        · unfold jZ lT
          simp only []
          rw [if_pos (by omega), dF hi]
          simp only [Option.bind_some]
          rw [hcond, ← hemp, if_pos hc, lF i (by omega), rE (by omega)]
          simp only [Option.bind_some, Int.toNat_natCast]
          rw [mW (by simp; omega)]
          simp only [Option.bind_some, List.nil_append]
          rw [mW (by simp; omega)]
          rfl
        · rw [ih (i + 1) (i + 1) _ _ (by omega) (by omega) (by simp; omega), show (data.take (i + 1)).drop (i + 1) = [] from List.drop_eq_nil_of_le (by simp; omega), Lr data f i hf hi, List.append_assoc]
          rfl
      · rw [if_neg hc, ← Lr data f i hf hi]
        refine (tK (s' := (l, (f : Int), spr s data[i], ((i + 1 : Nat) : Int))) ?_).trans (ih (i + 1) f l _ (by omega) (by omega) (by omega))
        unfold jZ lT
        simp only []
        rw [if_pos (by omega), dF hi]
        simp only [Option.bind_some]
        rw [hcond, ← hemp, if_neg hc, lF i (by omega), SG]
        rfl
  have := go data.length 0 0 [] 0 (by omega) (by omega) (by simp)
  simpa using this
theorem Ue : wR = some true := by
  unfold wR
  rw [JG _ (by simp)]
  simp only [Option.bind_some]
  rw [show cut ([97, 98, 99] : List UInt8) [] 0 = [[97, 98, 99]] from by decide +kernel]
  rw [if_pos (by decide)]
  rw [show aF ([[97, 98, 99]] : List (List UInt8)) (0 : Int) = some [97, 98, 99] from rfl]
  simp only [Option.bind_some]
  rw [WS _ _ (by simp)]
  rfl
end Go.Sx
namespace Go.Sx
open Go.RowKit
set_option linter.unusedVariables false
set_option linter.unusedSimpArgs false
section
variable {α σ ρ : Type}
def Vec.g [Inhabited α] {n : Nat} (v : Vec α n) (i : Nat) : α := v.l.getD i default
theorem df [Inhabited α] {n : Nat} (v : Vec α n) (i : Nat) (h : i < n) : aF v.l (i : Int) = some (v.g i) := by
  have hl : i < v.l.length := by rw [v.h]; exact h
  rw [dF hl]
  simp [Vec.g, List.getD_eq_getElem?_getD, hl]
theorem bW (i : Nat) (h : i < 1000000000000000000) : aI ((i : Int) + 1) = ((i + 1 : Nat) : Int) := by rw [fP (by omega)]; omega
theorem pO (step : σ × Int → Option ((σ × Int) ⊕ ρ)) (n : Nat) (F : σ → Nat → σ) (s : σ) (r : ρ) (h : ∀ s i, i < n → step (s, (i : Int)) = some (.inl (F s i, ((i + 1 : Nat) : Int))))
    (he : step ((List.range n).foldl F s, (n : Int)) = some (.inr r)) : aX step (s, 0) = some r := by
  refine dm (fun i => ((List.range i).foldl F s, (i : Int))) n (fun i hi => ?_) he
  show step ((List.range i).foldl F s, (i : Int)) = some (.inl ((List.range (i + 1)).foldl F s, ((i + 1 : Nat) : Int)))
  rw [h _ _ hi, List.range_succ, List.foldl_append]
  rfl
theorem GV {v : Vec α 8} : ∃ a b c d e f g h, v = ⟨[a, b, c, d, e, f, g, h], rfl⟩ := by
  obtain ⟨l, hl⟩ := v
  match l, hl with
  | [a, b, c, d, e, f, g, h], _ => exact ⟨a, b, c, d, e, f, g, h, rfl⟩
end
def AV (x : UInt64) (k : Nat) : UInt64 := jR x k ||| o_ x (64 - k)
theorem rl32 (x : UInt64) : fC x (-32) = some (AV x 32) := by
  show some (o_ x 32 ||| jR x 32) = _
  rw [UInt64.or_comm]; rfl
theorem rl24 (x : UInt64) : fC x (-24) = some (AV x 24) := by
  show some (o_ x 40 ||| jR x 24) = _
  rw [UInt64.or_comm]; rfl
theorem rl16 (x : UInt64) : fC x (-16) = some (AV x 16) := by
  show some (o_ x 48 ||| jR x 16) = _
  rw [UInt64.or_comm]; rfl
theorem rl63 (x : UInt64) : fC x (-63) = some (AV x 63) := by
  show some (o_ x 1 ||| jR x 63) = _
  rw [UInt64.or_comm]; rfl
theorem tn32 (x : UInt64) : nS x 32 = some (AV x 32) := by kernel_rfl
theorem tn24 (x : UInt64) : nS x 24 = some (AV x 24) := by kernel_rfl
theorem tn16 (x : UInt64) : nS x 16 = some (AV x 16) := by kernel_rfl
theorem tn63 (x : UInt64) : nS x 63 = some (AV x 63) := by kernel_rfl
def Gb (v : Vec UInt64 16) (a b c d : Nat) (x y : UInt64) : Vec UInt64 16 :=
  let v1 := jy v a (v.g a + (v.g b + x))
  let v2 := jy v1 d (AV (v1.g d ^^^ v1.g a) 32)
  let v3 := jy v2 c (v2.g c + v2.g d)
  let v4 := jy v3 b (AV (v3.g b ^^^ v3.g c) 24)
  let v5 := jy v4 a (v4.g a + (v4.g b + y))
  let v6 := jy v5 d (AV (v5.g d ^^^ v5.g a) 16)
  let v7 := jy v6 c (v6.g c + v6.g d)
  jy v7 b (AV (v7.g b ^^^ v7.g c) 63)
theorem step_ok (v : Vec UInt64 16) (a b c d : Nat) (x y : UInt64) (ha : a < 16) (hb : b < 16) (hc : c < 16) (hd : d < 16) (p : Vec Int 4) (hp : p.l = [(a : Int), (b : Int), (c : Int), (d : Int)]) : wH v p x y = some (Gb v a b c d x y) := by
  unfold wH
  have e0 : aF p.l 0 = some (a : Int) := by rw [hp]; rfl
  have e1 : aF p.l 1 = some (b : Int) := by rw [hp]; rfl
  have e2 : aF p.l 2 = some (c : Int) := by rw [hp]; rfl
  have e3 : aF p.l 3 = some (d : Int) := by rw [hp]; rfl
  simp only [e0, e1, e2, e3, df _ a ha, df _ b hb, df _ c hc, df _ d hd, Option.bind_some, rl32, rl24, rl16, rl63]
  rfl
theorem G_ok (v : Vec UInt64 16) (a b c d : Nat) (x y : UInt64) (ha : a < 16) (hb : b < 16) (hc : c < 16) (hd : d < 16) (hn : a ≠ b ∧ a ≠ c ∧ a ≠ d ∧ b ≠ c ∧ b ≠ d ∧ c ≠ d) : MW v a b c d x y = some (Gb v a b c d x y, 0) := by
  have pl : ∀ i : Nat, i < 16 → uh (i : Int) = some true := by
    intro i hi
    unfold uh
    simp only [Option.some.injEq, Bool.and_eq_true, decide_eq_true_eq]
    omega
  unfold MW
  simp only [pl a ha, pl b hb, pl c hc, pl d hd, Option.bind_some, Bool.not_true, Bool.false_or, Bool.or_eq_true, decide_eq_true_eq, Bool.false_eq_true, if_false, false_or]
  rw [if_neg (by omega)]
  simp only [df _ a ha, df _ b hb, df _ c hc, df _ d hd, Option.bind_some, tn32, tn24, tn16, tn63, UInt64.add_assoc]
  rfl
def pls : List (Nat × Nat × Nat × Nat) := [(0, 4, 8, 12), (1, 5, 9, 13), (2, 6, 10, 14), (3, 7, 11, 15), (0, 5, 10, 15), (1, 6, 11, 12), (2, 7, 8, 13), (3, 4, 9, 14)]
def pl (i : Nat) : Nat × Nat × Nat × Nat := pls.getD i (0, 0, 0, 0)
theorem SI : ∀ i : Nat, i < 8 → (pl i).1 < 16 ∧ (pl i).2.1 < 16 ∧ (pl i).2.2.1 < 16 ∧ (pl i).2.2.2 < 16 ∧ (pl i).1 ≠ (pl i).2.1 ∧ (pl i).1 ≠ (pl i).2.2.1 ∧ (pl i).1 ≠ (pl i).2.2.2 ∧ (pl i).2.1 ≠ (pl i).2.2.1 ∧ (pl i).2.1 ≠ (pl i).2.2.2 ∧ (pl i).2.2.1 ≠ (pl i).2.2.2 := by decide
def sgs : List Nat := [0, 1, 2, 3, 4, 5, 6, 7, 8, 9, 10, 11, 12, 13, 14, 15, 14, 10, 4, 8, 9, 15, 13, 6, 1, 12, 0, 2, 11, 7, 5, 3, 11, 8, 12, 0, 5, 2, 15, 13, 10, 14, 3, 6, 7, 1, 9, 4, 7, 9, 3, 1, 13, 12, 11, 14, 2, 6, 5, 10, 4, 0, 15, 8, 9, 0, 5, 7, 2, 4, 10, 15, 14, 1, 11, 12, 6, 8, 3, 13, 2, 12, 6, 10, 0, 11, 8, 3, 4, 13, 7, 5, 15, 14, 1, 9, 12, 5, 1, 15, 14, 13, 4, 10, 0, 7, 6, 3, 9, 2, 8, 11, 13, 11, 7, 14, 12, 1, 3, 9, 5, 0, 15, 4, 8, 6, 2, 10, 6, 15, 14, 9, 11, 3, 0, 8, 12, 2, 13, 7, 1, 4, 10, 5, 10, 2, 8, 4, 7, 6, 1, 5, 15, 11, 9, 14, 3, 12, 13, 0]
def sg (r i : Nat) : Nat := sgs.getD (16 * (r % 10) + i) 0
theorem Hu : ∀ r : Nat, r < 12 → ∀ i : Nat, i < 16 → sg r i < 16 := by decide +kernel
theorem rsg : ∀ r : Nat, r < 12 → ∀ i : Nat, i < 16 → wP (r : Int) (i : Int) = some (sg r i : Int) := by decide +kernel
theorem wsg (r : Nat) (hr : r < 12) : ∃ row, uM (r : Int) = some row ∧ ∀ i : Nat, i < 16 → aF row.l (i : Int) = some (sg r i : Int) := by
  match r, hr with
  | 0, _ => exact ⟨_, rfl, by decide +kernel⟩
  | 1, _ => exact ⟨_, rfl, by decide +kernel⟩
  | 2, _ => exact ⟨_, rfl, by decide +kernel⟩
  | 3, _ => exact ⟨_, rfl, by decide +kernel⟩
  | 4, _ => exact ⟨_, rfl, by decide +kernel⟩
  | 5, _ => exact ⟨_, rfl, by decide +kernel⟩
  | 6, _ => exact ⟨_, rfl, by decide +kernel⟩
  | 7, _ => exact ⟨_, rfl, by decide +kernel⟩
  | 8, _ => exact ⟨_, rfl, by decide +kernel⟩
  | 9, _ => exact ⟨_, rfl, by decide +kernel⟩
  | 10, _ => exact ⟨_, rfl, by decide +kernel⟩
  | 11, _ => exact ⟨_, rfl, by decide +kernel⟩
def Sb (m : Vec UInt64 16) (r : Nat) (v : Vec UInt64 16) (i : Nat) : Vec UInt64 16 := Gb v (pl i).1 (pl i).2.1 (pl i).2.2.1 (pl i).2.2.2 (m.g (sg r (2 * i))) (m.g (sg r (2 * i + 1)))
def Rb (v m : Vec UInt64 16) (r : Nat) : Vec UInt64 16 := (List.range 8).foldl (Sb m r) v
theorem SK (i : Nat) (h : i < 100) : aI (2 * (i : Int)) = ((2 * i : Nat) : Int) := by rw [fP (by omega)]; omega
theorem Yh (v m : Vec UInt64 16) (r : Nat) (hr : r < 12) : wI v m (r : Int) = some (Rb v m r, m) := by
  obtain ⟨row, h1, h2⟩ := wsg r hr
  unfold wI
  rw [h1]
  simp only [Option.bind_some]
  unfold vY
  simp only [Option.bind_some]
  refine pO _ 8 (Sb m r) v _ (fun v i hi => ?_) ?_
  · unfold uN
    obtain ⟨p1, p2, p3, p4, _⟩ := SI i hi
    simp only []
    rw [if_pos (by omega), SK i (by omega), bW _ (by omega), bW _ (by omega), h2 _ (by omega), h2 _ (by omega)]
    simp only [Option.bind_some]
    rw [df _ _ (Hu r hr _ (by omega)), df _ _ (Hu r hr _ (by omega))]
    have key : ∃ p : Vec Int 4, aF (⟨[(⟨[(0 : Int), (4 : Int), (8 : Int), (12 : Int)], rfl⟩ : Vec Int 4), (⟨[(1 : Int), (5 : Int), (9 : Int), (13 : Int)], rfl⟩ : Vec Int 4), (⟨[(2 : Int), (6 : Int), (10 : Int), (14 : Int)], rfl⟩ : Vec Int 4), (⟨[(3 : Int), (7 : Int), (11 : Int), (15 : Int)], rfl⟩ : Vec Int 4), (⟨[(0 : Int), (5 : Int), (10 : Int), (15 : Int)], rfl⟩ : Vec Int 4), (⟨[(1 : Int), (6 : Int), (11 : Int), (12 : Int)], rfl⟩ : Vec Int 4), (⟨[(2 : Int), (7 : Int), (8 : Int), (13 : Int)], rfl⟩ : Vec Int 4), (⟨[(3 : Int), (4 : Int), (9 : Int), (14 : Int)], rfl⟩ : Vec Int 4)], rfl⟩ : Vec (Vec Int 4) 8).l (i : Int) = some p ∧ p.l = [((pl i).1 : Int), ((pl i).2.1 : Int), ((pl i).2.2.1 : Int), ((pl i).2.2.2 : Int)] := by
      match i, hi with
      | 0, _ => exact ⟨_, rfl, rfl⟩
      | 1, _ => exact ⟨_, rfl, rfl⟩
      | 2, _ => exact ⟨_, rfl, rfl⟩
      | 3, _ => exact ⟨_, rfl, rfl⟩
      | 4, _ => exact ⟨_, rfl, rfl⟩
      | 5, _ => exact ⟨_, rfl, rfl⟩
      | 6, _ => exact ⟨_, rfl, rfl⟩
      | 7, _ => exact ⟨_, rfl, rfl⟩
    obtain ⟨p, k1, k2⟩ := key
    rw [k1]
    simp only [Option.bind_some]
    rw [step_ok v _ _ _ _ _ _ p1 p2 p3 p4 p k2]
    rfl
  · rfl
theorem Uf (i : Nat) (hi : i < 8) : ∃ p : Vec Int 4, Fh (i : Int) = some p ∧ p.l = [((pl i).1 : Int), ((pl i).2.1 : Int), ((pl i).2.2.1 : Int), ((pl i).2.2.2 : Int)] := by
  match i, hi with
  | 0, _ => exact ⟨_, rfl, rfl⟩
  | 1, _ => exact ⟨_, rfl, rfl⟩
  | 2, _ => exact ⟨_, rfl, rfl⟩
  | 3, _ => exact ⟨_, rfl, rfl⟩
  | 4, _ => exact ⟨_, rfl, rfl⟩
  | 5, _ => exact ⟨_, rfl, rfl⟩
  | 6, _ => exact ⟨_, rfl, rfl⟩
  | 7, _ => exact ⟨_, rfl, rfl⟩
theorem WT (v m : Vec UInt64 16) (r : Nat) (hr : r < 12) : BI v m (r : Int) = some (Rb v m r, 0) := by
  unfold BI
  rw [if_neg (by simp only [Bool.or_eq_true, decide_eq_true_eq]; omega)]
  refine pO _ 8 (Sb m r) v _ (fun v i hi => ?_) ?_
  · unfold BH
    obtain ⟨p1, p2, p3, p4, hn⟩ := SI i hi
    obtain ⟨p, k1, k2⟩ := Uf i hi
    have e0 : aF p.l 0 = some ((pl i).1 : Int) := by rw [k2]; rfl
    have e1 : aF p.l 1 = some ((pl i).2.1 : Int) := by rw [k2]; rfl
    have e2 : aF p.l 2 = some ((pl i).2.2.1 : Int) := by rw [k2]; rfl
    have e3 : aF p.l 3 = some ((pl i).2.2.2 : Int) := by rw [k2]; rfl
    simp only []
    rw [if_pos (by omega), k1, SK i (by omega), bW _ (by omega), bW _ (by omega)]
    simp only [Option.bind_some, e0, e1, e2, e3]
    rw [rsg r hr _ (by omega), rsg r hr _ (by omega)]
    simp only [Option.bind_some]
    rw [df _ _ (Hu r hr _ (by omega)), df _ _ (Hu r hr _ (by omega))]
    simp only [Option.bind_some]
    rw [G_ok v _ _ _ _ _ _ p1 p2 p3 p4 hn]
    rfl
  · rfl
end Go.Sx
namespace Go.Sx
open Go.RowKit
set_option linter.unusedVariables false
set_option linter.unusedSimpArgs false
def Yi : List UInt64 := [7640891576956012808, 13503953896175478587, 4354685564936845355, 11912009170470909681, 5840696475078001361, 11170449401992604703, 2270897969802886507, 6620516959819538809]
def I0b (h : Vec UInt64 8) : Vec UInt64 16 := ⟨h.l ++ Yi, by simp [h.h, Yi]⟩
def Ib (h : Vec UInt64 8) (lo hi : UInt64) (last node : Bool) : Vec UInt64 16 :=
  let v0 := I0b h
  let v1 := jy v0 12 (v0.g 12 ^^^ lo)
  let v2 := jy v1 13 (v1.g 13 ^^^ hi)
  let v3 := if last then jy v2 14 (18446744073709551615 ^^^ v2.g 14) else v2
  if node then jy v3 15 (18446744073709551615 ^^^ v3.g 15) else v3
theorem wInit (h : Vec UInt64 8) (lo hi : UInt64) (last node : Bool) : yN h lo hi last node = some (Ib h lo hi last node) := by
  obtain ⟨a, b, c, d, e, f, g, q, rfl⟩ := GV (v := h)
  cases last <;> cases node <;> kernel_rfl
theorem riv (i : Nat) (hi : i < 8) : Jd (i : Int) = some (Yi.getD i 0) := by
  match i, hi with
  | 0, _ => rfl
  | 1, _ => rfl
  | 2, _ => rfl
  | 3, _ => rfl
  | 4, _ => rfl
  | 5, _ => rfl
  | 6, _ => rfl
  | 7, _ => rfl
theorem CY (i : Nat) (h : i < 100) : aI ((i : Int) + 8) = ((i + 8 : Nat) : Int) := by rw [fP (by omega)]; omega
theorem rInit (h : Vec UInt64 8) (lo hi : UInt64) (last node : Bool) : Ef h lo hi last node = some (Ib h lo hi last node) := by
  unfold Ef
  refine pO _ 8 (fun v i => jy (jy v i (h.g i)) ((i + 8 : Nat) : Int) (Yi.getD i 0)) _ _ (fun v i hi => ?_) ?_
  · unfold DL
    simp only []
    rw [if_pos (by omega), df _ _ hi, df _ _ (by omega), CY i (by omega), bW i (by omega), riv i hi]
    simp only [Option.bind_some]
    rw [df _ _ (by omega)]
    rfl
  · obtain ⟨a, b, c, d, e, f, g, q, rfl⟩ := GV (v := h)
    cases last <;> cases node <;> kernel_rfl
def Eb (v : Vec UInt64 16) (h : Vec UInt64 8) (i : Nat) : Vec UInt64 8 := jy h i (h.g i ^^^ (v.g i ^^^ v.g (i + 8)))
def Fb (h : Vec UInt64 8) (m : Vec UInt64 16) (lo hi : UInt64) (last node : Bool) : Vec UInt64 8 :=
  (List.range 8).foldl (Eb ((List.range 12).foldl (fun v r => Rb v m r) (Ib h lo hi last node))) h
theorem wF (h : Vec UInt64 8) (m : Vec UInt64 16) (lo hi : UInt64) (last node : Bool) : BA h m lo hi last node = some (Fb h m lo hi last node) := by
  unfold BA
  rw [wInit]
  simp only [Option.bind_some]
  refine dm (fun i => (m, (List.range i).foldl (fun v r => Rb v m r) (Ib h lo hi last node), (i : Int))) 12 (fun i hi => ?_) ?_
  · unfold wK
    simp only []
    rw [if_pos (by omega), Yh _ _ _ hi, bW i (by omega), List.range_succ, List.foldl_append]
    rfl
  · unfold wK
    simp only []
    rw [if_neg (by omega)]
    rw [show aX (wJ ((List.range 12).foldl (fun v r => Rb v m r) (Ib h lo hi last node))) (h, 0) = some (Fb h m lo hi last node) from ?_]
    · rfl
    refine pO _ 8 (Eb ((List.range 12).foldl (fun v r => Rb v m r) (Ib h lo hi last node))) _ _ (fun v i hi => ?_) ?_
    · unfold wJ
      simp only []
      rw [if_pos (by omega), df _ _ (by omega), df _ _ (by omega), CY i (by omega), bW i (by omega), df _ _ (by omega)]
      rfl
    · rfl
theorem rF (h : Vec UInt64 8) (m : Vec UInt64 16) (lo hi : UInt64) (last node : Bool) : MZ h m lo hi last node = some (Fb h m lo hi last node) := by
  unfold MZ
  rw [rInit]
  simp only [Option.bind_some]
  refine pO _ 12 (fun v r => Rb v m r) _ _ (fun v i hi => ?_) ?_
  · unfold Eh
    simp only []
    rw [if_pos (by omega), WT _ _ _ hi, bW i (by omega)]
    rfl
  · unfold Eh
    simp only []
    rw [if_neg (by omega)]
    rw [show aX (Eg ((List.range 12).foldl (fun v r => Rb v m r) (Ib h lo hi last node))) (h, 0) = some (Fb h m lo hi last node) from ?_]
    · rfl
    refine pO _ 8 (Eb ((List.range 12).foldl (fun v r => Rb v m r) (Ib h lo hi last node))) _ _ (fun v i hi => ?_) ?_
    · unfold Eg
      simp only []
      rw [if_pos (by omega), df _ _ (by omega), df _ _ (by omega), CY i (by omega), bW i (by omega), df _ _ (by omega)]
      simp only [Option.bind_some, UInt64.xor_assoc]
      rfl
    · rfl
end Go.Sx
namespace Go.Sx
open Go.RowKit
set_option linter.unusedVariables false
set_option linter.unusedSimpArgs false
def word64 : List UInt8 → UInt64
  | [] => 0
  | b :: r => UInt64.ofNat b.toNat + 256 * word64 r
def Ik : List UInt8 → Nat
  | [] => 0
  | b :: r => b.toNat + 256 * Ik r
theorem WU (l : List UInt8) : Ik l < 256 ^ l.length := by
  induction l with
  | nil => simp [Ik]
  | cons b r ih =>
    have := b.toNat_lt
    simp only [Ik, List.length_cons, Nat.pow_succ]
    omega
theorem Q3 (l : List UInt8) (b : UInt8) : Ik (l ++ [b]) = Ik l + 256 ^ l.length * b.toNat := by
  induction l with
  | nil => simp [Ik]
  | cons x r ih =>
    simp only [List.cons_append, Ik, ih, List.length_cons, Nat.pow_succ, Nat.mul_add]
    rw [Nat.mul_comm (256 ^ r.length) 256, Nat.mul_assoc]
    omega
theorem Q4 (n : Nat) : 256 ^ n = 2 ^ (8 * n) := by
  rw [show (256 : Nat) = 2 ^ 8 from rfl, ← Nat.pow_mul]
theorem Y_ (b : List UInt8) (hb : b.length ≤ 33554432) (at_ : Int) (ha : -9223372036854775808 ≤ at_ ∧ at_ ≤ 9223372036854775807) (n : Nat) (hn : n ≤ 8) :
    uf b at_ n = some (if at_ < 0 then (0, 1) else if (b.length : Int) < at_ + n then (0, 3) else (UInt64.ofNat (Ik ((b.drop at_.toNat).take n)), 0)) := by
  unfold uf
  by_cases h0 : at_ < 0
  · rw [if_pos h0, if_pos h0]
  rw [if_neg h0, if_neg h0]
  have e : ((decide (((b.length : Nat) : Int) < at_)) || (decide ((aI (((b.length : Nat) : Int) - at_)) < n))) = true ↔ (b.length : Int) < at_ + n := by
    rw [fP (by omega)]
    simp only [Bool.or_eq_true, decide_eq_true_eq]
    omega
  by_cases h1 : (b.length : Int) < at_ + n
  · rw [if_pos (e.2 h1), if_pos h1]
  rw [if_neg (fun h => h1 (e.1 h)), if_neg h1]
  obtain ⟨a, rfl⟩ : ∃ a : Nat, at_ = a := ⟨at_.toNat, by omega⟩
  simp only [Int.toNat_natCast]
  refine qP (fun i s => s = (UInt64.ofNat (Ik ((b.drop a).take i)), (i : Int)) ∧ i ≤ n) _ n _ ⟨by simp [Ik], by omega⟩ ?_
  rintro i s ⟨rfl, hi⟩
  unfold uD
  by_cases hlt : i < n
  · left
    refine ⟨hlt, (UInt64.ofNat (Ik ((b.drop a).take (i + 1))), ((i + 1 : Nat) : Int)), ?_, rfl, by omega⟩
    have e1 : aI ((a : Int) + (i : Int)) = ((a + i : Nat) : Int) := by rw [fP (by omega)]; omega
    have hai : a + i < b.length := by omega
    have e2 : aI (8 * (i : Int)) = ((8 * i : Nat) : Int) := by rw [fP (by omega)]; omega
    have e3 : aI ((i : Int) + 1) = ((i + 1 : Nat) : Int) := by rw [fP (by omega)]; omega
    simp only []
    rw [if_pos (by omega), e1, dF hai]
    simp only [Option.bind_some]
    rw [e2, nP (by omega), e3]
    simp only [Option.bind_some, Int.toNat_natCast]
    congr 3
    have hd : (b.drop a).take (i + 1) = (b.drop a).take i ++ [b[a + i]] := by
      rw [List.take_succ_eq_append_getElem (by simp; omega)]
      simp
    rw [hd, Q3, List.length_take, List.length_drop, Nat.min_eq_left (by omega), Q4]
    have hx := (b[a + i]).toNat_lt
    have hlt2 := WU ((b.drop a).take i)
    rw [List.length_take, List.length_drop, Nat.min_eq_left (by omega), Q4] at hlt2
    have hp : 2 ^ (8 * i) * 256 = 2 ^ (8 * (i + 1)) := by rw [show 8 * (i + 1) = 8 * i + 8 from by omega, Nat.pow_add]
    have hq : 2 ^ (8 * (i + 1)) ≤ 2 ^ 64 := Nat.pow_le_pow_right (by omega) (by omega)
    have hr : 2 ^ (8 * i) * (b[a + i]).toNat < 2 ^ (8 * (i + 1)) := by
      rw [← hp]; exact Nat.mul_lt_mul_of_pos_left hx (Nat.pow_pos (by omega))
    apply UInt64.eq_of_toBitVec_eq
    apply BitVec.eq_of_toNat_eq
    simp only [UInt64.toBitVec_or, o_, BitVec.toNat_or, BitVec.toNat_shiftLeft]
    simp only [UInt64.toNat_toBitVec, UInt64.toNat_ofNat']
    have m1 : Ik ((b.drop a).take i) % 2 ^ 64 = Ik ((b.drop a).take i) := Nat.mod_eq_of_lt (by omega)
    have m2 : (b[a + i]).toNat % 2 ^ 64 = (b[a + i]).toNat := Nat.mod_eq_of_lt (by omega)
    have m3 : ((b[a + i]).toNat <<< (8 * i)) % 2 ^ 64 = (b[a + i]).toNat <<< (8 * i) := by
      apply Nat.mod_eq_of_lt; rw [Nat.shiftLeft_eq, Nat.mul_comm]; omega
    rw [m1, m2, m3, Nat.or_comm, ← Nat.shiftLeft_add_eq_or_of_lt hlt2, Nat.shiftLeft_eq, Nat.mul_comm]
    rw [Nat.mod_eq_of_lt]
    · omega
    · have : Ik ((b.drop a).take i) + 2 ^ (8 * i) * (b[a + i]).toNat < 2 ^ (8 * (i + 1)) := by
        rw [← hp]
        have h5 : 2 ^ (8 * i) * (b[a + i]).toNat + 2 ^ (8 * i) ≤ 2 ^ (8 * i) * 256 := by
          rw [← Nat.mul_succ]; exact Nat.mul_le_mul_left _ (by omega)
        omega
      omega
  · right
    obtain rfl : i = n := by omega
    simp
theorem rload (b : List UInt8) (hb : b.length ≤ 33554432) (at_ : Int) (ha : -9223372036854775808 ≤ at_ ∧ at_ ≤ 9223372036854775807) (n : Nat) (hn : n ≤ 8) :
    yf b at_ n = some (if at_ < 0 then (0, 1) else if (b.length : Int) < at_ + n then (0, 3) else (UInt64.ofNat (Ik ((b.drop at_.toNat).take n)), 0)) := by
  unfold yf
  by_cases h0 : at_ < 0
  · rw [if_pos h0, if_pos h0]
  rw [if_neg h0, if_neg h0]
  have e : ((decide (((b.length : Nat) : Int) < at_)) || (decide ((aI (((b.length : Nat) : Int) - at_)) < n))) = true ↔ (b.length : Int) < at_ + n := by
    rw [fP (by omega)]
    simp only [Bool.or_eq_true, decide_eq_true_eq]
    omega
  by_cases h1 : (b.length : Int) < at_ + n
  · rw [if_pos (e.2 h1), if_pos h1]
  rw [if_neg (fun h => h1 (e.1 h)), if_neg h1]
  obtain ⟨a, rfl⟩ : ∃ a : Nat, at_ = a := ⟨at_.toNat, by omega⟩
  simp only [Int.toNat_natCast]
  rw [fP (by omega)]
  refine qP (fun i s => s = (UInt64.ofNat (Ik (((b.drop a).take n).drop (n - i))), (n : Int) - 1 - i) ∧ i ≤ n) _ n _ ⟨?_, by omega⟩ ?_
  · have : ((b.drop a).take n).drop (n - 0) = [] := by apply List.drop_eq_nil_of_le; simp; omega
    rw [this]; simp [Ik]
  rintro i s ⟨rfl, hi⟩
  unfold DI
  by_cases hlt : i < n
  · left
    refine ⟨hlt, _, ?_, rfl, by omega⟩
    have e1 : aI ((a : Int) + ((n : Int) - 1 - i)) = ((a + (n - 1 - i) : Nat) : Int) := by rw [fP (by omega)]; omega
    have e3 : aI ((n : Int) - 1 - i - 1) = (n : Int) - 1 - ((i + 1 : Nat) : Int) := by rw [fP (by omega)]; omega
    simp only []
    rw [if_pos (by omega), e1, dF (by omega : a + (n - 1 - i) < b.length)]
    simp only [Option.bind_some]
    rw [e3]
    congr 3
    have hd : ((b.drop a).take n).drop (n - (i + 1)) = b[a + (n - 1 - i)] :: ((b.drop a).take n).drop (n - i) := by
      rw [List.drop_eq_getElem_cons (by simp; omega)]
      simp only [List.getElem_take, List.getElem_drop]
      have q1 : n - (i + 1) + 1 = n - i := by omega
      rw [q1]
      congr 2; omega
    rw [hd, Ik]
    apply UInt64.eq_of_toBitVec_eq
    apply BitVec.eq_of_toNat_eq
    simp only [UInt64.toNat_toBitVec, UInt64.toNat_add, UInt64.toNat_mul, UInt64.toNat_ofNat']
    generalize Ik _ = y
    generalize (b[a + (n - 1 - i)]).toNat = z
    have : UInt64.toNat 256 = 256 := rfl
    rw [this]
    omega
  · right
    obtain rfl : i = n := by omega
    simp only []
    rw [if_neg (by omega)]
    simp
theorem load32 (b : List UInt8) (hb : b.length ≤ 33554432) (at_ : Int) (ha : -9223372036854775808 ≤ at_ ∧ at_ ≤ 9223372036854775807) :
    pU b at_ = some (if at_ < 0 then (0, 1) else if (b.length : Int) < at_ + 4 then (0, 3) else (UInt32.ofNat (Ik ((b.drop at_.toNat).take 4)), 0)) := by
  unfold pU
  have := Y_ b hb at_ ha 4 (by omega)
  rw [show ((4 : Nat) : Int) = 4 from rfl] at this
  rw [this]
  simp only [Option.bind_some]
  split
  · rfl
  split
  · rfl
  congr 2
  have hlt := WU ((b.drop at_.toNat).take 4)
  have hq : 256 ^ ((b.drop at_.toNat).take 4).length ≤ 256 ^ 4 := Nat.pow_le_pow_right (by omega) (by simp; omega)
  simp only [UInt64.toNat_ofNat']
  rw [Nat.mod_eq_of_lt (by omega)]
theorem load64 (b : List UInt8) (hb : b.length ≤ 33554432) (at_ : Int) (ha : -9223372036854775808 ≤ at_ ∧ at_ ≤ 9223372036854775807) :
    mr b at_ = some (if at_ < 0 then (0, 1) else if (b.length : Int) < at_ + 8 then (0, 3) else (UInt64.ofNat (Ik ((b.drop at_.toNat).take 8)), 0)) := by
  unfold mr
  have := Y_ b hb at_ ha 8 (by omega)
  rw [show ((8 : Nat) : Int) = 8 from rfl] at this
  rw [this]
  rfl
theorem Yj (w : UInt64) : qy w = some ((List.range 8).map fun i => UInt8.ofNat (w.toNat / 256 ^ i)) := by
  unfold qy
  refine qP (fun i s => s = ((List.range i).map (fun i => UInt8.ofNat (w.toNat / 256 ^ i)) ++ List.replicate (8 - i) 0, (i : Int)) ∧ i ≤ 8) _ 8 _ ⟨by simp, by omega⟩ ?_
  rintro i s ⟨rfl, hi⟩
  unfold qf
  by_cases hlt : i < 8
  · left
    refine ⟨hlt, _, ?_, rfl, by omega⟩
    have e2 : aI (8 * (i : Int)) = ((8 * i : Nat) : Int) := by rw [fP (by omega)]; omega
    have e3 : aI ((i : Int) + 1) = ((i + 1 : Nat) : Int) := by rw [fP (by omega)]; omega
    simp only []
    rw [if_pos (by omega), e2, nP (by omega), e3]
    simp only [Option.bind_some]
    rw [dF (by simp; omega)]
    simp only [Option.bind_some, Int.toNat_natCast]
    congr 3
    have hr : List.replicate (8 - i) (0 : UInt8) = 0 :: List.replicate (8 - (i + 1)) 0 := by
      rw [← List.replicate_succ]; congr 1; omega
    rw [hr, List.range_succ, List.map_append, List.append_assoc]
    rw [List.set_append_right _ _ (by simp)]
    simp only [List.length_map, List.length_range, Nat.sub_self, List.set_cons_zero, List.map_cons, List.map_nil, List.cons_append, List.nil_append]
    congr 2
    apply UInt8.eq_of_toBitVec_eq; apply BitVec.eq_of_toNat_eq
    simp only [jR, Q4]
    simp [Nat.shiftRight_eq_div_pow]
  · right
    obtain rfl : i = 8 := by omega
    simp
theorem WV (w : UInt64) (n : Nat) (hn : n ≤ 8) : BQ w n = some ((List.range n).map fun i => UInt8.ofNat (w.toNat / 256 ^ i)) := by
  unfold BQ
  refine qP (fun i s => s = (UInt64.ofNat (w.toNat / 256 ^ i), (List.range i).map (fun i => UInt8.ofNat (w.toNat / 256 ^ i)), (i : Int)) ∧ i ≤ n) _ n _ ⟨by simp, by omega⟩ ?_
  rintro i s ⟨rfl, hi⟩
  unfold BP
  have hw := w.toNat_lt
  have hd : w.toNat / 256 ^ i ≤ w.toNat := Nat.div_le_self _ _
  by_cases hlt : i < n
  · left
    refine ⟨hlt, _, ?_, rfl, by omega⟩
    have e3 : aI ((i : Int) + 1) = ((i + 1 : Nat) : Int) := by rw [fP (by omega)]; omega
    simp only []
    rw [if_pos (by omega), mW (by simp; omega), e3]
    simp only [Option.bind_some]
    have q1 : UInt64.ofNat (w.toNat / 256 ^ i) / 256 = UInt64.ofNat (w.toNat / 256 ^ (i + 1)) := by
      apply UInt64.eq_of_toBitVec_eq; apply BitVec.eq_of_toNat_eq
      simp only [UInt64.toNat_toBitVec, UInt64.toNat_div, UInt64.toNat_ofNat']
      rw [Nat.mod_eq_of_lt (by omega), Nat.mod_eq_of_lt (Nat.lt_of_le_of_lt (Nat.div_le_self _ _) hw), Nat.pow_succ, ← Nat.div_div_eq_div_mul]
      rfl
    have q2 : UInt8.ofNat (UInt64.ofNat (w.toNat / 256 ^ i) % 256).toNat = UInt8.ofNat (w.toNat / 256 ^ i) := by
      apply UInt8.eq_of_toBitVec_eq; apply BitVec.eq_of_toNat_eq
      simp only [UInt8.toNat_toBitVec, UInt8.toNat_ofNat', UInt64.toNat_mod, UInt64.toNat_ofNat']
      rw [show UInt64.toNat 256 = 256 from rfl]
      omega
    rw [q1, q2, List.range_succ, List.map_append]
    rfl
  · right
    obtain rfl : i = n := by omega
    simp
theorem add_ok (lo hi n : UInt64) : o5 lo hi n = some (UInt64.ofNat (lo.toNat + 18446744073709551616 * hi.toNat + n.toNat), UInt64.ofNat ((lo.toNat + 18446744073709551616 * hi.toNat + n.toNat) / 18446744073709551616), decide (340282366920938463463374607431768211456 ≤ lo.toNat + 18446744073709551616 * hi.toNat + n.toNat)) := by
  have hl := lo.toNat_lt
  have hh := hi.toNat_lt
  have hn := n.toNat_lt
  unfold o5 OB
  simp only [show (0 : UInt64).toNat = 0 from rfl, Nat.zero_le, if_true, Option.bind_some, Nat.add_zero]
  have hc : (UInt64.ofNat ((lo.toNat + n.toNat) / 18446744073709551616)).toNat = (lo.toNat + n.toNat) / 18446744073709551616 := by
    simp only [UInt64.toNat_ofNat']; omega
  rw [hc, if_pos (by omega)]
  simp only [Option.bind_some, Option.some.injEq, Prod.mk.injEq]
  refine ⟨?_, ?_, ?_⟩
  · rw [← UInt64.toNat_inj]; simp only [UInt64.toNat_ofNat']; omega
  · rw [← UInt64.toNat_inj]; simp only [UInt64.toNat_ofNat']; omega
  · rw [decide_eq_decide, ← UInt64.toNat_inj]
    simp only [UInt64.toNat_ofNat', show (1 : UInt64).toNat = 1 from rfl]
    omega
theorem radd (lo hi n : UInt64) : zA lo hi n = some (UInt64.ofNat (lo.toNat + 18446744073709551616 * hi.toNat + n.toNat), UInt64.ofNat ((lo.toNat + 18446744073709551616 * hi.toNat + n.toNat) / 18446744073709551616), decide (340282366920938463463374607431768211456 ≤ lo.toNat + 18446744073709551616 * hi.toNat + n.toNat)) := by
  have hl := lo.toNat_lt
  have hh := hi.toNat_lt
  have hn := n.toNat_lt
  unfold zA
  have hs : (lo + n).toNat = (lo.toNat + n.toNat) % 18446744073709551616 := UInt64.toNat_add lo n
  have hh1 : (hi + 1).toNat = (hi.toNat + 1) % 18446744073709551616 := UInt64.toNat_add hi 1
  by_cases hc : lo ≤ lo + n
  · rw [if_pos hc]
    rw [UInt64.le_iff_toNat_le, hs] at hc
    simp only [Option.some.injEq, Prod.mk.injEq]
    refine ⟨?_, ?_, ?_⟩
    · rw [← UInt64.toNat_inj, hs]; simp only [UInt64.toNat_ofNat']; omega
    · rw [← UInt64.toNat_inj]; simp only [UInt64.toNat_ofNat']; omega
    · symm; rw [decide_eq_false_iff_not]; omega
  · rw [if_neg hc]
    rw [UInt64.le_iff_toNat_le, hs] at hc
    simp only [Option.some.injEq, Prod.mk.injEq]
    refine ⟨?_, ?_, ?_⟩
    · rw [← UInt64.toNat_inj, hs]; simp only [UInt64.toNat_ofNat']; omega
    · rw [← UInt64.toNat_inj, hh1]; simp only [UInt64.toNat_ofNat']; omega
    · rw [decide_eq_decide, ← UInt64.toNat_inj, hh1]
      simp only [show (0 : UInt64).toNat = 0 from rfl]
      omega
def tC (c : UInt64 × UInt64) (n : UInt64) : UInt64 × UInt64 := (UInt64.ofNat (c.1.toNat + 18446744073709551616 * c.2.toNat + n.toNat), UInt64.ofNat ((c.1.toNat + 18446744073709551616 * c.2.toNat + n.toNat) / 18446744073709551616))
def Ob (b : List UInt8) (i : Nat) : UInt64 := UInt64.ofNat (Ik ((b.drop (8 * i)).take 8))
def Wb (b : List UInt8) : Vec UInt64 16 := (List.range 16).foldl (fun m (i : Nat) => jy m i (Ob b i)) (Vec.rep 16 0)
theorem WW (i : Nat) (h : i < 100) : aI (8 * (i : Int)) = ((8 * i : Nat) : Int) := by rw [fP (by omega)]; omega
theorem WX (b : List UInt8) (i : Nat) (hb : b.length ≤ 33554432) (hi : 8 * i + 8 ≤ b.length) : mr b ((8 * i : Nat) : Int) = some (Ob b i, 0) := by
  rw [load64 b hb _ (by omega), if_neg (by omega), if_neg (by omega), Int.toNat_natCast]
  rfl
theorem WY (b : List UInt8) (i : Nat) (hb : b.length ≤ 33554432) (hi : 8 * i + 8 ≤ b.length) : yf b ((8 * i : Nat) : Int) 8 = some (Ob b i, 0) := by
  have := rload b hb ((8 * i : Nat) : Int) (by omega) 8 (by omega)
  rw [show ((8 : Nat) : Int) = 8 from rfl] at this
  rw [this, if_neg (by omega), if_neg (by omega), Int.toNat_natCast]
  rfl
theorem wWords (b : List UInt8) (hb : b.length = 128) : uI b = some (Wb b, 0) := by
  unfold uI
  rw [if_neg (by omega)]
  refine pO _ 16 (fun m (i : Nat) => jy m i (Ob b i)) _ _ (fun v i hi => ?_) (by unfold pG; simp only []; rw [if_neg (by omega)]; rfl)
  unfold pG
  simp only []
  rw [if_pos (by omega), WW i (by omega), WX b i (by omega) (by omega), df _ _ hi, bW i (by omega)]
  rfl
theorem rWords (b : List UInt8) (hb : b.length = 128) : BG b = some (Wb b, 0) := by
  unfold BG
  rw [if_neg (by omega)]
  refine pO _ 16 (fun m (i : Nat) => jy m i (Ob b i)) _ _ (fun v i hi => ?_) (by unfold yj; simp only []; rw [if_neg (by omega)]; rfl)
  unfold yj
  simp only []
  rw [if_pos (by omega), WW i (by omega), WY b i (by omega) (by omega), df _ _ hi, bW i (by omega)]
  rfl
def WZ (b : List UInt8) : Vec UInt64 8 := (List.range 8).foldl (fun h (i : Nat) => jy h i (Yi.getD i 0 ^^^ Ob b i)) (Vec.rep 8 0)
theorem rStart (b : List UInt8) (hb : b.length = 64) : BD b = some (WZ b, 0) := by
  unfold BD
  rw [if_neg (by omega)]
  refine pO _ 8 (fun m (i : Nat) => jy m i (Yi.getD i 0 ^^^ Ob b i)) _ _ (fun v i hi => ?_) (by unfold yg; simp only []; rw [if_neg (by omega)]; rfl)
  unfold yg
  simp only []
  rw [if_pos (by omega), WW i (by omega), WY b i (by omega) (by omega), df _ _ hi, bW i (by omega), riv i hi]
  rfl
theorem wStart (b : List UInt8) (hb : b.length = 64) : uF b = some (WZ b, 0) := by
  unfold uF zq
  rw [if_neg (by omega)]
  simp only [Option.bind_some]
  have key : ∀ x : Nat → UInt64, (List.range 8).foldl (fun (h : Vec UInt64 8) (i : Nat) => jy h i (h.g i ^^^ x i)) ⟨Yi, rfl⟩ = (List.range 8).foldl (fun h (i : Nat) => jy h i (Yi.getD i 0 ^^^ x i)) (Vec.rep 8 0) := fun x => rfl
  refine pO _ 8 (fun h (i : Nat) => jy h i (h.g i ^^^ Ob b i)) _ _ (fun v i hi => ?_) ?_
  · unfold rX
    simp only []
    rw [if_pos (by omega), WW i (by omega), WX b i (by omega) (by omega), df _ _ hi, bW i (by omega)]
    rfl
  · have := key (Ob b)
    unfold Yi at this
    rw [this]
    rfl
def JX (n : Nat) (w : UInt64) : List UInt8 := (List.range n).map fun i => UInt8.ofNat (w.toNat / 256 ^ i)
def Byb (h : Vec UInt64 8) : List UInt8 := (List.range 8).foldl (fun b i => b ++ JX 8 (h.g i)) []
theorem GX (h : Nat → List UInt8) (k : Nat) (hk : ∀ i, (h i).length = k) : ∀ n, ((List.range n).foldl (fun b i => b ++ h i) []).length = n * k := by
  intro n
  induction n with
  | zero => simp
  | succ n ih => rw [List.range_succ, List.foldl_append]; simp only [List.foldl_cons, List.foldl_nil, List.length_append, ih, hk]; rw [Nat.succ_mul]
theorem Aw (n : Nat) (w : UInt64) : (JX n w).length = n := by simp [JX]
theorem Oc (h : Vec UInt64 8) : (Byb h).length = 64 := by unfold Byb; rw [GX _ 8 (fun i => Aw 8 _)]
theorem wBytes (h : Vec UInt64 8) : uS h = some (Byb h) := by
  unfold uS
  refine dm (fun i => ((List.range i).foldl (fun b i => b ++ JX 8 (h.g i)) [], (i : Int))) 8 (fun i hi => ?_) rfl
  unfold sD
  simp only []
  rw [if_pos (by omega), df _ _ hi, bW i (by omega)]
  simp only [Option.bind_some]
  rw [Yj]
  simp only [Option.bind_some]
  have hq : (List.range (i + 1)).foldl (fun b i => b ++ JX 8 (h.g i)) [] = (List.range i).foldl (fun b i => b ++ JX 8 (h.g i)) [] ++ JX 8 (h.g i) := by rw [List.range_succ, List.foldl_append]; rfl
  rw [mW (by rw [GX _ 8 (fun i => Aw 8 _)]; simp; omega), hq]
  rfl
end Go.Sx
namespace Go.Sx
open Go.RowKit
set_option linter.unusedVariables false
set_option linter.unusedSimpArgs false
def AX (x : UInt32) (k : Nat) : UInt32 := iH x k ||| xC x (32 - k)
theorem sl16 (x : UInt32) : fD x (-16) = some (AX x 16) := by
  show some (xC x 16 ||| iH x 16) = _
  rw [UInt32.or_comm]; rfl
theorem sl12 (x : UInt32) : fD x (-12) = some (AX x 12) := by
  show some (xC x 20 ||| iH x 12) = _
  rw [UInt32.or_comm]; rfl
theorem sl8 (x : UInt32) : fD x (-8) = some (AX x 8) := by
  show some (xC x 24 ||| iH x 8) = _
  rw [UInt32.or_comm]; rfl
theorem sl7 (x : UInt32) : fD x (-7) = some (AX x 7) := by
  show some (xC x 25 ||| iH x 7) = _
  rw [UInt32.or_comm]; rfl
theorem ts16 (x : UInt32) : qE x 16 = some (AX x 16) := by kernel_rfl
theorem ts12 (x : UInt32) : qE x 12 = some (AX x 12) := by kernel_rfl
theorem ts8 (x : UInt32) : qE x 8 = some (AX x 8) := by kernel_rfl
theorem ts7 (x : UInt32) : qE x 7 = some (AX x 7) := by kernel_rfl
def Gs (v : Vec UInt32 16) (a b c d : Nat) (x y : UInt32) : Vec UInt32 16 :=
  let v1 := jy v a (v.g a + (v.g b + x))
  let v2 := jy v1 d (AX (v1.g d ^^^ v1.g a) 16)
  let v3 := jy v2 c (v2.g c + v2.g d)
  let v4 := jy v3 b (AX (v3.g b ^^^ v3.g c) 12)
  let v5 := jy v4 a (v4.g a + (v4.g b + y))
  let v6 := jy v5 d (AX (v5.g d ^^^ v5.g a) 8)
  let v7 := jy v6 c (v6.g c + v6.g d)
  jy v7 b (AX (v7.g b ^^^ v7.g c) 7)
theorem mix_ok (v : Vec UInt32 16) (a b c d : Nat) (x y : UInt32) (ha : a < 16) (hb : b < 16) (hc : c < 16) (hd : d < 16) : xZ v a b c d x y = some (Gs v a b c d x y) := by
  unfold xZ
  simp only [df _ a ha, df _ b hb, df _ c hc, df _ d hd, Option.bind_some, sl16, sl12, sl8, sl7]
  rfl
theorem Ug (a b c d : Nat) (ha : a < 16) (hb : b < 16) (hc : c < 16) (hd : d < 16) (hn : a ≠ b ∧ a ≠ c ∧ a ≠ d ∧ b ≠ c ∧ b ≠ d ∧ c ≠ d) : Ae a b c d = some true := by
  have hl : ∀ i : Nat, i < 4 → ∃ x : Nat, aF ([(a : Int), (b : Int), (c : Int), (d : Int)] : List Int) (i : Int) = some (x : Int) ∧ x < 16 ∧ ∀ j : Nat, j < i → ∃ y : Nat, aF ([(a : Int), (b : Int), (c : Int), (d : Int)] : List Int) (j : Int) = some (y : Int) ∧ x ≠ y := by
    intro i hi
    match i, hi with
    | 0, _ => exact ⟨a, rfl, ha, fun j hj => by omega⟩
    | 1, _ => exact ⟨b, rfl, hb, fun j hj => by match j, hj with | 0, _ => exact ⟨a, rfl, by omega⟩⟩
    | 2, _ => exact ⟨c, rfl, hc, fun j hj => by match j, hj with | 0, _ => exact ⟨a, rfl, by omega⟩ | 1, _ => exact ⟨b, rfl, by omega⟩⟩
    | 3, _ => exact ⟨d, rfl, hd, fun j hj => by match j, hj with | 0, _ => exact ⟨a, rfl, by omega⟩ | 1, _ => exact ⟨b, rfl, by omega⟩ | 2, _ => exact ⟨c, rfl, by omega⟩⟩
  unfold Ae
  refine dm (fun i => (i : Int)) 4 (fun i hi => ?_) rfl
  obtain ⟨x, h1, h2, h3⟩ := hl i hi
  unfold AP
  rw [if_pos (by omega), h1]
  simp only [Option.bind_some]
  have hx : decide ((x : Int) < 0) = false := by rw [decide_eq_false_iff_not]; omega
  rw [hx]
  simp only [gif, Bool.not_false, if_true, Option.bind_some, Bool.false_or, decide_eq_true_eq]
  rw [if_neg (by omega)]
  refine dm (fun j => (j : Int)) i (fun j hj => ?_) ?_
  · obtain ⟨y, g1, g2⟩ := h3 j hj
    unfold xw
    rw [if_pos (by omega), h1, g1]
    simp only [Option.bind_some]
    rw [if_neg (by omega), bW j (by omega)]
  · unfold xw
    rw [if_neg (by omega), bW i (by omega)]
    rfl
theorem Gs_ok (v : Vec UInt32 16) (a b c d : Nat) (x y : UInt32) (ha : a < 16) (hb : b < 16) (hc : c < 16) (hd : d < 16) (hn : a ≠ b ∧ a ≠ c ∧ a ≠ d ∧ b ≠ c ∧ b ≠ d ∧ c ≠ d) : M_ v a b c d x y = some (Gs v a b c d x y, 0) := by
  unfold M_
  rw [Ug a b c d ha hb hc hd hn]
  simp only [Option.bind_some, Bool.not_true, Bool.false_eq_true, if_false]
  simp only [df _ a ha, df _ b hb, df _ c hc, df _ d hd, Option.bind_some, ts16, ts12, ts8, ts7, UInt32.add_assoc]
  rfl
def Ss (m : Vec UInt32 16) (r : Nat) (v : Vec UInt32 16) (i : Nat) : Vec UInt32 16 := Gs v (pl i).1 (pl i).2.1 (pl i).2.2.1 (pl i).2.2.2 (m.g (sg r (2 * i))) (m.g (sg r (2 * i + 1)))
def Rs (v m : Vec UInt32 16) (r : Nat) : Vec UInt32 16 := (List.range 8).foldl (Ss m r) v
theorem stbl : ∃ tbl, vZ = some tbl ∧ ∀ i : Nat, i < 8 → ∃ p : Vec Int 4, aF tbl.l (i : Int) = some p ∧ p.l = [((pl i).1 : Int), ((pl i).2.1 : Int), ((pl i).2.2.1 : Int), ((pl i).2.2.2 : Int)] := by
  refine ⟨_, rfl, fun i hi => ?_⟩
  match i, hi with
  | 0, _ => exact ⟨_, rfl, rfl⟩
  | 1, _ => exact ⟨_, rfl, rfl⟩
  | 2, _ => exact ⟨_, rfl, rfl⟩
  | 3, _ => exact ⟨_, rfl, rfl⟩
  | 4, _ => exact ⟨_, rfl, rfl⟩
  | 5, _ => exact ⟨_, rfl, rfl⟩
  | 6, _ => exact ⟨_, rfl, rfl⟩
  | 7, _ => exact ⟨_, rfl, rfl⟩
theorem Uh (v m : Vec UInt32 16) (r : Nat) (hr : r < 10) : uP v m (r : Int) = some (Rs v m r, m) := by
  obtain ⟨row, h1, h2⟩ := wsg r (by omega)
  unfold uP
  rw [h1]
  simp only [Option.bind_some]
  obtain ⟨tbl, ht, hp⟩ := stbl
  rw [ht]
  simp only [Option.bind_some]
  refine pO _ 8 (Ss m r) v _ (fun v i hi => ?_) rfl
  unfold su
  obtain ⟨p1, p2, p3, p4, _⟩ := SI i hi
  simp only []
  rw [if_pos (by omega), SK i (by omega), bW _ (by omega), bW _ (by omega), h2 _ (by omega), h2 _ (by omega)]
  simp only [Option.bind_some]
  rw [df _ _ (Hu r (by omega) _ (by omega)), df _ _ (Hu r (by omega) _ (by omega))]
  obtain ⟨p', k1, k2⟩ := hp i hi
  rw [k1]
  have e0 : aF p'.l 0 = some ((pl i).1 : Int) := by rw [k2]; rfl
  have e1 : aF p'.l 1 = some ((pl i).2.1 : Int) := by rw [k2]; rfl
  have e2 : aF p'.l 2 = some ((pl i).2.2.1 : Int) := by rw [k2]; rfl
  have e3 : aF p'.l 3 = some ((pl i).2.2.2 : Int) := by rw [k2]; rfl
  simp only [Option.bind_some, e0, e1, e2, e3]
  rw [mix_ok v _ _ _ _ _ _ p1 p2 p3 p4]
  rfl
theorem Yk : ∀ i : Nat, i < 8 → Jf (i : Int) = some ((((pl i).1 : Nat) : Int), (((pl i).2.1 : Nat) : Int), (((pl i).2.2.1 : Nat) : Int), (((pl i).2.2.2 : Nat) : Int)) := by decide +kernel
theorem Ui (v m : Vec UInt32 16) (r : Nat) (hr : r < 10) : BM v m (r : Int) = some (Rs v m r, 0) := by
  unfold BM
  rw [if_neg (by simp only [Bool.or_eq_true, decide_eq_true_eq]; omega)]
  refine pO _ 8 (Ss m r) v _ (fun v i hi => ?_) rfl
  unfold BL
  obtain ⟨p1, p2, p3, p4, hn⟩ := SI i hi
  simp only []
  rw [if_pos (by omega), Yk i hi, SK i (by omega), bW _ (by omega), bW _ (by omega)]
  simp only [Option.bind_some]
  rw [rsg r (by omega) _ (by omega), rsg r (by omega) _ (by omega)]
  simp only [Option.bind_some]
  rw [df _ _ (Hu r (by omega) _ (by omega)), df _ _ (Hu r (by omega) _ (by omega))]
  simp only [Option.bind_some]
  rw [Gs_ok v _ _ _ _ _ _ p1 p2 p3 p4 hn]
  rfl
def ivs : List UInt32 := [1779033703, 3144134277, 1013904242, 2773480762, 1359893119, 2600822924, 528734635, 1541459225]
def I0s (h : Vec UInt32 8) : Vec UInt32 16 := ⟨h.l ++ ivs, by simp [h.h, ivs]⟩
def Is (h : Vec UInt32 8) (lo : UInt64) (last node : Bool) : Vec UInt32 16 :=
  let v0 := I0s h
  let v1 := jy v0 12 (v0.g 12 ^^^ UInt32.ofNat lo.toNat)
  let v2 := jy v1 13 (v1.g 13 ^^^ UInt32.ofNat (jR lo 32).toNat)
  let v3 := if last then jy v2 14 (4294967295 ^^^ v2.g 14) else v2
  if node then jy v3 15 (4294967295 ^^^ v3.g 15) else v3
theorem wBegin (h : Vec UInt32 8) (lo : UInt64) (last node : Bool) : xM h lo last node = some (Is h lo last node) := by
  obtain ⟨a, b, c, d, e, f, g, q, rfl⟩ := GV (v := h)
  cases last <;> cases node <;> kernel_rfl
theorem rBegin (h : Vec UInt32 8) (lo : UInt64) (last node : Bool) : BK h lo last node = some (Is h lo last node) := by
  unfold BK Ff
  simp only [Option.bind_some]
  refine pO _ 8 (fun v (i : Nat) => jy (jy v i (h.g i)) ((i + 8 : Nat) : Int) (ivs.getD i 0)) _ _ (fun v i hi => ?_) ?_
  · unfold yw
    simp only []
    rw [if_pos (by omega), df _ _ hi, df _ _ (by omega), CY i (by omega), bW i (by omega)]
    simp only [Option.bind_some]
    rw [dF (by simp; omega), df _ _ (by omega)]
    match i, hi with
    | 0, _ => rfl
    | 1, _ => rfl
    | 2, _ => rfl
    | 3, _ => rfl
    | 4, _ => rfl
    | 5, _ => rfl
    | 6, _ => rfl
    | 7, _ => rfl
  · obtain ⟨a, b, c, d, e, f, g, q, rfl⟩ := GV (v := h)
    unfold yw yu yt Is
    simp only [UInt32.xor_comm _ 4294967295]
    cases last <;> cases node <;> kernel_rfl
def Es (v : Vec UInt32 16) (h : Vec UInt32 8) (i : Nat) : Vec UInt32 8 := jy h i (h.g i ^^^ (v.g i ^^^ v.g (i + 8)))
def Fs (h : Vec UInt32 8) (m : Vec UInt32 16) (lo : UInt64) (last node : Bool) : Vec UInt32 8 :=
  (List.range 8).foldl (Es ((List.range 10).foldl (fun v r => Rs v m r) (Is h lo last node))) h
theorem wEnd (h : Vec UInt32 8) (v : Vec UInt32 16) : x8 h v = some ((List.range 8).foldl (Es v) h) := by
  unfold x8
  refine pO _ 8 (Es v) _ _ (fun h i hi => ?_) rfl
  unfold v_
  simp only []
  rw [if_pos (by omega), df _ _ (by omega), df _ _ (by omega), CY i (by omega), bW i (by omega), df _ _ (by omega)]
  rfl
theorem rEnd (h : Vec UInt32 8) (v : Vec UInt32 16) : Gu h v = some ((List.range 8).foldl (Es v) h) := by
  unfold Gu
  refine pO _ 8 (Es v) _ _ (fun h i hi => ?_) rfl
  unfold Fj
  simp only []
  rw [if_pos (by omega), df _ _ (by omega), df _ _ (by omega), CY i (by omega), bW i (by omega), df _ _ (by omega)]
  simp only [Option.bind_some, UInt32.xor_assoc]
  rfl
theorem wFs (h : Vec UInt32 8) (m : Vec UInt32 16) (lo : UInt64) (last node : Bool) : BB h m lo last node = some (Fs h m lo last node) := by
  unfold BB
  rw [wBegin]
  simp only [Option.bind_some]
  refine dm (fun i => (m, (List.range i).foldl (fun v r => Rs v m r) (Is h lo last node), (i : Int))) 10 (fun i hi => ?_) ?_
  · unfold wL
    simp only []
    rw [if_pos (by omega), Uh _ _ _ hi, bW i (by omega), List.range_succ, List.foldl_append]
    rfl
  · unfold wL
    simp only []
    rw [if_neg (by omega), wEnd]
    rfl
theorem rFs (h : Vec UInt32 8) (m : Vec UInt32 16) (lo : UInt64) (last node : Bool) : Na h m lo last node = some (Fs h m lo last node) := by
  unfold Na
  rw [rBegin]
  simp only [Option.bind_some]
  refine pO _ 10 (fun v r => Rs v m r) _ _ (fun v i hi => ?_) ?_
  · unfold Ei
    simp only []
    rw [if_pos (by omega), Ui _ _ _ hi, bW i (by omega)]
    rfl
  · unfold Ei
    simp only []
    rw [if_neg (by omega), rEnd]
    rfl
end Go.Sx
namespace Go.Sx
open Go.RowKit
set_option linter.unusedVariables false
set_option linter.unusedSimpArgs false
def KI (b : List UInt8) (i : Nat) : UInt32 := UInt32.ofNat (Ik ((b.drop (4 * i)).take 4))
theorem mul4 (i : Nat) (h : i < 100) : aI (4 * (i : Int)) = ((4 * i : Nat) : Int) := by rw [fP (by omega)]; omega
theorem wload4 (b : List UInt8) (i : Nat) (hb : b.length ≤ 33554432) (hi : 4 * i + 4 ≤ b.length) : pU b ((4 * i : Nat) : Int) = some (KI b i, 0) := by
  rw [load32 b hb _ (by omega), if_neg (by omega), if_neg (by omega), Int.toNat_natCast]
  rfl
theorem W9 (b : List UInt8) (i : Nat) (hb : b.length ≤ 33554432) (hi : 4 * i + 4 ≤ b.length) : Ac b ((4 * i : Nat) : Int) = some (KI b i) := by
  unfold Ac
  have k1 : aI (((4 * i : Nat) : Int) + 1) = ((4 * i + 1 : Nat) : Int) := by rw [fP (by omega)]; omega
  have k2 : aI (((4 * i : Nat) : Int) + 2) = ((4 * i + 2 : Nat) : Int) := by rw [fP (by omega)]; omega
  have k3 : aI (((4 * i : Nat) : Int) + 3) = ((4 * i + 3 : Nat) : Int) := by rw [fP (by omega)]; omega
  rw [k1, k2, k3, dF (by omega : 4 * i < b.length), dF (by omega : 4 * i + 1 < b.length), dF (by omega : 4 * i + 2 < b.length), dF (by omega : 4 * i + 3 < b.length)]
  simp only [Option.bind_some, Option.some.injEq]
  have hd : (b.drop (4 * i)).take 4 = [b[4 * i], b[4 * i + 1], b[4 * i + 2], b[4 * i + 3]] := by
    rw [List.drop_eq_getElem_cons (by omega), List.drop_eq_getElem_cons (by omega), List.drop_eq_getElem_cons (by omega), List.drop_eq_getElem_cons (by omega)]
    rfl
  unfold KI
  rw [hd]
  generalize b[4 * i] = x0
  generalize b[4 * i + 1] = x1
  generalize b[4 * i + 2] = x2
  generalize b[4 * i + 3] = x3
  have h0 := x0.toNat_lt
  have h1 := x1.toNat_lt
  have h2 := x2.toNat_lt
  have h3 := x3.toNat_lt
  have sh : ∀ (x : UInt32) (k : Nat), (xC x k).toNat = x.toNat * 2 ^ k % 2 ^ 32 := by
    intro x k
    show (x.toBitVec <<< k).toNat = _
    rw [BitVec.toNat_shiftLeft, Nat.shiftLeft_eq]; rfl
  rw [← UInt32.toNat_inj]
  simp only [UInt32.toNat_add, sh, UInt32.toNat_ofNat', Ik]
  rw [show (8 : UInt64).toNat = 8 from rfl, show (16 : UInt64).toNat = 16 from rfl, show (24 : UInt64).toNat = 24 from rfl]
  omega
def Ws (b : List UInt8) : Vec UInt32 16 := (List.range 16).foldl (fun m (i : Nat) => jy m i (KI b i)) (Vec.rep 16 0)
theorem foldl_set {n : Nat} (x : Nat → UInt32) (k : Nat) (v : Vec UInt32 n) : ((List.range k).foldl (fun m (i : Nat) => jy m i (x i)) v).l = (List.range k).foldl (fun l (i : Nat) => l.set i (x i)) v.l := by
  induction k with
  | zero => rfl
  | succ k ih =>
    rw [List.range_succ, List.foldl_append, List.foldl_append]
    simp only [List.foldl_cons, List.foldl_nil]
    rw [← ih]
    rfl
theorem Yl (x : Nat → UInt32) (k : Nat) (l : List UInt32) : ((List.range k).foldl (fun l (i : Nat) => l.set i (x i)) l).length = l.length := by
  induction k with
  | zero => rfl
  | succ k ih => rw [List.range_succ, List.foldl_append]; simp only [List.foldl_cons, List.foldl_nil, List.length_set, ih]
theorem W_ {n : Nat} (b : List UInt8) (hn : n ≤ 16) (hb : b.length = 4 * n) (v : Vec UInt32 n) : qY v.l b = some ((List.range n).foldl (fun m (i : Nat) => jy m i (KI b i)) v).l := by
  unfold qY
  rw [foldl_set]
  refine dm (fun i => ((List.range i).foldl (fun l (i : Nat) => l.set i (KI b i)) v.l, (i : Int))) n (fun i hi => ?_) ?_
  · unfold pz
    simp only []
    rw [v.h, if_pos (by omega), mul4 i (by omega), wload4 b i (by omega) (by omega), dF (by rw [Yl, v.h]; exact hi), bW i (by omega), List.range_succ, List.foldl_append]
    rfl
  · unfold pz
    simp only []
    rw [v.h, if_neg (by omega)]
    rfl
theorem vof {n : Nat} (v : Vec UInt32 n) : Vec.of n v.l = v := Vec.ext (Vec.ZF v.h)
theorem Ym (b : List UInt8) (hb : b.length = 64) : uO b = some (Ws b, 0) := by
  unfold uO qU
  rw [if_neg (by omega), if_neg (by omega)]
  simp only [Option.bind_some, ne_eq, not_true_eq_false, if_false]
  rw [W_ b (by omega) (by omega) (Vec.rep 16 0)]
  simp only [Option.bind_some]
  rw [vof]
  rfl
theorem Yn (b : List UInt8) (hb : b.length = 64) : BJ b = some (Ws b, 0) := by
  unfold BJ
  rw [if_neg (by omega), if_neg (by omega)]
  refine pO _ 16 (fun m (i : Nat) => jy m i (KI b i)) _ _ (fun v i hi => ?_) (by unfold yl; simp only []; rw [if_neg (by omega)]; rfl)
  unfold yl
  simp only []
  rw [if_pos (by omega), mul4 i (by omega), W9 b i (by omega) (by omega), df _ _ hi, bW i (by omega)]
  rfl
def Sts (b : List UInt8) : Vec UInt32 8 := (List.range 8).foldl (fun h (i : Nat) => jy h i (h.g i ^^^ KI b i)) ⟨ivs, rfl⟩
theorem Yo (b : List UInt8) (hb : b.length = 32) : BF b = some (Sts b, 0) := by
  unfold BF Ff
  rw [if_neg (by omega), if_neg (by omega)]
  simp only [Option.bind_some]
  refine pO _ 8 (fun h (i : Nat) => jy h i (h.g i ^^^ KI b i)) _ _ (fun v i hi => ?_) (by unfold yh; simp only []; rw [if_neg (by omega)]; rfl)
  unfold yh
  simp only []
  rw [if_pos (by omega), mul4 i (by omega), W9 b i (by omega) (by omega), df _ _ hi, bW i (by omega)]
  rfl
theorem w8at (x : Nat → UInt32) : ∀ i : Nat, i < 8 → ((List.range 8).foldl (fun m (i : Nat) => jy m i (x i)) (Vec.rep 8 (0 : UInt32))).g i = x i := by
  intro i hi
  match i, hi with
  | 0, _ => rfl
  | 1, _ => rfl
  | 2, _ => rfl
  | 3, _ => rfl
  | 4, _ => rfl
  | 5, _ => rfl
  | 6, _ => rfl
  | 7, _ => rfl
theorem Yp (b : List UInt8) (hb : b.length = 32) : uG b = some (Sts b, 0) := by
  unfold uG qU
  rw [if_neg (by omega), if_neg (by omega)]
  simp only [Option.bind_some, ne_eq, not_true_eq_false, if_false]
  rw [W_ b (by omega) (by omega) (Vec.rep 8 0)]
  unfold zt
  simp only [Option.bind_some]
  refine pO _ 8 (fun h (i : Nat) => jy h i (h.g i ^^^ KI b i)) _ _ (fun v i hi => ?_) (by unfold pF; simp only []; rw [if_neg (by omega)]; rfl)
  unfold pF
  simp only []
  rw [vof, if_pos (by omega), df _ _ hi, df _ _ hi, w8at _ i hi, bW i (by omega)]
  rfl
def Bys (h : Vec UInt32 8) : List UInt8 := (List.range 8).foldl (fun b i => b ++ JX 4 (UInt64.ofNat (h.g i).toNat)) []
theorem Oe (h : Vec UInt32 8) : (Bys h).length = 32 := by unfold Bys; rw [GX _ 4 (fun i => Aw 4 _)]
theorem Q5 (w : UInt32) : [UInt8.ofNat w.toNat, UInt8.ofNat (iH w ((8 : UInt64).toNat)).toNat, UInt8.ofNat (iH w ((16 : UInt64).toNat)).toNat, UInt8.ofNat (iH w ((24 : UInt64).toNat)).toNat] = JX 4 (UInt64.ofNat w.toNat) := by
  have hw := w.toNat_lt
  have e0 : (UInt64.ofNat w.toNat).toNat = w.toNat := by simp only [UInt64.toNat_ofNat']; omega
  unfold JX
  rw [e0]
  simp only [List.range_succ, List.range_zero, List.nil_append, List.map_append, List.map_cons, List.map_nil, List.cons_append]
  simp only [iH]
  congr 1
  · simp
  congr 1
  · apply UInt8.eq_of_toBitVec_eq; apply BitVec.eq_of_toNat_eq; simp [Nat.shiftRight_eq_div_pow]
  congr 1
  · apply UInt8.eq_of_toBitVec_eq; apply BitVec.eq_of_toNat_eq; simp [Nat.shiftRight_eq_div_pow]
  congr 1
  · apply UInt8.eq_of_toBitVec_eq; apply BitVec.eq_of_toNat_eq; simp [Nat.shiftRight_eq_div_pow]
theorem Yq (h : Vec UInt32 8) : uT h = some (Bys h) := by
  unfold uT
  refine dm (fun i => ((List.range i).foldl (fun b i => b ++ JX 4 (UInt64.ofNat (h.g i).toNat)) [], (i : Int))) 8 (fun i hi => ?_) rfl
  unfold sF
  simp only []
  rw [if_pos (by omega), df _ _ hi, bW i (by omega)]
  simp only [Option.bind_some]
  rw [Q5]
  have hq : (List.range (i + 1)).foldl (fun b i => b ++ JX 4 (UInt64.ofNat (h.g i).toNat)) [] = (List.range i).foldl (fun b i => b ++ JX 4 (UInt64.ofNat (h.g i).toNat)) [] ++ JX 4 (UInt64.ofNat (h.g i).toNat) := by rw [List.range_succ, List.foldl_append]; rfl
  rw [mW (by rw [GX _ 4 (fun i => Aw 4 _), Aw]; omega), hq]
  rfl
end Go.Sx
namespace Go.Sx
open Go.RowKit
set_option linter.unusedVariables false
set_option linter.unusedSimpArgs false
theorem off32 (x : UInt64) : ((4294967296 : UInt64) ≤ x) ↔ ((4294967295 : UInt64) < x) := by
  rw [UInt64.le_iff_toNat_le, UInt64.lt_iff_toNat_lt, show (4294967296 : UInt64).toNat = 4294967296 from rfl, show (4294967295 : UInt64).toNat = 4294967295 from rfl]; omega
theorem off48 (x : UInt64) : ((281474976710656 : UInt64) ≤ x) ↔ ((281474976710655 : UInt64) < x) := by
  rw [UInt64.le_iff_toNat_le, UInt64.lt_iff_toNat_lt, show (281474976710656 : UInt64).toNat = 281474976710656 from rfl, show (281474976710655 : UInt64).toNat = 281474976710655 from rfl]; omega
variable {α : Type}
theorem Yr {β : Type} (f : Bool → β) (c d : Bool) : (if c = true then f c else f d) = f (c || d) := by cases c <;> rfl
theorem Za {c d : Prop} [Decidable c] [Decidable d] {x y z : α} (h : c ↔ d) (e : y = z) : (if c then x else y) = (if d then x else z) := by
  subst e
  by_cases hd : d
  · rw [if_pos hd, if_pos (h.2 hd)]
  · rw [if_neg hd, if_neg fun hc => hd (h.1 hc)]
theorem PK (k S m q d ky f dp : Int) (lf : UInt32) (off : UInt64) (kR : UInt32) (nd lX : Int) (gp gQ : List UInt8) (hk : pR k = some (S, m, q)) (hm : o6 k = some m) (h0 : m ≠ 0) (hq : aI (Int.tdiv m 4) = q) : nZ k d ky f dp lf off kR nd lX gp gQ = iT k d ky f dp lf off kR nd lX gp gQ := by
  unfold nZ iT
  rw [hk, hm]
  simp only [Option.bind_some]
  rw [if_neg h0, if_neg h0, hq]
  have key : ∀ least : Int, (least = 0 ∧ kR ≠ 0 ∨ least = 1 ∧ kR = 0) → mM k d ky f dp off kR nd lX gp gQ (S, m, q) least = (if ((decide (d < 1)) || (decide (m < d))) = true then
      (some (20 : Int))
    else (if ((decide (ky < 0)) || (decide (m < ky))) = true then
      (some (8 : Int))
    else (if ((decide (f < 0)) || (decide (255 < f))) = true then
      (some (21 : Int))
    else (if (((decide (dp < 0)) || (decide (255 < dp))) || ((decide (dp = 0)) && (decide (kR = 0)))) = true then
      (some (22 : Int))
    else (if (((decide (kR ≠ 0)) && (decide ((4294967295 : UInt64) < off))) || (((decide (kR = 0)) && (decide (k = 2))) && (decide ((281474976710655 : UInt64) < off)))) = true then
      (some (23 : Int))
    else (if ((decide (k = 2)) && (decide ((65535 : UInt32) < kR))) = true then
      (some (24 : Int))
    else (if ((decide (nd < 0)) || (decide (255 < nd))) = true then
      (some (25 : Int))
    else (if ((decide (lX < 0)) || (decide (m < lX))) = true then
      (some (26 : Int))
    else (if q < ((gp.length : Nat) : Int) then
      (some (27 : Int))
    else (if q < ((gQ.length : Nat) : Int) then
      (some (28 : Int))
    else (some (0 : Int)))))))))))) := by
    intro least hl
    unfold mM
    rw [Yr]
    unfold oK qQ
    simp only [jV, Option.bind_some]
    refine Za (by simp only [Bool.not_eq_true', Bool.and_eq_false_iff, decide_eq_false_iff_not, Bool.or_eq_true, decide_eq_true_eq]; omega) ?_
    refine Za (by simp only [Bool.not_eq_true', Bool.and_eq_false_iff, decide_eq_false_iff_not, Bool.or_eq_true, decide_eq_true_eq]; omega) ?_
    refine Za (by simp only [Bool.not_eq_true', Bool.and_eq_false_iff, decide_eq_false_iff_not, Bool.or_eq_true, decide_eq_true_eq]; omega) ?_
    refine Za (by
      simp only [Bool.not_eq_true', Bool.and_eq_false_iff, decide_eq_false_iff_not, Bool.or_eq_true, decide_eq_true_eq, Bool.and_eq_true]
      rcases hl with ⟨rfl, hx⟩ | ⟨rfl, hx⟩
      · simp only [hx, and_false, or_false]; omega
      · simp only [hx, and_true]; omega) ?_
    refine Za (by simp only [off32, off48]) ?_
    refine Za Iff.rfl ?_
    refine Za (by simp only [Bool.not_eq_true', Bool.and_eq_false_iff, decide_eq_false_iff_not, Bool.or_eq_true, decide_eq_true_eq]; omega) ?_
    refine Za (by simp only [Bool.not_eq_true', Bool.and_eq_false_iff, decide_eq_false_iff_not, Bool.or_eq_true, decide_eq_true_eq]; omega) ?_
    rfl
  by_cases hx : kR = 0
  · rw [if_neg (by simpa using hx)]
    exact key 1 (.inr ⟨rfl, hx⟩)
  · rw [if_pos hx]
    exact key 0 (.inl ⟨rfl, hx⟩)
theorem PL (k d ky f dp : Int) (lf : UInt32) (off : UInt64) (kR : UInt32) (nd lX : Int) (gp gQ : List UInt8) : nZ k d ky f dp lf off kR nd lX gp gQ = iT k d ky f dp lf off kR nd lX gp gQ := by
  by_cases k1 : k = 1
  · subst k1
    exact PK 1 64 64 16 _ _ _ _ _ _ _ _ _ _ _ rfl rfl (by omega) rfl
  · by_cases k2 : k = 2
    · subst k2
      exact PK 2 32 32 8 _ _ _ _ _ _ _ _ _ _ _ rfl rfl (by omega) rfl
    · unfold nZ pR iT o6
      simp only [k1, k2, if_false, Option.bind_some, if_true]
theorem wz {c : Prop} [Decidable c] {n : Int} {Q : Int → Prop} {e : Option Int} (h0 : n ≠ 0) (h : ¬ c → ∃ r, e = some r ∧ (r = 0 → Q r)) : ∃ r, (if c then some n else e) = some r ∧ (r = 0 → Q r) := by
  by_cases hc : c
  · rw [if_pos hc]; exact ⟨n, rfl, fun h => absurd h h0⟩
  · rw [if_neg hc]; exact h hc
theorem JH (k d ky f dp : Int) (lf : UInt32) (off : UInt64) (kR : UInt32) (nd lX : Int) (gp gQ : List UInt8) : ∃ r, iT k d ky f dp lf off kR nd lX gp gQ = some r ∧ (r = 0 → (k = 1 ∧ 1 ≤ d ∧ d ≤ 64 ∧ ky ≤ 64 ∧ gp.length ≤ 16 ∧ gQ.length ≤ 16) ∨ (k = 2 ∧ 1 ≤ d ∧ d ≤ 32 ∧ ky ≤ 32 ∧ gp.length ≤ 8 ∧ gQ.length ≤ 8)) := by
  have q1 : aI (Int.tdiv 64 4) = 16 := by rfl
  have q2 : aI (Int.tdiv 32 4) = 8 := by rfl
  have key : ∀ m q : Int, aI (Int.tdiv m 4) = q → o6 k = some m → m ≠ 0 → ∃ r, iT k d ky f dp lf off kR nd lX gp gQ = some r ∧ (r = 0 → (1 ≤ d ∧ d ≤ m ∧ ky ≤ m ∧ (gp.length : Int) ≤ q ∧ (gQ.length : Int) ≤ q)) := by
    intro m q hq hm h0
    unfold iT
    rw [hm]
    simp only [Option.bind_some]
    rw [if_neg h0, hq]
    refine wz (Q := fun _ => _) (by omega) fun h1 => wz (Q := fun _ => _) (by omega) fun h2 => wz (Q := fun _ => _) (by omega) fun h3 => wz (Q := fun _ => _) (by omega) fun h4 => wz (Q := fun _ => _) (by omega) fun h5 => wz (Q := fun _ => _) (by omega) fun h6 => wz (Q := fun _ => _) (by omega) fun h7 => wz (Q := fun _ => _) (by omega) fun h8 => wz (Q := fun _ => _) (by omega) fun h9 => wz (Q := fun _ => _) (by omega) fun h10 => ⟨0, rfl, fun _ => ?_⟩
    simp only [Bool.or_eq_true, decide_eq_true_eq] at h1 h2
    omega
  by_cases k1 : k = 1
  · obtain ⟨r, h1, h2⟩ := key 64 16 q1 (by rw [k1]; rfl) (by omega)
    exact ⟨r, h1, fun h => .inl ⟨k1, by have := h2 h; omega⟩⟩
  · by_cases k2 : k = 2
    · obtain ⟨r, h1, h2⟩ := key 32 8 q2 (by rw [k2]; rfl) (by omega)
      exact ⟨r, h1, fun h => .inr ⟨k2, by have := h2 h; omega⟩⟩
    · refine ⟨1, ?_, fun h => by omega⟩
      unfold iT o6
      simp only [k1, k2, if_false, Option.bind_some, if_true]
end Go.Sx
namespace Go.Sx
open Go.RowKit
set_option linter.unusedVariables false
set_option linter.unusedSimpArgs false
def ps (at_ : Nat) (v : UInt64) (b : List UInt8) (i : Nat) : List UInt8 := b.set (at_ + i) (UInt8.ofNat (jR v (8 * i)).toNat)
def Yt (b : List UInt8) (at_ n : Nat) (v : UInt64) : List UInt8 := (List.range n).foldl (ps at_ v) b
theorem Q7 (at_ : Nat) (v : UInt64) (n : Nat) (b : List UInt8) : ((List.range n).foldl (ps at_ v) b).length = b.length := by
  induction n with
  | zero => rfl
  | succ n ih => rw [List.range_succ, List.foldl_append]; simp only [List.foldl_cons, List.foldl_nil, ps, List.length_set, ih]
theorem Xa (b : List UInt8) (at_ n : Nat) (v : UInt64) : (Yt b at_ n v).length = b.length := Q7 _ _ _ _
theorem Yu (a i : Nat) (h : a < 1000) (hi : i < 1000) : aI ((a : Int) + (i : Int)) = ((a + i : Nat) : Int) := by rw [fP (by omega)]; omega
theorem wput (b : List UInt8) (at_ n : Nat) (v : UInt64) (hn : n ≤ 8) (hb : at_ + n ≤ b.length) (ha : at_ < 1000) : wG b (at_ : Int) (n : Int) v = some (Yt b at_ n v) := by
  unfold wG
  refine dm (fun i => ((List.range i).foldl (ps at_ v) b, (i : Int))) n (fun i hi => ?_) ?_
  · unfold qx
    simp only []
    rw [if_pos (by omega), WW i (by omega), nP (by omega), Yu _ _ ha (by omega), dF (by rw [Q7]; omega), bW i (by omega), List.range_succ, List.foldl_append]
    rfl
  · unfold qx
    simp only []
    rw [if_neg (by omega)]
    rfl
theorem m8 : ∀ i : Nat, i < 8 → ((8 : UInt64) * UInt64.ofInt (i : Int)).toNat = 8 * i := by decide +kernel
theorem rput (b : List UInt8) (at_ n : Nat) (v : UInt64) (hn : n ≤ 8) (hb : at_ + n ≤ b.length) (ha : at_ < 1000) : Gt b (at_ : Int) (n : Int) v = some (Yt b at_ n v) := by
  unfold Gt
  refine dm (fun i => ((List.range i).foldl (ps at_ v) b, (i : Int))) n (fun i hi => ?_) ?_
  · unfold Aa
    simp only []
    rw [if_pos (by omega), Yu _ _ ha (by omega), dF (by rw [Q7]; omega), bW i (by omega), m8 i (by omega), List.range_succ, List.foldl_append]
    rfl
  · unfold Aa
    simp only []
    rw [if_neg (by omega)]
    rfl
def Yv (b : List UInt8) (at_ : Nat) (xs : List UInt8) : List UInt8 := (List.range xs.length).foldl (fun (b : List UInt8) (i : Nat) => b.set (at_ + i) (xs.getD i 0)) b
theorem Xb (at_ : Nat) (xs : List UInt8) (n : Nat) (b : List UInt8) (hn : n ≤ xs.length) (hb : at_ + n ≤ b.length) : (List.range n).foldl (fun (b : List UInt8) (i : Nat) => b.set (at_ + i) (xs.getD i 0)) b = b.take at_ ++ xs.take n ++ b.drop (at_ + n) := by
  induction n with
  | zero => simp
  | succ n ih =>
    rw [List.range_succ, List.foldl_append, ih (by omega) (by omega)]
    simp only [List.foldl_cons, List.foldl_nil]
    have hd : b.drop (at_ + n) = b[at_ + n] :: b.drop (at_ + (n + 1)) := List.drop_eq_getElem_cons (by omega)
    rw [hd, List.set_append_right _ _ (by simp; omega)]
    have hx : at_ + n - (b.take at_ ++ xs.take n).length = 0 := by simp; omega
    rw [hx, List.set_cons_zero, List.take_succ_eq_append_getElem (by omega)]
    simp only [List.append_assoc, List.cons_append, List.nil_append]
    congr 3
    simp [List.getD_eq_getElem?_getD, show n < xs.length from by omega]
theorem yX (b : List UInt8) (at_ : Nat) (xs : List UInt8) (h : at_ + xs.length ≤ b.length) : (Yv b at_ xs).length = b.length := by
  unfold Yv; rw [Xb at_ xs xs.length b (Nat.le_refl _) h]; simp; omega
theorem SL (b : List UInt8) (at_ n : Nat) (xs : List UInt8) (hn : xs.length ≤ n) (h : at_ + xs.length ≤ b.length) : Ry b at_ n xs = Yv b at_ xs := by
  unfold Yv; rw [Xb at_ xs xs.length b (Nat.le_refl _) h, Ry, List.take_length, List.take_of_length_le hn, Nat.min_eq_right hn]
def Q8 (k : Int) (i : Nat) : Nat × Nat := if k = 1 then [(0, 1), (1, 1), (2, 1), (3, 1), (4, 4), (8, 8), (12, 4), (16, 1), (17, 1)].getD i (0, 0) else [(0, 1), (1, 1), (2, 1), (3, 1), (4, 4), (8, 6), (12, 2), (14, 1), (15, 1)].getD i (0, 0)
theorem Xc (k : Int) : ∀ i : Nat, i < 9 → (Q8 k i).1 + (Q8 k i).2 ≤ 18 ∧ (Q8 k i).2 ≤ 8 := by
  intro i hi
  unfold Q8
  by_cases hk : k = 1
  · simp only [hk, if_true]; revert i; decide
  · simp only [hk, if_false]; revert i; decide
theorem rplace (k : Int) (hk : k = 1 ∨ k = 2) : ∀ i : Nat, i < 9 → Hm k ((i + 1 : Nat) : Int) = some (((Q8 k i).1 : Int), ((Q8 k i).2 : Int)) := by
  rcases hk with rfl | rfl <;> decide +kernel
theorem wrows (k : Int) : ∃ rows, oZ k = some rows ∧ rows.length = 9 ∧ ∀ i : Nat, i < 9 → ∃ row, aF rows (i : Int) = some row ∧ row.1 = ((i + 1 : Nat) : Int) ∧ row.2.1 = ((Q8 k i).1 : Int) ∧ row.2.2.1 = ((Q8 k i).2 : Int) := by
  by_cases hk : k = 1
  · subst hk
    refine ⟨_, rfl, rfl, fun i hi => ?_⟩
    match i, hi with
    | 0, _ => exact ⟨_, rfl, rfl, rfl, rfl⟩
    | 1, _ => exact ⟨_, rfl, rfl, rfl, rfl⟩
    | 2, _ => exact ⟨_, rfl, rfl, rfl, rfl⟩
    | 3, _ => exact ⟨_, rfl, rfl, rfl, rfl⟩
    | 4, _ => exact ⟨_, rfl, rfl, rfl, rfl⟩
    | 5, _ => exact ⟨_, rfl, rfl, rfl, rfl⟩
    | 6, _ => exact ⟨_, rfl, rfl, rfl, rfl⟩
    | 7, _ => exact ⟨_, rfl, rfl, rfl, rfl⟩
    | 8, _ => exact ⟨_, rfl, rfl, rfl, rfl⟩
  · have h2 : ∀ i, Q8 k i = Q8 2 i := fun i => by unfold Q8; simp only [hk, if_false]; rfl
    have h3 : oZ k = oZ 2 := by unfold oZ; rw [if_neg hk, if_neg (by decide)]
    rw [h3]
    simp only [h2]
    refine ⟨_, rfl, rfl, fun i hi => ?_⟩
    match i, hi with
    | 0, _ => exact ⟨_, rfl, rfl, rfl, rfl⟩
    | 1, _ => exact ⟨_, rfl, rfl, rfl, rfl⟩
    | 2, _ => exact ⟨_, rfl, rfl, rfl, rfl⟩
    | 3, _ => exact ⟨_, rfl, rfl, rfl, rfl⟩
    | 4, _ => exact ⟨_, rfl, rfl, rfl, rfl⟩
    | 5, _ => exact ⟨_, rfl, rfl, rfl, rfl⟩
    | 6, _ => exact ⟨_, rfl, rfl, rfl, rfl⟩
    | 7, _ => exact ⟨_, rfl, rfl, rfl, rfl⟩
    | 8, _ => exact ⟨_, rfl, rfl, rfl, rfl⟩
section
variable (k d ky f dp : Int) (lf : UInt32) (off : UInt64) (kR : UInt32) (nd lX : Int) (gp gQ : List UInt8)
def SN : List UInt64 := [UInt64.ofInt d, UInt64.ofInt ky, UInt64.ofInt f, UInt64.ofInt dp, UInt64.ofNat lf.toNat, off, UInt64.ofNat kR.toNat, UInt64.ofInt nd, UInt64.ofInt lX]
theorem wvalue (i : Nat) (hi : i < 9) : vW d ky f dp lf off kR nd lX gp gQ ((i + 1 : Nat) : Int) = some ((SN d ky f dp lf off kR nd lX).getD i 0) := by
  match i, hi with
  | 0, _ => rfl
  | 1, _ => rfl
  | 2, _ => rfl
  | 3, _ => rfl
  | 4, _ => rfl
  | 5, _ => rfl
  | 6, _ => rfl
  | 7, _ => rfl
  | 8, _ => rfl
def ens (b : List UInt8) (i : Nat) : List UInt8 := if i = 6 ∧ kR = 0 then b else Yt b (Q8 k i).1 (Q8 k i).2 ((SN d ky f dp lf off kR nd lX).getD i 0)
def KJ (b : List UInt8) (n : Nat) : List UInt8 := (List.range n).foldl (ens k d ky f dp lf off kR nd lX) b
theorem sS (b : List UInt8) (n : Nat) : (KJ k d ky f dp lf off kR nd lX b n).length = b.length := by
  unfold KJ
  induction n with
  | zero => rfl
  | succ n ih =>
    rw [List.range_succ, List.foldl_append]
    simp only [List.foldl_cons, List.foldl_nil, ens]
    split
    · exact ih
    · rw [Xa, ih]
def enc' (S : Nat) : List UInt8 := Yv (Yv (KJ k d ky f dp lf off kR nd lX (List.replicate S 0) 9) (S / 2) gp) (S / 4 * 3) gQ
def Uj : List UInt8 := enc' k d ky f dp lf off kR nd lX gp gQ (if k = 1 then 64 else 32)
theorem Zb (S q : Nat) (hS : S = 64 ∧ q = 16 ∨ S = 32 ∧ q = 8) (m : Int) (hs : gp.length ≤ q) (hp : gQ.length ≤ q) (rows : List (Int × Int × Int × List UInt8 × Int)) (hl : rows.length = 9)
    (hr : ∀ i : Nat, i < 9 → ∃ row, aF rows (i : Int) = some row ∧ row.1 = ((i + 1 : Nat) : Int) ∧ row.2.1 = ((Q8 k i).1 : Int) ∧ row.2.2.1 = ((Q8 k i).2 : Int)) :
    aX (lS d ky f dp lf off kR nd lX gp gQ ((S : Int), m, (q : Int)) rows) (List.replicate S 0, (0 : Int)) = some (enc' k d ky f dp lf off kR nd lX gp gQ S, 0) := by
  refine dm (fun i => (KJ k d ky f dp lf off kR nd lX (List.replicate S 0) i, (i : Int))) 9 (fun i hi => ?_) ?_
  · obtain ⟨row, h1, h2, h3, h4⟩ := hr i hi
    obtain ⟨g1, g2⟩ := Xc k i hi
    unfold lS nR pY
    simp only []
    rw [hl, if_pos (by omega), h1]
    simp only [Option.bind_some]
    rw [h2, h3, h4, bW i (by omega)]
    have hss : KJ k d ky f dp lf off kR nd lX (List.replicate S 0) (i + 1) = ens k d ky f dp lf off kR nd lX (KJ k d ky f dp lf off kR nd lX (List.replicate S 0) i) i := by
      unfold KJ; rw [List.range_succ, List.foldl_append]; rfl
    rw [hss]
    unfold ens
    by_cases hc : i = 6 ∧ kR = 0
    · rw [if_pos (by simp only [Bool.and_eq_true, decide_eq_true_eq]; exact ⟨by omega, hc.2⟩), if_pos hc]
    · rw [if_neg (by simp only [Bool.and_eq_true, decide_eq_true_eq]; exact fun h => hc ⟨by omega, h.2⟩), if_neg hc, wvalue _ _ _ _ _ _ _ _ _ _ _ i hi]
      simp only [Option.bind_some]
      rw [wput _ _ _ _ g2 (by rw [sS]; simp; omega) (by omega)]
      rfl
  · unfold lS
    simp only []
    have hlen : (KJ k d ky f dp lf off kR nd lX (List.replicate S 0) 9).length = S := by rw [sS]; simp
    have e1 : aI ((S : Int) - aI (2 * (q : Int))) = ((S / 2 : Nat) : Int) := by rw [fP (n := 2 * (q : Int)) (by omega), fP (by omega)]; omega
    have e2 : aI ((S : Int) - (q : Int)) = ((S / 4 * 3 : Nat) : Int) := by rw [fP (by omega)]; omega
    rw [hl, if_neg (by omega), e1, e2, Int.toNat_natCast]
    rw [rE (by rw [hlen]; omega)]
    simp only [Option.bind_some, Int.toNat_natCast]
    have l1 : ((KJ k d ky f dp lf off kR nd lX (List.replicate S 0) 9).take S).drop (S / 2) = (KJ k d ky f dp lf off kR nd lX (List.replicate S 0) 9).drop (S / 2) := by rw [List.take_of_length_le (by omega)]
    rw [l1, SL _ _ _ _ (by rw [List.length_drop, hlen]; omega) (by rw [hlen]; omega)]
    have hlen2 : (Yv (KJ k d ky f dp lf off kR nd lX (List.replicate S 0) 9) (S / 2) gp).length = S := by rw [yX _ _ _ (by omega), hlen]
    rw [rE (by rw [hlen2]; omega)]
    simp only [Option.bind_some, Int.toNat_natCast]
    rw [List.take_of_length_le (by omega), SL _ _ _ _ (by rw [List.length_drop, hlen2]; omega) (by rw [hlen2]; omega)]
    rfl
theorem PM (at_ : Nat) (xs : List UInt8) (n : Nat) (b : List UInt8) : ((List.range n).foldl (fun (b : List UInt8) (i : Nat) => b.set (at_ + i) (xs.getD i 0)) b).length = b.length := by
  induction n with
  | zero => rfl
  | succ n ih => rw [List.range_succ, List.foldl_append]; simp only [List.foldl_cons, List.foldl_nil, List.length_set, ih]
theorem getD_in (xs : List UInt8) (i : Nat) (h : i < xs.length) : xs.getD i 0 = xs[i] := by simp [List.getD_eq_getElem?_getD, h]
theorem Zc (hk : k = 1 ∨ k = 2) (S q : Nat) (hS : S = 64 ∧ q = 16 ∨ S = 32 ∧ q = 8) (hM : o6 k = some (S : Int)) (hs : gp.length ≤ q) (hp : gQ.length ≤ q) :
    aX (sJ k d ky f dp lf off kR nd lX gp gQ) (List.replicate S 0, (1 : Int)) = some (enc' k d ky f dp lf off kR nd lX gp gQ S, 0) := by
  refine dm (fun i => (KJ k d ky f dp lf off kR nd lX (List.replicate S 0) i, ((i + 1 : Nat) : Int))) 9 (fun i hi => ?_) ?_
  · obtain ⟨g1, g2⟩ := Xc k i hi
    unfold sJ xu AO
    simp only []
    rw [if_pos (by omega), bW (i + 1) (by omega)]
    have hss : KJ k d ky f dp lf off kR nd lX (List.replicate S 0) (i + 1) = ens k d ky f dp lf off kR nd lX (KJ k d ky f dp lf off kR nd lX (List.replicate S 0) i) i := by
      unfold KJ; rw [List.range_succ, List.foldl_append]; rfl
    rw [hss]
    unfold ens
    by_cases hc : i = 6 ∧ kR = 0
    · rw [if_pos (by simp only [Bool.and_eq_true, decide_eq_true_eq]; exact ⟨by omega, hc.2⟩), if_pos hc]
    · rw [if_neg (by simp only [Bool.and_eq_true, decide_eq_true_eq]; exact fun h => hc ⟨by omega, h.2⟩), if_neg hc, rplace k hk i hi]
      simp only [Option.bind_some]
      have hw : aI (((i + 1 : Nat) : Int) - 1) = (i : Int) := by rw [fP (by omega)]; omega
      have hg : aF [UInt64.ofInt d, UInt64.ofInt ky, UInt64.ofInt f, UInt64.ofInt dp, UInt64.ofNat lf.toNat, off, UInt64.ofNat kR.toNat, UInt64.ofInt nd, UInt64.ofInt lX] (i : Int) = some ((SN d ky f dp lf off kR nd lX).getD i 0) := by
        rw [dF (by simp; omega)]
        simp [SN, List.getD_eq_getElem?_getD, hi]
      rw [hw, hg]
      simp only [Option.bind_some]
      rw [rput _ _ _ _ g2 (by rw [sS]; simp; omega) (by omega)]
      rfl
  · unfold sJ
    simp only []
    have hlen : (KJ k d ky f dp lf off kR nd lX (List.replicate S 0) 9).length = S := by rw [sS]; simp
    rw [if_neg (by omega), hM]
    simp only [Option.bind_some]
    have t4 : aI (Int.tdiv (S : Int) 4) = ((S / 4 : Nat) : Int) := by rcases hS with ⟨rfl, _⟩ | ⟨rfl, _⟩ <;> rfl
    have e1 : aI (2 * ((S / 4 : Nat) : Int)) = ((S / 2 : Nat) : Int) := by rw [fP (by omega)]; omega
    have e2 : aI (3 * ((S / 4 : Nat) : Int)) = ((S / 4 * 3 : Nat) : Int) := by rw [fP (by omega)]; omega
    rw [show aX (sH gp gQ (S : Int)) (KJ k d ky f dp lf off kR nd lX (List.replicate S 0) 9, 0) = some (enc' k d ky f dp lf off kR nd lX gp gQ S, 0) from ?_]
    · rfl
    refine dm (fun i => ((List.range i).foldl (fun (b : List UInt8) (i : Nat) => b.set (S / 2 + i) (gp.getD i 0)) (KJ k d ky f dp lf off kR nd lX (List.replicate S 0) 9), (i : Int))) gp.length (fun i hi => ?_) ?_
    · unfold sH
      simp only []
      rw [if_pos (by omega), t4, e1, dF hi, Yu _ _ (by omega) (by omega), dF (by rw [PM, hlen]; omega), bW i (by omega), List.range_succ, List.foldl_append]
      simp only [Option.bind_some, List.foldl_cons, List.foldl_nil, Int.toNat_natCast, getD_in _ _ hi]
    · unfold sH
      simp only []
      rw [if_neg (by omega)]
      rw [show aX (sG gQ (S : Int)) ((List.range gp.length).foldl (fun (b : List UInt8) (i : Nat) => b.set (S / 2 + i) (gp.getD i 0)) (KJ k d ky f dp lf off kR nd lX (List.replicate S 0) 9), 0) = some (enc' k d ky f dp lf off kR nd lX gp gQ S, 0) from ?_]
      · rfl
      have hlen2 : (Yv (KJ k d ky f dp lf off kR nd lX (List.replicate S 0) 9) (S / 2) gp).length = S := by rw [yX _ _ _ (by omega), hlen]
      refine dm (fun i => ((List.range i).foldl (fun (b : List UInt8) (i : Nat) => b.set (S / 4 * 3 + i) (gQ.getD i 0)) (Yv (KJ k d ky f dp lf off kR nd lX (List.replicate S 0) 9) (S / 2) gp), (i : Int))) gQ.length (fun i hi => ?_) ?_
      · unfold sG
        simp only []
        rw [if_pos (by omega), t4, e2, dF hi, Yu _ _ (by omega) (by omega), dF (by rw [PM, hlen2]; omega), bW i (by omega), List.range_succ, List.foldl_append]
        simp only [Option.bind_some, List.foldl_cons, List.foldl_nil, Int.toNat_natCast, getD_in _ _ hi]
      · unfold sG
        simp only []
        rw [if_neg (by omega)]
        rfl
theorem enc_ok (h : iT k d ky f dp lf off kR nd lX gp gQ = some 0) :
    lH k d ky f dp lf off kR nd lX gp gQ = some (Uj k d ky f dp lf off kR nd lX gp gQ, 0) ∧ lq k d ky f dp lf off kR nd lX gp gQ = some (Uj k d ky f dp lf off kR nd lX gp gQ, 0) := by
  obtain ⟨r, h1, h2⟩ := JH k d ky f dp lf off kR nd lX gp gQ
  rw [h] at h1
  obtain rfl := Option.some.inj h1
  obtain ⟨rows, r1, r2, r3⟩ := wrows k
  rcases h2 rfl with ⟨rfl, _, _, _, hs, hp⟩ | ⟨rfl, _, _, _, hs, hp⟩
  · constructor
    · unfold lH
      rw [PL, h, r1]
      exact Zb 1 d ky f dp lf off kR nd lX gp gQ 64 16 (by omega) 64 hs hp rows r2 r3
    · unfold lq
      rw [h]
      exact Zc 1 d ky f dp lf off kR nd lX gp gQ (by omega) 64 16 (by omega) rfl hs hp
  · constructor
    · unfold lH
      rw [PL, h, r1]
      exact Zb 2 d ky f dp lf off kR nd lX gp gQ 32 8 (by omega) 32 hs hp rows r2 r3
    · unfold lq
      rw [h]
      exact Zc 2 d ky f dp lf off kR nd lX gp gQ (by omega) 32 8 (by omega) rfl hs hp
theorem PN (h : (k = 1 ∧ gp.length ≤ 16 ∧ gQ.length ≤ 16) ∨ (k = 2 ∧ gp.length ≤ 8 ∧ gQ.length ≤ 8)) : (Uj k d ky f dp lf off kR nd lX gp gQ).length = if k = 1 then 64 else 32 := by
  unfold Uj enc'
  rcases h with ⟨rfl, hs, hp⟩ | ⟨rfl, hs, hp⟩
  · simp only [if_true]
    rw [yX _ _ _ (by rw [yX _ _ _ (by rw [sS]; simp; omega), sS]; simp; omega), yX _ _ _ (by rw [sS]; simp; omega), sS]
    simp
  · simp only [show ¬ ((2 : Int) = 1) from by omega, if_false]
    rw [yX _ _ _ (by rw [yX _ _ _ (by rw [sS]; simp; omega), sS]; simp; omega), yX _ _ _ (by rw [sS]; simp; omega), sS]
    simp
end
end Go.Sx
namespace Go.Sx
open Go.RowKit
set_option linter.unusedVariables false
set_option linter.unusedSimpArgs false
section
variable {σ : Type}
def jG (f : σ → List UInt8 → UInt64 × UInt64 → σ) (B : Nat) (h : σ) (c : UInt64 × UInt64) (M : List UInt8) : σ × (UInt64 × UInt64) × List UInt8 :=
  if hlt : 0 < B ∧ B < M.length then jG f B (f h (M.take B) (tC c (UInt64.ofNat B))) (tC c (UInt64.ofNat B)) (M.drop B) else (h, c, M)
termination_by M.length
decreasing_by simp only [List.length_drop]; omega
theorem qN (f : σ → List UInt8 → UInt64 × UInt64 → σ) (B : Nat) (h : σ) (c : UInt64 × UInt64) (M : List UInt8) (hM : M.length ≤ B) : jG f B h c M = (h, c, M) := by
  rw [jG, dif_neg (by omega)]
theorem CZ (f : σ → List UInt8 → UInt64 × UInt64 → σ) (B : Nat) (h : σ) (c : UInt64 × UInt64) (M : List UInt8) (hB : 0 < B) (hM : B < M.length) : jG f B h c M = jG f B (f h (M.take B) (tC c (UInt64.ofNat B))) (tC c (UInt64.ofNat B)) (M.drop B) := by
  rw [jG, dif_pos ⟨hB, hM⟩]
theorem Q9 (f : σ → List UInt8 → UInt64 × UInt64 → σ) (B : Nat) (hB : 0 < B) : ∀ (n : Nat) (h : σ) (c : UInt64 × UInt64) (M : List UInt8), M.length ≤ n → (jG f B h c M).2.2.length ≤ B ∧ (jG f B h c M).2.2 = M.drop (M.length - (jG f B h c M).2.2.length) ∧ (jG f B h c M).2.2.length ≤ M.length := by
  intro n
  induction n with
  | zero => intro h c M hM; rw [qN f B h c M (by omega)]; simp; omega
  | succ n ih =>
    intro h c M hM
    by_cases hl : B < M.length
    · rw [CZ f B h c M hB hl]
      obtain ⟨h1, h2, h3⟩ := ih (f h (M.take B) (tC c (UInt64.ofNat B))) (tC c (UInt64.ofNat B)) (M.drop B) (by simp only [List.length_drop]; omega)
      refine ⟨h1, ?_, by simp only [List.length_drop] at h3; omega⟩
      rw [List.drop_drop] at h2
      simp only [List.length_drop] at h2 h3
      rw [show B + (M.length - B - (jG f B (f h (M.take B) (tC c (UInt64.ofNat B))) (tC c (UInt64.ofNat B)) (M.drop B)).2.2.length) = M.length - (jG f B (f h (M.take B) (tC c (UInt64.ofNat B))) (tC c (UInt64.ofNat B)) (M.drop B)).2.2.length from by omega] at h2
      exact h2
    · rw [qN f B h c M (by omega)]
      simp; omega
end
def pad (n : Nat) (xs : List UInt8) : List UInt8 := xs ++ List.replicate (n - xs.length) 0
theorem yY (n : Nat) (xs : List UInt8) (h : xs.length ≤ n) : (pad n xs).length = n := by simp [pad]; omega
theorem Iy (n : Nat) : UInt64.ofInt (n : Int) = UInt64.ofNat n := by
  rw [← UInt64.toNat_inj]
  unfold UInt64.ofInt
  simp
  omega
theorem Yw (c : UInt64 × UInt64) (n : UInt64) : ∃ o, o5 c.1 c.2 n = some ((tC c n).1, (tC c n).2, o) := ⟨_, add_ok _ _ _⟩
theorem Zd (c : UInt64 × UInt64) (n : UInt64) : ∃ o, zA c.1 c.2 n = some ((tC c n).1, (tC c n).2, o) := ⟨_, radd _ _ _⟩
theorem Yx (b : List UInt8) (n : Nat) (hb : b.length ≤ n) (hn : n ≤ 1000) : mD b (n : Int) = some (pad n b) := by
  unfold mD
  rw [nP (by omega)]
  simp only [Option.bind_some]
  rw [mW (by simp; omega)]
  simp only [Option.bind_some]
  have e : aI ((n : Int) - (b.length : Int)) = ((n - b.length : Nat) : Int) := by rw [fP (by omega)]; omega
  rw [e]
  unfold UW
  rw [if_pos (by simp; omega)]
  simp only [Option.bind_some, Int.toNat_natCast]
  rfl
theorem Xd (b : List UInt8) (a n : Nat) (hb : b.length ≤ 33554432) (ha : a ≤ b.length) (hn : n ≤ 1000) : CP b (a : Int) (n : Int) = some (pad n ((b.drop a).take n)) := by
  unfold CP
  have hz : ∀ i, i ≤ n → (pad n ((b.drop a).take n)).take i = pad i ((b.drop a).take i) := by
    intro i hi
    unfold pad
    rw [List.take_append, List.take_take, Nat.min_eq_left hi, List.take_replicate]
    congr 2
    simp only [List.length_take, List.length_drop]; omega
  have hlen := yY n ((b.drop a).take n) (by simp; omega)
  suffices hsf : aX (xN b (a : Int) (n : Int)) (([] : List UInt8), (0 : Int)) = some ((pad n ((b.drop a).take n)).take n) by rw [hsf, List.take_of_length_le (by omega)]
  refine dm (fun i => ((pad n ((b.drop a).take n)).take i, (i : Int))) n (fun i hi => ?_) ?_
  · unfold xN Ad Fg
    have e1 : aI ((a : Int) + (i : Int)) = ((a + i : Nat) : Int) := by rw [fP (by omega)]; omega
    have hs : (pad n ((b.drop a).take n)).take (i + 1) = (pad n ((b.drop a).take n)).take i ++ [(pad n ((b.drop a).take n))[i]] := List.take_succ_eq_append_getElem (by omega)
    simp only []
    rw [if_pos (by omega), e1, hs, bW i (by omega)]
    by_cases hin : a + i < b.length
    · rw [if_pos (by omega), dF hin]
      simp only [Option.bind_some]
      rw [mW (by simp; omega)]
      simp only [Option.bind_some]
      have hx : (pad n ((b.drop a).take n))[i] = b[a + i] := by
        unfold pad
        rw [List.getElem_append_left (by simp; omega)]
        simp
      rw [hx]
    · rw [if_neg (by omega), mW (by simp; omega)]
      simp only [Option.bind_some]
      have hx : (pad n ((b.drop a).take n))[i] = 0 := by
        unfold pad
        rw [List.getElem_append_right (by simp; omega)]
        simp
      rw [hx]
  · unfold xN
    simp only []
    rw [if_neg (by omega)]
    rfl
theorem Xe (k : Int) (B : Nat) (hB : wO k = some (B : Int)) (hBl : B ≤ 1000) (key : List UInt8) (hk : key.length ≤ B) : yO k key = some (if key = [] then [] else pad B key) := by
  unfold yO
  by_cases h0 : key = []
  · subst h0; rfl
  rw [if_neg (by have := List.length_pos_iff.2 h0; omega), if_neg h0]
  have hlen := yY B key hk
  suffices hsf : aX (uU k key) (([] : List UInt8), (0 : Int)) = some ((pad B key).take B) by rw [hsf, List.take_of_length_le (by omega)]
  refine dm (fun i => ((pad B key).take i, (i : Int))) B (fun i hi => ?_) ?_
  · unfold uU yc BC
    have hs : (pad B key).take (i + 1) = (pad B key).take i ++ [(pad B key)[i]] := List.take_succ_eq_append_getElem (by omega)
    simp only []
    rw [hB]
    simp only [Option.bind_some]
    rw [if_pos (by omega), hs, bW i (by omega)]
    by_cases hin : i < key.length
    · rw [if_pos (by omega), dF hin]
      simp only [Option.bind_some]
      rw [mW (by simp; omega)]
      simp only [Option.bind_some]
      have hx : (pad B key)[i] = key[i] := by
        unfold pad
        rw [List.getElem_append_left (by omega)]
      rw [hx]
    · rw [if_neg (by omega), mW (by simp; omega)]
      simp only [Option.bind_some]
      have hx : (pad B key)[i] = 0 := by
        unfold pad
        rw [List.getElem_append_right (by omega)]
        simp
      rw [hx]
  · unfold uU
    simp only []
    rw [hB]
    simp only [Option.bind_some]
    rw [if_neg (by omega)]
    rfl
end Go.Sx
namespace Go.Sx
open Go.RowKit
set_option linter.unusedVariables false
set_option linter.unusedSimpArgs false
structure Half where
  σ : Type
  k : Int
  B : Nat
  S : Nat
  f : σ → List UInt8 → UInt64 × UInt64 → Bool → Bool → σ
  st : List UInt8 → σ
  dig : σ → List UInt8
  emb : σ → Vec UInt64 16
  hk : k = 1 ∧ B = 128 ∧ S = 64 ∨ k = 2 ∧ B = 64 ∧ S = 32
  diglen : ∀ h, (dig h).length = S
  hin : ∀ h b (c : UInt64 × UInt64) last node, b.length = B → yx k (emb h) b c.1 c.2 last node = some (emb (f h b c last node))
  hbytes : ∀ h, ui k (emb h) = some (dig h)
  hfirst : ∀ (d ky fn dp : Int) (lf : UInt32) (off : UInt64) (kR : UInt32) (nd lX : Int) (gp gQ key : List UInt8) (last : Bool) (from_ : Vec UInt64 16) (lo hi : UInt64) (msg : List UInt8) (cn : UInt64) (blk : List UInt8), lq k d ky fn dp lf off kR nd lX gp gQ = some (blk, 0) → blk.length = S →
    mO k d ky fn dp lf off kR nd lX gp gQ key last from_ false lo hi msg cn = some (emb (st blk), k, d, ky, fn, dp, lf, off, kR, nd, lX, last, from_, false, lo, hi, msg, cn)
theorem Half.hB (H : Half) : wO H.k = some (H.B : Int) := by
  rcases H.hk with ⟨h1, h2, _⟩ | ⟨h1, h2, _⟩ <;> rw [h1, h2] <;> rfl
theorem Half.hS (H : Half) : vO H.k = some (H.S : Int) := by
  rcases H.hk with ⟨h1, _, h2⟩ | ⟨h1, _, h2⟩ <;> rw [h1, h2] <;> rfl
def FY (h : Vec UInt64 8) : Vec UInt64 16 := ⟨h.l ++ List.replicate 8 0, by simp [h.h]⟩
theorem embB_g (h : Vec UInt64 8) (i : Nat) (hi : i < 8) : (FY h).g i = h.g i := by
  have hl : i < h.l.length := by rw [h.h]; exact hi
  simp [Vec.g, FY, List.getD_eq_getElem?_getD, List.getElem?_append_left hl]
theorem Yy (h r : Vec UInt64 8) : (List.range 8).foldl (fun v (i : Nat) => jy v i (r.g i)) (FY h) = FY r := by
  obtain ⟨a, b, c, d, e, f, g, q, rfl⟩ := GV (v := h)
  obtain ⟨a', b', c', d', e', f', g', q', rfl⟩ := GV (v := r)
  rfl
theorem Xf (h : Vec UInt64 8) : (List.range 8).foldl (fun v (i : Nat) => jy v i ((FY h).g i)) (Vec.rep 8 (0 : UInt64)) = h := by
  obtain ⟨a, b, c, d, e, f, g, q, rfl⟩ := GV (v := h)
  rfl
theorem embB_0 (r : Vec UInt64 8) : (List.range 8).foldl (fun v (i : Nat) => jy v i (r.g i)) (Vec.rep 16 (0 : UInt64)) = FY r := by
  obtain ⟨a', b', c', d', e', f', g', q', rfl⟩ := GV (v := r)
  rfl
theorem rin1 (h : Vec UInt64 8) (b : List UInt8) (c : UInt64 × UInt64) (last node : Bool) (hb : b.length = 128) : yx 1 (FY h) b c.1 c.2 last node = some (FY (Fb h (Wb b) c.1 c.2 last node)) := by
  unfold yx
  rw [if_pos rfl]
  refine pO _ 8 (fun v (i : Nat) => jy v i ((FY h).g i)) _ _ (fun v i hi => ?_) ?_
  · unfold BN
    simp only []
    rw [if_pos (by omega), df _ _ (by omega), df _ _ hi, bW i (by omega)]
    rfl
  · rw [Xf]
    unfold BN
    simp only []
    rw [if_neg (by omega), rWords b hb]
    simp only [Option.bind_some]
    rw [rF]
    simp only [Option.bind_some]
    rw [show aX (yP (Fb h (Wb b) c.1 c.2 last node)) (FY h, 0) = some (FY (Fb h (Wb b) c.1 c.2 last node)) from ?_]
    · rfl
    refine pO _ 8 (fun v (i : Nat) => jy v i ((Fb h (Wb b) c.1 c.2 last node).g i)) _ _ (fun v i hi => ?_) ?_
    · unfold yP
      simp only []
      rw [if_pos (by omega), df _ _ hi, df _ _ (by omega), bW i (by omega)]
      rfl
    · rw [Yy]
      unfold yP
      simp only []
      rw [if_neg (by omega)]
      rfl
theorem Yz (h : Vec UInt64 8) : ui 1 (FY h) = some (Byb h) := by
  unfold ui
  refine dm (fun i => ((List.range i).foldl (fun b i => b ++ JX 8 (h.g i)) [], (i : Int))) 8 (fun i hi => ?_) rfl
  unfold yz
  simp only []
  have hs := WV (h.g i) 8 (by omega)
  rw [if_pos (by omega), df _ _ (by omega), embB_g h i hi, bW i (by omega)]
  simp only [Option.bind_some]
  rw [show vO 1 = some 64 from rfl]
  simp only [Option.bind_some]
  rw [show aI (Int.tdiv 64 8) = ((8 : Nat) : Int) from rfl, hs]
  simp only [Option.bind_some]
  have hq : (List.range (i + 1)).foldl (fun b i => b ++ JX 8 (h.g i)) [] = (List.range i).foldl (fun b i => b ++ JX 8 (h.g i)) [] ++ JX 8 (h.g i) := by rw [List.range_succ, List.foldl_append]; rfl
  rw [mW (by rw [GX _ 8 (fun i => Aw 8 _)]; simp; omega), hq]
  rfl
theorem YA (d ky fn dp : Int) (lf : UInt32) (off : UInt64) (kR : UInt32) (nd lX : Int) (gp gQ key : List UInt8) (last : Bool) (from_ : Vec UInt64 16) (lo hi : UInt64) (msg : List UInt8) (cn : UInt64) (blk : List UInt8) (he : lq 1 d ky fn dp lf off kR nd lX gp gQ = some (blk, 0)) (hl : blk.length = 64) :
    mO 1 d ky fn dp lf off kR nd lX gp gQ key last from_ false lo hi msg cn = some (FY (WZ blk), 1, d, ky, fn, dp, lf, off, kR, nd, lX, last, from_, false, lo, hi, msg, cn) := by
  unfold mO
  rw [if_neg (by decide), he]
  simp only [Option.bind_some]
  rw [if_pos trivial, rStart blk hl]
  simp only [Option.bind_some]
  refine pO _ 8 (fun v (i : Nat) => jy v i ((WZ blk).g i)) _ _ (fun v i hi => ?_) ?_
  · unfold rJ
    simp only []
    rw [if_pos (by omega), df _ _ hi, df _ _ (by omega), bW i (by omega)]
    rfl
  · rw [embB_0]
    unfold rJ
    simp only []
    rw [if_neg (by omega)]
    rfl
def big : Half := ⟨Vec UInt64 8, 1, 128, 64, fun h b c last node => Fb h (Wb b) c.1 c.2 last node, WZ, Byb, FY, .inl ⟨rfl, rfl, rfl⟩, Oc, rin1, Yz, YA⟩
def up (x : UInt32) : UInt64 := UInt64.ofNat x.toNat
theorem down_up (x : UInt32) : UInt32.ofNat (up x).toNat = x := by
  have := x.toNat_lt
  unfold up
  rw [← UInt32.toNat_inj]
  simp only [UInt32.toNat_ofNat', UInt64.toNat_ofNat']
  omega
def GY (h : Vec UInt32 8) : Vec UInt64 16 := ⟨h.l.map up ++ List.replicate 8 0, by simp [h.h]⟩
theorem embS_g (h : Vec UInt32 8) (i : Nat) (hi : i < 8) : (GY h).g i = up (h.g i) := by
  obtain ⟨a, b, c, d, e, f, g, q, rfl⟩ := GV (v := h)
  match i, hi with
  | 0, _ => rfl
  | 1, _ => rfl
  | 2, _ => rfl
  | 3, _ => rfl
  | 4, _ => rfl
  | 5, _ => rfl
  | 6, _ => rfl
  | 7, _ => rfl
theorem YB (h r : Vec UInt32 8) : (List.range 8).foldl (fun v (i : Nat) => jy v i (up (r.g i))) (GY h) = GY r := by
  obtain ⟨a, b, c, d, e, f, g, q, rfl⟩ := GV (v := h)
  obtain ⟨a', b', c', d', e', f', g', q', rfl⟩ := GV (v := r)
  rfl
theorem Xg (h : Vec UInt32 8) : (List.range 8).foldl (fun v (i : Nat) => jy v i (UInt32.ofNat ((GY h).g i).toNat)) (Vec.rep 8 (0 : UInt32)) = h := by
  obtain ⟨a, b, c, d, e, f, g, q, rfl⟩ := GV (v := h)
  show (⟨[UInt32.ofNat (up a).toNat, UInt32.ofNat (up b).toNat, UInt32.ofNat (up c).toNat, UInt32.ofNat (up d).toNat, UInt32.ofNat (up e).toNat, UInt32.ofNat (up f).toNat, UInt32.ofNat (up g).toNat, UInt32.ofNat (up q).toNat], rfl⟩ : Vec UInt32 8) = _
  apply Vec.ext
  simp only [down_up]
theorem embS_0 (r : Vec UInt32 8) : (List.range 8).foldl (fun v (i : Nat) => jy v i (up (r.g i))) (Vec.rep 16 (0 : UInt64)) = GY r := by
  obtain ⟨a', b', c', d', e', f', g', q', rfl⟩ := GV (v := r)
  rfl
theorem rin2 (h : Vec UInt32 8) (b : List UInt8) (c : UInt64 × UInt64) (last node : Bool) (hb : b.length = 64) : yx 2 (GY h) b c.1 c.2 last node = some (GY (Fs h (Ws b) c.1 last node)) := by
  unfold yx
  rw [if_neg (by decide)]
  refine pO _ 8 (fun v (i : Nat) => jy v i (UInt32.ofNat ((GY h).g i).toNat)) _ _ (fun v i hi => ?_) ?_
  · unfold BO
    simp only []
    rw [if_pos (by omega), df _ _ (by omega), df _ _ hi, bW i (by omega)]
    rfl
  · rw [Xg]
    unfold BO
    simp only []
    rw [if_neg (by omega), Yn b hb]
    simp only [Option.bind_some]
    rw [rFs]
    simp only [Option.bind_some]
    rw [show aX (yQ (Fs h (Ws b) c.1 last node)) (GY h, 0) = some (GY (Fs h (Ws b) c.1 last node)) from ?_]
    · rfl
    refine pO _ 8 (fun v (i : Nat) => jy v i (up ((Fs h (Ws b) c.1 last node).g i))) _ _ (fun v i hi => ?_) ?_
    · unfold yQ
      simp only []
      rw [if_pos (by omega), df _ _ hi, df _ _ (by omega), bW i (by omega)]
      rfl
    · rw [YB]
      unfold yQ
      simp only []
      rw [if_neg (by omega)]
      rfl
theorem YD (h : Vec UInt32 8) : ui 2 (GY h) = some (Bys h) := by
  unfold ui
  refine dm (fun i => ((List.range i).foldl (fun b i => b ++ JX 4 (UInt64.ofNat (h.g i).toNat)) [], (i : Int))) 8 (fun i hi => ?_) rfl
  unfold yz
  simp only []
  have hs := WV (up (h.g i)) 4 (by omega)
  rw [if_pos (by omega), df _ _ (by omega), embS_g h i hi, bW i (by omega)]
  simp only [Option.bind_some]
  rw [show vO 2 = some 32 from rfl]
  simp only [Option.bind_some]
  rw [show aI (Int.tdiv 32 8) = ((4 : Nat) : Int) from rfl, hs]
  simp only [Option.bind_some]
  have hq : (List.range (i + 1)).foldl (fun b i => b ++ JX 4 (UInt64.ofNat (h.g i).toNat)) [] = (List.range i).foldl (fun b i => b ++ JX 4 (UInt64.ofNat (h.g i).toNat)) [] ++ JX 4 (UInt64.ofNat (h.g i).toNat) := by rw [List.range_succ, List.foldl_append]; rfl
  rw [mW (by rw [GX _ 4 (fun i => Aw 4 _)]; simp; omega), hq]
  rfl
theorem YE (d ky fn dp : Int) (lf : UInt32) (off : UInt64) (kR : UInt32) (nd lX : Int) (gp gQ key : List UInt8) (last : Bool) (from_ : Vec UInt64 16) (lo hi : UInt64) (msg : List UInt8) (cn : UInt64) (blk : List UInt8) (he : lq 2 d ky fn dp lf off kR nd lX gp gQ = some (blk, 0)) (hl : blk.length = 32) :
    mO 2 d ky fn dp lf off kR nd lX gp gQ key last from_ false lo hi msg cn = some (GY (Sts blk), 2, d, ky, fn, dp, lf, off, kR, nd, lX, last, from_, false, lo, hi, msg, cn) := by
  unfold mO
  rw [if_neg (by decide), he]
  simp only [Option.bind_some]
  rw [if_neg (by decide), Yo blk hl]
  simp only [Option.bind_some]
  refine pO _ 8 (fun v (i : Nat) => jy v i (up ((Sts blk).g i))) _ _ (fun v i hi => ?_) ?_
  · unfold rM
    simp only []
    rw [if_pos (by omega), df _ _ hi, df _ _ (by omega), bW i (by omega)]
    rfl
  · rw [embS_0]
    unfold rM
    simp only []
    rw [if_neg (by omega)]
    rfl
def small : Half := ⟨Vec UInt32 8, 2, 64, 32, fun h b c last node => Fs h (Ws b) c.1 last node, Sts, Bys, GY, .inr ⟨rfl, rfl, rfl⟩, Oe, rin2, YD, YE⟩
end Go.Sx
namespace Go.Sx
open Go.RowKit
set_option linter.unusedVariables false
set_option linter.unusedSimpArgs false
def Half.run (H : Half) (blk M : List UInt8) : H.σ × (UInt64 × UInt64) × List UInt8 := jG (fun h b c => H.f h b c false false) H.B (H.st blk) (0, 0) M
def Half.hash (H : Half) (blk M : List UInt8) (last : Bool) : List UInt8 :=
  H.dig (H.f (H.run blk M).1 (pad H.B (H.run blk M).2.2) (tC (H.run blk M).2.1 (UInt64.ofNat (H.run blk M).2.2.length)) true last)
theorem Half.PO (H : Half) (blk M : List UInt8) (last : Bool) : (H.hash blk M last).length = H.S := H.diglen _
theorem Half.bp (H : Half) : 0 < H.B ∧ H.B ≤ 128 := by rcases H.hk with ⟨_, h, _⟩ | ⟨_, h, _⟩ <;> omega
section
variable (H : Half) (d ky fn dp : Int) (lf : UInt32) (off : UInt64) (kR : UInt32) (nd lX : Int) (gp gQ key : List UInt8) (last : Bool) (from_ : Vec UInt64 16) (msg : List UInt8) (cn : UInt64) (blk : List UInt8)
theorem Uk (he : lq H.k d ky fn dp lf off kR nd lX gp gQ = some (blk, 0)) (hl : blk.length = H.S) (hm : msg.length ≤ 16000000) :
    uV H.k d ky fn dp lf off kR nd lX gp gQ key last from_ false 0 0 msg cn =
      some (H.emb (H.run blk msg).1, (H.run blk msg).2.1.1, (H.run blk msg).2.1.2, ((msg.length - (H.run blk msg).2.2.length : Nat) : Int), H.k, d, ky, fn, dp, lf, off, kR, nd, lX, last, from_, false, 0, 0, msg, cn) := by
  have hb := H.bp
  unfold uV
  rw [H.hfirst d ky fn dp lf off kR nd lX gp gQ key last from_ 0 0 msg cn blk he hl]
  simp only [Option.bind_some]
  rw [H.hB]
  simp only [Option.bind_some]
  refine qP (fun i s => ∃ (h : H.σ) (c : UInt64 × UInt64) (a : Nat), s = (H.emb h, c.1, c.2, (a : Int)) ∧ a ≤ msg.length ∧ a = i * H.B ∧ jG (fun h b c => H.f h b c false false) H.B h c (msg.drop a) = H.run blk msg) _ msg.length _ ⟨H.st blk, (0, 0), 0, rfl, by omega, by omega, rfl⟩ ?_
  rintro i s ⟨h, c, a, rfl, ha, hai, hr⟩
  unfold wQ
  simp only []
  have e1 : aI ((a : Int) + (H.B : Int)) = ((a + H.B : Nat) : Int) := by rw [fP (by omega)]; omega
  rw [e1]
  by_cases hlt : a + H.B < msg.length
  · left
    have hil : i ≤ i * H.B := Nat.le_mul_of_pos_right i hb.1
    obtain ⟨o, hadd⟩ := Zd c (UInt64.ofNat H.B)
    refine ⟨by omega, (H.emb (H.f h ((msg.drop a).take H.B) (tC c (UInt64.ofNat H.B)) false false), (tC c (UInt64.ofNat H.B)).1, (tC c (UInt64.ofNat H.B)).2, ((a + H.B : Nat) : Int)), ?_, H.f h ((msg.drop a).take H.B) (tC c (UInt64.ofNat H.B)) false false, tC c (UInt64.ofNat H.B), a + H.B, rfl, by omega, by rw [hai, Nat.succ_mul], ?_⟩
    · rw [if_pos (by omega), Iy, hadd]
      simp only [Option.bind_some]
      rw [Xd msg a H.B (by omega) (by omega) (by omega)]
      simp only [Option.bind_some]
      have hp : pad H.B ((msg.drop a).take H.B) = (msg.drop a).take H.B := by
        unfold pad
        rw [show H.B - ((msg.drop a).take H.B).length = 0 from by simp; omega]
        simp
      rw [hp, H.hin h _ (tC c (UInt64.ofNat H.B)) false false (by simp; omega)]
      rfl
    · rw [← hr, CZ _ H.B h c (msg.drop a) hb.1 (by simp; omega), List.drop_drop]
  · right
    rw [if_neg (by omega)]
    have hst := qN (fun h b c => H.f h b c false false) H.B h c (msg.drop a) (by simp; omega)
    rw [hst] at hr
    rw [← hr]
    simp only [Option.map_some, Option.some.injEq, Sum.inr.injEq, Prod.mk.injEq, true_and, and_true, List.length_drop]
    omega
theorem Half.held (H : Half) (blk M : List UInt8) : (H.run blk M).2.2.length ≤ H.B ∧ (H.run blk M).2.2 = M.drop (M.length - (H.run blk M).2.2.length) ∧ (H.run blk M).2.2.length ≤ M.length :=
  Q9 _ H.B H.bp.1 M.length _ _ M (Nat.le_refl _)
theorem YF (he : lq H.k d ky fn dp lf off kR nd lX gp gQ = some (blk, 0)) (hl : blk.length = H.S) (hm : msg.length ≤ 16000000) :
    yA H.k d ky fn dp lf off kR nd lX gp gQ key last from_ false 0 0 msg cn = some (H.hash blk msg last, H.k, d, ky, fn, dp, lf, off, kR, nd, lX, last, from_, false, 0, 0, msg, cn) := by
  have hb := H.bp
  unfold yA
  rw [Uk H d ky fn dp lf off kR nd lX gp gQ key last from_ msg cn blk he hl hm]
  simp only [Option.bind_some]
  obtain ⟨h1, h2, h3⟩ := H.held blk msg
  have e1 : aI ((msg.length : Int) - ((msg.length - (H.run blk msg).2.2.length : Nat) : Int)) = (((H.run blk msg).2.2.length : Nat) : Int) := by rw [fP (by omega)]; omega
  obtain ⟨o, hadd⟩ := Zd (H.run blk msg).2.1 (UInt64.ofNat (H.run blk msg).2.2.length)
  rw [e1, Iy, hadd]
  simp only [Option.bind_some]
  rw [H.hB]
  simp only [Option.bind_some]
  rw [Xd msg _ H.B (by omega) (by omega) (by omega), ← h2]
  simp only [Option.bind_some]
  rw [List.take_of_length_le h1]
  rw [H.hin _ _ _ true last (yY _ _ h1)]
  simp only [Option.bind_some]
  rw [H.hbytes]
  rfl
theorem Ul (b : List UInt8) (lo hi : UInt64) (old : Bool) (hm : msg.length + b.length ≤ 16000000) :
    vP H.k d ky fn dp lf off kR nd lX gp gQ key last from_ old lo hi msg cn b = some (H.k, d, ky, fn, dp, lf, off, kR, nd, lX, last, from_, old, lo, hi, msg ++ b, cn + UInt64.ofInt ((b.length : Nat) : Int)) := by
  unfold vP
  rw [show ((msg, (0 : Int)) : List UInt8 × Int) = (msg ++ b.take 0, ((0 : Nat) : Int)) from by simp]
  refine dm (fun i => (msg ++ b.take i, (i : Int))) b.length (fun i hi => ?_) ?_
  · unfold rG
    simp only []
    rw [if_pos (by omega), dF hi]
    simp only [Option.bind_some]
    rw [mW (by simp; omega), bW i (by omega), List.take_succ_eq_append_getElem hi, List.append_assoc]
    rfl
  · unfold rG
    simp only []
    rw [if_neg (by omega), List.take_length]
    rfl
end
def Half.ans (H : Half) (blk M : List UInt8) (last : Bool) (out : Int) : List UInt8 × Int := if out < 1 ∨ (H.S : Int) < out then ([], 1) else ((H.hash blk M last).take out.toNat, 0)
def Half.kb (H : Half) (key : List UInt8) : List UInt8 := if key = [] then [] else pad H.B key
theorem Half.Q_ (H : Half) (key : List UInt8) (h : key.length ≤ H.B) : (H.kb key).length ≤ H.B := by
  unfold Half.kb
  split
  · simp
  · rw [yY _ _ h]; exact Nat.le_refl _
theorem PQ (H : Half) (d ky fn dp : Int) (lf : UInt32) (off : UInt64) (kR : UInt32) (nd lX : Int) (gp gQ key : List UInt8) (last : Bool) (out : Int) (data blk : List UInt8) (hc : iT H.k d ky fn dp lf off kR nd lX gp gQ = some 0) (he : lq H.k d ky fn dp lf off kR nd lX gp gQ = some (blk, 0)) (hl : blk.length = H.S) (hkey : key = [] ∨ (key.length : Int) = ky) (hkl : key.length ≤ H.B) (hd : data.length ≤ 12000000) :
    Af H.k d ky fn dp lf off kR nd lX gp gQ key last out data = some (H.ans blk (H.kb key ++ data) last out) := by
  have hb := H.bp
  unfold Af La
  rw [hc]
  simp only [Option.bind_some, ne_eq, not_true_eq_false, if_false]
  rw [if_neg (by
    simp only [Bool.and_eq_true, decide_eq_true_eq]
    rintro ⟨h1, h2⟩
    rcases hkey with rfl | h
    · exact h1 rfl
    · exact h2 h)]
  rw [show yO H.k key = some (H.kb key) from Xe H.k H.B H.hB (by omega) key hkl]
  simp only [Option.bind_some, Sum.elim_inr]
  unfold Half.ans
  by_cases h1 : out < 1
  · rw [if_pos h1, if_pos (.inl h1)]
  rw [if_neg h1, H.hS]
  simp only [Option.bind_some]
  by_cases h2 : (H.S : Int) < out
  · rw [if_pos h2, if_pos (.inr h2)]
  rw [if_neg h2, if_neg (by omega)]
  have hkb := H.Q_ key hkl
  rw [Ul H d ky fn dp lf off kR nd lX gp gQ key last (Vec.rep 16 0) (H.kb key) 0 data 0 0 false (by omega)]
  simp only [Option.bind_some]
  rw [YF H d ky fn dp lf off kR nd lX gp gQ key last _ _ _ blk he hl (by rw [List.length_append]; omega)]
  simp only [Option.bind_some]
  rw [rE (by rw [H.PO]; omega)]
  simp
end Go.Sx
namespace Go.Sx
open Go.RowKit
set_option linter.unusedVariables false
set_option linter.unusedSimpArgs false
def fB (h : Vec UInt64 8) (b : List UInt8) (c : UInt64 × UInt64) (last node : Bool) : Vec UInt64 8 := Fb h (Wb b) c.1 c.2 last node
def fS (h : Vec UInt32 8) (b : List UInt8) (c : UInt64 × UInt64) (last node : Bool) : Vec UInt32 8 := Fs h (Ws b) c.1 last node
theorem Lt (h : Vec UInt64 8) (b : List UInt8) (c : UInt64 × UInt64) (last node : Bool) (hb : b.length = 128) : pV h b c.1 c.2 last node = some (fB h b c last node) := by
  unfold pV
  rw [wWords b hb]
  simp only [Option.bind_some]
  rw [wF]
  rfl
theorem wj0B (b : List UInt8) (h : Vec UInt64 8) (lo hi : UInt64) (held : List UInt8) (hb : b.length ≤ 12000000) (hh : held.length ≤ 128) :
    gq 128 b h lo hi held = some (.inl (h, lo, hi, held ++ b.take (min (128 - held.length) b.length), b.drop (min (128 - held.length) b.length))) := by
  unfold gq
  have e1 : aI ((128 : Int) - ((held.length : Nat) : Int)) = ((128 - held.length : Nat) : Int) := by rw [fP (by omega)]; omega
  have e2 : (if aI ((128 : Int) - ((held.length : Nat) : Int)) < ((b.length : Nat) : Int) then aI ((128 : Int) - ((held.length : Nat) : Int)) else ((b.length : Nat) : Int)) = ((min (128 - held.length) b.length : Nat) : Int) := by
    rw [e1]; split <;> omega
  rw [e2, rE (by omega)]
  simp only [Option.bind_some, Int.toNat_natCast, Int.toNat_zero, List.drop_zero]
  rw [mW (by simp; omega), rE (by omega)]
  simp only [Option.bind_some, Int.toNat_natCast]
  rw [List.take_of_length_le (i := b.length) (Nat.le_refl _)]
theorem SS (h : Vec UInt64 8) (c : UInt64 × UInt64) (held b : List UInt8) (hb : b.length ≤ 12000000) (hh : held.length ≤ 128) :
    iC h c.1 c.2 held 128 b = some ((jG (fun h b c => fB h b c false false) 128 h c (held ++ b)).1, (jG (fun h b c => fB h b c false false) 128 h c (held ++ b)).2.1.1, (jG (fun h b c => fB h b c false false) 128 h c (held ++ b)).2.1.2, (jG (fun h b c => fB h b c false false) 128 h c (held ++ b)).2.2, 128) := by
  unfold iC
  refine qP (fun i s => ∃ (h' : Vec UInt64 8) (c' : UInt64 × UInt64) (held' b' : List UInt8), s = (h', c'.1, c'.2, held', b') ∧ held'.length ≤ 128 ∧ b'.length + i ≤ b.length ∧ jG (fun h b c => fB h b c false false) 128 h' c' (held' ++ b') = jG (fun h b c => fB h b c false false) 128 h c (held ++ b)) _ b.length _ ⟨h, c, held, b, rfl, hh, by omega, rfl⟩ ?_
  rintro i s ⟨h', c', held', b', rfl, hh', hbl, hr⟩
  rw [← hr]
  unfold jO
  simp only []
  by_cases h0 : b'.length = 0
  · right
    obtain rfl := List.length_eq_zero_iff.1 h0
    rw [if_neg (by simp), List.append_nil, qN _ _ _ _ _ hh']
    rfl
  · left
    refine ⟨by omega, ?_⟩
    rw [if_pos (by omega)]
    by_cases hf : held'.length = 128
    · rw [if_pos (by omega)]
      obtain ⟨o, hadd⟩ := Yw c' (UInt64.ofNat 128)
      have e3 : UInt64.ofInt 128 = UInt64.ofNat 128 := rfl
      rw [e3, hadd]
      simp only [Option.bind_some]
      rw [Lt h' held' (tC c' (UInt64.ofNat 128)) false false hf]
      simp only [Option.bind_some]
      rw [rE (by omega)]
      simp only [Option.bind_some, Int.toNat_zero, List.take_zero, List.drop_nil]
      rw [wj0B b' _ _ _ [] (by omega) (by simp)]
      refine ⟨_, rfl, _, tC c' (UInt64.ofNat 128), _, _, rfl, by simp; omega, by simp; omega, ?_⟩
      rw [CZ _ 128 h' c' (held' ++ b') (by omega) (by simp; omega)]
      rw [show (held' ++ b').take 128 = held' from by rw [List.take_append_of_le_length (by omega), List.take_of_length_le (by omega)], show (held' ++ b').drop 128 = b' from by rw [← hf, List.drop_left]]
      rw [List.nil_append, List.take_append_drop]
    · rw [if_neg (by omega), wj0B b' _ _ _ held' (by omega) hh']
      refine ⟨_, rfl, _, c', _, _, rfl, by simp; omega, by simp; omega, ?_⟩
      rw [List.append_assoc, List.take_append_drop]
theorem woutB (h : Vec UInt64 8) (c : UInt64 × UInt64) (held : List UInt8) (node : Bool) (hh : held.length ≤ 128) :
    jX h c.1 c.2 held 128 node = some (Byb (fB h (pad 128 held) (tC c (UInt64.ofNat held.length)) true node), h, c.1, c.2, held, 128) := by
  unfold jX kL
  obtain ⟨o, hadd⟩ := Yw c (UInt64.ofNat held.length)
  rw [Iy, hadd]
  simp only [Option.bind_some]
  have := Yx held 128 hh (by omega)
  rw [show ((128 : Nat) : Int) = 128 from rfl] at this
  rw [this]
  simp only [Option.bind_some]
  rw [Lt h _ (tC c (UInt64.ofNat held.length)) true node (yY _ _ hh)]
  simp only [Option.bind_some]
  rw [wBytes]
  rfl
theorem Hw (h : Vec UInt32 8) (b : List UInt8) (c : UInt64 × UInt64) (last node : Bool) (hb : b.length = 64) : nI h b c.1 c.2 last node = some (fS h b c last node) := by
  unfold nI
  rw [Ym b hb]
  simp only [Option.bind_some]
  rw [wFs]
  rfl
theorem wj0S (b : List UInt8) (h : Vec UInt32 8) (lo hi : UInt64) (held : List UInt8) (hb : b.length ≤ 12000000) (hh : held.length ≤ 64) :
    gu 64 b h lo hi held = some (.inl (h, lo, hi, held ++ b.take (min (64 - held.length) b.length), b.drop (min (64 - held.length) b.length))) := by
  unfold gu
  have e1 : aI ((64 : Int) - ((held.length : Nat) : Int)) = ((64 - held.length : Nat) : Int) := by rw [fP (by omega)]; omega
  have e2 : (if aI ((64 : Int) - ((held.length : Nat) : Int)) < ((b.length : Nat) : Int) then aI ((64 : Int) - ((held.length : Nat) : Int)) else ((b.length : Nat) : Int)) = ((min (64 - held.length) b.length : Nat) : Int) := by
    rw [e1]; split <;> omega
  rw [e2, rE (by omega)]
  simp only [Option.bind_some, Int.toNat_natCast, Int.toNat_zero, List.drop_zero]
  rw [mW (by simp; omega), rE (by omega)]
  simp only [Option.bind_some, Int.toNat_natCast]
  rw [List.take_of_length_le (i := b.length) (Nat.le_refl _)]
theorem SX (h : Vec UInt32 8) (c : UInt64 × UInt64) (held b : List UInt8) (hb : b.length ≤ 12000000) (hh : held.length ≤ 64) :
    iD h c.1 c.2 held 64 b = some ((jG (fun h b c => fS h b c false false) 64 h c (held ++ b)).1, (jG (fun h b c => fS h b c false false) 64 h c (held ++ b)).2.1.1, (jG (fun h b c => fS h b c false false) 64 h c (held ++ b)).2.1.2, (jG (fun h b c => fS h b c false false) 64 h c (held ++ b)).2.2, 64) := by
  unfold iD
  refine qP (fun i s => ∃ (h' : Vec UInt32 8) (c' : UInt64 × UInt64) (held' b' : List UInt8), s = (h', c'.1, c'.2, held', b') ∧ held'.length ≤ 64 ∧ b'.length + i ≤ b.length ∧ jG (fun h b c => fS h b c false false) 64 h' c' (held' ++ b') = jG (fun h b c => fS h b c false false) 64 h c (held ++ b)) _ b.length _ ⟨h, c, held, b, rfl, hh, by omega, rfl⟩ ?_
  rintro i s ⟨h', c', held', b', rfl, hh', hbl, hr⟩
  rw [← hr]
  unfold jP
  simp only []
  by_cases h0 : b'.length = 0
  · right
    obtain rfl := List.length_eq_zero_iff.1 h0
    rw [if_neg (by simp), List.append_nil, qN _ _ _ _ _ hh']
    rfl
  · left
    refine ⟨by omega, ?_⟩
    rw [if_pos (by omega)]
    by_cases hf : held'.length = 64
    · rw [if_pos (by omega)]
      obtain ⟨o, hadd⟩ := Yw c' (UInt64.ofNat 64)
      have e3 : UInt64.ofInt 64 = UInt64.ofNat 64 := rfl
      rw [e3, hadd]
      simp only [Option.bind_some]
      rw [Hw h' held' (tC c' (UInt64.ofNat 64)) false false hf]
      simp only [Option.bind_some]
      rw [rE (by omega)]
      simp only [Option.bind_some, Int.toNat_zero, List.take_zero, List.drop_nil]
      rw [wj0S b' _ _ _ [] (by omega) (by simp)]
      refine ⟨_, rfl, _, tC c' (UInt64.ofNat 64), _, _, rfl, by simp; omega, by simp; omega, ?_⟩
      rw [CZ _ 64 h' c' (held' ++ b') (by omega) (by simp; omega)]
      rw [show (held' ++ b').take 64 = held' from by rw [List.take_append_of_le_length (by omega), List.take_of_length_le (by omega)], show (held' ++ b').drop 64 = b' from by rw [← hf, List.drop_left]]
      rw [List.nil_append, List.take_append_drop]
    · rw [if_neg (by omega), wj0S b' _ _ _ held' (by omega) hh']
      refine ⟨_, rfl, _, c', _, _, rfl, by simp; omega, by simp; omega, ?_⟩
      rw [List.append_assoc, List.take_append_drop]
theorem woutS (h : Vec UInt32 8) (c : UInt64 × UInt64) (held : List UInt8) (node : Bool) (hh : held.length ≤ 64) :
    jY h c.1 c.2 held 64 node = some (Bys (fS h (pad 64 held) (tC c (UInt64.ofNat held.length)) true node), h, c.1, c.2, held, 64) := by
  unfold jY kM
  obtain ⟨o, hadd⟩ := Yw c (UInt64.ofNat held.length)
  rw [Iy, hadd]
  simp only [Option.bind_some]
  have := Yx held 64 hh (by omega)
  rw [show ((64 : Nat) : Int) = 64 from rfl] at this
  rw [this]
  simp only [Option.bind_some]
  rw [Hw h _ (tC c (UInt64.ofNat held.length)) true node (yY _ _ hh)]
  simp only [Option.bind_some]
  rw [Yq]
  rfl
end Go.Sx
namespace Go.Sx
open Go.RowKit
set_option linter.unusedVariables false
set_option linter.unusedSimpArgs false
theorem beginB (d : Int) (blk key : List UInt8) (hl : blk.length = 64) (hk : key.length ≤ 128) : jW 1 d blk key false 0 = some (.inl (1, d, blk, key, WZ blk, 0, 0, big.kb key, 128)) := by
  unfold jW uH
  rw [if_pos rfl]
  rw [wStart blk hl]
  simp only [Option.bind_some, Sum.elim_inl]
  unfold Half.kb
  by_cases h0 : key = []
  · subst h0; rfl
  · rw [if_pos (by have := List.length_pos_iff.2 h0; omega), if_neg h0]
    have hp := Yx key 128 hk (by omega)
    rw [show ((128 : Nat) : Int) = 128 from rfl] at hp
    rw [show jA 1 = some 128 from rfl]
    simp only [Option.bind_some]
    rw [hp]
    simp only [Option.bind_some]
    have hlen := yY 128 key hk
    rw [SS (WZ blk) (0, 0) [] (pad 128 key) (by omega) (by simp)]
    rw [List.nil_append, qN _ _ _ _ _ (by omega)]
    rfl
theorem wouB (d : Int) (blk key : List UInt8) (last : Bool) (wr : UInt64) (h : Vec UInt64 8) (c : UInt64 × UInt64) (held : List UInt8) (hh : held.length ≤ 128) (out : Int) : ∃ t, pI 1 d blk key last wr h c.1 c.2 held 128 out = some t ∧ (t.1, t.2.1) = (if out < 1 ∨ (64 : Int) < out then ([], 1) else ((Byb (fB h (pad 128 held) (tC c (UInt64.ofNat held.length)) true last)).take out.toNat, 0)) := by
  unfold pI rf
  simp only [Option.bind_some]
  by_cases h1 : out < 1
  · rw [if_pos h1, if_pos (.inl h1)]; exact ⟨_, rfl, rfl⟩
  rw [if_neg h1, show jA 1 = some 128 from rfl]
  simp only [Option.bind_some]
  rw [show aI (Int.tdiv 128 2) = (64 : Int) from rfl]
  by_cases h2 : (64 : Int) < out
  · rw [if_pos h2, if_pos (.inr h2)]; exact ⟨_, rfl, rfl⟩
  rw [if_neg h2, if_neg (by omega), woutB h c held last hh]
  simp only [Option.bind_some]
  rw [rE (by rw [Oc]; omega)]
  simp only [Option.bind_some]
  rw [nP (by rw [Oc]; omega)]
  exact ⟨_, rfl, by simp⟩
theorem whashB (d ky fn dp : Int) (lf : UInt32) (off : UInt64) (kR : UInt32) (nd lX : Int) (gp gQ key : List UInt8) (last : Bool) (out : Int) (data blk : List UInt8) (he : lH 1 d ky fn dp lf off kR nd lX gp gQ = some (blk, 0)) (hl : blk.length = 64) (hkey : key = [] ∨ (key.length : Int) = ky) (hkl : key.length ≤ 128) (hd : data.length ≤ 12000000) :
    lI 1 d ky fn dp lf off kR nd lX gp gQ key last out data = some (big.ans blk (big.kb key ++ data) last out) := by
  unfold lI x9
  rw [he]
  simp only [Option.bind_some, ne_eq, not_true_eq_false, if_false]
  rw [if_neg (by
    simp only [Bool.and_eq_true, decide_eq_true_eq]
    rintro ⟨h1, h2⟩
    rcases hkey with rfl | h
    · exact h1 rfl
    · exact h2 h)]
  unfold wM
  rw [mW (by simp; omega), mW (by simp; omega)]
  simp only [Option.bind_some, List.nil_append]
  rw [beginB d blk key hl hkl]
  simp only [Option.bind_some, Sum.elim_inl, Sum.elim_inr]
  have hkb := big.Q_ key hkl
  rw [SS (WZ blk) (0, 0) (big.kb key) data hd hkb]
  simp only [Option.bind_some]
  obtain ⟨h1, h2, h3⟩ := big.held blk (big.kb key ++ data)
  obtain ⟨t, ht1, ht2⟩ := wouB d blk key last 0 (jG (fun h b c => fB h b c false false) 128 (WZ blk) (0, 0) (big.kb key ++ data)).1 (jG (fun h b c => fB h b c false false) 128 (WZ blk) (0, 0) (big.kb key ++ data)).2.1 (jG (fun h b c => fB h b c false false) 128 (WZ blk) (0, 0) (big.kb key ++ data)).2.2 h1 out
  rw [ht1]
  simp only [Option.bind_some, Option.some.injEq]
  exact ht2
theorem beginS (d : Int) (blk key : List UInt8) (hl : blk.length = 32) (hk : key.length ≤ 64) : jW 2 d blk key false 0 = some (.inr (2, d, blk, key, Sts blk, 0, 0, small.kb key, 64)) := by
  unfold jW uH
  rw [if_neg (by decide)]
  rw [Yp blk hl]
  simp only [Option.bind_some, Sum.elim_inr]
  unfold Half.kb
  by_cases h0 : key = []
  · subst h0; rfl
  · rw [if_pos (by have := List.length_pos_iff.2 h0; omega), if_neg h0]
    have hp := Yx key 64 hk (by omega)
    rw [show ((64 : Nat) : Int) = 64 from rfl] at hp
    rw [show jA 2 = some 64 from rfl]
    simp only [Option.bind_some]
    rw [hp]
    simp only [Option.bind_some]
    have hlen := yY 64 key hk
    rw [SX (Sts blk) (0, 0) [] (pad 64 key) (by omega) (by simp)]
    rw [List.nil_append, qN _ _ _ _ _ (by omega)]
    rfl
theorem wouS (d : Int) (blk key : List UInt8) (last : Bool) (wr : UInt64) (h : Vec UInt32 8) (c : UInt64 × UInt64) (held : List UInt8) (hh : held.length ≤ 64) (out : Int) : ∃ t, mY 2 d blk key last wr h c.1 c.2 held 64 out = some t ∧ (t.1, t.2.1) = (if out < 1 ∨ (32 : Int) < out then ([], 1) else ((Bys (fS h (pad 64 held) (tC c (UInt64.ofNat held.length)) true last)).take out.toNat, 0)) := by
  unfold mY ou
  simp only [Option.bind_some]
  by_cases h1 : out < 1
  · rw [if_pos h1, if_pos (.inl h1)]; exact ⟨_, rfl, rfl⟩
  rw [if_neg h1, show jA 2 = some 64 from rfl]
  simp only [Option.bind_some]
  rw [show aI (Int.tdiv 64 2) = (32 : Int) from rfl]
  by_cases h2 : (32 : Int) < out
  · rw [if_pos h2, if_pos (.inr h2)]; exact ⟨_, rfl, rfl⟩
  rw [if_neg h2, if_neg (by omega), woutS h c held last hh]
  simp only [Option.bind_some]
  rw [rE (by rw [Oe]; omega)]
  simp only [Option.bind_some]
  rw [nP (by rw [Oe]; omega)]
  exact ⟨_, rfl, by simp⟩
theorem whashS (d ky fn dp : Int) (lf : UInt32) (off : UInt64) (kR : UInt32) (nd lX : Int) (gp gQ key : List UInt8) (last : Bool) (out : Int) (data blk : List UInt8) (he : lH 2 d ky fn dp lf off kR nd lX gp gQ = some (blk, 0)) (hl : blk.length = 32) (hkey : key = [] ∨ (key.length : Int) = ky) (hkl : key.length ≤ 64) (hd : data.length ≤ 12000000) :
    lI 2 d ky fn dp lf off kR nd lX gp gQ key last out data = some (small.ans blk (small.kb key ++ data) last out) := by
  unfold lI x9
  rw [he]
  simp only [Option.bind_some, ne_eq, not_true_eq_false, if_false]
  rw [if_neg (by
    simp only [Bool.and_eq_true, decide_eq_true_eq]
    rintro ⟨h1, h2⟩
    rcases hkey with rfl | h
    · exact h1 rfl
    · exact h2 h)]
  unfold wM
  rw [mW (by simp; omega), mW (by simp; omega)]
  simp only [Option.bind_some, List.nil_append]
  rw [beginS d blk key hl hkl]
  simp only [Option.bind_some, Sum.elim_inl, Sum.elim_inr]
  have hkb := small.Q_ key hkl
  rw [SX (Sts blk) (0, 0) (small.kb key) data hd hkb]
  simp only [Option.bind_some]
  obtain ⟨h1, h2, h3⟩ := small.held blk (small.kb key ++ data)
  obtain ⟨t, ht1, ht2⟩ := wouS d blk key last 0 (jG (fun h b c => fS h b c false false) 64 (Sts blk) (0, 0) (small.kb key ++ data)).1 (jG (fun h b c => fS h b c false false) 64 (Sts blk) (0, 0) (small.kb key ++ data)).2.1 (jG (fun h b c => fS h b c false false) 64 (Sts blk) (0, 0) (small.kb key ++ data)).2.2 h1 out
  rw [ht1]
  simp only [Option.bind_some, Option.some.injEq]
  exact ht2
end Go.Sx
namespace Go.Sx
open Go.RowKit
set_option linter.unusedVariables false
set_option linter.unusedSimpArgs false
theorem YG (k d ky fn dp : Int) (lf : UInt32) (off : UInt64) (kR : UInt32) (nd lX : Int) (gp gQ key : List UInt8) (last : Bool) (out : Int) (data : List UInt8) (hc : iT k d ky fn dp lf off kR nd lX gp gQ = some 0) (hkey : key = [] ∨ (key.length : Int) = ky) (hd : data.length ≤ 12000000) :
    ∃ (H : Half) (blk M : List UInt8), H.k = k ∧ lI k d ky fn dp lf off kR nd lX gp gQ key last out data = some (H.ans blk M last out) ∧ Af k d ky fn dp lf off kR nd lX gp gQ key last out data = some (H.ans blk M last out) := by
  obtain ⟨r, h1, h2⟩ := JH k d ky fn dp lf off kR nd lX gp gQ
  rw [hc] at h1
  obtain rfl := Option.some.inj h1
  obtain ⟨he1, he2⟩ := enc_ok k d ky fn dp lf off kR nd lX gp gQ hc
  rcases h2 rfl with ⟨rfl, _, _, h3, hs, hp⟩ | ⟨rfl, _, _, h3, hs, hp⟩
  · have hl : (Uj 1 d ky fn dp lf off kR nd lX gp gQ).length = 64 := by rw [PN _ _ _ _ _ _ _ _ _ _ _ _ (.inl ⟨rfl, hs, hp⟩)]; rfl
    have hkl : key.length ≤ 128 := by
      rcases hkey with rfl | h
      · simp
      · omega
    exact ⟨big, _, _, rfl, whashB d ky fn dp lf off kR nd lX gp gQ key last out data _ he1 hl hkey hkl hd, PQ big d ky fn dp lf off kR nd lX gp gQ key last out data _ hc he2 hl hkey hkl hd⟩
  · have hl : (Uj 2 d ky fn dp lf off kR nd lX gp gQ).length = 32 := by rw [PN _ _ _ _ _ _ _ _ _ _ _ _ (.inr ⟨rfl, hs, hp⟩)]; rfl
    have hkl : key.length ≤ 64 := by
      rcases hkey with rfl | h
      · simp
      · omega
    exact ⟨small, _, _, rfl, whashS d ky fn dp lf off kR nd lX gp gQ key last out data _ he1 hl hkey hkl hd, PQ small d ky fn dp lf off kR nd lX gp gQ key last out data _ hc he2 hl hkey hkl hd⟩
end Go.Sx
namespace Go.Sx
open Go.RowKit
set_option linter.unusedVariables false
set_option linter.unusedSimpArgs false
section
variable {α σ ρ τ : Type}
def yJ (step : σ → α → σ ⊕ ρ) (fin : σ → ρ) : List α → σ → ρ
  | [], s => fin s
  | x :: r, s => match step s x with | .inl s' => yJ step fin r s' | .inr q => q
theorem SY {f : τ → Option (τ ⊕ ρ)} (l : List α) (st : σ → Nat → τ) (step : σ → α → σ ⊕ ρ) (fin : σ → ρ) (I : Nat → σ → Prop)
    (hn : ∀ s i (h : i < l.length), I i s → f (st s i) = some (match step s l[i] with | .inl s' => .inl (st s' (i + 1)) | .inr q => .inr q) ∧ ∀ s', step s l[i] = .inl s' → I (i + 1) s')
    (he : ∀ s, I l.length s → f (st s l.length) = some (.inr (fin s))) (s : σ) (h0 : I 0 s) : aX f (st s 0) = some (yJ step fin l s) := by
  have key : ∀ (m k : Nat) (s : σ), m = l.length - k → k ≤ l.length → I k s → aX f (st s k) = some (yJ step fin (l.drop k) s) := by
    intro m
    induction m with
    | zero =>
      intro k s hm hk hi
      obtain rfl : k = l.length := by omega
      rw [List.drop_length]
      exact tN (he s hi)
    | succ m ih =>
      intro k s hm hk hi
      have hlt : k < l.length := by omega
      obtain ⟨h1, h2⟩ := hn s k hlt hi
      rw [List.drop_eq_getElem_cons hlt, yJ]
      cases hs : step s l[k] with
      | inl s' =>
        rw [hs] at h1
        rw [tK h1]
        exact ih (k + 1) s' (by omega) (by omega) (h2 s' hs)
      | inr q =>
        rw [hs] at h1
        exact tN h1
  exact key _ 0 s rfl (Nat.zero_le _) h0
end
def oU (s : List UInt8) : Bool := decide (1 ≤ s.length ∧ s.length ≤ 64) && s.all (fun c => !(decide (c < 33) || decide ((126 : UInt8) < c)))
theorem PR (p : UInt8 → Bool) : ∀ l : List UInt8, yJ (fun (_ : Unit) c => if p c = true then .inr false else .inl ()) (fun _ => true) l () = l.all (fun c => !p c)
  | [] => rfl
  | c :: r => by
    unfold yJ
    by_cases h : p c = true
    · simp [h]
    · simp only [h, if_false, Bool.false_eq_true]
      rw [PR p r]
      simp [h]
theorem named_ok (s : List UInt8) (hs : s.length ≤ 16000000) : lu s = some (oU s) := by
  unfold lu oU
  by_cases h : ((decide ((s.length : Int) < 1)) || (decide (64 < (s.length : Int)))) = true
  · rw [if_pos h]
    simp only [Bool.or_eq_true, decide_eq_true_eq] at h
    rw [decide_eq_false (by omega)]
    rfl
  · rw [if_neg h]
    simp only [Bool.or_eq_true, decide_eq_true_eq, not_or] at h
    rw [decide_eq_true (by omega), Bool.true_and, ← PR (fun c => decide (c < 33) || decide ((126 : UInt8) < c))]
    refine SY (f := mP s) s (fun (_ : Unit) i => (i : Int)) _ _ (fun _ _ => True) (fun _ i hi _ => ⟨?_, fun _ _ => trivial⟩) (fun _ _ => ?_) () trivial
    · unfold mP
      rw [if_pos (by omega), dF hi]
      simp only [Option.bind_some, gif]
      by_cases h1 : s[i] < 33
      · simp [h1]
      · simp only [h1, decide_false, Bool.not_false, if_true, Option.bind_some, Bool.false_or, decide_eq_true_eq]
        by_cases h2 : (126 : UInt8) < s[i]
        · simp [h2]
        · simp only [h2, if_false]
          rw [lF i (by omega)]
    · unfold mP
      rw [if_neg (by omega)]
      rfl
noncomputable def xn (sz : Nat) (b : List UInt8) : List UInt8 := ((lI 1 sz 0 1 1 0 0 0 0 0 [] [] [] false sz b).getD ([], 0)).1
theorem chkD (sz : Nat) (h1 : 1 ≤ sz) (h2 : sz ≤ 64) : iT 1 (sz : Int) 0 1 1 0 0 0 0 0 [] [] = some 0 := by
  unfold iT
  rw [show o6 1 = some 64 from rfl]
  simp only [Option.bind_some]
  rw [if_neg (by decide), if_neg (by simp only [Bool.or_eq_true, decide_eq_true_eq]; omega)]
  rfl
theorem Ce (sz : Nat) (h1 : 1 ≤ sz) (h2 : sz ≤ 64) (b : List UInt8) (hb : b.length ≤ 12000000) :
    lI 1 sz 0 1 1 0 0 0 0 0 [] [] [] false sz b = some (xn sz b, 0) ∧ Af 1 sz 0 1 1 0 0 0 0 0 [] [] [] false sz b = some (xn sz b, 0) ∧ (xn sz b).length = sz := by
  obtain ⟨H, blk, M, hk, e1, e2⟩ := YG 1 sz 0 1 1 0 0 0 0 0 [] [] [] false sz b (chkD sz h1 h2) (.inl rfl) hb
  have hS : H.S = 64 := by rcases H.hk with ⟨_, _, h⟩ | ⟨h, _, _⟩ <;> omega
  have ha : H.ans blk M false sz = ((H.hash blk M false).take sz, 0) := by
    unfold Half.ans
    rw [if_neg (by omega), Int.toNat_natCast]
  have hd : xn sz b = (H.hash blk M false).take sz := by unfold xn; rw [e1, ha]; rfl
  rw [e1, e2, ha, hd]
  refine ⟨rfl, rfl, ?_⟩
  rw [List.length_take, H.PO, hS]
  omega
theorem Um (sz : Nat) (h1 : 1 ≤ sz) (h2 : sz ≤ 64) (C : Mp (List UInt8)) (S : Mp (Mp (Int × List UInt8))) (b : List UInt8) (hb : b.length ≤ 12000000) : lJ sz C S b = some (xn sz b, (sz : Int)) := by
  unfold lJ
  rw [(Ce sz h1 h2 b hb).1]
  rfl
abbrev Fi := List UInt8 × List UInt8
theorem Un (b : List UInt8) (h : b.length ≤ 16000000) : uX b = some b := by
  unfold uX
  rw [mW (by simp; omega)]
  simp
theorem PS (l : List Fi) (hl : l.length ≤ 16000000) (hd : ∀ f ∈ l, f.2.length ≤ 16000000) : uj l = some (l, l) := by
  unfold uj
  refine dm (fun i => (l.take i, l.take i, (i : Int))) l.length (fun i hi => ?_) ?_
  · unfold qG
    simp only []
    rw [if_pos (by omega), dF hi]
    simp only [Option.bind_some]
    rw [Un _ (hd _ (List.getElem_mem hi))]
    simp only [Option.bind_some]
    rw [mW (by simp; omega)]
    simp only [Option.bind_some]
    rw [lF i (by omega), List.take_add_one, List.getElem?_eq_getElem hi]
    rfl
  · unfold qG
    simp only []
    rw [if_neg (by omega), List.take_length]
    rfl
end Go.Sx
namespace Go.Sx
open Go.RowKit
set_option linter.unusedVariables false
set_option linter.unusedSimpArgs false
section
variable {α σ ρ ρ' : Type}
theorem FZ {step : σ → α → σ ⊕ ρ} {fin : σ → ρ} (g : ρ → ρ') : ∀ (l : List α) (s : σ), g (yJ step fin l s) = yJ (fun s x => Sum.map id g (step s x)) (fun s => g (fin s)) l s
  | [], s => rfl
  | x :: r, s => by
    unfold yJ
    cases step s x with
    | inl a => exact FZ g r a
    | inr q => rfl
end
abbrev Ch := Mp (List UInt8)
abbrev Gg := Mp (Int × List UInt8)
abbrev Sn := Mp (Mp (Int × List UInt8))
def PT (s : Mp Int × Nat) (f : Fi) : (Mp Int × Nat) ⊕ Option Int :=
  if oU f.1 = false then .inr (some 214) else if (aK s.1 f.1).isSome = true then .inr (some 213) else .inl (dD s.1 f.1 s.2, s.2 + 1)
def PU (l : List Fi) : Option Int := yJ PT (fun _ => none) l ([], 0)
noncomputable def JI (sz : Nat) (C : Ch) (s : Ch × List UInt8) (c : List UInt8) : (Ch × List UInt8) ⊕ Option (Ch × List UInt8) :=
  match (aK C (xn sz c)).or (aK s.1 (xn sz c)) with
  | some o => if o ≠ c then .inr none else .inl (dD s.1 (xn sz c) c, s.2 ++ xn sz c)
  | none => .inl (dD s.1 (xn sz c) c, s.2 ++ xn sz c)
noncomputable def Xh (sz : Nat) (C : Ch) (l : List (List UInt8)) (m : Ch) : Option (Ch × List UInt8) := yJ (JI sz C) some l (m, [])
noncomputable def S9 (sz : Nat) (C : Ch) (s : Ch × Gg) (f : Fi) : (Ch × Gg) ⊕ Option (Ch × Gg) :=
  match Xh sz C (cut f.2 [] 0) s.1 with
  | none => .inr none
  | some p => .inl (p.1, dD s.2 f.1 ((f.2.length : Int), p.2))
noncomputable def keepA (sz : Nat) (C : Ch) (l : List Fi) : Option (Ch × Gg) := yJ (S9 sz C) some l ([], [])
def xG (C m : Ch) : Ch := m.foldl (fun c p => dD c p.1 p.2) C
noncomputable def Il (sz : Nat) (C : Ch) (S : Sn) (snap : List UInt8) (l : List Fi) : Int × Ch × Sn :=
  match aK S snap with
  | some _ => (if oU snap = true then 213 else 214, C, S)
  | none => if oU snap = false then (214, C, S) else if 64 ≤ S.length ∨ 256 < l.length then (2, C, S) else
    match PU l with
    | some e => (e, C, S)
    | none => match keepA sz C l with
      | none => (271, C, S)
      | some p => (0, xG C p.1, dD S snap p.2)
noncomputable def g2 (sz : Nat) (C : Ch) (S : Sn) (md : Gg) (i : Nat) (f : Fi) : Option (Ch × List UInt8) → (Int × Ch × Gg × Int) ⊕ (Int × Int × Ch × Sn)
  | none => .inr (271, (sz : Int), C, S)
  | some p => .inl ((sz : Int), p.1, dD md f.1 ((f.2.length : Int), p.2), ((i + 1 : Nat) : Int))
def g1 (sz : Nat) (C : Ch) (S : Sn) (snap : List UInt8) : Option (Ch × Gg) → Int × Int × Ch × Sn
  | none => (271, (sz : Int), C, S)
  | some p => (0, (sz : Int), xG C p.1, dD S snap p.2)
noncomputable def g0 (sz : Nat) (C : Ch) (S : Sn) (snap : List UInt8) (l : List Fi) : Option Int → Int × Int × Ch × Sn
  | some e => (e, (sz : Int), C, S)
  | none => g1 sz C S snap (keepA sz C l)
theorem YH (m : Ch) : ∀ C : Ch, lG iW C m = some (xG C m) := by
  induction m with
  | nil => intro C; rfl
  | cons p r ih =>
    intro C
    obtain ⟨k, v⟩ := p
    simp only [lG, iW, Option.bind_some]
    exact ih _
theorem l2_ok (sz : Nat) (h1 : 1 ≤ sz) (h2 : sz ≤ 64) (C : Ch) (S : Sn) (md : Gg) (i : Nat) (f : Fi) (hf : f.2.length ≤ 1048576) (m : Ch) (hi : i ≤ 1000000) :
    aX (iV C S md (i : Int) f (cut f.2 [] 0, 0)) ((sz : Int), m, ([] : List UInt8), (0 : Int)) =
      some (g2 sz C S md i f (Xh sz C (cut f.2 [] 0) m)) := by
  have hc := CX f.2
  have hb := tu f.2 [] 0 (by simp)
  unfold Xh
  rw [FZ (g2 sz C S md i f)]
  refine SY (f := iV C S md (i : Int) f (cut f.2 [] 0, 0)) (cut f.2 [] 0) (fun (s : Ch × List UInt8) k => ((sz : Int), s.1, s.2, (k : Int))) _ _ (fun k s => s.2.length = k * sz) (fun s k hk hI => ?_) (fun s hI => ?_) (m, []) (by simp)
  · have hx := (hb _ (List.getElem_mem hk)).2
    have hdl := (Ce sz h1 h2 (cut f.2 [] 0)[k] (by omega)).2.2
    unfold iV
    simp only []
    rw [if_pos (by omega), dF hk]
    simp only [Option.bind_some]
    rw [Um sz h1 h2 C S _ (by omega)]
    simp only [Option.bind_some]
    have Xi : s.2.length + (xn sz (cut f.2 [] 0)[k]).length ≤ 9223372036854775807 := by
      rw [hI, hdl]
      have : k * sz ≤ 1048576 * 64 := Nat.mul_le_mul (by omega) h2
      omega
    unfold JI
    constructor
    · cases hC : aK C (xn sz (cut f.2 [] 0)[k]) with
      | some o =>
        simp only [Option.elim_some, Option.some_or]
        unfold nT
        by_cases ho : o ≠ (cut f.2 [] 0)[k]
        · rw [if_pos ho, if_pos ho]; rfl
        · rw [if_neg ho, if_neg ho, nP Xi]
          simp only [Option.bind_some]
          unfold iU
          rw [lF k (by omega)]; try rfl
      | none =>
        simp only [Option.elim_none, Option.none_or]
        cases hm : aK s.1 (xn sz (cut f.2 [] 0)[k]) with
        | some o =>
          simp only [Option.elim_some]
          unfold jJ
          by_cases ho : o ≠ (cut f.2 [] 0)[k]
          · rw [if_pos (by simpa using ho), if_pos ho]; rfl
          · rw [if_neg (by simpa using ho), if_neg ho, nP Xi]
            simp only [Option.bind_some]
            unfold iU
            rw [lF k (by omega)]; try rfl
        | none =>
          simp only [Option.elim_none]
          unfold jJ
          rw [if_neg (by simp), nP Xi]
          simp only [Option.bind_some]
          unfold iU
          rw [lF k (by omega)]; try rfl
    · have hlen : (s.2 ++ xn sz (cut f.2 [] 0)[k]).length = (k + 1) * sz := by rw [List.length_append, hI, hdl, Nat.succ_mul]
      intro s' hs'
      generalize (aK C (xn sz (cut f.2 [] 0)[k])).or (aK s.1 (xn sz (cut f.2 [] 0)[k])) = o at hs'
      cases o with
      | none =>
        obtain rfl := Sum.inl.inj hs'
        exact hlen
      | some o =>
        simp only [] at hs'
        by_cases ho : o ≠ (cut f.2 [] 0)[k]
        · rw [if_pos ho] at hs'; cases hs'
        · rw [if_neg ho] at hs'
          obtain rfl := Sum.inl.inj hs'
          exact hlen
  · unfold iV
    simp only []
    rw [if_neg (by omega), lF i (by omega)]
    rfl
theorem l1_ok (sz : Nat) (h1 : 1 ≤ sz) (h2 : sz ≤ 64) (C : Ch) (S : Sn) (snap : List UInt8) (l : List Fi) (hl : l.length ≤ 256) (hd : ∀ f ∈ l, f.2.length ≤ 1048576) :
    aX (iY C S snap l) ((sz : Int), ([] : Ch), ([] : Gg), (0 : Int)) =
      some (g1 sz C S snap (keepA sz C l)) := by
  unfold keepA
  rw [FZ (g1 sz C S snap)]
  refine SY (f := iY C S snap l) l (fun (s : Ch × Gg) k => ((sz : Int), s.1, s.2, (k : Int))) _ _ (fun _ _ => True) (fun s k hk _ => ⟨?_, fun _ _ => trivial⟩) (fun s _ => ?_) ([], []) trivial
  · have hx := hd _ (List.getElem_mem hk)
    unfold iY
    simp only []
    rw [if_pos (by omega), dF hk]
    simp only [Option.bind_some]
    rw [JG _ hx]
    simp only [Option.bind_some]
    rw [l2_ok sz h1 h2 C S s.2 k l[k] hx s.1 (by omega)]
    unfold S9
    cases Xh sz C (cut l[k].2 [] 0) s.1 <;> rfl
  · unfold iY
    simp only []
    rw [if_neg (by omega), YH]
    rfl
theorem Xj (sz : Nat) (h1 : 1 ≤ sz) (h2 : sz ≤ 64) (C : Ch) (S : Sn) (snap : List UInt8) (l : List Fi) (hsn : snap.length ≤ 16000000) (hd : ∀ f ∈ l, f.1.length ≤ 16000000 ∧ f.2.length ≤ 1048576) :
    kS sz C S snap l = some ((Il sz C S snap l).1, (sz : Int), (Il sz C S snap l).2.1, (Il sz C S snap l).2.2) := by
  unfold kS cZ Il
  simp only [Option.bind_some]
  rw [named_ok snap hsn]
  cases hS : aK S snap with
  | some x =>
    simp only [Option.elim_some, Option.bind_some]
    cases hn : oU snap <;> rfl
  | none =>
    simp only [Option.elim_none, Option.bind_some]
    cases hn : oU snap with
    | false => rfl
    | true =>
      simp only [Bool.not_true, Bool.false_eq_true, if_false, Bool.true_eq_false]
      by_cases hw : 64 ≤ S.length ∨ 256 < l.length
      · rw [if_pos hw, if_pos (by simp only [Bool.or_eq_true, decide_eq_true_eq]; omega)]
      rw [if_neg hw, if_neg (by simp only [Bool.or_eq_true, decide_eq_true_eq]; omega)]
      simp only [not_or, Nat.not_le, Nat.not_lt] at hw
      have hw1 := l1_ok sz h1 h2 C S snap l hw.2 (fun f hf => (hd f hf).2)
      have key : aX (iZ C S snap l (sz : Int)) (([] : Mp Int), (0 : Int)) = some (g0 sz C S snap l (PU l)) := by
        unfold PU
        rw [FZ (g0 sz C S snap l)]
        refine SY (f := iZ C S snap l (sz : Int)) l (fun (s : Mp Int × Nat) k => (s.1, (k : Int))) _ _ (fun k s => s.2 = k) (fun s k hk hI => ?_) (fun s _ => ?_) ([], 0) rfl
        · have hx := hd _ (List.getElem_mem hk)
          unfold iZ PT
          simp only []
          rw [if_pos (by omega), dF hk]
          simp only [Option.bind_some]
          rw [named_ok _ hx.1]
          simp only [Option.bind_some]
          constructor
          · cases hnn : oU l[k].1 with
            | false => rfl
            | true =>
              simp only [Bool.not_true, Bool.false_eq_true, if_false, Bool.true_eq_false]
              rw [if_neg (by omega)]
              by_cases hf : (aK s.1 l[k].1).isSome = true
              · rw [if_pos hf, if_pos hf]; rfl
              · rw [if_neg hf, if_neg hf, lF k (by omega), hI]; try rfl
          · intro s' hs'
            cases hnn : oU l[k].1 with
            | false => rw [hnn] at hs'; cases hs'
            | true =>
              rw [hnn] at hs'
              simp only [Bool.true_eq_false, if_false] at hs'
              by_cases hf : (aK s.1 l[k].1).isSome = true
              · rw [if_pos hf] at hs'; cases hs'
              · rw [if_neg hf] at hs'
                obtain rfl := Sum.inl.inj hs'
                show s.2 + 1 = k + 1
                omega
        · unfold iZ
          simp only []
          rw [if_neg (by omega), hw1]
          rfl
      rw [key]
      cases PU l with
      | some e => rfl
      | none =>
        simp only [g0]
        cases keepA sz C l <;> rfl
end Go.Sx
namespace Go.Sx
set_option linter.unusedVariables false
set_option linter.unusedSimpArgs false
def NN (x : Nat) : Prop := x % 9223372036854775808 ≤ 9218868437227405312
instance (x : Nat) : Decidable (NN x) := inferInstanceAs (Decidable (_ ≤ _))
def Num (x : Nat) : Prop := x % 9223372036854775808 < 9218868437227405312
instance (x : Nat) : Decidable (Num x) := inferInstanceAs (Decidable (_ < _))
end Go.Sx
namespace Go.Sx
open Go.RowKit
set_option linter.unusedVariables false
set_option linter.unusedSimpArgs false
section
variable {δ : Type}
theorem wB (k : Ky) (v : δ) : ∀ m : Mp δ, aK (dD m k v) k = some v
  | [] => by simp [dD, aK]
  | p :: r => by
    unfold dD
    by_cases h1 : k = p.1
    · rw [if_pos h1]; simp [aK]
    · rw [if_neg h1]
      by_cases h2 : k < p.1
      · rw [if_pos h2]; simp [aK]
      · rw [if_neg h2, aK, if_neg (fun e => h1 e.symm), wB k v r]
theorem xW (k k' : Ky) (v : δ) (m : Mp δ) : aK (dD m k v) k' = if k = k' then some v else aK m k' := by
  by_cases h : k = k'
  · rw [if_pos h, ← h, wB]
  · rw [if_neg h, wo h]
theorem Cf (k : Ky) (v : δ) : ∀ m : Mp δ, (dD m k v).length ≤ m.length + 1
  | [] => by simp [dD]
  | p :: r => by
    unfold dD
    split
    · simp
    · split
      · simp
      · have := Cf k v r
        simp only [List.length_cons]; omega
theorem JJ {k : Ky} {v : δ} {q : Ky × δ} : ∀ {m : Mp δ}, q ∈ dD m k v → q = (k, v) ∨ q ∈ m
  | [], h => .inl (by simpa [dD] using h)
  | p :: r, h => by
    unfold dD at h
    split at h
    · rcases List.mem_cons.1 h with h | h
      · exact .inl h
      · exact .inr (List.mem_cons_of_mem _ h)
    · split at h
      · rcases List.mem_cons.1 h with h | h
        · exact .inl h
        · exact .inr h
      · rcases List.mem_cons.1 h with h | h
        · exact .inr (h ▸ List.mem_cons_self)
        · rcases JJ h with h | h
          · exact .inl h
          · exact .inr (List.mem_cons_of_mem _ h)
theorem Lu (m : Mp (List UInt8)) (k : Ky) : ∀ C : Ch, (m.map (·.1)).Nodup → aK (xG C m) k = (aK m k).or (aK C k) := by
  induction m with
  | nil => intro C _; rfl
  | cons p r ih =>
    intro C hn
    rw [List.map_cons, List.nodup_cons] at hn
    show aK (xG (dD C p.1 p.2) r) k = _
    rw [ih _ hn.2, xW]
    rw [aK]
    by_cases h : p.1 = k
    · rw [if_pos h, if_pos h, sV.2 (h ▸ hn.1)]; rfl
    · rw [if_neg h, if_neg h]
theorem PV (m : Ch) : ∀ C : Ch, pq C → pq (xG C m) := by
  induction m with
  | nil => intro C h; exact h
  | cons p r ih => intro C h; exact ih _ (h.dD _ _)
end
theorem PW {sz : Nat} {s : Ch × List UInt8} {c : List UInt8} {s' : Ch × List UInt8} {C : Ch} (h : JI sz C s c = .inl s') : s' = (dD s.1 (xn sz c) c, s.2 ++ xn sz c) ∧ ∀ o, aK C (xn sz c) = none → aK s.1 (xn sz c) = some o → o = c := by
  unfold JI at h
  cases hC : aK C (xn sz c) with
  | some o =>
    rw [hC] at h
    simp only [Option.some_or] at h
    by_cases ho : o ≠ c
    · rw [if_pos ho] at h; cases h
    · rw [if_neg ho] at h
      exact ⟨(Sum.inl.inj h).symm, fun _ e => by cases e⟩
  | none =>
    rw [hC] at h
    simp only [Option.none_or] at h
    cases hm : aK s.1 (xn sz c) with
    | none =>
      rw [hm] at h
      exact ⟨(Sum.inl.inj h).symm, fun _ _ e => by cases e⟩
    | some o =>
      rw [hm] at h
      simp only [] at h
      by_cases ho : o ≠ c
      · rw [if_pos ho] at h; cases h
      · rw [if_neg ho] at h
        exact ⟨(Sum.inl.inj h).symm, fun o' _ e => by cases e; exact Classical.not_not.1 ho⟩
def sizes (m : Gg) : Int := (m.map (fun p => p.2.1)).sum
theorem LC : ∀ (l : List Fi) (m : Mp Int) (j : Nat), yJ PT (fun _ => (none : Option Int)) l (m, j) = none → (l.map (·.1)).Nodup ∧ ∀ f ∈ l, aK m f.1 = none
  | [], _, _, _ => ⟨List.nodup_nil, fun f hf => by cases hf⟩
  | f :: l, m, j, h => by
    unfold yJ PT at h
    by_cases h1 : oU f.1 = false
    · rw [if_pos h1] at h; cases h
    rw [if_neg h1] at h
    by_cases h2 : (aK m f.1).isSome = true
    · rw [if_pos h2] at h; cases h
    rw [if_neg h2] at h
    obtain ⟨h3, h4⟩ := LC l _ _ h
    have h5 : aK m f.1 = none := by simpa using h2
    have h6 : ∀ g ∈ l, f.1 ≠ g.1 ∧ aK m g.1 = none := fun g hg => by
      have h7 := h4 g hg
      rw [xW] at h7
      by_cases h8 : f.1 = g.1
      · rw [if_pos h8] at h7; cases h7
      · rw [if_neg h8] at h7; exact ⟨h8, h7⟩
    refine ⟨?_, fun g hg => ?_⟩
    · rw [List.map_cons, List.nodup_cons]
      refine ⟨fun hc => ?_, h3⟩
      obtain ⟨g, hg, he⟩ := List.mem_map.1 hc
      exact (h6 g hg).1 he.symm
    · rcases List.mem_cons.1 hg with rfl | hg
      · exact h5
      · exact (h6 g hg).2
end Go.Sx
namespace Go.Sx
open Go.RowKit
set_option linter.unusedVariables false
set_option linter.unusedSimpArgs false
def Io : Nat → Nat → List UInt8
  | 0, _ => []
  | k + 1, n => UInt8.ofNat n :: Io k (n / 256)
def vF : List UInt8 → Nat
  | [] => 0
  | b :: r => b.toNat + 256 * vF r
theorem fJ : ∀ k n, (Io k n).length = k
  | 0, _ => rfl
  | k + 1, n => by simp [Io, fJ k]
theorem yK : ∀ k n, n < 256 ^ k → vF (Io k n) = n
  | 0, n, h => by simp at h; subst h; rfl
  | k + 1, n, h => by
    rw [Nat.pow_succ] at h
    simp only [Io, vF, UInt8.toNat_ofNat']
    rw [yK k (n / 256) (by omega)]
    omega
theorem PX : ∀ a b : List UInt8, vF (a ++ b) = vF a + 256 ^ a.length * vF b
  | [], b => by simp [vF]
  | x :: a, b => by
    simp only [List.cons_append, vF, PX a b, List.length_cons, Nat.pow_succ, Nat.mul_add, Nat.add_assoc]
    congr 2
    rw [← Nat.mul_assoc, Nat.mul_comm 256]
theorem S_ : ∀ a : List UInt8, vF a < 256 ^ a.length
  | [] => by simp [vF]
  | x :: a => by
    have := S_ a
    have := x.toNat_lt
    simp only [vF, List.length_cons, Nat.pow_succ]
    omega
theorem JK (n : Nat) : UInt8.ofInt (n : Int) = UInt8.ofNat n := by
  apply UInt8.toNat_inj.1
  simp [UInt8.ofInt]
  omega
theorem Ci (n : Nat) (h : n < 4294967296) : mg (n : Int) = some (Io 4 n) := by
  unfold mg uZ
  simp only [Option.bind_some, Option.some.injEq]
  have hw : (UInt32.ofInt (n : Int)).toNat = n := by simp [UInt32.ofInt]; omega
  have hs : ∀ k, (iH (UInt32.ofInt (n : Int)) k).toNat = n / 2 ^ k := fun k => by
    show ((UInt32.ofInt (n : Int)).toBitVec >>> k).toNat = _
    rw [BitVec.toNat_ushiftRight, Nat.shiftRight_eq_div_pow]
    congr 1
  rw [hs, hs, hs, hw]
  simp only [Io]
  have e1 : n / 2 ^ (8 : UInt64).toNat = n / 256 := rfl
  have e2 : n / 2 ^ (16 : UInt64).toNat = n / 256 / 256 := by rw [Nat.div_div_eq_div_mul]; rfl
  have e3 : n / 2 ^ (24 : UInt64).toNat = n / 256 / 256 / 256 := by rw [Nat.div_div_eq_div_mul, Nat.div_div_eq_div_mul]; rfl
  rw [e1, e2, e3]
theorem YI (n : Nat) (h : n < 65536) : ([UInt8.ofInt (n : Int), UInt8.ofInt (J4 .i64 (n : Int) ((8 : UInt64).toNat))] : List UInt8) = Io 2 n := by
  have : J4 .i64 (n : Int) ((8 : UInt64).toNat) = ((n / 256 : Nat) : Int) := by
    show (n : Int).fdiv (2 ^ (min 8 64)) = _
    rw [show (2 : Int) ^ (min 8 64) = 256 from rfl, Int.fdiv_eq_ediv_of_nonneg _ (by omega)]
    omega
  rw [this, JK, JK]
  rfl
theorem YJ (n c i : Nat) (hn : n < 256 ^ i) (hc : c < 256) (hi : i ≤ 3) : YQ .i64 (n : Int) (LQ .i64 (c : Int) (8 * i)) = ((n + 256 ^ i * c : Nat) : Int) := by
  have hp : (256 : Nat) ^ i = 2 ^ (8 * i) := by rw [Nat.pow_mul]
  have hb : 256 ^ i ≤ 16777216 := Nat.pow_le_pow_right (n := 256) (by decide) hi
  have h1 : LQ .i64 (c : Int) (8 * i) = ((c * 256 ^ i : Nat) : Int) := by
    unfold LQ
    have hm : min (8 * i) IntKind.i64.bits = 8 * i := Nat.min_eq_left (by show 8 * i ≤ 64; omega)
    rw [hm]
    have : (c : Int) * 2 ^ (8 * i) = ((c * 256 ^ i : Nat) : Int) := by rw [hp]; push_cast; rfl
    rw [this]
    show aI _ = _
    have : c * 256 ^ i ≤ 255 * 16777216 := Nat.mul_le_mul (by omega) hb
    rw [fP (by omega)]
  rw [h1]
  unfold YQ
  have e : (BitVec.ofInt IntKind.i64.bits (n : Int) ||| BitVec.ofInt IntKind.i64.bits ((c * 256 ^ i : Nat) : Int)).toNat = n + 256 ^ i * c := by
    have hc2 : c * 256 ^ i ≤ 255 * 16777216 := Nat.mul_le_mul (by omega) hb
    show (BitVec.ofInt 64 (n : Int) ||| BitVec.ofInt 64 ((c * 256 ^ i : Nat) : Int)).toNat = _
    rw [BitVec.toNat_or, BitVec.ofInt_natCast, BitVec.ofInt_natCast, BitVec.toNat_ofNat, BitVec.toNat_ofNat, Nat.mod_eq_of_lt (by omega), Nat.mod_eq_of_lt (by omega), Nat.or_comm]
    have h2 := Nat.shiftLeft_add_eq_or_of_lt (b := n) (i := 8 * i) (hp ▸ hn) c
    rw [Nat.shiftLeft_eq, ← hp] at h2
    rw [← h2, Nat.mul_comm, Nat.add_comm]
  rw [e]
  show aI _ = _
  have hc2 : 256 ^ i * c ≤ 16777216 * 255 := Nat.mul_le_mul hb (by omega)
  rw [fP (by omega)]
theorem Xk (bs rest : List UInt8) (sh wr : Bool) (h : bs.length ≤ 4) : aX (jw (bs, rest, sh, wr)) ((0 : Int), (0 : Int)) = some ((vF bs : Int), rest, sh, wr) := by
  refine dm (fun i => ((vF (bs.take i) : Int), (i : Int))) bs.length (fun i hi => ?_) ?_
  · unfold jw
    simp only []
    rw [if_pos (by omega), dF hi]
    simp only [Option.bind_some]
    have e : aI (8 * (i : Int)) = ((8 * i : Nat) : Int) := by rw [fP (by omega)]; omega
    rw [e, nP (by omega)]
    simp only [Option.bind_some, Int.toNat_natCast]
    have hl : (bs.take i).length = i := by rw [List.length_take]; omega
    have hv := S_ (bs.take i)
    rw [hl] at hv
    rw [YJ _ _ i hv bs[i].toNat_lt (by omega), lF i (by omega)]
    rw [List.take_add_one, List.getElem?_eq_getElem hi, PX, hl]
    simp [vF]
  · unfold jw
    simp only []
    rw [if_neg (by omega), List.take_length]
    rfl
end Go.Sx
namespace Go.Sx
open Go.RowKit
set_option linter.unusedVariables false
set_option linter.unusedSimpArgs false
def JY (p : Ky × List UInt8) : List UInt8 := Io 2 p.2.length ++ p.2
def JZ (sz : Nat) (p : Ky × (Int × List UInt8)) : List UInt8 := [UInt8.ofNat p.1.length] ++ p.1 ++ Io 4 p.2.1.toNat ++ Io 4 (p.2.2.length / sz) ++ p.2.2
def J3 (sz : Nat) (p : Ky × Mp (Int × List UInt8)) : List UInt8 := [UInt8.ofNat p.1.length] ++ p.1 ++ Io 4 p.2.length ++ (p.2.map (JZ sz)).flatten
def Cj (sz : Nat) (C : Ch) (S : Sn) : List UInt8 := [68, 81, 1, UInt8.ofNat sz] ++ Io 4 C.length ++ (C.map JY).flatten ++ Io 4 S.length ++ (S.map (J3 sz)).flatten
theorem JL {δ : Type} {m : Mp δ} (h : pq m) : xq (m.map (·.1)) = m.map (·.1) := by
  unfold xq
  refine List.mergeSort_of_pairwise ?_
  unfold pq at h
  exact h.imp fun hab => decide_eq_true (List.le_of_lt hab)
theorem C9 {α : Type} (f : α → List UInt8) (l : List α) (i : Nat) (h : i < l.length) : ((l.take (i + 1)).map f).flatten = ((l.take i).map f).flatten ++ f l[i] := by
  rw [List.take_add_one, List.getElem?_eq_getElem h, Option.toList_some, List.map_append, List.flatten_append]
  simp only [List.map_cons, List.map_nil, List.flatten_cons, List.flatten_nil, List.append_nil]
theorem Rf {α : Type} (f : α → List UInt8) (l : List α) (i : Nat) : ((l.take i).map f).flatten.length ≤ (l.map f).flatten.length := by
  have h : l.map f = (l.take i).map f ++ (l.drop i).map f := by rw [← List.map_append, List.take_append_drop]
  have h2 := congrArg (fun x => x.flatten.length) h
  simp only [List.flatten_append, List.length_append] at h2
  omega
theorem Og {δ : Type} {m : Mp δ} (h : pq m) (i : Nat) (hi : i < m.length) : aK m m[i].1 = some m[i].2 := iM h.nodup (List.getElem_mem hi)
structure OkE (sz : Nat) (m : Gg) : Prop where
  xq : pq m
  len : m.length ≤ 1000000
  name : ∀ p ∈ m, 1 ≤ p.1.length ∧ p.1.length ≤ 64
  size : ∀ p ∈ m, 0 ≤ p.2.1 ∧ p.2.1 ≤ 1048576
  Uo : ∀ p ∈ m, p.2.2.length ≤ 1000000000
theorem app1 {a b : List UInt8} (h : a.length + b.length ≤ 100000000000000) : app a b 1 = some (a ++ b) := mW (by omega)
theorem YK (sz : Nat) (h1 : 1 ≤ sz) (x3 : Nat) (hx3 : x3 ≤ 1000000) (m : Gg) (hm : OkE sz m) (b : List UInt8) (hb : b.length + (m.map (JZ sz)).flatten.length ≤ 100000000000000) :
    aX (jo (sz : Int) (x3 : Int) m (m.map (·.1))) (b, (0 : Int)) = some (.inl (b ++ (m.map (JZ sz)).flatten, ((x3 + 1 : Nat) : Int))) := by
  have h0 : (b, (0 : Int)) = (b ++ ((m.take 0).map (JZ sz)).flatten, ((0 : Nat) : Int)) := by simp
  rw [h0]
  refine dm (fun i => (b ++ ((m.take i).map (JZ sz)).flatten, (i : Int))) m.length (fun i hi => ?_) ?_
  · have hlen := hm.len
    have hnm := hm.name _ (List.getElem_mem hi)
    have hsz := hm.size _ (List.getElem_mem hi)
    have hdg := hm.Uo _ (List.getElem_mem hi)
    have hk : i < (m.map (·.1)).length := by rw [List.length_map]; exact hi
    have hf := Og hm.xq i hi
    have ht := Rf (JZ sz) m (i + 1)
    rw [C9 (JZ sz) m i hi, List.length_append] at ht
    have he : (JZ sz m[i]).length = 1 + m[i].1.length + 4 + 4 + m[i].2.2.length := by simp [JZ, fJ]; omega
    unfold jo
    simp only []
    rw [if_pos (by rw [List.length_map]; omega), dF hk]
    simp only [Option.bind_some, List.getElem_map]
    rw [app1 (by simp only [List.length_append, List.length_cons, List.length_nil]; omega)]
    simp only [Option.bind_some]
    rw [app1 (by simp only [List.length_append, List.length_cons, List.length_nil]; omega)]
    simp only [Option.bind_some, hf, Option.getD_some]
    obtain ⟨q, hq⟩ : ∃ q : Nat, m[i].2.1 = (q : Int) := ⟨m[i].2.1.toNat, by omega⟩
    rw [hq, Ci q (by omega)]
    simp only [Option.bind_some]
    rw [app1 (by simp only [List.length_append, List.length_cons, List.length_nil, fJ]; omega)]
    simp only [Option.bind_some]
    rw [nP (by omega)]
    simp only [Option.bind_some]
    have hdv : aI (Int.tdiv (m[i].2.2.length : Int) (sz : Int)) = ((m[i].2.2.length / sz : Nat) : Int) := by
      have h2 : m[i].2.2.length / sz ≤ m[i].2.2.length := Nat.div_le_self _ _
      rw [show Int.tdiv (m[i].2.2.length : Int) (sz : Int) = ((m[i].2.2.length / sz : Nat) : Int) from rfl]
      generalize m[i].2.2.length / sz = z at h2 ⊢
      exact fP (by omega)
    have hdl : m[i].2.2.length / sz ≤ m[i].2.2.length := Nat.div_le_self _ _
    rw [hdv, Ci _ (by omega)]
    simp only [Option.bind_some]
    rw [app1 (by simp only [List.length_append, List.length_cons, List.length_nil, fJ]; omega)]
    simp only [Option.bind_some]
    rw [app1 (by simp only [List.length_append, List.length_cons, List.length_nil, fJ]; omega)]
    simp only [Option.bind_some]
    rw [lF i (by omega), C9 (JZ sz) m i hi, JK]
    simp only [JZ, hq, Int.toNat_natCast, List.append_assoc]
  · unfold jo
    simp only []
    rw [if_neg (by rw [List.length_map]; omega), lF x3 (by omega), List.take_length]
    rfl
structure OkS (sz : Nat) (S : Sn) : Prop where
  xq : pq S
  len : S.length ≤ 1000000
  name : ∀ p ∈ S, 1 ≤ p.1.length ∧ p.1.length ≤ 64
  each : ∀ p ∈ S, OkE sz p.2
theorem YL (sz : Nat) (h1 : 1 ≤ sz) (S : Sn) (hS : OkS sz S) (b : List UInt8) (hb : b.length + (S.map (J3 sz)).flatten.length ≤ 100000000000000) :
    aX (jq S (sz : Int) (S.map (·.1))) (b, (0 : Int)) = some (b ++ (S.map (J3 sz)).flatten, (sz : Int)) := by
  have h0 : (b, (0 : Int)) = (b ++ ((S.take 0).map (J3 sz)).flatten, ((0 : Nat) : Int)) := by simp
  rw [h0]
  refine dm (fun i => (b ++ ((S.take i).map (J3 sz)).flatten, (i : Int))) S.length (fun i hi => ?_) ?_
  · have hlen := hS.len
    have hnm := hS.name _ (List.getElem_mem hi)
    have hE := hS.each _ (List.getElem_mem hi)
    have hEl := hE.len
    have hk : i < (S.map (·.1)).length := by rw [List.length_map]; exact hi
    have hf := Og hS.xq i hi
    have ht := Rf (J3 sz) S (i + 1)
    rw [C9 (J3 sz) S i hi, List.length_append] at ht
    have he : (J3 sz S[i]).length = 1 + S[i].1.length + 4 + (S[i].2.map (JZ sz)).flatten.length := by simp only [J3, fJ, List.length_append, List.length_cons, List.length_nil]
    unfold jq
    simp only []
    rw [if_pos (by rw [List.length_map]; omega), dF hk]
    simp only [Option.bind_some, List.getElem_map]
    rw [app1 (by simp only [List.length_append, List.length_cons, List.length_nil]; omega)]
    simp only [Option.bind_some]
    rw [app1 (by simp only [List.length_append, List.length_cons, List.length_nil]; omega)]
    simp only [Option.bind_some, hf, Option.elim_some]
    rw [Ci _ (by omega)]
    simp only [Option.bind_some]
    rw [app1 (by simp only [List.length_append, List.length_cons, List.length_nil, fJ]; omega)]
    simp only [Option.bind_some]
    unfold lC
    rw [nP (by omega)]
    simp only [Option.bind_some]
    rw [JL hE.xq, YK sz h1 i (by omega) S[i].2 hE _ (by simp only [List.length_append, List.length_cons, List.length_nil, fJ]; omega)]
    rw [C9 (J3 sz) S i hi, JK]
    simp only [J3, List.append_assoc]
  · unfold jq
    simp only []
    rw [if_neg (by rw [List.length_map]; omega), List.take_length]
    rfl
structure OkC (C : Ch) : Prop where
  xq : pq C
  len : C.length ≤ 1000000000
  each : ∀ p ∈ C, 1 ≤ p.2.length ∧ p.2.length ≤ 1024
theorem YM (sz : Nat) (h1 : 1 ≤ sz) (C : Ch) (hC : OkC C) (S : Sn) (hS : OkS sz S) (b : List UInt8) (hb : b.length + (C.map JY).flatten.length + 4 + (S.map (J3 sz)).flatten.length ≤ 100000000000000) :
    aX (jr C S (sz : Int) (C.map (·.1))) (b, (0 : Int)) = some (b ++ (C.map JY).flatten ++ Io 4 S.length ++ (S.map (J3 sz)).flatten, (sz : Int)) := by
  have h0 : (b, (0 : Int)) = (b ++ ((C.take 0).map JY).flatten, ((0 : Nat) : Int)) := by simp
  rw [h0]
  refine dm (fun i => (b ++ ((C.take i).map JY).flatten, (i : Int))) C.length (fun i hi => ?_) ?_
  · have hlen := hC.len
    have hE := hC.each _ (List.getElem_mem hi)
    have hk : i < (C.map (·.1)).length := by rw [List.length_map]; exact hi
    have hf := Og hC.xq i hi
    have ht := Rf JY C (i + 1)
    rw [C9 JY C i hi, List.length_append] at ht
    have he : (JY C[i]).length = 2 + C[i].2.length := by simp only [JY, fJ, List.length_append]
    unfold jr
    simp only []
    rw [if_pos (by rw [List.length_map]; omega), dF hk]
    simp only [Option.bind_some, List.getElem_map, hf, Option.elim_some]
    rw [YI _ (by omega), app1 (by simp only [List.length_append, fJ]; omega)]
    simp only [Option.bind_some]
    rw [app1 (by simp only [List.length_append, fJ]; omega)]
    simp only [Option.bind_some]
    rw [lF i (by omega), C9 JY C i hi]
    simp only [JY, List.append_assoc]
  · have hSl := hS.len
    unfold jr
    simp only []
    rw [if_neg (by rw [List.length_map]; omega), List.take_length, Ci _ (by omega)]
    simp only [Option.bind_some]
    rw [app1 (by simp only [List.length_append, fJ]; omega)]
    simp only [Option.bind_some]
    unfold dH
    rw [nP (by omega)]
    simp only [Option.bind_some]
    rw [JL hS.xq, YL sz h1 S hS _ (by simp only [List.length_append, fJ]; omega)]
    rfl
theorem F5 (sz : Nat) (h1 : 1 ≤ sz) (C : Ch) (hC : OkC C) (S : Sn) (hS : OkS sz S) (hb : (Cj sz C S).length ≤ 100000000000000) : dX (sz : Int) C S = some (Cj sz C S, (sz : Int)) := by
  have hlen := hC.len
  unfold Cj at hb
  simp only [List.length_append, List.length_cons, List.length_nil, fJ] at hb
  unfold dX cZ
  simp only [Option.bind_some]
  rw [Ci _ (by omega)]
  simp only [Option.bind_some]
  rw [app1 (by simp only [List.length_cons, List.length_nil, fJ]; omega)]
  simp only [Option.bind_some]
  unfold qg
  rw [nP (by omega)]
  simp only [Option.bind_some]
  rw [JL hC.xq, YM sz h1 C hC S hS _ (by simp only [List.length_append, List.length_cons, List.length_nil, fJ]; omega), JK]
  rfl
end Go.Sx
namespace Go.Sx
open Go.RowKit
set_option linter.unusedVariables false
set_option linter.unusedSimpArgs false
theorem Tc : ∀ a b : List UInt8, Op.bytesLess a b = decide (a < b)
  | a, [] => by
    have : ¬ a < [] := List.not_lt_nil a
    cases a <;> simp [Op.bytesLess, this]
  | [], y :: b => by
    have : ([] : List UInt8) < y :: b := List.nil_lt_cons y b
    simp [Op.bytesLess, this]
  | x :: a, y :: b => by
    rw [Op.bytesLess, Tc a b]
    have := List.cons_lt_cons_iff (a := x) (b := y) (l₁ := a) (l₂ := b)
    by_cases h1 : x < y
    · simp [h1, this]
    · by_cases h2 : x = y
      · subst h2; simp [h1, this]
      · simp [h1, h2, this]
theorem Xl {k last : Ky} (h : last < k) : (!(Op.bytesLess k last || decide (k = last))) = true := by
  rw [Tc, decide_eq_false (yZ h), decide_eq_false (fun e => Fp h e.symm)]
  rfl
theorem LD {δ : Type} (k : Ky) (v : δ) : ∀ m : Mp δ, (∀ p ∈ m, p.1 < k) → dD m k v = m ++ [(k, v)]
  | [], _ => rfl
  | p :: r, h => by
    have h1 := h p List.mem_cons_self
    rw [dD, if_neg (fun e => Fp h1 e.symm), if_neg (yZ h1), LD k v r (fun q hq => h q (List.mem_cons_of_mem _ hq))]
    rfl
theorem JM {δ : Type} {m : Mp δ} (h : pq m) (i : Nat) (hi : i < m.length) : ∀ p ∈ m.take i, p.1 < m[i].1 := by
  intro p hp
  obtain ⟨j, hj, rfl⟩ := List.getElem_of_mem hp
  rw [List.length_take] at hj
  rw [List.getElem_take]
  unfold pq at h
  have := List.pairwise_iff_getElem.1 h j i (by rw [List.length_map]; omega) (by rw [List.length_map]; exact hi) (by omega)
  simpa using this
theorem GZ {δ : Type} {m : Mp δ} (h : pq m) (i : Nat) (hi : i < m.length) : dD (m.take i) m[i].1 m[i].2 = m.take (i + 1) := by
  rw [LD _ _ _ (JM h i hi), List.take_add_one, List.getElem?_eq_getElem hi]
  rfl
def xH {δ : Type} (m : Mp δ) : Nat → Ky
  | 0 => []
  | i + 1 => ((m[i]?).map (·.1)).getD []
theorem Oh {δ : Type} {m : Mp δ} (h : pq m) (i : Nat) (hi : i < m.length) : (decide ((i : Int) = 0) || !(Op.bytesLess m[i].1 (xH m i) || decide (m[i].1 = xH m i))) = true := by
  cases i with
  | zero => simp
  | succ i =>
    have h1 : xH m (i + 1) = m[i].1 := by simp [xH, List.getElem?_eq_getElem (show i < m.length by omega)]
    have h2 : m[i].1 < m[i + 1].1 := JM h (i + 1) hi _ (by
      have : m[i] = (m.take (i + 1))[i]'(by rw [List.length_take]; omega) := by rw [List.getElem_take]
      rw [this]
      exact List.getElem_mem _)
    rw [h1, Xl h2, Bool.or_true]
theorem C_ (X R : List UInt8) (wr : Bool) (n : Int) (hn : n = X.length) : iE (X ++ R) false wr n = some (X, R, false, wr) := by
  subst hn
  unfold iE
  rw [if_neg (by simp only [Bool.false_or, decide_eq_true_eq, List.length_append]; omega), rE (by simp only [List.length_append]; omega)]
  simp only [Option.bind_some]
  rw [rE (by simp only [List.length_append]; omega)]
  have e1 : ((X ++ R).take ((X.length : Int)).toNat).drop (0 : Int).toNat = X := by rw [Int.toNat_natCast, List.take_left]; rfl
  have e2 : ((X ++ R).take ((((X ++ R).length : Nat) : Int)).toNat).drop ((X.length : Int)).toNat = R := by rw [Int.toNat_natCast, Int.toNat_natCast, List.take_length, List.drop_left]
  rw [e1, e2]
  rfl
theorem G5 (X R : List UInt8) (wr : Bool) (n : Int) (hn : n = X.length) (h4 : X.length ≤ 4) : jH (X ++ R) false wr n = some ((vF X : Int), R, false, wr) := by
  unfold jH
  rw [C_ X R wr n hn]
  simp only [Option.bind_some]
  exact Xk X R false wr h4
theorem Az (X R : List UInt8) (wr : Bool) (n : Int) (hn : n = X.length) (h4 : X.length ≤ 4) (hv : vF X ≤ R.length) : gI (X ++ R) false wr n = some ((vF X : Int), R, false, wr) := by
  unfold gI
  rw [G5 X R wr n hn h4]
  simp only [Option.bind_some]
  rw [if_neg (by omega)]
theorem AA (p : List UInt8) (sh wr ok : Bool) (h : ok = true) : iF p sh wr ok = some (p, sh, wr) := by
  subst h; rfl
theorem Oi {α : Type} (f : α → List UInt8) (l : List α) (i : Nat) (h : i < l.length) : ((l.drop i).map f).flatten = f l[i] ++ ((l.drop (i + 1)).map f).flatten := by
  rw [List.drop_eq_getElem_cons h]
  rfl
theorem F6 {α : Type} (f : α → List UInt8) (k : Nat) : ∀ l : List α, (∀ p ∈ l, k ≤ (f p).length) → k * l.length ≤ (l.map f).flatten.length
  | [], _ => by simp
  | p :: l, h => by
    have h1 := F6 f k l (fun q hq => h q (List.mem_cons_of_mem _ hq))
    have h2 := h p List.mem_cons_self
    simp only [List.map_cons, List.flatten_cons, List.length_append, List.length_cons, Nat.mul_succ]
    omega
theorem Xm (n : Nat) (h : n < 256) : vF [UInt8.ofNat n] = n := by
  simp [vF]; omega
theorem Ur (sz : Nat) (h1 : 1 ≤ sz) (h2 : sz ≤ 64) (C : Ch) (hC : OkC C) (hd : ∀ p ∈ C, p.1 = xn sz p.2) (Sx : Mp (Option (Mp (Int × List UInt8)))) (R : List UInt8) :
    ng (Io 4 C.length ++ ((C.map JY).flatten ++ R)) false false (sz : Int) [] Sx = some (R, false, false, (sz : Int), C) := by
  have hlen := hC.len
  have hv : vF (Io 4 C.length) = C.length := yK 4 _ (by have : (256 : Nat) ^ 4 = 4294967296 := rfl; omega)
  have hcnt := F6 JY 1 C (fun p hp => by have := (hC.each p hp).1; simp only [JY, List.length_append, fJ]; omega)
  unfold ng
  rw [Az _ _ _ _ (by rw [fJ]; rfl) (by rw [fJ]; exact Nat.le_refl _) (by rw [hv, List.length_append]; omega), hv]
  simp only [Option.bind_some]
  have h0 : ((C.map JY).flatten ++ R, false, false, (sz : Int), ([] : Ch), ([] : List UInt8), (0 : Int)) = (((C.drop 0).map JY).flatten ++ R, false, false, (sz : Int), C.take 0, xH C 0, ((0 : Nat) : Int)) := rfl
  rw [h0]
  refine dm (fun i => (((C.drop i).map JY).flatten ++ R, false, false, (sz : Int), C.take i, xH C i, (i : Int))) C.length (fun i hi => ?_) ?_
  · have hE := hC.each _ (List.getElem_mem hi)
    have hk := hd _ (List.getElem_mem hi)
    have hl := Oh hC.xq i hi
    have hv2 : vF (Io 2 C[i].2.length) = C[i].2.length := yK 2 _ (by have : (256 : Nat) ^ 2 = 65536 := rfl; omega)
    unfold kP
    simp only []
    rw [if_pos (by omega), if_neg (by decide), Oi JY C i hi]
    simp only [JY, List.append_assoc]
    rw [Az _ _ _ _ (by rw [fJ]; rfl) (by rw [fJ]; decide) (by rw [hv2, List.length_append]; omega), hv2]
    simp only [Option.bind_some]
    rw [C_ _ _ _ _ rfl]
    simp only [Option.bind_some]
    rw [app1 (by simp only [List.length_nil]; omega)]
    simp only [Option.bind_some, List.nil_append]
    rw [AA _ _ _ _ (by simp only [Nat.zero_add, Bool.and_eq_true, decide_eq_true_eq]; omega)]
    simp only [Option.bind_some, Bool.or_self, Bool.false_eq_true, if_false]
    have hdg : jK (sz : Int) (C.take i) Sx C[i].2 = some (C[i].1, (sz : Int)) := by
      unfold jK
      rw [(Ce sz h1 h2 C[i].2 (by omega)).1, hk]
      rfl
    rw [hdg]
    simp only [Option.bind_some]
    rw [AA _ _ _ _ hl]
    simp only [Option.bind_some]
    unfold kN nD
    rw [GZ hC.xq i hi, lF i (by omega)]
    have : C[i].1 = xH C (i + 1) := by simp [xH, List.getElem?_eq_getElem hi]
    rw [← this]
  · unfold kP
    simp only []
    rw [if_neg (by omega), List.drop_length, List.take_length]
    rfl
structure OkF (sz : Nat) (m : Gg) : Prop where
  ok : OkE sz m
  few : m.length ≤ 256
  nm : ∀ p ∈ m, oU p.1 = true
  whole : ∀ p ∈ m, p.2.2.length / sz * sz = p.2.2.length
theorem Rh (sz : Nat) (h1 : 1 ≤ sz) (h2 : sz ≤ 64) (m : Gg) (hm : OkF sz m) (R : List UInt8) :
    nV (Io 4 m.length ++ ((m.map (JZ sz)).flatten ++ R)) false false (sz : Int) = some (.inr (m, R, false, false)) := by
  have hlen := hm.few
  have hv : vF (Io 4 m.length) = m.length := yK 4 _ (by have : (256 : Nat) ^ 4 = 4294967296 := rfl; omega)
  have hcnt := F6 (JZ sz) 1 m (fun p hp => by simp only [JZ, fJ, List.length_append, List.length_cons, List.length_nil]; omega)
  unfold nV
  rw [Az _ _ _ _ (by rw [fJ]; rfl) (by rw [fJ]; exact Nat.le_refl _) (by rw [hv, List.length_append]; omega), hv]
  simp only [Option.bind_some]
  rw [AA _ _ _ _ (by simp only [decide_eq_true_eq]; omega)]
  simp only [Option.bind_some]
  have h0 : ((m.map (JZ sz)).flatten ++ R, false, false, ([] : Gg), ([] : List UInt8), (0 : Int)) = (((m.drop 0).map (JZ sz)).flatten ++ R, false, false, m.take 0, xH m 0, ((0 : Nat) : Int)) := rfl
  rw [h0]
  refine dm (fun i => (((m.drop i).map (JZ sz)).flatten ++ R, false, false, m.take i, xH m i, (i : Int))) m.length (fun i hi => ?_) ?_
  · have hnm := hm.ok.name _ (List.getElem_mem hi)
    have hsz := hm.ok.size _ (List.getElem_mem hi)
    have hdg := hm.ok.Uo _ (List.getElem_mem hi)
    have hn := hm.nm _ (List.getElem_mem hi)
    have hw := hm.whole _ (List.getElem_mem hi)
    have hl := Oh hm.ok.xq i hi
    obtain ⟨q, hq⟩ : ∃ q : Nat, m[i].2.1 = (q : Int) := ⟨m[i].2.1.toNat, by omega⟩
    have hdl : m[i].2.2.length / sz ≤ m[i].2.2.length := Nat.div_le_self _ _
    have hv4 : vF (Io 4 q) = q := yK 4 _ (by have : (256 : Nat) ^ 4 = 4294967296 := rfl; omega)
    have hv5 : vF (Io 4 (m[i].2.2.length / sz)) = m[i].2.2.length / sz := yK 4 _ (by have : (256 : Nat) ^ 4 = 4294967296 := rfl; omega)
    have hv1 : vF [UInt8.ofNat m[i].1.length] = m[i].1.length := Xm _ (by omega)
    unfold lL
    simp only []
    rw [if_pos (by omega), if_neg (by decide), Oi (JZ sz) m i hi]
    simp only [JZ, List.append_assoc, hq, Int.toNat_natCast]
    rw [Az [UInt8.ofNat m[i].1.length] _ _ 1 rfl (by simp) (by rw [hv1, List.length_append]; omega), hv1]
    simp only [Option.bind_some]
    rw [C_ _ _ _ _ rfl]
    simp only [Option.bind_some]
    rw [G5 _ _ _ _ (by rw [fJ]; rfl) (by rw [fJ]; exact Nat.le_refl _), hv4]
    simp only [Option.bind_some]
    rw [named_ok _ (by omega), hn]
    simp only [Option.bind_some]
    rw [AA _ _ _ _ (by rw [hl]; simp only [Bool.and_self, Bool.true_and, decide_eq_true_eq]; omega)]
    simp only [Option.bind_some]
    rw [Az _ _ _ _ (by rw [fJ]; rfl) (by rw [fJ]; exact Nat.le_refl _) (by rw [hv5, List.length_append]; omega), hv5]
    simp only [Option.bind_some]
    have hmul : aI (((m[i].2.2.length / sz : Nat) : Int) * (sz : Int)) = (m[i].2.2.length : Int) := by
      have : ((m[i].2.2.length / sz : Nat) : Int) * (sz : Int) = ((m[i].2.2.length / sz * sz : Nat) : Int) := by rw [Int.natCast_mul]
      rw [this, hw, fP (by omega)]
    rw [hmul, C_ _ _ _ _ rfl]
    simp only [Option.bind_some]
    have hpair : ((q : Int), m[i].2.2) = m[i].2 := by rw [← hq]
    rw [hpair, GZ hm.ok.xq i hi, lF i (by omega)]
    have : m[i].1 = xH m (i + 1) := by simp [xH, List.getElem?_eq_getElem hi]
    rw [← this]
  · unfold lL
    simp only []
    rw [if_neg (by omega), List.drop_length, List.take_length]
    rfl
structure OkG (sz : Nat) (S : Sn) : Prop where
  xq : pq S
  few : S.length ≤ 64
  name : ∀ p ∈ S, 1 ≤ p.1.length ∧ p.1.length ≤ 64
  nm : ∀ p ∈ S, oU p.1 = true
  each : ∀ p ∈ S, OkF sz p.2
def Xu (S : Sn) : Mp (Option (Mp (Int × List UInt8))) := S.map fun p => (p.1, some p.2)
theorem YN {S : Sn} (h : pq S) : pq (Xu S) := by
  unfold pq Xu
  rw [List.map_map]
  exact h
theorem YO (sz : Nat) (h1 : 1 ≤ sz) (h2 : sz ≤ 64) (C : Ch) (hC : OkC C) (hd : ∀ p ∈ C, p.1 = xn sz p.2) (S : Sn) (hS : OkG sz S) : u_ (Cj sz C S) = some (.inr ((sz : Int), C, S)) := by
  have hlen := hS.few
  have hv1 : vF [UInt8.ofNat sz] = sz := Xm _ (by omega)
  have hv : vF (Io 4 S.length) = S.length := yK 4 _ (by have : (256 : Nat) ^ 4 = 4294967296 := rfl; omega)
  have hcnt := F6 (J3 sz) 1 S (fun p hp => by simp only [J3, fJ, List.length_append, List.length_cons, List.length_nil]; omega)
  have hb : Cj sz C S = [68, 81, 1] ++ ([UInt8.ofNat sz] ++ (Io 4 C.length ++ ((C.map JY).flatten ++ (Io 4 S.length ++ (S.map (J3 sz)).flatten)))) := by
    unfold Cj
    simp only [List.append_assoc]
    rfl
  unfold u_
  rw [hb, C_ [68, 81, 1] _ _ 3 rfl]
  simp only [Option.bind_some]
  rw [G5 [UInt8.ofNat sz] _ _ 1 rfl (by simp), hv1]
  simp only [Option.bind_some]
  rw [AA _ _ _ _ (by simp only [Bool.and_eq_true, decide_eq_true_eq]; exact ⟨⟨trivial, by omega⟩, by omega⟩)]
  simp only [Option.bind_some]
  rw [Ur sz h1 h2 C hC hd]
  simp only [Option.bind_some]
  rw [Az _ _ _ _ (by rw [fJ]; rfl) (by rw [fJ]; exact Nat.le_refl _) (by rw [hv]; omega), hv]
  simp only [Option.bind_some]
  rw [AA _ _ _ _ (by simp only [decide_eq_true_eq]; omega)]
  simp only [Option.bind_some]
  have h0 : ((S.map (J3 sz)).flatten, false, false, ([] : Mp (Option (Mp (Int × List UInt8)))), ([] : List UInt8), (0 : Int)) = (((S.drop 0).map (J3 sz)).flatten, false, false, (Xu S).take 0, xH S 0, ((0 : Nat) : Int)) := rfl
  rw [h0]
  have hsl : (Xu S).length = S.length := by unfold Xu; rw [List.length_map]
  refine dm (fun i => (((S.drop i).map (J3 sz)).flatten, false, false, (Xu S).take i, xH S i, (i : Int))) S.length (fun i hi => ?_) ?_
  · have hnm := hS.name _ (List.getElem_mem hi)
    have hn := hS.nm _ (List.getElem_mem hi)
    have hF := hS.each _ (List.getElem_mem hi)
    have hl := Oh hS.xq i hi
    have hv1 : vF [UInt8.ofNat S[i].1.length] = S[i].1.length := Xm _ (by omega)
    unfold pK
    simp only []
    rw [if_pos (by omega), if_neg (by decide), Oi (J3 sz) S i hi]
    simp only [J3, List.append_assoc]
    rw [Az [UInt8.ofNat S[i].1.length] _ _ 1 rfl (by simp) (by rw [hv1, List.length_append]; omega), hv1]
    simp only [Option.bind_some]
    rw [C_ _ _ _ _ rfl]
    simp only [Option.bind_some]
    rw [named_ok _ (by omega), hn]
    simp only [Option.bind_some]
    rw [AA _ _ _ _ (by rw [hl]; rfl)]
    simp only [Option.bind_some]
    rw [Rh sz h1 h2 S[i].2 hF]
    simp only [Option.bind_some, Sum.elim_inr]
    have hgi : (Xu S)[i]'(by omega) = (S[i].1, some S[i].2) := by unfold Xu; rw [List.getElem_map]
    have hmt := GZ (YN hS.xq) i (by omega)
    rw [hgi] at hmt
    rw [hmt, lF i (by omega)]
    have : S[i].1 = xH S (i + 1) := by simp [xH, List.getElem?_eq_getElem hi]
    rw [← this]
  · unfold pK
    simp only []
    rw [if_neg (by omega), List.drop_length, ← hsl, List.take_length]
    unfold pJ sK
    rw [if_neg (by decide), if_neg (by simp), if_neg (by decide), nP (by unfold Xu; simp)]
    simp only [Option.bind_some, Option.map_some, Xu, List.map_map]
    have : S.map ((fun p : Ky × Option (Mp (Int × List UInt8)) => (p.1, p.2.getD [])) ∘ fun p => (p.1, some p.2)) = S := by
      conv => rhs; rw [← List.map_id S]
      rfl
    rw [this]
end Go.Sx
namespace Go.Sx
open Go.RowKit
set_option linter.unusedVariables false
set_option linter.unusedSimpArgs false
noncomputable def AB (sz : Nat) (f : Fi) : List Ky := (cut f.2 [] 0).map (xn sz)
def Agree (C m : Ch) : Prop := ∀ k v, aK m k = some v → ∀ o, aK C k = some o → o = v
structure EatC (sz : Nat) (C : Ch) (cs : List (List UInt8)) (s r : Ch × List UInt8) : Prop where
  xq : pq s.1 → pq r.1
  agree : Agree C s.1 → Agree C r.1
  mono : Agree C s.1 → ∀ k v, aK s.1 k = some v → aK r.1 k = some v
  has : Agree C s.1 → ∀ c ∈ cs, aK r.1 (xn sz c) = some c
  mem : ∀ p ∈ r.1, p ∈ s.1 ∨ ∃ c ∈ cs, p = (xn sz c, c)
  Uo : r.2 = s.2 ++ (cs.map (xn sz)).flatten
  len : r.1.length ≤ s.1.length + cs.length
theorem Us {sz : Nat} {s : Ch × List UInt8} {c : List UInt8} {s' : Ch × List UInt8} {C : Ch} (h : JI sz C s c = .inl s') :
    s' = (dD s.1 (xn sz c) c, s.2 ++ xn sz c) ∧ (∀ o, aK C (xn sz c) = some o → o = c) ∧ (∀ o, aK C (xn sz c) = none → aK s.1 (xn sz c) = some o → o = c) := by
  refine ⟨(PW h).1, fun o ho => ?_, (PW h).2⟩
  unfold JI at h
  rw [ho] at h
  simp only [Option.some_or] at h
  by_cases h1 : o ≠ c
  · rw [if_pos h1] at h; cases h
  · exact Classical.not_not.1 h1
theorem YP {sz : Nat} {C : Ch} {s : Ch × List UInt8} {c : List UInt8} {q : Option (Ch × List UInt8)} (h : JI sz C s c = .inr q) : q = none := by
  unfold JI at h
  cases hC : (aK C (xn sz c)).or (aK s.1 (xn sz c)) with
  | none => rw [hC] at h; cases h
  | some o =>
    rw [hC] at h
    simp only [] at h
    by_cases ho : o ≠ c
    · rw [if_pos ho] at h; exact (Sum.inr.inj h).symm
    · rw [if_neg ho] at h; cases h
theorem PY {sz : Nat} {C : Ch} : ∀ (cs : List (List UInt8)) (s r : Ch × List UInt8), yJ (JI sz C) some cs s = some r → EatC sz C cs s r
  | [], s, r, h => by
    cases h
    exact ⟨id, id, fun _ _ _ h => h, fun _ c hc => (by cases hc), fun p hp => .inl hp, by simp, by simp⟩
  | c :: cs, s, r, h => by
    unfold yJ at h
    cases hs : JI sz C s c with
    | inr q =>
      rw [hs, YP hs] at h
      cases h
    | inl s' =>
      rw [hs] at h
      obtain ⟨rfl, hC, h2⟩ := Us hs
      have ih := PY cs _ r h
      have hag : Agree C s.1 → Agree C (dD s.1 (xn sz c) c) := fun ha k v hk o ho => by
        rw [xW] at hk
        by_cases hkk : xn sz c = k
        · rw [if_pos hkk] at hk
          rw [← hkk] at ho
          rw [← Option.some.inj hk]
          exact hC o ho
        · rw [if_neg hkk] at hk
          exact ha k v hk o ho
      refine ⟨fun hm => ih.xq (hm.dD _ _), fun ha => ih.agree (hag ha), fun ha k v hk => ih.mono (hag ha) k v ?_, fun ha x hx => ?_, fun p hp => ?_, ?_, ?_⟩
      · show aK (dD s.1 (xn sz c) c) k = some v
        rw [xW]
        by_cases hkk : xn sz c = k
        · rw [if_pos hkk]
          subst hkk
          cases hCk : aK C (xn sz c) with
          | none => rw [h2 v hCk hk]
          | some o => rw [← hC o hCk, ha _ v hk o hCk]
        · rw [if_neg hkk]; exact hk
      · rcases List.mem_cons.1 hx with rfl | hx
        · exact ih.mono (hag ha) _ _ (wB _ _ _)
        · exact ih.has (hag ha) x hx
      · rcases ih.mem p hp with h3 | ⟨x, hx, rfl⟩
        · rcases JJ h3 with rfl | h3
          · exact .inr ⟨c, List.mem_cons_self, rfl⟩
          · exact .inl h3
        · exact .inr ⟨x, List.mem_cons_of_mem _ hx, rfl⟩
      · rw [ih.Uo]
        simp
      · have h3 := ih.len
        have h4 := Cf (xn sz c) c s.1
        simp only [List.length_cons] at *
        omega
structure Td (sz : Nat) (C : Ch) (l : List Fi) (s r : Ch × Gg) : Prop where
  xq : pq s.1 → pq r.1
  srt2 : pq s.2 → pq r.2
  agree : Agree C s.1 → Agree C r.1
  mono : Agree C s.1 → ∀ k v, aK s.1 k = some v → aK r.1 k = some v
  has : Agree C s.1 → ∀ f ∈ l, ∀ c ∈ cut f.2 [] 0, aK r.1 (xn sz c) = some c
  mem : ∀ p ∈ r.1, p ∈ s.1 ∨ ∃ f ∈ l, ∃ c ∈ cut f.2 [] 0, p = (xn sz c, c)
  ent : ∀ p ∈ r.2, p ∈ s.2 ∨ ∃ f ∈ l, p = (f.1, ((f.2.length : Int), (AB sz f).flatten))
  find : (l.map (·.1)).Nodup → ∀ f ∈ l, aK r.2 f.1 = some ((f.2.length : Int), (AB sz f).flatten)
  keep : ∀ k, k ∉ l.map (·.1) → aK r.2 k = aK s.2 k
  AY : r.2.length ≤ s.2.length + l.length
  len : r.1.length ≤ s.1.length + (l.map (fun f => f.2.length)).sum
theorem Dc {sz : Nat} {C : Ch} : ∀ (l : List Fi) (s r : Ch × Gg), yJ (S9 sz C) some l s = some r → Td sz C l s r
  | [], s, r, h => by
    cases h
    exact ⟨id, id, id, fun _ _ _ h => h, fun _ f hf => (by cases hf), fun p hp => .inl hp, fun p hp => .inl hp, fun _ f hf => (by cases hf), fun _ _ => rfl, by simp, by simp⟩
  | f :: l, s, r, h => by
    unfold yJ S9 at h
    unfold Xh at h
    cases he : yJ (JI sz C) some (cut f.2 [] 0) (s.1, []) with
    | none => rw [he] at h; cases h
    | some q =>
      rw [he] at h
      have hE := PY _ _ _ he
      have hdg : q.2 = (AB sz f).flatten := by rw [hE.Uo]; rfl
      have ih : Td sz C l (q.1, dD s.2 f.1 ((f.2.length : Int), q.2)) r := Dc l _ r h
      rw [hdg] at ih
      refine ⟨fun hm => ih.xq (hE.xq hm), fun hm => ih.srt2 (hm.dD _ _), fun ha => ih.agree (hE.agree ha), fun ha k v hk => ih.mono (hE.agree ha) k v (hE.mono ha k v hk), fun ha g hg c hc => ?_, fun p hp => ?_, fun p hp => ?_, fun hnd g hg => ?_, fun k hk => ?_, ?_, ?_⟩
      · rcases List.mem_cons.1 hg with rfl | hg
        · exact ih.mono (hE.agree ha) _ _ (hE.has ha c hc)
        · exact ih.has (hE.agree ha) g hg c hc
      · rcases ih.mem p hp with h3 | ⟨g, hg, c, hc, rfl⟩
        · rcases hE.mem p h3 with h3 | ⟨c, hc, rfl⟩
          · exact .inl h3
          · exact .inr ⟨f, List.mem_cons_self, c, hc, rfl⟩
        · exact .inr ⟨g, List.mem_cons_of_mem _ hg, c, hc, rfl⟩
      · rcases ih.ent p hp with h3 | ⟨g, hg, rfl⟩
        · rcases JJ h3 with rfl | h3
          · exact .inr ⟨f, List.mem_cons_self, rfl⟩
          · exact .inl h3
        · exact .inr ⟨g, List.mem_cons_of_mem _ hg, rfl⟩
      · rw [List.map_cons, List.nodup_cons] at hnd
        rcases List.mem_cons.1 hg with rfl | hg
        · rw [ih.keep _ hnd.1]
          exact wB _ _ _
        · exact ih.find hnd.2 g hg
      · rw [List.map_cons, List.mem_cons, not_or] at hk
        rw [ih.keep k hk.2]
        exact wo (fun e => hk.1 e.symm) _ _
      · have h3 := ih.AY
        have h4 := Cf f.1 ((f.2.length : Int), (AB sz f).flatten) s.2
        simp only [List.length_cons] at *
        omega
      · have h3 := ih.len
        have h4 := hE.len
        have h5 := CX f.2
        simp only [List.map_cons, List.sum_cons] at *
        omega
theorem LG : ∀ (l : List Fi) (s : Mp Int × Nat), yJ PT (fun _ => (none : Option Int)) l s = none → ∀ f ∈ l, oU f.1 = true
  | [], _, _, f, hf => by cases hf
  | f :: l, s, h, g, hg => by
    unfold yJ PT at h
    by_cases h1 : oU f.1 = false
    · rw [if_pos h1] at h; cases h
    rw [if_neg h1] at h
    by_cases h2 : (aK s.1 f.1).isSome = true
    · rw [if_pos h2] at h; cases h
    rw [if_neg h2] at h
    rcases List.mem_cons.1 hg with rfl | hg
    · simpa using h1
    · exact LG l _ h g hg
theorem LH {s : List UInt8} (h : oU s = true) : 1 ≤ s.length ∧ s.length ≤ 64 := by
  unfold oU at h
  simp only [Bool.and_eq_true, decide_eq_true_eq] at h
  exact h.1
def chop (sz : Nat) : Nat → List UInt8 → List Ky
  | 0, _ => []
  | n + 1, s => s.take sz :: chop sz n (s.drop sz)
theorem LJ (sz : Nat) : ∀ ks : List Ky, (∀ k ∈ ks, k.length = sz) → chop sz ks.length ks.flatten = ks
  | [], _ => rfl
  | k :: ks, h => by
    have hk := h k List.mem_cons_self
    have ih := LJ sz ks (fun x hx => h x (List.mem_cons_of_mem _ hx))
    have e1 : (k ++ ks.flatten).take sz = k := by rw [← hk, List.take_left]
    have e2 : (k ++ ks.flatten).drop sz = ks.flatten := by rw [← hk, List.drop_left]
    simp only [List.length_cons, List.flatten_cons, chop]
    rw [e1, e2, ih]
theorem PZ (sz : Nat) : ∀ ks : List Ky, (∀ k ∈ ks, k.length = sz) → ks.flatten.length = ks.length * sz
  | [], _ => by simp
  | k :: ks, h => by
    have hk := h k List.mem_cons_self
    have ih := PZ sz ks (fun x hx => h x (List.mem_cons_of_mem _ hx))
    simp only [List.flatten_cons, List.length_append, List.length_cons, Nat.succ_mul, ih, hk]
    omega
theorem Tf (sz : Nat) (h1 : 1 ≤ sz) (ks : List Ky) (hk : ∀ k ∈ ks, k.length = sz) (hl : ks.length ≤ 1000000000) :
    aX (eG (sz : Int)) (ks.flatten, ([] : List Ky)) = some (ks, (sz : Int)) := by
  have h0 : (ks.flatten, ([] : List Ky)) = ((ks.drop 0).flatten, ks.take 0) := rfl
  rw [h0]
  refine dm (fun i => ((ks.drop i).flatten, ks.take i)) ks.length (fun i hi => ?_) ?_
  · have hki := hk _ (List.getElem_mem hi)
    unfold eG
    simp only []
    rw [List.drop_eq_getElem_cons hi, List.flatten_cons]
    have hlen : (ks[i] ++ (ks.drop (i + 1)).flatten).length = sz + (ks.drop (i + 1)).flatten.length := by rw [List.length_append, hki]
    rw [if_pos (by omega), rE (by omega)]
    simp only [Option.bind_some]
    rw [mW (by simp only [List.length_take, List.length_cons, List.length_nil]; omega)]
    simp only [Option.bind_some]
    rw [rE (by omega)]
    simp only [Option.bind_some]
    have e1 : ((ks[i] ++ (ks.drop (i + 1)).flatten).take ((sz : Int)).toNat).drop (0 : Int).toNat = ks[i] := by
      rw [Int.toNat_natCast, ← hki, List.take_left]; rfl
    have e2 : ((ks[i] ++ (ks.drop (i + 1)).flatten).take ((((ks[i] ++ (ks.drop (i + 1)).flatten).length : Nat) : Int)).toNat).drop ((sz : Int)).toNat = (ks.drop (i + 1)).flatten := by
      rw [Int.toNat_natCast, Int.toNat_natCast, List.take_length, ← hki, List.drop_left]
    rw [e1, e2, List.take_add_one, List.getElem?_eq_getElem hi]
    rfl
  · unfold eG
    simp only []
    rw [List.drop_length, if_neg (by simp), List.take_length]
    rfl
end Go.Sx
