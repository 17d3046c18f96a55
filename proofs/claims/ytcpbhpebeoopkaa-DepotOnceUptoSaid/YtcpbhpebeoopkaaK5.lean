import Derived.Test.YtcpbhpebeoopkaaK4
namespace Go.Sx
open Go.RowKit Go.Proofs
set_option linter.unusedVariables false
set_option linter.unusedSimpArgs false
set_option maxRecDepth 20000
theorem y7 {F O : Nat → Prop} {w : World} (h : ag UInt32 8) (v : ag UInt32 16) (k : Cx F O w w []) (r : (ag UInt32 8)) (hm : lg h v = some r) :
    Calls Try.prog 80 (ak [.agg [.ar bm h], .agg [.ar bm v]]) w (fun e w' => e = .returned (SV.val (.agg [.ar bm r])) ∧ Cx F O w w' []) := by
 unfold lg at hm
 refine calls [.agg [.ar bm h], .agg [.ar bm v]] Try.func80 rfl (of_decide_eq_true (by kernel_rfl)) ?_
 refine ab <| aj <| ae <| eg [] 2 (.agg [.ar bm h]) [.ar bm h] (by kernel_rfl) k ?_
 intro g w_ k_
 refine ae <| eg [] 3 (.agg [.ar bm v]) [.ar bm v] (by kernel_rfl) k_ ?_
 intro g1 jh bN
 refine ae <| aU [] 4 [.ar bm (ag.rep 8 (0 : UInt32))] (by kernel_rfl) bN ?_
 intro g2 kI cG
 refine ad <| aa <| ab <| ab <| aV [] (.n 6 (I 0) (.nJ .z)) qe (by kernel_rfl) ?_
 refine aa <| aI <| jQ (j0 v) (fun s L wr => ∃ (h1 : ag UInt32 8) (av : Int), (h1, av) = s ∧ L = [(2, pt g 0), (3, pt g1 0), (4, pt g2 0), (6, I av)] ∧ Cx F O w wr [Bx 133 g [.ar bm h1], Bx 153 g1 [.ar bm v], Bx 133 g2 [.ar bm (ag.rep 8 (0 : UInt32))]]) (h, (0 : Int)) r hm ⟨h, (0 : Int), rfl, rfl, cG⟩ (by kernel_rfl) ?_
 intro rW L_ mb y0 ef bj jH
 obtain ⟨h1, av, rfl, rfl, cD⟩ := ef
 have hm := bj; simp only [j0] at hm
 clear bj
 refine ab <| aV [] (.n 7 (.b (decide (av < 8))) .a) qe (by kernel_rfl) ?_
 refine aa <| ab <| aN (av < 8) (by kernel_rfl) (fun hc => ?_) (fun hc => ?_)
 · rw [if_pos hc] at hm
   refine aL <| aa <| ab <| aI <| ab <| aV [] (.n 5 (I av) (.s .a)) qe (by kernel_rfl) ?_
   refine aa ?_
   have dm := cD.drew 1
   refine lJ aT (.q 0 0 (.q 1 0 (.q 2 0 (.q 3 0 (.q 4 0 (.q 5 0 (.q 6 0 (.q 7 0 (.q 8 0 (.q 9 0 (.q 10 0 (.q 11 0 (.q 12 0 (.op 13 .nil)))))))))))))) [13] dm (.c (.s (.kk .e)) .l) (by kernel_rfl) (fun _ => ?_)
   obtain ⟨ew, eA, hm⟩ := ob hm
   obtain ⟨bk, dA, hm⟩ := ob hm
   obtain ⟨dQ, fI, hm⟩ := ob hm
   obtain ⟨cY, ij, hm⟩ := ob hm
   refine bo 13 0 [] (.n 20 (.u32 (ew ^^^ (bk ^^^ dQ))) (.n 21 (.v (.pointer (il (some ⟨g, 0, none⟩) av 1))) (.s .a))) (fun x hx => qV (hx.iw 0 rfl bm h1 0 (by kernel_rfl)) eA rfl (.u32 ew) rfl <| qV (hx.iw 1 rfl bm v 0 (by kernel_rfl)) dA rfl (.u32 bk) rfl <| qV (hx.iw 1 rfl bm v 0 (by kernel_rfl)) fI rfl (.u32 dQ) rfl <| qI g 0 ij <| qe) (by kernel_rfl) (fun _ => ?_)
   refine bl (by kernel_rfl) rfl ?_
   obtain ⟨v1, tn, hm⟩ := nm hm
   refine fC (E := bm) (kk := 0) [] 0 (.u32 (ew ^^^ (bk ^^^ dQ))) [.u32 (ew ^^^ (bk ^^^ dQ))] tn ij (Pt.p5 (Pt.at g 0) av 1) dm rfl .h rfl (by kernel_rfl) (by kernel_rfl) ?_
   intro mc dx
   refine ⟨(dx.ba (.s (.kk .e))), fun _ => ?_⟩
   refine bC <| cu <| aa <| aV [] (.n 6 (I (aA (av + 1))) (.ss (.nJ .z))) qe (by kernel_rfl) ?_
   exact fO (v1, aA (av + 1)) (Option.some.inj hm).symm ⟨v1, aA (av + 1), rfl, rfl, dx⟩ (by kernel_rfl)
 rw [if_neg hc] at hm
 refine cA (bu (bu (dZ ?_)))
 have hm := bT hm jH
 refine aa <| ab <| aj <| aQ 1 [] (.n 23 (.agg [.ar bm h1]) (.ib (.k .z))) (qT cD 0 rfl 0 8 [.ar bm h1] (by kernel_rfl) (by decide) <| qe) (by kernel_rfl) ?_
 refine ae <| cE [] 2 (.agg [.ar bm h1]) [.ar bm h1] (Pt.at g2 0) cD rfl .all (by kernel_rfl) (by kernel_rfl) ?_
 intro oH dV
 have ed := dV.ba (.ss (.k .e))
 refine ad <| aa <| aG ?_
 obtain rfl := Option.some.inj hm
 refine aH [.agg [.ar bm h1]] (qo (.agg [.ar bm h1]) <| qc (fun w => Rd w (some ⟨g2, 0, none⟩) (SV.cl [.ar bm h1])) (ed.pV 0 rfl) <| qe) (by kernel_rfl) ?_
 have eo := ed.ba .z
 exact ⟨rfl, eo⟩
theorem CS {F O : Nat → Prop} {w : World} (h : ag UInt32 8) (m_ : ag UInt32 16) (count : UInt64) (last : Bool) (node : Bool) (k : Cx F O w w []) (r : (ag UInt32 8)) (hm : nO h m_ count last node = some r) :
    Calls Try.prog 73 (ak [.agg [.ar bm h], .agg [.ar bm m_], .u64 count, .b last, .b node]) w (fun e w' => e = .returned (SV.val (.agg [.ar bm r])) ∧ Cx F O w w' []) := by
 unfold nO at hm
 refine calls [.agg [.ar bm h], .agg [.ar bm m_], .u64 count, .b last, .b node] Try.func73 rfl (of_decide_eq_true (by kernel_rfl)) ?_
 refine ab <| aj <| ae <| eg [] 5 (.agg [.ar bm h]) [.ar bm h] (by kernel_rfl) k ?_
 intro g w_ k_
 refine ae <| eg [] 6 (.agg [.ar bm m_]) [.ar bm m_] (by kernel_rfl) k_ ?_
 intro g1 jh bN
 refine ae <| aU [] 10 [.ar bm (ag.rep 8 (0 : UInt32))] (by kernel_rfl) bN ?_
 intro g2 kI cG
 refine ad <| aa <| ab <| aj <| aQ 4 [] (.n 13 (.agg [.ar bm h]) (.n 14 (.u64 count) (.n 15 (.b last) (.n 16 (.b node) (.nJ .z))))) (qT cG 0 rfl 0 8 [.ar bm h] (by kernel_rfl) (by decide) <| qe) (by kernel_rfl) ?_
 refine ae ?_
 obtain ⟨r_, cc, hm⟩ := ob hm
 refine ax [] 17 _ E2 (by kernel_rfl) (wG (F := N0) (O := N0) _ _ _ _ (Cx.refl _) _ cc) ?_
 rintro e_ mb ⟨rfl, cD⟩
 have dm := cG.call cD
 refine ⟨.agg [.ar bm r_], rfl, ?_⟩
 refine ae ?_
 have dx := dm.ba (.kk (.k .e))
 refine aU [] 11 [.ar bm (ag.rep 16 (0 : UInt32))] (by kernel_rfl) dx ?_
 intro g3 mc dV
 refine ae <| cE [] 3 (.agg [.ar bm r_]) [.ar bm r_] (Pt.at g3 0) dV rfl .all (by kernel_rfl) (by kernel_rfl) ?_
 intro oH ed
 refine ad <| aa <| ab <| ab <| aV [] (.n 18 (I 0) (.k (.fi (.s .a)))) qe (by kernel_rfl) ?_
 refine aa <| aI <| jQ (kf h) (fun s L wr => ∃ (nq : ag UInt32 16) (v : ag UInt32 16) (av : Int), (nq, v, av) = s ∧ L = [(5, pt g 0), (6, pt g1 0), (10, pt g2 0), (11, pt g3 0), (18, I av)] ∧ Cx F O w wr [Bx 133 g [.ar bm h], Bx 153 g1 [.ar bm nq], Bx 133 g2 [.ar bm (ag.rep 8 (0 : UInt32))], Bx 153 g3 [.ar bm v]]) (m_, r_, (0 : Int)) r hm ⟨m_, r_, (0 : Int), rfl, rfl, ed⟩ (by kernel_rfl) ?_
 intro rW L_ qD y0 ef bj jH
 obtain ⟨nq, v, av, rfl, rfl, eo⟩ := ef
 have hm := bj; simp only [kf] at hm
 clear bj
 refine ab <| aV [] (.n 19 (.b (decide (av < 10))) .a) qe (by kernel_rfl) ?_
 refine aa <| ab <| aN (av < 10) (by kernel_rfl) (fun hc => ?_) (fun hc => ?_)
 · rw [if_pos hc] at hm
   refine aL <| aa <| ab <| aI <| ab <| aV [] (.n 12 (I av) (.s .a)) qe (by kernel_rfl) ?_
   refine aa <| aj <| aQ 1 [] (.n 21 (I av) (.s .a)) qe (by kernel_rfl) ?_
   refine ae ?_
   obtain ⟨aE, cB, hm⟩ := ob hm
   have eU := (((eo.pk (.t (.t .h))).pk (.t .h)).pk (.t (.t .h))).pk (.t (.t (.t .h)))
   obtain ⟨F1, O1, oV, hO, xK, hF, hb⟩ := eU.go (.i (.i (.r (.r .e))))
   refine ax [] 22 _ E3 (by kernel_rfl) (wH (F := F1) (O := O1) _ _ _ _ _ oV _ cB) ?_
   rintro e_ rL ⟨rfl, bH⟩
   have bD := hb rL _ _ bH (.c (.c .n))
   refine ⟨.dB [], rfl, ?_⟩
   refine ad <| cu <| aa <| aV [] (.n 18 (I (aA (av + 1))) (.ss (.bb .z))) qe (by kernel_rfl) ?_
   have cS := (((bD.pk .h).pk (.t (.t (.t .h)))).pk (.t (.t .h))).pk (.t (.t (.t .h)))
   exact fO (aE.2, aE.1, aA (av + 1)) (Option.some.inj hm).symm ⟨aE.2, aE.1, aA (av + 1), rfl, rfl, cS⟩ (by kernel_rfl)
 rw [if_neg hc] at hm
 refine cA (bu (bu (dZ ?_)))
 have hm := bT hm jH
 refine aa <| ab <| aj <| aQ 2 [] (.n 24 (.agg [.ar bm h]) (.n 25 (.agg [.ar bm v]) (.ib (.k .z)))) (qT eo 0 rfl 0 8 [.ar bm h] (by kernel_rfl) (by decide) <| qT eo 3 rfl 0 16 [.ar bm v] (by kernel_rfl) (by decide) <| qe) (by kernel_rfl) ?_
 refine ae ?_
 obtain ⟨bz, gu, hm⟩ := ob hm
 refine ax [] 26 _ E4 (by kernel_rfl) (y7 (F := N0) (O := N0) _ _ (Cx.refl _) _ gu) ?_
 rintro e_ uL ⟨rfl, dk⟩
 have dD := eo.call dk
 refine ⟨.agg [.ar bm bz], rfl, ?_⟩
 have et := dD.ba (.ss (.k .z))
 refine ae <| cE [] 0 (.agg [.ar bm bz]) [.ar bm bz] (Pt.at g2 0) et rfl .all (by kernel_rfl) (by kernel_rfl) ?_
 intro xI eC
 refine ad <| aa <| aG ?_
 obtain rfl := Option.some.inj hm
 refine aH [.agg [.ar bm bz]] (qo (.agg [.ar bm bz]) <| qc (fun w => Rd w (some ⟨g2, 0, none⟩) (SV.cl [.ar bm bz])) (eC.pV 0 rfl) <| qe) (by kernel_rfl) ?_
 have eW := eC.ba .z
 exact ⟨rfl, eW⟩
theorem nv {F O : Nat → Prop} {w : World} (h : ag UInt32 8) (b : List UInt8) (jd : UInt64) (jS : UInt64) (last : Bool) (node : Bool) (fm : Option Addr) (ig : Nat) (fw : Nat) (j3 : Ro F w fm (e8.all b)) (iV : b.length = ig) (jK : ig ≤ fw) (k : Cx F O w w []) (r : (ag UInt32 8)) (hm : fx h b jd jS last node = some r) :
    Calls Try.prog 62 (ak [.agg [.ar bm h], sl fm ig fw, .agg [.u64 jd, .u64 jS], .b last, .b node]) w (fun e w' => e = .returned (SV.val (.agg [.ar bm r])) ∧ Cx F O w w' []) := by
 unfold fx at hm
 subst iV
 refine calls [.agg [.ar bm h], sl fm b.length fw, .agg [.u64 jd, .u64 jS], .b last, .b node] Try.func62 rfl (of_decide_eq_true (by kernel_rfl)) ?_
 refine ab <| aj <| ae <| eg [] 5 (.agg [.ar bm h]) [.ar bm h] (by kernel_rfl) k ?_
 intro g w_ k_
 refine ae <| eg [] 7 (.agg [.u64 jd, .u64 jS]) [.u64 jd, .u64 jS] (by kernel_rfl) k_ ?_
 intro g1 jh bN
 refine ae <| aU [] 10 [.ar bm (ag.rep 8 (0 : UInt32))] (by kernel_rfl) bN ?_
 intro g2 kI cG
 refine ad <| aa <| ab <| aj <| aQ 1 [] (.n 14 (sl fm b.length fw) (.nJ (.ib .a))) qe (by kernel_rfl) ?_
 refine ae ?_
 obtain ⟨r_, cc, hm⟩ := ob hm
 refine ax [] 15 _ EX (by kernel_rfl) (wE (F := N0) (O := N0) _ _ _ _ (Ro.n0 (j3.cx cG)) rfl jK (Cx.refl _) _ cc) ?_
 rintro e_ mb ⟨rfl, cD⟩
 have dm := cG.call cD
 refine ⟨.dB [.agg [.ar bm r_.1], I r_.2], rfl, ?_⟩
 refine aQ 3 [] (.n 16 (.agg [.ar bm r_.1]) (.n 17 (I r_.2) (.ss .a))) qe (by kernel_rfl) ?_
 refine ae ?_
 have dx := dm.ba (.kk (.k .e))
 refine aU [] 11 [.ar bm (ag.rep 16 (0 : UInt32))] (by kernel_rfl) dx ?_
 intro g3 mc dV
 refine ae <| cE [] 3 (.agg [.ar bm r_.1]) [.ar bm r_.1] (Pt.at g3 0) dV rfl .all (by kernel_rfl) (by kernel_rfl) ?_
 intro oH ed
 refine aQ 1 [] (.k (.ss .a)) qe (by kernel_rfl) ?_
 refine ad <| aa <| ab <| aj <| aQ 6 [] (.n 18 (.agg [.ar bm h]) (.n 19 (.agg [.ar bm r_.1]) (.n 21 (.u64 jd) (.n 22 (.b last) (.n 23 (.b node) (.s (.k .z))))))) (qT ed 0 rfl 0 8 [.ar bm h] (by kernel_rfl) (by decide) <| qT ed 3 rfl 0 16 [.ar bm r_.1] (by kernel_rfl) (by decide) <| qs g1 0 <| qB ed 1 rfl 0 (.u64 jd) (by kernel_rfl) <| qe) (by kernel_rfl) ?_
 refine ae ?_
 obtain ⟨aE, cB, hm⟩ := ob hm
 refine ax [] 24 _ EY (by kernel_rfl) (CS (F := N0) (O := N0) _ _ _ _ _ (Cx.refl _) _ cB) ?_
 rintro e_ qD ⟨rfl, eo⟩
 have eU := ed.call eo
 refine ⟨.agg [.ar bm aE], rfl, ?_⟩
 have bH := eU.ba (.ss (.k .z))
 refine ae <| cE [] 0 (.agg [.ar bm aE]) [.ar bm aE] (Pt.at g2 0) bH rfl .all (by kernel_rfl) (by kernel_rfl) ?_
 intro rL bD
 refine ad <| aa <| aG ?_
 obtain rfl := Option.some.inj hm
 refine aH [.agg [.ar bm aE]] (qo (.agg [.ar bm aE]) <| qc (fun w => Rd w (some ⟨g2, 0, none⟩) (SV.cl [.ar bm aE])) (bD.pV 0 rfl) <| qe) (by kernel_rfl) ?_
 have cS := bD.ba .z
 exact ⟨rfl, cS⟩
theorem iC {F O : Nat → Prop} {w : World} (mT : ag UInt32 8) (aW : UInt64) (aX : UInt64) (bB : List UInt8) (ao : Int) (b : List UInt8) (bW : Nat) (cd : Option Addr) (gS : Nat) (cf : Nat) (fm : Option Addr) (ig : Nat) (fw : Nat) (j3 : Ro F w fm (e8.all b)) (iV : b.length = ig) (jK : ig ≤ fw) (k : Cx F O w w [Bx 140 bW [.ar bm mT, .u64 aW, .u64 aX, sl cd gS cf, I ao, .v (.func (.func 62) ⟨SV.ak []⟩ ⟨SV.ak []⟩), .v (.func (.func 63) ⟨SV.ak []⟩ ⟨SV.ak []⟩)], Ow e8 cd gS cf bB]) (r : (ag UInt32 8 × UInt64 × UInt64 × List UInt8 × Int)) (hm : cz mT aW aX bB ao b = some r) :
    Calls Try.prog 114 (ak [pt bW 0, sl fm ig fw]) w (fun e w' => ∃ A n c, r.2.2.2.1.length = n ∧ e = .returned (SV.val (.dB [])) ∧ Cx F O w w' [Bx 140 bW [.ar bm r.1, .u64 r.2.1, .u64 r.2.2.1, sl A n c, I r.2.2.2.2, .v (.func (.func 62) ⟨SV.ak []⟩ ⟨SV.ak []⟩), .v (.func (.func 63) ⟨SV.ak []⟩ ⟨SV.ak []⟩)], Ow e8 A n c r.2.2.2.1]) := by
 unfold cz at hm
 obtain rfl := k.len 1 rfl
 subst iV
 refine calls [pt bW 0, sl fm b.length fw] Try.func114 rfl (of_decide_eq_true (by kernel_rfl)) ?_
 refine aI <| jQ (dw ao) (fun s L wr => ∃ (av : ag UInt32 8) (cC : UInt64) (gq : UInt64) (gd : List UInt8) (b1 : List UInt8) (A0 : Option Addr) (n0 : Nat) (c0 : Nat) (A1 : Option Addr) (c1 : Nat), (av, cC, gq, gd, b1) = s ∧ L = [(0, pt bW 0), (1, sl A1 b1.length c1)] ∧ gd.length = n0 ∧ Ro F w A1 (e8.all b1) ∧ b1.length ≤ c1 ∧ Cx F O w wr [Bx 140 bW [.ar bm av, .u64 cC, .u64 gq, sl A0 n0 c0, I ao, .v (.func (.func 62) ⟨SV.ak []⟩ ⟨SV.ak []⟩), .v (.func (.func 63) ⟨SV.ak []⟩ ⟨SV.ak []⟩)], Ow e8 A0 n0 c0 gd]) (mT, aW, aX, bB, b) r hm ⟨mT, aW, aX, bB, b, cd, bB.length, cf, fm, fw, rfl, rfl, k.len 1 rfl, j3, jK, k⟩ (by kernel_rfl) ?_
 intro rW L_ w_ y0 ef bj jH
 obtain ⟨av, cC, gq, gd, b1, A0, _, c0, A1, c1, rfl, rfl, rfl, h, hc, k_⟩ := ef
 have hm := bj; simp only [dw] at hm
 clear bj
 refine ab <| ab <| aV [] (.n 7 (.b (decide (0 < ((b1.length : Nat) : Int)))) .a) qe (by kernel_rfl) ?_
 refine aa <| aN (0 < ((b1.length : Nat) : Int)) (by kernel_rfl) (fun fZ => ?_) (fun fZ => ?_)
 · rw [if_pos fZ] at hm
   refine aL <| aa <| aI <| k7 (fun L wr => ∃ (kF : ag UInt32 8) (lb : UInt64) (eM : UInt64) (bX : List UInt8) (A2 : Option Addr) (n1 : Nat) (c2 : Nat), b7 ao b1 kF lb eM bX = some y0 ∧ L = [(0, pt bW 0), (1, sl A1 b1.length c1)] ∧ bX.length = n1 ∧ Cx F O w wr [Bx 140 bW [.ar bm kF, .u64 lb, .u64 eM, sl A2 n1 c2, I ao, .v (.func (.func 62) ⟨SV.ak []⟩ ⟨SV.ak []⟩), .v (.func (.func 63) ⟨SV.ak []⟩ ⟨SV.ak []⟩)], Ow e8 A2 n1 c2 bX]) ?_ ?_
   ·
    refine ab <| I_ aT (by kernel_rfl) (.n 17 (.b (decide (((gd.length : Nat) : Int) = ao))) (.s .a)) (fun m => qs bW 0 <| qs bW 0 <| qB (k_.drew m) 0 rfl 10 (sl A0 gd.length c0) (by kernel_rfl) <| qs bW 0 <| qs bW 0 <| qB (k_.drew m) 0 rfl 11 (I ao) (by kernel_rfl) <| qe) (by kernel_rfl) (fun m_ => ?_)
    have bN := k_.drew m_
    refine aa <| aN (((gd.length : Nat) : Int) = ao) (by kernel_rfl) (fun jJ => ?_) (fun jJ => ?_)
    · rw [if_pos jJ] at hm
      refine ab ?_
      have cG := bN.drew 1
      refine lJ aT (.q 0 1 (.q 1 1 (.q 2 1 (.q 3 0 (.q 4 0 (.q 5 1 (.q 6 1 (.q 7 1 (.q 8 0 (.q 9 0 (.op 10 (.q 11 1 (.q 12 1 (.q 14 1 (.q 15 1 (.q 13 2 (.op 16 .nil))))))))))))))))) [10, 16] cG (.c (.kk .e) (.c (.s (.k .e)) .l)) (by kernel_rfl) (fun _ => ?_)
      refine bo 3 1 [] (.n 19 (pt bW 0) (.n 21 (pt bW 0) (.s .a))) (fun x hx => qs bW 0 <| qe) (by kernel_rfl) (fun _ => ?_)
      refine bo 2 0 [] (.n 23 (.agg [.u64 cC, .u64 gq]) (.k (.s .a))) (fun x hx => qs bW 0 <| qT hx 0 rfl 8 2 [.u64 cC, .u64 gq] (by kernel_rfl) (by decide) <| qe) (by kernel_rfl) (fun _ => ?_)
      refine bo 3 1 [] (.n 26 (pt bW 11) .a) (fun x hx => qs bW 0 <| qs bW 0 <| qe) (by kernel_rfl) (fun _ => ?_)
      refine bo 2 0 [] (.n 28 (.u64 (UInt64.ofInt ao)) (.s .a)) (fun x hx => qB hx 0 rfl 11 (I ao) (by kernel_rfl) <| qe) (by kernel_rfl) (fun _ => ?_)
      refine bl (by kernel_rfl) rfl ?_
      obtain ⟨r_, cc, hm⟩ := ob hm
      refine ax [] 29 _ mF (by kernel_rfl) (jV (F := N0) (O := N0) _ _ _ (Cx.refl _) _ cc) ?_
      rintro e_ jh ⟨rfl, cD⟩
      have dm := cG.call cD
      refine ⟨.dB [.agg [.u64 r_.1, .u64 r_.2.1], .b r_.2.2], rfl, ?_⟩
      refine ⟨dm, fun _ => ?_⟩
      refine bo 4 1 [] (.n 18 (.dB [.agg [.u64 r_.1, .u64 r_.2.1], .b r_.2.2]) (.n 30 (.agg [.u64 r_.1, .u64 r_.2.1]) (.n 33 (pt bW 8) (.fi .a)))) (fun x hx => qs bW 0 <| qs bW 0 <| qe) (by kernel_rfl) (fun _ => ?_)
      refine bo 1 2 [] (.s .a) (fun x hx => qe) (by kernel_rfl) (fun _ => ?_)
      refine bl (by kernel_rfl) rfl <| cE [] 0 (.agg [.u64 r_.1, .u64 r_.2.1]) [.u64 r_.1, .u64 r_.2.1] (Pt.at bW 8) dm rfl (.k .h2) (by kernel_rfl) (by kernel_rfl) ?_
      intro kI dx
      refine ⟨(dx.ba (.s (.k .e))), fun _ => ?_⟩
      refine bC <| aa <| ab ?_
      have dV := dx.drew 1
      refine lJ aT (.q 0 1 (.q 1 1 (.q 2 1 (.q 3 0 (.q 4 0 (.q 5 1 (.q 6 1 (.q 7 0 (.q 8 0 (.q 9 1 (.q 10 1 (.q 11 0 (.q 12 0 (.q 13 1 (.q 14 1 (.q 15 0 (.q 16 0 (.op 17 (.q 18 1 (.q 19 1 (.op 20 .nil))))))))))))))))))))) [17, 20] dV (.c (.kk .e) (.c (.s (.k .e)) .l)) (by kernel_rfl) (fun _ => ?_)
      refine bo 3 1 [] (.n 34 (pt bW 0) (.n 36 (pt bW 0) (.ss .a))) (fun x hx => qs bW 0 <| qe) (by kernel_rfl) (fun _ => ?_)
      refine bo 2 0 [] (.n 38 (.v (.func (.func 62) ⟨SV.ak []⟩ ⟨SV.ak []⟩)) (.k (.s .a))) (fun x hx => qs bW 0 <| qB hx 0 rfl 12 (.v (.func (.func 62) ⟨SV.ak []⟩ ⟨SV.ak []⟩)) (by kernel_rfl) <| qe) (by kernel_rfl) (fun _ => ?_)
      refine bo 2 1 [] (.n 40 (pt bW 0) .a) (fun x hx => qs bW 0 <| qe) (by kernel_rfl) (fun _ => ?_)
      refine bo 2 0 [] (.n 42 (.agg [.ar bm av]) (.s .a)) (fun x hx => qs bW 0 <| qT hx 0 rfl 0 8 [.ar bm av] (by kernel_rfl) (by decide) <| qe) (by kernel_rfl) (fun _ => ?_)
      refine bo 2 1 [] (.n 44 (pt bW 0) .a) (fun x hx => qs bW 0 <| qe) (by kernel_rfl) (fun _ => ?_)
      refine bo 2 0 [] (.n 46 (sl A0 gd.length c0) (.s .a)) (fun x hx => qs bW 0 <| qB hx 0 rfl 10 (sl A0 gd.length c0) (by kernel_rfl) <| qe) (by kernel_rfl) (fun _ => ?_)
      refine bo 2 1 [] (.n 48 (pt bW 0) .a) (fun x hx => qs bW 0 <| qe) (by kernel_rfl) (fun _ => ?_)
      refine bo 2 0 [] (.n 50 (.agg [.u64 r_.1, .u64 r_.2.1]) (.s .a)) (fun x hx => qs bW 0 <| qT hx 0 rfl 8 2 [.u64 r_.1, .u64 r_.2.1] (by kernel_rfl) (by decide) <| qe) (by kernel_rfl) (fun _ => ?_)
      refine bl (by kernel_rfl) rfl ?_
      obtain ⟨aE, cB, hm⟩ := ob hm
      refine mm [] 51 [] [.agg [.ar bm av], sl A0 gd.length c0, .agg [.u64 r_.1, .u64 r_.2.1], .b false, .b false] [] zS (by kernel_rfl) (nv (F := N0) (O := N0) _ _ _ _ _ _ _ _ _ (Ro.n0 (dV.rd 1 rfl)) (dV.len 1 rfl) (dV.tU 1 rfl) (Cx.refl _) _ cB) ?_
      rintro e_ mb ⟨rfl, ed⟩
      have eo := dV.call ed
      refine ⟨.agg [.ar bm aE], rfl, ?_⟩
      refine ⟨eo, fun _ => ?_⟩
      refine bo 2 1 [] (.n 53 (pt bW 0) (.k (.fi (.s .a)))) (fun x hx => qs bW 0 <| qs bW 0 <| qe) (by kernel_rfl) (fun _ => ?_)
      refine bl (by kernel_rfl) rfl <| cE [] 0 (.agg [.ar bm aE]) [.ar bm aE] (Pt.at bW 0) eo rfl .h (by kernel_rfl) (by kernel_rfl) ?_
      intro mc eU
      refine ⟨(eU.ba (.s (.k .e))), fun _ => ?_⟩
      refine bC <| aa <| aj ?_
      obtain ⟨b2, wm, hm⟩ := ob hm
      have hs := dE wm
      have hl := fQ wm
      have hn : gd.length = gd.length := (eU.len 1 rfl)
      have rX : gd.length ≤ c0 := (eU.tU 1 rfl)
      have t_ : b2.length ≤ c0 := by omega
      refine aQ 8 [] (.n 59 (sl A0 b2.length c0) (.n 61 (pt bW 10) (.ss .a))) (qs bW 0 <| qs bW 0 <| qB eU 0 rfl 10 (sl A0 gd.length c0) (by kernel_rfl) <| qp (0 ≤ (0 : Int) ∧ (0 : Int) ≤ ((c0 : Nat) : Int)) (by omega) <| qo (.v (.slice A0 b2.length c0)) <| qp (Value.slice (nj A0 0 c0 1) (Int.toNat (0 : Int) - 0) (c0 - 0) = .slice A0 b2.length c0) (pY _ _ _ _ _ (by omega)) <| qs bW 0 <| qs bW 0 <| qe) (by kernel_rfl) ?_
      refine ae ?_
      have bH := eU.ba (.kk .e)
      refine cE [] 0 (sl A0 b2.length c0) [sl A0 b2.length c0] (Pt.at bW 10) bH rfl (.kk (.k .h)) (by kernel_rfl) (by kernel_rfl) ?_
      intro oH bD
      refine ad ?_
      have cS := bD.pre 1 rfl b2.length c0 b2 (by omega) (by omega) (by omega) (sd wm rfl)
      exact gK ⟨aE, r_.1, r_.2.1, b2, A0, b2.length, c0, hm, rfl, cS.len 1 rfl, cS⟩ (by kernel_rfl)
    rw [if_neg jJ] at hm
    refine aL ?_
    exact gK ⟨av, cC, gq, gd, A0, gd.length, c0, hm, rfl, bN.len 1 rfl, bN⟩ (by kernel_rfl)
   rintro L_ qD ⟨kF, lb, eM, bX, A2, _, c2, hm, rfl, rfl, dk⟩
   simp only [b7] at hm
   refine ab <| I_ aT (by kernel_rfl) (.n 4 (I (if aA (ao - ((bX.length : Nat) : Int)) < ((b1.length : Nat) : Int) then aA (ao - ((bX.length : Nat) : Int)) else ((b1.length : Nat) : Int))) .a) (fun m => qs bW 0 <| qs bW 0 <| qB (dk.drew m) 0 rfl 11 (I ao) (by kernel_rfl) <| qs bW 0 <| qs bW 0 <| qB (dk.drew m) 0 rfl 10 (sl A2 bX.length c2) (by kernel_rfl) <| qe) (by kernel_rfl) (fun nq => ?_)
   have dD := dk.drew nq
   refine aa <| ab ?_
   have et := dD.drew 1
   refine lJ aT (.q 5 0 (.q 6 0 (.q 7 0 (.q 0 1 (.q 1 1 (.q 2 1 (.q 3 0 (.q 4 0 (.op 8 (.q 9 1 (.q 10 1 (.op 11 .nil)))))))))))) [8, 11] et (.c (.k .z) (.c (.z) .l)) (by kernel_rfl) (fun _ => ?_)
   obtain ⟨b3, ud, hm⟩ := ob hm
   have LB := dE ud
   have yu := fQ ud
   have LC : b1.length = b1.length := rfl
   have rf : b1.length ≤ c1 := hc
   have tQ : b3.length ≤ c1 := by omega
   refine bo 3 0 [] (.n 82 (sl A1 b3.length c1) .a) (fun x hx => qp (0 ≤ (if aA (ao - ((bX.length : Nat) : Int)) < ((b1.length : Nat) : Int) then aA (ao - ((bX.length : Nat) : Int)) else ((b1.length : Nat) : Int)) ∧ (if aA (ao - ((bX.length : Nat) : Int)) < ((b1.length : Nat) : Int) then aA (ao - ((bX.length : Nat) : Int)) else ((b1.length : Nat) : Int)) ≤ ((c1 : Nat) : Int)) (by omega) <| qo (.v (.slice A1 b3.length c1)) <| qp (Value.slice (nj A1 0 c1 1) (Int.toNat (if aA (ao - ((bX.length : Nat) : Int)) < ((b1.length : Nat) : Int) then aA (ao - ((bX.length : Nat) : Int)) else ((b1.length : Nat) : Int)) - 0) (c1 - 0) = .slice A1 b3.length c1) (pY _ _ _ _ _ (by omega)) <| qe) (by kernel_rfl) (fun _ => ?_)
   refine bo 3 1 [] (.n 75 (pt bW 0) (.n 77 (pt bW 0) .a)) (fun x hx => qs bW 0 <| qe) (by kernel_rfl) (fun _ => ?_)
   refine bo 2 0 [] (.n 79 (sl A2 bX.length c2) (.k (.s .a))) (fun x hx => qs bW 0 <| qB hx 0 rfl 10 (sl A2 bX.length c2) (by kernel_rfl) <| qe) (by kernel_rfl) (fun _ => ?_)
   refine bl (by kernel_rfl) rfl ?_
   obtain ⟨b4, rl, hm⟩ := ob hm
   obtain ⟨hz, sG⟩ := fh rl
   refine dq (E := e8) (v := sl A1 b3.length c1) (ys := b3) er [] 83 1 (by kernel_rfl) et rfl (Src.sl (Rd.pre (h.cx et) ud rfl) rfl (by rfl)) rfl (by have := et.len 1 rfl; have := hm; omega) ?_
   intro A3 c3 rL eC
   rw [← sG] at eC
   refine ⟨(eC.ba (.k .z)), fun _ => ?_⟩
   refine bo 2 1 [] (.n 85 (pt bW 10) (.k (.ib .a))) (fun x hx => qs bW 0 <| qs bW 0 <| qe) (by kernel_rfl) (fun _ => ?_)
   refine bl (by kernel_rfl) rfl <| cE [] 0 (sl A3 (bX.length + b3.length) c3) [sl A3 (bX.length + b3.length) c3] (Pt.at bW 10) eC rfl (.kk (.k .h)) (by kernel_rfl) (by kernel_rfl) ?_
   intro uL eW
   refine ⟨(eW.ba .z), fun _ => ?_⟩
   refine bC <| aa ?_
   obtain ⟨b5, y5, hm⟩ := ob hm
   have MQ := dE y5
   have MR := fQ y5
   have Q7 : b1.length = b1.length := rfl
   have Aa : b1.length ≤ c1 := hc
   obtain ⟨A4, c4, e_, BC, hA, E9⟩ := G6 A1 (Int.toNat (if aA (ao - ((bX.length : Nat) : Int)) < ((b1.length : Nat) : Int) then aA (ao - ((bX.length : Nat) : Int)) else ((b1.length : Nat) : Int))) c1 1 (b1.length - Int.toNat (if aA (ao - ((bX.length : Nat) : Int)) < ((b1.length : Nat) : Int) then aA (ao - ((bX.length : Nat) : Int)) else ((b1.length : Nat) : Int))) b5.length (by omega) (by omega)
   refine aV [] (.n 1 (sl A4 b5.length c4) (.ib (.k .z))) (qp (0 ≤ (if aA (ao - ((bX.length : Nat) : Int)) < ((b1.length : Nat) : Int) then aA (ao - ((bX.length : Nat) : Int)) else ((b1.length : Nat) : Int)) ∧ (if aA (ao - ((bX.length : Nat) : Int)) < ((b1.length : Nat) : Int) then aA (ao - ((bX.length : Nat) : Int)) else ((b1.length : Nat) : Int)) ≤ ((b1.length : Nat) : Int)) (by omega) <| qo (.v (.slice A4 b5.length c4)) <| qp (Value.slice (nj A1 (Int.toNat (if aA (ao - ((bX.length : Nat) : Int)) < ((b1.length : Nat) : Int) then aA (ao - ((bX.length : Nat) : Int)) else ((b1.length : Nat) : Int))) c1 1) (b1.length - Int.toNat (if aA (ao - ((bX.length : Nat) : Int)) < ((b1.length : Nat) : Int) then aA (ao - ((bX.length : Nat) : Int)) else ((b1.length : Nat) : Int))) (c1 - Int.toNat (if aA (ao - ((bX.length : Nat) : Int)) < ((b1.length : Nat) : Int) then aA (ao - ((bX.length : Nat) : Int)) else ((b1.length : Nat) : Int))) = .slice A4 b5.length c4) e_ <| qe) (by kernel_rfl) ?_
   refine cu ?_
   exact fO (kF, lb, eM, b4, b5) (Option.some.inj hm).symm ⟨kF, lb, eM, b4, b5, A3, bX.length + b3.length, c3, A4, c4, rfl, rfl, eW.len 1 rfl, (Ro.cut h y5 rfl (by rfl) hA (by omega)), BC, eW⟩ (by kernel_rfl)
 rw [if_neg fZ] at hm
 refine cA (bu (bu (dZ ?_)))
 have hm := bT hm jH
 obtain rfl := Option.some.inj hm
 refine nk [] qe (by kernel_rfl) ?_
 exact ⟨A0, gd.length, c0, k_.len 1 rfl, rfl, k_⟩
theorem qn {F O : Nat → Prop} {w : World} (cF : Int) (b8 : Int) (bd : List UInt8) (bU : List UInt8) (fj : Bool) (b9 : UInt64) (eJ : Nat) (cm : Option Addr) (eK : Nat) (cp : Nat) (cW : Option Addr) (gE : Nat) (cX : Nat) (k : Cx F O w w [Bx 83 eJ [I cF, I b8, sl cm eK cp, sl cW gE cX, .b fj, .u64 b9, .v .nilIface], Ow e8 cm eK cp bd, Ow e8 cW gE cX bU]) (r : (Int × Int × List UInt8 × List UInt8 × ag UInt64 8 × UInt64 × UInt64 × List UInt8 × Int) ⊕ (Int × Int × List UInt8 × List UInt8 × ag UInt32 8 × UInt64 × UInt64 × List UInt8 × Int)) (hm : dJ cF b8 bd bU fj b9 = some r) :
    Calls Try.prog 47 (ak [pt eJ 0]) w (fun e w' => match r with | .inl r0 => ∃ A n c A1 n1 c1 g A2 n2 c2, r0.2.2.1.length = n ∧ r0.2.2.2.1.length = n1 ∧ r0.2.2.2.2.2.2.2.1.length = n2 ∧ e = .returned (SV.val (.dB [])) ∧ Cx F O w w' [Bx 83 eJ [I r0.1, I r0.2.1, sl A n c, sl A1 n1 c1, .b false, .u64 0, .v (.iface 126 (SV.val (pt g 0)))], Ow e8 A n c r0.2.2.1, Ow e8 A1 n1 c1 r0.2.2.2.1, Bx 132 g [.ar bw r0.2.2.2.2.1, .u64 r0.2.2.2.2.2.1, .u64 r0.2.2.2.2.2.2.1, sl A2 n2 c2, I r0.2.2.2.2.2.2.2.2, .v (.func (.func 59) ⟨SV.ak []⟩ ⟨SV.ak []⟩), .v (.func (.func 60) ⟨SV.ak []⟩ ⟨SV.ak []⟩)], Ow e8 A2 n2 c2 r0.2.2.2.2.2.2.2.1] | .inr r1 => ∃ A3 n3 c3 A4 n4 c4 g1 A5 n5 c5, r1.2.2.1.length = n3 ∧ r1.2.2.2.1.length = n4 ∧ r1.2.2.2.2.2.2.2.1.length = n5 ∧ e = .returned (SV.val (.dB [])) ∧ Cx F O w w' [Bx 83 eJ [I r1.1, I r1.2.1, sl A3 n3 c3, sl A4 n4 c4, .b false, .u64 0, .v (.iface 136 (SV.val (pt g1 0)))], Ow e8 A3 n3 c3 r1.2.2.1, Ow e8 A4 n4 c4 r1.2.2.2.1, Bx 140 g1 [.ar bm r1.2.2.2.2.1, .u64 r1.2.2.2.2.2.1, .u64 r1.2.2.2.2.2.2.1, sl A5 n5 c5, I r1.2.2.2.2.2.2.2.2, .v (.func (.func 62) ⟨SV.ak []⟩ ⟨SV.ak []⟩), .v (.func (.func 63) ⟨SV.ak []⟩ ⟨SV.ak []⟩)], Ow e8 A5 n5 c5 r1.2.2.2.2.2.2.2.1]) := by
 unfold dJ at hm
 obtain rfl := k.len 1 rfl
 obtain rfl := k.len 2 rfl
 refine calls [pt eJ 0] Try.func47 rfl (of_decide_eq_true (by kernel_rfl)) ?_
 refine ab ?_
 have k_ := k.drew 1
 refine lJ aT (.q 0 1 (.q 1 1 (.q 2 1 (.q 3 0 (.q 4 0 (.q 5 1 (.q 6 1 (.q 7 0 (.q 8 0 (.op 9 (.q 10 1 (.q 11 1 (.op 12 .nil))))))))))))) [9, 12] k_ (.c (.kk (.k .e)) (.c (.s (.kk .e)) .l)) (by kernel_rfl) (fun _ => ?_)
 refine bo 3 1 [] (.n 2 (pt eJ 0) (.n 4 (pt eJ 0) .a)) (fun x hx => qs eJ 0 <| qe) (by kernel_rfl) (fun _ => ?_)
 refine bo 2 0 [] (.n 6 (I cF) (.k (.s .a))) (fun x hx => qs eJ 0 <| qB hx 0 rfl 0 (I cF) (by kernel_rfl) <| qe) (by kernel_rfl) (fun _ => ?_)
 refine bo 2 1 [] (.n 8 (pt eJ 0) .a) (fun x hx => qs eJ 0 <| qe) (by kernel_rfl) (fun _ => ?_)
 refine bo 2 0 [] (.n 10 (sl cm bd.length cp) (.s .a)) (fun x hx => qs eJ 0 <| qB hx 0 rfl 2 (sl cm bd.length cp) (by kernel_rfl) <| qe) (by kernel_rfl) (fun _ => ?_)
 refine bl (by kernel_rfl) rfl ?_
 obtain ⟨r_, cc, hm⟩ := ob hm
 refine ax [] 11 _ EO (by kernel_rfl) (wk (F := N0) (O := N0) _ _ _ _ _ (Ro.n0 (k_.rd 1 rfl)) (k_.len 1 rfl) (k_.tU 1 rfl) (Cx.refl _) _ cc) ?_
 rcases r_ with aE | bz
 · simp only [Sum.elim_inl, Sum.elim_inr] at hm
   rintro e_ w_ ⟨g0, A0, _, c0, rfl, rfl, bN⟩
   have cG := k_.call bN
   refine ⟨.v (.iface 126 (SV.val (pt g0 0))), rfl, ?_⟩
   refine ⟨(cG.ba (.kk (.k .z))), fun _ => ?_⟩
   refine bo 2 1 [] (.n 13 (pt eJ 6) (.k (.ib .a))) (fun x hx => qs eJ 0 <| qs eJ 0 <| qe) (by kernel_rfl) (fun _ => ?_)
   refine bl (by kernel_rfl) rfl <| cE [] 0 (.v (.iface 126 (SV.val (pt g0 0)))) [.v (.iface 126 (SV.val (pt g0 0)))] (Pt.at eJ 6) cG rfl (.bb (.kk .h)) (by kernel_rfl) (by kernel_rfl) ?_
   intro jh cD
   refine ⟨(cD.ba (.s (.kk .z))), fun _ => ?_⟩
   refine bC <| aa <| ab <| aj <| aQ 3 [] (.n 16 (pt eJ 4) (.ss .a)) (qs eJ 0 <| qs eJ 0 <| qe) (by kernel_rfl) ?_
   refine ae <| cE [] 0 (.b false) [.b false] (Pt.at eJ 4) cD rfl (.bb .h) (by kernel_rfl) (by kernel_rfl) ?_
   intro kI dm
   refine ad <| aa <| ab <| aj <| aQ 3 [] (.n 19 (pt eJ 5) (.s .a)) (qs eJ 0 <| qs eJ 0 <| qe) (by kernel_rfl) ?_
   refine ae <| cE [] 0 (.u64 0) [.u64 0] (Pt.at eJ 5) dm rfl (.bb (.k .h)) (by kernel_rfl) (by kernel_rfl) ?_
   intro mb dx
   refine ad <| aa <| ab <| aV [] (.n 25 (.b (decide (0 < ((bU.length : Nat) : Int)))) (.s .a)) (qs eJ 0 <| qs eJ 0 <| qB dx 0 rfl 3 (sl cW bU.length cX) (by kernel_rfl) <| qe) (by kernel_rfl) ?_
   refine aa <| aN (0 < ((bU.length : Nat) : Int)) (by kernel_rfl) (fun hc => ?_) (fun hc => ?_)
   · rw [if_pos hc] at hm
     have dV := dx.drew 1
     refine lJ aT (.q 0 3 (.q 1 3 (.q 2 3 (.q 3 2 (.q 14 2 (.q 15 2 (.q 4 3 (.q 5 3 (.q 6 2 (.q 7 1 (.q 8 3 (.q 9 3 (.q 10 2 (.q 11 1 (.op 12 (.op 13 (.op 16 .nil))))))))))))))))) [12, 13, 16] dV (.c (.bb (.k .e)) (.c (.bb (.k .e)) (.c (.kk (.k .z)) .l))) (by kernel_rfl) (fun _ => ?_)
     refine bo 3 3 [] (.n 28 (pt eJ 6) (.s .a)) (fun x hx => qs eJ 0 <| qs eJ 0 <| qe) (by kernel_rfl) (fun _ => ?_)
     refine bo 3 2 [] (.n 41 (.v (.iface 126 (SV.val (pt g0 0)))) (.s .a)) (fun x hx => qB hx 0 rfl 6 (.v (.iface 126 (SV.val (pt g0 0)))) (by kernel_rfl) <| qe) (by kernel_rfl) (fun _ => ?_)
     refine bo 2 3 [] (.n 31 (pt eJ 0) .a) (fun x hx => qs eJ 0 <| qe) (by kernel_rfl) (fun _ => ?_)
     refine bo 1 2 [] (.n 32 (pt eJ 3) (.s .a)) (fun x hx => qs eJ 0 <| qe) (by kernel_rfl) (fun _ => ?_)
     refine bo 1 1 [] (.n 33 (sl cW bU.length cX) (.s .a)) (fun x hx => qB hx 0 rfl 3 (sl cW bU.length cX) (by kernel_rfl) <| qe) (by kernel_rfl) (fun _ => ?_)
     refine bo 2 3 [] (.n 35 (pt eJ 0) (.kk .z)) (fun x hx => qs eJ 0 <| qe) (by kernel_rfl) (fun _ => ?_)
     refine bo 1 2 [] (.n 36 (pt eJ 0) (.s .a)) (fun x hx => qs eJ 0 <| qe) (by kernel_rfl) (fun _ => ?_)
     refine bo 1 1 [] (.n 37 (I cF) (.s .a)) (fun x hx => qB hx 0 rfl 0 (I cF) (by kernel_rfl) <| qe) (by kernel_rfl) (fun _ => ?_)
     refine bl (by kernel_rfl) rfl ?_
     have ed := dV.ba (.bb (.k .e))
     obtain ⟨dy, kz, hm⟩ := ob hm
     refine ax [] 38 _ si (by kernel_rfl) (jD (F := N0) (O := N0) _ (Cx.refl _) _ kz) ?_
     rintro e_ mc ⟨rfl, eo⟩
     have eU := ed.call eo
     refine ⟨I dy, rfl, ?_⟩
     refine ⟨eU, fun _ => ?_⟩
     refine bl (by kernel_rfl) rfl ?_
     obtain ⟨fu, oh, hm⟩ := ob hm
     refine ax [] 39 _ sj (by kernel_rfl) (j4 (F := N0) (O := N0) _ _ _ _ _ (Ro.n0 (eU.rd 2 rfl)) (eU.len 2 rfl) (eU.tU 2 rfl) (Cx.refl _) _ oh) ?_
     rintro e_ oH ⟨A6, _, c6, rfl, rfl, bH⟩
     have bD := eU.call bH
     refine ⟨sl A6 fu.length c6, rfl, ?_⟩
     refine ⟨(bD.ba (.bb (.k .z))), fun _ => ?_⟩
     refine bl (by kernel_rfl) rfl ?_
     obtain ⟨dj, oo, hm⟩ := ob hm
     obtain ⟨F1, O1, oV, hO, xK, hF, hb⟩ := bD.go (.r (.r (.r (.i (.i (.r .e))))))
     refine kW [] 42 126 (pt g0 0) [sl A6 fu.length c6] ku rfl (by kernel_rfl) (iB (F := F1) (O := O1) _ _ _ _ _ _ _ _ _ _ _ _ _ (Ro.lR xK 3 rfl) (bD.len 5 rfl) (bD.tU 5 rfl) oV _ oo) ?_
     rintro e_ qD ⟨A7, _, c7, rfl, rfl, cS⟩
     have dk := hb qD _ _ cS (.c (.c .n))
     refine ⟨.dB [], rfl, ?_⟩
     have dD := dk.ba (.bb (.k .z))
     refine ⟨(dD.ba (.ss (.kk (.k .e)))), fun _ => ?_⟩
     refine bC ?_
     obtain rfl := Option.some.inj hm
     refine nk [] qe (by kernel_rfl) ?_
     have et := ((((dD.pk (.t .h)).pk (.t .h)).pk (.t (.t (.t (.t .h))))).pk (.t (.t (.t (.t .h))))).pk (.t (.t (.t (.t .h))))
     exact ⟨cm, bd.length, cp, cW, bU.length, cX, g0, A7, dj.2.2.2.1.length, c7, et.len 1 rfl, et.len 2 rfl, et.len 4 rfl, rfl, et⟩
   rw [if_neg hc] at hm
   refine aL ?_
   obtain rfl := Option.some.inj hm
   refine nk [] qe (by kernel_rfl) ?_
   exact ⟨cm, bd.length, cp, cW, bU.length, cX, g0, A0, aE.2.length, c0, dx.len 1 rfl, dx.len 2 rfl, dx.len 4 rfl, rfl, dx⟩
 · simp only [Sum.elim_inl, Sum.elim_inr] at hm
   rintro e_ SE ⟨g2, A8, _, c8, rfl, rfl, eC⟩
   have eW := k_.call eC
   refine ⟨.v (.iface 136 (SV.val (pt g2 0))), rfl, ?_⟩
   refine ⟨(eW.ba (.kk (.k .z))), fun _ => ?_⟩
   refine bo 2 1 [] (.n 13 (pt eJ 6) (.k (.ib .a))) (fun x hx => qs eJ 0 <| qs eJ 0 <| qe) (by kernel_rfl) (fun _ => ?_)
   refine bl (by kernel_rfl) rfl <| cE [] 0 (.v (.iface 136 (SV.val (pt g2 0)))) [.v (.iface 136 (SV.val (pt g2 0)))] (Pt.at eJ 6) eW rfl (.bb (.kk .h)) (by kernel_rfl) (by kernel_rfl) ?_
   intro rL fN
   refine ⟨(fN.ba (.s (.kk .z))), fun _ => ?_⟩
   refine bC <| aa <| ab <| aj <| aQ 3 [] (.n 16 (pt eJ 4) (.ss .a)) (qs eJ 0 <| qs eJ 0 <| qe) (by kernel_rfl) ?_
   refine ae <| cE [] 0 (.b false) [.b false] (Pt.at eJ 4) fN rfl (.bb .h) (by kernel_rfl) (by kernel_rfl) ?_
   intro uL iW
   refine ad <| aa <| ab <| aj <| aQ 3 [] (.n 19 (pt eJ 5) (.s .a)) (qs eJ 0 <| qs eJ 0 <| qe) (by kernel_rfl) ?_
   refine ae <| cE [] 0 (.u64 0) [.u64 0] (Pt.at eJ 5) iW rfl (.bb (.k .h)) (by kernel_rfl) (by kernel_rfl) ?_
   intro xI fH
   refine ad <| aa <| ab <| aV [] (.n 25 (.b (decide (0 < ((bU.length : Nat) : Int)))) (.s .a)) (qs eJ 0 <| qs eJ 0 <| qB fH 0 rfl 3 (sl cW bU.length cX) (by kernel_rfl) <| qe) (by kernel_rfl) ?_
   refine aa <| aN (0 < ((bU.length : Nat) : Int)) (by kernel_rfl) (fun vD => ?_) (fun vD => ?_)
   · rw [if_pos vD] at hm
     have gA := fH.drew 1
     refine lJ aT (.q 0 3 (.q 1 3 (.q 2 3 (.q 3 2 (.q 14 2 (.q 15 2 (.q 4 3 (.q 5 3 (.q 6 2 (.q 7 1 (.q 8 3 (.q 9 3 (.q 10 2 (.q 11 1 (.op 12 (.op 13 (.op 16 .nil))))))))))))))))) [12, 13, 16] gA (.c (.bb (.k .e)) (.c (.bb (.k .e)) (.c (.kk (.k .z)) .l))) (by kernel_rfl) (fun _ => ?_)
     refine bo 3 3 [] (.n 28 (pt eJ 6) (.s .a)) (fun x hx => qs eJ 0 <| qs eJ 0 <| qe) (by kernel_rfl) (fun _ => ?_)
     refine bo 3 2 [] (.n 41 (.v (.iface 136 (SV.val (pt g2 0)))) (.s .a)) (fun x hx => qB hx 0 rfl 6 (.v (.iface 136 (SV.val (pt g2 0)))) (by kernel_rfl) <| qe) (by kernel_rfl) (fun _ => ?_)
     refine bo 2 3 [] (.n 31 (pt eJ 0) .a) (fun x hx => qs eJ 0 <| qe) (by kernel_rfl) (fun _ => ?_)
     refine bo 1 2 [] (.n 32 (pt eJ 3) (.s .a)) (fun x hx => qs eJ 0 <| qe) (by kernel_rfl) (fun _ => ?_)
     refine bo 1 1 [] (.n 33 (sl cW bU.length cX) (.s .a)) (fun x hx => qB hx 0 rfl 3 (sl cW bU.length cX) (by kernel_rfl) <| qe) (by kernel_rfl) (fun _ => ?_)
     refine bo 2 3 [] (.n 35 (pt eJ 0) (.kk .z)) (fun x hx => qs eJ 0 <| qe) (by kernel_rfl) (fun _ => ?_)
     refine bo 1 2 [] (.n 36 (pt eJ 0) (.s .a)) (fun x hx => qs eJ 0 <| qe) (by kernel_rfl) (fun _ => ?_)
     refine bo 1 1 [] (.n 37 (I cF) (.s .a)) (fun x hx => qB hx 0 rfl 0 (I cF) (by kernel_rfl) <| qe) (by kernel_rfl) (fun _ => ?_)
     refine bl (by kernel_rfl) rfl ?_
     have iA := gA.ba (.bb (.k .e))
     obtain ⟨gH, qj, hm⟩ := ob hm
     refine ax [] 38 _ si (by kernel_rfl) (jD (F := N0) (O := N0) _ (Cx.refl _) _ qj) ?_
     rintro e_ rk ⟨rfl, jL⟩
     have iv := iA.call jL
     refine ⟨I gH, rfl, ?_⟩
     refine ⟨iv, fun _ => ?_⟩
     refine bl (by kernel_rfl) rfl ?_
     obtain ⟨ie, xO, hm⟩ := ob hm
     refine ax [] 39 _ sj (by kernel_rfl) (j4 (F := N0) (O := N0) _ _ _ _ _ (Ro.n0 (iv.rd 2 rfl)) (iv.len 2 rfl) (iv.tU 2 rfl) (Cx.refl _) _ xO) ?_
     rintro e_ uc ⟨A9, _, c9, rfl, rfl, iX⟩
     have jM := iv.call iX
     refine ⟨sl A9 ie.length c9, rfl, ?_⟩
     refine ⟨(jM.ba (.bb (.k .z))), fun _ => ?_⟩
     refine bl (by kernel_rfl) rfl ?_
     obtain ⟨o0, CT, hm⟩ := ob hm
     obtain ⟨MU, MW, HR, Q8, Kj, PK, MY⟩ := jM.go (.r (.r (.r (.i (.i (.r .e))))))
     refine kW [] 42 136 (pt g2 0) [sl A9 ie.length c9] kv rfl (by kernel_rfl) (iC (F := MU) (O := MW) _ _ _ _ _ _ _ _ _ _ _ _ _ (Ro.lR Kj 3 rfl) (jM.len 5 rfl) (jM.tU 5 rfl) HR _ CT) ?_
     rintro e_ wg ⟨Jh, _, Ji, rfl, rfl, lM⟩
     have je := MY wg _ _ lM (.c (.c .n))
     refine ⟨.dB [], rfl, ?_⟩
     have l8 := je.ba (.bb (.k .z))
     refine ⟨(l8.ba (.ss (.kk (.k .e)))), fun _ => ?_⟩
     refine bC ?_
     obtain rfl := Option.some.inj hm
     refine nk [] qe (by kernel_rfl) ?_
     have lE := ((((l8.pk (.t .h)).pk (.t .h)).pk (.t (.t (.t (.t .h))))).pk (.t (.t (.t (.t .h))))).pk (.t (.t (.t (.t .h))))
     exact ⟨cm, bd.length, cp, cW, bU.length, cX, g2, Jh, o0.2.2.2.1.length, Ji, lE.len 1 rfl, lE.len 2 rfl, lE.len 4 rfl, rfl, lE⟩
   rw [if_neg vD] at hm
   refine aL ?_
   obtain rfl := Option.some.inj hm
   refine nk [] qe (by kernel_rfl) ?_
   exact ⟨cm, bd.length, cp, cW, bU.length, cX, g2, A8, bz.2.length, c8, fH.len 1 rfl, fH.len 2 rfl, fH.len 4 rfl, rfl, fH⟩
theorem xP {F O : Nat → Prop} {w : World} (k_ : Int) (block : List UInt8) (mU : Int) (key : List UInt8) (dO : Option Addr) (bd : Nat) (dP : Nat) (lG : Option Addr) (bU : Nat) (lH : Nat) (kU : Ro F w dO (e8.all block)) (lF : block.length = bd) (kA : bd ≤ dP) (xQ : Ro F w lG (e8.all key)) (tu : key.length = bU) (wI : bU ≤ lH) (k : Cx F O w w []) (r : (Int × Int × List UInt8 × List UInt8 × ag UInt64 8 × UInt64 × UInt64 × List UInt8 × Int) ⊕ (Int × Int × List UInt8 × List UInt8 × ag UInt32 8 × UInt64 × UInt64 × List UInt8 × Int)) (hm : kg k_ block mU key = some r) :
    Calls Try.prog 28 (ak [I k_, sl dO bd dP, I mU, sl lG bU lH]) w (fun e w' => match r with | .inl r0 => ∃ g A n c A1 n1 c1 g1 A2 n2 c2, r0.2.2.1.length = n ∧ r0.2.2.2.1.length = n1 ∧ r0.2.2.2.2.2.2.2.1.length = n2 ∧ e = .returned (SV.val (pt g 0)) ∧ Cx F O w w' [Bx 83 g [I r0.1, I r0.2.1, sl A n c, sl A1 n1 c1, .b false, .u64 0, .v (.iface 126 (SV.val (pt g1 0)))], Ow e8 A n c r0.2.2.1, Ow e8 A1 n1 c1 r0.2.2.2.1, Bx 132 g1 [.ar bw r0.2.2.2.2.1, .u64 r0.2.2.2.2.2.1, .u64 r0.2.2.2.2.2.2.1, sl A2 n2 c2, I r0.2.2.2.2.2.2.2.2, .v (.func (.func 59) ⟨SV.ak []⟩ ⟨SV.ak []⟩), .v (.func (.func 60) ⟨SV.ak []⟩ ⟨SV.ak []⟩)], Ow e8 A2 n2 c2 r0.2.2.2.2.2.2.2.1] | .inr r1 => ∃ g2 A3 n3 c3 A4 n4 c4 g3 A5 n5 c5, r1.2.2.1.length = n3 ∧ r1.2.2.2.1.length = n4 ∧ r1.2.2.2.2.2.2.2.1.length = n5 ∧ e = .returned (SV.val (pt g2 0)) ∧ Cx F O w w' [Bx 83 g2 [I r1.1, I r1.2.1, sl A3 n3 c3, sl A4 n4 c4, .b false, .u64 0, .v (.iface 136 (SV.val (pt g3 0)))], Ow e8 A3 n3 c3 r1.2.2.1, Ow e8 A4 n4 c4 r1.2.2.2.1, Bx 140 g3 [.ar bm r1.2.2.2.2.1, .u64 r1.2.2.2.2.2.1, .u64 r1.2.2.2.2.2.2.1, sl A5 n5 c5, I r1.2.2.2.2.2.2.2.2, .v (.func (.func 62) ⟨SV.ak []⟩ ⟨SV.ak []⟩), .v (.func (.func 63) ⟨SV.ak []⟩ ⟨SV.ak []⟩)], Ow e8 A5 n5 c5 r1.2.2.2.2.2.2.2.1]) := by
 unfold kg at hm
 subst lF
 subst tu
 refine calls [I k_, sl dO block.length dP, I mU, sl lG key.length lH] Try.func28 rfl (of_decide_eq_true (by kernel_rfl)) ?_
 refine ab <| aV [] .a qe (by kernel_rfl) ?_
 refine aa <| ab <| aj <| aQ 3 [] (.n 10 (I k_) (.n 11 (I mU) (.n 12 (sl dO block.length dP) (.ib .a)))) qe (by kernel_rfl) ?_
 refine ae ?_
 have bN := k.nil e8
 obtain ⟨b, j3, hm⟩ := ob hm
 obtain ⟨hz, hl⟩ := fh j3
 refine dq (E := e8) (v := sl dO block.length dP) (ys := block) er [] 13 0 (by kernel_rfl) bN rfl (Src.sl (kU.cx bN) rfl (by rfl)) rfl (by have := bN.len 0 rfl; have := hm; omega) ?_
 intro A0 c0 w_ cG
 rw [← hl] at cG
 refine aQ 1 [] (.n 14 (sl lG key.length lH) (.nJ .z)) qe (by kernel_rfl) ?_
 refine ae ?_
 have cD := cG.nil e8
 obtain ⟨b1, na, hm⟩ := ob hm
 obtain ⟨DI, yu⟩ := fh na
 refine dq (E := e8) (v := sl lG key.length lH) (ys := key) er [] 15 1 (by kernel_rfl) cD rfl (Src.sl (xQ.cx cD) rfl (by rfl)) rfl (by have := cD.len 1 rfl; have := hm; omega) ?_
 intro A6 c6 jh dm
 rw [← yu] at dm
 refine aQ 1 [] (.n 16 (.agg [I k_, I mU, sl A0 (0 + block.length) c0, sl A6 (0 + key.length) c6, .b false, .u64 0, .v .nilIface]) .z) qe (by kernel_rfl) ?_
 refine ae <| eg [] 17 (.agg [I k_, I mU, sl A0 (0 + block.length) c0, sl A6 (0 + key.length) c6, .b false, .u64 0, .v .nilIface]) [I k_, I mU, sl A0 (0 + block.length) c0, sl A6 (0 + key.length) c6, .b false, .u64 0, .v .nilIface] (by kernel_rfl) dm ?_
 intro g0 kI dx
 refine aQ 1 [] (.n 9 (pt g0 0) .z) qe (by kernel_rfl) ?_
 refine ad <| aa <| ab <| aj <| aQ 1 [] (.n 18 (pt g0 0) .a) qe (by kernel_rfl) ?_
 refine ae ?_
 obtain ⟨r_, cc, hm⟩ := ob hm
 have dV := ((dx.pk (.t .h)).pk (.t .h)).pk (.t (.t .h))
 obtain ⟨F1, O1, oV, hO, xK, hF, hb⟩ := dV.go (.i (.i (.i .e)))
 refine ax [] 19 _ EN (by kernel_rfl) (qn (F := F1) (O := O1) _ _ _ _ _ _ _ _ _ _ _ _ _ oV _ cc) ?_
 rcases r_ with aE | bz
 · simp only [Sum.elim_inl, Sum.elim_inr] at hm
   rintro e_ mb ⟨A7, _, c7, A8, _, c8, g4, A9, _, c9, rfl, rfl, rfl, rfl, ed⟩
   have eo := hb mb _ _ ed (.c (.c (.c (.c (.c .n)))))
   refine ⟨.dB [], rfl, ?_⟩
   refine ad <| aa <| ab <| aV [] (.n 8 (pt g0 0) .z) qe (by kernel_rfl) ?_
   refine aa <| aG ?_
   obtain rfl := Option.some.inj hm
   refine aH [pt g0 0] qe (by kernel_rfl) ?_
   exact ⟨g0, A7, aE.2.2.1.length, c7, A8, aE.2.2.2.1.length, c8, g4, A9, aE.2.2.2.2.2.2.2.1.length, c9, eo.len 1 rfl, eo.len 2 rfl, eo.len 4 rfl, rfl, eo⟩
 · simp only [Sum.elim_inl, Sum.elim_inr] at hm
   rintro e_ mc ⟨Jh, _, Ji, LD, _, LF, g5, Jj, _, Jk, rfl, rfl, rfl, rfl, eU⟩
   have bH := hb mc _ _ eU (.c (.c (.c (.c (.c .n)))))
   refine ⟨.dB [], rfl, ?_⟩
   refine ad <| aa <| ab <| aV [] (.n 8 (pt g0 0) .z) qe (by kernel_rfl) ?_
   refine aa <| aG ?_
   obtain rfl := Option.some.inj hm
   refine aH [pt g0 0] qe (by kernel_rfl) ?_
   exact ⟨g0, Jh, bz.2.2.1.length, Ji, LD, bz.2.2.2.1.length, LF, g5, Jj, bz.2.2.2.2.2.2.2.1.length, Jk, bH.len 1 rfl, bH.len 2 rfl, bH.len 4 rfl, rfl, bH⟩
theorem y8 {F O : Nat → Prop} {w : World} (k_ : Int) (ay : Int) (bg : Int) (aB : Int) (aJ : Int) (a8 : UInt32) (au : UInt64) (aS : UInt32) (ai : Int) (aF : Int) (aM : List UInt8) (ah : List UInt8) (key : List UInt8) (a6 : Option Addr) (dN : Nat) (a7 : Nat) (aC : Option Addr) (bI : Nat) (aD : Nat) (lG : Option Addr) (bU : Nat) (lH : Nat) (jC : Ro F w a6 (e8.all aM)) (ia : aM.length = dN) (jc : dN ≤ a7) (eX : Ro F w aC (e8.all ah)) (eu : ah.length = bI) (e9 : bI ≤ aD) (xQ : Ro F w lG (e8.all key)) (tu : key.length = bU) (wI : bU ≤ lH) (k : Cx F O w w []) (r : Int ⊕ (Int × Int × List UInt8 × List UInt8 × ag UInt64 8 × UInt64 × UInt64 × List UInt8 × Int) ⊕ (Int × Int × List UInt8 × List UInt8 × ag UInt32 8 × UInt64 × UInt64 × List UInt8 × Int)) (hm : lh k_ ay bg aB aJ a8 au aS ai aF aM ah key = some r) :
    Calls Try.prog 23 (ak [I k_, .agg [I ay, I bg, I aB, I aJ, .u32 a8, .u64 au, .u32 aS, I ai, I aF, sl a6 dN a7, sl aC bI aD], sl lG bU lH]) w (fun e w' => match r with | .inl r0 => e = .returned (SV.val (.dB [.v (.pointer none), I r0])) ∧ Cx F O w w' [] | .inr (.inl r1) => ∃ g A n c A1 n1 c1 g1 A2 n2 c2, r1.2.2.1.length = n ∧ r1.2.2.2.1.length = n1 ∧ r1.2.2.2.2.2.2.2.1.length = n2 ∧ e = .returned (SV.val (.dB [pt g 0, I 0])) ∧ Cx F O w w' [Bx 83 g [I r1.1, I r1.2.1, sl A n c, sl A1 n1 c1, .b false, .u64 0, .v (.iface 126 (SV.val (pt g1 0)))], Ow e8 A n c r1.2.2.1, Ow e8 A1 n1 c1 r1.2.2.2.1, Bx 132 g1 [.ar bw r1.2.2.2.2.1, .u64 r1.2.2.2.2.2.1, .u64 r1.2.2.2.2.2.2.1, sl A2 n2 c2, I r1.2.2.2.2.2.2.2.2, .v (.func (.func 59) ⟨SV.ak []⟩ ⟨SV.ak []⟩), .v (.func (.func 60) ⟨SV.ak []⟩ ⟨SV.ak []⟩)], Ow e8 A2 n2 c2 r1.2.2.2.2.2.2.2.1] | .inr (.inr r2) => ∃ g2 A3 n3 c3 A4 n4 c4 g3 A5 n5 c5, r2.2.2.1.length = n3 ∧ r2.2.2.2.1.length = n4 ∧ r2.2.2.2.2.2.2.2.1.length = n5 ∧ e = .returned (SV.val (.dB [pt g2 0, I 0])) ∧ Cx F O w w' [Bx 83 g2 [I r2.1, I r2.2.1, sl A3 n3 c3, sl A4 n4 c4, .b false, .u64 0, .v (.iface 136 (SV.val (pt g3 0)))], Ow e8 A3 n3 c3 r2.2.2.1, Ow e8 A4 n4 c4 r2.2.2.2.1, Bx 140 g3 [.ar bm r2.2.2.2.2.1, .u64 r2.2.2.2.2.2.1, .u64 r2.2.2.2.2.2.2.1, sl A5 n5 c5, I r2.2.2.2.2.2.2.2.2, .v (.func (.func 62) ⟨SV.ak []⟩ ⟨SV.ak []⟩), .v (.func (.func 63) ⟨SV.ak []⟩ ⟨SV.ak []⟩)], Ow e8 A5 n5 c5 r2.2.2.2.2.2.2.2.1]) := by
 unfold lh at hm
 subst ia
 subst eu
 subst tu
 refine calls [I k_, .agg [I ay, I bg, I aB, I aJ, .u32 a8, .u64 au, .u32 aS, I ai, I aF, sl a6 aM.length a7, sl aC ah.length aD], sl lG key.length lH] Try.func23 rfl (of_decide_eq_true (by kernel_rfl)) ?_
 refine ab <| aj <| ae <| eg [] 4 (.agg [I ay, I bg, I aB, I aJ, .u32 a8, .u64 au, .u32 aS, I ai, I aF, sl a6 aM.length a7, sl aC ah.length aD]) [I ay, I bg, I aB, I aJ, .u32 a8, .u64 au, .u32 aS, I ai, I aF, sl a6 aM.length a7, sl aC ah.length aD] (by kernel_rfl) k ?_
 intro g0 w_ bN
 refine aQ 2 [] (.kk (.s .a)) qe (by kernel_rfl) ?_
 refine ad <| aa <| ab <| aj <| aQ 2 [] (.n 11 (I k_) (.n 12 (.agg [I ay, I bg, I aB, I aJ, .u32 a8, .u64 au, .u32 aS, I ai, I aF, sl a6 aM.length a7, sl aC ah.length aD]) .a)) (qT bN 0 rfl 0 11 [I ay, I bg, I aB, I aJ, .u32 a8, .u64 au, .u32 aS, I ai, I aF, sl a6 aM.length a7, sl aC ah.length aD] (by kernel_rfl) (by decide) <| qe) (by kernel_rfl) ?_
 refine ae ?_
 obtain ⟨r_, cc, hm⟩ := ob hm
 refine ax [] 13 _ EH (by kernel_rfl) (tm (F := N0) (O := N0) _ _ _ _ _ _ _ _ _ _ _ _ _ _ _ _ _ _ (Ro.n0 (jC.cx bN)) rfl jc (Ro.n0 (eX.cx bN)) rfl e9 (Cx.refl _) _ cc) ?_
 rintro e_ jh ⟨A0, _, c0, rfl, rfl, cG⟩
 have cD := bN.call cG
 refine ⟨.dB [sl A0 r_.1.length c0, I r_.2], rfl, ?_⟩
 refine aQ 5 [] (.n 8 (sl A0 r_.1.length c0) (.n 9 (I r_.2) (.ib .a))) qe (by kernel_rfl) ?_
 refine ad <| aa <| ab <| ab <| aV [] (.n 17 (.b (decide (r_.2 ≠ 0))) .a) qe (by kernel_rfl) ?_
 refine aa <| aN (r_.2 ≠ 0) (by kernel_rfl) (fun hc => ?_) (fun hc => ?_)
 · rw [if_pos hc] at hm
   refine ab <| aV [] (.n 6 (.v (.pointer none)) (.n 7 (I r_.2) .z)) qe (by kernel_rfl) ?_
   refine aa <| aG (aZ ?_)
   obtain rfl := Option.some.inj hm
   refine aH [.v (.pointer none), I r_.2] qe (by kernel_rfl) ?_
   have dm := cD.ba .z
   exact ⟨rfl, dm⟩
 rw [if_neg hc] at hm
 refine aL <| aa <| ab <| ab <| aV [] (.n 28 (.b ((decide (((key.length : Nat) : Int) ≠ 0)) && (decide (((key.length : Nat) : Int) ≠ bg)))) (.s (.k (.s .a)))) (qp ((decide (((key.length : Nat) : Int) ≠ 0)) = true → (some ⟨g0, 0, none⟩ : Option Addr).isSome = true) (fun rY => rfl) <| qo (I bg) <| qc (fun w => (decide (((key.length : Nat) : Int) ≠ 0)) = true → ∃ a, (some ⟨g0, 1, none⟩ : Option Addr) = some a ∧ w.cell? a = some (SV.val (I bg))) (fun rY => cD.Bz 0 rfl 1 (I bg) (by kernel_rfl)) <| qe) (by kernel_rfl) ?_
 refine aa <| bf ((decide (((key.length : Nat) : Int) ≠ 0)) && (decide (((key.length : Nat) : Int) ≠ bg))) (by kernel_rfl) (fun fZ => ?_) (fun fZ => ?_)
 · rw [if_pos fZ] at hm
   refine ab <| aV [] (.n 6 (.v (.pointer none)) (.n 7 (I 8) .z)) qe (by kernel_rfl) ?_
   refine aa <| aG (aZ ?_)
   obtain rfl := Option.some.inj hm
   refine aH [.v (.pointer none), I 8] qe (by kernel_rfl) ?_
   have dx := cD.ba .z
   exact ⟨rfl, dx⟩
 rw [if_neg (by rw [fZ]; decide)] at hm
 refine aL <| aa <| ab <| aj <| aQ 5 [] (.n 29 (I k_) (.n 30 (sl A0 r_.1.length c0) (.n 32 (I ay) (.n 33 (sl lG key.length lH) .z)))) (qs g0 0 <| qB cD 0 rfl 0 (I ay) (by kernel_rfl) <| qe) (by kernel_rfl) ?_
 refine ae ?_
 obtain ⟨aE, cB, hm⟩ := ob hm
 refine ax [] 34 _ EI (by kernel_rfl) (xP (F := N0) (O := N0) _ _ _ _ _ _ _ _ _ _ (Ro.n0 (cD.rd 1 rfl)) (cD.len 1 rfl) (cD.tU 1 rfl) (Ro.n0 (xQ.cx cD)) rfl wI (Cx.refl _) _ cB) ?_
 rcases aE with bz | dy
 · simp only [Sum.elim_inl, Sum.elim_inr] at hm
   rintro e_ kI ⟨g4, A6, _, c6, A7, _, c7, g5, A8, _, c8, rfl, rfl, rfl, rfl, dV⟩
   have ed := cD.call dV
   refine ⟨pt g4 0, rfl, ?_⟩
   have eo := ed.ba (.ss (.bb (.k .e)))
   refine aQ 2 [] (.n 6 (pt g4 0) (.n 7 (I 0) .z)) qe (by kernel_rfl) ?_
   refine ad <| aa <| aG ?_
   obtain rfl := Option.some.inj hm
   refine aH [pt g4 0, I 0] qe (by kernel_rfl) ?_
   exact ⟨g4, A6, bz.2.2.1.length, c6, A7, bz.2.2.2.1.length, c7, g5, A8, bz.2.2.2.2.2.2.2.1.length, c8, eo.len 1 rfl, eo.len 2 rfl, eo.len 4 rfl, rfl, eo⟩
 · simp only [Sum.elim_inl, Sum.elim_inr] at hm
   rintro e_ mb ⟨g6, A9, _, c9, Jh, _, Ji, g7, LD, _, LF, rfl, rfl, rfl, rfl, eU⟩
   have bH := cD.call eU
   refine ⟨pt g6 0, rfl, ?_⟩
   have bD := bH.ba (.ss (.bb (.k .e)))
   refine aQ 2 [] (.n 6 (pt g6 0) (.n 7 (I 0) .z)) qe (by kernel_rfl) ?_
   refine ad <| aa <| aG ?_
   obtain rfl := Option.some.inj hm
   refine aH [pt g6 0, I 0] qe (by kernel_rfl) ?_
   exact ⟨g6, A9, dy.2.2.1.length, c9, Jh, dy.2.2.2.1.length, Ji, g7, LD, dy.2.2.2.2.2.2.2.1.length, LF, bD.len 1 rfl, bD.len 2 rfl, bD.len 4 rfl, rfl, bD⟩
theorem rm {F O : Nat → Prop} {w : World} (cF : Int) (b8 : Int) (bd : List UInt8) (bU : List UInt8) (fj : Bool) (b9 : UInt64) (jw : ag UInt64 8) (bE : UInt64) (bF : UInt64) (df : List UInt8) (cQ : Int) (eJ : Nat) (cm : Option Addr) (eK : Nat) (cp : Nat) (cW : Option Addr) (gE : Nat) (cX : Nat) (gb : Nat) (ej : Option Addr) (fo : Nat) (ek : Nat) (k : Cx F O w w [Bx 83 eJ [I cF, I b8, sl cm eK cp, sl cW gE cX, .b fj, .u64 b9, .v (.iface 126 (SV.val (pt gb 0)))], Ow e8 cm eK cp bd, Ow e8 cW gE cX bU, Bx 132 gb [.ar bw jw, .u64 bE, .u64 bF, sl ej fo ek, I cQ, .v (.func (.func 59) ⟨SV.ak []⟩ ⟨SV.ak []⟩), .v (.func (.func 60) ⟨SV.ak []⟩ ⟨SV.ak []⟩)], Ow e8 ej fo ek df]) (r : (ag UInt64 8 × UInt64 × UInt64 × List UInt8 × Int × Int × Int × List UInt8 × List UInt8 × Bool × UInt64)) (hm : hX cF b8 bd bU fj b9 jw bE bF df cQ = some r) :
    Calls Try.prog 29 (ak [pt eJ 0]) w (fun e w' => ∃ A n c A1 n1 c1 A2 n2 c2, r.2.2.2.1.length = n ∧ r.2.2.2.2.2.2.2.1.length = n1 ∧ r.2.2.2.2.2.2.2.2.1.length = n2 ∧ e = .returned (SV.val (.b false)) ∧ Cx F O w w' [Bx 132 gb [.ar bw r.1, .u64 r.2.1, .u64 r.2.2.1, sl A n c, I r.2.2.2.2.1, .v (.func (.func 59) ⟨SV.ak []⟩ ⟨SV.ak []⟩), .v (.func (.func 60) ⟨SV.ak []⟩ ⟨SV.ak []⟩)], Ow e8 A n c r.2.2.2.1, Bx 83 eJ [I r.2.2.2.2.2.1, I r.2.2.2.2.2.2.1, sl A1 n1 c1, sl A2 n2 c2, .b r.2.2.2.2.2.2.2.2.2.1, .u64 r.2.2.2.2.2.2.2.2.2.2, .v (.iface 126 (SV.val (pt gb 0)))], Ow e8 A1 n1 c1 r.2.2.2.2.2.2.2.1, Ow e8 A2 n2 c2 r.2.2.2.2.2.2.2.2.1]) := by
 unfold hX at hm
 obtain rfl := k.len 1 rfl
 obtain rfl := k.len 2 rfl
 obtain rfl := k.len 4 rfl
 refine calls [pt eJ 0] Try.func29 rfl (of_decide_eq_true (by kernel_rfl)) ?_
 refine ab <| aV [] .a qe (by kernel_rfl) ?_
 refine aa <| ab <| aV [5] (.n 2 (.b false) .z) (qs eJ 0 <| qs eJ 0 <| qB k 0 rfl 6 (.v (.iface 126 (SV.val (pt gb 0)))) (by kernel_rfl) <| qe) (by kernel_rfl) ?_
 refine aa <| aG ?_
 obtain rfl := Option.some.inj hm
 refine aH [.b false] qe (by kernel_rfl) ?_
 have k_ := ((((k.pk (.t (.t .h))).pk (.t (.t .h))).pk (.t (.t .h))).pk (.t (.t (.t (.t .h))))).pk (.t (.t (.t (.t .h))))
 exact ⟨ej, df.length, ek, cm, bd.length, cp, cW, bU.length, cX, k_.len 1 rfl, k_.len 3 rfl, k_.len 4 rfl, rfl, k_⟩
theorem tv {F O : Nat → Prop} {w : World} (w_ : UInt64) (k : Cx F O w w []) (r : (List UInt8)) (hm : gN w_ = some r) :
    Calls Try.prog 68 (ak [.u64 w_]) w (fun e w' => ∃ A n c, r.length = n ∧ e = .returned (SV.val (sl A n c)) ∧ Cx F O w w' [Ow e8 A n c r]) := by
 unfold gN at hm
 refine calls [.u64 w_] Try.func68 rfl (of_decide_eq_true (by kernel_rfl)) ?_
 refine ab <| aV [] .a qe (by kernel_rfl) ?_
 refine aa <| ab <| aj <| ae <| pW er e8 (0 : UInt8) rfl [] 5 (I 8) (I 8) (8 : Int) (8 : Int) (by kernel_rfl) (by omega) (by omega) (by omega) k ?_
 intro A0 jh k_
 refine aQ 1 [] (.n 3 (sl A0 (Int.toNat (8 : Int)) (Int.toNat (8 : Int))) (.s .a)) qe (by kernel_rfl) ?_
 refine ad <| aa <| ab <| ab <| aV [] (.n 6 (I 0) .a) qe (by kernel_rfl) ?_
 refine aa <| aI <| jQ (gC w_) (fun s L wr => ∃ (b : List UInt8) (av : Int), (b, av) = s ∧ L = [(0, .u64 w_), (3, sl A0 (Int.toNat (8 : Int)) (Int.toNat (8 : Int))), (6, I av)] ∧ Cx F O w wr [Ow e8 A0 (Int.toNat (8 : Int)) (Int.toNat (8 : Int)) b]) (List.replicate (Int.toNat (8 : Int)) (0 : UInt8), (0 : Int)) r hm ⟨List.replicate (Int.toNat (8 : Int)) (0 : UInt8), (0 : Int), rfl, rfl, k_⟩ (by kernel_rfl) ?_
 intro rW L_ kI y0 ef bj jH
 obtain ⟨b, av, rfl, rfl, bN⟩ := ef
 have hm := bj; simp only [gC] at hm
 clear bj
 refine ab <| aV [] (.n 7 (.b (decide (av < 8))) .a) qe (by kernel_rfl) ?_
 refine aa <| ab <| aN (av < 8) (by kernel_rfl) (fun hc => ?_) (fun hc => ?_)
 · rw [if_pos hc] at hm
   refine aL <| aa <| ab <| aI <| ab <| aV [] (.n 4 (I av) (.s .a)) qe (by kernel_rfl) ?_
   refine aa <| aj ?_
   obtain ⟨u, pK, hm⟩ := ob hm
   obtain ⟨ew, eA, hm⟩ := ob hm
   refine aQ 8 [] (.n 15 (.u8 (UInt8.ofNat (dz w_ (Int.toNat (aA (8 * av)))).toNat)) (.n 16 (.v (.pointer (il A0 av 1))) (.s .a))) (qp (0 ≤ aA (8 * av)) (ck pK) <| qJ (bN.rd 0 rfl) eA (bN.len 0 rfl) <| qe) (by kernel_rfl) ?_
   refine ae <| sN (E := e8) (kk := 0) (sv := .u8 (UInt8.ofNat (dz w_ (Int.toNat (aA (8 * av)))).toNat)) (svs := [.u8 (UInt8.ofNat (dz w_ (Int.toNat (aA (8 * av)))).toNat)]) [] 0 (UInt8.ofNat (dz w_ (Int.toNat (aA (8 * av)))).toNat) (by kernel_rfl) (Pt.oZ A0 av 1) bN rfl (bn eA).2 (rS (E := e8) (bN.rd 0 rfl) (by decide) (fp eA).1 (bn eA).2) rfl (Nat.le_of_ble_eq_true (by kernel_rfl)) ?_
   intro mb cG
   refine ad <| cu <| aa <| aV [] (.n 6 (I (aA (av + 1))) (.ss (.kk .z))) qe (by kernel_rfl) ?_
   exact fO (b.set (Int.toNat av) (UInt8.ofNat (dz w_ (Int.toNat (aA (8 * av)))).toNat), aA (av + 1)) (Option.some.inj hm).symm ⟨b.set (Int.toNat av) (UInt8.ofNat (dz w_ (Int.toNat (aA (8 * av)))).toNat), aA (av + 1), rfl, rfl, cG⟩ (by kernel_rfl)
 rw [if_neg hc] at hm
 refine cA (bu (bu (dZ ?_)))
 have hm := bT hm jH
 refine aa <| ab <| aV [] (.n 2 (sl A0 (Int.toNat (8 : Int)) (Int.toNat (8 : Int))) .z) qe (by kernel_rfl) ?_
 refine aa <| aG ?_
 obtain rfl := Option.some.inj hm
 refine aH [sl A0 (Int.toNat (8 : Int)) (Int.toNat (8 : Int))] qe (by kernel_rfl) ?_
 exact ⟨A0, Int.toNat (8 : Int), Int.toNat (8 : Int), bN.len 0 rfl, rfl, bN⟩
theorem wJ {F O : Nat → Prop} {w : World} (h : ag UInt64 8) (k : Cx F O w w []) (r : (List UInt8)) (hm : jx h = some r) :
    Calls Try.prog 60 (ak [.agg [.ar bw h]]) w (fun e w' => ∃ A n c, r.length = n ∧ e = .returned (SV.val (sl A n c)) ∧ Cx F O w w' [Ow e8 A n c r]) := by
 unfold jx at hm
 refine calls [.agg [.ar bw h]] Try.func60 rfl (of_decide_eq_true (by kernel_rfl)) ?_
 refine ab <| aj <| ae <| eg [] 1 (.agg [.ar bw h]) [.ar bw h] (by kernel_rfl) k ?_
 intro g w_ k_
 refine aQ 1 [] (.k .z) qe (by kernel_rfl) ?_
 refine ad <| aa <| ab <| aj <| ae <| pW er e8 (0 : UInt8) rfl [] 6 (I 0) (I 64) (0 : Int) (64 : Int) (by kernel_rfl) (by omega) (by omega) (by omega) k_ ?_
 intro A0 jh bN
 refine aQ 1 [] (.n 3 (sl A0 (Int.toNat (0 : Int)) (Int.toNat (64 : Int))) (.s .a)) qe (by kernel_rfl) ?_
 refine ad <| aa <| ab <| ab <| aV [] (.n 7 (.agg [.ar bw h]) (.n 8 (I 0) (.k .z))) (qT bN 0 rfl 0 8 [.ar bw h] (by kernel_rfl) (by decide) <| qe) (by kernel_rfl) ?_
 refine aa <| aI ?_
 have cD := bN.ba (.s (.k .e))
 refine jQ (iJ h) (fun s L wr => ∃ (b : List UInt8) (av : Int) (A1 : Option Addr) (n0 : Nat) (c0 : Nat), (b, av) = s ∧ L = [(3, sl A1 n0 c0), (7, .agg [.ar bw h]), (8, I av)] ∧ b.length = n0 ∧ Cx F O w wr [Ow e8 A1 n0 c0 b]) (List.replicate (Int.toNat (0 : Int)) (0 : UInt8), (0 : Int)) r hm ⟨List.replicate (Int.toNat (0 : Int)) (0 : UInt8), (0 : Int), A0, Int.toNat (0 : Int), Int.toNat (64 : Int), rfl, rfl, cD.len 0 rfl, cD⟩ (by kernel_rfl) ?_
 intro rW L_ kI y0 ef bj jH
 obtain ⟨b, av, A1, _, c0, rfl, rfl, rfl, cG⟩ := ef
 have hm := bj; simp only [iJ] at hm
 clear bj
 refine ab <| aV [] (.n 9 (.b (decide (av < 8))) .a) qe (by kernel_rfl) ?_
 refine aa <| ab <| aN (av < 8) (by kernel_rfl) (fun hc => ?_) (fun hc => ?_)
 · rw [if_pos hc] at hm
   refine aL <| aa <| ab <| aI <| ab ?_
   obtain ⟨ew, eA, hm⟩ := ob hm
   refine aV [] (.n 5 (.u64 ew) (.s .a)) (qo (.u64 ew) <| qp ((0 ≤ av ∧ av < ((8 : Nat) : Int)) ∧ (SV.cl [.ar bw h])[Int.toNat av * 1]? = some (SV.val (.u64 ew))) (F8 (E := bw) eA rfl) <| qe) (by kernel_rfl) ?_
   refine aa <| aj <| aQ 2 [] (.n 11 (sl A1 b.length c0) (.n 12 (.u64 ew) (.s .a))) qe (by kernel_rfl) ?_
   refine ae ?_
   obtain ⟨r_, cc, hm⟩ := ob hm
   refine ax [] 13 _ EW (by kernel_rfl) (tv (F := N0) (O := N0) _ (Cx.refl _) _ cc) ?_
   rintro e_ mb ⟨A2, _, c1, rfl, rfl, dm⟩
   have dx := cG.call dm
   refine ⟨sl A2 r_.length c1, rfl, ?_⟩
   refine ae ?_
   obtain ⟨b1, na, hm⟩ := ob hm
   obtain ⟨hz, hl⟩ := fh na
   refine dq (E := e8) (v := sl A2 r_.length c1) (ys := r_) er [] 14 0 (by kernel_rfl) dx rfl (Src.sl (dx.rd 1 rfl) (dx.len 1 rfl) (by rfl)) (dx.len 1 rfl) (by have := dx.len 0 rfl; have := (dx.len 1 rfl); omega) ?_
   intro A3 c2 mc dV
   rw [← hl] at dV
   have ed := dV.ba (.k .z)
   refine aQ 1 [] (.n 3 (sl A3 (b.length + r_.length) c2) (.fi (.s .a))) qe (by kernel_rfl) ?_
   refine ad <| cu <| aa <| aV [] (.n 8 (I (aA (av + 1))) (.kk .z)) qe (by kernel_rfl) ?_
   exact fO (b1, aA (av + 1)) (Option.some.inj hm).symm ⟨b1, aA (av + 1), A3, b.length + r_.length, c2, rfl, rfl, ed.len 0 rfl, ed⟩ (by kernel_rfl)
 rw [if_neg hc] at hm
 refine cA (bu (bu (dZ ?_)))
 have hm := bT hm jH
 refine aa <| ab <| aV [] (.n 2 (sl A1 b.length c0) .z) qe (by kernel_rfl) ?_
 refine aa <| aG ?_
 obtain rfl := Option.some.inj hm
 refine aH [sl A1 b.length c0] qe (by kernel_rfl) ?_
 exact ⟨A1, b.length, c0, cG.len 0 rfl, rfl, cG⟩
theorem nb {F O : Nat → Prop} {w : World} (mT : ag UInt64 8) (aW : UInt64) (aX : UInt64) (bB : List UInt8) (ao : Int) (node : Bool) (bW : Nat) (cd : Option Addr) (gS : Nat) (cf : Nat) (k : Cx F O w w [Bx 132 bW [.ar bw mT, .u64 aW, .u64 aX, sl cd gS cf, I ao, .v (.func (.func 59) ⟨SV.ak []⟩ ⟨SV.ak []⟩), .v (.func (.func 60) ⟨SV.ak []⟩ ⟨SV.ak []⟩)], Ow e8 cd gS cf bB]) (r : (List UInt8 × ag UInt64 8 × UInt64 × UInt64 × List UInt8 × Int)) (hm : dK mT aW aX bB ao node = some r) :
    Calls Try.prog 106 (ak [pt bW 0, .b node]) w (fun e w' => ∃ A n c A1 n1 c1, r.1.length = n ∧ r.2.2.2.2.1.length = n1 ∧ e = .returned (SV.val (sl A n c)) ∧ Cx F O w w' [Ow e8 A n c r.1, Bx 132 bW [.ar bw r.2.1, .u64 r.2.2.1, .u64 r.2.2.2.1, sl A1 n1 c1, I r.2.2.2.2.2, .v (.func (.func 59) ⟨SV.ak []⟩ ⟨SV.ak []⟩), .v (.func (.func 60) ⟨SV.ak []⟩ ⟨SV.ak []⟩)], Ow e8 A1 n1 c1 r.2.2.2.2.1]) := by
 unfold dK at hm
 obtain rfl := k.len 1 rfl
 refine calls [pt bW 0, .b node] Try.func106 rfl (of_decide_eq_true (by kernel_rfl)) ?_
 refine ab <| aV [] .a qe (by kernel_rfl) ?_
 refine aa <| ab <| B8 (fun L wr => ∃ (c0 : UInt64) (c2 : UInt64) (g : Nat), dX mT aW aX bB ao node c0 c2 = some r ∧ L = [(0, pt bW 0), (1, .b node), (5, pt g 0)] ∧ Cx F O w wr [Bx 132 bW [.ar bw mT, .u64 aW, .u64 aX, sl cd bB.length cf, I ao, .v (.func (.func 59) ⟨SV.ak []⟩ ⟨SV.ak []⟩), .v (.func (.func 60) ⟨SV.ak []⟩ ⟨SV.ak []⟩)], Ow e8 cd bB.length cf bB, Bx 130 g [.u64 c0, .u64 c2]]) ?_ ?_
 ·
  have k_ := k.drew 1
  refine lJ aT (.q 0 2 (.q 1 2 (.q 2 1 (.q 3 1 (.q 4 2 (.q 5 2 (.q 6 2 (.q 7 2 (.q 8 1 (.q 9 1 (.br 10 14 (.q 11 2 (.q 12 2 (.q 13 3 (.op 14 (.op 15 (.q 16 3 .nil)))))) (.op 10 (.q 11 2 (.q 12 2 (.q 13 3 (.op 15 (.q 16 3 .nil))))))))))))))))) [10, 14, 15] k_ (.c (.kk .e) (.c (.kk .e) (.c (.kk .e) .l))) (by kernel_rfl) (fun _ => ?_)
  refine bo 2 2 [] (.n 9 (pt bW 0) .a) (fun x hx => qs bW 0 <| qe) (by kernel_rfl) (fun _ => ?_)
  refine bo 2 1 [] (.n 11 (.agg [.u64 aW, .u64 aX]) (.s .a)) (fun x hx => qs bW 0 <| qT hx 0 rfl 8 2 [.u64 aW, .u64 aX] (by kernel_rfl) (by decide) <| qe) (by kernel_rfl) (fun _ => ?_)
  refine bo 4 2 [] (.n 15 (sl cd bB.length cf) .a) (fun x hx => qs bW 0 <| qs bW 0 <| qB hx 0 rfl 10 (sl cd bB.length cf) (by kernel_rfl) <| qe) (by kernel_rfl) (fun _ => ?_)
  refine bo 2 1 [] (.n 17 (.u64 (UInt64.ofInt ((bB.length : Nat) : Int))) (.s .a)) (fun x hx => qe) (by kernel_rfl) (fun _ => ?_)
  refine F7 (by kernel_rfl) (by kernel_rfl) rfl rfl ?_ ?_
  ·
   obtain ⟨r_, cc, hm⟩ := ob hm
   refine ax [] 18 _ mF (by kernel_rfl) (jV (F := N0) (O := N0) _ _ _ (Cx.refl _) _ cc) ?_
   rintro e_ w_ ⟨rfl, bN⟩
   have cG := k_.call bN
   refine ⟨.dB [.agg [.u64 r_.1, .u64 r_.2.1], .b r_.2.2], rfl, ?_⟩
   refine ⟨cG, fun _ => ?_⟩
   refine bo 2 2 [] (.n 7 (.dB [.agg [.u64 r_.1, .u64 r_.2.1], .b r_.2.2]) (.n 19 (.agg [.u64 r_.1, .u64 r_.2.1]) (.ib .a))) (fun x hx => qe) (by kernel_rfl) (fun _ => ?_)
   refine bo 1 3 [] (.n 20 (.b r_.2.2) (.s .a)) (fun x hx => qe) (by kernel_rfl) (fun _ => ?_)
   refine bl (by kernel_rfl) rfl <| aU [] 5 [.u64 0, .u64 0] (by kernel_rfl) cG ?_
   intro g1 jh cD
   refine ⟨(cD.ba (.kk .z)), fun _ => ?_⟩
   refine bl (by kernel_rfl) rfl <| cE [] 2 (.agg [.u64 r_.1, .u64 r_.2.1]) [.u64 r_.1, .u64 r_.2.1] (Pt.at g1 0) cD rfl .all (by kernel_rfl) (by kernel_rfl) ?_
   intro kI dm
   refine ⟨(dm.ba (.kk .z)), fun _ => ?_⟩
   refine bo 1 3 [] (.k (.ss .a)) (fun x hx => qe) (by kernel_rfl) (fun _ => ?_)
   refine bC ?_
   exact gK ⟨r_.1, r_.2.1, g1, hm, rfl, dm⟩ (by kernel_rfl)
  ·
   refine aU [] 5 [.u64 0, .u64 0] (by kernel_rfl) k_ ?_
   intro g1 w_ bN
   refine ⟨(bN.ba (.kk .z)), fun _ => ?_⟩
   refine bl (by kernel_rfl) rfl ?_
   obtain ⟨r_, cc, hm⟩ := ob hm
   refine ax [] 18 _ mF (by kernel_rfl) (jV (F := N0) (O := N0) _ _ _ (Cx.refl _) _ cc) ?_
   rintro e_ jh ⟨rfl, cG⟩
   have cD := bN.call cG
   refine ⟨.dB [.agg [.u64 r_.1, .u64 r_.2.1], .b r_.2.2], rfl, ?_⟩
   refine ⟨(cD.ba (.kk .z)), fun _ => ?_⟩
   refine bo 2 2 [] (.n 7 (.dB [.agg [.u64 r_.1, .u64 r_.2.1], .b r_.2.2]) (.n 19 (.agg [.u64 r_.1, .u64 r_.2.1]) (.s (.k (.ss .a))))) (fun x hx => qe) (by kernel_rfl) (fun _ => ?_)
   refine bo 1 3 [] (.n 20 (.b r_.2.2) (.s .a)) (fun x hx => qe) (by kernel_rfl) (fun _ => ?_)
   refine bl (by kernel_rfl) rfl <| cE [] 2 (.agg [.u64 r_.1, .u64 r_.2.1]) [.u64 r_.1, .u64 r_.2.1] (Pt.at g1 0) cD rfl .all (by kernel_rfl) (by kernel_rfl) ?_
   intro kI dm
   refine ⟨(dm.ba (.kk .z)), fun _ => ?_⟩
   refine bo 1 3 [] (.ss .a) (fun x hx => qe) (by kernel_rfl) (fun _ => ?_)
   refine bC ?_
   exact gK ⟨r_.1, r_.2.1, g1, hm, rfl, dm⟩ (by kernel_rfl)
 rintro L_ mb ⟨c0, c2, g, hm, rfl, dx⟩
 simp only [dX] at hm
 refine aa <| ab ?_
 have dV := dx.drew 1
 refine lJ aT (.q 21 1 (.q 22 1 (.q 0 3 (.q 1 3 (.q 2 2 (.q 3 2 (.q 4 3 (.q 5 3 (.q 6 2 (.q 7 1 (.q 8 3 (.q 9 3 (.q 10 2 (.q 11 1 (.q 12 3 (.q 13 3 (.q 14 2 (.q 15 1 (.q 16 3 (.q 17 3 (.q 18 2 (.q 19 1 (.op 20 (.op 23 (.op 24 (.q 25 3 .nil)))))))))))))))))))))))))) [20, 23, 24] dV (.c (.kk (.k .e)) (.c (.kk (.k .e)) (.c (.kk (.k .e)) .l))) (by kernel_rfl) (fun _ => ?_)
 refine bo 2 1 [] (.n 42 (.agg [.u64 c0, .u64 c2]) (.n 43 (.b node) (.k .z))) (fun x hx => qT hx 2 rfl 0 2 [.u64 c0, .u64 c2] (by kernel_rfl) (by decide) <| qe) (by kernel_rfl) (fun _ => ?_)
 refine bo 2 3 [] (.n 22 (pt bW 0) .a) (fun x hx => qs bW 0 <| qe) (by kernel_rfl) (fun _ => ?_)
 refine bo 2 2 [] (.n 24 (.v (.func (.func 60) ⟨SV.ak []⟩ ⟨SV.ak []⟩)) (.s .a)) (fun x hx => qs bW 0 <| qB hx 0 rfl 13 (.v (.func (.func 60) ⟨SV.ak []⟩ ⟨SV.ak []⟩)) (by kernel_rfl) <| qe) (by kernel_rfl) (fun _ => ?_)
 refine bo 2 3 [] (.n 26 (pt bW 0) .a) (fun x hx => qs bW 0 <| qe) (by kernel_rfl) (fun _ => ?_)
 refine bo 1 2 [] (.n 27 (pt bW 12) (.s .a)) (fun x hx => qs bW 0 <| qe) (by kernel_rfl) (fun _ => ?_)
 refine bo 1 1 [] (.n 28 (.v (.func (.func 59) ⟨SV.ak []⟩ ⟨SV.ak []⟩)) (.s .a)) (fun x hx => qB hx 0 rfl 12 (.v (.func (.func 59) ⟨SV.ak []⟩ ⟨SV.ak []⟩)) (by kernel_rfl) <| qe) (by kernel_rfl) (fun _ => ?_)
 refine bo 2 3 [] (.n 30 (pt bW 0) .a) (fun x hx => qs bW 0 <| qe) (by kernel_rfl) (fun _ => ?_)
 refine bo 1 2 [] (.n 31 (pt bW 0) (.s .a)) (fun x hx => qs bW 0 <| qe) (by kernel_rfl) (fun _ => ?_)
 refine bo 1 1 [] (.n 32 (.agg [.ar bw mT]) (.s .a)) (fun x hx => qT hx 0 rfl 0 8 [.ar bw mT] (by kernel_rfl) (by decide) <| qe) (by kernel_rfl) (fun _ => ?_)
 refine bo 2 3 [] (.n 34 (pt bW 0) .a) (fun x hx => qs bW 0 <| qe) (by kernel_rfl) (fun _ => ?_)
 refine bo 1 2 [] (.n 35 (pt bW 10) (.s .a)) (fun x hx => qs bW 0 <| qe) (by kernel_rfl) (fun _ => ?_)
 refine bo 1 1 [] (.n 36 (sl cd bB.length cf) (.s .a)) (fun x hx => qB hx 0 rfl 10 (sl cd bB.length cf) (by kernel_rfl) <| qe) (by kernel_rfl) (fun _ => ?_)
 refine bo 2 3 [] (.n 38 (pt bW 0) (.bb (.kk .z))) (fun x hx => qs bW 0 <| qe) (by kernel_rfl) (fun _ => ?_)
 refine bo 1 2 [] (.n 39 (pt bW 11) (.s .a)) (fun x hx => qs bW 0 <| qe) (by kernel_rfl) (fun _ => ?_)
 refine bo 1 1 [] (.n 40 (I ao) (.s .a)) (fun x hx => qB hx 0 rfl 11 (I ao) (by kernel_rfl) <| qe) (by kernel_rfl) (fun _ => ?_)
 refine bl (by kernel_rfl) rfl ?_
 obtain ⟨aE, cB, hm⟩ := ob hm
 refine ax [] 41 _ sj (by kernel_rfl) (j4 (F := N0) (O := N0) _ _ _ _ _ (Ro.n0 (dV.rd 1 rfl)) (dV.len 1 rfl) (dV.tU 1 rfl) (Cx.refl _) _ cB) ?_
 rintro e_ mc ⟨A0, _, c3, rfl, rfl, ed⟩
 have eo := dV.call ed
 refine ⟨sl A0 aE.length c3, rfl, ?_⟩
 refine ⟨(eo.ba (.kk (.k .z))), fun _ => ?_⟩
 refine bl (by kernel_rfl) rfl ?_
 obtain ⟨bz, gu, hm⟩ := ob hm
 refine mm [] 44 [] [.agg [.ar bw mT], sl A0 aE.length c3, .agg [.u64 c0, .u64 c2], .b true, .b node] [] zR (by kernel_rfl) (o8 (F := N0) (O := N0) _ _ _ _ _ _ _ _ _ (Ro.n0 (eo.rd 3 rfl)) (eo.len 3 rfl) (eo.tU 3 rfl) (Cx.refl _) _ gu) ?_
 rintro e_ oH ⟨rfl, eU⟩
 have bH := eo.call eU
 refine ⟨.agg [.ar bw bz], rfl, ?_⟩
 have bD := bH.ba (.kk (.k .z))
 refine ⟨bD, fun _ => ?_⟩
 refine bl (by kernel_rfl) rfl ?_
 obtain ⟨dy, kz, hm⟩ := ob hm
 refine mm [] 45 [] [.agg [.ar bw bz]] [] ER (by kernel_rfl) (wJ (F := N0) (O := N0) _ (Cx.refl _) _ kz) ?_
 rintro e_ qD ⟨A2, _, c4, rfl, rfl, cS⟩
 have dk := bD.call cS
 refine ⟨sl A2 dy.length c4, rfl, ?_⟩
 refine ⟨(dk.ba (.kk (.k .z))), fun _ => ?_⟩
 refine bo 1 3 [] (.n 4 (sl A2 dy.length c4) .z) (fun x hx => qe) (by kernel_rfl) (fun _ => ?_)
 refine bC <| aa <| aG ?_
 obtain rfl := Option.some.inj hm
 refine aH [sl A2 dy.length c4] qe (by kernel_rfl) ?_
 have dD := (((dk.pk (.t .h)).pk (.t .h)).pk (.t (.t (.t .h)))).ba (.kk (.k .z))
 exact ⟨A2, dy.length, c4, cd, bB.length, cf, dD.len 0 rfl, dD.len 2 rfl, rfl, dD⟩
theorem rZ {F O : Nat → Prop} {w : World} (cF : Int) (b8 : Int) (bd : List UInt8) (bU : List UInt8) (fj : Bool) (b9 : UInt64) (jw : ag UInt64 8) (bE : UInt64) (bF : UInt64) (df : List UInt8) (cQ : Int) (cZ : Int) (eJ : Nat) (cm : Option Addr) (eK : Nat) (cp : Nat) (cW : Option Addr) (gE : Nat) (cX : Nat) (gb : Nat) (ej : Option Addr) (fo : Nat) (ek : Nat) (k : Cx F O w w [Bx 83 eJ [I cF, I b8, sl cm eK cp, sl cW gE cX, .b fj, .u64 b9, .v (.iface 126 (SV.val (pt gb 0)))], Ow e8 cm eK cp bd, Ow e8 cW gE cX bU, Bx 132 gb [.ar bw jw, .u64 bE, .u64 bF, sl ej fo ek, I cQ, .v (.func (.func 59) ⟨SV.ak []⟩ ⟨SV.ak []⟩), .v (.func (.func 60) ⟨SV.ak []⟩ ⟨SV.ak []⟩)], Ow e8 ej fo ek df]) (r : (List UInt8 × Int × ag UInt64 8 × UInt64 × UInt64 × List UInt8 × Int × Int × Int × List UInt8 × List UInt8 × Bool × UInt64)) (hm : gr cF b8 bd bU fj b9 jw bE bF df cQ cZ = some r) :
    Calls Try.prog 24 (ak [pt eJ 0, I cZ]) w (fun e w' => ∃ A n c A1 n1 c1 A2 n2 c2 A3 n3 c3, r.1.length = n ∧ r.2.2.2.2.2.1.length = n1 ∧ r.2.2.2.2.2.2.2.2.2.1.length = n2 ∧ r.2.2.2.2.2.2.2.2.2.2.1.length = n3 ∧ e = .returned (SV.val (.dB [sl A n c, I r.2.1])) ∧ Cx F O w w' [Ow e8 A n c r.1, Bx 132 gb [.ar bw r.2.2.1, .u64 r.2.2.2.1, .u64 r.2.2.2.2.1, sl A1 n1 c1, I r.2.2.2.2.2.2.1, .v (.func (.func 59) ⟨SV.ak []⟩ ⟨SV.ak []⟩), .v (.func (.func 60) ⟨SV.ak []⟩ ⟨SV.ak []⟩)], Ow e8 A1 n1 c1 r.2.2.2.2.2.1, Bx 83 eJ [I r.2.2.2.2.2.2.2.1, I r.2.2.2.2.2.2.2.2.1, sl A2 n2 c2, sl A3 n3 c3, .b r.2.2.2.2.2.2.2.2.2.2.2.1, .u64 r.2.2.2.2.2.2.2.2.2.2.2.2, .v (.iface 126 (SV.val (pt gb 0)))], Ow e8 A2 n2 c2 r.2.2.2.2.2.2.2.2.2.1, Ow e8 A3 n3 c3 r.2.2.2.2.2.2.2.2.2.2.1]) := by
 unfold gr at hm
 obtain rfl := k.len 1 rfl
 obtain rfl := k.len 2 rfl
 obtain rfl := k.len 4 rfl
 refine calls [pt eJ 0, I cZ] Try.func24 rfl (of_decide_eq_true (by kernel_rfl)) ?_
 refine ab <| aV [] .a qe (by kernel_rfl) ?_
 refine aa <| ab <| ab <| aj <| aQ 1 [] (.n 6 (pt eJ 0) .a) qe (by kernel_rfl) ?_
 refine ae ?_
 obtain ⟨r_, cc, hm⟩ := ob hm
 obtain ⟨F1, O1, oV, hO, xK, hF, hb⟩ := k.go (.i (.i (.i (.i (.i .e)))))
 refine ax [] 7 _ zP (by kernel_rfl) (rm (F := F1) (O := O1) _ _ _ _ _ _ _ _ _ _ _ _ _ _ _ _ _ _ _ _ _ _ oV _ cc) ?_
 rintro e_ w_ ⟨A0, _, c0, A4, _, c4, A5, _, c5, rfl, rfl, rfl, rfl, k_⟩
 have bN := hb w_ _ _ k_ (.c (.c (.c (.c (.c .n)))))
 refine ⟨.b false, rfl, ?_⟩
 refine ad <| aa <| bf false (by kernel_rfl) (fun h => by cases h) (fun _ => ?_)
 refine aL <| aa <| ab <| ab <| aj <| aQ 3 [] (.n 10 (.b (decide (cZ < 1))) (.ss .a)) qe (by kernel_rfl) ?_
 refine uB 10 (decide (cZ < 1)) (.s .a) (by kernel_rfl) (fun hg => ?_) (fun hg => ?_)
 · rw [if_pos (of_decide_eq_true hg)] at hm
   refine aQ 9 [10] (.n 19 (.b true) (.s .a)) qe (by kernel_rfl) ?_
   refine ad <| aa <| bf true (by kernel_rfl) (fun _ => ?_) (fun h => by cases h)
   refine ab <| aV [] (.n 4 (sl none 0 0) (.n 5 (I 1) .z)) qe (by kernel_rfl) ?_
   refine aa <| aG (aZ ?_)
   have cG := bN.nil e8
   obtain rfl := Option.some.inj hm
   refine aH [sl none 0 0, I 1] qe (by kernel_rfl) ?_
   have cD := (((((cG.pk (.t (.t (.t (.t .h))))).pk (.t (.t (.t (.t .h))))).pk (.t (.t (.t (.t .h))))).pk (.t (.t (.t (.t .h))))).pk (.t (.t (.t (.t .h))))).pk (.t (.t (.t (.t (.t .h)))))
   exact ⟨none, 0, 0, A0, r_.2.2.2.1.length, c0, A4, r_.2.2.2.2.2.2.2.1.length, c4, A5, r_.2.2.2.2.2.2.2.2.1.length, c5, cD.len 0 rfl, cD.len 2 rfl, cD.len 4 rfl, cD.len 5 rfl, rfl, cD⟩
 · rw [if_neg (of_decide_eq_false hg)] at hm
   refine aQ 5 [10] (.n 11 (I cZ) (.n 15 (I r_.2.2.2.2.2.1) .a)) (qs eJ 0 <| qs eJ 0 <| qB bN 2 rfl 0 (I r_.2.2.2.2.2.1) (by kernel_rfl) <| qe) (by kernel_rfl) ?_
   refine ae ?_
   obtain ⟨aE, cB, hm⟩ := ob hm
   refine ax [10] 16 _ si (by kernel_rfl) (jD (F := N0) (O := N0) _ (Cx.refl _) _ cB) ?_
   rintro e_ jh ⟨rfl, dm⟩
   have dx := bN.call dm
   refine ⟨I aE, rfl, ?_⟩
   refine aQ 3 [10] (.n 19 (.b (decide ((aA (Int.tdiv aE 2)) < cZ))) (.fi .a)) (qp ((2 : Int) ≠ (0 : Int)) (by omega) <| qe) (by kernel_rfl) ?_
   refine ad <| aa <| aN ((aA (Int.tdiv aE 2)) < cZ) (by kernel_rfl) (fun hc => ?_) (fun hc => ?_)
   · rw [if_pos hc] at hm
     refine ab <| aV [] (.n 4 (sl none 0 0) (.n 5 (I 1) .z)) qe (by kernel_rfl) ?_
     refine aa <| aG (aZ ?_)
     have dV := dx.nil e8
     obtain rfl := Option.some.inj hm
     refine aH [sl none 0 0, I 1] qe (by kernel_rfl) ?_
     have ed := (((((dV.pk (.t (.t (.t (.t .h))))).pk (.t (.t (.t (.t .h))))).pk (.t (.t (.t (.t .h))))).pk (.t (.t (.t (.t .h))))).pk (.t (.t (.t (.t .h))))).pk (.t (.t (.t (.t (.t .h)))))
     exact ⟨none, 0, 0, A0, r_.2.2.2.1.length, c0, A4, r_.2.2.2.2.2.2.2.1.length, c4, A5, r_.2.2.2.2.2.2.2.2.1.length, c5, ed.len 0 rfl, ed.len 2 rfl, ed.len 4 rfl, ed.len 5 rfl, rfl, ed⟩
   rw [if_neg hc] at hm
   refine aL <| aa <| ab ?_
   have eo := dx.drew 1
   refine lJ aT (.q 0 1 (.q 1 1 (.q 2 1 (.q 3 0 (.q 8 0 (.q 9 0 (.q 4 1 (.q 5 1 (.q 6 0 (.q 7 0 (.q 11 1 (.q 12 1 (.op 10 (.q 13 1 (.q 14 1 (.q 15 1 .nil)))))))))))))))) [10] eo (.c (.ss (.kk (.k .e))) .l) (by kernel_rfl) (fun _ => ?_)
   refine bo 3 1 [] (.n 22 (pt eJ 6) (.s .a)) (fun x hx => qs eJ 0 <| qs eJ 0 <| qe) (by kernel_rfl) (fun _ => ?_)
   refine bo 3 0 [] (.n 29 (.v (.iface 126 (SV.val (pt gb 0)))) (.s .a)) (fun x hx => qB hx 2 rfl 6 (.v (.iface 126 (SV.val (pt gb 0)))) (by kernel_rfl) <| qe) (by kernel_rfl) (fun _ => ?_)
   refine bo 2 1 [] (.n 25 (pt eJ 0) (.k (.s .a))) (fun x hx => qs eJ 0 <| qe) (by kernel_rfl) (fun _ => ?_)
   refine bo 2 0 [] (.n 27 (.b r_.2.2.2.2.2.2.2.2.2.1) (.s .a)) (fun x hx => qs eJ 0 <| qB hx 2 rfl 4 (.b r_.2.2.2.2.2.2.2.2.2.1) (by kernel_rfl) <| qe) (by kernel_rfl) (fun _ => ?_)
   refine bo 2 1 [] (.n 31 (I cZ) (.n 32 (I cZ) (.kk .z))) (fun x hx => qe) (by kernel_rfl) (fun _ => ?_)
   refine bl (by kernel_rfl) rfl ?_
   obtain ⟨bz, gu, hm⟩ := ob hm
   obtain ⟨y9, za, oq, HS, wK, HT, xx⟩ := eo.go (.i (.i (.r (.r (.r .e)))))
   refine kW [] 30 126 (pt gb 0) [.b r_.2.2.2.2.2.2.2.2.2.1] pD rfl (by kernel_rfl) (nb (F := y9) (O := za) _ _ _ _ _ _ _ _ _ _ oq _ gu) ?_
   rintro e_ kI ⟨A6, _, c6, A7, _, c7, rfl, rfl, rfl, eU⟩
   have bH := xx kI _ _ eU (.c (.c (.c .n)))
   refine ⟨sl A6 bz.1.length c6, rfl, ?_⟩
   refine ⟨(bH.ba (.ss (.s (.kk (.k .e))))), fun _ => ?_⟩
   obtain ⟨b, j3, hm⟩ := ob hm
   have hs := dE j3
   have hl := fQ j3
   have hn : bz.1.length = bz.1.length := (bH.len 0 rfl)
   have fZ : bz.1.length ≤ c6 := (bH.tU 0 rfl)
   obtain ⟨u, pK, hm⟩ := ob hm
   have hq := ck pK
   have jJ : b.length ≤ Int.toNat cZ := by omega
   refine bo 3 1 [] (.n 4 (sl A6 b.length (Int.toNat cZ)) (.n 5 (I 0) .z)) (fun x hx => qp (0 ≤ cZ ∧ cZ ≤ ((c6 : Nat) : Int)) (by omega) <| qp (0 ≤ cZ ∧ cZ ≤ ((Int.toNat cZ : Nat) : Int)) (by omega) <| qo (.v (.slice A6 b.length (Int.toNat cZ))) <| qp (Value.slice (nj A6 0 (Int.toNat cZ) 1) (Int.toNat cZ - 0) (Int.toNat cZ - 0) = .slice A6 b.length (Int.toNat cZ)) (pY _ _ _ _ _ (by omega)) <| qe) (by kernel_rfl) (fun _ => ?_)
   refine bC <| aa <| aG ?_
   have bD := bH.pre 0 rfl b.length (Int.toNat cZ) b (by omega) (by omega) (by omega) (sd j3 rfl)
   obtain rfl := Option.some.inj hm
   refine aH [sl A6 b.length (Int.toNat cZ), I 0] qe (by kernel_rfl) ?_
   exact ⟨A6, b.length, Int.toNat cZ, A7, bz.2.2.2.2.1.length, c7, A4, r_.2.2.2.2.2.2.2.1.length, c4, A5, r_.2.2.2.2.2.2.2.2.1.length, c5, bD.len 0 rfl, bD.len 2 rfl, bD.len 4 rfl, bD.len 5 rfl, rfl, bD⟩
theorem oW {F O : Nat → Prop} {w : World} (cF : Int) (b8 : Int) (bd : List UInt8) (bU : List UInt8) (fj : Bool) (b9 : UInt64) (jw : ag UInt32 8) (bE : UInt64) (bF : UInt64) (df : List UInt8) (cQ : Int) (eJ : Nat) (cm : Option Addr) (eK : Nat) (cp : Nat) (cW : Option Addr) (gE : Nat) (cX : Nat) (gb : Nat) (ej : Option Addr) (fo : Nat) (ek : Nat) (k : Cx F O w w [Bx 83 eJ [I cF, I b8, sl cm eK cp, sl cW gE cX, .b fj, .u64 b9, .v (.iface 136 (SV.val (pt gb 0)))], Ow e8 cm eK cp bd, Ow e8 cW gE cX bU, Bx 140 gb [.ar bm jw, .u64 bE, .u64 bF, sl ej fo ek, I cQ, .v (.func (.func 62) ⟨SV.ak []⟩ ⟨SV.ak []⟩), .v (.func (.func 63) ⟨SV.ak []⟩ ⟨SV.ak []⟩)], Ow e8 ej fo ek df]) (r : (ag UInt32 8 × UInt64 × UInt64 × List UInt8 × Int × Int × Int × List UInt8 × List UInt8 × Bool × UInt64)) (hm : fR cF b8 bd bU fj b9 jw bE bF df cQ = some r) :
    Calls Try.prog 29 (ak [pt eJ 0]) w (fun e w' => ∃ A n c A1 n1 c1 A2 n2 c2, r.2.2.2.1.length = n ∧ r.2.2.2.2.2.2.2.1.length = n1 ∧ r.2.2.2.2.2.2.2.2.1.length = n2 ∧ e = .returned (SV.val (.b false)) ∧ Cx F O w w' [Bx 140 gb [.ar bm r.1, .u64 r.2.1, .u64 r.2.2.1, sl A n c, I r.2.2.2.2.1, .v (.func (.func 62) ⟨SV.ak []⟩ ⟨SV.ak []⟩), .v (.func (.func 63) ⟨SV.ak []⟩ ⟨SV.ak []⟩)], Ow e8 A n c r.2.2.2.1, Bx 83 eJ [I r.2.2.2.2.2.1, I r.2.2.2.2.2.2.1, sl A1 n1 c1, sl A2 n2 c2, .b r.2.2.2.2.2.2.2.2.2.1, .u64 r.2.2.2.2.2.2.2.2.2.2, .v (.iface 136 (SV.val (pt gb 0)))], Ow e8 A1 n1 c1 r.2.2.2.2.2.2.2.1, Ow e8 A2 n2 c2 r.2.2.2.2.2.2.2.2.1]) := by
 unfold fR at hm
 obtain rfl := k.len 1 rfl
 obtain rfl := k.len 2 rfl
 obtain rfl := k.len 4 rfl
 refine calls [pt eJ 0] Try.func29 rfl (of_decide_eq_true (by kernel_rfl)) ?_
 refine ab <| aV [] .a qe (by kernel_rfl) ?_
 refine aa <| ab <| aV [5] (.n 2 (.b false) .z) (qs eJ 0 <| qs eJ 0 <| qB k 0 rfl 6 (.v (.iface 136 (SV.val (pt gb 0)))) (by kernel_rfl) <| qe) (by kernel_rfl) ?_
 refine aa <| aG ?_
 obtain rfl := Option.some.inj hm
 refine aH [.b false] qe (by kernel_rfl) ?_
 have k_ := ((((k.pk (.t (.t .h))).pk (.t (.t .h))).pk (.t (.t .h))).pk (.t (.t (.t (.t .h))))).pk (.t (.t (.t (.t .h))))
 exact ⟨ej, df.length, ek, cm, bd.length, cp, cW, bU.length, cX, k_.len 1 rfl, k_.len 3 rfl, k_.len 4 rfl, rfl, k_⟩
theorem wL {F O : Nat → Prop} {w : World} (h : ag UInt32 8) (k : Cx F O w w []) (r : (List UInt8)) (hm : jy h = some r) :
    Calls Try.prog 63 (ak [.agg [.ar bm h]]) w (fun e w' => ∃ A n c, r.length = n ∧ e = .returned (SV.val (sl A n c)) ∧ Cx F O w w' [Ow e8 A n c r]) := by
 unfold jy at hm
 refine calls [.agg [.ar bm h]] Try.func63 rfl (of_decide_eq_true (by kernel_rfl)) ?_
 refine ab <| aj <| ae <| eg [] 1 (.agg [.ar bm h]) [.ar bm h] (by kernel_rfl) k ?_
 intro g w_ k_
 refine aQ 1 [] (.k .z) qe (by kernel_rfl) ?_
 refine ad <| aa <| ab <| aj <| ae <| pW er e8 (0 : UInt8) rfl [] 6 (I 0) (I 32) (0 : Int) (32 : Int) (by kernel_rfl) (by omega) (by omega) (by omega) k_ ?_
 intro A0 jh bN
 refine aQ 1 [] (.n 3 (sl A0 (Int.toNat (0 : Int)) (Int.toNat (32 : Int))) (.s .a)) qe (by kernel_rfl) ?_
 refine ad <| aa <| ab <| ab <| aV [] (.n 7 (.agg [.ar bm h]) (.n 8 (I 0) (.k .z))) (qT bN 0 rfl 0 8 [.ar bm h] (by kernel_rfl) (by decide) <| qe) (by kernel_rfl) ?_
 refine aa <| aI ?_
 have cD := bN.ba (.s (.k .e))
 refine jQ (iK h) (fun s L wr => ∃ (b : List UInt8) (av : Int) (A1 : Option Addr) (n0 : Nat) (c0 : Nat), (b, av) = s ∧ L = [(3, sl A1 n0 c0), (7, .agg [.ar bm h]), (8, I av)] ∧ b.length = n0 ∧ Cx F O w wr [Ow e8 A1 n0 c0 b]) (List.replicate (Int.toNat (0 : Int)) (0 : UInt8), (0 : Int)) r hm ⟨List.replicate (Int.toNat (0 : Int)) (0 : UInt8), (0 : Int), A0, Int.toNat (0 : Int), Int.toNat (32 : Int), rfl, rfl, cD.len 0 rfl, cD⟩ (by kernel_rfl) ?_
 intro rW L_ kI y0 ef bj jH
 obtain ⟨b, av, A1, _, c0, rfl, rfl, rfl, cG⟩ := ef
 have hm := bj; simp only [iK] at hm
 clear bj
 refine ab <| aV [] (.n 9 (.b (decide (av < 8))) .a) qe (by kernel_rfl) ?_
 refine aa <| ab <| aN (av < 8) (by kernel_rfl) (fun hc => ?_) (fun hc => ?_)
 · rw [if_pos hc] at hm
   refine aL <| aa <| ab <| aI <| ab ?_
   obtain ⟨ew, eA, hm⟩ := ob hm
   refine aV [] (.n 5 (.u32 ew) (.s .a)) (qo (.u32 ew) <| qp ((0 ≤ av ∧ av < ((8 : Nat) : Int)) ∧ (SV.cl [.ar bm h])[Int.toNat av * 1]? = some (SV.val (.u32 ew))) (F8 (E := bm) eA rfl) <| qe) (by kernel_rfl) ?_
   refine aa <| aj <| aQ 12 [] (.n 11 (sl A1 b.length c0) (.n 13 (.u8 (UInt8.ofNat ew.toNat)) (.n 16 (.u8 (UInt8.ofNat (eD ew ((8 : UInt64).toNat)).toNat)) (.n 19 (.u8 (UInt8.ofNat (eD ew ((16 : UInt64).toNat)).toNat)) (.n 22 (.u8 (UInt8.ofNat (eD ew ((24 : UInt64).toNat)).toNat)) (.s .a)))))) qe (by kernel_rfl) ?_
   refine ae <| lQ er e8 [] 23 ([UInt8.ofNat ew.toNat, UInt8.ofNat (eD ew ((8 : UInt64).toNat)).toNat, UInt8.ofNat (eD ew ((16 : UInt64).toNat)).toNat, UInt8.ofNat (eD ew ((24 : UInt64).toNat)).toNat] : List UInt8) [(0, .u8 (UInt8.ofNat ew.toNat)), (1, .u8 (UInt8.ofNat (eD ew ((8 : UInt64).toNat)).toNat)), (2, .u8 (UInt8.ofNat (eD ew ((16 : UInt64).toNat)).toNat)), (3, .u8 (UInt8.ofNat (eD ew ((24 : UInt64).toNat)).toNat))] [.u8 (UInt8.ofNat ew.toNat), .u8 (UInt8.ofNat (eD ew ((8 : UInt64).toNat)).toNat), .u8 (UInt8.ofNat (eD ew ((16 : UInt64).toNat)).toNat), .u8 (UInt8.ofNat (eD ew ((24 : UInt64).toNat)).toNat)] (by kernel_rfl) (by kernel_rfl) (by kernel_rfl) cG ?_
   intro A2 mb dm
   refine ae ?_
   obtain ⟨b1, na, hm⟩ := ob hm
   obtain ⟨hz, hl⟩ := fh na
   refine dq (E := e8) (v := sl A2 4 4) (ys := ([UInt8.ofNat ew.toNat, UInt8.ofNat (eD ew ((8 : UInt64).toNat)).toNat, UInt8.ofNat (eD ew ((16 : UInt64).toNat)).toNat, UInt8.ofNat (eD ew ((24 : UInt64).toNat)).toNat] : List UInt8)) er [] 24 0 (by kernel_rfl) dm rfl (Src.sl (dm.rd 1 rfl) (dm.len 1 rfl) (by rfl)) (dm.len 1 rfl) (by have := dm.len 0 rfl; have := (dm.len 1 rfl); omega) ?_
   intro A3 c1 mc dx
   rw [← hl] at dx
   have dV := dx.ba (.k .z)
   refine aQ 1 [] (.n 3 (sl A3 (b.length + 4) c1) (.fi (.fi .a))) qe (by kernel_rfl) ?_
   refine ad <| cu <| aa <| aV [] (.n 8 (I (aA (av + 1))) (.kk .z)) qe (by kernel_rfl) ?_
   exact fO (b1, aA (av + 1)) (Option.some.inj hm).symm ⟨b1, aA (av + 1), A3, b.length + 4, c1, rfl, rfl, dV.len 0 rfl, dV⟩ (by kernel_rfl)
 rw [if_neg hc] at hm
 refine cA (bu (bu (dZ ?_)))
 have hm := bT hm jH
 refine aa <| ab <| aV [] (.n 2 (sl A1 b.length c0) .z) qe (by kernel_rfl) ?_
 refine aa <| aG ?_
 obtain rfl := Option.some.inj hm
 refine aH [sl A1 b.length c0] qe (by kernel_rfl) ?_
 exact ⟨A1, b.length, c0, cG.len 0 rfl, rfl, cG⟩
theorem nf {F O : Nat → Prop} {w : World} (mT : ag UInt32 8) (aW : UInt64) (aX : UInt64) (bB : List UInt8) (ao : Int) (node : Bool) (bW : Nat) (cd : Option Addr) (gS : Nat) (cf : Nat) (k : Cx F O w w [Bx 140 bW [.ar bm mT, .u64 aW, .u64 aX, sl cd gS cf, I ao, .v (.func (.func 62) ⟨SV.ak []⟩ ⟨SV.ak []⟩), .v (.func (.func 63) ⟨SV.ak []⟩ ⟨SV.ak []⟩)], Ow e8 cd gS cf bB]) (r : (List UInt8 × ag UInt32 8 × UInt64 × UInt64 × List UInt8 × Int)) (hm : dL mT aW aX bB ao node = some r) :
    Calls Try.prog 112 (ak [pt bW 0, .b node]) w (fun e w' => ∃ A n c A1 n1 c1, r.1.length = n ∧ r.2.2.2.2.1.length = n1 ∧ e = .returned (SV.val (sl A n c)) ∧ Cx F O w w' [Ow e8 A n c r.1, Bx 140 bW [.ar bm r.2.1, .u64 r.2.2.1, .u64 r.2.2.2.1, sl A1 n1 c1, I r.2.2.2.2.2, .v (.func (.func 62) ⟨SV.ak []⟩ ⟨SV.ak []⟩), .v (.func (.func 63) ⟨SV.ak []⟩ ⟨SV.ak []⟩)], Ow e8 A1 n1 c1 r.2.2.2.2.1]) := by
 unfold dL at hm
 obtain rfl := k.len 1 rfl
 refine calls [pt bW 0, .b node] Try.func112 rfl (of_decide_eq_true (by kernel_rfl)) ?_
 refine ab <| aV [] .a qe (by kernel_rfl) ?_
 refine aa <| ab <| B8 (fun L wr => ∃ (c0 : UInt64) (c2 : UInt64) (g : Nat), dY mT aW aX bB ao node c0 c2 = some r ∧ L = [(0, pt bW 0), (1, .b node), (5, pt g 0)] ∧ Cx F O w wr [Bx 140 bW [.ar bm mT, .u64 aW, .u64 aX, sl cd bB.length cf, I ao, .v (.func (.func 62) ⟨SV.ak []⟩ ⟨SV.ak []⟩), .v (.func (.func 63) ⟨SV.ak []⟩ ⟨SV.ak []⟩)], Ow e8 cd bB.length cf bB, Bx 130 g [.u64 c0, .u64 c2]]) ?_ ?_
 ·
  have k_ := k.drew 1
  refine lJ aT (.q 0 2 (.q 1 2 (.q 2 1 (.q 3 1 (.q 4 2 (.q 5 2 (.q 6 2 (.q 7 2 (.q 8 1 (.q 9 1 (.br 10 14 (.q 11 2 (.q 12 2 (.q 13 3 (.op 14 (.op 15 (.q 16 3 .nil)))))) (.op 10 (.q 11 2 (.q 12 2 (.q 13 3 (.op 15 (.q 16 3 .nil))))))))))))))))) [10, 14, 15] k_ (.c (.kk .e) (.c (.kk .e) (.c (.kk .e) .l))) (by kernel_rfl) (fun _ => ?_)
  refine bo 2 2 [] (.n 9 (pt bW 0) .a) (fun x hx => qs bW 0 <| qe) (by kernel_rfl) (fun _ => ?_)
  refine bo 2 1 [] (.n 11 (.agg [.u64 aW, .u64 aX]) (.s .a)) (fun x hx => qs bW 0 <| qT hx 0 rfl 8 2 [.u64 aW, .u64 aX] (by kernel_rfl) (by decide) <| qe) (by kernel_rfl) (fun _ => ?_)
  refine bo 4 2 [] (.n 15 (sl cd bB.length cf) .a) (fun x hx => qs bW 0 <| qs bW 0 <| qB hx 0 rfl 10 (sl cd bB.length cf) (by kernel_rfl) <| qe) (by kernel_rfl) (fun _ => ?_)
  refine bo 2 1 [] (.n 17 (.u64 (UInt64.ofInt ((bB.length : Nat) : Int))) (.s .a)) (fun x hx => qe) (by kernel_rfl) (fun _ => ?_)
  refine F7 (by kernel_rfl) (by kernel_rfl) rfl rfl ?_ ?_
  ·
   obtain ⟨r_, cc, hm⟩ := ob hm
   refine ax [] 18 _ mF (by kernel_rfl) (jV (F := N0) (O := N0) _ _ _ (Cx.refl _) _ cc) ?_
   rintro e_ w_ ⟨rfl, bN⟩
   have cG := k_.call bN
   refine ⟨.dB [.agg [.u64 r_.1, .u64 r_.2.1], .b r_.2.2], rfl, ?_⟩
   refine ⟨cG, fun _ => ?_⟩
   refine bo 2 2 [] (.n 7 (.dB [.agg [.u64 r_.1, .u64 r_.2.1], .b r_.2.2]) (.n 19 (.agg [.u64 r_.1, .u64 r_.2.1]) (.ib .a))) (fun x hx => qe) (by kernel_rfl) (fun _ => ?_)
   refine bo 1 3 [] (.n 20 (.b r_.2.2) (.s .a)) (fun x hx => qe) (by kernel_rfl) (fun _ => ?_)
   refine bl (by kernel_rfl) rfl <| aU [] 5 [.u64 0, .u64 0] (by kernel_rfl) cG ?_
   intro g1 jh cD
   refine ⟨(cD.ba (.kk .z)), fun _ => ?_⟩
   refine bl (by kernel_rfl) rfl <| cE [] 2 (.agg [.u64 r_.1, .u64 r_.2.1]) [.u64 r_.1, .u64 r_.2.1] (Pt.at g1 0) cD rfl .all (by kernel_rfl) (by kernel_rfl) ?_
   intro kI dm
   refine ⟨(dm.ba (.kk .z)), fun _ => ?_⟩
   refine bo 1 3 [] (.k (.ss .a)) (fun x hx => qe) (by kernel_rfl) (fun _ => ?_)
   refine bC ?_
   exact gK ⟨r_.1, r_.2.1, g1, hm, rfl, dm⟩ (by kernel_rfl)
  ·
   refine aU [] 5 [.u64 0, .u64 0] (by kernel_rfl) k_ ?_
   intro g1 w_ bN
   refine ⟨(bN.ba (.kk .z)), fun _ => ?_⟩
   refine bl (by kernel_rfl) rfl ?_
   obtain ⟨r_, cc, hm⟩ := ob hm
   refine ax [] 18 _ mF (by kernel_rfl) (jV (F := N0) (O := N0) _ _ _ (Cx.refl _) _ cc) ?_
   rintro e_ jh ⟨rfl, cG⟩
   have cD := bN.call cG
   refine ⟨.dB [.agg [.u64 r_.1, .u64 r_.2.1], .b r_.2.2], rfl, ?_⟩
   refine ⟨(cD.ba (.kk .z)), fun _ => ?_⟩
   refine bo 2 2 [] (.n 7 (.dB [.agg [.u64 r_.1, .u64 r_.2.1], .b r_.2.2]) (.n 19 (.agg [.u64 r_.1, .u64 r_.2.1]) (.s (.k (.ss .a))))) (fun x hx => qe) (by kernel_rfl) (fun _ => ?_)
   refine bo 1 3 [] (.n 20 (.b r_.2.2) (.s .a)) (fun x hx => qe) (by kernel_rfl) (fun _ => ?_)
   refine bl (by kernel_rfl) rfl <| cE [] 2 (.agg [.u64 r_.1, .u64 r_.2.1]) [.u64 r_.1, .u64 r_.2.1] (Pt.at g1 0) cD rfl .all (by kernel_rfl) (by kernel_rfl) ?_
   intro kI dm
   refine ⟨(dm.ba (.kk .z)), fun _ => ?_⟩
   refine bo 1 3 [] (.ss .a) (fun x hx => qe) (by kernel_rfl) (fun _ => ?_)
   refine bC ?_
   exact gK ⟨r_.1, r_.2.1, g1, hm, rfl, dm⟩ (by kernel_rfl)
 rintro L_ mb ⟨c0, c2, g, hm, rfl, dx⟩
 simp only [dY] at hm
 refine aa <| ab ?_
 have dV := dx.drew 1
 refine lJ aT (.q 21 1 (.q 22 1 (.q 0 3 (.q 1 3 (.q 2 2 (.q 3 2 (.q 4 3 (.q 5 3 (.q 6 2 (.q 7 1 (.q 8 3 (.q 9 3 (.q 10 2 (.q 11 1 (.q 12 3 (.q 13 3 (.q 14 2 (.q 15 1 (.q 16 3 (.q 17 3 (.q 18 2 (.q 19 1 (.op 20 (.op 23 (.op 24 (.q 25 3 .nil)))))))))))))))))))))))))) [20, 23, 24] dV (.c (.kk (.k .e)) (.c (.kk (.k .e)) (.c (.kk (.k .e)) .l))) (by kernel_rfl) (fun _ => ?_)
 refine bo 2 1 [] (.n 42 (.agg [.u64 c0, .u64 c2]) (.n 43 (.b node) (.k .z))) (fun x hx => qT hx 2 rfl 0 2 [.u64 c0, .u64 c2] (by kernel_rfl) (by decide) <| qe) (by kernel_rfl) (fun _ => ?_)
 refine bo 2 3 [] (.n 22 (pt bW 0) .a) (fun x hx => qs bW 0 <| qe) (by kernel_rfl) (fun _ => ?_)
 refine bo 2 2 [] (.n 24 (.v (.func (.func 63) ⟨SV.ak []⟩ ⟨SV.ak []⟩)) (.s .a)) (fun x hx => qs bW 0 <| qB hx 0 rfl 13 (.v (.func (.func 63) ⟨SV.ak []⟩ ⟨SV.ak []⟩)) (by kernel_rfl) <| qe) (by kernel_rfl) (fun _ => ?_)
 refine bo 2 3 [] (.n 26 (pt bW 0) .a) (fun x hx => qs bW 0 <| qe) (by kernel_rfl) (fun _ => ?_)
 refine bo 1 2 [] (.n 27 (pt bW 12) (.s .a)) (fun x hx => qs bW 0 <| qe) (by kernel_rfl) (fun _ => ?_)
 refine bo 1 1 [] (.n 28 (.v (.func (.func 62) ⟨SV.ak []⟩ ⟨SV.ak []⟩)) (.s .a)) (fun x hx => qB hx 0 rfl 12 (.v (.func (.func 62) ⟨SV.ak []⟩ ⟨SV.ak []⟩)) (by kernel_rfl) <| qe) (by kernel_rfl) (fun _ => ?_)
 refine bo 2 3 [] (.n 30 (pt bW 0) .a) (fun x hx => qs bW 0 <| qe) (by kernel_rfl) (fun _ => ?_)
 refine bo 1 2 [] (.n 31 (pt bW 0) (.s .a)) (fun x hx => qs bW 0 <| qe) (by kernel_rfl) (fun _ => ?_)
 refine bo 1 1 [] (.n 32 (.agg [.ar bm mT]) (.s .a)) (fun x hx => qT hx 0 rfl 0 8 [.ar bm mT] (by kernel_rfl) (by decide) <| qe) (by kernel_rfl) (fun _ => ?_)
 refine bo 2 3 [] (.n 34 (pt bW 0) .a) (fun x hx => qs bW 0 <| qe) (by kernel_rfl) (fun _ => ?_)
 refine bo 1 2 [] (.n 35 (pt bW 10) (.s .a)) (fun x hx => qs bW 0 <| qe) (by kernel_rfl) (fun _ => ?_)
 refine bo 1 1 [] (.n 36 (sl cd bB.length cf) (.s .a)) (fun x hx => qB hx 0 rfl 10 (sl cd bB.length cf) (by kernel_rfl) <| qe) (by kernel_rfl) (fun _ => ?_)
 refine bo 2 3 [] (.n 38 (pt bW 0) (.bb (.kk .z))) (fun x hx => qs bW 0 <| qe) (by kernel_rfl) (fun _ => ?_)
 refine bo 1 2 [] (.n 39 (pt bW 11) (.s .a)) (fun x hx => qs bW 0 <| qe) (by kernel_rfl) (fun _ => ?_)
 refine bo 1 1 [] (.n 40 (I ao) (.s .a)) (fun x hx => qB hx 0 rfl 11 (I ao) (by kernel_rfl) <| qe) (by kernel_rfl) (fun _ => ?_)
 refine bl (by kernel_rfl) rfl ?_
 obtain ⟨aE, cB, hm⟩ := ob hm
 refine ax [] 41 _ sj (by kernel_rfl) (j4 (F := N0) (O := N0) _ _ _ _ _ (Ro.n0 (dV.rd 1 rfl)) (dV.len 1 rfl) (dV.tU 1 rfl) (Cx.refl _) _ cB) ?_
 rintro e_ mc ⟨A0, _, c3, rfl, rfl, ed⟩
 have eo := dV.call ed
 refine ⟨sl A0 aE.length c3, rfl, ?_⟩
 refine ⟨(eo.ba (.kk (.k .z))), fun _ => ?_⟩
 refine bl (by kernel_rfl) rfl ?_
 obtain ⟨bz, gu, hm⟩ := ob hm
 refine mm [] 44 [] [.agg [.ar bm mT], sl A0 aE.length c3, .agg [.u64 c0, .u64 c2], .b true, .b node] [] zS (by kernel_rfl) (nv (F := N0) (O := N0) _ _ _ _ _ _ _ _ _ (Ro.n0 (eo.rd 3 rfl)) (eo.len 3 rfl) (eo.tU 3 rfl) (Cx.refl _) _ gu) ?_
 rintro e_ oH ⟨rfl, eU⟩
 have bH := eo.call eU
 refine ⟨.agg [.ar bm bz], rfl, ?_⟩
 have bD := bH.ba (.kk (.k .z))
 refine ⟨bD, fun _ => ?_⟩
 refine bl (by kernel_rfl) rfl ?_
 obtain ⟨dy, kz, hm⟩ := ob hm
 refine mm [] 45 [] [.agg [.ar bm bz]] [] ET (by kernel_rfl) (wL (F := N0) (O := N0) _ (Cx.refl _) _ kz) ?_
 rintro e_ qD ⟨A2, _, c4, rfl, rfl, cS⟩
 have dk := bD.call cS
 refine ⟨sl A2 dy.length c4, rfl, ?_⟩
 refine ⟨(dk.ba (.kk (.k .z))), fun _ => ?_⟩
 refine bo 1 3 [] (.n 4 (sl A2 dy.length c4) .z) (fun x hx => qe) (by kernel_rfl) (fun _ => ?_)
 refine bC <| aa <| aG ?_
 obtain rfl := Option.some.inj hm
 refine aH [sl A2 dy.length c4] qe (by kernel_rfl) ?_
 have dD := (((dk.pk (.t .h)).pk (.t .h)).pk (.t (.t (.t .h)))).ba (.kk (.k .z))
 exact ⟨A2, dy.length, c4, cd, bB.length, cf, dD.len 0 rfl, dD.len 2 rfl, rfl, dD⟩
theorem pH {F O : Nat → Prop} {w : World} (cF : Int) (b8 : Int) (bd : List UInt8) (bU : List UInt8) (fj : Bool) (b9 : UInt64) (jw : ag UInt32 8) (bE : UInt64) (bF : UInt64) (df : List UInt8) (cQ : Int) (cZ : Int) (eJ : Nat) (cm : Option Addr) (eK : Nat) (cp : Nat) (cW : Option Addr) (gE : Nat) (cX : Nat) (gb : Nat) (ej : Option Addr) (fo : Nat) (ek : Nat) (k : Cx F O w w [Bx 83 eJ [I cF, I b8, sl cm eK cp, sl cW gE cX, .b fj, .u64 b9, .v (.iface 136 (SV.val (pt gb 0)))], Ow e8 cm eK cp bd, Ow e8 cW gE cX bU, Bx 140 gb [.ar bm jw, .u64 bE, .u64 bF, sl ej fo ek, I cQ, .v (.func (.func 62) ⟨SV.ak []⟩ ⟨SV.ak []⟩), .v (.func (.func 63) ⟨SV.ak []⟩ ⟨SV.ak []⟩)], Ow e8 ej fo ek df]) (r : (List UInt8 × Int × ag UInt32 8 × UInt64 × UInt64 × List UInt8 × Int × Int × Int × List UInt8 × List UInt8 × Bool × UInt64)) (hm : fk cF b8 bd bU fj b9 jw bE bF df cQ cZ = some r) :
    Calls Try.prog 24 (ak [pt eJ 0, I cZ]) w (fun e w' => ∃ A n c A1 n1 c1 A2 n2 c2 A3 n3 c3, r.1.length = n ∧ r.2.2.2.2.2.1.length = n1 ∧ r.2.2.2.2.2.2.2.2.2.1.length = n2 ∧ r.2.2.2.2.2.2.2.2.2.2.1.length = n3 ∧ e = .returned (SV.val (.dB [sl A n c, I r.2.1])) ∧ Cx F O w w' [Ow e8 A n c r.1, Bx 140 gb [.ar bm r.2.2.1, .u64 r.2.2.2.1, .u64 r.2.2.2.2.1, sl A1 n1 c1, I r.2.2.2.2.2.2.1, .v (.func (.func 62) ⟨SV.ak []⟩ ⟨SV.ak []⟩), .v (.func (.func 63) ⟨SV.ak []⟩ ⟨SV.ak []⟩)], Ow e8 A1 n1 c1 r.2.2.2.2.2.1, Bx 83 eJ [I r.2.2.2.2.2.2.2.1, I r.2.2.2.2.2.2.2.2.1, sl A2 n2 c2, sl A3 n3 c3, .b r.2.2.2.2.2.2.2.2.2.2.2.1, .u64 r.2.2.2.2.2.2.2.2.2.2.2.2, .v (.iface 136 (SV.val (pt gb 0)))], Ow e8 A2 n2 c2 r.2.2.2.2.2.2.2.2.2.1, Ow e8 A3 n3 c3 r.2.2.2.2.2.2.2.2.2.2.1]) := by
 unfold fk at hm
 obtain rfl := k.len 1 rfl
 obtain rfl := k.len 2 rfl
 obtain rfl := k.len 4 rfl
 refine calls [pt eJ 0, I cZ] Try.func24 rfl (of_decide_eq_true (by kernel_rfl)) ?_
 refine ab <| aV [] .a qe (by kernel_rfl) ?_
 refine aa <| ab <| ab <| aj <| aQ 1 [] (.n 6 (pt eJ 0) .a) qe (by kernel_rfl) ?_
 refine ae ?_
 obtain ⟨r_, cc, hm⟩ := ob hm
 obtain ⟨F1, O1, oV, hO, xK, hF, hb⟩ := k.go (.i (.i (.i (.i (.i .e)))))
 refine ax [] 7 _ zP (by kernel_rfl) (oW (F := F1) (O := O1) _ _ _ _ _ _ _ _ _ _ _ _ _ _ _ _ _ _ _ _ _ _ oV _ cc) ?_
 rintro e_ w_ ⟨A0, _, c0, A4, _, c4, A5, _, c5, rfl, rfl, rfl, rfl, k_⟩
 have bN := hb w_ _ _ k_ (.c (.c (.c (.c (.c .n)))))
 refine ⟨.b false, rfl, ?_⟩
 refine ad <| aa <| bf false (by kernel_rfl) (fun h => by cases h) (fun _ => ?_)
 refine aL <| aa <| ab <| ab <| aj <| aQ 3 [] (.n 10 (.b (decide (cZ < 1))) (.ss .a)) qe (by kernel_rfl) ?_
 refine uB 10 (decide (cZ < 1)) (.s .a) (by kernel_rfl) (fun hg => ?_) (fun hg => ?_)
 · rw [if_pos (of_decide_eq_true hg)] at hm
   refine aQ 9 [10] (.n 19 (.b true) (.s .a)) qe (by kernel_rfl) ?_
   refine ad <| aa <| bf true (by kernel_rfl) (fun _ => ?_) (fun h => by cases h)
   refine ab <| aV [] (.n 4 (sl none 0 0) (.n 5 (I 1) .z)) qe (by kernel_rfl) ?_
   refine aa <| aG (aZ ?_)
   have cG := bN.nil e8
   obtain rfl := Option.some.inj hm
   refine aH [sl none 0 0, I 1] qe (by kernel_rfl) ?_
   have cD := (((((cG.pk (.t (.t (.t (.t .h))))).pk (.t (.t (.t (.t .h))))).pk (.t (.t (.t (.t .h))))).pk (.t (.t (.t (.t .h))))).pk (.t (.t (.t (.t .h))))).pk (.t (.t (.t (.t (.t .h)))))
   exact ⟨none, 0, 0, A0, r_.2.2.2.1.length, c0, A4, r_.2.2.2.2.2.2.2.1.length, c4, A5, r_.2.2.2.2.2.2.2.2.1.length, c5, cD.len 0 rfl, cD.len 2 rfl, cD.len 4 rfl, cD.len 5 rfl, rfl, cD⟩
 · rw [if_neg (of_decide_eq_false hg)] at hm
   refine aQ 5 [10] (.n 11 (I cZ) (.n 15 (I r_.2.2.2.2.2.1) .a)) (qs eJ 0 <| qs eJ 0 <| qB bN 2 rfl 0 (I r_.2.2.2.2.2.1) (by kernel_rfl) <| qe) (by kernel_rfl) ?_
   refine ae ?_
   obtain ⟨aE, cB, hm⟩ := ob hm
   refine ax [10] 16 _ si (by kernel_rfl) (jD (F := N0) (O := N0) _ (Cx.refl _) _ cB) ?_
   rintro e_ jh ⟨rfl, dm⟩
   have dx := bN.call dm
   refine ⟨I aE, rfl, ?_⟩
   refine aQ 3 [10] (.n 19 (.b (decide ((aA (Int.tdiv aE 2)) < cZ))) (.fi .a)) (qp ((2 : Int) ≠ (0 : Int)) (by omega) <| qe) (by kernel_rfl) ?_
   refine ad <| aa <| aN ((aA (Int.tdiv aE 2)) < cZ) (by kernel_rfl) (fun hc => ?_) (fun hc => ?_)
   · rw [if_pos hc] at hm
     refine ab <| aV [] (.n 4 (sl none 0 0) (.n 5 (I 1) .z)) qe (by kernel_rfl) ?_
     refine aa <| aG (aZ ?_)
     have dV := dx.nil e8
     obtain rfl := Option.some.inj hm
     refine aH [sl none 0 0, I 1] qe (by kernel_rfl) ?_
     have ed := (((((dV.pk (.t (.t (.t (.t .h))))).pk (.t (.t (.t (.t .h))))).pk (.t (.t (.t (.t .h))))).pk (.t (.t (.t (.t .h))))).pk (.t (.t (.t (.t .h))))).pk (.t (.t (.t (.t (.t .h)))))
     exact ⟨none, 0, 0, A0, r_.2.2.2.1.length, c0, A4, r_.2.2.2.2.2.2.2.1.length, c4, A5, r_.2.2.2.2.2.2.2.2.1.length, c5, ed.len 0 rfl, ed.len 2 rfl, ed.len 4 rfl, ed.len 5 rfl, rfl, ed⟩
   rw [if_neg hc] at hm
   refine aL <| aa <| ab ?_
   have eo := dx.drew 1
   refine lJ aT (.q 0 1 (.q 1 1 (.q 2 1 (.q 3 0 (.q 8 0 (.q 9 0 (.q 4 1 (.q 5 1 (.q 6 0 (.q 7 0 (.q 11 1 (.q 12 1 (.op 10 (.q 13 1 (.q 14 1 (.q 15 1 .nil)))))))))))))))) [10] eo (.c (.ss (.kk (.k .e))) .l) (by kernel_rfl) (fun _ => ?_)
   refine bo 3 1 [] (.n 22 (pt eJ 6) (.s .a)) (fun x hx => qs eJ 0 <| qs eJ 0 <| qe) (by kernel_rfl) (fun _ => ?_)
   refine bo 3 0 [] (.n 29 (.v (.iface 136 (SV.val (pt gb 0)))) (.s .a)) (fun x hx => qB hx 2 rfl 6 (.v (.iface 136 (SV.val (pt gb 0)))) (by kernel_rfl) <| qe) (by kernel_rfl) (fun _ => ?_)
   refine bo 2 1 [] (.n 25 (pt eJ 0) (.k (.s .a))) (fun x hx => qs eJ 0 <| qe) (by kernel_rfl) (fun _ => ?_)
   refine bo 2 0 [] (.n 27 (.b r_.2.2.2.2.2.2.2.2.2.1) (.s .a)) (fun x hx => qs eJ 0 <| qB hx 2 rfl 4 (.b r_.2.2.2.2.2.2.2.2.2.1) (by kernel_rfl) <| qe) (by kernel_rfl) (fun _ => ?_)
   refine bo 2 1 [] (.n 31 (I cZ) (.n 32 (I cZ) (.kk .z))) (fun x hx => qe) (by kernel_rfl) (fun _ => ?_)
   refine bl (by kernel_rfl) rfl ?_
   obtain ⟨bz, gu, hm⟩ := ob hm
   obtain ⟨y9, za, oq, HS, wK, HT, xx⟩ := eo.go (.i (.i (.r (.r (.r .e)))))
   refine kW [] 30 136 (pt gb 0) [.b r_.2.2.2.2.2.2.2.2.2.1] pE rfl (by kernel_rfl) (nf (F := y9) (O := za) _ _ _ _ _ _ _ _ _ _ oq _ gu) ?_
   rintro e_ kI ⟨A6, _, c6, A7, _, c7, rfl, rfl, rfl, eU⟩
   have bH := xx kI _ _ eU (.c (.c (.c .n)))
   refine ⟨sl A6 bz.1.length c6, rfl, ?_⟩
   refine ⟨(bH.ba (.ss (.s (.kk (.k .e))))), fun _ => ?_⟩
   obtain ⟨b, j3, hm⟩ := ob hm
   have hs := dE j3
   have hl := fQ j3
   have hn : bz.1.length = bz.1.length := (bH.len 0 rfl)
   have fZ : bz.1.length ≤ c6 := (bH.tU 0 rfl)
   obtain ⟨u, pK, hm⟩ := ob hm
   have hq := ck pK
   have jJ : b.length ≤ Int.toNat cZ := by omega
   refine bo 3 1 [] (.n 4 (sl A6 b.length (Int.toNat cZ)) (.n 5 (I 0) .z)) (fun x hx => qp (0 ≤ cZ ∧ cZ ≤ ((c6 : Nat) : Int)) (by omega) <| qp (0 ≤ cZ ∧ cZ ≤ ((Int.toNat cZ : Nat) : Int)) (by omega) <| qo (.v (.slice A6 b.length (Int.toNat cZ))) <| qp (Value.slice (nj A6 0 (Int.toNat cZ) 1) (Int.toNat cZ - 0) (Int.toNat cZ - 0) = .slice A6 b.length (Int.toNat cZ)) (pY _ _ _ _ _ (by omega)) <| qe) (by kernel_rfl) (fun _ => ?_)
   refine bC <| aa <| aG ?_
   have bD := bH.pre 0 rfl b.length (Int.toNat cZ) b (by omega) (by omega) (by omega) (sd j3 rfl)
   obtain rfl := Option.some.inj hm
   refine aH [sl A6 b.length (Int.toNat cZ), I 0] qe (by kernel_rfl) ?_
   exact ⟨A6, b.length, Int.toNat cZ, A7, bz.2.2.2.2.1.length, c7, A4, r_.2.2.2.2.2.2.2.1.length, c4, A5, r_.2.2.2.2.2.2.2.2.1.length, c5, bD.len 0 rfl, bD.len 2 rfl, bD.len 4 rfl, bD.len 5 rfl, rfl, bD⟩
theorem xR {F O : Nat → Prop} {w : World} (k_ : Int) (ay : Int) (bg : Int) (aB : Int) (aJ : Int) (a8 : UInt32) (au : UInt64) (aS : UInt32) (ai : Int) (aF : Int) (aM : List UInt8) (ah : List UInt8) (key : List UInt8) (last : Bool) (out : Int) (data : List UInt8) (a6 : Option Addr) (dN : Nat) (a7 : Nat) (aC : Option Addr) (bI : Nat) (aD : Nat) (lG : Option Addr) (bU : Nat) (lH : Nat) (gz : Option Addr) (pF : Nat) (fM : Nat) (jC : Ro F w a6 (e8.all aM)) (ia : aM.length = dN) (jc : dN ≤ a7) (eX : Ro F w aC (e8.all ah)) (eu : ah.length = bI) (e9 : bI ≤ aD) (xQ : Ro F w lG (e8.all key)) (tu : key.length = bU) (wI : bU ≤ lH) (tk : Ro F w gz (e8.all data)) (v_ : data.length = pF) (sq : pF ≤ fM) (k : Cx F O w w []) (r : (List UInt8 × Int)) (hm : e7 k_ ay bg aB aJ a8 au aS ai aF aM ah key last out data = some r) :
    Calls Try.prog 21 (ak [I k_, .agg [I ay, I bg, I aB, I aJ, .u32 a8, .u64 au, .u32 aS, I ai, I aF, sl a6 dN a7, sl aC bI aD], sl lG bU lH, .b last, I out, sl gz pF fM]) w (fun e w' => ∃ A n c, r.1.length = n ∧ e = .returned (SV.val (.dB [sl A n c, I r.2])) ∧ Cx F O w w' [Ow e8 A n c r.1]) := by
 unfold e7 at hm
 subst ia
 subst eu
 subst tu
 subst v_
 refine calls [I k_, .agg [I ay, I bg, I aB, I aJ, .u32 a8, .u64 au, .u32 aS, I ai, I aF, sl a6 aM.length a7, sl aC ah.length aD], sl lG key.length lH, .b last, I out, sl gz data.length fM] Try.func21 rfl (of_decide_eq_true (by kernel_rfl)) ?_
 refine ab <| aj <| ae <| eg [] 7 (.agg [I ay, I bg, I aB, I aJ, .u32 a8, .u64 au, .u32 aS, I ai, I aF, sl a6 aM.length a7, sl aC ah.length aD]) [I ay, I bg, I aB, I aJ, .u32 a8, .u64 au, .u32 aS, I ai, I aF, sl a6 aM.length a7, sl aC ah.length aD] (by kernel_rfl) k ?_
 intro g w_ bN
 refine aQ 2 [] (.kk (.s .a)) qe (by kernel_rfl) ?_
 refine ad <| aa <| ab <| aj <| aQ 3 [] (.n 17 (I k_) (.n 18 (.agg [I ay, I bg, I aB, I aJ, .u32 a8, .u64 au, .u32 aS, I ai, I aF, sl a6 aM.length a7, sl aC ah.length aD]) (.n 19 (sl lG key.length lH) (.ib .a)))) (qT bN 0 rfl 0 11 [I ay, I bg, I aB, I aJ, .u32 a8, .u64 au, .u32 aS, I ai, I aF, sl a6 aM.length a7, sl aC ah.length aD] (by kernel_rfl) (by decide) <| qe) (by kernel_rfl) ?_
 refine ae ?_
 obtain ⟨r_, cc, hm⟩ := ob hm
 refine ax [] 20 _ EG (by kernel_rfl) (y8 (F := N0) (O := N0) _ _ _ _ _ _ _ _ _ _ _ _ _ _ _ _ _ _ _ _ _ _ (Ro.n0 (jC.cx bN)) rfl jc (Ro.n0 (eX.cx bN)) rfl e9 (Ro.n0 (xQ.cx bN)) rfl wI (Cx.refl _) _ cc) ?_
 rcases r_ with aE | bz | dy
 · simp only [Sum.elim_inl, Sum.elim_inr] at hm
   rintro e_ jh ⟨rfl, cG⟩
   have cD := bN.call cG
   refine ⟨.dB [.v (.pointer none), I aE], rfl, ?_⟩
   have dm := cD.ba .z
   refine aQ 5 [] (.n 14 (.v (.pointer none)) (.n 15 (I aE) (.fi .a))) qe (by kernel_rfl) ?_
   refine ad <| aa <| ab <| ab <| aV [] (.n 24 (.b (decide (aE ≠ 0))) .a) qe (by kernel_rfl) ?_
   refine aa <| aN (aE ≠ 0) (by kernel_rfl) (fun hc => ?_) (fun hc => ?_)
   · rw [if_pos hc] at hm
     refine ab <| aV [] (.n 12 (sl none 0 0) (.n 13 (I aE) .z)) qe (by kernel_rfl) ?_
     refine aa <| aG (aZ ?_)
     have dx := dm.nil e8
     obtain rfl := Option.some.inj hm
     refine aH [sl none 0 0, I aE] qe (by kernel_rfl) ?_
     exact ⟨none, 0, 0, dx.len 0 rfl, rfl, dx⟩
   rw [if_neg hc] at hm
   cases hm
 · simp only [Sum.elim_inl, Sum.elim_inr] at hm
   rintro e_ kI ⟨g1, A0, _, c0, A1, _, c1, g2, A2, _, c2, rfl, rfl, rfl, rfl, dV⟩
   have ed := bN.call dV
   refine ⟨.dB [pt g1 0, I 0], rfl, ?_⟩
   have eo := ed.ba (.s (.bb (.k .e)))
   refine aQ 5 [] (.n 14 (pt g1 0) (.n 15 (I 0) (.fi .a))) qe (by kernel_rfl) ?_
   refine ad <| aa <| ab <| ab <| aV [] (.n 24 (.b (decide (0 ≠ 0))) .a) qe (by kernel_rfl) ?_
   refine aa <| aN (0 ≠ 0) (by kernel_rfl) (fun vD => ?_) (fun vD => ?_)
   · rw [if_pos vD] at hm
     refine ab <| aV [] (.n 12 (sl none 0 0) (.n 13 (I 0) .z)) qe (by kernel_rfl) ?_
     refine aa <| aG (aZ ?_)
     have eU := eo.nil e8
     obtain rfl := Option.some.inj hm
     refine aH [sl none 0 0, I 0] qe (by kernel_rfl) ?_
     have bH := eU.ba (.fi (.s (.k .e)))
     exact ⟨none, 0, 0, bH.len 0 rfl, rfl, bH⟩
   rw [if_neg vD] at hm
   refine aL <| aa <| ab <| aj <| aQ 4 [] (.n 27 (.b last) (.n 29 (pt g1 4) (.s (.k (.ss .a))))) (qs g1 0 <| qs g1 0 <| qe) (by kernel_rfl) ?_
   refine ae <| cE [] 0 (.b last) [.b last] (Pt.at g1 4) eo rfl (.bb .h) (by kernel_rfl) (by kernel_rfl) ?_
   intro mb bD
   refine ad <| aa <| ab <| aj <| aQ 5 [] (.n 33 (.v (.iface 126 (SV.val (pt g2 0)))) (.n 34 (sl gz data.length fM) (.ss (.kk .z)))) (qs g1 0 <| qs g1 0 <| qB bD 0 rfl 6 (.v (.iface 126 (SV.val (pt g2 0)))) (by kernel_rfl) <| qe) (by kernel_rfl) ?_
   refine ae ?_
   obtain ⟨fu, oh, hm⟩ := ob hm
   obtain ⟨F1, O1, oV, hO, xK, hF, hb⟩ := bD.go (.r (.r (.r (.i (.i .e)))))
   refine kW [] 35 126 (pt g2 0) [sl gz data.length fM] ku rfl (by kernel_rfl) (iB (F := F1) (O := O1) _ _ _ _ _ _ _ _ _ _ _ _ _ (Ro.sR tk bD hF) rfl sq oV _ oh) ?_
   rintro e_ mc ⟨A3, _, c3, rfl, rfl, cS⟩
   have dk := hb mc _ _ cS (.c (.c .n))
   refine ⟨.dB [], rfl, ?_⟩
   refine ad <| aa <| ab <| aj <| aQ 2 [] (.n 36 (pt g1 0) (.n 37 (I out) .z)) qe (by kernel_rfl) ?_
   refine ae ?_
   have dD := dk.ba (.bb (.k .e))
   obtain ⟨dj, oo, hm⟩ := ob hm
   have et := ((((dD.pk (.t .h)).pk (.t .h)).pk (.t (.t (.t (.t .h))))).pk (.t (.t (.t (.t .h))))).pk (.t (.t (.t (.t .h))))
   obtain ⟨y9, za, oq, HS, wK, HT, xx⟩ := et.go (.i (.i (.i (.i (.i .e)))))
   refine ax [] 38 _ zO (by kernel_rfl) (rZ (F := y9) (O := za) _ _ _ _ _ _ _ _ _ _ _ _ _ _ _ _ _ _ _ _ _ _ _ oq _ oo) ?_
   rintro e_ oH ⟨A4, _, c4, A5, _, c5, A6, _, c6, A7, _, c7, rfl, rfl, rfl, rfl, rfl, eC⟩
   have eW := xx oH _ _ eC (.c (.c (.c (.c (.c (.c .n))))))
   refine ⟨.dB [sl A4 dj.1.length c4, I dj.2.1], rfl, ?_⟩
   have fN := eW.ba (.k .z)
   refine aQ 4 [] (.n 12 (sl A4 dj.1.length c4) (.n 13 (I dj.2.1) .z)) qe (by kernel_rfl) ?_
   refine ad <| aa <| aG ?_
   obtain rfl := Option.some.inj hm
   refine aH [sl A4 dj.1.length c4, I dj.2.1] qe (by kernel_rfl) ?_
   exact ⟨A4, dj.1.length, c4, fN.len 0 rfl, rfl, fN⟩
 · simp only [Sum.elim_inl, Sum.elim_inr] at hm
   rintro e_ qD ⟨g3, A8, _, c8, A9, _, c9, g4, Jh, _, Ji, rfl, rfl, rfl, rfl, iW⟩
   have fH := bN.call iW
   refine ⟨.dB [pt g3 0, I 0], rfl, ?_⟩
   have gA := fH.ba (.s (.bb (.k .e)))
   refine aQ 5 [] (.n 14 (pt g3 0) (.n 15 (I 0) (.fi .a))) qe (by kernel_rfl) ?_
   refine ad <| aa <| ab <| ab <| aV [] (.n 24 (.b (decide (0 ≠ 0))) .a) qe (by kernel_rfl) ?_
   refine aa <| aN (0 ≠ 0) (by kernel_rfl) (fun fZ => ?_) (fun fZ => ?_)
   · rw [if_pos fZ] at hm
     refine ab <| aV [] (.n 12 (sl none 0 0) (.n 13 (I 0) .z)) qe (by kernel_rfl) ?_
     refine aa <| aG (aZ ?_)
     have iA := gA.nil e8
     obtain rfl := Option.some.inj hm
     refine aH [sl none 0 0, I 0] qe (by kernel_rfl) ?_
     have jL := iA.ba (.fi (.s (.k .e)))
     exact ⟨none, 0, 0, jL.len 0 rfl, rfl, jL⟩
   rw [if_neg fZ] at hm
   refine aL <| aa <| ab <| aj <| aQ 4 [] (.n 27 (.b last) (.n 29 (pt g3 4) (.s (.k (.ss .a))))) (qs g3 0 <| qs g3 0 <| qe) (by kernel_rfl) ?_
   refine ae <| cE [] 0 (.b last) [.b last] (Pt.at g3 4) gA rfl (.bb .h) (by kernel_rfl) (by kernel_rfl) ?_
   intro rL iv
   refine ad <| aa <| ab <| aj <| aQ 5 [] (.n 33 (.v (.iface 136 (SV.val (pt g4 0)))) (.n 34 (sl gz data.length fM) (.ss (.kk .z)))) (qs g3 0 <| qs g3 0 <| qB iv 0 rfl 6 (.v (.iface 136 (SV.val (pt g4 0)))) (by kernel_rfl) <| qe) (by kernel_rfl) ?_
   refine ae ?_
   obtain ⟨gH, qj, hm⟩ := ob hm
   obtain ⟨MU, MW, HR, Q8, Kj, PK, MY⟩ := iv.go (.r (.r (.r (.i (.i .e)))))
   refine kW [] 35 136 (pt g4 0) [sl gz data.length fM] kv rfl (by kernel_rfl) (iC (F := MU) (O := MW) _ _ _ _ _ _ _ _ _ _ _ _ _ (Ro.sR tk iv PK) rfl sq HR _ qj) ?_
   rintro e_ uL ⟨LD, _, LF, rfl, rfl, iX⟩
   have jM := MY uL _ _ iX (.c (.c .n))
   refine ⟨.dB [], rfl, ?_⟩
   refine ad <| aa <| ab <| aj <| aQ 2 [] (.n 36 (pt g3 0) (.n 37 (I out) .z)) qe (by kernel_rfl) ?_
   refine ae ?_
   have lM := jM.ba (.bb (.k .e))
   obtain ⟨ie, xO, hm⟩ := ob hm
   have je := ((((lM.pk (.t .h)).pk (.t .h)).pk (.t (.t (.t (.t .h))))).pk (.t (.t (.t (.t .h))))).pk (.t (.t (.t (.t .h))))
   obtain ⟨MZ, M0, HU, Q9, M1, Q_, GK⟩ := je.go (.i (.i (.i (.i (.i .e)))))
   refine ax [] 38 _ zO (by kernel_rfl) (pH (F := MZ) (O := M0) _ _ _ _ _ _ _ _ _ _ _ _ _ _ _ _ _ _ _ _ _ _ _ HU _ xO) ?_
   rintro e_ xI ⟨Jj, _, Jk, SF, _, SG, SI, _, SJ, SK, _, SL, rfl, rfl, rfl, rfl, rfl, l8⟩
   have lE := GK xI _ _ l8 (.c (.c (.c (.c (.c (.c .n))))))
   refine ⟨.dB [sl Jj ie.1.length Jk, I ie.2.1], rfl, ?_⟩
   have pI := lE.ba (.k .z)
   refine aQ 4 [] (.n 12 (sl Jj ie.1.length Jk) (.n 13 (I ie.2.1) .z)) qe (by kernel_rfl) ?_
   refine ad <| aa <| aG ?_
   obtain rfl := Option.some.inj hm
   refine aH [sl Jj ie.1.length Jk, I ie.2.1] qe (by kernel_rfl) ?_
   exact ⟨Jj, ie.1.length, Jk, pI.len 0 rfl, rfl, pI⟩
theorem ot {F O : Nat → Prop} {w : World} (cJ : Int) (af : Mp (List UInt8)) (al : Mp (Mp (Int × List UInt8))) (b : List UInt8) (fg : Nat) (aq : Nat) (aw : Nat) (fm : Option Addr) (ig : Nat) (fw : Nat) (j3 : Ro F w fm (e8.all b)) (iV : b.length = ig) (jK : ig ≤ fw) (k : Cx F O w w [Bx 50 fg [I cJ, .v (.map (some aq)), .v (.map (some aw))], MS (vH e8) aq af, MS (vM (vS (eP eI eS) (bL bJ bK))) aw al]) (r : (List UInt8 × Int)) (hm : ez cJ af al b = some r) :
    Calls Try.prog 16 (ak [pt fg 0, sl fm ig fw]) w (fun e w' => e = .returned (SV.val (.s r.1)) ∧ Cx F O w w' [Bx 50 fg [I r.2, .v (.map (some aq)), .v (.map (some aw))], MS (vH e8) aq af, MS (vM (vS (eP eI eS) (bL bJ bK))) aw al]) := by
 unfold ez at hm
 subst iV
 refine calls [pt fg 0, sl fm b.length fw] Try.func16 rfl (of_decide_eq_true (by kernel_rfl)) ?_
 refine ab <| aV [] .a qe (by kernel_rfl) ?_
 refine aa <| ab ?_
 have k_ := k.drew 1
 refine lJ aT (.q 9 0 (.q 0 1 (.q 1 1 (.q 2 1 (.q 3 0 (.q 4 0 (.q 5 1 (.q 6 1 (.q 7 0 (.q 8 0 (.op 10 (.q 11 1 (.q 12 1 (.q 13 1 (.q 14 1 (.q 15 1 .nil)))))))))))))))) [10] k_ (.c (.kk (.k .e)) .l) (by kernel_rfl) (fun _ => ?_)
 refine bo 1 0 [] (.n 17 (sl fm b.length fw) (.k .z)) (fun x hx => qe) (by kernel_rfl) (fun _ => ?_)
 refine bo 3 1 [] (.n 10 (pt fg 0) .a) (fun x hx => qs fg 0 <| qs fg 0 <| qe) (by kernel_rfl) (fun _ => ?_)
 refine bo 2 0 [] (.n 12 (.agg [I cJ, I 0, I 1, I 1, .u32 0, .u64 0, .u32 0, I 0, I 0, sl none 0 0, sl none 0 0]) (.s .a)) (fun x hx => qB hx 0 rfl 0 (I cJ) (by kernel_rfl) <| qe) (by kernel_rfl) (fun _ => ?_)
 refine bo 2 1 [] (.n 14 (pt fg 0) (.kk .z)) (fun x hx => qs fg 0 <| qe) (by kernel_rfl) (fun _ => ?_)
 refine bo 2 0 [] (.n 16 (I cJ) (.s .a)) (fun x hx => qs fg 0 <| qB hx 0 rfl 0 (I cJ) (by kernel_rfl) <| qe) (by kernel_rfl) (fun _ => ?_)
 refine bl (by kernel_rfl) rfl ?_
 obtain ⟨r_, cc, hm⟩ := ob hm
 refine ax [] 18 _ EF (by kernel_rfl) (xR (F := N0) (O := N0) _ _ _ _ _ _ _ _ _ _ _ _ _ _ _ _ _ _ _ _ _ _ _ _ _ _ _ _ (Ro.D8 e8) rfl (Nat.le_refl 0) (Ro.D8 e8) rfl (Nat.le_refl 0) (Ro.D8 e8) rfl (Nat.le_refl 0) (Ro.n0 (j3.cx k_)) rfl jK (Cx.refl _) _ cc) ?_
 rintro e_ w_ ⟨A, _, c, rfl, rfl, bN⟩
 have cG := k_.call bN
 refine ⟨.dB [sl A r_.1.length c, I r_.2], rfl, ?_⟩
 refine ⟨(cG.ba (.kk (.k .z))), fun _ => ?_⟩
 refine bo 5 1 [] (.n 5 (sl A r_.1.length c) .z) (fun x hx => qe) (by kernel_rfl) (fun _ => ?_)
 refine bC <| aa <| ab <| aV [] (.n 4 (.s r_.1) .z) (qo (.s r_.1) <| qc (fun w => Rd w A (r_.1.map bV) ∧ r_.1.length = r_.1.length) ⟨qH r_.1 ▸ (cG.rd 3 rfl), (cG.len 3 rfl)⟩ <| qe) (by kernel_rfl) ?_
 refine aa <| aG ?_
 obtain rfl := Option.some.inj hm
 refine aH [.s r_.1] qe (by kernel_rfl) ?_
 have cD := cG.ba (.kk (.k .z))
 exact ⟨rfl, cD⟩
theorem lX {F O : Nat → Prop} {w : World} (cJ : Int) (af : Mp (List UInt8)) (al : Mp (Mp (Int × List UInt8))) (snap : List UInt8) (files : List (List UInt8 × List UInt8)) (fg : Nat) (aq : Nat) (aw : Nat) (gF : Option Addr) (wM : Nat) (iQ : Nat) (CU : List (List UInt8 × Hd)) (lY : xq F w (eP eS eH) (RP RQ (RH F w e8)) gF CU files) (CV : files.length = wM) (Kk : wM ≤ iQ) (k : Cx F O w w [Bx 50 fg [I cJ, .v (.map (some aq)), .v (.map (some aw))], MS (vH e8) aq af, MS (vM (vS (eP eI eS) (bL bJ bK))) aw al]) (r : (Int × Int × Mp (List UInt8) × (Mp (Mp (Int × List UInt8))))) (hm : ei cJ af al snap files = some r) :
    Calls Try.prog 7 (ak [pt fg 0, .s snap, sl gF wM iQ]) w (fun e w' => e = .returned (SV.val (I r.1)) ∧ Cx F O w w' [Bx 50 fg [I r.2.1, .v (.map (some aq)), .v (.map (some aw))], MS (vH e8) aq r.2.2.1, MS (vM (vS (eP eI eS) (bL bJ bK))) aw r.2.2.2]) := by
 unfold ei at hm
 subst CV
 refine calls [pt fg 0, .s snap, sl gF files.length iQ] Try.func7 rfl (of_decide_eq_true (by kernel_rfl)) ?_
 refine ab <| aV [] .a qe (by kernel_rfl) ?_
 refine aa <| ab <| ab <| aj <| aQ 1 [] (.n 28 (pt fg 0) .a) qe (by kernel_rfl) ?_
 refine ae ?_
 obtain ⟨r_, cc, hm⟩ := ob hm
 obtain ⟨F1, O1, oV, hO, xK, hF, hb⟩ := k.go (.i (.i (.i .e)))
 refine ax [] 29 _ sf (by kernel_rfl) (gk (F := F1) (O := O1) _ _ _ _ _ _ oV _ cc) ?_
 rintro e_ w_ ⟨rfl, k_⟩
 have bN := hb w_ _ _ k_ (.c (.c (.c .n)))
 refine ⟨.b false, rfl, ?_⟩
 refine ad <| aa <| bf false (by kernel_rfl) (fun h => by cases h) (fun _ => ?_)
 refine aL <| aa <| ab <| aj <| aQ 5 [] (.n 34 (.v (.map (some aw))) (.n 35 (.s snap) (.ss .a))) (qs fg 0 <| qs fg 0 <| qB bN 0 rfl 2 (.v (.map (some aw))) (by kernel_rfl) <| qe) (by kernel_rfl) ?_
 refine ae ?_
 have cG := ((bN.pk (.t .h)).pk (.t .h)).pk (.t (.t .h))
 refine oE (kt := 9) (e := 56) (v := (vS (eP eI eS) (bL bJ bK))) (m := al) (key := snap) [] 36 (by kernel_rfl) (by kernel_rfl) cG.acc (fun hf => ?_) (fun b aE Fc cD => ?_)
 · simp only [hf, Option.elim_none] at hm
   refine aQ 5 [] (.n 8 (.b false) (.ib .a)) qe (by kernel_rfl) ?_
   refine ad <| aa <| ab <| aI <| ab <| aj <| aQ 1 [] (.n 40 (.s snap) .a) qe (by kernel_rfl) ?_
   refine ae ?_
   obtain ⟨bz, gu, hm⟩ := ob hm
   refine ax [] 41 _ vY (by kernel_rfl) (l9 (F := N0) (O := N0) _ (Cx.refl _) _ gu) ?_
   rintro e_ jh ⟨rfl, dm⟩
   have dx := cG.call dm
   refine ⟨.b bz, rfl, ?_⟩
   refine aQ 2 [] (.n 39 (.b (!bz)) (.ss .a)) qe (by kernel_rfl) ?_
   refine ad <| aa <| bf (!bz) (by kernel_rfl) (fun hc => ?_) (fun hc => ?_)
   · rw [if_pos hc] at hm
     refine ab <| aV [] (.n 6 (I 214) .z) qe (by kernel_rfl) ?_
     refine aa <| aG (cH (aZ ?_))
     obtain rfl := Option.some.inj hm
     refine aH [I 214] qe (by kernel_rfl) ?_
     have dV := ((dx.pk .h).pk (.t (.t .h))).pk (.t (.t .h))
     exact ⟨rfl, dV⟩
   rw [if_neg (by rw [hc]; decide)] at hm
   refine ab <| aV [] (.n 43 (.b false) (.ss .a)) qe (by kernel_rfl) ?_
   refine aa <| bf false (by kernel_rfl) (fun h => by cases h) (fun _ => ?_)
   refine ab <| aj <| aQ 4 [] (.n 49 (.v (.map (some aw))) (.s .a)) (qs fg 0 <| qs fg 0 <| qB dx 1 rfl 2 (.v (.map (some aw))) (by kernel_rfl) <| qe) (by kernel_rfl) ?_
   refine ae <| xv (kt := 9) (e := 56) (v := (vM (vS (eP eI eS) (bL bJ bK)))) (m := al) [] 50 (by kernel_rfl) dx.acc ?_
   refine aQ 7 [] (.n 45 (.b ((decide (64 ≤ ((al.length : Nat) : Int))) || (decide (256 < ((files.length : Nat) : Int))))) (.ss .a)) qe (by kernel_rfl) ?_
   refine ad <| aa <| bf ((decide (64 ≤ ((al.length : Nat) : Int))) || (decide (256 < ((files.length : Nat) : Int)))) (by kernel_rfl) (fun fZ => ?_) (fun fZ => ?_)
   · rw [if_pos fZ] at hm
     refine ab <| aV [] (.n 6 (I 2) .z) qe (by kernel_rfl) ?_
     refine aa <| aG (cH (aZ ?_))
     obtain rfl := Option.some.inj hm
     refine aH [I 2] qe (by kernel_rfl) ?_
     have ed := ((dx.pk .h).pk (.t (.t .h))).pk (.t (.t .h))
     exact ⟨rfl, ed⟩
   rw [if_neg (by rw [fZ]; decide)] at hm
   refine aL <| cu <| aa <| ab <| aj <| ae ?_
   have eo := dx.ba (.kk (.k .e))
   refine mq [] 57 (by kernel_rfl) eo ?_
   intro b1 kI eU
   have bH := eU.qP (v := vI)
   refine aQ 1 [] (.n 9 (.v (.map (some b1))) (.ss .a)) qe (by kernel_rfl) ?_
   refine ad <| aa <| ab <| ab <| aV [] (.n 58 (sl gF files.length iQ) (.n 59 (I ((files.length : Nat) : Int)) (.n 60 (I 0) .a))) qe (by kernel_rfl) ?_
   refine aa <| aI ?_
   have cS := (((bH.pk .h).pk (.t .h)).pk (.t (.t (.t .h)))).pk (.t (.t (.t .h)))
   refine jQ (cO af al snap files r_) (fun s L wr => ∃ (AP : Mp Int) (av : Int), (AP, av) = s ∧ L = [(0, pt fg 0), (1, .s snap), (2, sl gF files.length iQ), (9, .v (.map (some b1))), (58, sl gF files.length iQ), (59, I ((files.length : Nat) : Int)), (60, I av)] ∧ Cx F O w wr [Bx 50 fg [I r_, .v (.map (some aq)), .v (.map (some aw))], MS (vH e8) aq af, MS (vM (vS (eP eI eS) (bL bJ bK))) aw al, MS vI b1 AP]) (([] : Mp Int), (0 : Int)) r hm ⟨([] : Mp Int), (0 : Int), rfl, rfl, cS⟩ (by kernel_rfl) ?_
   intro rW L_ mb y0 ef bj jH
   obtain ⟨AP, av, rfl, rfl, bD⟩ := ef
   have hm := bj; simp only [cO] at hm
   clear bj
   refine ab <| aV [] (.n 61 (.b (decide (av < ((files.length : Nat) : Int)))) .a) qe (by kernel_rfl) ?_
   refine aa <| ab <| aN (av < ((files.length : Nat) : Int)) (by kernel_rfl) (fun jJ => ?_) (fun jJ => ?_)
   · rw [if_pos jJ] at hm
     refine aL <| aa <| ab <| aI <| ab <| aj ?_
     obtain ⟨bk, dA, hm⟩ := ob hm
     obtain ⟨⟨q, ⟨B, n, c⟩⟩, hy, hg⟩ := lY.at dA
     simp only [RP, RQ, RH] at hg; obtain ⟨rfl, ⟨rfl, hle, PI⟩⟩ := hg
     refine aQ 3 [] (.n 62 (I av) (.n 64 (.agg [.s bk.1, sl B bk.2.length c]) (.s .a))) (qJ (E := (eP eS eH)) (lY.ro.cx bD) hy lY.len <| qR [.s bk.1, sl B bk.2.length c] (Rd.JN (k := 0) (m := 2) (lY.ro.cx bD) hy (Pt.oZ gF av 2) rfl (by decide) (by decide)) <| qe) (by kernel_rfl) ?_
     refine ae <| aU [] 11 [.s ([] : List UInt8), sl none 0 0] (by kernel_rfl) bD ?_
     intro g mc dk
     refine aQ 1 [] (.n 10 (I av) (.k (.s .a))) qe (by kernel_rfl) ?_
     refine ae <| cE [] 4 (.agg [.s bk.1, sl B bk.2.length c]) [.s bk.1, sl B bk.2.length c] (Pt.at g 0) dk rfl .all (by kernel_rfl) (by kernel_rfl) ?_
     intro oH dD
     refine ad <| aa <| ab <| aj <| aQ 3 [] (.n 66 (.v (.map (some b1))) (.n 68 (.s bk.1) (.kk (.s .a)))) (qs g 0 <| qB dD 4 rfl 0 (.s bk.1) (by kernel_rfl) <| qe) (by kernel_rfl) ?_
     refine ae ?_
     have et := ((((dD.pk (.t (.t (.t (.t .h))))).pk (.t (.t (.t .h)))).pk (.t (.t (.t .h)))).pk (.t (.t (.t .h)))).pk (.t (.t (.t (.t .h))))
     refine AN (kt := 9) (e := 3) (v := vI) (m := AP) (key := bk.1) rfl [] 69 (0 : Int) (I ((aO AP bk.1).getD (0 : Int))) (by kernel_rfl) (by kernel_rfl) et.acc rfl ?_
     refine aQ 5 [] (.n 13 (.b ((aO AP bk.1).isSome)) (.ib .a)) qe (by kernel_rfl) ?_
     refine ad <| aa <| ab <| aI <| ab <| aj <| aQ 2 [] (.n 74 (.s bk.1) .a) (qs g 0 <| qB et 4 rfl 0 (.s bk.1) (by kernel_rfl) <| qe) (by kernel_rfl) ?_
     refine ae ?_
     obtain ⟨dy, kz, hm⟩ := ob hm
     refine ax [] 75 _ vY (by kernel_rfl) (l9 (F := N0) (O := N0) _ (Cx.refl _) _ kz) ?_
     rintro e_ qD ⟨rfl, eC⟩
     have eW := et.call eC
     refine ⟨.b dy, rfl, ?_⟩
     refine aQ 2 [] (.n 72 (.b (!dy)) (.ss .a)) qe (by kernel_rfl) ?_
     refine ad <| aa <| bf (!dy) (by kernel_rfl) (fun rX => ?_) (fun rX => ?_)
     · rw [if_pos rX] at hm
       refine ab <| aV [] (.n 6 (I 214) .z) qe (by kernel_rfl) ?_
       refine aa <| aG (cH (aZ (cH (aZ (aZ (cH (aZ ?_)))))))
       have hm := bT hm jH
       obtain rfl := Option.some.inj hm
       refine aH [I 214] qe (by kernel_rfl) ?_
       have fN := eW.ba (.s (.kk (.k .z)))
       exact ⟨rfl, fN⟩
     rw [if_neg (by rw [rX]; decide)] at hm
     refine ab <| aV [] (.n 77 (.b (decide (1048576 < ((bk.2.length : Nat) : Int)))) (.s .a)) (qs g 0 <| qB eW 4 rfl 1 (sl B bk.2.length c) (by kernel_rfl) <| qe) (by kernel_rfl) ?_
     refine aa <| aN (1048576 < ((bk.2.length : Nat) : Int)) (by kernel_rfl) (fun t_ => ?_) (fun t_ => ?_)
     · rw [if_pos t_] at hm
       refine ab <| aV [] (.n 6 (I 2) .z) qe (by kernel_rfl) ?_
       refine aa <| aG (cH (aZ (cH (aZ (aZ (cH (aZ ?_)))))))
       have hm := bT hm jH
       obtain rfl := Option.some.inj hm
       refine aH [I 2] qe (by kernel_rfl) ?_
       have iW := eW.ba (.s (.kk (.k .z)))
       exact ⟨rfl, iW⟩
     rw [if_neg t_] at hm
     refine ab <| aV [] (.n 82 (.b ((aO AP bk.1).isSome)) (.ss .a)) qe (by kernel_rfl) ?_
     refine aa <| bf ((aO AP bk.1).isSome) (by kernel_rfl) (fun rf => ?_) (fun rf => ?_)
     · rw [if_pos rf] at hm
       refine ab <| aV [] (.n 6 (I 213) .z) qe (by kernel_rfl) ?_
       refine aa <| aG (cH (aZ (cH (aZ (aZ (cH (aZ ?_)))))))
       have hm := bT hm jH
       obtain rfl := Option.some.inj hm
       refine aH [I 213] qe (by kernel_rfl) ?_
       have fH := eW.ba (.s (.kk (.k .z)))
       exact ⟨rfl, fH⟩
     rw [if_neg (by rw [rf]; decide)] at hm
     refine aL <| cu <| aa <| aj <| aQ 4 [] (.n 84 (.v (.map (some b1))) (.n 86 (.s bk.1) (.n 87 (I av) (.ib .a)))) (qs g 0 <| qB eW 4 rfl 0 (.s bk.1) (by kernel_rfl) <| qe) (by kernel_rfl) ?_
     refine ae ?_
     have gA := eW.ba (.bb (.k .e))
     refine se (kt := 9) (e := 3) (v := vI) (key := bk.1) rfl [] av (by kernel_rfl) gA ?_
     intro rL iA
     refine ad <| cu <| aa <| aV [] (.n 60 (I (aA (av + 1))) (.ib (.bb (.kk .z)))) qe (by kernel_rfl) ?_
     have jL := ((((iA.pk .h).pk (.t (.t (.t .h)))).pk (.t (.t (.t .h)))).pk (.t (.t (.t .h)))).ba (.bb .z)
     exact fO (bq AP bk.1 av, aA (av + 1)) (Option.some.inj hm).symm ⟨bq AP bk.1 av, aA (av + 1), rfl, rfl, jL⟩ (by kernel_rfl)
   rw [if_neg jJ] at hm
   refine cA (bu (bu (dZ ?_)))
   have hm := bT hm jH
   refine aa <| ab <| aj <| ae <| mq [] 89 (by kernel_rfl) bD ?_
   intro b2 uL iv
   have iX := iv.qP (v := (vH e8))
   refine aQ 1 [] (.n 14 (.v (.map (some b2))) (.ss (.nJ .z))) qe (by kernel_rfl) ?_
   refine ad <| aa <| ab <| aj <| ae <| mq [] 90 (by kernel_rfl) iX ?_
   intro b3 xI jM
   have lM := jM.qP (v := (vS (eP eI eS) (bL bJ bK)))
   refine aQ 1 [] (.n 15 (.v (.map (some b3))) (.s .a)) qe (by kernel_rfl) ?_
   refine ad <| aa <| ab <| ab <| aV [] (.n 91 (sl gF files.length iQ) (.n 92 (I ((files.length : Nat) : Int)) (.n 93 (I 0) (.bb .z)))) qe (by kernel_rfl) ?_
   refine aa <| aI ?_
   have l8 := (((((lM.pk .h).pk (.t .h)).pk (.t (.t (.t (.t .h))))).pk (.t (.t (.t (.t .h))))).pk (.t (.t (.t (.t .h))))).ba (.bb (.k .z))
   refine jQ (cN af al snap files) (fun s L wr => ∃ (d : Int) (CC : Mp (List UInt8)) (xC : Mp (Int × List UInt8)) (dQ : Int), (d, CC, xC, dQ) = s ∧ L = [(0, pt fg 0), (1, .s snap), (14, .v (.map (some b2))), (15, .v (.map (some b3))), (91, sl gF files.length iQ), (92, I ((files.length : Nat) : Int)), (93, I dQ)] ∧ Cx F O w wr [Bx 50 fg [I d, .v (.map (some aq)), .v (.map (some aw))], MS (vH e8) aq af, MS (vM (vS (eP eI eS) (bL bJ bK))) aw al, MS (vH e8) b2 CC, MS (vS (eP eI eS) (bL bJ bK)) b3 xC]) (r_, ([] : Mp (List UInt8)), ([] : Mp (Int × List UInt8)), (0 : Int)) r hm ⟨r_, ([] : Mp (List UInt8)), ([] : Mp (Int × List UInt8)), (0 : Int), rfl, rfl, l8⟩ (by kernel_rfl) ?_
   intro rW L_ rk y0 ef bj jH
   obtain ⟨d, CC, xC, dQ, rfl, rfl, je⟩ := ef
   have hm := bj; simp only [cN] at hm
   clear bj
   refine ab <| aV [] (.n 94 (.b (decide (dQ < ((files.length : Nat) : Int)))) .a) qe (by kernel_rfl) ?_
   refine aa <| ab <| aN (dQ < ((files.length : Nat) : Int)) (by kernel_rfl) (fun tQ => ?_) (fun tQ => ?_)
   · rw [if_pos tQ] at hm
     refine aL <| aa <| ab <| aI <| ab <| aj ?_
     obtain ⟨cY, ij, hm⟩ := ob hm
     obtain ⟨⟨q1, ⟨B1, n1, c1⟩⟩, Jl, Jm⟩ := lY.at ij
     simp only [RP, RQ, RH] at Jm; obtain ⟨rfl, ⟨rfl, M3, M4⟩⟩ := Jm
     refine aQ 2 [] (.n 96 (.agg [.s cY.1, sl B1 cY.2.length c1]) (.s .a)) (qJ (E := (eP eS eH)) (lY.ro.cx je) Jl lY.len <| qR [.s cY.1, sl B1 cY.2.length c1] (Rd.JN (k := 0) (m := 2) (lY.ro.cx je) Jl (Pt.oZ gF dQ 2) rfl (by decide) (by decide)) <| qe) (by kernel_rfl) ?_
     refine ae <| aU [] 17 [.s ([] : List UInt8), sl none 0 0] (by kernel_rfl) je ?_
     intro g1 uc lE
     refine ae <| cE [] 5 (.agg [.s cY.1, sl B1 cY.2.length c1]) [.s cY.1, sl B1 cY.2.length c1] (Pt.at g1 0) lE rfl .all (by kernel_rfl) (by kernel_rfl) ?_
     intro wg pI
     refine ad <| aa <| ab <| aj <| aQ 4 [] (.n 100 (.agg [I ((cY.2.length : Nat) : Int), .s ([] : List UInt8)]) (.k (.s .a))) (qs g1 0 <| qB pI 5 rfl 1 (sl B1 cY.2.length c1) (by kernel_rfl) <| qe) (by kernel_rfl) ?_
     refine ae <| aU [] 18 [I 0, .s ([] : List UInt8)] (by kernel_rfl) pI ?_
     intro g2 yZ xS
     refine ae <| cE [] 6 (.agg [I ((cY.2.length : Nat) : Int), .s ([] : List UInt8)]) [I ((cY.2.length : Nat) : Int), .s ([] : List UInt8)] (Pt.at g2 0) xS rfl .all (by kernel_rfl) (by kernel_rfl) ?_
     intro CL lN
     refine ad <| aa <| ab <| aj <| aQ 2 [] (.n 103 (sl B1 cY.2.length c1) (.k (.s .a))) (qs g1 0 <| qB lN 5 rfl 1 (sl B1 cY.2.length c1) (by kernel_rfl) <| qe) (by kernel_rfl) ?_
     refine ae ?_
     have tw := lN.ba (.bb (.kk (.k .e)))
     obtain ⟨fu, oh, hm⟩ := ob hm
     refine ax [] 104 _ zN (by kernel_rfl) (oe (F := N0) (O := N0) _ _ _ _ (Ro.n0 (M4.cx tw)) rfl M3 (Cx.refl _) _ oh) ?_
     rintro e_ CM ⟨A, _, c2, hd, rfl, rfl, r4⟩
     have tx := tw.call r4
     refine ⟨.dB [sl A fu.1.length c2, I fu.2], rfl, ?_⟩
     have zb := (((((((tx.pk (.t (.t (.t (.t (.t (.t .h))))))).pk (.t (.t (.t (.t (.t (.t .h))))))).pk (.t (.t (.t (.t (.t (.t .h))))))).pk (.t (.t (.t (.t (.t (.t .h))))))).pk (.t (.t (.t (.t (.t (.t .h))))))).pk (.t (.t (.t (.t (.t (.t .h))))))).pk (.t (.t (.t (.t (.t (.t .h))))))).pk (.t (.t (.t (.t (.t (.t (.t .h)))))))
     have xT := zb.Q2
     refine aQ 5 [] (.n 19 (sl A fu.1.length c2) (.ss .a)) qe (by kernel_rfl) ?_
     refine ad <| aa <| ab <| ab <| aV [] (.n 107 (sl A fu.1.length c2) (.n 108 (I ((fu.1.length : Nat) : Int)) (.n 109 (I 0) (.s .a)))) qe (by kernel_rfl) ?_
     refine aa <| aI ?_
     have xU := (((((((xT.pk .h).pk (.t (.t (.t (.t (.t (.t (.t .h)))))))).pk (.t (.t (.t (.t (.t (.t (.t .h)))))))).pk (.t (.t (.t (.t (.t (.t (.t .h)))))))).pk (.t (.t (.t (.t (.t (.t (.t .h)))))))).pk (.t (.t (.t (.t (.t (.t (.t .h)))))))).pk (.t (.t (.t (.t (.t (.t (.t .h)))))))).pk (.t (.t (.t (.t (.t (.t (.t .h)))))))
     refine jQ (cL af al xC dQ cY fu) (fun s L wr => ∃ (d1 : Int) (tP : Mp (List UInt8)) (e_ : List UInt8) (cC : Int), (d1, tP, e_, cC) = s ∧ L = [(0, pt fg 0), (1, .s snap), (14, .v (.map (some b2))), (15, .v (.map (some b3))), (17, pt g1 0), (18, pt g2 0), (91, sl gF files.length iQ), (92, I ((files.length : Nat) : Int)), (93, I dQ), (107, sl A fu.1.length c2), (108, I ((fu.1.length : Nat) : Int)), (109, I cC)] ∧ Cx F O w wr [Bx 50 fg [I d1, .v (.map (some aq)), .v (.map (some aw))], MS (vH e8) aq af, MS (vM (vS (eP eI eS) (bL bJ bK))) aw al, MS (vH e8) b2 tP, MS (vS (eP eI eS) (bL bJ bK)) b3 xC, Bx 54 g1 [.s cY.1, sl B1 cY.2.length c1], Bx 62 g2 [I ((cY.2.length : Nat) : Int), .s e_], OG eH (SH e8) A fu.1.length c2 hd fu.1]) (d, CC, ([] : List UInt8), (0 : Int)) y0 hm ⟨d, CC, ([] : List UInt8), (0 : Int), rfl, rfl, xU⟩ (by kernel_rfl) ?_
     intro SM L_ Kl y1 ef bj CA
     obtain ⟨d1, tP, e_, cC, rfl, rfl, qq⟩ := ef
     have hm := bj; simp only [cL] at hm
     clear bj
     refine ab <| aV [] (.n 110 (.b (decide (cC < ((fu.1.length : Nat) : Int)))) .a) qe (by kernel_rfl) ?_
     refine aa <| ab <| aN (cC < ((fu.1.length : Nat) : Int)) (by kernel_rfl) (fun Aa => ?_) (fun Aa => ?_)
     · rw [if_pos Aa] at hm
       refine aL <| aa <| k7 (fun L wr => ∃ (d2 : Int) (Hw : Mp (List UInt8)) (yt : List UInt8), cK cC d2 Hw yt = some y1 ∧ L = [(0, pt fg 0), (1, .s snap), (14, .v (.map (some b2))), (15, .v (.map (some b3))), (17, pt g1 0), (18, pt g2 0), (91, sl gF files.length iQ), (92, I ((files.length : Nat) : Int)), (93, I dQ), (107, sl A fu.1.length c2), (108, I ((fu.1.length : Nat) : Int)), (109, I cC)] ∧ Cx F O w wr [Bx 50 fg [I d2, .v (.map (some aq)), .v (.map (some aw))], MS (vH e8) aq af, MS (vM (vS (eP eI eS) (bL bJ bK))) aw al, MS (vH e8) b2 Hw, MS (vS (eP eI eS) (bL bJ bK)) b3 xC, Bx 54 g1 [.s cY.1, sl B1 cY.2.length c1], Bx 62 g2 [I ((cY.2.length : Nat) : Int), .s yt], OG eH (SH e8) A fu.1.length c2 hd fu.1]) ?_ ?_
       ·
        refine aI <| ab ?_
        obtain ⟨b4, rl, hm⟩ := ob hm
        obtain ⟨tz, wN, hh, M5⟩ := qq.Ke 7 rfl rl
        refine aV [] (.n 22 (sl tz b4.length wN) (.s .a)) (qJ (qq.Hm 7 rfl) hh (qq.Co 7 rfl) <| qC (sl tz b4.length wN) (Rd.el (k := 0) (qq.Hm 7 rfl) hh (Pt.oZ A cC 1) rfl) <| qe) (by kernel_rfl) ?_
        refine aa <| ab <| aj <| aQ 2 [] (.n 113 (pt fg 0) (.n 114 (sl tz b4.length wN) .a)) qe (by kernel_rfl) ?_
        refine ae ?_
        obtain ⟨dj, oo, hm⟩ := ob hm
        obtain ⟨y9, za, oq, HS, wK, HT, xx⟩ := qq.go (.i (.i (.i (.r (.r (.r (.r (.r .e))))))))
        refine ax [] 115 _ EA (by kernel_rfl) (ot (F := y9) (O := za) _ _ _ _ _ _ _ _ _ _ (OG.Ev oq.off wK 4 rfl rl hh) rfl M5 oq _ oo) ?_
        rintro e_ HV ⟨rfl, ng⟩
        have rn := xx HV _ _ ng (.c (.c (.c .n)))
        refine ⟨.s dj.1, rfl, ?_⟩
        refine aQ 1 [] (.n 23 (.s dj.1) (.ib .a)) qe (by kernel_rfl) ?_
        refine ad <| aa <| ab <| aj <| aQ 5 [] (.n 120 (.v (.map (some aq))) (.n 121 (.s dj.1) .a)) (qs fg 0 <| qs fg 0 <| qB rn 0 rfl 1 (.v (.map (some aq))) (by kernel_rfl) <| qe) (by kernel_rfl) ?_
        refine ae ?_
        have wO := (((((((rn.pk (.t (.t (.t (.t (.t (.t (.t .h)))))))).pk (.t (.t (.t (.t (.t (.t (.t .h)))))))).pk (.t (.t (.t (.t (.t (.t (.t .h)))))))).pk (.t (.t (.t (.t (.t (.t (.t .h)))))))).pk (.t (.t (.t (.t (.t (.t (.t .h)))))))).pk (.t (.t (.t (.t (.t (.t (.t .h)))))))).pk (.t (.t (.t (.t (.t (.t .h))))))).pk (.t (.t (.t (.t (.t (.t (.t .h)))))))
        refine uI (kt := 9) (e := 45) (E := e8) (m := af) (key := dj.1) [] 122 (by kernel_rfl) (by kernel_rfl) wO.acc (fun Cm => ?_) (fun A1 c3 gH Km zc => ?_)
        · simp only [Cm, Option.elim_none] at hm
          refine aQ 5 [] (.n 24 (sl none 0 0) (.n 25 (.b false) (.ib .a))) qe (by kernel_rfl) ?_
          refine ad <| aa <| k7 (fun L wr => ∃ (tN : List UInt8) (is : Bool) (A2 : Option Addr) (n2 : Nat) (c4 : Nat), dr af al tP e_ cC b4 dj tN is = some y1 ∧ L = [(0, pt fg 0), (1, .s snap), (14, .v (.map (some b2))), (15, .v (.map (some b3))), (17, pt g1 0), (18, pt g2 0), (22, sl tz b4.length wN), (23, .s dj.1), (24, sl A2 n2 c4), (25, .b is), (91, sl gF files.length iQ), (92, I ((files.length : Nat) : Int)), (93, I dQ), (107, sl A fu.1.length c2), (108, I ((fu.1.length : Nat) : Int)), (109, I cC)] ∧ tN.length = n2 ∧ Cx F O w wr [Bx 50 fg [I dj.2, .v (.map (some aq)), .v (.map (some aw))], MS (vH e8) aq af, MS (vM (vS (eP eI eS) (bL bJ bK))) aw al, MS (vH e8) b2 tP, MS (vS (eP eI eS) (bL bJ bK)) b3 xC, Bx 54 g1 [.s cY.1, sl B1 cY.2.length c1], Bx 62 g2 [I ((cY.2.length : Nat) : Int), .s e_], OG eH (SH e8) A fu.1.length c2 hd fu.1, Sh (SH e8) [(A2, n2, c4)] [tN]]) ?_ ?_
          ·
           refine ab <| aV [] (.n 126 (.b true) .a) qe (by kernel_rfl) ?_
           refine aa <| bf true (by kernel_rfl) (fun _ => ?_) (fun h => by cases h)
           refine aj <| aQ 2 [] (.n 128 (.v (.map (some b2))) (.n 129 (.s dj.1) (.s .a))) qe (by kernel_rfl) ?_
           refine ae ?_
           have AR := (((((((wO.pk (.t (.t (.t (.t (.t (.t (.t .h)))))))).pk (.t (.t (.t (.t (.t (.t (.t .h)))))))).pk (.t (.t (.t (.t (.t (.t (.t .h)))))))).pk (.t (.t (.t (.t (.t (.t (.t .h)))))))).pk (.t (.t (.t (.t (.t (.t .h))))))).pk (.t (.t (.t (.t (.t (.t .h))))))).pk (.t (.t (.t (.t (.t (.t .h))))))).pk (.t (.t (.t (.t (.t (.t (.t .h)))))))
           refine uI (kt := 9) (e := 45) (E := e8) (m := tP) (key := dj.1) [] 130 (by kernel_rfl) (by kernel_rfl) AR.acc (fun Ko => ?_) (fun A3 c5 ie Jn CW => ?_)
           · simp only [Ko, Option.elim_none] at hm
             refine aQ 5 [] (.n 24 (sl none 0 0) (.n 25 (.b false) (.fi (.s .a)))) qe (by kernel_rfl) ?_
             refine ad ?_
             have AS := AR.Kf e8
             have r5 := ((((((((AS.pk .h).pk (.t (.t (.t (.t (.t (.t (.t (.t .h))))))))).pk (.t (.t (.t (.t (.t (.t (.t (.t .h))))))))).pk (.t (.t (.t (.t (.t (.t (.t (.t .h))))))))).pk (.t (.t (.t (.t (.t (.t (.t (.t .h))))))))).pk (.t (.t (.t (.t (.t .h)))))).pk (.t (.t (.t (.t (.t (.t (.t (.t .h))))))))).pk (.t (.t (.t (.t (.t (.t (.t .h)))))))).pk (.t (.t (.t (.t (.t (.t (.t (.t .h))))))))
             exact gK ⟨([] : List UInt8), false, none, 0, 0, hm, rfl, r5.zK 8 rfl, r5⟩ (by kernel_rfl)
           · simp only [Jn, Option.elim_some] at hm
             refine aQ 5 [] (.n 24 (sl A3 ie.length c5) (.n 25 (.b true) (.fi (.s .a)))) qe (by kernel_rfl) ?_
             refine ad ?_
             have zd := ((((((((CW.pk .h).pk (.t (.t (.t (.t (.t (.t (.t (.t .h))))))))).pk (.t (.t (.t (.t (.t (.t (.t (.t .h))))))))).pk (.t (.t (.t (.t (.t (.t (.t (.t .h))))))))).pk (.t (.t (.t (.t (.t (.t (.t (.t .h))))))))).pk (.t (.t (.t (.t (.t .h)))))).pk (.t (.t (.t (.t (.t (.t (.t (.t .h))))))))).pk (.t (.t (.t (.t (.t (.t (.t .h)))))))).pk (.t (.t (.t (.t (.t (.t (.t (.t .h))))))))
             exact gK ⟨ie, true, A3, ie.length, c5, hm, rfl, zd.zK 8 rfl, zd⟩ (by kernel_rfl)
          rintro L_ Kp ⟨tN, is, A2, _, c4, hm, rfl, rfl, ui⟩
          simp only [dr] at hm
          refine ab <| ab <| aV [] (.n 140 (.b (is && (decide (tN ≠ b4)))) (.bb (.bb (.ss .a)))) (qo (.s tN) <| qc (fun w => is = true → Rd w A2 (tN.map bV) ∧ tN.length = tN.length) (fun rY => ⟨qH tN ▸ (ui.J7 8 rfl), (ui.zK 8 rfl)⟩) <| qo (.s b4) <| qc (fun w => is = true → Rd w tz (b4.map bV) ∧ b4.length = b4.length) (fun rY => ⟨qH b4 ▸ (ui.Gd 7 rfl rl hh), rfl⟩) <| qe) (by kernel_rfl) ?_
          refine aa <| bf (is && (decide (tN ≠ b4))) (by kernel_rfl) (fun BC => ?_) (fun BC => ?_)
          · rw [if_pos BC] at hm
            refine ab <| aV [] (.n 6 (I 271) .z) qe (by kernel_rfl) ?_
            refine aa <| aG (aZ (cH (aZ (aZ (cH (aZ (cH (aZ (aZ (cH (aZ ?_)))))))))))
            have hm := bT hm CA
            have hm := bT hm jH
            obtain rfl := Option.some.inj hm
            refine aH [I 271] qe (by kernel_rfl) ?_
            have CX := ui.ba (.kk (.k .z))
            exact ⟨rfl, CX⟩
          rw [if_neg (by rw [BC]; decide)] at hm
          refine aL <| aa <| ab <| aj <| aQ 3 [] (.n 141 (.v (.map (some b2))) (.n 142 (.s dj.1) (.n 143 (sl tz b4.length wN) (.s (.bb (.kk (.s .a))))))) qe (by kernel_rfl) ?_
          refine ae ?_
          have CY := ui.Ge 7 rfl rl hh
          have AT := (((((((((CY.pk (.t (.t (.t (.t (.t (.t (.t (.t (.t .h)))))))))).pk (.t (.t (.t (.t (.t (.t (.t (.t (.t .h)))))))))).pk (.t (.t (.t (.t (.t (.t (.t (.t (.t .h)))))))))).pk (.t (.t (.t (.t (.t (.t (.t (.t (.t .h)))))))))).pk (.t (.t (.t (.t (.t (.t (.t (.t (.t .h)))))))))).pk (.t (.t (.t (.t (.t (.t (.t (.t .h))))))))).pk (.t (.t (.t (.t (.t (.t (.t (.t .h))))))))).pk (.t (.t (.t (.t (.t (.t (.t (.t .h))))))))).pk (.t (.t (.t (.t (.t (.t (.t (.t .h))))))))).pk (.t (.t (.t (.t (.t (.t (.t (.t (.t .h)))))))))
          refine p_ (kt := 9) (e := 45) (v := (vH e8)) (key := dj.1) (u := (tz, b4.length, wN)) (a := b4) [] (by kernel_rfl) AT ?_
          intro M6 AU
          refine ad <| aa <| aj ?_
          obtain ⟨u, pK, hm⟩ := ob hm
          refine aQ 5 [] (.n 147 (.s (e_ ++ dj.1)) (.n 148 (pt g2 1) (.ib (.bb (.kk (.s .a)))))) (qs g2 0 <| qB AU 6 rfl 1 (.s e_) (by kernel_rfl) <| qp (e_.length + dj.1.length ≤ 9223372036854775807) (ck pK) <| qs g2 0 <| qe) (by kernel_rfl) ?_
          refine ae <| cE [] 6 (.s (e_ ++ dj.1)) [.s (e_ ++ dj.1)] (Pt.at g2 1) AU rfl (.k .h) (by kernel_rfl) (by kernel_rfl) ?_
          intro M7 uj
          have AV := uj.ba (.bb (.bb .z))
          refine ad <| cu ?_
          have CZ := (((((((AV.pk (.t (.t (.t (.t (.t (.t (.t .h)))))))).pk (.t (.t (.t (.t (.t (.t (.t .h)))))))).pk (.t (.t (.t (.t (.t (.t (.t .h)))))))).pk (.t (.t (.t (.t (.t (.t (.t .h)))))))).pk (.t (.t (.t (.t .h))))).pk (.t (.t (.t (.t (.t (.t (.t .h)))))))).pk (.t (.t (.t (.t (.t (.t (.t .h)))))))).pk (.t (.t (.t (.t (.t (.t (.t .h)))))))
          exact gK ⟨dj.2, bq tP dj.1 b4, e_ ++ dj.1, hm, rfl, CZ⟩ (by kernel_rfl)
        · simp only [Km, Option.elim_some] at hm
          refine aQ 5 [] (.n 24 (sl A1 gH.length c3) (.n 25 (.b true) (.ib .a))) qe (by kernel_rfl) ?_
          refine ad <| aa <| k7 (fun L wr => fF af al tP e_ cC b4 dj gH  = some y1 ∧ L = [(0, pt fg 0), (1, .s snap), (14, .v (.map (some b2))), (15, .v (.map (some b3))), (17, pt g1 0), (18, pt g2 0), (22, sl tz b4.length wN), (23, .s dj.1), (24, sl A1 gH.length c3), (25, .b true), (91, sl gF files.length iQ), (92, I ((files.length : Nat) : Int)), (93, I dQ), (107, sl A fu.1.length c2), (108, I ((fu.1.length : Nat) : Int)), (109, I cC)] ∧ Cx F O w wr [Bx 50 fg [I dj.2, .v (.map (some aq)), .v (.map (some aw))], MS (vH e8) aq af, MS (vM (vS (eP eI eS) (bL bJ bK))) aw al, MS (vH e8) b2 tP, MS (vS (eP eI eS) (bL bJ bK)) b3 xC, Bx 54 g1 [.s cY.1, sl B1 cY.2.length c1], Bx 62 g2 [I ((cY.2.length : Nat) : Int), .s e_], OG eH (SH e8) A fu.1.length c2 hd fu.1, Sh (SH e8) [(A1, gH.length, c3)] [gH]]) ?_ ?_
          ·
           refine ab <| aV [] (.n 126 (.b false) .a) qe (by kernel_rfl) ?_
           refine aa <| bf false (by kernel_rfl) (fun h => by cases h) (fun _ => ?_)
           refine aL ?_
           have AW := ((((((((zc.pk .h).pk (.t (.t (.t (.t (.t (.t (.t (.t .h))))))))).pk (.t (.t (.t (.t (.t (.t (.t (.t .h))))))))).pk (.t (.t (.t (.t (.t (.t (.t (.t .h))))))))).pk (.t (.t (.t (.t (.t (.t (.t (.t .h))))))))).pk (.t (.t (.t (.t (.t (.t (.t (.t .h))))))))).pk (.t (.t (.t (.t (.t (.t (.t (.t .h))))))))).pk (.t (.t (.t (.t (.t (.t (.t .h)))))))).pk (.t (.t (.t (.t (.t (.t (.t (.t .h))))))))
           exact gK ⟨hm, rfl, AW⟩ (by kernel_rfl)
          rintro L_ M8 ⟨hm, rfl, wP⟩
          simp only [fF] at hm
          refine ab <| ab <| aV [134] (.n 140 (.b (decide (gH ≠ b4))) (.bb (.bb (.ss .a)))) (qo (.s gH) <| qc (fun w => Rd w A1 (gH.map bV) ∧ gH.length = gH.length) ⟨qH gH ▸ (wP.J7 8 rfl), (wP.zK 8 rfl)⟩ <| qo (.s b4) <| qc (fun w => Rd w tz (b4.map bV) ∧ b4.length = b4.length) ⟨qH b4 ▸ (wP.Gd 7 rfl rl hh), rfl⟩ <| qe) (by kernel_rfl) ?_
          refine aa <| aN (gH ≠ b4) (by kernel_rfl) (fun E9 => ?_) (fun E9 => ?_)
          · rw [if_pos E9] at hm
            refine ab <| aV [] (.n 6 (I 271) .z) qe (by kernel_rfl) ?_
            refine aa <| aG (aZ (cH (aZ (aZ (cH (aZ (cH (aZ (aZ (cH (aZ ?_)))))))))))
            have hm := bT hm CA
            have hm := bT hm jH
            obtain rfl := Option.some.inj hm
            refine aH [I 271] qe (by kernel_rfl) ?_
            have AX := wP.ba (.kk (.k .z))
            exact ⟨rfl, AX⟩
          rw [if_neg E9] at hm
          refine aL <| aa <| ab <| aj <| aQ 3 [] (.n 141 (.v (.map (some b2))) (.n 142 (.s dj.1) (.n 143 (sl tz b4.length wN) (.s (.bb (.kk (.s .a))))))) qe (by kernel_rfl) ?_
          refine ae ?_
          have ze := wP.Ge 7 rfl rl hh
          have C0 := (((((((((ze.pk (.t (.t (.t (.t (.t (.t (.t (.t (.t .h)))))))))).pk (.t (.t (.t (.t (.t (.t (.t (.t (.t .h)))))))))).pk (.t (.t (.t (.t (.t (.t (.t (.t (.t .h)))))))))).pk (.t (.t (.t (.t (.t (.t (.t (.t (.t .h)))))))))).pk (.t (.t (.t (.t (.t (.t (.t (.t (.t .h)))))))))).pk (.t (.t (.t (.t (.t (.t (.t (.t .h))))))))).pk (.t (.t (.t (.t (.t (.t (.t (.t .h))))))))).pk (.t (.t (.t (.t (.t (.t (.t (.t .h))))))))).pk (.t (.t (.t (.t (.t (.t (.t (.t .h))))))))).pk (.t (.t (.t (.t (.t (.t (.t (.t (.t .h)))))))))
          refine p_ (kt := 9) (e := 45) (v := (vH e8)) (key := dj.1) (u := (tz, b4.length, wN)) (a := b4) [] (by kernel_rfl) C0 ?_
          intro M9 zf
          refine ad <| aa <| aj ?_
          obtain ⟨u0, M_, hm⟩ := ob hm
          refine aQ 5 [] (.n 147 (.s (e_ ++ dj.1)) (.n 148 (pt g2 1) (.ib (.bb (.kk (.s .a)))))) (qs g2 0 <| qB zf 6 rfl 1 (.s e_) (by kernel_rfl) <| qp (e_.length + dj.1.length ≤ 9223372036854775807) (ck M_) <| qs g2 0 <| qe) (by kernel_rfl) ?_
          refine ae <| cE [] 6 (.s (e_ ++ dj.1)) [.s (e_ ++ dj.1)] (Pt.at g2 1) zf rfl (.k .h) (by kernel_rfl) (by kernel_rfl) ?_
          intro Na C1
          have C2 := C1.ba (.bb (.bb .z))
          refine ad <| cu ?_
          have AY := (((((((C2.pk (.t (.t (.t (.t (.t (.t (.t .h)))))))).pk (.t (.t (.t (.t (.t (.t (.t .h)))))))).pk (.t (.t (.t (.t (.t (.t (.t .h)))))))).pk (.t (.t (.t (.t (.t (.t (.t .h)))))))).pk (.t (.t (.t (.t .h))))).pk (.t (.t (.t (.t (.t (.t (.t .h)))))))).pk (.t (.t (.t (.t (.t (.t (.t .h)))))))).pk (.t (.t (.t (.t (.t (.t (.t .h)))))))
          exact gK ⟨dj.2, bq tP dj.1 b4, e_ ++ dj.1, hm, rfl, AY⟩ (by kernel_rfl)
       rintro L_ Nb ⟨d2, Hw, yt, hm, rfl, AZ⟩
       simp only [cK] at hm
       refine aV [] (.n 109 (I (aA (cC + 1))) (.bb (.bb (.nJ .z)))) qe (by kernel_rfl) ?_
       exact fO (d2, Hw, yt, aA (cC + 1)) (Option.some.inj hm).symm ⟨d2, Hw, yt, aA (cC + 1), rfl, rfl, AZ⟩ (by kernel_rfl)
     rw [if_neg Aa] at hm
     refine cA (bu (bu (dZ ?_)))
     have hm := bT hm CA
     refine aa <| aj <| aQ 4 [] (.n 150 (.v (.map (some b3))) (.n 152 (.s cY.1) (.n 153 (.agg [I ((cY.2.length : Nat) : Int), .s e_]) (.s (.bb (.ss (.nJ .z))))))) (qs g1 0 <| qB qq 5 rfl 0 (.s cY.1) (by kernel_rfl) <| qT qq 6 rfl 0 2 [I ((cY.2.length : Nat) : Int), .s e_] (by kernel_rfl) (by decide) <| qe) (by kernel_rfl) ?_
     refine ae ?_
     have A_ := (((((((qq.pk (.t (.t (.t (.t (.t (.t (.t .h)))))))).pk (.t (.t (.t (.t (.t (.t (.t .h)))))))).pk (.t (.t (.t (.t (.t (.t (.t .h)))))))).pk (.t (.t (.t (.t (.t (.t .h))))))).pk (.t (.t (.t (.t (.t (.t .h))))))).pk (.t (.t (.t (.t (.t (.t .h))))))).pk (.t (.t (.t (.t (.t (.t .h))))))).pk (.t (.t (.t (.t (.t (.t (.t .h)))))))
     refine se (kt := 9) (e := 62) (v := (vS (eP eI eS) (bL bJ bK))) (key := cY.1) rfl [] (((cY.2.length : Nat) : Int), e_) (by kernel_rfl) A_ ?_
     intro Nc Ba
     refine ad <| cu <| aa <| aV [] (.n 93 (I (aA (dQ + 1))) (.ib (.bb (.kk .z)))) qe (by kernel_rfl) ?_
     have HW := (((((Ba.pk .h).pk (.t (.t (.t (.t .h))))).pk (.t (.t (.t (.t .h))))).pk (.t (.t (.t (.t .h))))).pk (.t (.t (.t (.t .h))))).ba (.bb (.k .z))
     exact fO (d1, tP, bq xC cY.1 (((cY.2.length : Nat) : Int), e_), aA (dQ + 1)) (Option.some.inj hm).symm ⟨d1, tP, bq xC cY.1 (((cY.2.length : Nat) : Int), e_), aA (dQ + 1), rfl, rfl, HW⟩ (by kernel_rfl)
   rw [if_neg tQ] at hm
   refine cA (bu (bu (dZ ?_)))
   have hm := bT hm jH
   refine aa <| ab <| ab <| aj <| aQ 1 [] (.n 155 (.v (.map (some b2))) (.s (.kk (.s (.k .z))))) qe (by kernel_rfl) ?_
   refine ae ?_
   have HX := ((((je.pk (.t (.t (.t (.t .h))))).pk (.t (.t (.t .h)))).pk (.t (.t (.t .h)))).pk (.t (.t (.t .h)))).pk (.t (.t (.t (.t .h))))
   refine kZ (kt := 9) (e := 45) [] 156 (by kernel_rfl) HX ?_
   intro o0 Nd HY
   refine ad <| aa <| aI ?_
   obtain ⟨s_, C3, hm⟩ := ob hm
   have HZ := ((((HY.pk .h).pk (.t (.t (.t (.t .h))))).pk (.t (.t (.t (.t .h))))).pk (.t (.t (.t (.t .h))))).pk (.t (.t (.t (.t .h))))
   refine vJ (fun xV L wr => ∃ (Jf : Mp (List UInt8)) (left : Mp (List UInt8)) (cur : Option (Ky × (List UInt8))), left.length = xV ∧ dG (cM) Jf left = some s_ ∧ L = [(0, pt fg 0), (1, .s snap), (15, .v (.map (some b3))), (156, .v (.pointer (some ⟨o0, 0, none⟩)))] ∧ Cx F O w wr [Bx 50 fg [I d, .v (.map (some aq)), .v (.map (some aw))], MS (vH e8) aq Jf, MS (vM (vS (eP eI eS) (bL bJ bK))) aw al, MS (vS (eP eI eS) (bL bJ bK)) b3 xC, MV (vH e8) false b2 o0 CC left cur]) CC.length ⟨af, CC, none, rfl, C3, rfl, HZ⟩ (by kernel_rfl) ?_
   rintro kn L_ Nf ⟨Jf, left, cur, rfl, H0, rfl, H2⟩
   refine ab <| aj <| ae ?_
   have H3 := ((((H2.pk (.t (.t (.t .h)))).pk (.t (.t (.t .h)))).pk (.t (.t (.t .h)))).pk (.t (.t (.t .h)))).pk (.t (.t (.t (.t .h))))
   refine jj [] 157 (by kernel_rfl) H3 (fun hl H4 => ?_) (fun key gq kB v Ng hp tW H5 => ?_)
   ·
     have Nh := kY hl H0
     obtain rfl := Nh.symm
     have Fe := H4.uH
     refine aQ 1 [] (.n 158 (.b false) (.s (.nJ .z))) qe (by kernel_rfl) ?_
     refine ad <| aa <| ab <| bf false (by kernel_rfl) (fun h => by cases h) (fun _ => ?_)
     refine cA (bu (bu (dZ ?_)))
     refine aa <| ab <| aj <| aQ 6 [] (.n 171 (.v (.map (some aw))) (.n 172 (.s snap) (.n 173 (.v (.map (some b3))) .z))) (qs fg 0 <| qs fg 0 <| qB Fe 1 rfl 2 (.v (.map (some aw))) (by kernel_rfl) <| qe) (by kernel_rfl) ?_
     refine ae ?_
     have Ni := ((((Fe.pk (.t (.t (.t .h)))).pk (.t (.t (.t .h)))).pk (.t (.t (.t .h)))).pk (.t (.t (.t .h)))).pk (.t (.t (.t (.t .h))))
     have Nj := Ni.Hq
     have Nk := Nj.gL 0 rfl
     have Nl := (((((Nk.pk (.t (.t (.t (.t .h))))).pk (.t (.t (.t (.t .h))))).pk (.t (.t (.t (.t .h))))).pk (.t (.t (.t (.t .h))))).pk (.t (.t (.t (.t .h))))).pk (.t (.t (.t (.t (.t .h)))))
     refine p_ (kt := 9) (e := 56) (v := (vM (vS (eP eI eS) (bL bJ bK)))) (key := snap) (u := b3) (a := xC) [] (by kernel_rfl) Nl ?_
     intro Nn No
     refine ad <| aa <| ab <| aV [] (.n 6 (I 0) .z) qe (by kernel_rfl) ?_
     refine aa <| aG ?_
     obtain rfl := Option.some.inj hm
     refine aH [I 0] qe (by kernel_rfl) ?_
     have Np := (((No.pk .h).pk (.t (.t (.t (.t .h))))).pk (.t (.t (.t (.t .h))))).ba (.kk (.k .z))
     exact ⟨rfl, Np⟩
   ·
     obtain ⟨sn, hm, Jo⟩ := jR (nB) hp tW H0
     simp only [cM] at hm
     refine aQ 1 [] (.n 158 (.b true) (.s .a)) qe (by kernel_rfl) ?_
     refine ad <| aa <| ab <| bf true (by kernel_rfl) (fun _ => ?_) (fun h => by cases h)
     refine aL <| aa <| aI <| ab <| aj <| ae <| qY [] 159 (by kernel_rfl) H5 ?_
     intro A4 c6 Kq
     refine aQ 4 [] (.n 26 (.s key) (.n 27 (sl A4 gq.length c6) (.ss .a))) qe (by kernel_rfl) ?_
     refine ad <| aa <| aj <| aQ 6 [] (.n 165 (.v (.map (some aq))) (.n 166 (.s key) (.n 167 (sl A4 gq.length c6) (.ss .a)))) (qs fg 0 <| qs fg 0 <| qB Kq 2 rfl 1 (.v (.map (some aq))) (by kernel_rfl) <| qe) (by kernel_rfl) ?_
     refine ae ?_
     have Nq := Kq.gL 0 rfl
     have Nr := ((((((Nq.pk (.t (.t (.t (.t (.t (.t .h))))))).pk (.t (.t (.t (.t (.t (.t .h))))))).pk (.t (.t (.t (.t (.t .h)))))).pk (.t (.t (.t (.t (.t .h)))))).pk (.t (.t (.t (.t (.t .h)))))).pk (.t (.t (.t (.t (.t .h)))))).pk (.t (.t (.t (.t (.t (.t .h))))))
     refine p_ (kt := 9) (e := 45) (v := (vH e8)) (key := key) (u := (A4, gq.length, c6)) (a := gq) [] (by kernel_rfl) Nr ?_
     intro Ns Nt
     refine ad <| cu ?_
     have Nu := (((((Nt.pk (.t (.t .h))).pk (.t (.t (.t (.t (.t .h)))))).pk (.t (.t (.t (.t (.t .h)))))).pk (.t (.t (.t .h)))).pk (.t (.t (.t (.t (.t .h)))))).ba (.bb (.k .z))
     obtain rfl := Option.some.inj hm
     exact p6 kB.length (by have h_ := hp.length_eq; simp only [List.length_cons] at h_; omega) ⟨bq Jf key gq, kB, (some (key, gq)), rfl, Jo, rfl, Nu⟩ (by kernel_rfl)
 · simp only [Fc, Option.elim_some] at hm
   refine aQ 5 [] (.n 8 (.b true) (.ib .a)) qe (by kernel_rfl) ?_
   refine ad <| aa <| ab <| aI <| ab <| aj <| aQ 1 [] (.n 40 (.s snap) .a) qe (by kernel_rfl) ?_
   refine ae ?_
   obtain ⟨fP, C4, hm⟩ := ob hm
   refine ax [] 41 _ vY (by kernel_rfl) (l9 (F := N0) (O := N0) _ (Cx.refl _) _ C4) ?_
   rintro e_ Nv ⟨rfl, Nw⟩
   have Nx := cD.call Nw
   refine ⟨.b fP, rfl, ?_⟩
   have Kr := Nx.ba (.s (.kk (.k .e)))
   refine aQ 2 [] (.n 39 (.b (!fP)) (.ss .a)) qe (by kernel_rfl) ?_
   refine ad <| aa <| bf (!fP) (by kernel_rfl) (fun vD => ?_) (fun vD => ?_)
   · rw [if_pos vD] at hm
     refine ab <| aV [] (.n 6 (I 214) .z) qe (by kernel_rfl) ?_
     refine aa <| aG (cH (aZ ?_))
     obtain rfl := Option.some.inj hm
     refine aH [I 214] qe (by kernel_rfl) ?_
     have Ny := ((Kr.pk .h).pk (.t (.t .h))).pk (.t (.t .h))
     exact ⟨rfl, Ny⟩
   rw [if_neg (by rw [vD]; decide)] at hm
   refine ab <| aV [] (.n 43 (.b true) (.ss .a)) qe (by kernel_rfl) ?_
   refine aa <| bf true (by kernel_rfl) (fun _ => ?_) (fun h => by cases h)
   refine ab <| aV [] (.n 6 (I 213) .z) qe (by kernel_rfl) ?_
   refine aa <| aG (cH (aZ ?_))
   obtain rfl := Option.some.inj hm
   refine aH [I 213] qe (by kernel_rfl) ?_
   have Nz := ((Kr.pk .h).pk (.t (.t .h))).pk (.t (.t .h))
   exact ⟨rfl, Nz⟩
theorem iD {F O : Nat → Prop} {w : World} (n_ : Mp (Mp (Int × List UInt8))) (uP : Nat) (k : Cx F O w w [MS (vM (vS (eP eI eS) (bL bJ bK))) uP n_]) (r : (List (List UInt8))) (hm : cj n_ = some r) :
    Calls Try.prog 17 (ak [.v (.map (some uP))]) w (fun e w' => ∃ A n c, r.length = n ∧ e = .returned (SV.val (sl A n c)) ∧ Cx F O w w' [Ow eS A n c r, MS (vM (vS (eP eI eS) (bL bJ bK))) uP n_]) := by
 unfold cj at hm
 refine calls [.v (.map (some uP))] Try.func17 rfl (of_decide_eq_true (by kernel_rfl)) ?_
 refine ab <| aV [] .a qe (by kernel_rfl) ?_
 refine aa <| ab <| aV [] (.n 3 (sl none 0 0) .a) qe (by kernel_rfl) ?_
 refine aa <| ab <| ab <| aj <| aQ 1 [] (.n 5 (.v (.map (some uP))) (.k .z)) qe (by kernel_rfl) ?_
 refine ae <| kZ (kt := 9) (e := 56) [] 6 (by kernel_rfl) k ?_
 intro r_ w_ k_
 refine ad <| aa <| aI ?_
 obtain ⟨u, pK, hm⟩ := ob hm
 have bN := k_.nil eS
 refine vJ (fun xV L wr => ∃ (l : List (List UInt8)) (left : Mp (Mp (Int × List UInt8))) (cur : Option (Ky × (Mp (Int × List UInt8)))) (A0 : Option Addr) (n0 c0 : Nat), left.length = xV ∧ (l ++ left.map (·.1)).Perm (n_.map (·.1)) ∧ l.length = n0 ∧ L = [(3, sl A0 n0 c0), (6, .v (.pointer (some ⟨r_, 0, none⟩)))] ∧ Cx F O w wr [MV (vM (vS (eP eI eS) (bL bJ bK))) false uP r_ n_ left cur, Ow eS A0 n0 c0 l]) n_.length ⟨[], n_, none, none, 0, 0, rfl, List.Perm.refl _, rfl, rfl, bN⟩ (by kernel_rfl) ?_
 rintro kn L_ jh ⟨l, left, cur, A0, _, c0, rfl, ou, rfl, rfl, cG⟩
 refine ab <| aj <| ae <| jj [] 7 (by kernel_rfl) cG (fun hl cD => ?_) (fun key av kB v kI hp tW dm => ?_)
 ·
   have xy : l.Perm (n_.map (·.1)) := by have h_ := ou; rw [hl, List.map_nil, List.append_nil] at h_; exact h_
   have dx := cD.uH
   refine aQ 1 [] (.n 8 (.b false) (.s (.k .z))) qe (by kernel_rfl) ?_
   refine ad <| aa <| ab <| bf false (by kernel_rfl) (fun h => by cases h) (fun _ => ?_)
   refine cA (bu (bu (dZ ?_)))
   refine aa <| ab <| aj <| aQ 1 [] (.n 15 (sl A0 l.length c0) (.s .a)) qe (by kernel_rfl) ?_
   refine ae <| ax [] 16 _ vZ (by kernel_rfl) (re (i := 1) dx rfl (by have h1 := xy.length_eq; have h2 := ck pK; have h3 := dx.len 1 rfl; rw [List.length_map] at h1; omega)) ?_
   rintro e_ mb ⟨rfl, dV⟩
   rw [sX xy] at dV
   refine ⟨.dB [], rfl, ?_⟩
   refine ad <| aa <| ab <| aV [] (.n 2 (sl A0 l.length c0) .z) qe (by kernel_rfl) ?_
   refine aa <| aG ?_
   obtain rfl := Option.some.inj hm
   refine aH [sl A0 l.length c0] qe (by kernel_rfl) ?_
   have ed := (dV.pk .h).pk (.t .h)
   exact ⟨A0, l.length, c0, ed.len 0 rfl, rfl, ed⟩
 ·
   refine aQ 1 [] (.n 8 (.b true) (.s .a)) qe (by kernel_rfl) ?_
   refine ad <| aa <| ab <| bf true (by kernel_rfl) (fun _ => ?_) (fun h => by cases h)
   refine aL <| aa <| aI <| ab <| aj <| ae <| tb [] 9 (by kernel_rfl) dm ?_
   intro b eo
   refine aQ 2 [] (.n 4 (.s key) (.ss .a)) qe (by kernel_rfl) ?_
   refine ad <| aa <| aj <| aQ 2 [] (.n 11 (sl A0 l.length c0) (.n 12 (.s key) (.s .a))) qe (by kernel_rfl) ?_
   refine ae <| lQ iP eS [] 13 ([key] : List (List UInt8)) [(0, .s key)] [.s key] (by kernel_rfl) (by kernel_rfl) (by kernel_rfl) eo ?_
   intro A1 mc eU
   refine ae ?_
   have bH := eU.ba (.bb .e)
   have hz : (l.length + ([key] : List (List UInt8)).length) * 16 ≤ 140737488355328 := by have h1 := ou.length_eq; have h2 := hp.length_eq; have h3 := ck pK; simp only [List.length_append, List.length_cons, List.length_nil, List.length_map] at *; omega
   refine dq (E := eS) (v := sl A1 1 1) (ys := ([key] : List (List UInt8))) iP [] 14 2 (by kernel_rfl) bH rfl (Src.sl (bH.rd 3 rfl) (bH.len 3 rfl) (by rfl)) (bH.len 3 rfl) (by have := bH.len 2 rfl; have := (bH.len 3 rfl); omega) ?_
   intro A2 c1 oH bD
   have cS := bD.ba (.s (.kk .z))
   refine aQ 1 [] (.n 3 (sl A2 (l.length + 1) c1) (.fi (.s .a))) qe (by kernel_rfl) ?_
   refine ad <| cu ?_
   exact p6 kB.length (by have h_ := hp.length_eq; simp only [List.length_cons] at h_; omega) ⟨l ++ ([key] : List (List UInt8)), kB, (some (key, av)), A2, _, c1, rfl, (by rw [List.append_assoc]; exact (List.Perm.append_left l (hp.map (·.1)).symm).trans ou), cS.len 1 rfl, rfl, cS⟩ (by kernel_rfl)
theorem oX {F O : Nat → Prop} {w : World} (cJ : Int) (af : Mp (List UInt8)) (al : Mp (Mp (Int × List UInt8))) (fg : Nat) (aq : Nat) (aw : Nat) (k : Cx F O w w [Bx 50 fg [I cJ, .v (.map (some aq)), .v (.map (some aw))], MS (vH e8) aq af, MS (vM (vS (eP eI eS) (bL bJ bK))) aw al]) (r : (List (List UInt8) × Int)) (hm : fG cJ af al = some r) :
    Calls Try.prog 8 (ak [pt fg 0]) w (fun e w' => ∃ A n c, r.1.length = n ∧ e = .returned (SV.val (sl A n c)) ∧ Cx F O w w' [Ow eS A n c r.1, Bx 50 fg [I r.2, .v (.map (some aq)), .v (.map (some aw))], MS (vH e8) aq af, MS (vM (vS (eP eI eS) (bL bJ bK))) aw al]) := by
 unfold fG at hm
 refine calls [pt fg 0] Try.func8 rfl (of_decide_eq_true (by kernel_rfl)) ?_
 refine ab <| aV [] .a qe (by kernel_rfl) ?_
 refine aa <| ab <| ab <| aj <| aQ 1 [] (.n 3 (pt fg 0) .a) qe (by kernel_rfl) ?_
 refine ae ?_
 obtain ⟨r_, cc, hm⟩ := ob hm
 obtain ⟨F1, O1, oV, hO, xK, hF, hb⟩ := k.go (.i (.i (.i .e)))
 refine ax [] 4 _ sf (by kernel_rfl) (gk (F := F1) (O := O1) _ _ _ _ _ _ oV _ cc) ?_
 rintro e_ w_ ⟨rfl, k_⟩
 have bN := hb w_ _ _ k_ (.c (.c (.c .n)))
 refine ⟨.b false, rfl, ?_⟩
 refine ad <| aa <| bf false (by kernel_rfl) (fun h => by cases h) (fun _ => ?_)
 refine aL <| aa <| ab <| aj <| aQ 4 [] (.n 8 (.v (.map (some aw))) .z) (qs fg 0 <| qs fg 0 <| qB bN 0 rfl 2 (.v (.map (some aw))) (by kernel_rfl) <| qe) (by kernel_rfl) ?_
 refine ae ?_
 obtain ⟨aE, cB, hm⟩ := ob hm
 obtain ⟨y9, za, oq, HS, wK, HT, xx⟩ := bN.go (.r (.r (.i .e)))
 refine ax [] 9 _ EB (by kernel_rfl) (iD (F := y9) (O := za) _ _ oq _ cB) ?_
 rintro e_ jh ⟨A0, _, c0, rfl, rfl, cG⟩
 have cD := xx jh _ _ cG (.c (.c .n))
 refine ⟨sl A0 aE.length c0, rfl, ?_⟩
 refine aQ 1 [] (.n 2 (sl A0 aE.length c0) .z) qe (by kernel_rfl) ?_
 refine ad <| aa <| aG ?_
 obtain rfl := Option.some.inj hm
 refine aH [sl A0 aE.length c0] qe (by kernel_rfl) ?_
 have dm := (((cD.pk (.t .h)).pk (.t (.t (.t .h)))).pk (.t (.t (.t .h)))).pk (.t (.t (.t .h)))
 exact ⟨A0, aE.length, c0, dm.len 0 rfl, rfl, dm⟩
theorem qt {F O : Nat → Prop} {w : World} (n_ : Mp (List UInt8)) (uP : Nat) (k : Cx F O w w [MS (vH e8) uP n_]) (r : (List (List UInt8))) (hm : gD n_ = some r) :
    Calls Try.prog 18 (ak [.v (.map (some uP))]) w (fun e w' => ∃ A n c, r.length = n ∧ e = .returned (SV.val (sl A n c)) ∧ Cx F O w w' [Ow eS A n c r, MS (vH e8) uP n_]) := by
 unfold gD at hm
 refine calls [.v (.map (some uP))] Try.func18 rfl (of_decide_eq_true (by kernel_rfl)) ?_
 refine ab <| aV [] .a qe (by kernel_rfl) ?_
 refine aa <| ab <| aV [] (.n 3 (sl none 0 0) .a) qe (by kernel_rfl) ?_
 refine aa <| ab <| ab <| aj <| aQ 1 [] (.n 5 (.v (.map (some uP))) (.k .z)) qe (by kernel_rfl) ?_
 refine ae <| kZ (kt := 9) (e := 45) [] 6 (by kernel_rfl) k ?_
 intro r_ w_ k_
 refine ad <| aa <| aI ?_
 obtain ⟨u, pK, hm⟩ := ob hm
 have bN := k_.nil eS
 refine vJ (fun xV L wr => ∃ (l : List (List UInt8)) (left : Mp (List UInt8)) (cur : Option (Ky × (List UInt8))) (A0 : Option Addr) (n0 c0 : Nat), left.length = xV ∧ (l ++ left.map (·.1)).Perm (n_.map (·.1)) ∧ l.length = n0 ∧ L = [(3, sl A0 n0 c0), (6, .v (.pointer (some ⟨r_, 0, none⟩)))] ∧ Cx F O w wr [MV (vH e8) false uP r_ n_ left cur, Ow eS A0 n0 c0 l]) n_.length ⟨[], n_, none, none, 0, 0, rfl, List.Perm.refl _, rfl, rfl, bN⟩ (by kernel_rfl) ?_
 rintro kn L_ jh ⟨l, left, cur, A0, _, c0, rfl, ou, rfl, rfl, cG⟩
 refine ab <| aj <| ae <| jj [] 7 (by kernel_rfl) cG (fun hl cD => ?_) (fun key av kB v kI hp tW dm => ?_)
 ·
   have xy : l.Perm (n_.map (·.1)) := by have h_ := ou; rw [hl, List.map_nil, List.append_nil] at h_; exact h_
   have dx := cD.uH
   refine aQ 1 [] (.n 8 (.b false) (.s (.k .z))) qe (by kernel_rfl) ?_
   refine ad <| aa <| ab <| bf false (by kernel_rfl) (fun h => by cases h) (fun _ => ?_)
   refine cA (bu (bu (dZ ?_)))
   refine aa <| ab <| aj <| aQ 1 [] (.n 15 (sl A0 l.length c0) (.s .a)) qe (by kernel_rfl) ?_
   refine ae <| ax [] 16 _ vZ (by kernel_rfl) (re (i := 1) dx rfl (by have h1 := xy.length_eq; have h2 := ck pK; have h3 := dx.len 1 rfl; rw [List.length_map] at h1; omega)) ?_
   rintro e_ mb ⟨rfl, dV⟩
   rw [sX xy] at dV
   refine ⟨.dB [], rfl, ?_⟩
   refine ad <| aa <| ab <| aV [] (.n 2 (sl A0 l.length c0) .z) qe (by kernel_rfl) ?_
   refine aa <| aG ?_
   obtain rfl := Option.some.inj hm
   refine aH [sl A0 l.length c0] qe (by kernel_rfl) ?_
   have ed := (dV.pk .h).pk (.t .h)
   exact ⟨A0, l.length, c0, ed.len 0 rfl, rfl, ed⟩
 ·
   refine aQ 1 [] (.n 8 (.b true) (.s .a)) qe (by kernel_rfl) ?_
   refine ad <| aa <| ab <| bf true (by kernel_rfl) (fun _ => ?_) (fun h => by cases h)
   refine aL <| aa <| aI <| ab <| aj <| ae <| qY [] 9 (by kernel_rfl) dm ?_
   intro A1 c1 eo
   refine aQ 2 [] (.n 4 (.s key) (.ss .a)) qe (by kernel_rfl) ?_
   refine ad <| aa <| aj <| aQ 2 [] (.n 11 (sl A0 l.length c0) (.n 12 (.s key) (.s .a))) qe (by kernel_rfl) ?_
   refine ae <| lQ iP eS [] 13 ([key] : List (List UInt8)) [(0, .s key)] [.s key] (by kernel_rfl) (by kernel_rfl) (by kernel_rfl) eo ?_
   intro A2 mc eU
   refine ae ?_
   have bH := eU.ba (.bb .e)
   have hz : (l.length + ([key] : List (List UInt8)).length) * 16 ≤ 140737488355328 := by have h1 := ou.length_eq; have h2 := hp.length_eq; have h3 := ck pK; simp only [List.length_append, List.length_cons, List.length_nil, List.length_map] at *; omega
   refine dq (E := eS) (v := sl A2 1 1) (ys := ([key] : List (List UInt8))) iP [] 14 2 (by kernel_rfl) bH rfl (Src.sl (bH.rd 3 rfl) (bH.len 3 rfl) (by rfl)) (bH.len 3 rfl) (by have := bH.len 2 rfl; have := (bH.len 3 rfl); omega) ?_
   intro A3 c2 oH bD
   have cS := bD.ba (.s (.kk .z))
   refine aQ 1 [] (.n 3 (sl A3 (l.length + 1) c2) (.fi (.s .a))) qe (by kernel_rfl) ?_
   refine ad <| cu ?_
   exact p6 kB.length (by have h_ := hp.length_eq; simp only [List.length_cons] at h_; omega) ⟨l ++ ([key] : List (List UInt8)), kB, (some (key, av)), A3, _, c2, rfl, (by rw [List.append_assoc]; exact (List.Perm.append_left l (hp.map (·.1)).symm).trans ou), cS.len 1 rfl, rfl, cS⟩ (by kernel_rfl)
theorem kM {F O : Nat → Prop} {w : World} (cJ : Int) (af : Mp (List UInt8)) (al : Mp (Mp (Int × List UInt8))) (fg : Nat) (aq : Nat) (aw : Nat) (k : Cx F O w w [Bx 50 fg [I cJ, .v (.map (some aq)), .v (.map (some aw))], MS (vH e8) aq af, MS (vM (vS (eP eI eS) (bL bJ bK))) aw al]) (r : (Int × Int × Int × Nat × Nat × Nat × Int)) (hm : dt cJ af al = some r) :
    Calls Try.prog 9 (ak [pt fg 0]) w (fun e w' => ∃ fb Jp Jq, Fl r.2.2.2.1 fb ∧ Fl r.2.2.2.2.1 Jp ∧ Fl r.2.2.2.2.2.1 Jq ∧ e = .returned (SV.val (.agg [I r.1, I r.2.1, I r.2.2.1, .v (.float .f64 fb), .v (.float .f64 Jp), .v (.float .f64 Jq)])) ∧ Cx F O w w' [Bx 50 fg [I r.2.2.2.2.2.2, .v (.map (some aq)), .v (.map (some aw))], MS (vH e8) aq af, MS (vM (vS (eP eI eS) (bL bJ bK))) aw al]) := by
 unfold dt at hm
 refine calls [pt fg 0] Try.func9 rfl (of_decide_eq_true (by kernel_rfl)) ?_
 refine ab <| aj <| ae <| aU [] 2 [I 0, I 0, I 0, .v (.float .f64 0), .v (.float .f64 0), .v (.float .f64 0)] (by kernel_rfl) k ?_
 intro g w_ k_
 refine ad <| aa <| ab <| aj <| ae <| aU [] 3 [I 0, I 0, I 0, .v (.float .f64 0), .v (.float .f64 0), .v (.float .f64 0)] (by kernel_rfl) k_ ?_
 intro g1 jh bN
 refine ad <| aa <| ab <| ab <| aj <| aQ 1 [] (.n 14 (pt fg 0) .a) qe (by kernel_rfl) ?_
 refine ae ?_
 obtain ⟨r_, cc, hm⟩ := ob hm
 obtain ⟨F1, O1, oV, hO, xK, hF, hb⟩ := bN.go (.i (.i (.i (.r (.r .e)))))
 refine ax [] 15 _ sf (by kernel_rfl) (gk (F := F1) (O := O1) _ _ _ _ _ _ oV _ cc) ?_
 rintro e_ kI ⟨rfl, cG⟩
 have cD := hb kI _ _ cG (.c (.c (.c .n)))
 refine ⟨.b false, rfl, ?_⟩
 refine ad <| aa <| bf false (by kernel_rfl) (fun h => by cases h) (fun _ => ?_)
 refine aL <| aa <| ab <| aj <| aQ 4 [] (.n 20 (.v (.map (some aq))) (.ss .a)) (qs fg 0 <| qs fg 0 <| qB cD 0 rfl 1 (.v (.map (some aq))) (by kernel_rfl) <| qe) (by kernel_rfl) ?_
 refine ae ?_
 have dm := ((((cD.pk (.t (.t (.t (.t .h))))).pk (.t (.t (.t (.t .h))))).pk (.t (.t (.t (.t .h))))).pk (.t (.t (.t .h)))).pk (.t (.t (.t (.t .h))))
 refine xv (kt := 9) (e := 45) (v := (vH e8)) (m := af) [] 21 (by kernel_rfl) dm.acc ?_
 refine aQ 1 [] (.n 22 (pt g1 0) (.k (.s .a))) (qs g1 0 <| qe) (by kernel_rfl) ?_
 refine ae ?_
 have dx := dm.ba (.bb (.k .e))
 refine cE [] 4 (I ((af.length : Nat) : Int)) [I ((af.length : Nat) : Int)] (Pt.at g1 0) dx rfl .h (by kernel_rfl) (by kernel_rfl) ?_
 intro mb dV
 refine ad <| aa <| ab <| ab <| aj <| aQ 4 [] (.n 26 (.v (.map (some aq))) (.ss .a)) (qs fg 0 <| qs fg 0 <| qB dV 1 rfl 1 (.v (.map (some aq))) (by kernel_rfl) <| qe) (by kernel_rfl) ?_
 refine ae <| kZ (kt := 9) (e := 45) [] 27 (by kernel_rfl) dV ?_
 intro aE mc ed
 refine ad <| aa <| aI ?_
 obtain ⟨s_, C3, hm⟩ := ob hm
 have eo := ((((ed.pk (.t (.t (.t (.t .h))))).pk (.t (.t (.t (.t .h))))).pk (.t (.t (.t (.t .h))))).pk (.t (.t (.t .h)))).pk (.t (.t (.t (.t .h))))
 refine vJ (fun xV L wr => ∃ (bz : Int) (left : Mp (List UInt8)) (cur : Option (Ky × (List UInt8))), left.length = xV ∧ dG (ct) bz left = some s_ ∧ L = [(0, pt fg 0), (2, pt g 0), (3, pt g1 0), (27, .v (.pointer (some ⟨aE, 0, none⟩)))] ∧ Cx F O w wr [Bx 50 fg [I r_, .v (.map (some aq)), .v (.map (some aw))], MV (vH e8) false aq aE af left cur, MS (vM (vS (eP eI eS) (bL bJ bK))) aw al, Bx 37 g [I 0, I 0, I 0, .v (.float .f64 0), .v (.float .f64 0), .v (.float .f64 0)], Bx 37 g1 [I ((af.length : Nat) : Int), I bz, I 0, .v (.float .f64 0), .v (.float .f64 0), .v (.float .f64 0)]]) af.length ⟨(0 : Int), af, none, rfl, C3, rfl, eo⟩ (by kernel_rfl) ?_
 rintro kn L_ oH ⟨bz, left, cur, rfl, hf, rfl, eU⟩
 refine ab <| aj <| ae ?_
 have bH := ((((eU.pk (.t (.t (.t (.t .h))))).pk (.t (.t (.t (.t .h))))).pk (.t (.t (.t (.t .h))))).pk (.t (.t (.t .h)))).pk (.t (.t (.t (.t .h))))
 refine jj [] 28 (by kernel_rfl) bH (fun hl bD => ?_) (fun key av kB v qD hp tW cS => ?_)
 ·
   have hy := kY hl hf
   obtain rfl := hy.symm
   have dk := bD.uH
   refine aQ 1 [] (.n 29 (.b false) (.s (.nJ .z))) qe (by kernel_rfl) ?_
   refine ad <| aa <| ab <| bf false (by kernel_rfl) (fun h => by cases h) (fun _ => ?_)
   refine cA (bu (bu (dZ ?_)))
   refine aa <| ab <| ab <| aj <| aQ 4 [] (.n 41 (.v (.map (some aw))) (.s .a)) (qs fg 0 <| qs fg 0 <| qB dk 1 rfl 2 (.v (.map (some aw))) (by kernel_rfl) <| qe) (by kernel_rfl) ?_
   refine ae ?_
   have dD := ((((dk.pk (.t (.t (.t (.t .h))))).pk (.t (.t (.t (.t .h))))).pk (.t (.t (.t .h)))).pk (.t (.t (.t .h)))).pk (.t (.t (.t (.t .h))))
   refine kZ (kt := 9) (e := 56) [] 42 (by kernel_rfl) dD ?_
   intro dy rL et
   refine ad <| aa <| aI ?_
   obtain ⟨ma, C5, hm⟩ := ob hm
   have eC := ((((et.pk (.t (.t (.t (.t .h))))).pk (.t (.t (.t (.t .h))))).pk (.t (.t .h))).pk (.t (.t (.t .h)))).pk (.t (.t (.t (.t .h))))
   refine vJ (fun xV L wr => ∃ (fu : Int) (qu : Mp (Mp (Int × List UInt8))) (C6 : Option (Ky × (Mp (Int × List UInt8)))), qu.length = xV ∧ dG (cr) fu qu = some ma ∧ L = [(0, pt fg 0), (2, pt g 0), (3, pt g1 0), (42, .v (.pointer (some ⟨dy, 0, none⟩)))] ∧ Cx F O w wr [Bx 50 fg [I r_, .v (.map (some aq)), .v (.map (some aw))], MS (vH e8) aq af, MV (vM (vS (eP eI eS) (bL bJ bK))) false aw dy al qu C6, Bx 37 g [I 0, I 0, I 0, .v (.float .f64 0), .v (.float .f64 0), .v (.float .f64 0)], Bx 37 g1 [I ((af.length : Nat) : Int), I s_, I fu, .v (.float .f64 0), .v (.float .f64 0), .v (.float .f64 0)]]) al.length ⟨(0 : Int), al, none, rfl, C5, rfl, eC⟩ (by kernel_rfl) ?_
   rintro Ra L_ uL ⟨fu, qu, C6, rfl, Fc, rfl, eW⟩
   refine ab <| aj <| ae ?_
   have fN := ((((eW.pk (.t (.t (.t (.t .h))))).pk (.t (.t (.t (.t .h))))).pk (.t (.t (.t .h)))).pk (.t (.t (.t .h)))).pk (.t (.t (.t (.t .h))))
   refine jj [] 43 (by kernel_rfl) fN (fun yu iW => ?_) (fun oa gd uQ v1 xI xy H6 fH => ?_)
   ·
     have Jl := kY yu Fc
     obtain rfl := Jl.symm
     have gA := iW.uH
     refine aQ 1 [] (.n 44 (.b false) (.s (.nJ .z))) qe (by kernel_rfl) ?_
     refine ad <| aa <| ab <| bf false (by kernel_rfl) (fun h => by cases h) (fun _ => ?_)
     refine cA (bu (bu (dZ ?_)))
     refine aa <| ab <| aj <| aQ 2 [] (.n 60 (I s_) (.s .a)) (qs g1 0 <| qB gA 4 rfl 1 (I s_) (by kernel_rfl) <| qe) (by kernel_rfl) ?_
     refine ae <| kR [] 61 (q := .i64) (m := s_) (by kernel_rfl) ?_
     refine aQ 2 [] (.n 63 (I ma) (.k (.s .a))) (qs g1 0 <| qB gA 4 rfl 2 (I ma) (by kernel_rfl) <| qe) (by kernel_rfl) ?_
     refine ae <| kR [] 64 (q := .i64) (m := ma) (by kernel_rfl) ?_
     refine ae <| kE [] 65 (u := cq s_) (v := cq ma) (by kernel_rfl) (.inr (.inr (.inr rfl))) (kQ _) (kQ _) gA ?_
     intro Rc rk zC iA
     refine ae ?_
     have jL := iA.ba (.bb (.k .e))
     refine kE [] 66 (u := 4607182418800017408) (v := Rc) (by kernel_rfl) (.inr (.inl rfl)) (Fl.lit (c := 4607182418800017408) (by kernel_rfl)) zC jL ?_
     intro rp uc Ks iv
     refine aQ 1 [] (.n 67 (pt g1 3) (.k (.fi .a))) (qs g1 0 <| qe) (by kernel_rfl) ?_
     refine ae <| cE [] 4 (.v (.float .f64 rp)) [.v (.float .f64 rp)] (Pt.at g1 3) iv rfl (.kk (.k .h)) (by kernel_rfl) (by kernel_rfl) ?_
     intro wg iX
     refine ad <| aa <| ab <| aj <| aQ 2 [] (.n 69 (I s_) (.ss .a)) (qs g1 0 <| qB iX 4 rfl 1 (I s_) (by kernel_rfl) <| qe) (by kernel_rfl) ?_
     refine ae <| kR [] 70 (q := .i64) (m := s_) (by kernel_rfl) ?_
     refine aQ 2 [] (.n 72 (I ((af.length : Nat) : Int)) (.k (.s .a))) (qs g1 0 <| qB iX 4 rfl 0 (I ((af.length : Nat) : Int)) (by kernel_rfl) <| qe) (by kernel_rfl) ?_
     refine ae <| kR [] 73 (q := .i64) (m := ((af.length : Nat) : Int)) (by kernel_rfl) ?_
     refine ae ?_
     have jM := iX.ba (.bb (.k .e))
     refine kE [] 74 (u := cq s_) (v := cq ((af.length : Nat) : Int)) (by kernel_rfl) (.inr (.inr (.inr rfl))) (kQ _) (kQ _) jM ?_
     intro r7 yZ Ff lM
     refine aQ 1 [] (.n 75 (pt g1 4) (.k (.ib .a))) (qs g1 0 <| qe) (by kernel_rfl) ?_
     refine ae <| cE [] 4 (.v (.float .f64 r7)) [.v (.float .f64 r7)] (Pt.at g1 4) lM rfl (.bb .h) (by kernel_rfl) (by kernel_rfl) ?_
     intro CL je
     refine ad <| aa <| ab <| aV [] (.n 10 (.v (.float .f64 0)) (.ss .a)) qe (by kernel_rfl) ?_
     refine aa <| ab <| ab <| aj <| aQ 4 [] (.n 79 (.v (.map (some aq))) .a) (qs fg 0 <| qs fg 0 <| qB je 1 rfl 1 (.v (.map (some aq))) (by kernel_rfl) <| qe) (by kernel_rfl) ?_
     refine ae ?_
     obtain ⟨dj, oo, hm⟩ := ob hm
     obtain ⟨y9, za, oq, HS, wK, HT, xx⟩ := je.go (.r (.r (.i (.r (.r .e)))))
     refine ax [] 80 _ EC (by kernel_rfl) (qt (F := y9) (O := za) _ _ oq _ oo) ?_
     rintro e_ CM ⟨A, _, c, rfl, rfl, l8⟩
     have lE := xx CM _ _ l8 (.c (.c .n))
     refine ⟨sl A dj.length c, rfl, ?_⟩
     refine aQ 2 [] (.n 81 (I ((dj.length : Nat) : Int)) (.n 82 (I 0) (.k (.s .a)))) qe (by kernel_rfl) ?_
     refine ad <| aa <| aI ?_
     have xS := (((((lE.pk .h).pk (.t (.t (.t (.t (.t .h)))))).pk (.t (.t (.t (.t (.t .h)))))).pk (.t (.t (.t (.t .h))))).pk (.t (.t (.t (.t .h))))).pk (.t (.t (.t (.t (.t .h)))))
     refine jQ (cR af r_ s_ ma dj) (fun s L wr => ∃ (sum : Nat) (kF : Int) (yv : Nat), (sum, kF) = s ∧ L = [(0, pt fg 0), (2, pt g 0), (3, pt g1 0), (10, .v (.float .f64 yv)), (80, sl A dj.length c), (81, I ((dj.length : Nat) : Int)), (82, I kF)] ∧ Fl sum yv ∧ Cx F O w wr [Bx 50 fg [I r_, .v (.map (some aq)), .v (.map (some aw))], MS (vH e8) aq af, MS (vM (vS (eP eI eS) (bL bJ bK))) aw al, Bx 37 g [I 0, I 0, I 0, .v (.float .f64 0), .v (.float .f64 0), .v (.float .f64 0)], Bx 37 g1 [I ((af.length : Nat) : Int), I s_, I ma, .v (.float .f64 rp), .v (.float .f64 r7), .v (.float .f64 0)], Ow eS A dj.length c dj]) (0, (0 : Int)) r hm ⟨0, (0 : Int), 0, rfl, rfl, (Fl.lit (c := 0) (by kernel_rfl)), xS⟩ (by kernel_rfl) ?_
     intro rW L_ Kl y0 ef bj jH
     obtain ⟨sum, kF, yv, rfl, rfl, xW, pI⟩ := ef
     have hm := bj; simp only [cR] at hm
     clear bj
     refine ab <| aV [] (.n 83 (.b (decide (kF < ((dj.length : Nat) : Int)))) .a) qe (by kernel_rfl) ?_
     refine aa <| ab <| aN (kF < ((dj.length : Nat) : Int)) (by kernel_rfl) (fun hc => ?_) (fun hc => ?_)
     · rw [if_pos hc] at hm
       refine aL <| aa <| ab <| aI <| ab ?_
       obtain ⟨lb, rN, hm⟩ := ob hm
       refine aV [] (.n 12 (.s lb) (.s .a)) (qW (pI.rd 5 rfl) rN (pI.len 5 rfl) (.s lb) rfl <| qe) (by kernel_rfl) ?_
       refine aa <| ab ?_
       have lN := pI.drew 1
       refine lJ aT (.q 4 2 (.q 8 2 (.q 9 2 (.q 0 3 (.q 1 3 (.q 2 2 (.q 3 2 (.op 5 (.q 6 1 (.op 7 (.op 10 (.q 11 3 .nil)))))))))))) [5, 7, 10] lN (.c (.bb (.kk .e)) (.c (.bb (.kk .e)) (.c (.bb (.kk .e)) .l))) (by kernel_rfl) (fun _ => ?_)
       refine bo 3 2 [] (.n 90 (.s lb) (.n 95 (.v (.float .f64 r7)) (.s .a))) (fun x hx => qs g1 0 <| qB hx 4 rfl 4 (.v (.float .f64 r7)) (by kernel_rfl) <| qe) (by kernel_rfl) (fun _ => ?_)
       refine bo 2 3 [] (.n 87 (pt fg 0) .a) (fun x hx => qs fg 0 <| qe) (by kernel_rfl) (fun _ => ?_)
       refine bo 2 2 [] (.n 89 (.v (.map (some aq))) (.s .a)) (fun x hx => qs fg 0 <| qB hx 0 rfl 1 (.v (.map (some aq))) (by kernel_rfl) <| qe) (by kernel_rfl) (fun _ => ?_)
       refine bl (by kernel_rfl) rfl ?_
       have tw := (((((lN.pk (.t (.t (.t (.t (.t .h)))))).pk (.t (.t (.t (.t (.t .h)))))).pk (.t (.t (.t (.t (.t .h)))))).pk (.t (.t (.t (.t (.t .h)))))).pk (.t (.t (.t (.t .h))))).pk (.t (.t (.t (.t (.t .h)))))
       refine AO (kt := 9) (e := 45) (E := e8) (m := af) (key := lb) [] 91 (by kernel_rfl) (by kernel_rfl) tw.acc (fun Cm => ?_) (fun A1 c1 gH Km r4 => ?_)
       · simp only [Cm, Option.elim_none] at hm
         refine ⟨((((((tw.pk (.t (.t (.t (.t (.t .h)))))).pk (.t (.t (.t (.t (.t .h)))))).pk (.t (.t (.t (.t (.t .h)))))).pk (.t (.t (.t (.t (.t .h)))))).pk (.t (.t (.t (.t .h))))).pk (.t (.t (.t (.t (.t .h)))))), fun _ => ?_⟩
         refine bo 1 1 [] (.n 92 (I ((0 : Nat) : Int)) (.ib .a)) (fun x hx => qe) (by kernel_rfl) (fun _ => ?_)
         refine bl (by kernel_rfl) rfl <| kR [] 93 (q := .i64) (m := ((0 : Nat) : Int)) (by kernel_rfl) ?_
         refine ⟨((((((tw.pk (.t (.t (.t (.t (.t .h)))))).pk (.t (.t (.t (.t (.t .h)))))).pk (.t (.t (.t (.t (.t .h)))))).pk (.t (.t (.t (.t (.t .h)))))).pk (.t (.t (.t (.t .h))))).pk (.t (.t (.t (.t (.t .h)))))), fun _ => ?_⟩
         refine bl (by kernel_rfl) rfl <| kE [] 96 (u := cq ((0 : Nat) : Int)) (v := r7) (by kernel_rfl) (.inr (.inl rfl)) (kQ _) Ff tw ?_
         intro H7 HV C7 tx
         refine ⟨((((((tx.pk (.t (.t (.t (.t (.t .h)))))).pk (.t (.t (.t (.t (.t .h)))))).pk (.t (.t (.t (.t (.t .h)))))).pk (.t (.t (.t (.t (.t .h)))))).pk (.t (.t (.t (.t .h))))).pk (.t (.t (.t (.t (.t .h)))))), fun _ => ?_⟩
         refine bo 1 3 [] (.n 13 (.v (.float .f64 H7)) (.fi .a)) (fun x hx => qe) (by kernel_rfl) (fun _ => ?_)
         refine bC <| aa <| aj <| aQ 3 [] (.n 97 (.v (.float .f64 yv)) (.n 98 (.v (.float .f64 H7)) (.n 99 (.v (.float .f64 H7)) (.s .a)))) qe (by kernel_rfl) ?_
         refine ae <| kE [] 100 (u := H7) (v := H7) (by kernel_rfl) (.inr (.inr (.inl rfl))) C7 C7 tx ?_
         intro NA Kp H8 zb
         refine ae ?_
         have xT := zb.ba (.bb (.kk .e))
         refine kE [] 101 (u := yv) (v := NA) (by kernel_rfl) (.inl rfl) xW H8 xT ?_
         intro PL M6 H9 qq
         refine aQ 1 [] (.n 10 (.v (.float .f64 PL)) (.fi (.s (.nJ (.s .a))))) qe (by kernel_rfl) ?_
         refine ad <| cu <| aa <| aV [] (.n 82 (I (aA (kF + 1))) (.bb (.kk .z))) qe (by kernel_rfl) ?_
         have xU := (((((qq.pk (.t (.t (.t (.t (.t .h)))))).pk (.t (.t (.t (.t (.t .h)))))).pk (.t (.t (.t (.t (.t .h)))))).pk (.t (.t (.t (.t (.t .h)))))).pk (.t (.t (.t (.t .h))))).pk (.t (.t (.t (.t (.t .h)))))
         exact fO (ic .add sum (ic .mul (ic .sub (cq ((0 : Nat) : Int)) (ic .quo (cq s_) (cq ((af.length : Nat) : Int)))) (ic .sub (cq ((0 : Nat) : Int)) (ic .quo (cq s_) (cq ((af.length : Nat) : Int))))), aA (kF + 1)) (Option.some.inj hm).symm ⟨ic .add sum (ic .mul (ic .sub (cq ((0 : Nat) : Int)) (ic .quo (cq s_) (cq ((af.length : Nat) : Int)))) (ic .sub (cq ((0 : Nat) : Int)) (ic .quo (cq s_) (cq ((af.length : Nat) : Int))))), aA (kF + 1), PL, rfl, rfl, H9, xU⟩ (by kernel_rfl)
       · simp only [Km, Option.elim_some] at hm
         refine ⟨(((((((r4.pk (.t (.t (.t (.t (.t (.t .h))))))).pk (.t (.t (.t (.t (.t (.t .h))))))).pk (.t (.t (.t (.t (.t (.t .h))))))).pk (.t (.t (.t (.t (.t (.t .h))))))).pk (.t (.t (.t (.t (.t .h)))))).pk (.t (.t (.t (.t (.t (.t .h))))))).ba (.bb (.kk .z))), fun _ => ?_⟩
         refine bo 1 1 [] (.n 92 (I ((gH.length : Nat) : Int)) (.ib .a)) (fun x hx => qe) (by kernel_rfl) (fun _ => ?_)
         refine bl (by kernel_rfl) rfl <| kR [] 93 (q := .i64) (m := ((gH.length : Nat) : Int)) (by kernel_rfl) ?_
         refine ⟨(((((((r4.pk (.t (.t (.t (.t (.t (.t .h))))))).pk (.t (.t (.t (.t (.t (.t .h))))))).pk (.t (.t (.t (.t (.t (.t .h))))))).pk (.t (.t (.t (.t (.t (.t .h))))))).pk (.t (.t (.t (.t (.t .h)))))).pk (.t (.t (.t (.t (.t (.t .h))))))).ba (.bb (.kk .z))), fun _ => ?_⟩
         refine bl (by kernel_rfl) rfl <| kE [] 96 (u := cq ((gH.length : Nat) : Int)) (v := r7) (by kernel_rfl) (.inr (.inl rfl)) (kQ _) Ff r4 ?_
         intro Kt M7 Fg ng
         refine ⟨(((((((ng.pk (.t (.t (.t (.t (.t (.t .h))))))).pk (.t (.t (.t (.t (.t (.t .h))))))).pk (.t (.t (.t (.t (.t (.t .h))))))).pk (.t (.t (.t (.t (.t (.t .h))))))).pk (.t (.t (.t (.t (.t .h)))))).pk (.t (.t (.t (.t (.t (.t .h))))))).ba (.bb (.kk .z))), fun _ => ?_⟩
         refine bo 1 3 [] (.n 13 (.v (.float .f64 Kt)) (.fi .a)) (fun x hx => qe) (by kernel_rfl) (fun _ => ?_)
         refine bC <| aa <| aj <| aQ 3 [] (.n 97 (.v (.float .f64 yv)) (.n 98 (.v (.float .f64 Kt)) (.n 99 (.v (.float .f64 Kt)) (.s .a)))) qe (by kernel_rfl) ?_
         refine ae <| kE [] 100 (u := Kt) (v := Kt) (by kernel_rfl) (.inr (.inr (.inl rfl))) Fg Fg ng ?_
         intro NB M8 NC rn
         refine ae ?_
         have wO := rn.ba (.bb (.kk (.k .e)))
         refine kE [] 101 (u := yv) (v := NB) (by kernel_rfl) (.inl rfl) xW NC wO ?_
         intro Ku M9 ND zc
         refine aQ 1 [] (.n 10 (.v (.float .f64 Ku)) (.fi (.s (.nJ (.s .a))))) qe (by kernel_rfl) ?_
         refine ad <| cu <| aa <| aV [] (.n 82 (I (aA (kF + 1))) (.bb (.kk .z))) qe (by kernel_rfl) ?_
         have AR := ((((((zc.pk (.t (.t (.t (.t (.t (.t .h))))))).pk (.t (.t (.t (.t (.t (.t .h))))))).pk (.t (.t (.t (.t (.t (.t .h))))))).pk (.t (.t (.t (.t (.t (.t .h))))))).pk (.t (.t (.t (.t (.t .h)))))).pk (.t (.t (.t (.t (.t (.t .h))))))).ba (.bb (.kk .z))
         exact fO (ic .add sum (ic .mul (ic .sub (cq ((gH.length : Nat) : Int)) (ic .quo (cq s_) (cq ((af.length : Nat) : Int)))) (ic .sub (cq ((gH.length : Nat) : Int)) (ic .quo (cq s_) (cq ((af.length : Nat) : Int))))), aA (kF + 1)) (Option.some.inj hm).symm ⟨ic .add sum (ic .mul (ic .sub (cq ((gH.length : Nat) : Int)) (ic .quo (cq s_) (cq ((af.length : Nat) : Int)))) (ic .sub (cq ((gH.length : Nat) : Int)) (ic .quo (cq s_) (cq ((af.length : Nat) : Int))))), aA (kF + 1), Ku, rfl, rfl, ND, AR⟩ (by kernel_rfl)
     rw [if_neg hc] at hm
     refine cA (bu (bu (dZ ?_)))
     have hm := bT hm jH
     refine aa <| ab <| aj <| aQ 3 [] (.n 103 (.v (.float .f64 yv)) (.n 105 (I ((af.length : Nat) : Int)) (.ss (.kk .z)))) (qs g1 0 <| qB pI 4 rfl 0 (I ((af.length : Nat) : Int)) (by kernel_rfl) <| qe) (by kernel_rfl) ?_
     refine ae <| kR [] 106 (q := .i64) (m := ((af.length : Nat) : Int)) (by kernel_rfl) ?_
     refine ae <| kE [] 107 (u := yv) (v := cq ((af.length : Nat) : Int)) (by kernel_rfl) (.inr (.inr (.inr rfl))) xW (kQ _) pI ?_
     intro uk Na Kv CW
     refine aQ 1 [] (.n 108 (pt g1 5) (.k (.ib .a))) (qs g1 0 <| qe) (by kernel_rfl) ?_
     refine ae <| cE [] 4 (.v (.float .f64 uk)) [.v (.float .f64 uk)] (Pt.at g1 5) CW rfl (.bb (.k .h)) (by kernel_rfl) (by kernel_rfl) ?_
     intro Nb AS
     have r5 := AS.ba (.bb (.k .z))
     refine ad <| aa <| ab <| aj <| aQ 1 [] (.n 109 (.agg [I ((af.length : Nat) : Int), I s_, I ma, .v (.float .f64 rp), .v (.float .f64 r7), .v (.float .f64 uk)]) (.ss (.k .z))) (qT r5 4 rfl 0 6 [I ((af.length : Nat) : Int), I s_, I ma, .v (.float .f64 rp), .v (.float .f64 r7), .v (.float .f64 uk)] (by kernel_rfl) (by decide) <| qe) (by kernel_rfl) ?_
     refine ae <| cE [] 3 (.agg [I ((af.length : Nat) : Int), I s_, I ma, .v (.float .f64 rp), .v (.float .f64 r7), .v (.float .f64 uk)]) [I ((af.length : Nat) : Int), I s_, I ma, .v (.float .f64 rp), .v (.float .f64 r7), .v (.float .f64 uk)] (Pt.at g 0) r5 rfl .all (by kernel_rfl) (by kernel_rfl) ?_
     intro Nc zd
     have ui := zd.ba (.bb .z)
     refine ad <| aa <| aG ?_
     obtain rfl := Option.some.inj hm
     refine aH [.agg [I ((af.length : Nat) : Int), I s_, I ma, .v (.float .f64 rp), .v (.float .f64 r7), .v (.float .f64 uk)]] (qo (.agg [I ((af.length : Nat) : Int), I s_, I ma, .v (.float .f64 rp), .v (.float .f64 r7), .v (.float .f64 uk)]) <| qc (fun w => Rd w (some ⟨g, 0, none⟩) (SV.cl [I ((af.length : Nat) : Int), I s_, I ma, .v (.float .f64 rp), .v (.float .f64 r7), .v (.float .f64 uk)])) (ui.pV 3 rfl) <| qe) (by kernel_rfl) ?_
     have CX := ui.ba (.kk (.k .z))
     exact ⟨rp, r7, uk, Ks, Ff, Kv, rfl, CX⟩
   ·
     obtain ⟨sn, hm, Ko⟩ := jR (mE) xy H6 Fc
     simp only [cr] at hm
     refine aQ 1 [] (.n 44 (.b true) (.s .a)) qe (by kernel_rfl) ?_
     refine ad <| aa <| ab <| bf true (by kernel_rfl) (fun _ => ?_) (fun h => by cases h)
     refine aL <| aa <| aI <| ab <| aj <| ae <| tb [] 45 (by kernel_rfl) fH ?_
     intro b CY
     refine aQ 2 [] (.n 7 (.v (.map (some b))) (.ss .a)) qe (by kernel_rfl) ?_
     refine ad <| aa <| ab <| aj <| aQ 1 [] (.n 47 (.v (.map (some b))) (.s .a)) qe (by kernel_rfl) ?_
     refine ae <| qQ (kt := 9) (e := 62) (v := (vS (eP eI eS) (bL bJ bK))) (m := gd) [] 48 0 (by kernel_rfl) CY rfl ?_
     intro ie Nd AT
     refine ad <| aa <| aI ?_
     obtain ⟨Lx, Kw, hm⟩ := ob hm
     have AU := ((((((AT.pk .h).pk (.t (.t (.t (.t (.t (.t .h))))))).pk (.t (.t (.t (.t (.t (.t .h))))))).pk (.t (.t (.t (.t .h))))).pk (.t (.t (.t (.t (.t (.t .h))))))).pk (.t (.t (.t (.t (.t (.t .h))))))).ba (.bb (.kk .z))
     refine vJ (fun xV L wr => ∃ (o0 : Int) (Ab : Mp (Int × List UInt8)) (Ee : Option (Ky × (Int × List UInt8))), Ab.length = xV ∧ dG (bG) o0 Ab = some Lx ∧ L = [(0, pt fg 0), (2, pt g 0), (3, pt g1 0), (42, .v (.pointer (some ⟨dy, 0, none⟩))), (48, .v (.pointer (some ⟨ie, 0, none⟩)))] ∧ Cx F O w wr [Bx 50 fg [I r_, .v (.map (some aq)), .v (.map (some aw))], MS (vH e8) aq af, MV (vM (vS (eP eI eS) (bL bJ bK))) false aw dy al uQ (some (oa, gd)), Bx 37 g [I 0, I 0, I 0, .v (.float .f64 0), .v (.float .f64 0), .v (.float .f64 0)], Bx 37 g1 [I ((af.length : Nat) : Int), I s_, I o0, .v (.float .f64 0), .v (.float .f64 0), .v (.float .f64 0)], MV (vS (eP eI eS) (bL bJ bK)) true b ie gd Ab Ee]) gd.length ⟨fu, gd, none, rfl, Kw, rfl, AU⟩ (by kernel_rfl) ?_
     rintro SN L_ Nf ⟨o0, Ab, Ee, rfl, Jn, rfl, uj⟩
     refine ab <| aj <| ae ?_
     have AV := (((((uj.pk (.t (.t (.t (.t .h))))).pk (.t (.t (.t (.t .h))))).pk (.t (.t (.t (.t .h))))).pk (.t (.t (.t (.t .h))))).pk (.t (.t (.t (.t .h))))).pk (.t (.t (.t (.t (.t .h)))))
     refine jj [] 49 (by kernel_rfl) AV (fun sG CZ => ?_) (fun Er eM Gh v2 Ng Ht NG AW => ?_)
     ·
       have Nh := kY sG Jn
       obtain rfl := Nh.symm
       have wP := CZ.tl
       refine aQ 1 [] (.n 50 (.b false) (.s (.bb .z))) qe (by kernel_rfl) ?_
       refine ad <| aa <| ab <| bf false (by kernel_rfl) (fun h => by cases h) (fun _ => ?_)
       refine cA (bu (bu (dZ ?_)))
       refine cu ?_
       obtain rfl := Option.some.inj hm
       exact p6 uQ.length (by have h_ := xy.length_eq; simp only [List.length_cons] at h_; omega) ⟨Lx, uQ, (some (oa, gd)), rfl, Ko, rfl, wP⟩ (by kernel_rfl)
     ·
       obtain ⟨SO, hm, H0⟩ := jR (mD) Ht NG Jn
       simp only [bG] at hm
       refine aQ 1 [] (.n 50 (.b true) (.s .a)) qe (by kernel_rfl) ?_
       refine ad <| aa <| ab <| bf true (by kernel_rfl) (fun _ => ?_) (fun h => by cases h)
       refine aL <| aa <| aI <| ab <| aj <| ae <| oD (v := (vS (eP eI eS) (bL bJ bK))) rfl [] 51 (.agg [I eM.1, .s eM.2]) (by kernel_rfl) AW rfl ?_
       refine aQ 1 [] (.n 52 (.agg [I eM.1, .s eM.2]) (.ss .a)) qe (by kernel_rfl) ?_
       refine ae <| aU [] 9 [I 0, .s ([] : List UInt8)] (by kernel_rfl) AW ?_
       intro g2 Nn AX
       refine ae <| cE [] 6 (.agg [I eM.1, .s eM.2]) [I eM.1, .s eM.2] (Pt.at g2 0) AX rfl .all (by kernel_rfl) (by kernel_rfl) ?_
       intro Ns ze
       refine ad <| aa <| aj <| aQ 6 [] (.n 57 (I (aA (o0 + eM.1))) (.n 58 (pt g1 2) (.ss .a))) (qs g1 0 <| qB ze 5 rfl 2 (I o0) (by kernel_rfl) <| qs g2 0 <| qB ze 6 rfl 0 (I eM.1) (by kernel_rfl) <| qs g1 0 <| qe) (by kernel_rfl) ?_
       refine ae ?_
       have C0 := ze.ba (.bb (.kk (.k .e)))
       refine cE [] 5 (I (aA (o0 + eM.1))) [I (aA (o0 + eM.1))] (Pt.at g1 2) C0 rfl (.kk .h) (by kernel_rfl) (by kernel_rfl) ?_
       intro Nv zf
       have C1 := zf.ba (.bb (.kk .z))
       refine ad <| cu ?_
       have C2 := (((((C1.pk .h).pk (.t (.t (.t (.t (.t .h)))))).pk (.t (.t (.t (.t (.t .h)))))).pk (.t (.t (.t (.t (.t .h)))))).pk (.t (.t (.t (.t (.t .h)))))).pk (.t (.t (.t (.t (.t .h)))))
       obtain rfl := Option.some.inj hm
       exact p6 Gh.length (by have h_ := Ht.length_eq; simp only [List.length_cons] at h_; omega) ⟨aA (o0 + eM.1), Gh, (some (Er, eM)), rfl, H0, rfl, C2⟩ (by kernel_rfl)
 ·
   obtain ⟨Re, hm, Jo⟩ := jR (mC) hp tW hf
   simp only [ct] at hm
   refine aQ 1 [] (.n 29 (.b true) (.s .a)) qe (by kernel_rfl) ?_
   refine ad <| aa <| ab <| bf true (by kernel_rfl) (fun _ => ?_) (fun h => by cases h)
   refine aL <| aa <| aI <| ab <| aj <| ae <| qY [] 30 (by kernel_rfl) cS ?_
   intro A0 c0 AY
   refine aQ 2 [] (.n 5 (sl A0 av.length c0) (.ss .a)) qe (by kernel_rfl) ?_
   refine ad <| aa <| aj <| aQ 6 [] (.n 36 (I (aA (bz + ((av.length : Nat) : Int)))) (.n 37 (pt g1 1) (.s .a))) (qs g1 0 <| qB AY 5 rfl 1 (I bz) (by kernel_rfl) <| qs g1 0 <| qe) (by kernel_rfl) ?_
   refine ae <| cE [] 5 (I (aA (bz + ((av.length : Nat) : Int)))) [I (aA (bz + ((av.length : Nat) : Int)))] (Pt.at g1 1) AY rfl (.k .h) (by kernel_rfl) (by kernel_rfl) ?_
   intro Rf AZ
   have A_ := AZ.ba (.s (.bb (.k .e)))
   refine ad <| cu ?_
   have Ba := ((((A_.pk (.t (.t (.t (.t .h))))).pk (.t (.t (.t (.t .h))))).pk (.t (.t (.t (.t .h))))).pk (.t (.t (.t .h)))).pk (.t (.t (.t (.t .h))))
   obtain rfl := Option.some.inj hm
   exact p6 kB.length (by have h_ := hp.length_eq; simp only [List.length_cons] at h_; omega) ⟨aA (bz + ((av.length : Nat) : Int)), kB, (some (key, av)), rfl, Jo, rfl, Ba⟩ (by kernel_rfl)
theorem rq {F O : Nat → Prop} {w : World} (n_ : Mp Int) (uP : Nat) (k : Cx F O w w [MS vI uP n_]) (r : (List (List UInt8))) (hm : hZ n_ = some r) :
    Calls Try.prog 19 (ak [.v (.map (some uP))]) w (fun e w' => ∃ A n c, r.length = n ∧ e = .returned (SV.val (sl A n c)) ∧ Cx F O w w' [Ow eS A n c r, MS vI uP n_]) := by
 unfold hZ at hm
 refine calls [.v (.map (some uP))] Try.func19 rfl (of_decide_eq_true (by kernel_rfl)) ?_
 refine ab <| aV [] .a qe (by kernel_rfl) ?_
 refine aa <| ab <| aV [] (.n 3 (sl none 0 0) .a) qe (by kernel_rfl) ?_
 refine aa <| ab <| ab <| aj <| aQ 1 [] (.n 5 (.v (.map (some uP))) (.k .z)) qe (by kernel_rfl) ?_
 refine ae <| kZ (kt := 9) (e := 3) [] 6 (by kernel_rfl) k ?_
 intro r_ w_ k_
 refine ad <| aa <| aI ?_
 obtain ⟨u, pK, hm⟩ := ob hm
 have bN := k_.nil eS
 refine vJ (fun xV L wr => ∃ (l : List (List UInt8)) (left : Mp Int) (cur : Option (Ky × Int)) (A0 : Option Addr) (n0 c0 : Nat), left.length = xV ∧ (l ++ left.map (·.1)).Perm (n_.map (·.1)) ∧ l.length = n0 ∧ L = [(3, sl A0 n0 c0), (6, .v (.pointer (some ⟨r_, 0, none⟩)))] ∧ Cx F O w wr [MV vI false uP r_ n_ left cur, Ow eS A0 n0 c0 l]) n_.length ⟨[], n_, none, none, 0, 0, rfl, List.Perm.refl _, rfl, rfl, bN⟩ (by kernel_rfl) ?_
 rintro kn L_ jh ⟨l, left, cur, A0, _, c0, rfl, ou, rfl, rfl, cG⟩
 refine ab <| aj <| ae <| jj [] 7 (by kernel_rfl) cG (fun hl cD => ?_) (fun key av kB v kI hp tW dm => ?_)
 ·
   have xy : l.Perm (n_.map (·.1)) := by have h_ := ou; rw [hl, List.map_nil, List.append_nil] at h_; exact h_
   have dx := cD.uH
   refine aQ 1 [] (.n 8 (.b false) (.s (.k .z))) qe (by kernel_rfl) ?_
   refine ad <| aa <| ab <| bf false (by kernel_rfl) (fun h => by cases h) (fun _ => ?_)
   refine cA (bu (bu (dZ ?_)))
   refine aa <| ab <| aj <| aQ 1 [] (.n 15 (sl A0 l.length c0) (.s .a)) qe (by kernel_rfl) ?_
   refine ae <| ax [] 16 _ vZ (by kernel_rfl) (re (i := 1) dx rfl (by have h1 := xy.length_eq; have h2 := ck pK; have h3 := dx.len 1 rfl; rw [List.length_map] at h1; omega)) ?_
   rintro e_ mb ⟨rfl, dV⟩
   rw [sX xy] at dV
   refine ⟨.dB [], rfl, ?_⟩
   refine ad <| aa <| ab <| aV [] (.n 2 (sl A0 l.length c0) .z) qe (by kernel_rfl) ?_
   refine aa <| aG ?_
   obtain rfl := Option.some.inj hm
   refine aH [sl A0 l.length c0] qe (by kernel_rfl) ?_
   have ed := (dV.pk .h).pk (.t .h)
   exact ⟨A0, l.length, c0, ed.len 0 rfl, rfl, ed⟩
 ·
   refine aQ 1 [] (.n 8 (.b true) (.s .a)) qe (by kernel_rfl) ?_
   refine ad <| aa <| ab <| bf true (by kernel_rfl) (fun _ => ?_) (fun h => by cases h)
   refine aL <| aa <| aI <| ab <| aj <| ae <| oD (v := vI) rfl [] 9 (I av) (by kernel_rfl) dm rfl ?_
   refine aQ 2 [] (.n 4 (.s key) (.ss .a)) qe (by kernel_rfl) ?_
   refine ad <| aa <| aj <| aQ 2 [] (.n 11 (sl A0 l.length c0) (.n 12 (.s key) (.s .a))) qe (by kernel_rfl) ?_
   refine ae <| lQ iP eS [] 13 ([key] : List (List UInt8)) [(0, .s key)] [.s key] (by kernel_rfl) (by kernel_rfl) (by kernel_rfl) dm ?_
   intro A1 mc eo
   refine ae ?_
   have eU := eo.ba (.kk (.k .e))
   have hz : (l.length + ([key] : List (List UInt8)).length) * 16 ≤ 140737488355328 := by have h1 := ou.length_eq; have h2 := hp.length_eq; have h3 := ck pK; simp only [List.length_append, List.length_cons, List.length_nil, List.length_map] at *; omega
   refine dq (E := eS) (v := sl A1 1 1) (ys := ([key] : List (List UInt8))) iP [] 14 1 (by kernel_rfl) eU rfl (Src.sl (eU.rd 2 rfl) (eU.len 2 rfl) (by rfl)) (eU.len 2 rfl) (by have := eU.len 1 rfl; have := (eU.len 2 rfl); omega) ?_
   intro A2 c1 oH bH
   have bD := bH.ba (.kk .z)
   refine aQ 1 [] (.n 3 (sl A2 (l.length + 1) c1) (.fi (.s .a))) qe (by kernel_rfl) ?_
   refine ad <| cu ?_
   exact p6 kB.length (by have h_ := hp.length_eq; simp only [List.length_cons] at h_; omega) ⟨l ++ ([key] : List (List UInt8)), kB, (some (key, av)), A2, _, c1, rfl, (by rw [List.append_assoc]; exact (List.Perm.append_left l (hp.map (·.1)).symm).trans ou), bD.len 1 rfl, rfl, bD⟩ (by kernel_rfl)
theorem ov {F O : Nat → Prop} {w : World} (cJ : Int) (af : Mp (List UInt8)) (al : Mp (Mp (Int × List UInt8))) (from_ : List UInt8) (to : List UInt8) (fg : Nat) (aq : Nat) (aw : Nat) (k : Cx F O w w [Bx 50 fg [I cJ, .v (.map (some aq)), .v (.map (some aw))], MS (vH e8) aq af, MS (vM (vS (eP eI eS) (bL bJ bK))) aw al]) (r : (List (List UInt8) × Int × Int)) (hm : ec cJ af al from_ to = some r) :
    Calls Try.prog 10 (ak [pt fg 0, .s from_, .s to]) w (fun e w' => ∃ A n c, r.1.length = n ∧ e = .returned (SV.val (.dB [sl A n c, I r.2.1])) ∧ Cx F O w w' [Ow eS A n c r.1, Bx 50 fg [I r.2.2, .v (.map (some aq)), .v (.map (some aw))], MS (vH e8) aq af, MS (vM (vS (eP eI eS) (bL bJ bK))) aw al]) := by
 unfold ec at hm
 refine calls [pt fg 0, .s from_, .s to] Try.func10 rfl (of_decide_eq_true (by kernel_rfl)) ?_
 refine ab <| aV [] .a qe (by kernel_rfl) ?_
 refine aa <| ab <| ab <| aj <| aQ 1 [] (.n 18 (pt fg 0) .a) qe (by kernel_rfl) ?_
 refine ae ?_
 obtain ⟨r_, cc, hm⟩ := ob hm
 obtain ⟨F1, O1, oV, hO, xK, hF, hb⟩ := k.go (.i (.i (.i .e)))
 refine ax [] 19 _ sf (by kernel_rfl) (gk (F := F1) (O := O1) _ _ _ _ _ _ oV _ cc) ?_
 rintro e_ w_ ⟨rfl, k_⟩
 have bN := hb w_ _ _ k_ (.c (.c (.c .n)))
 refine ⟨.b false, rfl, ?_⟩
 refine ad <| aa <| bf false (by kernel_rfl) (fun h => by cases h) (fun _ => ?_)
 refine aL <| aa <| ab <| aj <| aQ 5 [] (.n 24 (.v (.map (some aw))) (.n 25 (.s from_) (.ss (.k (.s .a))))) (qs fg 0 <| qs fg 0 <| qB bN 0 rfl 2 (.v (.map (some aw))) (by kernel_rfl) <| qe) (by kernel_rfl) ?_
 refine ae ?_
 have cG := ((bN.pk (.t .h)).pk (.t .h)).pk (.t (.t .h))
 refine oE (kt := 9) (e := 56) (v := (vS (eP eI eS) (bL bJ bK))) (m := al) (key := from_) [] 26 (by kernel_rfl) (by kernel_rfl) cG.acc (fun hf => ?_) (fun b aE Fc cD => ?_)
 · simp only [hf, Option.elim_none] at hm
   refine aQ 5 [] (.n 8 (.v (.map none)) (.n 9 (.b false) (.ib .a))) qe (by kernel_rfl) ?_
   refine ad <| aa <| ab <| aj <| aQ 5 [] (.n 33 (.v (.map (some aw))) (.n 34 (.s to) (.kk .z))) (qs fg 0 <| qs fg 0 <| qB cG 1 rfl 2 (.v (.map (some aw))) (by kernel_rfl) <| qe) (by kernel_rfl) ?_
   refine ae <| oE (kt := 9) (e := 56) (v := (vS (eP eI eS) (bL bJ bK))) (m := al) (key := to) [] 35 (by kernel_rfl) (by kernel_rfl) cG.acc (fun Cm => ?_) (fun b1 bz Km dm => ?_)
   · simp only [Cm, Option.elim_none] at hm
     refine aQ 5 [] (.n 10 (.v (.map none)) (.n 11 (.b false) (.ib .a))) qe (by kernel_rfl) ?_
     refine ad <| aa <| ab <| ab <| aV [40] (.n 43 (.b true) (.k (.s (.k .z)))) qe (by kernel_rfl) ?_
     refine aa <| bf true (by kernel_rfl) (fun _ => ?_) (fun h => by cases h)
     refine ab <| aV [] (.n 6 (sl none 0 0) (.n 7 (I 272) .z)) qe (by kernel_rfl) ?_
     refine aa <| aG (aZ ?_)
     have dx := cG.nil eS
     obtain rfl := Option.some.inj hm
     refine aH [sl none 0 0, I 272] qe (by kernel_rfl) ?_
     have dV := (((dx.pk .h).pk (.t (.t .h))).pk (.t (.t .h))).pk (.t (.t (.t .h)))
     exact ⟨none, 0, 0, dV.len 0 rfl, rfl, dV⟩
   · simp only [Km, Option.elim_some] at hm
     refine aQ 5 [] (.n 10 (.v (.map (some b1))) (.n 11 (.b true) (.ib .a))) qe (by kernel_rfl) ?_
     refine ad <| aa <| ab <| ab <| aV [40] (.n 43 (.b true) (.k (.s (.k .z)))) qe (by kernel_rfl) ?_
     refine aa <| bf true (by kernel_rfl) (fun _ => ?_) (fun h => by cases h)
     refine ab <| aV [] (.n 6 (sl none 0 0) (.n 7 (I 272) .z)) qe (by kernel_rfl) ?_
     refine aa <| aG (aZ ?_)
     have ed := dm.nil eS
     obtain rfl := Option.some.inj hm
     refine aH [sl none 0 0, I 272] qe (by kernel_rfl) ?_
     have eo := ((((ed.pk (.t .h)).pk (.t (.t (.t .h)))).pk (.t (.t (.t .h)))).pk (.t (.t (.t (.t .h))))).ba (.bb .z)
     exact ⟨none, 0, 0, eo.len 0 rfl, rfl, eo⟩
 · simp only [Fc, Option.elim_some] at hm
   refine aQ 5 [] (.n 8 (.v (.map (some b))) (.n 9 (.b true) (.ib .a))) qe (by kernel_rfl) ?_
   refine ad <| aa <| ab <| aj <| aQ 5 [] (.n 33 (.v (.map (some aw))) (.n 34 (.s to) (.kk .z))) (qs fg 0 <| qs fg 0 <| qB cD 2 rfl 2 (.v (.map (some aw))) (by kernel_rfl) <| qe) (by kernel_rfl) ?_
   refine ae ?_
   have eU := (((cD.pk (.t (.t (.t .h)))).pk (.t (.t (.t .h)))).pk (.t (.t .h))).pk (.t (.t (.t .h)))
   refine oE (kt := 9) (e := 56) (v := (vS (eP eI eS) (bL bJ bK))) (m := al) (key := to) [] 35 (by kernel_rfl) (by kernel_rfl) eU.acc (fun Ko => ?_) (fun b2 dy Jn bH => ?_)
   · simp only [Ko, Option.elim_none] at hm
     refine aQ 5 [] (.n 10 (.v (.map none)) (.n 11 (.b false) (.ib .a))) qe (by kernel_rfl) ?_
     refine ad <| aa <| ab <| ab <| aV [40] (.n 43 (.b true) (.k (.s (.k .z)))) qe (by kernel_rfl) ?_
     refine aa <| bf true (by kernel_rfl) (fun _ => ?_) (fun h => by cases h)
     refine ab <| aV [] (.n 6 (sl none 0 0) (.n 7 (I 272) .z)) qe (by kernel_rfl) ?_
     refine aa <| aG (aZ ?_)
     have bD := eU.nil eS
     obtain rfl := Option.some.inj hm
     refine aH [sl none 0 0, I 272] qe (by kernel_rfl) ?_
     have cS := ((((bD.pk .h).pk (.t (.t (.t .h)))).pk (.t (.t (.t .h)))).pk (.t (.t (.t (.t .h))))).ba (.bb .z)
     exact ⟨none, 0, 0, cS.len 0 rfl, rfl, cS⟩
   · simp only [Jn, Option.elim_some] at hm
     refine aQ 5 [] (.n 10 (.v (.map (some b2))) (.n 11 (.b true) (.ib .a))) qe (by kernel_rfl) ?_
     refine ad <| aa <| ab <| ab <| aV [40] (.n 43 (.b false) (.k (.s (.k .z)))) qe (by kernel_rfl) ?_
     refine aa <| bf false (by kernel_rfl) (fun h => by cases h) (fun _ => ?_)
     refine aL <| aa <| ab <| aj <| ae <| mq [] 44 (by kernel_rfl) bH ?_
     intro b3 jh dk
     have dD := dk.qP (v := vI)
     refine aQ 1 [] (.n 12 (.v (.map (some b3))) (.ss .a)) qe (by kernel_rfl) ?_
     refine ad <| aa <| ab <| ab <| aj <| aQ 1 [] (.n 45 (.v (.map (some b))) .a) qe (by kernel_rfl) ?_
     refine ae ?_
     have et := dD.ba (.bb (.kk .e))
     refine qQ (kt := 9) (e := 62) (v := (vS (eP eI eS) (bL bJ bK))) (m := aE) [] 46 3 (by kernel_rfl) et rfl ?_
     intro fu kI eC
     refine ad <| aa <| aI ?_
     obtain ⟨s_, C3, hm⟩ := ob hm
     have eW := eC.gL 4 rfl
     have fN := eW.gL 3 rfl
     have iW := (((((((fN.pk (.t (.t .h))).pk (.t (.t (.t (.t (.t .h)))))).pk (.t (.t (.t (.t (.t (.t (.t (.t .h))))))))).pk (.t (.t (.t (.t (.t (.t (.t (.t .h))))))))).pk (.t (.t (.t (.t (.t (.t .h))))))).pk (.t (.t (.t (.t (.t .h)))))).pk (.t (.t (.t (.t (.t (.t .h))))))).ba (.bb (.kk (.k .z)))
     refine vJ (fun xV L wr => ∃ (m_ : Mp Int) (left : Mp (Int × List UInt8)) (cur : Option (Ky × (Int × List UInt8))), left.length = xV ∧ dG (cb) m_ left = some s_ ∧ L = [(8, .v (.map (some b))), (10, .v (.map (some b2))), (12, .v (.map (some b3))), (46, .v (.pointer (some ⟨fu, 0, none⟩)))] ∧ Cx F O w wr [Sh (RM (vS (eP eI eS) (bL bJ bK))) [b] [aE], Sh (RM (vS (eP eI eS) (bL bJ bK))) [b2] [dy], MS vI b3 m_, Bx 50 fg [I r_, .v (.map (some aq)), .v (.map (some aw))], MS (vH e8) aq af, MS (vM (vS (eP eI eS) (bL bJ bK))) aw al, MV (vS (eP eI eS) (bL bJ bK)) true b fu aE left cur]) aE.length ⟨([] : Mp Int), aE, none, rfl, C3, rfl, iW⟩ (by kernel_rfl) ?_
     rintro kn L_ mb ⟨m_, left, cur, rfl, H0, rfl, fH⟩
     refine ab <| aj <| ae ?_
     have gA := ((((((fH.pk (.t (.t (.t (.t (.t .h)))))).pk (.t (.t (.t (.t (.t .h)))))).pk (.t (.t (.t (.t (.t .h)))))).pk (.t (.t (.t (.t (.t .h)))))).pk (.t (.t (.t (.t (.t .h)))))).pk (.t (.t (.t (.t (.t .h)))))).pk (.t (.t (.t (.t (.t (.t .h))))))
     refine jj [] 47 (by kernel_rfl) gA (fun hl iA => ?_) (fun key av kB v mc hp tW jL => ?_)
     ·
       have hy := kY hl H0
       obtain rfl := hy.symm
       have iv := iA.tl
       refine aQ 1 [] (.n 48 (.b false) (.s (.nJ .z))) qe (by kernel_rfl) ?_
       refine ad <| aa <| ab <| bf false (by kernel_rfl) (fun h => by cases h) (fun _ => ?_)
       refine cA (bu (bu (dZ ?_)))
       refine aa <| ab <| ab <| aj <| aQ 1 [] (.n 53 (.v (.map (some b2))) (.s .a)) qe (by kernel_rfl) ?_
       refine ae <| qQ (kt := 9) (e := 62) (v := (vS (eP eI eS) (bL bJ bK))) (m := dy) [] 54 1 (by kernel_rfl) iv rfl ?_
       intro dj oH iX
       refine ad <| aa <| aI ?_
       obtain ⟨ma, C5, hm⟩ := ob hm
       have jM := iX.gL 1 rfl
       have lM := jM.gL 3 rfl
       have je := (((((((lM.pk (.t (.t .h))).pk (.t (.t (.t (.t (.t (.t (.t (.t .h))))))))).pk (.t (.t (.t (.t (.t (.t (.t (.t .h))))))))).pk (.t (.t (.t (.t (.t (.t (.t (.t .h))))))))).pk (.t (.t (.t (.t (.t (.t (.t (.t .h))))))))).pk (.t (.t (.t (.t (.t .h)))))).pk (.t (.t (.t (.t (.t (.t .h))))))).ba (.bb (.kk (.k .z)))
       refine vJ (fun xV L wr => ∃ (nq : Mp Int) (qu : Mp (Int × List UInt8)) (C6 : Option (Ky × (Int × List UInt8))), qu.length = xV ∧ dG (ca) nq qu = some ma ∧ L = [(8, .v (.map (some b))), (10, .v (.map (some b2))), (12, .v (.map (some b3))), (54, .v (.pointer (some ⟨dj, 0, none⟩)))] ∧ Cx F O w wr [Sh (RM (vS (eP eI eS) (bL bJ bK))) [b] [aE], Sh (RM (vS (eP eI eS) (bL bJ bK))) [b2] [dy], MS vI b3 nq, Bx 50 fg [I r_, .v (.map (some aq)), .v (.map (some aw))], MS (vH e8) aq af, MS (vM (vS (eP eI eS) (bL bJ bK))) aw al, MV (vS (eP eI eS) (bL bJ bK)) true b2 dj dy qu C6]) dy.length ⟨s_, dy, none, rfl, C5, rfl, je⟩ (by kernel_rfl) ?_
       rintro Ra L_ qD ⟨nq, qu, C6, rfl, Jo, rfl, l8⟩
       refine ab <| aj <| ae ?_
       have lE := ((((((l8.pk (.t (.t (.t (.t (.t .h)))))).pk (.t (.t (.t (.t (.t .h)))))).pk (.t (.t (.t (.t (.t .h)))))).pk (.t (.t (.t (.t (.t .h)))))).pk (.t (.t (.t (.t (.t .h)))))).pk (.t (.t (.t (.t (.t .h)))))).pk (.t (.t (.t (.t (.t (.t .h))))))
       refine jj [] 55 (by kernel_rfl) lE (fun yu pI => ?_) (fun oa dQ uQ v1 rL xy H6 xS => ?_)
       ·
         have Jl := kY yu Jo
         obtain rfl := Jl.symm
         have lN := pI.tl
         refine aQ 1 [] (.n 56 (.b false) (.s (.nJ .z))) qe (by kernel_rfl) ?_
         refine ad <| aa <| ab <| bf false (by kernel_rfl) (fun h => by cases h) (fun _ => ?_)
         refine cA (bu (bu (dZ ?_)))
         refine aa <| ab <| aV [] (.n 15 (sl none 0 0) (.s .a)) qe (by kernel_rfl) ?_
         refine aa <| ab <| ab <| aj <| aQ 1 [] (.n 63 (.v (.map (some b3))) .a) qe (by kernel_rfl) ?_
         refine ae ?_
         obtain ⟨gH, qj, hm⟩ := ob hm
         obtain ⟨y9, za, oq, HS, wK, HT, xx⟩ := lN.go (.r (.r (.i (.r (.r (.r .e))))))
         refine ax [] 64 _ ED (by kernel_rfl) (rq (F := y9) (O := za) _ _ oq _ qj) ?_
         rintro e_ uL ⟨A0, _, c0, rfl, rfl, tw⟩
         have r4 := xx uL _ _ tw (.c (.c .n))
         refine ⟨sl A0 gH.length c0, rfl, ?_⟩
         refine aQ 2 [] (.n 65 (I ((gH.length : Nat) : Int)) (.n 66 (I 0) (.k (.s .a)))) qe (by kernel_rfl) ?_
         refine ad <| aa <| aI ?_
         have zb := r4.gL 2 rfl
         have xT := zb.gL 4 rfl
         have qq := xT.nil eS
         have xU := ((((((((qq.pk (.t (.t (.t (.t (.t (.t (.t (.t .h))))))))).pk (.t (.t (.t (.t (.t (.t (.t (.t .h))))))))).pk (.t (.t (.t (.t (.t (.t (.t (.t .h))))))))).pk (.t (.t (.t (.t (.t .h)))))).pk (.t (.t (.t (.t (.t (.t (.t (.t (.t .h)))))))))).pk (.t (.t (.t (.t (.t (.t (.t .h)))))))).pk (.t (.t (.t (.t (.t (.t .h))))))).pk (.t (.t (.t (.t (.t (.t (.t .h)))))))).ba (.bb (.bb .z))
         refine jQ (du r_ aE dy ma gH) (fun s L wr => ∃ (l : List (List UInt8)) (cY : Int) (A1 : Option Addr) (n0 : Nat) (c1 : Nat), (l, cY) = s ∧ L = [(8, .v (.map (some b))), (10, .v (.map (some b2))), (12, .v (.map (some b3))), (15, sl A1 n0 c1), (64, sl A0 gH.length c0), (65, I ((gH.length : Nat) : Int)), (66, I cY)] ∧ l.length = n0 ∧ Cx F O w wr [Sh (RM (vS (eP eI eS) (bL bJ bK))) [b] [aE], Sh (RM (vS (eP eI eS) (bL bJ bK))) [b2] [dy], MS vI b3 ma, Ow eS A1 n0 c1 l, Ow eS A0 gH.length c0 gH, Bx 50 fg [I r_, .v (.map (some aq)), .v (.map (some aw))], MS (vH e8) aq af, MS (vM (vS (eP eI eS) (bL bJ bK))) aw al]) (([] : List (List UInt8)), (0 : Int)) r hm ⟨([] : List (List UInt8)), (0 : Int), none, 0, 0, rfl, rfl, xU.len 3 rfl, xU⟩ (by kernel_rfl) ?_
         intro rW L_ xI y0 ef bj jH
         obtain ⟨l, cY, A1, _, c1, rfl, rfl, rfl, tx⟩ := ef
         have hm := bj; simp only [du] at hm
         clear bj
         refine ab <| aV [] (.n 67 (.b (decide (cY < ((gH.length : Nat) : Int)))) .a) qe (by kernel_rfl) ?_
         refine aa <| ab <| aN (cY < ((gH.length : Nat) : Int)) (by kernel_rfl) (fun hc => ?_) (fun hc => ?_)
         · rw [if_pos hc] at hm
           refine aL <| aa <| k7 (fun L wr => ∃ (l1 : List (List UInt8)) (A2 : Option Addr) (n1 : Nat) (c2 : Nat), b_ cY l1 = some y0 ∧ L = [(8, .v (.map (some b))), (10, .v (.map (some b2))), (12, .v (.map (some b3))), (15, sl A2 n1 c2), (64, sl A0 gH.length c0), (65, I ((gH.length : Nat) : Int)), (66, I cY)] ∧ l1.length = n1 ∧ Cx F O w wr [Sh (RM (vS (eP eI eS) (bL bJ bK))) [b] [aE], Sh (RM (vS (eP eI eS) (bL bJ bK))) [b2] [dy], MS vI b3 ma, Ow eS A2 n1 c2 l1, Ow eS A0 gH.length c0 gH, Bx 50 fg [I r_, .v (.map (some aq)), .v (.map (some aw))], MS (vH e8) aq af, MS (vM (vS (eP eI eS) (bL bJ bK))) aw al]) ?_ ?_
           ·
            refine aI <| ab ?_
            obtain ⟨cC, jE, hm⟩ := ob hm
            refine aV [] (.n 17 (.s cC) (.s .a)) (qW (tx.rd 4 rfl) jE (tx.len 4 rfl) (.s cC) rfl <| qe) (by kernel_rfl) ?_
            refine aa <| aI <| ab <| aj <| aQ 2 [] (.n 71 (.v (.map (some b3))) (.n 72 (.s cC) .a)) qe (by kernel_rfl) ?_
            refine ae ?_
            have ng := (((((((tx.pk (.t (.t (.t (.t (.t (.t (.t .h)))))))).pk (.t (.t (.t (.t (.t (.t (.t .h)))))))).pk (.t (.t (.t (.t (.t (.t (.t .h)))))))).pk (.t (.t (.t (.t (.t (.t (.t .h)))))))).pk (.t (.t (.t (.t (.t (.t (.t .h)))))))).pk (.t (.t (.t (.t (.t (.t .h))))))).pk (.t (.t (.t (.t (.t (.t .h))))))).pk (.t (.t (.t (.t (.t (.t (.t .h)))))))
            refine mu (kt := 9) (e := 3) (v := vI) (m := ma) (key := cC) rfl [] 73 (0 : Int) (I ((aO ma cC).getD (0 : Int))) (by kernel_rfl) (by kernel_rfl) ng.acc rfl ?_
            refine aQ 2 [] (.n 70 (.b (decide (((aO ma cC).getD (0 : Int)) = 1))) (.ib .a)) qe (by kernel_rfl) ?_
            refine ad <| aa <| aN (((aO ma cC).getD (0 : Int)) = 1) (by kernel_rfl) (fun fZ => ?_) (fun fZ => ?_)
            · rw [if_pos fZ] at hm
              refine aj ?_
              obtain ⟨u, pK, hm⟩ := ob hm
              refine aQ 3 [] (.n 75 (sl A1 l.length c1) (.n 77 (.s (([45] : List UInt8) ++ cC)) (.ss .a))) (qp (([45] : List UInt8).length + cC.length ≤ 9223372036854775807) (ck pK) <| qe) (by kernel_rfl) ?_
              refine ae <| lQ iP eS [] 78 ([([45] : List UInt8) ++ cC] : List (List UInt8)) [(0, .s (([45] : List UInt8) ++ cC))] [.s (([45] : List UInt8) ++ cC)] (by kernel_rfl) (by kernel_rfl) (by kernel_rfl) ng ?_
              intro A3 rk rn
              refine ae ?_
              obtain ⟨l2, HC, hm⟩ := ob hm
              obtain ⟨hz, sG⟩ := fh HC
              refine dq (E := eS) (v := sl A3 1 1) (ys := ([([45] : List UInt8) ++ cC] : List (List UInt8))) iP [] 79 3 (by kernel_rfl) rn rfl (Src.sl (rn.rd 8 rfl) (rn.len 8 rfl) (by rfl)) (rn.len 8 rfl) (by have := rn.len 3 rfl; have := (rn.len 8 rfl); omega) ?_
              intro A4 c3 uc wO
              rw [← sG] at wO
              have zc := wO.ba (.bb (.bb .z))
              refine aQ 1 [] (.n 15 (sl A4 (l.length + 1) c3) (.fi (.nJ (.s .a)))) qe (by kernel_rfl) ?_
              refine ad <| cu <| cu ?_
              have AR := zc.gL 1 rfl
              have CW := AR.gL 3 rfl
              have AS := ((((((((CW.pk (.t (.t (.t (.t (.t (.t (.t (.t (.t .h)))))))))).pk (.t (.t (.t (.t (.t (.t (.t (.t (.t .h)))))))))).pk (.t (.t (.t (.t (.t (.t (.t (.t (.t .h)))))))))).pk (.t (.t (.t (.t (.t (.t (.t (.t (.t .h)))))))))).pk (.t (.t (.t (.t (.t (.t (.t (.t (.t .h)))))))))).pk (.t (.t (.t (.t (.t (.t (.t .h)))))))).pk (.t (.t (.t (.t (.t (.t .h))))))).pk (.t (.t (.t (.t (.t (.t (.t .h)))))))).ba (.bb (.bb .z))
              exact gK ⟨l2, A4, l.length + 1, c3, hm, rfl, AS.len 3 rfl, AS⟩ (by kernel_rfl)
            rw [if_neg fZ] at hm
            refine ab <| aj <| aQ 2 [] (.n 81 (.v (.map (some b3))) (.n 82 (.s cC) (.s .a))) qe (by kernel_rfl) ?_
            refine ae <| mu (kt := 9) (e := 3) (v := vI) (m := ma) (key := cC) rfl [] 83 (0 : Int) (I ((aO ma cC).getD (0 : Int))) (by kernel_rfl) (by kernel_rfl) ng.acc rfl ?_
            refine aQ 2 [] (.n 80 (.b (decide (((aO ma cC).getD (0 : Int)) = 2))) (.ib .a)) qe (by kernel_rfl) ?_
            refine ad <| aa <| aN (((aO ma cC).getD (0 : Int)) = 2) (by kernel_rfl) (fun jJ => ?_) (fun jJ => ?_)
            · rw [if_pos jJ] at hm
              refine aj ?_
              obtain ⟨u1, NH, hm⟩ := ob hm
              refine aQ 3 [] (.n 85 (sl A1 l.length c1) (.n 87 (.s (([43] : List UInt8) ++ cC)) (.ss .a))) (qp (([43] : List UInt8).length + cC.length ≤ 9223372036854775807) (ck NH) <| qe) (by kernel_rfl) ?_
              refine ae <| lQ iP eS [] 88 ([([43] : List UInt8) ++ cC] : List (List UInt8)) [(0, .s (([43] : List UInt8) ++ cC))] [.s (([43] : List UInt8) ++ cC)] (by kernel_rfl) (by kernel_rfl) (by kernel_rfl) ng ?_
              intro A5 wg r5
              refine ae ?_
              obtain ⟨l3, NI, hm⟩ := ob hm
              obtain ⟨DI, MR⟩ := fh NI
              refine dq (E := eS) (v := sl A5 1 1) (ys := ([([43] : List UInt8) ++ cC] : List (List UInt8))) iP [] 89 3 (by kernel_rfl) r5 rfl (Src.sl (r5.rd 8 rfl) (r5.len 8 rfl) (by rfl)) (r5.len 8 rfl) (by have := r5.len 3 rfl; have := (r5.len 8 rfl); omega) ?_
              intro A6 c4 yZ zd
              rw [← MR] at zd
              have ui := zd.ba (.bb (.bb .z))
              refine aQ 1 [] (.n 15 (sl A6 (l.length + 1) c4) (.fi (.nJ (.s .a)))) qe (by kernel_rfl) ?_
              refine ad <| cu <| cu ?_
              have CX := ui.gL 1 rfl
              have CY := CX.gL 3 rfl
              have AT := ((((((((CY.pk (.t (.t (.t (.t (.t (.t (.t (.t (.t .h)))))))))).pk (.t (.t (.t (.t (.t (.t (.t (.t (.t .h)))))))))).pk (.t (.t (.t (.t (.t (.t (.t (.t (.t .h)))))))))).pk (.t (.t (.t (.t (.t (.t (.t (.t (.t .h)))))))))).pk (.t (.t (.t (.t (.t (.t (.t (.t (.t .h)))))))))).pk (.t (.t (.t (.t (.t (.t (.t .h)))))))).pk (.t (.t (.t (.t (.t (.t .h))))))).pk (.t (.t (.t (.t (.t (.t (.t .h)))))))).ba (.bb (.bb .z))
              exact gK ⟨l3, A6, l.length + 1, c4, hm, rfl, AT.len 3 rfl, AT⟩ (by kernel_rfl)
            rw [if_neg jJ] at hm
            refine ab <| aj <| aQ 2 [] (.n 91 (.v (.map (some b))) (.n 92 (.s cC) (.s .a))) qe (by kernel_rfl) ?_
            refine ae ?_
            obtain ⟨e_, NJ, hm⟩ := nm hm
            refine mu (kt := 9) (e := 62) (v := (vS (eP eI eS) (bL bJ bK))) (m := aE) (key := cC) rfl [] 93 ((0 : Int), ([] : List UInt8)) (.agg [I e_.1, .s e_.2]) (by kernel_rfl) (by kernel_rfl) (ng.Hp 1 rfl) (by rw [NJ]; rfl) ?_
            refine aQ 3 [] (.n 94 (.s e_.2) (.n 95 (.v (.map (some b2))) (.n 96 (.s cC) (.ib .a)))) qe (by kernel_rfl) ?_
            refine ae ?_
            obtain ⟨yt, Kx, hm⟩ := nm hm
            refine mu (kt := 9) (e := 62) (v := (vS (eP eI eS) (bL bJ bK))) (m := dy) (key := cC) rfl [] 97 ((0 : Int), ([] : List UInt8)) (.agg [I yt.1, .s yt.2]) (by kernel_rfl) (by kernel_rfl) (ng.Hp 2 rfl) (by rw [Kx]; rfl) ?_
            refine aQ 3 [] (.n 90 (.b (decide (e_.2 ≠ yt.2))) (.fi .a)) qe (by kernel_rfl) ?_
            refine ad <| aa <| aN (e_.2 ≠ yt.2) (by kernel_rfl) (fun rX => ?_) (fun rX => ?_)
            · rw [if_pos rX] at hm
              refine aj ?_
              obtain ⟨u2, NK, hm⟩ := ob hm
              refine aQ 3 [] (.n 100 (sl A1 l.length c1) (.n 102 (.s (([61] : List UInt8) ++ cC)) (.ss .a))) (qp (([61] : List UInt8).length + cC.length ≤ 9223372036854775807) (ck NK) <| qe) (by kernel_rfl) ?_
              refine ae ?_
              have AU := ng.ba (.bb (.bb .e))
              refine lQ iP eS [] 103 ([([61] : List UInt8) ++ cC] : List (List UInt8)) [(0, .s (([61] : List UInt8) ++ cC))] [.s (([61] : List UInt8) ++ cC)] (by kernel_rfl) (by kernel_rfl) (by kernel_rfl) AU ?_
              intro A7 CL uj
              refine ae ?_
              obtain ⟨l4, NL, hm⟩ := ob hm
              obtain ⟨GH, Rg⟩ := fh NL
              refine dq (E := eS) (v := sl A7 1 1) (ys := ([([61] : List UInt8) ++ cC] : List (List UInt8))) iP [] 104 3 (by kernel_rfl) uj rfl (Src.sl (uj.rd 8 rfl) (uj.len 8 rfl) (by rfl)) (uj.len 8 rfl) (by have := uj.len 3 rfl; have := (uj.len 8 rfl); omega) ?_
              intro A8 c5 CM AV
              rw [← Rg] at AV
              have CZ := AV.ba (.bb (.bb .z))
              refine aQ 1 [] (.n 15 (sl A8 (l.length + 1) c5) (.fi (.nJ (.s .a)))) qe (by kernel_rfl) ?_
              refine ad <| cu <| cu ?_
              have AW := CZ.gL 1 rfl
              have wP := AW.gL 3 rfl
              have AX := ((((((((wP.pk (.t (.t (.t (.t (.t (.t (.t (.t (.t .h)))))))))).pk (.t (.t (.t (.t (.t (.t (.t (.t (.t .h)))))))))).pk (.t (.t (.t (.t (.t (.t (.t (.t (.t .h)))))))))).pk (.t (.t (.t (.t (.t (.t (.t (.t (.t .h)))))))))).pk (.t (.t (.t (.t (.t (.t (.t (.t (.t .h)))))))))).pk (.t (.t (.t (.t (.t (.t (.t .h)))))))).pk (.t (.t (.t (.t (.t (.t .h))))))).pk (.t (.t (.t (.t (.t (.t (.t .h)))))))).ba (.bb (.bb .z))
              exact gK ⟨l4, A8, l.length + 1, c5, hm, rfl, AX.len 3 rfl, AX⟩ (by kernel_rfl)
            rw [if_neg rX] at hm
            refine aL <| cu <| cu ?_
            have ze := ng.gL 1 rfl
            have C0 := ze.gL 3 rfl
            have zf := ((((((((C0.pk (.t (.t (.t (.t (.t (.t (.t (.t (.t .h)))))))))).pk (.t (.t (.t (.t (.t (.t (.t (.t (.t .h)))))))))).pk (.t (.t (.t (.t (.t (.t (.t (.t (.t .h)))))))))).pk (.t (.t (.t (.t (.t (.t (.t (.t (.t .h)))))))))).pk (.t (.t (.t (.t (.t (.t (.t (.t (.t .h)))))))))).pk (.t (.t (.t (.t (.t (.t (.t .h)))))))).pk (.t (.t (.t (.t (.t (.t .h))))))).pk (.t (.t (.t (.t (.t (.t (.t .h)))))))).ba (.bb (.bb .z))
            exact gK ⟨l, A1, l.length, c1, hm, rfl, zf.len 3 rfl, zf⟩ (by kernel_rfl)
           rintro L_ Kl ⟨l1, A2, _, c2, hm, rfl, rfl, C1⟩
           simp only [b_] at hm
           refine aV [] (.n 66 (I (aA (cY + 1))) (.bb (.kk .z))) qe (by kernel_rfl) ?_
           have C2 := C1.gL 0 rfl
           have AY := C2.gL 2 rfl
           have AZ := ((((((((AY.pk (.t (.t (.t (.t (.t (.t (.t (.t (.t .h)))))))))).pk (.t (.t (.t (.t (.t (.t (.t (.t (.t .h)))))))))).pk (.t (.t (.t (.t (.t (.t (.t (.t (.t .h)))))))))).pk (.t (.t (.t (.t (.t (.t (.t (.t (.t .h)))))))))).pk (.t (.t (.t (.t (.t (.t (.t (.t (.t .h)))))))))).pk (.t (.t (.t (.t (.t (.t (.t (.t (.t .h)))))))))).pk (.t (.t (.t (.t (.t (.t .h))))))).pk (.t (.t (.t (.t (.t (.t (.t .h)))))))).ba (.bb (.bb .z))
           exact fO (l1, aA (cY + 1)) (Option.some.inj hm).symm ⟨l1, aA (cY + 1), A2, l1.length, c2, rfl, rfl, AZ.len 3 rfl, AZ⟩ (by kernel_rfl)
         rw [if_neg hc] at hm
         refine cA (bu (bu (dZ ?_)))
         have hm := bT hm jH
         refine aa <| ab <| aV [] (.n 6 (sl A1 l.length c1) (.n 7 (I 0) .z)) qe (by kernel_rfl) ?_
         refine aa <| aG ?_
         obtain rfl := Option.some.inj hm
         refine aH [sl A1 l.length c1, I 0] qe (by kernel_rfl) ?_
         have A_ := tx.ba (.ss (.s (.k (.s (.kk (.k .e))))))
         exact ⟨A1, l.length, c1, A_.len 0 rfl, rfl, A_⟩
       ·
         obtain ⟨sn, hm, Rh⟩ := jR (l7) xy H6 Jo
         simp only [ca] at hm
         refine aQ 1 [] (.n 56 (.b true) (.s .a)) qe (by kernel_rfl) ?_
         refine ad <| aa <| ab <| bf true (by kernel_rfl) (fun _ => ?_) (fun h => by cases h)
         refine aL <| aa <| aI <| ab <| aj <| ae <| oD (v := (vS (eP eI eS) (bL bJ bK))) rfl [] 57 (.agg [I dQ.1, .s dQ.2]) (by kernel_rfl) xS rfl ?_
         refine aQ 2 [] (.n 14 (.s oa) (.ss .a)) qe (by kernel_rfl) ?_
         refine ad <| aa <| aj <| aQ 2 [] (.n 59 (.v (.map (some b3))) (.n 60 (.s oa) (.s .a))) qe (by kernel_rfl) ?_
         refine ae ?_
         have Ba := ((((((xS.pk (.t (.t (.t (.t (.t (.t .h))))))).pk (.t (.t (.t (.t (.t (.t .h))))))).pk (.t (.t (.t (.t (.t (.t .h))))))).pk (.t (.t (.t (.t (.t .h)))))).pk (.t (.t (.t (.t (.t .h)))))).pk (.t (.t (.t (.t (.t .h)))))).pk (.t (.t (.t (.t (.t (.t .h))))))
         refine mu (kt := 9) (e := 3) (v := vI) (m := nq) (key := oa) rfl [] 61 (0 : Int) (I ((aO nq oa).getD (0 : Int))) (by kernel_rfl) (by kernel_rfl) Ba.acc rfl ?_
         refine aQ 1 [] (.n 62 (I (aA (((aO nq oa).getD (0 : Int)) + 2))) (.s .a)) qe (by kernel_rfl) ?_
         refine ae <| se (kt := 9) (e := 3) (v := vI) (key := oa) rfl [] (aA (((aO nq oa).getD (0 : Int)) + 2)) (by kernel_rfl) Ba ?_
         intro HV HW
         refine ad <| cu ?_
         have HX := HW.gL 2 rfl
         have HY := HX.gL 4 rfl
         have HZ := (((((((HY.pk (.t (.t (.t .h)))).pk (.t (.t (.t (.t (.t (.t (.t (.t .h))))))))).pk (.t (.t (.t (.t (.t (.t (.t (.t .h))))))))).pk (.t (.t (.t (.t (.t (.t (.t (.t .h))))))))).pk (.t (.t (.t (.t (.t (.t .h))))))).pk (.t (.t (.t (.t (.t .h)))))).pk (.t (.t (.t (.t (.t (.t .h))))))).ba (.bb (.kk (.k .z)))
         obtain rfl := Option.some.inj hm
         exact p6 uQ.length (by have h_ := xy.length_eq; simp only [List.length_cons] at h_; omega) ⟨bq nq oa (aA (((aO nq oa).getD (0 : Int)) + 2)), uQ, (some (oa, dQ)), rfl, Rh, rfl, HZ⟩ (by kernel_rfl)
     ·
       obtain ⟨Re, hm, Ri⟩ := jR (l6) hp tW H0
       simp only [cb] at hm
       refine aQ 1 [] (.n 48 (.b true) (.s .a)) qe (by kernel_rfl) ?_
       refine ad <| aa <| ab <| bf true (by kernel_rfl) (fun _ => ?_) (fun h => by cases h)
       refine aL <| aa <| aI <| ab <| aj <| ae <| oD (v := (vS (eP eI eS) (bL bJ bK))) rfl [] 49 (.agg [I av.1, .s av.2]) (by kernel_rfl) jL rfl ?_
       refine aQ 2 [] (.n 13 (.s key) (.ss .a)) qe (by kernel_rfl) ?_
       refine ad <| aa <| aj <| aQ 2 [] (.n 51 (.v (.map (some b3))) (.n 52 (.s key) (.s .a))) qe (by kernel_rfl) ?_
       refine ae ?_
       have H2 := ((((((jL.pk (.t (.t (.t (.t (.t (.t .h))))))).pk (.t (.t (.t (.t (.t (.t .h))))))).pk (.t (.t (.t (.t (.t (.t .h))))))).pk (.t (.t (.t (.t (.t .h)))))).pk (.t (.t (.t (.t (.t .h)))))).pk (.t (.t (.t (.t (.t .h)))))).pk (.t (.t (.t (.t (.t (.t .h))))))
       refine se (kt := 9) (e := 3) (v := vI) (key := key) rfl [] (1 : Int) (by kernel_rfl) H2 ?_
       intro Kp H3
       refine ad <| cu ?_
       have H4 := H3.gL 2 rfl
       have H5 := H4.gL 4 rfl
       have Fe := (((((((H5.pk (.t (.t (.t .h)))).pk (.t (.t (.t (.t (.t (.t (.t (.t .h))))))))).pk (.t (.t (.t (.t (.t (.t (.t (.t .h))))))))).pk (.t (.t (.t (.t (.t (.t (.t (.t .h))))))))).pk (.t (.t (.t (.t (.t (.t .h))))))).pk (.t (.t (.t (.t (.t .h)))))).pk (.t (.t (.t (.t (.t (.t .h))))))).ba (.bb (.kk (.k .z)))
       obtain rfl := Option.some.inj hm
       exact p6 kB.length (by have h_ := hp.length_eq; simp only [List.length_cons] at h_; omega) ⟨bq m_ key (1 : Int), kB, (some (key, av)), rfl, Ri, rfl, Fe⟩ (by kernel_rfl)
theorem r8 {F O : Nat → Prop} {w : World} (size : UInt8) (l : List (List UInt8 × List UInt8)) (AQ : Option Addr) (HE : Nat) (DN : Nat) (CI : List (List UInt8 × Hd)) (CJ : yP F O w (eP eS eH) (SP SQ (SH e8)) AQ CI l) (HF : l.length = HE) (Kh : HE ≤ DN) (k : Cx F O w w []) (r : Bool) (hm : iO size l = some r) :
    Calls Try.prog 3 (ak [.u8 size, sl AQ HE DN]) w (fun e w' => e = .returned (SV.val (.b r)) ∧ Cx F O w w' []) := by
 unfold iO at hm
 have Lz : xq F w (eP eS eH) (RP RQ (RH F w e8)) AQ CI l := CJ.MA k.off (fun R_ y_ x_ HG q_ => ⟨(And.left q_), (SH.rh (And.right q_) HG)⟩)
 subst HF
 refine calls [.u8 size, sl AQ l.length DN] Try.func3 rfl (of_decide_eq_true (by kernel_rfl)) ?_
 refine ab <| aV [] .a qe (by kernel_rfl) ?_
 refine aa <| ab <| ab <| aj <| ae ?_
 obtain ⟨r_, cc, hm⟩ := ob hm
 refine ax [] 13 _ Hy (by kernel_rfl) (xF (F := N0) (O := N0)  (Cx.refl _) _ cc) ?_
 rintro e_ w_ ⟨rfl, k_⟩
 have bN := k.call k_
 refine ⟨.b r_, rfl, ?_⟩
 refine aQ 1 [] (.n 14 (.b (!r_)) (.s .a)) qe (by kernel_rfl) ?_
 refine ad <| aa <| bf (!r_) (by kernel_rfl) (fun hc => ?_) (fun hc => ?_)
 · rw [if_pos hc] at hm
   refine ab <| aV [] (.n 4 (.b false) .z) qe (by kernel_rfl) ?_
   refine aa <| aG (aZ ?_)
   obtain rfl := Option.some.inj hm
   refine aH [.b false] qe (by kernel_rfl) ?_
   exact ⟨rfl, bN⟩
 rw [if_neg (by rw [hc]; decide)] at hm
 refine aL <| aa <| ab <| aj <| aQ 4 [] (.n 19 (I (aA (1 + ((size % 64).toNat : Int)))) (.ss .a)) (qp ((64 : UInt8) ≠ 0) (by show (64 : UInt8) ≠ 0; decide) <| qe) (by kernel_rfl) ?_
 refine ae ?_
 obtain ⟨aE, cB, hm⟩ := ob hm
 refine ax [] 20 _ Hz (by kernel_rfl) (xG (F := N0) (O := N0) _ (Cx.refl _) _ cB) ?_
 rcases aE with bz | dy
 · simp only [Sum.elim_inl, Sum.elim_inr] at hm
   rintro e_ jh ⟨rfl, cG⟩
   have cD := bN.call cG
   refine ⟨.dB [.v (.pointer none), I 1], rfl, ?_⟩
   refine aQ 5 [] (.n 5 (.v (.pointer none)) (.n 6 (I 1) (.ss .a))) qe (by kernel_rfl) ?_
   refine ad <| aa <| ab <| ab <| aV [25] (.n 28 (.b true) (.k (.s .a))) qe (by kernel_rfl) ?_
   refine aa <| bf true (by kernel_rfl) (fun _ => ?_) (fun h => by cases h)
   refine ab <| aV [] (.n 4 (.b false) .z) qe (by kernel_rfl) ?_
   refine aa <| aG (aZ ?_)
   obtain rfl := Option.some.inj hm
   refine aH [.b false] qe (by kernel_rfl) ?_
   exact ⟨rfl, cD⟩
 · simp only [Sum.elim_inl, Sum.elim_inr] at hm
   rintro e_ kI ⟨g, b, b1, rfl, dm⟩
   have dx := bN.call dm
   refine ⟨.dB [pt g 0, I 0], rfl, ?_⟩
   refine aQ 5 [] (.n 5 (pt g 0) (.n 6 (I 0) (.ss .a))) qe (by kernel_rfl) ?_
   refine ad <| aa <| ab <| ab <| aV [25] (.n 28 (.b (decide (0 ≠ 0))) (.k (.s .a))) qe (by kernel_rfl) ?_
   refine aa <| aN (0 ≠ 0) (by kernel_rfl) (fun fZ => ?_) (fun fZ => ?_)
   · rw [if_pos fZ] at hm
     refine ab <| aV [] (.n 4 (.b false) .z) qe (by kernel_rfl) ?_
     refine aa <| aG (aZ ?_)
     obtain rfl := Option.some.inj hm
     refine aH [.b false] qe (by kernel_rfl) ?_
     have dV := dx.ba .z
     exact ⟨rfl, dV⟩
   rw [if_neg fZ] at hm
   refine aL <| aa <| ab <| aj <| aQ 1 [] (.n 30 (sl AQ l.length DN) (.s (.k .z))) qe (by kernel_rfl) ?_
   refine ae ?_
   obtain ⟨fu, oh, hm⟩ := ob hm
   obtain ⟨F1, O1, oV, hO, xK, hF, hb⟩ := dx.go (.r (.r (.r .e)))
   refine ax [] 31 _ HA (by kernel_rfl) (xH (F := F1) (O := O1) _ _ _ _ _ (yP.tN CJ dx hF hO) rfl Kh oV _ oh) ?_
   rintro e_ mb ⟨A, _, c, ys, A1, _, c1, PH, rfl, rfl, rfl, ed⟩
   have eo := hb mb _ _ ed (.c (.c .n))
   refine ⟨.dB [sl A fu.1.length c, sl A1 fu.2.length c1], rfl, ?_⟩
   refine aQ 5 [] (.n 7 (sl A fu.1.length c) (.ss .a)) qe (by kernel_rfl) ?_
   refine ad <| aa <| ab <| ab <| aj <| aQ 2 [] (.n 34 (pt g 0) (.n 35 (sl A fu.1.length c) .a)) qe (by kernel_rfl) ?_
   refine ae ?_
   obtain ⟨dj, oo, hm⟩ := ob hm
   obtain ⟨y9, za, oq, HS, wK, HT, xx⟩ := eo.go (.r (.r (.i (.i (.i .e)))))
   refine ax [] 36 _ CE (by kernel_rfl) (lX (F := y9) (O := za) _ _ _ _ _ _ _ _ _ _ _ _ (xq.lR oq.off wK 0 rfl (fun R_ y_ x_ HG q_ => ⟨(And.left q_), (SH.rh (And.right q_) HG)⟩)) (eo.np 0 rfl) (eo.Gc 0 rfl) oq _ oo) ?_
   rintro e_ mc ⟨rfl, eU⟩
   have bH := xx mc _ _ eU (.c (.c (.c .n)))
   refine ⟨I dj.1, rfl, ?_⟩
   have bD := bH.ba (.bb .z)
   refine aQ 1 [] (.n 37 (.b (decide (dj.1 ≠ 0))) (.ib .a)) qe (by kernel_rfl) ?_
   refine ad <| aa <| aN (dj.1 ≠ 0) (by kernel_rfl) (fun jJ => ?_) (fun jJ => ?_)
   · rw [if_pos jJ] at hm
     refine ab <| aj <| aQ 1 [] (.n 38 (pt g 0) .z) qe (by kernel_rfl) ?_
     refine ae ?_
     have cS := bD.ba (.bb .e)
     obtain ⟨gH, qj, hm⟩ := ob hm
     obtain ⟨MZ, M0, HU, Q9, M1, Q_, GK⟩ := cS.go (.i (.i (.i (.r .e))))
     refine ax [] 39 _ HB (by kernel_rfl) (oX (F := MZ) (O := M0) _ _ _ _ _ _ HU _ qj) ?_
     rintro e_ oH ⟨A2, _, c2, rfl, rfl, dk⟩
     have dD := GK oH _ _ dk (.c (.c (.c (.c .n))))
     refine ⟨sl A2 gH.1.length c2, rfl, ?_⟩
     have et := dD.ba (.k .z)
     refine aQ 3 [] (.n 4 (.b (decide (((gH.1.length : Nat) : Int) = 0))) .z) qe (by kernel_rfl) ?_
     refine ad <| aa <| aG (aZ ?_)
     obtain rfl := Option.some.inj hm
     refine aH [.b (decide (((gH.1.length : Nat) : Int) = 0))] qe (by kernel_rfl) ?_
     have eC := et.ba .z
     exact ⟨rfl, eC⟩
   rw [if_neg jJ] at hm
   refine aL <| aa <| ab <| aj <| aQ 1 [] (.n 42 (pt g 0) (.s .a)) qe (by kernel_rfl) ?_
   refine ae ?_
   have eW := bD.ba (.bb .e)
   obtain ⟨ie, xO, hm⟩ := ob hm
   obtain ⟨Rj, Rk, NM, SR, Rm, SS, Rn⟩ := eW.go (.i (.i (.i (.r .e))))
   refine ax [] 43 _ CF (by kernel_rfl) (kM (F := Rj) (O := Rk) _ _ _ _ _ _ NM _ xO) ?_
   rintro e_ qD ⟨fb, Jp, Jq, zC, Ks, Ff, rfl, fN⟩
   have iW := Rn qD _ _ fN (.c (.c (.c .n)))
   refine ⟨.agg [I ie.1, I ie.2.1, I ie.2.2.1, .v (.float .f64 fb), .v (.float .f64 Jp), .v (.float .f64 Jq)], rfl, ?_⟩
   refine ae <| aU [] 9 [I 0, I 0, I 0, .v (.float .f64 0), .v (.float .f64 0), .v (.float .f64 0)] (by kernel_rfl) iW ?_
   intro g1 rL fH
   refine ae <| cE [] 4 (.agg [I ie.1, I ie.2.1, I ie.2.2.1, .v (.float .f64 fb), .v (.float .f64 Jp), .v (.float .f64 Jq)]) [I ie.1, I ie.2.1, I ie.2.2.1, .v (.float .f64 fb), .v (.float .f64 Jp), .v (.float .f64 Jq)] (Pt.at g1 0) fH rfl .all (by kernel_rfl) (by kernel_rfl) ?_
   intro uL gA
   refine ad <| aa <| ab <| ab <| aj <| aQ 2 [] (.n 44 (pt g 0) (.n 45 (sl A fu.1.length c) (.k (.ib .a)))) qe (by kernel_rfl) ?_
   refine ae ?_
   obtain ⟨o0, CT, hm⟩ := ob hm
   obtain ⟨Rp, Rq, Kz, SU, NO, SW, Rr⟩ := gA.go (.i (.i (.i (.r (.r .e)))))
   refine ax [] 46 _ CE (by kernel_rfl) (lX (F := Rp) (O := Rq) _ _ _ _ _ _ _ _ _ _ _ _ (xq.lR Kz.off NO 0 rfl (fun R_ y_ x_ HG q_ => ⟨(And.left q_), (SH.rh (And.right q_) HG)⟩)) (gA.np 3 rfl) (gA.Gc 3 rfl) Kz _ CT) ?_
   rintro e_ xI ⟨rfl, iA⟩
   have jL := Rr xI _ _ iA (.c (.c (.c .n)))
   refine ⟨I o0.1, rfl, ?_⟩
   have iv := jL.ba (.kk (.k (.s (.k .e))))
   refine aQ 1 [] (.n 47 (.b (decide (o0.1 ≠ 0))) (.ib .a)) qe (by kernel_rfl) ?_
   refine ad <| aa <| aN (o0.1 ≠ 0) (by kernel_rfl) (fun rX => ?_) (fun rX => ?_)
   · rw [if_pos rX] at hm
     refine ab <| aV [] (.n 4 (.b false) .z) qe (by kernel_rfl) ?_
     refine aa <| aG (aZ ?_)
     obtain rfl := Option.some.inj hm
     refine aH [.b false] qe (by kernel_rfl) ?_
     have iX := iv.ba .z
     exact ⟨rfl, iX⟩
   rw [if_neg rX] at hm
   refine aL <| aa <| ab <| aj <| aQ 1 [] (.n 48 (pt g 0) (.s .a)) qe (by kernel_rfl) ?_
   refine ae ?_
   have jM := iv.ba (.bb .e)
   obtain ⟨fP, C4, hm⟩ := ob hm
   obtain ⟨Rt, Ru, NP, SX, Rv, SY, Rx⟩ := jM.go (.i (.i (.i (.r .e))))
   refine ax [] 49 _ CF (by kernel_rfl) (kM (F := Rt) (O := Ru) _ _ _ _ _ _ NP _ C4) ?_
   rintro e_ rk ⟨rp, r7, yv, xW, C7, H8, rfl, lM⟩
   have je := Rx rk _ _ lM (.c (.c (.c .n)))
   refine ⟨.agg [I fP.1, I fP.2.1, I fP.2.2.1, .v (.float .f64 rp), .v (.float .f64 r7), .v (.float .f64 yv)], rfl, ?_⟩
   refine ae <| aU [] 10 [I 0, I 0, I 0, .v (.float .f64 0), .v (.float .f64 0), .v (.float .f64 0)] (by kernel_rfl) je ?_
   intro g2 uc l8
   refine ae <| cE [] 4 (.agg [I fP.1, I fP.2.1, I fP.2.2.1, .v (.float .f64 rp), .v (.float .f64 r7), .v (.float .f64 yv)]) [I fP.1, I fP.2.1, I fP.2.2.1, .v (.float .f64 rp), .v (.float .f64 r7), .v (.float .f64 yv)] (Pt.at g2 0) l8 rfl .all (by kernel_rfl) (by kernel_rfl) ?_
   intro wg lE
   refine ad <| aa <| ab <| aj <| aQ 1 [] (.n 51 (pt g 0) (.k (.ss (.k .z)))) qe (by kernel_rfl) ?_
   refine ae ?_
   obtain ⟨gR, H_, hm⟩ := ob hm
   obtain ⟨Ry, Rz, NQ, SZ, RA, S3, RB⟩ := lE.go (.i (.i (.i (.r (.r .e)))))
   refine ax [] 52 _ Ex (by kernel_rfl) (ov (F := Ry) (O := Rz) _ _ _ _ _ _ _ _ NQ _ H_) ?_
   rintro e_ yZ ⟨A3, _, c3, rfl, rfl, pI⟩
   have xS := RB yZ _ _ pI (.c (.c (.c (.c .n))))
   refine ⟨.dB [sl A3 gR.1.length c3, I gR.2.1], rfl, ?_⟩
   have lN := xS.ba (.k (.ss (.s (.kk .e))))
   refine aQ 5 [] (.n 11 (sl A3 gR.1.length c3) (.n 12 (I gR.2.1) (.ss .a))) qe (by kernel_rfl) ?_
   refine ad <| aa <| ab <| ab <| aV [] (.n 83 (.b (((((decide (gR.2.1 ≠ 0)) || (decide (((gR.1.length : Nat) : Int) ≠ 0))) || (decide (ie.1 ≠ fP.1))) || (decide (ie.2.1 ≠ fP.2.1))) || (decide (fP.2.2.1 ≠ (aA (2 * ie.2.2.1)))))) (.ss (.k .z))) (qp (((decide (gR.2.1 ≠ 0)) || (decide (((gR.1.length : Nat) : Int) ≠ 0))) = false → (some ⟨g1, 0, none⟩ : Option Addr).isSome = true) (fun rY => rfl) <| qo (I ie.1) <| qc (fun w => ((decide (gR.2.1 ≠ 0)) || (decide (((gR.1.length : Nat) : Int) ≠ 0))) = false → ∃ a, (some ⟨g1, 0, none⟩ : Option Addr) = some a ∧ w.cell? a = some (SV.val (I ie.1))) (fun rY => lN.Bz 1 rfl 0 (I ie.1) (by kernel_rfl)) <| qp (((decide (gR.2.1 ≠ 0)) || (decide (((gR.1.length : Nat) : Int) ≠ 0))) = false → (some ⟨g2, 0, none⟩ : Option Addr).isSome = true) (fun rY => rfl) <| qo (I fP.1) <| qc (fun w => ((decide (gR.2.1 ≠ 0)) || (decide (((gR.1.length : Nat) : Int) ≠ 0))) = false → ∃ a, (some ⟨g2, 0, none⟩ : Option Addr) = some a ∧ w.cell? a = some (SV.val (I fP.1))) (fun rY => lN.Bz 2 rfl 0 (I fP.1) (by kernel_rfl)) <| qp ((((decide (gR.2.1 ≠ 0)) || (decide (((gR.1.length : Nat) : Int) ≠ 0))) || (decide (ie.1 ≠ fP.1))) = false → (some ⟨g1, 0, none⟩ : Option Addr).isSome = true) (fun rY => rfl) <| qo (I ie.2.1) <| qc (fun w => (((decide (gR.2.1 ≠ 0)) || (decide (((gR.1.length : Nat) : Int) ≠ 0))) || (decide (ie.1 ≠ fP.1))) = false → ∃ a, (some ⟨g1, 1, none⟩ : Option Addr) = some a ∧ w.cell? a = some (SV.val (I ie.2.1))) (fun rY => lN.Bz 1 rfl 1 (I ie.2.1) (by kernel_rfl)) <| qp ((((decide (gR.2.1 ≠ 0)) || (decide (((gR.1.length : Nat) : Int) ≠ 0))) || (decide (ie.1 ≠ fP.1))) = false → (some ⟨g2, 0, none⟩ : Option Addr).isSome = true) (fun rY => rfl) <| qo (I fP.2.1) <| qc (fun w => (((decide (gR.2.1 ≠ 0)) || (decide (((gR.1.length : Nat) : Int) ≠ 0))) || (decide (ie.1 ≠ fP.1))) = false → ∃ a, (some ⟨g2, 1, none⟩ : Option Addr) = some a ∧ w.cell? a = some (SV.val (I fP.2.1))) (fun rY => lN.Bz 2 rfl 1 (I fP.2.1) (by kernel_rfl)) <| qp (((((decide (gR.2.1 ≠ 0)) || (decide (((gR.1.length : Nat) : Int) ≠ 0))) || (decide (ie.1 ≠ fP.1))) || (decide (ie.2.1 ≠ fP.2.1))) = false → (some ⟨g2, 0, none⟩ : Option Addr).isSome = true) (fun rY => rfl) <| qo (I fP.2.2.1) <| qc (fun w => ((((decide (gR.2.1 ≠ 0)) || (decide (((gR.1.length : Nat) : Int) ≠ 0))) || (decide (ie.1 ≠ fP.1))) || (decide (ie.2.1 ≠ fP.2.1))) = false → ∃ a, (some ⟨g2, 2, none⟩ : Option Addr) = some a ∧ w.cell? a = some (SV.val (I fP.2.2.1))) (fun rY => lN.Bz 2 rfl 2 (I fP.2.2.1) (by kernel_rfl)) <| qp (((((decide (gR.2.1 ≠ 0)) || (decide (((gR.1.length : Nat) : Int) ≠ 0))) || (decide (ie.1 ≠ fP.1))) || (decide (ie.2.1 ≠ fP.2.1))) = false → (some ⟨g1, 0, none⟩ : Option Addr).isSome = true) (fun rY => rfl) <| qo (I ie.2.2.1) <| qc (fun w => ((((decide (gR.2.1 ≠ 0)) || (decide (((gR.1.length : Nat) : Int) ≠ 0))) || (decide (ie.1 ≠ fP.1))) || (decide (ie.2.1 ≠ fP.2.1))) = false → ∃ a, (some ⟨g1, 2, none⟩ : Option Addr) = some a ∧ w.cell? a = some (SV.val (I ie.2.2.1))) (fun rY => lN.Bz 1 rfl 2 (I ie.2.2.1) (by kernel_rfl)) <| qe) (by kernel_rfl) ?_
   refine aa <| bf (((((decide (gR.2.1 ≠ 0)) || (decide (((gR.1.length : Nat) : Int) ≠ 0))) || (decide (ie.1 ≠ fP.1))) || (decide (ie.2.1 ≠ fP.2.1))) || (decide (fP.2.2.1 ≠ (aA (2 * ie.2.2.1))))) (by kernel_rfl) (fun t_ => ?_) (fun t_ => ?_)
   · rw [if_pos t_] at hm
     refine ab <| aV [] (.n 4 (.b false) .z) qe (by kernel_rfl) ?_
     refine aa <| aG (aZ ?_)
     obtain rfl := Option.some.inj hm
     refine aH [.b false] qe (by kernel_rfl) ?_
     have tw := lN.ba .z
     exact ⟨rfl, tw⟩
   rw [if_neg (by rw [t_]; decide)] at hm
   refine aL <| aa <| ab <| ab <| aV [] (.n 86 (.b (decide (fP.2.2.1 = 0))) (.s .a)) (qs g2 0 <| qB lN 2 rfl 2 (I fP.2.2.1) (by kernel_rfl) <| qe) (by kernel_rfl) ?_
   refine aa <| aN (fP.2.2.1 = 0) (by kernel_rfl) (fun rf => ?_) (fun rf => ?_)
   · rw [if_pos rf] at hm
     refine ab <| aj <| aQ 4 [] (.n 88 (.v (.float .f64 rp)) (.n 90 (.v (.float .f64 rp)) (.s .a))) (qs g2 0 <| qB lN 2 rfl 3 (.v (.float .f64 rp)) (by kernel_rfl) <| qs g2 0 <| qB lN 2 rfl 3 (.v (.float .f64 rp)) (by kernel_rfl) <| qe) (by kernel_rfl) ?_
     refine ae ?_
     have r4 := lN.ba (.kk (.k .e))
     refine p9 [] 91 (u := rp) (v := rp) (by kernel_rfl) (.inr (.inl rfl)) xW xW ?_
     refine aQ 1 [] (.n 92 (.b (iz .neq fP.2.2.2.1 fP.2.2.2.1)) (.ib .a)) qe (by kernel_rfl) ?_
     refine uB 92 (iz .neq fP.2.2.2.1 fP.2.2.2.1) (.s .a) (by kernel_rfl) (fun hg => ?_) (fun hg => ?_)
     · rw [if_pos hg] at hm
       refine aQ 4 [92] (.n 94 (.v (.float .f64 r7)) (.n 96 (.v (.float .f64 r7)) (.k .z))) (qs g2 0 <| qB r4 2 rfl 4 (.v (.float .f64 r7)) (by kernel_rfl) <| qs g2 0 <| qB r4 2 rfl 4 (.v (.float .f64 r7)) (by kernel_rfl) <| qe) (by kernel_rfl) ?_
       refine ae <| p9 [92] 97 (u := r7) (v := r7) (by kernel_rfl) (.inr (.inl rfl)) C7 C7 ?_
       refine aQ 2 [92] (.n 4 (.b (iz .neq fP.2.2.2.2.1 fP.2.2.2.2.1)) .z) qe (by kernel_rfl) ?_
       refine ad <| aa <| aG (aZ ?_)
       obtain rfl := Option.some.inj hm
       refine aH [.b (iz .neq fP.2.2.2.2.1 fP.2.2.2.2.1)] qe (by kernel_rfl) ?_
       have tx := r4.ba .z
       exact ⟨rfl, tx⟩
     · rw [if_neg (by rw [hg]; decide)] at hm
       refine aQ 7 [92] (.n 4 (.b false) .z) qe (by kernel_rfl) ?_
       refine ad <| aa <| aG (aZ ?_)
       obtain rfl := Option.some.inj hm
       refine aH [.b false] qe (by kernel_rfl) ?_
       have zb := r4.ba .z
       exact ⟨rfl, zb⟩
   rw [if_neg rf] at hm
   refine aL <| aa <| ab <| aj <| aQ 4 [] (.n 100 (.v (.float .f64 rp)) (.n 102 (I fP.2.1) (.s .a))) (qs g2 0 <| qB lN 2 rfl 3 (.v (.float .f64 rp)) (by kernel_rfl) <| qs g2 0 <| qB lN 2 rfl 1 (I fP.2.1) (by kernel_rfl) <| qe) (by kernel_rfl) ?_
   refine ae ?_
   have xT := lN.ba (.kk (.k .e))
   refine kR [] 103 (q := .i64) (m := fP.2.1) (by kernel_rfl) ?_
   refine aQ 2 [] (.n 105 (I fP.2.2.1) (.kk (.s .a))) (qs g2 0 <| qB xT 2 rfl 2 (I fP.2.2.1) (by kernel_rfl) <| qe) (by kernel_rfl) ?_
   refine ae <| kR [] 106 (q := .i64) (m := fP.2.2.1) (by kernel_rfl) ?_
   refine ae <| kE [] 107 (u := cq fP.2.1) (v := cq fP.2.2.1) (by kernel_rfl) (.inr (.inr (.inr rfl))) (kQ _) (kQ _) xT ?_
   intro H7 CL H9 qq
   refine ae <| kE [] 108 (u := 4607182418800017408) (v := H7) (by kernel_rfl) (.inr (.inl rfl)) (Fl.lit (c := 4607182418800017408) (by kernel_rfl)) H9 qq ?_
   intro NA CM Fg xU
   refine ae ?_
   have ng := xU.ba (.kk (.k .e))
   refine p9 [] 109 (u := rp) (v := NA) (by kernel_rfl) (.inl rfl) xW Fg ?_
   refine aQ 1 [] (.n 110 (.b (iz .eql fP.2.2.2.1 (ic .sub 4607182418800017408 (ic .quo (cq fP.2.1) (cq fP.2.2.1))))) (.fi (.ib .a))) qe (by kernel_rfl) ?_
   refine uB 110 (iz .eql fP.2.2.2.1 (ic .sub 4607182418800017408 (ic .quo (cq fP.2.1) (cq fP.2.2.1)))) (.s .a) (by kernel_rfl) (fun Jm => ?_) (fun Jm => ?_)
   · rw [if_pos Jm] at hm
     refine aQ 2 [110] (.n 112 (.v (.float .f64 rp)) .a) (qs g2 0 <| qB ng 2 rfl 3 (.v (.float .f64 rp)) (by kernel_rfl) <| qe) (by kernel_rfl) ?_
     refine ae <| p9 [110] 113 (u := rp) (v := 4602678819172646912) (by kernel_rfl) (.inr (.inr (.inr (.inr (.inr rfl))))) xW (Fl.lit (c := 4602678819172646912) (by kernel_rfl)) ?_
     refine aQ 2 [110] (.n 115 (.b (iz .geq fP.2.2.2.1 4602678819172646912)) (.ib .a)) qe (by kernel_rfl) ?_
     refine uB 115 (iz .geq fP.2.2.2.1 4602678819172646912) (.s .a) (by kernel_rfl) (fun NR => ?_) (fun NR => ?_)
     · rw [if_pos NR] at hm
       refine aQ 2 [115] (.n 117 (.v (.float .f64 yv)) (.k .z)) (qs g2 0 <| qB ng 2 rfl 5 (.v (.float .f64 yv)) (by kernel_rfl) <| qe) (by kernel_rfl) ?_
       refine ae <| p9 [115] 118 (u := yv) (v := 0) (by kernel_rfl) (.inr (.inr (.inr (.inr (.inr rfl))))) H8 (Fl.lit (c := 0) (by kernel_rfl)) ?_
       refine aQ 2 [115] (.n 4 (.b (iz .geq fP.2.2.2.2.2.1 0)) .z) qe (by kernel_rfl) ?_
       refine ad <| aa <| aG ?_
       obtain rfl := Option.some.inj hm
       refine aH [.b (iz .geq fP.2.2.2.2.2.1 0)] qe (by kernel_rfl) ?_
       have rn := ng.ba .z
       exact ⟨rfl, rn⟩
     · rw [if_neg (by rw [NR]; decide)] at hm
       refine aQ 5 [115] (.n 4 (.b false) .z) qe (by kernel_rfl) ?_
       refine ad <| aa <| aG ?_
       obtain rfl := Option.some.inj hm
       refine aH [.b false] qe (by kernel_rfl) ?_
       have wO := ng.ba .z
       exact ⟨rfl, wO⟩
   · rw [if_neg (by rw [Jm]; decide)] at hm
     refine aQ 5 [110] (.n 115 (.b false) (.s .a)) qe (by kernel_rfl) ?_
     refine aQ 5 [115] (.n 4 (.b false) .z) qe (by kernel_rfl) ?_
     refine ad <| aa <| aG ?_
     obtain rfl := Option.some.inj hm
     refine aH [.b false] qe (by kernel_rfl) ?_
     have zc := ng.ba .z
     exact ⟨rfl, zc⟩
end Go.Sx
namespace Go.Sx
open Go.RowKit
set_option linter.unusedVariables false
set_option linter.unusedSimpArgs false
theorem gG (i : Nat) (h : i ≤ 1000000000) : aA ((i : Int) + 1) = ((i + 1 : Nat) : Int) := by rw [cw (by omega)]; omega
theorem C8 (a b : List UInt8) (ha : a.length ≤ 16000000) : lB a b = some (decide (a = b)) := by
  unfold lB
  by_cases hn : ((a.length : Nat) : Int) ≠ ((b.length : Nat) : Int)
  · rw [if_pos hn]
    congr 1
    exact (decide_eq_false fun e => hn (by rw [e])).symm
  rw [if_neg hn]
  have hl : a.length = b.length := by omega
  refine gZ (fun i s => s = (i : Int) ∧ i ≤ a.length ∧ a.take i = b.take i) _ a.length _ ⟨rfl, by omega, rfl⟩ ?_
  rintro i s ⟨rfl, hi, he⟩
  unfold j1
  by_cases eN : i < a.length
  · rw [if_pos (by omega), bM eN, bM (show i < b.length by omega)]
    simp only [Option.bind_some]
    by_cases hx : a[i] = b[i]
    · left
      refine ⟨eN, _, by rw [if_neg (by simpa using hx)], by rw [gG i (by omega)], by omega, ?_⟩
      rw [List.take_add_one, List.take_add_one, he, List.getElem?_eq_getElem eN, List.getElem?_eq_getElem (show i < b.length by omega), hx]
    · right
      rw [if_pos hx]
      simp only [Option.map_some, Option.some.injEq, Sum.inr.injEq]
      refine (decide_eq_false fun e => hx ?_).symm
      subst e; rfl
  · right
    obtain rfl : i = a.length := by omega
    rw [if_neg (by omega)]
    simp only [Option.map_some, Option.some.injEq, Sum.inr.injEq]
    rw [List.take_length, hl, List.take_length] at he
    exact (decide_eq_true he).symm
theorem C9 (a b : List UInt8) (ha : a.length ≤ 16000000) : lC a b = some (decide (a = b)) := by
  unfold lC
  rw [C8 a b ha]
  rfl
def Jr (s : UInt64) (x : UInt8) : UInt64 := 2 * s + (UInt64.ofNat x.toNat + 1) * 11400714819323198485
def xX (n : Nat) (s : UInt64) : Bool := decide (n = 1024) || (decide (64 ≤ n) && decide (dz s ((58 : UInt64).toNat) = 0))
def cut : List UInt8 → List UInt8 → UInt64 → List (List UInt8)
  | [], _, _ => []
  | x :: r, p, s => if (xX (p.length + 1) (Jr s x) || r.isEmpty) = true then (p ++ [x]) :: cut r [] 0 else cut r (p ++ [x]) (Jr s x)
theorem tA : ∀ (r p : List UInt8) (s : UInt64), r ≠ [] → (cut r p s).flatten = p ++ r
  | [], _, _, h => absurd rfl h
  | x :: r, p, s, _ => by
    unfold cut
    split
    · rename_i hc
      cases r with
      | nil => simp [cut]
      | cons y r => rw [List.flatten_cons, tA (y :: r) [] 0 (by simp)]; simp
    · rename_i hc
      cases r with
      | nil => simp at hc
      | cons y r => rw [tA (y :: r) _ _ (by simp)]; simp
theorem Ac (data : List UInt8) : (cut data [] 0).flatten = data := by
  cases data with
  | nil => rfl
  | cons x r => rw [tA _ _ _ (by simp)]; rfl
theorem lI : ∀ (r p : List UInt8) (s : UInt64), p.length < 1024 → ∀ c ∈ cut r p s, 1 ≤ c.length ∧ c.length ≤ 1024
  | [], _, _, _, c, h => by cases h
  | x :: r, p, s, hp, c, h => by
    unfold cut at h
    split at h
    · rcases List.mem_cons.1 h with rfl | h
      · simp; omega
      · exact lI r [] 0 (by simp) c h
    · rename_i hc
      have gf : p.length + 1 ≠ 1024 := fun e => hc (by simp [xX, e])
      exact lI r _ _ (by simp; omega) c h
theorem Bb (data : List UInt8) : (cut data [] 0).length ≤ data.length := by
  have h1 := Ac data
  have h2 := lI data [] 0 (by simp)
  have key : ∀ l : List (List UInt8), (∀ c ∈ l, 1 ≤ c.length ∧ c.length ≤ 1024) → l.length ≤ l.flatten.length := by
    intro l
    induction l with
    | nil => intro _; simp
    | cons c l ih =>
      intro h
      have := ih fun x hx => h x (List.mem_cons_of_mem _ hx)
      have := (h c List.mem_cons_self).1
      simp only [List.length_cons, List.flatten_cons, List.length_append]
      omega
  have := key _ h2
  rw [h1] at this
  exact this
theorem Ad (s : UInt64) : gl s ((1 : UInt64).toNat) = 2 * s := by
  rw [← UInt64.toNat_inj]
  show ((s.toBitVec <<< 1 : BitVec 64)).toNat = _
  rw [BitVec.toNat_shiftLeft, Nat.shiftLeft_eq, UInt64.toNat_mul]
  show s.toNat * 2 ^ 1 % 2 ^ 64 = (2 * s.toNat) % 2 ^ 64
  rw [Nat.mul_comm]
theorem Fh (data : List UInt8) (i : Nat) (h : i < data.length) : data.drop i = data[i] :: data.drop (i + 1) := List.drop_eq_getElem_cons h
theorem uR (data : List UInt8) (f i : Nat) (hf : f ≤ i) (h : i < data.length) : (data.take (i + 1)).drop f = (data.take i).drop f ++ [data[i]] := by
  rw [List.take_add_one, List.getElem?_eq_getElem h, List.drop_append, List.length_take, show f - min i data.length = 0 from by omega]
  rfl
theorem tB (data : List UInt8) (hd : data.length ≤ 1048576) : fY data = some (cut data [] 0, 0) := by
  unfold fY
  rw [if_neg (by omega)]
  have go : ∀ (d i f : Nat) (l : List (List UInt8)) (s : UInt64), d + i = data.length → f ≤ i → l.length ≤ i →
      aP (dM data) (l, (f : Int), s, (i : Int)) = some (l ++ cut (data.drop i) ((data.take i).drop f) s, 0) := by
    intro d
    induction d with
    | zero =>
      intro i f l s RC hf hl
      refine j6 ?_
      unfold dM
      simp only []
      rw [if_neg (by omega), List.drop_eq_nil_of_le (by omega)]
      simp [cut]
    | succ d ih =>
      intro i f l s RC hf hl
      have hi : i < data.length := by omega
      have DH : ((data.take i).drop f).length + 1 = i + 1 - f := by simp; omega
      have hw : aA (aA ((i : Int) + 1) - (f : Int)) = ((i + 1 - f : Nat) : Int) := by rw [gG i (by omega), cw (by omega)]; omega
      have KA : (data.drop (i + 1)).isEmpty = decide ((i : Int) = aA (((data.length : Nat) : Int) - 1)) := by
        rw [cw (by omega)]
        by_cases he : i + 1 = data.length
        · rw [List.drop_eq_nil_of_le (by omega), decide_eq_true (by omega)]; rfl
        · rw [decide_eq_false (by omega)]
          cases hq : data.drop (i + 1) with
          | nil => have := congrArg List.length hq; simp at this; omega
          | cons _ _ => rfl
      have w9 : ((decide ((aA ((aA ((i : Int) + 1)) - (f : Int))) = 1024)) || ((decide (64 ≤ (aA ((aA ((i : Int) + 1)) - (f : Int))))) && (decide ((dz ((gl s ((1 : UInt64).toNat)) + (((UInt64.ofNat data[i].toNat) + 1) * 11400714819323198485)) ((58 : UInt64).toNat)) = 0)))) =
          xX (((data.take i).drop f).length + 1) (Jr s data[i]) := by
        rw [hw, DH, Ad]
        unfold xX Jr
        congr 1
        · exact decide_eq_decide.2 (by omega)
        · congr 1
          exact decide_eq_decide.2 (by omega)
      rw [Fh data i hi]
      unfold cut
      by_cases hc : (xX (((data.take i).drop f).length + 1) (Jr s data[i]) || (data.drop (i + 1)).isEmpty) = true
      · rw [if_pos hc]
        refine (lP (s' := (l ++ [(data.take (i + 1)).drop f], ((i + 1 : Nat) : Int), 0, ((i + 1 : Nat) : Int))) ?_).trans ?_
        · unfold dM eG
          simp only []
          rw [if_pos (by omega), bM hi]
          simp only [Option.bind_some]
          rw [w9, ← KA, if_pos hc, gG i (by omega), kD (by omega)]
          simp only [Option.bind_some, Int.toNat_natCast]
          rw [fJ (by simp; omega)]
          simp only [Option.bind_some, List.nil_append]
          rw [fJ (by simp; omega)]
          rfl
        · rw [ih (i + 1) (i + 1) _ _ (by omega) (by omega) (by simp; omega), show (data.take (i + 1)).drop (i + 1) = [] from List.drop_eq_nil_of_le (by simp; omega), uR data f i hf hi, List.append_assoc]
          rfl
      · rw [if_neg hc, ← uR data f i hf hi]
        refine (lP (s' := (l, (f : Int), Jr s data[i], ((i + 1 : Nat) : Int))) ?_).trans (ih (i + 1) f l _ (by omega) (by omega) (by omega))
        unfold dM eG
        simp only []
        rw [if_pos (by omega), bM hi]
        simp only [Option.bind_some]
        rw [w9, ← KA, if_neg hc, gG i (by omega), Ad]
        rfl
  have := go data.length 0 0 [] 0 (by omega) (by omega) (by simp)
  simpa using this
theorem Bc : kp = some true := by
  unfold kp
  rw [tB _ (by simp)]
  simp only [Option.bind_some]
  rw [show cut ([97, 98, 99] : List UInt8) [] 0 = [[97, 98, 99]] from by decide +kernel]
  rw [if_pos (by decide)]
  rw [show an ([[97, 98, 99]] : List (List UInt8)) (0 : Int) = some [97, 98, 99] from rfl]
  simp only [Option.bind_some]
  rw [C9 _ _ (by simp)]
  rfl
end Go.Sx
namespace Go.Sx
open Go.RowKit
set_option linter.unusedVariables false
set_option linter.unusedSimpArgs false
section
variable {α σ ρ : Type}
def ag.g [Inhabited α] {n : Nat} (v : ag α n) (i : Nat) : α := v.l.getD i default
theorem bc [Inhabited α] {n : Nat} (v : ag α n) (i : Nat) (h : i < n) : an v.l (i : Int) = some (v.g i) := by
  have hl : i < v.l.length := by rw [v.h]; exact h
  rw [bM hl]
  simp [ag.g, List.getD_eq_getElem?_getD, hl]
theorem aY (i : Nat) (h : i < 1000000000000000000) : aA ((i : Int) + 1) = ((i + 1 : Nat) : Int) := by rw [cw (by omega)]; omega
theorem gv (step : σ × Int → Option ((σ × Int) ⊕ ρ)) (n : Nat) (F : σ → Nat → σ) (s : σ) (r : ρ) (h : ∀ s i, i < n → step (s, (i : Int)) = some (.inl (F s i, ((i + 1 : Nat) : Int))))
    (he : step ((List.range n).foldl F s, (n : Int)) = some (.inr r)) : aP step (s, 0) = some r := by
  refine bY (fun i => ((List.range i).foldl F s, (i : Int))) n (fun i hi => ?_) he
  show step ((List.range i).foldl F s, (i : Int)) = some (.inl ((List.range (i + 1)).foldl F s, ((i + 1 : Nat) : Int)))
  rw [h _ _ hi, List.range_succ, List.foldl_append]
  rfl
theorem rr {v : ag α 8} : ∃ a b c d e f g h, v = ⟨[a, b, c, d, e, f, g, h], rfl⟩ := by
  obtain ⟨l, hl⟩ := v
  match l, hl with
  | [a, b, c, d, e, f, g, h], _ => exact ⟨a, b, c, d, e, f, g, h, rfl⟩
end
def nw (x : UInt64) (k : Nat) : UInt64 := dz x k ||| gl x (64 - k)
theorem NS (x : UInt64) : bO x (-32) = some (nw x 32) := by
  show some (gl x 32 ||| dz x 32) = _
  rw [UInt64.or_comm]; rfl
theorem NT (x : UInt64) : bO x (-24) = some (nw x 24) := by
  show some (gl x 40 ||| dz x 24) = _
  rw [UInt64.or_comm]; rfl
theorem NU (x : UInt64) : bO x (-16) = some (nw x 16) := by
  show some (gl x 48 ||| dz x 16) = _
  rw [UInt64.or_comm]; rfl
theorem NV (x : UInt64) : bO x (-63) = some (nw x 63) := by
  show some (gl x 1 ||| dz x 63) = _
  rw [UInt64.or_comm]; rfl
theorem NW (x : UInt64) : fE x 32 = some (nw x 32) := by kernel_rfl
theorem NY (x : UInt64) : fE x 24 = some (nw x 24) := by kernel_rfl
theorem NZ (x : UInt64) : fE x 16 = some (nw x 16) := by kernel_rfl
theorem N1 (x : UInt64) : fE x 63 = some (nw x 63) := by kernel_rfl
def Gb (v : ag UInt64 16) (a b c d : Nat) (x y : UInt64) : ag UInt64 16 :=
  let v1 := da v a (v.g a + (v.g b + x))
  let v2 := da v1 d (nw (v1.g d ^^^ v1.g a) 32)
  let v3 := da v2 c (v2.g c + v2.g d)
  let v4 := da v3 b (nw (v3.g b ^^^ v3.g c) 24)
  let v5 := da v4 a (v4.g a + (v4.g b + y))
  let v6 := da v5 d (nw (v5.g d ^^^ v5.g a) 16)
  let v7 := da v6 c (v6.g c + v6.g d)
  da v7 b (nw (v7.g b ^^^ v7.g c) 63)
theorem Fj (v : ag UInt64 16) (a b c d : Nat) (x y : UInt64) (ha : a < 16) (hb : b < 16) (hc : c < 16) (hd : d < 16) (p : ag Int 4) (hp : p.l = [(a : Int), (b : Int), (c : Int), (d : Int)]) : j_ v p x y = some (Gb v a b c d x y) := by
  unfold j_
  have e0 : an p.l 0 = some (a : Int) := by rw [hp]; rfl
  have e1 : an p.l 1 = some (b : Int) := by rw [hp]; rfl
  have e2 : an p.l 2 = some (c : Int) := by rw [hp]; rfl
  have e3 : an p.l 3 = some (d : Int) := by rw [hp]; rfl
  simp only [e0, e1, e2, e3, bc _ a ha, bc _ b hb, bc _ c hc, bc _ d hd, Option.bind_some, NS, NT, NU, NV]
  rfl
theorem N2 (v : ag UInt64 16) (a b c d : Nat) (x y : UInt64) (ha : a < 16) (hb : b < 16) (hc : c < 16) (hd : d < 16) (hn : a ≠ b ∧ a ≠ c ∧ a ≠ d ∧ b ≠ c ∧ b ≠ d ∧ c ≠ d) : vT v a b c d x y = some (Gb v a b c d x y, 0) := by
  have pl : ∀ i : Nat, i < 16 → ja (i : Int) = some true := by
    intro i hi
    unfold ja
    simp only [Option.some.injEq, Bool.and_eq_true, decide_eq_true_eq]
    omega
  unfold vT
  simp only [pl a ha, pl b hb, pl c hc, pl d hd, Option.bind_some, Bool.not_true, Bool.false_or, Bool.or_eq_true, decide_eq_true_eq, Bool.false_eq_true, if_false, false_or]
  rw [if_neg (by omega)]
  simp only [bc _ a ha, bc _ b hb, bc _ c hc, bc _ d hd, Option.bind_some, NW, NY, NZ, N1, UInt64.add_assoc]
  rfl
def RD : List (Nat × Nat × Nat × Nat) := [(0, 4, 8, 12), (1, 5, 9, 13), (2, 6, 10, 14), (3, 7, 11, 15), (0, 5, 10, 15), (1, 6, 11, 12), (2, 7, 8, 13), (3, 4, 9, 14)]
def pl (i : Nat) : Nat × Nat × Nat × Nat := RD.getD i (0, 0, 0, 0)
theorem Ae : ∀ i : Nat, i < 8 → (pl i).1 < 16 ∧ (pl i).2.1 < 16 ∧ (pl i).2.2.1 < 16 ∧ (pl i).2.2.2 < 16 ∧ (pl i).1 ≠ (pl i).2.1 ∧ (pl i).1 ≠ (pl i).2.2.1 ∧ (pl i).1 ≠ (pl i).2.2.2 ∧ (pl i).2.1 ≠ (pl i).2.2.1 ∧ (pl i).2.1 ≠ (pl i).2.2.2 ∧ (pl i).2.2.1 ≠ (pl i).2.2.2 := by decide
def RE : List Nat := [0, 1, 2, 3, 4, 5, 6, 7, 8, 9, 10, 11, 12, 13, 14, 15, 14, 10, 4, 8, 9, 15, 13, 6, 1, 12, 0, 2, 11, 7, 5, 3, 11, 8, 12, 0, 5, 2, 15, 13, 10, 14, 3, 6, 7, 1, 9, 4, 7, 9, 3, 1, 13, 12, 11, 14, 2, 6, 5, 10, 4, 0, 15, 8, 9, 0, 5, 7, 2, 4, 10, 15, 14, 1, 11, 12, 6, 8, 3, 13, 2, 12, 6, 10, 0, 11, 8, 3, 4, 13, 7, 5, 15, 14, 1, 9, 12, 5, 1, 15, 14, 13, 4, 10, 0, 7, 6, 3, 9, 2, 8, 11, 13, 11, 7, 14, 12, 1, 3, 9, 5, 0, 15, 4, 8, 6, 2, 10, 6, 15, 14, 9, 11, 3, 0, 8, 12, 2, 13, 7, 1, 4, 10, 5, 10, 2, 8, 4, 7, 6, 1, 5, 15, 11, 9, 14, 3, 12, 13, 0]
def sg (r i : Nat) : Nat := RE.getD (16 * (r % 10) + i) 0
theorem rO : ∀ r : Nat, r < 12 → ∀ i : Nat, i < 16 → sg r i < 16 := by decide +kernel
theorem LG : ∀ r : Nat, r < 12 → ∀ i : Nat, i < 16 → kj (r : Int) (i : Int) = some (sg r i : Int) := by decide +kernel
theorem PM (r : Nat) (hr : r < 12) : ∃ row, js (r : Int) = some row ∧ ∀ i : Nat, i < 16 → an row.l (i : Int) = some (sg r i : Int) := by
  match r, hr with
  | 0, _ => exact ⟨_, rfl, by decide +kernel⟩
  | 1, _ => exact ⟨_, rfl, by decide +kernel⟩
  | 2, _ => exact ⟨_, rfl, by decide +kernel⟩
  | 3, _ => exact ⟨_, rfl, by decide +kernel⟩
  | 4, _ => exact ⟨_, rfl, by decide +kernel⟩
  | 5, _ => exact ⟨_, rfl, by decide +kernel⟩
  | 6, _ => exact ⟨_, rfl, by decide +kernel⟩
  | 7, _ => exact ⟨_, rfl, by decide +kernel⟩
  | 8, _ => exact ⟨_, rfl, by decide +kernel⟩
  | 9, _ => exact ⟨_, rfl, by decide +kernel⟩
  | 10, _ => exact ⟨_, rfl, by decide +kernel⟩
  | 11, _ => exact ⟨_, rfl, by decide +kernel⟩
def Sb (m : ag UInt64 16) (r : Nat) (v : ag UInt64 16) (i : Nat) : ag UInt64 16 := Gb v (pl i).1 (pl i).2.1 (pl i).2.2.1 (pl i).2.2.2 (m.g (sg r (2 * i))) (m.g (sg r (2 * i + 1)))
def Rb (v m : ag UInt64 16) (r : Nat) : ag UInt64 16 := (List.range 8).foldl (Sb m r) v
theorem Af (i : Nat) (h : i < 100) : aA (2 * (i : Int)) = ((2 * i : Nat) : Int) := by rw [cw (by omega)]; omega
theorem Fk (v m : ag UInt64 16) (r : Nat) (hr : r < 12) : ka v m (r : Int) = some (Rb v m r, m) := by
  obtain ⟨row, h1, h2⟩ := PM r hr
  unfold ka
  rw [h1]
  simp only [Option.bind_some]
  unfold jY
  simp only [Option.bind_some]
  refine gv _ 8 (Sb m r) v _ (fun v i hi => ?_) ?_
  · unfold jt
    obtain ⟨p1, p2, p3, p4, _⟩ := Ae i hi
    simp only []
    rw [if_pos (by omega), Af i (by omega), aY _ (by omega), aY _ (by omega), h2 _ (by omega), h2 _ (by omega)]
    simp only [Option.bind_some]
    rw [bc _ _ (rO r hr _ (by omega)), bc _ _ (rO r hr _ (by omega))]
    have key : ∃ p : ag Int 4, an (⟨[(⟨[(0 : Int), (4 : Int), (8 : Int), (12 : Int)], rfl⟩ : ag Int 4), (⟨[(1 : Int), (5 : Int), (9 : Int), (13 : Int)], rfl⟩ : ag Int 4), (⟨[(2 : Int), (6 : Int), (10 : Int), (14 : Int)], rfl⟩ : ag Int 4), (⟨[(3 : Int), (7 : Int), (11 : Int), (15 : Int)], rfl⟩ : ag Int 4), (⟨[(0 : Int), (5 : Int), (10 : Int), (15 : Int)], rfl⟩ : ag Int 4), (⟨[(1 : Int), (6 : Int), (11 : Int), (12 : Int)], rfl⟩ : ag Int 4), (⟨[(2 : Int), (7 : Int), (8 : Int), (13 : Int)], rfl⟩ : ag Int 4), (⟨[(3 : Int), (4 : Int), (9 : Int), (14 : Int)], rfl⟩ : ag Int 4)], rfl⟩ : ag (ag Int 4) 8).l (i : Int) = some p ∧ p.l = [((pl i).1 : Int), ((pl i).2.1 : Int), ((pl i).2.2.1 : Int), ((pl i).2.2.2 : Int)] := by
      match i, hi with
      | 0, _ => exact ⟨_, rfl, rfl⟩
      | 1, _ => exact ⟨_, rfl, rfl⟩
      | 2, _ => exact ⟨_, rfl, rfl⟩
      | 3, _ => exact ⟨_, rfl, rfl⟩
      | 4, _ => exact ⟨_, rfl, rfl⟩
      | 5, _ => exact ⟨_, rfl, rfl⟩
      | 6, _ => exact ⟨_, rfl, rfl⟩
      | 7, _ => exact ⟨_, rfl, rfl⟩
    obtain ⟨p, k1, k2⟩ := key
    rw [k1]
    simp only [Option.bind_some]
    rw [Fj v _ _ _ _ _ _ p1 p2 p3 p4 p k2]
    rfl
  · rfl
theorem Bd (i : Nat) (hi : i < 8) : ∃ p : ag Int 4, qf (i : Int) = some p ∧ p.l = [((pl i).1 : Int), ((pl i).2.1 : Int), ((pl i).2.2.1 : Int), ((pl i).2.2.2 : Int)] := by
  match i, hi with
  | 0, _ => exact ⟨_, rfl, rfl⟩
  | 1, _ => exact ⟨_, rfl, rfl⟩
  | 2, _ => exact ⟨_, rfl, rfl⟩
  | 3, _ => exact ⟨_, rfl, rfl⟩
  | 4, _ => exact ⟨_, rfl, rfl⟩
  | 5, _ => exact ⟨_, rfl, rfl⟩
  | 6, _ => exact ⟨_, rfl, rfl⟩
  | 7, _ => exact ⟨_, rfl, rfl⟩
theorem C_ (v m : ag UInt64 16) (r : Nat) (hr : r < 12) : nU v m (r : Int) = some (Rb v m r, 0) := by
  unfold nU
  rw [if_neg (by simp only [Bool.or_eq_true, decide_eq_true_eq]; omega)]
  refine gv _ 8 (Sb m r) v _ (fun v i hi => ?_) ?_
  · unfold nT
    obtain ⟨p1, p2, p3, p4, hn⟩ := Ae i hi
    obtain ⟨p, k1, k2⟩ := Bd i hi
    have e0 : an p.l 0 = some ((pl i).1 : Int) := by rw [k2]; rfl
    have e1 : an p.l 1 = some ((pl i).2.1 : Int) := by rw [k2]; rfl
    have e2 : an p.l 2 = some ((pl i).2.2.1 : Int) := by rw [k2]; rfl
    have e3 : an p.l 3 = some ((pl i).2.2.2 : Int) := by rw [k2]; rfl
    simp only []
    rw [if_pos (by omega), k1, Af i (by omega), aY _ (by omega), aY _ (by omega)]
    simp only [Option.bind_some, e0, e1, e2, e3]
    rw [LG r hr _ (by omega), LG r hr _ (by omega)]
    simp only [Option.bind_some]
    rw [bc _ _ (rO r hr _ (by omega)), bc _ _ (rO r hr _ (by omega))]
    simp only [Option.bind_some]
    rw [N2 v _ _ _ _ _ _ p1 p2 p3 p4 hn]
    rfl
  · rfl
end Go.Sx
namespace Go.Sx
open Go.RowKit
set_option linter.unusedVariables false
set_option linter.unusedSimpArgs false
def Fm : List UInt64 := [7640891576956012808, 13503953896175478587, 4354685564936845355, 11912009170470909681, 5840696475078001361, 11170449401992604703, 2270897969802886507, 6620516959819538809]
def RF (h : ag UInt64 8) : ag UInt64 16 := ⟨h.l ++ Fm, by simp [h.h, Fm]⟩
def Ib (h : ag UInt64 8) (lo hi : UInt64) (last node : Bool) : ag UInt64 16 :=
  let v0 := RF h
  let v1 := da v0 12 (v0.g 12 ^^^ lo)
  let v2 := da v1 13 (v1.g 13 ^^^ hi)
  let v3 := if last then da v2 14 (18446744073709551615 ^^^ v2.g 14) else v2
  if node then da v3 15 (18446744073709551615 ^^^ v3.g 15) else v3
theorem KB (h : ag UInt64 8) (lo hi : UInt64) (last node : Bool) : lT h lo hi last node = some (Ib h lo hi last node) := by
  obtain ⟨a, b, c, d, e, f, g, q, rfl⟩ := rr (v := h)
  cases last <;> cases node <;> kernel_rfl
theorem PN (i : Nat) (hi : i < 8) : td (i : Int) = some (Fm.getD i 0) := by
  match i, hi with
  | 0, _ => rfl
  | 1, _ => rfl
  | 2, _ => rfl
  | 3, _ => rfl
  | 4, _ => rfl
  | 5, _ => rfl
  | 6, _ => rfl
  | 7, _ => rfl
theorem oJ (i : Nat) (h : i < 100) : aA ((i : Int) + 8) = ((i + 8 : Nat) : Int) := by rw [cw (by omega)]; omega
theorem KC (h : ag UInt64 8) (lo hi : UInt64) (last node : Bool) : py h lo hi last node = some (Ib h lo hi last node) := by
  unfold py
  refine gv _ 8 (fun v i => da (da v i (h.g i)) ((i + 8 : Nat) : Int) (Fm.getD i 0)) _ _ (fun v i hi => ?_) ?_
  · unfold o4
    simp only []
    rw [if_pos (by omega), bc _ _ hi, bc _ _ (by omega), oJ i (by omega), aY i (by omega), PN i hi]
    simp only [Option.bind_some]
    rw [bc _ _ (by omega)]
    rfl
  · obtain ⟨a, b, c, d, e, f, g, q, rfl⟩ := rr (v := h)
    cases last <;> cases node <;> kernel_rfl
def Eb (v : ag UInt64 16) (h : ag UInt64 8) (i : Nat) : ag UInt64 8 := da h i (h.g i ^^^ (v.g i ^^^ v.g (i + 8)))
def Fb (h : ag UInt64 8) (m : ag UInt64 16) (lo hi : UInt64) (last node : Bool) : ag UInt64 8 :=
  (List.range 8).foldl (Eb ((List.range 12).foldl (fun v r => Rb v m r) (Ib h lo hi last node))) h
theorem wF (h : ag UInt64 8) (m : ag UInt64 16) (lo hi : UInt64) (last node : Bool) : nN h m lo hi last node = some (Fb h m lo hi last node) := by
  unfold nN
  rw [KB]
  simp only [Option.bind_some]
  refine bY (fun i => (m, (List.range i).foldl (fun v r => Rb v m r) (Ib h lo hi last node), (i : Int))) 12 (fun i hi => ?_) ?_
  · unfold ke
    simp only []
    rw [if_pos (by omega), Fk _ _ _ hi, aY i (by omega), List.range_succ, List.foldl_append]
    rfl
  · unfold ke
    simp only []
    rw [if_neg (by omega)]
    rw [show aP (kd ((List.range 12).foldl (fun v r => Rb v m r) (Ib h lo hi last node))) (h, 0) = some (Fb h m lo hi last node) from ?_]
    · rfl
    refine gv _ 8 (Eb ((List.range 12).foldl (fun v r => Rb v m r) (Ib h lo hi last node))) _ _ (fun v i hi => ?_) ?_
    · unfold kd
      simp only []
      rw [if_pos (by omega), bc _ _ (by omega), bc _ _ (by omega), oJ i (by omega), aY i (by omega), bc _ _ (by omega)]
      rfl
    · rfl
theorem rF (h : ag UInt64 8) (m : ag UInt64 16) (lo hi : UInt64) (last node : Bool) : vU h m lo hi last node = some (Fb h m lo hi last node) := by
  unfold vU
  rw [KC]
  simp only [Option.bind_some]
  refine gv _ 12 (fun v r => Rb v m r) _ _ (fun v i hi => ?_) ?_
  · unfold pA
    simp only []
    rw [if_pos (by omega), C_ _ _ _ hi, aY i (by omega)]
    rfl
  · unfold pA
    simp only []
    rw [if_neg (by omega)]
    rw [show aP (pz ((List.range 12).foldl (fun v r => Rb v m r) (Ib h lo hi last node))) (h, 0) = some (Fb h m lo hi last node) from ?_]
    · rfl
    refine gv _ 8 (Eb ((List.range 12).foldl (fun v r => Rb v m r) (Ib h lo hi last node))) _ _ (fun v i hi => ?_) ?_
    · unfold pz
      simp only []
      rw [if_pos (by omega), bc _ _ (by omega), bc _ _ (by omega), oJ i (by omega), aY i (by omega), bc _ _ (by omega)]
      simp only [Option.bind_some, UInt64.xor_assoc]
      rfl
    · rfl
end Go.Sx
namespace Go.Sx
open Go.RowKit
set_option linter.unusedVariables false
set_option linter.unusedSimpArgs false
def Ia : List UInt8 → UInt64
  | [] => 0
  | b :: r => UInt64.ofNat b.toNat + 256 * Ia r
def r9 : List UInt8 → Nat
  | [] => 0
  | b :: r => b.toNat + 256 * r9 r
theorem Da (l : List UInt8) : r9 l < 256 ^ l.length := by
  induction l with
  | nil => simp [r9]
  | cons b r ih =>
    have := b.toNat_lt
    simp only [r9, List.length_cons, Nat.pow_succ]
    omega
theorem zg (l : List UInt8) (b : UInt8) : r9 (l ++ [b]) = r9 l + 256 ^ l.length * b.toNat := by
  induction l with
  | nil => simp [r9]
  | cons x r ih =>
    simp only [List.cons_append, r9, ih, List.length_cons, Nat.pow_succ, Nat.mul_add]
    rw [Nat.mul_comm (256 ^ r.length) 256, Nat.mul_assoc]
    omega
theorem zh (n : Nat) : 256 ^ n = 2 ^ (8 * n) := by
  rw [show (256 : Nat) = 2 ^ 8 from rfl, ← Nat.pow_mul]
theorem Gi (b : List UInt8) (hb : b.length ≤ 33554432) (at_ : Int) (ha : -9223372036854775808 ≤ at_ ∧ at_ ≤ 9223372036854775807) (n : Nat) (hn : n ≤ 8) :
    i_ b at_ n = some (if at_ < 0 then (0, 1) else if (b.length : Int) < at_ + n then (0, 3) else (UInt64.ofNat (r9 ((b.drop at_.toNat).take n)), 0)) := by
  unfold i_
  by_cases h0 : at_ < 0
  · rw [if_pos h0, if_pos h0]
  rw [if_neg h0, if_neg h0]
  have e : ((decide (((b.length : Nat) : Int) < at_)) || (decide ((aA (((b.length : Nat) : Int) - at_)) < n))) = true ↔ (b.length : Int) < at_ + n := by
    rw [cw (by omega)]
    simp only [Bool.or_eq_true, decide_eq_true_eq]
    omega
  by_cases h1 : (b.length : Int) < at_ + n
  · rw [if_pos (e.2 h1), if_pos h1]
  rw [if_neg (fun h => h1 (e.1 h)), if_neg h1]
  obtain ⟨a, rfl⟩ : ∃ a : Nat, at_ = a := ⟨at_.toNat, by omega⟩
  simp only [Int.toNat_natCast]
  refine gZ (fun i s => s = (UInt64.ofNat (r9 ((b.drop a).take i)), (i : Int)) ∧ i ≤ n) _ n _ ⟨by simp [r9], by omega⟩ ?_
  rintro i s ⟨rfl, hi⟩
  unfold jk
  by_cases eN : i < n
  · left
    refine ⟨eN, (UInt64.ofNat (r9 ((b.drop a).take (i + 1))), ((i + 1 : Nat) : Int)), ?_, rfl, by omega⟩
    have e1 : aA ((a : Int) + (i : Int)) = ((a + i : Nat) : Int) := by rw [cw (by omega)]; omega
    have N3 : a + i < b.length := by omega
    have e2 : aA (8 * (i : Int)) = ((8 * i : Nat) : Int) := by rw [cw (by omega)]; omega
    have e3 : aA ((i : Int) + 1) = ((i + 1 : Nat) : Int) := by rw [cw (by omega)]; omega
    simp only []
    rw [if_pos (by omega), e1, bM N3]
    simp only [Option.bind_some]
    rw [e2, iE (by omega), e3]
    simp only [Option.bind_some, Int.toNat_natCast]
    congr 3
    have hd : (b.drop a).take (i + 1) = (b.drop a).take i ++ [b[a + i]] := by
      rw [List.take_succ_eq_append_getElem (by simp; omega)]
      simp
    rw [hd, zg, List.length_take, List.length_drop, Nat.min_eq_left (by omega), zh]
    have hx := (b[a + i]).toNat_lt
    have KD := Da ((b.drop a).take i)
    rw [List.length_take, List.length_drop, Nat.min_eq_left (by omega), zh] at KD
    have hp : 2 ^ (8 * i) * 256 = 2 ^ (8 * (i + 1)) := by rw [show 8 * (i + 1) = 8 * i + 8 from by omega, Nat.pow_add]
    have hq : 2 ^ (8 * (i + 1)) ≤ 2 ^ 64 := Nat.pow_le_pow_right (by omega) (by omega)
    have hr : 2 ^ (8 * i) * (b[a + i]).toNat < 2 ^ (8 * (i + 1)) := by
      rw [← hp]; exact Nat.mul_lt_mul_of_pos_left hx (Nat.pow_pos (by omega))
    apply UInt64.eq_of_toBitVec_eq
    apply BitVec.eq_of_toNat_eq
    simp only [UInt64.toBitVec_or, gl, BitVec.toNat_or, BitVec.toNat_shiftLeft]
    simp only [UInt64.toNat_toBitVec, UInt64.toNat_ofNat']
    have m1 : r9 ((b.drop a).take i) % 2 ^ 64 = r9 ((b.drop a).take i) := Nat.mod_eq_of_lt (by omega)
    have m2 : (b[a + i]).toNat % 2 ^ 64 = (b[a + i]).toNat := Nat.mod_eq_of_lt (by omega)
    have m3 : ((b[a + i]).toNat <<< (8 * i)) % 2 ^ 64 = (b[a + i]).toNat <<< (8 * i) := by
      apply Nat.mod_eq_of_lt; rw [Nat.shiftLeft_eq, Nat.mul_comm]; omega
    rw [m1, m2, m3, Nat.or_comm, ← Nat.shiftLeft_add_eq_or_of_lt KD, Nat.shiftLeft_eq, Nat.mul_comm]
    rw [Nat.mod_eq_of_lt]
    · omega
    · have : r9 ((b.drop a).take i) + 2 ^ (8 * i) * (b[a + i]).toNat < 2 ^ (8 * (i + 1)) := by
        rw [← hp]
        have h5 : 2 ^ (8 * i) * (b[a + i]).toNat + 2 ^ (8 * i) ≤ 2 ^ (8 * i) * 256 := by
          rw [← Nat.mul_succ]; exact Nat.mul_le_mul_left _ (by omega)
        omega
      omega
  · right
    obtain rfl : i = n := by omega
    simp
theorem KE (b : List UInt8) (hb : b.length ≤ 33554432) (at_ : Int) (ha : -9223372036854775808 ≤ at_ ∧ at_ ≤ 9223372036854775807) (n : Nat) (hn : n ≤ 8) :
    ll b at_ n = some (if at_ < 0 then (0, 1) else if (b.length : Int) < at_ + n then (0, 3) else (UInt64.ofNat (r9 ((b.drop at_.toNat).take n)), 0)) := by
  unfold ll
  by_cases h0 : at_ < 0
  · rw [if_pos h0, if_pos h0]
  rw [if_neg h0, if_neg h0]
  have e : ((decide (((b.length : Nat) : Int) < at_)) || (decide ((aA (((b.length : Nat) : Int) - at_)) < n))) = true ↔ (b.length : Int) < at_ + n := by
    rw [cw (by omega)]
    simp only [Bool.or_eq_true, decide_eq_true_eq]
    omega
  by_cases h1 : (b.length : Int) < at_ + n
  · rw [if_pos (e.2 h1), if_pos h1]
  rw [if_neg (fun h => h1 (e.1 h)), if_neg h1]
  obtain ⟨a, rfl⟩ : ∃ a : Nat, at_ = a := ⟨at_.toNat, by omega⟩
  simp only [Int.toNat_natCast]
  rw [cw (by omega)]
  refine gZ (fun i s => s = (UInt64.ofNat (r9 (((b.drop a).take n).drop (n - i))), (n : Int) - 1 - i) ∧ i ≤ n) _ n _ ⟨?_, by omega⟩ ?_
  · have : ((b.drop a).take n).drop (n - 0) = [] := by apply List.drop_eq_nil_of_le; simp; omega
    rw [this]; simp [r9]
  rintro i s ⟨rfl, hi⟩
  unfold o1
  by_cases eN : i < n
  · left
    refine ⟨eN, _, ?_, rfl, by omega⟩
    have e1 : aA ((a : Int) + ((n : Int) - 1 - i)) = ((a + (n - 1 - i) : Nat) : Int) := by rw [cw (by omega)]; omega
    have e3 : aA ((n : Int) - 1 - i - 1) = (n : Int) - 1 - ((i + 1 : Nat) : Int) := by rw [cw (by omega)]; omega
    simp only []
    rw [if_pos (by omega), e1, bM (by omega : a + (n - 1 - i) < b.length)]
    simp only [Option.bind_some]
    rw [e3]
    congr 3
    have hd : ((b.drop a).take n).drop (n - (i + 1)) = b[a + (n - 1 - i)] :: ((b.drop a).take n).drop (n - i) := by
      rw [List.drop_eq_getElem_cons (by simp; omega)]
      simp only [List.getElem_take, List.getElem_drop]
      have q1 : n - (i + 1) + 1 = n - i := by omega
      rw [q1]
      congr 2; omega
    rw [hd, r9]
    apply UInt64.eq_of_toBitVec_eq
    apply BitVec.eq_of_toNat_eq
    simp only [UInt64.toNat_toBitVec, UInt64.toNat_add, UInt64.toNat_mul, UInt64.toNat_ofNat']
    generalize r9 _ = y
    generalize (b[a + (n - 1 - i)]).toNat = z
    have : UInt64.toNat 256 = 256 := rfl
    rw [this]
    omega
  · right
    obtain rfl : i = n := by omega
    simp only []
    rw [if_neg (by omega)]
    simp
theorem Ic (b : List UInt8) (hb : b.length ≤ 33554432) (at_ : Int) (ha : -9223372036854775808 ≤ at_ ∧ at_ ≤ 9223372036854775807) :
    gx b at_ = some (if at_ < 0 then (0, 1) else if (b.length : Int) < at_ + 4 then (0, 3) else (UInt32.ofNat (r9 ((b.drop at_.toNat).take 4)), 0)) := by
  unfold gx
  have := Gi b hb at_ ha 4 (by omega)
  rw [show ((4 : Nat) : Int) = 4 from rfl] at this
  rw [this]
  simp only [Option.bind_some]
  split
  · rfl
  split
  · rfl
  congr 2
  have eN := Da ((b.drop at_.toNat).take 4)
  have hq : 256 ^ ((b.drop at_.toNat).take 4).length ≤ 256 ^ 4 := Nat.pow_le_pow_right (by omega) (by simp; omega)
  simp only [UInt64.toNat_ofNat']
  rw [Nat.mod_eq_of_lt (by omega)]
theorem Ie (b : List UInt8) (hb : b.length ≤ 33554432) (at_ : Int) (ha : -9223372036854775808 ≤ at_ ∧ at_ ≤ 9223372036854775807) :
    eY b at_ = some (if at_ < 0 then (0, 1) else if (b.length : Int) < at_ + 8 then (0, 3) else (UInt64.ofNat (r9 ((b.drop at_.toNat).take 8)), 0)) := by
  unfold eY
  have := Gi b hb at_ ha 8 (by omega)
  rw [show ((8 : Nat) : Int) = 8 from rfl] at this
  rw [this]
  rfl
theorem Fo (w : UInt64) : gN w = some ((List.range 8).map fun i => UInt8.ofNat (w.toNat / 256 ^ i)) := by
  unfold gN
  refine gZ (fun i s => s = ((List.range i).map (fun i => UInt8.ofNat (w.toNat / 256 ^ i)) ++ List.replicate (8 - i) 0, (i : Int)) ∧ i ≤ 8) _ 8 _ ⟨by simp, by omega⟩ ?_
  rintro i s ⟨rfl, hi⟩
  unfold gC
  by_cases eN : i < 8
  · left
    refine ⟨eN, _, ?_, rfl, by omega⟩
    have e2 : aA (8 * (i : Int)) = ((8 * i : Nat) : Int) := by rw [cw (by omega)]; omega
    have e3 : aA ((i : Int) + 1) = ((i + 1 : Nat) : Int) := by rw [cw (by omega)]; omega
    simp only []
    rw [if_pos (by omega), e2, iE (by omega), e3]
    simp only [Option.bind_some]
    rw [bM (by simp; omega)]
    simp only [Option.bind_some, Int.toNat_natCast]
    congr 3
    have hr : List.replicate (8 - i) (0 : UInt8) = 0 :: List.replicate (8 - (i + 1)) 0 := by
      rw [← List.replicate_succ]; congr 1; omega
    rw [hr, List.range_succ, List.map_append, List.append_assoc]
    rw [List.set_append_right _ _ (by simp)]
    simp only [List.length_map, List.length_range, Nat.sub_self, List.set_cons_zero, List.map_cons, List.map_nil, List.cons_append, List.nil_append]
    congr 2
    apply UInt8.eq_of_toBitVec_eq; apply BitVec.eq_of_toNat_eq
    simp only [dz, zh]
    simp [Nat.shiftRight_eq_div_pow]
  · right
    obtain rfl : i = 8 := by omega
    simp
theorem Db (w : UInt64) (n : Nat) (hn : n ≤ 8) : n9 w n = some ((List.range n).map fun i => UInt8.ofNat (w.toNat / 256 ^ i)) := by
  unfold n9
  refine gZ (fun i s => s = (UInt64.ofNat (w.toNat / 256 ^ i), (List.range i).map (fun i => UInt8.ofNat (w.toNat / 256 ^ i)), (i : Int)) ∧ i ≤ n) _ n _ ⟨by simp, by omega⟩ ?_
  rintro i s ⟨rfl, hi⟩
  unfold n8
  have hw := w.toNat_lt
  have hd : w.toNat / 256 ^ i ≤ w.toNat := Nat.div_le_self _ _
  by_cases eN : i < n
  · left
    refine ⟨eN, _, ?_, rfl, by omega⟩
    have e3 : aA ((i : Int) + 1) = ((i + 1 : Nat) : Int) := by rw [cw (by omega)]; omega
    simp only []
    rw [if_pos (by omega), fJ (by simp; omega), e3]
    simp only [Option.bind_some]
    have q1 : UInt64.ofNat (w.toNat / 256 ^ i) / 256 = UInt64.ofNat (w.toNat / 256 ^ (i + 1)) := by
      apply UInt64.eq_of_toBitVec_eq; apply BitVec.eq_of_toNat_eq
      simp only [UInt64.toNat_toBitVec, UInt64.toNat_div, UInt64.toNat_ofNat']
      rw [Nat.mod_eq_of_lt (by omega), Nat.mod_eq_of_lt (Nat.lt_of_le_of_lt (Nat.div_le_self _ _) hw), Nat.pow_succ, ← Nat.div_div_eq_div_mul]
      rfl
    have q2 : UInt8.ofNat (UInt64.ofNat (w.toNat / 256 ^ i) % 256).toNat = UInt8.ofNat (w.toNat / 256 ^ i) := by
      apply UInt8.eq_of_toBitVec_eq; apply BitVec.eq_of_toNat_eq
      simp only [UInt8.toNat_toBitVec, UInt8.toNat_ofNat', UInt64.toNat_mod, UInt64.toNat_ofNat']
      rw [show UInt64.toNat 256 = 256 from rfl]
      omega
    rw [q1, q2, List.range_succ, List.map_append]
    rfl
  · right
    obtain rfl : i = n := by omega
    simp
theorem Ig (lo hi n : UInt64) : gh lo hi n = some (UInt64.ofNat (lo.toNat + 18446744073709551616 * hi.toNat + n.toNat), UInt64.ofNat ((lo.toNat + 18446744073709551616 * hi.toNat + n.toNat) / 18446744073709551616), decide (340282366920938463463374607431768211456 ≤ lo.toNat + 18446744073709551616 * hi.toNat + n.toNat)) := by
  have hl := lo.toNat_lt
  have hh := hi.toNat_lt
  have hn := n.toNat_lt
  unfold gh xi
  simp only [show (0 : UInt64).toNat = 0 from rfl, Nat.zero_le, if_true, Option.bind_some, Nat.add_zero]
  have hc : (UInt64.ofNat ((lo.toNat + n.toNat) / 18446744073709551616)).toNat = (lo.toNat + n.toNat) / 18446744073709551616 := by
    simp only [UInt64.toNat_ofNat']; omega
  rw [hc, if_pos (by omega)]
  simp only [Option.bind_some, Option.some.injEq, Prod.mk.injEq]
  refine ⟨?_, ?_, ?_⟩
  · rw [← UInt64.toNat_inj]; simp only [UInt64.toNat_ofNat']; omega
  · rw [← UInt64.toNat_inj]; simp only [UInt64.toNat_ofNat']; omega
  · rw [decide_eq_decide, ← UInt64.toNat_inj]
    simp only [UInt64.toNat_ofNat', show (1 : UInt64).toNat = 1 from rfl]
    omega
theorem N4 (lo hi n : UInt64) : mB lo hi n = some (UInt64.ofNat (lo.toNat + 18446744073709551616 * hi.toNat + n.toNat), UInt64.ofNat ((lo.toNat + 18446744073709551616 * hi.toNat + n.toNat) / 18446744073709551616), decide (340282366920938463463374607431768211456 ≤ lo.toNat + 18446744073709551616 * hi.toNat + n.toNat)) := by
  have hl := lo.toNat_lt
  have hh := hi.toNat_lt
  have hn := n.toNat_lt
  unfold mB
  have hs : (lo + n).toNat = (lo.toNat + n.toNat) % 18446744073709551616 := UInt64.toNat_add lo n
  have PO : (hi + 1).toNat = (hi.toNat + 1) % 18446744073709551616 := UInt64.toNat_add hi 1
  by_cases hc : lo ≤ lo + n
  · rw [if_pos hc]
    rw [UInt64.le_iff_toNat_le, hs] at hc
    simp only [Option.some.injEq, Prod.mk.injEq]
    refine ⟨?_, ?_, ?_⟩
    · rw [← UInt64.toNat_inj, hs]; simp only [UInt64.toNat_ofNat']; omega
    · rw [← UInt64.toNat_inj]; simp only [UInt64.toNat_ofNat']; omega
    · symm; rw [decide_eq_false_iff_not]; omega
  · rw [if_neg hc]
    rw [UInt64.le_iff_toNat_le, hs] at hc
    simp only [Option.some.injEq, Prod.mk.injEq]
    refine ⟨?_, ?_, ?_⟩
    · rw [← UInt64.toNat_inj, hs]; simp only [UInt64.toNat_ofNat']; omega
    · rw [← UInt64.toNat_inj, PO]; simp only [UInt64.toNat_ofNat']; omega
    · rw [decide_eq_decide, ← UInt64.toNat_inj, PO]
      simp only [show (0 : UInt64).toNat = 0 from rfl]
      omega
def iY (c : UInt64 × UInt64) (n : UInt64) : UInt64 × UInt64 := (UInt64.ofNat (c.1.toNat + 18446744073709551616 * c.2.toNat + n.toNat), UInt64.ofNat ((c.1.toNat + 18446744073709551616 * c.2.toNat + n.toNat) / 18446744073709551616))
def wQ (b : List UInt8) (i : Nat) : UInt64 := UInt64.ofNat (r9 ((b.drop (8 * i)).take 8))
def Wb (b : List UInt8) : ag UInt64 16 := (List.range 16).foldl (fun m (i : Nat) => da m i (wQ b i)) (ag.rep 16 0)
theorem Dc (i : Nat) (h : i < 100) : aA (8 * (i : Int)) = ((8 * i : Nat) : Int) := by rw [cw (by omega)]; omega
theorem Dd (b : List UInt8) (i : Nat) (hb : b.length ≤ 33554432) (hi : 8 * i + 8 ≤ b.length) : eY b ((8 * i : Nat) : Int) = some (wQ b i, 0) := by
  rw [Ie b hb _ (by omega), if_neg (by omega), if_neg (by omega), Int.toNat_natCast]
  rfl
theorem De (b : List UInt8) (i : Nat) (hb : b.length ≤ 33554432) (hi : 8 * i + 8 ≤ b.length) : ll b ((8 * i : Nat) : Int) 8 = some (wQ b i, 0) := by
  have := KE b hb ((8 * i : Nat) : Int) (by omega) 8 (by omega)
  rw [show ((8 : Nat) : Int) = 8 from rfl] at this
  rw [this, if_neg (by omega), if_neg (by omega), Int.toNat_natCast]
  rfl
theorem Ih (b : List UInt8) (hb : b.length = 128) : jo b = some (Wb b, 0) := by
  unfold jo
  rw [if_neg (by omega)]
  refine gv _ 16 (fun m (i : Nat) => da m i (wQ b i)) _ _ (fun v i hi => ?_) (by unfold gp; simp only []; rw [if_neg (by omega)]; rfl)
  unfold gp
  simp only []
  rw [if_pos (by omega), Dc i (by omega), Dd b i (by omega) (by omega), bc _ _ hi, aY i (by omega)]
  rfl
theorem Ii (b : List UInt8) (hb : b.length = 128) : nS b = some (Wb b, 0) := by
  unfold nS
  rw [if_neg (by omega)]
  refine gv _ 16 (fun m (i : Nat) => da m i (wQ b i)) _ _ (fun v i hi => ?_) (by unfold lq; simp only []; rw [if_neg (by omega)]; rfl)
  unfold lq
  simp only []
  rw [if_pos (by omega), Dc i (by omega), De b i (by omega) (by omega), bc _ _ hi, aY i (by omega)]
  rfl
def Df (b : List UInt8) : ag UInt64 8 := (List.range 8).foldl (fun h (i : Nat) => da h i (Fm.getD i 0 ^^^ wQ b i)) (ag.rep 8 0)
theorem Ij (b : List UInt8) (hb : b.length = 64) : nQ b = some (Df b, 0) := by
  unfold nQ
  rw [if_neg (by omega)]
  refine gv _ 8 (fun m (i : Nat) => da m i (Fm.getD i 0 ^^^ wQ b i)) _ _ (fun v i hi => ?_) (by unfold ln; simp only []; rw [if_neg (by omega)]; rfl)
  unfold ln
  simp only []
  rw [if_pos (by omega), Dc i (by omega), De b i (by omega) (by omega), bc _ _ hi, aY i (by omega), PN i hi]
  rfl
theorem Ik (b : List UInt8) (hb : b.length = 64) : jl b = some (Df b, 0) := by
  unfold jl mw
  rw [if_neg (by omega)]
  simp only [Option.bind_some]
  have key : ∀ x : Nat → UInt64, (List.range 8).foldl (fun (h : ag UInt64 8) (i : Nat) => da h i (h.g i ^^^ x i)) ⟨Fm, rfl⟩ = (List.range 8).foldl (fun h (i : Nat) => da h i (Fm.getD i 0 ^^^ x i)) (ag.rep 8 0) := fun x => rfl
  refine gv _ 8 (fun h (i : Nat) => da h i (h.g i ^^^ wQ b i)) _ _ (fun v i hi => ?_) ?_
  · unfold iF
    simp only []
    rw [if_pos (by omega), Dc i (by omega), Dd b i (by omega) (by omega), bc _ _ hi, aY i (by omega)]
    rfl
  · have := key (wQ b)
    unfold Fm at this
    rw [this]
    rfl
def tR (n : Nat) (w : UInt64) : List UInt8 := (List.range n).map fun i => UInt8.ofNat (w.toNat / 256 ^ i)
def Il (h : ag UInt64 8) : List UInt8 := (List.range 8).foldl (fun b i => b ++ tR 8 (h.g i)) []
theorem ru (h : Nat → List UInt8) (k : Nat) (hk : ∀ i, (h i).length = k) : ∀ n, ((List.range n).foldl (fun b i => b ++ h i) []).length = n * k := by
  intro n
  induction n with
  | zero => simp
  | succ n ih => rw [List.range_succ, List.foldl_append]; simp only [List.foldl_cons, List.foldl_nil, List.length_append, ih, hk]; rw [Nat.succ_mul]
theorem nh (n : Nat) (w : UInt64) : (tR n w).length = n := by simp [tR]
theorem wR (h : ag UInt64 8) : (Il h).length = 64 := by unfold Il; rw [ru _ 8 (fun i => nh 8 _)]
theorem Im (h : ag UInt64 8) : jx h = some (Il h) := by
  unfold jx
  refine bY (fun i => ((List.range i).foldl (fun b i => b ++ tR 8 (h.g i)) [], (i : Int))) 8 (fun i hi => ?_) rfl
  unfold iJ
  simp only []
  rw [if_pos (by omega), bc _ _ hi, aY i (by omega)]
  simp only [Option.bind_some]
  rw [Fo]
  simp only [Option.bind_some]
  have hq : (List.range (i + 1)).foldl (fun b i => b ++ tR 8 (h.g i)) [] = (List.range i).foldl (fun b i => b ++ tR 8 (h.g i)) [] ++ tR 8 (h.g i) := by rw [List.range_succ, List.foldl_append]; rfl
  rw [fJ (by rw [ru _ 8 (fun i => nh 8 _)]; simp; omega), hq]
  rfl
end Go.Sx
namespace Go.Sx
open Go.RowKit
set_option linter.unusedVariables false
set_option linter.unusedSimpArgs false
def ny (x : UInt32) (k : Nat) : UInt32 := eD x k ||| kJ x (32 - k)
theorem N5 (x : UInt32) : bP x (-16) = some (ny x 16) := by
  show some (kJ x 16 ||| eD x 16) = _
  rw [UInt32.or_comm]; rfl
theorem N6 (x : UInt32) : bP x (-12) = some (ny x 12) := by
  show some (kJ x 20 ||| eD x 12) = _
  rw [UInt32.or_comm]; rfl
theorem RG (x : UInt32) : bP x (-8) = some (ny x 8) := by
  show some (kJ x 24 ||| eD x 8) = _
  rw [UInt32.or_comm]; rfl
theorem RI (x : UInt32) : bP x (-7) = some (ny x 7) := by
  show some (kJ x 25 ||| eD x 7) = _
  rw [UInt32.or_comm]; rfl
theorem N7 (x : UInt32) : gP x 16 = some (ny x 16) := by kernel_rfl
theorem N8 (x : UInt32) : gP x 12 = some (ny x 12) := by kernel_rfl
theorem RJ (x : UInt32) : gP x 8 = some (ny x 8) := by kernel_rfl
theorem RK (x : UInt32) : gP x 7 = some (ny x 7) := by kernel_rfl
def Gs (v : ag UInt32 16) (a b c d : Nat) (x y : UInt32) : ag UInt32 16 :=
  let v1 := da v a (v.g a + (v.g b + x))
  let v2 := da v1 d (ny (v1.g d ^^^ v1.g a) 16)
  let v3 := da v2 c (v2.g c + v2.g d)
  let v4 := da v3 b (ny (v3.g b ^^^ v3.g c) 12)
  let v5 := da v4 a (v4.g a + (v4.g b + y))
  let v6 := da v5 d (ny (v5.g d ^^^ v5.g a) 8)
  let v7 := da v6 c (v6.g c + v6.g d)
  da v7 b (ny (v7.g b ^^^ v7.g c) 7)
theorem Io (v : ag UInt32 16) (a b c d : Nat) (x y : UInt32) (ha : a < 16) (hb : b < 16) (hc : c < 16) (hd : d < 16) : ld v a b c d x y = some (Gs v a b c d x y) := by
  unfold ld
  simp only [bc _ a ha, bc _ b hb, bc _ c hc, bc _ d hd, Option.bind_some, N5, N6, RG, RI]
  rfl
theorem Be (a b c d : Nat) (ha : a < 16) (hb : b < 16) (hc : c < 16) (hd : d < 16) (hn : a ≠ b ∧ a ≠ c ∧ a ≠ d ∧ b ≠ c ∧ b ≠ d ∧ c ≠ d) : mY a b c d = some true := by
  have hl : ∀ i : Nat, i < 4 → ∃ x : Nat, an ([(a : Int), (b : Int), (c : Int), (d : Int)] : List Int) (i : Int) = some (x : Int) ∧ x < 16 ∧ ∀ j : Nat, j < i → ∃ y : Nat, an ([(a : Int), (b : Int), (c : Int), (d : Int)] : List Int) (j : Int) = some (y : Int) ∧ x ≠ y := by
    intro i hi
    match i, hi with
    | 0, _ => exact ⟨a, rfl, ha, fun j hj => by omega⟩
    | 1, _ => exact ⟨b, rfl, hb, fun j hj => by match j, hj with | 0, _ => exact ⟨a, rfl, by omega⟩⟩
    | 2, _ => exact ⟨c, rfl, hc, fun j hj => by match j, hj with | 0, _ => exact ⟨a, rfl, by omega⟩ | 1, _ => exact ⟨b, rfl, by omega⟩⟩
    | 3, _ => exact ⟨d, rfl, hd, fun j hj => by match j, hj with | 0, _ => exact ⟨a, rfl, by omega⟩ | 1, _ => exact ⟨b, rfl, by omega⟩ | 2, _ => exact ⟨c, rfl, by omega⟩⟩
  unfold mY
  refine bY (fun i => (i : Int)) 4 (fun i hi => ?_) rfl
  obtain ⟨x, h1, h2, h3⟩ := hl i hi
  unfold ns
  rw [if_pos (by omega), h1]
  simp only [Option.bind_some]
  have hx : decide ((x : Int) < 0) = false := by rw [decide_eq_false_iff_not]; omega
  rw [hx]
  simp only [I8, Bool.not_false, if_true, Option.bind_some, Bool.false_or, decide_eq_true_eq]
  rw [if_neg (by omega)]
  refine bY (fun j => (j : Int)) i (fun j hj => ?_) ?_
  · obtain ⟨y, g1, g2⟩ := h3 j hj
    unfold kH
    rw [if_pos (by omega), h1, g1]
    simp only [Option.bind_some]
    rw [if_neg (by omega), aY j (by omega)]
  · unfold kH
    rw [if_neg (by omega), aY i (by omega)]
    rfl
theorem KF (v : ag UInt32 16) (a b c d : Nat) (x y : UInt32) (ha : a < 16) (hb : b < 16) (hc : c < 16) (hd : d < 16) (hn : a ≠ b ∧ a ≠ c ∧ a ≠ d ∧ b ≠ c ∧ b ≠ d ∧ c ≠ d) : vV v a b c d x y = some (Gs v a b c d x y, 0) := by
  unfold vV
  rw [Be a b c d ha hb hc hd hn]
  simp only [Option.bind_some, Bool.not_true, Bool.false_eq_true, if_false]
  simp only [bc _ a ha, bc _ b hb, bc _ c hc, bc _ d hd, Option.bind_some, N7, N8, RJ, RK, UInt32.add_assoc]
  rfl
def Ss (m : ag UInt32 16) (r : Nat) (v : ag UInt32 16) (i : Nat) : ag UInt32 16 := Gs v (pl i).1 (pl i).2.1 (pl i).2.2.1 (pl i).2.2.2 (m.g (sg r (2 * i))) (m.g (sg r (2 * i + 1)))
def Rs (v m : ag UInt32 16) (r : Nat) : ag UInt32 16 := (List.range 8).foldl (Ss m r) v
theorem N9 : ∃ Oa, jZ = some Oa ∧ ∀ i : Nat, i < 8 → ∃ p : ag Int 4, an Oa.l (i : Int) = some p ∧ p.l = [((pl i).1 : Int), ((pl i).2.1 : Int), ((pl i).2.2.1 : Int), ((pl i).2.2.2 : Int)] := by
  refine ⟨_, rfl, fun i hi => ?_⟩
  match i, hi with
  | 0, _ => exact ⟨_, rfl, rfl⟩
  | 1, _ => exact ⟨_, rfl, rfl⟩
  | 2, _ => exact ⟨_, rfl, rfl⟩
  | 3, _ => exact ⟨_, rfl, rfl⟩
  | 4, _ => exact ⟨_, rfl, rfl⟩
  | 5, _ => exact ⟨_, rfl, rfl⟩
  | 6, _ => exact ⟨_, rfl, rfl⟩
  | 7, _ => exact ⟨_, rfl, rfl⟩
theorem Bf (v m : ag UInt32 16) (r : Nat) (hr : r < 10) : jv v m (r : Int) = some (Rs v m r, m) := by
  obtain ⟨row, h1, h2⟩ := PM r (by omega)
  unfold jv
  rw [h1]
  simp only [Option.bind_some]
  obtain ⟨Oa, ht, hp⟩ := N9
  rw [ht]
  simp only [Option.bind_some]
  refine gv _ 8 (Ss m r) v _ (fun v i hi => ?_) rfl
  unfold iI
  obtain ⟨p1, p2, p3, p4, _⟩ := Ae i hi
  simp only []
  rw [if_pos (by omega), Af i (by omega), aY _ (by omega), aY _ (by omega), h2 _ (by omega), h2 _ (by omega)]
  simp only [Option.bind_some]
  rw [bc _ _ (rO r (by omega) _ (by omega)), bc _ _ (rO r (by omega) _ (by omega))]
  obtain ⟨p', k1, k2⟩ := hp i hi
  rw [k1]
  have e0 : an p'.l 0 = some ((pl i).1 : Int) := by rw [k2]; rfl
  have e1 : an p'.l 1 = some ((pl i).2.1 : Int) := by rw [k2]; rfl
  have e2 : an p'.l 2 = some ((pl i).2.2.1 : Int) := by rw [k2]; rfl
  have e3 : an p'.l 3 = some ((pl i).2.2.2 : Int) := by rw [k2]; rfl
  simp only [Option.bind_some, e0, e1, e2, e3]
  rw [Io v _ _ _ _ _ _ p1 p2 p3 p4]
  rfl
theorem Fq : ∀ i : Nat, i < 8 → tg (i : Int) = some ((((pl i).1 : Nat) : Int), (((pl i).2.1 : Nat) : Int), (((pl i).2.2.1 : Nat) : Int), (((pl i).2.2.2 : Nat) : Int)) := by decide +kernel
theorem Bg (v m : ag UInt32 16) (r : Nat) (hr : r < 10) : nY v m (r : Int) = some (Rs v m r, 0) := by
  unfold nY
  rw [if_neg (by simp only [Bool.or_eq_true, decide_eq_true_eq]; omega)]
  refine gv _ 8 (Ss m r) v _ (fun v i hi => ?_) rfl
  unfold nX
  obtain ⟨p1, p2, p3, p4, hn⟩ := Ae i hi
  simp only []
  rw [if_pos (by omega), Fq i hi, Af i (by omega), aY _ (by omega), aY _ (by omega)]
  simp only [Option.bind_some]
  rw [LG r (by omega) _ (by omega), LG r (by omega) _ (by omega)]
  simp only [Option.bind_some]
  rw [bc _ _ (rO r (by omega) _ (by omega)), bc _ _ (rO r (by omega) _ (by omega))]
  simp only [Option.bind_some]
  rw [KF v _ _ _ _ _ _ p1 p2 p3 p4 hn]
  rfl
def LH : List UInt32 := [1779033703, 3144134277, 1013904242, 2773480762, 1359893119, 2600822924, 528734635, 1541459225]
def RL (h : ag UInt32 8) : ag UInt32 16 := ⟨h.l ++ LH, by simp [h.h, LH]⟩
def Is (h : ag UInt32 8) (lo : UInt64) (last node : Bool) : ag UInt32 16 :=
  let v0 := RL h
  let v1 := da v0 12 (v0.g 12 ^^^ UInt32.ofNat lo.toNat)
  let v2 := da v1 13 (v1.g 13 ^^^ UInt32.ofNat (dz lo 32).toNat)
  let v3 := if last then da v2 14 (4294967295 ^^^ v2.g 14) else v2
  if node then da v3 15 (4294967295 ^^^ v3.g 15) else v3
theorem Ip (h : ag UInt32 8) (lo : UInt64) (last node : Bool) : kS h lo last node = some (Is h lo last node) := by
  obtain ⟨a, b, c, d, e, f, g, q, rfl⟩ := rr (v := h)
  cases last <;> cases node <;> kernel_rfl
theorem Iq (h : ag UInt32 8) (lo : UInt64) (last node : Bool) : nW h lo last node = some (Is h lo last node) := by
  unfold nW qb
  simp only [Option.bind_some]
  refine gv _ 8 (fun v (i : Nat) => da (da v i (h.g i)) ((i + 8 : Nat) : Int) (LH.getD i 0)) _ _ (fun v i hi => ?_) ?_
  · unfold lx
    simp only []
    rw [if_pos (by omega), bc _ _ hi, bc _ _ (by omega), oJ i (by omega), aY i (by omega)]
    simp only [Option.bind_some]
    rw [bM (by simp; omega), bc _ _ (by omega)]
    match i, hi with
    | 0, _ => rfl
    | 1, _ => rfl
    | 2, _ => rfl
    | 3, _ => rfl
    | 4, _ => rfl
    | 5, _ => rfl
    | 6, _ => rfl
    | 7, _ => rfl
  · obtain ⟨a, b, c, d, e, f, g, q, rfl⟩ := rr (v := h)
    unfold lx lv lu Is
    simp only [UInt32.xor_comm _ 4294967295]
    cases last <;> cases node <;> kernel_rfl
def Es (v : ag UInt32 16) (h : ag UInt32 8) (i : Nat) : ag UInt32 8 := da h i (h.g i ^^^ (v.g i ^^^ v.g (i + 8)))
def Fs (h : ag UInt32 8) (m : ag UInt32 16) (lo : UInt64) (last node : Bool) : ag UInt32 8 :=
  (List.range 8).foldl (Es ((List.range 10).foldl (fun v r => Rs v m r) (Is h lo last node))) h
theorem Ob (h : ag UInt32 8) (v : ag UInt32 16) : lg h v = some ((List.range 8).foldl (Es v) h) := by
  unfold lg
  refine gv _ 8 (Es v) _ _ (fun h i hi => ?_) rfl
  unfold j0
  simp only []
  rw [if_pos (by omega), bc _ _ (by omega), bc _ _ (by omega), oJ i (by omega), aY i (by omega), bc _ _ (by omega)]
  rfl
theorem Oc (h : ag UInt32 8) (v : ag UInt32 16) : ra h v = some ((List.range 8).foldl (Es v) h) := by
  unfold ra
  refine gv _ 8 (Es v) _ _ (fun h i hi => ?_) rfl
  unfold qg
  simp only []
  rw [if_pos (by omega), bc _ _ (by omega), bc _ _ (by omega), oJ i (by omega), aY i (by omega), bc _ _ (by omega)]
  simp only [Option.bind_some, UInt32.xor_assoc]
  rfl
theorem RN (h : ag UInt32 8) (m : ag UInt32 16) (lo : UInt64) (last node : Bool) : nO h m lo last node = some (Fs h m lo last node) := by
  unfold nO
  rw [Ip]
  simp only [Option.bind_some]
  refine bY (fun i => (m, (List.range i).foldl (fun v r => Rs v m r) (Is h lo last node), (i : Int))) 10 (fun i hi => ?_) ?_
  · unfold kf
    simp only []
    rw [if_pos (by omega), Bf _ _ _ hi, aY i (by omega), List.range_succ, List.foldl_append]
    rfl
  · unfold kf
    simp only []
    rw [if_neg (by omega), Ob]
    rfl
theorem RO (h : ag UInt32 8) (m : ag UInt32 16) (lo : UInt64) (last node : Bool) : vW h m lo last node = some (Fs h m lo last node) := by
  unfold vW
  rw [Iq]
  simp only [Option.bind_some]
  refine gv _ 10 (fun v r => Rs v m r) _ _ (fun v i hi => ?_) ?_
  · unfold pB
    simp only []
    rw [if_pos (by omega), Bg _ _ _ hi, aY i (by omega)]
    rfl
  · unfold pB
    simp only []
    rw [if_neg (by omega), Oc]
    rfl
end Go.Sx
namespace Go.Sx
open Go.RowKit
set_option linter.unusedVariables false
set_option linter.unusedSimpArgs false
def um (b : List UInt8) (i : Nat) : UInt32 := UInt32.ofNat (r9 ((b.drop (4 * i)).take 4))
theorem Ir (i : Nat) (h : i < 100) : aA (4 * (i : Int)) = ((4 * i : Nat) : Int) := by rw [cw (by omega)]; omega
theorem It (b : List UInt8) (i : Nat) (hb : b.length ≤ 33554432) (hi : 4 * i + 4 ≤ b.length) : gx b ((4 * i : Nat) : Int) = some (um b i, 0) := by
  rw [Ic b hb _ (by omega), if_neg (by omega), if_neg (by omega), Int.toNat_natCast]
  rfl
theorem Dg (b : List UInt8) (i : Nat) (hb : b.length ≤ 33554432) (hi : 4 * i + 4 ≤ b.length) : mW b ((4 * i : Nat) : Int) = some (um b i) := by
  unfold mW
  have k1 : aA (((4 * i : Nat) : Int) + 1) = ((4 * i + 1 : Nat) : Int) := by rw [cw (by omega)]; omega
  have k2 : aA (((4 * i : Nat) : Int) + 2) = ((4 * i + 2 : Nat) : Int) := by rw [cw (by omega)]; omega
  have k3 : aA (((4 * i : Nat) : Int) + 3) = ((4 * i + 3 : Nat) : Int) := by rw [cw (by omega)]; omega
  rw [k1, k2, k3, bM (by omega : 4 * i < b.length), bM (by omega : 4 * i + 1 < b.length), bM (by omega : 4 * i + 2 < b.length), bM (by omega : 4 * i + 3 < b.length)]
  simp only [Option.bind_some, Option.some.injEq]
  have hd : (b.drop (4 * i)).take 4 = [b[4 * i], b[4 * i + 1], b[4 * i + 2], b[4 * i + 3]] := by
    rw [List.drop_eq_getElem_cons (by omega), List.drop_eq_getElem_cons (by omega), List.drop_eq_getElem_cons (by omega), List.drop_eq_getElem_cons (by omega)]
    rfl
  unfold um
  rw [hd]
  generalize b[4 * i] = x0
  generalize b[4 * i + 1] = x1
  generalize b[4 * i + 2] = x2
  generalize b[4 * i + 3] = x3
  have h0 := x0.toNat_lt
  have h1 := x1.toNat_lt
  have h2 := x2.toNat_lt
  have h3 := x3.toNat_lt
  have sh : ∀ (x : UInt32) (k : Nat), (kJ x k).toNat = x.toNat * 2 ^ k % 2 ^ 32 := by
    intro x k
    show (x.toBitVec <<< k).toNat = _
    rw [BitVec.toNat_shiftLeft, Nat.shiftLeft_eq]; rfl
  rw [← UInt32.toNat_inj]
  simp only [UInt32.toNat_add, sh, UInt32.toNat_ofNat', r9]
  rw [show (8 : UInt64).toNat = 8 from rfl, show (16 : UInt64).toNat = 16 from rfl, show (24 : UInt64).toNat = 24 from rfl]
  omega
def Ws (b : List UInt8) : ag UInt32 16 := (List.range 16).foldl (fun m (i : Nat) => da m i (um b i)) (ag.rep 16 0)
theorem Bh {n : Nat} (x : Nat → UInt32) (k : Nat) (v : ag UInt32 n) : ((List.range k).foldl (fun m (i : Nat) => da m i (x i)) v).l = (List.range k).foldl (fun l (i : Nat) => l.set i (x i)) v.l := by
  induction k with
  | zero => rfl
  | succ k ih =>
    rw [List.range_succ, List.foldl_append, List.foldl_append]
    simp only [List.foldl_cons, List.foldl_nil]
    rw [← ih]
    rfl
theorem Ft (x : Nat → UInt32) (k : Nat) (l : List UInt32) : ((List.range k).foldl (fun l (i : Nat) => l.set i (x i)) l).length = l.length := by
  induction k with
  | zero => rfl
  | succ k ih => rw [List.range_succ, List.foldl_append]; simp only [List.foldl_cons, List.foldl_nil, List.length_set, ih]
theorem Dh {n : Nat} (b : List UInt8) (hn : n ≤ 16) (hb : b.length = 4 * n) (v : ag UInt32 n) : hP v.l b = some ((List.range n).foldl (fun m (i : Nat) => da m i (um b i)) v).l := by
  unfold hP
  rw [Bh]
  refine bY (fun i => ((List.range i).foldl (fun l (i : Nat) => l.set i (um b i)) v.l, (i : Int))) n (fun i hi => ?_) ?_
  · unfold gm
    simp only []
    rw [v.h, if_pos (by omega), Ir i (by omega), It b i (by omega) (by omega), bM (by rw [Ft, v.h]; exact hi), aY i (by omega), List.range_succ, List.foldl_append]
    rfl
  · unfold gm
    simp only []
    rw [v.h, if_neg (by omega)]
    rfl
theorem PQ {n : Nat} (v : ag UInt32 n) : ag.of n v.l = v := ag.ext (ag.G_ v.h)
theorem Fv (b : List UInt8) (hb : b.length = 64) : ju b = some (Ws b, 0) := by
  unfold ju hN
  rw [if_neg (by omega), if_neg (by omega)]
  simp only [Option.bind_some, ne_eq, not_true_eq_false, if_false]
  rw [Dh b (by omega) (by omega) (ag.rep 16 0)]
  simp only [Option.bind_some]
  rw [PQ]
  rfl
theorem Fw (b : List UInt8) (hb : b.length = 64) : nV b = some (Ws b, 0) := by
  unfold nV
  rw [if_neg (by omega), if_neg (by omega)]
  refine gv _ 16 (fun m (i : Nat) => da m i (um b i)) _ _ (fun v i hi => ?_) (by unfold lr; simp only []; rw [if_neg (by omega)]; rfl)
  unfold lr
  simp only []
  rw [if_pos (by omega), Ir i (by omega), Dg b i (by omega) (by omega), bc _ _ hi, aY i (by omega)]
  rfl
def Di (b : List UInt8) : ag UInt32 8 := (List.range 8).foldl (fun h (i : Nat) => da h i (h.g i ^^^ um b i)) ⟨LH, rfl⟩
theorem Fx (b : List UInt8) (hb : b.length = 32) : nR b = some (Di b, 0) := by
  unfold nR qb
  rw [if_neg (by omega), if_neg (by omega)]
  simp only [Option.bind_some]
  refine gv _ 8 (fun h (i : Nat) => da h i (h.g i ^^^ um b i)) _ _ (fun v i hi => ?_) (by unfold lp; simp only []; rw [if_neg (by omega)]; rfl)
  unfold lp
  simp only []
  rw [if_pos (by omega), Ir i (by omega), Dg b i (by omega) (by omega), bc _ _ hi, aY i (by omega)]
  rfl
theorem Od (x : Nat → UInt32) : ∀ i : Nat, i < 8 → ((List.range 8).foldl (fun m (i : Nat) => da m i (x i)) (ag.rep 8 (0 : UInt32))).g i = x i := by
  intro i hi
  match i, hi with
  | 0, _ => rfl
  | 1, _ => rfl
  | 2, _ => rfl
  | 3, _ => rfl
  | 4, _ => rfl
  | 5, _ => rfl
  | 6, _ => rfl
  | 7, _ => rfl
theorem Fy (b : List UInt8) (hb : b.length = 32) : jm b = some (Di b, 0) := by
  unfold jm hN
  rw [if_neg (by omega), if_neg (by omega)]
  simp only [Option.bind_some, ne_eq, not_true_eq_false, if_false]
  rw [Dh b (by omega) (by omega) (ag.rep 8 0)]
  unfold my
  simp only [Option.bind_some]
  refine gv _ 8 (fun h (i : Nat) => da h i (h.g i ^^^ um b i)) _ _ (fun v i hi => ?_) (by unfold gn; simp only []; rw [if_neg (by omega)]; rfl)
  unfold gn
  simp only []
  rw [PQ, if_pos (by omega), bc _ _ hi, bc _ _ hi, Od _ i hi, aY i (by omega)]
  rfl
def Iu (h : ag UInt32 8) : List UInt8 := (List.range 8).foldl (fun b i => b ++ tR 4 (UInt64.ofNat (h.g i).toNat)) []
theorem wS (h : ag UInt32 8) : (Iu h).length = 32 := by unfold Iu; rw [ru _ 4 (fun i => nh 4 _)]
theorem zi (w : UInt32) : [UInt8.ofNat w.toNat, UInt8.ofNat (eD w ((8 : UInt64).toNat)).toNat, UInt8.ofNat (eD w ((16 : UInt64).toNat)).toNat, UInt8.ofNat (eD w ((24 : UInt64).toNat)).toNat] = tR 4 (UInt64.ofNat w.toNat) := by
  have hw := w.toNat_lt
  have e0 : (UInt64.ofNat w.toNat).toNat = w.toNat := by simp only [UInt64.toNat_ofNat']; omega
  unfold tR
  rw [e0]
  simp only [List.range_succ, List.range_zero, List.nil_append, List.map_append, List.map_cons, List.map_nil, List.cons_append]
  simp only [eD]
  congr 1
  · simp
  congr 1
  · apply UInt8.eq_of_toBitVec_eq; apply BitVec.eq_of_toNat_eq; simp [Nat.shiftRight_eq_div_pow]
  congr 1
  · apply UInt8.eq_of_toBitVec_eq; apply BitVec.eq_of_toNat_eq; simp [Nat.shiftRight_eq_div_pow]
  congr 1
  · apply UInt8.eq_of_toBitVec_eq; apply BitVec.eq_of_toNat_eq; simp [Nat.shiftRight_eq_div_pow]
theorem Fz (h : ag UInt32 8) : jy h = some (Iu h) := by
  unfold jy
  refine bY (fun i => ((List.range i).foldl (fun b i => b ++ tR 4 (UInt64.ofNat (h.g i).toNat)) [], (i : Int))) 8 (fun i hi => ?_) rfl
  unfold iK
  simp only []
  rw [if_pos (by omega), bc _ _ hi, aY i (by omega)]
  simp only [Option.bind_some]
  rw [zi]
  have hq : (List.range (i + 1)).foldl (fun b i => b ++ tR 4 (UInt64.ofNat (h.g i).toNat)) [] = (List.range i).foldl (fun b i => b ++ tR 4 (UInt64.ofNat (h.g i).toNat)) [] ++ tR 4 (UInt64.ofNat (h.g i).toNat) := by rw [List.range_succ, List.foldl_append]; rfl
  rw [fJ (by rw [ru _ 4 (fun i => nh 4 _), nh]; omega), hq]
  rfl
end Go.Sx
