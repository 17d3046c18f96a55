import Derived.Test.YtoedpdamhabkoaaK4
namespace Go.Sx
open Go.RowKit Go.Proofs
set_option linter.unusedVariables false
set_option linter.unusedSimpArgs false
set_option maxRecDepth 20000
theorem vU {F O : Nat → Prop} {w : World} (cE : List UInt8) (bd : List UInt8) (ai : List UInt8) (b6 : Int) (bf : Int) (bo : List UInt8) (cm : List UInt8) (b7 : Bool) (aU : UInt64) (cF : ae UInt64 8) (aw : UInt64) (ax : UInt64) (a7 : List UInt8) (aV : Int) (ir : UInt64) (ei : ae UInt8 64) (dr : Int) (a6 : Nat) (cG : Option Addr) (di : Nat) (cH : Nat) (bL : Option Addr) (cg : Nat) (bM : Nat) (aH : Option Addr) (aX : Nat) (aI : Nat) (ee : Nat) (cO : Option Addr) (dw : Nat) (cP : Nat) (dW : Option Addr) (eE : Nat) (dX : Nat) (cI : Nat) (cp : Option Addr) (cQ : Nat) (cq : Nat) (jK : Ro F w cG (e8.all cE)) (iN : cE.length = di) (h_ : di ≤ cH) (gw : Ro F w bL (e8.all bd)) (gp : bd.length = cg) (fF : cg ≤ bM) (dE : Ro F w aH (e8.all ai)) (dN : ai.length = aX) (dj : aX ≤ aI) (k : Cx F O w w [Bx 72 a6 [I 1, I 64, .u32 4294967295, .u64 274877906944, .b false, sl cG di cH, sl bL cg bM, sl aH aX aI, pt ee 0, sl none 0 0, .u64 ir, .ar e8 ei, I dr, .v (.func (.func 40) ⟨SV.ad [pt a6 0]⟩ ⟨SV.ad []⟩)], Bx 115 ee [I b6, I bf, sl cO dw cP, sl dW eE dX, .b b7, .u64 aU, .v (.iface 126 (SV.val (pt cI 0)))], Ow e8 cO dw cP bo, Ow e8 dW eE dX cm, Bx 132 cI [.ar cj cF, .u64 aw, .u64 ax, sl cp cQ cq, I aV, .v (.func (.func 73) ⟨SV.ad []⟩ ⟨SV.ad []⟩), .v (.func (.func 74) ⟨SV.ad []⟩ ⟨SV.ad []⟩)], Ow e8 cp cQ cq a7]) (r : (List UInt8 × Int × ae UInt64 8 × UInt64 × UInt64 × List UInt8 × Int × Int × Int × List UInt8 × List UInt8 × Bool × UInt64 × List UInt8 × UInt64 × ae UInt8 64 × Int)) (hm : jU cE bd ai b6 bf bo cm b7 aU cF aw ax a7 aV ir ei dr = some r) :
    Calls Try.prog 44 (ad [pt a6 0, I 8]) w (fun e w' => ∃ A n c A1 n1 c1 A2 n2 c2 A3 n3 c3 g n4 c4, r.1.length = n ∧ r.2.2.2.2.2.1.length = n1 ∧ r.2.2.2.2.2.2.2.2.2.1.length = n2 ∧ r.2.2.2.2.2.2.2.2.2.2.1.length = n3 ∧ r.2.2.2.2.2.2.2.2.2.2.2.2.2.1.length = n4 ∧ e = .returned (SV.val (.eO [sl A n c, I r.2.1])) ∧ Cx F O w w' [Ow e8 A n c r.1, Bx 132 cI [.ar cj r.2.2.1, .u64 r.2.2.2.1, .u64 r.2.2.2.2.1, sl A1 n1 c1, I r.2.2.2.2.2.2.1, .v (.func (.func 73) ⟨SV.ad []⟩ ⟨SV.ad []⟩), .v (.func (.func 74) ⟨SV.ad []⟩ ⟨SV.ad []⟩)], Ow e8 A1 n1 c1 r.2.2.2.2.2.1, Bx 115 ee [I r.2.2.2.2.2.2.2.1, I r.2.2.2.2.2.2.2.2.1, sl A2 n2 c2, sl A3 n3 c3, .b r.2.2.2.2.2.2.2.2.2.2.2.1, .u64 r.2.2.2.2.2.2.2.2.2.2.2.2.1, .v (.iface 126 (SV.val (pt cI 0)))], Ow e8 A2 n2 c2 r.2.2.2.2.2.2.2.2.2.1, Ow e8 A3 n3 c3 r.2.2.2.2.2.2.2.2.2.2.1, Bx 72 a6 [I 1, I 64, .u32 4294967295, .u64 274877906944, .b false, sl cG di cH, sl bL cg bM, sl aH aX aI, pt ee 0, sl (some ⟨g, 0, none⟩) n4 c4, .u64 r.2.2.2.2.2.2.2.2.2.2.2.2.2.2.1, .ar e8 r.2.2.2.2.2.2.2.2.2.2.2.2.2.2.2.1, I r.2.2.2.2.2.2.2.2.2.2.2.2.2.2.2.2, .v (.func (.func 65) ⟨SV.ad [pt a6 0]⟩ ⟨SV.ad []⟩)], Sh (SH e8) [((some ⟨g, 0, none⟩), n4, c4)] [r.2.2.2.2.2.2.2.2.2.2.2.2.2.1]]) := by
 unfold jU at hm
 subst iN
 subst gp
 subst dN
 obtain rfl := k.len 2 rfl
 obtain rfl := k.len 3 rfl
 obtain rfl := k.len 5 rfl
 refine calls [pt a6 0, I 8] Try.func44 rfl (of_decide_eq_true (by kernel_rfl)) ?_
 refine ab <| bA [] .a qe (by kernel_rfl) ?_
 refine aa <| ab <| ab <| ao <| bn 1 [] (.n 11 (pt a6 0) .a) qe (by kernel_rfl) ?_
 refine ag ?_
 obtain ⟨r_, dk, hm⟩ := ob hm
 obtain ⟨F1, O1, lO, hO, rO, hF, hb⟩ := k.go (.i (.i (.i (.i (.i (.i .e))))))
 refine aq [] 12 _ xw (by kernel_rfl) (nD (F := F1) (O := O1) _ _ _ _ _ _ _ _ _ _ _ _ _ _ _ _ _ _ _ _ _ _ _ _ _ _ _ _ _ _ _ _ _ _ _ _ _ _ (Ro.aY jK k hF) rfl h_ (Ro.aY gw k hF) rfl fF (Ro.aY dE k hF) rfl dj lO _ dk) ?_
 rintro e_ w_ ⟨A0, _, c0, A4, _, c5, A5, _, c6, rfl, rfl, rfl, rfl, k_⟩
 have da := hb w_ _ _ k_ (.c (.c (.c (.c (.c (.c .n))))))
 refine ⟨.b false, rfl, ?_⟩
 refine af <| aa <| cw false (by kernel_rfl) (fun h => by cases h) (fun _ => ?_)
 refine aS <| aa <| ab <| ab <| bA [15] (.n 18 (.b false) (.ss .a)) qe (by kernel_rfl) ?_
 refine aa <| cw false (by kernel_rfl) (fun h => by cases h) (fun _ => ?_)
 refine aS <| aa <| ab <| ao <| bn 1 [] (.n 19 (pt a6 0) (.s .a)) qe (by kernel_rfl) ?_
 refine ag ?_
 obtain ⟨ah, dt, hm⟩ := ob hm
 have dF := (((((da.pk (.t .h)).pk (.t .h)).pk (.t (.t (.t (.t .h))))).pk (.t (.t (.t (.t .h))))).pk (.t (.t (.t (.t .h))))).pk (.t (.t (.t (.t (.t .h)))))
 obtain ⟨xD, xE, ni, FJ, tE, rP, xa⟩ := dF.go (.i (.i (.i (.i (.i (.i .e))))))
 refine aq [] 20 _ Fy (by kernel_rfl) (vS (F := xD) (O := xE) _ _ _ _ _ _ _ _ _ _ _ _ _ _ _ _ _ _ _ _ _ _ _ _ _ _ _ _ _ _ _ _ _ _ _ _ _ _ (Ro.aY jK dF rP) rfl h_ (Ro.aY gw dF rP) rfl fF (Ro.aY dE dF rP) rfl dj ni _ dt) ?_
 rintro e_ lh ⟨A6, _, c7, A7, _, c8, A8, _, c9, g0, _, sW, rfl, rfl, rfl, rfl, rfl, en⟩
 have eA := xa lh _ _ en (.c (.c (.c (.c (.c (.c (.c .n)))))))
 refine ⟨.eO [], rfl, ?_⟩
 refine af <| aa <| ab <| GK bw (by kernel_rfl) (.n 6 (.u64 ((274877906944 : UInt64) - ah.2.2.2.2.2.2.2.2.2.2.2.2.1)) (.ss .a)) (fun m => qs a6 0 <| qs a6 0 <| qs a6 0 <| qB (eA.drew m) 5 rfl 3 (.u64 274877906944) (by kernel_rfl) <| qs a6 0 <| qs a6 0 <| qB (eA.drew m) 5 rfl 10 (.u64 ah.2.2.2.2.2.2.2.2.2.2.2.2.1) (by kernel_rfl) <| qe) (by kernel_rfl) (fun m_ => ?_)
 have fJ := eA.drew m_
 refine aa <| ab <| ab <| bA [33] (.n 36 (.b (decide (((274877906944 : UInt64) - ah.2.2.2.2.2.2.2.2.2.2.2.2.1) = 0))) .a) qe (by kernel_rfl) ?_
 refine aa <| bb (((274877906944 : UInt64) - ah.2.2.2.2.2.2.2.2.2.2.2.2.1) = 0) (by kernel_rfl) (fun hc => ?_) (fun hc => ?_)
 · rw [if_pos hc] at hm
   refine ab <| bA [] (.n 4 (sl none 0 0) (.n 5 (I 70) .z)) qe (by kernel_rfl) ?_
   refine aa <| aL (bI ?_)
   have gi := fJ.nil e8
   obtain rfl := Option.some.inj hm
   refine aM [sl none 0 0, I 70] qe (by kernel_rfl) ?_
   have fY := (((((((gi.pk (.t (.t (.t (.t (.t (.t .h))))))).pk (.t (.t (.t (.t (.t (.t .h))))))).pk (.t (.t (.t (.t (.t (.t .h))))))).pk (.t (.t (.t (.t (.t (.t .h))))))).pk (.t (.t (.t (.t (.t (.t .h))))))).pk (.t (.t (.t (.t (.t (.t .h))))))).pk (.t (.t (.t (.t (.t (.t .h))))))).pk (.t (.t (.t (.t (.t (.t (.t .h)))))))
   exact ⟨none, 0, 0, A6, ah.2.2.2.1.length, c7, A7, ah.2.2.2.2.2.2.2.1.length, c8, A8, ah.2.2.2.2.2.2.2.2.1.length, c9, g0, ah.2.2.2.2.2.2.2.2.2.2.2.1.length, sW, fY.len 0 rfl, fY.len 2 rfl, fY.len 4 rfl, fY.len 5 rfl, fY.b8 7 rfl, rfl, fY⟩
 rw [if_neg hc] at hm
 refine aS <| aa <| kS (fun L wr => ∃ (n0 : Int), gl bd ai ah n0 = some r ∧ L = [(0, pt a6 0), (1, I n0)] ∧ Cx F O w wr [Bx 72 a6 [I 1, I 64, .u32 4294967295, .u64 274877906944, .b false, sl cG cE.length cH, sl bL bd.length bM, sl aH ai.length aI, pt ee 0, sl (some ⟨g0, 0, none⟩) ah.2.2.2.2.2.2.2.2.2.2.2.1.length sW, .u64 ah.2.2.2.2.2.2.2.2.2.2.2.2.1, .ar e8 ah.2.2.2.2.2.2.2.2.2.2.2.2.2.1, I ah.2.2.2.2.2.2.2.2.2.2.2.2.2.2, .v (.func (.func 65) ⟨SV.ad [pt a6 0]⟩ ⟨SV.ad []⟩)], Bx 115 ee [I ah.2.2.2.2.2.1, I ah.2.2.2.2.2.2.1, sl A7 ah.2.2.2.2.2.2.2.1.length c8, sl A8 ah.2.2.2.2.2.2.2.2.1.length c9, .b ah.2.2.2.2.2.2.2.2.2.1, .u64 ah.2.2.2.2.2.2.2.2.2.2.1, .v (.iface 126 (SV.val (pt cI 0)))], Ow e8 A7 ah.2.2.2.2.2.2.2.1.length c8 ah.2.2.2.2.2.2.2.1, Ow e8 A8 ah.2.2.2.2.2.2.2.2.1.length c9 ah.2.2.2.2.2.2.2.2.1, Bx 132 cI [.ar cj ah.1, .u64 ah.2.1, .u64 ah.2.2.1, sl A6 ah.2.2.2.1.length c7, I ah.2.2.2.2.1, .v (.func (.func 73) ⟨SV.ad []⟩ ⟨SV.ad []⟩), .v (.func (.func 74) ⟨SV.ad []⟩ ⟨SV.ad []⟩)], Ow e8 A6 ah.2.2.2.1.length c7 ah.2.2.2.1, Sh (SH e8) [((some ⟨g0, 0, none⟩), ah.2.2.2.2.2.2.2.2.2.2.2.1.length, sW)] [ah.2.2.2.2.2.2.2.2.2.2.2.1]]) ?_ ?_
 ·
  refine ab <| bA [] (.n 40 (.b (decide (((274877906944 : UInt64) - ah.2.2.2.2.2.2.2.2.2.2.2.2.1) < (8 : UInt64)))) (.s .a)) qe (by kernel_rfl) ?_
  refine aa <| bb (((274877906944 : UInt64) - ah.2.2.2.2.2.2.2.2.2.2.2.2.1) < (8 : UInt64)) (by kernel_rfl) (fun kr => ?_) (fun kr => ?_)
  · rw [if_pos kr] at hm
    refine bA [] (.n 1 (I (aB ((274877906944 : UInt64) - ah.2.2.2.2.2.2.2.2.2.2.2.2.1).toNat)) (.ss (.k .z))) qe (by kernel_rfl) ?_
    have fZ := ((((((fJ.pk (.t (.t (.t (.t (.t (.t .h))))))).pk (.t (.t .h))).pk (.t (.t .h))).pk (.t (.t (.t (.t (.t .h)))))).pk (.t (.t (.t (.t (.t .h)))))).pk (.t (.t (.t (.t (.t .h)))))).pk (.t (.t (.t (.t (.t (.t .h))))))
    exact iy ⟨aB ((274877906944 : UInt64) - ah.2.2.2.2.2.2.2.2.2.2.2.2.1).toNat, hm, rfl, fZ⟩ (by kernel_rfl)
  rw [if_neg kr] at hm
  refine aS ?_
  have gY := ((((((fJ.pk (.t (.t (.t (.t (.t (.t .h))))))).pk (.t (.t .h))).pk (.t (.t .h))).pk (.t (.t (.t (.t (.t .h)))))).pk (.t (.t (.t (.t (.t .h)))))).pk (.t (.t (.t (.t (.t .h)))))).pk (.t (.t (.t (.t (.t (.t .h))))))
  exact iy ⟨(8 : Int), hm, rfl, gY⟩ (by kernel_rfl)
 rintro L_ l4 ⟨n0, hm, rfl, dK⟩
 simp only [gl] at hm
 refine ab <| bA [] (.n 7 (sl none 0 0) .a) qe (by kernel_rfl) ?_
 refine aa <| ab <| cu ?_
 have ez := dK.nil e8
 refine pc (gk bd ai ah n0) (fun s L wr => ∃ (aC : UInt64) (mY : ae UInt8 64) (lA : Int) (out : List UInt8) (A9 : Option Addr) (n5 : Nat) (ue : Nat), (aC, mY, lA, out) = s ∧ L = [(0, pt a6 0), (1, I n0), (7, sl A9 n5 ue)] ∧ out.length = n5 ∧ Cx F O w wr [Bx 72 a6 [I 1, I 64, .u32 4294967295, .u64 274877906944, .b false, sl cG cE.length cH, sl bL bd.length bM, sl aH ai.length aI, pt ee 0, sl (some ⟨g0, 0, none⟩) ah.2.2.2.2.2.2.2.2.2.2.2.1.length sW, .u64 aC, .ar e8 mY, I lA, .v (.func (.func 65) ⟨SV.ad [pt a6 0]⟩ ⟨SV.ad []⟩)], Bx 115 ee [I ah.2.2.2.2.2.1, I ah.2.2.2.2.2.2.1, sl A7 ah.2.2.2.2.2.2.2.1.length c8, sl A8 ah.2.2.2.2.2.2.2.2.1.length c9, .b ah.2.2.2.2.2.2.2.2.2.1, .u64 ah.2.2.2.2.2.2.2.2.2.2.1, .v (.iface 126 (SV.val (pt cI 0)))], Ow e8 A7 ah.2.2.2.2.2.2.2.1.length c8 ah.2.2.2.2.2.2.2.1, Ow e8 A8 ah.2.2.2.2.2.2.2.2.1.length c9 ah.2.2.2.2.2.2.2.2.1, Bx 132 cI [.ar cj ah.1, .u64 ah.2.1, .u64 ah.2.2.1, sl A6 ah.2.2.2.1.length c7, I ah.2.2.2.2.1, .v (.func (.func 73) ⟨SV.ad []⟩ ⟨SV.ad []⟩), .v (.func (.func 74) ⟨SV.ad []⟩ ⟨SV.ad []⟩)], Ow e8 A6 ah.2.2.2.1.length c7 ah.2.2.2.1, Sh (SH e8) [((some ⟨g0, 0, none⟩), ah.2.2.2.2.2.2.2.2.2.2.2.1.length, sW)] [ah.2.2.2.2.2.2.2.2.2.2.2.1], Ow e8 A9 n5 ue out]) (ah.2.2.2.2.2.2.2.2.2.2.2.2.1, ah.2.2.2.2.2.2.2.2.2.2.2.2.2.1, ah.2.2.2.2.2.2.2.2.2.2.2.2.2.2, ([] : List UInt8)) r hm ⟨ah.2.2.2.2.2.2.2.2.2.2.2.2.1, ah.2.2.2.2.2.2.2.2.2.2.2.2.2.1, ah.2.2.2.2.2.2.2.2.2.2.2.2.2.2, ([] : List UInt8), none, 0, 0, rfl, rfl, ez.len 7 rfl, ez⟩ (by kernel_rfl) ?_
 intro yU L_ qf y0 jd dd nF
 obtain ⟨aC, mY, lA, out, A9, _, ue, rfl, rfl, rfl, c_⟩ := jd
 have hm := dd; simp only [gk] at hm
 clear dd
 refine ab <| ab <| bA [] (.n 46 (.b (decide (((out.length : Nat) : Int) < n0))) .a) qe (by kernel_rfl) ?_
 refine aa <| bb (((out.length : Nat) : Int) < n0) (by kernel_rfl) (fun pf => ?_) (fun pf => ?_)
 · rw [if_pos pf] at hm
   refine aS <| aa <| cu <| ab <| GK bw (by kernel_rfl) (.n 8 (.u64 (aC / 64)) (.s .a)) (fun m => qs a6 0 <| qs a6 0 <| qB (c_.drew m) 0 rfl 10 (.u64 aC) (by kernel_rfl) <| qs a6 0 <| qs a6 0 <| qs a6 0 <| qB (c_.drew m) 0 rfl 1 (I 64) (by kernel_rfl) <| qp ((64 : UInt64) ≠ 0) (by show (64 : UInt64) ≠ 0; decide) <| qe) (by kernel_rfl) (fun xp => ?_)
   have dH := c_.drew xp
   refine aa <| kS (fun L wr => ∃ (mZ : ae UInt8 64) (th : Int), iD n0 aC out mZ th = some y0 ∧ L = [(0, pt a6 0), (1, I n0), (7, sl A9 out.length ue)] ∧ Cx F O w wr [Bx 72 a6 [I 1, I 64, .u32 4294967295, .u64 274877906944, .b false, sl cG cE.length cH, sl bL bd.length bM, sl aH ai.length aI, pt ee 0, sl (some ⟨g0, 0, none⟩) ah.2.2.2.2.2.2.2.2.2.2.2.1.length sW, .u64 aC, .ar e8 mZ, I th, .v (.func (.func 65) ⟨SV.ad [pt a6 0]⟩ ⟨SV.ad []⟩)], Bx 115 ee [I ah.2.2.2.2.2.1, I ah.2.2.2.2.2.2.1, sl A7 ah.2.2.2.2.2.2.2.1.length c8, sl A8 ah.2.2.2.2.2.2.2.2.1.length c9, .b ah.2.2.2.2.2.2.2.2.2.1, .u64 ah.2.2.2.2.2.2.2.2.2.2.1, .v (.iface 126 (SV.val (pt cI 0)))], Ow e8 A7 ah.2.2.2.2.2.2.2.1.length c8 ah.2.2.2.2.2.2.2.1, Ow e8 A8 ah.2.2.2.2.2.2.2.2.1.length c9 ah.2.2.2.2.2.2.2.2.1, Bx 132 cI [.ar cj ah.1, .u64 ah.2.1, .u64 ah.2.2.1, sl A6 ah.2.2.2.1.length c7, I ah.2.2.2.2.1, .v (.func (.func 73) ⟨SV.ad []⟩ ⟨SV.ad []⟩), .v (.func (.func 74) ⟨SV.ad []⟩ ⟨SV.ad []⟩)], Ow e8 A6 ah.2.2.2.1.length c7 ah.2.2.2.1, Sh (SH e8) [((some ⟨g0, 0, none⟩), ah.2.2.2.2.2.2.2.2.2.2.2.1.length, sW)] [ah.2.2.2.2.2.2.2.2.2.2.2.1], Ow e8 A9 out.length ue out]) ?_ ?_
   ·
    refine ab <| bA [] (.n 64 (.b (decide (lA ≠ (aB (aC / 64).toNat)))) .a) (qs a6 0 <| qs a6 0 <| qB dH 0 rfl 75 (I lA) (by kernel_rfl) <| qe) (by kernel_rfl) ?_
    refine aa <| bb (lA ≠ (aB (aC / 64).toNat)) (by kernel_rfl) (fun ub => ?_) (fun ub => ?_)
    · rw [if_pos ub] at hm
      refine ab ?_
      have eX := dH.drew 1
      refine qy bw (.q 20 0 (.q 0 2 (.q 1 2 (.q 2 1 (.q 3 1 (.q 4 2 (.q 5 2 (.q 6 1 (.q 7 0 (.q 8 2 (.q 9 2 (.q 10 1 (.q 11 0 (.q 12 2 (.q 13 2 (.q 14 1 (.q 15 0 (.q 16 2 (.q 17 2 (.q 18 1 (.q 19 0 (.op 21 (.op 22 .nil))))))))))))))))))))))) [21, 22] eX (.c (.aP (.aP .e)) (.c (.s (.aP (.kk (.k .e)))) .l)) (by kernel_rfl) (fun _ => ?_)
      refine bx 1 0 [] (.n 85 (.u64 (aC / 64)) (.s .a)) (fun x hx => qe) (by kernel_rfl) (fun _ => ?_)
      refine bx 2 2 [] (.n 66 (pt a6 0) .a) (fun x hx => qs a6 0 <| qe) (by kernel_rfl) (fun _ => ?_)
      refine bx 2 1 [] (.n 68 (sl (some ⟨a6, 11, none⟩) 64 64) (.s .a)) (fun x hx => qs a6 0 <| qo (.v (.slice (some ⟨a6, 11, none⟩) 64 64)) <| qp (((some ⟨a6, 11, none⟩) : Option Addr).isSome = true ∧ Value.slice (sA (some ⟨a6, 11, none⟩) 0 64 1) (64 - 0) (64 - 0) = .slice (some ⟨a6, 11, none⟩) 64 64) ⟨rfl, ur _ _ _ _ _ rfl⟩ <| qe) (by kernel_rfl) (fun _ => ?_)
      refine bx 2 2 [] (.n 70 (pt a6 0) .a) (fun x hx => qs a6 0 <| qe) (by kernel_rfl) (fun _ => ?_)
      refine bx 1 1 [] (.n 71 (pt a6 0) (.s .a)) (fun x hx => qs a6 0 <| qe) (by kernel_rfl) (fun _ => ?_)
      refine bx 1 0 [] (.n 72 (.agg [I 1, I 64, .u32 4294967295, .u64 274877906944, .b false]) (.s .a)) (fun x hx => qT hx 0 rfl 0 5 [I 1, I 64, .u32 4294967295, .u64 274877906944, .b false] (by kernel_rfl) (by decide) <| qe) (by kernel_rfl) (fun _ => ?_)
      refine bx 2 2 [] (.n 74 (pt a6 0) .a) (fun x hx => qs a6 0 <| qe) (by kernel_rfl) (fun _ => ?_)
      refine bx 1 1 [] (.n 75 (pt a6 6) (.s .a)) (fun x hx => qs a6 0 <| qe) (by kernel_rfl) (fun _ => ?_)
      refine bx 1 0 [] (.n 76 (sl bL bd.length bM) (.s .a)) (fun x hx => qB hx 0 rfl 6 (sl bL bd.length bM) (by kernel_rfl) <| qe) (by kernel_rfl) (fun _ => ?_)
      refine bx 2 2 [] (.n 78 (pt a6 0) .a) (fun x hx => qs a6 0 <| qe) (by kernel_rfl) (fun _ => ?_)
      refine bx 1 1 [] (.n 79 (pt a6 7) (.s .a)) (fun x hx => qs a6 0 <| qe) (by kernel_rfl) (fun _ => ?_)
      refine bx 1 0 [] (.n 80 (sl aH ai.length aI) (.s .a)) (fun x hx => qB hx 0 rfl 7 (sl aH ai.length aI) (by kernel_rfl) <| qe) (by kernel_rfl) (fun _ => ?_)
      refine bx 2 2 [] (.n 82 (pt a6 0) .a) (fun x hx => qs a6 0 <| qe) (by kernel_rfl) (fun _ => ?_)
      refine bx 1 1 [] (.n 83 (pt a6 9) (.s .a)) (fun x hx => qs a6 0 <| qe) (by kernel_rfl) (fun _ => ?_)
      refine bx 1 0 [] (.n 84 (sl (some ⟨g0, 0, none⟩) ah.2.2.2.2.2.2.2.2.2.2.2.1.length sW) (.s .a)) (fun x hx => qB hx 0 rfl 9 (sl (some ⟨g0, 0, none⟩) ah.2.2.2.2.2.2.2.2.2.2.2.1.length sW) (by kernel_rfl) <| qe) (by kernel_rfl) (fun _ => ?_)
      refine bZ (by kernel_rfl) rfl ?_
      obtain ⟨bh, gX, hm⟩ := ob hm
      refine aq [] 86 _ Fz (by kernel_rfl) (qD (F := N0) (O := N0) _ _ _ _ _ _ _ _ _ _ _ _ _ (Ro.n0 (gw.cx eX)) rfl fF (Ro.n0 (dE.cx eX)) rfl dj (Ro.n0 (eX.RX 6 rfl)) (eX.b8 6 rfl) (eX.cZ 6 rfl) (Cx.refl _) _ gX) ?_
      rintro e_ p7 ⟨wR, _, xB, rfl, rfl, iu⟩
      have fX := eX.call iu
      refine ⟨sl wR bh.length xB, rfl, ?_⟩
      refine ⟨(fX.ck (.aP (.aP .z))), fun _ => ?_⟩
      refine bZ (by kernel_rfl) rfl <| x8 (E := e8) (dn := 64) (dc := 64) (v := sl wR bh.length xB) (src := bh) (lo := 0) (m' := 64) im [] 87 0 [I 1, I 64, .u32 4294967295, .u64 274877906944, .b false, sl cG cE.length cH, sl bL bd.length bM, sl aH ai.length aI, pt ee 0, sl (some ⟨g0, 0, none⟩) ah.2.2.2.2.2.2.2.2.2.2.2.1.length sW, .u64 aC] [I lA, .v (.func (.func 65) ⟨SV.ad [pt a6 0]⟩ ⟨SV.ad []⟩)] mY (by kernel_rfl) (sK _ _ _).symm fX rfl (Src.sl (fX.rd 8 rfl) (fX.len 8 rfl) (by rfl)) (fX.len 8 rfl) (by have := mY.h; omega) (by omega) (by omega) ?_
      intro sV jY
      refine ⟨(jY.ck (.s (.aP (.kk (.k .z))))), fun _ => ?_⟩
      refine ct <| aa <| ao <| bn 5 [] (.n 90 (I (aB (aC / 64).toNat)) (.n 92 (pt a6 75) (.fQ (.fQ (.s .a))))) (qs a6 0 <| qs a6 0 <| qe) (by kernel_rfl) ?_
      refine ag <| ey [] 0 (I (aB (aC / 64).toNat)) [I (aB (aC / 64).toNat)] (Pt.at a6 75) jY rfl (.aP (.aP (.aP .h))) (by kernel_rfl) (by kernel_rfl) ?_
      intro wi iK
      have kt := iK.ck (.aP (.aP .z))
      refine af ?_
      exact iy ⟨(tP mY 0 64 bh), aB (aC / 64).toNat, hm, rfl, kt⟩ (by kernel_rfl)
    rw [if_neg ub] at hm
    refine aS ?_
    exact iy ⟨mY, lA, hm, rfl, dH⟩ (by kernel_rfl)
   rintro L_ vO ⟨mZ, th, hm, rfl, kg⟩
   simp only [iD] at hm
   refine ab <| GK bw (by kernel_rfl) (.n 9 (I (aB (aC % 64).toNat)) .a) (fun m => qs a6 0 <| qs a6 0 <| qB (kg.drew m) 0 rfl 10 (.u64 aC) (by kernel_rfl) <| qs a6 0 <| qs a6 0 <| qs a6 0 <| qB (kg.drew m) 0 rfl 1 (I 64) (by kernel_rfl) <| qp ((64 : UInt64) ≠ 0) (by show (64 : UInt64) ≠ 0; decide) <| qe) (by kernel_rfl) (fun Se => ?_)
   have lW := kg.drew Se
   refine aa <| ab <| bA [] (.n 10 (I (if aB (64 - (aB (aC % 64).toNat)) < aB (n0 - ((out.length : Nat) : Int)) then aB (64 - (aB (aC % 64).toNat)) else aB (n0 - ((out.length : Nat) : Int)))) .a) (qs a6 0 <| qs a6 0 <| qs a6 0 <| qB lW 0 rfl 1 (I 64) (by kernel_rfl) <| qe) (by kernel_rfl) ?_
   refine aa <| ab <| ao ?_
   obtain ⟨b, qu, hm⟩ := ob hm
   have hs := hP qu
   have hl := kU qu
   have hn : mZ.l.length = 64 := mZ.h
   have w9 : 64 ≤ 64 := (Nat.le_refl _)
   obtain ⟨yX, AO, e_, uc, hA, ud⟩ := Lq (some ⟨a6, 11, none⟩) (Int.toNat (aB (aC % 64).toNat)) 64 1 (Int.toNat (aB ((aB (aC % 64).toNat) + (if aB (64 - (aB (aC % 64).toNat)) < aB (n0 - ((out.length : Nat) : Int)) then aB (64 - (aB (aC % 64).toNat)) else aB (n0 - ((out.length : Nat) : Int))))) - Int.toNat (aB (aC % 64).toNat)) b.length (by omega) (by omega)
   refine bn 9 [] (.n 117 (sl A9 out.length ue) (.n 125 (sl yX b.length AO) (.k (.s .a)))) (qs a6 0 <| qs a6 0 <| qp (0 ≤ aB ((aB (aC % 64).toNat) + (if aB (64 - (aB (aC % 64).toNat)) < aB (n0 - ((out.length : Nat) : Int)) then aB (64 - (aB (aC % 64).toNat)) else aB (n0 - ((out.length : Nat) : Int)))) ∧ aB ((aB (aC % 64).toNat) + (if aB (64 - (aB (aC % 64).toNat)) < aB (n0 - ((out.length : Nat) : Int)) then aB (64 - (aB (aC % 64).toNat)) else aB (n0 - ((out.length : Nat) : Int)))) ≤ ((64 : Nat) : Int)) (by omega) <| qp (0 ≤ aB (aC % 64).toNat ∧ aB (aC % 64).toNat ≤ ((Int.toNat (aB ((aB (aC % 64).toNat) + (if aB (64 - (aB (aC % 64).toNat)) < aB (n0 - ((out.length : Nat) : Int)) then aB (64 - (aB (aC % 64).toNat)) else aB (n0 - ((out.length : Nat) : Int))))) : Nat) : Int)) (by omega) <| qo (.v (.slice yX b.length AO)) <| qp (((some ⟨a6, 11, none⟩) : Option Addr).isSome = true ∧ Value.slice (sA (some ⟨a6, 11, none⟩) (Int.toNat (aB (aC % 64).toNat)) 64 1) (Int.toNat (aB ((aB (aC % 64).toNat) + (if aB (64 - (aB (aC % 64).toNat)) < aB (n0 - ((out.length : Nat) : Int)) then aB (64 - (aB (aC % 64).toNat)) else aB (n0 - ((out.length : Nat) : Int))))) - Int.toNat (aB (aC % 64).toNat)) (64 - Int.toNat (aB (aC % 64).toNat)) = .slice yX b.length AO) ⟨rfl, e_⟩ <| qe) (by kernel_rfl) ?_
   refine ag ?_
   obtain ⟨zV, EG, hm⟩ := ob hm
   obtain ⟨hz, FI⟩ := kV EG
   refine jG (E := e8) (v := sl yX b.length AO) (ys := b) im [] 126 7 (by kernel_rfl) lW rfl (Src.sl (Rd.cut (Rd.vec (lW.uq 0 rfl) (c := eG.all e8 mZ.l) (off := 11) (by kernel_rfl)) qu rfl (by rfl) hA (by omega)) rfl (by rfl)) rfl (by have := lW.len 7 rfl; have := hm; omega) ?_
   intro AN MV Av mh
   rw [← FI] at mh
   refine bn 1 [] (.n 7 (sl AN (out.length + b.length) MV) (.lj (.ua .z))) qe (by kernel_rfl) ?_
   refine af <| aa <| ao <| bn 9 [] (.n 133 (.u64 (aC + (UInt64.ofInt (if aB (64 - (aB (aC % 64).toNat)) < aB (n0 - ((out.length : Nat) : Int)) then aB (64 - (aB (aC % 64).toNat)) else aB (n0 - ((out.length : Nat) : Int)))))) (.n 135 (pt a6 10) (.k (.s .a)))) (qs a6 0 <| qs a6 0 <| qB mh 0 rfl 10 (.u64 aC) (by kernel_rfl) <| qs a6 0 <| qs a6 0 <| qe) (by kernel_rfl) ?_
   refine ag <| ey [] 0 (.u64 (aC + (UInt64.ofInt (if aB (64 - (aB (aC % 64).toNat)) < aB (n0 - ((out.length : Nat) : Int)) then aB (64 - (aB (aC % 64).toNat)) else aB (n0 - ((out.length : Nat) : Int)))))) [.u64 (aC + (UInt64.ofInt (if aB (64 - (aB (aC % 64).toNat)) < aB (n0 - ((out.length : Nat) : Int)) then aB (64 - (aB (aC % 64).toNat)) else aB (n0 - ((out.length : Nat) : Int)))))] (Pt.at a6 10) mh rfl (.aP (.aP (.kk .h))) (by kernel_rfl) (by kernel_rfl) ?_
   intro De mo
   refine af <| hH ?_
   exact jR (aC + (UInt64.ofInt (if aB (64 - (aB (aC % 64).toNat)) < aB (n0 - ((out.length : Nat) : Int)) then aB (64 - (aB (aC % 64).toNat)) else aB (n0 - ((out.length : Nat) : Int)))), mZ, th, zV) (Option.some.inj hm).symm ⟨aC + (UInt64.ofInt (if aB (64 - (aB (aC % 64).toNat)) < aB (n0 - ((out.length : Nat) : Int)) then aB (64 - (aB (aC % 64).toNat)) else aB (n0 - ((out.length : Nat) : Int)))), mZ, th, zV, AN, out.length + b.length, MV, rfl, rfl, mo.len 7 rfl, mo⟩ (by kernel_rfl)
 rw [if_neg pf] at hm
 refine iq (fe (fe (kG ?_)))
 have hm := d_ hm nF
 refine aa <| ab <| bA [] (.n 4 (sl A9 out.length ue) (.n 5 (I 0) .z)) qe (by kernel_rfl) ?_
 refine aa <| aL ?_
 obtain rfl := Option.some.inj hm
 refine aM [sl A9 out.length ue, I 0] qe (by kernel_rfl) ?_
 have lX := (((((((c_.pk (.t (.t (.t (.t (.t (.t .h))))))).pk (.t .h)).pk (.t (.t (.t (.t .h))))).pk (.t (.t (.t (.t .h))))).pk (.t (.t (.t (.t .h))))).pk (.t (.t (.t (.t (.t (.t .h))))))).pk (.t (.t (.t (.t (.t (.t .h))))))).pk (.t (.t (.t (.t (.t (.t (.t .h)))))))
 exact ⟨A9, out.length, ue, A6, ah.2.2.2.1.length, c7, A7, ah.2.2.2.2.2.2.2.1.length, c8, A8, ah.2.2.2.2.2.2.2.2.1.length, c9, g0, ah.2.2.2.2.2.2.2.2.2.2.2.1.length, sW, lX.len 0 rfl, lX.len 2 rfl, lX.len 4 rfl, lX.len 5 rfl, lX.b8 7 rfl, rfl, lX⟩
theorem o7 {F O : Nat → Prop} {w : World} (tv : List UInt8) (oP : List UInt8) (mJ : List UInt8) (iE : List UInt8) (lU : Int) (j4 : Int) (k7 : List UInt8) (nb : List UInt8) (lV : Bool) (jn : UInt64) (nf : ae UInt64 8) (gm : UInt64) (gn : UInt64) (j5 : List UInt8) (jo : Int) (tw : UInt64) (qY : ae UInt8 64) (oQ : Int) (p : Int) (Bt : Nat) (sx : Nat) (rH : Option Addr) (o3 : Nat) (rI : Nat) (p9 : Nat) (pr : Option Addr) (nj : Nat) (pv : Nat) (oa : Option Addr) (l2 : Nat) (oc : Nat) (kA : Option Addr) (iQ : Nat) (kB : Nat) (rb : Nat) (nJ : Option Addr) (nK : Nat) (nL : Nat) (p_ : Option Addr) (qa : Nat) (qb : Nat) (np : Nat) (mR : Option Addr) (mS : Nat) (mT : Nat) (Ak : Nat) (Ie : Ro F w rH (e8.all tv)) (yB : tv.length = o3) (Gq : o3 ≤ rI) (yC : Ro F w pr (e8.all oP)) (wX : oP.length = nj) (wY : nj ≤ pv) (wZ : Ro F w oa (e8.all mJ)) (u5 : mJ.length = l2) (u6 : l2 ≤ oc) (rJ : Ro F w kA (e8.all iE)) (qw : iE.length = iQ) (qx : iQ ≤ kB) (k : Cx F O w w [Bx 35 Bt [pt sx 0], Bx 54 sx [sl rH o3 rI, pt p9 0], Bx 72 p9 [I 1, I 64, .u32 4294967295, .u64 274877906944, .b false, sl pr nj pv, sl oa l2 oc, sl kA iQ kB, pt rb 0, sl none 0 0, .u64 tw, .ar e8 qY, I oQ, .v (.func (.func 40) ⟨SV.ad [pt p9 0]⟩ ⟨SV.ad []⟩)], Bx 115 rb [I lU, I j4, sl nJ nK nL, sl p_ qa qb, .b lV, .u64 jn, .v (.iface 126 (SV.val (pt np 0)))], Ow e8 nJ nK nL k7, Ow e8 p_ qa qb nb, Bx 132 np [.ar cj nf, .u64 gm, .u64 gn, sl mR mS mT, I jo, .v (.func (.func 73) ⟨SV.ad []⟩ ⟨SV.ad []⟩), .v (.func (.func 74) ⟨SV.ad []⟩ ⟨SV.ad []⟩)], Ow e8 mR mS mT j5, Bx 25 Ak [I p]]) (r : (UInt64 × ae UInt64 8 × UInt64 × UInt64 × List UInt8 × Int × Int × Int × List UInt8 × List UInt8 × Bool × UInt64 × List UInt8 × UInt64 × ae UInt8 64 × Int × Int)) (hm : fR tv oP mJ iE lU j4 k7 nb lV jn nf gm gn j5 jo tw qY oQ p = some r) :
    Calls Try.prog 43 (ad [pt Bt 0, pt Ak 0]) w (fun e w' => ∃ A n c A1 n1 c1 A2 n2 c2 g n3 c3, r.2.2.2.2.1.length = n ∧ r.2.2.2.2.2.2.2.2.1.length = n1 ∧ r.2.2.2.2.2.2.2.2.2.1.length = n2 ∧ r.2.2.2.2.2.2.2.2.2.2.2.2.1.length = n3 ∧ e = .returned (SV.val (.u64 r.1)) ∧ Cx F O w w' [Bx 132 np [.ar cj r.2.1, .u64 r.2.2.1, .u64 r.2.2.2.1, sl A n c, I r.2.2.2.2.2.1, .v (.func (.func 73) ⟨SV.ad []⟩ ⟨SV.ad []⟩), .v (.func (.func 74) ⟨SV.ad []⟩ ⟨SV.ad []⟩)], Ow e8 A n c r.2.2.2.2.1, Bx 115 rb [I r.2.2.2.2.2.2.1, I r.2.2.2.2.2.2.2.1, sl A1 n1 c1, sl A2 n2 c2, .b r.2.2.2.2.2.2.2.2.2.2.1, .u64 r.2.2.2.2.2.2.2.2.2.2.2.1, .v (.iface 126 (SV.val (pt np 0)))], Ow e8 A1 n1 c1 r.2.2.2.2.2.2.2.2.1, Ow e8 A2 n2 c2 r.2.2.2.2.2.2.2.2.2.1, Bx 72 p9 [I 1, I 64, .u32 4294967295, .u64 274877906944, .b false, sl pr nj pv, sl oa l2 oc, sl kA iQ kB, pt rb 0, sl (some ⟨g, 0, none⟩) n3 c3, .u64 r.2.2.2.2.2.2.2.2.2.2.2.2.2.1, .ar e8 r.2.2.2.2.2.2.2.2.2.2.2.2.2.2.1, I r.2.2.2.2.2.2.2.2.2.2.2.2.2.2.2.1, .v (.func (.func 65) ⟨SV.ad [pt p9 0]⟩ ⟨SV.ad []⟩)], Sh (SH e8) [((some ⟨g, 0, none⟩), n3, c3)] [r.2.2.2.2.2.2.2.2.2.2.2.2.1], Bx 54 sx [sl rH o3 rI, pt p9 0], Bx 35 Bt [pt sx 0], Bx 25 Ak [I r.2.2.2.2.2.2.2.2.2.2.2.2.2.2.2.2]]) := by
 unfold fR at hm
 subst yB
 subst wX
 subst u5
 subst qw
 obtain rfl := k.len 4 rfl
 obtain rfl := k.len 5 rfl
 obtain rfl := k.len 7 rfl
 refine calls [pt Bt 0, pt Ak 0] Try.func43 rfl (of_decide_eq_true (by kernel_rfl)) ?_
 refine ab <| bA [] .a qe (by kernel_rfl) ?_
 refine aa <| ab <| ao <| bn 4 [] (.n 11 (pt p9 0) (.s .a)) (qB k 0 rfl 0 (pt sx 0) (by kernel_rfl) <| qs sx 0 <| qs sx 0 <| qB k 1 rfl 1 (pt p9 0) (by kernel_rfl) <| qe) (by kernel_rfl) ?_
 refine ag ?_
 obtain ⟨r_, dk, hm⟩ := ob hm
 obtain ⟨F1, O1, lO, hO, rO, hF, hb⟩ := k.go (.r (.r (.i (.i (.i (.i (.i (.i (.r .e)))))))))
 refine aq [] 12 _ Fw (by kernel_rfl) (vU (F := F1) (O := O1) _ _ _ _ _ _ _ _ _ _ _ _ _ _ _ _ _ _ _ _ _ _ _ _ _ _ _ _ _ _ _ _ _ _ _ _ _ _ (Ro.aY yC k hF) rfl wY (Ro.aY wZ k hF) rfl u6 (Ro.aY rJ k hF) rfl qx lO _ dk) ?_
 rintro e_ w_ ⟨A0, _, c0, A3, _, c4, A4, _, c5, A5, _, c6, g0, _, c7, rfl, rfl, rfl, rfl, rfl, rfl, k_⟩
 have da := hb w_ _ _ k_ (.c (.c (.c (.c (.c (.c (.c (.c .n))))))))
 refine ⟨.eO [sl A0 r_.1.length c0, I r_.2.1], rfl, ?_⟩
 refine bn 5 [] (.n 3 (sl A0 r_.1.length c0) (.n 4 (I r_.2.1) (.ss .a))) qe (by kernel_rfl) ?_
 refine af <| aa <| ab <| ab <| bA [] (.n 16 (.b (decide (r_.2.1 ≠ 0))) (.k (.s .a))) qe (by kernel_rfl) ?_
 refine aa <| bb (r_.2.1 ≠ 0) (by kernel_rfl) (fun hc => ?_) (fun hc => ?_)
 · rw [if_pos hc] at hm
   refine ab <| ao <| ag <| ey [] 10 (I 6) [I 6] (Pt.at Ak 0) da rfl .all (by kernel_rfl) (by kernel_rfl) ?_
   intro lh dF
   have en := dF.ck (.s (.aP (.aP (.kk .e))))
   refine af <| aa <| ab <| bA [] (.n 2 (.u64 0) .z) qe (by kernel_rfl) ?_
   refine aa <| aL (bI ?_)
   obtain rfl := Option.some.inj hm
   refine aM [.u64 0] qe (by kernel_rfl) ?_
   have eA := (((((((((en.pk (.t (.t (.t (.t (.t (.t (.t (.t (.t .h)))))))))).pk (.t (.t (.t (.t (.t (.t (.t (.t .h))))))))).pk (.t (.t (.t (.t (.t (.t (.t (.t (.t .h)))))))))).pk (.t (.t (.t (.t (.t (.t (.t (.t (.t .h)))))))))).pk (.t (.t (.t (.t (.t (.t (.t (.t (.t .h)))))))))).pk (.t (.t (.t (.t (.t (.t (.t (.t (.t .h)))))))))).pk (.t (.t (.t (.t (.t (.t (.t (.t (.t .h)))))))))).pk (.t (.t (.t (.t (.t (.t (.t (.t (.t .h)))))))))).pk (.t (.t (.t (.t (.t (.t (.t (.t (.t .h)))))))))).pk (.t (.t (.t (.t (.t (.t (.t (.t (.t .h)))))))))
   exact ⟨A3, r_.2.2.2.2.2.1.length, c4, A4, r_.2.2.2.2.2.2.2.2.2.1.length, c5, A5, r_.2.2.2.2.2.2.2.2.2.2.1.length, c6, g0, r_.2.2.2.2.2.2.2.2.2.2.2.2.2.1.length, c7, eA.len 1 rfl, eA.len 3 rfl, eA.len 4 rfl, eA.b8 6 rfl, rfl, eA⟩
 rw [if_neg hc] at hm
 refine aS <| aa <| ab <| ao <| bn 1 [] (.n 18 (sl A0 r_.1.length c0) .z) qe (by kernel_rfl) ?_
 refine ag ?_
 obtain ⟨ah, dt, hm⟩ := ob hm
 refine aq [] 19 _ zb (by kernel_rfl) (pC (F := N0) (O := N0) _ _ _ _ _ (Ro.n0 (da.rd 0 rfl)) (da.len 0 rfl) (da.Az 0 rfl) (Cx.refl _) _ dt) ?_
 rintro e_ l4 ⟨rfl, fJ⟩
 have gi := da.call fJ
 refine ⟨.eO [.u64 ah.1, I ah.2], rfl, ?_⟩
 have fY := gi.ck (.s (.aP (.aP (.kk .e))))
 refine bn 5 [] (.n 5 (.u64 ah.1) .z) qe (by kernel_rfl) ?_
 refine af <| aa <| ab <| bA [] (.n 2 (.u64 ah.1) .z) qe (by kernel_rfl) ?_
 refine aa <| aL ?_
 obtain rfl := Option.some.inj hm
 refine aM [.u64 ah.1] qe (by kernel_rfl) ?_
 have fZ := (((((((((fY.pk (.t (.t (.t (.t (.t (.t (.t (.t (.t .h)))))))))).pk (.t (.t (.t (.t (.t (.t (.t (.t .h))))))))).pk (.t (.t (.t (.t (.t (.t (.t (.t (.t .h)))))))))).pk (.t (.t (.t (.t (.t (.t (.t (.t (.t .h)))))))))).pk (.t (.t (.t (.t (.t (.t (.t (.t (.t .h)))))))))).pk (.t (.t (.t (.t (.t (.t (.t (.t (.t .h)))))))))).pk (.t (.t (.t (.t (.t (.t (.t (.t (.t .h)))))))))).pk (.t (.t (.t (.t (.t (.t (.t (.t (.t .h)))))))))).pk (.t (.t (.t (.t (.t (.t (.t (.t (.t .h)))))))))).pk (.t (.t (.t (.t (.t (.t (.t (.t (.t .h)))))))))
 exact ⟨A3, r_.2.2.2.2.2.1.length, c4, A4, r_.2.2.2.2.2.2.2.2.2.1.length, c5, A5, r_.2.2.2.2.2.2.2.2.2.2.1.length, c6, g0, r_.2.2.2.2.2.2.2.2.2.2.2.2.2.1.length, c7, fZ.len 1 rfl, fZ.len 3 rfl, fZ.len 4 rfl, fZ.b8 6 rfl, rfl, fZ⟩
theorem o4 {F O : Nat → Prop} {w : World} (cE : List UInt8) (bd : List UInt8) (ai : List UInt8) (b6 : Int) (bf : Int) (bo : List UInt8) (cm : List UInt8) (b7 : Bool) (aU : UInt64) (cF : ae UInt64 8) (aw : UInt64) (ax : UInt64) (a7 : List UInt8) (aV : Int) (dY : List UInt8) (ir : UInt64) (ei : ae UInt8 64) (dr : Int) (a6 : Nat) (cG : Option Addr) (di : Nat) (cH : Nat) (bL : Option Addr) (cg : Nat) (bM : Nat) (aH : Option Addr) (aX : Nat) (aI : Nat) (ee : Nat) (cO : Option Addr) (dw : Nat) (cP : Nat) (dW : Option Addr) (eE : Nat) (dX : Nat) (cI : Nat) (cp : Option Addr) (cQ : Nat) (cq : Nat) (gy : Nat) (iR : Nat) (gz : Nat) (jK : Ro F w cG (e8.all cE)) (iN : cE.length = di) (h_ : di ≤ cH) (gw : Ro F w bL (e8.all bd)) (gp : bd.length = cg) (fF : cg ≤ bM) (dE : Ro F w aH (e8.all ai)) (dN : ai.length = aX) (dj : aX ≤ aI) (rK : Ro F w (some ⟨gy, 0, none⟩) (e8.all dY)) (px : dY.length = iR) (py : iR ≤ gz) (k : Cx F O w w [Bx 72 a6 [I 1, I 64, .u32 4294967295, .u64 274877906944, .b false, sl cG di cH, sl bL cg bM, sl aH aX aI, pt ee 0, sl (some ⟨gy, 0, none⟩) iR gz, .u64 ir, .ar e8 ei, I dr, .v (.func (.func 65) ⟨SV.ad [pt a6 0]⟩ ⟨SV.ad []⟩)], Bx 115 ee [I b6, I bf, sl cO dw cP, sl dW eE dX, .b b7, .u64 aU, .v (.iface 126 (SV.val (pt cI 0)))], Ow e8 cO dw cP bo, Ow e8 dW eE dX cm, Bx 132 cI [.ar cj cF, .u64 aw, .u64 ax, sl cp cQ cq, I aV, .v (.func (.func 73) ⟨SV.ad []⟩ ⟨SV.ad []⟩), .v (.func (.func 74) ⟨SV.ad []⟩ ⟨SV.ad []⟩)], Ow e8 cp cQ cq a7]) (r : (ae UInt64 8 × UInt64 × UInt64 × List UInt8 × Int × Int × Int × List UInt8 × List UInt8 × Bool × UInt64 × UInt64 × ae UInt8 64 × Int)) (hm : iG cE bd ai b6 bf bo cm b7 aU cF aw ax a7 aV dY ir ei dr = some r) :
    Calls Try.prog 35 (ad [pt a6 0]) w (fun e w' => ∃ A n c A1 n1 c1 A2 n2 c2, r.2.2.2.1.length = n ∧ r.2.2.2.2.2.2.2.1.length = n1 ∧ r.2.2.2.2.2.2.2.2.1.length = n2 ∧ e = .returned (SV.val (.b false)) ∧ Cx F O w w' [Bx 132 cI [.ar cj r.1, .u64 r.2.1, .u64 r.2.2.1, sl A n c, I r.2.2.2.2.1, .v (.func (.func 73) ⟨SV.ad []⟩ ⟨SV.ad []⟩), .v (.func (.func 74) ⟨SV.ad []⟩ ⟨SV.ad []⟩)], Ow e8 A n c r.2.2.2.1, Bx 115 ee [I r.2.2.2.2.2.1, I r.2.2.2.2.2.2.1, sl A1 n1 c1, sl A2 n2 c2, .b r.2.2.2.2.2.2.2.2.2.1, .u64 r.2.2.2.2.2.2.2.2.2.2.1, .v (.iface 126 (SV.val (pt cI 0)))], Ow e8 A1 n1 c1 r.2.2.2.2.2.2.2.1, Ow e8 A2 n2 c2 r.2.2.2.2.2.2.2.2.1, Bx 72 a6 [I 1, I 64, .u32 4294967295, .u64 274877906944, .b false, sl cG di cH, sl bL cg bM, sl aH aX aI, pt ee 0, sl (some ⟨gy, 0, none⟩) iR gz, .u64 r.2.2.2.2.2.2.2.2.2.2.2.1, .ar e8 r.2.2.2.2.2.2.2.2.2.2.2.2.1, I r.2.2.2.2.2.2.2.2.2.2.2.2.2, .v (.func (.func 65) ⟨SV.ad [pt a6 0]⟩ ⟨SV.ad []⟩)]]) := by
 unfold iG at hm
 subst iN
 subst gp
 subst dN
 obtain rfl := k.len 2 rfl
 obtain rfl := k.len 3 rfl
 obtain rfl := k.len 5 rfl
 subst px
 refine calls [pt a6 0] Try.func35 rfl (of_decide_eq_true (by kernel_rfl)) ?_
 refine ab <| bA [] .a qe (by kernel_rfl) ?_
 refine aa <| ab <| bA [5] (.n 2 (.b false) .z) (qs a6 0 <| qs a6 0 <| qB k 0 rfl 76 (.v (.func (.func 65) ⟨SV.ad [pt a6 0]⟩ ⟨SV.ad []⟩)) (by kernel_rfl) <| qe) (by kernel_rfl) ?_
 refine aa <| aL ?_
 obtain rfl := Option.some.inj hm
 refine aM [.b false] qe (by kernel_rfl) ?_
 have k_ := (((((k.pk .h).pk (.t (.t (.t .h)))).pk (.t (.t (.t .h)))).pk (.t (.t (.t .h)))).pk (.t (.t (.t (.t (.t .h)))))).pk (.t (.t (.t (.t (.t .h)))))
 exact ⟨cp, a7.length, cq, cO, bo.length, cP, dW, cm.length, dX, k_.len 1 rfl, k_.len 3 rfl, k_.len 4 rfl, rfl, k_⟩
theorem tH {F O : Nat → Prop} {w : World} (cE : List UInt8) (bd : List UInt8) (ai : List UInt8) (b6 : Int) (bf : Int) (bo : List UInt8) (cm : List UInt8) (b7 : Bool) (aU : UInt64) (cF : ae UInt64 8) (aw : UInt64) (ax : UInt64) (a7 : List UInt8) (aV : Int) (dY : List UInt8) (ir : UInt64) (ei : ae UInt8 64) (dr : Int) (a6 : Nat) (cG : Option Addr) (di : Nat) (cH : Nat) (bL : Option Addr) (cg : Nat) (bM : Nat) (aH : Option Addr) (aX : Nat) (aI : Nat) (ee : Nat) (cO : Option Addr) (dw : Nat) (cP : Nat) (dW : Option Addr) (eE : Nat) (dX : Nat) (cI : Nat) (cp : Option Addr) (cQ : Nat) (cq : Nat) (gy : Nat) (iR : Nat) (gz : Nat) (jK : Ro F w cG (e8.all cE)) (iN : cE.length = di) (h_ : di ≤ cH) (gw : Ro F w bL (e8.all bd)) (gp : bd.length = cg) (fF : cg ≤ bM) (dE : Ro F w aH (e8.all ai)) (dN : ai.length = aX) (dj : aX ≤ aI) (rK : Ro F w (some ⟨gy, 0, none⟩) (e8.all dY)) (px : dY.length = iR) (py : iR ≤ gz) (k : Cx F O w w [Bx 72 a6 [I 1, I 64, .u32 4294967295, .u64 274877906944, .b false, sl cG di cH, sl bL cg bM, sl aH aX aI, pt ee 0, sl (some ⟨gy, 0, none⟩) iR gz, .u64 ir, .ar e8 ei, I dr, .v (.func (.func 65) ⟨SV.ad [pt a6 0]⟩ ⟨SV.ad []⟩)], Bx 115 ee [I b6, I bf, sl cO dw cP, sl dW eE dX, .b b7, .u64 aU, .v (.iface 126 (SV.val (pt cI 0)))], Ow e8 cO dw cP bo, Ow e8 dW eE dX cm, Bx 132 cI [.ar cj cF, .u64 aw, .u64 ax, sl cp cQ cq, I aV, .v (.func (.func 73) ⟨SV.ad []⟩ ⟨SV.ad []⟩), .v (.func (.func 74) ⟨SV.ad []⟩ ⟨SV.ad []⟩)], Ow e8 cp cQ cq a7]) (r : (ae UInt64 8 × UInt64 × UInt64 × List UInt8 × Int × Int × Int × List UInt8 × List UInt8 × Bool × UInt64 × UInt64 × ae UInt8 64 × Int)) (hm : j6 cE bd ai b6 bf bo cm b7 aU cF aw ax a7 aV dY ir ei dr = some r) :
    Calls Try.prog 57 (ad [pt a6 0]) w (fun e w' => ∃ A n c A1 n1 c1 A2 n2 c2, r.2.2.2.1.length = n ∧ r.2.2.2.2.2.2.2.1.length = n1 ∧ r.2.2.2.2.2.2.2.2.1.length = n2 ∧ e = .returned (SV.val (.eO [])) ∧ Cx F O w w' [Bx 132 cI [.ar cj r.1, .u64 r.2.1, .u64 r.2.2.1, sl A n c, I r.2.2.2.2.1, .v (.func (.func 73) ⟨SV.ad []⟩ ⟨SV.ad []⟩), .v (.func (.func 74) ⟨SV.ad []⟩ ⟨SV.ad []⟩)], Ow e8 A n c r.2.2.2.1, Bx 115 ee [I r.2.2.2.2.2.1, I r.2.2.2.2.2.2.1, sl A1 n1 c1, sl A2 n2 c2, .b r.2.2.2.2.2.2.2.2.2.1, .u64 r.2.2.2.2.2.2.2.2.2.2.1, .v (.iface 126 (SV.val (pt cI 0)))], Ow e8 A1 n1 c1 r.2.2.2.2.2.2.2.1, Ow e8 A2 n2 c2 r.2.2.2.2.2.2.2.2.1, Bx 72 a6 [I 1, I 64, .u32 4294967295, .u64 274877906944, .b false, sl cG di cH, sl bL cg bM, sl aH aX aI, pt ee 0, sl (some ⟨gy, 0, none⟩) iR gz, .u64 r.2.2.2.2.2.2.2.2.2.2.2.1, .ar e8 r.2.2.2.2.2.2.2.2.2.2.2.2.1, I r.2.2.2.2.2.2.2.2.2.2.2.2.2, .v (.func (.func 65) ⟨SV.ad [pt a6 0]⟩ ⟨SV.ad []⟩)]]) := by
 unfold j6 at hm
 subst iN
 subst gp
 subst dN
 obtain rfl := k.len 2 rfl
 obtain rfl := k.len 3 rfl
 obtain rfl := k.len 5 rfl
 subst px
 refine calls [pt a6 0] Try.func57 rfl (of_decide_eq_true (by kernel_rfl)) ?_
 refine ab <| bA [] (.n 6 (.b false) .a) (qs a6 0 <| qs a6 0 <| qB k 0 rfl 9 (sl (some ⟨gy, 0, none⟩) dY.length gz) (by kernel_rfl) <| qe) (by kernel_rfl) ?_
 refine aa <| cw false (by kernel_rfl) (fun h => by cases h) (fun _ => ?_)
 refine aS ?_
 obtain rfl := Option.some.inj hm
 refine pJ [] qe (by kernel_rfl) ?_
 have k_ := (((((k.pk .h).pk (.t (.t (.t .h)))).pk (.t (.t (.t .h)))).pk (.t (.t (.t .h)))).pk (.t (.t (.t (.t (.t .h)))))).pk (.t (.t (.t (.t (.t .h)))))
 exact ⟨cp, a7.length, cq, cO, bo.length, cP, dW, cm.length, dX, k_.len 1 rfl, k_.len 3 rfl, k_.len 4 rfl, rfl, k_⟩
theorem tI {F O : Nat → Prop} {w : World} (cE : List UInt8) (bd : List UInt8) (ai : List UInt8) (b6 : Int) (bf : Int) (bo : List UInt8) (cm : List UInt8) (b7 : Bool) (aU : UInt64) (cF : ae UInt64 8) (aw : UInt64) (ax : UInt64) (a7 : List UInt8) (aV : Int) (dY : List UInt8) (ir : UInt64) (ei : ae UInt8 64) (dr : Int) (a6 : Nat) (cG : Option Addr) (di : Nat) (cH : Nat) (bL : Option Addr) (cg : Nat) (bM : Nat) (aH : Option Addr) (aX : Nat) (aI : Nat) (ee : Nat) (cO : Option Addr) (dw : Nat) (cP : Nat) (dW : Option Addr) (eE : Nat) (dX : Nat) (cI : Nat) (cp : Option Addr) (cQ : Nat) (cq : Nat) (gy : Nat) (iR : Nat) (gz : Nat) (jK : Ro F w cG (e8.all cE)) (iN : cE.length = di) (h_ : di ≤ cH) (gw : Ro F w bL (e8.all bd)) (gp : bd.length = cg) (fF : cg ≤ bM) (dE : Ro F w aH (e8.all ai)) (dN : ai.length = aX) (dj : aX ≤ aI) (rK : Ro F w (some ⟨gy, 0, none⟩) (e8.all dY)) (px : dY.length = iR) (py : iR ≤ gz) (k : Cx F O w w [Bx 72 a6 [I 1, I 64, .u32 4294967295, .u64 274877906944, .b false, sl cG di cH, sl bL cg bM, sl aH aX aI, pt ee 0, sl (some ⟨gy, 0, none⟩) iR gz, .u64 ir, .ar e8 ei, I dr, .v (.func (.func 65) ⟨SV.ad [pt a6 0]⟩ ⟨SV.ad []⟩)], Bx 115 ee [I b6, I bf, sl cO dw cP, sl dW eE dX, .b b7, .u64 aU, .v (.iface 126 (SV.val (pt cI 0)))], Ow e8 cO dw cP bo, Ow e8 dW eE dX cm, Bx 132 cI [.ar cj cF, .u64 aw, .u64 ax, sl cp cQ cq, I aV, .v (.func (.func 73) ⟨SV.ad []⟩ ⟨SV.ad []⟩), .v (.func (.func 74) ⟨SV.ad []⟩ ⟨SV.ad []⟩)], Ow e8 cp cQ cq a7]) (r : (List UInt8 × Int × ae UInt64 8 × UInt64 × UInt64 × List UInt8 × Int × Int × Int × List UInt8 × List UInt8 × Bool × UInt64 × UInt64 × ae UInt8 64 × Int)) (hm : iH cE bd ai b6 bf bo cm b7 aU cF aw ax a7 aV dY ir ei dr = some r) :
    Calls Try.prog 44 (ad [pt a6 0, I 8]) w (fun e w' => ∃ A n c A1 n1 c1 A2 n2 c2 A3 n3 c3, r.1.length = n ∧ r.2.2.2.2.2.1.length = n1 ∧ r.2.2.2.2.2.2.2.2.2.1.length = n2 ∧ r.2.2.2.2.2.2.2.2.2.2.1.length = n3 ∧ e = .returned (SV.val (.eO [sl A n c, I r.2.1])) ∧ Cx F O w w' [Ow e8 A n c r.1, Bx 132 cI [.ar cj r.2.2.1, .u64 r.2.2.2.1, .u64 r.2.2.2.2.1, sl A1 n1 c1, I r.2.2.2.2.2.2.1, .v (.func (.func 73) ⟨SV.ad []⟩ ⟨SV.ad []⟩), .v (.func (.func 74) ⟨SV.ad []⟩ ⟨SV.ad []⟩)], Ow e8 A1 n1 c1 r.2.2.2.2.2.1, Bx 115 ee [I r.2.2.2.2.2.2.2.1, I r.2.2.2.2.2.2.2.2.1, sl A2 n2 c2, sl A3 n3 c3, .b r.2.2.2.2.2.2.2.2.2.2.2.1, .u64 r.2.2.2.2.2.2.2.2.2.2.2.2.1, .v (.iface 126 (SV.val (pt cI 0)))], Ow e8 A2 n2 c2 r.2.2.2.2.2.2.2.2.2.1, Ow e8 A3 n3 c3 r.2.2.2.2.2.2.2.2.2.2.1, Bx 72 a6 [I 1, I 64, .u32 4294967295, .u64 274877906944, .b false, sl cG di cH, sl bL cg bM, sl aH aX aI, pt ee 0, sl (some ⟨gy, 0, none⟩) iR gz, .u64 r.2.2.2.2.2.2.2.2.2.2.2.2.2.1, .ar e8 r.2.2.2.2.2.2.2.2.2.2.2.2.2.2.1, I r.2.2.2.2.2.2.2.2.2.2.2.2.2.2.2, .v (.func (.func 65) ⟨SV.ad [pt a6 0]⟩ ⟨SV.ad []⟩)]]) := by
 unfold iH at hm
 subst iN
 subst gp
 subst dN
 obtain rfl := k.len 2 rfl
 obtain rfl := k.len 3 rfl
 obtain rfl := k.len 5 rfl
 subst px
 refine calls [pt a6 0, I 8] Try.func44 rfl (of_decide_eq_true (by kernel_rfl)) ?_
 refine ab <| bA [] .a qe (by kernel_rfl) ?_
 refine aa <| ab <| ab <| ao <| bn 1 [] (.n 11 (pt a6 0) .a) qe (by kernel_rfl) ?_
 refine ag ?_
 obtain ⟨r_, dk, hm⟩ := ob hm
 obtain ⟨F1, O1, lO, hO, rO, hF, hb⟩ := k.go (.i (.i (.i (.i (.i (.i .e))))))
 refine aq [] 12 _ xw (by kernel_rfl) (o4 (F := F1) (O := O1) _ _ _ _ _ _ _ _ _ _ _ _ _ _ _ _ _ _ _ _ _ _ _ _ _ _ _ _ _ _ _ _ _ _ _ _ _ _ _ _ _ _ (Ro.aY jK k hF) rfl h_ (Ro.aY gw k hF) rfl fF (Ro.aY dE k hF) rfl dj (Ro.aY rK k hF) rfl py lO _ dk) ?_
 rintro e_ w_ ⟨A0, _, c0, A4, _, c4, A5, _, c5, rfl, rfl, rfl, rfl, k_⟩
 have da := hb w_ _ _ k_ (.c (.c (.c (.c (.c (.c .n))))))
 refine ⟨.b false, rfl, ?_⟩
 refine af <| aa <| cw false (by kernel_rfl) (fun h => by cases h) (fun _ => ?_)
 refine aS <| aa <| ab <| ab <| bA [15] (.n 18 (.b false) (.ss .a)) qe (by kernel_rfl) ?_
 refine aa <| cw false (by kernel_rfl) (fun h => by cases h) (fun _ => ?_)
 refine aS <| aa <| ab <| ao <| bn 1 [] (.n 19 (pt a6 0) (.s .a)) qe (by kernel_rfl) ?_
 refine ag ?_
 obtain ⟨ah, dt, hm⟩ := ob hm
 have dF := (((((da.pk (.t .h)).pk (.t .h)).pk (.t (.t (.t (.t .h))))).pk (.t (.t (.t (.t .h))))).pk (.t (.t (.t (.t .h))))).pk (.t (.t (.t (.t (.t .h)))))
 obtain ⟨xD, xE, ni, FJ, tE, rP, xa⟩ := dF.go (.i (.i (.i (.i (.i (.i .e))))))
 refine aq [] 20 _ Fy (by kernel_rfl) (tH (F := xD) (O := xE) _ _ _ _ _ _ _ _ _ _ _ _ _ _ _ _ _ _ _ _ _ _ _ _ _ _ _ _ _ _ _ _ _ _ _ _ _ _ _ _ _ _ (Ro.aY jK dF rP) rfl h_ (Ro.aY gw dF rP) rfl fF (Ro.aY dE dF rP) rfl dj (Ro.aY rK dF rP) rfl py ni _ dt) ?_
 rintro e_ lh ⟨A6, _, c6, A7, _, c7, A8, _, c8, rfl, rfl, rfl, rfl, en⟩
 have eA := xa lh _ _ en (.c (.c (.c (.c (.c (.c .n))))))
 refine ⟨.eO [], rfl, ?_⟩
 refine af <| aa <| ab <| GK bw (by kernel_rfl) (.n 6 (.u64 ((274877906944 : UInt64) - ah.2.2.2.2.2.2.2.2.2.2.2.1)) (.ss .a)) (fun m => qs a6 0 <| qs a6 0 <| qs a6 0 <| qB (eA.drew m) 5 rfl 3 (.u64 274877906944) (by kernel_rfl) <| qs a6 0 <| qs a6 0 <| qB (eA.drew m) 5 rfl 10 (.u64 ah.2.2.2.2.2.2.2.2.2.2.2.1) (by kernel_rfl) <| qe) (by kernel_rfl) (fun m_ => ?_)
 have fJ := eA.drew m_
 refine aa <| ab <| ab <| bA [33] (.n 36 (.b (decide (((274877906944 : UInt64) - ah.2.2.2.2.2.2.2.2.2.2.2.1) = 0))) .a) qe (by kernel_rfl) ?_
 refine aa <| bb (((274877906944 : UInt64) - ah.2.2.2.2.2.2.2.2.2.2.2.1) = 0) (by kernel_rfl) (fun hc => ?_) (fun hc => ?_)
 · rw [if_pos hc] at hm
   refine ab <| bA [] (.n 4 (sl none 0 0) (.n 5 (I 70) .z)) qe (by kernel_rfl) ?_
   refine aa <| aL (bI ?_)
   have gi := fJ.nil e8
   obtain rfl := Option.some.inj hm
   refine aM [sl none 0 0, I 70] qe (by kernel_rfl) ?_
   have fY := ((((((gi.pk (.t (.t (.t (.t (.t .h)))))).pk (.t (.t (.t (.t (.t .h)))))).pk (.t (.t (.t (.t (.t .h)))))).pk (.t (.t (.t (.t (.t .h)))))).pk (.t (.t (.t (.t (.t .h)))))).pk (.t (.t (.t (.t (.t .h)))))).pk (.t (.t (.t (.t (.t (.t .h))))))
   exact ⟨none, 0, 0, A6, ah.2.2.2.1.length, c6, A7, ah.2.2.2.2.2.2.2.1.length, c7, A8, ah.2.2.2.2.2.2.2.2.1.length, c8, fY.len 0 rfl, fY.len 2 rfl, fY.len 4 rfl, fY.len 5 rfl, rfl, fY⟩
 rw [if_neg hc] at hm
 refine aS <| aa <| kS (fun L wr => ∃ (n0 : Int), fE bd ai dY ah n0 = some r ∧ L = [(0, pt a6 0), (1, I n0)] ∧ Cx F O w wr [Bx 72 a6 [I 1, I 64, .u32 4294967295, .u64 274877906944, .b false, sl cG cE.length cH, sl bL bd.length bM, sl aH ai.length aI, pt ee 0, sl (some ⟨gy, 0, none⟩) dY.length gz, .u64 ah.2.2.2.2.2.2.2.2.2.2.2.1, .ar e8 ah.2.2.2.2.2.2.2.2.2.2.2.2.1, I ah.2.2.2.2.2.2.2.2.2.2.2.2.2, .v (.func (.func 65) ⟨SV.ad [pt a6 0]⟩ ⟨SV.ad []⟩)], Bx 115 ee [I ah.2.2.2.2.2.1, I ah.2.2.2.2.2.2.1, sl A7 ah.2.2.2.2.2.2.2.1.length c7, sl A8 ah.2.2.2.2.2.2.2.2.1.length c8, .b ah.2.2.2.2.2.2.2.2.2.1, .u64 ah.2.2.2.2.2.2.2.2.2.2.1, .v (.iface 126 (SV.val (pt cI 0)))], Ow e8 A7 ah.2.2.2.2.2.2.2.1.length c7 ah.2.2.2.2.2.2.2.1, Ow e8 A8 ah.2.2.2.2.2.2.2.2.1.length c8 ah.2.2.2.2.2.2.2.2.1, Bx 132 cI [.ar cj ah.1, .u64 ah.2.1, .u64 ah.2.2.1, sl A6 ah.2.2.2.1.length c6, I ah.2.2.2.2.1, .v (.func (.func 73) ⟨SV.ad []⟩ ⟨SV.ad []⟩), .v (.func (.func 74) ⟨SV.ad []⟩ ⟨SV.ad []⟩)], Ow e8 A6 ah.2.2.2.1.length c6 ah.2.2.2.1]) ?_ ?_
 ·
  refine ab <| bA [] (.n 40 (.b (decide (((274877906944 : UInt64) - ah.2.2.2.2.2.2.2.2.2.2.2.1) < (8 : UInt64)))) (.s .a)) qe (by kernel_rfl) ?_
  refine aa <| bb (((274877906944 : UInt64) - ah.2.2.2.2.2.2.2.2.2.2.2.1) < (8 : UInt64)) (by kernel_rfl) (fun kr => ?_) (fun kr => ?_)
  · rw [if_pos kr] at hm
    refine bA [] (.n 1 (I (aB ((274877906944 : UInt64) - ah.2.2.2.2.2.2.2.2.2.2.2.1).toNat)) (.ss (.k .z))) qe (by kernel_rfl) ?_
    have fZ := (((((fJ.pk (.t .h)).pk (.t .h)).pk (.t (.t (.t (.t .h))))).pk (.t (.t (.t (.t .h))))).pk (.t (.t (.t (.t .h))))).pk (.t (.t (.t (.t (.t .h)))))
    exact iy ⟨aB ((274877906944 : UInt64) - ah.2.2.2.2.2.2.2.2.2.2.2.1).toNat, hm, rfl, fZ⟩ (by kernel_rfl)
  rw [if_neg kr] at hm
  refine aS ?_
  have gY := (((((fJ.pk (.t .h)).pk (.t .h)).pk (.t (.t (.t (.t .h))))).pk (.t (.t (.t (.t .h))))).pk (.t (.t (.t (.t .h))))).pk (.t (.t (.t (.t (.t .h)))))
  exact iy ⟨(8 : Int), hm, rfl, gY⟩ (by kernel_rfl)
 rintro L_ l4 ⟨n0, hm, rfl, dK⟩
 simp only [fE] at hm
 refine ab <| bA [] (.n 7 (sl none 0 0) .a) qe (by kernel_rfl) ?_
 refine aa <| ab <| cu ?_
 have ez := dK.nil e8
 refine pc (fD bd ai dY ah n0) (fun s L wr => ∃ (aC : UInt64) (rR : ae UInt8 64) (mY : Int) (out : List UInt8) (A9 : Option Addr) (n4 : Nat) (c9 : Nat), (aC, rR, mY, out) = s ∧ L = [(0, pt a6 0), (1, I n0), (7, sl A9 n4 c9)] ∧ out.length = n4 ∧ Cx F O w wr [Bx 72 a6 [I 1, I 64, .u32 4294967295, .u64 274877906944, .b false, sl cG cE.length cH, sl bL bd.length bM, sl aH ai.length aI, pt ee 0, sl (some ⟨gy, 0, none⟩) dY.length gz, .u64 aC, .ar e8 rR, I mY, .v (.func (.func 65) ⟨SV.ad [pt a6 0]⟩ ⟨SV.ad []⟩)], Bx 115 ee [I ah.2.2.2.2.2.1, I ah.2.2.2.2.2.2.1, sl A7 ah.2.2.2.2.2.2.2.1.length c7, sl A8 ah.2.2.2.2.2.2.2.2.1.length c8, .b ah.2.2.2.2.2.2.2.2.2.1, .u64 ah.2.2.2.2.2.2.2.2.2.2.1, .v (.iface 126 (SV.val (pt cI 0)))], Ow e8 A7 ah.2.2.2.2.2.2.2.1.length c7 ah.2.2.2.2.2.2.2.1, Ow e8 A8 ah.2.2.2.2.2.2.2.2.1.length c8 ah.2.2.2.2.2.2.2.2.1, Bx 132 cI [.ar cj ah.1, .u64 ah.2.1, .u64 ah.2.2.1, sl A6 ah.2.2.2.1.length c6, I ah.2.2.2.2.1, .v (.func (.func 73) ⟨SV.ad []⟩ ⟨SV.ad []⟩), .v (.func (.func 74) ⟨SV.ad []⟩ ⟨SV.ad []⟩)], Ow e8 A6 ah.2.2.2.1.length c6 ah.2.2.2.1, Ow e8 A9 n4 c9 out]) (ah.2.2.2.2.2.2.2.2.2.2.2.1, ah.2.2.2.2.2.2.2.2.2.2.2.2.1, ah.2.2.2.2.2.2.2.2.2.2.2.2.2, ([] : List UInt8)) r hm ⟨ah.2.2.2.2.2.2.2.2.2.2.2.1, ah.2.2.2.2.2.2.2.2.2.2.2.2.1, ah.2.2.2.2.2.2.2.2.2.2.2.2.2, ([] : List UInt8), none, 0, 0, rfl, rfl, ez.len 6 rfl, ez⟩ (by kernel_rfl) ?_
 intro yU L_ qf y0 jd dd nF
 obtain ⟨aC, rR, mY, out, A9, _, c9, rfl, rfl, rfl, c_⟩ := jd
 have hm := dd; simp only [fD] at hm
 clear dd
 refine ab <| ab <| bA [] (.n 46 (.b (decide (((out.length : Nat) : Int) < n0))) .a) qe (by kernel_rfl) ?_
 refine aa <| bb (((out.length : Nat) : Int) < n0) (by kernel_rfl) (fun pf => ?_) (fun pf => ?_)
 · rw [if_pos pf] at hm
   refine aS <| aa <| cu <| ab <| GK bw (by kernel_rfl) (.n 8 (.u64 (aC / 64)) (.s .a)) (fun m => qs a6 0 <| qs a6 0 <| qB (c_.drew m) 0 rfl 10 (.u64 aC) (by kernel_rfl) <| qs a6 0 <| qs a6 0 <| qs a6 0 <| qB (c_.drew m) 0 rfl 1 (I 64) (by kernel_rfl) <| qp ((64 : UInt64) ≠ 0) (by show (64 : UInt64) ≠ 0; decide) <| qe) (by kernel_rfl) (fun xp => ?_)
   have dH := c_.drew xp
   refine aa <| kS (fun L wr => ∃ (lA : ae UInt8 64) (mZ : Int), gv n0 aC out lA mZ = some y0 ∧ L = [(0, pt a6 0), (1, I n0), (7, sl A9 out.length c9)] ∧ Cx F O w wr [Bx 72 a6 [I 1, I 64, .u32 4294967295, .u64 274877906944, .b false, sl cG cE.length cH, sl bL bd.length bM, sl aH ai.length aI, pt ee 0, sl (some ⟨gy, 0, none⟩) dY.length gz, .u64 aC, .ar e8 lA, I mZ, .v (.func (.func 65) ⟨SV.ad [pt a6 0]⟩ ⟨SV.ad []⟩)], Bx 115 ee [I ah.2.2.2.2.2.1, I ah.2.2.2.2.2.2.1, sl A7 ah.2.2.2.2.2.2.2.1.length c7, sl A8 ah.2.2.2.2.2.2.2.2.1.length c8, .b ah.2.2.2.2.2.2.2.2.2.1, .u64 ah.2.2.2.2.2.2.2.2.2.2.1, .v (.iface 126 (SV.val (pt cI 0)))], Ow e8 A7 ah.2.2.2.2.2.2.2.1.length c7 ah.2.2.2.2.2.2.2.1, Ow e8 A8 ah.2.2.2.2.2.2.2.2.1.length c8 ah.2.2.2.2.2.2.2.2.1, Bx 132 cI [.ar cj ah.1, .u64 ah.2.1, .u64 ah.2.2.1, sl A6 ah.2.2.2.1.length c6, I ah.2.2.2.2.1, .v (.func (.func 73) ⟨SV.ad []⟩ ⟨SV.ad []⟩), .v (.func (.func 74) ⟨SV.ad []⟩ ⟨SV.ad []⟩)], Ow e8 A6 ah.2.2.2.1.length c6 ah.2.2.2.1, Ow e8 A9 out.length c9 out]) ?_ ?_
   ·
    refine ab <| bA [] (.n 64 (.b (decide (mY ≠ (aB (aC / 64).toNat)))) .a) (qs a6 0 <| qs a6 0 <| qB dH 0 rfl 75 (I mY) (by kernel_rfl) <| qe) (by kernel_rfl) ?_
    refine aa <| bb (mY ≠ (aB (aC / 64).toNat)) (by kernel_rfl) (fun ub => ?_) (fun ub => ?_)
    · rw [if_pos ub] at hm
      refine ab ?_
      have eX := dH.drew 1
      refine qy bw (.q 20 0 (.q 0 2 (.q 1 2 (.q 2 1 (.q 3 1 (.q 4 2 (.q 5 2 (.q 6 1 (.q 7 0 (.q 8 2 (.q 9 2 (.q 10 1 (.q 11 0 (.q 12 2 (.q 13 2 (.q 14 1 (.q 15 0 (.q 16 2 (.q 17 2 (.q 18 1 (.q 19 0 (.op 21 (.op 22 .nil))))))))))))))))))))))) [21, 22] eX (.c (.aP (.kk (.k .e))) (.c (.s (.aP (.kk .e))) .l)) (by kernel_rfl) (fun _ => ?_)
      refine bx 1 0 [] (.n 85 (.u64 (aC / 64)) (.s .a)) (fun x hx => qe) (by kernel_rfl) (fun _ => ?_)
      refine bx 2 2 [] (.n 66 (pt a6 0) .a) (fun x hx => qs a6 0 <| qe) (by kernel_rfl) (fun _ => ?_)
      refine bx 2 1 [] (.n 68 (sl (some ⟨a6, 11, none⟩) 64 64) (.s .a)) (fun x hx => qs a6 0 <| qo (.v (.slice (some ⟨a6, 11, none⟩) 64 64)) <| qp (((some ⟨a6, 11, none⟩) : Option Addr).isSome = true ∧ Value.slice (sA (some ⟨a6, 11, none⟩) 0 64 1) (64 - 0) (64 - 0) = .slice (some ⟨a6, 11, none⟩) 64 64) ⟨rfl, ur _ _ _ _ _ rfl⟩ <| qe) (by kernel_rfl) (fun _ => ?_)
      refine bx 2 2 [] (.n 70 (pt a6 0) .a) (fun x hx => qs a6 0 <| qe) (by kernel_rfl) (fun _ => ?_)
      refine bx 1 1 [] (.n 71 (pt a6 0) (.s .a)) (fun x hx => qs a6 0 <| qe) (by kernel_rfl) (fun _ => ?_)
      refine bx 1 0 [] (.n 72 (.agg [I 1, I 64, .u32 4294967295, .u64 274877906944, .b false]) (.s .a)) (fun x hx => qT hx 0 rfl 0 5 [I 1, I 64, .u32 4294967295, .u64 274877906944, .b false] (by kernel_rfl) (by decide) <| qe) (by kernel_rfl) (fun _ => ?_)
      refine bx 2 2 [] (.n 74 (pt a6 0) .a) (fun x hx => qs a6 0 <| qe) (by kernel_rfl) (fun _ => ?_)
      refine bx 1 1 [] (.n 75 (pt a6 6) (.s .a)) (fun x hx => qs a6 0 <| qe) (by kernel_rfl) (fun _ => ?_)
      refine bx 1 0 [] (.n 76 (sl bL bd.length bM) (.s .a)) (fun x hx => qB hx 0 rfl 6 (sl bL bd.length bM) (by kernel_rfl) <| qe) (by kernel_rfl) (fun _ => ?_)
      refine bx 2 2 [] (.n 78 (pt a6 0) .a) (fun x hx => qs a6 0 <| qe) (by kernel_rfl) (fun _ => ?_)
      refine bx 1 1 [] (.n 79 (pt a6 7) (.s .a)) (fun x hx => qs a6 0 <| qe) (by kernel_rfl) (fun _ => ?_)
      refine bx 1 0 [] (.n 80 (sl aH ai.length aI) (.s .a)) (fun x hx => qB hx 0 rfl 7 (sl aH ai.length aI) (by kernel_rfl) <| qe) (by kernel_rfl) (fun _ => ?_)
      refine bx 2 2 [] (.n 82 (pt a6 0) .a) (fun x hx => qs a6 0 <| qe) (by kernel_rfl) (fun _ => ?_)
      refine bx 1 1 [] (.n 83 (pt a6 9) (.s .a)) (fun x hx => qs a6 0 <| qe) (by kernel_rfl) (fun _ => ?_)
      refine bx 1 0 [] (.n 84 (sl (some ⟨gy, 0, none⟩) dY.length gz) (.s .a)) (fun x hx => qB hx 0 rfl 9 (sl (some ⟨gy, 0, none⟩) dY.length gz) (by kernel_rfl) <| qe) (by kernel_rfl) (fun _ => ?_)
      refine bZ (by kernel_rfl) rfl ?_
      obtain ⟨bh, gX, hm⟩ := ob hm
      refine aq [] 86 _ Fz (by kernel_rfl) (qD (F := N0) (O := N0) _ _ _ _ _ _ _ _ _ _ _ _ _ (Ro.n0 (gw.cx eX)) rfl fF (Ro.n0 (dE.cx eX)) rfl dj (Ro.n0 (rK.cx eX)) rfl py (Cx.refl _) _ gX) ?_
      rintro e_ p7 ⟨wR, _, sW, rfl, rfl, iu⟩
      have fX := eX.call iu
      refine ⟨sl wR bh.length sW, rfl, ?_⟩
      refine ⟨(fX.ck (.aP (.kk (.k .z)))), fun _ => ?_⟩
      refine bZ (by kernel_rfl) rfl <| x8 (E := e8) (dn := 64) (dc := 64) (v := sl wR bh.length sW) (src := bh) (lo := 0) (m' := 64) im [] 87 0 [I 1, I 64, .u32 4294967295, .u64 274877906944, .b false, sl cG cE.length cH, sl bL bd.length bM, sl aH ai.length aI, pt ee 0, sl (some ⟨gy, 0, none⟩) dY.length gz, .u64 aC] [I mY, .v (.func (.func 65) ⟨SV.ad [pt a6 0]⟩ ⟨SV.ad []⟩)] rR (by kernel_rfl) (sK _ _ _).symm fX rfl (Src.sl (fX.rd 7 rfl) (fX.len 7 rfl) (by rfl)) (fX.len 7 rfl) (by have := rR.h; omega) (by omega) (by omega) ?_
      intro sV jY
      refine ⟨(jY.ck (.s (.aP (.kk .z)))), fun _ => ?_⟩
      refine ct <| aa <| ao <| bn 5 [] (.n 90 (I (aB (aC / 64).toNat)) (.n 92 (pt a6 75) (.fQ (.fQ (.s .a))))) (qs a6 0 <| qs a6 0 <| qe) (by kernel_rfl) ?_
      refine ag <| ey [] 0 (I (aB (aC / 64).toNat)) [I (aB (aC / 64).toNat)] (Pt.at a6 75) jY rfl (.aP (.aP (.aP .h))) (by kernel_rfl) (by kernel_rfl) ?_
      intro wi iK
      have kt := iK.ck (.aP (.kk (.k .z)))
      refine af ?_
      exact iy ⟨(tP rR 0 64 bh), aB (aC / 64).toNat, hm, rfl, kt⟩ (by kernel_rfl)
    rw [if_neg ub] at hm
    refine aS ?_
    exact iy ⟨rR, mY, hm, rfl, dH⟩ (by kernel_rfl)
   rintro L_ vO ⟨lA, mZ, hm, rfl, kg⟩
   simp only [gv] at hm
   refine ab <| GK bw (by kernel_rfl) (.n 9 (I (aB (aC % 64).toNat)) .a) (fun m => qs a6 0 <| qs a6 0 <| qB (kg.drew m) 0 rfl 10 (.u64 aC) (by kernel_rfl) <| qs a6 0 <| qs a6 0 <| qs a6 0 <| qB (kg.drew m) 0 rfl 1 (I 64) (by kernel_rfl) <| qp ((64 : UInt64) ≠ 0) (by show (64 : UInt64) ≠ 0; decide) <| qe) (by kernel_rfl) (fun Se => ?_)
   have lW := kg.drew Se
   refine aa <| ab <| bA [] (.n 10 (I (if aB (64 - (aB (aC % 64).toNat)) < aB (n0 - ((out.length : Nat) : Int)) then aB (64 - (aB (aC % 64).toNat)) else aB (n0 - ((out.length : Nat) : Int)))) .a) (qs a6 0 <| qs a6 0 <| qs a6 0 <| qB lW 0 rfl 1 (I 64) (by kernel_rfl) <| qe) (by kernel_rfl) ?_
   refine aa <| ab <| ao ?_
   obtain ⟨b, qu, hm⟩ := ob hm
   have hs := hP qu
   have hl := kU qu
   have hn : lA.l.length = 64 := lA.h
   have w9 : 64 ≤ 64 := (Nat.le_refl _)
   obtain ⟨yX, ue, e_, uc, hA, ud⟩ := Lq (some ⟨a6, 11, none⟩) (Int.toNat (aB (aC % 64).toNat)) 64 1 (Int.toNat (aB ((aB (aC % 64).toNat) + (if aB (64 - (aB (aC % 64).toNat)) < aB (n0 - ((out.length : Nat) : Int)) then aB (64 - (aB (aC % 64).toNat)) else aB (n0 - ((out.length : Nat) : Int))))) - Int.toNat (aB (aC % 64).toNat)) b.length (by omega) (by omega)
   refine bn 9 [] (.n 117 (sl A9 out.length c9) (.n 125 (sl yX b.length ue) (.k (.s .a)))) (qs a6 0 <| qs a6 0 <| qp (0 ≤ aB ((aB (aC % 64).toNat) + (if aB (64 - (aB (aC % 64).toNat)) < aB (n0 - ((out.length : Nat) : Int)) then aB (64 - (aB (aC % 64).toNat)) else aB (n0 - ((out.length : Nat) : Int)))) ∧ aB ((aB (aC % 64).toNat) + (if aB (64 - (aB (aC % 64).toNat)) < aB (n0 - ((out.length : Nat) : Int)) then aB (64 - (aB (aC % 64).toNat)) else aB (n0 - ((out.length : Nat) : Int)))) ≤ ((64 : Nat) : Int)) (by omega) <| qp (0 ≤ aB (aC % 64).toNat ∧ aB (aC % 64).toNat ≤ ((Int.toNat (aB ((aB (aC % 64).toNat) + (if aB (64 - (aB (aC % 64).toNat)) < aB (n0 - ((out.length : Nat) : Int)) then aB (64 - (aB (aC % 64).toNat)) else aB (n0 - ((out.length : Nat) : Int))))) : Nat) : Int)) (by omega) <| qo (.v (.slice yX b.length ue)) <| qp (((some ⟨a6, 11, none⟩) : Option Addr).isSome = true ∧ Value.slice (sA (some ⟨a6, 11, none⟩) (Int.toNat (aB (aC % 64).toNat)) 64 1) (Int.toNat (aB ((aB (aC % 64).toNat) + (if aB (64 - (aB (aC % 64).toNat)) < aB (n0 - ((out.length : Nat) : Int)) then aB (64 - (aB (aC % 64).toNat)) else aB (n0 - ((out.length : Nat) : Int))))) - Int.toNat (aB (aC % 64).toNat)) (64 - Int.toNat (aB (aC % 64).toNat)) = .slice yX b.length ue) ⟨rfl, e_⟩ <| qe) (by kernel_rfl) ?_
   refine ag ?_
   obtain ⟨zV, EG, hm⟩ := ob hm
   obtain ⟨hz, FI⟩ := kV EG
   refine jG (E := e8) (v := sl yX b.length ue) (ys := b) im [] 126 6 (by kernel_rfl) lW rfl (Src.sl (Rd.cut (Rd.vec (lW.uq 0 rfl) (c := eG.all e8 lA.l) (off := 11) (by kernel_rfl)) qu rfl (by rfl) hA (by omega)) rfl (by rfl)) rfl (by have := lW.len 6 rfl; have := hm; omega) ?_
   intro AN xB Av mh
   rw [← FI] at mh
   refine bn 1 [] (.n 7 (sl AN (out.length + b.length) xB) (.lj (.ua .z))) qe (by kernel_rfl) ?_
   refine af <| aa <| ao <| bn 9 [] (.n 133 (.u64 (aC + (UInt64.ofInt (if aB (64 - (aB (aC % 64).toNat)) < aB (n0 - ((out.length : Nat) : Int)) then aB (64 - (aB (aC % 64).toNat)) else aB (n0 - ((out.length : Nat) : Int)))))) (.n 135 (pt a6 10) (.k (.s .a)))) (qs a6 0 <| qs a6 0 <| qB mh 0 rfl 10 (.u64 aC) (by kernel_rfl) <| qs a6 0 <| qs a6 0 <| qe) (by kernel_rfl) ?_
   refine ag <| ey [] 0 (.u64 (aC + (UInt64.ofInt (if aB (64 - (aB (aC % 64).toNat)) < aB (n0 - ((out.length : Nat) : Int)) then aB (64 - (aB (aC % 64).toNat)) else aB (n0 - ((out.length : Nat) : Int)))))) [.u64 (aC + (UInt64.ofInt (if aB (64 - (aB (aC % 64).toNat)) < aB (n0 - ((out.length : Nat) : Int)) then aB (64 - (aB (aC % 64).toNat)) else aB (n0 - ((out.length : Nat) : Int)))))] (Pt.at a6 10) mh rfl (.aP (.aP (.kk .h))) (by kernel_rfl) (by kernel_rfl) ?_
   intro De mo
   refine af <| hH ?_
   exact jR (aC + (UInt64.ofInt (if aB (64 - (aB (aC % 64).toNat)) < aB (n0 - ((out.length : Nat) : Int)) then aB (64 - (aB (aC % 64).toNat)) else aB (n0 - ((out.length : Nat) : Int)))), lA, mZ, zV) (Option.some.inj hm).symm ⟨aC + (UInt64.ofInt (if aB (64 - (aB (aC % 64).toNat)) < aB (n0 - ((out.length : Nat) : Int)) then aB (64 - (aB (aC % 64).toNat)) else aB (n0 - ((out.length : Nat) : Int)))), lA, mZ, zV, AN, out.length + b.length, xB, rfl, rfl, mo.len 6 rfl, mo⟩ (by kernel_rfl)
 rw [if_neg pf] at hm
 refine iq (fe (fe (kG ?_)))
 have hm := d_ hm nF
 refine aa <| ab <| bA [] (.n 4 (sl A9 out.length c9) (.n 5 (I 0) .z)) qe (by kernel_rfl) ?_
 refine aa <| aL ?_
 obtain rfl := Option.some.inj hm
 refine aM [sl A9 out.length c9, I 0] qe (by kernel_rfl) ?_
 have lX := ((((((c_.pk .h).pk (.t (.t (.t .h)))).pk (.t (.t (.t .h)))).pk (.t (.t (.t .h)))).pk (.t (.t (.t (.t (.t .h)))))).pk (.t (.t (.t (.t (.t .h)))))).pk (.t (.t (.t (.t (.t (.t .h))))))
 exact ⟨A9, out.length, c9, A6, ah.2.2.2.1.length, c6, A7, ah.2.2.2.2.2.2.2.1.length, c7, A8, ah.2.2.2.2.2.2.2.2.1.length, c8, lX.len 0 rfl, lX.len 2 rfl, lX.len 4 rfl, lX.len 5 rfl, rfl, lX⟩
theorem sy {F O : Nat → Prop} {w : World} (tv : List UInt8) (oP : List UInt8) (mJ : List UInt8) (iE : List UInt8) (lU : Int) (j4 : Int) (k7 : List UInt8) (nb : List UInt8) (lV : Bool) (jn : UInt64) (nf : ae UInt64 8) (gm : UInt64) (gn : UInt64) (j5 : List UInt8) (jo : Int) (uO : List UInt8) (tw : UInt64) (qY : ae UInt8 64) (oQ : Int) (p : Int) (Bt : Nat) (sx : Nat) (rH : Option Addr) (o3 : Nat) (rI : Nat) (p9 : Nat) (pr : Option Addr) (nj : Nat) (pv : Nat) (oa : Option Addr) (l2 : Nat) (oc : Nat) (kA : Option Addr) (iQ : Nat) (kB : Nat) (rb : Nat) (nJ : Option Addr) (nK : Nat) (nL : Nat) (p_ : Option Addr) (qa : Nat) (qb : Nat) (np : Nat) (mR : Option Addr) (mS : Nat) (mT : Nat) (w4 : Nat) (tJ : Nat) (w5 : Nat) (Ak : Nat) (Ie : Ro F w rH (e8.all tv)) (yB : tv.length = o3) (Gq : o3 ≤ rI) (yC : Ro F w pr (e8.all oP)) (wX : oP.length = nj) (wY : nj ≤ pv) (wZ : Ro F w oa (e8.all mJ)) (u5 : mJ.length = l2) (u6 : l2 ≤ oc) (rJ : Ro F w kA (e8.all iE)) (qw : iE.length = iQ) (qx : iQ ≤ kB) (EH : Ro F w (some ⟨w4, 0, none⟩) (e8.all uO)) (Dp : uO.length = tJ) (Dq : tJ ≤ w5) (k : Cx F O w w [Bx 35 Bt [pt sx 0], Bx 54 sx [sl rH o3 rI, pt p9 0], Bx 72 p9 [I 1, I 64, .u32 4294967295, .u64 274877906944, .b false, sl pr nj pv, sl oa l2 oc, sl kA iQ kB, pt rb 0, sl (some ⟨w4, 0, none⟩) tJ w5, .u64 tw, .ar e8 qY, I oQ, .v (.func (.func 65) ⟨SV.ad [pt p9 0]⟩ ⟨SV.ad []⟩)], Bx 115 rb [I lU, I j4, sl nJ nK nL, sl p_ qa qb, .b lV, .u64 jn, .v (.iface 126 (SV.val (pt np 0)))], Ow e8 nJ nK nL k7, Ow e8 p_ qa qb nb, Bx 132 np [.ar cj nf, .u64 gm, .u64 gn, sl mR mS mT, I jo, .v (.func (.func 73) ⟨SV.ad []⟩ ⟨SV.ad []⟩), .v (.func (.func 74) ⟨SV.ad []⟩ ⟨SV.ad []⟩)], Ow e8 mR mS mT j5, Bx 25 Ak [I p]]) (r : (UInt64 × ae UInt64 8 × UInt64 × UInt64 × List UInt8 × Int × Int × Int × List UInt8 × List UInt8 × Bool × UInt64 × UInt64 × ae UInt8 64 × Int × Int)) (hm : gS tv oP mJ iE lU j4 k7 nb lV jn nf gm gn j5 jo uO tw qY oQ p = some r) :
    Calls Try.prog 43 (ad [pt Bt 0, pt Ak 0]) w (fun e w' => ∃ A n c A1 n1 c1 A2 n2 c2, r.2.2.2.2.1.length = n ∧ r.2.2.2.2.2.2.2.2.1.length = n1 ∧ r.2.2.2.2.2.2.2.2.2.1.length = n2 ∧ e = .returned (SV.val (.u64 r.1)) ∧ Cx F O w w' [Bx 132 np [.ar cj r.2.1, .u64 r.2.2.1, .u64 r.2.2.2.1, sl A n c, I r.2.2.2.2.2.1, .v (.func (.func 73) ⟨SV.ad []⟩ ⟨SV.ad []⟩), .v (.func (.func 74) ⟨SV.ad []⟩ ⟨SV.ad []⟩)], Ow e8 A n c r.2.2.2.2.1, Bx 115 rb [I r.2.2.2.2.2.2.1, I r.2.2.2.2.2.2.2.1, sl A1 n1 c1, sl A2 n2 c2, .b r.2.2.2.2.2.2.2.2.2.2.1, .u64 r.2.2.2.2.2.2.2.2.2.2.2.1, .v (.iface 126 (SV.val (pt np 0)))], Ow e8 A1 n1 c1 r.2.2.2.2.2.2.2.2.1, Ow e8 A2 n2 c2 r.2.2.2.2.2.2.2.2.2.1, Bx 72 p9 [I 1, I 64, .u32 4294967295, .u64 274877906944, .b false, sl pr nj pv, sl oa l2 oc, sl kA iQ kB, pt rb 0, sl (some ⟨w4, 0, none⟩) tJ w5, .u64 r.2.2.2.2.2.2.2.2.2.2.2.2.1, .ar e8 r.2.2.2.2.2.2.2.2.2.2.2.2.2.1, I r.2.2.2.2.2.2.2.2.2.2.2.2.2.2.1, .v (.func (.func 65) ⟨SV.ad [pt p9 0]⟩ ⟨SV.ad []⟩)], Bx 54 sx [sl rH o3 rI, pt p9 0], Bx 35 Bt [pt sx 0], Bx 25 Ak [I r.2.2.2.2.2.2.2.2.2.2.2.2.2.2.2]]) := by
 unfold gS at hm
 subst yB
 subst wX
 subst u5
 subst qw
 obtain rfl := k.len 4 rfl
 obtain rfl := k.len 5 rfl
 obtain rfl := k.len 7 rfl
 subst Dp
 refine calls [pt Bt 0, pt Ak 0] Try.func43 rfl (of_decide_eq_true (by kernel_rfl)) ?_
 refine ab <| bA [] .a qe (by kernel_rfl) ?_
 refine aa <| ab <| ao <| bn 4 [] (.n 11 (pt p9 0) (.s .a)) (qB k 0 rfl 0 (pt sx 0) (by kernel_rfl) <| qs sx 0 <| qs sx 0 <| qB k 1 rfl 1 (pt p9 0) (by kernel_rfl) <| qe) (by kernel_rfl) ?_
 refine ag ?_
 obtain ⟨r_, dk, hm⟩ := ob hm
 obtain ⟨F1, O1, lO, hO, rO, hF, hb⟩ := k.go (.r (.r (.i (.i (.i (.i (.i (.i (.r .e)))))))))
 refine aq [] 12 _ Fw (by kernel_rfl) (tI (F := F1) (O := O1) _ _ _ _ _ _ _ _ _ _ _ _ _ _ _ _ _ _ _ _ _ _ _ _ _ _ _ _ _ _ _ _ _ _ _ _ _ _ _ _ _ _ (Ro.aY yC k hF) rfl wY (Ro.aY wZ k hF) rfl u6 (Ro.aY rJ k hF) rfl qx (Ro.aY EH k hF) rfl Dq lO _ dk) ?_
 rintro e_ w_ ⟨A0, _, c0, A3, _, c3, A4, _, c4, A5, _, c5, rfl, rfl, rfl, rfl, rfl, k_⟩
 have da := hb w_ _ _ k_ (.c (.c (.c (.c (.c (.c (.c .n)))))))
 refine ⟨.eO [sl A0 r_.1.length c0, I r_.2.1], rfl, ?_⟩
 refine bn 5 [] (.n 3 (sl A0 r_.1.length c0) (.n 4 (I r_.2.1) (.ss .a))) qe (by kernel_rfl) ?_
 refine af <| aa <| ab <| ab <| bA [] (.n 16 (.b (decide (r_.2.1 ≠ 0))) (.k (.s .a))) qe (by kernel_rfl) ?_
 refine aa <| bb (r_.2.1 ≠ 0) (by kernel_rfl) (fun hc => ?_) (fun hc => ?_)
 · rw [if_pos hc] at hm
   refine ab <| ao <| ag <| ey [] 9 (I 6) [I 6] (Pt.at Ak 0) da rfl .all (by kernel_rfl) (by kernel_rfl) ?_
   intro lh dF
   have en := dF.ck (.s (.aP (.aP (.k .e))))
   refine af <| aa <| ab <| bA [] (.n 2 (.u64 0) .z) qe (by kernel_rfl) ?_
   refine aa <| aL (bI ?_)
   obtain rfl := Option.some.inj hm
   refine aM [.u64 0] qe (by kernel_rfl) ?_
   have eA := ((((((((en.pk (.t (.t (.t (.t (.t (.t (.t (.t .h))))))))).pk (.t (.t (.t (.t (.t (.t (.t .h)))))))).pk (.t (.t (.t (.t (.t (.t (.t (.t .h))))))))).pk (.t (.t (.t (.t (.t (.t (.t (.t .h))))))))).pk (.t (.t (.t (.t (.t (.t (.t (.t .h))))))))).pk (.t (.t (.t (.t (.t (.t (.t (.t .h))))))))).pk (.t (.t (.t (.t (.t (.t (.t (.t .h))))))))).pk (.t (.t (.t (.t (.t (.t (.t (.t .h))))))))).pk (.t (.t (.t (.t (.t (.t (.t (.t .h))))))))
   exact ⟨A3, r_.2.2.2.2.2.1.length, c3, A4, r_.2.2.2.2.2.2.2.2.2.1.length, c4, A5, r_.2.2.2.2.2.2.2.2.2.2.1.length, c5, eA.len 1 rfl, eA.len 3 rfl, eA.len 4 rfl, rfl, eA⟩
 rw [if_neg hc] at hm
 refine aS <| aa <| ab <| ao <| bn 1 [] (.n 18 (sl A0 r_.1.length c0) .z) qe (by kernel_rfl) ?_
 refine ag ?_
 obtain ⟨ah, dt, hm⟩ := ob hm
 refine aq [] 19 _ zb (by kernel_rfl) (pC (F := N0) (O := N0) _ _ _ _ _ (Ro.n0 (da.rd 0 rfl)) (da.len 0 rfl) (da.Az 0 rfl) (Cx.refl _) _ dt) ?_
 rintro e_ l4 ⟨rfl, fJ⟩
 have gi := da.call fJ
 refine ⟨.eO [.u64 ah.1, I ah.2], rfl, ?_⟩
 have fY := gi.ck (.s (.aP (.aP (.k .e))))
 refine bn 5 [] (.n 5 (.u64 ah.1) .z) qe (by kernel_rfl) ?_
 refine af <| aa <| ab <| bA [] (.n 2 (.u64 ah.1) .z) qe (by kernel_rfl) ?_
 refine aa <| aL ?_
 obtain rfl := Option.some.inj hm
 refine aM [.u64 ah.1] qe (by kernel_rfl) ?_
 have fZ := ((((((((fY.pk (.t (.t (.t (.t (.t (.t (.t (.t .h))))))))).pk (.t (.t (.t (.t (.t (.t (.t .h)))))))).pk (.t (.t (.t (.t (.t (.t (.t (.t .h))))))))).pk (.t (.t (.t (.t (.t (.t (.t (.t .h))))))))).pk (.t (.t (.t (.t (.t (.t (.t (.t .h))))))))).pk (.t (.t (.t (.t (.t (.t (.t (.t .h))))))))).pk (.t (.t (.t (.t (.t (.t (.t (.t .h))))))))).pk (.t (.t (.t (.t (.t (.t (.t (.t .h))))))))).pk (.t (.t (.t (.t (.t (.t (.t (.t .h))))))))
 exact ⟨A3, r_.2.2.2.2.2.1.length, c3, A4, r_.2.2.2.2.2.2.2.2.2.1.length, c4, A5, r_.2.2.2.2.2.2.2.2.2.2.1.length, c5, fZ.len 1 rfl, fZ.len 3 rfl, fZ.len 4 rfl, rfl, fZ⟩
theorem Al {F O : Nat → Prop} {w : World} (fC : List UInt8) (eN : List UInt8) (dZ : List UInt8) (cr : List UInt8) (fp : Int) (ep : Int) (eW : List UInt8) (fS : List UInt8) (fq : Bool) (dU : UInt64) (fT : ae UInt64 8) (df : UInt64) (dh : UInt64) (er : List UInt8) (dV : Int) (jI : UInt64) (iF : ae UInt8 64) (gK : Int) (draw : Int) (n : UInt64) (kC : Nat) (ly : Nat) (iX : Option Addr) (gL : Nat) (iY : Nat) (gb : Nat) (gZ : Option Addr) (fW : Nat) (g_ : Nat) (gf : Option Addr) (ft : Nat) (gg : Nat) (et : Option Addr) (dM : Nat) (eu : Nat) (gF : Nat) (ia : Option Addr) (ib : Nat) (ic : Nat) (jD : Option Addr) (jE : Nat) (jF : Nat) (fh : Nat) (gM : Option Addr) (gN : Nat) (gO : Nat) (iS : Nat) (oy : Ro F w iX (e8.all fC)) (o5 : fC.length = gL) (nq : gL ≤ iY) (nr : Ro F w gZ (e8.all eN)) (nM : eN.length = fW) (mb : fW ≤ g_) (mc : Ro F w gf (e8.all dZ)) (mU : dZ.length = ft) (lF : ft ≤ gg) (jL : Ro F w et (e8.all cr)) (kD : cr.length = dM) (ji : dM ≤ eu) (k : Cx F O w w [Bx 35 kC [pt ly 0], Bx 54 ly [sl iX gL iY, pt gb 0], Bx 72 gb [I 1, I 64, .u32 4294967295, .u64 274877906944, .b false, sl gZ fW g_, sl gf ft gg, sl et dM eu, pt gF 0, sl none 0 0, .u64 jI, .ar e8 iF, I gK, .v (.func (.func 40) ⟨SV.ad [pt gb 0]⟩ ⟨SV.ad []⟩)], Bx 115 gF [I fp, I ep, sl ia ib ic, sl jD jE jF, .b fq, .u64 dU, .v (.iface 126 (SV.val (pt fh 0)))], Ow e8 ia ib ic eW, Ow e8 jD jE jF fS, Bx 132 fh [.ar cj fT, .u64 df, .u64 dh, sl gM gN gO, I dV, .v (.func (.func 73) ⟨SV.ad []⟩ ⟨SV.ad []⟩), .v (.func (.func 74) ⟨SV.ad []⟩ ⟨SV.ad []⟩)], Ow e8 gM gN gO er, Bx 25 iS [I draw]]) (r : (UInt64 × ae UInt64 8 × UInt64 × UInt64 × List UInt8 × Int × Int × Int × List UInt8 × List UInt8 × Bool × UInt64 × List UInt8 × UInt64 × ae UInt8 64 × Int × Int)) (hm : mL fC eN dZ cr fp ep eW fS fq dU fT df dh er dV jI iF gK draw n = some r) :
    Calls Try.prog 32 (ad [.v (.func (.func 43) ⟨SV.ad []⟩ ⟨SV.ad [pt kC 0, pt iS 0]⟩), .u64 n]) w (fun e w' => ∃ A n1 c A1 n2 c1 A2 n3 c2 g n4 c3, r.2.2.2.2.1.length = n1 ∧ r.2.2.2.2.2.2.2.2.1.length = n2 ∧ r.2.2.2.2.2.2.2.2.2.1.length = n3 ∧ r.2.2.2.2.2.2.2.2.2.2.2.2.1.length = n4 ∧ e = .returned (SV.val (.u64 r.1)) ∧ Cx F O w w' [Bx 132 fh [.ar cj r.2.1, .u64 r.2.2.1, .u64 r.2.2.2.1, sl A n1 c, I r.2.2.2.2.2.1, .v (.func (.func 73) ⟨SV.ad []⟩ ⟨SV.ad []⟩), .v (.func (.func 74) ⟨SV.ad []⟩ ⟨SV.ad []⟩)], Ow e8 A n1 c r.2.2.2.2.1, Bx 115 gF [I r.2.2.2.2.2.2.1, I r.2.2.2.2.2.2.2.1, sl A1 n2 c1, sl A2 n3 c2, .b r.2.2.2.2.2.2.2.2.2.2.1, .u64 r.2.2.2.2.2.2.2.2.2.2.2.1, .v (.iface 126 (SV.val (pt fh 0)))], Ow e8 A1 n2 c1 r.2.2.2.2.2.2.2.2.1, Ow e8 A2 n3 c2 r.2.2.2.2.2.2.2.2.2.1, Bx 72 gb [I 1, I 64, .u32 4294967295, .u64 274877906944, .b false, sl gZ fW g_, sl gf ft gg, sl et dM eu, pt gF 0, sl (some ⟨g, 0, none⟩) n4 c3, .u64 r.2.2.2.2.2.2.2.2.2.2.2.2.2.1, .ar e8 r.2.2.2.2.2.2.2.2.2.2.2.2.2.2.1, I r.2.2.2.2.2.2.2.2.2.2.2.2.2.2.2.1, .v (.func (.func 65) ⟨SV.ad [pt gb 0]⟩ ⟨SV.ad []⟩)], Sh (SH e8) [((some ⟨g, 0, none⟩), n4, c3)] [r.2.2.2.2.2.2.2.2.2.2.2.2.1], Bx 54 ly [sl iX gL iY, pt gb 0], Bx 35 kC [pt ly 0], Bx 25 iS [I r.2.2.2.2.2.2.2.2.2.2.2.2.2.2.2.2]]) := by
 unfold mL at hm
 subst o5
 subst nM
 subst mU
 subst kD
 obtain rfl := k.len 4 rfl
 obtain rfl := k.len 5 rfl
 obtain rfl := k.len 7 rfl
 refine calls [.v (.func (.func 43) ⟨SV.ad []⟩ ⟨SV.ad [pt kC 0, pt iS 0]⟩), .u64 n] Try.func32 rfl (of_decide_eq_true (by kernel_rfl)) ?_
 refine ab <| bA [] .a qe (by kernel_rfl) ?_
 refine aa <| ab <| ao ?_
 obtain ⟨u, yq, hm⟩ := ob hm
 refine bn 3 [] (.n 11 (.u64 ((1 : UInt64) % n)) (.n 12 (.u64 n) .a)) (qp (n ≠ 0) (fL yq) <| qe) (by kernel_rfl) ?_
 refine ag ?_
 obtain ⟨r_, dk, hm⟩ := ob hm
 refine aq [] 13 _ JY (by kernel_rfl) (CA (F := N0) (O := N0) _ _ _ (Cx.refl _) _ dk) ?_
 rintro e_ w_ ⟨rfl, k_⟩
 have da := k.call k_
 refine ⟨.eO [.u64 r_.1, .u64 r_.2], rfl, ?_⟩
 refine bn 5 [] (.n 6 (.u64 r_.2) (.lj .a)) qe (by kernel_rfl) ?_
 refine af <| aa <| ab <| ao <| bn 1 [] (.n 16 (.v (.func (.func 43) ⟨SV.ad []⟩ ⟨SV.ad [pt kC 0, pt iS 0]⟩)) .a) qe (by kernel_rfl) ?_
 refine ag ?_
 obtain ⟨ah, dt, hm⟩ := ob hm
 obtain ⟨F1, O1, lO, hO, rO, hF, hb⟩ := da.go (.i (.i (.i (.i (.i (.i (.i (.i (.i .e)))))))))
 refine mw [] 17 [] [] [pt kC 0, pt iS 0] Cd (by kernel_rfl) (o7 (F := F1) (O := O1) _ _ _ _ _ _ _ _ _ _ _ _ _ _ _ _ _ _ _ _ _ _ _ _ _ _ _ _ _ _ _ _ _ _ _ _ _ _ _ _ _ _ _ _ _ _ (Ro.aY oy da hF) rfl nq (Ro.aY nr da hF) rfl mb (Ro.aY mc da hF) rfl lF (Ro.aY jL da hF) rfl ji lO _ dt) ?_
 rintro e_ lh ⟨A0, _, c0, A3, _, c4, A4, _, c5, g0, _, c6, rfl, rfl, rfl, rfl, rfl, dF⟩
 have en := hb lh _ _ dF (.c (.c (.c (.c (.c (.c (.c (.c (.c (.c .n))))))))))
 refine ⟨.u64 ah.1, rfl, ?_⟩
 refine bn 1 [] (.n 7 (.u64 ah.1) (.ss .a)) qe (by kernel_rfl) ?_
 refine af <| aa <| ab <| ab <| bA [] (.n 8 (I 1) .a) qe (by kernel_rfl) ?_
 refine aa <| cu ?_
 have fJ := (((((((((en.pk (.t (.t (.t (.t (.t (.t (.t (.t (.t .h)))))))))).pk (.t (.t (.t (.t (.t (.t (.t .h)))))))).pk (.t (.t (.t .h)))).pk (.t (.t (.t .h)))).pk (.t (.t (.t (.t (.t (.t .h))))))).pk (.t (.t (.t (.t (.t (.t .h))))))).pk (.t (.t (.t (.t (.t (.t .h))))))).pk (.t (.t (.t (.t (.t (.t (.t .h)))))))).pk (.t (.t (.t (.t (.t (.t (.t (.t .h))))))))).pk (.t (.t (.t (.t (.t (.t (.t (.t (.t .h)))))))))
 refine pc (iI fC eN dZ cr n r_ ah) (fun s L wr => ∃ (Bf : Int) (Bg : Int) (yS : List UInt8) (yT : List UInt8) (Bh : Bool) (Bi : UInt64) (Bj : ae UInt64 8) (Bk : UInt64) (Bm : UInt64) (uP : List UInt8) (yj : Int) (yl : UInt64) (ym : ae UInt8 64) (yn : Int) (yo : Int) (l4 : UInt64) (tries : Int) (A5 : Option Addr) (n5 : Nat) (c7 : Nat) (A6 : Option Addr) (n6 : Nat) (c8 : Nat) (A7 : Option Addr) (n7 : Nat) (c9 : Nat), (Bf, Bg, yS, yT, Bh, Bi, Bj, Bk, Bm, uP, yj, yl, ym, yn, yo, l4, tries) = s ∧ L = [(0, .v (.func (.func 43) ⟨SV.ad []⟩ ⟨SV.ad [pt kC 0, pt iS 0]⟩)), (1, .u64 n), (6, .u64 r_.2), (7, .u64 l4), (8, I tries)] ∧ yS.length = n5 ∧ yT.length = n6 ∧ uP.length = n7 ∧ Cx F O w wr [Bx 35 kC [pt ly 0], Bx 54 ly [sl iX fC.length iY, pt gb 0], Bx 72 gb [I 1, I 64, .u32 4294967295, .u64 274877906944, .b false, sl gZ eN.length g_, sl gf dZ.length gg, sl et cr.length eu, pt gF 0, sl (some ⟨g0, 0, none⟩) ah.2.2.2.2.2.2.2.2.2.2.2.2.1.length c6, .u64 yl, .ar e8 ym, I yn, .v (.func (.func 65) ⟨SV.ad [pt gb 0]⟩ ⟨SV.ad []⟩)], Bx 115 gF [I Bf, I Bg, sl A5 n5 c7, sl A6 n6 c8, .b Bh, .u64 Bi, .v (.iface 126 (SV.val (pt fh 0)))], Ow e8 A5 n5 c7 yS, Ow e8 A6 n6 c8 yT, Bx 132 fh [.ar cj Bj, .u64 Bk, .u64 Bm, sl A7 n7 c9, I yj, .v (.func (.func 73) ⟨SV.ad []⟩ ⟨SV.ad []⟩), .v (.func (.func 74) ⟨SV.ad []⟩ ⟨SV.ad []⟩)], Ow e8 A7 n7 c9 uP, Sh (SH e8) [((some ⟨g0, 0, none⟩), ah.2.2.2.2.2.2.2.2.2.2.2.2.1.length, c6)] [ah.2.2.2.2.2.2.2.2.2.2.2.2.1], Bx 25 iS [I yo]]) (ah.2.2.2.2.2.2.1, ah.2.2.2.2.2.2.2.1, ah.2.2.2.2.2.2.2.2.1, ah.2.2.2.2.2.2.2.2.2.1, ah.2.2.2.2.2.2.2.2.2.2.1, ah.2.2.2.2.2.2.2.2.2.2.2.1, ah.2.1, ah.2.2.1, ah.2.2.2.1, ah.2.2.2.2.1, ah.2.2.2.2.2.1, ah.2.2.2.2.2.2.2.2.2.2.2.2.2.1, ah.2.2.2.2.2.2.2.2.2.2.2.2.2.2.1, ah.2.2.2.2.2.2.2.2.2.2.2.2.2.2.2.1, ah.2.2.2.2.2.2.2.2.2.2.2.2.2.2.2.2, ah.1, (1 : Int)) r hm ⟨ah.2.2.2.2.2.2.1, ah.2.2.2.2.2.2.2.1, ah.2.2.2.2.2.2.2.2.1, ah.2.2.2.2.2.2.2.2.2.1, ah.2.2.2.2.2.2.2.2.2.2.1, ah.2.2.2.2.2.2.2.2.2.2.2.1, ah.2.1, ah.2.2.1, ah.2.2.2.1, ah.2.2.2.2.1, ah.2.2.2.2.2.1, ah.2.2.2.2.2.2.2.2.2.2.2.2.2.1, ah.2.2.2.2.2.2.2.2.2.2.2.2.2.2.1, ah.2.2.2.2.2.2.2.2.2.2.2.2.2.2.2.1, ah.2.2.2.2.2.2.2.2.2.2.2.2.2.2.2.2, ah.1, (1 : Int), A3, ah.2.2.2.2.2.2.2.2.1.length, c4, A4, ah.2.2.2.2.2.2.2.2.2.1.length, c5, A0, ah.2.2.2.2.1.length, c0, rfl, rfl, fJ.len 4 rfl, fJ.len 5 rfl, fJ.len 7 rfl, fJ⟩ (by kernel_rfl) ?_
 intro yU L_ qf y0 jd dd nF
 obtain ⟨Bf, Bg, yS, yT, Bh, Bi, Bj, Bk, Bm, uP, yj, yl, ym, yn, yo, l4, tries, A5, _, c7, A6, _, c8, A7, _, c9, rfl, rfl, rfl, rfl, rfl, eA⟩ := jd
 have hm := dd; simp only [iI] at hm
 clear dd
 refine ab <| ab <| bA [] (.n 30 (.b (((decide (r_.2 ≠ 0)) && (decide (((0 - r_.2) - 1) < l4))) && (decide (tries < 64)))) .a) qe (by kernel_rfl) ?_
 refine aa <| cw (((decide (r_.2 ≠ 0)) && (decide (((0 - r_.2) - 1) < l4))) && (decide (tries < 64))) (by kernel_rfl) (fun hc => ?_) (fun hc => ?_)
 · rw [if_pos hc] at hm
   refine aS <| aa <| ab <| cu <| ao <| bn 1 [] (.n 33 (.v (.func (.func 43) ⟨SV.ad []⟩ ⟨SV.ad [pt kC 0, pt iS 0]⟩)) (.s .a)) qe (by kernel_rfl) ?_
   refine ag ?_
   obtain ⟨bh, gX, hm⟩ := ob hm
   obtain ⟨xD, xE, ni, FJ, tE, rP, xa⟩ := eA.go (.i (.i (.i (.i (.i (.i (.i (.i (.r (.i .e))))))))))
   refine mw [] 34 [] [] [pt kC 0, pt iS 0] Cd (by kernel_rfl) (sy (F := xD) (O := xE) _ _ _ _ _ _ _ _ _ _ _ _ _ _ _ _ _ _ _ _ _ _ _ _ _ _ _ _ _ _ _ _ _ _ _ _ _ _ _ _ _ _ _ _ _ _ _ _ _ _ (Ro.aY oy eA rP) rfl nq (Ro.aY nr eA rP) rfl mb (Ro.aY mc eA rP) rfl lF (Ro.aY jL eA rP) rfl ji (Ro.de ni.off tE 0 rfl) (eA.b8 8 rfl) (eA.cZ 8 rfl) ni _ gX) ?_
   rintro e_ p7 ⟨A8, _, sW, A9, _, ue, wR, _, xB, rfl, rfl, rfl, rfl, gi⟩
   have fY := xa p7 _ _ gi (.c (.c (.c (.c (.c (.c (.c (.c (.c .n)))))))))
   refine ⟨.u64 bh.1, rfl, ?_⟩
   refine bn 1 [] (.n 7 (.u64 bh.1) (.ss (.ua (.s .a)))) qe (by kernel_rfl) ?_
   refine af <| hH <| aa <| bA [] (.n 8 (I (aB (tries + 1))) (.aP .z)) qe (by kernel_rfl) ?_
   have fZ := (((((((((fY.pk (.t (.t (.t (.t (.t (.t (.t (.t .h))))))))).pk (.t (.t (.t (.t (.t (.t (.t (.t (.t .h)))))))))).pk (.t (.t (.t .h)))).pk (.t (.t (.t .h)))).pk (.t (.t (.t (.t (.t (.t .h))))))).pk (.t (.t (.t (.t (.t (.t .h))))))).pk (.t (.t (.t (.t (.t (.t .h))))))).pk (.t (.t (.t (.t (.t (.t (.t .h)))))))).pk (.t (.t (.t (.t (.t (.t (.t (.t .h))))))))).pk (.t (.t (.t (.t (.t (.t (.t (.t (.t .h)))))))))
   exact jR (bh.2.2.2.2.2.2.1, bh.2.2.2.2.2.2.2.1, bh.2.2.2.2.2.2.2.2.1, bh.2.2.2.2.2.2.2.2.2.1, bh.2.2.2.2.2.2.2.2.2.2.1, bh.2.2.2.2.2.2.2.2.2.2.2.1, bh.2.1, bh.2.2.1, bh.2.2.2.1, bh.2.2.2.2.1, bh.2.2.2.2.2.1, bh.2.2.2.2.2.2.2.2.2.2.2.2.1, bh.2.2.2.2.2.2.2.2.2.2.2.2.2.1, bh.2.2.2.2.2.2.2.2.2.2.2.2.2.2.1, bh.2.2.2.2.2.2.2.2.2.2.2.2.2.2.2, bh.1, aB (tries + 1)) (Option.some.inj hm).symm ⟨bh.2.2.2.2.2.2.1, bh.2.2.2.2.2.2.2.1, bh.2.2.2.2.2.2.2.2.1, bh.2.2.2.2.2.2.2.2.2.1, bh.2.2.2.2.2.2.2.2.2.2.1, bh.2.2.2.2.2.2.2.2.2.2.2.1, bh.2.1, bh.2.2.1, bh.2.2.2.1, bh.2.2.2.2.1, bh.2.2.2.2.2.1, bh.2.2.2.2.2.2.2.2.2.2.2.2.1, bh.2.2.2.2.2.2.2.2.2.2.2.2.2.1, bh.2.2.2.2.2.2.2.2.2.2.2.2.2.2.1, bh.2.2.2.2.2.2.2.2.2.2.2.2.2.2.2, bh.1, aB (tries + 1), A9, bh.2.2.2.2.2.2.2.2.1.length, ue, wR, bh.2.2.2.2.2.2.2.2.2.1.length, xB, A8, bh.2.2.2.2.1.length, sW, rfl, rfl, fZ.len 4 rfl, fZ.len 5 rfl, fZ.len 7 rfl, fZ⟩ (by kernel_rfl)
 rw [if_neg (by rw [hc]; decide)] at hm
 refine iq (fe (fe (kG ?_)))
 have hm := d_ hm nF
 refine aa <| ab ?_
 obtain ⟨u1, MU, hm⟩ := ob hm
 refine bA [] (.n 4 (.u64 (l4 % n)) .z) (qp (n ≠ 0) (fL MU) <| qe) (by kernel_rfl) ?_
 refine aa <| aL ?_
 obtain rfl := Option.some.inj hm
 refine aM [.u64 (l4 % n)] qe (by kernel_rfl) ?_
 have gY := (((((((((eA.pk (.t (.t (.t (.t (.t (.t (.t (.t (.t .h)))))))))).pk (.t .h)).pk (.t (.t .h))).pk (.t (.t (.t (.t (.t (.t (.t (.t (.t .h)))))))))).pk (.t (.t (.t (.t .h))))).pk (.t (.t (.t (.t (.t (.t (.t .h)))))))).pk (.t (.t (.t (.t (.t (.t (.t .h)))))))).pk (.t (.t (.t (.t (.t (.t (.t .h)))))))).pk (.t (.t (.t (.t (.t (.t (.t (.t (.t .h)))))))))).pk (.t (.t (.t (.t (.t (.t (.t (.t (.t .h)))))))))
 exact ⟨A7, uP.length, c9, A5, yS.length, c7, A6, yT.length, c8, g0, ah.2.2.2.2.2.2.2.2.2.2.2.2.1.length, c6, gY.len 1 rfl, gY.len 3 rfl, gY.len 4 rfl, gY.b8 6 rfl, rfl, gY⟩
theorem tZ {F O : Nat → Prop} {w : World} (fC : List UInt8) (eN : List UInt8) (dZ : List UInt8) (cr : List UInt8) (fp : Int) (ep : Int) (eW : List UInt8) (fS : List UInt8) (fq : Bool) (dU : UInt64) (fT : ae UInt64 8) (df : UInt64) (dh : UInt64) (er : List UInt8) (dV : Int) (jI : UInt64) (iF : ae UInt8 64) (gK : Int) (draw : Int) (p : UInt64) (p1 : UInt64) (kC : Nat) (ly : Nat) (iX : Option Addr) (gL : Nat) (iY : Nat) (gb : Nat) (gZ : Option Addr) (fW : Nat) (g_ : Nat) (gf : Option Addr) (ft : Nat) (gg : Nat) (et : Option Addr) (dM : Nat) (eu : Nat) (gF : Nat) (ia : Option Addr) (ib : Nat) (ic : Nat) (jD : Option Addr) (jE : Nat) (jF : Nat) (fh : Nat) (gM : Option Addr) (gN : Nat) (gO : Nat) (iS : Nat) (Bt : Nat) (sx : Nat) (oy : Ro F w iX (e8.all fC)) (o5 : fC.length = gL) (nq : gL ≤ iY) (nr : Ro F w gZ (e8.all eN)) (nM : eN.length = fW) (mb : fW ≤ g_) (mc : Ro F w gf (e8.all dZ)) (mU : dZ.length = ft) (lF : ft ≤ gg) (jL : Ro F w et (e8.all cr)) (kD : cr.length = dM) (ji : dM ≤ eu) (k : Cx F O w w [Bx 35 kC [pt ly 0], Bx 54 ly [sl iX gL iY, pt gb 0], Bx 72 gb [I 1, I 64, .u32 4294967295, .u64 274877906944, .b false, sl gZ fW g_, sl gf ft gg, sl et dM eu, pt gF 0, sl none 0 0, .u64 jI, .ar e8 iF, I gK, .v (.func (.func 40) ⟨SV.ad [pt gb 0]⟩ ⟨SV.ad []⟩)], Bx 115 gF [I fp, I ep, sl ia ib ic, sl jD jE jF, .b fq, .u64 dU, .v (.iface 126 (SV.val (pt fh 0)))], Ow e8 ia ib ic eW, Ow e8 jD jE jF fS, Bx 132 fh [.ar cj fT, .u64 df, .u64 dh, sl gM gN gO, I dV, .v (.func (.func 73) ⟨SV.ad []⟩ ⟨SV.ad []⟩), .v (.func (.func 74) ⟨SV.ad []⟩ ⟨SV.ad []⟩)], Ow e8 gM gN gO er, Bx 25 iS [I draw], Bx 41 Bt [.u64 p], Bx 41 sx [.u64 p1]]) (r : (ae UInt64 8 × UInt64 × UInt64 × List UInt8 × Int × Int × Int × List UInt8 × List UInt8 × Bool × UInt64 × List UInt8 × UInt64 × ae UInt8 64 × Int × Int × UInt64 × UInt64)) (hm : kF fC eN dZ cr fp ep eW fS fq dU fT df dh er dV jI iF gK draw p p1 = some r) :
    Calls Try.prog 31 (ad [.v (.func (.func 43) ⟨SV.ad []⟩ ⟨SV.ad [pt kC 0, pt iS 0]⟩), pt Bt 0, pt sx 0]) w (fun e w' => ∃ A n c A1 n1 c1 A2 n2 c2 g n3 c3, r.2.2.2.1.length = n ∧ r.2.2.2.2.2.2.2.1.length = n1 ∧ r.2.2.2.2.2.2.2.2.1.length = n2 ∧ r.2.2.2.2.2.2.2.2.2.2.2.1.length = n3 ∧ e = .returned (SV.val (.eO [])) ∧ Cx F O w w' [Bx 132 fh [.ar cj r.1, .u64 r.2.1, .u64 r.2.2.1, sl A n c, I r.2.2.2.2.1, .v (.func (.func 73) ⟨SV.ad []⟩ ⟨SV.ad []⟩), .v (.func (.func 74) ⟨SV.ad []⟩ ⟨SV.ad []⟩)], Ow e8 A n c r.2.2.2.1, Bx 115 gF [I r.2.2.2.2.2.1, I r.2.2.2.2.2.2.1, sl A1 n1 c1, sl A2 n2 c2, .b r.2.2.2.2.2.2.2.2.2.1, .u64 r.2.2.2.2.2.2.2.2.2.2.1, .v (.iface 126 (SV.val (pt fh 0)))], Ow e8 A1 n1 c1 r.2.2.2.2.2.2.2.1, Ow e8 A2 n2 c2 r.2.2.2.2.2.2.2.2.1, Bx 72 gb [I 1, I 64, .u32 4294967295, .u64 274877906944, .b false, sl gZ fW g_, sl gf ft gg, sl et dM eu, pt gF 0, sl (some ⟨g, 0, none⟩) n3 c3, .u64 r.2.2.2.2.2.2.2.2.2.2.2.2.1, .ar e8 r.2.2.2.2.2.2.2.2.2.2.2.2.2.1, I r.2.2.2.2.2.2.2.2.2.2.2.2.2.2.1, .v (.func (.func 65) ⟨SV.ad [pt gb 0]⟩ ⟨SV.ad []⟩)], Sh (SH e8) [((some ⟨g, 0, none⟩), n3, c3)] [r.2.2.2.2.2.2.2.2.2.2.2.1], Bx 54 ly [sl iX gL iY, pt gb 0], Bx 35 kC [pt ly 0], Bx 25 iS [I r.2.2.2.2.2.2.2.2.2.2.2.2.2.2.2.1], Bx 41 Bt [.u64 r.2.2.2.2.2.2.2.2.2.2.2.2.2.2.2.2.1], Bx 41 sx [.u64 r.2.2.2.2.2.2.2.2.2.2.2.2.2.2.2.2.2]]) := by
 unfold kF at hm
 subst o5
 subst nM
 subst mU
 subst kD
 obtain rfl := k.len 4 rfl
 obtain rfl := k.len 5 rfl
 obtain rfl := k.len 7 rfl
 refine calls [.v (.func (.func 43) ⟨SV.ad []⟩ ⟨SV.ad [pt kC 0, pt iS 0]⟩), pt Bt 0, pt sx 0] Try.func31 rfl (of_decide_eq_true (by kernel_rfl)) ?_
 refine ao <| bn 2 [] (.n 4 (.v (.func (.func 43) ⟨SV.ad []⟩ ⟨SV.ad [pt kC 0, pt iS 0]⟩)) (.n 5 (.u64 p) (.ss .a))) (qB k 9 rfl 0 (.u64 p) (by kernel_rfl) <| qe) (by kernel_rfl) ?_
 refine ag ?_
 obtain ⟨r_, dk, hm⟩ := ob hm
 obtain ⟨F1, O1, lO, hO, rO, hF, hb⟩ := k.go (.i (.i (.i (.i (.i (.i (.i (.i (.i (.r (.r .e)))))))))))
 refine aq [] 6 _ JU (by kernel_rfl) (Al (F := F1) (O := O1) _ _ _ _ _ _ _ _ _ _ _ _ _ _ _ _ _ _ _ _ _ _ _ _ _ _ _ _ _ _ _ _ _ _ _ _ _ _ _ _ _ _ _ _ _ _ _ (Ro.aY oy k hF) rfl nq (Ro.aY nr k hF) rfl mb (Ro.aY mc k hF) rfl lF (Ro.aY jL k hF) rfl ji lO _ dk) ?_
 rintro e_ w_ ⟨A0, _, c0, A3, _, c4, A4, _, c5, g0, _, c6, rfl, rfl, rfl, rfl, rfl, k_⟩
 have da := hb w_ _ _ k_ (.c (.c (.c (.c (.c (.c (.c (.c (.c (.c .n))))))))))
 refine ⟨.u64 r_.1, rfl, ?_⟩
 refine ag <| ey [] 11 (.u64 r_.1) [.u64 r_.1] (Pt.at sx 0) da rfl .all (by kernel_rfl) (by kernel_rfl) ?_
 intro lh dF
 refine af ?_
 obtain rfl := Option.some.inj hm
 refine pJ [] qe (by kernel_rfl) ?_
 exact ⟨A0, r_.2.2.2.2.1.length, c0, A3, r_.2.2.2.2.2.2.2.2.1.length, c4, A4, r_.2.2.2.2.2.2.2.2.2.1.length, c5, g0, r_.2.2.2.2.2.2.2.2.2.2.2.2.1.length, c6, dF.len 1 rfl, dF.len 3 rfl, dF.len 4 rfl, dF.b8 6 rfl, rfl, dF⟩
theorem vV {F O : Nat → Prop} {w : World} (bX : List UInt8) (bk : List UInt8) (aT : List UInt8) (aj : List UInt8) (aZ : Int) (aG : Int) (aO : List UInt8) (bg : List UInt8) (a1 : Bool) (ay : UInt64) (bm : ae UInt64 8) (ak : UInt64) (al : UInt64) (aD : List UInt8) (az : Int) (cR : UInt64) (b9 : ae UInt8 64) (bz : Int) (work : UInt64) (Ff : UInt64) (lx : Nat) (cU : Option Addr) (cc : Nat) (cV : Nat) (cL : Nat) (cd : Option Addr) (bK : Nat) (cf : Nat) (bQ : Option Addr) (bq : Nat) (bR : Nat) (aQ : Option Addr) (aF : Nat) (aR : Nat) (cz : Nat) (bS : Option Addr) (b_ : Nat) (bT : Nat) (cB : Option Addr) (cN : Nat) (cC : Nat) (bu : Nat) (bE : Option Addr) (bN : Nat) (bF : Nat) (pz : Nat) (vv : Nat) (gx : Ro F w cU (e8.all bX)) (gq : bX.length = cc) (fG : cc ≤ cV) (eD : Ro F w cd (e8.all bk)) (fI : bk.length = bK) (dQ : bK ≤ cf) (dT : Ro F w bQ (e8.all aT)) (eY : aT.length = bq) (dv : bq ≤ bR) (cb : Ro F w aQ (e8.all aj)) (cY : aj.length = aF) (bU : aF ≤ aR) (k : Cx F O w w [Bx 54 lx [sl cU cc cV, pt cL 0], Bx 72 cL [I 1, I 64, .u32 4294967295, .u64 274877906944, .b false, sl cd bK cf, sl bQ bq bR, sl aQ aF aR, pt cz 0, sl none 0 0, .u64 cR, .ar e8 b9, I bz, .v (.func (.func 40) ⟨SV.ad [pt cL 0]⟩ ⟨SV.ad []⟩)], Bx 115 cz [I aZ, I aG, sl bS b_ bT, sl cB cN cC, .b a1, .u64 ay, .v (.iface 126 (SV.val (pt bu 0)))], Ow e8 bS b_ bT aO, Ow e8 cB cN cC bg, Bx 132 bu [.ar cj bm, .u64 ak, .u64 al, sl bE bN bF, I az, .v (.func (.func 73) ⟨SV.ad []⟩ ⟨SV.ad []⟩), .v (.func (.func 74) ⟨SV.ad []⟩ ⟨SV.ad []⟩)], Ow e8 bE bN bF aD, Bx 41 pz [.u64 work], Bx 41 vv [.u64 Ff]]) (r : (Int × ae UInt64 8 × UInt64 × UInt64 × List UInt8 × Int × Int × Int × List UInt8 × List UInt8 × Bool × UInt64 × List UInt8 × UInt64 × ae UInt8 64 × Int × UInt64 × UInt64)) (hm : k8 bX bk aT aj aZ aG aO bg a1 ay bm ak al aD az cR b9 bz work Ff = some r) :
    Calls Try.prog 30 (ad [pt lx 0, .v (.func (.func 31) ⟨SV.ad []⟩ ⟨SV.ad [pt pz 0, pt vv 0]⟩)]) w (fun e w' => ∃ A n c A1 n1 c1 A2 n2 c2 g n3 c3, r.2.2.2.2.1.length = n ∧ r.2.2.2.2.2.2.2.2.1.length = n1 ∧ r.2.2.2.2.2.2.2.2.2.1.length = n2 ∧ r.2.2.2.2.2.2.2.2.2.2.2.2.1.length = n3 ∧ e = .returned (SV.val (I r.1)) ∧ Cx F O w w' [Bx 132 bu [.ar cj r.2.1, .u64 r.2.2.1, .u64 r.2.2.2.1, sl A n c, I r.2.2.2.2.2.1, .v (.func (.func 73) ⟨SV.ad []⟩ ⟨SV.ad []⟩), .v (.func (.func 74) ⟨SV.ad []⟩ ⟨SV.ad []⟩)], Ow e8 A n c r.2.2.2.2.1, Bx 115 cz [I r.2.2.2.2.2.2.1, I r.2.2.2.2.2.2.2.1, sl A1 n1 c1, sl A2 n2 c2, .b r.2.2.2.2.2.2.2.2.2.2.1, .u64 r.2.2.2.2.2.2.2.2.2.2.2.1, .v (.iface 126 (SV.val (pt bu 0)))], Ow e8 A1 n1 c1 r.2.2.2.2.2.2.2.2.1, Ow e8 A2 n2 c2 r.2.2.2.2.2.2.2.2.2.1, Bx 72 cL [I 1, I 64, .u32 4294967295, .u64 274877906944, .b false, sl cd bK cf, sl bQ bq bR, sl aQ aF aR, pt cz 0, sl (some ⟨g, 0, none⟩) n3 c3, .u64 r.2.2.2.2.2.2.2.2.2.2.2.2.2.1, .ar e8 r.2.2.2.2.2.2.2.2.2.2.2.2.2.2.1, I r.2.2.2.2.2.2.2.2.2.2.2.2.2.2.2.1, .v (.func (.func 65) ⟨SV.ad [pt cL 0]⟩ ⟨SV.ad []⟩)], Sh (SH e8) [((some ⟨g, 0, none⟩), n3, c3)] [r.2.2.2.2.2.2.2.2.2.2.2.2.1], Bx 54 lx [sl cU cc cV, pt cL 0], Bx 41 pz [.u64 r.2.2.2.2.2.2.2.2.2.2.2.2.2.2.2.2.1], Bx 41 vv [.u64 r.2.2.2.2.2.2.2.2.2.2.2.2.2.2.2.2.2]]) := by
 unfold k8 at hm
 subst gq
 subst fI
 subst eY
 subst cY
 obtain rfl := k.len 3 rfl
 obtain rfl := k.len 4 rfl
 obtain rfl := k.len 6 rfl
 refine calls [pt lx 0, .v (.func (.func 31) ⟨SV.ad []⟩ ⟨SV.ad [pt pz 0, pt vv 0]⟩)] Try.func30 rfl (of_decide_eq_true (by kernel_rfl)) ?_
 refine ab <| ao <| ag <| gj [] 2 (pt lx 0) [pt lx 0] (by kernel_rfl) k ?_
 intro g0 w_ k_
 refine bn 1 [] (.k (.s .a)) qe (by kernel_rfl) ?_
 refine af <| aa <| ab <| ab <| ao <| bn 1 [] (.n 7 (pt lx 0) .a) (qB k_ 9 rfl 0 (pt lx 0) (by kernel_rfl) <| qe) (by kernel_rfl) ?_
 refine ag ?_
 obtain ⟨r_, dk, hm⟩ := ob hm
 obtain ⟨F1, O1, lO, hO, rO, hF, hb⟩ := k_.go (.i (.i (.i (.i (.i (.i (.i (.r (.r (.r .e))))))))))
 refine aq [] 8 _ vp (by kernel_rfl) (ku (F := F1) (O := O1) _ _ _ _ _ _ _ _ _ _ _ _ _ _ _ _ _ _ _ _ _ _ _ _ _ _ _ _ _ _ _ _ _ _ _ _ _ _ _ _ _ _ _ (Ro.aY gx k_ hF) rfl fG (Ro.aY eD k_ hF) rfl dQ (Ro.aY dT k_ hF) rfl dv (Ro.aY cb k_ hF) rfl bU lO _ dk) ?_
 rintro e_ lh ⟨A0, _, c0, A3, _, c4, A4, _, c5, rfl, rfl, rfl, rfl, da⟩
 have dF := hb lh _ _ da (.c (.c (.c (.c (.c (.c (.c .n)))))))
 refine ⟨.b false, rfl, ?_⟩
 refine af <| aa <| cw false (by kernel_rfl) (fun h => by cases h) (fun _ => ?_)
 refine aS <| aa <| ab <| ao <| bn 4 [] (.n 12 (pt cL 0) (.ss .a)) (qB dF 9 rfl 0 (pt lx 0) (by kernel_rfl) <| qs lx 0 <| qs lx 0 <| qB dF 6 rfl 1 (pt cL 0) (by kernel_rfl) <| qe) (by kernel_rfl) ?_
 refine ag ?_
 obtain ⟨ah, dt, hm⟩ := ob hm
 have en := (((((((((dF.pk (.t (.t (.t (.t (.t (.t (.t (.t (.t .h)))))))))).pk (.t (.t (.t (.t (.t (.t (.t (.t (.t .h)))))))))).pk (.t (.t (.t (.t (.t (.t (.t (.t (.t .h)))))))))).pk (.t (.t (.t (.t (.t (.t (.t (.t (.t .h)))))))))).pk (.t (.t (.t (.t (.t .h)))))).pk (.t (.t (.t (.t (.t .h)))))).pk (.t (.t (.t (.t (.t (.t (.t (.t .h))))))))).pk (.t (.t (.t (.t (.t (.t (.t (.t .h))))))))).pk (.t (.t (.t (.t (.t (.t (.t (.t .h))))))))).pk (.t (.t (.t (.t (.t (.t (.t (.t (.t .h)))))))))
 obtain ⟨xD, xE, ni, FJ, tE, rP, xa⟩ := en.go (.i (.i (.i (.i (.i (.i (.r (.r (.r (.r .e))))))))))
 refine aq [] 13 _ Fv (by kernel_rfl) (qA (F := xD) (O := xE) _ _ _ _ _ _ _ _ _ _ _ _ _ _ _ _ _ _ _ _ _ _ _ _ _ _ _ _ _ _ _ _ _ _ _ _ _ _ (Ro.aY eD en rP) rfl dQ (Ro.aY dT en rP) rfl dv (Ro.aY cb en rP) rfl bU ni _ dt) ?_
 rintro e_ l4 ⟨g1, g2, A5, _, c6, A6, _, c7, g3, A7, _, c8, A8, _, c9, rfl, rfl, rfl, rfl, rfl, eA⟩
 have fJ := xa l4 _ _ eA (.c (.c (.c (.c (.c (.c (.c (.c (.c (.c .n))))))))))
 refine ⟨pt g1 0, rfl, ?_⟩
 refine bn 1 [] (.n 5 (pt g1 0) (.ss .a)) qe (by kernel_rfl) ?_
 refine af <| aa <| ab <| ao <| ag <| bY [] 6 [I 0] (by kernel_rfl) fJ ?_
 intro g4 qf gi
 refine ag ?_
 have fY := gi.ck (.aP (.aP (.aP (.kk (.k .e)))))
 refine ey [] 14 (I 0) [I 0] (Pt.at g4 0) fY rfl .all (by kernel_rfl) (by kernel_rfl) ?_
 intro p7 fZ
 refine af <| aa <| ab <| ao <| bn 2 [] (.n 14 (.v (.func (.func 31) ⟨SV.ad []⟩ ⟨SV.ad [pt pz 0, pt vv 0]⟩)) (.n 15 (.v (.func (.func 43) ⟨SV.ad []⟩ ⟨SV.ad [pt g0 0, pt g4 0]⟩)) (.ua .z))) qe (by kernel_rfl) ?_
 refine ag ?_
 obtain ⟨bh, gX, hm⟩ := ob hm
 have gY := ((((((((((((((fZ.pk (.t (.t (.t (.t (.t .h)))))).pk (.t (.t (.t (.t (.t .h)))))).pk (.t (.t (.t .h)))).pk (.t (.t (.t .h)))).pk (.t (.t (.t (.t (.t (.t (.t (.t (.t (.t (.t (.t .h))))))))))))).pk (.t (.t (.t (.t (.t (.t (.t (.t (.t (.t (.t (.t .h))))))))))))).pk (.t (.t (.t (.t (.t (.t (.t (.t (.t (.t (.t (.t (.t (.t .h))))))))))))))).pk (.t (.t (.t (.t (.t (.t (.t (.t (.t (.t .h))))))))))).pk (.t (.t (.t (.t (.t (.t (.t (.t (.t (.t .h))))))))))).pk (.t (.t (.t (.t (.t (.t (.t (.t (.t (.t .h))))))))))).pk (.t (.t (.t (.t (.t (.t (.t (.t (.t (.t .h))))))))))).pk (.t (.t (.t (.t (.t (.t (.t (.t (.t (.t (.t .h)))))))))))).pk (.t (.t (.t (.t (.t (.t (.t (.t (.t (.t (.t (.t .h))))))))))))).pk (.t (.t (.t (.t (.t (.t (.t (.t (.t (.t (.t (.t (.t .h)))))))))))))).pk (.t (.t (.t (.t (.t (.t (.t (.t (.t (.t (.t (.t (.t (.t .h))))))))))))))
 obtain ⟨H_, Ia, wT, Pu, Cy, Ag, D2⟩ := gY.go (.i (.i (.i (.i (.i (.i (.i (.i (.i (.i (.i (.r (.r (.r (.r .e)))))))))))))))
 refine mw [] 16 [] [.v (.func (.func 43) ⟨SV.ad []⟩ ⟨SV.ad [pt g0 0, pt g4 0]⟩)] [pt pz 0, pt vv 0] JT (by kernel_rfl) (tZ (F := H_) (O := Ia) _ _ _ _ _ _ _ _ _ _ _ _ _ _ _ _ _ _ _ _ _ _ _ _ _ _ _ _ _ _ _ _ _ _ _ _ _ _ _ _ _ _ _ _ _ _ _ _ _ _ (Ro.aY gx gY Ag) rfl fG (Ro.aY eD gY Ag) rfl dQ (Ro.aY dT gY Ag) rfl dv (Ro.aY cb gY Ag) rfl bU wT _ gX) ?_
 rintro e_ sV ⟨A9, _, sW, wR, _, ue, yX, _, xB, g5, _, AO, rfl, rfl, rfl, rfl, rfl, dK⟩
 have c_ := D2 sV _ _ dK (.c (.c (.c (.c (.c (.c (.c (.c (.c (.c (.c (.c .n))))))))))))
 refine ⟨.eO [], rfl, ?_⟩
 refine af <| aa <| ab <| ab <| bA [] (.n 18 (.b (decide (bh.2.2.2.2.2.2.2.2.2.2.2.2.2.2.2.1 ≠ 0))) (.lj .a)) (qB c_ 9 rfl 0 (I bh.2.2.2.2.2.2.2.2.2.2.2.2.2.2.2.1) (by kernel_rfl) <| qe) (by kernel_rfl) ?_
 refine aa <| bb (bh.2.2.2.2.2.2.2.2.2.2.2.2.2.2.2.1 ≠ 0) (by kernel_rfl) (fun hc => ?_) (fun hc => ?_)
 · rw [if_pos hc] at hm
   cases hm
 rw [if_neg hc] at hm
 refine aS <| aa <| ab <| bA [] (.n 4 (I bh.2.2.2.2.2.2.2.2.2.2.2.2.2.2.2.1) .z) (qB c_ 9 rfl 0 (I bh.2.2.2.2.2.2.2.2.2.2.2.2.2.2.2.1) (by kernel_rfl) <| qe) (by kernel_rfl) ?_
 refine aa <| aL ?_
 obtain rfl := Option.some.inj hm
 refine aM [I bh.2.2.2.2.2.2.2.2.2.2.2.2.2.2.2.1] qe (by kernel_rfl) ?_
 have eX := c_.ck (.aP (.aP (.ss (.kk .z))))
 exact ⟨A9, bh.2.2.2.1.length, sW, wR, bh.2.2.2.2.2.2.2.1.length, ue, yX, bh.2.2.2.2.2.2.2.2.1.length, xB, g5, bh.2.2.2.2.2.2.2.2.2.2.2.1.length, AO, eX.len 1 rfl, eX.len 3 rfl, eX.len 4 rfl, eX.b8 6 rfl, rfl, eX⟩
theorem vW {F O : Nat → Prop} {w : World} (bX : List UInt8) (bk : List UInt8) (aT : List UInt8) (aj : List UInt8) (aZ : Int) (aG : Int) (aO : List UInt8) (bg : List UInt8) (a1 : Bool) (ay : UInt64) (bm : ae UInt64 8) (ak : UInt64) (al : UInt64) (aD : List UInt8) (az : Int) (cR : UInt64) (b9 : ae UInt8 64) (bz : Int) (n : UInt64) (lx : Nat) (cU : Option Addr) (cc : Nat) (cV : Nat) (cL : Nat) (cd : Option Addr) (bK : Nat) (cf : Nat) (bQ : Option Addr) (bq : Nat) (bR : Nat) (aQ : Option Addr) (aF : Nat) (aR : Nat) (cz : Nat) (bS : Option Addr) (b_ : Nat) (bT : Nat) (cB : Option Addr) (cN : Nat) (cC : Nat) (bu : Nat) (bE : Option Addr) (bN : Nat) (bF : Nat) (gx : Ro F w cU (e8.all bX)) (gq : bX.length = cc) (fG : cc ≤ cV) (eD : Ro F w cd (e8.all bk)) (fI : bk.length = bK) (dQ : bK ≤ cf) (dT : Ro F w bQ (e8.all aT)) (eY : aT.length = bq) (dv : bq ≤ bR) (cb : Ro F w aQ (e8.all aj)) (cY : aj.length = aF) (bU : aF ≤ aR) (k : Cx F O w w [Bx 54 lx [sl cU cc cV, pt cL 0], Bx 72 cL [I 1, I 64, .u32 4294967295, .u64 274877906944, .b false, sl cd bK cf, sl bQ bq bR, sl aQ aF aR, pt cz 0, sl none 0 0, .u64 cR, .ar e8 b9, I bz, .v (.func (.func 40) ⟨SV.ad [pt cL 0]⟩ ⟨SV.ad []⟩)], Bx 115 cz [I aZ, I aG, sl bS b_ bT, sl cB cN cC, .b a1, .u64 ay, .v (.iface 126 (SV.val (pt bu 0)))], Ow e8 bS b_ bT aO, Ow e8 cB cN cC bg, Bx 132 bu [.ar cj bm, .u64 ak, .u64 al, sl bE bN bF, I az, .v (.func (.func 73) ⟨SV.ad []⟩ ⟨SV.ad []⟩), .v (.func (.func 74) ⟨SV.ad []⟩ ⟨SV.ad []⟩)], Ow e8 bE bN bF aD]) (r : (ae UInt64 8 × UInt64 × UInt64 × List UInt8 × Int × Int × Int × List UInt8 × List UInt8 × Bool × UInt64 × UInt64 × ae UInt8 64 × Int) ⊕ (UInt64 × Int × ae UInt64 8 × UInt64 × UInt64 × List UInt8 × Int × Int × Int × List UInt8 × List UInt8 × Bool × UInt64 × List UInt8 × UInt64 × ae UInt8 64 × Int)) (hm : jA bX bk aT aj aZ aG aO bg a1 ay bm ak al aD az cR b9 bz n = some r) :
    Calls Try.prog 21 (ad [pt lx 0, .u64 n]) w (fun e w' => match r with | .inl r0 => ∃ A n1 c A1 n2 c1 A2 n3 c2, r0.2.2.2.1.length = n1 ∧ r0.2.2.2.2.2.2.2.1.length = n2 ∧ r0.2.2.2.2.2.2.2.2.1.length = n3 ∧ e = .returned (SV.val (.eO [.u64 0, I 1])) ∧ Cx F O w w' [Bx 132 bu [.ar cj r0.1, .u64 r0.2.1, .u64 r0.2.2.1, sl A n1 c, I r0.2.2.2.2.1, .v (.func (.func 73) ⟨SV.ad []⟩ ⟨SV.ad []⟩), .v (.func (.func 74) ⟨SV.ad []⟩ ⟨SV.ad []⟩)], Ow e8 A n1 c r0.2.2.2.1, Bx 115 cz [I r0.2.2.2.2.2.1, I r0.2.2.2.2.2.2.1, sl A1 n2 c1, sl A2 n3 c2, .b r0.2.2.2.2.2.2.2.2.2.1, .u64 r0.2.2.2.2.2.2.2.2.2.2.1, .v (.iface 126 (SV.val (pt bu 0)))], Ow e8 A1 n2 c1 r0.2.2.2.2.2.2.2.1, Ow e8 A2 n3 c2 r0.2.2.2.2.2.2.2.2.1, Bx 72 cL [I 1, I 64, .u32 4294967295, .u64 274877906944, .b false, sl cd bK cf, sl bQ bq bR, sl aQ aF aR, pt cz 0, sl none 0 0, .u64 r0.2.2.2.2.2.2.2.2.2.2.2.1, .ar e8 r0.2.2.2.2.2.2.2.2.2.2.2.2.1, I r0.2.2.2.2.2.2.2.2.2.2.2.2.2, .v (.func (.func 40) ⟨SV.ad [pt cL 0]⟩ ⟨SV.ad []⟩)], Bx 54 lx [sl cU cc cV, pt cL 0]] | .inr r1 => ∃ A3 n4 c3 A4 n5 c4 A5 n6 c5 g n7 c6, r1.2.2.2.2.2.1.length = n4 ∧ r1.2.2.2.2.2.2.2.2.2.1.length = n5 ∧ r1.2.2.2.2.2.2.2.2.2.2.1.length = n6 ∧ r1.2.2.2.2.2.2.2.2.2.2.2.2.2.1.length = n7 ∧ e = .returned (SV.val (.eO [.u64 r1.1, I r1.2.1])) ∧ Cx F O w w' [Bx 132 bu [.ar cj r1.2.2.1, .u64 r1.2.2.2.1, .u64 r1.2.2.2.2.1, sl A3 n4 c3, I r1.2.2.2.2.2.2.1, .v (.func (.func 73) ⟨SV.ad []⟩ ⟨SV.ad []⟩), .v (.func (.func 74) ⟨SV.ad []⟩ ⟨SV.ad []⟩)], Ow e8 A3 n4 c3 r1.2.2.2.2.2.1, Bx 115 cz [I r1.2.2.2.2.2.2.2.1, I r1.2.2.2.2.2.2.2.2.1, sl A4 n5 c4, sl A5 n6 c5, .b r1.2.2.2.2.2.2.2.2.2.2.2.1, .u64 r1.2.2.2.2.2.2.2.2.2.2.2.2.1, .v (.iface 126 (SV.val (pt bu 0)))], Ow e8 A4 n5 c4 r1.2.2.2.2.2.2.2.2.2.1, Ow e8 A5 n6 c5 r1.2.2.2.2.2.2.2.2.2.2.1, Bx 72 cL [I 1, I 64, .u32 4294967295, .u64 274877906944, .b false, sl cd bK cf, sl bQ bq bR, sl aQ aF aR, pt cz 0, sl (some ⟨g, 0, none⟩) n7 c6, .u64 r1.2.2.2.2.2.2.2.2.2.2.2.2.2.2.1, .ar e8 r1.2.2.2.2.2.2.2.2.2.2.2.2.2.2.2.1, I r1.2.2.2.2.2.2.2.2.2.2.2.2.2.2.2.2, .v (.func (.func 65) ⟨SV.ad [pt cL 0]⟩ ⟨SV.ad []⟩)], Sh (SH e8) [((some ⟨g, 0, none⟩), n7, c6)] [r1.2.2.2.2.2.2.2.2.2.2.2.2.2.1], Bx 54 lx [sl cU cc cV, pt cL 0]]) := by
 unfold jA at hm
 subst gq
 subst fI
 subst eY
 subst cY
 obtain rfl := k.len 3 rfl
 obtain rfl := k.len 4 rfl
 obtain rfl := k.len 6 rfl
 refine calls [pt lx 0, .u64 n] Try.func21 rfl (of_decide_eq_true (by kernel_rfl)) ?_
 refine ab <| ao <| ag <| gj [] 3 (.u64 n) [.u64 n] (by kernel_rfl) k ?_
 intro g0 w_ k_
 refine bn 2 [] (.kk .z) qe (by kernel_rfl) ?_
 refine af <| aa <| ab <| ab <| ao <| bn 1 [] (.n 8 (pt lx 0) .a) qe (by kernel_rfl) ?_
 refine ag ?_
 obtain ⟨r_, dk, hm⟩ := ob hm
 obtain ⟨F1, O1, lO, hO, rO, hF, hb⟩ := k_.go (.i (.i (.i (.i (.i (.i (.i (.r .e))))))))
 refine aq [] 9 _ vp (by kernel_rfl) (ku (F := F1) (O := O1) _ _ _ _ _ _ _ _ _ _ _ _ _ _ _ _ _ _ _ _ _ _ _ _ _ _ _ _ _ _ _ _ _ _ _ _ _ _ _ _ _ _ _ (Ro.aY gx k_ hF) rfl fG (Ro.aY eD k_ hF) rfl dQ (Ro.aY dT k_ hF) rfl dv (Ro.aY cb k_ hF) rfl bU lO _ dk) ?_
 rintro e_ lh ⟨A0, _, c0, A6, _, c7, A7, _, c8, rfl, rfl, rfl, rfl, da⟩
 have dF := hb lh _ _ da (.c (.c (.c (.c (.c (.c (.c .n)))))))
 refine ⟨.b false, rfl, ?_⟩
 refine af <| aa <| cw false (by kernel_rfl) (fun h => by cases h) (fun _ => ?_)
 refine aS <| aa <| ab <| ab <| bA [] (.n 11 (.b (decide (n = 0))) (.ss .a)) (qB dF 7 rfl 0 (.u64 n) (by kernel_rfl) <| qe) (by kernel_rfl) ?_
 refine aa <| bb (n = 0) (by kernel_rfl) (fun hc => ?_) (fun hc => ?_)
 · rw [if_pos hc] at hm
   refine ab <| bA [] (.n 4 (.u64 0) (.n 5 (I 1) .z)) qe (by kernel_rfl) ?_
   refine aa <| aL (bI ?_)
   obtain rfl := Option.some.inj hm
   refine aM [.u64 0, I 1] qe (by kernel_rfl) ?_
   have en := dF.ck (.aP (.kk (.k .z)))
   exact ⟨A0, r_.2.2.2.1.length, c0, A6, r_.2.2.2.2.2.2.2.1.length, c7, A7, r_.2.2.2.2.2.2.2.2.1.length, c8, en.len 1 rfl, en.len 3 rfl, en.len 4 rfl, rfl, en⟩
 rw [if_neg hc] at hm
 refine aS <| aa <| ab <| ao <| ag <| bY [] 6 [.u64 0] (by kernel_rfl) dF ?_
 intro g1 l4 eA
 refine ag <| ey [] 8 (.u64 0) [.u64 0] (Pt.at g1 0) eA rfl .all (by kernel_rfl) (by kernel_rfl) ?_
 intro qf fJ
 refine af <| aa <| ab <| ab <| ao <| bn 2 [] (.n 12 (pt lx 0) (.n 13 (.v (.func (.func 31) ⟨SV.ad []⟩ ⟨SV.ad [pt g0 0, pt g1 0]⟩)) (.k .z))) qe (by kernel_rfl) ?_
 refine ag ?_
 have gi := fJ.ck (.aP (.aP (.k .e)))
 obtain ⟨ah, dt, hm⟩ := ob hm
 have fY := ((((((((gi.pk (.t (.t (.t (.t (.t (.t (.t (.t .h))))))))).pk (.t (.t (.t (.t (.t (.t (.t (.t .h))))))))).pk (.t (.t (.t .h)))).pk (.t (.t (.t .h)))).pk (.t (.t (.t (.t (.t (.t .h))))))).pk (.t (.t (.t (.t (.t (.t .h))))))).pk (.t (.t (.t (.t (.t (.t .h))))))).pk (.t (.t (.t (.t (.t (.t (.t .h)))))))).pk (.t (.t (.t (.t (.t (.t (.t (.t .h))))))))
 obtain ⟨xD, xE, ni, FJ, tE, rP, xa⟩ := fY.go (.i (.i (.i (.i (.i (.i (.i (.i (.i .e)))))))))
 refine aq [] 14 _ Fk (by kernel_rfl) (vV (F := xD) (O := xE) _ _ _ _ _ _ _ _ _ _ _ _ _ _ _ _ _ _ _ _ _ _ _ _ _ _ _ _ _ _ _ _ _ _ _ _ _ _ _ _ _ _ _ _ _ _ _ (Ro.aY gx fY rP) rfl fG (Ro.aY eD fY rP) rfl dQ (Ro.aY dT fY rP) rfl dv (Ro.aY cb fY rP) rfl bU ni _ dt) ?_
 rintro e_ p7 ⟨A8, _, c9, A9, _, sW, wR, _, ue, g2, _, xB, rfl, rfl, rfl, rfl, rfl, fZ⟩
 have gY := xa p7 _ _ fZ (.c (.c (.c (.c (.c (.c (.c (.c (.c (.c .n))))))))))
 refine ⟨I ah.1, rfl, ?_⟩
 have dK := gY.ck (.aP (.aP (.s (.k .e))))
 refine bn 1 [] (.n 7 (I ah.1) (.lj .a)) qe (by kernel_rfl) ?_
 refine af <| aa <| ab <| bA [] (.n 16 (.b (decide (ah.1 ≠ 0))) .a) qe (by kernel_rfl) ?_
 refine aa <| bb (ah.1 ≠ 0) (by kernel_rfl) (fun kr => ?_) (fun kr => ?_)
 · rw [if_pos kr] at hm
   refine ab <| bA [] (.n 4 (.u64 0) (.n 5 (I ah.1) .z)) qe (by kernel_rfl) ?_
   refine aa <| aL (bI ?_)
   obtain rfl := Option.some.inj hm
   refine aM [.u64 0, I ah.1] qe (by kernel_rfl) ?_
   have c_ := dK.ck (.aP (.aP .z))
   exact ⟨A8, ah.2.2.2.2.1.length, c9, A9, ah.2.2.2.2.2.2.2.2.1.length, sW, wR, ah.2.2.2.2.2.2.2.2.2.1.length, ue, g2, ah.2.2.2.2.2.2.2.2.2.2.2.2.1.length, xB, c_.len 1 rfl, c_.len 3 rfl, c_.len 4 rfl, c_.b8 6 rfl, rfl, c_⟩
 rw [if_neg kr] at hm
 refine aS <| aa <| ab <| bA [] (.n 4 (.u64 ah.2.2.2.2.2.2.2.2.2.2.2.2.2.2.2.2.2) (.n 5 (I 0) .z)) (qB dK 8 rfl 0 (.u64 ah.2.2.2.2.2.2.2.2.2.2.2.2.2.2.2.2.2) (by kernel_rfl) <| qe) (by kernel_rfl) ?_
 refine aa <| aL ?_
 obtain rfl := Option.some.inj hm
 refine aM [.u64 ah.2.2.2.2.2.2.2.2.2.2.2.2.2.2.2.2.2, I 0] qe (by kernel_rfl) ?_
 have ez := dK.ck (.aP (.aP .z))
 exact ⟨A8, ah.2.2.2.2.1.length, c9, A9, ah.2.2.2.2.2.2.2.2.1.length, sW, wR, ah.2.2.2.2.2.2.2.2.2.1.length, ue, g2, ah.2.2.2.2.2.2.2.2.2.2.2.2.1.length, xB, ez.len 1 rfl, ez.len 3 rfl, ez.len 4 rfl, ez.b8 6 rfl, rfl, ez⟩
theorem u7 {F O : Nat → Prop} {w : World} (fC : List UInt8) (eN : List UInt8) (dZ : List UInt8) (cr : List UInt8) (fp : Int) (ep : Int) (eW : List UInt8) (fS : List UInt8) (fq : Bool) (dU : UInt64) (fT : ae UInt64 8) (df : UInt64) (dh : UInt64) (er : List UInt8) (dV : Int) (jI : UInt64) (iF : ae UInt8 64) (gK : Int) (draw : Int) (p : UInt64) (kC : Nat) (ly : Nat) (iX : Option Addr) (gL : Nat) (iY : Nat) (gb : Nat) (gZ : Option Addr) (fW : Nat) (g_ : Nat) (gf : Option Addr) (ft : Nat) (gg : Nat) (et : Option Addr) (dM : Nat) (eu : Nat) (gF : Nat) (ia : Option Addr) (ib : Nat) (ic : Nat) (jD : Option Addr) (jE : Nat) (jF : Nat) (fh : Nat) (gM : Option Addr) (gN : Nat) (gO : Nat) (iS : Nat) (Bt : Nat) (oy : Ro F w iX (e8.all fC)) (o5 : fC.length = gL) (nq : gL ≤ iY) (nr : Ro F w gZ (e8.all eN)) (nM : eN.length = fW) (mb : fW ≤ g_) (mc : Ro F w gf (e8.all dZ)) (mU : dZ.length = ft) (lF : ft ≤ gg) (jL : Ro F w et (e8.all cr)) (kD : cr.length = dM) (ji : dM ≤ eu) (k : Cx F O w w [Bx 35 kC [pt ly 0], Bx 54 ly [sl iX gL iY, pt gb 0], Bx 72 gb [I 1, I 64, .u32 4294967295, .u64 274877906944, .b false, sl gZ fW g_, sl gf ft gg, sl et dM eu, pt gF 0, sl none 0 0, .u64 jI, .ar e8 iF, I gK, .v (.func (.func 40) ⟨SV.ad [pt gb 0]⟩ ⟨SV.ad []⟩)], Bx 115 gF [I fp, I ep, sl ia ib ic, sl jD jE jF, .b fq, .u64 dU, .v (.iface 126 (SV.val (pt fh 0)))], Ow e8 ia ib ic eW, Ow e8 jD jE jF fS, Bx 132 fh [.ar cj fT, .u64 df, .u64 dh, sl gM gN gO, I dV, .v (.func (.func 73) ⟨SV.ad []⟩ ⟨SV.ad []⟩), .v (.func (.func 74) ⟨SV.ad []⟩ ⟨SV.ad []⟩)], Ow e8 gM gN gO er, Bx 25 iS [I draw], Bx 41 Bt [.u64 p]]) (r : (ae UInt64 8 × UInt64 × UInt64 × List UInt8 × Int × Int × Int × List UInt8 × List UInt8 × Bool × UInt64 × List UInt8 × UInt64 × ae UInt8 64 × Int × Int × UInt64)) (hm : jz fC eN dZ cr fp ep eW fS fq dU fT df dh er dV jI iF gK draw p = some r) :
    Calls Try.prog 47 (ad [.v (.func (.func 43) ⟨SV.ad []⟩ ⟨SV.ad [pt kC 0, pt iS 0]⟩), pt Bt 0]) w (fun e w' => ∃ A n c A1 n1 c1 A2 n2 c2 g n3 c3, r.2.2.2.1.length = n ∧ r.2.2.2.2.2.2.2.1.length = n1 ∧ r.2.2.2.2.2.2.2.2.1.length = n2 ∧ r.2.2.2.2.2.2.2.2.2.2.2.1.length = n3 ∧ e = .returned (SV.val (.eO [])) ∧ Cx F O w w' [Bx 132 fh [.ar cj r.1, .u64 r.2.1, .u64 r.2.2.1, sl A n c, I r.2.2.2.2.1, .v (.func (.func 73) ⟨SV.ad []⟩ ⟨SV.ad []⟩), .v (.func (.func 74) ⟨SV.ad []⟩ ⟨SV.ad []⟩)], Ow e8 A n c r.2.2.2.1, Bx 115 gF [I r.2.2.2.2.2.1, I r.2.2.2.2.2.2.1, sl A1 n1 c1, sl A2 n2 c2, .b r.2.2.2.2.2.2.2.2.2.1, .u64 r.2.2.2.2.2.2.2.2.2.2.1, .v (.iface 126 (SV.val (pt fh 0)))], Ow e8 A1 n1 c1 r.2.2.2.2.2.2.2.1, Ow e8 A2 n2 c2 r.2.2.2.2.2.2.2.2.1, Bx 72 gb [I 1, I 64, .u32 4294967295, .u64 274877906944, .b false, sl gZ fW g_, sl gf ft gg, sl et dM eu, pt gF 0, sl (some ⟨g, 0, none⟩) n3 c3, .u64 r.2.2.2.2.2.2.2.2.2.2.2.2.1, .ar e8 r.2.2.2.2.2.2.2.2.2.2.2.2.2.1, I r.2.2.2.2.2.2.2.2.2.2.2.2.2.2.1, .v (.func (.func 65) ⟨SV.ad [pt gb 0]⟩ ⟨SV.ad []⟩)], Sh (SH e8) [((some ⟨g, 0, none⟩), n3, c3)] [r.2.2.2.2.2.2.2.2.2.2.2.1], Bx 54 ly [sl iX gL iY, pt gb 0], Bx 35 kC [pt ly 0], Bx 25 iS [I r.2.2.2.2.2.2.2.2.2.2.2.2.2.2.2.1], Bx 41 Bt [.u64 r.2.2.2.2.2.2.2.2.2.2.2.2.2.2.2.2]]) := by
 unfold jz at hm
 subst o5
 subst nM
 subst mU
 subst kD
 obtain rfl := k.len 4 rfl
 obtain rfl := k.len 5 rfl
 obtain rfl := k.len 7 rfl
 refine calls [.v (.func (.func 43) ⟨SV.ad []⟩ ⟨SV.ad [pt kC 0, pt iS 0]⟩), pt Bt 0] Try.func47 rfl (of_decide_eq_true (by kernel_rfl)) ?_
 refine ao <| bn 1 [] (.n 3 (.v (.func (.func 43) ⟨SV.ad []⟩ ⟨SV.ad [pt kC 0, pt iS 0]⟩)) (.s .a)) qe (by kernel_rfl) ?_
 refine ag ?_
 obtain ⟨r_, dk, hm⟩ := ob hm
 obtain ⟨F1, O1, lO, hO, rO, hF, hb⟩ := k.go (.i (.i (.i (.i (.i (.i (.i (.i (.i (.r .e))))))))))
 refine mw [] 4 [] [] [pt kC 0, pt iS 0] Cd (by kernel_rfl) (o7 (F := F1) (O := O1) _ _ _ _ _ _ _ _ _ _ _ _ _ _ _ _ _ _ _ _ _ _ _ _ _ _ _ _ _ _ _ _ _ _ _ _ _ _ _ _ _ _ _ _ _ _ (Ro.aY oy k hF) rfl nq (Ro.aY nr k hF) rfl mb (Ro.aY mc k hF) rfl lF (Ro.aY jL k hF) rfl ji lO _ dk) ?_
 rintro e_ w_ ⟨A0, _, c0, A3, _, c4, A4, _, c5, g0, _, c6, rfl, rfl, rfl, rfl, rfl, k_⟩
 have da := hb w_ _ _ k_ (.c (.c (.c (.c (.c (.c (.c (.c (.c (.c .n))))))))))
 refine ⟨.u64 r_.1, rfl, ?_⟩
 refine ag <| ey [] 10 (.u64 r_.1) [.u64 r_.1] (Pt.at Bt 0) da rfl .all (by kernel_rfl) (by kernel_rfl) ?_
 intro lh dF
 refine af ?_
 obtain rfl := Option.some.inj hm
 refine pJ [] qe (by kernel_rfl) ?_
 exact ⟨A0, r_.2.2.2.2.1.length, c0, A3, r_.2.2.2.2.2.2.2.2.1.length, c4, A4, r_.2.2.2.2.2.2.2.2.2.1.length, c5, g0, r_.2.2.2.2.2.2.2.2.2.2.2.2.1.length, c6, dF.len 1 rfl, dF.len 3 rfl, dF.len 4 rfl, dF.b8 6 rfl, rfl, dF⟩
theorem tK {F O : Nat → Prop} {w : World} (bX : List UInt8) (bk : List UInt8) (aT : List UInt8) (aj : List UInt8) (aZ : Int) (aG : Int) (aO : List UInt8) (bg : List UInt8) (a1 : Bool) (ay : UInt64) (bm : ae UInt64 8) (ak : UInt64) (al : UInt64) (aD : List UInt8) (az : Int) (cR : UInt64) (b9 : ae UInt8 64) (bz : Int) (work : UInt64) (lx : Nat) (cU : Option Addr) (cc : Nat) (cV : Nat) (cL : Nat) (cd : Option Addr) (bK : Nat) (cf : Nat) (bQ : Option Addr) (bq : Nat) (bR : Nat) (aQ : Option Addr) (aF : Nat) (aR : Nat) (cz : Nat) (bS : Option Addr) (b_ : Nat) (bT : Nat) (cB : Option Addr) (cN : Nat) (cC : Nat) (bu : Nat) (bE : Option Addr) (bN : Nat) (bF : Nat) (pz : Nat) (gx : Ro F w cU (e8.all bX)) (gq : bX.length = cc) (fG : cc ≤ cV) (eD : Ro F w cd (e8.all bk)) (fI : bk.length = bK) (dQ : bK ≤ cf) (dT : Ro F w bQ (e8.all aT)) (eY : aT.length = bq) (dv : bq ≤ bR) (cb : Ro F w aQ (e8.all aj)) (cY : aj.length = aF) (bU : aF ≤ aR) (k : Cx F O w w [Bx 54 lx [sl cU cc cV, pt cL 0], Bx 72 cL [I 1, I 64, .u32 4294967295, .u64 274877906944, .b false, sl cd bK cf, sl bQ bq bR, sl aQ aF aR, pt cz 0, sl none 0 0, .u64 cR, .ar e8 b9, I bz, .v (.func (.func 40) ⟨SV.ad [pt cL 0]⟩ ⟨SV.ad []⟩)], Bx 115 cz [I aZ, I aG, sl bS b_ bT, sl cB cN cC, .b a1, .u64 ay, .v (.iface 126 (SV.val (pt bu 0)))], Ow e8 bS b_ bT aO, Ow e8 cB cN cC bg, Bx 132 bu [.ar cj bm, .u64 ak, .u64 al, sl bE bN bF, I az, .v (.func (.func 73) ⟨SV.ad []⟩ ⟨SV.ad []⟩), .v (.func (.func 74) ⟨SV.ad []⟩ ⟨SV.ad []⟩)], Ow e8 bE bN bF aD, Bx 41 pz [.u64 work]]) (r : (Int × ae UInt64 8 × UInt64 × UInt64 × List UInt8 × Int × Int × Int × List UInt8 × List UInt8 × Bool × UInt64 × List UInt8 × UInt64 × ae UInt8 64 × Int × UInt64)) (hm : jJ bX bk aT aj aZ aG aO bg a1 ay bm ak al aD az cR b9 bz work = some r) :
    Calls Try.prog 30 (ad [pt lx 0, .v (.func (.func 47) ⟨SV.ad []⟩ ⟨SV.ad [pt pz 0]⟩)]) w (fun e w' => ∃ A n c A1 n1 c1 A2 n2 c2 g n3 c3, r.2.2.2.2.1.length = n ∧ r.2.2.2.2.2.2.2.2.1.length = n1 ∧ r.2.2.2.2.2.2.2.2.2.1.length = n2 ∧ r.2.2.2.2.2.2.2.2.2.2.2.2.1.length = n3 ∧ e = .returned (SV.val (I r.1)) ∧ Cx F O w w' [Bx 132 bu [.ar cj r.2.1, .u64 r.2.2.1, .u64 r.2.2.2.1, sl A n c, I r.2.2.2.2.2.1, .v (.func (.func 73) ⟨SV.ad []⟩ ⟨SV.ad []⟩), .v (.func (.func 74) ⟨SV.ad []⟩ ⟨SV.ad []⟩)], Ow e8 A n c r.2.2.2.2.1, Bx 115 cz [I r.2.2.2.2.2.2.1, I r.2.2.2.2.2.2.2.1, sl A1 n1 c1, sl A2 n2 c2, .b r.2.2.2.2.2.2.2.2.2.2.1, .u64 r.2.2.2.2.2.2.2.2.2.2.2.1, .v (.iface 126 (SV.val (pt bu 0)))], Ow e8 A1 n1 c1 r.2.2.2.2.2.2.2.2.1, Ow e8 A2 n2 c2 r.2.2.2.2.2.2.2.2.2.1, Bx 72 cL [I 1, I 64, .u32 4294967295, .u64 274877906944, .b false, sl cd bK cf, sl bQ bq bR, sl aQ aF aR, pt cz 0, sl (some ⟨g, 0, none⟩) n3 c3, .u64 r.2.2.2.2.2.2.2.2.2.2.2.2.2.1, .ar e8 r.2.2.2.2.2.2.2.2.2.2.2.2.2.2.1, I r.2.2.2.2.2.2.2.2.2.2.2.2.2.2.2.1, .v (.func (.func 65) ⟨SV.ad [pt cL 0]⟩ ⟨SV.ad []⟩)], Sh (SH e8) [((some ⟨g, 0, none⟩), n3, c3)] [r.2.2.2.2.2.2.2.2.2.2.2.2.1], Bx 54 lx [sl cU cc cV, pt cL 0], Bx 41 pz [.u64 r.2.2.2.2.2.2.2.2.2.2.2.2.2.2.2.2]]) := by
 unfold jJ at hm
 subst gq
 subst fI
 subst eY
 subst cY
 obtain rfl := k.len 3 rfl
 obtain rfl := k.len 4 rfl
 obtain rfl := k.len 6 rfl
 refine calls [pt lx 0, .v (.func (.func 47) ⟨SV.ad []⟩ ⟨SV.ad [pt pz 0]⟩)] Try.func30 rfl (of_decide_eq_true (by kernel_rfl)) ?_
 refine ab <| ao <| ag <| gj [] 2 (pt lx 0) [pt lx 0] (by kernel_rfl) k ?_
 intro g0 w_ k_
 refine bn 1 [] (.k (.s .a)) qe (by kernel_rfl) ?_
 refine af <| aa <| ab <| ab <| ao <| bn 1 [] (.n 7 (pt lx 0) .a) (qB k_ 8 rfl 0 (pt lx 0) (by kernel_rfl) <| qe) (by kernel_rfl) ?_
 refine ag ?_
 obtain ⟨r_, dk, hm⟩ := ob hm
 obtain ⟨F1, O1, lO, hO, rO, hF, hb⟩ := k_.go (.i (.i (.i (.i (.i (.i (.i (.r (.r .e)))))))))
 refine aq [] 8 _ vp (by kernel_rfl) (ku (F := F1) (O := O1) _ _ _ _ _ _ _ _ _ _ _ _ _ _ _ _ _ _ _ _ _ _ _ _ _ _ _ _ _ _ _ _ _ _ _ _ _ _ _ _ _ _ _ (Ro.aY gx k_ hF) rfl fG (Ro.aY eD k_ hF) rfl dQ (Ro.aY dT k_ hF) rfl dv (Ro.aY cb k_ hF) rfl bU lO _ dk) ?_
 rintro e_ lh ⟨A0, _, c0, A3, _, c4, A4, _, c5, rfl, rfl, rfl, rfl, da⟩
 have dF := hb lh _ _ da (.c (.c (.c (.c (.c (.c (.c .n)))))))
 refine ⟨.b false, rfl, ?_⟩
 refine af <| aa <| cw false (by kernel_rfl) (fun h => by cases h) (fun _ => ?_)
 refine aS <| aa <| ab <| ao <| bn 4 [] (.n 12 (pt cL 0) (.ss .a)) (qB dF 8 rfl 0 (pt lx 0) (by kernel_rfl) <| qs lx 0 <| qs lx 0 <| qB dF 6 rfl 1 (pt cL 0) (by kernel_rfl) <| qe) (by kernel_rfl) ?_
 refine ag ?_
 obtain ⟨ah, dt, hm⟩ := ob hm
 have en := ((((((((dF.pk (.t (.t (.t (.t (.t (.t (.t (.t .h))))))))).pk (.t (.t (.t (.t (.t (.t (.t (.t .h))))))))).pk (.t (.t (.t (.t (.t (.t (.t (.t .h))))))))).pk (.t (.t (.t (.t .h))))).pk (.t (.t (.t (.t .h))))).pk (.t (.t (.t (.t (.t (.t (.t .h)))))))).pk (.t (.t (.t (.t (.t (.t (.t .h)))))))).pk (.t (.t (.t (.t (.t (.t (.t .h)))))))).pk (.t (.t (.t (.t (.t (.t (.t (.t .h))))))))
 obtain ⟨xD, xE, ni, FJ, tE, rP, xa⟩ := en.go (.i (.i (.i (.i (.i (.i (.r (.r (.r .e)))))))))
 refine aq [] 13 _ Fv (by kernel_rfl) (qA (F := xD) (O := xE) _ _ _ _ _ _ _ _ _ _ _ _ _ _ _ _ _ _ _ _ _ _ _ _ _ _ _ _ _ _ _ _ _ _ _ _ _ _ (Ro.aY eD en rP) rfl dQ (Ro.aY dT en rP) rfl dv (Ro.aY cb en rP) rfl bU ni _ dt) ?_
 rintro e_ l4 ⟨g1, g2, A5, _, c6, A6, _, c7, g3, A7, _, c8, A8, _, c9, rfl, rfl, rfl, rfl, rfl, eA⟩
 have fJ := xa l4 _ _ eA (.c (.c (.c (.c (.c (.c (.c (.c (.c (.c .n))))))))))
 refine ⟨pt g1 0, rfl, ?_⟩
 refine bn 1 [] (.n 5 (pt g1 0) (.ss .a)) qe (by kernel_rfl) ?_
 refine af <| aa <| ab <| ao <| ag <| bY [] 6 [I 0] (by kernel_rfl) fJ ?_
 intro g4 qf gi
 refine ag ?_
 have fY := gi.ck (.aP (.aP (.aP (.kk .e))))
 refine ey [] 13 (I 0) [I 0] (Pt.at g4 0) fY rfl .all (by kernel_rfl) (by kernel_rfl) ?_
 intro p7 fZ
 refine af <| aa <| ab <| ao <| bn 2 [] (.n 14 (.v (.func (.func 47) ⟨SV.ad []⟩ ⟨SV.ad [pt pz 0]⟩)) (.n 15 (.v (.func (.func 43) ⟨SV.ad []⟩ ⟨SV.ad [pt g0 0, pt g4 0]⟩)) (.ua .z))) qe (by kernel_rfl) ?_
 refine ag ?_
 obtain ⟨bh, gX, hm⟩ := ob hm
 have gY := (((((((((((((fZ.pk (.t (.t (.t (.t (.t .h)))))).pk (.t (.t (.t (.t (.t .h)))))).pk (.t (.t (.t .h)))).pk (.t (.t (.t .h)))).pk (.t (.t (.t (.t (.t (.t (.t (.t (.t (.t (.t .h)))))))))))).pk (.t (.t (.t (.t (.t (.t (.t (.t (.t (.t (.t (.t (.t .h)))))))))))))).pk (.t (.t (.t (.t (.t (.t (.t (.t (.t .h)))))))))).pk (.t (.t (.t (.t (.t (.t (.t (.t (.t .h)))))))))).pk (.t (.t (.t (.t (.t (.t (.t (.t (.t .h)))))))))).pk (.t (.t (.t (.t (.t (.t (.t (.t (.t .h)))))))))).pk (.t (.t (.t (.t (.t (.t (.t (.t (.t (.t .h))))))))))).pk (.t (.t (.t (.t (.t (.t (.t (.t (.t (.t (.t .h)))))))))))).pk (.t (.t (.t (.t (.t (.t (.t (.t (.t (.t (.t (.t .h))))))))))))).pk (.t (.t (.t (.t (.t (.t (.t (.t (.t (.t (.t (.t (.t .h)))))))))))))
 obtain ⟨H_, Ia, wT, Pu, Cy, Ag, D2⟩ := gY.go (.i (.i (.i (.i (.i (.i (.i (.i (.i (.i (.r (.r (.r (.r .e))))))))))))))
 refine mw [] 16 [] [.v (.func (.func 43) ⟨SV.ad []⟩ ⟨SV.ad [pt g0 0, pt g4 0]⟩)] [pt pz 0] JZ (by kernel_rfl) (u7 (F := H_) (O := Ia) _ _ _ _ _ _ _ _ _ _ _ _ _ _ _ _ _ _ _ _ _ _ _ _ _ _ _ _ _ _ _ _ _ _ _ _ _ _ _ _ _ _ _ _ _ _ _ _ (Ro.aY gx gY Ag) rfl fG (Ro.aY eD gY Ag) rfl dQ (Ro.aY dT gY Ag) rfl dv (Ro.aY cb gY Ag) rfl bU wT _ gX) ?_
 rintro e_ sV ⟨A9, _, sW, wR, _, ue, yX, _, xB, g5, _, AO, rfl, rfl, rfl, rfl, rfl, dK⟩
 have c_ := D2 sV _ _ dK (.c (.c (.c (.c (.c (.c (.c (.c (.c (.c (.c .n)))))))))))
 refine ⟨.eO [], rfl, ?_⟩
 refine af <| aa <| ab <| ab <| bA [] (.n 18 (.b (decide (bh.2.2.2.2.2.2.2.2.2.2.2.2.2.2.2.1 ≠ 0))) (.lj .a)) (qB c_ 9 rfl 0 (I bh.2.2.2.2.2.2.2.2.2.2.2.2.2.2.2.1) (by kernel_rfl) <| qe) (by kernel_rfl) ?_
 refine aa <| bb (bh.2.2.2.2.2.2.2.2.2.2.2.2.2.2.2.1 ≠ 0) (by kernel_rfl) (fun hc => ?_) (fun hc => ?_)
 · rw [if_pos hc] at hm
   cases hm
 rw [if_neg hc] at hm
 refine aS <| aa <| ab <| bA [] (.n 4 (I bh.2.2.2.2.2.2.2.2.2.2.2.2.2.2.2.1) .z) (qB c_ 9 rfl 0 (I bh.2.2.2.2.2.2.2.2.2.2.2.2.2.2.2.1) (by kernel_rfl) <| qe) (by kernel_rfl) ?_
 refine aa <| aL ?_
 obtain rfl := Option.some.inj hm
 refine aM [I bh.2.2.2.2.2.2.2.2.2.2.2.2.2.2.2.1] qe (by kernel_rfl) ?_
 have eX := c_.ck (.aP (.aP (.ss (.k .z))))
 exact ⟨A9, bh.2.2.2.1.length, sW, wR, bh.2.2.2.2.2.2.2.1.length, ue, yX, bh.2.2.2.2.2.2.2.2.1.length, xB, g5, bh.2.2.2.2.2.2.2.2.2.2.2.1.length, AO, eX.len 1 rfl, eX.len 3 rfl, eX.len 4 rfl, eX.b8 6 rfl, rfl, eX⟩
theorem w6 {F O : Nat → Prop} {w : World} (bX : List UInt8) (bk : List UInt8) (aT : List UInt8) (aj : List UInt8) (aZ : Int) (aG : Int) (aO : List UInt8) (bg : List UInt8) (a1 : Bool) (ay : UInt64) (bm : ae UInt64 8) (ak : UInt64) (al : UInt64) (aD : List UInt8) (az : Int) (cR : UInt64) (b9 : ae UInt8 64) (bz : Int) (lx : Nat) (cU : Option Addr) (cc : Nat) (cV : Nat) (cL : Nat) (cd : Option Addr) (bK : Nat) (cf : Nat) (bQ : Option Addr) (bq : Nat) (bR : Nat) (aQ : Option Addr) (aF : Nat) (aR : Nat) (cz : Nat) (bS : Option Addr) (b_ : Nat) (bT : Nat) (cB : Option Addr) (cN : Nat) (cC : Nat) (bu : Nat) (bE : Option Addr) (bN : Nat) (bF : Nat) (gx : Ro F w cU (e8.all bX)) (gq : bX.length = cc) (fG : cc ≤ cV) (eD : Ro F w cd (e8.all bk)) (fI : bk.length = bK) (dQ : bK ≤ cf) (dT : Ro F w bQ (e8.all aT)) (eY : aT.length = bq) (dv : bq ≤ bR) (cb : Ro F w aQ (e8.all aj)) (cY : aj.length = aF) (bU : aF ≤ aR) (k : Cx F O w w [Bx 54 lx [sl cU cc cV, pt cL 0], Bx 72 cL [I 1, I 64, .u32 4294967295, .u64 274877906944, .b false, sl cd bK cf, sl bQ bq bR, sl aQ aF aR, pt cz 0, sl none 0 0, .u64 cR, .ar e8 b9, I bz, .v (.func (.func 40) ⟨SV.ad [pt cL 0]⟩ ⟨SV.ad []⟩)], Bx 115 cz [I aZ, I aG, sl bS b_ bT, sl cB cN cC, .b a1, .u64 ay, .v (.iface 126 (SV.val (pt bu 0)))], Ow e8 bS b_ bT aO, Ow e8 cB cN cC bg, Bx 132 bu [.ar cj bm, .u64 ak, .u64 al, sl bE bN bF, I az, .v (.func (.func 73) ⟨SV.ad []⟩ ⟨SV.ad []⟩), .v (.func (.func 74) ⟨SV.ad []⟩ ⟨SV.ad []⟩)], Ow e8 bE bN bF aD]) (r : (UInt64 × Int × ae UInt64 8 × UInt64 × UInt64 × List UInt8 × Int × Int × Int × List UInt8 × List UInt8 × Bool × UInt64 × List UInt8 × UInt64 × ae UInt8 64 × Int)) (hm : lp bX bk aT aj aZ aG aO bg a1 ay bm ak al aD az cR b9 bz = some r) :
    Calls Try.prog 33 (ad [pt lx 0]) w (fun e w' => ∃ A n c A1 n1 c1 A2 n2 c2 g n3 c3, r.2.2.2.2.2.1.length = n ∧ r.2.2.2.2.2.2.2.2.2.1.length = n1 ∧ r.2.2.2.2.2.2.2.2.2.2.1.length = n2 ∧ r.2.2.2.2.2.2.2.2.2.2.2.2.2.1.length = n3 ∧ e = .returned (SV.val (.eO [.u64 r.1, I r.2.1])) ∧ Cx F O w w' [Bx 132 bu [.ar cj r.2.2.1, .u64 r.2.2.2.1, .u64 r.2.2.2.2.1, sl A n c, I r.2.2.2.2.2.2.1, .v (.func (.func 73) ⟨SV.ad []⟩ ⟨SV.ad []⟩), .v (.func (.func 74) ⟨SV.ad []⟩ ⟨SV.ad []⟩)], Ow e8 A n c r.2.2.2.2.2.1, Bx 115 cz [I r.2.2.2.2.2.2.2.1, I r.2.2.2.2.2.2.2.2.1, sl A1 n1 c1, sl A2 n2 c2, .b r.2.2.2.2.2.2.2.2.2.2.2.1, .u64 r.2.2.2.2.2.2.2.2.2.2.2.2.1, .v (.iface 126 (SV.val (pt bu 0)))], Ow e8 A1 n1 c1 r.2.2.2.2.2.2.2.2.2.1, Ow e8 A2 n2 c2 r.2.2.2.2.2.2.2.2.2.2.1, Bx 72 cL [I 1, I 64, .u32 4294967295, .u64 274877906944, .b false, sl cd bK cf, sl bQ bq bR, sl aQ aF aR, pt cz 0, sl (some ⟨g, 0, none⟩) n3 c3, .u64 r.2.2.2.2.2.2.2.2.2.2.2.2.2.2.1, .ar e8 r.2.2.2.2.2.2.2.2.2.2.2.2.2.2.2.1, I r.2.2.2.2.2.2.2.2.2.2.2.2.2.2.2.2, .v (.func (.func 65) ⟨SV.ad [pt cL 0]⟩ ⟨SV.ad []⟩)], Sh (SH e8) [((some ⟨g, 0, none⟩), n3, c3)] [r.2.2.2.2.2.2.2.2.2.2.2.2.2.1], Bx 54 lx [sl cU cc cV, pt cL 0]]) := by
 unfold lp at hm
 subst gq
 subst fI
 subst eY
 subst cY
 obtain rfl := k.len 3 rfl
 obtain rfl := k.len 4 rfl
 obtain rfl := k.len 6 rfl
 refine calls [pt lx 0] Try.func33 rfl (of_decide_eq_true (by kernel_rfl)) ?_
 refine ab <| bA [] .a qe (by kernel_rfl) ?_
 refine aa <| ab <| ao <| ag <| bY [] 4 [.u64 0] (by kernel_rfl) k ?_
 intro g0 w_ k_
 refine ag <| ey [] 7 (.u64 0) [.u64 0] (Pt.at g0 0) k_ rfl .all (by kernel_rfl) (by kernel_rfl) ?_
 intro lh da
 refine af <| aa <| ab <| ao <| bn 2 [] (.n 6 (pt lx 0) (.n 7 (.v (.func (.func 47) ⟨SV.ad []⟩ ⟨SV.ad [pt g0 0]⟩)) (.k .z))) qe (by kernel_rfl) ?_
 refine ag ?_
 obtain ⟨r_, dk, hm⟩ := ob hm
 obtain ⟨F1, O1, lO, hO, rO, hF, hb⟩ := da.go (.i (.i (.i (.i (.i (.i (.i (.i .e))))))))
 refine aq [] 8 _ Fk (by kernel_rfl) (tK (F := F1) (O := O1) _ _ _ _ _ _ _ _ _ _ _ _ _ _ _ _ _ _ _ _ _ _ _ _ _ _ _ _ _ _ _ _ _ _ _ _ _ _ _ _ _ _ _ _ _ (Ro.aY gx da hF) rfl fG (Ro.aY eD da hF) rfl dQ (Ro.aY dT da hF) rfl dv (Ro.aY cb da hF) rfl bU lO _ dk) ?_
 rintro e_ l4 ⟨A0, _, c0, A3, _, c4, A4, _, c5, g1, _, c6, rfl, rfl, rfl, rfl, rfl, dF⟩
 have en := hb l4 _ _ dF (.c (.c (.c (.c (.c (.c (.c (.c (.c .n)))))))))
 refine ⟨I r_.1, rfl, ?_⟩
 refine bn 1 [] (.n 5 (I r_.1) (.lj .a)) qe (by kernel_rfl) ?_
 refine af <| aa <| ab <| ab <| bA [] (.n 10 (.b (decide (r_.1 ≠ 0))) .a) qe (by kernel_rfl) ?_
 refine aa <| bb (r_.1 ≠ 0) (by kernel_rfl) (fun hc => ?_) (fun hc => ?_)
 · rw [if_pos hc] at hm
   refine ab <| bA [] (.n 2 (.u64 0) (.n 3 (I r_.1) .z)) qe (by kernel_rfl) ?_
   refine aa <| aL (bI ?_)
   obtain rfl := Option.some.inj hm
   refine aM [.u64 0, I r_.1] qe (by kernel_rfl) ?_
   have eA := en.ck (.aP (.aP .z))
   exact ⟨A0, r_.2.2.2.2.1.length, c0, A3, r_.2.2.2.2.2.2.2.2.1.length, c4, A4, r_.2.2.2.2.2.2.2.2.2.1.length, c5, g1, r_.2.2.2.2.2.2.2.2.2.2.2.2.1.length, c6, eA.len 1 rfl, eA.len 3 rfl, eA.len 4 rfl, eA.b8 6 rfl, rfl, eA⟩
 rw [if_neg hc] at hm
 refine aS <| aa <| ab <| bA [] (.n 2 (.u64 r_.2.2.2.2.2.2.2.2.2.2.2.2.2.2.2.2) (.n 3 (I 0) .z)) (qB en 8 rfl 0 (.u64 r_.2.2.2.2.2.2.2.2.2.2.2.2.2.2.2.2) (by kernel_rfl) <| qe) (by kernel_rfl) ?_
 refine aa <| aL ?_
 obtain rfl := Option.some.inj hm
 refine aM [.u64 r_.2.2.2.2.2.2.2.2.2.2.2.2.2.2.2.2, I 0] qe (by kernel_rfl) ?_
 have fJ := en.ck (.aP (.aP .z))
 exact ⟨A0, r_.2.2.2.2.1.length, c0, A3, r_.2.2.2.2.2.2.2.2.1.length, c4, A4, r_.2.2.2.2.2.2.2.2.2.1.length, c5, g1, r_.2.2.2.2.2.2.2.2.2.2.2.2.1.length, c6, fJ.len 1 rfl, fJ.len 3 rfl, fJ.len 4 rfl, fJ.b8 6 rfl, rfl, fJ⟩
theorem Am {F O : Nat → Prop} {w : World} (w_ : UInt64) (k : Cx F O w w []) (r : Nat) (hm : oT w_ = some r) :
    Calls Try.prog 34 (ad [.u64 w_]) w (fun e w' => ∃ fb, Fl r fb ∧ e = .returned (SV.val (.v (.float .f64 fb))) ∧ Cx F O w w' []) := by
 unfold oT at hm
 refine calls [.u64 w_] Try.func34 rfl (of_decide_eq_true (by kernel_rfl)) ?_
 refine ab <| bA [] .a qe (by kernel_rfl) ?_
 refine aa <| ab <| ao <| bn 2 [] (.n 4 (.u64 (aJ w_ ((11 : UInt64).toNat))) .z) qe (by kernel_rfl) ?_
 refine ag <| JH [] 5 (q := .u64) (m := ((aJ w_ ((11 : UInt64).toNat)).toNat : Int)) (by kernel_rfl) ?_
 refine ag <| ki [] 6 (u := x9 ((aJ w_ ((11 : UInt64).toNat)).toNat : Int)) (v := 4845873199050653696) (by kernel_rfl) (.inr (.inr (.inr rfl))) (JG _) (Fl.lit (c := 4845873199050653696) (by kernel_rfl)) k ?_
 intro sQ lh yL k_
 refine bn 1 [] (.n 2 (.v (.float .f64 sQ)) .z) qe (by kernel_rfl) ?_
 refine af <| aa <| aL ?_
 obtain rfl := Option.some.inj hm
 refine aM [.v (.float .f64 sQ)] qe (by kernel_rfl) ?_
 exact ⟨sQ, yL, rfl, k_⟩
theorem vX {F O : Nat → Prop} {w : World} (bX : List UInt8) (bk : List UInt8) (aT : List UInt8) (aj : List UInt8) (aZ : Int) (aG : Int) (aO : List UInt8) (bg : List UInt8) (a1 : Bool) (ay : UInt64) (bm : ae UInt64 8) (ak : UInt64) (al : UInt64) (aD : List UInt8) (az : Int) (cR : UInt64) (b9 : ae UInt8 64) (bz : Int) (lx : Nat) (cU : Option Addr) (cc : Nat) (cV : Nat) (cL : Nat) (cd : Option Addr) (bK : Nat) (cf : Nat) (bQ : Option Addr) (bq : Nat) (bR : Nat) (aQ : Option Addr) (aF : Nat) (aR : Nat) (cz : Nat) (bS : Option Addr) (b_ : Nat) (bT : Nat) (cB : Option Addr) (cN : Nat) (cC : Nat) (bu : Nat) (bE : Option Addr) (bN : Nat) (bF : Nat) (gx : Ro F w cU (e8.all bX)) (gq : bX.length = cc) (fG : cc ≤ cV) (eD : Ro F w cd (e8.all bk)) (fI : bk.length = bK) (dQ : bK ≤ cf) (dT : Ro F w bQ (e8.all aT)) (eY : aT.length = bq) (dv : bq ≤ bR) (cb : Ro F w aQ (e8.all aj)) (cY : aj.length = aF) (bU : aF ≤ aR) (k : Cx F O w w [Bx 54 lx [sl cU cc cV, pt cL 0], Bx 72 cL [I 1, I 64, .u32 4294967295, .u64 274877906944, .b false, sl cd bK cf, sl bQ bq bR, sl aQ aF aR, pt cz 0, sl none 0 0, .u64 cR, .ar e8 b9, I bz, .v (.func (.func 40) ⟨SV.ad [pt cL 0]⟩ ⟨SV.ad []⟩)], Bx 115 cz [I aZ, I aG, sl bS b_ bT, sl cB cN cC, .b a1, .u64 ay, .v (.iface 126 (SV.val (pt bu 0)))], Ow e8 bS b_ bT aO, Ow e8 cB cN cC bg, Bx 132 bu [.ar cj bm, .u64 ak, .u64 al, sl bE bN bF, I az, .v (.func (.func 73) ⟨SV.ad []⟩ ⟨SV.ad []⟩), .v (.func (.func 74) ⟨SV.ad []⟩ ⟨SV.ad []⟩)], Ow e8 bE bN bF aD]) (r : (Nat × Int × ae UInt64 8 × UInt64 × UInt64 × List UInt8 × Int × Int × Int × List UInt8 × List UInt8 × Bool × UInt64 × List UInt8 × UInt64 × ae UInt8 64 × Int)) (hm : jB bX bk aT aj aZ aG aO bg a1 ay bm ak al aD az cR b9 bz = some r) :
    Calls Try.prog 22 (ad [pt lx 0]) w (fun e w' => ∃ fb A n c A1 n1 c1 A2 n2 c2 g n3 c3, Fl r.1 fb ∧ r.2.2.2.2.2.1.length = n ∧ r.2.2.2.2.2.2.2.2.2.1.length = n1 ∧ r.2.2.2.2.2.2.2.2.2.2.1.length = n2 ∧ r.2.2.2.2.2.2.2.2.2.2.2.2.2.1.length = n3 ∧ e = .returned (SV.val (.eO [.v (.float .f64 fb), I r.2.1])) ∧ Cx F O w w' [Bx 132 bu [.ar cj r.2.2.1, .u64 r.2.2.2.1, .u64 r.2.2.2.2.1, sl A n c, I r.2.2.2.2.2.2.1, .v (.func (.func 73) ⟨SV.ad []⟩ ⟨SV.ad []⟩), .v (.func (.func 74) ⟨SV.ad []⟩ ⟨SV.ad []⟩)], Ow e8 A n c r.2.2.2.2.2.1, Bx 115 cz [I r.2.2.2.2.2.2.2.1, I r.2.2.2.2.2.2.2.2.1, sl A1 n1 c1, sl A2 n2 c2, .b r.2.2.2.2.2.2.2.2.2.2.2.1, .u64 r.2.2.2.2.2.2.2.2.2.2.2.2.1, .v (.iface 126 (SV.val (pt bu 0)))], Ow e8 A1 n1 c1 r.2.2.2.2.2.2.2.2.2.1, Ow e8 A2 n2 c2 r.2.2.2.2.2.2.2.2.2.2.1, Bx 72 cL [I 1, I 64, .u32 4294967295, .u64 274877906944, .b false, sl cd bK cf, sl bQ bq bR, sl aQ aF aR, pt cz 0, sl (some ⟨g, 0, none⟩) n3 c3, .u64 r.2.2.2.2.2.2.2.2.2.2.2.2.2.2.1, .ar e8 r.2.2.2.2.2.2.2.2.2.2.2.2.2.2.2.1, I r.2.2.2.2.2.2.2.2.2.2.2.2.2.2.2.2, .v (.func (.func 65) ⟨SV.ad [pt cL 0]⟩ ⟨SV.ad []⟩)], Sh (SH e8) [((some ⟨g, 0, none⟩), n3, c3)] [r.2.2.2.2.2.2.2.2.2.2.2.2.2.1], Bx 54 lx [sl cU cc cV, pt cL 0]]) := by
 unfold jB at hm
 subst gq
 subst fI
 subst eY
 subst cY
 obtain rfl := k.len 3 rfl
 obtain rfl := k.len 4 rfl
 obtain rfl := k.len 6 rfl
 refine calls [pt lx 0] Try.func22 rfl (of_decide_eq_true (by kernel_rfl)) ?_
 refine ab <| bA [] .a qe (by kernel_rfl) ?_
 refine aa <| ab <| ao <| bn 1 [] (.n 7 (pt lx 0) .z) qe (by kernel_rfl) ?_
 refine ag ?_
 obtain ⟨r_, dk, hm⟩ := ob hm
 obtain ⟨F1, O1, lO, hO, rO, hF, hb⟩ := k.go (.i (.i (.i (.i (.i (.i (.i .e)))))))
 refine aq [] 8 _ JV (by kernel_rfl) (w6 (F := F1) (O := O1) _ _ _ _ _ _ _ _ _ _ _ _ _ _ _ _ _ _ _ _ _ _ _ _ _ _ _ _ _ _ _ _ _ _ _ _ _ _ _ _ _ _ _ (Ro.aY gx k hF) rfl fG (Ro.aY eD k hF) rfl dQ (Ro.aY dT k hF) rfl dv (Ro.aY cb k hF) rfl bU lO _ dk) ?_
 rintro e_ w_ ⟨A0, _, c0, A3, _, c4, A4, _, c5, g0, _, c6, rfl, rfl, rfl, rfl, rfl, k_⟩
 have da := hb w_ _ _ k_ (.c (.c (.c (.c (.c (.c (.c (.c .n))))))))
 refine ⟨.eO [.u64 r_.1, I r_.2.1], rfl, ?_⟩
 refine bn 5 [] (.n 4 (.u64 r_.1) (.n 5 (I r_.2.1) .z)) qe (by kernel_rfl) ?_
 refine af <| aa <| ab <| ao <| bn 1 [] (.n 11 (.u64 r_.1) (.s .a)) qe (by kernel_rfl) ?_
 refine ag ?_
 obtain ⟨ah, dt, hm⟩ := ob hm
 refine aq [] 12 _ JW (by kernel_rfl) (Am (F := N0) (O := N0) _ (Cx.refl _) _ dt) ?_
 rintro e_ lh ⟨sQ, yL, rfl, dF⟩
 have en := da.call dF
 refine ⟨.v (.float .f64 sQ), rfl, ?_⟩
 refine bn 3 [] (.n 2 (.v (.float .f64 sQ)) (.n 3 (I r_.2.1) .z)) qe (by kernel_rfl) ?_
 refine af <| aa <| aL ?_
 obtain rfl := Option.some.inj hm
 refine aM [.v (.float .f64 sQ), I r_.2.1] qe (by kernel_rfl) ?_
 exact ⟨sQ, A0, r_.2.2.2.2.2.1.length, c0, A3, r_.2.2.2.2.2.2.2.2.2.1.length, c4, A4, r_.2.2.2.2.2.2.2.2.2.2.1.length, c5, g0, r_.2.2.2.2.2.2.2.2.2.2.2.2.2.1.length, c6, yL, en.len 1 rfl, en.len 3 rfl, en.len 4 rfl, en.b8 6 rfl, rfl, en⟩
theorem rL {F O : Nat → Prop} {w : World} (bX : List UInt8) (bk : List UInt8) (aT : List UInt8) (aj : List UInt8) (aZ : Int) (aG : Int) (aO : List UInt8) (bg : List UInt8) (a1 : Bool) (ay : UInt64) (bm : ae UInt64 8) (ak : UInt64) (al : UInt64) (aD : List UInt8) (az : Int) (cR : UInt64) (b9 : ae UInt8 64) (bz : Int) (weights : List UInt64) (lx : Nat) (cU : Option Addr) (cc : Nat) (cV : Nat) (cL : Nat) (cd : Option Addr) (bK : Nat) (cf : Nat) (bQ : Option Addr) (bq : Nat) (bR : Nat) (aQ : Option Addr) (aF : Nat) (aR : Nat) (cz : Nat) (bS : Option Addr) (b_ : Nat) (bT : Nat) (cB : Option Addr) (cN : Nat) (cC : Nat) (bu : Nat) (bE : Option Addr) (bN : Nat) (bF : Nat) (jg : Option Addr) (ph : Nat) (jh : Nat) (gx : Ro F w cU (e8.all bX)) (gq : bX.length = cc) (fG : cc ≤ cV) (eD : Ro F w cd (e8.all bk)) (fI : bk.length = bK) (dQ : bK ≤ cf) (dT : Ro F w bQ (e8.all aT)) (eY : aT.length = bq) (dv : bq ≤ bR) (cb : Ro F w aQ (e8.all aj)) (cY : aj.length = aF) (bU : aF ≤ aR) (sP : Ro F w jg (eF.all weights)) (wS : weights.length = ph) (Ae : ph ≤ jh) (k : Cx F O w w [Bx 54 lx [sl cU cc cV, pt cL 0], Bx 72 cL [I 1, I 64, .u32 4294967295, .u64 274877906944, .b false, sl cd bK cf, sl bQ bq bR, sl aQ aF aR, pt cz 0, sl none 0 0, .u64 cR, .ar e8 b9, I bz, .v (.func (.func 40) ⟨SV.ad [pt cL 0]⟩ ⟨SV.ad []⟩)], Bx 115 cz [I aZ, I aG, sl bS b_ bT, sl cB cN cC, .b a1, .u64 ay, .v (.iface 126 (SV.val (pt bu 0)))], Ow e8 bS b_ bT aO, Ow e8 cB cN cC bg, Bx 132 bu [.ar cj bm, .u64 ak, .u64 al, sl bE bN bF, I az, .v (.func (.func 73) ⟨SV.ad []⟩ ⟨SV.ad []⟩), .v (.func (.func 74) ⟨SV.ad []⟩ ⟨SV.ad []⟩)], Ow e8 bE bN bF aD]) (r : (Int × ae UInt64 8 × UInt64 × UInt64 × List UInt8 × Int × Int × Int × List UInt8 × List UInt8 × Bool × UInt64 × UInt64 × ae UInt8 64 × Int) ⊕ (Int × Int × ae UInt64 8 × UInt64 × UInt64 × List UInt8 × Int × Int × Int × List UInt8 × List UInt8 × Bool × UInt64 × List UInt8 × UInt64 × ae UInt8 64 × Int)) (hm : eK bX bk aT aj aZ aG aO bg a1 ay bm ak al aD az cR b9 bz weights = some r) :
    Calls Try.prog 12 (ad [pt lx 0, sl jg ph jh]) w (fun e w' => match r with | .inl r0 => ∃ A n c A1 n1 c1 A2 n2 c2, r0.2.2.2.2.1.length = n ∧ r0.2.2.2.2.2.2.2.2.1.length = n1 ∧ r0.2.2.2.2.2.2.2.2.2.1.length = n2 ∧ e = .returned (SV.val (.eO [I 0, I r0.1])) ∧ Cx F O w w' [Bx 132 bu [.ar cj r0.2.1, .u64 r0.2.2.1, .u64 r0.2.2.2.1, sl A n c, I r0.2.2.2.2.2.1, .v (.func (.func 73) ⟨SV.ad []⟩ ⟨SV.ad []⟩), .v (.func (.func 74) ⟨SV.ad []⟩ ⟨SV.ad []⟩)], Ow e8 A n c r0.2.2.2.2.1, Bx 115 cz [I r0.2.2.2.2.2.2.1, I r0.2.2.2.2.2.2.2.1, sl A1 n1 c1, sl A2 n2 c2, .b r0.2.2.2.2.2.2.2.2.2.2.1, .u64 r0.2.2.2.2.2.2.2.2.2.2.2.1, .v (.iface 126 (SV.val (pt bu 0)))], Ow e8 A1 n1 c1 r0.2.2.2.2.2.2.2.2.1, Ow e8 A2 n2 c2 r0.2.2.2.2.2.2.2.2.2.1, Bx 72 cL [I 1, I 64, .u32 4294967295, .u64 274877906944, .b false, sl cd bK cf, sl bQ bq bR, sl aQ aF aR, pt cz 0, sl none 0 0, .u64 r0.2.2.2.2.2.2.2.2.2.2.2.2.1, .ar e8 r0.2.2.2.2.2.2.2.2.2.2.2.2.2.1, I r0.2.2.2.2.2.2.2.2.2.2.2.2.2.2, .v (.func (.func 40) ⟨SV.ad [pt cL 0]⟩ ⟨SV.ad []⟩)], Bx 54 lx [sl cU cc cV, pt cL 0]] | .inr r1 => ∃ A3 n3 c3 A4 n4 c4 A5 n5 c5 g n6 c6, r1.2.2.2.2.2.1.length = n3 ∧ r1.2.2.2.2.2.2.2.2.2.1.length = n4 ∧ r1.2.2.2.2.2.2.2.2.2.2.1.length = n5 ∧ r1.2.2.2.2.2.2.2.2.2.2.2.2.2.1.length = n6 ∧ e = .returned (SV.val (.eO [I r1.1, I r1.2.1])) ∧ Cx F O w w' [Bx 132 bu [.ar cj r1.2.2.1, .u64 r1.2.2.2.1, .u64 r1.2.2.2.2.1, sl A3 n3 c3, I r1.2.2.2.2.2.2.1, .v (.func (.func 73) ⟨SV.ad []⟩ ⟨SV.ad []⟩), .v (.func (.func 74) ⟨SV.ad []⟩ ⟨SV.ad []⟩)], Ow e8 A3 n3 c3 r1.2.2.2.2.2.1, Bx 115 cz [I r1.2.2.2.2.2.2.2.1, I r1.2.2.2.2.2.2.2.2.1, sl A4 n4 c4, sl A5 n5 c5, .b r1.2.2.2.2.2.2.2.2.2.2.2.1, .u64 r1.2.2.2.2.2.2.2.2.2.2.2.2.1, .v (.iface 126 (SV.val (pt bu 0)))], Ow e8 A4 n4 c4 r1.2.2.2.2.2.2.2.2.2.1, Ow e8 A5 n5 c5 r1.2.2.2.2.2.2.2.2.2.2.1, Bx 72 cL [I 1, I 64, .u32 4294967295, .u64 274877906944, .b false, sl cd bK cf, sl bQ bq bR, sl aQ aF aR, pt cz 0, sl (some ⟨g, 0, none⟩) n6 c6, .u64 r1.2.2.2.2.2.2.2.2.2.2.2.2.2.2.1, .ar e8 r1.2.2.2.2.2.2.2.2.2.2.2.2.2.2.2.1, I r1.2.2.2.2.2.2.2.2.2.2.2.2.2.2.2.2, .v (.func (.func 65) ⟨SV.ad [pt cL 0]⟩ ⟨SV.ad []⟩)], Sh (SH e8) [((some ⟨g, 0, none⟩), n6, c6)] [r1.2.2.2.2.2.2.2.2.2.2.2.2.2.1], Bx 54 lx [sl cU cc cV, pt cL 0]]) := by
 unfold eK at hm
 subst gq
 subst fI
 subst eY
 subst cY
 obtain rfl := k.len 3 rfl
 obtain rfl := k.len 4 rfl
 obtain rfl := k.len 6 rfl
 subst wS
 refine calls [pt lx 0, sl jg weights.length jh] Try.func12 rfl (of_decide_eq_true (by kernel_rfl)) ?_
 refine ab <| bA [] .a qe (by kernel_rfl) ?_
 refine aa <| ab <| ab <| ao <| bn 1 [] (.n 16 (pt lx 0) .a) qe (by kernel_rfl) ?_
 refine ag ?_
 obtain ⟨r_, dk, hm⟩ := ob hm
 obtain ⟨F1, O1, lO, hO, rO, hF, hb⟩ := k.go (.i (.i (.i (.i (.i (.i (.i .e)))))))
 refine aq [] 17 _ vp (by kernel_rfl) (ku (F := F1) (O := O1) _ _ _ _ _ _ _ _ _ _ _ _ _ _ _ _ _ _ _ _ _ _ _ _ _ _ _ _ _ _ _ _ _ _ _ _ _ _ _ _ _ _ _ (Ro.aY gx k hF) rfl fG (Ro.aY eD k hF) rfl dQ (Ro.aY dT k hF) rfl dv (Ro.aY cb k hF) rfl bU lO _ dk) ?_
 rintro e_ w_ ⟨A0, _, c0, A6, _, c7, A7, _, c8, rfl, rfl, rfl, rfl, k_⟩
 have da := hb w_ _ _ k_ (.c (.c (.c (.c (.c (.c (.c .n)))))))
 refine ⟨.b false, rfl, ?_⟩
 refine af <| aa <| cw false (by kernel_rfl) (fun h => by cases h) (fun _ => ?_)
 refine aS <| aa <| ab <| ao <| bn 1 [] (.n 19 (sl jg weights.length jh) (.ss .a)) qe (by kernel_rfl) ?_
 refine ag ?_
 obtain ⟨ah, dt, hm⟩ := ob hm
 refine aq [] 20 _ JO (by kernel_rfl) (yy (F := N0) (O := N0) _ _ _ _ (Ro.n0 (sP.cx da)) rfl Ae (Cx.refl _) _ dt) ?_
 rintro e_ lh ⟨A8, _, c9, fb, rfl, yL, rfl, dF⟩
 have en := da.call dF
 refine ⟨.eO [sl A8 ah.1.length c9, .v (.float .f64 fb), I ah.2.2], rfl, ?_⟩
 refine bn 7 [] (.n 6 (sl A8 ah.1.length c9) (.n 7 (.v (.float .f64 fb)) (.n 8 (I ah.2.2) (.ss .a)))) qe (by kernel_rfl) ?_
 refine af <| aa <| ab <| ab <| bA [] (.n 25 (.b (decide (ah.2.2 ≠ 0))) .a) qe (by kernel_rfl) ?_
 refine aa <| bb (ah.2.2 ≠ 0) (by kernel_rfl) (fun hc => ?_) (fun hc => ?_)
 · rw [if_pos hc] at hm
   refine ab <| bA [] (.n 4 (I 0) (.n 5 (I ah.2.2) .z)) qe (by kernel_rfl) ?_
   refine aa <| aL (bI ?_)
   obtain rfl := Option.some.inj hm
   refine aM [I 0, I ah.2.2] qe (by kernel_rfl) ?_
   have eA := en.ck (.aP (.kk (.k .z)))
   exact ⟨A0, r_.2.2.2.1.length, c0, A6, r_.2.2.2.2.2.2.2.1.length, c7, A7, r_.2.2.2.2.2.2.2.2.1.length, c8, eA.len 1 rfl, eA.len 3 rfl, eA.len 4 rfl, rfl, eA⟩
 rw [if_neg hc] at hm
 refine aS <| aa <| ab <| ab <| bA [] (.n 29 (.b (decide (0 < ((ah.1.length : Nat) : Int)))) (.s (.kk (.s .a)))) qe (by kernel_rfl) ?_
 refine aa <| bb (0 < ((ah.1.length : Nat) : Int)) (by kernel_rfl) (fun kr => ?_) (fun kr => ?_)
 · rw [if_pos kr] at hm
   refine ab <| ao <| bn 4 [] (.n 31 (pt lx 0) (.n 34 (.u64 (UInt64.ofInt ((ah.1.length : Nat) : Int))) (.s (.k .z)))) qe (by kernel_rfl) ?_
   refine ag ?_
   obtain ⟨bh, gX, hm⟩ := ob hm
   have fJ := (((((((en.pk (.t (.t (.t (.t (.t (.t (.t .h)))))))).pk (.t (.t .h))).pk (.t (.t .h))).pk (.t (.t (.t (.t (.t .h)))))).pk (.t (.t (.t (.t (.t .h)))))).pk (.t (.t (.t (.t (.t .h)))))).pk (.t (.t (.t (.t (.t (.t .h))))))).pk (.t (.t (.t (.t (.t (.t (.t .h)))))))
   obtain ⟨xD, xE, ni, FJ, tE, rP, xa⟩ := fJ.go (.i (.i (.i (.i (.i (.i (.i (.r .e))))))))
   refine aq [] 35 _ JP (by kernel_rfl) (vW (F := xD) (O := xE) _ _ _ _ _ _ _ _ _ _ _ _ _ _ _ _ _ _ _ _ _ _ _ _ _ _ _ _ _ _ _ _ _ _ _ _ _ _ _ _ _ _ _ _ (Ro.aY gx fJ rP) rfl fG (Ro.aY eD fJ rP) rfl dQ (Ro.aY dT fJ rP) rfl dv (Ro.aY cb fJ rP) rfl bU ni _ gX) ?_
   rcases bh with cD | fi
   · simp only [Sum.elim_inl, Sum.elim_inr] at hm
     rintro e_ l4 ⟨A9, _, sW, wR, _, ue, yX, _, xB, rfl, rfl, rfl, rfl, gi⟩
     have fY := xa l4 _ _ gi (.c (.c (.c (.c (.c (.c (.c .n)))))))
     refine ⟨.eO [.u64 0, I 1], rfl, ?_⟩
     refine bn 5 [] (.n 9 (.u64 0) (.n 10 (I 1) (.lj .a))) qe (by kernel_rfl) ?_
     refine af <| aa <| ab <| ab <| bA [] (.n 39 (.b true) .a) qe (by kernel_rfl) ?_
     refine aa <| cw true (by kernel_rfl) (fun _ => ?_) (fun h => by cases h)
     refine ab <| bA [] (.n 4 (I 0) (.n 5 (I 1) .z)) qe (by kernel_rfl) ?_
     refine aa <| aL (bI (bI ?_))
     obtain rfl := Option.some.inj hm
     refine aM [I 0, I 1] qe (by kernel_rfl) ?_
     have fZ := fY.ck (.aP (.kk (.k .z)))
     exact ⟨A9, cD.2.2.2.1.length, sW, wR, cD.2.2.2.2.2.2.2.1.length, ue, yX, cD.2.2.2.2.2.2.2.2.1.length, xB, fZ.len 1 rfl, fZ.len 3 rfl, fZ.len 4 rfl, rfl, fZ⟩
   · simp only [Sum.elim_inl, Sum.elim_inr] at hm
     rintro e_ qf ⟨AN, _, AO, HZ, _, MV, Q_, _, Ra, g0, _, Sf, rfl, rfl, rfl, rfl, rfl, gY⟩
     have dK := xa qf _ _ gY (.c (.c (.c (.c (.c (.c (.c (.c .n))))))))
     refine ⟨.eO [.u64 fi.1, I fi.2.1], rfl, ?_⟩
     refine bn 5 [] (.n 9 (.u64 fi.1) (.n 10 (I fi.2.1) (.lj .a))) qe (by kernel_rfl) ?_
     refine af <| aa <| ab <| ab <| bA [] (.n 39 (.b (decide (fi.2.1 ≠ 0))) .a) qe (by kernel_rfl) ?_
     refine aa <| bb (fi.2.1 ≠ 0) (by kernel_rfl) (fun pf => ?_) (fun pf => ?_)
     · rw [if_pos pf] at hm
       refine ab <| bA [] (.n 4 (I 0) (.n 5 (I fi.2.1) .z)) qe (by kernel_rfl) ?_
       refine aa <| aL (bI (bI ?_))
       obtain rfl := Option.some.inj hm
       refine aM [I 0, I fi.2.1] qe (by kernel_rfl) ?_
       have c_ := dK.ck (.aP (.aP .z))
       exact ⟨AN, fi.2.2.2.2.2.1.length, AO, HZ, fi.2.2.2.2.2.2.2.2.2.1.length, MV, Q_, fi.2.2.2.2.2.2.2.2.2.2.1.length, Ra, g0, fi.2.2.2.2.2.2.2.2.2.2.2.2.2.1.length, Sf, c_.len 1 rfl, c_.len 3 rfl, c_.len 4 rfl, c_.b8 6 rfl, rfl, c_⟩
     rw [if_neg pf] at hm
     refine aS <| aa <| ab ?_
     obtain ⟨aC, rD, hm⟩ := ob hm
     refine bA [] (.n 4 (I aC) (.n 5 (I 0) .z)) (qW (dK.rd 8 rfl) rD (dK.len 8 rfl) (I aC) rfl <| qe) (by kernel_rfl) ?_
     refine aa <| aL (bI ?_)
     obtain rfl := Option.some.inj hm
     refine aM [I aC, I 0] qe (by kernel_rfl) ?_
     have ez := dK.ck (.aP (.aP .z))
     exact ⟨AN, fi.2.2.2.2.2.1.length, AO, HZ, fi.2.2.2.2.2.2.2.2.2.1.length, MV, Q_, fi.2.2.2.2.2.2.2.2.2.2.1.length, Ra, g0, fi.2.2.2.2.2.2.2.2.2.2.2.2.2.1.length, Sf, ez.len 1 rfl, ez.len 3 rfl, ez.len 4 rfl, ez.b8 6 rfl, rfl, ez⟩
 rw [if_neg kr] at hm
 refine aS <| aa <| ab <| ao <| bn 1 [] (.n 46 (pt lx 0) (.ss (.k (.s .a)))) qe (by kernel_rfl) ?_
 refine ag ?_
 obtain ⟨bH, z1, hm⟩ := ob hm
 have dH := (((((((en.pk (.t (.t (.t (.t (.t (.t (.t .h)))))))).pk (.t (.t .h))).pk (.t (.t .h))).pk (.t (.t (.t (.t (.t .h)))))).pk (.t (.t (.t (.t (.t .h)))))).pk (.t (.t (.t (.t (.t .h)))))).pk (.t (.t (.t (.t (.t (.t .h))))))).pk (.t (.t (.t (.t (.t (.t (.t .h)))))))
 obtain ⟨H_, Ia, wT, Pu, Cy, Ag, D2⟩ := dH.go (.i (.i (.i (.i (.i (.i (.i (.r .e))))))))
 refine aq [] 47 _ JQ (by kernel_rfl) (vX (F := H_) (O := Ia) _ _ _ _ _ _ _ _ _ _ _ _ _ _ _ _ _ _ _ _ _ _ _ _ _ _ _ _ _ _ _ _ _ _ _ _ _ _ _ _ _ _ _ (Ro.aY gx dH Ag) rfl fG (Ro.aY eD dH Ag) rfl dQ (Ro.aY dT dH Ag) rfl dv (Ro.aY cb dH Ag) rfl bU wT _ z1) ?_
 rintro e_ p7 ⟨GM, KB, _, LF, LG, _, LH, LI, _, LJ, g1, _, LK, H6, rfl, rfl, rfl, rfl, rfl, eX⟩
 have iu := D2 p7 _ _ eX (.c (.c (.c (.c (.c (.c (.c (.c .n))))))))
 refine ⟨.eO [.v (.float .f64 GM), I bH.2.1], rfl, ?_⟩
 have fX := iu.ck (.aP (.aP .z))
 refine bn 5 [] (.n 8 (I bH.2.1) (.n 11 (.v (.float .f64 GM)) (.ss .a))) qe (by kernel_rfl) ?_
 refine af <| aa <| ab <| ab <| bA [] (.n 51 (.b (decide (bH.2.1 ≠ 0))) .a) qe (by kernel_rfl) ?_
 refine aa <| bb (bH.2.1 ≠ 0) (by kernel_rfl) (fun ub => ?_) (fun ub => ?_)
 · rw [if_pos ub] at hm
   refine ab <| bA [] (.n 4 (I 0) (.n 5 (I bH.2.1) .z)) qe (by kernel_rfl) ?_
   refine aa <| aL (bI ?_)
   obtain rfl := Option.some.inj hm
   refine aM [I 0, I bH.2.1] qe (by kernel_rfl) ?_
   exact ⟨KB, bH.2.2.2.2.2.1.length, LF, LG, bH.2.2.2.2.2.2.2.2.2.1.length, LH, LI, bH.2.2.2.2.2.2.2.2.2.2.1.length, LJ, g1, bH.2.2.2.2.2.2.2.2.2.2.2.2.2.1.length, LK, fX.len 1 rfl, fX.len 3 rfl, fX.len 4 rfl, fX.b8 6 rfl, rfl, fX⟩
 rw [if_neg ub] at hm
 refine aS <| aa <| ab <| ao <| bn 2 [] (.n 53 (.v (.float .f64 GM)) (.n 54 (.v (.float .f64 fb)) (.fQ .a))) qe (by kernel_rfl) ?_
 refine ag <| ki [] 55 (u := GM) (v := fb) (by kernel_rfl) (.inr (.inr (.inl rfl))) H6 yL fX ?_
 intro Ja sV H2 jY
 refine bn 1 [] (.n 12 (.v (.float .f64 Ja)) (.lj .a)) qe (by kernel_rfl) ?_
 refine af <| aa <| ab <| bA [] (.n 13 (.v (.float .f64 0)) (.n 14 (I 0) .a)) qe (by kernel_rfl) ?_
 refine aa <| ab <| ab <| bA [] (.n 57 (I ((weights.length : Nat) : Int)) (.n 58 (I 0) .a)) qe (by kernel_rfl) ?_
 refine aa <| cu <| pc (dG weights ah bH) (fun s L wr => ∃ (AF : Nat) (last : Int) (qt : Int) (H4 : Nat), (AF, last, qt) = s ∧ L = [(1, sl jg weights.length jh), (12, .v (.float .f64 Ja)), (13, .v (.float .f64 H4)), (14, I last), (57, I ((weights.length : Nat) : Int)), (58, I qt)] ∧ Fl AF H4 ∧ Cx F O w wr [Bx 132 bu [.ar cj bH.2.2.1, .u64 bH.2.2.2.1, .u64 bH.2.2.2.2.1, sl KB bH.2.2.2.2.2.1.length LF, I bH.2.2.2.2.2.2.1, .v (.func (.func 73) ⟨SV.ad []⟩ ⟨SV.ad []⟩), .v (.func (.func 74) ⟨SV.ad []⟩ ⟨SV.ad []⟩)], Ow e8 KB bH.2.2.2.2.2.1.length LF bH.2.2.2.2.2.1, Bx 115 cz [I bH.2.2.2.2.2.2.2.1, I bH.2.2.2.2.2.2.2.2.1, sl LG bH.2.2.2.2.2.2.2.2.2.1.length LH, sl LI bH.2.2.2.2.2.2.2.2.2.2.1.length LJ, .b bH.2.2.2.2.2.2.2.2.2.2.2.1, .u64 bH.2.2.2.2.2.2.2.2.2.2.2.2.1, .v (.iface 126 (SV.val (pt bu 0)))], Ow e8 LG bH.2.2.2.2.2.2.2.2.2.1.length LH bH.2.2.2.2.2.2.2.2.2.1, Ow e8 LI bH.2.2.2.2.2.2.2.2.2.2.1.length LJ bH.2.2.2.2.2.2.2.2.2.2.1, Bx 72 cL [I 1, I 64, .u32 4294967295, .u64 274877906944, .b false, sl cd bk.length cf, sl bQ aT.length bR, sl aQ aj.length aR, pt cz 0, sl (some ⟨g1, 0, none⟩) bH.2.2.2.2.2.2.2.2.2.2.2.2.2.1.length LK, .u64 bH.2.2.2.2.2.2.2.2.2.2.2.2.2.2.1, .ar e8 bH.2.2.2.2.2.2.2.2.2.2.2.2.2.2.2.1, I bH.2.2.2.2.2.2.2.2.2.2.2.2.2.2.2.2, .v (.func (.func 65) ⟨SV.ad [pt cL 0]⟩ ⟨SV.ad []⟩)], Sh (SH e8) [((some ⟨g1, 0, none⟩), bH.2.2.2.2.2.2.2.2.2.2.2.2.2.1.length, LK)] [bH.2.2.2.2.2.2.2.2.2.2.2.2.2.1], Bx 54 lx [sl cU bX.length cV, pt cL 0]]) (0, (0 : Int), (0 : Int)) r hm ⟨0, (0 : Int), (0 : Int), 0, rfl, rfl, (Fl.lit (c := 0) (by kernel_rfl)), jY⟩ (by kernel_rfl) ?_
 intro yU L_ wi y0 jd dd nF
 obtain ⟨AF, last, qt, H4, rfl, rfl, H5, iK⟩ := jd
 have hm := dd; simp only [dG] at hm
 clear dd
 refine ab <| bA [] (.n 59 (.b (decide (qt < ((weights.length : Nat) : Int)))) .a) qe (by kernel_rfl) ?_
 refine aa <| ab <| bb (qt < ((weights.length : Nat) : Int)) (by kernel_rfl) (fun w9 => ?_) (fun w9 => ?_)
 · rw [if_pos w9] at hm
   refine aS <| aa <| kS (fun L wr => ∃ (zW : Nat) (zX : Int) (MY : Nat), jb qt zW zX = some y0 ∧ L = [(1, sl jg weights.length jh), (12, .v (.float .f64 Ja)), (13, .v (.float .f64 MY)), (14, I zX), (57, I ((weights.length : Nat) : Int)), (58, I qt)] ∧ Fl zW MY ∧ Cx F O w wr [Bx 132 bu [.ar cj bH.2.2.1, .u64 bH.2.2.2.1, .u64 bH.2.2.2.2.1, sl KB bH.2.2.2.2.2.1.length LF, I bH.2.2.2.2.2.2.1, .v (.func (.func 73) ⟨SV.ad []⟩ ⟨SV.ad []⟩), .v (.func (.func 74) ⟨SV.ad []⟩ ⟨SV.ad []⟩)], Ow e8 KB bH.2.2.2.2.2.1.length LF bH.2.2.2.2.2.1, Bx 115 cz [I bH.2.2.2.2.2.2.2.1, I bH.2.2.2.2.2.2.2.2.1, sl LG bH.2.2.2.2.2.2.2.2.2.1.length LH, sl LI bH.2.2.2.2.2.2.2.2.2.2.1.length LJ, .b bH.2.2.2.2.2.2.2.2.2.2.2.1, .u64 bH.2.2.2.2.2.2.2.2.2.2.2.2.1, .v (.iface 126 (SV.val (pt bu 0)))], Ow e8 LG bH.2.2.2.2.2.2.2.2.2.1.length LH bH.2.2.2.2.2.2.2.2.2.1, Ow e8 LI bH.2.2.2.2.2.2.2.2.2.2.1.length LJ bH.2.2.2.2.2.2.2.2.2.2.1, Bx 72 cL [I 1, I 64, .u32 4294967295, .u64 274877906944, .b false, sl cd bk.length cf, sl bQ aT.length bR, sl aQ aj.length aR, pt cz 0, sl (some ⟨g1, 0, none⟩) bH.2.2.2.2.2.2.2.2.2.2.2.2.2.1.length LK, .u64 bH.2.2.2.2.2.2.2.2.2.2.2.2.2.2.1, .ar e8 bH.2.2.2.2.2.2.2.2.2.2.2.2.2.2.2.1, I bH.2.2.2.2.2.2.2.2.2.2.2.2.2.2.2.2, .v (.func (.func 65) ⟨SV.ad [pt cL 0]⟩ ⟨SV.ad []⟩)], Sh (SH e8) [((some ⟨g1, 0, none⟩), bH.2.2.2.2.2.2.2.2.2.2.2.2.2.1.length, LK)] [bH.2.2.2.2.2.2.2.2.2.2.2.2.2.1], Bx 54 lx [sl cU bX.length cV, pt cL 0]]) ?_ ?_
   ·
    refine cu <| ab <| bA [] (.n 15 (I qt) (.s .a)) qe (by kernel_rfl) ?_
    refine aa <| ab <| ao ?_
    obtain ⟨zY, MZ, hm⟩ := ob hm
    refine bn 5 [] (.n 61 (.v (.float .f64 H4)) (.n 65 (.v (.float .f64 zY.toNat)) .a)) (qW (sP.cx iK) MZ rfl (.v (.float .f64 zY.toNat)) rfl <| qe) (by kernel_rfl) ?_
    refine ag <| ki [] 66 (u := H4) (v := zY.toNat) (by kernel_rfl) (.inl rfl) H5 (Fl.u zY) iK ?_
    intro M0 vO Ig kt
    refine bn 1 [] (.n 13 (.v (.float .f64 M0)) (.lj (.ua (.s .a)))) qe (by kernel_rfl) ?_
    refine af <| aa <| ab <| ab <| ao <| bn 2 [] (.n 67 (.v (.float .f64 M0)) (.n 68 (.v (.float .f64 Ja)) .a)) qe (by kernel_rfl) ?_
    refine ag <| gG [] 69 (u := M0) (v := Ja) (by kernel_rfl) (.inr (.inr (.inr (.inr (.inl rfl))))) Ig H2 ?_
    refine af <| aa <| cw (cv .gtr (jO .add AF (bW zY.toNat)) (jO .mul bH.1 ah.2.1)) (by kernel_rfl) (fun uc => ?_) (fun uc => ?_)
    · rw [if_pos uc] at hm
      refine ab <| bA [] (.n 4 (I qt) (.n 5 (I 0) .z)) qe (by kernel_rfl) ?_
      refine aa <| aL (bI (gh (bI (bI (gh (bI ?_))))))
      have hm := d_ hm nF
      obtain rfl := Option.some.inj hm
      refine aM [I qt, I 0] qe (by kernel_rfl) ?_
      exact ⟨KB, bH.2.2.2.2.2.1.length, LF, LG, bH.2.2.2.2.2.2.2.2.2.1.length, LH, LI, bH.2.2.2.2.2.2.2.2.2.2.1.length, LJ, g1, bH.2.2.2.2.2.2.2.2.2.2.2.2.2.1.length, LK, kt.len 1 rfl, kt.len 3 rfl, kt.len 4 rfl, kt.b8 6 rfl, rfl, kt⟩
    rw [if_neg (by rw [uc]; decide)] at hm
    refine aS <| aa <| ab <| ao ?_
    obtain ⟨Eu, M1, hm⟩ := ob hm
    refine bn 4 [] (.n 74 (.v (.float .f64 Eu.toNat)) (.lj .a)) (qW (sP.cx kt) M1 rfl (.v (.float .f64 Eu.toNat)) rfl <| qe) (by kernel_rfl) ?_
    refine ag <| gG [] 75 (u := Eu.toNat) (v := 0) (by kernel_rfl) (.inr (.inr (.inr (.inr (.inl rfl))))) (Fl.u Eu) (Fl.lit (c := 0) (by kernel_rfl)) ?_
    refine af <| aa <| cw (cv .gtr (bW Eu.toNat) 0) (by kernel_rfl) (fun ud => ?_) (fun ud => ?_)
    · rw [if_pos ud] at hm
      refine bA [] (.n 14 (I qt) (.ss (.k (.s (.kk (.s .a)))))) qe (by kernel_rfl) ?_
      refine hH ?_
      exact iy ⟨jO .add AF (bW zY.toNat), qt, M0, hm, rfl, Ig, kt⟩ (by kernel_rfl)
    rw [if_neg (by rw [ud]; decide)] at hm
    refine aS <| hH ?_
    exact iy ⟨jO .add AF (bW zY.toNat), last, M0, hm, rfl, Ig, kt⟩ (by kernel_rfl)
   rintro L_ Av ⟨zW, zX, MY, hm, rfl, M3, kg⟩
   simp only [jb] at hm
   refine bA [] (.n 58 (I (aB (qt + 1))) (.aP (.k .z))) qe (by kernel_rfl) ?_
   exact jR (zW, zX, aB (qt + 1)) (Option.some.inj hm).symm ⟨zW, zX, aB (qt + 1), MY, rfl, rfl, M3, kg⟩ (by kernel_rfl)
 rw [if_neg w9] at hm
 refine iq (fe (fe (kG ?_)))
 have hm := d_ hm nF
 refine aa <| ab <| bA [] (.n 4 (I last) (.n 5 (I 0) .z)) qe (by kernel_rfl) ?_
 refine aa <| aL ?_
 obtain rfl := Option.some.inj hm
 refine aM [I last, I 0] qe (by kernel_rfl) ?_
 exact ⟨KB, bH.2.2.2.2.2.1.length, LF, LG, bH.2.2.2.2.2.2.2.2.2.1.length, LH, LI, bH.2.2.2.2.2.2.2.2.2.2.1.length, LJ, g1, bH.2.2.2.2.2.2.2.2.2.2.2.2.2.1.length, LK, iK.len 1 rfl, iK.len 3 rfl, iK.len 4 rfl, iK.b8 6 rfl, rfl, iK⟩
theorem AR {F O : Nat → Prop} {w : World} (k : Cx F O w w []) (r : Bool) (hm : mM = some r) :
    Calls Try.prog 10 (ad []) w (fun e w' => e = .returned (SV.val (.b r)) ∧ Cx F O w w' []) := by
 unfold mM at hm
 refine calls [] Try.func10 rfl (of_decide_eq_true (by kernel_rfl)) ?_
 refine ab <| bA [] .a qe (by kernel_rfl) ?_
 refine aa <| ab <| ao <| ag ?_
 obtain ⟨r_, dk, hm⟩ := ob hm
 refine aq [] 6 _ Fg (by kernel_rfl) (xC (F := N0) (O := N0) _ _ _ _ (Ro.Ge e8) rfl (Nat.le_refl 0) (Cx.refl _) _ dk) ?_
 rcases r_ with ah | bh
 · simp only [Sum.elim_inl, Sum.elim_inr] at hm
   rintro e_ w_ ⟨rfl, k_⟩
   have da := k.call k_
   refine ⟨.eO [.v (.pointer none), I ah], rfl, ?_⟩
   refine bn 5 [] (.n 1 (.v (.pointer none)) (.n 2 (I ah) .z)) qe (by kernel_rfl) ?_
   refine af <| aa <| ab <| ab <| bA [11] (.n 14 (.b true) (.k .z)) qe (by kernel_rfl) ?_
   refine aa <| cw true (by kernel_rfl) (fun _ => ?_) (fun h => by cases h)
   refine ab <| bA [] (.n 0 (.b false) .z) qe (by kernel_rfl) ?_
   refine aa <| aL (bI ?_)
   obtain rfl := Option.some.inj hm
   refine aM [.b false] qe (by kernel_rfl) ?_
   exact ⟨rfl, da⟩
 · simp only [Sum.elim_inl, Sum.elim_inr] at hm
   rintro e_ Vq ⟨g, A, _, c, g1, A1, _, c1, A2, _, c2, A3, _, c3, g2, A4, _, c4, A5, _, c5, g3, A6, _, c6, rfl, rfl, rfl, rfl, rfl, rfl, rfl, rfl, R_⟩
   have dF := k.call R_
   refine ⟨.eO [pt g 0, I 0], rfl, ?_⟩
   refine bn 5 [] (.n 1 (pt g 0) (.n 2 (I 0) .z)) qe (by kernel_rfl) ?_
   refine af <| aa <| ab <| ab <| bA [11] (.n 14 (.b false) (.k .z)) qe (by kernel_rfl) ?_
   refine aa <| cw false (by kernel_rfl) (fun h => by cases h) (fun _ => ?_)
   refine aS <| aa <| ab <| ao <| bn 1 [] (.n 16 (pt g 0) .z) qe (by kernel_rfl) ?_
   refine ag ?_
   obtain ⟨cD, oV, hm⟩ := ob hm
   obtain ⟨F1, O1, lO, hO, rO, hF, hb⟩ := dF.go (.i (.r (.i (.r (.r (.r (.i (.i (.i (.i (.i .e)))))))))))
   refine aq [] 17 _ Fh (by kernel_rfl) (rL (F := F1) (O := O1) _ _ _ _ _ _ _ _ _ _ _ _ _ _ _ _ _ _ _ _ _ _ _ _ _ _ _ _ _ _ _ _ _ _ _ _ _ _ _ _ _ _ _ _ _ _ _ (Ro.de lO.off rO 0 rfl) (dF.b8 1 rfl) (dF.cZ 1 rfl) (Ro.de lO.off rO 1 rfl) (dF.b8 3 rfl) (dF.cZ 3 rfl) (Ro.de lO.off rO 2 rfl) (dF.b8 4 rfl) (dF.cZ 4 rfl) (Ro.de lO.off rO 3 rfl) (dF.b8 5 rfl) (dF.cZ 5 rfl) (Ro.Ge eF) rfl (Nat.le_refl 0) lO _ oV) ?_
   rcases cD with fi | bH
   · simp only [Sum.elim_inl, Sum.elim_inr] at hm
     rintro e_ lh ⟨A7, _, c7, A8, _, c8, A9, _, c9, rfl, rfl, rfl, rfl, en⟩
     have eA := hb lh _ _ en (.c (.c (.c (.c (.c (.c (.c .n)))))))
     refine ⟨.eO [I 0, I fi.1], rfl, ?_⟩
     have fJ := eA.ck .z
     refine bn 5 [] (.n 4 (I fi.1) .z) qe (by kernel_rfl) ?_
     refine af <| aa <| ab <| bA [] (.n 0 (.b (decide (fi.1 = 251))) .z) qe (by kernel_rfl) ?_
     refine aa <| aL ?_
     obtain rfl := Option.some.inj hm
     refine aM [.b (decide (fi.1 = 251))] qe (by kernel_rfl) ?_
     exact ⟨rfl, fJ⟩
   · simp only [Sum.elim_inl, Sum.elim_inr] at hm
     rintro e_ l4 ⟨wR, _, sW, yX, _, ue, AN, _, xB, g4, _, AO, rfl, rfl, rfl, rfl, rfl, gi⟩
     have fY := hb l4 _ _ gi (.c (.c (.c (.c (.c (.c (.c (.c .n))))))))
     refine ⟨.eO [I bH.1, I bH.2.1], rfl, ?_⟩
     have fZ := fY.ck .z
     refine bn 5 [] (.n 4 (I bH.2.1) .z) qe (by kernel_rfl) ?_
     refine af <| aa <| ab <| bA [] (.n 0 (.b (decide (bH.2.1 = 251))) .z) qe (by kernel_rfl) ?_
     refine aa <| aL ?_
     obtain rfl := Option.some.inj hm
     refine aM [.b (decide (bH.2.1 = 251))] qe (by kernel_rfl) ?_
     exact ⟨rfl, fZ⟩
theorem xJ {F O : Nat → Prop} {w : World} (cE : List UInt8) (bd : List UInt8) (ai : List UInt8) (b6 : Int) (bf : Int) (bo : List UInt8) (cm : List UInt8) (b7 : Bool) (aU : UInt64) (cF : ae UInt64 8) (aw : UInt64) (ax : UInt64) (a7 : List UInt8) (aV : Int) (ir : UInt64) (ei : ae UInt8 64) (dr : Int) (a6 : Nat) (cG : Option Addr) (di : Nat) (cH : Nat) (bL : Option Addr) (cg : Nat) (bM : Nat) (aH : Option Addr) (aX : Nat) (aI : Nat) (ee : Nat) (cO : Option Addr) (dw : Nat) (cP : Nat) (dW : Option Addr) (eE : Nat) (dX : Nat) (cI : Nat) (cp : Option Addr) (cQ : Nat) (cq : Nat) (jK : Ro F w cG (e8.all cE)) (iN : cE.length = di) (h_ : di ≤ cH) (gw : Ro F w bL (e8.all bd)) (gp : bd.length = cg) (fF : cg ≤ bM) (dE : Ro F w aH (e8.all ai)) (dN : ai.length = aX) (dj : aX ≤ aI) (k : Cx F O w w [Bx 72 a6 [I 1, I 64, .u32 4294967295, .u64 274877906944, .b false, sl cG di cH, sl bL cg bM, sl aH aX aI, pt ee 0, sl none 0 0, .u64 ir, .ar e8 ei, I dr, .v (.func (.func 40) ⟨SV.ad [pt a6 0]⟩ ⟨SV.ad []⟩)], Bx 115 ee [I b6, I bf, sl cO dw cP, sl dW eE dX, .b b7, .u64 aU, .v (.iface 126 (SV.val (pt cI 0)))], Ow e8 cO dw cP bo, Ow e8 dW eE dX cm, Bx 132 cI [.ar cj cF, .u64 aw, .u64 ax, sl cp cQ cq, I aV, .v (.func (.func 73) ⟨SV.ad []⟩ ⟨SV.ad []⟩), .v (.func (.func 74) ⟨SV.ad []⟩ ⟨SV.ad []⟩)], Ow e8 cp cQ cq a7]) (r : (UInt64 × ae UInt64 8 × UInt64 × UInt64 × List UInt8 × Int × Int × Int × List UInt8 × List UInt8 × Bool × UInt64 × UInt64 × ae UInt8 64 × Int)) (hm : oM cE bd ai b6 bf bo cm b7 aU cF aw ax a7 aV ir ei dr = some r) :
    Calls Try.prog 23 (ad [pt a6 0]) w (fun e w' => ∃ A n c A1 n1 c1 A2 n2 c2, r.2.2.2.2.1.length = n ∧ r.2.2.2.2.2.2.2.2.1.length = n1 ∧ r.2.2.2.2.2.2.2.2.2.1.length = n2 ∧ e = .returned (SV.val (.u64 r.1)) ∧ Cx F O w w' [Bx 132 cI [.ar cj r.2.1, .u64 r.2.2.1, .u64 r.2.2.2.1, sl A n c, I r.2.2.2.2.2.1, .v (.func (.func 73) ⟨SV.ad []⟩ ⟨SV.ad []⟩), .v (.func (.func 74) ⟨SV.ad []⟩ ⟨SV.ad []⟩)], Ow e8 A n c r.2.2.2.2.1, Bx 115 ee [I r.2.2.2.2.2.2.1, I r.2.2.2.2.2.2.2.1, sl A1 n1 c1, sl A2 n2 c2, .b r.2.2.2.2.2.2.2.2.2.2.1, .u64 r.2.2.2.2.2.2.2.2.2.2.2.1, .v (.iface 126 (SV.val (pt cI 0)))], Ow e8 A1 n1 c1 r.2.2.2.2.2.2.2.2.1, Ow e8 A2 n2 c2 r.2.2.2.2.2.2.2.2.2.1, Bx 72 a6 [I 1, I 64, .u32 4294967295, .u64 274877906944, .b false, sl cG di cH, sl bL cg bM, sl aH aX aI, pt ee 0, sl none 0 0, .u64 r.2.2.2.2.2.2.2.2.2.2.2.2.1, .ar e8 r.2.2.2.2.2.2.2.2.2.2.2.2.2.1, I r.2.2.2.2.2.2.2.2.2.2.2.2.2.2, .v (.func (.func 40) ⟨SV.ad [pt a6 0]⟩ ⟨SV.ad []⟩)]]) := by
 unfold oM at hm
 subst iN
 subst gp
 subst dN
 obtain rfl := k.len 2 rfl
 obtain rfl := k.len 3 rfl
 obtain rfl := k.len 5 rfl
 refine calls [pt a6 0] Try.func23 rfl (of_decide_eq_true (by kernel_rfl)) ?_
 refine ab <| bA [] .a qe (by kernel_rfl) ?_
 refine aa <| ab <| ab <| ao <| bn 1 [] (.n 3 (pt a6 0) .a) qe (by kernel_rfl) ?_
 refine ag ?_
 obtain ⟨r_, dk, hm⟩ := ob hm
 obtain ⟨F1, O1, lO, hO, rO, hF, hb⟩ := k.go (.i (.i (.i (.i (.i (.i .e))))))
 refine aq [] 4 _ xw (by kernel_rfl) (nD (F := F1) (O := O1) _ _ _ _ _ _ _ _ _ _ _ _ _ _ _ _ _ _ _ _ _ _ _ _ _ _ _ _ _ _ _ _ _ _ _ _ _ _ (Ro.aY jK k hF) rfl h_ (Ro.aY gw k hF) rfl fF (Ro.aY dE k hF) rfl dj lO _ dk) ?_
 rintro e_ w_ ⟨A0, _, c0, A3, _, c3, A4, _, c4, rfl, rfl, rfl, rfl, k_⟩
 have da := hb w_ _ _ k_ (.c (.c (.c (.c (.c (.c .n))))))
 refine ⟨.b false, rfl, ?_⟩
 refine af <| aa <| cw false (by kernel_rfl) (fun h => by cases h) (fun _ => ?_)
 refine aS <| aa <| ab <| bA [] (.n 2 (.u64 r_.2.2.2.2.2.2.2.2.2.2.2.1) .z) (qs a6 0 <| qs a6 0 <| qB da 5 rfl 10 (.u64 r_.2.2.2.2.2.2.2.2.2.2.2.1) (by kernel_rfl) <| qe) (by kernel_rfl) ?_
 refine aa <| aL ?_
 obtain rfl := Option.some.inj hm
 refine aM [.u64 r_.2.2.2.2.2.2.2.2.2.2.2.1] qe (by kernel_rfl) ?_
 exact ⟨A0, r_.2.2.2.1.length, c0, A3, r_.2.2.2.2.2.2.2.1.length, c3, A4, r_.2.2.2.2.2.2.2.2.1.length, c4, da.len 1 rfl, da.len 3 rfl, da.len 4 rfl, rfl, da⟩
theorem ie {F O : Nat → Prop} {w : World} (bX : List UInt8) (bk : List UInt8) (aT : List UInt8) (aj : List UInt8) (aZ : Int) (aG : Int) (aO : List UInt8) (bg : List UInt8) (a1 : Bool) (ay : UInt64) (bm : ae UInt64 8) (ak : UInt64) (al : UInt64) (aD : List UInt8) (az : Int) (cR : UInt64) (b9 : ae UInt8 64) (bz : Int) (lx : Nat) (cU : Option Addr) (cc : Nat) (cV : Nat) (cL : Nat) (cd : Option Addr) (bK : Nat) (cf : Nat) (bQ : Option Addr) (bq : Nat) (bR : Nat) (aQ : Option Addr) (aF : Nat) (aR : Nat) (cz : Nat) (bS : Option Addr) (b_ : Nat) (bT : Nat) (cB : Option Addr) (cN : Nat) (cC : Nat) (bu : Nat) (bE : Option Addr) (bN : Nat) (bF : Nat) (gx : Ro F w cU (e8.all bX)) (gq : bX.length = cc) (fG : cc ≤ cV) (eD : Ro F w cd (e8.all bk)) (fI : bk.length = bK) (dQ : bK ≤ cf) (dT : Ro F w bQ (e8.all aT)) (eY : aT.length = bq) (dv : bq ≤ bR) (cb : Ro F w aQ (e8.all aj)) (cY : aj.length = aF) (bU : aF ≤ aR) (k : Cx F O w w [Bx 54 lx [sl cU cc cV, pt cL 0], Bx 72 cL [I 1, I 64, .u32 4294967295, .u64 274877906944, .b false, sl cd bK cf, sl bQ bq bR, sl aQ aF aR, pt cz 0, sl none 0 0, .u64 cR, .ar e8 b9, I bz, .v (.func (.func 40) ⟨SV.ad [pt cL 0]⟩ ⟨SV.ad []⟩)], Bx 115 cz [I aZ, I aG, sl bS b_ bT, sl cB cN cC, .b a1, .u64 ay, .v (.iface 126 (SV.val (pt bu 0)))], Ow e8 bS b_ bT aO, Ow e8 cB cN cC bg, Bx 132 bu [.ar cj bm, .u64 ak, .u64 al, sl bE bN bF, I az, .v (.func (.func 73) ⟨SV.ad []⟩ ⟨SV.ad []⟩), .v (.func (.func 74) ⟨SV.ad []⟩ ⟨SV.ad []⟩)], Ow e8 bE bN bF aD]) (r : (UInt64 × ae UInt64 8 × UInt64 × UInt64 × List UInt8 × Int × Int × Int × List UInt8 × List UInt8 × Bool × UInt64 × UInt64 × ae UInt8 64 × Int)) (hm : fm bX bk aT aj aZ aG aO bg a1 ay bm ak al aD az cR b9 bz = some r) :
    Calls Try.prog 13 (ad [pt lx 0]) w (fun e w' => ∃ A n c A1 n1 c1 A2 n2 c2, r.2.2.2.2.1.length = n ∧ r.2.2.2.2.2.2.2.2.1.length = n1 ∧ r.2.2.2.2.2.2.2.2.2.1.length = n2 ∧ e = .returned (SV.val (.u64 r.1)) ∧ Cx F O w w' [Bx 132 bu [.ar cj r.2.1, .u64 r.2.2.1, .u64 r.2.2.2.1, sl A n c, I r.2.2.2.2.2.1, .v (.func (.func 73) ⟨SV.ad []⟩ ⟨SV.ad []⟩), .v (.func (.func 74) ⟨SV.ad []⟩ ⟨SV.ad []⟩)], Ow e8 A n c r.2.2.2.2.1, Bx 115 cz [I r.2.2.2.2.2.2.1, I r.2.2.2.2.2.2.2.1, sl A1 n1 c1, sl A2 n2 c2, .b r.2.2.2.2.2.2.2.2.2.2.1, .u64 r.2.2.2.2.2.2.2.2.2.2.2.1, .v (.iface 126 (SV.val (pt bu 0)))], Ow e8 A1 n1 c1 r.2.2.2.2.2.2.2.2.1, Ow e8 A2 n2 c2 r.2.2.2.2.2.2.2.2.2.1, Bx 72 cL [I 1, I 64, .u32 4294967295, .u64 274877906944, .b false, sl cd bK cf, sl bQ bq bR, sl aQ aF aR, pt cz 0, sl none 0 0, .u64 r.2.2.2.2.2.2.2.2.2.2.2.2.1, .ar e8 r.2.2.2.2.2.2.2.2.2.2.2.2.2.1, I r.2.2.2.2.2.2.2.2.2.2.2.2.2.2, .v (.func (.func 40) ⟨SV.ad [pt cL 0]⟩ ⟨SV.ad []⟩)], Bx 54 lx [sl cU cc cV, pt cL 0]]) := by
 unfold fm at hm
 subst gq
 subst fI
 subst eY
 subst cY
 obtain rfl := k.len 3 rfl
 obtain rfl := k.len 4 rfl
 obtain rfl := k.len 6 rfl
 refine calls [pt lx 0] Try.func13 rfl (of_decide_eq_true (by kernel_rfl)) ?_
 refine ab <| bA [] .a qe (by kernel_rfl) ?_
 refine aa <| ab <| ab <| ao <| bn 1 [] (.n 3 (pt lx 0) .a) qe (by kernel_rfl) ?_
 refine ag ?_
 obtain ⟨r_, dk, hm⟩ := ob hm
 obtain ⟨F1, O1, lO, hO, rO, hF, hb⟩ := k.go (.i (.i (.i (.i (.i (.i (.i .e)))))))
 refine aq [] 4 _ vp (by kernel_rfl) (ku (F := F1) (O := O1) _ _ _ _ _ _ _ _ _ _ _ _ _ _ _ _ _ _ _ _ _ _ _ _ _ _ _ _ _ _ _ _ _ _ _ _ _ _ _ _ _ _ _ (Ro.aY gx k hF) rfl fG (Ro.aY eD k hF) rfl dQ (Ro.aY dT k hF) rfl dv (Ro.aY cb k hF) rfl bU lO _ dk) ?_
 rintro e_ w_ ⟨A0, _, c0, A3, _, c3, A4, _, c4, rfl, rfl, rfl, rfl, k_⟩
 have da := hb w_ _ _ k_ (.c (.c (.c (.c (.c (.c (.c .n)))))))
 refine ⟨.b false, rfl, ?_⟩
 refine af <| aa <| cw false (by kernel_rfl) (fun h => by cases h) (fun _ => ?_)
 refine aS <| aa <| ab <| ao <| bn 4 [] (.n 8 (pt cL 0) .z) (qs lx 0 <| qs lx 0 <| qB da 6 rfl 1 (pt cL 0) (by kernel_rfl) <| qe) (by kernel_rfl) ?_
 refine ag ?_
 obtain ⟨ah, dt, hm⟩ := ob hm
 have dF := ((((((da.pk (.t (.t (.t (.t (.t (.t .h))))))).pk (.t (.t .h))).pk (.t (.t .h))).pk (.t (.t (.t (.t (.t .h)))))).pk (.t (.t (.t (.t (.t .h)))))).pk (.t (.t (.t (.t (.t .h)))))).pk (.t (.t (.t (.t (.t (.t .h))))))
 obtain ⟨xD, xE, ni, FJ, tE, rP, xa⟩ := dF.go (.i (.i (.i (.i (.i (.i (.r .e)))))))
 refine aq [] 9 _ Fi (by kernel_rfl) (xJ (F := xD) (O := xE) _ _ _ _ _ _ _ _ _ _ _ _ _ _ _ _ _ _ _ _ _ _ _ _ _ _ _ _ _ _ _ _ _ _ _ _ _ _ (Ro.aY eD dF rP) rfl dQ (Ro.aY dT dF rP) rfl dv (Ro.aY cb dF rP) rfl bU ni _ dt) ?_
 rintro e_ lh ⟨A5, _, c5, A6, _, c6, A7, _, c7, rfl, rfl, rfl, rfl, en⟩
 have eA := xa lh _ _ en (.c (.c (.c (.c (.c (.c .n))))))
 refine ⟨.u64 ah.1, rfl, ?_⟩
 refine bn 2 [] (.n 2 (.u64 (ah.1 / 8)) .z) (qp ((8 : UInt64) ≠ 0) (by show (8 : UInt64) ≠ 0; decide) <| qe) (by kernel_rfl) ?_
 refine af <| aa <| aL ?_
 obtain rfl := Option.some.inj hm
 refine aM [.u64 (ah.1 / 8)] qe (by kernel_rfl) ?_
 exact ⟨A5, ah.2.2.2.2.1.length, c5, A6, ah.2.2.2.2.2.2.2.2.1.length, c6, A7, ah.2.2.2.2.2.2.2.2.2.1.length, c7, eA.len 1 rfl, eA.len 3 rfl, eA.len 4 rfl, rfl, eA⟩
theorem t_ {F O : Nat → Prop} {w : World} (bX : List UInt8) (bk : List UInt8) (aT : List UInt8) (aj : List UInt8) (aZ : Int) (aG : Int) (aO : List UInt8) (bg : List UInt8) (a1 : Bool) (ay : UInt64) (bm : ae UInt64 8) (ak : UInt64) (al : UInt64) (aD : List UInt8) (az : Int) (ga : List UInt8) (cR : UInt64) (b9 : ae UInt8 64) (bz : Int) (lx : Nat) (cU : Option Addr) (cc : Nat) (cV : Nat) (cL : Nat) (cd : Option Addr) (bK : Nat) (cf : Nat) (bQ : Option Addr) (bq : Nat) (bR : Nat) (aQ : Option Addr) (aF : Nat) (aR : Nat) (cz : Nat) (bS : Option Addr) (b_ : Nat) (bT : Nat) (cB : Option Addr) (cN : Nat) (cC : Nat) (bu : Nat) (bE : Option Addr) (bN : Nat) (bF : Nat) (od : Nat) (l3 : Nat) (oe : Nat) (gx : Ro F w cU (e8.all bX)) (gq : bX.length = cc) (fG : cc ≤ cV) (eD : Ro F w cd (e8.all bk)) (fI : bk.length = bK) (dQ : bK ≤ cf) (dT : Ro F w bQ (e8.all aT)) (eY : aT.length = bq) (dv : bq ≤ bR) (cb : Ro F w aQ (e8.all aj)) (cY : aj.length = aF) (bU : aF ≤ aR) (w7 : Ro F w (some ⟨od, 0, none⟩) (e8.all ga)) (u9 : ga.length = l3) (u_ : l3 ≤ oe) (k : Cx F O w w [Bx 54 lx [sl cU cc cV, pt cL 0], Bx 72 cL [I 1, I 64, .u32 4294967295, .u64 274877906944, .b false, sl cd bK cf, sl bQ bq bR, sl aQ aF aR, pt cz 0, sl (some ⟨od, 0, none⟩) l3 oe, .u64 cR, .ar e8 b9, I bz, .v (.func (.func 65) ⟨SV.ad [pt cL 0]⟩ ⟨SV.ad []⟩)], Bx 115 cz [I aZ, I aG, sl bS b_ bT, sl cB cN cC, .b a1, .u64 ay, .v (.iface 126 (SV.val (pt bu 0)))], Ow e8 bS b_ bT aO, Ow e8 cB cN cC bg, Bx 132 bu [.ar cj bm, .u64 ak, .u64 al, sl bE bN bF, I az, .v (.func (.func 73) ⟨SV.ad []⟩ ⟨SV.ad []⟩), .v (.func (.func 74) ⟨SV.ad []⟩ ⟨SV.ad []⟩)], Ow e8 bE bN bF aD]) (r : (ae UInt64 8 × UInt64 × UInt64 × List UInt8 × Int × Int × Int × List UInt8 × List UInt8 × Bool × UInt64 × UInt64 × ae UInt8 64 × Int)) (hm : mg bX bk aT aj aZ aG aO bg a1 ay bm ak al aD az ga cR b9 bz = some r) :
    Calls Try.prog 19 (ad [pt lx 0]) w (fun e w' => ∃ A n c A1 n1 c1 A2 n2 c2, r.2.2.2.1.length = n ∧ r.2.2.2.2.2.2.2.1.length = n1 ∧ r.2.2.2.2.2.2.2.2.1.length = n2 ∧ e = .returned (SV.val (.b false)) ∧ Cx F O w w' [Bx 132 bu [.ar cj r.1, .u64 r.2.1, .u64 r.2.2.1, sl A n c, I r.2.2.2.2.1, .v (.func (.func 73) ⟨SV.ad []⟩ ⟨SV.ad []⟩), .v (.func (.func 74) ⟨SV.ad []⟩ ⟨SV.ad []⟩)], Ow e8 A n c r.2.2.2.1, Bx 115 cz [I r.2.2.2.2.2.1, I r.2.2.2.2.2.2.1, sl A1 n1 c1, sl A2 n2 c2, .b r.2.2.2.2.2.2.2.2.2.1, .u64 r.2.2.2.2.2.2.2.2.2.2.1, .v (.iface 126 (SV.val (pt bu 0)))], Ow e8 A1 n1 c1 r.2.2.2.2.2.2.2.1, Ow e8 A2 n2 c2 r.2.2.2.2.2.2.2.2.1, Bx 72 cL [I 1, I 64, .u32 4294967295, .u64 274877906944, .b false, sl cd bK cf, sl bQ bq bR, sl aQ aF aR, pt cz 0, sl (some ⟨od, 0, none⟩) l3 oe, .u64 r.2.2.2.2.2.2.2.2.2.2.2.1, .ar e8 r.2.2.2.2.2.2.2.2.2.2.2.2.1, I r.2.2.2.2.2.2.2.2.2.2.2.2.2, .v (.func (.func 65) ⟨SV.ad [pt cL 0]⟩ ⟨SV.ad []⟩)], Bx 54 lx [sl cU cc cV, pt cL 0]]) := by
 unfold mg at hm
 subst gq
 subst fI
 subst eY
 subst cY
 obtain rfl := k.len 3 rfl
 obtain rfl := k.len 4 rfl
 obtain rfl := k.len 6 rfl
 subst u9
 refine calls [pt lx 0] Try.func19 rfl (of_decide_eq_true (by kernel_rfl)) ?_
 refine ab <| bA [] .a qe (by kernel_rfl) ?_
 refine aa <| ab <| bA [5] (.n 2 (.b false) .z) (qs lx 0 <| qs lx 0 <| qB k 0 rfl 1 (pt cL 0) (by kernel_rfl) <| qe) (by kernel_rfl) ?_
 refine aa <| aL ?_
 obtain rfl := Option.some.inj hm
 refine aM [.b false] qe (by kernel_rfl) ?_
 have k_ := ((((((k.pk .h).pk (.t .h)).pk (.t (.t (.t (.t .h))))).pk (.t (.t (.t (.t .h))))).pk (.t (.t (.t (.t .h))))).pk (.t (.t (.t (.t (.t (.t .h))))))).pk (.t (.t (.t (.t (.t (.t .h))))))
 exact ⟨bE, aD.length, bF, bS, aO.length, bT, cB, bg.length, cC, k_.len 1 rfl, k_.len 3 rfl, k_.len 4 rfl, rfl, k_⟩
theorem va {F O : Nat → Prop} {w : World} (cE : List UInt8) (bd : List UInt8) (ai : List UInt8) (b6 : Int) (bf : Int) (bo : List UInt8) (cm : List UInt8) (b7 : Bool) (aU : UInt64) (cF : ae UInt64 8) (aw : UInt64) (ax : UInt64) (a7 : List UInt8) (aV : Int) (dY : List UInt8) (ir : UInt64) (ei : ae UInt8 64) (dr : Int) (a6 : Nat) (cG : Option Addr) (di : Nat) (cH : Nat) (bL : Option Addr) (cg : Nat) (bM : Nat) (aH : Option Addr) (aX : Nat) (aI : Nat) (ee : Nat) (cO : Option Addr) (dw : Nat) (cP : Nat) (dW : Option Addr) (eE : Nat) (dX : Nat) (cI : Nat) (cp : Option Addr) (cQ : Nat) (cq : Nat) (gy : Nat) (iR : Nat) (gz : Nat) (jK : Ro F w cG (e8.all cE)) (iN : cE.length = di) (h_ : di ≤ cH) (gw : Ro F w bL (e8.all bd)) (gp : bd.length = cg) (fF : cg ≤ bM) (dE : Ro F w aH (e8.all ai)) (dN : ai.length = aX) (dj : aX ≤ aI) (rK : Ro F w (some ⟨gy, 0, none⟩) (e8.all dY)) (px : dY.length = iR) (py : iR ≤ gz) (k : Cx F O w w [Bx 72 a6 [I 1, I 64, .u32 4294967295, .u64 274877906944, .b false, sl cG di cH, sl bL cg bM, sl aH aX aI, pt ee 0, sl (some ⟨gy, 0, none⟩) iR gz, .u64 ir, .ar e8 ei, I dr, .v (.func (.func 65) ⟨SV.ad [pt a6 0]⟩ ⟨SV.ad []⟩)], Bx 115 ee [I b6, I bf, sl cO dw cP, sl dW eE dX, .b b7, .u64 aU, .v (.iface 126 (SV.val (pt cI 0)))], Ow e8 cO dw cP bo, Ow e8 dW eE dX cm, Bx 132 cI [.ar cj cF, .u64 aw, .u64 ax, sl cp cQ cq, I aV, .v (.func (.func 73) ⟨SV.ad []⟩ ⟨SV.ad []⟩), .v (.func (.func 74) ⟨SV.ad []⟩ ⟨SV.ad []⟩)], Ow e8 cp cQ cq a7]) (r : (UInt64 × ae UInt64 8 × UInt64 × UInt64 × List UInt8 × Int × Int × Int × List UInt8 × List UInt8 × Bool × UInt64 × UInt64 × ae UInt8 64 × Int)) (hm : mK cE bd ai b6 bf bo cm b7 aU cF aw ax a7 aV dY ir ei dr = some r) :
    Calls Try.prog 23 (ad [pt a6 0]) w (fun e w' => ∃ A n c A1 n1 c1 A2 n2 c2, r.2.2.2.2.1.length = n ∧ r.2.2.2.2.2.2.2.2.1.length = n1 ∧ r.2.2.2.2.2.2.2.2.2.1.length = n2 ∧ e = .returned (SV.val (.u64 r.1)) ∧ Cx F O w w' [Bx 132 cI [.ar cj r.2.1, .u64 r.2.2.1, .u64 r.2.2.2.1, sl A n c, I r.2.2.2.2.2.1, .v (.func (.func 73) ⟨SV.ad []⟩ ⟨SV.ad []⟩), .v (.func (.func 74) ⟨SV.ad []⟩ ⟨SV.ad []⟩)], Ow e8 A n c r.2.2.2.2.1, Bx 115 ee [I r.2.2.2.2.2.2.1, I r.2.2.2.2.2.2.2.1, sl A1 n1 c1, sl A2 n2 c2, .b r.2.2.2.2.2.2.2.2.2.2.1, .u64 r.2.2.2.2.2.2.2.2.2.2.2.1, .v (.iface 126 (SV.val (pt cI 0)))], Ow e8 A1 n1 c1 r.2.2.2.2.2.2.2.2.1, Ow e8 A2 n2 c2 r.2.2.2.2.2.2.2.2.2.1, Bx 72 a6 [I 1, I 64, .u32 4294967295, .u64 274877906944, .b false, sl cG di cH, sl bL cg bM, sl aH aX aI, pt ee 0, sl (some ⟨gy, 0, none⟩) iR gz, .u64 r.2.2.2.2.2.2.2.2.2.2.2.2.1, .ar e8 r.2.2.2.2.2.2.2.2.2.2.2.2.2.1, I r.2.2.2.2.2.2.2.2.2.2.2.2.2.2, .v (.func (.func 65) ⟨SV.ad [pt a6 0]⟩ ⟨SV.ad []⟩)]]) := by
 unfold mK at hm
 subst iN
 subst gp
 subst dN
 obtain rfl := k.len 2 rfl
 obtain rfl := k.len 3 rfl
 obtain rfl := k.len 5 rfl
 subst px
 refine calls [pt a6 0] Try.func23 rfl (of_decide_eq_true (by kernel_rfl)) ?_
 refine ab <| bA [] .a qe (by kernel_rfl) ?_
 refine aa <| ab <| ab <| ao <| bn 1 [] (.n 3 (pt a6 0) .a) qe (by kernel_rfl) ?_
 refine ag ?_
 obtain ⟨r_, dk, hm⟩ := ob hm
 obtain ⟨F1, O1, lO, hO, rO, hF, hb⟩ := k.go (.i (.i (.i (.i (.i (.i .e))))))
 refine aq [] 4 _ xw (by kernel_rfl) (o4 (F := F1) (O := O1) _ _ _ _ _ _ _ _ _ _ _ _ _ _ _ _ _ _ _ _ _ _ _ _ _ _ _ _ _ _ _ _ _ _ _ _ _ _ _ _ _ _ (Ro.aY jK k hF) rfl h_ (Ro.aY gw k hF) rfl fF (Ro.aY dE k hF) rfl dj (Ro.aY rK k hF) rfl py lO _ dk) ?_
 rintro e_ w_ ⟨A0, _, c0, A3, _, c3, A4, _, c4, rfl, rfl, rfl, rfl, k_⟩
 have da := hb w_ _ _ k_ (.c (.c (.c (.c (.c (.c .n))))))
 refine ⟨.b false, rfl, ?_⟩
 refine af <| aa <| cw false (by kernel_rfl) (fun h => by cases h) (fun _ => ?_)
 refine aS <| aa <| ab <| bA [] (.n 2 (.u64 r_.2.2.2.2.2.2.2.2.2.2.2.1) .z) (qs a6 0 <| qs a6 0 <| qB da 5 rfl 10 (.u64 r_.2.2.2.2.2.2.2.2.2.2.2.1) (by kernel_rfl) <| qe) (by kernel_rfl) ?_
 refine aa <| aL ?_
 obtain rfl := Option.some.inj hm
 refine aM [.u64 r_.2.2.2.2.2.2.2.2.2.2.2.1] qe (by kernel_rfl) ?_
 exact ⟨A0, r_.2.2.2.1.length, c0, A3, r_.2.2.2.2.2.2.2.1.length, c3, A4, r_.2.2.2.2.2.2.2.2.1.length, c4, da.len 1 rfl, da.len 3 rfl, da.len 4 rfl, rfl, da⟩
theorem fP {F O : Nat → Prop} {w : World} (bX : List UInt8) (bk : List UInt8) (aT : List UInt8) (aj : List UInt8) (aZ : Int) (aG : Int) (aO : List UInt8) (bg : List UInt8) (a1 : Bool) (ay : UInt64) (bm : ae UInt64 8) (ak : UInt64) (al : UInt64) (aD : List UInt8) (az : Int) (ga : List UInt8) (cR : UInt64) (b9 : ae UInt8 64) (bz : Int) (lx : Nat) (cU : Option Addr) (cc : Nat) (cV : Nat) (cL : Nat) (cd : Option Addr) (bK : Nat) (cf : Nat) (bQ : Option Addr) (bq : Nat) (bR : Nat) (aQ : Option Addr) (aF : Nat) (aR : Nat) (cz : Nat) (bS : Option Addr) (b_ : Nat) (bT : Nat) (cB : Option Addr) (cN : Nat) (cC : Nat) (bu : Nat) (bE : Option Addr) (bN : Nat) (bF : Nat) (od : Nat) (l3 : Nat) (oe : Nat) (gx : Ro F w cU (e8.all bX)) (gq : bX.length = cc) (fG : cc ≤ cV) (eD : Ro F w cd (e8.all bk)) (fI : bk.length = bK) (dQ : bK ≤ cf) (dT : Ro F w bQ (e8.all aT)) (eY : aT.length = bq) (dv : bq ≤ bR) (cb : Ro F w aQ (e8.all aj)) (cY : aj.length = aF) (bU : aF ≤ aR) (w7 : Ro F w (some ⟨od, 0, none⟩) (e8.all ga)) (u9 : ga.length = l3) (u_ : l3 ≤ oe) (k : Cx F O w w [Bx 54 lx [sl cU cc cV, pt cL 0], Bx 72 cL [I 1, I 64, .u32 4294967295, .u64 274877906944, .b false, sl cd bK cf, sl bQ bq bR, sl aQ aF aR, pt cz 0, sl (some ⟨od, 0, none⟩) l3 oe, .u64 cR, .ar e8 b9, I bz, .v (.func (.func 65) ⟨SV.ad [pt cL 0]⟩ ⟨SV.ad []⟩)], Bx 115 cz [I aZ, I aG, sl bS b_ bT, sl cB cN cC, .b a1, .u64 ay, .v (.iface 126 (SV.val (pt bu 0)))], Ow e8 bS b_ bT aO, Ow e8 cB cN cC bg, Bx 132 bu [.ar cj bm, .u64 ak, .u64 al, sl bE bN bF, I az, .v (.func (.func 73) ⟨SV.ad []⟩ ⟨SV.ad []⟩), .v (.func (.func 74) ⟨SV.ad []⟩ ⟨SV.ad []⟩)], Ow e8 bE bN bF aD]) (r : (UInt64 × ae UInt64 8 × UInt64 × UInt64 × List UInt8 × Int × Int × Int × List UInt8 × List UInt8 × Bool × UInt64 × UInt64 × ae UInt8 64 × Int)) (hm : ec bX bk aT aj aZ aG aO bg a1 ay bm ak al aD az ga cR b9 bz = some r) :
    Calls Try.prog 13 (ad [pt lx 0]) w (fun e w' => ∃ A n c A1 n1 c1 A2 n2 c2, r.2.2.2.2.1.length = n ∧ r.2.2.2.2.2.2.2.2.1.length = n1 ∧ r.2.2.2.2.2.2.2.2.2.1.length = n2 ∧ e = .returned (SV.val (.u64 r.1)) ∧ Cx F O w w' [Bx 132 bu [.ar cj r.2.1, .u64 r.2.2.1, .u64 r.2.2.2.1, sl A n c, I r.2.2.2.2.2.1, .v (.func (.func 73) ⟨SV.ad []⟩ ⟨SV.ad []⟩), .v (.func (.func 74) ⟨SV.ad []⟩ ⟨SV.ad []⟩)], Ow e8 A n c r.2.2.2.2.1, Bx 115 cz [I r.2.2.2.2.2.2.1, I r.2.2.2.2.2.2.2.1, sl A1 n1 c1, sl A2 n2 c2, .b r.2.2.2.2.2.2.2.2.2.2.1, .u64 r.2.2.2.2.2.2.2.2.2.2.2.1, .v (.iface 126 (SV.val (pt bu 0)))], Ow e8 A1 n1 c1 r.2.2.2.2.2.2.2.2.1, Ow e8 A2 n2 c2 r.2.2.2.2.2.2.2.2.2.1, Bx 72 cL [I 1, I 64, .u32 4294967295, .u64 274877906944, .b false, sl cd bK cf, sl bQ bq bR, sl aQ aF aR, pt cz 0, sl (some ⟨od, 0, none⟩) l3 oe, .u64 r.2.2.2.2.2.2.2.2.2.2.2.2.1, .ar e8 r.2.2.2.2.2.2.2.2.2.2.2.2.2.1, I r.2.2.2.2.2.2.2.2.2.2.2.2.2.2, .v (.func (.func 65) ⟨SV.ad [pt cL 0]⟩ ⟨SV.ad []⟩)], Bx 54 lx [sl cU cc cV, pt cL 0]]) := by
 unfold ec at hm
 subst gq
 subst fI
 subst eY
 subst cY
 obtain rfl := k.len 3 rfl
 obtain rfl := k.len 4 rfl
 obtain rfl := k.len 6 rfl
 subst u9
 refine calls [pt lx 0] Try.func13 rfl (of_decide_eq_true (by kernel_rfl)) ?_
 refine ab <| bA [] .a qe (by kernel_rfl) ?_
 refine aa <| ab <| ab <| ao <| bn 1 [] (.n 3 (pt lx 0) .a) qe (by kernel_rfl) ?_
 refine ag ?_
 obtain ⟨r_, dk, hm⟩ := ob hm
 obtain ⟨F1, O1, lO, hO, rO, hF, hb⟩ := k.go (.i (.i (.i (.i (.i (.i (.i .e)))))))
 refine aq [] 4 _ vp (by kernel_rfl) (t_ (F := F1) (O := O1) _ _ _ _ _ _ _ _ _ _ _ _ _ _ _ _ _ _ _ _ _ _ _ _ _ _ _ _ _ _ _ _ _ _ _ _ _ _ _ _ _ _ _ _ _ _ _ (Ro.aY gx k hF) rfl fG (Ro.aY eD k hF) rfl dQ (Ro.aY dT k hF) rfl dv (Ro.aY cb k hF) rfl bU (Ro.aY w7 k hF) rfl u_ lO _ dk) ?_
 rintro e_ w_ ⟨A0, _, c0, A3, _, c3, A4, _, c4, rfl, rfl, rfl, rfl, k_⟩
 have da := hb w_ _ _ k_ (.c (.c (.c (.c (.c (.c (.c .n)))))))
 refine ⟨.b false, rfl, ?_⟩
 refine af <| aa <| cw false (by kernel_rfl) (fun h => by cases h) (fun _ => ?_)
 refine aS <| aa <| ab <| ao <| bn 4 [] (.n 8 (pt cL 0) .z) (qs lx 0 <| qs lx 0 <| qB da 6 rfl 1 (pt cL 0) (by kernel_rfl) <| qe) (by kernel_rfl) ?_
 refine ag ?_
 obtain ⟨ah, dt, hm⟩ := ob hm
 have dF := ((((((da.pk (.t (.t (.t (.t (.t (.t .h))))))).pk (.t (.t .h))).pk (.t (.t .h))).pk (.t (.t (.t (.t (.t .h)))))).pk (.t (.t (.t (.t (.t .h)))))).pk (.t (.t (.t (.t (.t .h)))))).pk (.t (.t (.t (.t (.t (.t .h))))))
 obtain ⟨xD, xE, ni, FJ, tE, rP, xa⟩ := dF.go (.i (.i (.i (.i (.i (.i (.r .e)))))))
 refine aq [] 9 _ Fi (by kernel_rfl) (va (F := xD) (O := xE) _ _ _ _ _ _ _ _ _ _ _ _ _ _ _ _ _ _ _ _ _ _ _ _ _ _ _ _ _ _ _ _ _ _ _ _ _ _ _ _ _ _ (Ro.aY eD dF rP) rfl dQ (Ro.aY dT dF rP) rfl dv (Ro.aY cb dF rP) rfl bU (Ro.aY w7 dF rP) rfl u_ ni _ dt) ?_
 rintro e_ lh ⟨A5, _, c5, A6, _, c6, A7, _, c7, rfl, rfl, rfl, rfl, en⟩
 have eA := xa lh _ _ en (.c (.c (.c (.c (.c (.c .n))))))
 refine ⟨.u64 ah.1, rfl, ?_⟩
 refine bn 2 [] (.n 2 (.u64 (ah.1 / 8)) .z) (qp ((8 : UInt64) ≠ 0) (by show (8 : UInt64) ≠ 0; decide) <| qe) (by kernel_rfl) ?_
 refine af <| aa <| aL ?_
 obtain rfl := Option.some.inj hm
 refine aM [.u64 (ah.1 / 8)] qe (by kernel_rfl) ?_
 exact ⟨A5, ah.2.2.2.2.1.length, c5, A6, ah.2.2.2.2.2.2.2.2.1.length, c6, A7, ah.2.2.2.2.2.2.2.2.2.1.length, c7, eA.len 1 rfl, eA.len 3 rfl, eA.len 4 rfl, rfl, eA⟩
end Go.Sx
namespace Go.Sx
open Go.RowKit Go.Proofs
set_option linter.unusedVariables false
set_option linter.unusedSimpArgs false
set_option maxRecDepth 20000
theorem vY {F O : Nat → Prop} {w : World} (fk : ae UInt8 8) (l : List UInt64) (Jd : Option Addr) (Sg : Nat) (Je : Nat) (EI : Ro F w Jd (eF.all l)) (Si : l.length = Sg) (Sj : Sg ≤ Je) (k : Cx F O w w []) (r : Bool) (hm : lq fk l = some r) :
    Calls Try.prog 4 (ad [.agg [.ar e8 fk], sl Jd Sg Je]) w (fun e w' => e = .returned (SV.val (.b r)) ∧ Cx F O w w' []) := by
 unfold lq at hm
 subst Si
 refine calls [.agg [.ar e8 fk], sl Jd l.length Je] Try.func4 rfl (of_decide_eq_true (by kernel_rfl)) ?_
 refine ab <| ao <| ag <| gj [] 2 (.agg [.ar e8 fk]) [.ar e8 fk] (by kernel_rfl) k ?_
 intro g w_ k_
 refine bn 1 [] (.k (.s .a)) qe (by kernel_rfl) ?_
 refine af <| aa <| ab <| ab <| ao <| ag ?_
 obtain ⟨r_, dk, hm⟩ := ob hm
 refine aq [] 14 _ JL (by kernel_rfl) (AR (F := N0) (O := N0)  (Cx.refl _) _ dk) ?_
 rintro e_ lh ⟨rfl, da⟩
 have dF := k_.call da
 refine ⟨.b r_, rfl, ?_⟩
 refine bn 1 [] (.n 15 (.b (!r_)) (.s .a)) qe (by kernel_rfl) ?_
 refine af <| aa <| cw (!r_) (by kernel_rfl) (fun hc => ?_) (fun hc => ?_)
 · rw [if_pos hc] at hm
   refine ab <| bA [] (.n 4 (.b false) .z) qe (by kernel_rfl) ?_
   refine aa <| aL (bI ?_)
   obtain rfl := Option.some.inj hm
   refine aM [.b false] qe (by kernel_rfl) ?_
   have en := dF.ck .z
   exact ⟨rfl, en⟩
 rw [if_neg (by rw [hc]; decide)] at hm
 refine aS <| aa <| ab <| ao <| bn 1 [] (.n 17 (sl (some ⟨g, 0, none⟩) 8 8) (.ss .a)) (qo (.v (.slice (some ⟨g, 0, none⟩) 8 8)) <| qp (((some ⟨g, 0, none⟩) : Option Addr).isSome = true ∧ Value.slice (sA (some ⟨g, 0, none⟩) 0 8 1) (8 - 0) (8 - 0) = .slice (some ⟨g, 0, none⟩) 8 8) ⟨rfl, ur _ _ _ _ _ rfl⟩ <| qe) (by kernel_rfl) ?_
 refine ag ?_
 obtain ⟨ah, dt, hm⟩ := ob hm
 refine aq [] 18 _ Fg (by kernel_rfl) (xC (F := N0) (O := N0) _ _ _ _ (Ro.n0 (Rd.vec (dF.uq 0 rfl) (c := eG.all e8 fk.l) (off := 0) (by kernel_rfl))) fk.h (Nat.le_refl _) (Cx.refl _) _ dt) ?_
 rcases ah with bh | cD
 · simp only [Sum.elim_inl, Sum.elim_inr] at hm
   rintro e_ l4 ⟨rfl, eA⟩
   have fJ := dF.call eA
   refine ⟨.eO [.v (.pointer none), I bh], rfl, ?_⟩
   have gi := fJ.ck .z
   refine bn 5 [] (.n 5 (.v (.pointer none)) (.n 6 (I bh) (.ss .a))) qe (by kernel_rfl) ?_
   refine af <| aa <| ab <| ab <| bA [23] (.n 26 (.b true) (.k (.s .a))) qe (by kernel_rfl) ?_
   refine aa <| cw true (by kernel_rfl) (fun _ => ?_) (fun h => by cases h)
   refine ab <| bA [] (.n 4 (.b false) .z) qe (by kernel_rfl) ?_
   refine aa <| aL (bI ?_)
   obtain rfl := Option.some.inj hm
   refine aM [.b false] qe (by kernel_rfl) ?_
   exact ⟨rfl, gi⟩
 · simp only [Sum.elim_inl, Sum.elim_inr] at hm
   rintro e_ qf ⟨g1, A, _, c, g2, A1, _, c1, A2, _, c2, A3, _, c3, g3, A4, _, c4, A5, _, c5, g4, A6, _, c6, rfl, rfl, rfl, rfl, rfl, rfl, rfl, rfl, fY⟩
   have fZ := dF.call fY
   refine ⟨.eO [pt g1 0, I 0], rfl, ?_⟩
   have gY := fZ.ck (.s (.aP (.aP (.kk (.k .e)))))
   refine bn 5 [] (.n 5 (pt g1 0) (.n 6 (I 0) (.ss .a))) qe (by kernel_rfl) ?_
   refine af <| aa <| ab <| ab <| bA [23] (.n 26 (.b false) (.k (.s .a))) qe (by kernel_rfl) ?_
   refine aa <| cw false (by kernel_rfl) (fun h => by cases h) (fun _ => ?_)
   refine aS <| aa <| ab <| ao <| bn 2 [] (.n 28 (pt g1 0) (.n 29 (sl Jd l.length Je) (.s .a))) qe (by kernel_rfl) ?_
   refine ag ?_
   obtain ⟨fi, uX, hm⟩ := ob hm
   obtain ⟨F1, O1, lO, hO, rO, hF, hb⟩ := gY.go (.i (.r (.i (.r (.r (.r (.i (.i (.i (.i (.i .e)))))))))))
   refine aq [] 30 _ Fh (by kernel_rfl) (rL (F := F1) (O := O1) _ _ _ _ _ _ _ _ _ _ _ _ _ _ _ _ _ _ _ _ _ _ _ _ _ _ _ _ _ _ _ _ _ _ _ _ _ _ _ _ _ _ _ _ _ _ _ (Ro.de lO.off rO 0 rfl) (gY.b8 1 rfl) (gY.cZ 1 rfl) (Ro.de lO.off rO 1 rfl) (gY.b8 3 rfl) (gY.cZ 3 rfl) (Ro.de lO.off rO 2 rfl) (gY.b8 4 rfl) (gY.cZ 4 rfl) (Ro.de lO.off rO 3 rfl) (gY.b8 5 rfl) (gY.cZ 5 rfl) (Ro.aY EI gY hF) rfl Sj lO _ uX) ?_
   rcases fi with bH | cW
   · simp only [Sum.elim_inl, Sum.elim_inr] at hm
     rintro e_ p7 ⟨A7, _, c7, A8, _, c8, A9, _, c9, rfl, rfl, rfl, rfl, dK⟩
     have c_ := hb p7 _ _ dK (.c (.c (.c (.c (.c (.c (.c .n)))))))
     refine ⟨.eO [I 0, I bH.1], rfl, ?_⟩
     refine bn 5 [] (.n 7 (I 0) (.n 8 (I bH.1) (.lj .a))) qe (by kernel_rfl) ?_
     refine af <| aa <| ab <| ab <| bA [] (.n 35 (.b (decide (4096 < ((l.length : Nat) : Int)))) .a) qe (by kernel_rfl) ?_
     refine aa <| bb (4096 < ((l.length : Nat) : Int)) (by kernel_rfl) (fun kr => ?_) (fun kr => ?_)
     · rw [if_pos kr] at hm
       refine ab <| bA [] (.n 4 (.b ((decide (bH.1 = 2)) && true)) .z) qe (by kernel_rfl) ?_
       refine aa <| aL (bI ?_)
       obtain rfl := Option.some.inj hm
       refine aM [.b ((decide (bH.1 = 2)) && true)] qe (by kernel_rfl) ?_
       have ez := c_.ck .z
       exact ⟨rfl, ez⟩
     rw [if_neg kr] at hm
     refine aS <| aa <| ab <| bA [] (.n 9 (.b false) (.s .a)) qe (by kernel_rfl) ?_
     refine aa <| ab <| bA [] (.n 10 (.b false) .a) qe (by kernel_rfl) ?_
     refine aa <| ab <| bA [] (.n 11 (.v (.float .f64 0)) .a) qe (by kernel_rfl) ?_
     refine aa <| ab <| ab <| bA [] (.n 42 (sl Jd l.length Je) (.n 43 (I ((l.length : Nat) : Int)) (.n 44 (I 0) .a))) qe (by kernel_rfl) ?_
     refine aa <| cu ?_
     have eX := ((((((((((c_.pk (.t .h)).pk (.t .h)).pk (.t (.t (.t (.t .h))))).pk (.t (.t (.t (.t .h))))).pk (.t (.t (.t (.t .h))))).pk (.t (.t (.t (.t (.t (.t (.t (.t (.t (.t .h))))))))))).pk (.t (.t (.t (.t (.t (.t (.t (.t (.t (.t .h))))))))))).pk (.t (.t (.t (.t (.t (.t (.t (.t (.t (.t .h))))))))))).pk (.t (.t (.t (.t (.t (.t (.t (.t .h))))))))).pk (.t (.t (.t (.t (.t (.t (.t (.t (.t (.t .h))))))))))).pk (.t (.t (.t (.t (.t (.t (.t (.t (.t (.t .h))))))))))
     refine pc (dz l cD bH) (fun s L wr => ∃ (some_ : Bool) (inf : Bool) (sum : Nat) (aC : Int) (fb : Nat), (some_, inf, sum, aC) = s ∧ L = [(1, sl Jd l.length Je), (5, pt g1 0), (7, I 0), (8, I bH.1), (9, .b some_), (10, .b inf), (11, .v (.float .f64 fb)), (42, sl Jd l.length Je), (43, I ((l.length : Nat) : Int)), (44, I aC)] ∧ Fl sum fb ∧ Cx F O w wr [Bx 54 g1 [sl A cD.1.length c, pt g2 0], Sh (SH e8) [(A, cD.1.length, c)] [cD.1], Bx 72 g2 [I 1, I 64, .u32 4294967295, .u64 274877906944, .b false, sl A1 cD.2.1.length c1, sl A2 cD.2.2.1.length c2, sl A3 cD.2.2.2.1.length c3, pt g3 0, sl none 0 0, .u64 bH.2.2.2.2.2.2.2.2.2.2.2.2.1, .ar e8 bH.2.2.2.2.2.2.2.2.2.2.2.2.2.1, I bH.2.2.2.2.2.2.2.2.2.2.2.2.2.2, .v (.func (.func 40) ⟨SV.ad [pt g2 0]⟩ ⟨SV.ad []⟩)], Sh (SH e8) [(A1, cD.2.1.length, c1)] [cD.2.1], Sh (SH e8) [(A2, cD.2.2.1.length, c2)] [cD.2.2.1], Sh (SH e8) [(A3, cD.2.2.2.1.length, c3)] [cD.2.2.2.1], Bx 115 g3 [I bH.2.2.2.2.2.2.1, I bH.2.2.2.2.2.2.2.1, sl A8 bH.2.2.2.2.2.2.2.2.1.length c8, sl A9 bH.2.2.2.2.2.2.2.2.2.1.length c9, .b bH.2.2.2.2.2.2.2.2.2.2.1, .u64 bH.2.2.2.2.2.2.2.2.2.2.2.1, .v (.iface 126 (SV.val (pt g4 0)))], Ow e8 A8 bH.2.2.2.2.2.2.2.2.1.length c8 bH.2.2.2.2.2.2.2.2.1, Ow e8 A9 bH.2.2.2.2.2.2.2.2.2.1.length c9 bH.2.2.2.2.2.2.2.2.2.1, Bx 132 g4 [.ar cj bH.2.1, .u64 bH.2.2.1, .u64 bH.2.2.2.1, sl A7 bH.2.2.2.2.1.length c7, I bH.2.2.2.2.2.1, .v (.func (.func 73) ⟨SV.ad []⟩ ⟨SV.ad []⟩), .v (.func (.func 74) ⟨SV.ad []⟩ ⟨SV.ad []⟩)], Ow e8 A7 bH.2.2.2.2.1.length c7 bH.2.2.2.2.1]) (false, false, 0, (0 : Int)) r hm ⟨false, false, 0, (0 : Int), 0, rfl, rfl, (Fl.lit (c := 0) (by kernel_rfl)), eX⟩ (by kernel_rfl) ?_
     intro yU L_ sV y0 jd dd nF
     obtain ⟨some_, inf, sum, aC, fb, rfl, rfl, yL, dH⟩ := jd
     have hm := dd; simp only [dz] at hm
     clear dd
     refine ab <| bA [] (.n 45 (.b (decide (aC < ((l.length : Nat) : Int)))) .a) qe (by kernel_rfl) ?_
     refine aa <| ab <| bb (aC < ((l.length : Nat) : Int)) (by kernel_rfl) (fun pf => ?_) (fun pf => ?_)
     · rw [if_pos pf] at hm
       refine aS <| aa <| ab <| cu <| ab ?_
       obtain ⟨eL, jC, hm⟩ := ob hm
       refine bA [] (.n 13 (.v (.float .f64 eL.toNat)) (.s .a)) (qW (EI.cx dH) jC rfl (.v (.float .f64 eL.toNat)) rfl <| qe) (by kernel_rfl) ?_
       refine aa <| ab <| ab <| ao <| bn 2 [] (.n 48 (.v (.float .f64 eL.toNat)) (.n 49 (.v (.float .f64 eL.toNat)) .a)) qe (by kernel_rfl) ?_
       refine ag <| gG [] 50 (u := eL.toNat) (v := eL.toNat) (by kernel_rfl) (.inr (.inl rfl)) (Fl.u eL) (Fl.u eL) ?_
       refine bn 1 [] (.n 51 (.b (cv .neq (bW eL.toNat) (bW eL.toNat))) (.lj .a)) qe (by kernel_rfl) ?_
       refine my 51 (cv .neq (bW eL.toNat) (bW eL.toNat)) (.s .a) (by kernel_rfl) (fun hg => ?_) (fun hg => ?_)
       · rw [if_pos hg] at hm
         refine bn 3 [51] (.n 54 (.b true) (.s .a)) qe (by kernel_rfl) ?_
         refine af <| aa <| cw true (by kernel_rfl) (fun _ => ?_) (fun h => by cases h)
         refine ab <| ao <| bn 7 [] (.n 61 (.b ((decide (bH.1 = 250)) && true)) (.lj (.k .z))) qe (by kernel_rfl) ?_
         refine my 61 ((decide (bH.1 = 250)) && true) (.s .a) (by kernel_rfl) (fun MR => ?_) (fun MR => ?_)
         · rw [if_pos MR] at hm
           refine bn 1 [61] (.n 62 (pt g1 0) (.k .z)) qe (by kernel_rfl) ?_
           refine ag ?_
           obtain ⟨rY, Dk, hm⟩ := ob hm
           obtain ⟨xD, xE, ni, FJ, tE, rP, xa⟩ := dH.go (.i (.r (.i (.r (.r (.r (.i (.i (.i (.i (.i .e)))))))))))
           refine aq [61] 63 _ lr (by kernel_rfl) (ie (F := xD) (O := xE) _ _ _ _ _ _ _ _ _ _ _ _ _ _ _ _ _ _ _ _ _ _ _ _ _ _ _ _ _ _ _ _ _ _ _ _ _ _ _ _ _ _ _ (Ro.de ni.off tE 0 rfl) (dH.b8 1 rfl) (dH.cZ 1 rfl) (Ro.de ni.off tE 1 rfl) (dH.b8 3 rfl) (dH.cZ 3 rfl) (Ro.de ni.off tE 2 rfl) (dH.b8 4 rfl) (dH.cZ 4 rfl) (Ro.de ni.off tE 3 rfl) (dH.b8 5 rfl) (dH.cZ 5 rfl) ni _ Dk) ?_
           rintro e_ wi ⟨wR, _, sW, yX, _, ue, AN, _, xB, rfl, rfl, rfl, rfl, iu⟩
           have fX := xa wi _ _ iu (.c (.c (.c (.c (.c (.c (.c .n)))))))
           refine ⟨.u64 rY.1, rfl, ?_⟩
           have jY := fX.ck .z
           refine bn 3 [61] (.n 4 (.b (decide (rY.1 = 0))) .z) qe (by kernel_rfl) ?_
           refine af <| aa <| aL (bI (gh (bI (bI (gh (bI ?_))))))
           have hm := d_ hm nF
           obtain rfl := Option.some.inj hm
           refine aM [.b (decide (rY.1 = 0))] qe (by kernel_rfl) ?_
           exact ⟨rfl, jY⟩
         · rw [if_neg (by rw [MR]; decide)] at hm
           refine bn 5 [61] (.n 4 (.b false) .z) qe (by kernel_rfl) ?_
           refine af <| aa <| aL (bI (gh (bI (bI (gh (bI ?_))))))
           have hm := d_ hm nF
           obtain rfl := Option.some.inj hm
           refine aM [.b false] qe (by kernel_rfl) ?_
           have iK := dH.ck .z
           exact ⟨rfl, iK⟩
       · rw [if_neg (by rw [hg]; decide)] at hm
         refine bn 1 [51] (.n 52 (.v (.float .f64 eL.toNat)) .a) qe (by kernel_rfl) ?_
         refine ag <| gG [51] 53 (u := eL.toNat) (v := 0) (by kernel_rfl) (.inr (.inr (.inl rfl))) (Fl.u eL) (Fl.lit (c := 0) (by kernel_rfl)) ?_
         refine bn 1 [51] (.n 54 (.b (cv .lss (bW eL.toNat) 0)) (.lj .a)) qe (by kernel_rfl) ?_
         refine af <| aa <| cw (cv .lss (bW eL.toNat) 0) (by kernel_rfl) (fun ub => ?_) (fun ub => ?_)
         · rw [if_pos ub] at hm
           refine ab <| ao <| bn 7 [] (.n 61 (.b ((decide (bH.1 = 250)) && true)) (.lj (.k .z))) qe (by kernel_rfl) ?_
           refine my 61 ((decide (bH.1 = 250)) && true) (.s .a) (by kernel_rfl) (fun MS => ?_) (fun MS => ?_)
           · rw [if_pos MS] at hm
             refine bn 1 [61] (.n 62 (pt g1 0) (.k .z)) qe (by kernel_rfl) ?_
             refine ag ?_
             obtain ⟨E8, HX, hm⟩ := ob hm
             obtain ⟨H_, Ia, wT, Pu, Cy, Ag, D2⟩ := dH.go (.i (.r (.i (.r (.r (.r (.i (.i (.i (.i (.i .e)))))))))))
             refine aq [61] 63 _ lr (by kernel_rfl) (ie (F := H_) (O := Ia) _ _ _ _ _ _ _ _ _ _ _ _ _ _ _ _ _ _ _ _ _ _ _ _ _ _ _ _ _ _ _ _ _ _ _ _ _ _ _ _ _ _ _ (Ro.de wT.off Cy 0 rfl) (dH.b8 1 rfl) (dH.cZ 1 rfl) (Ro.de wT.off Cy 1 rfl) (dH.b8 3 rfl) (dH.cZ 3 rfl) (Ro.de wT.off Cy 2 rfl) (dH.b8 4 rfl) (dH.cZ 4 rfl) (Ro.de wT.off Cy 3 rfl) (dH.b8 5 rfl) (dH.cZ 5 rfl) wT _ HX) ?_
             rintro e_ vO ⟨HZ, _, AO, Q_, _, MV, KB, _, Ra, rfl, rfl, rfl, rfl, kt⟩
             have kg := D2 vO _ _ kt (.c (.c (.c (.c (.c (.c (.c .n)))))))
             refine ⟨.u64 E8.1, rfl, ?_⟩
             have lW := kg.ck .z
             refine bn 3 [61] (.n 4 (.b (decide (E8.1 = 0))) .z) qe (by kernel_rfl) ?_
             refine af <| aa <| aL (bI (gh (bI (bI (gh (bI ?_))))))
             have hm := d_ hm nF
             obtain rfl := Option.some.inj hm
             refine aM [.b (decide (E8.1 = 0))] qe (by kernel_rfl) ?_
             exact ⟨rfl, lW⟩
           · rw [if_neg (by rw [MS]; decide)] at hm
             refine bn 5 [61] (.n 4 (.b false) .z) qe (by kernel_rfl) ?_
             refine af <| aa <| aL (bI (gh (bI (bI (gh (bI ?_))))))
             have hm := d_ hm nF
             obtain rfl := Option.some.inj hm
             refine aM [.b false] qe (by kernel_rfl) ?_
             have mh := dH.ck .z
             exact ⟨rfl, mh⟩
         rw [if_neg (by rw [ub]; decide)] at hm
         refine aS <| aa <| ab <| ao <| bn 2 [] (.n 67 (.b some_) (.s .a)) qe (by kernel_rfl) ?_
         refine my 67 some_ (.s .a) (by kernel_rfl) (fun Sk => ?_) (fun Sk => ?_)
         · rw [if_pos Sk] at hm
           refine bn 4 [67] (.n 9 (.b true) (.s (.aP (.k (.s .a))))) qe (by kernel_rfl) ?_
           refine af <| aa <| ab <| ao <| bn 2 [] (.n 72 (.b inf) .a) qe (by kernel_rfl) ?_
           refine my 72 inf (.s .a) (by kernel_rfl) (fun Sm => ?_) (fun Sm => ?_)
           · rw [if_pos Sm] at hm
             refine bn 6 [72] (.n 10 (.b true) (.s (.aP (.kk (.s .a))))) qe (by kernel_rfl) ?_
             refine af <| aa <| ao <| bn 2 [] (.n 78 (.v (.float .f64 fb)) (.n 79 (.v (.float .f64 eL.toNat)) (.kk (.s .a)))) qe (by kernel_rfl) ?_
             refine ag <| ki [] 80 (u := fb) (v := eL.toNat) (by kernel_rfl) (.inl rfl) yL (Fl.u eL) dH ?_
             intro GM Av H6 mo
             refine bn 1 [] (.n 11 (.v (.float .f64 GM)) (.lj (.aP (.kk (.s .a))))) qe (by kernel_rfl) ?_
             refine af <| hH <| aa <| bA [] (.n 44 (I (aB (aC + 1))) (.aP (.aP (.k .z)))) qe (by kernel_rfl) ?_
             exact jR (true, true, jO .add sum (bW eL.toNat), aB (aC + 1)) (Option.some.inj hm).symm ⟨true, true, jO .add sum (bW eL.toNat), aB (aC + 1), GM, rfl, rfl, H6, mo⟩ (by kernel_rfl)
           · rw [if_neg (by rw [Sm]; decide)] at hm
             refine bn 2 [72] (.n 73 (.v (.float .f64 eL.toNat)) (.n 74 (.v (.float .f64 eL.toNat)) .a)) qe (by kernel_rfl) ?_
             refine ag <| ki [72] 75 (u := eL.toNat) (v := eL.toNat) (by kernel_rfl) (.inr (.inl rfl)) (Fl.u eL) (Fl.u eL) dH ?_
             intro Ja De H2 lX
             refine ag <| gG [72] 76 (u := Ja) (v := 0) (by kernel_rfl) (.inr (.inl rfl)) H2 (Fl.lit (c := 0) (by kernel_rfl)) ?_
             refine bn 2 [72] (.n 10 (.b (cv .neq (jO .sub (bW eL.toNat) (bW eL.toNat)) 0)) (.fQ (.s (.aP (.kk (.s .a)))))) qe (by kernel_rfl) ?_
             refine af <| aa <| ao <| bn 2 [] (.n 78 (.v (.float .f64 fb)) (.n 79 (.v (.float .f64 eL.toNat)) (.kk (.s .a)))) qe (by kernel_rfl) ?_
             refine ag ?_
             have qZ := lX.ck (.aP (.aP (.kk (.k .e))))
             refine ki [] 80 (u := fb) (v := eL.toNat) (by kernel_rfl) (.inl rfl) yL (Fl.u eL) qZ ?_
             intro H4 z6 H5 rT
             refine bn 1 [] (.n 11 (.v (.float .f64 H4)) (.lj (.aP (.kk (.s .a))))) qe (by kernel_rfl) ?_
             refine af <| hH <| aa <| bA [] (.n 44 (I (aB (aC + 1))) (.aP (.aP (.k .z)))) qe (by kernel_rfl) ?_
             exact jR (true, cv .neq (jO .sub (bW eL.toNat) (bW eL.toNat)) 0, jO .add sum (bW eL.toNat), aB (aC + 1)) (Option.some.inj hm).symm ⟨true, cv .neq (jO .sub (bW eL.toNat) (bW eL.toNat)) 0, jO .add sum (bW eL.toNat), aB (aC + 1), H4, rfl, rfl, H5, rT⟩ (by kernel_rfl)
         · rw [if_neg (by rw [Sk]; decide)] at hm
           refine bn 1 [67] (.n 68 (.v (.float .f64 eL.toNat)) .a) qe (by kernel_rfl) ?_
           refine ag <| gG [67] 69 (u := eL.toNat) (v := 0) (by kernel_rfl) (.inr (.inr (.inr (.inr (.inl rfl))))) (Fl.u eL) (Fl.lit (c := 0) (by kernel_rfl)) ?_
           refine bn 2 [67] (.n 9 (.b (cv .gtr (bW eL.toNat) 0)) (.lj (.aP (.k (.s .a))))) qe (by kernel_rfl) ?_
           refine af <| aa <| ab <| ao <| bn 2 [] (.n 72 (.b inf) .a) qe (by kernel_rfl) ?_
           refine my 72 inf (.s .a) (by kernel_rfl) (fun Sn => ?_) (fun Sn => ?_)
           · rw [if_pos Sn] at hm
             refine bn 6 [72] (.n 10 (.b true) (.s (.aP (.kk (.s .a))))) qe (by kernel_rfl) ?_
             refine af <| aa <| ao <| bn 2 [] (.n 78 (.v (.float .f64 fb)) (.n 79 (.v (.float .f64 eL.toNat)) (.kk (.s .a)))) qe (by kernel_rfl) ?_
             refine ag <| ki [] 80 (u := fb) (v := eL.toNat) (by kernel_rfl) (.inl rfl) yL (Fl.u eL) dH ?_
             intro MY Ch M3 vP
             refine bn 1 [] (.n 11 (.v (.float .f64 MY)) (.lj (.aP (.kk (.s .a))))) qe (by kernel_rfl) ?_
             refine af <| hH <| aa <| bA [] (.n 44 (I (aB (aC + 1))) (.aP (.aP (.k .z)))) qe (by kernel_rfl) ?_
             exact jR (cv .gtr (bW eL.toNat) 0, true, jO .add sum (bW eL.toNat), aB (aC + 1)) (Option.some.inj hm).symm ⟨cv .gtr (bW eL.toNat) 0, true, jO .add sum (bW eL.toNat), aB (aC + 1), MY, rfl, rfl, M3, vP⟩ (by kernel_rfl)
           · rw [if_neg (by rw [Sn]; decide)] at hm
             refine bn 2 [72] (.n 73 (.v (.float .f64 eL.toNat)) (.n 74 (.v (.float .f64 eL.toNat)) .a)) qe (by kernel_rfl) ?_
             refine ag <| ki [72] 75 (u := eL.toNat) (v := eL.toNat) (by kernel_rfl) (.inr (.inl rfl)) (Fl.u eL) (Fl.u eL) dH ?_
             intro M0 Dg Ig tB
             refine ag ?_
             have vQ := tB.ck (.aP (.aP (.kk (.k .e))))
             refine gG [72] 76 (u := M0) (v := 0) (by kernel_rfl) (.inr (.inl rfl)) Ig (Fl.lit (c := 0) (by kernel_rfl)) ?_
             refine bn 2 [72] (.n 10 (.b (cv .neq (jO .sub (bW eL.toNat) (bW eL.toNat)) 0)) (.fQ (.s (.aP (.kk (.s .a)))))) qe (by kernel_rfl) ?_
             refine af <| aa <| ao <| bn 2 [] (.n 78 (.v (.float .f64 fb)) (.n 79 (.v (.float .f64 eL.toNat)) (.kk (.s .a)))) qe (by kernel_rfl) ?_
             refine ag <| ki [] 80 (u := fb) (v := eL.toNat) (by kernel_rfl) (.inl rfl) yL (Fl.u eL) vQ ?_
             intro Vs MI Sp yp
             refine bn 1 [] (.n 11 (.v (.float .f64 Vs)) (.lj (.aP (.kk (.s .a))))) qe (by kernel_rfl) ?_
             refine af <| hH <| aa <| bA [] (.n 44 (I (aB (aC + 1))) (.aP (.aP (.k .z)))) qe (by kernel_rfl) ?_
             exact jR (cv .gtr (bW eL.toNat) 0, cv .neq (jO .sub (bW eL.toNat) (bW eL.toNat)) 0, jO .add sum (bW eL.toNat), aB (aC + 1)) (Option.some.inj hm).symm ⟨cv .gtr (bW eL.toNat) 0, cv .neq (jO .sub (bW eL.toNat) (bW eL.toNat)) 0, jO .add sum (bW eL.toNat), aB (aC + 1), Vs, rfl, rfl, Sp, yp⟩ (by kernel_rfl)
     rw [if_neg pf] at hm
     refine iq (fe (fe (kG ?_)))
     have hm := d_ hm nF
     refine aa <| ab <| ab <| bA [] (.n 83 (.b (!some_)) (.s (.aP (.s (.kk .z))))) qe (by kernel_rfl) ?_
     refine aa <| cw (!some_) (by kernel_rfl) (fun w9 => ?_) (fun w9 => ?_)
     · rw [if_pos w9] at hm
       refine ab <| ao <| bn 7 [] (.n 90 (.b ((decide (bH.1 = 251)) && true)) (.ss (.k .z))) qe (by kernel_rfl) ?_
       refine my 90 ((decide (bH.1 = 251)) && true) (.s .a) (by kernel_rfl) (fun Sq => ?_) (fun Sq => ?_)
       · rw [if_pos Sq] at hm
         refine bn 1 [90] (.n 91 (pt g1 0) (.k .z)) qe (by kernel_rfl) ?_
         refine ag ?_
         obtain ⟨OD, Pv, hm⟩ := ob hm
         obtain ⟨WG, WH, Ih, X6, KF, X7, WI⟩ := dH.go (.i (.r (.i (.r (.r (.r (.i (.i (.i (.i (.i .e)))))))))))
         refine aq [90] 92 _ lr (by kernel_rfl) (ie (F := WG) (O := WH) _ _ _ _ _ _ _ _ _ _ _ _ _ _ _ _ _ _ _ _ _ _ _ _ _ _ _ _ _ _ _ _ _ _ _ _ _ _ _ _ _ _ _ (Ro.de Ih.off KF 0 rfl) (dH.b8 1 rfl) (dH.cZ 1 rfl) (Ro.de Ih.off KF 1 rfl) (dH.b8 3 rfl) (dH.cZ 3 rfl) (Ro.de Ih.off KF 2 rfl) (dH.b8 4 rfl) (dH.cZ 4 rfl) (Ro.de Ih.off KF 3 rfl) (dH.b8 5 rfl) (dH.cZ 5 rfl) Ih _ Pv) ?_
         rintro e_ MK ⟨LG, _, Sf, LI, _, LF, X8, _, LH, rfl, rfl, rfl, rfl, KC⟩
         have Sr := WI MK _ _ KC (.c (.c (.c (.c (.c (.c (.c .n)))))))
         refine ⟨.u64 OD.1, rfl, ?_⟩
         have Su := Sr.ck .z
         refine bn 3 [90] (.n 4 (.b (decide (OD.1 = 0))) .z) qe (by kernel_rfl) ?_
         refine af <| aa <| aL (bI ?_)
         obtain rfl := Option.some.inj hm
         refine aM [.b (decide (OD.1 = 0))] qe (by kernel_rfl) ?_
         exact ⟨rfl, Su⟩
       · rw [if_neg (by rw [Sq]; decide)] at hm
         refine bn 5 [90] (.n 4 (.b false) .z) qe (by kernel_rfl) ?_
         refine af <| aa <| aL (bI ?_)
         obtain rfl := Option.some.inj hm
         refine aM [.b false] qe (by kernel_rfl) ?_
         have Sv := dH.ck .z
         exact ⟨rfl, Sv⟩
     rw [if_neg (by rw [w9]; decide)] at hm
     refine aS <| aa <| ab <| ab <| ao <| bn 3 [] (.n 97 (.b (!inf)) (.s .a)) qe (by kernel_rfl) ?_
     refine my 97 (!inf) (.s .a) (by kernel_rfl) (fun Sw => ?_) (fun Sw => ?_)
     · rw [if_pos Sw] at hm
       refine bn 2 [97] (.n 98 (.v (.float .f64 fb)) (.n 99 (.v (.float .f64 fb)) (.aP (.kk .z)))) qe (by kernel_rfl) ?_
       refine ag <| ki [97] 100 (u := fb) (v := fb) (by kernel_rfl) (.inr (.inl rfl)) yL yL dH ?_
       intro WJ R6 Sy An
       refine ag <| gG [97] 101 (u := WJ) (v := 0) (by kernel_rfl) (.inr (.inl rfl)) Sy (Fl.lit (c := 0) (by kernel_rfl)) ?_
       refine bn 1 [97] (.n 102 (.b (cv .neq (jO .sub sum sum) 0)) (.fQ (.s .a))) qe (by kernel_rfl) ?_
       refine af <| aa <| cw (cv .neq (jO .sub sum sum) 0) (by kernel_rfl) (fun uc => ?_) (fun uc => ?_)
       · rw [if_pos uc] at hm
         refine ab <| ao <| bn 7 [] (.n 109 (.b ((decide (bH.1 = 250)) && true)) (.ss (.k .z))) qe (by kernel_rfl) ?_
         refine my 109 ((decide (bH.1 = 250)) && true) (.s .a) (by kernel_rfl) (fun Sz => ?_) (fun Sz => ?_)
         · rw [if_pos Sz] at hm
           refine bn 1 [109] (.n 110 (pt g1 0) (.k .z)) qe (by kernel_rfl) ?_
           refine ag ?_
           obtain ⟨HB, M4, hm⟩ := ob hm
           obtain ⟨WK, WM, Ii, X9, KG, X_, WN⟩ := An.go (.i (.r (.i (.r (.r (.r (.i (.i (.i (.i (.i .e)))))))))))
           refine aq [109] 111 _ lr (by kernel_rfl) (ie (F := WK) (O := WM) _ _ _ _ _ _ _ _ _ _ _ _ _ _ _ _ _ _ _ _ _ _ _ _ _ _ _ _ _ _ _ _ _ _ _ _ _ _ _ _ _ _ _ (Ro.de Ii.off KG 0 rfl) (An.b8 1 rfl) (An.cZ 1 rfl) (Ro.de Ii.off KG 1 rfl) (An.b8 3 rfl) (An.cZ 3 rfl) (Ro.de Ii.off KG 2 rfl) (An.b8 4 rfl) (An.cZ 4 rfl) (Ro.de Ii.off KG 3 rfl) (An.b8 5 rfl) (An.cZ 5 rfl) Ii _ M4) ?_
           rintro e_ SA ⟨Ya, _, LJ, Yb, _, LK, Yc, _, Yd, rfl, rfl, rfl, rfl, SB⟩
           have SC := WN SA _ _ SB (.c (.c (.c (.c (.c (.c (.c .n)))))))
           refine ⟨.u64 HB.1, rfl, ?_⟩
           have SD := SC.ck .z
           refine bn 3 [109] (.n 4 (.b (decide (HB.1 = 0))) .z) qe (by kernel_rfl) ?_
           refine af <| aa <| aL (bI ?_)
           obtain rfl := Option.some.inj hm
           refine aM [.b (decide (HB.1 = 0))] qe (by kernel_rfl) ?_
           exact ⟨rfl, SD⟩
         · rw [if_neg (by rw [Sz]; decide)] at hm
           refine bn 5 [109] (.n 4 (.b false) .z) qe (by kernel_rfl) ?_
           refine af <| aa <| aL (bI ?_)
           obtain rfl := Option.some.inj hm
           refine aM [.b false] qe (by kernel_rfl) ?_
           have SE := An.ck .z
           exact ⟨rfl, SE⟩
       rw [if_neg (by rw [uc]; decide)] at hm
       refine aS <| aa <| ab ?_
       have xK := An.drew 1
       refine Hr bw (.q 0 4 (.q 1 4 (.q 2 4 (.q 3 4 (.q 4 4 (.q 5 4 (.q 6 3 (.q 7 4 (.q 8 4 (.q 9 4 (.q 10 4 (.q 11 4 (.q 12 3 (.q 13 4 (.q 14 4 (.q 15 4 (.q 16 4 (.op 17 (.q 18 4 (.q 19 2 (.q 20 4 (.q 21 4 (.q 22 4 (.q 23 4 (.q 24 4 (.q 25 4 (.q 26 4 (.q 27 4 (.q 28 4 (.q 29 4 (.q 30 4 (.op 31 (.op 32 (.q 33 4 (.q 34 4 (.q 35 4 (.q 36 3 (.op 37 (.q 38 4 (.q 39 4 (.q 40 4 .nil))))))))))))))))))))))))))))))))))))))))) [17, 31, 32, 37] xK (.c (.aP (.aP (.kk (.k .e)))) (.c (.aP (.aP (.kk (.k .e)))) (.c (.aP (.aP (.kk (.k .e)))) (.c (.s (.k (.s (.kk (.k .z))))) .l)))) (by kernel_rfl) (fun _ => ?_)
       refine bx 6 4 [] (.n 119 (.b ((decide (bH.1 = 0)) && true)) (.s (.ua (.s .a)))) (fun x hx => qe) (by kernel_rfl) (fun _ => ?_)
       refine bx 1 3 [] (.n 120 (.b ((decide (bH.1 = 0)) && true)) (.s .a)) (fun x hx => qe) (by kernel_rfl) (fun _ => ?_)
       refine bx 5 4 [] (.n 125 (.b (((decide (bH.1 = 0)) && true) && (decide (0 < ((l.length : Nat) : Int))))) (.s .a)) (fun x hx => qe) (by kernel_rfl) (fun _ => ?_)
       refine bx 1 3 [] (.n 126 (.b (((decide (bH.1 = 0)) && true) && (decide (0 < ((l.length : Nat) : Int))))) (.s .a)) (fun x hx => qe) (by kernel_rfl) (fun _ => ?_)
       refine qz 126 (((decide (bH.1 = 0)) && true) && (decide (0 < ((l.length : Nat) : Int)))) (.s .a) (by kernel_rfl) (fun SF _ => ?_) (fun SF _ => ?_)
       · rw [if_pos SF] at hm
         obtain ⟨ej, jk, hm⟩ := ob hm
         refine bx 4 4 [126] (.n 130 (.v (.float .f64 ej.toNat)) .a) (fun x hx => qW (EI.cx hx) jk rfl (.v (.float .f64 ej.toNat)) rfl <| qe) (by kernel_rfl) (fun _ => ?_)
         refine bZ (by kernel_rfl) rfl <| gG [126] 131 (u := ej.toNat) (v := 0) (by kernel_rfl) (.inr (.inr (.inr (.inr (.inl rfl))))) (Fl.u ej) (Fl.lit (c := 0) (by kernel_rfl)) ?_
         refine ⟨xK, fun _ => ?_⟩
         refine bx 1 4 [126] (.n 132 (.b (cv .gtr (bW ej.toNat) 0)) (.lj .a)) (fun x hx => qe) (by kernel_rfl) (fun _ => ?_)
         refine bx 1 2 [] (.n 133 (.b (cv .gtr (bW ej.toNat) 0)) (.s .a)) (fun x hx => qe) (by kernel_rfl) (fun _ => ?_)
         refine qz 133 (cv .gtr (bW ej.toNat) 0) (.s .a) (by kernel_rfl) (fun M5 _ => ?_) (fun M5 _ => ?_)
         · rw [if_pos M5] at hm
           refine bx 3 4 [133] (.n 136 (.b (!inf)) (.aP .z)) (fun x hx => qe) (by kernel_rfl) (fun _ => ?_)
           refine qz 136 (!inf) (.s .a) (by kernel_rfl) (fun M6 _ => ?_) (fun M6 _ => ?_)
           · rw [if_pos M6] at hm
             refine bx 8 4 [136] (.n 140 (.eO []) (.n 144 (.eO []) (.kk (.s (.k .z))))) (fun x hx => qe) (by kernel_rfl) (fun _ => ?_)
             refine fu 145 [136] (by kernel_rfl) rfl (by kernel_rfl) (fun _ => ?_)
             refine fu 146 [136] (by kernel_rfl) rfl (by kernel_rfl) (fun _ => ?_)
             refine bx 3 4 [133, 136] (.n 149 (.b true) (.fQ (.ss .a))) (fun x hx => qe) (by kernel_rfl) (fun _ => ?_)
             refine bx 1 3 [149] (.n 150 (pt g1 0) (.k .z)) (fun x hx => qe) (by kernel_rfl) (fun _ => ?_)
             refine bZ (by kernel_rfl) rfl ?_
             obtain ⟨HC, M7, hm⟩ := ob hm
             obtain ⟨WO, WQ, Ij, Ye, KH, Yf, WR⟩ := xK.go (.i (.r (.i (.r (.r (.r (.i (.i (.i (.i (.i .e)))))))))))
             refine aq [149] 151 _ lr (by kernel_rfl) (ie (F := WO) (O := WQ) _ _ _ _ _ _ _ _ _ _ _ _ _ _ _ _ _ _ _ _ _ _ _ _ _ _ _ _ _ _ _ _ _ _ _ _ _ _ _ _ _ _ _ (Ro.de Ij.off KH 0 rfl) (xK.b8 1 rfl) (xK.cZ 1 rfl) (Ro.de Ij.off KH 1 rfl) (xK.b8 3 rfl) (xK.cZ 3 rfl) (Ro.de Ij.off KH 2 rfl) (xK.b8 4 rfl) (xK.cZ 4 rfl) (Ro.de Ij.off KH 3 rfl) (xK.b8 5 rfl) (xK.cZ 5 rfl) Ij _ M7) ?_
             rintro e_ SG ⟨Yg, _, Yh, Yi, _, Yj, Yk, _, Yl, rfl, rfl, rfl, rfl, SI⟩
             have SJ := WR SG _ _ SI (.c (.c (.c (.c (.c (.c (.c .n)))))))
             refine ⟨.u64 HC.1, rfl, ?_⟩
             have Px := SJ.ck (.fQ (.ss (.s (.aP .e))))
             refine ⟨Px, fun _ => ?_⟩
             refine bx 3 4 [149] (.n 4 (.b (decide ((1 : UInt64) ≤ HC.1))) .z) (fun x hx => qe) (by kernel_rfl) (fun _ => ?_)
             refine ct <| aa <| aL ?_
             obtain rfl := Option.some.inj hm
             refine aM [.b (decide ((1 : UInt64) ≤ HC.1))] qe (by kernel_rfl) ?_
             have SK := Px.ck .z
             exact ⟨rfl, SK⟩
           · rw [if_neg (by rw [M6]; decide)] at hm
             obtain ⟨fg, jZ, hm⟩ := ob hm
             obtain ⟨ll, nt, hm⟩ := ob hm
             refine bx 8 4 [136] (.n 140 (.v (.float .f64 fg.toNat)) (.n 144 (.v (.float .f64 ll.toNat)) (.kk (.s (.k .z))))) (fun x hx => qW (EI.cx hx) jZ rfl (.v (.float .f64 fg.toNat)) rfl <| qW (EI.cx hx) nt rfl (.v (.float .f64 ll.toNat)) rfl <| qe) (by kernel_rfl) (fun _ => ?_)
             refine bZ (by kernel_rfl) rfl <| ki [136] 145 (u := fg.toNat) (v := ll.toNat) (by kernel_rfl) (.inr (.inl rfl)) (Fl.u fg) (Fl.u ll) xK ?_
             intro WS WT SL Py
             refine ⟨Py, fun _ => ?_⟩
             refine bZ (by kernel_rfl) rfl ?_
             have Ao := Py.ck (.aP (.aP (.kk (.k .e))))
             refine gG [136] 146 (u := WS) (v := 0) (by kernel_rfl) (.inr (.inl rfl)) SL (Fl.lit (c := 0) (by kernel_rfl)) ?_
             refine ⟨Ao, fun _ => ?_⟩
             refine bx 3 4 [133, 136] (.n 149 (.b (cv .neq (jO .sub (bW fg.toNat) (bW ll.toNat)) 0)) (.fQ (.ss .a))) (fun x hx => qe) (by kernel_rfl) (fun _ => ?_)
             refine qz 149 (cv .neq (jO .sub (bW fg.toNat) (bW ll.toNat)) 0) (.s .a) (by kernel_rfl) (fun M8 _ => ?_) (fun M8 _ => ?_)
             · rw [if_pos M8] at hm
               refine bx 1 3 [149] (.n 150 (pt g1 0) (.k .z)) (fun x hx => qe) (by kernel_rfl) (fun _ => ?_)
               refine bZ (by kernel_rfl) rfl ?_
               obtain ⟨HD, M9, hm⟩ := ob hm
               obtain ⟨WU, WV, Ik, Ym, KI, Yn, WW⟩ := Ao.go (.i (.r (.i (.r (.r (.r (.i (.i (.i (.i (.i .e)))))))))))
               refine aq [149] 151 _ lr (by kernel_rfl) (ie (F := WU) (O := WV) _ _ _ _ _ _ _ _ _ _ _ _ _ _ _ _ _ _ _ _ _ _ _ _ _ _ _ _ _ _ _ _ _ _ _ _ _ _ _ _ _ _ _ (Ro.de Ik.off KI 0 rfl) (Ao.b8 1 rfl) (Ao.cZ 1 rfl) (Ro.de Ik.off KI 1 rfl) (Ao.b8 3 rfl) (Ao.cZ 3 rfl) (Ro.de Ik.off KI 2 rfl) (Ao.b8 4 rfl) (Ao.cZ 4 rfl) (Ro.de Ik.off KI 3 rfl) (Ao.b8 5 rfl) (Ao.cZ 5 rfl) Ik _ M9) ?_
               rintro e_ SM ⟨Yo, _, Yp, Yq, _, Yr, Ys, _, Yt, rfl, rfl, rfl, rfl, SN⟩
               have SO := WW SM _ _ SN (.c (.c (.c (.c (.c (.c (.c .n)))))))
               refine ⟨.u64 HD.1, rfl, ?_⟩
               have Pz := SO.ck (.fQ (.ss (.s (.aP .e))))
               refine ⟨Pz, fun _ => ?_⟩
               refine bx 3 4 [149] (.n 4 (.b (decide ((1 : UInt64) ≤ HD.1))) .z) (fun x hx => qe) (by kernel_rfl) (fun _ => ?_)
               refine ct <| aa <| aL ?_
               obtain rfl := Option.some.inj hm
               refine aM [.b (decide ((1 : UInt64) ≤ HD.1))] qe (by kernel_rfl) ?_
               have SP := Pz.ck .z
               exact ⟨rfl, SP⟩
             · rw [if_neg (by rw [M8]; decide)] at hm
               refine bx 1 3 [149] (.n 150 (.eO []) (.k .z)) (fun x hx => qe) (by kernel_rfl) (fun _ => ?_)
               refine fu 151 [149] (by kernel_rfl) rfl (by kernel_rfl) (fun _ => ?_)
               refine bx 3 4 [149] (.n 4 (.b false) .z) (fun x hx => qe) (by kernel_rfl) (fun _ => ?_)
               refine ct <| aa <| aL ?_
               obtain rfl := Option.some.inj hm
               refine aM [.b false] qe (by kernel_rfl) ?_
               have SQ := Ao.ck .z
               exact ⟨rfl, SQ⟩
         · rw [if_neg (by rw [M5]; decide)] at hm
           refine bx 3 4 [133] (.n 136 (.eO []) (.aP .z)) (fun x hx => qe) (by kernel_rfl) (fun _ => ?_)
           refine bx 8 4 [136] (.n 140 (.eO []) (.n 144 (.eO []) (.kk (.s (.k .z))))) (fun x hx => qe) (by kernel_rfl) (fun _ => ?_)
           refine fu 145 [136] (by kernel_rfl) rfl (by kernel_rfl) (fun _ => ?_)
           refine fu 146 [136] (by kernel_rfl) rfl (by kernel_rfl) (fun _ => ?_)
           refine bx 3 4 [133] (.n 149 (.b false) (.fQ (.ss .a))) (fun x hx => qe) (by kernel_rfl) (fun _ => ?_)
           refine bx 1 3 [149] (.n 150 (.eO []) (.k .z)) (fun x hx => qe) (by kernel_rfl) (fun _ => ?_)
           refine fu 151 [149] (by kernel_rfl) rfl (by kernel_rfl) (fun _ => ?_)
           refine bx 3 4 [149] (.n 4 (.b false) .z) (fun x hx => qe) (by kernel_rfl) (fun _ => ?_)
           refine ct <| aa <| aL ?_
           obtain rfl := Option.some.inj hm
           refine aM [.b false] qe (by kernel_rfl) ?_
           have SR := xK.ck .z
           exact ⟨rfl, SR⟩
       · rw [if_neg (by rw [SF]; decide)] at hm
         refine bx 4 4 [126] (.n 130 (.eO []) .a) (fun x hx => qe) (by kernel_rfl) (fun _ => ?_)
         refine fu 131 [126] (by kernel_rfl) rfl (by kernel_rfl) (fun _ => ?_)
         refine bx 1 4 [126] (.n 132 (.b false) (.lj .a)) (fun x hx => qe) (by kernel_rfl) (fun _ => ?_)
         refine bx 1 2 [] (.n 133 (.b false) (.s .a)) (fun x hx => qe) (by kernel_rfl) (fun _ => ?_)
         refine bx 3 4 [133] (.n 136 (.eO []) (.aP .z)) (fun x hx => qe) (by kernel_rfl) (fun _ => ?_)
         refine bx 8 4 [136] (.n 140 (.eO []) (.n 144 (.eO []) (.kk (.s (.k .z))))) (fun x hx => qe) (by kernel_rfl) (fun _ => ?_)
         refine fu 145 [136] (by kernel_rfl) rfl (by kernel_rfl) (fun _ => ?_)
         refine fu 146 [136] (by kernel_rfl) rfl (by kernel_rfl) (fun _ => ?_)
         refine bx 3 4 [133] (.n 149 (.b false) (.fQ (.ss .a))) (fun x hx => qe) (by kernel_rfl) (fun _ => ?_)
         refine bx 1 3 [149] (.n 150 (.eO []) (.k .z)) (fun x hx => qe) (by kernel_rfl) (fun _ => ?_)
         refine fu 151 [149] (by kernel_rfl) rfl (by kernel_rfl) (fun _ => ?_)
         refine bx 3 4 [149] (.n 4 (.b false) .z) (fun x hx => qe) (by kernel_rfl) (fun _ => ?_)
         refine ct <| aa <| aL ?_
         obtain rfl := Option.some.inj hm
         refine aM [.b false] qe (by kernel_rfl) ?_
         have SS := xK.ck .z
         exact ⟨rfl, SS⟩
     · rw [if_neg (by rw [Sw]; decide)] at hm
       refine bn 5 [97] (.n 102 (.b false) (.s (.aP (.k .z)))) qe (by kernel_rfl) ?_
       refine af <| aa <| cw false (by kernel_rfl) (fun h => by cases h) (fun _ => ?_)
       refine aS <| aa <| ab ?_
       have xL := dH.drew 1
       refine Hr bw (.q 0 4 (.q 1 4 (.q 2 4 (.q 3 4 (.q 4 4 (.q 5 4 (.q 6 3 (.q 7 4 (.q 8 4 (.q 9 4 (.q 10 4 (.q 11 4 (.q 12 3 (.q 13 4 (.q 14 4 (.q 15 4 (.q 16 4 (.op 17 (.q 18 4 (.q 19 2 (.q 20 4 (.q 21 4 (.q 22 4 (.q 23 4 (.q 24 4 (.q 25 4 (.q 26 4 (.q 27 4 (.q 28 4 (.q 29 4 (.q 30 4 (.op 31 (.op 32 (.q 33 4 (.q 34 4 (.q 35 4 (.q 36 3 (.op 37 (.q 38 4 (.q 39 4 (.q 40 4 .nil))))))))))))))))))))))))))))))))))))))))) [17, 31, 32, 37] xL (.c (.aP (.aP (.kk (.k .e)))) (.c (.aP (.aP (.kk (.k .e)))) (.c (.aP (.aP (.kk (.k .e)))) (.c (.s (.k (.s (.kk (.k .z))))) .l)))) (by kernel_rfl) (fun _ => ?_)
       refine bx 6 4 [] (.n 119 (.b ((decide (bH.1 = 0)) && true)) (.s (.ua (.s .a)))) (fun x hx => qe) (by kernel_rfl) (fun _ => ?_)
       refine bx 1 3 [] (.n 120 (.b ((decide (bH.1 = 0)) && true)) (.s .a)) (fun x hx => qe) (by kernel_rfl) (fun _ => ?_)
       refine bx 5 4 [] (.n 125 (.b (((decide (bH.1 = 0)) && true) && (decide (0 < ((l.length : Nat) : Int))))) (.s .a)) (fun x hx => qe) (by kernel_rfl) (fun _ => ?_)
       refine bx 1 3 [] (.n 126 (.b (((decide (bH.1 = 0)) && true) && (decide (0 < ((l.length : Nat) : Int))))) (.s .a)) (fun x hx => qe) (by kernel_rfl) (fun _ => ?_)
       refine qz 126 (((decide (bH.1 = 0)) && true) && (decide (0 < ((l.length : Nat) : Int)))) (.s .a) (by kernel_rfl) (fun M_ _ => ?_) (fun M_ _ => ?_)
       · rw [if_pos M_] at hm
         obtain ⟨ln, oX, hm⟩ := ob hm
         refine bx 4 4 [126] (.n 130 (.v (.float .f64 ln.toNat)) .a) (fun x hx => qW (EI.cx hx) oX rfl (.v (.float .f64 ln.toNat)) rfl <| qe) (by kernel_rfl) (fun _ => ?_)
         refine bZ (by kernel_rfl) rfl <| gG [126] 131 (u := ln.toNat) (v := 0) (by kernel_rfl) (.inr (.inr (.inr (.inr (.inl rfl))))) (Fl.u ln) (Fl.lit (c := 0) (by kernel_rfl)) ?_
         refine ⟨xL, fun _ => ?_⟩
         refine bx 1 4 [126] (.n 132 (.b (cv .gtr (bW ln.toNat) 0)) (.lj .a)) (fun x hx => qe) (by kernel_rfl) (fun _ => ?_)
         refine bx 1 2 [] (.n 133 (.b (cv .gtr (bW ln.toNat) 0)) (.s .a)) (fun x hx => qe) (by kernel_rfl) (fun _ => ?_)
         refine qz 133 (cv .gtr (bW ln.toNat) 0) (.s .a) (by kernel_rfl) (fun Na _ => ?_) (fun Na _ => ?_)
         · rw [if_pos Na] at hm
           refine bx 3 4 [133] (.n 136 (.b (!inf)) (.aP .z)) (fun x hx => qe) (by kernel_rfl) (fun _ => ?_)
           refine qz 136 (!inf) (.s .a) (by kernel_rfl) (fun Nb _ => ?_) (fun Nb _ => ?_)
           · rw [if_pos Nb] at hm
             refine bx 8 4 [136] (.n 140 (.eO []) (.n 144 (.eO []) (.kk (.s (.k .z))))) (fun x hx => qe) (by kernel_rfl) (fun _ => ?_)
             refine fu 145 [136] (by kernel_rfl) rfl (by kernel_rfl) (fun _ => ?_)
             refine fu 146 [136] (by kernel_rfl) rfl (by kernel_rfl) (fun _ => ?_)
             refine bx 3 4 [133, 136] (.n 149 (.b true) (.fQ (.ss .a))) (fun x hx => qe) (by kernel_rfl) (fun _ => ?_)
             refine bx 1 3 [149] (.n 150 (pt g1 0) (.k .z)) (fun x hx => qe) (by kernel_rfl) (fun _ => ?_)
             refine bZ (by kernel_rfl) rfl ?_
             obtain ⟨HE, Nc, hm⟩ := ob hm
             obtain ⟨WX, WY, Il, Yu, KJ, Yv, WZ⟩ := xL.go (.i (.r (.i (.r (.r (.r (.i (.i (.i (.i (.i .e)))))))))))
             refine aq [149] 151 _ lr (by kernel_rfl) (ie (F := WX) (O := WY) _ _ _ _ _ _ _ _ _ _ _ _ _ _ _ _ _ _ _ _ _ _ _ _ _ _ _ _ _ _ _ _ _ _ _ _ _ _ _ _ _ _ _ (Ro.de Il.off KJ 0 rfl) (xL.b8 1 rfl) (xL.cZ 1 rfl) (Ro.de Il.off KJ 1 rfl) (xL.b8 3 rfl) (xL.cZ 3 rfl) (Ro.de Il.off KJ 2 rfl) (xL.b8 4 rfl) (xL.cZ 4 rfl) (Ro.de Il.off KJ 3 rfl) (xL.b8 5 rfl) (xL.cZ 5 rfl) Il _ Nc) ?_
             rintro e_ SU ⟨Yw, _, Yx, Yy, _, Yz, YA, _, YB, rfl, rfl, rfl, rfl, SW⟩
             have SX := WZ SU _ _ SW (.c (.c (.c (.c (.c (.c (.c .n)))))))
             refine ⟨.u64 HE.1, rfl, ?_⟩
             have PA := SX.ck (.fQ (.ss (.s (.aP .e))))
             refine ⟨PA, fun _ => ?_⟩
             refine bx 3 4 [149] (.n 4 (.b (decide ((1 : UInt64) ≤ HE.1))) .z) (fun x hx => qe) (by kernel_rfl) (fun _ => ?_)
             refine ct <| aa <| aL ?_
             obtain rfl := Option.some.inj hm
             refine aM [.b (decide ((1 : UInt64) ≤ HE.1))] qe (by kernel_rfl) ?_
             have SY := PA.ck .z
             exact ⟨rfl, SY⟩
           · rw [if_neg (by rw [Nb]; decide)] at hm
             obtain ⟨l6, sb, hm⟩ := ob hm
             obtain ⟨lG, sd, hm⟩ := ob hm
             refine bx 8 4 [136] (.n 140 (.v (.float .f64 l6.toNat)) (.n 144 (.v (.float .f64 lG.toNat)) (.kk (.s (.k .z))))) (fun x hx => qW (EI.cx hx) sb rfl (.v (.float .f64 l6.toNat)) rfl <| qW (EI.cx hx) sd rfl (.v (.float .f64 lG.toNat)) rfl <| qe) (by kernel_rfl) (fun _ => ?_)
             refine bZ (by kernel_rfl) rfl <| ki [136] 145 (u := l6.toNat) (v := lG.toNat) (by kernel_rfl) (.inr (.inl rfl)) (Fl.u l6) (Fl.u lG) xL ?_
             intro W0 W1 SZ y5
             refine ⟨y5, fun _ => ?_⟩
             refine bZ (by kernel_rfl) rfl <| gG [136] 146 (u := W0) (v := 0) (by kernel_rfl) (.inr (.inl rfl)) SZ (Fl.lit (c := 0) (by kernel_rfl)) ?_
             refine ⟨y5, fun _ => ?_⟩
             refine bx 3 4 [133, 136] (.n 149 (.b (cv .neq (jO .sub (bW l6.toNat) (bW lG.toNat)) 0)) (.fQ (.ss .a))) (fun x hx => qe) (by kernel_rfl) (fun _ => ?_)
             refine qz 149 (cv .neq (jO .sub (bW l6.toNat) (bW lG.toNat)) 0) (.s .a) (by kernel_rfl) (fun Nd _ => ?_) (fun Nd _ => ?_)
             · rw [if_pos Nd] at hm
               refine bx 1 3 [149] (.n 150 (pt g1 0) (.k .z)) (fun x hx => qe) (by kernel_rfl) (fun _ => ?_)
               refine bZ (by kernel_rfl) rfl ?_
               obtain ⟨HF, Nf, hm⟩ := ob hm
               obtain ⟨W2, W3, Im, YD, KK, YE, W4⟩ := y5.go (.i (.r (.i (.r (.r (.r (.i (.i (.i (.i (.i .e)))))))))))
               refine aq [149] 151 _ lr (by kernel_rfl) (ie (F := W2) (O := W3) _ _ _ _ _ _ _ _ _ _ _ _ _ _ _ _ _ _ _ _ _ _ _ _ _ _ _ _ _ _ _ _ _ _ _ _ _ _ _ _ _ _ _ (Ro.de Im.off KK 0 rfl) (y5.b8 1 rfl) (y5.cZ 1 rfl) (Ro.de Im.off KK 1 rfl) (y5.b8 3 rfl) (y5.cZ 3 rfl) (Ro.de Im.off KK 2 rfl) (y5.b8 4 rfl) (y5.cZ 4 rfl) (Ro.de Im.off KK 3 rfl) (y5.b8 5 rfl) (y5.cZ 5 rfl) Im _ Nf) ?_
               rintro e_ S2 ⟨YF, _, YG, YH, _, YI, YJ, _, YK, rfl, rfl, rfl, rfl, S3⟩
               have S4 := W4 S2 _ _ S3 (.c (.c (.c (.c (.c (.c (.c .n)))))))
               refine ⟨.u64 HF.1, rfl, ?_⟩
               have PB := S4.ck (.fQ (.ss (.s (.aP .e))))
               refine ⟨PB, fun _ => ?_⟩
               refine bx 3 4 [149] (.n 4 (.b (decide ((1 : UInt64) ≤ HF.1))) .z) (fun x hx => qe) (by kernel_rfl) (fun _ => ?_)
               refine ct <| aa <| aL ?_
               obtain rfl := Option.some.inj hm
               refine aM [.b (decide ((1 : UInt64) ≤ HF.1))] qe (by kernel_rfl) ?_
               have S5 := PB.ck .z
               exact ⟨rfl, S5⟩
             · rw [if_neg (by rw [Nd]; decide)] at hm
               refine bx 1 3 [149] (.n 150 (.eO []) (.k .z)) (fun x hx => qe) (by kernel_rfl) (fun _ => ?_)
               refine fu 151 [149] (by kernel_rfl) rfl (by kernel_rfl) (fun _ => ?_)
               refine bx 3 4 [149] (.n 4 (.b false) .z) (fun x hx => qe) (by kernel_rfl) (fun _ => ?_)
               refine ct <| aa <| aL ?_
               obtain rfl := Option.some.inj hm
               refine aM [.b false] qe (by kernel_rfl) ?_
               have S6 := y5.ck .z
               exact ⟨rfl, S6⟩
         · rw [if_neg (by rw [Na]; decide)] at hm
           refine bx 3 4 [133] (.n 136 (.eO []) (.aP .z)) (fun x hx => qe) (by kernel_rfl) (fun _ => ?_)
           refine bx 8 4 [136] (.n 140 (.eO []) (.n 144 (.eO []) (.kk (.s (.k .z))))) (fun x hx => qe) (by kernel_rfl) (fun _ => ?_)
           refine fu 145 [136] (by kernel_rfl) rfl (by kernel_rfl) (fun _ => ?_)
           refine fu 146 [136] (by kernel_rfl) rfl (by kernel_rfl) (fun _ => ?_)
           refine bx 3 4 [133] (.n 149 (.b false) (.fQ (.ss .a))) (fun x hx => qe) (by kernel_rfl) (fun _ => ?_)
           refine bx 1 3 [149] (.n 150 (.eO []) (.k .z)) (fun x hx => qe) (by kernel_rfl) (fun _ => ?_)
           refine fu 151 [149] (by kernel_rfl) rfl (by kernel_rfl) (fun _ => ?_)
           refine bx 3 4 [149] (.n 4 (.b false) .z) (fun x hx => qe) (by kernel_rfl) (fun _ => ?_)
           refine ct <| aa <| aL ?_
           obtain rfl := Option.some.inj hm
           refine aM [.b false] qe (by kernel_rfl) ?_
           have S7 := xL.ck .z
           exact ⟨rfl, S7⟩
       · rw [if_neg (by rw [M_]; decide)] at hm
         refine bx 4 4 [126] (.n 130 (.eO []) .a) (fun x hx => qe) (by kernel_rfl) (fun _ => ?_)
         refine fu 131 [126] (by kernel_rfl) rfl (by kernel_rfl) (fun _ => ?_)
         refine bx 1 4 [126] (.n 132 (.b false) (.lj .a)) (fun x hx => qe) (by kernel_rfl) (fun _ => ?_)
         refine bx 1 2 [] (.n 133 (.b false) (.s .a)) (fun x hx => qe) (by kernel_rfl) (fun _ => ?_)
         refine bx 3 4 [133] (.n 136 (.eO []) (.aP .z)) (fun x hx => qe) (by kernel_rfl) (fun _ => ?_)
         refine bx 8 4 [136] (.n 140 (.eO []) (.n 144 (.eO []) (.kk (.s (.k .z))))) (fun x hx => qe) (by kernel_rfl) (fun _ => ?_)
         refine fu 145 [136] (by kernel_rfl) rfl (by kernel_rfl) (fun _ => ?_)
         refine fu 146 [136] (by kernel_rfl) rfl (by kernel_rfl) (fun _ => ?_)
         refine bx 3 4 [133] (.n 149 (.b false) (.fQ (.ss .a))) (fun x hx => qe) (by kernel_rfl) (fun _ => ?_)
         refine bx 1 3 [149] (.n 150 (.eO []) (.k .z)) (fun x hx => qe) (by kernel_rfl) (fun _ => ?_)
         refine fu 151 [149] (by kernel_rfl) rfl (by kernel_rfl) (fun _ => ?_)
         refine bx 3 4 [149] (.n 4 (.b false) .z) (fun x hx => qe) (by kernel_rfl) (fun _ => ?_)
         refine ct <| aa <| aL ?_
         obtain rfl := Option.some.inj hm
         refine aM [.b false] qe (by kernel_rfl) ?_
         have S8 := xL.ck .z
         exact ⟨rfl, S8⟩
   · simp only [Sum.elim_inl, Sum.elim_inr] at hm
     rintro e_ S9 ⟨Vt, _, Vu, Vv, _, Vw, Vx, _, Vy, g5, _, Vz, rfl, rfl, rfl, rfl, rfl, S_⟩
     have PC := hb S9 _ _ S_ (.c (.c (.c (.c (.c (.c (.c (.c .n))))))))
     refine ⟨.eO [I cW.1, I cW.2.1], rfl, ?_⟩
     refine bn 5 [] (.n 7 (I cW.1) (.n 8 (I cW.2.1) (.lj .a))) qe (by kernel_rfl) ?_
     refine af <| aa <| ab <| ab <| bA [] (.n 35 (.b (decide (4096 < ((l.length : Nat) : Int)))) .a) qe (by kernel_rfl) ?_
     refine aa <| bb (4096 < ((l.length : Nat) : Int)) (by kernel_rfl) (fun ud => ?_) (fun ud => ?_)
     · rw [if_pos ud] at hm
       refine ab <| bA [] (.n 4 (.b ((decide (cW.2.1 = 2)) && (decide (cW.1 = 0)))) .z) qe (by kernel_rfl) ?_
       refine aa <| aL (bI ?_)
       obtain rfl := Option.some.inj hm
       refine aM [.b ((decide (cW.2.1 = 2)) && (decide (cW.1 = 0)))] qe (by kernel_rfl) ?_
       have Ta := PC.ck .z
       exact ⟨rfl, Ta⟩
     rw [if_neg ud] at hm
     refine aS <| aa <| ab <| bA [] (.n 9 (.b false) (.s .a)) qe (by kernel_rfl) ?_
     refine aa <| ab <| bA [] (.n 10 (.b false) .a) qe (by kernel_rfl) ?_
     refine aa <| ab <| bA [] (.n 11 (.v (.float .f64 0)) .a) qe (by kernel_rfl) ?_
     refine aa <| ab <| ab <| bA [] (.n 42 (sl Jd l.length Je) (.n 43 (I ((l.length : Nat) : Int)) (.n 44 (I 0) .a))) qe (by kernel_rfl) ?_
     refine aa <| cu ?_
     have Tb := (((((((((((PC.pk (.t (.t (.t (.t (.t (.t .h))))))).pk (.t (.t .h))).pk (.t (.t .h))).pk (.t (.t (.t (.t (.t .h)))))).pk (.t (.t (.t (.t (.t .h)))))).pk (.t (.t (.t (.t (.t .h)))))).pk (.t (.t (.t (.t (.t (.t (.t (.t (.t (.t (.t .h)))))))))))).pk (.t (.t (.t (.t (.t (.t (.t (.t (.t (.t (.t .h)))))))))))).pk (.t (.t (.t (.t (.t (.t (.t (.t (.t (.t (.t .h)))))))))))).pk (.t (.t (.t (.t (.t (.t (.t (.t (.t .h)))))))))).pk (.t (.t (.t (.t (.t (.t (.t (.t (.t (.t (.t .h)))))))))))).pk (.t (.t (.t (.t (.t (.t (.t (.t (.t (.t (.t .h)))))))))))
     refine pc (fH l cD cW) (fun s L wr => ∃ (sr : Bool) (tz : Bool) (rS : Nat) (oH : Int) (sQ : Nat), (sr, tz, rS, oH) = s ∧ L = [(1, sl Jd l.length Je), (5, pt g1 0), (7, I cW.1), (8, I cW.2.1), (9, .b sr), (10, .b tz), (11, .v (.float .f64 sQ)), (42, sl Jd l.length Je), (43, I ((l.length : Nat) : Int)), (44, I oH)] ∧ Fl rS sQ ∧ Cx F O w wr [Bx 54 g1 [sl A cD.1.length c, pt g2 0], Sh (SH e8) [(A, cD.1.length, c)] [cD.1], Bx 72 g2 [I 1, I 64, .u32 4294967295, .u64 274877906944, .b false, sl A1 cD.2.1.length c1, sl A2 cD.2.2.1.length c2, sl A3 cD.2.2.2.1.length c3, pt g3 0, sl (some ⟨g5, 0, none⟩) cW.2.2.2.2.2.2.2.2.2.2.2.2.2.1.length Vz, .u64 cW.2.2.2.2.2.2.2.2.2.2.2.2.2.2.1, .ar e8 cW.2.2.2.2.2.2.2.2.2.2.2.2.2.2.2.1, I cW.2.2.2.2.2.2.2.2.2.2.2.2.2.2.2.2, .v (.func (.func 65) ⟨SV.ad [pt g2 0]⟩ ⟨SV.ad []⟩)], Sh (SH e8) [(A1, cD.2.1.length, c1)] [cD.2.1], Sh (SH e8) [(A2, cD.2.2.1.length, c2)] [cD.2.2.1], Sh (SH e8) [(A3, cD.2.2.2.1.length, c3)] [cD.2.2.2.1], Bx 115 g3 [I cW.2.2.2.2.2.2.2.1, I cW.2.2.2.2.2.2.2.2.1, sl Vv cW.2.2.2.2.2.2.2.2.2.1.length Vw, sl Vx cW.2.2.2.2.2.2.2.2.2.2.1.length Vy, .b cW.2.2.2.2.2.2.2.2.2.2.2.1, .u64 cW.2.2.2.2.2.2.2.2.2.2.2.2.1, .v (.iface 126 (SV.val (pt g4 0)))], Ow e8 Vv cW.2.2.2.2.2.2.2.2.2.1.length Vw cW.2.2.2.2.2.2.2.2.2.1, Ow e8 Vx cW.2.2.2.2.2.2.2.2.2.2.1.length Vy cW.2.2.2.2.2.2.2.2.2.2.1, Bx 132 g4 [.ar cj cW.2.2.1, .u64 cW.2.2.2.1, .u64 cW.2.2.2.2.1, sl Vt cW.2.2.2.2.2.1.length Vu, I cW.2.2.2.2.2.2.1, .v (.func (.func 73) ⟨SV.ad []⟩ ⟨SV.ad []⟩), .v (.func (.func 74) ⟨SV.ad []⟩ ⟨SV.ad []⟩)], Ow e8 Vt cW.2.2.2.2.2.1.length Vu cW.2.2.2.2.2.1, Sh (SH e8) [((some ⟨g5, 0, none⟩), cW.2.2.2.2.2.2.2.2.2.2.2.2.2.1.length, Vz)] [cW.2.2.2.2.2.2.2.2.2.2.2.2.2.1]]) (false, false, 0, (0 : Int)) r hm ⟨false, false, 0, (0 : Int), 0, rfl, rfl, (Fl.lit (c := 0) (by kernel_rfl)), Tb⟩ (by kernel_rfl) ?_
     intro yU L_ W5 y0 jd dd nF
     obtain ⟨sr, tz, rS, oH, sQ, rfl, rfl, Gr, lg⟩ := jd
     have hm := dd; simp only [fH] at hm
     clear dd
     refine ab <| bA [] (.n 45 (.b (decide (oH < ((l.length : Nat) : Int)))) .a) qe (by kernel_rfl) ?_
     refine aa <| ab <| bb (oH < ((l.length : Nat) : Int)) (by kernel_rfl) (fun FH => ?_) (fun FH => ?_)
     · rw [if_pos FH] at hm
       refine aS <| aa <| ab <| cu <| ab ?_
       obtain ⟨ig, yW, hm⟩ := ob hm
       refine bA [] (.n 13 (.v (.float .f64 ig.toNat)) (.s .a)) (qW (EI.cx lg) yW rfl (.v (.float .f64 ig.toNat)) rfl <| qe) (by kernel_rfl) ?_
       refine aa <| ab <| ab <| ao <| bn 2 [] (.n 48 (.v (.float .f64 ig.toNat)) (.n 49 (.v (.float .f64 ig.toNat)) .a)) qe (by kernel_rfl) ?_
       refine ag <| gG [] 50 (u := ig.toNat) (v := ig.toNat) (by kernel_rfl) (.inr (.inl rfl)) (Fl.u ig) (Fl.u ig) ?_
       refine bn 1 [] (.n 51 (.b (cv .neq (bW ig.toNat) (bW ig.toNat))) (.lj .a)) qe (by kernel_rfl) ?_
       refine my 51 (cv .neq (bW ig.toNat) (bW ig.toNat)) (.s .a) (by kernel_rfl) (fun Gl => ?_) (fun Gl => ?_)
       · rw [if_pos Gl] at hm
         refine bn 3 [51] (.n 54 (.b true) (.s .a)) qe (by kernel_rfl) ?_
         refine af <| aa <| cw true (by kernel_rfl) (fun _ => ?_) (fun h => by cases h)
         refine ab <| ao <| bn 7 [] (.n 61 (.b ((decide (cW.2.1 = 250)) && (decide (cW.1 = 0)))) (.lj (.k .z))) qe (by kernel_rfl) ?_
         refine my 61 ((decide (cW.2.1 = 250)) && (decide (cW.1 = 0))) (.s .a) (by kernel_rfl) (fun Ng => ?_) (fun Ng => ?_)
         · rw [if_pos Ng] at hm
           refine bn 1 [61] (.n 62 (pt g1 0) (.k .z)) qe (by kernel_rfl) ?_
           refine ag ?_
           obtain ⟨HG, Nh, hm⟩ := ob hm
           obtain ⟨W6, W7, Gt, YL, Io, YM, W8⟩ := lg.go (.i (.r (.i (.r (.r (.r (.i (.i (.i (.i (.i (.r .e))))))))))))
           refine aq [61] 63 _ lr (by kernel_rfl) (fP (F := W6) (O := W7) _ _ _ _ _ _ _ _ _ _ _ _ _ _ _ _ _ _ _ _ _ _ _ _ _ _ _ _ _ _ _ _ _ _ _ _ _ _ _ _ _ _ _ _ _ _ _ (Ro.de Gt.off Io 0 rfl) (lg.b8 1 rfl) (lg.cZ 1 rfl) (Ro.de Gt.off Io 1 rfl) (lg.b8 3 rfl) (lg.cZ 3 rfl) (Ro.de Gt.off Io 2 rfl) (lg.b8 4 rfl) (lg.cZ 4 rfl) (Ro.de Gt.off Io 3 rfl) (lg.b8 5 rfl) (lg.cZ 5 rfl) (Ro.de Gt.off Io 4 rfl) (lg.b8 11 rfl) (lg.cZ 11 rfl) Gt _ Nh) ?_
           rintro e_ Tc ⟨YN, _, YO, YP, _, YQ, YR, _, YS, rfl, rfl, rfl, rfl, Td⟩
           have Te := W8 Tc _ _ Td (.c (.c (.c (.c (.c (.c (.c .n)))))))
           refine ⟨.u64 HG.1, rfl, ?_⟩
           have Tf := Te.ck .z
           refine bn 3 [61] (.n 4 (.b (decide (HG.1 = 0))) .z) qe (by kernel_rfl) ?_
           refine af <| aa <| aL (bI (gh (bI (bI (gh (bI ?_))))))
           have hm := d_ hm nF
           obtain rfl := Option.some.inj hm
           refine aM [.b (decide (HG.1 = 0))] qe (by kernel_rfl) ?_
           exact ⟨rfl, Tf⟩
         · rw [if_neg (by rw [Ng]; decide)] at hm
           refine bn 5 [61] (.n 4 (.b false) .z) qe (by kernel_rfl) ?_
           refine af <| aa <| aL (bI (gh (bI (bI (gh (bI ?_))))))
           have hm := d_ hm nF
           obtain rfl := Option.some.inj hm
           refine aM [.b false] qe (by kernel_rfl) ?_
           have Tg := lg.ck .z
           exact ⟨rfl, Tg⟩
       · rw [if_neg (by rw [Gl]; decide)] at hm
         refine bn 1 [51] (.n 52 (.v (.float .f64 ig.toNat)) .a) qe (by kernel_rfl) ?_
         refine ag <| gG [51] 53 (u := ig.toNat) (v := 0) (by kernel_rfl) (.inr (.inr (.inl rfl))) (Fl.u ig) (Fl.lit (c := 0) (by kernel_rfl)) ?_
         refine bn 1 [51] (.n 54 (.b (cv .lss (bW ig.toNat) 0)) (.lj .a)) qe (by kernel_rfl) ?_
         refine af <| aa <| cw (cv .lss (bW ig.toNat) 0) (by kernel_rfl) (fun Ev => ?_) (fun Ev => ?_)
         · rw [if_pos Ev] at hm
           refine ab <| ao <| bn 7 [] (.n 61 (.b ((decide (cW.2.1 = 250)) && (decide (cW.1 = 0)))) (.lj (.k .z))) qe (by kernel_rfl) ?_
           refine my 61 ((decide (cW.2.1 = 250)) && (decide (cW.1 = 0))) (.s .a) (by kernel_rfl) (fun Ni => ?_) (fun Ni => ?_)
           · rw [if_pos Ni] at hm
             refine bn 1 [61] (.n 62 (pt g1 0) (.k .z)) qe (by kernel_rfl) ?_
             refine ag ?_
             obtain ⟨HH, Nj, hm⟩ := ob hm
             obtain ⟨Th, Ti, Bu, W9, Dr, W_, Tj⟩ := lg.go (.i (.r (.i (.r (.r (.r (.i (.i (.i (.i (.i (.r .e))))))))))))
             refine aq [61] 63 _ lr (by kernel_rfl) (fP (F := Th) (O := Ti) _ _ _ _ _ _ _ _ _ _ _ _ _ _ _ _ _ _ _ _ _ _ _ _ _ _ _ _ _ _ _ _ _ _ _ _ _ _ _ _ _ _ _ _ _ _ _ (Ro.de Bu.off Dr 0 rfl) (lg.b8 1 rfl) (lg.cZ 1 rfl) (Ro.de Bu.off Dr 1 rfl) (lg.b8 3 rfl) (lg.cZ 3 rfl) (Ro.de Bu.off Dr 2 rfl) (lg.b8 4 rfl) (lg.cZ 4 rfl) (Ro.de Bu.off Dr 3 rfl) (lg.b8 5 rfl) (lg.cZ 5 rfl) (Ro.de Bu.off Dr 4 rfl) (lg.b8 11 rfl) (lg.cZ 11 rfl) Bu _ Nj) ?_
             rintro e_ Tk ⟨YT, _, YU, YV, _, YW, YX, _, YY, rfl, rfl, rfl, rfl, Tl⟩
             have Tm := Tj Tk _ _ Tl (.c (.c (.c (.c (.c (.c (.c .n)))))))
             refine ⟨.u64 HH.1, rfl, ?_⟩
             have Tn := Tm.ck .z
             refine bn 3 [61] (.n 4 (.b (decide (HH.1 = 0))) .z) qe (by kernel_rfl) ?_
             refine af <| aa <| aL (bI (gh (bI (bI (gh (bI ?_))))))
             have hm := d_ hm nF
             obtain rfl := Option.some.inj hm
             refine aM [.b (decide (HH.1 = 0))] qe (by kernel_rfl) ?_
             exact ⟨rfl, Tn⟩
           · rw [if_neg (by rw [Ni]; decide)] at hm
             refine bn 5 [61] (.n 4 (.b false) .z) qe (by kernel_rfl) ?_
             refine af <| aa <| aL (bI (gh (bI (bI (gh (bI ?_))))))
             have hm := d_ hm nF
             obtain rfl := Option.some.inj hm
             refine aM [.b false] qe (by kernel_rfl) ?_
             have To := lg.ck .z
             exact ⟨rfl, To⟩
         rw [if_neg (by rw [Ev]; decide)] at hm
         refine aS <| aa <| ab <| ao <| bn 2 [] (.n 67 (.b sr) (.s .a)) qe (by kernel_rfl) ?_
         refine my 67 sr (.s .a) (by kernel_rfl) (fun Nk => ?_) (fun Nk => ?_)
         · rw [if_pos Nk] at hm
           refine bn 4 [67] (.n 9 (.b true) (.s (.aP (.k (.s .a))))) qe (by kernel_rfl) ?_
           refine af <| aa <| ab <| ao <| bn 2 [] (.n 72 (.b tz) .a) qe (by kernel_rfl) ?_
           refine my 72 tz (.s .a) (by kernel_rfl) (fun Nl => ?_) (fun Nl => ?_)
           · rw [if_pos Nl] at hm
             refine bn 6 [72] (.n 10 (.b true) (.s (.aP (.kk (.s .a))))) qe (by kernel_rfl) ?_
             refine af <| aa <| ao <| bn 2 [] (.n 78 (.v (.float .f64 sQ)) (.n 79 (.v (.float .f64 ig.toNat)) (.kk (.s .a)))) qe (by kernel_rfl) ?_
             refine ag <| ki [] 80 (u := sQ) (v := ig.toNat) (by kernel_rfl) (.inl rfl) Gr (Fl.u ig) lg ?_
             intro PD Xa PE Tp
             refine bn 1 [] (.n 11 (.v (.float .f64 PD)) (.lj (.aP (.kk (.s .a))))) qe (by kernel_rfl) ?_
             refine af <| hH <| aa <| bA [] (.n 44 (I (aB (oH + 1))) (.aP (.aP (.k .z)))) qe (by kernel_rfl) ?_
             exact jR (true, true, jO .add rS (bW ig.toNat), aB (oH + 1)) (Option.some.inj hm).symm ⟨true, true, jO .add rS (bW ig.toNat), aB (oH + 1), PD, rfl, rfl, PE, Tp⟩ (by kernel_rfl)
           · rw [if_neg (by rw [Nl]; decide)] at hm
             refine bn 2 [72] (.n 73 (.v (.float .f64 ig.toNat)) (.n 74 (.v (.float .f64 ig.toNat)) .a)) qe (by kernel_rfl) ?_
             refine ag <| ki [72] 75 (u := ig.toNat) (v := ig.toNat) (by kernel_rfl) (.inr (.inl rfl)) (Fl.u ig) (Fl.u ig) lg ?_
             intro Tq Xb PF Tr
             refine ag <| gG [72] 76 (u := Tq) (v := 0) (by kernel_rfl) (.inr (.inl rfl)) PF (Fl.lit (c := 0) (by kernel_rfl)) ?_
             refine bn 2 [72] (.n 10 (.b (cv .neq (jO .sub (bW ig.toNat) (bW ig.toNat)) 0)) (.fQ (.s (.aP (.kk (.s .a)))))) qe (by kernel_rfl) ?_
             refine af <| aa <| ao <| bn 2 [] (.n 78 (.v (.float .f64 sQ)) (.n 79 (.v (.float .f64 ig.toNat)) (.kk (.s .a)))) qe (by kernel_rfl) ?_
             refine ag ?_
             have Ts := Tr.ck (.aP (.aP (.aP .e)))
             refine ki [] 80 (u := sQ) (v := ig.toNat) (by kernel_rfl) (.inl rfl) Gr (Fl.u ig) Ts ?_
             intro PG Xc PH Tt
             refine bn 1 [] (.n 11 (.v (.float .f64 PG)) (.lj (.aP (.kk (.s .a))))) qe (by kernel_rfl) ?_
             refine af <| hH <| aa <| bA [] (.n 44 (I (aB (oH + 1))) (.aP (.aP (.k .z)))) qe (by kernel_rfl) ?_
             exact jR (true, cv .neq (jO .sub (bW ig.toNat) (bW ig.toNat)) 0, jO .add rS (bW ig.toNat), aB (oH + 1)) (Option.some.inj hm).symm ⟨true, cv .neq (jO .sub (bW ig.toNat) (bW ig.toNat)) 0, jO .add rS (bW ig.toNat), aB (oH + 1), PG, rfl, rfl, PH, Tt⟩ (by kernel_rfl)
         · rw [if_neg (by rw [Nk]; decide)] at hm
           refine bn 1 [67] (.n 68 (.v (.float .f64 ig.toNat)) .a) qe (by kernel_rfl) ?_
           refine ag <| gG [67] 69 (u := ig.toNat) (v := 0) (by kernel_rfl) (.inr (.inr (.inr (.inr (.inl rfl))))) (Fl.u ig) (Fl.lit (c := 0) (by kernel_rfl)) ?_
           refine bn 2 [67] (.n 9 (.b (cv .gtr (bW ig.toNat) 0)) (.lj (.aP (.k (.s .a))))) qe (by kernel_rfl) ?_
           refine af <| aa <| ab <| ao <| bn 2 [] (.n 72 (.b tz) .a) qe (by kernel_rfl) ?_
           refine my 72 tz (.s .a) (by kernel_rfl) (fun Nn => ?_) (fun Nn => ?_)
           · rw [if_pos Nn] at hm
             refine bn 6 [72] (.n 10 (.b true) (.s (.aP (.kk (.s .a))))) qe (by kernel_rfl) ?_
             refine af <| aa <| ao <| bn 2 [] (.n 78 (.v (.float .f64 sQ)) (.n 79 (.v (.float .f64 ig.toNat)) (.kk (.s .a)))) qe (by kernel_rfl) ?_
             refine ag <| ki [] 80 (u := sQ) (v := ig.toNat) (by kernel_rfl) (.inl rfl) Gr (Fl.u ig) lg ?_
             intro PI Xd PJ Tu
             refine bn 1 [] (.n 11 (.v (.float .f64 PI)) (.lj (.aP (.kk (.s .a))))) qe (by kernel_rfl) ?_
             refine af <| hH <| aa <| bA [] (.n 44 (I (aB (oH + 1))) (.aP (.aP (.k .z)))) qe (by kernel_rfl) ?_
             exact jR (cv .gtr (bW ig.toNat) 0, true, jO .add rS (bW ig.toNat), aB (oH + 1)) (Option.some.inj hm).symm ⟨cv .gtr (bW ig.toNat) 0, true, jO .add rS (bW ig.toNat), aB (oH + 1), PI, rfl, rfl, PJ, Tu⟩ (by kernel_rfl)
           · rw [if_neg (by rw [Nn]; decide)] at hm
             refine bn 2 [72] (.n 73 (.v (.float .f64 ig.toNat)) (.n 74 (.v (.float .f64 ig.toNat)) .a)) qe (by kernel_rfl) ?_
             refine ag <| ki [72] 75 (u := ig.toNat) (v := ig.toNat) (by kernel_rfl) (.inr (.inl rfl)) (Fl.u ig) (Fl.u ig) lg ?_
             intro Tv Xe PK Tw
             refine ag ?_
             have Tx := Tw.ck (.aP (.aP (.aP .e)))
             refine gG [72] 76 (u := Tv) (v := 0) (by kernel_rfl) (.inr (.inl rfl)) PK (Fl.lit (c := 0) (by kernel_rfl)) ?_
             refine bn 2 [72] (.n 10 (.b (cv .neq (jO .sub (bW ig.toNat) (bW ig.toNat)) 0)) (.fQ (.s (.aP (.kk (.s .a)))))) qe (by kernel_rfl) ?_
             refine af <| aa <| ao <| bn 2 [] (.n 78 (.v (.float .f64 sQ)) (.n 79 (.v (.float .f64 ig.toNat)) (.kk (.s .a)))) qe (by kernel_rfl) ?_
             refine ag <| ki [] 80 (u := sQ) (v := ig.toNat) (by kernel_rfl) (.inl rfl) Gr (Fl.u ig) Tx ?_
             intro PL Xf PM Ty
             refine bn 1 [] (.n 11 (.v (.float .f64 PL)) (.lj (.aP (.kk (.s .a))))) qe (by kernel_rfl) ?_
             refine af <| hH <| aa <| bA [] (.n 44 (I (aB (oH + 1))) (.aP (.aP (.k .z)))) qe (by kernel_rfl) ?_
             exact jR (cv .gtr (bW ig.toNat) 0, cv .neq (jO .sub (bW ig.toNat) (bW ig.toNat)) 0, jO .add rS (bW ig.toNat), aB (oH + 1)) (Option.some.inj hm).symm ⟨cv .gtr (bW ig.toNat) 0, cv .neq (jO .sub (bW ig.toNat) (bW ig.toNat)) 0, jO .add rS (bW ig.toNat), aB (oH + 1), PL, rfl, rfl, PM, Ty⟩ (by kernel_rfl)
     rw [if_neg FH] at hm
     refine iq (fe (fe (kG ?_)))
     have hm := d_ hm nF
     refine aa <| ab <| ab <| bA [] (.n 83 (.b (!sr)) (.s (.aP (.s (.kk .z))))) qe (by kernel_rfl) ?_
     refine aa <| cw (!sr) (by kernel_rfl) (fun Ku => ?_) (fun Ku => ?_)
     · rw [if_pos Ku] at hm
       refine ab <| ao <| bn 7 [] (.n 90 (.b ((decide (cW.2.1 = 251)) && (decide (cW.1 = 0)))) (.ss (.k .z))) qe (by kernel_rfl) ?_
       refine my 90 ((decide (cW.2.1 = 251)) && (decide (cW.1 = 0))) (.s .a) (by kernel_rfl) (fun No => ?_) (fun No => ?_)
       · rw [if_pos No] at hm
         refine bn 1 [90] (.n 91 (pt g1 0) (.k .z)) qe (by kernel_rfl) ?_
         refine ag ?_
         obtain ⟨HI, Np, hm⟩ := ob hm
         obtain ⟨Tz, TA, Bv, Xg, Ds, Xh, TB⟩ := lg.go (.i (.r (.i (.r (.r (.r (.i (.i (.i (.i (.i (.r .e))))))))))))
         refine aq [90] 92 _ lr (by kernel_rfl) (fP (F := Tz) (O := TA) _ _ _ _ _ _ _ _ _ _ _ _ _ _ _ _ _ _ _ _ _ _ _ _ _ _ _ _ _ _ _ _ _ _ _ _ _ _ _ _ _ _ _ _ _ _ _ (Ro.de Bv.off Ds 0 rfl) (lg.b8 1 rfl) (lg.cZ 1 rfl) (Ro.de Bv.off Ds 1 rfl) (lg.b8 3 rfl) (lg.cZ 3 rfl) (Ro.de Bv.off Ds 2 rfl) (lg.b8 4 rfl) (lg.cZ 4 rfl) (Ro.de Bv.off Ds 3 rfl) (lg.b8 5 rfl) (lg.cZ 5 rfl) (Ro.de Bv.off Ds 4 rfl) (lg.b8 11 rfl) (lg.cZ 11 rfl) Bv _ Np) ?_
         rintro e_ TC ⟨YZ, _, Y0, Y1, _, Y2, Y3, _, Y4, rfl, rfl, rfl, rfl, TD⟩
         have TE := TB TC _ _ TD (.c (.c (.c (.c (.c (.c (.c .n)))))))
         refine ⟨.u64 HI.1, rfl, ?_⟩
         have TG := TE.ck .z
         refine bn 3 [90] (.n 4 (.b (decide (HI.1 = 0))) .z) qe (by kernel_rfl) ?_
         refine af <| aa <| aL (bI ?_)
         obtain rfl := Option.some.inj hm
         refine aM [.b (decide (HI.1 = 0))] qe (by kernel_rfl) ?_
         exact ⟨rfl, TG⟩
       · rw [if_neg (by rw [No]; decide)] at hm
         refine bn 5 [90] (.n 4 (.b false) .z) qe (by kernel_rfl) ?_
         refine af <| aa <| aL (bI ?_)
         obtain rfl := Option.some.inj hm
         refine aM [.b false] qe (by kernel_rfl) ?_
         have TH := lg.ck .z
         exact ⟨rfl, TH⟩
     rw [if_neg (by rw [Ku]; decide)] at hm
     refine aS <| aa <| ab <| ab <| ao <| bn 3 [] (.n 97 (.b (!tz)) (.s .a)) qe (by kernel_rfl) ?_
     refine my 97 (!tz) (.s .a) (by kernel_rfl) (fun Nq => ?_) (fun Nq => ?_)
     · rw [if_pos Nq] at hm
       refine bn 2 [97] (.n 98 (.v (.float .f64 sQ)) (.n 99 (.v (.float .f64 sQ)) (.aP (.kk .z)))) qe (by kernel_rfl) ?_
       refine ag <| ki [97] 100 (u := sQ) (v := sQ) (by kernel_rfl) (.inr (.inl rfl)) Gr Gr lg ?_
       intro TI Xi PN yD
       refine ag <| gG [97] 101 (u := TI) (v := 0) (by kernel_rfl) (.inr (.inl rfl)) PN (Fl.lit (c := 0) (by kernel_rfl)) ?_
       refine bn 1 [97] (.n 102 (.b (cv .neq (jO .sub rS rS) 0)) (.fQ (.s .a))) qe (by kernel_rfl) ?_
       refine af <| aa <| cw (cv .neq (jO .sub rS rS) 0) (by kernel_rfl) (fun Ew => ?_) (fun Ew => ?_)
       · rw [if_pos Ew] at hm
         refine ab <| ao <| bn 7 [] (.n 109 (.b ((decide (cW.2.1 = 250)) && (decide (cW.1 = 0)))) (.ss (.k .z))) qe (by kernel_rfl) ?_
         refine my 109 ((decide (cW.2.1 = 250)) && (decide (cW.1 = 0))) (.s .a) (by kernel_rfl) (fun Nr => ?_) (fun Nr => ?_)
         · rw [if_pos Nr] at hm
           refine bn 1 [109] (.n 110 (pt g1 0) (.k .z)) qe (by kernel_rfl) ?_
           refine ag ?_
           obtain ⟨HJ, Ns, hm⟩ := ob hm
           obtain ⟨TJ, TK, Bw, Xj, Dt, Xk, TL⟩ := yD.go (.i (.r (.i (.r (.r (.r (.i (.i (.i (.i (.i (.r .e))))))))))))
           refine aq [109] 111 _ lr (by kernel_rfl) (fP (F := TJ) (O := TK) _ _ _ _ _ _ _ _ _ _ _ _ _ _ _ _ _ _ _ _ _ _ _ _ _ _ _ _ _ _ _ _ _ _ _ _ _ _ _ _ _ _ _ _ _ _ _ (Ro.de Bw.off Dt 0 rfl) (yD.b8 1 rfl) (yD.cZ 1 rfl) (Ro.de Bw.off Dt 1 rfl) (yD.b8 3 rfl) (yD.cZ 3 rfl) (Ro.de Bw.off Dt 2 rfl) (yD.b8 4 rfl) (yD.cZ 4 rfl) (Ro.de Bw.off Dt 3 rfl) (yD.b8 5 rfl) (yD.cZ 5 rfl) (Ro.de Bw.off Dt 4 rfl) (yD.b8 11 rfl) (yD.cZ 11 rfl) Bw _ Ns) ?_
           rintro e_ TM ⟨Y5, _, Y6, Y7, _, Y8, Y9, _, Y_, rfl, rfl, rfl, rfl, TN⟩
           have TO := TL TM _ _ TN (.c (.c (.c (.c (.c (.c (.c .n)))))))
           refine ⟨.u64 HJ.1, rfl, ?_⟩
           have TP := TO.ck .z
           refine bn 3 [109] (.n 4 (.b (decide (HJ.1 = 0))) .z) qe (by kernel_rfl) ?_
           refine af <| aa <| aL (bI ?_)
           obtain rfl := Option.some.inj hm
           refine aM [.b (decide (HJ.1 = 0))] qe (by kernel_rfl) ?_
           exact ⟨rfl, TP⟩
         · rw [if_neg (by rw [Nr]; decide)] at hm
           refine bn 5 [109] (.n 4 (.b false) .z) qe (by kernel_rfl) ?_
           refine af <| aa <| aL (bI ?_)
           obtain rfl := Option.some.inj hm
           refine aM [.b false] qe (by kernel_rfl) ?_
           have TQ := yD.ck .z
           exact ⟨rfl, TQ⟩
       rw [if_neg (by rw [Ew]; decide)] at hm
       refine aS <| aa <| ab ?_
       have vZ := yD.drew 1
       refine Hr bw (.q 0 4 (.q 1 4 (.q 2 4 (.q 3 4 (.q 4 4 (.q 5 4 (.q 6 3 (.q 7 4 (.q 8 4 (.q 9 4 (.q 10 4 (.q 11 4 (.q 12 3 (.q 13 4 (.q 14 4 (.q 15 4 (.q 16 4 (.op 17 (.q 18 4 (.q 19 2 (.q 20 4 (.q 21 4 (.q 22 4 (.q 23 4 (.q 24 4 (.q 25 4 (.q 26 4 (.q 27 4 (.q 28 4 (.q 29 4 (.q 30 4 (.op 31 (.op 32 (.q 33 4 (.q 34 4 (.q 35 4 (.q 36 3 (.op 37 (.q 38 4 (.q 39 4 (.q 40 4 .nil))))))))))))))))))))))))))))))))))))))))) [17, 31, 32, 37] vZ (.c (.aP (.aP (.aP .e))) (.c (.aP (.aP (.aP .e))) (.c (.aP (.aP (.aP .e))) (.c (.s (.k (.s (.kk (.k (.fQ (.s (.k .e)))))))) .l)))) (by kernel_rfl) (fun _ => ?_)
       refine bx 6 4 [] (.n 119 (.b ((decide (cW.2.1 = 0)) && (decide (0 ≤ cW.1)))) (.s (.ua (.s .a)))) (fun x hx => qe) (by kernel_rfl) (fun _ => ?_)
       refine bx 1 3 [] (.n 120 (.b ((decide (cW.2.1 = 0)) && (decide (0 ≤ cW.1)))) (.s .a)) (fun x hx => qe) (by kernel_rfl) (fun _ => ?_)
       refine bx 5 4 [] (.n 125 (.b (((decide (cW.2.1 = 0)) && (decide (0 ≤ cW.1))) && (decide (cW.1 < ((l.length : Nat) : Int))))) (.s .a)) (fun x hx => qe) (by kernel_rfl) (fun _ => ?_)
       refine bx 1 3 [] (.n 126 (.b (((decide (cW.2.1 = 0)) && (decide (0 ≤ cW.1))) && (decide (cW.1 < ((l.length : Nat) : Int))))) (.s .a)) (fun x hx => qe) (by kernel_rfl) (fun _ => ?_)
       refine qz 126 (((decide (cW.2.1 = 0)) && (decide (0 ≤ cW.1))) && (decide (cW.1 < ((l.length : Nat) : Int)))) (.s .a) (by kernel_rfl) (fun Nt _ => ?_) (fun Nt _ => ?_)
       · rw [if_pos Nt] at hm
         obtain ⟨kY, tC, hm⟩ := ob hm
         refine bx 4 4 [126] (.n 130 (.v (.float .f64 kY.toNat)) .a) (fun x hx => qW (EI.cx hx) tC rfl (.v (.float .f64 kY.toNat)) rfl <| qe) (by kernel_rfl) (fun _ => ?_)
         refine bZ (by kernel_rfl) rfl <| gG [126] 131 (u := kY.toNat) (v := 0) (by kernel_rfl) (.inr (.inr (.inr (.inr (.inl rfl))))) (Fl.u kY) (Fl.lit (c := 0) (by kernel_rfl)) ?_
         refine ⟨vZ, fun _ => ?_⟩
         refine bx 1 4 [126] (.n 132 (.b (cv .gtr (bW kY.toNat) 0)) (.lj .a)) (fun x hx => qe) (by kernel_rfl) (fun _ => ?_)
         refine bx 1 2 [] (.n 133 (.b (cv .gtr (bW kY.toNat) 0)) (.s .a)) (fun x hx => qe) (by kernel_rfl) (fun _ => ?_)
         refine qz 133 (cv .gtr (bW kY.toNat) 0) (.s .a) (by kernel_rfl) (fun Nu _ => ?_) (fun Nu _ => ?_)
         · rw [if_pos Nu] at hm
           refine bx 3 4 [133] (.n 136 (.b (!tz)) (.aP .z)) (fun x hx => qe) (by kernel_rfl) (fun _ => ?_)
           refine qz 136 (!tz) (.s .a) (by kernel_rfl) (fun Nv _ => ?_) (fun Nv _ => ?_)
           · rw [if_pos Nv] at hm
             refine bx 8 4 [136] (.n 140 (.eO []) (.n 144 (.eO []) (.kk (.s (.k .z))))) (fun x hx => qe) (by kernel_rfl) (fun _ => ?_)
             refine fu 145 [136] (by kernel_rfl) rfl (by kernel_rfl) (fun _ => ?_)
             refine fu 146 [136] (by kernel_rfl) rfl (by kernel_rfl) (fun _ => ?_)
             refine bx 3 4 [133, 136] (.n 149 (.b true) (.fQ (.ss .a))) (fun x hx => qe) (by kernel_rfl) (fun _ => ?_)
             refine bx 1 3 [149] (.n 150 (pt g1 0) (.k .z)) (fun x hx => qe) (by kernel_rfl) (fun _ => ?_)
             refine bZ (by kernel_rfl) rfl ?_
             obtain ⟨HK, Nw, hm⟩ := ob hm
             obtain ⟨TR, TS, By, Xl, Du, Xm, TT⟩ := vZ.go (.i (.r (.i (.r (.r (.r (.i (.i (.i (.i (.i (.r .e))))))))))))
             refine aq [149] 151 _ lr (by kernel_rfl) (fP (F := TR) (O := TS) _ _ _ _ _ _ _ _ _ _ _ _ _ _ _ _ _ _ _ _ _ _ _ _ _ _ _ _ _ _ _ _ _ _ _ _ _ _ _ _ _ _ _ _ _ _ _ (Ro.de By.off Du 0 rfl) (vZ.b8 1 rfl) (vZ.cZ 1 rfl) (Ro.de By.off Du 1 rfl) (vZ.b8 3 rfl) (vZ.cZ 3 rfl) (Ro.de By.off Du 2 rfl) (vZ.b8 4 rfl) (vZ.cZ 4 rfl) (Ro.de By.off Du 3 rfl) (vZ.b8 5 rfl) (vZ.cZ 5 rfl) (Ro.de By.off Du 4 rfl) (vZ.b8 11 rfl) (vZ.cZ 11 rfl) By _ Nw) ?_
             rintro e_ TU ⟨Za, _, Zb, Zc, _, Zd, Ze, _, Zf, rfl, rfl, rfl, rfl, TV⟩
             have TW := TT TU _ _ TV (.c (.c (.c (.c (.c (.c (.c .n)))))))
             refine ⟨.u64 HK.1, rfl, ?_⟩
             have LL := TW.ck (.fQ (.ss (.s (.aP (.k .e)))))
             refine ⟨LL, fun _ => ?_⟩
             refine bx 3 4 [149] (.n 4 (.b (decide ((1 : UInt64) ≤ HK.1))) .z) (fun x hx => qe) (by kernel_rfl) (fun _ => ?_)
             refine ct <| aa <| aL ?_
             obtain rfl := Option.some.inj hm
             refine aM [.b (decide ((1 : UInt64) ≤ HK.1))] qe (by kernel_rfl) ?_
             have PO := LL.ck .z
             exact ⟨rfl, PO⟩
           · rw [if_neg (by rw [Nv]; decide)] at hm
             obtain ⟨ek, wQ, hm⟩ := ob hm
             obtain ⟨qQ, yr, hm⟩ := ob hm
             refine bx 8 4 [136] (.n 140 (.v (.float .f64 ek.toNat)) (.n 144 (.v (.float .f64 qQ.toNat)) (.kk (.s (.k .z))))) (fun x hx => qW (EI.cx hx) wQ rfl (.v (.float .f64 ek.toNat)) rfl <| qW (EI.cx hx) yr rfl (.v (.float .f64 qQ.toNat)) rfl <| qe) (by kernel_rfl) (fun _ => ?_)
             refine bZ (by kernel_rfl) rfl <| ki [136] 145 (u := ek.toNat) (v := qQ.toNat) (by kernel_rfl) (.inr (.inl rfl)) (Fl.u ek) (Fl.u qQ) vZ ?_
             intro TX Xn PQ LM
             refine ⟨LM, fun _ => ?_⟩
             refine bZ (by kernel_rfl) rfl ?_
             have sS := LM.ck (.aP (.aP (.aP .e)))
             refine gG [136] 146 (u := TX) (v := 0) (by kernel_rfl) (.inr (.inl rfl)) PQ (Fl.lit (c := 0) (by kernel_rfl)) ?_
             refine ⟨sS, fun _ => ?_⟩
             refine bx 3 4 [133, 136] (.n 149 (.b (cv .neq (jO .sub (bW ek.toNat) (bW qQ.toNat)) 0)) (.fQ (.ss .a))) (fun x hx => qe) (by kernel_rfl) (fun _ => ?_)
             refine qz 149 (cv .neq (jO .sub (bW ek.toNat) (bW qQ.toNat)) 0) (.s .a) (by kernel_rfl) (fun Nx _ => ?_) (fun Nx _ => ?_)
             · rw [if_pos Nx] at hm
               refine bx 1 3 [149] (.n 150 (pt g1 0) (.k .z)) (fun x hx => qe) (by kernel_rfl) (fun _ => ?_)
               refine bZ (by kernel_rfl) rfl ?_
               obtain ⟨HL, Ny, hm⟩ := ob hm
               obtain ⟨TY, TZ, Bz, Xo, Dv, Xp, T0⟩ := sS.go (.i (.r (.i (.r (.r (.r (.i (.i (.i (.i (.i (.r .e))))))))))))
               refine aq [149] 151 _ lr (by kernel_rfl) (fP (F := TY) (O := TZ) _ _ _ _ _ _ _ _ _ _ _ _ _ _ _ _ _ _ _ _ _ _ _ _ _ _ _ _ _ _ _ _ _ _ _ _ _ _ _ _ _ _ _ _ _ _ _ (Ro.de Bz.off Dv 0 rfl) (sS.b8 1 rfl) (sS.cZ 1 rfl) (Ro.de Bz.off Dv 1 rfl) (sS.b8 3 rfl) (sS.cZ 3 rfl) (Ro.de Bz.off Dv 2 rfl) (sS.b8 4 rfl) (sS.cZ 4 rfl) (Ro.de Bz.off Dv 3 rfl) (sS.b8 5 rfl) (sS.cZ 5 rfl) (Ro.de Bz.off Dv 4 rfl) (sS.b8 11 rfl) (sS.cZ 11 rfl) Bz _ Ny) ?_
               rintro e_ T1 ⟨Zg, _, Zh, Zi, _, Zj, Zk, _, Zl, rfl, rfl, rfl, rfl, PR⟩
               have PS := T0 T1 _ _ PR (.c (.c (.c (.c (.c (.c (.c .n)))))))
               refine ⟨.u64 HL.1, rfl, ?_⟩
               have LN := PS.ck (.fQ (.ss (.s (.aP (.k .e)))))
               refine ⟨LN, fun _ => ?_⟩
               refine bx 3 4 [149] (.n 4 (.b (decide ((1 : UInt64) ≤ HL.1))) .z) (fun x hx => qe) (by kernel_rfl) (fun _ => ?_)
               refine ct <| aa <| aL ?_
               obtain rfl := Option.some.inj hm
               refine aM [.b (decide ((1 : UInt64) ≤ HL.1))] qe (by kernel_rfl) ?_
               have PT := LN.ck .z
               exact ⟨rfl, PT⟩
             · rw [if_neg (by rw [Nx]; decide)] at hm
               refine bx 1 3 [149] (.n 150 (.eO []) (.k .z)) (fun x hx => qe) (by kernel_rfl) (fun _ => ?_)
               refine fu 151 [149] (by kernel_rfl) rfl (by kernel_rfl) (fun _ => ?_)
               refine bx 3 4 [149] (.n 4 (.b false) .z) (fun x hx => qe) (by kernel_rfl) (fun _ => ?_)
               refine ct <| aa <| aL ?_
               obtain rfl := Option.some.inj hm
               refine aM [.b false] qe (by kernel_rfl) ?_
               have PU := sS.ck .z
               exact ⟨rfl, PU⟩
         · rw [if_neg (by rw [Nu]; decide)] at hm
           refine bx 3 4 [133] (.n 136 (.eO []) (.aP .z)) (fun x hx => qe) (by kernel_rfl) (fun _ => ?_)
           refine bx 8 4 [136] (.n 140 (.eO []) (.n 144 (.eO []) (.kk (.s (.k .z))))) (fun x hx => qe) (by kernel_rfl) (fun _ => ?_)
           refine fu 145 [136] (by kernel_rfl) rfl (by kernel_rfl) (fun _ => ?_)
           refine fu 146 [136] (by kernel_rfl) rfl (by kernel_rfl) (fun _ => ?_)
           refine bx 3 4 [133] (.n 149 (.b false) (.fQ (.ss .a))) (fun x hx => qe) (by kernel_rfl) (fun _ => ?_)
           refine bx 1 3 [149] (.n 150 (.eO []) (.k .z)) (fun x hx => qe) (by kernel_rfl) (fun _ => ?_)
           refine fu 151 [149] (by kernel_rfl) rfl (by kernel_rfl) (fun _ => ?_)
           refine bx 3 4 [149] (.n 4 (.b false) .z) (fun x hx => qe) (by kernel_rfl) (fun _ => ?_)
           refine ct <| aa <| aL ?_
           obtain rfl := Option.some.inj hm
           refine aM [.b false] qe (by kernel_rfl) ?_
           have PV := vZ.ck .z
           exact ⟨rfl, PV⟩
       · rw [if_neg (by rw [Nt]; decide)] at hm
         refine bx 4 4 [126] (.n 130 (.eO []) .a) (fun x hx => qe) (by kernel_rfl) (fun _ => ?_)
         refine fu 131 [126] (by kernel_rfl) rfl (by kernel_rfl) (fun _ => ?_)
         refine bx 1 4 [126] (.n 132 (.b false) (.lj .a)) (fun x hx => qe) (by kernel_rfl) (fun _ => ?_)
         refine bx 1 2 [] (.n 133 (.b false) (.s .a)) (fun x hx => qe) (by kernel_rfl) (fun _ => ?_)
         refine bx 3 4 [133] (.n 136 (.eO []) (.aP .z)) (fun x hx => qe) (by kernel_rfl) (fun _ => ?_)
         refine bx 8 4 [136] (.n 140 (.eO []) (.n 144 (.eO []) (.kk (.s (.k .z))))) (fun x hx => qe) (by kernel_rfl) (fun _ => ?_)
         refine fu 145 [136] (by kernel_rfl) rfl (by kernel_rfl) (fun _ => ?_)
         refine fu 146 [136] (by kernel_rfl) rfl (by kernel_rfl) (fun _ => ?_)
         refine bx 3 4 [133] (.n 149 (.b false) (.fQ (.ss .a))) (fun x hx => qe) (by kernel_rfl) (fun _ => ?_)
         refine bx 1 3 [149] (.n 150 (.eO []) (.k .z)) (fun x hx => qe) (by kernel_rfl) (fun _ => ?_)
         refine fu 151 [149] (by kernel_rfl) rfl (by kernel_rfl) (fun _ => ?_)
         refine bx 3 4 [149] (.n 4 (.b false) .z) (fun x hx => qe) (by kernel_rfl) (fun _ => ?_)
         refine ct <| aa <| aL ?_
         obtain rfl := Option.some.inj hm
         refine aM [.b false] qe (by kernel_rfl) ?_
         have PW := vZ.ck .z
         exact ⟨rfl, PW⟩
     · rw [if_neg (by rw [Nq]; decide)] at hm
       refine bn 5 [97] (.n 102 (.b false) (.s (.aP (.k .z)))) qe (by kernel_rfl) ?_
       refine af <| aa <| cw false (by kernel_rfl) (fun h => by cases h) (fun _ => ?_)
       refine aS <| aa <| ab ?_
       have qE := lg.drew 1
       refine Hr bw (.q 0 4 (.q 1 4 (.q 2 4 (.q 3 4 (.q 4 4 (.q 5 4 (.q 6 3 (.q 7 4 (.q 8 4 (.q 9 4 (.q 10 4 (.q 11 4 (.q 12 3 (.q 13 4 (.q 14 4 (.q 15 4 (.q 16 4 (.op 17 (.q 18 4 (.q 19 2 (.q 20 4 (.q 21 4 (.q 22 4 (.q 23 4 (.q 24 4 (.q 25 4 (.q 26 4 (.q 27 4 (.q 28 4 (.q 29 4 (.q 30 4 (.op 31 (.op 32 (.q 33 4 (.q 34 4 (.q 35 4 (.q 36 3 (.op 37 (.q 38 4 (.q 39 4 (.q 40 4 .nil))))))))))))))))))))))))))))))))))))))))) [17, 31, 32, 37] qE (.c (.aP (.aP (.aP .e))) (.c (.aP (.aP (.aP .e))) (.c (.aP (.aP (.aP .e))) (.c (.s (.k (.s (.kk (.k (.fQ (.s (.k .e)))))))) .l)))) (by kernel_rfl) (fun _ => ?_)
       refine bx 6 4 [] (.n 119 (.b ((decide (cW.2.1 = 0)) && (decide (0 ≤ cW.1)))) (.s (.ua (.s .a)))) (fun x hx => qe) (by kernel_rfl) (fun _ => ?_)
       refine bx 1 3 [] (.n 120 (.b ((decide (cW.2.1 = 0)) && (decide (0 ≤ cW.1)))) (.s .a)) (fun x hx => qe) (by kernel_rfl) (fun _ => ?_)
       refine bx 5 4 [] (.n 125 (.b (((decide (cW.2.1 = 0)) && (decide (0 ≤ cW.1))) && (decide (cW.1 < ((l.length : Nat) : Int))))) (.s .a)) (fun x hx => qe) (by kernel_rfl) (fun _ => ?_)
       refine bx 1 3 [] (.n 126 (.b (((decide (cW.2.1 = 0)) && (decide (0 ≤ cW.1))) && (decide (cW.1 < ((l.length : Nat) : Int))))) (.s .a)) (fun x hx => qe) (by kernel_rfl) (fun _ => ?_)
       refine qz 126 (((decide (cW.2.1 = 0)) && (decide (0 ≤ cW.1))) && (decide (cW.1 < ((l.length : Nat) : Int)))) (.s .a) (by kernel_rfl) (fun Nz _ => ?_) (fun Nz _ => ?_)
       · rw [if_pos Nz] at hm
         obtain ⟨rQ, yt, hm⟩ := ob hm
         refine bx 4 4 [126] (.n 130 (.v (.float .f64 rQ.toNat)) .a) (fun x hx => qW (EI.cx hx) yt rfl (.v (.float .f64 rQ.toNat)) rfl <| qe) (by kernel_rfl) (fun _ => ?_)
         refine bZ (by kernel_rfl) rfl <| gG [126] 131 (u := rQ.toNat) (v := 0) (by kernel_rfl) (.inr (.inr (.inr (.inr (.inl rfl))))) (Fl.u rQ) (Fl.lit (c := 0) (by kernel_rfl)) ?_
         refine ⟨qE, fun _ => ?_⟩
         refine bx 1 4 [126] (.n 132 (.b (cv .gtr (bW rQ.toNat) 0)) (.lj .a)) (fun x hx => qe) (by kernel_rfl) (fun _ => ?_)
         refine bx 1 2 [] (.n 133 (.b (cv .gtr (bW rQ.toNat) 0)) (.s .a)) (fun x hx => qe) (by kernel_rfl) (fun _ => ?_)
         refine qz 133 (cv .gtr (bW rQ.toNat) 0) (.s .a) (by kernel_rfl) (fun NA _ => ?_) (fun NA _ => ?_)
         · rw [if_pos NA] at hm
           refine bx 3 4 [133] (.n 136 (.b (!tz)) (.aP .z)) (fun x hx => qe) (by kernel_rfl) (fun _ => ?_)
           refine qz 136 (!tz) (.s .a) (by kernel_rfl) (fun NB _ => ?_) (fun NB _ => ?_)
           · rw [if_pos NB] at hm
             refine bx 8 4 [136] (.n 140 (.eO []) (.n 144 (.eO []) (.kk (.s (.k .z))))) (fun x hx => qe) (by kernel_rfl) (fun _ => ?_)
             refine fu 145 [136] (by kernel_rfl) rfl (by kernel_rfl) (fun _ => ?_)
             refine fu 146 [136] (by kernel_rfl) rfl (by kernel_rfl) (fun _ => ?_)
             refine bx 3 4 [133, 136] (.n 149 (.b true) (.fQ (.ss .a))) (fun x hx => qe) (by kernel_rfl) (fun _ => ?_)
             refine bx 1 3 [149] (.n 150 (pt g1 0) (.k .z)) (fun x hx => qe) (by kernel_rfl) (fun _ => ?_)
             refine bZ (by kernel_rfl) rfl ?_
             obtain ⟨HM, NC, hm⟩ := ob hm
             obtain ⟨T2, T3, BA, Xq, Dw, Xr, T4⟩ := qE.go (.i (.r (.i (.r (.r (.r (.i (.i (.i (.i (.i (.r .e))))))))))))
             refine aq [149] 151 _ lr (by kernel_rfl) (fP (F := T2) (O := T3) _ _ _ _ _ _ _ _ _ _ _ _ _ _ _ _ _ _ _ _ _ _ _ _ _ _ _ _ _ _ _ _ _ _ _ _ _ _ _ _ _ _ _ _ _ _ _ (Ro.de BA.off Dw 0 rfl) (qE.b8 1 rfl) (qE.cZ 1 rfl) (Ro.de BA.off Dw 1 rfl) (qE.b8 3 rfl) (qE.cZ 3 rfl) (Ro.de BA.off Dw 2 rfl) (qE.b8 4 rfl) (qE.cZ 4 rfl) (Ro.de BA.off Dw 3 rfl) (qE.b8 5 rfl) (qE.cZ 5 rfl) (Ro.de BA.off Dw 4 rfl) (qE.b8 11 rfl) (qE.cZ 11 rfl) BA _ NC) ?_
             rintro e_ T5 ⟨Zm, _, Zn, Zo, _, Zp, Zq, _, Zr, rfl, rfl, rfl, rfl, PX⟩
             have PY := T4 T5 _ _ PX (.c (.c (.c (.c (.c (.c (.c .n)))))))
             refine ⟨.u64 HM.1, rfl, ?_⟩
             have LO := PY.ck (.fQ (.ss (.s (.aP (.k .e)))))
             refine ⟨LO, fun _ => ?_⟩
             refine bx 3 4 [149] (.n 4 (.b (decide ((1 : UInt64) ≤ HM.1))) .z) (fun x hx => qe) (by kernel_rfl) (fun _ => ?_)
             refine ct <| aa <| aL ?_
             obtain rfl := Option.some.inj hm
             refine aM [.b (decide ((1 : UInt64) ≤ HM.1))] qe (by kernel_rfl) ?_
             have PZ := LO.ck .z
             exact ⟨rfl, PZ⟩
           · rw [if_neg (by rw [NB]; decide)] at hm
             obtain ⟨tg, yu, hm⟩ := ob hm
             obtain ⟨qj, yv, hm⟩ := ob hm
             refine bx 8 4 [136] (.n 140 (.v (.float .f64 tg.toNat)) (.n 144 (.v (.float .f64 qj.toNat)) (.kk (.s (.k .z))))) (fun x hx => qW (EI.cx hx) yu rfl (.v (.float .f64 tg.toNat)) rfl <| qW (EI.cx hx) yv rfl (.v (.float .f64 qj.toNat)) rfl <| qe) (by kernel_rfl) (fun _ => ?_)
             refine bZ (by kernel_rfl) rfl <| ki [136] 145 (u := tg.toNat) (v := qj.toNat) (by kernel_rfl) (.inr (.inl rfl)) (Fl.u tg) (Fl.u qj) qE ?_
             intro T6 Xs P0 se
             refine ⟨se, fun _ => ?_⟩
             refine bZ (by kernel_rfl) rfl <| gG [136] 146 (u := T6) (v := 0) (by kernel_rfl) (.inr (.inl rfl)) P0 (Fl.lit (c := 0) (by kernel_rfl)) ?_
             refine ⟨se, fun _ => ?_⟩
             refine bx 3 4 [133, 136] (.n 149 (.b (cv .neq (jO .sub (bW tg.toNat) (bW qj.toNat)) 0)) (.fQ (.ss .a))) (fun x hx => qe) (by kernel_rfl) (fun _ => ?_)
             refine qz 149 (cv .neq (jO .sub (bW tg.toNat) (bW qj.toNat)) 0) (.s .a) (by kernel_rfl) (fun ND _ => ?_) (fun ND _ => ?_)
             · rw [if_pos ND] at hm
               refine bx 1 3 [149] (.n 150 (pt g1 0) (.k .z)) (fun x hx => qe) (by kernel_rfl) (fun _ => ?_)
               refine bZ (by kernel_rfl) rfl ?_
               obtain ⟨HN, NG, hm⟩ := ob hm
               obtain ⟨T7, T8, BB, Xt, Dx, Xu, T9⟩ := se.go (.i (.r (.i (.r (.r (.r (.i (.i (.i (.i (.i (.r .e))))))))))))
               refine aq [149] 151 _ lr (by kernel_rfl) (fP (F := T7) (O := T8) _ _ _ _ _ _ _ _ _ _ _ _ _ _ _ _ _ _ _ _ _ _ _ _ _ _ _ _ _ _ _ _ _ _ _ _ _ _ _ _ _ _ _ _ _ _ _ (Ro.de BB.off Dx 0 rfl) (se.b8 1 rfl) (se.cZ 1 rfl) (Ro.de BB.off Dx 1 rfl) (se.b8 3 rfl) (se.cZ 3 rfl) (Ro.de BB.off Dx 2 rfl) (se.b8 4 rfl) (se.cZ 4 rfl) (Ro.de BB.off Dx 3 rfl) (se.b8 5 rfl) (se.cZ 5 rfl) (Ro.de BB.off Dx 4 rfl) (se.b8 11 rfl) (se.cZ 11 rfl) BB _ NG) ?_
               rintro e_ T_ ⟨Zs, _, Zt, Zu, _, Zv, Zw, _, Zx, rfl, rfl, rfl, rfl, P1⟩
               have P2 := T9 T_ _ _ P1 (.c (.c (.c (.c (.c (.c (.c .n)))))))
               refine ⟨.u64 HN.1, rfl, ?_⟩
               have LP := P2.ck (.fQ (.ss (.s (.aP (.k .e)))))
               refine ⟨LP, fun _ => ?_⟩
               refine bx 3 4 [149] (.n 4 (.b (decide ((1 : UInt64) ≤ HN.1))) .z) (fun x hx => qe) (by kernel_rfl) (fun _ => ?_)
               refine ct <| aa <| aL ?_
               obtain rfl := Option.some.inj hm
               refine aM [.b (decide ((1 : UInt64) ≤ HN.1))] qe (by kernel_rfl) ?_
               have P3 := LP.ck .z
               exact ⟨rfl, P3⟩
             · rw [if_neg (by rw [ND]; decide)] at hm
               refine bx 1 3 [149] (.n 150 (.eO []) (.k .z)) (fun x hx => qe) (by kernel_rfl) (fun _ => ?_)
               refine fu 151 [149] (by kernel_rfl) rfl (by kernel_rfl) (fun _ => ?_)
               refine bx 3 4 [149] (.n 4 (.b false) .z) (fun x hx => qe) (by kernel_rfl) (fun _ => ?_)
               refine ct <| aa <| aL ?_
               obtain rfl := Option.some.inj hm
               refine aM [.b false] qe (by kernel_rfl) ?_
               have P4 := se.ck .z
               exact ⟨rfl, P4⟩
         · rw [if_neg (by rw [NA]; decide)] at hm
           refine bx 3 4 [133] (.n 136 (.eO []) (.aP .z)) (fun x hx => qe) (by kernel_rfl) (fun _ => ?_)
           refine bx 8 4 [136] (.n 140 (.eO []) (.n 144 (.eO []) (.kk (.s (.k .z))))) (fun x hx => qe) (by kernel_rfl) (fun _ => ?_)
           refine fu 145 [136] (by kernel_rfl) rfl (by kernel_rfl) (fun _ => ?_)
           refine fu 146 [136] (by kernel_rfl) rfl (by kernel_rfl) (fun _ => ?_)
           refine bx 3 4 [133] (.n 149 (.b false) (.fQ (.ss .a))) (fun x hx => qe) (by kernel_rfl) (fun _ => ?_)
           refine bx 1 3 [149] (.n 150 (.eO []) (.k .z)) (fun x hx => qe) (by kernel_rfl) (fun _ => ?_)
           refine fu 151 [149] (by kernel_rfl) rfl (by kernel_rfl) (fun _ => ?_)
           refine bx 3 4 [149] (.n 4 (.b false) .z) (fun x hx => qe) (by kernel_rfl) (fun _ => ?_)
           refine ct <| aa <| aL ?_
           obtain rfl := Option.some.inj hm
           refine aM [.b false] qe (by kernel_rfl) ?_
           have P5 := qE.ck .z
           exact ⟨rfl, P5⟩
       · rw [if_neg (by rw [Nz]; decide)] at hm
         refine bx 4 4 [126] (.n 130 (.eO []) .a) (fun x hx => qe) (by kernel_rfl) (fun _ => ?_)
         refine fu 131 [126] (by kernel_rfl) rfl (by kernel_rfl) (fun _ => ?_)
         refine bx 1 4 [126] (.n 132 (.b false) (.lj .a)) (fun x hx => qe) (by kernel_rfl) (fun _ => ?_)
         refine bx 1 2 [] (.n 133 (.b false) (.s .a)) (fun x hx => qe) (by kernel_rfl) (fun _ => ?_)
         refine bx 3 4 [133] (.n 136 (.eO []) (.aP .z)) (fun x hx => qe) (by kernel_rfl) (fun _ => ?_)
         refine bx 8 4 [136] (.n 140 (.eO []) (.n 144 (.eO []) (.kk (.s (.k .z))))) (fun x hx => qe) (by kernel_rfl) (fun _ => ?_)
         refine fu 145 [136] (by kernel_rfl) rfl (by kernel_rfl) (fun _ => ?_)
         refine fu 146 [136] (by kernel_rfl) rfl (by kernel_rfl) (fun _ => ?_)
         refine bx 3 4 [133] (.n 149 (.b false) (.fQ (.ss .a))) (fun x hx => qe) (by kernel_rfl) (fun _ => ?_)
         refine bx 1 3 [149] (.n 150 (.eO []) (.k .z)) (fun x hx => qe) (by kernel_rfl) (fun _ => ?_)
         refine fu 151 [149] (by kernel_rfl) rfl (by kernel_rfl) (fun _ => ?_)
         refine bx 3 4 [149] (.n 4 (.b false) .z) (fun x hx => qe) (by kernel_rfl) (fun _ => ?_)
         refine ct <| aa <| aL ?_
         obtain rfl := Option.some.inj hm
         refine aM [.b false] qe (by kernel_rfl) ?_
         have P6 := qE.ck .z
         exact ⟨rfl, P6⟩
end Go.Sx
namespace Go.Sx
open Go.RowKit
set_option linter.unusedVariables false
set_option linter.unusedSimpArgs false
section
variable {α σ ρ : Type}
def ae.g [Inhabited α] {n : Nat} (v : ae α n) (i : Nat) : α := v.l.getD i default
theorem dO [Inhabited α] {n : Nat} (v : ae α n) (i : Nat) (h : i < n) : aN v.l (i : Int) = some (v.g i) := by
  have hl : i < v.l.length := by rw [v.h]; exact h
  rw [jQ hl]
  simp [ae.g, List.getD_eq_getElem?_getD, hl]
theorem dJ (i : Nat) (h : i < 1000000000000000000) : aB ((i : Int) + 1) = ((i + 1 : Nat) : Int) := by rw [fK (by omega)]; omega
theorem nu (step : σ × Int → Option ((σ × Int) ⊕ ρ)) (n : Nat) (F : σ → Nat → σ) (s : σ) (r : ρ) (h : ∀ s i, i < n → step (s, (i : Int)) = some (.inl (F s i, ((i + 1 : Nat) : Int))))
    (he : step ((List.range n).foldl F s, (n : Int)) = some (.inr r)) : bO step (s, 0) = some r := by
  refine eZ (fun i => ((List.range i).foldl F s, (i : Int))) n (fun i hi => ?_) he
  show step ((List.range i).foldl F s, (i : Int)) = some (.inl ((List.range (i + 1)).foldl F s, ((i + 1 : Nat) : Int)))
  rw [h _ _ hi, List.range_succ, List.foldl_append]
  rfl
theorem y6 {v : ae α 8} : ∃ a b c d e f g h, v = ⟨[a, b, c, d, e, f, g, h], rfl⟩ := by
  obtain ⟨l, hl⟩ := v
  match l, hl with
  | [a, b, c, d, e, f, g, h], _ => exact ⟨a, b, c, d, e, f, g, h, rfl⟩
end
def tV (x : UInt64) (k : Nat) : UInt64 := aJ x k ||| aE x (64 - k)
theorem Ua (x : UInt64) : eJ x (-32) = some (tV x 32) := by
  show some (aE x 32 ||| aJ x 32) = _
  rw [UInt64.or_comm]; rfl
theorem Ub (x : UInt64) : eJ x (-24) = some (tV x 24) := by
  show some (aE x 40 ||| aJ x 24) = _
  rw [UInt64.or_comm]; rfl
theorem Uc (x : UInt64) : eJ x (-16) = some (tV x 16) := by
  show some (aE x 48 ||| aJ x 16) = _
  rw [UInt64.or_comm]; rfl
theorem Ud (x : UInt64) : eJ x (-63) = some (tV x 63) := by
  show some (aE x 1 ||| aJ x 63) = _
  rw [UInt64.or_comm]; rfl
theorem Ue (x : UInt64) : k4 x 32 = some (tV x 32) := by kernel_rfl
theorem Uf (x : UInt64) : k4 x 24 = some (tV x 24) := by kernel_rfl
theorem Ug (x : UInt64) : k4 x 16 = some (tV x 16) := by kernel_rfl
theorem Uh (x : UInt64) : k4 x 63 = some (tV x 63) := by kernel_rfl
def Gb (v : ae UInt64 16) (a b c d : Nat) (x y : UInt64) : ae UInt64 16 :=
  let v1 := hK v a (v.g a + (v.g b + x))
  let v2 := hK v1 d (tV (v1.g d ^^^ v1.g a) 32)
  let v3 := hK v2 c (v2.g c + v2.g d)
  let v4 := hK v3 b (tV (v3.g b ^^^ v3.g c) 24)
  let v5 := hK v4 a (v4.g a + (v4.g b + y))
  let v6 := hK v5 d (tV (v5.g d ^^^ v5.g a) 16)
  let v7 := hK v6 c (v6.g c + v6.g d)
  hK v7 b (tV (v7.g b ^^^ v7.g c) 63)
theorem KL (v : ae UInt64 16) (a b c d : Nat) (x y : UInt64) (ha : a < 16) (hb : b < 16) (hc : c < 16) (hd : d < 16) (p : ae Int 4) (hp : p.l = [(a : Int), (b : Int), (c : Int), (d : Int)]) : pL v p x y = some (Gb v a b c d x y) := by
  unfold pL
  have e0 : aN p.l 0 = some (a : Int) := by rw [hp]; rfl
  have e1 : aN p.l 1 = some (b : Int) := by rw [hp]; rfl
  have e2 : aN p.l 2 = some (c : Int) := by rw [hp]; rfl
  have e3 : aN p.l 3 = some (d : Int) := by rw [hp]; rfl
  simp only [e0, e1, e2, e3, dO _ a ha, dO _ b hb, dO _ c hc, dO _ d hd, Option.bind_some, Ua, Ub, Uc, Ud]
  rfl
theorem Ui (v : ae UInt64 16) (a b c d : Nat) (x y : UInt64) (ha : a < 16) (hb : b < 16) (hc : c < 16) (hd : d < 16) (hn : a ≠ b ∧ a ≠ c ∧ a ≠ d ∧ b ≠ c ∧ b ≠ d ∧ c ≠ d) : B5 v a b c d x y = some (Gb v a b c d x y, 0) := by
  have pl : ∀ i : Nat, i < 16 → ov (i : Int) = some true := by
    intro i hi
    unfold ov
    simp only [Option.some.injEq, Bool.and_eq_true, decide_eq_true_eq]
    omega
  unfold B5
  simp only [pl a ha, pl b hb, pl c hc, pl d hd, Option.bind_some, Bool.not_true, Bool.false_or, Bool.or_eq_true, decide_eq_true_eq, Bool.false_eq_true, if_false, false_or]
  rw [if_neg (by omega)]
  simp only [dO _ a ha, dO _ b hb, dO _ c hc, dO _ d hd, Option.bind_some, Ue, Uf, Ug, Uh, UInt64.add_assoc]
  rfl
def Xv : List (Nat × Nat × Nat × Nat) := [(0, 4, 8, 12), (1, 5, 9, 13), (2, 6, 10, 14), (3, 7, 11, 15), (0, 5, 10, 15), (1, 6, 11, 12), (2, 7, 8, 13), (3, 4, 9, 14)]
def pl (i : Nat) : Nat × Nat × Nat × Nat := Xv.getD i (0, 0, 0, 0)
theorem Ip : ∀ i : Nat, i < 8 → (pl i).1 < 16 ∧ (pl i).2.1 < 16 ∧ (pl i).2.2.1 < 16 ∧ (pl i).2.2.2 < 16 ∧ (pl i).1 ≠ (pl i).2.1 ∧ (pl i).1 ≠ (pl i).2.2.1 ∧ (pl i).1 ≠ (pl i).2.2.2 ∧ (pl i).2.1 ≠ (pl i).2.2.1 ∧ (pl i).2.1 ≠ (pl i).2.2.2 ∧ (pl i).2.2.1 ≠ (pl i).2.2.2 := by decide
def Xw : List Nat := [0, 1, 2, 3, 4, 5, 6, 7, 8, 9, 10, 11, 12, 13, 14, 15, 14, 10, 4, 8, 9, 15, 13, 6, 1, 12, 0, 2, 11, 7, 5, 3, 11, 8, 12, 0, 5, 2, 15, 13, 10, 14, 3, 6, 7, 1, 9, 4, 7, 9, 3, 1, 13, 12, 11, 14, 2, 6, 5, 10, 4, 0, 15, 8, 9, 0, 5, 7, 2, 4, 10, 15, 14, 1, 11, 12, 6, 8, 3, 13, 2, 12, 6, 10, 0, 11, 8, 3, 4, 13, 7, 5, 15, 14, 1, 9, 12, 5, 1, 15, 14, 13, 4, 10, 0, 7, 6, 3, 9, 2, 8, 11, 13, 11, 7, 14, 12, 1, 3, 9, 5, 0, 15, 4, 8, 6, 2, 10, 6, 15, 14, 9, 11, 3, 0, 8, 12, 2, 13, 7, 1, 4, 10, 5, 10, 2, 8, 4, 7, 6, 1, 5, 15, 11, 9, 14, 3, 12, 13, 0]
def sg (r i : Nat) : Nat := Xw.getD (16 * (r % 10) + i) 0
theorem BC : ∀ r : Nat, r < 12 → ∀ i : Nat, i < 16 → sg r i < 16 := by decide +kernel
theorem Rc : ∀ r : Nat, r < 12 → ∀ i : Nat, i < 16 → pR (r : Int) (i : Int) = some (sg r i : Int) := by decide +kernel
theorem Xx (r : Nat) (hr : r < 12) : ∃ row, oG (r : Int) = some row ∧ ∀ i : Nat, i < 16 → aN row.l (i : Int) = some (sg r i : Int) := by
  match r, hr with
  | 0, _ => exact ⟨_, rfl, by decide +kernel⟩
  | 1, _ => exact ⟨_, rfl, by decide +kernel⟩
  | 2, _ => exact ⟨_, rfl, by decide +kernel⟩
  | 3, _ => exact ⟨_, rfl, by decide +kernel⟩
  | 4, _ => exact ⟨_, rfl, by decide +kernel⟩
  | 5, _ => exact ⟨_, rfl, by decide +kernel⟩
  | 6, _ => exact ⟨_, rfl, by decide +kernel⟩
  | 7, _ => exact ⟨_, rfl, by decide +kernel⟩
  | 8, _ => exact ⟨_, rfl, by decide +kernel⟩
  | 9, _ => exact ⟨_, rfl, by decide +kernel⟩
  | 10, _ => exact ⟨_, rfl, by decide +kernel⟩
  | 11, _ => exact ⟨_, rfl, by decide +kernel⟩
def Sb (m : ae UInt64 16) (r : Nat) (v : ae UInt64 16) (i : Nat) : ae UInt64 16 := Gb v (pl i).1 (pl i).2.1 (pl i).2.2.1 (pl i).2.2.2 (m.g (sg r (2 * i))) (m.g (sg r (2 * i + 1)))
def Rb (v m : ae UInt64 16) (r : Nat) : ae UInt64 16 := (List.range 8).foldl (Sb m r) v
theorem Iq (i : Nat) (h : i < 100) : aB (2 * (i : Int)) = ((2 * i : Nat) : Int) := by rw [fK (by omega)]; omega
theorem KM (v m : ae UInt64 16) (r : Nat) (hr : r < 12) : pM v m (r : Int) = some (Rb v m r, m) := by
  obtain ⟨row, h1, h2⟩ := Xx r hr
  unfold pM
  rw [h1]
  simp only [Option.bind_some]
  unfold pB
  simp only [Option.bind_some]
  refine nu _ 8 (Sb m r) v _ (fun v i hi => ?_) ?_
  · unfold oJ
    obtain ⟨p1, p2, p3, p4, _⟩ := Ip i hi
    simp only []
    rw [if_pos (by omega), Iq i (by omega), dJ _ (by omega), dJ _ (by omega), h2 _ (by omega), h2 _ (by omega)]
    simp only [Option.bind_some]
    rw [dO _ _ (BC r hr _ (by omega)), dO _ _ (BC r hr _ (by omega))]
    have key : ∃ p : ae Int 4, aN (⟨[(⟨[(0 : Int), (4 : Int), (8 : Int), (12 : Int)], rfl⟩ : ae Int 4), (⟨[(1 : Int), (5 : Int), (9 : Int), (13 : Int)], rfl⟩ : ae Int 4), (⟨[(2 : Int), (6 : Int), (10 : Int), (14 : Int)], rfl⟩ : ae Int 4), (⟨[(3 : Int), (7 : Int), (11 : Int), (15 : Int)], rfl⟩ : ae Int 4), (⟨[(0 : Int), (5 : Int), (10 : Int), (15 : Int)], rfl⟩ : ae Int 4), (⟨[(1 : Int), (6 : Int), (11 : Int), (12 : Int)], rfl⟩ : ae Int 4), (⟨[(2 : Int), (7 : Int), (8 : Int), (13 : Int)], rfl⟩ : ae Int 4), (⟨[(3 : Int), (4 : Int), (9 : Int), (14 : Int)], rfl⟩ : ae Int 4)], rfl⟩ : ae (ae Int 4) 8).l (i : Int) = some p ∧ p.l = [((pl i).1 : Int), ((pl i).2.1 : Int), ((pl i).2.2.1 : Int), ((pl i).2.2.2 : Int)] := by
      match i, hi with
      | 0, _ => exact ⟨_, rfl, rfl⟩
      | 1, _ => exact ⟨_, rfl, rfl⟩
      | 2, _ => exact ⟨_, rfl, rfl⟩
      | 3, _ => exact ⟨_, rfl, rfl⟩
      | 4, _ => exact ⟨_, rfl, rfl⟩
      | 5, _ => exact ⟨_, rfl, rfl⟩
      | 6, _ => exact ⟨_, rfl, rfl⟩
      | 7, _ => exact ⟨_, rfl, rfl⟩
    obtain ⟨p, k1, k2⟩ := key
    rw [k1]
    simp only [Option.bind_some]
    rw [KL v _ _ _ _ _ _ p1 p2 p3 p4 p k2]
    rfl
  · rfl
theorem Gu (i : Nat) (hi : i < 8) : ∃ p : ae Int 4, xr (i : Int) = some p ∧ p.l = [((pl i).1 : Int), ((pl i).2.1 : Int), ((pl i).2.2.1 : Int), ((pl i).2.2.2 : Int)] := by
  match i, hi with
  | 0, _ => exact ⟨_, rfl, rfl⟩
  | 1, _ => exact ⟨_, rfl, rfl⟩
  | 2, _ => exact ⟨_, rfl, rfl⟩
  | 3, _ => exact ⟨_, rfl, rfl⟩
  | 4, _ => exact ⟨_, rfl, rfl⟩
  | 5, _ => exact ⟨_, rfl, rfl⟩
  | 6, _ => exact ⟨_, rfl, rfl⟩
  | 7, _ => exact ⟨_, rfl, rfl⟩
theorem Ir (v m : ae UInt64 16) (r : Nat) (hr : r < 12) : uD v m (r : Int) = some (Rb v m r, 0) := by
  unfold uD
  rw [if_neg (by simp only [Bool.or_eq_true, decide_eq_true_eq]; omega)]
  refine nu _ 8 (Sb m r) v _ (fun v i hi => ?_) ?_
  · unfold uC
    obtain ⟨p1, p2, p3, p4, hn⟩ := Ip i hi
    obtain ⟨p, k1, k2⟩ := Gu i hi
    have e0 : aN p.l 0 = some ((pl i).1 : Int) := by rw [k2]; rfl
    have e1 : aN p.l 1 = some ((pl i).2.1 : Int) := by rw [k2]; rfl
    have e2 : aN p.l 2 = some ((pl i).2.2.1 : Int) := by rw [k2]; rfl
    have e3 : aN p.l 3 = some ((pl i).2.2.2 : Int) := by rw [k2]; rfl
    simp only []
    rw [if_pos (by omega), k1, Iq i (by omega), dJ _ (by omega), dJ _ (by omega)]
    simp only [Option.bind_some, e0, e1, e2, e3]
    rw [Rc r hr _ (by omega), Rc r hr _ (by omega)]
    simp only [Option.bind_some]
    rw [dO _ _ (BC r hr _ (by omega)), dO _ _ (BC r hr _ (by omega))]
    simp only [Option.bind_some]
    rw [Ui v _ _ _ _ _ _ p1 p2 p3 p4 hn]
    rfl
  · rfl
end Go.Sx
namespace Go.Sx
open Go.RowKit
set_option linter.unusedVariables false
set_option linter.unusedSimpArgs false
def KN : List UInt64 := [7640891576956012808, 13503953896175478587, 4354685564936845355, 11912009170470909681, 5840696475078001361, 11170449401992604703, 2270897969802886507, 6620516959819538809]
def Xy (h : ae UInt64 8) : ae UInt64 16 := ⟨h.l ++ KN, by simp [h.h, KN]⟩
def Ib (h : ae UInt64 8) (lo hi : UInt64) (last node : Bool) : ae UInt64 16 :=
  let v0 := Xy h
  let v1 := hK v0 12 (v0.g 12 ^^^ lo)
  let v2 := hK v1 13 (v1.g 13 ^^^ hi)
  let v3 := if last then hK v2 14 (18446744073709551615 ^^^ v2.g 14) else v2
  if node then hK v3 15 (18446744073709551615 ^^^ v3.g 15) else v3
theorem P7 (h : ae UInt64 8) (lo hi : UInt64) (last node : Bool) : rX h lo hi last node = some (Ib h lo hi last node) := by
  obtain ⟨a, b, c, d, e, f, g, q, rfl⟩ := y6 (v := h)
  cases last <;> cases node <;> kernel_rfl
theorem VA (i : Nat) (hi : i < 8) : zP (i : Int) = some (KN.getD i 0) := by
  match i, hi with
  | 0, _ => rfl
  | 1, _ => rfl
  | 2, _ => rfl
  | 3, _ => rfl
  | 4, _ => rfl
  | 5, _ => rfl
  | 6, _ => rfl
  | 7, _ => rfl
theorem xM (i : Nat) (h : i < 100) : aB ((i : Int) + 8) = ((i + 8 : Nat) : Int) := by rw [fK (by omega)]; omega
theorem P8 (h : ae UInt64 8) (lo hi : UInt64) (last node : Bool) : wH h lo hi last node = some (Ib h lo hi last node) := by
  unfold wH
  refine nu _ 8 (fun v i => hK (hK v i (h.g i)) ((i + 8 : Nat) : Int) (KN.getD i 0)) _ _ (fun v i hi => ?_) ?_
  · unfold wg
    simp only []
    rw [if_pos (by omega), dO _ _ hi, dO _ _ (by omega), xM i (by omega), dJ i (by omega), VA i hi]
    simp only [Option.bind_some]
    rw [dO _ _ (by omega)]
    rfl
  · obtain ⟨a, b, c, d, e, f, g, q, rfl⟩ := y6 (v := h)
    cases last <;> cases node <;> kernel_rfl
def Eb (v : ae UInt64 16) (h : ae UInt64 8) (i : Nat) : ae UInt64 8 := hK h i (h.g i ^^^ (v.g i ^^^ v.g (i + 8)))
def Fb (h : ae UInt64 8) (m : ae UInt64 16) (lo hi : UInt64) (last node : Bool) : ae UInt64 8 :=
  (List.range 8).foldl (Eb ((List.range 12).foldl (fun v r => Rb v m r) (Ib h lo hi last node))) h
theorem wF (h : ae UInt64 8) (m : ae UInt64 16) (lo hi : UInt64) (last node : Bool) : uw h m lo hi last node = some (Fb h m lo hi last node) := by
  unfold uw
  rw [P7]
  simp only [Option.bind_some]
  refine eZ (fun i => (m, (List.range i).foldl (fun v r => Rb v m r) (Ib h lo hi last node), (i : Int))) 12 (fun i hi => ?_) ?_
  · unfold pO
    simp only []
    rw [if_pos (by omega), KM _ _ _ hi, dJ i (by omega), List.range_succ, List.foldl_append]
    rfl
  · unfold pO
    simp only []
    rw [if_neg (by omega)]
    rw [show bO (pN ((List.range 12).foldl (fun v r => Rb v m r) (Ib h lo hi last node))) (h, 0) = some (Fb h m lo hi last node) from ?_]
    · rfl
    refine nu _ 8 (Eb ((List.range 12).foldl (fun v r => Rb v m r) (Ib h lo hi last node))) _ _ (fun v i hi => ?_) ?_
    · unfold pN
      simp only []
      rw [if_pos (by omega), dO _ _ (by omega), dO _ _ (by omega), xM i (by omega), dJ i (by omega), dO _ _ (by omega)]
      rfl
    · rfl
theorem rF (h : ae UInt64 8) (m : ae UInt64 16) (lo hi : UInt64) (last node : Bool) : B6 h m lo hi last node = some (Fb h m lo hi last node) := by
  unfold B6
  rw [P8]
  simp only [Option.bind_some]
  refine nu _ 12 (fun v r => Rb v m r) _ _ (fun v i hi => ?_) ?_
  · unfold wJ
    simp only []
    rw [if_pos (by omega), Ir _ _ _ hi, dJ i (by omega)]
    rfl
  · unfold wJ
    simp only []
    rw [if_neg (by omega)]
    rw [show bO (wI ((List.range 12).foldl (fun v r => Rb v m r) (Ib h lo hi last node))) (h, 0) = some (Fb h m lo hi last node) from ?_]
    · rfl
    refine nu _ 8 (Eb ((List.range 12).foldl (fun v r => Rb v m r) (Ib h lo hi last node))) _ _ (fun v i hi => ?_) ?_
    · unfold wI
      simp only []
      rw [if_pos (by omega), dO _ _ (by omega), dO _ _ (by omega), xM i (by omega), dJ i (by omega), dO _ _ (by omega)]
      simp only [Option.bind_some, UInt64.xor_assoc]
      rfl
    · rfl
end Go.Sx
namespace Go.Sx
open Go.RowKit
set_option linter.unusedVariables false
set_option linter.unusedSimpArgs false
def NH : List UInt8 → UInt64
  | [] => 0
  | b :: r => UInt64.ofNat b.toNat + 256 * NH r
def zj : List UInt8 → Nat
  | [] => 0
  | b :: r => b.toNat + 256 * zj r
theorem NI (l : List UInt8) : zj l < 256 ^ l.length := by
  induction l with
  | nil => simp [zj]
  | cons b r ih =>
    have := b.toNat_lt
    simp only [zj, List.length_cons, Nat.pow_succ]
    omega
theorem EJ (l : List UInt8) (b : UInt8) : zj (l ++ [b]) = zj l + 256 ^ l.length * b.toNat := by
  induction l with
  | nil => simp [zj]
  | cons x r ih =>
    simp only [List.cons_append, zj, ih, List.length_cons, Nat.pow_succ, Nat.mul_add]
    rw [Nat.mul_comm (256 ^ r.length) 256, Nat.mul_assoc]
    omega
theorem EK (n : Nat) : 256 ^ n = 2 ^ (8 * n) := by
  rw [show (256 : Nat) = 2 ^ 8 from rfl, ← Nat.pow_mul]
theorem P9 (b : List UInt8) (hb : b.length ≤ 33554432) (at_ : Int) (ha : -9223372036854775808 ≤ at_ ∧ at_ ≤ 9223372036854775807) (n : Nat) (hn : n ≤ 8) :
    oo b at_ n = some (if at_ < 0 then (0, 1) else if (b.length : Int) < at_ + n then (0, 3) else (UInt64.ofNat (zj ((b.drop at_.toNat).take n)), 0)) := by
  unfold oo
  by_cases h0 : at_ < 0
  · rw [if_pos h0, if_pos h0]
  rw [if_neg h0, if_neg h0]
  have e : ((decide (((b.length : Nat) : Int) < at_)) || (decide ((aB (((b.length : Nat) : Int) - at_)) < n))) = true ↔ (b.length : Int) < at_ + n := by
    rw [fK (by omega)]
    simp only [Bool.or_eq_true, decide_eq_true_eq]
    omega
  by_cases h1 : (b.length : Int) < at_ + n
  · rw [if_pos (e.2 h1), if_pos h1]
  rw [if_neg (fun h => h1 (e.1 h)), if_neg h1]
  obtain ⟨a, rfl⟩ : ∃ a : Nat, at_ = a := ⟨at_.toNat, by omega⟩
  simp only [Int.toNat_natCast]
  refine re (fun i s => s = (UInt64.ofNat (zj ((b.drop a).take i)), (i : Int)) ∧ i ≤ n) _ n _ ⟨by simp [zj], by omega⟩ ?_
  rintro i s ⟨rfl, hi⟩
  unfold oB
  by_cases qK : i < n
  · left
    refine ⟨qK, (UInt64.ofNat (zj ((b.drop a).take (i + 1))), ((i + 1 : Nat) : Int)), ?_, rfl, by omega⟩
    have e1 : aB ((a : Int) + (i : Int)) = ((a + i : Nat) : Int) := by rw [fK (by omega)]; omega
    have Xz : a + i < b.length := by omega
    have e2 : aB (8 * (i : Int)) = ((8 * i : Nat) : Int) := by rw [fK (by omega)]; omega
    have e3 : aB ((i : Int) + 1) = ((i + 1 : Nat) : Int) := by rw [fK (by omega)]; omega
    simp only []
    rw [if_pos (by omega), e1, jQ Xz]
    simp only [Option.bind_some]
    rw [e2, mi (by omega), e3]
    simp only [Option.bind_some, Int.toNat_natCast]
    congr 3
    have hd : (b.drop a).take (i + 1) = (b.drop a).take i ++ [b[a + i]] := by
      rw [List.take_succ_eq_append_getElem (by simp; omega)]
      simp
    rw [hd, EJ, List.length_take, List.length_drop, Nat.min_eq_left (by omega), EK]
    have hx := (b[a + i]).toNat_lt
    have P_ := NI ((b.drop a).take i)
    rw [List.length_take, List.length_drop, Nat.min_eq_left (by omega), EK] at P_
    have hp : 2 ^ (8 * i) * 256 = 2 ^ (8 * (i + 1)) := by rw [show 8 * (i + 1) = 8 * i + 8 from by omega, Nat.pow_add]
    have hq : 2 ^ (8 * (i + 1)) ≤ 2 ^ 64 := Nat.pow_le_pow_right (by omega) (by omega)
    have hr : 2 ^ (8 * i) * (b[a + i]).toNat < 2 ^ (8 * (i + 1)) := by
      rw [← hp]; exact Nat.mul_lt_mul_of_pos_left hx (Nat.pow_pos (by omega))
    apply UInt64.eq_of_toBitVec_eq
    apply BitVec.eq_of_toNat_eq
    simp only [UInt64.toBitVec_or, aE, BitVec.toNat_or, BitVec.toNat_shiftLeft]
    simp only [UInt64.toNat_toBitVec, UInt64.toNat_ofNat']
    have m1 : zj ((b.drop a).take i) % 2 ^ 64 = zj ((b.drop a).take i) := Nat.mod_eq_of_lt (by omega)
    have m2 : (b[a + i]).toNat % 2 ^ 64 = (b[a + i]).toNat := Nat.mod_eq_of_lt (by omega)
    have m3 : ((b[a + i]).toNat <<< (8 * i)) % 2 ^ 64 = (b[a + i]).toNat <<< (8 * i) := by
      apply Nat.mod_eq_of_lt; rw [Nat.shiftLeft_eq, Nat.mul_comm]; omega
    rw [m1, m2, m3, Nat.or_comm, ← Nat.shiftLeft_add_eq_or_of_lt P_, Nat.shiftLeft_eq, Nat.mul_comm]
    rw [Nat.mod_eq_of_lt]
    · omega
    · have : zj ((b.drop a).take i) + 2 ^ (8 * i) * (b[a + i]).toNat < 2 ^ (8 * (i + 1)) := by
        rw [← hp]
        have h5 : 2 ^ (8 * i) * (b[a + i]).toNat + 2 ^ (8 * i) ≤ 2 ^ (8 * i) * 256 := by
          rw [← Nat.mul_succ]; exact Nat.mul_le_mul_left _ (by omega)
        omega
      omega
  · right
    obtain rfl : i = n := by omega
    simp
theorem Qa (b : List UInt8) (hb : b.length ≤ 33554432) (at_ : Int) (ha : -9223372036854775808 ≤ at_ ∧ at_ ≤ 9223372036854775807) (n : Nat) (hn : n ≤ 8) :
    rh b at_ n = some (if at_ < 0 then (0, 1) else if (b.length : Int) < at_ + n then (0, 3) else (UInt64.ofNat (zj ((b.drop at_.toNat).take n)), 0)) := by
  unfold rh
  by_cases h0 : at_ < 0
  · rw [if_pos h0, if_pos h0]
  rw [if_neg h0, if_neg h0]
  have e : ((decide (((b.length : Nat) : Int) < at_)) || (decide ((aB (((b.length : Nat) : Int) - at_)) < n))) = true ↔ (b.length : Int) < at_ + n := by
    rw [fK (by omega)]
    simp only [Bool.or_eq_true, decide_eq_true_eq]
    omega
  by_cases h1 : (b.length : Int) < at_ + n
  · rw [if_pos (e.2 h1), if_pos h1]
  rw [if_neg (fun h => h1 (e.1 h)), if_neg h1]
  obtain ⟨a, rfl⟩ : ∃ a : Nat, at_ = a := ⟨at_.toNat, by omega⟩
  simp only [Int.toNat_natCast]
  rw [fK (by omega)]
  refine re (fun i s => s = (UInt64.ofNat (zj (((b.drop a).take n).drop (n - i))), (n : Int) - 1 - i) ∧ i ≤ n) _ n _ ⟨?_, by omega⟩ ?_
  · have : ((b.drop a).take n).drop (n - 0) = [] := by apply List.drop_eq_nil_of_le; simp; omega
    rw [this]; simp [zj]
  rintro i s ⟨rfl, hi⟩
  unfold wb
  by_cases qK : i < n
  · left
    refine ⟨qK, _, ?_, rfl, by omega⟩
    have e1 : aB ((a : Int) + ((n : Int) - 1 - i)) = ((a + (n - 1 - i) : Nat) : Int) := by rw [fK (by omega)]; omega
    have e3 : aB ((n : Int) - 1 - i - 1) = (n : Int) - 1 - ((i + 1 : Nat) : Int) := by rw [fK (by omega)]; omega
    simp only []
    rw [if_pos (by omega), e1, jQ (by omega : a + (n - 1 - i) < b.length)]
    simp only [Option.bind_some]
    rw [e3]
    congr 3
    have hd : ((b.drop a).take n).drop (n - (i + 1)) = b[a + (n - 1 - i)] :: ((b.drop a).take n).drop (n - i) := by
      rw [List.drop_eq_getElem_cons (by simp; omega)]
      simp only [List.getElem_take, List.getElem_drop]
      have q1 : n - (i + 1) + 1 = n - i := by omega
      rw [q1]
      congr 2; omega
    rw [hd, zj]
    apply UInt64.eq_of_toBitVec_eq
    apply BitVec.eq_of_toNat_eq
    simp only [UInt64.toNat_toBitVec, UInt64.toNat_add, UInt64.toNat_mul, UInt64.toNat_ofNat']
    generalize zj _ = y
    generalize (b[a + (n - 1 - i)]).toNat = z
    have : UInt64.toNat 256 = 256 := rfl
    rw [this]
    omega
  · right
    obtain rfl : i = n := by omega
    simp only []
    rw [if_neg (by omega)]
    simp
theorem NJ (b : List UInt8) (hb : b.length ≤ 33554432) (at_ : Int) (ha : -9223372036854775808 ≤ at_ ∧ at_ ≤ 9223372036854775807) :
    iw b at_ = some (if at_ < 0 then (0, 1) else if (b.length : Int) < at_ + 8 then (0, 3) else (UInt64.ofNat (zj ((b.drop at_.toNat).take 8)), 0)) := by
  unfold iw
  have := P9 b hb at_ ha 8 (by omega)
  rw [show ((8 : Nat) : Int) = 8 from rfl] at this
  rw [this]
  rfl
theorem KO (w : UInt64) : mB w = some ((List.range 8).map fun i => UInt8.ofNat (w.toNat / 256 ^ i)) := by
  unfold mB
  refine re (fun i s => s = ((List.range i).map (fun i => UInt8.ofNat (w.toNat / 256 ^ i)) ++ List.replicate (8 - i) 0, (i : Int)) ∧ i ≤ 8) _ 8 _ ⟨by simp, by omega⟩ ?_
  rintro i s ⟨rfl, hi⟩
  unfold mm
  by_cases qK : i < 8
  · left
    refine ⟨qK, _, ?_, rfl, by omega⟩
    have e2 : aB (8 * (i : Int)) = ((8 * i : Nat) : Int) := by rw [fK (by omega)]; omega
    have e3 : aB ((i : Int) + 1) = ((i + 1 : Nat) : Int) := by rw [fK (by omega)]; omega
    simp only []
    rw [if_pos (by omega), e2, mi (by omega), e3]
    simp only [Option.bind_some]
    rw [jQ (by simp; omega)]
    simp only [Option.bind_some, Int.toNat_natCast]
    congr 3
    have hr : List.replicate (8 - i) (0 : UInt8) = 0 :: List.replicate (8 - (i + 1)) 0 := by
      rw [← List.replicate_succ]; congr 1; omega
    rw [hr, List.range_succ, List.map_append, List.append_assoc]
    rw [List.set_append_right _ _ (by simp)]
    simp only [List.length_map, List.length_range, Nat.sub_self, List.set_cons_zero, List.map_cons, List.map_nil, List.cons_append, List.nil_append]
    congr 2
    apply UInt8.eq_of_toBitVec_eq; apply BitVec.eq_of_toNat_eq
    simp only [aJ, EK]
    simp [Nat.shiftRight_eq_div_pow]
  · right
    obtain rfl : i = 8 := by omega
    simp
theorem It (w : UInt64) (n : Nat) (hn : n ≤ 8) : uM w n = some ((List.range n).map fun i => UInt8.ofNat (w.toNat / 256 ^ i)) := by
  unfold uM
  refine re (fun i s => s = (UInt64.ofNat (w.toNat / 256 ^ i), (List.range i).map (fun i => UInt8.ofNat (w.toNat / 256 ^ i)), (i : Int)) ∧ i ≤ n) _ n _ ⟨by simp, by omega⟩ ?_
  rintro i s ⟨rfl, hi⟩
  unfold uL
  have hw := w.toNat_lt
  have hd : w.toNat / 256 ^ i ≤ w.toNat := Nat.div_le_self _ _
  by_cases qK : i < n
  · left
    refine ⟨qK, _, ?_, rfl, by omega⟩
    have e3 : aB ((i : Int) + 1) = ((i + 1 : Nat) : Int) := by rw [fK (by omega)]; omega
    simp only []
    rw [if_pos (by omega), mf (by simp; omega), e3]
    simp only [Option.bind_some]
    have q1 : UInt64.ofNat (w.toNat / 256 ^ i) / 256 = UInt64.ofNat (w.toNat / 256 ^ (i + 1)) := by
      apply UInt64.eq_of_toBitVec_eq; apply BitVec.eq_of_toNat_eq
      simp only [UInt64.toNat_toBitVec, UInt64.toNat_div, UInt64.toNat_ofNat']
      rw [Nat.mod_eq_of_lt (by omega), Nat.mod_eq_of_lt (Nat.lt_of_le_of_lt (Nat.div_le_self _ _) hw), Nat.pow_succ, ← Nat.div_div_eq_div_mul]
      rfl
    have q2 : UInt8.ofNat (UInt64.ofNat (w.toNat / 256 ^ i) % 256).toNat = UInt8.ofNat (w.toNat / 256 ^ i) := by
      apply UInt8.eq_of_toBitVec_eq; apply BitVec.eq_of_toNat_eq
      simp only [UInt8.toNat_toBitVec, UInt8.toNat_ofNat', UInt64.toNat_mod, UInt64.toNat_ofNat']
      rw [show UInt64.toNat 256 = 256 from rfl]
      omega
    rw [q1, q2, List.range_succ, List.map_append]
    rfl
  · right
    obtain rfl : i = n := by omega
    simp
theorem NK (lo hi n : UInt64) : lR lo hi n = some (UInt64.ofNat (lo.toNat + 18446744073709551616 * hi.toNat + n.toNat), UInt64.ofNat ((lo.toNat + 18446744073709551616 * hi.toNat + n.toNat) / 18446744073709551616), decide (340282366920938463463374607431768211456 ≤ lo.toNat + 18446744073709551616 * hi.toNat + n.toNat)) := by
  have hl := lo.toNat_lt
  have hh := hi.toNat_lt
  have hn := n.toNat_lt
  unfold lR C4
  simp only [show (0 : UInt64).toNat = 0 from rfl, Nat.zero_le, if_true, Option.bind_some, Nat.add_zero]
  have hc : (UInt64.ofNat ((lo.toNat + n.toNat) / 18446744073709551616)).toNat = (lo.toNat + n.toNat) / 18446744073709551616 := by
    simp only [UInt64.toNat_ofNat']; omega
  rw [hc, if_pos (by omega)]
  simp only [Option.bind_some, Option.some.injEq, Prod.mk.injEq]
  refine ⟨?_, ?_, ?_⟩
  · rw [← UInt64.toNat_inj]; simp only [UInt64.toNat_ofNat']; omega
  · rw [← UInt64.toNat_inj]; simp only [UInt64.toNat_ofNat']; omega
  · rw [decide_eq_decide, ← UInt64.toNat_inj]
    simp only [UInt64.toNat_ofNat', show (1 : UInt64).toNat = 1 from rfl]
    omega
def rU (c : UInt64 × UInt64) (n : UInt64) : UInt64 × UInt64 := (UInt64.ofNat (c.1.toNat + 18446744073709551616 * c.2.toNat + n.toNat), UInt64.ofNat ((c.1.toNat + 18446744073709551616 * c.2.toNat + n.toNat) / 18446744073709551616))
def AS (b : List UInt8) (i : Nat) : UInt64 := UInt64.ofNat (zj ((b.drop (8 * i)).take 8))
def Wb (b : List UInt8) : ae UInt64 16 := (List.range 16).foldl (fun m (i : Nat) => hK m i (AS b i)) (ae.rep 16 0)
theorem Iu (i : Nat) (h : i < 100) : aB (8 * (i : Int)) = ((8 * i : Nat) : Int) := by rw [fK (by omega)]; omega
theorem EL (b : List UInt8) (i : Nat) (hb : b.length ≤ 33554432) (hi : 8 * i + 8 ≤ b.length) : iw b ((8 * i : Nat) : Int) = some (AS b i, 0) := by
  rw [NJ b hb _ (by omega), if_neg (by omega), if_neg (by omega), Int.toNat_natCast]
  rfl
theorem Iv (b : List UInt8) (i : Nat) (hb : b.length ≤ 33554432) (hi : 8 * i + 8 ≤ b.length) : rh b ((8 * i : Nat) : Int) 8 = some (AS b i, 0) := by
  have := Qa b hb ((8 * i : Nat) : Int) (by omega) 8 (by omega)
  rw [show ((8 : Nat) : Int) = 8 from rfl] at this
  rw [this, if_neg (by omega), if_neg (by omega), Int.toNat_natCast]
  rfl
theorem NL (b : List UInt8) (hb : b.length = 128) : oD b = some (Wb b, 0) := by
  unfold oD
  rw [if_neg (by omega)]
  refine nu _ 16 (fun m (i : Nat) => hK m i (AS b i)) _ _ (fun v i hi => ?_) (by unfold l5; simp only []; rw [if_neg (by omega)]; rfl)
  unfold l5
  simp only []
  rw [if_pos (by omega), Iu i (by omega), EL b i (by omega) (by omega), dO _ _ hi, dJ i (by omega)]
  rfl
theorem NM (b : List UInt8) (hb : b.length = 128) : uB b = some (Wb b, 0) := by
  unfold uB
  rw [if_neg (by omega)]
  refine nu _ 16 (fun m (i : Nat) => hK m i (AS b i)) _ _ (fun v i hi => ?_) (by unfold rm; simp only []; rw [if_neg (by omega)]; rfl)
  unfold rm
  simp only []
  rw [if_pos (by omega), Iu i (by omega), Iv b i (by omega) (by omega), dO _ _ hi, dJ i (by omega)]
  rfl
def Dy (b : List UInt8) : ae UInt64 8 := (List.range 8).foldl (fun h (i : Nat) => hK h i (KN.getD i 0 ^^^ AS b i)) (ae.rep 8 0)
theorem NO (b : List UInt8) (hb : b.length = 64) : uy b = some (Dy b, 0) := by
  unfold uy
  rw [if_neg (by omega)]
  refine nu _ 8 (fun m (i : Nat) => hK m i (KN.getD i 0 ^^^ AS b i)) _ _ (fun v i hi => ?_) (by unfold rk; simp only []; rw [if_neg (by omega)]; rfl)
  unfold rk
  simp only []
  rw [if_pos (by omega), Iu i (by omega), Iv b i (by omega) (by omega), dO _ _ hi, dJ i (by omega), VA i hi]
  rfl
theorem NP (b : List UInt8) (hb : b.length = 64) : oC b = some (Dy b, 0) := by
  unfold oC sM
  rw [if_neg (by omega)]
  simp only [Option.bind_some]
  have key : ∀ x : Nat → UInt64, (List.range 8).foldl (fun (h : ae UInt64 8) (i : Nat) => hK h i (h.g i ^^^ x i)) ⟨KN, rfl⟩ = (List.range 8).foldl (fun h (i : Nat) => hK h i (KN.getD i 0 ^^^ x i)) (ae.rep 8 0) := fun x => rfl
  refine nu _ 8 (fun h (i : Nat) => hK h i (h.g i ^^^ AS b i)) _ _ (fun v i hi => ?_) ?_
  · unfold nN
    simp only []
    rw [if_pos (by omega), Iu i (by omega), EL b i (by omega) (by omega), dO _ _ hi, dJ i (by omega)]
    rfl
  · have := key (AS b)
    unfold KN at this
    rw [this]
    rfl
def DN (n : Nat) (w : UInt64) : List UInt8 := (List.range n).map fun i => UInt8.ofNat (w.toNat / 256 ^ i)
def Iw (h : ae UInt64 8) : List UInt8 := (List.range 8).foldl (fun b i => b ++ DN 8 (h.g i)) []
theorem Ap (h : Nat → List UInt8) (k : Nat) (hk : ∀ i, (h i).length = k) : ∀ n, ((List.range n).foldl (fun b i => b ++ h i) []).length = n * k := by
  intro n
  induction n with
  | zero => simp
  | succ n ih => rw [List.range_succ, List.foldl_append]; simp only [List.foldl_cons, List.foldl_nil, List.length_append, ih, hk]; rw [Nat.succ_mul]
theorem xN (n : Nat) (w : UInt64) : (DN n w).length = n := by simp [DN]
theorem tL (h : ae UInt64 8) : (Iw h).length = 64 := by unfold Iw; rw [Ap _ 8 (fun i => xN 8 _)]
theorem NQ (h : ae UInt64 8) : oK h = some (Iw h) := by
  unfold oK
  refine eZ (fun i => ((List.range i).foldl (fun b i => b ++ DN 8 (h.g i)) [], (i : Int))) 8 (fun i hi => ?_) rfl
  unfold nR
  simp only []
  rw [if_pos (by omega), dO _ _ hi, dJ i (by omega)]
  simp only [Option.bind_some]
  rw [KO]
  simp only [Option.bind_some]
  have hq : (List.range (i + 1)).foldl (fun b i => b ++ DN 8 (h.g i)) [] = (List.range i).foldl (fun b i => b ++ DN 8 (h.g i)) [] ++ DN 8 (h.g i) := by rw [List.range_succ, List.foldl_append]; rfl
  rw [mf (by rw [Ap _ 8 (fun i => xN 8 _)]; simp; omega), hq]
  rfl
end Go.Sx
