import Derived.Test.YtoedpdamhabkoaaGreatK4
namespace Go.Sx
open Go.RowKit Go.Proofs
set_option linter.unusedVariables false
set_option linter.unusedSimpArgs false
set_option maxRecDepth 20000
theorem pz {F O : Nat → Prop} {w : World} (tB : List UInt8) (o2 : List UInt8) (mY : List UInt8) (iT : List UInt8) (mc : Int) (ka : Int) (lx : List UInt8) (nB : List UInt8) (me : Bool) (jC : UInt64) (nC : ae UInt64 8) (gT : UInt64) (gW : UInt64) (ke : List UInt8) (jD : Int) (tC : UInt64) (rb : ae UInt8 64) (o3 : Int) (p : Int) (yO : Nat) (sA : Nat) (rS : Option Addr) (pe : Nat) (rT : Nat) (qn : Nat) (pK : Option Addr) (nH : Nat) (pL : Nat) (oE : Option Addr) (mi : Nat) (oF : Nat) (kO : Option Addr) (jg : Nat) (kP : Nat) (rm : Nat) (n9 : Option Addr) (n_ : Nat) (oa : Nat) (qq : Option Addr) (qt : Nat) (qu : Nat) (nI : Nat) (nj : Option Addr) (np : Nat) (nq : Nat) (z7 : Nat) (H7 : Ro F w rS (e8.all tB)) (yx : tB.length = pe) (F8 : pe ≤ rT) (yy : Ro F w pK (e8.all o2)) (w4 : o2.length = nH) (w5 : nH ≤ pL) (w7 : Ro F w oE (e8.all mY)) (va : mY.length = mi) (vb : mi ≤ oF) (rU : Ro F w kO (e8.all iT)) (qM : iT.length = jg) (qN : jg ≤ kP) (k : Cx F O w w [Bx 26 yO [pt sA 0], Bx 58 sA [sl rS pe rT, pt qn 0], Bx 86 qn [I 1, I 64, .u32 4294967295, .u64 274877906944, .b false, sl pK nH pL, sl oE mi oF, sl kO jg kP, pt rm 0, sl none 0 0, .u64 tC, .ar e8 rb, I o3, .v (.func (.func 66) ⟨SV.ad [pt qn 0]⟩ ⟨SV.ad []⟩)], Bx 145 rm [I mc, I ka, sl n9 n_ oa, sl qq qt qu, .b me, .u64 jC, .v (.iface 194 (SV.val (pt nI 0)))], Ow e8 n9 n_ oa lx, Ow e8 qq qt qu nB, Bx 200 nI [.ar cj nC, .u64 gT, .u64 gW, sl nj np nq, I jD, .v (.func (.func 132) ⟨SV.ad []⟩ ⟨SV.ad []⟩), .v (.func (.func 133) ⟨SV.ad []⟩ ⟨SV.ad []⟩)], Ow e8 nj np nq ke, Bx 27 z7 [I p]]) (r : (UInt64 × ae UInt64 8 × UInt64 × UInt64 × List UInt8 × Int × Int × Int × List UInt8 × List UInt8 × Bool × UInt64 × List UInt8 × UInt64 × ae UInt8 64 × Int × Int)) (hm : gy tB o2 mY iT mc ka lx nB me jC nC gT gW ke jD tC rb o3 p = some r) :
    Calls Tryz.prog 38 (ad [pt yO 0, pt z7 0]) w (fun e w' => ∃ A n c A1 n1 c1 A2 n2 c2 g n3 c3, r.2.2.2.2.1.length = n ∧ r.2.2.2.2.2.2.2.2.1.length = n1 ∧ r.2.2.2.2.2.2.2.2.2.1.length = n2 ∧ r.2.2.2.2.2.2.2.2.2.2.2.2.1.length = n3 ∧ e = .returned (SV.val (.u64 r.1)) ∧ Cx F O w w' [Bx 200 nI [.ar cj r.2.1, .u64 r.2.2.1, .u64 r.2.2.2.1, sl A n c, I r.2.2.2.2.2.1, .v (.func (.func 132) ⟨SV.ad []⟩ ⟨SV.ad []⟩), .v (.func (.func 133) ⟨SV.ad []⟩ ⟨SV.ad []⟩)], Ow e8 A n c r.2.2.2.2.1, Bx 145 rm [I r.2.2.2.2.2.2.1, I r.2.2.2.2.2.2.2.1, sl A1 n1 c1, sl A2 n2 c2, .b r.2.2.2.2.2.2.2.2.2.2.1, .u64 r.2.2.2.2.2.2.2.2.2.2.2.1, .v (.iface 194 (SV.val (pt nI 0)))], Ow e8 A1 n1 c1 r.2.2.2.2.2.2.2.2.1, Ow e8 A2 n2 c2 r.2.2.2.2.2.2.2.2.2.1, Bx 86 qn [I 1, I 64, .u32 4294967295, .u64 274877906944, .b false, sl pK nH pL, sl oE mi oF, sl kO jg kP, pt rm 0, sl (some ⟨g, 0, none⟩) n3 c3, .u64 r.2.2.2.2.2.2.2.2.2.2.2.2.2.1, .ar e8 r.2.2.2.2.2.2.2.2.2.2.2.2.2.2.1, I r.2.2.2.2.2.2.2.2.2.2.2.2.2.2.2.1, .v (.func (.func 90) ⟨SV.ad [pt qn 0]⟩ ⟨SV.ad []⟩)], Sh (SH e8) [((some ⟨g, 0, none⟩), n3, c3)] [r.2.2.2.2.2.2.2.2.2.2.2.2.1], Bx 58 sA [sl rS pe rT, pt qn 0], Bx 26 yO [pt sA 0], Bx 27 z7 [I r.2.2.2.2.2.2.2.2.2.2.2.2.2.2.2.2]]) := by
 unfold gy at hm
 subst yx
 subst w4
 subst va
 subst qM
 obtain rfl := k.len 4 rfl
 obtain rfl := k.len 5 rfl
 obtain rfl := k.len 7 rfl
 refine calls [pt yO 0, pt z7 0] Tryz.func38 rfl (of_decide_eq_true (by kernel_rfl)) ?_
 refine ab <| bO [] .a qe (by kernel_rfl) ?_
 refine aa <| ab <| an <| ba 4 [] (.n 11 (pt qn 0) (.s .a)) (qB k 0 rfl 0 (pt sA 0) (by kernel_rfl) <| qs sA 0 <| qs sA 0 <| qB k 1 rfl 1 (pt qn 0) (by kernel_rfl) <| qe) (by kernel_rfl) ?_
 refine ag ?_
 obtain ⟨r_, cQ, hm⟩ := ob hm
 obtain ⟨F1, O1, lQ, hO, rp, hF, hb⟩ := k.go (.r (.r (.i (.i (.i (.i (.i (.i (.r .e)))))))))
 refine au [] 12 _ E5 (by kernel_rfl) (vY (F := F1) (O := O1) _ _ _ _ _ _ _ _ _ _ _ _ _ _ _ _ _ _ _ _ _ _ _ _ _ _ _ _ _ _ _ _ _ _ _ _ _ _ (Ro.aM yy k hF) rfl w5 (Ro.aM w7 k hF) rfl vb (Ro.aM rU k hF) rfl qN lQ _ cQ) ?_
 rintro e_ w_ ⟨A0, _, c0, A3, _, c4, A4, _, c5, A5, _, c6, g0, _, c7, rfl, rfl, rfl, rfl, rfl, rfl, k_⟩
 have db := hb w_ _ _ k_ (.c (.c (.c (.c (.c (.c (.c (.c .n))))))))
 refine ⟨.gD [sl A0 r_.1.length c0, I r_.2.1], rfl, ?_⟩
 refine ba 5 [] (.n 3 (sl A0 r_.1.length c0) (.n 4 (I r_.2.1) (.ss .a))) qe (by kernel_rfl) ?_
 refine af <| aa <| ab <| ab <| bO [] (.n 16 (.b (decide (r_.2.1 ≠ 0))) (.k (.s .a))) qe (by kernel_rfl) ?_
 refine aa <| bu (r_.2.1 ≠ 0) (by kernel_rfl) (fun hc => ?_) (fun hc => ?_)
 · rw [if_pos hc] at hm
   refine ab <| an <| ag <| en [] 10 (I 6) [I 6] (Pt.at z7 0) db rfl .all (by kernel_rfl) (by kernel_rfl) ?_
   intro k4 dE
   have dU := dE.de (.s (.bX (.bX (.kk .e))))
   refine af <| aa <| ab <| bO [] (.n 2 (.u64 0) .z) qe (by kernel_rfl) ?_
   refine aa <| aQ (cJ ?_)
   obtain rfl := Option.some.inj hm
   refine aR [.u64 0] qe (by kernel_rfl) ?_
   have eY := (((((((((dU.pk (.t (.t (.t (.t (.t (.t (.t (.t (.t .h)))))))))).pk (.t (.t (.t (.t (.t (.t (.t (.t .h))))))))).pk (.t (.t (.t (.t (.t (.t (.t (.t (.t .h)))))))))).pk (.t (.t (.t (.t (.t (.t (.t (.t (.t .h)))))))))).pk (.t (.t (.t (.t (.t (.t (.t (.t (.t .h)))))))))).pk (.t (.t (.t (.t (.t (.t (.t (.t (.t .h)))))))))).pk (.t (.t (.t (.t (.t (.t (.t (.t (.t .h)))))))))).pk (.t (.t (.t (.t (.t (.t (.t (.t (.t .h)))))))))).pk (.t (.t (.t (.t (.t (.t (.t (.t (.t .h)))))))))).pk (.t (.t (.t (.t (.t (.t (.t (.t (.t .h)))))))))
   exact ⟨A3, r_.2.2.2.2.2.1.length, c4, A4, r_.2.2.2.2.2.2.2.2.2.1.length, c5, A5, r_.2.2.2.2.2.2.2.2.2.2.1.length, c6, g0, r_.2.2.2.2.2.2.2.2.2.2.2.2.2.1.length, c7, eY.len 1 rfl, eY.len 3 rfl, eY.len 4 rfl, eY.fS 6 rfl, rfl, eY⟩
 rw [if_neg hc] at hm
 refine bc <| aa <| ab <| an <| ba 1 [] (.n 18 (sl A0 r_.1.length c0) .z) qe (by kernel_rfl) ?_
 refine ag ?_
 obtain ⟨ah, dd, hm⟩ := ob hm
 refine au [] 19 _ y5 (by kernel_rfl) (pQ (F := N0) (O := N0) _ _ _ _ _ (Ro.n0 (db.rd 0 rfl)) (db.len 0 rfl) (db.Ap 0 rfl) (Cx.refl _) _ dd) ?_
 rintro e_ l6 ⟨rfl, fU⟩
 have g_ := db.call fU
 refine ⟨.gD [.u64 ah.1, I ah.2], rfl, ?_⟩
 have gC := g_.de (.s (.bX (.bX (.kk .e))))
 refine ba 5 [] (.n 5 (.u64 ah.1) .z) qe (by kernel_rfl) ?_
 refine af <| aa <| ab <| bO [] (.n 2 (.u64 ah.1) .z) qe (by kernel_rfl) ?_
 refine aa <| aQ ?_
 obtain rfl := Option.some.inj hm
 refine aR [.u64 ah.1] qe (by kernel_rfl) ?_
 have gP := (((((((((gC.pk (.t (.t (.t (.t (.t (.t (.t (.t (.t .h)))))))))).pk (.t (.t (.t (.t (.t (.t (.t (.t .h))))))))).pk (.t (.t (.t (.t (.t (.t (.t (.t (.t .h)))))))))).pk (.t (.t (.t (.t (.t (.t (.t (.t (.t .h)))))))))).pk (.t (.t (.t (.t (.t (.t (.t (.t (.t .h)))))))))).pk (.t (.t (.t (.t (.t (.t (.t (.t (.t .h)))))))))).pk (.t (.t (.t (.t (.t (.t (.t (.t (.t .h)))))))))).pk (.t (.t (.t (.t (.t (.t (.t (.t (.t .h)))))))))).pk (.t (.t (.t (.t (.t (.t (.t (.t (.t .h)))))))))).pk (.t (.t (.t (.t (.t (.t (.t (.t (.t .h)))))))))
 exact ⟨A3, r_.2.2.2.2.2.1.length, c4, A4, r_.2.2.2.2.2.2.2.2.2.1.length, c5, A5, r_.2.2.2.2.2.2.2.2.2.2.1.length, c6, g0, r_.2.2.2.2.2.2.2.2.2.2.2.2.2.1.length, c7, gP.len 1 rfl, gP.len 3 rfl, gP.len 4 rfl, gP.fS 6 rfl, rfl, gP⟩
theorem pf {F O : Nat → Prop} {w : World} (cI : List UInt8) (bk : List UInt8) (al : List UInt8) (cq : Int) (bA : Int) (bN : List UInt8) (cR : List UInt8) (cr : Bool) (bh : UInt64) (dq : ae UInt64 8) (aG : UInt64) (aH : UInt64) (bw : List UInt8) (bj : Int) (dN : List UInt8) (jB : UInt64) (fy : ae UInt8 64) (dP : Int) (aY : Nat) (cy : Option Addr) (dF : Nat) (cz : Nat) (bQ : Option Addr) (cF : Nat) (bR : Nat) (aE : Option Addr) (a8 : Nat) (aF : Nat) (eo : Nat) (du : Option Addr) (ei : Nat) (dv : Nat) (eW : Option Addr) (fM : Nat) (eX : Nat) (da : Nat) (cO : Option Addr) (dD : Nat) (cP : Nat) (fN : Nat) (iG : Nat) (fO : Nat) (j0 : Ro F w cy (e8.all cI)) (jP : cI.length = dF) (iD : dF ≤ cz) (hN : Ro F w bQ (e8.all bk)) (iE : bk.length = cF) (gb : cF ≤ bR) (dL : Ro F w aE (e8.all al)) (eG : al.length = a8) (di : a8 ≤ aF) (pg : Ro F w (some ⟨fN, 0, none⟩) (e8.all dN)) (pM : dN.length = iG) (nJ : iG ≤ fO) (k : Cx F O w w [Bx 86 aY [I 1, I 64, .u32 4294967295, .u64 274877906944, .b false, sl cy dF cz, sl bQ cF bR, sl aE a8 aF, pt eo 0, sl (some ⟨fN, 0, none⟩) iG fO, .u64 jB, .ar e8 fy, I dP, .v (.func (.func 90) ⟨SV.ad [pt aY 0]⟩ ⟨SV.ad []⟩)], Bx 145 eo [I cq, I bA, sl du ei dv, sl eW fM eX, .b cr, .u64 bh, .v (.iface 194 (SV.val (pt da 0)))], Ow e8 du ei dv bN, Ow e8 eW fM eX cR, Bx 200 da [.ar cj dq, .u64 aG, .u64 aH, sl cO dD cP, I bj, .v (.func (.func 132) ⟨SV.ad []⟩ ⟨SV.ad []⟩), .v (.func (.func 133) ⟨SV.ad []⟩ ⟨SV.ad []⟩)], Ow e8 cO dD cP bw]) (r : (ae UInt64 8 × UInt64 × UInt64 × List UInt8 × Int × Int × Int × List UInt8 × List UInt8 × Bool × UInt64 × UInt64 × ae UInt8 64 × Int)) (hm : gY cI bk al cq bA bN cR cr bh dq aG aH bw bj dN jB fy dP = some r) :
    Calls Tryz.prog 61 (ad [pt aY 0]) w (fun e w' => ∃ A n c A1 n1 c1 A2 n2 c2, r.2.2.2.1.length = n ∧ r.2.2.2.2.2.2.2.1.length = n1 ∧ r.2.2.2.2.2.2.2.2.1.length = n2 ∧ e = .returned (SV.val (.b false)) ∧ Cx F O w w' [Bx 200 da [.ar cj r.1, .u64 r.2.1, .u64 r.2.2.1, sl A n c, I r.2.2.2.2.1, .v (.func (.func 132) ⟨SV.ad []⟩ ⟨SV.ad []⟩), .v (.func (.func 133) ⟨SV.ad []⟩ ⟨SV.ad []⟩)], Ow e8 A n c r.2.2.2.1, Bx 145 eo [I r.2.2.2.2.2.1, I r.2.2.2.2.2.2.1, sl A1 n1 c1, sl A2 n2 c2, .b r.2.2.2.2.2.2.2.2.2.1, .u64 r.2.2.2.2.2.2.2.2.2.2.1, .v (.iface 194 (SV.val (pt da 0)))], Ow e8 A1 n1 c1 r.2.2.2.2.2.2.2.1, Ow e8 A2 n2 c2 r.2.2.2.2.2.2.2.2.1, Bx 86 aY [I 1, I 64, .u32 4294967295, .u64 274877906944, .b false, sl cy dF cz, sl bQ cF bR, sl aE a8 aF, pt eo 0, sl (some ⟨fN, 0, none⟩) iG fO, .u64 r.2.2.2.2.2.2.2.2.2.2.2.1, .ar e8 r.2.2.2.2.2.2.2.2.2.2.2.2.1, I r.2.2.2.2.2.2.2.2.2.2.2.2.2, .v (.func (.func 90) ⟨SV.ad [pt aY 0]⟩ ⟨SV.ad []⟩)]]) := by
 unfold gY at hm
 subst jP
 subst iE
 subst eG
 obtain rfl := k.len 2 rfl
 obtain rfl := k.len 3 rfl
 obtain rfl := k.len 5 rfl
 subst pM
 refine calls [pt aY 0] Tryz.func61 rfl (of_decide_eq_true (by kernel_rfl)) ?_
 refine ab <| bO [] .a qe (by kernel_rfl) ?_
 refine aa <| ab <| bO [5] (.n 2 (.b false) .z) (qs aY 0 <| qs aY 0 <| qB k 0 rfl 76 (.v (.func (.func 90) ⟨SV.ad [pt aY 0]⟩ ⟨SV.ad []⟩)) (by kernel_rfl) <| qe) (by kernel_rfl) ?_
 refine aa <| aQ ?_
 obtain rfl := Option.some.inj hm
 refine aR [.b false] qe (by kernel_rfl) ?_
 have k_ := (((((k.pk .h).pk (.t (.t (.t .h)))).pk (.t (.t (.t .h)))).pk (.t (.t (.t .h)))).pk (.t (.t (.t (.t (.t .h)))))).pk (.t (.t (.t (.t (.t .h)))))
 exact ⟨cO, bw.length, cP, du, bN.length, dv, eW, cR.length, eX, k_.len 1 rfl, k_.len 3 rfl, k_.len 4 rfl, rfl, k_⟩
theorem tI {F O : Nat → Prop} {w : World} (cI : List UInt8) (bk : List UInt8) (al : List UInt8) (cq : Int) (bA : Int) (bN : List UInt8) (cR : List UInt8) (cr : Bool) (bh : UInt64) (dq : ae UInt64 8) (aG : UInt64) (aH : UInt64) (bw : List UInt8) (bj : Int) (dN : List UInt8) (jB : UInt64) (fy : ae UInt8 64) (dP : Int) (aY : Nat) (cy : Option Addr) (dF : Nat) (cz : Nat) (bQ : Option Addr) (cF : Nat) (bR : Nat) (aE : Option Addr) (a8 : Nat) (aF : Nat) (eo : Nat) (du : Option Addr) (ei : Nat) (dv : Nat) (eW : Option Addr) (fM : Nat) (eX : Nat) (da : Nat) (cO : Option Addr) (dD : Nat) (cP : Nat) (fN : Nat) (iG : Nat) (fO : Nat) (j0 : Ro F w cy (e8.all cI)) (jP : cI.length = dF) (iD : dF ≤ cz) (hN : Ro F w bQ (e8.all bk)) (iE : bk.length = cF) (gb : cF ≤ bR) (dL : Ro F w aE (e8.all al)) (eG : al.length = a8) (di : a8 ≤ aF) (pg : Ro F w (some ⟨fN, 0, none⟩) (e8.all dN)) (pM : dN.length = iG) (nJ : iG ≤ fO) (k : Cx F O w w [Bx 86 aY [I 1, I 64, .u32 4294967295, .u64 274877906944, .b false, sl cy dF cz, sl bQ cF bR, sl aE a8 aF, pt eo 0, sl (some ⟨fN, 0, none⟩) iG fO, .u64 jB, .ar e8 fy, I dP, .v (.func (.func 90) ⟨SV.ad [pt aY 0]⟩ ⟨SV.ad []⟩)], Bx 145 eo [I cq, I bA, sl du ei dv, sl eW fM eX, .b cr, .u64 bh, .v (.iface 194 (SV.val (pt da 0)))], Ow e8 du ei dv bN, Ow e8 eW fM eX cR, Bx 200 da [.ar cj dq, .u64 aG, .u64 aH, sl cO dD cP, I bj, .v (.func (.func 132) ⟨SV.ad []⟩ ⟨SV.ad []⟩), .v (.func (.func 133) ⟨SV.ad []⟩ ⟨SV.ad []⟩)], Ow e8 cO dD cP bw]) (r : (ae UInt64 8 × UInt64 × UInt64 × List UInt8 × Int × Int × Int × List UInt8 × List UInt8 × Bool × UInt64 × UInt64 × ae UInt8 64 × Int)) (hm : kf cI bk al cq bA bN cR cr bh dq aG aH bw bj dN jB fy dP = some r) :
    Calls Tryz.prog 69 (ad [pt aY 0]) w (fun e w' => ∃ A n c A1 n1 c1 A2 n2 c2, r.2.2.2.1.length = n ∧ r.2.2.2.2.2.2.2.1.length = n1 ∧ r.2.2.2.2.2.2.2.2.1.length = n2 ∧ e = .returned (SV.val (.gD [])) ∧ Cx F O w w' [Bx 200 da [.ar cj r.1, .u64 r.2.1, .u64 r.2.2.1, sl A n c, I r.2.2.2.2.1, .v (.func (.func 132) ⟨SV.ad []⟩ ⟨SV.ad []⟩), .v (.func (.func 133) ⟨SV.ad []⟩ ⟨SV.ad []⟩)], Ow e8 A n c r.2.2.2.1, Bx 145 eo [I r.2.2.2.2.2.1, I r.2.2.2.2.2.2.1, sl A1 n1 c1, sl A2 n2 c2, .b r.2.2.2.2.2.2.2.2.2.1, .u64 r.2.2.2.2.2.2.2.2.2.2.1, .v (.iface 194 (SV.val (pt da 0)))], Ow e8 A1 n1 c1 r.2.2.2.2.2.2.2.1, Ow e8 A2 n2 c2 r.2.2.2.2.2.2.2.2.1, Bx 86 aY [I 1, I 64, .u32 4294967295, .u64 274877906944, .b false, sl cy dF cz, sl bQ cF bR, sl aE a8 aF, pt eo 0, sl (some ⟨fN, 0, none⟩) iG fO, .u64 r.2.2.2.2.2.2.2.2.2.2.2.1, .ar e8 r.2.2.2.2.2.2.2.2.2.2.2.2.1, I r.2.2.2.2.2.2.2.2.2.2.2.2.2, .v (.func (.func 90) ⟨SV.ad [pt aY 0]⟩ ⟨SV.ad []⟩)]]) := by
 unfold kf at hm
 subst jP
 subst iE
 subst eG
 obtain rfl := k.len 2 rfl
 obtain rfl := k.len 3 rfl
 obtain rfl := k.len 5 rfl
 subst pM
 refine calls [pt aY 0] Tryz.func69 rfl (of_decide_eq_true (by kernel_rfl)) ?_
 refine ab <| bO [] (.n 6 (.b false) .a) (qs aY 0 <| qs aY 0 <| qB k 0 rfl 9 (sl (some ⟨fN, 0, none⟩) dN.length fO) (by kernel_rfl) <| qe) (by kernel_rfl) ?_
 refine aa <| cm false (by kernel_rfl) (fun h => by cases h) (fun _ => ?_)
 refine bc ?_
 obtain rfl := Option.some.inj hm
 refine px [] qe (by kernel_rfl) ?_
 have k_ := (((((k.pk .h).pk (.t (.t (.t .h)))).pk (.t (.t (.t .h)))).pk (.t (.t (.t .h)))).pk (.t (.t (.t (.t (.t .h)))))).pk (.t (.t (.t (.t (.t .h)))))
 exact ⟨cO, bw.length, cP, du, bN.length, dv, eW, cR.length, eX, k_.len 1 rfl, k_.len 3 rfl, k_.len 4 rfl, rfl, k_⟩
theorem tJ {F O : Nat → Prop} {w : World} (cI : List UInt8) (bk : List UInt8) (al : List UInt8) (cq : Int) (bA : Int) (bN : List UInt8) (cR : List UInt8) (cr : Bool) (bh : UInt64) (dq : ae UInt64 8) (aG : UInt64) (aH : UInt64) (bw : List UInt8) (bj : Int) (dN : List UInt8) (jB : UInt64) (fy : ae UInt8 64) (dP : Int) (aY : Nat) (cy : Option Addr) (dF : Nat) (cz : Nat) (bQ : Option Addr) (cF : Nat) (bR : Nat) (aE : Option Addr) (a8 : Nat) (aF : Nat) (eo : Nat) (du : Option Addr) (ei : Nat) (dv : Nat) (eW : Option Addr) (fM : Nat) (eX : Nat) (da : Nat) (cO : Option Addr) (dD : Nat) (cP : Nat) (fN : Nat) (iG : Nat) (fO : Nat) (j0 : Ro F w cy (e8.all cI)) (jP : cI.length = dF) (iD : dF ≤ cz) (hN : Ro F w bQ (e8.all bk)) (iE : bk.length = cF) (gb : cF ≤ bR) (dL : Ro F w aE (e8.all al)) (eG : al.length = a8) (di : a8 ≤ aF) (pg : Ro F w (some ⟨fN, 0, none⟩) (e8.all dN)) (pM : dN.length = iG) (nJ : iG ≤ fO) (k : Cx F O w w [Bx 86 aY [I 1, I 64, .u32 4294967295, .u64 274877906944, .b false, sl cy dF cz, sl bQ cF bR, sl aE a8 aF, pt eo 0, sl (some ⟨fN, 0, none⟩) iG fO, .u64 jB, .ar e8 fy, I dP, .v (.func (.func 90) ⟨SV.ad [pt aY 0]⟩ ⟨SV.ad []⟩)], Bx 145 eo [I cq, I bA, sl du ei dv, sl eW fM eX, .b cr, .u64 bh, .v (.iface 194 (SV.val (pt da 0)))], Ow e8 du ei dv bN, Ow e8 eW fM eX cR, Bx 200 da [.ar cj dq, .u64 aG, .u64 aH, sl cO dD cP, I bj, .v (.func (.func 132) ⟨SV.ad []⟩ ⟨SV.ad []⟩), .v (.func (.func 133) ⟨SV.ad []⟩ ⟨SV.ad []⟩)], Ow e8 cO dD cP bw]) (r : (List UInt8 × Int × ae UInt64 8 × UInt64 × UInt64 × List UInt8 × Int × Int × Int × List UInt8 × List UInt8 × Bool × UInt64 × UInt64 × ae UInt8 64 × Int)) (hm : iV cI bk al cq bA bN cR cr bh dq aG aH bw bj dN jB fy dP = some r) :
    Calls Tryz.prog 39 (ad [pt aY 0, I 8]) w (fun e w' => ∃ A n c A1 n1 c1 A2 n2 c2 A3 n3 c3, r.1.length = n ∧ r.2.2.2.2.2.1.length = n1 ∧ r.2.2.2.2.2.2.2.2.2.1.length = n2 ∧ r.2.2.2.2.2.2.2.2.2.2.1.length = n3 ∧ e = .returned (SV.val (.gD [sl A n c, I r.2.1])) ∧ Cx F O w w' [Ow e8 A n c r.1, Bx 200 da [.ar cj r.2.2.1, .u64 r.2.2.2.1, .u64 r.2.2.2.2.1, sl A1 n1 c1, I r.2.2.2.2.2.2.1, .v (.func (.func 132) ⟨SV.ad []⟩ ⟨SV.ad []⟩), .v (.func (.func 133) ⟨SV.ad []⟩ ⟨SV.ad []⟩)], Ow e8 A1 n1 c1 r.2.2.2.2.2.1, Bx 145 eo [I r.2.2.2.2.2.2.2.1, I r.2.2.2.2.2.2.2.2.1, sl A2 n2 c2, sl A3 n3 c3, .b r.2.2.2.2.2.2.2.2.2.2.2.1, .u64 r.2.2.2.2.2.2.2.2.2.2.2.2.1, .v (.iface 194 (SV.val (pt da 0)))], Ow e8 A2 n2 c2 r.2.2.2.2.2.2.2.2.2.1, Ow e8 A3 n3 c3 r.2.2.2.2.2.2.2.2.2.2.1, Bx 86 aY [I 1, I 64, .u32 4294967295, .u64 274877906944, .b false, sl cy dF cz, sl bQ cF bR, sl aE a8 aF, pt eo 0, sl (some ⟨fN, 0, none⟩) iG fO, .u64 r.2.2.2.2.2.2.2.2.2.2.2.2.2.1, .ar e8 r.2.2.2.2.2.2.2.2.2.2.2.2.2.2.1, I r.2.2.2.2.2.2.2.2.2.2.2.2.2.2.2, .v (.func (.func 90) ⟨SV.ad [pt aY 0]⟩ ⟨SV.ad []⟩)]]) := by
 unfold iV at hm
 subst jP
 subst iE
 subst eG
 obtain rfl := k.len 2 rfl
 obtain rfl := k.len 3 rfl
 obtain rfl := k.len 5 rfl
 subst pM
 refine calls [pt aY 0, I 8] Tryz.func39 rfl (of_decide_eq_true (by kernel_rfl)) ?_
 refine ab <| bO [] .a qe (by kernel_rfl) ?_
 refine aa <| ab <| ab <| an <| ba 1 [] (.n 11 (pt aY 0) .a) qe (by kernel_rfl) ?_
 refine ag ?_
 obtain ⟨r_, cQ, hm⟩ := ob hm
 obtain ⟨F1, O1, lQ, hO, rp, hF, hb⟩ := k.go (.i (.i (.i (.i (.i (.i .e))))))
 refine au [] 12 _ y6 (by kernel_rfl) (pf (F := F1) (O := O1) _ _ _ _ _ _ _ _ _ _ _ _ _ _ _ _ _ _ _ _ _ _ _ _ _ _ _ _ _ _ _ _ _ _ _ _ _ _ _ _ _ _ (Ro.aM j0 k hF) rfl iD (Ro.aM hN k hF) rfl gb (Ro.aM dL k hF) rfl di (Ro.aM pg k hF) rfl nJ lQ _ cQ) ?_
 rintro e_ w_ ⟨A0, _, c0, A4, _, c4, A5, _, c5, rfl, rfl, rfl, rfl, k_⟩
 have db := hb w_ _ _ k_ (.c (.c (.c (.c (.c (.c .n))))))
 refine ⟨.b false, rfl, ?_⟩
 refine af <| aa <| cm false (by kernel_rfl) (fun h => by cases h) (fun _ => ?_)
 refine bc <| aa <| ab <| ab <| bO [15] (.n 18 (.b false) (.ss .a)) qe (by kernel_rfl) ?_
 refine aa <| cm false (by kernel_rfl) (fun h => by cases h) (fun _ => ?_)
 refine bc <| aa <| ab <| an <| ba 1 [] (.n 19 (pt aY 0) (.s .a)) qe (by kernel_rfl) ?_
 refine ag ?_
 obtain ⟨ah, dd, hm⟩ := ob hm
 have dE := (((((db.pk (.t .h)).pk (.t .h)).pk (.t (.t (.t (.t .h))))).pk (.t (.t (.t (.t .h))))).pk (.t (.t (.t (.t .h))))).pk (.t (.t (.t (.t (.t .h)))))
 obtain ⟨xI, xJ, nF, Fi, tF, si, xK⟩ := dE.go (.i (.i (.i (.i (.i (.i .e))))))
 refine au [] 20 _ Fc (by kernel_rfl) (tI (F := xI) (O := xJ) _ _ _ _ _ _ _ _ _ _ _ _ _ _ _ _ _ _ _ _ _ _ _ _ _ _ _ _ _ _ _ _ _ _ _ _ _ _ _ _ _ _ (Ro.aM j0 dE si) rfl iD (Ro.aM hN dE si) rfl gb (Ro.aM dL dE si) rfl di (Ro.aM pg dE si) rfl nJ nF _ dd) ?_
 rintro e_ k4 ⟨A6, _, c6, A7, _, c7, A8, _, c8, rfl, rfl, rfl, rfl, dU⟩
 have eY := xK k4 _ _ dU (.c (.c (.c (.c (.c (.c .n))))))
 refine ⟨.gD [], rfl, ?_⟩
 refine af <| aa <| ab <| Gu bK (by kernel_rfl) (.n 6 (.u64 ((274877906944 : UInt64) - ah.2.2.2.2.2.2.2.2.2.2.2.1)) (.ss .a)) (fun m => qs aY 0 <| qs aY 0 <| qs aY 0 <| qB (eY.drew m) 5 rfl 3 (.u64 274877906944) (by kernel_rfl) <| qs aY 0 <| qs aY 0 <| qB (eY.drew m) 5 rfl 10 (.u64 ah.2.2.2.2.2.2.2.2.2.2.2.1) (by kernel_rfl) <| qe) (by kernel_rfl) (fun m_ => ?_)
 have fU := eY.drew m_
 refine aa <| ab <| ab <| bO [33] (.n 36 (.b (decide (((274877906944 : UInt64) - ah.2.2.2.2.2.2.2.2.2.2.2.1) = 0))) .a) qe (by kernel_rfl) ?_
 refine aa <| bu (((274877906944 : UInt64) - ah.2.2.2.2.2.2.2.2.2.2.2.1) = 0) (by kernel_rfl) (fun hc => ?_) (fun hc => ?_)
 · rw [if_pos hc] at hm
   refine ab <| bO [] (.n 4 (sl none 0 0) (.n 5 (I 70) .z)) qe (by kernel_rfl) ?_
   refine aa <| aQ (cJ ?_)
   have g_ := fU.nil e8
   obtain rfl := Option.some.inj hm
   refine aR [sl none 0 0, I 70] qe (by kernel_rfl) ?_
   have gC := ((((((g_.pk (.t (.t (.t (.t (.t .h)))))).pk (.t (.t (.t (.t (.t .h)))))).pk (.t (.t (.t (.t (.t .h)))))).pk (.t (.t (.t (.t (.t .h)))))).pk (.t (.t (.t (.t (.t .h)))))).pk (.t (.t (.t (.t (.t .h)))))).pk (.t (.t (.t (.t (.t (.t .h))))))
   exact ⟨none, 0, 0, A6, ah.2.2.2.1.length, c6, A7, ah.2.2.2.2.2.2.2.1.length, c7, A8, ah.2.2.2.2.2.2.2.2.1.length, c8, gC.len 0 rfl, gC.len 2 rfl, gC.len 4 rfl, gC.len 5 rfl, rfl, gC⟩
 rw [if_neg hc] at hm
 refine bc <| aa <| l4 (fun L wr => ∃ (n0 : Int), ga bk al dN ah n0 = some r ∧ L = [(0, pt aY 0), (1, I n0)] ∧ Cx F O w wr [Bx 86 aY [I 1, I 64, .u32 4294967295, .u64 274877906944, .b false, sl cy cI.length cz, sl bQ bk.length bR, sl aE al.length aF, pt eo 0, sl (some ⟨fN, 0, none⟩) dN.length fO, .u64 ah.2.2.2.2.2.2.2.2.2.2.2.1, .ar e8 ah.2.2.2.2.2.2.2.2.2.2.2.2.1, I ah.2.2.2.2.2.2.2.2.2.2.2.2.2, .v (.func (.func 90) ⟨SV.ad [pt aY 0]⟩ ⟨SV.ad []⟩)], Bx 145 eo [I ah.2.2.2.2.2.1, I ah.2.2.2.2.2.2.1, sl A7 ah.2.2.2.2.2.2.2.1.length c7, sl A8 ah.2.2.2.2.2.2.2.2.1.length c8, .b ah.2.2.2.2.2.2.2.2.2.1, .u64 ah.2.2.2.2.2.2.2.2.2.2.1, .v (.iface 194 (SV.val (pt da 0)))], Ow e8 A7 ah.2.2.2.2.2.2.2.1.length c7 ah.2.2.2.2.2.2.2.1, Ow e8 A8 ah.2.2.2.2.2.2.2.2.1.length c8 ah.2.2.2.2.2.2.2.2.1, Bx 200 da [.ar cj ah.1, .u64 ah.2.1, .u64 ah.2.2.1, sl A6 ah.2.2.2.1.length c6, I ah.2.2.2.2.1, .v (.func (.func 132) ⟨SV.ad []⟩ ⟨SV.ad []⟩), .v (.func (.func 133) ⟨SV.ad []⟩ ⟨SV.ad []⟩)], Ow e8 A6 ah.2.2.2.1.length c6 ah.2.2.2.1]) ?_ ?_
 ·
  refine ab <| bO [] (.n 40 (.b (decide (((274877906944 : UInt64) - ah.2.2.2.2.2.2.2.2.2.2.2.1) < (8 : UInt64)))) (.s .a)) qe (by kernel_rfl) ?_
  refine aa <| bu (((274877906944 : UInt64) - ah.2.2.2.2.2.2.2.2.2.2.2.1) < (8 : UInt64)) (by kernel_rfl) (fun k5 => ?_) (fun k5 => ?_)
  · rw [if_pos k5] at hm
    refine bO [] (.n 1 (I (aD ((274877906944 : UInt64) - ah.2.2.2.2.2.2.2.2.2.2.2.1).toNat)) (.ss (.k .z))) qe (by kernel_rfl) ?_
    have gP := (((((fU.pk (.t .h)).pk (.t .h)).pk (.t (.t (.t (.t .h))))).pk (.t (.t (.t (.t .h))))).pk (.t (.t (.t (.t .h))))).pk (.t (.t (.t (.t (.t .h)))))
    exact jS ⟨aD ((274877906944 : UInt64) - ah.2.2.2.2.2.2.2.2.2.2.2.1).toNat, hm, rfl, gP⟩ (by kernel_rfl)
  rw [if_neg k5] at hm
  refine bc ?_
  have gB := (((((fU.pk (.t .h)).pk (.t .h)).pk (.t (.t (.t (.t .h))))).pk (.t (.t (.t (.t .h))))).pk (.t (.t (.t (.t .h))))).pk (.t (.t (.t (.t (.t .h)))))
  exact jS ⟨(8 : Int), hm, rfl, gB⟩ (by kernel_rfl)
 rintro L_ l6 ⟨n0, hm, rfl, dO⟩
 simp only [ga] at hm
 refine ab <| bO [] (.n 7 (sl none 0 0) .a) qe (by kernel_rfl) ?_
 refine aa <| ab <| cX ?_
 have ff := dO.nil e8
 refine rv (f_ bk al dN ah n0) (fun s L wr => ∃ (aL : UInt64) (rW : ae UInt8 64) (nw : Int) (out : List UInt8) (A9 : Option Addr) (n4 : Nat) (c9 : Nat), (aL, rW, nw, out) = s ∧ L = [(0, pt aY 0), (1, I n0), (7, sl A9 n4 c9)] ∧ out.length = n4 ∧ Cx F O w wr [Bx 86 aY [I 1, I 64, .u32 4294967295, .u64 274877906944, .b false, sl cy cI.length cz, sl bQ bk.length bR, sl aE al.length aF, pt eo 0, sl (some ⟨fN, 0, none⟩) dN.length fO, .u64 aL, .ar e8 rW, I nw, .v (.func (.func 90) ⟨SV.ad [pt aY 0]⟩ ⟨SV.ad []⟩)], Bx 145 eo [I ah.2.2.2.2.2.1, I ah.2.2.2.2.2.2.1, sl A7 ah.2.2.2.2.2.2.2.1.length c7, sl A8 ah.2.2.2.2.2.2.2.2.1.length c8, .b ah.2.2.2.2.2.2.2.2.2.1, .u64 ah.2.2.2.2.2.2.2.2.2.2.1, .v (.iface 194 (SV.val (pt da 0)))], Ow e8 A7 ah.2.2.2.2.2.2.2.1.length c7 ah.2.2.2.2.2.2.2.1, Ow e8 A8 ah.2.2.2.2.2.2.2.2.1.length c8 ah.2.2.2.2.2.2.2.2.1, Bx 200 da [.ar cj ah.1, .u64 ah.2.1, .u64 ah.2.2.1, sl A6 ah.2.2.2.1.length c6, I ah.2.2.2.2.1, .v (.func (.func 132) ⟨SV.ad []⟩ ⟨SV.ad []⟩), .v (.func (.func 133) ⟨SV.ad []⟩ ⟨SV.ad []⟩)], Ow e8 A6 ah.2.2.2.1.length c6 ah.2.2.2.1, Ow e8 A9 n4 c9 out]) (ah.2.2.2.2.2.2.2.2.2.2.2.1, ah.2.2.2.2.2.2.2.2.2.2.2.2.1, ah.2.2.2.2.2.2.2.2.2.2.2.2.2, ([] : List UInt8)) r hm ⟨ah.2.2.2.2.2.2.2.2.2.2.2.1, ah.2.2.2.2.2.2.2.2.2.2.2.2.1, ah.2.2.2.2.2.2.2.2.2.2.2.2.2, ([] : List UInt8), none, 0, 0, rfl, rfl, ff.len 6 rfl, ff⟩ (by kernel_rfl) ?_
 intro Al L_ qj y0 kE dY rP
 obtain ⟨aL, rW, nw, out, A9, _, c9, rfl, rfl, rfl, cV⟩ := kE
 have hm := dY; simp only [f_] at hm
 clear dY
 refine ab <| ab <| bO [] (.n 46 (.b (decide (((out.length : Nat) : Int) < n0))) .a) qe (by kernel_rfl) ?_
 refine aa <| bu (((out.length : Nat) : Int) < n0) (by kernel_rfl) (fun rN => ?_) (fun rN => ?_)
 · rw [if_pos rN] at hm
   refine bc <| aa <| cX <| ab <| Gu bK (by kernel_rfl) (.n 8 (.u64 (aL / 64)) (.s .a)) (fun m => qs aY 0 <| qs aY 0 <| qB (cV.drew m) 0 rfl 10 (.u64 aL) (by kernel_rfl) <| qs aY 0 <| qs aY 0 <| qs aY 0 <| qB (cV.drew m) 0 rfl 1 (I 64) (by kernel_rfl) <| qp ((64 : UInt64) ≠ 0) (by show (64 : UInt64) ≠ 0; decide) <| qe) (by kernel_rfl) (fun xt => ?_)
   have gI := cV.drew xt
   refine aa <| l4 (fun L wr => ∃ (lW : ae UInt8 64) (ny : Int), hH n0 aL out lW ny = some y0 ∧ L = [(0, pt aY 0), (1, I n0), (7, sl A9 out.length c9)] ∧ Cx F O w wr [Bx 86 aY [I 1, I 64, .u32 4294967295, .u64 274877906944, .b false, sl cy cI.length cz, sl bQ bk.length bR, sl aE al.length aF, pt eo 0, sl (some ⟨fN, 0, none⟩) dN.length fO, .u64 aL, .ar e8 lW, I ny, .v (.func (.func 90) ⟨SV.ad [pt aY 0]⟩ ⟨SV.ad []⟩)], Bx 145 eo [I ah.2.2.2.2.2.1, I ah.2.2.2.2.2.2.1, sl A7 ah.2.2.2.2.2.2.2.1.length c7, sl A8 ah.2.2.2.2.2.2.2.2.1.length c8, .b ah.2.2.2.2.2.2.2.2.2.1, .u64 ah.2.2.2.2.2.2.2.2.2.2.1, .v (.iface 194 (SV.val (pt da 0)))], Ow e8 A7 ah.2.2.2.2.2.2.2.1.length c7 ah.2.2.2.2.2.2.2.1, Ow e8 A8 ah.2.2.2.2.2.2.2.2.1.length c8 ah.2.2.2.2.2.2.2.2.1, Bx 200 da [.ar cj ah.1, .u64 ah.2.1, .u64 ah.2.2.1, sl A6 ah.2.2.2.1.length c6, I ah.2.2.2.2.1, .v (.func (.func 132) ⟨SV.ad []⟩ ⟨SV.ad []⟩), .v (.func (.func 133) ⟨SV.ad []⟩ ⟨SV.ad []⟩)], Ow e8 A6 ah.2.2.2.1.length c6 ah.2.2.2.1, Ow e8 A9 out.length c9 out]) ?_ ?_
   ·
    refine ab <| bO [] (.n 64 (.b (decide (nw ≠ (aD (aL / 64).toNat)))) .a) (qs aY 0 <| qs aY 0 <| qB gI 0 rfl 75 (I nw) (by kernel_rfl) <| qe) (by kernel_rfl) ?_
    refine aa <| bu (nw ≠ (aD (aL / 64).toNat)) (by kernel_rfl) (fun xQ => ?_) (fun xQ => ?_)
    · rw [if_pos xQ] at hm
      refine ab ?_
      have ez := gI.drew 1
      refine qO bK (.q 20 0 (.q 0 2 (.q 1 2 (.q 2 1 (.q 3 1 (.q 4 2 (.q 5 2 (.q 6 1 (.q 7 0 (.q 8 2 (.q 9 2 (.q 10 1 (.q 11 0 (.q 12 2 (.q 13 2 (.q 14 1 (.q 15 0 (.q 16 2 (.q 17 2 (.q 18 1 (.q 19 0 (.op 21 (.op 22 .nil))))))))))))))))))))))) [21, 22] ez (.c (.bX (.kk (.k .e))) (.c (.s (.bX (.kk .e))) .l)) (by kernel_rfl) (fun _ => ?_)
      refine cK 1 0 [] (.n 85 (.u64 (aL / 64)) (.s .a)) (fun x hx => qe) (by kernel_rfl) (fun _ => ?_)
      refine cK 2 2 [] (.n 66 (pt aY 0) .a) (fun x hx => qs aY 0 <| qe) (by kernel_rfl) (fun _ => ?_)
      refine cK 2 1 [] (.n 68 (sl (some ⟨aY, 11, none⟩) 64 64) (.s .a)) (fun x hx => qs aY 0 <| qo (.v (.slice (some ⟨aY, 11, none⟩) 64 64)) <| qp (((some ⟨aY, 11, none⟩) : Option Addr).isSome = true ∧ Value.slice (sD (some ⟨aY, 11, none⟩) 0 64 1) (64 - 0) (64 - 0) = .slice (some ⟨aY, 11, none⟩) 64 64) ⟨rfl, uA _ _ _ _ _ rfl⟩ <| qe) (by kernel_rfl) (fun _ => ?_)
      refine cK 2 2 [] (.n 70 (pt aY 0) .a) (fun x hx => qs aY 0 <| qe) (by kernel_rfl) (fun _ => ?_)
      refine cK 1 1 [] (.n 71 (pt aY 0) (.s .a)) (fun x hx => qs aY 0 <| qe) (by kernel_rfl) (fun _ => ?_)
      refine cK 1 0 [] (.n 72 (.agg [I 1, I 64, .u32 4294967295, .u64 274877906944, .b false]) (.s .a)) (fun x hx => qT hx 0 rfl 0 5 [I 1, I 64, .u32 4294967295, .u64 274877906944, .b false] (by kernel_rfl) (by decide) <| qe) (by kernel_rfl) (fun _ => ?_)
      refine cK 2 2 [] (.n 74 (pt aY 0) .a) (fun x hx => qs aY 0 <| qe) (by kernel_rfl) (fun _ => ?_)
      refine cK 1 1 [] (.n 75 (pt aY 6) (.s .a)) (fun x hx => qs aY 0 <| qe) (by kernel_rfl) (fun _ => ?_)
      refine cK 1 0 [] (.n 76 (sl bQ bk.length bR) (.s .a)) (fun x hx => qB hx 0 rfl 6 (sl bQ bk.length bR) (by kernel_rfl) <| qe) (by kernel_rfl) (fun _ => ?_)
      refine cK 2 2 [] (.n 78 (pt aY 0) .a) (fun x hx => qs aY 0 <| qe) (by kernel_rfl) (fun _ => ?_)
      refine cK 1 1 [] (.n 79 (pt aY 7) (.s .a)) (fun x hx => qs aY 0 <| qe) (by kernel_rfl) (fun _ => ?_)
      refine cK 1 0 [] (.n 80 (sl aE al.length aF) (.s .a)) (fun x hx => qB hx 0 rfl 7 (sl aE al.length aF) (by kernel_rfl) <| qe) (by kernel_rfl) (fun _ => ?_)
      refine cK 2 2 [] (.n 82 (pt aY 0) .a) (fun x hx => qs aY 0 <| qe) (by kernel_rfl) (fun _ => ?_)
      refine cK 1 1 [] (.n 83 (pt aY 9) (.s .a)) (fun x hx => qs aY 0 <| qe) (by kernel_rfl) (fun _ => ?_)
      refine cK 1 0 [] (.n 84 (sl (some ⟨fN, 0, none⟩) dN.length fO) (.s .a)) (fun x hx => qB hx 0 rfl 9 (sl (some ⟨fN, 0, none⟩) dN.length fO) (by kernel_rfl) <| qe) (by kernel_rfl) (fun _ => ?_)
      refine cC (by kernel_rfl) rfl ?_
      obtain ⟨aX, hK, hm⟩ := ob hm
      refine au [] 86 _ Fe (by kernel_rfl) (qU (F := N0) (O := N0) _ _ _ _ _ _ _ _ _ _ _ _ _ (Ro.n0 (hN.cx ez)) rfl gb (Ro.n0 (dL.cx ez)) rfl di (Ro.n0 (pg.cx ez)) rfl nJ (Cx.refl _) _ hK) ?_
      rintro e_ qk ⟨wq, _, sV, rfl, rfl, jj⟩
      have gQ := ez.call jj
      refine ⟨sl wq aX.length sV, rfl, ?_⟩
      refine ⟨(gQ.de (.bX (.kk (.k .z)))), fun _ => ?_⟩
      refine cC (by kernel_rfl) rfl <| x8 (E := e8) (dn := 64) (dc := 64) (v := sl wq aX.length sV) (src := aX) (lo := 0) (m' := 64) iJ [] 87 0 [I 1, I 64, .u32 4294967295, .u64 274877906944, .b false, sl cy cI.length cz, sl bQ bk.length bR, sl aE al.length aF, pt eo 0, sl (some ⟨fN, 0, none⟩) dN.length fO, .u64 aL] [I nw, .v (.func (.func 90) ⟨SV.ad [pt aY 0]⟩ ⟨SV.ad []⟩)] rW (by kernel_rfl) (sN _ _ _).symm gQ rfl (Src.sl (gQ.rd 7 rfl) (gQ.len 7 rfl) (by rfl)) (gQ.len 7 rfl) (by have := rW.h; omega) (by omega) (by omega) ?_
      intro rX kV
      refine ⟨(kV.de (.s (.bX (.kk .z)))), fun _ => ?_⟩
      refine d_ <| aa <| an <| ba 5 [] (.n 90 (I (aD (aL / 64).toNat)) (.n 92 (pt aY 75) (.jn (.jn (.s .a))))) (qs aY 0 <| qs aY 0 <| qe) (by kernel_rfl) ?_
      refine ag <| en [] 0 (I (aD (aL / 64).toNat)) [I (aD (aL / 64).toNat)] (Pt.at aY 75) kV rfl (.bX (.bX (.bX .h))) (by kernel_rfl) (by kernel_rfl) ?_
      intro wQ lz
      have k6 := lz.de (.bX (.kk (.k .z)))
      refine af ?_
      exact jS ⟨(tT rW 0 64 aX), aD (aL / 64).toNat, hm, rfl, k6⟩ (by kernel_rfl)
    rw [if_neg xQ] at hm
    refine bc ?_
    exact jS ⟨rW, nw, hm, rfl, gI⟩ (by kernel_rfl)
   rintro L_ wR ⟨lW, ny, hm, rfl, lJ⟩
   simp only [hH] at hm
   refine ab <| Gu bK (by kernel_rfl) (.n 9 (I (aD (aL % 64).toNat)) .a) (fun m => qs aY 0 <| qs aY 0 <| qB (lJ.drew m) 0 rfl 10 (.u64 aL) (by kernel_rfl) <| qs aY 0 <| qs aY 0 <| qs aY 0 <| qB (lJ.drew m) 0 rfl 1 (I 64) (by kernel_rfl) <| qp ((64 : UInt64) ≠ 0) (by show (64 : UInt64) ≠ 0; decide) <| qe) (by kernel_rfl) (fun P3 => ?_)
   have my := lJ.drew P3
   refine aa <| ab <| bO [] (.n 10 (I (if aD (64 - (aD (aL % 64).toNat)) < aD (n0 - ((out.length : Nat) : Int)) then aD (64 - (aD (aL % 64).toNat)) else aD (n0 - ((out.length : Nat) : Int)))) .a) (qs aY 0 <| qs aY 0 <| qs aY 0 <| qB my 0 rfl 1 (I 64) (by kernel_rfl) <| qe) (by kernel_rfl) ?_
   refine aa <| ab <| an ?_
   obtain ⟨b, qH, hm⟩ := ob hm
   have hs := iB qH
   have hl := lh qH
   have hn : lW.l.length = 64 := lW.h
   have Ak : 64 ≤ 64 := (Nat.le_refl _)
   obtain ⟨yr, uf, e_, wm, hA, xR⟩ := Kx (some ⟨aY, 11, none⟩) (Int.toNat (aD (aL % 64).toNat)) 64 1 (Int.toNat (aD ((aD (aL % 64).toNat) + (if aD (64 - (aD (aL % 64).toNat)) < aD (n0 - ((out.length : Nat) : Int)) then aD (64 - (aD (aL % 64).toNat)) else aD (n0 - ((out.length : Nat) : Int))))) - Int.toNat (aD (aL % 64).toNat)) b.length (by omega) (by omega)
   refine ba 9 [] (.n 117 (sl A9 out.length c9) (.n 125 (sl yr b.length uf) (.k (.s .a)))) (qs aY 0 <| qs aY 0 <| qp (0 ≤ aD ((aD (aL % 64).toNat) + (if aD (64 - (aD (aL % 64).toNat)) < aD (n0 - ((out.length : Nat) : Int)) then aD (64 - (aD (aL % 64).toNat)) else aD (n0 - ((out.length : Nat) : Int)))) ∧ aD ((aD (aL % 64).toNat) + (if aD (64 - (aD (aL % 64).toNat)) < aD (n0 - ((out.length : Nat) : Int)) then aD (64 - (aD (aL % 64).toNat)) else aD (n0 - ((out.length : Nat) : Int)))) ≤ ((64 : Nat) : Int)) (by omega) <| qp (0 ≤ aD (aL % 64).toNat ∧ aD (aL % 64).toNat ≤ ((Int.toNat (aD ((aD (aL % 64).toNat) + (if aD (64 - (aD (aL % 64).toNat)) < aD (n0 - ((out.length : Nat) : Int)) then aD (64 - (aD (aL % 64).toNat)) else aD (n0 - ((out.length : Nat) : Int))))) : Nat) : Int)) (by omega) <| qo (.v (.slice yr b.length uf)) <| qp (((some ⟨aY, 11, none⟩) : Option Addr).isSome = true ∧ Value.slice (sD (some ⟨aY, 11, none⟩) (Int.toNat (aD (aL % 64).toNat)) 64 1) (Int.toNat (aD ((aD (aL % 64).toNat) + (if aD (64 - (aD (aL % 64).toNat)) < aD (n0 - ((out.length : Nat) : Int)) then aD (64 - (aD (aL % 64).toNat)) else aD (n0 - ((out.length : Nat) : Int))))) - Int.toNat (aD (aL % 64).toNat)) (64 - Int.toNat (aD (aL % 64).toNat)) = .slice yr b.length uf) ⟨rfl, e_⟩ <| qe) (by kernel_rfl) ?_
   refine ag ?_
   obtain ⟨zL, Ep, hm⟩ := ob hm
   obtain ⟨hz, Gv⟩ := mm Ep
   refine k8 (E := e8) (v := sl yr b.length uf) (ys := b) iJ [] 126 6 (by kernel_rfl) my rfl (Src.sl (Rd.cut (Rd.vec (my.uz 0 rfl) (c := fm.all e8 lW.l) (off := 11) (by kernel_rfl)) qH rfl (by rfl) hA (by omega)) rfl (by rfl)) rfl (by have := my.len 6 rfl; have := hm; omega) ?_
   intro Cn xS Av nE
   rw [← Gv] at nE
   refine ba 1 [] (.n 7 (sl Cn (out.length + b.length) xS) (.oQ (.uk .z))) qe (by kernel_rfl) ?_
   refine af <| aa <| an <| ba 9 [] (.n 133 (.u64 (aL + (UInt64.ofInt (if aD (64 - (aD (aL % 64).toNat)) < aD (n0 - ((out.length : Nat) : Int)) then aD (64 - (aD (aL % 64).toNat)) else aD (n0 - ((out.length : Nat) : Int)))))) (.n 135 (pt aY 10) (.k (.s .a)))) (qs aY 0 <| qs aY 0 <| qB nE 0 rfl 10 (.u64 aL) (by kernel_rfl) <| qs aY 0 <| qs aY 0 <| qe) (by kernel_rfl) ?_
   refine ag <| en [] 0 (.u64 (aL + (UInt64.ofInt (if aD (64 - (aD (aL % 64).toNat)) < aD (n0 - ((out.length : Nat) : Int)) then aD (64 - (aD (aL % 64).toNat)) else aD (n0 - ((out.length : Nat) : Int)))))) [.u64 (aL + (UInt64.ofInt (if aD (64 - (aD (aL % 64).toNat)) < aD (n0 - ((out.length : Nat) : Int)) then aD (64 - (aD (aL % 64).toNat)) else aD (n0 - ((out.length : Nat) : Int)))))] (Pt.at aY 10) nE rfl (.bX (.bX (.kk .h))) (by kernel_rfl) (by kernel_rfl) ?_
   intro DE nh
   refine af <| lL ?_
   exact mN (aL + (UInt64.ofInt (if aD (64 - (aD (aL % 64).toNat)) < aD (n0 - ((out.length : Nat) : Int)) then aD (64 - (aD (aL % 64).toNat)) else aD (n0 - ((out.length : Nat) : Int)))), lW, ny, zL) (Option.some.inj hm).symm ⟨aL + (UInt64.ofInt (if aD (64 - (aD (aL % 64).toNat)) < aD (n0 - ((out.length : Nat) : Int)) then aD (64 - (aD (aL % 64).toNat)) else aD (n0 - ((out.length : Nat) : Int)))), lW, ny, zL, Cn, out.length + b.length, xS, rfl, rfl, nh.len 6 rfl, nh⟩ (by kernel_rfl)
 rw [if_neg rN] at hm
 refine jr (gk (gk (lT ?_)))
 have hm := iv hm rP
 refine aa <| ab <| bO [] (.n 4 (sl A9 out.length c9) (.n 5 (I 0) .z)) qe (by kernel_rfl) ?_
 refine aa <| aQ ?_
 obtain rfl := Option.some.inj hm
 refine aR [sl A9 out.length c9, I 0] qe (by kernel_rfl) ?_
 have mz := ((((((cV.pk .h).pk (.t (.t (.t .h)))).pk (.t (.t (.t .h)))).pk (.t (.t (.t .h)))).pk (.t (.t (.t (.t (.t .h)))))).pk (.t (.t (.t (.t (.t .h)))))).pk (.t (.t (.t (.t (.t (.t .h))))))
 exact ⟨A9, out.length, c9, A6, ah.2.2.2.1.length, c6, A7, ah.2.2.2.2.2.2.2.1.length, c7, A8, ah.2.2.2.2.2.2.2.2.1.length, c8, mz.len 0 rfl, mz.len 2 rfl, mz.len 4 rfl, mz.len 5 rfl, rfl, mz⟩
theorem oc {F O : Nat → Prop} {w : World} (tB : List UInt8) (o2 : List UInt8) (mY : List UInt8) (iT : List UInt8) (mc : Int) (ka : Int) (lx : List UInt8) (nB : List UInt8) (me : Bool) (jC : UInt64) (nC : ae UInt64 8) (gT : UInt64) (gW : UInt64) (ke : List UInt8) (jD : Int) (uV : List UInt8) (tC : UInt64) (rb : ae UInt8 64) (o3 : Int) (p : Int) (yO : Nat) (sA : Nat) (rS : Option Addr) (pe : Nat) (rT : Nat) (qn : Nat) (pK : Option Addr) (nH : Nat) (pL : Nat) (oE : Option Addr) (mi : Nat) (oF : Nat) (kO : Option Addr) (jg : Nat) (kP : Nat) (rm : Nat) (n9 : Option Addr) (n_ : Nat) (oa : Nat) (qq : Option Addr) (qt : Nat) (qu : Nat) (nI : Nat) (nj : Option Addr) (np : Nat) (nq : Nat) (w8 : Nat) (tK : Nat) (w9 : Nat) (z7 : Nat) (H7 : Ro F w rS (e8.all tB)) (yx : tB.length = pe) (F8 : pe ≤ rT) (yy : Ro F w pK (e8.all o2)) (w4 : o2.length = nH) (w5 : nH ≤ pL) (w7 : Ro F w oE (e8.all mY)) (va : mY.length = mi) (vb : mi ≤ oF) (rU : Ro F w kO (e8.all iT)) (qM : iT.length = jg) (qN : jg ≤ kP) (Er : Ro F w (some ⟨w8, 0, none⟩) (e8.all uV)) (Dm : uV.length = tK) (Dn : tK ≤ w9) (k : Cx F O w w [Bx 26 yO [pt sA 0], Bx 58 sA [sl rS pe rT, pt qn 0], Bx 86 qn [I 1, I 64, .u32 4294967295, .u64 274877906944, .b false, sl pK nH pL, sl oE mi oF, sl kO jg kP, pt rm 0, sl (some ⟨w8, 0, none⟩) tK w9, .u64 tC, .ar e8 rb, I o3, .v (.func (.func 90) ⟨SV.ad [pt qn 0]⟩ ⟨SV.ad []⟩)], Bx 145 rm [I mc, I ka, sl n9 n_ oa, sl qq qt qu, .b me, .u64 jC, .v (.iface 194 (SV.val (pt nI 0)))], Ow e8 n9 n_ oa lx, Ow e8 qq qt qu nB, Bx 200 nI [.ar cj nC, .u64 gT, .u64 gW, sl nj np nq, I jD, .v (.func (.func 132) ⟨SV.ad []⟩ ⟨SV.ad []⟩), .v (.func (.func 133) ⟨SV.ad []⟩ ⟨SV.ad []⟩)], Ow e8 nj np nq ke, Bx 27 z7 [I p]]) (r : (UInt64 × ae UInt64 8 × UInt64 × UInt64 × List UInt8 × Int × Int × Int × List UInt8 × List UInt8 × Bool × UInt64 × UInt64 × ae UInt8 64 × Int × Int)) (hm : fC tB o2 mY iT mc ka lx nB me jC nC gT gW ke jD uV tC rb o3 p = some r) :
    Calls Tryz.prog 38 (ad [pt yO 0, pt z7 0]) w (fun e w' => ∃ A n c A1 n1 c1 A2 n2 c2, r.2.2.2.2.1.length = n ∧ r.2.2.2.2.2.2.2.2.1.length = n1 ∧ r.2.2.2.2.2.2.2.2.2.1.length = n2 ∧ e = .returned (SV.val (.u64 r.1)) ∧ Cx F O w w' [Bx 200 nI [.ar cj r.2.1, .u64 r.2.2.1, .u64 r.2.2.2.1, sl A n c, I r.2.2.2.2.2.1, .v (.func (.func 132) ⟨SV.ad []⟩ ⟨SV.ad []⟩), .v (.func (.func 133) ⟨SV.ad []⟩ ⟨SV.ad []⟩)], Ow e8 A n c r.2.2.2.2.1, Bx 145 rm [I r.2.2.2.2.2.2.1, I r.2.2.2.2.2.2.2.1, sl A1 n1 c1, sl A2 n2 c2, .b r.2.2.2.2.2.2.2.2.2.2.1, .u64 r.2.2.2.2.2.2.2.2.2.2.2.1, .v (.iface 194 (SV.val (pt nI 0)))], Ow e8 A1 n1 c1 r.2.2.2.2.2.2.2.2.1, Ow e8 A2 n2 c2 r.2.2.2.2.2.2.2.2.2.1, Bx 86 qn [I 1, I 64, .u32 4294967295, .u64 274877906944, .b false, sl pK nH pL, sl oE mi oF, sl kO jg kP, pt rm 0, sl (some ⟨w8, 0, none⟩) tK w9, .u64 r.2.2.2.2.2.2.2.2.2.2.2.2.1, .ar e8 r.2.2.2.2.2.2.2.2.2.2.2.2.2.1, I r.2.2.2.2.2.2.2.2.2.2.2.2.2.2.1, .v (.func (.func 90) ⟨SV.ad [pt qn 0]⟩ ⟨SV.ad []⟩)], Bx 58 sA [sl rS pe rT, pt qn 0], Bx 26 yO [pt sA 0], Bx 27 z7 [I r.2.2.2.2.2.2.2.2.2.2.2.2.2.2.2]]) := by
 unfold fC at hm
 subst yx
 subst w4
 subst va
 subst qM
 obtain rfl := k.len 4 rfl
 obtain rfl := k.len 5 rfl
 obtain rfl := k.len 7 rfl
 subst Dm
 refine calls [pt yO 0, pt z7 0] Tryz.func38 rfl (of_decide_eq_true (by kernel_rfl)) ?_
 refine ab <| bO [] .a qe (by kernel_rfl) ?_
 refine aa <| ab <| an <| ba 4 [] (.n 11 (pt qn 0) (.s .a)) (qB k 0 rfl 0 (pt sA 0) (by kernel_rfl) <| qs sA 0 <| qs sA 0 <| qB k 1 rfl 1 (pt qn 0) (by kernel_rfl) <| qe) (by kernel_rfl) ?_
 refine ag ?_
 obtain ⟨r_, cQ, hm⟩ := ob hm
 obtain ⟨F1, O1, lQ, hO, rp, hF, hb⟩ := k.go (.r (.r (.i (.i (.i (.i (.i (.i (.r .e)))))))))
 refine au [] 12 _ E5 (by kernel_rfl) (tJ (F := F1) (O := O1) _ _ _ _ _ _ _ _ _ _ _ _ _ _ _ _ _ _ _ _ _ _ _ _ _ _ _ _ _ _ _ _ _ _ _ _ _ _ _ _ _ _ (Ro.aM yy k hF) rfl w5 (Ro.aM w7 k hF) rfl vb (Ro.aM rU k hF) rfl qN (Ro.aM Er k hF) rfl Dn lQ _ cQ) ?_
 rintro e_ w_ ⟨A0, _, c0, A3, _, c3, A4, _, c4, A5, _, c5, rfl, rfl, rfl, rfl, rfl, k_⟩
 have db := hb w_ _ _ k_ (.c (.c (.c (.c (.c (.c (.c .n)))))))
 refine ⟨.gD [sl A0 r_.1.length c0, I r_.2.1], rfl, ?_⟩
 refine ba 5 [] (.n 3 (sl A0 r_.1.length c0) (.n 4 (I r_.2.1) (.ss .a))) qe (by kernel_rfl) ?_
 refine af <| aa <| ab <| ab <| bO [] (.n 16 (.b (decide (r_.2.1 ≠ 0))) (.k (.s .a))) qe (by kernel_rfl) ?_
 refine aa <| bu (r_.2.1 ≠ 0) (by kernel_rfl) (fun hc => ?_) (fun hc => ?_)
 · rw [if_pos hc] at hm
   refine ab <| an <| ag <| en [] 9 (I 6) [I 6] (Pt.at z7 0) db rfl .all (by kernel_rfl) (by kernel_rfl) ?_
   intro k4 dE
   have dU := dE.de (.s (.bX (.bX (.k .e))))
   refine af <| aa <| ab <| bO [] (.n 2 (.u64 0) .z) qe (by kernel_rfl) ?_
   refine aa <| aQ (cJ ?_)
   obtain rfl := Option.some.inj hm
   refine aR [.u64 0] qe (by kernel_rfl) ?_
   have eY := ((((((((dU.pk (.t (.t (.t (.t (.t (.t (.t (.t .h))))))))).pk (.t (.t (.t (.t (.t (.t (.t .h)))))))).pk (.t (.t (.t (.t (.t (.t (.t (.t .h))))))))).pk (.t (.t (.t (.t (.t (.t (.t (.t .h))))))))).pk (.t (.t (.t (.t (.t (.t (.t (.t .h))))))))).pk (.t (.t (.t (.t (.t (.t (.t (.t .h))))))))).pk (.t (.t (.t (.t (.t (.t (.t (.t .h))))))))).pk (.t (.t (.t (.t (.t (.t (.t (.t .h))))))))).pk (.t (.t (.t (.t (.t (.t (.t (.t .h))))))))
   exact ⟨A3, r_.2.2.2.2.2.1.length, c3, A4, r_.2.2.2.2.2.2.2.2.2.1.length, c4, A5, r_.2.2.2.2.2.2.2.2.2.2.1.length, c5, eY.len 1 rfl, eY.len 3 rfl, eY.len 4 rfl, rfl, eY⟩
 rw [if_neg hc] at hm
 refine bc <| aa <| ab <| an <| ba 1 [] (.n 18 (sl A0 r_.1.length c0) .z) qe (by kernel_rfl) ?_
 refine ag ?_
 obtain ⟨ah, dd, hm⟩ := ob hm
 refine au [] 19 _ y5 (by kernel_rfl) (pQ (F := N0) (O := N0) _ _ _ _ _ (Ro.n0 (db.rd 0 rfl)) (db.len 0 rfl) (db.Ap 0 rfl) (Cx.refl _) _ dd) ?_
 rintro e_ l6 ⟨rfl, fU⟩
 have g_ := db.call fU
 refine ⟨.gD [.u64 ah.1, I ah.2], rfl, ?_⟩
 have gC := g_.de (.s (.bX (.bX (.k .e))))
 refine ba 5 [] (.n 5 (.u64 ah.1) .z) qe (by kernel_rfl) ?_
 refine af <| aa <| ab <| bO [] (.n 2 (.u64 ah.1) .z) qe (by kernel_rfl) ?_
 refine aa <| aQ ?_
 obtain rfl := Option.some.inj hm
 refine aR [.u64 ah.1] qe (by kernel_rfl) ?_
 have gP := ((((((((gC.pk (.t (.t (.t (.t (.t (.t (.t (.t .h))))))))).pk (.t (.t (.t (.t (.t (.t (.t .h)))))))).pk (.t (.t (.t (.t (.t (.t (.t (.t .h))))))))).pk (.t (.t (.t (.t (.t (.t (.t (.t .h))))))))).pk (.t (.t (.t (.t (.t (.t (.t (.t .h))))))))).pk (.t (.t (.t (.t (.t (.t (.t (.t .h))))))))).pk (.t (.t (.t (.t (.t (.t (.t (.t .h))))))))).pk (.t (.t (.t (.t (.t (.t (.t (.t .h))))))))).pk (.t (.t (.t (.t (.t (.t (.t (.t .h))))))))
 exact ⟨A3, r_.2.2.2.2.2.1.length, c3, A4, r_.2.2.2.2.2.2.2.2.2.1.length, c4, A5, r_.2.2.2.2.2.2.2.2.2.2.1.length, c5, gP.len 1 rfl, gP.len 3 rfl, gP.len 4 rfl, rfl, gP⟩
theorem z8 {F O : Nat → Prop} {w : World} (er : List UInt8) (dJ : List UInt8) (cW : List UInt8) (bL : List UInt8) (dQ : Int) (cZ : Int) (dz : List UInt8) (et : List UInt8) (dT : Bool) (cG : UInt64) (eu : ae UInt64 8) (b8 : UInt64) (b9 : UInt64) (c_ : List UInt8) (cH : Int) (gX : UInt64) (gd : ae UInt8 64) (fp : Int) (draw : Int) (n : UInt64) (iK : Nat) (jI : Nat) (gu : Option Addr) (fq : Nat) (gv : Nat) (fh : Nat) (fG : Option Addr) (eA : Nat) (fH : Nat) (fc : Option Addr) (dV : Nat) (fe : Nat) (df : Option Addr) (ct : Nat) (dh : Nat) (fD : Nat) (fP : Option Addr) (fQ : Nat) (fR : Nat) (gL : Option Addr) (gM : Nat) (gN : Nat) (dW : Nat) (ft : Option Addr) (fu : Nat) (fw : Nat) (gm : Nat) (l8 : Ro F w gu (e8.all er)) (mj : er.length = fq) (lD : fq ≤ gv) (lE : Ro F w fG (e8.all dJ)) (lK : dJ.length = eA) (kz : eA ≤ fH) (kA : Ro F w fc (e8.all cW)) (kQ : cW.length = dV) (jQ : dV ≤ fe) (ie : Ro F w df (e8.all bL)) (iA : bL.length = ct) (gO : ct ≤ dh) (k : Cx F O w w [Bx 26 iK [pt jI 0], Bx 58 jI [sl gu fq gv, pt fh 0], Bx 86 fh [I 1, I 64, .u32 4294967295, .u64 274877906944, .b false, sl fG eA fH, sl fc dV fe, sl df ct dh, pt fD 0, sl none 0 0, .u64 gX, .ar e8 gd, I fp, .v (.func (.func 66) ⟨SV.ad [pt fh 0]⟩ ⟨SV.ad []⟩)], Bx 145 fD [I dQ, I cZ, sl fP fQ fR, sl gL gM gN, .b dT, .u64 cG, .v (.iface 194 (SV.val (pt dW 0)))], Ow e8 fP fQ fR dz, Ow e8 gL gM gN et, Bx 200 dW [.ar cj eu, .u64 b8, .u64 b9, sl ft fu fw, I cH, .v (.func (.func 132) ⟨SV.ad []⟩ ⟨SV.ad []⟩), .v (.func (.func 133) ⟨SV.ad []⟩ ⟨SV.ad []⟩)], Ow e8 ft fu fw c_, Bx 27 gm [I draw]]) (r : (UInt64 × ae UInt64 8 × UInt64 × UInt64 × List UInt8 × Int × Int × Int × List UInt8 × List UInt8 × Bool × UInt64 × List UInt8 × UInt64 × ae UInt8 64 × Int × Int)) (hm : mZ er dJ cW bL dQ cZ dz et dT cG eu b8 b9 c_ cH gX gd fp draw n = some r) :
    Calls Tryz.prog 19 (ad [.v (.func (.func 38) ⟨SV.ad []⟩ ⟨SV.ad [pt iK 0, pt gm 0]⟩), .u64 n]) w (fun e w' => ∃ A n1 c A1 n2 c1 A2 n3 c2 g n4 c3, r.2.2.2.2.1.length = n1 ∧ r.2.2.2.2.2.2.2.2.1.length = n2 ∧ r.2.2.2.2.2.2.2.2.2.1.length = n3 ∧ r.2.2.2.2.2.2.2.2.2.2.2.2.1.length = n4 ∧ e = .returned (SV.val (.u64 r.1)) ∧ Cx F O w w' [Bx 200 dW [.ar cj r.2.1, .u64 r.2.2.1, .u64 r.2.2.2.1, sl A n1 c, I r.2.2.2.2.2.1, .v (.func (.func 132) ⟨SV.ad []⟩ ⟨SV.ad []⟩), .v (.func (.func 133) ⟨SV.ad []⟩ ⟨SV.ad []⟩)], Ow e8 A n1 c r.2.2.2.2.1, Bx 145 fD [I r.2.2.2.2.2.2.1, I r.2.2.2.2.2.2.2.1, sl A1 n2 c1, sl A2 n3 c2, .b r.2.2.2.2.2.2.2.2.2.2.1, .u64 r.2.2.2.2.2.2.2.2.2.2.2.1, .v (.iface 194 (SV.val (pt dW 0)))], Ow e8 A1 n2 c1 r.2.2.2.2.2.2.2.2.1, Ow e8 A2 n3 c2 r.2.2.2.2.2.2.2.2.2.1, Bx 86 fh [I 1, I 64, .u32 4294967295, .u64 274877906944, .b false, sl fG eA fH, sl fc dV fe, sl df ct dh, pt fD 0, sl (some ⟨g, 0, none⟩) n4 c3, .u64 r.2.2.2.2.2.2.2.2.2.2.2.2.2.1, .ar e8 r.2.2.2.2.2.2.2.2.2.2.2.2.2.2.1, I r.2.2.2.2.2.2.2.2.2.2.2.2.2.2.2.1, .v (.func (.func 90) ⟨SV.ad [pt fh 0]⟩ ⟨SV.ad []⟩)], Sh (SH e8) [((some ⟨g, 0, none⟩), n4, c3)] [r.2.2.2.2.2.2.2.2.2.2.2.2.1], Bx 58 jI [sl gu fq gv, pt fh 0], Bx 26 iK [pt jI 0], Bx 27 gm [I r.2.2.2.2.2.2.2.2.2.2.2.2.2.2.2.2]]) := by
 unfold mZ at hm
 subst mj
 subst lK
 subst kQ
 subst iA
 obtain rfl := k.len 4 rfl
 obtain rfl := k.len 5 rfl
 obtain rfl := k.len 7 rfl
 refine calls [.v (.func (.func 38) ⟨SV.ad []⟩ ⟨SV.ad [pt iK 0, pt gm 0]⟩), .u64 n] Tryz.func19 rfl (of_decide_eq_true (by kernel_rfl)) ?_
 refine ab <| bO [] .a qe (by kernel_rfl) ?_
 refine aa <| ab <| an ?_
 obtain ⟨u, wT, hm⟩ := ob hm
 refine ba 3 [] (.n 11 (.u64 ((1 : UInt64) % n)) (.n 12 (.u64 n) .a)) (qp (n ≠ 0) (fI wT) <| qe) (by kernel_rfl) ?_
 refine ag ?_
 obtain ⟨r_, cQ, hm⟩ := ob hm
 refine au [] 13 _ JE (by kernel_rfl) (Cr (F := N0) (O := N0) _ _ _ (Cx.refl _) _ cQ) ?_
 rintro e_ w_ ⟨rfl, k_⟩
 have db := k.call k_
 refine ⟨.gD [.u64 r_.1, .u64 r_.2], rfl, ?_⟩
 refine ba 5 [] (.n 6 (.u64 r_.2) (.oQ .a)) qe (by kernel_rfl) ?_
 refine af <| aa <| ab <| an <| ba 1 [] (.n 16 (.v (.func (.func 38) ⟨SV.ad []⟩ ⟨SV.ad [pt iK 0, pt gm 0]⟩)) .a) qe (by kernel_rfl) ?_
 refine ag ?_
 obtain ⟨ah, dd, hm⟩ := ob hm
 obtain ⟨F1, O1, lQ, hO, rp, hF, hb⟩ := db.go (.i (.i (.i (.i (.i (.i (.i (.i (.i .e)))))))))
 refine lU [] 17 [] [] [pt iK 0, pt gm 0] y4 (by kernel_rfl) (pz (F := F1) (O := O1) _ _ _ _ _ _ _ _ _ _ _ _ _ _ _ _ _ _ _ _ _ _ _ _ _ _ _ _ _ _ _ _ _ _ _ _ _ _ _ _ _ _ _ _ _ _ (Ro.aM l8 db hF) rfl lD (Ro.aM lE db hF) rfl kz (Ro.aM kA db hF) rfl jQ (Ro.aM ie db hF) rfl gO lQ _ dd) ?_
 rintro e_ k4 ⟨A0, _, c0, A3, _, c4, A4, _, c5, g0, _, c6, rfl, rfl, rfl, rfl, rfl, dE⟩
 have dU := hb k4 _ _ dE (.c (.c (.c (.c (.c (.c (.c (.c (.c (.c .n))))))))))
 refine ⟨.u64 ah.1, rfl, ?_⟩
 refine ba 1 [] (.n 7 (.u64 ah.1) (.ss .a)) qe (by kernel_rfl) ?_
 refine af <| aa <| ab <| ab <| bO [] (.n 8 (I 1) .a) qe (by kernel_rfl) ?_
 refine aa <| cX ?_
 have fU := (((((((((dU.pk (.t (.t (.t (.t (.t (.t (.t (.t (.t .h)))))))))).pk (.t (.t (.t (.t (.t (.t (.t .h)))))))).pk (.t (.t (.t .h)))).pk (.t (.t (.t .h)))).pk (.t (.t (.t (.t (.t (.t .h))))))).pk (.t (.t (.t (.t (.t (.t .h))))))).pk (.t (.t (.t (.t (.t (.t .h))))))).pk (.t (.t (.t (.t (.t (.t (.t .h)))))))).pk (.t (.t (.t (.t (.t (.t (.t (.t .h))))))))).pk (.t (.t (.t (.t (.t (.t (.t (.t (.t .h)))))))))
 refine rv (iW er dJ cW bL n r_ ah) (fun s L wr => ∃ (Bb : Int) (Bc : Int) (yL : List UInt8) (yM : List UInt8) (Bd : Bool) (Be : UInt64) (Bf : ae UInt64 8) (Bg : UInt64) (Bh : UInt64) (uW : List UInt8) (yj : Int) (yl : UInt64) (ym : ae UInt8 64) (yn : Int) (yo : Int) (l6 : UInt64) (tries : Int) (A5 : Option Addr) (n5 : Nat) (c7 : Nat) (A6 : Option Addr) (n6 : Nat) (c8 : Nat) (A7 : Option Addr) (n7 : Nat) (c9 : Nat), (Bb, Bc, yL, yM, Bd, Be, Bf, Bg, Bh, uW, yj, yl, ym, yn, yo, l6, tries) = s ∧ L = [(0, .v (.func (.func 38) ⟨SV.ad []⟩ ⟨SV.ad [pt iK 0, pt gm 0]⟩)), (1, .u64 n), (6, .u64 r_.2), (7, .u64 l6), (8, I tries)] ∧ yL.length = n5 ∧ yM.length = n6 ∧ uW.length = n7 ∧ Cx F O w wr [Bx 26 iK [pt jI 0], Bx 58 jI [sl gu er.length gv, pt fh 0], Bx 86 fh [I 1, I 64, .u32 4294967295, .u64 274877906944, .b false, sl fG dJ.length fH, sl fc cW.length fe, sl df bL.length dh, pt fD 0, sl (some ⟨g0, 0, none⟩) ah.2.2.2.2.2.2.2.2.2.2.2.2.1.length c6, .u64 yl, .ar e8 ym, I yn, .v (.func (.func 90) ⟨SV.ad [pt fh 0]⟩ ⟨SV.ad []⟩)], Bx 145 fD [I Bb, I Bc, sl A5 n5 c7, sl A6 n6 c8, .b Bd, .u64 Be, .v (.iface 194 (SV.val (pt dW 0)))], Ow e8 A5 n5 c7 yL, Ow e8 A6 n6 c8 yM, Bx 200 dW [.ar cj Bf, .u64 Bg, .u64 Bh, sl A7 n7 c9, I yj, .v (.func (.func 132) ⟨SV.ad []⟩ ⟨SV.ad []⟩), .v (.func (.func 133) ⟨SV.ad []⟩ ⟨SV.ad []⟩)], Ow e8 A7 n7 c9 uW, Sh (SH e8) [((some ⟨g0, 0, none⟩), ah.2.2.2.2.2.2.2.2.2.2.2.2.1.length, c6)] [ah.2.2.2.2.2.2.2.2.2.2.2.2.1], Bx 27 gm [I yo]]) (ah.2.2.2.2.2.2.1, ah.2.2.2.2.2.2.2.1, ah.2.2.2.2.2.2.2.2.1, ah.2.2.2.2.2.2.2.2.2.1, ah.2.2.2.2.2.2.2.2.2.2.1, ah.2.2.2.2.2.2.2.2.2.2.2.1, ah.2.1, ah.2.2.1, ah.2.2.2.1, ah.2.2.2.2.1, ah.2.2.2.2.2.1, ah.2.2.2.2.2.2.2.2.2.2.2.2.2.1, ah.2.2.2.2.2.2.2.2.2.2.2.2.2.2.1, ah.2.2.2.2.2.2.2.2.2.2.2.2.2.2.2.1, ah.2.2.2.2.2.2.2.2.2.2.2.2.2.2.2.2, ah.1, (1 : Int)) r hm ⟨ah.2.2.2.2.2.2.1, ah.2.2.2.2.2.2.2.1, ah.2.2.2.2.2.2.2.2.1, ah.2.2.2.2.2.2.2.2.2.1, ah.2.2.2.2.2.2.2.2.2.2.1, ah.2.2.2.2.2.2.2.2.2.2.2.1, ah.2.1, ah.2.2.1, ah.2.2.2.1, ah.2.2.2.2.1, ah.2.2.2.2.2.1, ah.2.2.2.2.2.2.2.2.2.2.2.2.2.1, ah.2.2.2.2.2.2.2.2.2.2.2.2.2.2.1, ah.2.2.2.2.2.2.2.2.2.2.2.2.2.2.2.1, ah.2.2.2.2.2.2.2.2.2.2.2.2.2.2.2.2, ah.1, (1 : Int), A3, ah.2.2.2.2.2.2.2.2.1.length, c4, A4, ah.2.2.2.2.2.2.2.2.2.1.length, c5, A0, ah.2.2.2.2.1.length, c0, rfl, rfl, fU.len 4 rfl, fU.len 5 rfl, fU.len 7 rfl, fU⟩ (by kernel_rfl) ?_
 intro Al L_ qj y0 kE dY rP
 obtain ⟨Bb, Bc, yL, yM, Bd, Be, Bf, Bg, Bh, uW, yj, yl, ym, yn, yo, l6, tries, A5, _, c7, A6, _, c8, A7, _, c9, rfl, rfl, rfl, rfl, rfl, eY⟩ := kE
 have hm := dY; simp only [iW] at hm
 clear dY
 refine ab <| ab <| bO [] (.n 30 (.b (((decide (r_.2 ≠ 0)) && (decide (((0 - r_.2) - 1) < l6))) && (decide (tries < 64)))) .a) qe (by kernel_rfl) ?_
 refine aa <| cm (((decide (r_.2 ≠ 0)) && (decide (((0 - r_.2) - 1) < l6))) && (decide (tries < 64))) (by kernel_rfl) (fun hc => ?_) (fun hc => ?_)
 · rw [if_pos hc] at hm
   refine bc <| aa <| ab <| cX <| an <| ba 1 [] (.n 33 (.v (.func (.func 38) ⟨SV.ad []⟩ ⟨SV.ad [pt iK 0, pt gm 0]⟩)) (.s .a)) qe (by kernel_rfl) ?_
   refine ag ?_
   obtain ⟨aX, hK, hm⟩ := ob hm
   obtain ⟨xI, xJ, nF, Fi, tF, si, xK⟩ := eY.go (.i (.i (.i (.i (.i (.i (.i (.i (.r (.i .e))))))))))
   refine lU [] 34 [] [] [pt iK 0, pt gm 0] y4 (by kernel_rfl) (oc (F := xI) (O := xJ) _ _ _ _ _ _ _ _ _ _ _ _ _ _ _ _ _ _ _ _ _ _ _ _ _ _ _ _ _ _ _ _ _ _ _ _ _ _ _ _ _ _ _ _ _ _ _ _ _ _ (Ro.aM l8 eY si) rfl lD (Ro.aM lE eY si) rfl kz (Ro.aM kA eY si) rfl jQ (Ro.aM ie eY si) rfl gO (Ro.kF nF.off tF 0 rfl) (eY.fS 8 rfl) (eY.kr 8 rfl) nF _ hK) ?_
   rintro e_ qk ⟨A8, _, sV, A9, _, uf, wq, _, xS, rfl, rfl, rfl, rfl, g_⟩
   have gC := xK qk _ _ g_ (.c (.c (.c (.c (.c (.c (.c (.c (.c .n)))))))))
   refine ⟨.u64 aX.1, rfl, ?_⟩
   refine ba 1 [] (.n 7 (.u64 aX.1) (.ss (.uk (.s .a)))) qe (by kernel_rfl) ?_
   refine af <| lL <| aa <| bO [] (.n 8 (I (aD (tries + 1))) (.bX .z)) qe (by kernel_rfl) ?_
   have gP := (((((((((gC.pk (.t (.t (.t (.t (.t (.t (.t (.t .h))))))))).pk (.t (.t (.t (.t (.t (.t (.t (.t (.t .h)))))))))).pk (.t (.t (.t .h)))).pk (.t (.t (.t .h)))).pk (.t (.t (.t (.t (.t (.t .h))))))).pk (.t (.t (.t (.t (.t (.t .h))))))).pk (.t (.t (.t (.t (.t (.t .h))))))).pk (.t (.t (.t (.t (.t (.t (.t .h)))))))).pk (.t (.t (.t (.t (.t (.t (.t (.t .h))))))))).pk (.t (.t (.t (.t (.t (.t (.t (.t (.t .h)))))))))
   exact mN (aX.2.2.2.2.2.2.1, aX.2.2.2.2.2.2.2.1, aX.2.2.2.2.2.2.2.2.1, aX.2.2.2.2.2.2.2.2.2.1, aX.2.2.2.2.2.2.2.2.2.2.1, aX.2.2.2.2.2.2.2.2.2.2.2.1, aX.2.1, aX.2.2.1, aX.2.2.2.1, aX.2.2.2.2.1, aX.2.2.2.2.2.1, aX.2.2.2.2.2.2.2.2.2.2.2.2.1, aX.2.2.2.2.2.2.2.2.2.2.2.2.2.1, aX.2.2.2.2.2.2.2.2.2.2.2.2.2.2.1, aX.2.2.2.2.2.2.2.2.2.2.2.2.2.2.2, aX.1, aD (tries + 1)) (Option.some.inj hm).symm ⟨aX.2.2.2.2.2.2.1, aX.2.2.2.2.2.2.2.1, aX.2.2.2.2.2.2.2.2.1, aX.2.2.2.2.2.2.2.2.2.1, aX.2.2.2.2.2.2.2.2.2.2.1, aX.2.2.2.2.2.2.2.2.2.2.2.1, aX.2.1, aX.2.2.1, aX.2.2.2.1, aX.2.2.2.2.1, aX.2.2.2.2.2.1, aX.2.2.2.2.2.2.2.2.2.2.2.2.1, aX.2.2.2.2.2.2.2.2.2.2.2.2.2.1, aX.2.2.2.2.2.2.2.2.2.2.2.2.2.2.1, aX.2.2.2.2.2.2.2.2.2.2.2.2.2.2.2, aX.1, aD (tries + 1), A9, aX.2.2.2.2.2.2.2.2.1.length, uf, wq, aX.2.2.2.2.2.2.2.2.2.1.length, xS, A8, aX.2.2.2.2.1.length, sV, rfl, rfl, gP.len 4 rfl, gP.len 5 rfl, gP.len 7 rfl, gP⟩ (by kernel_rfl)
 rw [if_neg (by rw [hc]; decide)] at hm
 refine jr (gk (gk (lT ?_)))
 have hm := iv hm rP
 refine aa <| ab ?_
 obtain ⟨u1, LN, hm⟩ := ob hm
 refine bO [] (.n 4 (.u64 (l6 % n)) .z) (qp (n ≠ 0) (fI LN) <| qe) (by kernel_rfl) ?_
 refine aa <| aQ ?_
 obtain rfl := Option.some.inj hm
 refine aR [.u64 (l6 % n)] qe (by kernel_rfl) ?_
 have gB := (((((((((eY.pk (.t (.t (.t (.t (.t (.t (.t (.t (.t .h)))))))))).pk (.t .h)).pk (.t (.t .h))).pk (.t (.t (.t (.t (.t (.t (.t (.t (.t .h)))))))))).pk (.t (.t (.t (.t .h))))).pk (.t (.t (.t (.t (.t (.t (.t .h)))))))).pk (.t (.t (.t (.t (.t (.t (.t .h)))))))).pk (.t (.t (.t (.t (.t (.t (.t .h)))))))).pk (.t (.t (.t (.t (.t (.t (.t (.t (.t .h)))))))))).pk (.t (.t (.t (.t (.t (.t (.t (.t (.t .h)))))))))
 exact ⟨A7, uW.length, c9, A5, yL.length, c7, A6, yM.length, c8, g0, ah.2.2.2.2.2.2.2.2.2.2.2.2.1.length, c6, gB.len 1 rfl, gB.len 3 rfl, gB.len 4 rfl, gB.fS 6 rfl, rfl, gB⟩
theorem ui {F O : Nat → Prop} {w : World} (er : List UInt8) (dJ : List UInt8) (cW : List UInt8) (bL : List UInt8) (dQ : Int) (cZ : Int) (dz : List UInt8) (et : List UInt8) (dT : Bool) (cG : UInt64) (eu : ae UInt64 8) (b8 : UInt64) (b9 : UInt64) (c_ : List UInt8) (cH : Int) (gX : UInt64) (gd : ae UInt8 64) (fp : Int) (draw : Int) (p : UInt64) (p1 : UInt64) (iK : Nat) (jI : Nat) (gu : Option Addr) (fq : Nat) (gv : Nat) (fh : Nat) (fG : Option Addr) (eA : Nat) (fH : Nat) (fc : Option Addr) (dV : Nat) (fe : Nat) (df : Option Addr) (ct : Nat) (dh : Nat) (fD : Nat) (fP : Option Addr) (fQ : Nat) (fR : Nat) (gL : Option Addr) (gM : Nat) (gN : Nat) (dW : Nat) (ft : Option Addr) (fu : Nat) (fw : Nat) (gm : Nat) (yO : Nat) (sA : Nat) (l8 : Ro F w gu (e8.all er)) (mj : er.length = fq) (lD : fq ≤ gv) (lE : Ro F w fG (e8.all dJ)) (lK : dJ.length = eA) (kz : eA ≤ fH) (kA : Ro F w fc (e8.all cW)) (kQ : cW.length = dV) (jQ : dV ≤ fe) (ie : Ro F w df (e8.all bL)) (iA : bL.length = ct) (gO : ct ≤ dh) (k : Cx F O w w [Bx 26 iK [pt jI 0], Bx 58 jI [sl gu fq gv, pt fh 0], Bx 86 fh [I 1, I 64, .u32 4294967295, .u64 274877906944, .b false, sl fG eA fH, sl fc dV fe, sl df ct dh, pt fD 0, sl none 0 0, .u64 gX, .ar e8 gd, I fp, .v (.func (.func 66) ⟨SV.ad [pt fh 0]⟩ ⟨SV.ad []⟩)], Bx 145 fD [I dQ, I cZ, sl fP fQ fR, sl gL gM gN, .b dT, .u64 cG, .v (.iface 194 (SV.val (pt dW 0)))], Ow e8 fP fQ fR dz, Ow e8 gL gM gN et, Bx 200 dW [.ar cj eu, .u64 b8, .u64 b9, sl ft fu fw, I cH, .v (.func (.func 132) ⟨SV.ad []⟩ ⟨SV.ad []⟩), .v (.func (.func 133) ⟨SV.ad []⟩ ⟨SV.ad []⟩)], Ow e8 ft fu fw c_, Bx 27 gm [I draw], Bx 23 yO [.u64 p], Bx 23 sA [.u64 p1]]) (r : (ae UInt64 8 × UInt64 × UInt64 × List UInt8 × Int × Int × Int × List UInt8 × List UInt8 × Bool × UInt64 × List UInt8 × UInt64 × ae UInt8 64 × Int × Int × UInt64 × UInt64)) (hm : kT er dJ cW bL dQ cZ dz et dT cG eu b8 b9 c_ cH gX gd fp draw p p1 = some r) :
    Calls Tryz.prog 18 (ad [.v (.func (.func 38) ⟨SV.ad []⟩ ⟨SV.ad [pt iK 0, pt gm 0]⟩), pt yO 0, pt sA 0]) w (fun e w' => ∃ A n c A1 n1 c1 A2 n2 c2 g n3 c3, r.2.2.2.1.length = n ∧ r.2.2.2.2.2.2.2.1.length = n1 ∧ r.2.2.2.2.2.2.2.2.1.length = n2 ∧ r.2.2.2.2.2.2.2.2.2.2.2.1.length = n3 ∧ e = .returned (SV.val (.gD [])) ∧ Cx F O w w' [Bx 200 dW [.ar cj r.1, .u64 r.2.1, .u64 r.2.2.1, sl A n c, I r.2.2.2.2.1, .v (.func (.func 132) ⟨SV.ad []⟩ ⟨SV.ad []⟩), .v (.func (.func 133) ⟨SV.ad []⟩ ⟨SV.ad []⟩)], Ow e8 A n c r.2.2.2.1, Bx 145 fD [I r.2.2.2.2.2.1, I r.2.2.2.2.2.2.1, sl A1 n1 c1, sl A2 n2 c2, .b r.2.2.2.2.2.2.2.2.2.1, .u64 r.2.2.2.2.2.2.2.2.2.2.1, .v (.iface 194 (SV.val (pt dW 0)))], Ow e8 A1 n1 c1 r.2.2.2.2.2.2.2.1, Ow e8 A2 n2 c2 r.2.2.2.2.2.2.2.2.1, Bx 86 fh [I 1, I 64, .u32 4294967295, .u64 274877906944, .b false, sl fG eA fH, sl fc dV fe, sl df ct dh, pt fD 0, sl (some ⟨g, 0, none⟩) n3 c3, .u64 r.2.2.2.2.2.2.2.2.2.2.2.2.1, .ar e8 r.2.2.2.2.2.2.2.2.2.2.2.2.2.1, I r.2.2.2.2.2.2.2.2.2.2.2.2.2.2.1, .v (.func (.func 90) ⟨SV.ad [pt fh 0]⟩ ⟨SV.ad []⟩)], Sh (SH e8) [((some ⟨g, 0, none⟩), n3, c3)] [r.2.2.2.2.2.2.2.2.2.2.2.1], Bx 58 jI [sl gu fq gv, pt fh 0], Bx 26 iK [pt jI 0], Bx 27 gm [I r.2.2.2.2.2.2.2.2.2.2.2.2.2.2.2.1], Bx 23 yO [.u64 r.2.2.2.2.2.2.2.2.2.2.2.2.2.2.2.2.1], Bx 23 sA [.u64 r.2.2.2.2.2.2.2.2.2.2.2.2.2.2.2.2.2]]) := by
 unfold kT at hm
 subst mj
 subst lK
 subst kQ
 subst iA
 obtain rfl := k.len 4 rfl
 obtain rfl := k.len 5 rfl
 obtain rfl := k.len 7 rfl
 refine calls [.v (.func (.func 38) ⟨SV.ad []⟩ ⟨SV.ad [pt iK 0, pt gm 0]⟩), pt yO 0, pt sA 0] Tryz.func18 rfl (of_decide_eq_true (by kernel_rfl)) ?_
 refine an <| ba 2 [] (.n 4 (.v (.func (.func 38) ⟨SV.ad []⟩ ⟨SV.ad [pt iK 0, pt gm 0]⟩)) (.n 5 (.u64 p) (.ss .a))) (qB k 9 rfl 0 (.u64 p) (by kernel_rfl) <| qe) (by kernel_rfl) ?_
 refine ag ?_
 obtain ⟨r_, cQ, hm⟩ := ob hm
 obtain ⟨F1, O1, lQ, hO, rp, hF, hb⟩ := k.go (.i (.i (.i (.i (.i (.i (.i (.i (.i (.r (.r .e)))))))))))
 refine au [] 6 _ JA (by kernel_rfl) (z8 (F := F1) (O := O1) _ _ _ _ _ _ _ _ _ _ _ _ _ _ _ _ _ _ _ _ _ _ _ _ _ _ _ _ _ _ _ _ _ _ _ _ _ _ _ _ _ _ _ _ _ _ _ (Ro.aM l8 k hF) rfl lD (Ro.aM lE k hF) rfl kz (Ro.aM kA k hF) rfl jQ (Ro.aM ie k hF) rfl gO lQ _ cQ) ?_
 rintro e_ w_ ⟨A0, _, c0, A3, _, c4, A4, _, c5, g0, _, c6, rfl, rfl, rfl, rfl, rfl, k_⟩
 have db := hb w_ _ _ k_ (.c (.c (.c (.c (.c (.c (.c (.c (.c (.c .n))))))))))
 refine ⟨.u64 r_.1, rfl, ?_⟩
 refine ag <| en [] 11 (.u64 r_.1) [.u64 r_.1] (Pt.at sA 0) db rfl .all (by kernel_rfl) (by kernel_rfl) ?_
 intro k4 dE
 refine af ?_
 obtain rfl := Option.some.inj hm
 refine px [] qe (by kernel_rfl) ?_
 exact ⟨A0, r_.2.2.2.2.1.length, c0, A3, r_.2.2.2.2.2.2.2.2.1.length, c4, A4, r_.2.2.2.2.2.2.2.2.2.1.length, c5, g0, r_.2.2.2.2.2.2.2.2.2.2.2.2.1.length, c6, dE.len 1 rfl, dE.len 3 rfl, dE.len 4 rfl, dE.fS 6 rfl, rfl, dE⟩
theorem vZ {F O : Nat → Prop} {w : World} (bI : List UInt8) (a1 : List UInt8) (aN : List UInt8) (ak : List UInt8) (aO : Int) (ax : Int) (aB : List UInt8) (aU : List UInt8) (aP : Bool) (ao : UInt64) (aW : ae UInt64 8) (ai : UInt64) (aj : UInt64) (av : List UInt8) (aq : Int) (cp : UInt64) (bJ : ae UInt8 64) (bd : Int) (work : UInt64) (E1 : UInt64) (kU : Nat) (cu : Option Addr) (bS : Nat) (cv : Nat) (cB : Nat) (bY : Option Addr) (bq : Nat) (bZ : Nat) (bC : Option Addr) (aZ : Nat) (bD : Nat) (aI : Option Addr) (aw : Nat) (aJ : Nat) (ck : Nat) (bx : Option Addr) (bB : Nat) (bz : Nat) (b6 : Option Addr) (cd : Nat) (b7 : Nat) (bn : Nat) (bf : Option Addr) (bo : Nat) (bg : Nat) (lZ : Nat) (vB : Nat) (fZ : Ro F w cu (e8.all bI)) (fL : bI.length = bS) (eU : bS ≤ cv) (ej : Ro F w bY (e8.all a1)) (eM : a1.length = bq) (dA : bq ≤ bZ) (dB : Ro F w bC (e8.all aN)) (eg : aN.length = aZ) (cN : aZ ≤ bD) (bU : Ro F w aI (e8.all ak)) (cg : ak.length = aw) (bF : aw ≤ aJ) (k : Cx F O w w [Bx 58 kU [sl cu bS cv, pt cB 0], Bx 86 cB [I 1, I 64, .u32 4294967295, .u64 274877906944, .b false, sl bY bq bZ, sl bC aZ bD, sl aI aw aJ, pt ck 0, sl none 0 0, .u64 cp, .ar e8 bJ, I bd, .v (.func (.func 66) ⟨SV.ad [pt cB 0]⟩ ⟨SV.ad []⟩)], Bx 145 ck [I aO, I ax, sl bx bB bz, sl b6 cd b7, .b aP, .u64 ao, .v (.iface 194 (SV.val (pt bn 0)))], Ow e8 bx bB bz aB, Ow e8 b6 cd b7 aU, Bx 200 bn [.ar cj aW, .u64 ai, .u64 aj, sl bf bo bg, I aq, .v (.func (.func 132) ⟨SV.ad []⟩ ⟨SV.ad []⟩), .v (.func (.func 133) ⟨SV.ad []⟩ ⟨SV.ad []⟩)], Ow e8 bf bo bg av, Bx 23 lZ [.u64 work], Bx 23 vB [.u64 E1]]) (r : (Int × ae UInt64 8 × UInt64 × UInt64 × List UInt8 × Int × Int × Int × List UInt8 × List UInt8 × Bool × UInt64 × List UInt8 × UInt64 × ae UInt8 64 × Int × UInt64 × UInt64)) (hm : ly bI a1 aN ak aO ax aB aU aP ao aW ai aj av aq cp bJ bd work E1 = some r) :
    Calls Tryz.prog 17 (ad [pt kU 0, .v (.func (.func 18) ⟨SV.ad []⟩ ⟨SV.ad [pt lZ 0, pt vB 0]⟩)]) w (fun e w' => ∃ A n c A1 n1 c1 A2 n2 c2 g n3 c3, r.2.2.2.2.1.length = n ∧ r.2.2.2.2.2.2.2.2.1.length = n1 ∧ r.2.2.2.2.2.2.2.2.2.1.length = n2 ∧ r.2.2.2.2.2.2.2.2.2.2.2.2.1.length = n3 ∧ e = .returned (SV.val (I r.1)) ∧ Cx F O w w' [Bx 200 bn [.ar cj r.2.1, .u64 r.2.2.1, .u64 r.2.2.2.1, sl A n c, I r.2.2.2.2.2.1, .v (.func (.func 132) ⟨SV.ad []⟩ ⟨SV.ad []⟩), .v (.func (.func 133) ⟨SV.ad []⟩ ⟨SV.ad []⟩)], Ow e8 A n c r.2.2.2.2.1, Bx 145 ck [I r.2.2.2.2.2.2.1, I r.2.2.2.2.2.2.2.1, sl A1 n1 c1, sl A2 n2 c2, .b r.2.2.2.2.2.2.2.2.2.2.1, .u64 r.2.2.2.2.2.2.2.2.2.2.2.1, .v (.iface 194 (SV.val (pt bn 0)))], Ow e8 A1 n1 c1 r.2.2.2.2.2.2.2.2.1, Ow e8 A2 n2 c2 r.2.2.2.2.2.2.2.2.2.1, Bx 86 cB [I 1, I 64, .u32 4294967295, .u64 274877906944, .b false, sl bY bq bZ, sl bC aZ bD, sl aI aw aJ, pt ck 0, sl (some ⟨g, 0, none⟩) n3 c3, .u64 r.2.2.2.2.2.2.2.2.2.2.2.2.2.1, .ar e8 r.2.2.2.2.2.2.2.2.2.2.2.2.2.2.1, I r.2.2.2.2.2.2.2.2.2.2.2.2.2.2.2.1, .v (.func (.func 90) ⟨SV.ad [pt cB 0]⟩ ⟨SV.ad []⟩)], Sh (SH e8) [((some ⟨g, 0, none⟩), n3, c3)] [r.2.2.2.2.2.2.2.2.2.2.2.2.1], Bx 58 kU [sl cu bS cv, pt cB 0], Bx 23 lZ [.u64 r.2.2.2.2.2.2.2.2.2.2.2.2.2.2.2.2.1], Bx 23 vB [.u64 r.2.2.2.2.2.2.2.2.2.2.2.2.2.2.2.2.2]]) := by
 unfold ly at hm
 subst fL
 subst eM
 subst eg
 subst cg
 obtain rfl := k.len 3 rfl
 obtain rfl := k.len 4 rfl
 obtain rfl := k.len 6 rfl
 refine calls [pt kU 0, .v (.func (.func 18) ⟨SV.ad []⟩ ⟨SV.ad [pt lZ 0, pt vB 0]⟩)] Tryz.func17 rfl (of_decide_eq_true (by kernel_rfl)) ?_
 refine ab <| an <| ag <| gF [] 2 (pt kU 0) [pt kU 0] (by kernel_rfl) k ?_
 intro g0 w_ k_
 refine ba 1 [] (.k (.s .a)) qe (by kernel_rfl) ?_
 refine af <| aa <| ab <| ab <| an <| ba 1 [] (.n 7 (pt kU 0) .a) (qB k_ 9 rfl 0 (pt kU 0) (by kernel_rfl) <| qe) (by kernel_rfl) ?_
 refine ag ?_
 obtain ⟨r_, cQ, hm⟩ := ob hm
 obtain ⟨F1, O1, lQ, hO, rp, hF, hb⟩ := k_.go (.i (.i (.i (.i (.i (.i (.i (.r (.r (.r .e))))))))))
 refine au [] 8 _ vz (by kernel_rfl) (mh (F := F1) (O := O1) _ _ _ _ _ _ _ _ _ _ _ _ _ _ _ _ _ _ _ _ _ _ _ _ _ _ _ _ _ _ _ _ _ _ _ _ _ _ _ _ _ _ _ (Ro.aM fZ k_ hF) rfl eU (Ro.aM ej k_ hF) rfl dA (Ro.aM dB k_ hF) rfl cN (Ro.aM bU k_ hF) rfl bF lQ _ cQ) ?_
 rintro e_ k4 ⟨A0, _, c0, A3, _, c4, A4, _, c5, rfl, rfl, rfl, rfl, db⟩
 have dE := hb k4 _ _ db (.c (.c (.c (.c (.c (.c (.c .n)))))))
 refine ⟨.b false, rfl, ?_⟩
 refine af <| aa <| cm false (by kernel_rfl) (fun h => by cases h) (fun _ => ?_)
 refine bc <| aa <| ab <| an <| ba 4 [] (.n 12 (pt cB 0) (.ss .a)) (qB dE 9 rfl 0 (pt kU 0) (by kernel_rfl) <| qs kU 0 <| qs kU 0 <| qB dE 6 rfl 1 (pt cB 0) (by kernel_rfl) <| qe) (by kernel_rfl) ?_
 refine ag ?_
 obtain ⟨ah, dd, hm⟩ := ob hm
 have dU := (((((((((dE.pk (.t (.t (.t (.t (.t (.t (.t (.t (.t .h)))))))))).pk (.t (.t (.t (.t (.t (.t (.t (.t (.t .h)))))))))).pk (.t (.t (.t (.t (.t (.t (.t (.t (.t .h)))))))))).pk (.t (.t (.t (.t (.t (.t (.t (.t (.t .h)))))))))).pk (.t (.t (.t (.t (.t .h)))))).pk (.t (.t (.t (.t (.t .h)))))).pk (.t (.t (.t (.t (.t (.t (.t (.t .h))))))))).pk (.t (.t (.t (.t (.t (.t (.t (.t .h))))))))).pk (.t (.t (.t (.t (.t (.t (.t (.t .h))))))))).pk (.t (.t (.t (.t (.t (.t (.t (.t (.t .h)))))))))
 obtain ⟨xI, xJ, nF, Fi, tF, si, xK⟩ := dU.go (.i (.i (.i (.i (.i (.i (.r (.r (.r (.r .e))))))))))
 refine au [] 13 _ B1 (by kernel_rfl) (qQ (F := xI) (O := xJ) _ _ _ _ _ _ _ _ _ _ _ _ _ _ _ _ _ _ _ _ _ _ _ _ _ _ _ _ _ _ _ _ _ _ _ _ _ _ (Ro.aM ej dU si) rfl dA (Ro.aM dB dU si) rfl cN (Ro.aM bU dU si) rfl bF nF _ dd) ?_
 rintro e_ l6 ⟨g1, g2, A5, _, c6, A6, _, c7, g3, A7, _, c8, A8, _, c9, rfl, rfl, rfl, rfl, rfl, eY⟩
 have fU := xK l6 _ _ eY (.c (.c (.c (.c (.c (.c (.c (.c (.c (.c .n))))))))))
 refine ⟨pt g1 0, rfl, ?_⟩
 refine ba 1 [] (.n 5 (pt g1 0) (.ss .a)) qe (by kernel_rfl) ?_
 refine af <| aa <| ab <| an <| ag <| bT [] 6 [I 0] (by kernel_rfl) fU ?_
 intro g4 qj g_
 refine ag ?_
 have gC := g_.de (.bX (.bX (.bX (.kk (.k .e)))))
 refine en [] 14 (I 0) [I 0] (Pt.at g4 0) gC rfl .all (by kernel_rfl) (by kernel_rfl) ?_
 intro qk gP
 refine af <| aa <| ab <| an <| ba 2 [] (.n 14 (.v (.func (.func 18) ⟨SV.ad []⟩ ⟨SV.ad [pt lZ 0, pt vB 0]⟩)) (.n 15 (.v (.func (.func 38) ⟨SV.ad []⟩ ⟨SV.ad [pt g0 0, pt g4 0]⟩)) (.uk .z))) qe (by kernel_rfl) ?_
 refine ag ?_
 obtain ⟨aX, hK, hm⟩ := ob hm
 have gB := ((((((((((((((gP.pk (.t (.t (.t (.t (.t .h)))))).pk (.t (.t (.t (.t (.t .h)))))).pk (.t (.t (.t .h)))).pk (.t (.t (.t .h)))).pk (.t (.t (.t (.t (.t (.t (.t (.t (.t (.t (.t (.t .h))))))))))))).pk (.t (.t (.t (.t (.t (.t (.t (.t (.t (.t (.t (.t .h))))))))))))).pk (.t (.t (.t (.t (.t (.t (.t (.t (.t (.t (.t (.t (.t (.t .h))))))))))))))).pk (.t (.t (.t (.t (.t (.t (.t (.t (.t (.t .h))))))))))).pk (.t (.t (.t (.t (.t (.t (.t (.t (.t (.t .h))))))))))).pk (.t (.t (.t (.t (.t (.t (.t (.t (.t (.t .h))))))))))).pk (.t (.t (.t (.t (.t (.t (.t (.t (.t (.t .h))))))))))).pk (.t (.t (.t (.t (.t (.t (.t (.t (.t (.t (.t .h)))))))))))).pk (.t (.t (.t (.t (.t (.t (.t (.t (.t (.t (.t (.t .h))))))))))))).pk (.t (.t (.t (.t (.t (.t (.t (.t (.t (.t (.t (.t (.t .h)))))))))))))).pk (.t (.t (.t (.t (.t (.t (.t (.t (.t (.t (.t (.t (.t (.t .h))))))))))))))
 obtain ⟨F6, F7, ug, Nc, zY, vV, CP⟩ := gB.go (.i (.i (.i (.i (.i (.i (.i (.i (.i (.i (.i (.r (.r (.r (.r .e)))))))))))))))
 refine lU [] 16 [] [.v (.func (.func 38) ⟨SV.ad []⟩ ⟨SV.ad [pt g0 0, pt g4 0]⟩)] [pt lZ 0, pt vB 0] Jz (by kernel_rfl) (ui (F := F6) (O := F7) _ _ _ _ _ _ _ _ _ _ _ _ _ _ _ _ _ _ _ _ _ _ _ _ _ _ _ _ _ _ _ _ _ _ _ _ _ _ _ _ _ _ _ _ _ _ _ _ _ _ (Ro.aM fZ gB vV) rfl eU (Ro.aM ej gB vV) rfl dA (Ro.aM dB gB vV) rfl cN (Ro.aM bU gB vV) rfl bF ug _ hK) ?_
 rintro e_ rX ⟨A9, _, sV, wq, _, uf, yr, _, xS, g5, _, Co, rfl, rfl, rfl, rfl, rfl, dO⟩
 have cV := CP rX _ _ dO (.c (.c (.c (.c (.c (.c (.c (.c (.c (.c (.c (.c .n))))))))))))
 refine ⟨.gD [], rfl, ?_⟩
 refine af <| aa <| ab <| ab <| bO [] (.n 18 (.b (decide (aX.2.2.2.2.2.2.2.2.2.2.2.2.2.2.2.1 ≠ 0))) (.oQ .a)) (qB cV 9 rfl 0 (I aX.2.2.2.2.2.2.2.2.2.2.2.2.2.2.2.1) (by kernel_rfl) <| qe) (by kernel_rfl) ?_
 refine aa <| bu (aX.2.2.2.2.2.2.2.2.2.2.2.2.2.2.2.1 ≠ 0) (by kernel_rfl) (fun hc => ?_) (fun hc => ?_)
 · rw [if_pos hc] at hm
   cases hm
 rw [if_neg hc] at hm
 refine bc <| aa <| ab <| bO [] (.n 4 (I aX.2.2.2.2.2.2.2.2.2.2.2.2.2.2.2.1) .z) (qB cV 9 rfl 0 (I aX.2.2.2.2.2.2.2.2.2.2.2.2.2.2.2.1) (by kernel_rfl) <| qe) (by kernel_rfl) ?_
 refine aa <| aQ ?_
 obtain rfl := Option.some.inj hm
 refine aR [I aX.2.2.2.2.2.2.2.2.2.2.2.2.2.2.2.1] qe (by kernel_rfl) ?_
 have ez := cV.de (.bX (.bX (.ss (.kk .z))))
 exact ⟨A9, aX.2.2.2.1.length, sV, wq, aX.2.2.2.2.2.2.2.1.length, uf, yr, aX.2.2.2.2.2.2.2.2.1.length, xS, g5, aX.2.2.2.2.2.2.2.2.2.2.2.1.length, Co, ez.len 1 rfl, ez.len 3 rfl, ez.len 4 rfl, ez.fS 6 rfl, rfl, ez⟩
theorem v_ {F O : Nat → Prop} {w : World} (bI : List UInt8) (a1 : List UInt8) (aN : List UInt8) (ak : List UInt8) (aO : Int) (ax : Int) (aB : List UInt8) (aU : List UInt8) (aP : Bool) (ao : UInt64) (aW : ae UInt64 8) (ai : UInt64) (aj : UInt64) (av : List UInt8) (aq : Int) (cp : UInt64) (bJ : ae UInt8 64) (bd : Int) (n : UInt64) (kU : Nat) (cu : Option Addr) (bS : Nat) (cv : Nat) (cB : Nat) (bY : Option Addr) (bq : Nat) (bZ : Nat) (bC : Option Addr) (aZ : Nat) (bD : Nat) (aI : Option Addr) (aw : Nat) (aJ : Nat) (ck : Nat) (bx : Option Addr) (bB : Nat) (bz : Nat) (b6 : Option Addr) (cd : Nat) (b7 : Nat) (bn : Nat) (bf : Option Addr) (bo : Nat) (bg : Nat) (fZ : Ro F w cu (e8.all bI)) (fL : bI.length = bS) (eU : bS ≤ cv) (ej : Ro F w bY (e8.all a1)) (eM : a1.length = bq) (dA : bq ≤ bZ) (dB : Ro F w bC (e8.all aN)) (eg : aN.length = aZ) (cN : aZ ≤ bD) (bU : Ro F w aI (e8.all ak)) (cg : ak.length = aw) (bF : aw ≤ aJ) (k : Cx F O w w [Bx 58 kU [sl cu bS cv, pt cB 0], Bx 86 cB [I 1, I 64, .u32 4294967295, .u64 274877906944, .b false, sl bY bq bZ, sl bC aZ bD, sl aI aw aJ, pt ck 0, sl none 0 0, .u64 cp, .ar e8 bJ, I bd, .v (.func (.func 66) ⟨SV.ad [pt cB 0]⟩ ⟨SV.ad []⟩)], Bx 145 ck [I aO, I ax, sl bx bB bz, sl b6 cd b7, .b aP, .u64 ao, .v (.iface 194 (SV.val (pt bn 0)))], Ow e8 bx bB bz aB, Ow e8 b6 cd b7 aU, Bx 200 bn [.ar cj aW, .u64 ai, .u64 aj, sl bf bo bg, I aq, .v (.func (.func 132) ⟨SV.ad []⟩ ⟨SV.ad []⟩), .v (.func (.func 133) ⟨SV.ad []⟩ ⟨SV.ad []⟩)], Ow e8 bf bo bg av]) (r : (ae UInt64 8 × UInt64 × UInt64 × List UInt8 × Int × Int × Int × List UInt8 × List UInt8 × Bool × UInt64 × UInt64 × ae UInt8 64 × Int) ⊕ (UInt64 × Int × ae UInt64 8 × UInt64 × UInt64 × List UInt8 × Int × Int × Int × List UInt8 × List UInt8 × Bool × UInt64 × List UInt8 × UInt64 × ae UInt8 64 × Int)) (hm : hT bI a1 aN ak aO ax aB aU aP ao aW ai aj av aq cp bJ bd n = some r) :
    Calls Tryz.prog 7 (ad [pt kU 0, .u64 n]) w (fun e w' => match r with | .inl r0 => ∃ A n1 c A1 n2 c1 A2 n3 c2, r0.2.2.2.1.length = n1 ∧ r0.2.2.2.2.2.2.2.1.length = n2 ∧ r0.2.2.2.2.2.2.2.2.1.length = n3 ∧ e = .returned (SV.val (.gD [.u64 0, I 1])) ∧ Cx F O w w' [Bx 200 bn [.ar cj r0.1, .u64 r0.2.1, .u64 r0.2.2.1, sl A n1 c, I r0.2.2.2.2.1, .v (.func (.func 132) ⟨SV.ad []⟩ ⟨SV.ad []⟩), .v (.func (.func 133) ⟨SV.ad []⟩ ⟨SV.ad []⟩)], Ow e8 A n1 c r0.2.2.2.1, Bx 145 ck [I r0.2.2.2.2.2.1, I r0.2.2.2.2.2.2.1, sl A1 n2 c1, sl A2 n3 c2, .b r0.2.2.2.2.2.2.2.2.2.1, .u64 r0.2.2.2.2.2.2.2.2.2.2.1, .v (.iface 194 (SV.val (pt bn 0)))], Ow e8 A1 n2 c1 r0.2.2.2.2.2.2.2.1, Ow e8 A2 n3 c2 r0.2.2.2.2.2.2.2.2.1, Bx 86 cB [I 1, I 64, .u32 4294967295, .u64 274877906944, .b false, sl bY bq bZ, sl bC aZ bD, sl aI aw aJ, pt ck 0, sl none 0 0, .u64 r0.2.2.2.2.2.2.2.2.2.2.2.1, .ar e8 r0.2.2.2.2.2.2.2.2.2.2.2.2.1, I r0.2.2.2.2.2.2.2.2.2.2.2.2.2, .v (.func (.func 66) ⟨SV.ad [pt cB 0]⟩ ⟨SV.ad []⟩)], Bx 58 kU [sl cu bS cv, pt cB 0]] | .inr r1 => ∃ A3 n4 c3 A4 n5 c4 A5 n6 c5 g n7 c6, r1.2.2.2.2.2.1.length = n4 ∧ r1.2.2.2.2.2.2.2.2.2.1.length = n5 ∧ r1.2.2.2.2.2.2.2.2.2.2.1.length = n6 ∧ r1.2.2.2.2.2.2.2.2.2.2.2.2.2.1.length = n7 ∧ e = .returned (SV.val (.gD [.u64 r1.1, I r1.2.1])) ∧ Cx F O w w' [Bx 200 bn [.ar cj r1.2.2.1, .u64 r1.2.2.2.1, .u64 r1.2.2.2.2.1, sl A3 n4 c3, I r1.2.2.2.2.2.2.1, .v (.func (.func 132) ⟨SV.ad []⟩ ⟨SV.ad []⟩), .v (.func (.func 133) ⟨SV.ad []⟩ ⟨SV.ad []⟩)], Ow e8 A3 n4 c3 r1.2.2.2.2.2.1, Bx 145 ck [I r1.2.2.2.2.2.2.2.1, I r1.2.2.2.2.2.2.2.2.1, sl A4 n5 c4, sl A5 n6 c5, .b r1.2.2.2.2.2.2.2.2.2.2.2.1, .u64 r1.2.2.2.2.2.2.2.2.2.2.2.2.1, .v (.iface 194 (SV.val (pt bn 0)))], Ow e8 A4 n5 c4 r1.2.2.2.2.2.2.2.2.2.1, Ow e8 A5 n6 c5 r1.2.2.2.2.2.2.2.2.2.2.1, Bx 86 cB [I 1, I 64, .u32 4294967295, .u64 274877906944, .b false, sl bY bq bZ, sl bC aZ bD, sl aI aw aJ, pt ck 0, sl (some ⟨g, 0, none⟩) n7 c6, .u64 r1.2.2.2.2.2.2.2.2.2.2.2.2.2.2.1, .ar e8 r1.2.2.2.2.2.2.2.2.2.2.2.2.2.2.2.1, I r1.2.2.2.2.2.2.2.2.2.2.2.2.2.2.2.2, .v (.func (.func 90) ⟨SV.ad [pt cB 0]⟩ ⟨SV.ad []⟩)], Sh (SH e8) [((some ⟨g, 0, none⟩), n7, c6)] [r1.2.2.2.2.2.2.2.2.2.2.2.2.2.1], Bx 58 kU [sl cu bS cv, pt cB 0]]) := by
 unfold hT at hm
 subst fL
 subst eM
 subst eg
 subst cg
 obtain rfl := k.len 3 rfl
 obtain rfl := k.len 4 rfl
 obtain rfl := k.len 6 rfl
 refine calls [pt kU 0, .u64 n] Tryz.func7 rfl (of_decide_eq_true (by kernel_rfl)) ?_
 refine ab <| an <| ag <| gF [] 3 (.u64 n) [.u64 n] (by kernel_rfl) k ?_
 intro g0 w_ k_
 refine ba 2 [] (.kk .z) qe (by kernel_rfl) ?_
 refine af <| aa <| ab <| ab <| an <| ba 1 [] (.n 8 (pt kU 0) .a) qe (by kernel_rfl) ?_
 refine ag ?_
 obtain ⟨r_, cQ, hm⟩ := ob hm
 obtain ⟨F1, O1, lQ, hO, rp, hF, hb⟩ := k_.go (.i (.i (.i (.i (.i (.i (.i (.r .e))))))))
 refine au [] 9 _ vz (by kernel_rfl) (mh (F := F1) (O := O1) _ _ _ _ _ _ _ _ _ _ _ _ _ _ _ _ _ _ _ _ _ _ _ _ _ _ _ _ _ _ _ _ _ _ _ _ _ _ _ _ _ _ _ (Ro.aM fZ k_ hF) rfl eU (Ro.aM ej k_ hF) rfl dA (Ro.aM dB k_ hF) rfl cN (Ro.aM bU k_ hF) rfl bF lQ _ cQ) ?_
 rintro e_ k4 ⟨A0, _, c0, A6, _, c7, A7, _, c8, rfl, rfl, rfl, rfl, db⟩
 have dE := hb k4 _ _ db (.c (.c (.c (.c (.c (.c (.c .n)))))))
 refine ⟨.b false, rfl, ?_⟩
 refine af <| aa <| cm false (by kernel_rfl) (fun h => by cases h) (fun _ => ?_)
 refine bc <| aa <| ab <| ab <| bO [] (.n 11 (.b (decide (n = 0))) (.ss .a)) (qB dE 7 rfl 0 (.u64 n) (by kernel_rfl) <| qe) (by kernel_rfl) ?_
 refine aa <| bu (n = 0) (by kernel_rfl) (fun hc => ?_) (fun hc => ?_)
 · rw [if_pos hc] at hm
   refine ab <| bO [] (.n 4 (.u64 0) (.n 5 (I 1) .z)) qe (by kernel_rfl) ?_
   refine aa <| aQ (cJ ?_)
   obtain rfl := Option.some.inj hm
   refine aR [.u64 0, I 1] qe (by kernel_rfl) ?_
   have dU := dE.de (.bX (.kk (.k .z)))
   exact ⟨A0, r_.2.2.2.1.length, c0, A6, r_.2.2.2.2.2.2.2.1.length, c7, A7, r_.2.2.2.2.2.2.2.2.1.length, c8, dU.len 1 rfl, dU.len 3 rfl, dU.len 4 rfl, rfl, dU⟩
 rw [if_neg hc] at hm
 refine bc <| aa <| ab <| an <| ag <| bT [] 6 [.u64 0] (by kernel_rfl) dE ?_
 intro g1 l6 eY
 refine ag <| en [] 8 (.u64 0) [.u64 0] (Pt.at g1 0) eY rfl .all (by kernel_rfl) (by kernel_rfl) ?_
 intro qj fU
 refine af <| aa <| ab <| ab <| an <| ba 2 [] (.n 12 (pt kU 0) (.n 13 (.v (.func (.func 18) ⟨SV.ad []⟩ ⟨SV.ad [pt g0 0, pt g1 0]⟩)) (.k .z))) qe (by kernel_rfl) ?_
 refine ag ?_
 have g_ := fU.de (.bX (.bX (.k .e)))
 obtain ⟨ah, dd, hm⟩ := ob hm
 have gC := ((((((((g_.pk (.t (.t (.t (.t (.t (.t (.t (.t .h))))))))).pk (.t (.t (.t (.t (.t (.t (.t (.t .h))))))))).pk (.t (.t (.t .h)))).pk (.t (.t (.t .h)))).pk (.t (.t (.t (.t (.t (.t .h))))))).pk (.t (.t (.t (.t (.t (.t .h))))))).pk (.t (.t (.t (.t (.t (.t .h))))))).pk (.t (.t (.t (.t (.t (.t (.t .h)))))))).pk (.t (.t (.t (.t (.t (.t (.t (.t .h))))))))
 obtain ⟨xI, xJ, nF, Fi, tF, si, xK⟩ := gC.go (.i (.i (.i (.i (.i (.i (.i (.i (.i .e)))))))))
 refine au [] 14 _ BY (by kernel_rfl) (vZ (F := xI) (O := xJ) _ _ _ _ _ _ _ _ _ _ _ _ _ _ _ _ _ _ _ _ _ _ _ _ _ _ _ _ _ _ _ _ _ _ _ _ _ _ _ _ _ _ _ _ _ _ _ (Ro.aM fZ gC si) rfl eU (Ro.aM ej gC si) rfl dA (Ro.aM dB gC si) rfl cN (Ro.aM bU gC si) rfl bF nF _ dd) ?_
 rintro e_ qk ⟨A8, _, c9, A9, _, sV, wq, _, uf, g2, _, xS, rfl, rfl, rfl, rfl, rfl, gP⟩
 have gB := xK qk _ _ gP (.c (.c (.c (.c (.c (.c (.c (.c (.c (.c .n))))))))))
 refine ⟨I ah.1, rfl, ?_⟩
 have dO := gB.de (.bX (.bX (.s (.k .e))))
 refine ba 1 [] (.n 7 (I ah.1) (.oQ .a)) qe (by kernel_rfl) ?_
 refine af <| aa <| ab <| bO [] (.n 16 (.b (decide (ah.1 ≠ 0))) .a) qe (by kernel_rfl) ?_
 refine aa <| bu (ah.1 ≠ 0) (by kernel_rfl) (fun k5 => ?_) (fun k5 => ?_)
 · rw [if_pos k5] at hm
   refine ab <| bO [] (.n 4 (.u64 0) (.n 5 (I ah.1) .z)) qe (by kernel_rfl) ?_
   refine aa <| aQ (cJ ?_)
   obtain rfl := Option.some.inj hm
   refine aR [.u64 0, I ah.1] qe (by kernel_rfl) ?_
   have cV := dO.de (.bX (.bX .z))
   exact ⟨A8, ah.2.2.2.2.1.length, c9, A9, ah.2.2.2.2.2.2.2.2.1.length, sV, wq, ah.2.2.2.2.2.2.2.2.2.1.length, uf, g2, ah.2.2.2.2.2.2.2.2.2.2.2.2.1.length, xS, cV.len 1 rfl, cV.len 3 rfl, cV.len 4 rfl, cV.fS 6 rfl, rfl, cV⟩
 rw [if_neg k5] at hm
 refine bc <| aa <| ab <| bO [] (.n 4 (.u64 ah.2.2.2.2.2.2.2.2.2.2.2.2.2.2.2.2.2) (.n 5 (I 0) .z)) (qB dO 8 rfl 0 (.u64 ah.2.2.2.2.2.2.2.2.2.2.2.2.2.2.2.2.2) (by kernel_rfl) <| qe) (by kernel_rfl) ?_
 refine aa <| aQ ?_
 obtain rfl := Option.some.inj hm
 refine aR [.u64 ah.2.2.2.2.2.2.2.2.2.2.2.2.2.2.2.2.2, I 0] qe (by kernel_rfl) ?_
 have ff := dO.de (.bX (.bX .z))
 exact ⟨A8, ah.2.2.2.2.1.length, c9, A9, ah.2.2.2.2.2.2.2.2.1.length, sV, wq, ah.2.2.2.2.2.2.2.2.2.1.length, uf, g2, ah.2.2.2.2.2.2.2.2.2.2.2.2.1.length, xS, ff.len 1 rfl, ff.len 3 rfl, ff.len 4 rfl, ff.fS 6 rfl, rfl, ff⟩
theorem vc {F O : Nat → Prop} {w : World} (er : List UInt8) (dJ : List UInt8) (cW : List UInt8) (bL : List UInt8) (dQ : Int) (cZ : Int) (dz : List UInt8) (et : List UInt8) (dT : Bool) (cG : UInt64) (eu : ae UInt64 8) (b8 : UInt64) (b9 : UInt64) (c_ : List UInt8) (cH : Int) (gX : UInt64) (gd : ae UInt8 64) (fp : Int) (draw : Int) (p : UInt64) (iK : Nat) (jI : Nat) (gu : Option Addr) (fq : Nat) (gv : Nat) (fh : Nat) (fG : Option Addr) (eA : Nat) (fH : Nat) (fc : Option Addr) (dV : Nat) (fe : Nat) (df : Option Addr) (ct : Nat) (dh : Nat) (fD : Nat) (fP : Option Addr) (fQ : Nat) (fR : Nat) (gL : Option Addr) (gM : Nat) (gN : Nat) (dW : Nat) (ft : Option Addr) (fu : Nat) (fw : Nat) (gm : Nat) (yO : Nat) (l8 : Ro F w gu (e8.all er)) (mj : er.length = fq) (lD : fq ≤ gv) (lE : Ro F w fG (e8.all dJ)) (lK : dJ.length = eA) (kz : eA ≤ fH) (kA : Ro F w fc (e8.all cW)) (kQ : cW.length = dV) (jQ : dV ≤ fe) (ie : Ro F w df (e8.all bL)) (iA : bL.length = ct) (gO : ct ≤ dh) (k : Cx F O w w [Bx 26 iK [pt jI 0], Bx 58 jI [sl gu fq gv, pt fh 0], Bx 86 fh [I 1, I 64, .u32 4294967295, .u64 274877906944, .b false, sl fG eA fH, sl fc dV fe, sl df ct dh, pt fD 0, sl none 0 0, .u64 gX, .ar e8 gd, I fp, .v (.func (.func 66) ⟨SV.ad [pt fh 0]⟩ ⟨SV.ad []⟩)], Bx 145 fD [I dQ, I cZ, sl fP fQ fR, sl gL gM gN, .b dT, .u64 cG, .v (.iface 194 (SV.val (pt dW 0)))], Ow e8 fP fQ fR dz, Ow e8 gL gM gN et, Bx 200 dW [.ar cj eu, .u64 b8, .u64 b9, sl ft fu fw, I cH, .v (.func (.func 132) ⟨SV.ad []⟩ ⟨SV.ad []⟩), .v (.func (.func 133) ⟨SV.ad []⟩ ⟨SV.ad []⟩)], Ow e8 ft fu fw c_, Bx 27 gm [I draw], Bx 23 yO [.u64 p]]) (r : (ae UInt64 8 × UInt64 × UInt64 × List UInt8 × Int × Int × Int × List UInt8 × List UInt8 × Bool × UInt64 × List UInt8 × UInt64 × ae UInt8 64 × Int × Int × UInt64)) (hm : jO er dJ cW bL dQ cZ dz et dT cG eu b8 b9 c_ cH gX gd fp draw p = some r) :
    Calls Tryz.prog 42 (ad [.v (.func (.func 38) ⟨SV.ad []⟩ ⟨SV.ad [pt iK 0, pt gm 0]⟩), pt yO 0]) w (fun e w' => ∃ A n c A1 n1 c1 A2 n2 c2 g n3 c3, r.2.2.2.1.length = n ∧ r.2.2.2.2.2.2.2.1.length = n1 ∧ r.2.2.2.2.2.2.2.2.1.length = n2 ∧ r.2.2.2.2.2.2.2.2.2.2.2.1.length = n3 ∧ e = .returned (SV.val (.gD [])) ∧ Cx F O w w' [Bx 200 dW [.ar cj r.1, .u64 r.2.1, .u64 r.2.2.1, sl A n c, I r.2.2.2.2.1, .v (.func (.func 132) ⟨SV.ad []⟩ ⟨SV.ad []⟩), .v (.func (.func 133) ⟨SV.ad []⟩ ⟨SV.ad []⟩)], Ow e8 A n c r.2.2.2.1, Bx 145 fD [I r.2.2.2.2.2.1, I r.2.2.2.2.2.2.1, sl A1 n1 c1, sl A2 n2 c2, .b r.2.2.2.2.2.2.2.2.2.1, .u64 r.2.2.2.2.2.2.2.2.2.2.1, .v (.iface 194 (SV.val (pt dW 0)))], Ow e8 A1 n1 c1 r.2.2.2.2.2.2.2.1, Ow e8 A2 n2 c2 r.2.2.2.2.2.2.2.2.1, Bx 86 fh [I 1, I 64, .u32 4294967295, .u64 274877906944, .b false, sl fG eA fH, sl fc dV fe, sl df ct dh, pt fD 0, sl (some ⟨g, 0, none⟩) n3 c3, .u64 r.2.2.2.2.2.2.2.2.2.2.2.2.1, .ar e8 r.2.2.2.2.2.2.2.2.2.2.2.2.2.1, I r.2.2.2.2.2.2.2.2.2.2.2.2.2.2.1, .v (.func (.func 90) ⟨SV.ad [pt fh 0]⟩ ⟨SV.ad []⟩)], Sh (SH e8) [((some ⟨g, 0, none⟩), n3, c3)] [r.2.2.2.2.2.2.2.2.2.2.2.1], Bx 58 jI [sl gu fq gv, pt fh 0], Bx 26 iK [pt jI 0], Bx 27 gm [I r.2.2.2.2.2.2.2.2.2.2.2.2.2.2.2.1], Bx 23 yO [.u64 r.2.2.2.2.2.2.2.2.2.2.2.2.2.2.2.2]]) := by
 unfold jO at hm
 subst mj
 subst lK
 subst kQ
 subst iA
 obtain rfl := k.len 4 rfl
 obtain rfl := k.len 5 rfl
 obtain rfl := k.len 7 rfl
 refine calls [.v (.func (.func 38) ⟨SV.ad []⟩ ⟨SV.ad [pt iK 0, pt gm 0]⟩), pt yO 0] Tryz.func42 rfl (of_decide_eq_true (by kernel_rfl)) ?_
 refine an <| ba 1 [] (.n 3 (.v (.func (.func 38) ⟨SV.ad []⟩ ⟨SV.ad [pt iK 0, pt gm 0]⟩)) (.s .a)) qe (by kernel_rfl) ?_
 refine ag ?_
 obtain ⟨r_, cQ, hm⟩ := ob hm
 obtain ⟨F1, O1, lQ, hO, rp, hF, hb⟩ := k.go (.i (.i (.i (.i (.i (.i (.i (.i (.i (.r .e))))))))))
 refine lU [] 4 [] [] [pt iK 0, pt gm 0] y4 (by kernel_rfl) (pz (F := F1) (O := O1) _ _ _ _ _ _ _ _ _ _ _ _ _ _ _ _ _ _ _ _ _ _ _ _ _ _ _ _ _ _ _ _ _ _ _ _ _ _ _ _ _ _ _ _ _ _ (Ro.aM l8 k hF) rfl lD (Ro.aM lE k hF) rfl kz (Ro.aM kA k hF) rfl jQ (Ro.aM ie k hF) rfl gO lQ _ cQ) ?_
 rintro e_ w_ ⟨A0, _, c0, A3, _, c4, A4, _, c5, g0, _, c6, rfl, rfl, rfl, rfl, rfl, k_⟩
 have db := hb w_ _ _ k_ (.c (.c (.c (.c (.c (.c (.c (.c (.c (.c .n))))))))))
 refine ⟨.u64 r_.1, rfl, ?_⟩
 refine ag <| en [] 10 (.u64 r_.1) [.u64 r_.1] (Pt.at yO 0) db rfl .all (by kernel_rfl) (by kernel_rfl) ?_
 intro k4 dE
 refine af ?_
 obtain rfl := Option.some.inj hm
 refine px [] qe (by kernel_rfl) ?_
 exact ⟨A0, r_.2.2.2.2.1.length, c0, A3, r_.2.2.2.2.2.2.2.2.1.length, c4, A4, r_.2.2.2.2.2.2.2.2.2.1.length, c5, g0, r_.2.2.2.2.2.2.2.2.2.2.2.2.1.length, c6, dE.len 1 rfl, dE.len 3 rfl, dE.len 4 rfl, dE.fS 6 rfl, rfl, dE⟩
theorem tL {F O : Nat → Prop} {w : World} (bI : List UInt8) (a1 : List UInt8) (aN : List UInt8) (ak : List UInt8) (aO : Int) (ax : Int) (aB : List UInt8) (aU : List UInt8) (aP : Bool) (ao : UInt64) (aW : ae UInt64 8) (ai : UInt64) (aj : UInt64) (av : List UInt8) (aq : Int) (cp : UInt64) (bJ : ae UInt8 64) (bd : Int) (work : UInt64) (kU : Nat) (cu : Option Addr) (bS : Nat) (cv : Nat) (cB : Nat) (bY : Option Addr) (bq : Nat) (bZ : Nat) (bC : Option Addr) (aZ : Nat) (bD : Nat) (aI : Option Addr) (aw : Nat) (aJ : Nat) (ck : Nat) (bx : Option Addr) (bB : Nat) (bz : Nat) (b6 : Option Addr) (cd : Nat) (b7 : Nat) (bn : Nat) (bf : Option Addr) (bo : Nat) (bg : Nat) (lZ : Nat) (fZ : Ro F w cu (e8.all bI)) (fL : bI.length = bS) (eU : bS ≤ cv) (ej : Ro F w bY (e8.all a1)) (eM : a1.length = bq) (dA : bq ≤ bZ) (dB : Ro F w bC (e8.all aN)) (eg : aN.length = aZ) (cN : aZ ≤ bD) (bU : Ro F w aI (e8.all ak)) (cg : ak.length = aw) (bF : aw ≤ aJ) (k : Cx F O w w [Bx 58 kU [sl cu bS cv, pt cB 0], Bx 86 cB [I 1, I 64, .u32 4294967295, .u64 274877906944, .b false, sl bY bq bZ, sl bC aZ bD, sl aI aw aJ, pt ck 0, sl none 0 0, .u64 cp, .ar e8 bJ, I bd, .v (.func (.func 66) ⟨SV.ad [pt cB 0]⟩ ⟨SV.ad []⟩)], Bx 145 ck [I aO, I ax, sl bx bB bz, sl b6 cd b7, .b aP, .u64 ao, .v (.iface 194 (SV.val (pt bn 0)))], Ow e8 bx bB bz aB, Ow e8 b6 cd b7 aU, Bx 200 bn [.ar cj aW, .u64 ai, .u64 aj, sl bf bo bg, I aq, .v (.func (.func 132) ⟨SV.ad []⟩ ⟨SV.ad []⟩), .v (.func (.func 133) ⟨SV.ad []⟩ ⟨SV.ad []⟩)], Ow e8 bf bo bg av, Bx 23 lZ [.u64 work]]) (r : (Int × ae UInt64 8 × UInt64 × UInt64 × List UInt8 × Int × Int × Int × List UInt8 × List UInt8 × Bool × UInt64 × List UInt8 × UInt64 × ae UInt8 64 × Int × UInt64)) (hm : jY bI a1 aN ak aO ax aB aU aP ao aW ai aj av aq cp bJ bd work = some r) :
    Calls Tryz.prog 17 (ad [pt kU 0, .v (.func (.func 42) ⟨SV.ad []⟩ ⟨SV.ad [pt lZ 0]⟩)]) w (fun e w' => ∃ A n c A1 n1 c1 A2 n2 c2 g n3 c3, r.2.2.2.2.1.length = n ∧ r.2.2.2.2.2.2.2.2.1.length = n1 ∧ r.2.2.2.2.2.2.2.2.2.1.length = n2 ∧ r.2.2.2.2.2.2.2.2.2.2.2.2.1.length = n3 ∧ e = .returned (SV.val (I r.1)) ∧ Cx F O w w' [Bx 200 bn [.ar cj r.2.1, .u64 r.2.2.1, .u64 r.2.2.2.1, sl A n c, I r.2.2.2.2.2.1, .v (.func (.func 132) ⟨SV.ad []⟩ ⟨SV.ad []⟩), .v (.func (.func 133) ⟨SV.ad []⟩ ⟨SV.ad []⟩)], Ow e8 A n c r.2.2.2.2.1, Bx 145 ck [I r.2.2.2.2.2.2.1, I r.2.2.2.2.2.2.2.1, sl A1 n1 c1, sl A2 n2 c2, .b r.2.2.2.2.2.2.2.2.2.2.1, .u64 r.2.2.2.2.2.2.2.2.2.2.2.1, .v (.iface 194 (SV.val (pt bn 0)))], Ow e8 A1 n1 c1 r.2.2.2.2.2.2.2.2.1, Ow e8 A2 n2 c2 r.2.2.2.2.2.2.2.2.2.1, Bx 86 cB [I 1, I 64, .u32 4294967295, .u64 274877906944, .b false, sl bY bq bZ, sl bC aZ bD, sl aI aw aJ, pt ck 0, sl (some ⟨g, 0, none⟩) n3 c3, .u64 r.2.2.2.2.2.2.2.2.2.2.2.2.2.1, .ar e8 r.2.2.2.2.2.2.2.2.2.2.2.2.2.2.1, I r.2.2.2.2.2.2.2.2.2.2.2.2.2.2.2.1, .v (.func (.func 90) ⟨SV.ad [pt cB 0]⟩ ⟨SV.ad []⟩)], Sh (SH e8) [((some ⟨g, 0, none⟩), n3, c3)] [r.2.2.2.2.2.2.2.2.2.2.2.2.1], Bx 58 kU [sl cu bS cv, pt cB 0], Bx 23 lZ [.u64 r.2.2.2.2.2.2.2.2.2.2.2.2.2.2.2.2]]) := by
 unfold jY at hm
 subst fL
 subst eM
 subst eg
 subst cg
 obtain rfl := k.len 3 rfl
 obtain rfl := k.len 4 rfl
 obtain rfl := k.len 6 rfl
 refine calls [pt kU 0, .v (.func (.func 42) ⟨SV.ad []⟩ ⟨SV.ad [pt lZ 0]⟩)] Tryz.func17 rfl (of_decide_eq_true (by kernel_rfl)) ?_
 refine ab <| an <| ag <| gF [] 2 (pt kU 0) [pt kU 0] (by kernel_rfl) k ?_
 intro g0 w_ k_
 refine ba 1 [] (.k (.s .a)) qe (by kernel_rfl) ?_
 refine af <| aa <| ab <| ab <| an <| ba 1 [] (.n 7 (pt kU 0) .a) (qB k_ 8 rfl 0 (pt kU 0) (by kernel_rfl) <| qe) (by kernel_rfl) ?_
 refine ag ?_
 obtain ⟨r_, cQ, hm⟩ := ob hm
 obtain ⟨F1, O1, lQ, hO, rp, hF, hb⟩ := k_.go (.i (.i (.i (.i (.i (.i (.i (.r (.r .e)))))))))
 refine au [] 8 _ vz (by kernel_rfl) (mh (F := F1) (O := O1) _ _ _ _ _ _ _ _ _ _ _ _ _ _ _ _ _ _ _ _ _ _ _ _ _ _ _ _ _ _ _ _ _ _ _ _ _ _ _ _ _ _ _ (Ro.aM fZ k_ hF) rfl eU (Ro.aM ej k_ hF) rfl dA (Ro.aM dB k_ hF) rfl cN (Ro.aM bU k_ hF) rfl bF lQ _ cQ) ?_
 rintro e_ k4 ⟨A0, _, c0, A3, _, c4, A4, _, c5, rfl, rfl, rfl, rfl, db⟩
 have dE := hb k4 _ _ db (.c (.c (.c (.c (.c (.c (.c .n)))))))
 refine ⟨.b false, rfl, ?_⟩
 refine af <| aa <| cm false (by kernel_rfl) (fun h => by cases h) (fun _ => ?_)
 refine bc <| aa <| ab <| an <| ba 4 [] (.n 12 (pt cB 0) (.ss .a)) (qB dE 8 rfl 0 (pt kU 0) (by kernel_rfl) <| qs kU 0 <| qs kU 0 <| qB dE 6 rfl 1 (pt cB 0) (by kernel_rfl) <| qe) (by kernel_rfl) ?_
 refine ag ?_
 obtain ⟨ah, dd, hm⟩ := ob hm
 have dU := ((((((((dE.pk (.t (.t (.t (.t (.t (.t (.t (.t .h))))))))).pk (.t (.t (.t (.t (.t (.t (.t (.t .h))))))))).pk (.t (.t (.t (.t (.t (.t (.t (.t .h))))))))).pk (.t (.t (.t (.t .h))))).pk (.t (.t (.t (.t .h))))).pk (.t (.t (.t (.t (.t (.t (.t .h)))))))).pk (.t (.t (.t (.t (.t (.t (.t .h)))))))).pk (.t (.t (.t (.t (.t (.t (.t .h)))))))).pk (.t (.t (.t (.t (.t (.t (.t (.t .h))))))))
 obtain ⟨xI, xJ, nF, Fi, tF, si, xK⟩ := dU.go (.i (.i (.i (.i (.i (.i (.r (.r (.r .e)))))))))
 refine au [] 13 _ B1 (by kernel_rfl) (qQ (F := xI) (O := xJ) _ _ _ _ _ _ _ _ _ _ _ _ _ _ _ _ _ _ _ _ _ _ _ _ _ _ _ _ _ _ _ _ _ _ _ _ _ _ (Ro.aM ej dU si) rfl dA (Ro.aM dB dU si) rfl cN (Ro.aM bU dU si) rfl bF nF _ dd) ?_
 rintro e_ l6 ⟨g1, g2, A5, _, c6, A6, _, c7, g3, A7, _, c8, A8, _, c9, rfl, rfl, rfl, rfl, rfl, eY⟩
 have fU := xK l6 _ _ eY (.c (.c (.c (.c (.c (.c (.c (.c (.c (.c .n))))))))))
 refine ⟨pt g1 0, rfl, ?_⟩
 refine ba 1 [] (.n 5 (pt g1 0) (.ss .a)) qe (by kernel_rfl) ?_
 refine af <| aa <| ab <| an <| ag <| bT [] 6 [I 0] (by kernel_rfl) fU ?_
 intro g4 qj g_
 refine ag ?_
 have gC := g_.de (.bX (.bX (.bX (.kk .e))))
 refine en [] 13 (I 0) [I 0] (Pt.at g4 0) gC rfl .all (by kernel_rfl) (by kernel_rfl) ?_
 intro qk gP
 refine af <| aa <| ab <| an <| ba 2 [] (.n 14 (.v (.func (.func 42) ⟨SV.ad []⟩ ⟨SV.ad [pt lZ 0]⟩)) (.n 15 (.v (.func (.func 38) ⟨SV.ad []⟩ ⟨SV.ad [pt g0 0, pt g4 0]⟩)) (.uk .z))) qe (by kernel_rfl) ?_
 refine ag ?_
 obtain ⟨aX, hK, hm⟩ := ob hm
 have gB := (((((((((((((gP.pk (.t (.t (.t (.t (.t .h)))))).pk (.t (.t (.t (.t (.t .h)))))).pk (.t (.t (.t .h)))).pk (.t (.t (.t .h)))).pk (.t (.t (.t (.t (.t (.t (.t (.t (.t (.t (.t .h)))))))))))).pk (.t (.t (.t (.t (.t (.t (.t (.t (.t (.t (.t (.t (.t .h)))))))))))))).pk (.t (.t (.t (.t (.t (.t (.t (.t (.t .h)))))))))).pk (.t (.t (.t (.t (.t (.t (.t (.t (.t .h)))))))))).pk (.t (.t (.t (.t (.t (.t (.t (.t (.t .h)))))))))).pk (.t (.t (.t (.t (.t (.t (.t (.t (.t .h)))))))))).pk (.t (.t (.t (.t (.t (.t (.t (.t (.t (.t .h))))))))))).pk (.t (.t (.t (.t (.t (.t (.t (.t (.t (.t (.t .h)))))))))))).pk (.t (.t (.t (.t (.t (.t (.t (.t (.t (.t (.t (.t .h))))))))))))).pk (.t (.t (.t (.t (.t (.t (.t (.t (.t (.t (.t (.t (.t .h)))))))))))))
 obtain ⟨F6, F7, ug, Nc, zY, vV, CP⟩ := gB.go (.i (.i (.i (.i (.i (.i (.i (.i (.i (.i (.r (.r (.r (.r .e))))))))))))))
 refine lU [] 16 [] [.v (.func (.func 38) ⟨SV.ad []⟩ ⟨SV.ad [pt g0 0, pt g4 0]⟩)] [pt lZ 0] E6 (by kernel_rfl) (vc (F := F6) (O := F7) _ _ _ _ _ _ _ _ _ _ _ _ _ _ _ _ _ _ _ _ _ _ _ _ _ _ _ _ _ _ _ _ _ _ _ _ _ _ _ _ _ _ _ _ _ _ _ _ (Ro.aM fZ gB vV) rfl eU (Ro.aM ej gB vV) rfl dA (Ro.aM dB gB vV) rfl cN (Ro.aM bU gB vV) rfl bF ug _ hK) ?_
 rintro e_ rX ⟨A9, _, sV, wq, _, uf, yr, _, xS, g5, _, Co, rfl, rfl, rfl, rfl, rfl, dO⟩
 have cV := CP rX _ _ dO (.c (.c (.c (.c (.c (.c (.c (.c (.c (.c (.c .n)))))))))))
 refine ⟨.gD [], rfl, ?_⟩
 refine af <| aa <| ab <| ab <| bO [] (.n 18 (.b (decide (aX.2.2.2.2.2.2.2.2.2.2.2.2.2.2.2.1 ≠ 0))) (.oQ .a)) (qB cV 9 rfl 0 (I aX.2.2.2.2.2.2.2.2.2.2.2.2.2.2.2.1) (by kernel_rfl) <| qe) (by kernel_rfl) ?_
 refine aa <| bu (aX.2.2.2.2.2.2.2.2.2.2.2.2.2.2.2.1 ≠ 0) (by kernel_rfl) (fun hc => ?_) (fun hc => ?_)
 · rw [if_pos hc] at hm
   cases hm
 rw [if_neg hc] at hm
 refine bc <| aa <| ab <| bO [] (.n 4 (I aX.2.2.2.2.2.2.2.2.2.2.2.2.2.2.2.1) .z) (qB cV 9 rfl 0 (I aX.2.2.2.2.2.2.2.2.2.2.2.2.2.2.2.1) (by kernel_rfl) <| qe) (by kernel_rfl) ?_
 refine aa <| aQ ?_
 obtain rfl := Option.some.inj hm
 refine aR [I aX.2.2.2.2.2.2.2.2.2.2.2.2.2.2.2.1] qe (by kernel_rfl) ?_
 have ez := cV.de (.bX (.bX (.ss (.k .z))))
 exact ⟨A9, aX.2.2.2.1.length, sV, wq, aX.2.2.2.2.2.2.2.1.length, uf, yr, aX.2.2.2.2.2.2.2.2.1.length, xS, g5, aX.2.2.2.2.2.2.2.2.2.2.2.1.length, Co, ez.len 1 rfl, ez.len 3 rfl, ez.len 4 rfl, ez.fS 6 rfl, rfl, ez⟩
theorem xa {F O : Nat → Prop} {w : World} (bI : List UInt8) (a1 : List UInt8) (aN : List UInt8) (ak : List UInt8) (aO : Int) (ax : Int) (aB : List UInt8) (aU : List UInt8) (aP : Bool) (ao : UInt64) (aW : ae UInt64 8) (ai : UInt64) (aj : UInt64) (av : List UInt8) (aq : Int) (cp : UInt64) (bJ : ae UInt8 64) (bd : Int) (kU : Nat) (cu : Option Addr) (bS : Nat) (cv : Nat) (cB : Nat) (bY : Option Addr) (bq : Nat) (bZ : Nat) (bC : Option Addr) (aZ : Nat) (bD : Nat) (aI : Option Addr) (aw : Nat) (aJ : Nat) (ck : Nat) (bx : Option Addr) (bB : Nat) (bz : Nat) (b6 : Option Addr) (cd : Nat) (b7 : Nat) (bn : Nat) (bf : Option Addr) (bo : Nat) (bg : Nat) (fZ : Ro F w cu (e8.all bI)) (fL : bI.length = bS) (eU : bS ≤ cv) (ej : Ro F w bY (e8.all a1)) (eM : a1.length = bq) (dA : bq ≤ bZ) (dB : Ro F w bC (e8.all aN)) (eg : aN.length = aZ) (cN : aZ ≤ bD) (bU : Ro F w aI (e8.all ak)) (cg : ak.length = aw) (bF : aw ≤ aJ) (k : Cx F O w w [Bx 58 kU [sl cu bS cv, pt cB 0], Bx 86 cB [I 1, I 64, .u32 4294967295, .u64 274877906944, .b false, sl bY bq bZ, sl bC aZ bD, sl aI aw aJ, pt ck 0, sl none 0 0, .u64 cp, .ar e8 bJ, I bd, .v (.func (.func 66) ⟨SV.ad [pt cB 0]⟩ ⟨SV.ad []⟩)], Bx 145 ck [I aO, I ax, sl bx bB bz, sl b6 cd b7, .b aP, .u64 ao, .v (.iface 194 (SV.val (pt bn 0)))], Ow e8 bx bB bz aB, Ow e8 b6 cd b7 aU, Bx 200 bn [.ar cj aW, .u64 ai, .u64 aj, sl bf bo bg, I aq, .v (.func (.func 132) ⟨SV.ad []⟩ ⟨SV.ad []⟩), .v (.func (.func 133) ⟨SV.ad []⟩ ⟨SV.ad []⟩)], Ow e8 bf bo bg av]) (r : (UInt64 × Int × ae UInt64 8 × UInt64 × UInt64 × List UInt8 × Int × Int × Int × List UInt8 × List UInt8 × Bool × UInt64 × List UInt8 × UInt64 × ae UInt8 64 × Int)) (hm : lP bI a1 aN ak aO ax aB aU aP ao aW ai aj av aq cp bJ bd = some r) :
    Calls Tryz.prog 20 (ad [pt kU 0]) w (fun e w' => ∃ A n c A1 n1 c1 A2 n2 c2 g n3 c3, r.2.2.2.2.2.1.length = n ∧ r.2.2.2.2.2.2.2.2.2.1.length = n1 ∧ r.2.2.2.2.2.2.2.2.2.2.1.length = n2 ∧ r.2.2.2.2.2.2.2.2.2.2.2.2.2.1.length = n3 ∧ e = .returned (SV.val (.gD [.u64 r.1, I r.2.1])) ∧ Cx F O w w' [Bx 200 bn [.ar cj r.2.2.1, .u64 r.2.2.2.1, .u64 r.2.2.2.2.1, sl A n c, I r.2.2.2.2.2.2.1, .v (.func (.func 132) ⟨SV.ad []⟩ ⟨SV.ad []⟩), .v (.func (.func 133) ⟨SV.ad []⟩ ⟨SV.ad []⟩)], Ow e8 A n c r.2.2.2.2.2.1, Bx 145 ck [I r.2.2.2.2.2.2.2.1, I r.2.2.2.2.2.2.2.2.1, sl A1 n1 c1, sl A2 n2 c2, .b r.2.2.2.2.2.2.2.2.2.2.2.1, .u64 r.2.2.2.2.2.2.2.2.2.2.2.2.1, .v (.iface 194 (SV.val (pt bn 0)))], Ow e8 A1 n1 c1 r.2.2.2.2.2.2.2.2.2.1, Ow e8 A2 n2 c2 r.2.2.2.2.2.2.2.2.2.2.1, Bx 86 cB [I 1, I 64, .u32 4294967295, .u64 274877906944, .b false, sl bY bq bZ, sl bC aZ bD, sl aI aw aJ, pt ck 0, sl (some ⟨g, 0, none⟩) n3 c3, .u64 r.2.2.2.2.2.2.2.2.2.2.2.2.2.2.1, .ar e8 r.2.2.2.2.2.2.2.2.2.2.2.2.2.2.2.1, I r.2.2.2.2.2.2.2.2.2.2.2.2.2.2.2.2, .v (.func (.func 90) ⟨SV.ad [pt cB 0]⟩ ⟨SV.ad []⟩)], Sh (SH e8) [((some ⟨g, 0, none⟩), n3, c3)] [r.2.2.2.2.2.2.2.2.2.2.2.2.2.1], Bx 58 kU [sl cu bS cv, pt cB 0]]) := by
 unfold lP at hm
 subst fL
 subst eM
 subst eg
 subst cg
 obtain rfl := k.len 3 rfl
 obtain rfl := k.len 4 rfl
 obtain rfl := k.len 6 rfl
 refine calls [pt kU 0] Tryz.func20 rfl (of_decide_eq_true (by kernel_rfl)) ?_
 refine ab <| bO [] .a qe (by kernel_rfl) ?_
 refine aa <| ab <| an <| ag <| bT [] 4 [.u64 0] (by kernel_rfl) k ?_
 intro g0 w_ k_
 refine ag <| en [] 7 (.u64 0) [.u64 0] (Pt.at g0 0) k_ rfl .all (by kernel_rfl) (by kernel_rfl) ?_
 intro k4 db
 refine af <| aa <| ab <| an <| ba 2 [] (.n 6 (pt kU 0) (.n 7 (.v (.func (.func 42) ⟨SV.ad []⟩ ⟨SV.ad [pt g0 0]⟩)) (.k .z))) qe (by kernel_rfl) ?_
 refine ag ?_
 obtain ⟨r_, cQ, hm⟩ := ob hm
 obtain ⟨F1, O1, lQ, hO, rp, hF, hb⟩ := db.go (.i (.i (.i (.i (.i (.i (.i (.i .e))))))))
 refine au [] 8 _ BY (by kernel_rfl) (tL (F := F1) (O := O1) _ _ _ _ _ _ _ _ _ _ _ _ _ _ _ _ _ _ _ _ _ _ _ _ _ _ _ _ _ _ _ _ _ _ _ _ _ _ _ _ _ _ _ _ _ (Ro.aM fZ db hF) rfl eU (Ro.aM ej db hF) rfl dA (Ro.aM dB db hF) rfl cN (Ro.aM bU db hF) rfl bF lQ _ cQ) ?_
 rintro e_ l6 ⟨A0, _, c0, A3, _, c4, A4, _, c5, g1, _, c6, rfl, rfl, rfl, rfl, rfl, dE⟩
 have dU := hb l6 _ _ dE (.c (.c (.c (.c (.c (.c (.c (.c (.c .n)))))))))
 refine ⟨I r_.1, rfl, ?_⟩
 refine ba 1 [] (.n 5 (I r_.1) (.oQ .a)) qe (by kernel_rfl) ?_
 refine af <| aa <| ab <| ab <| bO [] (.n 10 (.b (decide (r_.1 ≠ 0))) .a) qe (by kernel_rfl) ?_
 refine aa <| bu (r_.1 ≠ 0) (by kernel_rfl) (fun hc => ?_) (fun hc => ?_)
 · rw [if_pos hc] at hm
   refine ab <| bO [] (.n 2 (.u64 0) (.n 3 (I r_.1) .z)) qe (by kernel_rfl) ?_
   refine aa <| aQ (cJ ?_)
   obtain rfl := Option.some.inj hm
   refine aR [.u64 0, I r_.1] qe (by kernel_rfl) ?_
   have eY := dU.de (.bX (.bX .z))
   exact ⟨A0, r_.2.2.2.2.1.length, c0, A3, r_.2.2.2.2.2.2.2.2.1.length, c4, A4, r_.2.2.2.2.2.2.2.2.2.1.length, c5, g1, r_.2.2.2.2.2.2.2.2.2.2.2.2.1.length, c6, eY.len 1 rfl, eY.len 3 rfl, eY.len 4 rfl, eY.fS 6 rfl, rfl, eY⟩
 rw [if_neg hc] at hm
 refine bc <| aa <| ab <| bO [] (.n 2 (.u64 r_.2.2.2.2.2.2.2.2.2.2.2.2.2.2.2.2) (.n 3 (I 0) .z)) (qB dU 8 rfl 0 (.u64 r_.2.2.2.2.2.2.2.2.2.2.2.2.2.2.2.2) (by kernel_rfl) <| qe) (by kernel_rfl) ?_
 refine aa <| aQ ?_
 obtain rfl := Option.some.inj hm
 refine aR [.u64 r_.2.2.2.2.2.2.2.2.2.2.2.2.2.2.2.2, I 0] qe (by kernel_rfl) ?_
 have fU := dU.de (.bX (.bX .z))
 exact ⟨A0, r_.2.2.2.2.1.length, c0, A3, r_.2.2.2.2.2.2.2.2.1.length, c4, A4, r_.2.2.2.2.2.2.2.2.2.1.length, c5, g1, r_.2.2.2.2.2.2.2.2.2.2.2.2.1.length, c6, fU.len 1 rfl, fU.len 3 rfl, fU.len 4 rfl, fU.fS 6 rfl, rfl, fU⟩
theorem vd {F O : Nat → Prop} {w : World} (w_ : UInt64) (k : Cx F O w w []) (r : Nat) (hm : nb w_ = some r) :
    Calls Tryz.prog 21 (ad [.u64 w_]) w (fun e w' => ∃ fb, Fl r fb ∧ e = .returned (SV.val (.v (.float .f64 fb))) ∧ Cx F O w w' []) := by
 unfold nb at hm
 refine calls [.u64 w_] Tryz.func21 rfl (of_decide_eq_true (by kernel_rfl)) ?_
 refine ab <| bO [] .a qe (by kernel_rfl) ?_
 refine aa <| ab <| an <| ba 2 [] (.n 4 (.u64 (aK w_ ((11 : UInt64).toNat))) .z) qe (by kernel_rfl) ?_
 refine ag <| Ju [] 5 (q := .u64) (m := ((aK w_ ((11 : UInt64).toNat)).toNat : Int)) (by kernel_rfl) ?_
 refine ag <| oC [] 6 (u := x9 ((aK w_ ((11 : UInt64).toNat)).toNat : Int)) (v := 4845873199050653696) (by kernel_rfl) (.inr (.inr (.inr rfl))) (Jt _) (Fl.lit (c := 4845873199050653696) (by kernel_rfl)) k ?_
 intro AJ k4 Ao k_
 refine ba 1 [] (.n 2 (.v (.float .f64 AJ)) .z) qe (by kernel_rfl) ?_
 refine af <| aa <| aQ ?_
 obtain rfl := Option.some.inj hm
 refine aR [.v (.float .f64 AJ)] qe (by kernel_rfl) ?_
 exact ⟨AJ, Ao, rfl, k_⟩
theorem wa {F O : Nat → Prop} {w : World} (bI : List UInt8) (a1 : List UInt8) (aN : List UInt8) (ak : List UInt8) (aO : Int) (ax : Int) (aB : List UInt8) (aU : List UInt8) (aP : Bool) (ao : UInt64) (aW : ae UInt64 8) (ai : UInt64) (aj : UInt64) (av : List UInt8) (aq : Int) (cp : UInt64) (bJ : ae UInt8 64) (bd : Int) (kU : Nat) (cu : Option Addr) (bS : Nat) (cv : Nat) (cB : Nat) (bY : Option Addr) (bq : Nat) (bZ : Nat) (bC : Option Addr) (aZ : Nat) (bD : Nat) (aI : Option Addr) (aw : Nat) (aJ : Nat) (ck : Nat) (bx : Option Addr) (bB : Nat) (bz : Nat) (b6 : Option Addr) (cd : Nat) (b7 : Nat) (bn : Nat) (bf : Option Addr) (bo : Nat) (bg : Nat) (fZ : Ro F w cu (e8.all bI)) (fL : bI.length = bS) (eU : bS ≤ cv) (ej : Ro F w bY (e8.all a1)) (eM : a1.length = bq) (dA : bq ≤ bZ) (dB : Ro F w bC (e8.all aN)) (eg : aN.length = aZ) (cN : aZ ≤ bD) (bU : Ro F w aI (e8.all ak)) (cg : ak.length = aw) (bF : aw ≤ aJ) (k : Cx F O w w [Bx 58 kU [sl cu bS cv, pt cB 0], Bx 86 cB [I 1, I 64, .u32 4294967295, .u64 274877906944, .b false, sl bY bq bZ, sl bC aZ bD, sl aI aw aJ, pt ck 0, sl none 0 0, .u64 cp, .ar e8 bJ, I bd, .v (.func (.func 66) ⟨SV.ad [pt cB 0]⟩ ⟨SV.ad []⟩)], Bx 145 ck [I aO, I ax, sl bx bB bz, sl b6 cd b7, .b aP, .u64 ao, .v (.iface 194 (SV.val (pt bn 0)))], Ow e8 bx bB bz aB, Ow e8 b6 cd b7 aU, Bx 200 bn [.ar cj aW, .u64 ai, .u64 aj, sl bf bo bg, I aq, .v (.func (.func 132) ⟨SV.ad []⟩ ⟨SV.ad []⟩), .v (.func (.func 133) ⟨SV.ad []⟩ ⟨SV.ad []⟩)], Ow e8 bf bo bg av]) (r : (Nat × Int × ae UInt64 8 × UInt64 × UInt64 × List UInt8 × Int × Int × Int × List UInt8 × List UInt8 × Bool × UInt64 × List UInt8 × UInt64 × ae UInt8 64 × Int)) (hm : j8 bI a1 aN ak aO ax aB aU aP ao aW ai aj av aq cp bJ bd = some r) :
    Calls Tryz.prog 8 (ad [pt kU 0]) w (fun e w' => ∃ fb A n c A1 n1 c1 A2 n2 c2 g n3 c3, Fl r.1 fb ∧ r.2.2.2.2.2.1.length = n ∧ r.2.2.2.2.2.2.2.2.2.1.length = n1 ∧ r.2.2.2.2.2.2.2.2.2.2.1.length = n2 ∧ r.2.2.2.2.2.2.2.2.2.2.2.2.2.1.length = n3 ∧ e = .returned (SV.val (.gD [.v (.float .f64 fb), I r.2.1])) ∧ Cx F O w w' [Bx 200 bn [.ar cj r.2.2.1, .u64 r.2.2.2.1, .u64 r.2.2.2.2.1, sl A n c, I r.2.2.2.2.2.2.1, .v (.func (.func 132) ⟨SV.ad []⟩ ⟨SV.ad []⟩), .v (.func (.func 133) ⟨SV.ad []⟩ ⟨SV.ad []⟩)], Ow e8 A n c r.2.2.2.2.2.1, Bx 145 ck [I r.2.2.2.2.2.2.2.1, I r.2.2.2.2.2.2.2.2.1, sl A1 n1 c1, sl A2 n2 c2, .b r.2.2.2.2.2.2.2.2.2.2.2.1, .u64 r.2.2.2.2.2.2.2.2.2.2.2.2.1, .v (.iface 194 (SV.val (pt bn 0)))], Ow e8 A1 n1 c1 r.2.2.2.2.2.2.2.2.2.1, Ow e8 A2 n2 c2 r.2.2.2.2.2.2.2.2.2.2.1, Bx 86 cB [I 1, I 64, .u32 4294967295, .u64 274877906944, .b false, sl bY bq bZ, sl bC aZ bD, sl aI aw aJ, pt ck 0, sl (some ⟨g, 0, none⟩) n3 c3, .u64 r.2.2.2.2.2.2.2.2.2.2.2.2.2.2.1, .ar e8 r.2.2.2.2.2.2.2.2.2.2.2.2.2.2.2.1, I r.2.2.2.2.2.2.2.2.2.2.2.2.2.2.2.2, .v (.func (.func 90) ⟨SV.ad [pt cB 0]⟩ ⟨SV.ad []⟩)], Sh (SH e8) [((some ⟨g, 0, none⟩), n3, c3)] [r.2.2.2.2.2.2.2.2.2.2.2.2.2.1], Bx 58 kU [sl cu bS cv, pt cB 0]]) := by
 unfold j8 at hm
 subst fL
 subst eM
 subst eg
 subst cg
 obtain rfl := k.len 3 rfl
 obtain rfl := k.len 4 rfl
 obtain rfl := k.len 6 rfl
 refine calls [pt kU 0] Tryz.func8 rfl (of_decide_eq_true (by kernel_rfl)) ?_
 refine ab <| bO [] .a qe (by kernel_rfl) ?_
 refine aa <| ab <| an <| ba 1 [] (.n 7 (pt kU 0) .z) qe (by kernel_rfl) ?_
 refine ag ?_
 obtain ⟨r_, cQ, hm⟩ := ob hm
 obtain ⟨F1, O1, lQ, hO, rp, hF, hb⟩ := k.go (.i (.i (.i (.i (.i (.i (.i .e)))))))
 refine au [] 8 _ E2 (by kernel_rfl) (xa (F := F1) (O := O1) _ _ _ _ _ _ _ _ _ _ _ _ _ _ _ _ _ _ _ _ _ _ _ _ _ _ _ _ _ _ _ _ _ _ _ _ _ _ _ _ _ _ _ (Ro.aM fZ k hF) rfl eU (Ro.aM ej k hF) rfl dA (Ro.aM dB k hF) rfl cN (Ro.aM bU k hF) rfl bF lQ _ cQ) ?_
 rintro e_ w_ ⟨A0, _, c0, A3, _, c4, A4, _, c5, g0, _, c6, rfl, rfl, rfl, rfl, rfl, k_⟩
 have db := hb w_ _ _ k_ (.c (.c (.c (.c (.c (.c (.c (.c .n))))))))
 refine ⟨.gD [.u64 r_.1, I r_.2.1], rfl, ?_⟩
 refine ba 5 [] (.n 4 (.u64 r_.1) (.n 5 (I r_.2.1) .z)) qe (by kernel_rfl) ?_
 refine af <| aa <| ab <| an <| ba 1 [] (.n 11 (.u64 r_.1) (.s .a)) qe (by kernel_rfl) ?_
 refine ag ?_
 obtain ⟨ah, dd, hm⟩ := ob hm
 refine au [] 12 _ E3 (by kernel_rfl) (vd (F := N0) (O := N0) _ (Cx.refl _) _ dd) ?_
 rintro e_ k4 ⟨AJ, Ao, rfl, dE⟩
 have dU := db.call dE
 refine ⟨.v (.float .f64 AJ), rfl, ?_⟩
 refine ba 3 [] (.n 2 (.v (.float .f64 AJ)) (.n 3 (I r_.2.1) .z)) qe (by kernel_rfl) ?_
 refine af <| aa <| aQ ?_
 obtain rfl := Option.some.inj hm
 refine aR [.v (.float .f64 AJ), I r_.2.1] qe (by kernel_rfl) ?_
 exact ⟨AJ, A0, r_.2.2.2.2.2.1.length, c0, A3, r_.2.2.2.2.2.2.2.2.2.1.length, c4, A4, r_.2.2.2.2.2.2.2.2.2.2.1.length, c5, g0, r_.2.2.2.2.2.2.2.2.2.2.2.2.2.1.length, c6, Ao, dU.len 1 rfl, dU.len 3 rfl, dU.len 4 rfl, dU.fS 6 rfl, rfl, dU⟩
theorem pA {F O : Nat → Prop} {w : World} (bI : List UInt8) (a1 : List UInt8) (aN : List UInt8) (ak : List UInt8) (aO : Int) (ax : Int) (aB : List UInt8) (aU : List UInt8) (aP : Bool) (ao : UInt64) (aW : ae UInt64 8) (ai : UInt64) (aj : UInt64) (av : List UInt8) (aq : Int) (cS : List UInt8) (cp : UInt64) (bJ : ae UInt8 64) (bd : Int) (kU : Nat) (cu : Option Addr) (bS : Nat) (cv : Nat) (cB : Nat) (bY : Option Addr) (bq : Nat) (bZ : Nat) (bC : Option Addr) (aZ : Nat) (bD : Nat) (aI : Option Addr) (aw : Nat) (aJ : Nat) (ck : Nat) (bx : Option Addr) (bB : Nat) (bz : Nat) (b6 : Option Addr) (cd : Nat) (b7 : Nat) (bn : Nat) (bf : Option Addr) (bo : Nat) (bg : Nat) (gi : Nat) (eC : Nat) (gj : Nat) (fZ : Ro F w cu (e8.all bI)) (fL : bI.length = bS) (eU : bS ≤ cv) (ej : Ro F w bY (e8.all a1)) (eM : a1.length = bq) (dA : bq ≤ bZ) (dB : Ro F w bC (e8.all aN)) (eg : aN.length = aZ) (cN : aZ ≤ bD) (bU : Ro F w aI (e8.all ak)) (cg : ak.length = aw) (bF : aw ≤ aJ) (kR : Ro F w (some ⟨gi, 0, none⟩) (e8.all cS)) (lF : cS.length = eC) (jR : eC ≤ gj) (k : Cx F O w w [Bx 58 kU [sl cu bS cv, pt cB 0], Bx 86 cB [I 1, I 64, .u32 4294967295, .u64 274877906944, .b false, sl bY bq bZ, sl bC aZ bD, sl aI aw aJ, pt ck 0, sl (some ⟨gi, 0, none⟩) eC gj, .u64 cp, .ar e8 bJ, I bd, .v (.func (.func 90) ⟨SV.ad [pt cB 0]⟩ ⟨SV.ad []⟩)], Bx 145 ck [I aO, I ax, sl bx bB bz, sl b6 cd b7, .b aP, .u64 ao, .v (.iface 194 (SV.val (pt bn 0)))], Ow e8 bx bB bz aB, Ow e8 b6 cd b7 aU, Bx 200 bn [.ar cj aW, .u64 ai, .u64 aj, sl bf bo bg, I aq, .v (.func (.func 132) ⟨SV.ad []⟩ ⟨SV.ad []⟩), .v (.func (.func 133) ⟨SV.ad []⟩ ⟨SV.ad []⟩)], Ow e8 bf bo bg av]) (r : (ae UInt64 8 × UInt64 × UInt64 × List UInt8 × Int × Int × Int × List UInt8 × List UInt8 × Bool × UInt64 × UInt64 × ae UInt8 64 × Int)) (hm : ig bI a1 aN ak aO ax aB aU aP ao aW ai aj av aq cS cp bJ bd = some r) :
    Calls Tryz.prog 16 (ad [pt kU 0]) w (fun e w' => ∃ A n c A1 n1 c1 A2 n2 c2, r.2.2.2.1.length = n ∧ r.2.2.2.2.2.2.2.1.length = n1 ∧ r.2.2.2.2.2.2.2.2.1.length = n2 ∧ e = .returned (SV.val (.b false)) ∧ Cx F O w w' [Bx 200 bn [.ar cj r.1, .u64 r.2.1, .u64 r.2.2.1, sl A n c, I r.2.2.2.2.1, .v (.func (.func 132) ⟨SV.ad []⟩ ⟨SV.ad []⟩), .v (.func (.func 133) ⟨SV.ad []⟩ ⟨SV.ad []⟩)], Ow e8 A n c r.2.2.2.1, Bx 145 ck [I r.2.2.2.2.2.1, I r.2.2.2.2.2.2.1, sl A1 n1 c1, sl A2 n2 c2, .b r.2.2.2.2.2.2.2.2.2.1, .u64 r.2.2.2.2.2.2.2.2.2.2.1, .v (.iface 194 (SV.val (pt bn 0)))], Ow e8 A1 n1 c1 r.2.2.2.2.2.2.2.1, Ow e8 A2 n2 c2 r.2.2.2.2.2.2.2.2.1, Bx 86 cB [I 1, I 64, .u32 4294967295, .u64 274877906944, .b false, sl bY bq bZ, sl bC aZ bD, sl aI aw aJ, pt ck 0, sl (some ⟨gi, 0, none⟩) eC gj, .u64 r.2.2.2.2.2.2.2.2.2.2.2.1, .ar e8 r.2.2.2.2.2.2.2.2.2.2.2.2.1, I r.2.2.2.2.2.2.2.2.2.2.2.2.2, .v (.func (.func 90) ⟨SV.ad [pt cB 0]⟩ ⟨SV.ad []⟩)], Bx 58 kU [sl cu bS cv, pt cB 0]]) := by
 unfold ig at hm
 subst fL
 subst eM
 subst eg
 subst cg
 obtain rfl := k.len 3 rfl
 obtain rfl := k.len 4 rfl
 obtain rfl := k.len 6 rfl
 subst lF
 refine calls [pt kU 0] Tryz.func16 rfl (of_decide_eq_true (by kernel_rfl)) ?_
 refine ab <| bO [] .a qe (by kernel_rfl) ?_
 refine aa <| ab <| bO [5] (.n 2 (.b false) .z) (qs kU 0 <| qs kU 0 <| qB k 0 rfl 1 (pt cB 0) (by kernel_rfl) <| qe) (by kernel_rfl) ?_
 refine aa <| aQ ?_
 obtain rfl := Option.some.inj hm
 refine aR [.b false] qe (by kernel_rfl) ?_
 have k_ := ((((((k.pk .h).pk (.t .h)).pk (.t (.t (.t (.t .h))))).pk (.t (.t (.t (.t .h))))).pk (.t (.t (.t (.t .h))))).pk (.t (.t (.t (.t (.t (.t .h))))))).pk (.t (.t (.t (.t (.t (.t .h))))))
 exact ⟨bf, av.length, bg, bx, aB.length, bz, b6, aU.length, b7, k_.len 1 rfl, k_.len 3 rfl, k_.len 4 rfl, rfl, k_⟩
theorem Et {F O : Nat → Prop} {w : World} (x_ : Nat) (Dp : Nat) (LP : Fl x_ Dp) (k : Cx F O w w []) (r : Nat) (hm : tD x_ = some r) :
    Calls Tryz.prog 43 (ad [.v (.float .f64 Dp)]) w (fun e w' => ∃ fb, Fl r fb ∧ e = .returned (SV.val (.v (.float .f64 fb))) ∧ Cx F O w w' []) := by
 unfold tD at hm
 refine calls [.v (.float .f64 Dp)] Tryz.func43 rfl (of_decide_eq_true (by kernel_rfl)) ?_
 refine ab <| bO [] .a qe (by kernel_rfl) ?_
 refine aa <| ab <| an <| ba 1 [] (.n 3 (.v (.float .f64 Dp)) .z) qe (by kernel_rfl) ?_
 refine ag ?_
 obtain ⟨u, wT, hm⟩ := ob hm
 refine A_ Fh [] 4 (u := Dp) LP (fI wT) (by kernel_rfl) ?_
 refine ba 1 [] (.n 5 (.u64 ((UInt64.ofNat x_) &&& ~~~9223372036854775808)) .z) qe (by kernel_rfl) ?_
 refine ag <| Hk JN [] 6 ((UInt64.ofNat x_) &&& ~~~9223372036854775808) (by kernel_rfl) ?_
 refine ba 1 [] (.n 2 (.v (.float .f64 (((UInt64.ofNat x_) &&& ~~~9223372036854775808).toNat))) .z) qe (by kernel_rfl) ?_
 refine af <| aa <| aQ ?_
 obtain rfl := Option.some.inj hm
 refine aR [.v (.float .f64 (((UInt64.ofNat x_) &&& ~~~9223372036854775808).toNat))] qe (by kernel_rfl) ?_
 exact ⟨((UInt64.ofNat x_) &&& ~~~9223372036854775808).toNat, (Fl.u ((UInt64.ofNat x_) &&& ~~~9223372036854775808)), rfl, k⟩
theorem tM {F O : Nat → Prop} {w : World} (f : Nat) (tN : Nat) (z_ : Fl f tN) (k : Cx F O w w []) (r : Bool) (hm : mf f = some r) :
    Calls Tryz.prog 22 (ad [.v (.float .f64 tN), I 0]) w (fun e w' => e = .returned (SV.val (.b r)) ∧ Cx F O w w' []) := by
 unfold mf at hm
 refine calls [.v (.float .f64 tN), I 0] Tryz.func22 rfl (of_decide_eq_true (by kernel_rfl)) ?_
 refine ab <| bO [] .a qe (by kernel_rfl) ?_
 refine aa <| l4 (fun L wr => ∃ (f1 : Nat) (fb : Nat), oy f1 = some r ∧ L = [(0, .v (.float .f64 fb))] ∧ Fl f1 fb ∧ Cx F O w wr []) ?_ ?_
 ·
  refine ab <| bO [] (.n 6 (.b true) .a) qe (by kernel_rfl) ?_
  refine aa <| cm true (by kernel_rfl) (fun _ => ?_) (fun h => by cases h)
  refine an <| ba 1 [] (.n 7 (.v (.float .f64 tN)) (.s (.k .z))) qe (by kernel_rfl) ?_
  refine ag ?_
  obtain ⟨r_, cQ, hm⟩ := ob hm
  refine au [] 8 _ JF (by kernel_rfl) (Et (F := N0) (O := N0) _ _ z_ (Cx.refl _) _ cQ) ?_
  rintro e_ w_ ⟨Cu, AK, rfl, k_⟩
  have db := k.call k_
  refine ⟨.v (.float .f64 Cu), rfl, ?_⟩
  refine ba 1 [] (.n 0 (.v (.float .f64 Cu)) .z) qe (by kernel_rfl) ?_
  refine af ?_
  exact jS ⟨r_, Cu, hm, rfl, AK, db⟩ (by kernel_rfl)
 rintro L_ k4 ⟨f1, fb, hm, rfl, Ao, dE⟩
 simp only [oy] at hm
 refine ab <| an <| ba 1 [] (.n 13 (.v (.float .f64 fb)) .z) qe (by kernel_rfl) ?_
 refine ag <| jy [] 14 (u := fb) (v := 9218868437227405311) (by kernel_rfl) (.inr (.inr (.inr (.inr (.inl rfl))))) Ao (Fl.lit (c := 9218868437227405311) (by kernel_rfl)) ?_
 refine ba 1 [] (.n 4 (.b (dr .gtr f1 9218868437227405311)) .z) qe (by kernel_rfl) ?_
 refine af <| aa <| aQ ?_
 obtain rfl := Option.some.inj hm
 refine aR [.b (dr .gtr f1 9218868437227405311)] qe (by kernel_rfl) ?_
 exact ⟨rfl, dE⟩
theorem yz {F O : Nat → Prop} {w : World} (uU : List UInt8) (rK : List UInt8) (kM : List UInt8) (jL : Int) (gG : Int) (fi : List UInt8) (iw : List UInt8) (jM : Bool) (fW : UInt64) (lv : ae UInt64 8) (ec : UInt64) (ed : UInt64) (eL : List UInt8) (fX : Int) (yi : List UInt8) (uT : UInt64) (p_ : ae UInt8 64) (mX : Int) (jN : List UInt8) (iQ : List UInt8) (fK : List UInt8) (ee : Int) (dj : Int) (ef : Bool) (cL : UInt64) (eE : ae UInt64 8) (cb : UInt64) (cc : UInt64) (b_ : List UInt8) (cM : Int) (o4 : List UInt8) (gH : UInt64) (fY : ae UInt8 64) (fo : Int) (rq : Nat) (rh : Option Addr) (rk : Nat) (rl : Nat) (o9 : Option Addr) (o_ : Nat) (pc : Nat) (kn : Option Addr) (ko : Nat) (kp : Nat) (sY : Nat) (gJ : Option Addr) (ni : Nat) (gK : Nat) (ju : Option Addr) (pJ : Nat) (jv : Nat) (nG : Nat) (jb : Option Addr) (pd : Nat) (jc : Nat) (ve : Nat) (xL : Nat) (vf : Nat) (jw : Nat) (jF : Option Addr) (jG : Nat) (jH : Nat) (jd : Option Addr) (je : Nat) (jf : Nat) (gf : Option Addr) (gg : Nat) (gh : Nat) (iF : Nat) (gp : Nat) (eN : Option Addr) (kN : Nat) (eO : Nat) (ph : Nat) (pj : Nat) (pn : Nat) (JS : Ro F w rh (e8.all uU)) (zV : uU.length = rk) (H4 : rk ≤ rl) (H5 : Ro F w o9 (e8.all rK)) (yw : rK.length = o_) (F5 : o_ ≤ pc) (Cp : Ro F w kn (e8.all kM)) (sy : kM.length = ko) (AH : ko ≤ kp) (N3 : Ro F w (some ⟨ve, 0, none⟩) (e8.all yi)) (F9 : yi.length = xL) (Nd : xL ≤ vf) (AI : Ro F w jF (e8.all jN)) (rR : jN.length = jG) (zW : jG ≤ jH) (zX : Ro F w jd (e8.all iQ)) (qL : iQ.length = je) (yV : je ≤ jf) (wW : Ro F w gf (e8.all fK)) (nT : fK.length = gg) (vU : gg ≤ gh) (H8 : Ro F w (some ⟨ph, 0, none⟩) (e8.all o4)) (yW : o4.length = pj) (Gw : pj ≤ pn) (k : Cx F O w w [Bx 86 rq [I 1, I 64, .u32 4294967295, .u64 274877906944, .b false, sl rh rk rl, sl o9 o_ pc, sl kn ko kp, pt sY 0, sl (some ⟨ve, 0, none⟩) xL vf, .u64 uT, .ar e8 p_, I mX, .v (.func (.func 90) ⟨SV.ad [pt jw 0]⟩ ⟨SV.ad []⟩)], Bx 145 sY [I jL, I gG, sl gJ ni gK, sl ju pJ jv, .b jM, .u64 fW, .v (.iface 194 (SV.val (pt nG 0)))], Ow e8 gJ ni gK fi, Ow e8 ju pJ jv iw, Bx 200 nG [.ar cj lv, .u64 ec, .u64 ed, sl jb pd jc, I fX, .v (.func (.func 132) ⟨SV.ad []⟩ ⟨SV.ad []⟩), .v (.func (.func 133) ⟨SV.ad []⟩ ⟨SV.ad []⟩)], Ow e8 jb pd jc eL, Bx 86 jw [I 1, I 64, .u32 4294967295, .u64 274877906944, .b false, sl jF jG jH, sl jd je jf, sl gf gg gh, pt iF 0, sl (some ⟨ph, 0, none⟩) pj pn, .u64 gH, .ar e8 fY, I fo, .v (.func (.func 90) ⟨SV.ad [pt jw 0]⟩ ⟨SV.ad []⟩)], Bx 145 iF [I ee, I dj, sl gJ ni gK, sl ju pJ jv, .b ef, .u64 cL, .v (.iface 194 (SV.val (pt gp 0)))], Bx 200 gp [.ar cj eE, .u64 cb, .u64 cc, sl eN kN eO, I cM, .v (.func (.func 132) ⟨SV.ad []⟩ ⟨SV.ad []⟩), .v (.func (.func 133) ⟨SV.ad []⟩ ⟨SV.ad []⟩)], Ow e8 eN kN eO b_]) (r : (Int × Int × List UInt8 × List UInt8 × Bool × UInt64 × ae UInt64 8 × UInt64 × UInt64 × List UInt8 × Int × UInt64 × ae UInt8 64 × Int × ae UInt64 8 × UInt64 × UInt64 × List UInt8 × Int × Int × Int × Bool × UInt64 × UInt64 × ae UInt8 64 × Int)) (hm : pG uU rK kM jL gG fi iw jM fW lv ec ed eL fX yi uT p_ mX jN iQ fK ee dj ef cL eE cb cc b_ cM o4 gH fY fo = some r) :
    Calls Tryz.prog 68 (ad [pt rq 0]) w (fun e w' => ∃ A n c A1 n1 c1 A2 n2 c2 A3 n3 c3, r.2.2.1.length = n ∧ r.2.2.2.1.length = n1 ∧ r.2.2.2.2.2.2.2.2.2.1.length = n2 ∧ r.2.2.2.2.2.2.2.2.2.2.2.2.2.2.2.2.2.1.length = n3 ∧ e = .returned (SV.val (pt rq 0)) ∧ Cx F O w w' [Bx 86 rq [I 1, I 64, .u32 4294967295, .u64 274877906944, .b false, sl rh rk rl, sl o9 o_ pc, sl kn ko kp, pt sY 0, sl (some ⟨ve, 0, none⟩) xL vf, .u64 r.2.2.2.2.2.2.2.2.2.2.2.1, .ar e8 r.2.2.2.2.2.2.2.2.2.2.2.2.1, I r.2.2.2.2.2.2.2.2.2.2.2.2.2.1, .v (.func (.func 90) ⟨SV.ad [pt rq 0]⟩ ⟨SV.ad []⟩)], Bx 145 sY [I r.1, I r.2.1, sl A n c, sl A1 n1 c1, .b r.2.2.2.2.1, .u64 r.2.2.2.2.2.1, .v (.iface 194 (SV.val (pt nG 0)))], Ow e8 A n c r.2.2.1, Ow e8 A1 n1 c1 r.2.2.2.1, Bx 200 nG [.ar cj r.2.2.2.2.2.2.1, .u64 r.2.2.2.2.2.2.2.1, .u64 r.2.2.2.2.2.2.2.2.1, sl A2 n2 c2, I r.2.2.2.2.2.2.2.2.2.2.1, .v (.func (.func 132) ⟨SV.ad []⟩ ⟨SV.ad []⟩), .v (.func (.func 133) ⟨SV.ad []⟩ ⟨SV.ad []⟩)], Ow e8 A2 n2 c2 r.2.2.2.2.2.2.2.2.2.1, Bx 200 gp [.ar cj r.2.2.2.2.2.2.2.2.2.2.2.2.2.2.1, .u64 r.2.2.2.2.2.2.2.2.2.2.2.2.2.2.2.1, .u64 r.2.2.2.2.2.2.2.2.2.2.2.2.2.2.2.2.1, sl A3 n3 c3, I r.2.2.2.2.2.2.2.2.2.2.2.2.2.2.2.2.2.2.1, .v (.func (.func 132) ⟨SV.ad []⟩ ⟨SV.ad []⟩), .v (.func (.func 133) ⟨SV.ad []⟩ ⟨SV.ad []⟩)], Ow e8 A3 n3 c3 r.2.2.2.2.2.2.2.2.2.2.2.2.2.2.2.2.2.1, Bx 145 iF [I r.2.2.2.2.2.2.2.2.2.2.2.2.2.2.2.2.2.2.2.1, I r.2.2.2.2.2.2.2.2.2.2.2.2.2.2.2.2.2.2.2.2.1, sl A n c, sl A1 n1 c1, .b r.2.2.2.2.2.2.2.2.2.2.2.2.2.2.2.2.2.2.2.2.2.1, .u64 r.2.2.2.2.2.2.2.2.2.2.2.2.2.2.2.2.2.2.2.2.2.2.1, .v (.iface 194 (SV.val (pt gp 0)))], Bx 86 jw [I 1, I 64, .u32 4294967295, .u64 274877906944, .b false, sl jF jG jH, sl jd je jf, sl gf gg gh, pt iF 0, sl (some ⟨ph, 0, none⟩) pj pn, .u64 r.2.2.2.2.2.2.2.2.2.2.2.2.2.2.2.2.2.2.2.2.2.2.2.1, .ar e8 r.2.2.2.2.2.2.2.2.2.2.2.2.2.2.2.2.2.2.2.2.2.2.2.2.1, I r.2.2.2.2.2.2.2.2.2.2.2.2.2.2.2.2.2.2.2.2.2.2.2.2.2, .v (.func (.func 90) ⟨SV.ad [pt jw 0]⟩ ⟨SV.ad []⟩)]]) := by
 unfold pG at hm
 subst zV
 subst yw
 subst sy
 obtain rfl := k.len 2 rfl
 obtain rfl := k.len 3 rfl
 obtain rfl := k.len 5 rfl
 subst F9
 subst rR
 subst qL
 subst nT
 obtain rfl := k.len 9 rfl
 subst yW
 refine calls [pt rq 0] Tryz.func68 rfl (of_decide_eq_true (by kernel_rfl)) ?_
 refine ab <| bO [] .a qe (by kernel_rfl) ?_
 refine aa <| ab <| an <| ba 5 [] (.n 5 (.v (.func (.func 66) ⟨SV.ad [pt rq 0]⟩ ⟨SV.ad []⟩)) (.n 7 (pt rq 76) .a)) (qs rq 0 <| qs rq 0 <| qe) (by kernel_rfl) ?_
 refine ag <| en [] 0 (.v (.func (.func 66) ⟨SV.ad [pt rq 0]⟩ ⟨SV.ad []⟩)) [.v (.func (.func 66) ⟨SV.ad [pt rq 0]⟩ ⟨SV.ad []⟩)] (Pt.at rq 76) k rfl (.bX (.bX (.bX (.k .h)))) (by kernel_rfl) (by kernel_rfl) ?_
 intro w_ k_
 refine af <| aa <| l4 (fun L wr => nR jL gG fi iw jM fW lv ec ed eL fX uT p_ mX ee dj ef cL eE cb cc b_ cM gH fY fo  = some r ∧ L = [(0, pt rq 0)] ∧ Cx F O w wr [Bx 86 rq [I 1, I 64, .u32 4294967295, .u64 274877906944, .b false, sl rh uU.length rl, sl o9 rK.length pc, sl kn kM.length kp, pt sY 0, sl (some ⟨ve, 0, none⟩) yi.length vf, .u64 uT, .ar e8 p_, I mX, .v (.func (.func 90) ⟨SV.ad [pt rq 0]⟩ ⟨SV.ad []⟩)], Bx 145 sY [I jL, I gG, sl gJ fi.length gK, sl ju iw.length jv, .b jM, .u64 fW, .v (.iface 194 (SV.val (pt nG 0)))], Ow e8 gJ fi.length gK fi, Ow e8 ju iw.length jv iw, Bx 200 nG [.ar cj lv, .u64 ec, .u64 ed, sl jb eL.length jc, I fX, .v (.func (.func 132) ⟨SV.ad []⟩ ⟨SV.ad []⟩), .v (.func (.func 133) ⟨SV.ad []⟩ ⟨SV.ad []⟩)], Ow e8 jb eL.length jc eL, Bx 200 gp [.ar cj eE, .u64 cb, .u64 cc, sl eN b_.length eO, I cM, .v (.func (.func 132) ⟨SV.ad []⟩ ⟨SV.ad []⟩), .v (.func (.func 133) ⟨SV.ad []⟩ ⟨SV.ad []⟩)], Ow e8 eN b_.length eO b_, Bx 145 iF [I ee, I dj, sl gJ fi.length gK, sl ju iw.length jv, .b ef, .u64 cL, .v (.iface 194 (SV.val (pt gp 0)))], Bx 86 jw [I 1, I 64, .u32 4294967295, .u64 274877906944, .b false, sl jF jN.length jH, sl jd iQ.length jf, sl gf fK.length gh, pt iF 0, sl (some ⟨ph, 0, none⟩) o4.length pn, .u64 gH, .ar e8 fY, I fo, .v (.func (.func 90) ⟨SV.ad [pt jw 0]⟩ ⟨SV.ad []⟩)]]) ?_ ?_
 ·
  refine ab <| bO [] (.n 12 (.b true) (.ss .a)) (qs rq 0 <| qs rq 0 <| qB k_ 0 rfl 9 (sl (some ⟨ve, 0, none⟩) yi.length vf) (by kernel_rfl) <| qe) (by kernel_rfl) ?_
  refine aa <| cm true (by kernel_rfl) (fun _ => ?_) (fun h => by cases h)
  refine an <| ba 5 [] (.n 15 (.v (.func (.func 90) ⟨SV.ad [pt rq 0]⟩ ⟨SV.ad []⟩)) (.n 17 (pt rq 76) (.s .a))) (qs rq 0 <| qs rq 0 <| qe) (by kernel_rfl) ?_
  refine ag <| en [] 0 (.v (.func (.func 90) ⟨SV.ad [pt rq 0]⟩ ⟨SV.ad []⟩)) [.v (.func (.func 90) ⟨SV.ad [pt rq 0]⟩ ⟨SV.ad []⟩)] (Pt.at rq 76) k_ rfl (.bX (.bX (.bX (.k .h)))) (by kernel_rfl) (by kernel_rfl) ?_
  intro k4 db
  refine af ?_
  have dE := (((((((((db.pk (.t (.t (.t (.t (.t (.t .h))))))).pk (.t (.t (.t (.t (.t (.t (.t .h)))))))).pk (.t (.t (.t (.t (.t (.t (.t (.t (.t .h)))))))))).pk (.t (.t (.t (.t (.t (.t (.t (.t (.t .h)))))))))).pk (.t (.t (.t (.t (.t (.t (.t (.t (.t .h)))))))))).pk (.t (.t (.t (.t (.t (.t (.t (.t (.t .h)))))))))).pk (.t (.t (.t (.t (.t (.t (.t (.t (.t .h)))))))))).pk (.t (.t (.t (.t (.t (.t (.t (.t (.t .h)))))))))).pk (.t (.t (.t (.t (.t (.t (.t (.t (.t .h)))))))))).pk (.t (.t (.t (.t (.t (.t (.t (.t (.t .h)))))))))
  exact jS ⟨hm, rfl, dE⟩ (by kernel_rfl)
 rintro L_ l6 ⟨hm, rfl, dU⟩
 simp only [nR] at hm
 refine ab <| bO [] (.n 2 (pt rq 0) .z) qe (by kernel_rfl) ?_
 refine aa <| aQ ?_
 obtain rfl := Option.some.inj hm
 refine aR [pt rq 0] qe (by kernel_rfl) ?_
 exact ⟨gJ, fi.length, gK, ju, iw.length, jv, jb, eL.length, jc, eN, b_.length, eO, dU.len 2 rfl, dU.len 3 rfl, dU.len 5 rfl, dU.len 7 rfl, rfl, dU⟩
theorem tO {F O : Nat → Prop} {w : World} (cI : List UInt8) (bk : List UInt8) (al : List UInt8) (cq : Int) (bA : Int) (bN : List UInt8) (cR : List UInt8) (cr : Bool) (bh : UInt64) (dq : ae UInt64 8) (aG : UInt64) (aH : UInt64) (bw : List UInt8) (bj : Int) (dN : List UInt8) (jB : UInt64) (fy : ae UInt8 64) (dP : Int) (aY : Nat) (cy : Option Addr) (dF : Nat) (cz : Nat) (bQ : Option Addr) (cF : Nat) (bR : Nat) (aE : Option Addr) (a8 : Nat) (aF : Nat) (eo : Nat) (du : Option Addr) (ei : Nat) (dv : Nat) (eW : Option Addr) (fM : Nat) (eX : Nat) (da : Nat) (cO : Option Addr) (dD : Nat) (cP : Nat) (fN : Nat) (iG : Nat) (fO : Nat) (j0 : Ro F w cy (e8.all cI)) (jP : cI.length = dF) (iD : dF ≤ cz) (hN : Ro F w bQ (e8.all bk)) (iE : bk.length = cF) (gb : cF ≤ bR) (dL : Ro F w aE (e8.all al)) (eG : al.length = a8) (di : a8 ≤ aF) (pg : Ro F w (some ⟨fN, 0, none⟩) (e8.all dN)) (pM : dN.length = iG) (nJ : iG ≤ fO) (k : Cx F O w w [Bx 86 aY [I 1, I 64, .u32 4294967295, .u64 274877906944, .b false, sl cy dF cz, sl bQ cF bR, sl aE a8 aF, pt eo 0, sl (some ⟨fN, 0, none⟩) iG fO, .u64 jB, .ar e8 fy, I dP, .v (.func (.func 90) ⟨SV.ad [pt aY 0]⟩ ⟨SV.ad []⟩)], Bx 145 eo [I cq, I bA, sl du ei dv, sl eW fM eX, .b cr, .u64 bh, .v (.iface 194 (SV.val (pt da 0)))], Ow e8 du ei dv bN, Ow e8 eW fM eX cR, Bx 200 da [.ar cj dq, .u64 aG, .u64 aH, sl cO dD cP, I bj, .v (.func (.func 132) ⟨SV.ad []⟩ ⟨SV.ad []⟩), .v (.func (.func 133) ⟨SV.ad []⟩ ⟨SV.ad []⟩)], Ow e8 cO dD cP bw]) (r : (Int × Int × List UInt8 × List UInt8 × Bool × UInt64 × ae UInt64 8 × UInt64 × UInt64 × List UInt8 × Int × UInt64 × ae UInt8 64 × Int × ae UInt64 8 × UInt64 × UInt64 × List UInt8 × Int × Int × Int × Bool × UInt64 × UInt64 × ae UInt8 64 × Int)) (hm : iU cI bk al cq bA bN cR cr bh dq aG aH bw bj dN jB fy dP = some r) :
    Calls Tryz.prog 37 (ad [pt aY 0]) w (fun e w' => ∃ g g1 A n c A1 n1 c1 g2 A2 n2 c2 A3 n3 c3, r.2.2.1.length = n ∧ r.2.2.2.1.length = n1 ∧ r.2.2.2.2.2.2.2.2.2.1.length = n2 ∧ r.2.2.2.2.2.2.2.2.2.2.2.2.2.2.2.2.2.1.length = n3 ∧ e = .returned (SV.val (pt g 0)) ∧ Cx F O w w' [Bx 86 g [I 1, I 64, .u32 4294967295, .u64 274877906944, .b false, sl cy dF cz, sl bQ cF bR, sl aE a8 aF, pt g1 0, sl (some ⟨fN, 0, none⟩) iG fO, .u64 r.2.2.2.2.2.2.2.2.2.2.2.1, .ar e8 r.2.2.2.2.2.2.2.2.2.2.2.2.1, I r.2.2.2.2.2.2.2.2.2.2.2.2.2.1, .v (.func (.func 90) ⟨SV.ad [pt g 0]⟩ ⟨SV.ad []⟩)], Bx 145 g1 [I r.1, I r.2.1, sl A n c, sl A1 n1 c1, .b r.2.2.2.2.1, .u64 r.2.2.2.2.2.1, .v (.iface 194 (SV.val (pt g2 0)))], Ow e8 A n c r.2.2.1, Ow e8 A1 n1 c1 r.2.2.2.1, Bx 200 g2 [.ar cj r.2.2.2.2.2.2.1, .u64 r.2.2.2.2.2.2.2.1, .u64 r.2.2.2.2.2.2.2.2.1, sl A2 n2 c2, I r.2.2.2.2.2.2.2.2.2.2.1, .v (.func (.func 132) ⟨SV.ad []⟩ ⟨SV.ad []⟩), .v (.func (.func 133) ⟨SV.ad []⟩ ⟨SV.ad []⟩)], Ow e8 A2 n2 c2 r.2.2.2.2.2.2.2.2.2.1, Bx 200 da [.ar cj r.2.2.2.2.2.2.2.2.2.2.2.2.2.2.1, .u64 r.2.2.2.2.2.2.2.2.2.2.2.2.2.2.2.1, .u64 r.2.2.2.2.2.2.2.2.2.2.2.2.2.2.2.2.1, sl A3 n3 c3, I r.2.2.2.2.2.2.2.2.2.2.2.2.2.2.2.2.2.2.1, .v (.func (.func 132) ⟨SV.ad []⟩ ⟨SV.ad []⟩), .v (.func (.func 133) ⟨SV.ad []⟩ ⟨SV.ad []⟩)], Ow e8 A3 n3 c3 r.2.2.2.2.2.2.2.2.2.2.2.2.2.2.2.2.2.1, Bx 145 eo [I r.2.2.2.2.2.2.2.2.2.2.2.2.2.2.2.2.2.2.2.1, I r.2.2.2.2.2.2.2.2.2.2.2.2.2.2.2.2.2.2.2.2.1, sl A n c, sl A1 n1 c1, .b r.2.2.2.2.2.2.2.2.2.2.2.2.2.2.2.2.2.2.2.2.2.1, .u64 r.2.2.2.2.2.2.2.2.2.2.2.2.2.2.2.2.2.2.2.2.2.2.1, .v (.iface 194 (SV.val (pt da 0)))], Bx 86 aY [I 1, I 64, .u32 4294967295, .u64 274877906944, .b false, sl cy dF cz, sl bQ cF bR, sl aE a8 aF, pt eo 0, sl (some ⟨fN, 0, none⟩) iG fO, .u64 r.2.2.2.2.2.2.2.2.2.2.2.2.2.2.2.2.2.2.2.2.2.2.2.1, .ar e8 r.2.2.2.2.2.2.2.2.2.2.2.2.2.2.2.2.2.2.2.2.2.2.2.2.1, I r.2.2.2.2.2.2.2.2.2.2.2.2.2.2.2.2.2.2.2.2.2.2.2.2.2, .v (.func (.func 90) ⟨SV.ad [pt aY 0]⟩ ⟨SV.ad []⟩)]]) := by
 unfold iU at hm
 subst jP
 subst iE
 subst eG
 obtain rfl := k.len 2 rfl
 obtain rfl := k.len 3 rfl
 obtain rfl := k.len 5 rfl
 subst pM
 refine calls [pt aY 0] Tryz.func37 rfl (of_decide_eq_true (by kernel_rfl)) ?_
 refine ab <| bO [] .a qe (by kernel_rfl) ?_
 refine aa <| ab <| ab <| an <| ba 1 [] (.n 4 (pt aY 0) .a) qe (by kernel_rfl) ?_
 refine ag ?_
 obtain ⟨r_, cQ, hm⟩ := ob hm
 obtain ⟨F1, O1, lQ, hO, rp, hF, hb⟩ := k.go (.i (.i (.i (.i (.i (.i .e))))))
 refine au [] 5 _ y6 (by kernel_rfl) (pf (F := F1) (O := O1) _ _ _ _ _ _ _ _ _ _ _ _ _ _ _ _ _ _ _ _ _ _ _ _ _ _ _ _ _ _ _ _ _ _ _ _ _ _ _ _ _ _ (Ro.aM j0 k hF) rfl iD (Ro.aM hN k hF) rfl gb (Ro.aM dL k hF) rfl di (Ro.aM pg k hF) rfl nJ lQ _ cQ) ?_
 rintro e_ w_ ⟨A0, _, c0, A4, _, c4, A5, _, c5, rfl, rfl, rfl, rfl, k_⟩
 have db := hb w_ _ _ k_ (.c (.c (.c (.c (.c (.c .n))))))
 refine ⟨.b false, rfl, ?_⟩
 refine af <| aa <| cm false (by kernel_rfl) (fun h => by cases h) (fun _ => ?_)
 refine bc <| aa <| ab <| an <| ba 3 [] (.n 8 (.agg [I 1, I 64, .u32 4294967295, .u64 274877906944, .b false, sl cy cI.length cz, sl bQ bk.length bR, sl aE al.length aF, pt eo 0, sl (some ⟨fN, 0, none⟩) dN.length fO, .u64 r_.2.2.2.2.2.2.2.2.2.2.2.1, .ar e8 r_.2.2.2.2.2.2.2.2.2.2.2.2.1, I r_.2.2.2.2.2.2.2.2.2.2.2.2.2, .v (.func (.func 90) ⟨SV.ad [pt aY 0]⟩ ⟨SV.ad []⟩)]) (.ss .a)) (qs aY 0 <| qT db 5 rfl 0 77 [I 1, I 64, .u32 4294967295, .u64 274877906944, .b false, sl cy cI.length cz, sl bQ bk.length bR, sl aE al.length aF, pt eo 0, sl (some ⟨fN, 0, none⟩) dN.length fO, .u64 r_.2.2.2.2.2.2.2.2.2.2.2.1, .ar e8 r_.2.2.2.2.2.2.2.2.2.2.2.2.1, I r_.2.2.2.2.2.2.2.2.2.2.2.2.2, .v (.func (.func 90) ⟨SV.ad [pt aY 0]⟩ ⟨SV.ad []⟩)] (by kernel_rfl) (by decide) <| qe) (by kernel_rfl) ?_
 refine ag <| bT [] 3 [I 0, I 0, .u32 0, .u64 0, .b false, sl none 0 0, sl none 0 0, sl none 0 0, .v (.pointer none), sl none 0 0, .u64 0, .ar e8 (ae.rep 64 (0 : UInt8)), I 0, .v .nilFunc] (by kernel_rfl) db ?_
 intro g0 k4 dE
 refine ag <| en [] 6 (.agg [I 1, I 64, .u32 4294967295, .u64 274877906944, .b false, sl cy cI.length cz, sl bQ bk.length bR, sl aE al.length aF, pt eo 0, sl (some ⟨fN, 0, none⟩) dN.length fO, .u64 r_.2.2.2.2.2.2.2.2.2.2.2.1, .ar e8 r_.2.2.2.2.2.2.2.2.2.2.2.2.1, I r_.2.2.2.2.2.2.2.2.2.2.2.2.2, .v (.func (.func 90) ⟨SV.ad [pt aY 0]⟩ ⟨SV.ad []⟩)]) [I 1, I 64, .u32 4294967295, .u64 274877906944, .b false, sl cy cI.length cz, sl bQ bk.length bR, sl aE al.length aF, pt eo 0, sl (some ⟨fN, 0, none⟩) dN.length fO, .u64 r_.2.2.2.2.2.2.2.2.2.2.2.1, .ar e8 r_.2.2.2.2.2.2.2.2.2.2.2.2.1, I r_.2.2.2.2.2.2.2.2.2.2.2.2.2, .v (.func (.func 90) ⟨SV.ad [pt aY 0]⟩ ⟨SV.ad []⟩)] (Pt.at g0 0) dE rfl .all (by kernel_rfl) (by kernel_rfl) ?_
 intro l6 dU
 refine af <| aa <| ab <| an <| ba 4 [] (.n 12 (pt eo 0) (.k .z)) (qs aY 0 <| qs aY 0 <| qB dU 5 rfl 8 (pt eo 0) (by kernel_rfl) <| qe) (by kernel_rfl) ?_
 refine ag ?_
 obtain ⟨ah, dd, hm⟩ := ob hm
 have eY := ((((((dU.pk (.t (.t (.t (.t (.t (.t .h))))))).pk (.t (.t (.t (.t (.t (.t .h))))))).pk (.t (.t (.t .h)))).pk (.t (.t (.t .h)))).pk (.t (.t (.t (.t (.t (.t .h))))))).pk (.t (.t (.t (.t (.t (.t .h))))))).pk (.t (.t (.t (.t (.t (.t .h))))))
 obtain ⟨xI, xJ, nF, Fi, tF, si, xK⟩ := eY.go (.i (.i (.i (.i (.i (.r (.r .e)))))))
 refine au [] 13 _ E_ (by kernel_rfl) (sX (F := xI) (O := xJ) _ _ _ _ _ _ _ _ _ _ _ _ _ _ _ _ _ _ _ _ _ _ nF _ dd) ?_
 rintro e_ qj ⟨g3, A6, _, c6, A7, _, c7, g4, A8, _, c8, A9, _, c9, rfl, rfl, rfl, rfl, rfl, fU⟩
 have g_ := xK qj _ _ fU (.c (.c (.c (.c (.c (.c (.c (.c .n))))))))
 refine ⟨pt g3 0, rfl, ?_⟩
 refine ba 1 [] (.n 14 (pt g0 8) (.k (.s .a))) (qs g0 0 <| qe) (by kernel_rfl) ?_
 refine ag ?_
 have gC := g_.de (.bX (.bX (.kk .e)))
 refine en [] 9 (pt g3 0) [pt g3 0] (Pt.at g0 8) gC rfl (.bX (.bX .h)) (by kernel_rfl) (by kernel_rfl) ?_
 intro qk gP
 refine af <| aa <| ab <| an <| ag ?_
 obtain ⟨aX, hK, hm⟩ := ob hm
 have gB := (((((((((gP.pk (.t (.t (.t (.t (.t (.t .h))))))).pk (.t (.t (.t (.t (.t (.t .h))))))).pk (.t (.t (.t (.t (.t (.t (.t .h)))))))).pk (.t (.t (.t (.t (.t (.t (.t (.t .h))))))))).pk (.t (.t (.t (.t (.t (.t (.t (.t .h))))))))).pk (.t (.t (.t (.t (.t (.t (.t (.t .h))))))))).pk (.t (.t (.t (.t (.t (.t (.t (.t .h))))))))).pk (.t (.t (.t (.t (.t (.t (.t (.t .h))))))))).pk (.t (.t (.t (.t (.t (.t (.t (.t .h))))))))).pk (.t (.t (.t (.t (.t (.t (.t (.t (.t .h)))))))))
 obtain ⟨F6, F7, ug, Nc, zY, vV, CP⟩ := gB.go (.i (.i (.i (.i (.i (.i (.i (.i (.i (.i .e))))))))))
 refine au [] 15 _ Fa (by kernel_rfl) (yz (F := F6) (O := F7) _ _ _ _ _ _ _ _ _ _ _ _ _ _ _ _ _ _ _ _ _ _ _ _ _ _ _ _ _ _ _ _ _ _ _ _ _ _ _ _ _ _ _ _ _ _ _ _ _ _ _ _ _ _ _ _ _ _ _ _ _ _ _ _ _ _ _ _ _ _ _ _ _ _ _ _ (Ro.aM j0 gB vV) rfl iD (Ro.aM hN gB vV) rfl gb (Ro.aM dL gB vV) rfl di (Ro.aM pg gB vV) rfl nJ (Ro.aM j0 gB vV) rfl iD (Ro.aM hN gB vV) rfl gb (Ro.aM dL gB vV) rfl di (Ro.aM pg gB vV) rfl nJ ug _ hK) ?_
 rintro e_ rX ⟨wq, _, sV, yr, _, uf, Cn, _, xS, IV, _, Co, rfl, rfl, rfl, rfl, rfl, dO⟩
 have cV := CP rX _ _ dO (.c (.c (.c (.c (.c (.c (.c (.c (.c (.c .n))))))))))
 refine ⟨pt g0 0, rfl, ?_⟩
 refine ba 1 [] (.n 2 (pt g0 0) .z) qe (by kernel_rfl) ?_
 refine af <| aa <| aQ ?_
 obtain rfl := Option.some.inj hm
 refine aR [pt g0 0] qe (by kernel_rfl) ?_
 exact ⟨g0, g3, wq, aX.2.2.1.length, sV, yr, aX.2.2.2.1.length, uf, g4, Cn, aX.2.2.2.2.2.2.2.2.2.1.length, xS, IV, aX.2.2.2.2.2.2.2.2.2.2.2.2.2.2.2.2.2.1.length, Co, cV.len 2 rfl, cV.len 3 rfl, cV.len 5 rfl, cV.len 7 rfl, rfl, cV⟩
theorem sZ {F O : Nat → Prop} {w : World} (er : List UInt8) (dJ : List UInt8) (cW : List UInt8) (bL : List UInt8) (dQ : Int) (cZ : Int) (dz : List UInt8) (et : List UInt8) (dT : Bool) (cG : UInt64) (eu : ae UInt64 8) (b8 : UInt64) (b9 : UInt64) (c_ : List UInt8) (cH : Int) (qa : List UInt8) (gX : UInt64) (gd : ae UInt8 64) (fp : Int) (draw : Int) (p : UInt64) (iK : Nat) (jI : Nat) (gu : Option Addr) (fq : Nat) (gv : Nat) (fh : Nat) (fG : Option Addr) (eA : Nat) (fH : Nat) (fc : Option Addr) (dV : Nat) (fe : Nat) (df : Option Addr) (ct : Nat) (dh : Nat) (fD : Nat) (fP : Option Addr) (fQ : Nat) (fR : Nat) (gL : Option Addr) (gM : Nat) (gN : Nat) (dW : Nat) (ft : Option Addr) (fu : Nat) (fw : Nat) (sB : Nat) (pS : Nat) (sC : Nat) (gm : Nat) (yO : Nat) (l8 : Ro F w gu (e8.all er)) (mj : er.length = fq) (lD : fq ≤ gv) (lE : Ro F w fG (e8.all dJ)) (lK : dJ.length = eA) (kz : eA ≤ fH) (kA : Ro F w fc (e8.all cW)) (kQ : cW.length = dV) (jQ : dV ≤ fe) (ie : Ro F w df (e8.all bL)) (iA : bL.length = ct) (gO : ct ≤ dh) (AL : Ro F w (some ⟨sB, 0, none⟩) (e8.all qa)) (Aa : qa.length = pS) (Ab : pS ≤ sC) (k : Cx F O w w [Bx 26 iK [pt jI 0], Bx 58 jI [sl gu fq gv, pt fh 0], Bx 86 fh [I 1, I 64, .u32 4294967295, .u64 274877906944, .b false, sl fG eA fH, sl fc dV fe, sl df ct dh, pt fD 0, sl (some ⟨sB, 0, none⟩) pS sC, .u64 gX, .ar e8 gd, I fp, .v (.func (.func 90) ⟨SV.ad [pt fh 0]⟩ ⟨SV.ad []⟩)], Bx 145 fD [I dQ, I cZ, sl fP fQ fR, sl gL gM gN, .b dT, .u64 cG, .v (.iface 194 (SV.val (pt dW 0)))], Ow e8 fP fQ fR dz, Ow e8 gL gM gN et, Bx 200 dW [.ar cj eu, .u64 b8, .u64 b9, sl ft fu fw, I cH, .v (.func (.func 132) ⟨SV.ad []⟩ ⟨SV.ad []⟩), .v (.func (.func 133) ⟨SV.ad []⟩ ⟨SV.ad []⟩)], Ow e8 ft fu fw c_, Bx 27 gm [I draw], Bx 23 yO [.u64 p]]) (r : (ae UInt64 8 × UInt64 × UInt64 × List UInt8 × Int × Int × Int × List UInt8 × List UInt8 × Bool × UInt64 × UInt64 × ae UInt8 64 × Int × Int × UInt64)) (hm : jX er dJ cW bL dQ cZ dz et dT cG eu b8 b9 c_ cH qa gX gd fp draw p = some r) :
    Calls Tryz.prog 42 (ad [.v (.func (.func 38) ⟨SV.ad []⟩ ⟨SV.ad [pt iK 0, pt gm 0]⟩), pt yO 0]) w (fun e w' => ∃ A n c A1 n1 c1 A2 n2 c2, r.2.2.2.1.length = n ∧ r.2.2.2.2.2.2.2.1.length = n1 ∧ r.2.2.2.2.2.2.2.2.1.length = n2 ∧ e = .returned (SV.val (.gD [])) ∧ Cx F O w w' [Bx 200 dW [.ar cj r.1, .u64 r.2.1, .u64 r.2.2.1, sl A n c, I r.2.2.2.2.1, .v (.func (.func 132) ⟨SV.ad []⟩ ⟨SV.ad []⟩), .v (.func (.func 133) ⟨SV.ad []⟩ ⟨SV.ad []⟩)], Ow e8 A n c r.2.2.2.1, Bx 145 fD [I r.2.2.2.2.2.1, I r.2.2.2.2.2.2.1, sl A1 n1 c1, sl A2 n2 c2, .b r.2.2.2.2.2.2.2.2.2.1, .u64 r.2.2.2.2.2.2.2.2.2.2.1, .v (.iface 194 (SV.val (pt dW 0)))], Ow e8 A1 n1 c1 r.2.2.2.2.2.2.2.1, Ow e8 A2 n2 c2 r.2.2.2.2.2.2.2.2.1, Bx 86 fh [I 1, I 64, .u32 4294967295, .u64 274877906944, .b false, sl fG eA fH, sl fc dV fe, sl df ct dh, pt fD 0, sl (some ⟨sB, 0, none⟩) pS sC, .u64 r.2.2.2.2.2.2.2.2.2.2.2.1, .ar e8 r.2.2.2.2.2.2.2.2.2.2.2.2.1, I r.2.2.2.2.2.2.2.2.2.2.2.2.2.1, .v (.func (.func 90) ⟨SV.ad [pt fh 0]⟩ ⟨SV.ad []⟩)], Bx 58 jI [sl gu fq gv, pt fh 0], Bx 26 iK [pt jI 0], Bx 27 gm [I r.2.2.2.2.2.2.2.2.2.2.2.2.2.2.1], Bx 23 yO [.u64 r.2.2.2.2.2.2.2.2.2.2.2.2.2.2.2]]) := by
 unfold jX at hm
 subst mj
 subst lK
 subst kQ
 subst iA
 obtain rfl := k.len 4 rfl
 obtain rfl := k.len 5 rfl
 obtain rfl := k.len 7 rfl
 subst Aa
 refine calls [.v (.func (.func 38) ⟨SV.ad []⟩ ⟨SV.ad [pt iK 0, pt gm 0]⟩), pt yO 0] Tryz.func42 rfl (of_decide_eq_true (by kernel_rfl)) ?_
 refine an <| ba 1 [] (.n 3 (.v (.func (.func 38) ⟨SV.ad []⟩ ⟨SV.ad [pt iK 0, pt gm 0]⟩)) (.s .a)) qe (by kernel_rfl) ?_
 refine ag ?_
 obtain ⟨r_, cQ, hm⟩ := ob hm
 obtain ⟨F1, O1, lQ, hO, rp, hF, hb⟩ := k.go (.i (.i (.i (.i (.i (.i (.i (.i (.i (.r .e))))))))))
 refine lU [] 4 [] [] [pt iK 0, pt gm 0] y4 (by kernel_rfl) (oc (F := F1) (O := O1) _ _ _ _ _ _ _ _ _ _ _ _ _ _ _ _ _ _ _ _ _ _ _ _ _ _ _ _ _ _ _ _ _ _ _ _ _ _ _ _ _ _ _ _ _ _ _ _ _ _ (Ro.aM l8 k hF) rfl lD (Ro.aM lE k hF) rfl kz (Ro.aM kA k hF) rfl jQ (Ro.aM ie k hF) rfl gO (Ro.aM AL k hF) rfl Ab lQ _ cQ) ?_
 rintro e_ w_ ⟨A0, _, c0, A3, _, c3, A4, _, c4, rfl, rfl, rfl, rfl, k_⟩
 have db := hb w_ _ _ k_ (.c (.c (.c (.c (.c (.c (.c (.c (.c .n)))))))))
 refine ⟨.u64 r_.1, rfl, ?_⟩
 refine ag <| en [] 9 (.u64 r_.1) [.u64 r_.1] (Pt.at yO 0) db rfl .all (by kernel_rfl) (by kernel_rfl) ?_
 intro k4 dE
 refine af ?_
 obtain rfl := Option.some.inj hm
 refine px [] qe (by kernel_rfl) ?_
 exact ⟨A0, r_.2.2.2.2.1.length, c0, A3, r_.2.2.2.2.2.2.2.2.1.length, c3, A4, r_.2.2.2.2.2.2.2.2.2.1.length, c4, dE.len 1 rfl, dE.len 3 rfl, dE.len 4 rfl, rfl, dE⟩
theorem tP {F O : Nat → Prop} {w : World} (bI : List UInt8) (a1 : List UInt8) (aN : List UInt8) (ak : List UInt8) (aO : Int) (ax : Int) (aB : List UInt8) (aU : List UInt8) (aP : Bool) (ao : UInt64) (aW : ae UInt64 8) (ai : UInt64) (aj : UInt64) (av : List UInt8) (aq : Int) (cS : List UInt8) (cp : UInt64) (bJ : ae UInt8 64) (bd : Int) (work : UInt64) (kU : Nat) (cu : Option Addr) (bS : Nat) (cv : Nat) (cB : Nat) (bY : Option Addr) (bq : Nat) (bZ : Nat) (bC : Option Addr) (aZ : Nat) (bD : Nat) (aI : Option Addr) (aw : Nat) (aJ : Nat) (ck : Nat) (bx : Option Addr) (bB : Nat) (bz : Nat) (b6 : Option Addr) (cd : Nat) (b7 : Nat) (bn : Nat) (bf : Option Addr) (bo : Nat) (bg : Nat) (gi : Nat) (eC : Nat) (gj : Nat) (lZ : Nat) (fZ : Ro F w cu (e8.all bI)) (fL : bI.length = bS) (eU : bS ≤ cv) (ej : Ro F w bY (e8.all a1)) (eM : a1.length = bq) (dA : bq ≤ bZ) (dB : Ro F w bC (e8.all aN)) (eg : aN.length = aZ) (cN : aZ ≤ bD) (bU : Ro F w aI (e8.all ak)) (cg : ak.length = aw) (bF : aw ≤ aJ) (kR : Ro F w (some ⟨gi, 0, none⟩) (e8.all cS)) (lF : cS.length = eC) (jR : eC ≤ gj) (k : Cx F O w w [Bx 58 kU [sl cu bS cv, pt cB 0], Bx 86 cB [I 1, I 64, .u32 4294967295, .u64 274877906944, .b false, sl bY bq bZ, sl bC aZ bD, sl aI aw aJ, pt ck 0, sl (some ⟨gi, 0, none⟩) eC gj, .u64 cp, .ar e8 bJ, I bd, .v (.func (.func 90) ⟨SV.ad [pt cB 0]⟩ ⟨SV.ad []⟩)], Bx 145 ck [I aO, I ax, sl bx bB bz, sl b6 cd b7, .b aP, .u64 ao, .v (.iface 194 (SV.val (pt bn 0)))], Ow e8 bx bB bz aB, Ow e8 b6 cd b7 aU, Bx 200 bn [.ar cj aW, .u64 ai, .u64 aj, sl bf bo bg, I aq, .v (.func (.func 132) ⟨SV.ad []⟩ ⟨SV.ad []⟩), .v (.func (.func 133) ⟨SV.ad []⟩ ⟨SV.ad []⟩)], Ow e8 bf bo bg av, Bx 23 lZ [.u64 work]]) (r : (Int × ae UInt64 8 × UInt64 × UInt64 × List UInt8 × Int × Int × Int × List UInt8 × List UInt8 × Bool × UInt64 × UInt64 × ae UInt8 64 × Int × UInt64)) (hm : kg bI a1 aN ak aO ax aB aU aP ao aW ai aj av aq cS cp bJ bd work = some r) :
    Calls Tryz.prog 17 (ad [pt kU 0, .v (.func (.func 42) ⟨SV.ad []⟩ ⟨SV.ad [pt lZ 0]⟩)]) w (fun e w' => ∃ A n c A1 n1 c1 A2 n2 c2, r.2.2.2.2.1.length = n ∧ r.2.2.2.2.2.2.2.2.1.length = n1 ∧ r.2.2.2.2.2.2.2.2.2.1.length = n2 ∧ e = .returned (SV.val (I r.1)) ∧ Cx F O w w' [Bx 200 bn [.ar cj r.2.1, .u64 r.2.2.1, .u64 r.2.2.2.1, sl A n c, I r.2.2.2.2.2.1, .v (.func (.func 132) ⟨SV.ad []⟩ ⟨SV.ad []⟩), .v (.func (.func 133) ⟨SV.ad []⟩ ⟨SV.ad []⟩)], Ow e8 A n c r.2.2.2.2.1, Bx 145 ck [I r.2.2.2.2.2.2.1, I r.2.2.2.2.2.2.2.1, sl A1 n1 c1, sl A2 n2 c2, .b r.2.2.2.2.2.2.2.2.2.2.1, .u64 r.2.2.2.2.2.2.2.2.2.2.2.1, .v (.iface 194 (SV.val (pt bn 0)))], Ow e8 A1 n1 c1 r.2.2.2.2.2.2.2.2.1, Ow e8 A2 n2 c2 r.2.2.2.2.2.2.2.2.2.1, Bx 86 cB [I 1, I 64, .u32 4294967295, .u64 274877906944, .b false, sl bY bq bZ, sl bC aZ bD, sl aI aw aJ, pt ck 0, sl (some ⟨gi, 0, none⟩) eC gj, .u64 r.2.2.2.2.2.2.2.2.2.2.2.2.1, .ar e8 r.2.2.2.2.2.2.2.2.2.2.2.2.2.1, I r.2.2.2.2.2.2.2.2.2.2.2.2.2.2.1, .v (.func (.func 90) ⟨SV.ad [pt cB 0]⟩ ⟨SV.ad []⟩)], Bx 58 kU [sl cu bS cv, pt cB 0], Bx 23 lZ [.u64 r.2.2.2.2.2.2.2.2.2.2.2.2.2.2.2]]) := by
 unfold kg at hm
 subst fL
 subst eM
 subst eg
 subst cg
 obtain rfl := k.len 3 rfl
 obtain rfl := k.len 4 rfl
 obtain rfl := k.len 6 rfl
 subst lF
 refine calls [pt kU 0, .v (.func (.func 42) ⟨SV.ad []⟩ ⟨SV.ad [pt lZ 0]⟩)] Tryz.func17 rfl (of_decide_eq_true (by kernel_rfl)) ?_
 refine ab <| an <| ag <| gF [] 2 (pt kU 0) [pt kU 0] (by kernel_rfl) k ?_
 intro g w_ k_
 refine ba 1 [] (.k (.s .a)) qe (by kernel_rfl) ?_
 refine af <| aa <| ab <| ab <| an <| ba 1 [] (.n 7 (pt kU 0) .a) (qB k_ 8 rfl 0 (pt kU 0) (by kernel_rfl) <| qe) (by kernel_rfl) ?_
 refine ag ?_
 obtain ⟨r_, cQ, hm⟩ := ob hm
 obtain ⟨F1, O1, lQ, hO, rp, hF, hb⟩ := k_.go (.i (.i (.i (.i (.i (.i (.i (.r (.r .e)))))))))
 refine au [] 8 _ vz (by kernel_rfl) (pA (F := F1) (O := O1) _ _ _ _ _ _ _ _ _ _ _ _ _ _ _ _ _ _ _ _ _ _ _ _ _ _ _ _ _ _ _ _ _ _ _ _ _ _ _ _ _ _ _ _ _ _ _ (Ro.aM fZ k_ hF) rfl eU (Ro.aM ej k_ hF) rfl dA (Ro.aM dB k_ hF) rfl cN (Ro.aM bU k_ hF) rfl bF (Ro.aM kR k_ hF) rfl jR lQ _ cQ) ?_
 rintro e_ k4 ⟨A0, _, c0, A3, _, c3, A4, _, c4, rfl, rfl, rfl, rfl, db⟩
 have dE := hb k4 _ _ db (.c (.c (.c (.c (.c (.c (.c .n)))))))
 refine ⟨.b false, rfl, ?_⟩
 refine af <| aa <| cm false (by kernel_rfl) (fun h => by cases h) (fun _ => ?_)
 refine bc <| aa <| ab <| an <| ba 4 [] (.n 12 (pt cB 0) (.ss .a)) (qB dE 8 rfl 0 (pt kU 0) (by kernel_rfl) <| qs kU 0 <| qs kU 0 <| qB dE 6 rfl 1 (pt cB 0) (by kernel_rfl) <| qe) (by kernel_rfl) ?_
 refine ag ?_
 obtain ⟨ah, dd, hm⟩ := ob hm
 have dU := ((((((((dE.pk (.t (.t (.t (.t (.t (.t (.t (.t .h))))))))).pk (.t (.t (.t (.t (.t (.t (.t (.t .h))))))))).pk (.t (.t (.t (.t (.t (.t (.t (.t .h))))))))).pk (.t (.t (.t (.t .h))))).pk (.t (.t (.t (.t .h))))).pk (.t (.t (.t (.t (.t (.t (.t .h)))))))).pk (.t (.t (.t (.t (.t (.t (.t .h)))))))).pk (.t (.t (.t (.t (.t (.t (.t .h)))))))).pk (.t (.t (.t (.t (.t (.t (.t (.t .h))))))))
 obtain ⟨xI, xJ, nF, Fi, tF, si, xK⟩ := dU.go (.i (.i (.i (.i (.i (.i (.r (.r (.r .e)))))))))
 refine au [] 13 _ B1 (by kernel_rfl) (tO (F := xI) (O := xJ) _ _ _ _ _ _ _ _ _ _ _ _ _ _ _ _ _ _ _ _ _ _ _ _ _ _ _ _ _ _ _ _ _ _ _ _ _ _ _ _ _ _ (Ro.aM ej dU si) rfl dA (Ro.aM dB dU si) rfl cN (Ro.aM bU dU si) rfl bF (Ro.aM kR dU si) rfl jR nF _ dd) ?_
 rintro e_ l6 ⟨g1, g2, A5, _, c5, A6, _, c6, g3, A7, _, c7, A8, _, c8, rfl, rfl, rfl, rfl, rfl, eY⟩
 have fU := xK l6 _ _ eY (.c (.c (.c (.c (.c (.c (.c (.c (.c (.c .n))))))))))
 refine ⟨pt g1 0, rfl, ?_⟩
 refine ba 1 [] (.n 5 (pt g1 0) (.ss .a)) qe (by kernel_rfl) ?_
 refine af <| aa <| ab <| an <| ag <| bT [] 6 [I 0] (by kernel_rfl) fU ?_
 intro g4 qj g_
 refine ag ?_
 have gC := g_.de (.bX (.bX (.bX (.kk .e))))
 refine en [] 13 (I 0) [I 0] (Pt.at g4 0) gC rfl .all (by kernel_rfl) (by kernel_rfl) ?_
 intro qk gP
 refine af <| aa <| ab <| an <| ba 2 [] (.n 14 (.v (.func (.func 42) ⟨SV.ad []⟩ ⟨SV.ad [pt lZ 0]⟩)) (.n 15 (.v (.func (.func 38) ⟨SV.ad []⟩ ⟨SV.ad [pt g 0, pt g4 0]⟩)) (.uk .z))) qe (by kernel_rfl) ?_
 refine ag ?_
 obtain ⟨aX, hK, hm⟩ := ob hm
 have gB := (((((((((((((gP.pk (.t (.t (.t (.t (.t .h)))))).pk (.t (.t (.t (.t (.t .h)))))).pk (.t (.t (.t .h)))).pk (.t (.t (.t .h)))).pk (.t (.t (.t (.t (.t (.t (.t (.t (.t (.t (.t .h)))))))))))).pk (.t (.t (.t (.t (.t (.t (.t (.t (.t (.t (.t (.t (.t .h)))))))))))))).pk (.t (.t (.t (.t (.t (.t (.t (.t (.t .h)))))))))).pk (.t (.t (.t (.t (.t (.t (.t (.t (.t .h)))))))))).pk (.t (.t (.t (.t (.t (.t (.t (.t (.t .h)))))))))).pk (.t (.t (.t (.t (.t (.t (.t (.t (.t .h)))))))))).pk (.t (.t (.t (.t (.t (.t (.t (.t (.t (.t .h))))))))))).pk (.t (.t (.t (.t (.t (.t (.t (.t (.t (.t (.t .h)))))))))))).pk (.t (.t (.t (.t (.t (.t (.t (.t (.t (.t (.t (.t .h))))))))))))).pk (.t (.t (.t (.t (.t (.t (.t (.t (.t (.t (.t (.t (.t .h)))))))))))))
 obtain ⟨F6, F7, ug, Nc, zY, vV, CP⟩ := gB.go (.i (.i (.i (.i (.i (.i (.i (.i (.i (.i (.r (.r (.r (.r .e))))))))))))))
 refine lU [] 16 [] [.v (.func (.func 38) ⟨SV.ad []⟩ ⟨SV.ad [pt g 0, pt g4 0]⟩)] [pt lZ 0] E6 (by kernel_rfl) (sZ (F := F6) (O := F7) _ _ _ _ _ _ _ _ _ _ _ _ _ _ _ _ _ _ _ _ _ _ _ _ _ _ _ _ _ _ _ _ _ _ _ _ _ _ _ _ _ _ _ _ _ _ _ _ _ _ _ _ (Ro.aM fZ gB vV) rfl eU (Ro.aM ej gB vV) rfl dA (Ro.aM dB gB vV) rfl cN (Ro.aM bU gB vV) rfl bF (Ro.aM kR gB vV) rfl jR ug _ hK) ?_
 rintro e_ rX ⟨A9, _, c9, wq, _, sV, yr, _, uf, rfl, rfl, rfl, rfl, dO⟩
 have cV := CP rX _ _ dO (.c (.c (.c (.c (.c (.c (.c (.c (.c (.c .n))))))))))
 refine ⟨.gD [], rfl, ?_⟩
 refine af <| aa <| ab <| ab <| bO [] (.n 18 (.b (decide (aX.2.2.2.2.2.2.2.2.2.2.2.2.2.2.1 ≠ 0))) (.oQ .a)) (qB cV 8 rfl 0 (I aX.2.2.2.2.2.2.2.2.2.2.2.2.2.2.1) (by kernel_rfl) <| qe) (by kernel_rfl) ?_
 refine aa <| bu (aX.2.2.2.2.2.2.2.2.2.2.2.2.2.2.1 ≠ 0) (by kernel_rfl) (fun hc => ?_) (fun hc => ?_)
 · rw [if_pos hc] at hm
   cases hm
 rw [if_neg hc] at hm
 refine bc <| aa <| ab <| bO [] (.n 4 (I aX.2.2.2.2.2.2.2.2.2.2.2.2.2.2.1) .z) (qB cV 8 rfl 0 (I aX.2.2.2.2.2.2.2.2.2.2.2.2.2.2.1) (by kernel_rfl) <| qe) (by kernel_rfl) ?_
 refine aa <| aQ ?_
 obtain rfl := Option.some.inj hm
 refine aR [I aX.2.2.2.2.2.2.2.2.2.2.2.2.2.2.1] qe (by kernel_rfl) ?_
 have ez := cV.de (.bX (.kk (.k (.ss (.k .z)))))
 exact ⟨A9, aX.2.2.2.1.length, c9, wq, aX.2.2.2.2.2.2.2.1.length, sV, yr, aX.2.2.2.2.2.2.2.2.1.length, uf, ez.len 1 rfl, ez.len 3 rfl, ez.len 4 rfl, rfl, ez⟩
theorem uj {F O : Nat → Prop} {w : World} (bI : List UInt8) (a1 : List UInt8) (aN : List UInt8) (ak : List UInt8) (aO : Int) (ax : Int) (aB : List UInt8) (aU : List UInt8) (aP : Bool) (ao : UInt64) (aW : ae UInt64 8) (ai : UInt64) (aj : UInt64) (av : List UInt8) (aq : Int) (cS : List UInt8) (cp : UInt64) (bJ : ae UInt8 64) (bd : Int) (kU : Nat) (cu : Option Addr) (bS : Nat) (cv : Nat) (cB : Nat) (bY : Option Addr) (bq : Nat) (bZ : Nat) (bC : Option Addr) (aZ : Nat) (bD : Nat) (aI : Option Addr) (aw : Nat) (aJ : Nat) (ck : Nat) (bx : Option Addr) (bB : Nat) (bz : Nat) (b6 : Option Addr) (cd : Nat) (b7 : Nat) (bn : Nat) (bf : Option Addr) (bo : Nat) (bg : Nat) (gi : Nat) (eC : Nat) (gj : Nat) (fZ : Ro F w cu (e8.all bI)) (fL : bI.length = bS) (eU : bS ≤ cv) (ej : Ro F w bY (e8.all a1)) (eM : a1.length = bq) (dA : bq ≤ bZ) (dB : Ro F w bC (e8.all aN)) (eg : aN.length = aZ) (cN : aZ ≤ bD) (bU : Ro F w aI (e8.all ak)) (cg : ak.length = aw) (bF : aw ≤ aJ) (kR : Ro F w (some ⟨gi, 0, none⟩) (e8.all cS)) (lF : cS.length = eC) (jR : eC ≤ gj) (k : Cx F O w w [Bx 58 kU [sl cu bS cv, pt cB 0], Bx 86 cB [I 1, I 64, .u32 4294967295, .u64 274877906944, .b false, sl bY bq bZ, sl bC aZ bD, sl aI aw aJ, pt ck 0, sl (some ⟨gi, 0, none⟩) eC gj, .u64 cp, .ar e8 bJ, I bd, .v (.func (.func 90) ⟨SV.ad [pt cB 0]⟩ ⟨SV.ad []⟩)], Bx 145 ck [I aO, I ax, sl bx bB bz, sl b6 cd b7, .b aP, .u64 ao, .v (.iface 194 (SV.val (pt bn 0)))], Ow e8 bx bB bz aB, Ow e8 b6 cd b7 aU, Bx 200 bn [.ar cj aW, .u64 ai, .u64 aj, sl bf bo bg, I aq, .v (.func (.func 132) ⟨SV.ad []⟩ ⟨SV.ad []⟩), .v (.func (.func 133) ⟨SV.ad []⟩ ⟨SV.ad []⟩)], Ow e8 bf bo bg av]) (r : (UInt64 × Int × ae UInt64 8 × UInt64 × UInt64 × List UInt8 × Int × Int × Int × List UInt8 × List UInt8 × Bool × UInt64 × UInt64 × ae UInt8 64 × Int)) (hm : ki bI a1 aN ak aO ax aB aU aP ao aW ai aj av aq cS cp bJ bd = some r) :
    Calls Tryz.prog 20 (ad [pt kU 0]) w (fun e w' => ∃ A n c A1 n1 c1 A2 n2 c2, r.2.2.2.2.2.1.length = n ∧ r.2.2.2.2.2.2.2.2.2.1.length = n1 ∧ r.2.2.2.2.2.2.2.2.2.2.1.length = n2 ∧ e = .returned (SV.val (.gD [.u64 r.1, I r.2.1])) ∧ Cx F O w w' [Bx 200 bn [.ar cj r.2.2.1, .u64 r.2.2.2.1, .u64 r.2.2.2.2.1, sl A n c, I r.2.2.2.2.2.2.1, .v (.func (.func 132) ⟨SV.ad []⟩ ⟨SV.ad []⟩), .v (.func (.func 133) ⟨SV.ad []⟩ ⟨SV.ad []⟩)], Ow e8 A n c r.2.2.2.2.2.1, Bx 145 ck [I r.2.2.2.2.2.2.2.1, I r.2.2.2.2.2.2.2.2.1, sl A1 n1 c1, sl A2 n2 c2, .b r.2.2.2.2.2.2.2.2.2.2.2.1, .u64 r.2.2.2.2.2.2.2.2.2.2.2.2.1, .v (.iface 194 (SV.val (pt bn 0)))], Ow e8 A1 n1 c1 r.2.2.2.2.2.2.2.2.2.1, Ow e8 A2 n2 c2 r.2.2.2.2.2.2.2.2.2.2.1, Bx 86 cB [I 1, I 64, .u32 4294967295, .u64 274877906944, .b false, sl bY bq bZ, sl bC aZ bD, sl aI aw aJ, pt ck 0, sl (some ⟨gi, 0, none⟩) eC gj, .u64 r.2.2.2.2.2.2.2.2.2.2.2.2.2.1, .ar e8 r.2.2.2.2.2.2.2.2.2.2.2.2.2.2.1, I r.2.2.2.2.2.2.2.2.2.2.2.2.2.2.2, .v (.func (.func 90) ⟨SV.ad [pt cB 0]⟩ ⟨SV.ad []⟩)], Bx 58 kU [sl cu bS cv, pt cB 0]]) := by
 unfold ki at hm
 subst fL
 subst eM
 subst eg
 subst cg
 obtain rfl := k.len 3 rfl
 obtain rfl := k.len 4 rfl
 obtain rfl := k.len 6 rfl
 subst lF
 refine calls [pt kU 0] Tryz.func20 rfl (of_decide_eq_true (by kernel_rfl)) ?_
 refine ab <| bO [] .a qe (by kernel_rfl) ?_
 refine aa <| ab <| an <| ag <| bT [] 4 [.u64 0] (by kernel_rfl) k ?_
 intro g w_ k_
 refine ag <| en [] 7 (.u64 0) [.u64 0] (Pt.at g 0) k_ rfl .all (by kernel_rfl) (by kernel_rfl) ?_
 intro k4 db
 refine af <| aa <| ab <| an <| ba 2 [] (.n 6 (pt kU 0) (.n 7 (.v (.func (.func 42) ⟨SV.ad []⟩ ⟨SV.ad [pt g 0]⟩)) (.k .z))) qe (by kernel_rfl) ?_
 refine ag ?_
 obtain ⟨r_, cQ, hm⟩ := ob hm
 obtain ⟨F1, O1, lQ, hO, rp, hF, hb⟩ := db.go (.i (.i (.i (.i (.i (.i (.i (.i .e))))))))
 refine au [] 8 _ BY (by kernel_rfl) (tP (F := F1) (O := O1) _ _ _ _ _ _ _ _ _ _ _ _ _ _ _ _ _ _ _ _ _ _ _ _ _ _ _ _ _ _ _ _ _ _ _ _ _ _ _ _ _ _ _ _ _ _ _ _ _ (Ro.aM fZ db hF) rfl eU (Ro.aM ej db hF) rfl dA (Ro.aM dB db hF) rfl cN (Ro.aM bU db hF) rfl bF (Ro.aM kR db hF) rfl jR lQ _ cQ) ?_
 rintro e_ l6 ⟨A0, _, c0, A3, _, c3, A4, _, c4, rfl, rfl, rfl, rfl, dE⟩
 have dU := hb l6 _ _ dE (.c (.c (.c (.c (.c (.c (.c (.c .n))))))))
 refine ⟨I r_.1, rfl, ?_⟩
 refine ba 1 [] (.n 5 (I r_.1) (.oQ .a)) qe (by kernel_rfl) ?_
 refine af <| aa <| ab <| ab <| bO [] (.n 10 (.b (decide (r_.1 ≠ 0))) .a) qe (by kernel_rfl) ?_
 refine aa <| bu (r_.1 ≠ 0) (by kernel_rfl) (fun hc => ?_) (fun hc => ?_)
 · rw [if_pos hc] at hm
   refine ab <| bO [] (.n 2 (.u64 0) (.n 3 (I r_.1) .z)) qe (by kernel_rfl) ?_
   refine aa <| aQ (cJ ?_)
   obtain rfl := Option.some.inj hm
   refine aR [.u64 0, I r_.1] qe (by kernel_rfl) ?_
   have eY := dU.de (.bX (.kk (.k .z)))
   exact ⟨A0, r_.2.2.2.2.1.length, c0, A3, r_.2.2.2.2.2.2.2.2.1.length, c3, A4, r_.2.2.2.2.2.2.2.2.2.1.length, c4, eY.len 1 rfl, eY.len 3 rfl, eY.len 4 rfl, rfl, eY⟩
 rw [if_neg hc] at hm
 refine bc <| aa <| ab <| bO [] (.n 2 (.u64 r_.2.2.2.2.2.2.2.2.2.2.2.2.2.2.2) (.n 3 (I 0) .z)) (qB dU 7 rfl 0 (.u64 r_.2.2.2.2.2.2.2.2.2.2.2.2.2.2.2) (by kernel_rfl) <| qe) (by kernel_rfl) ?_
 refine aa <| aQ ?_
 obtain rfl := Option.some.inj hm
 refine aR [.u64 r_.2.2.2.2.2.2.2.2.2.2.2.2.2.2.2, I 0] qe (by kernel_rfl) ?_
 have fU := dU.de (.bX (.kk (.k .z)))
 exact ⟨A0, r_.2.2.2.2.1.length, c0, A3, r_.2.2.2.2.2.2.2.2.1.length, c3, A4, r_.2.2.2.2.2.2.2.2.2.1.length, c4, fU.len 1 rfl, fU.len 3 rfl, fU.len 4 rfl, rfl, fU⟩
theorem pq {F O : Nat → Prop} {w : World} (bI : List UInt8) (a1 : List UInt8) (aN : List UInt8) (ak : List UInt8) (aO : Int) (ax : Int) (aB : List UInt8) (aU : List UInt8) (aP : Bool) (ao : UInt64) (aW : ae UInt64 8) (ai : UInt64) (aj : UInt64) (av : List UInt8) (aq : Int) (cS : List UInt8) (cp : UInt64) (bJ : ae UInt8 64) (bd : Int) (kU : Nat) (cu : Option Addr) (bS : Nat) (cv : Nat) (cB : Nat) (bY : Option Addr) (bq : Nat) (bZ : Nat) (bC : Option Addr) (aZ : Nat) (bD : Nat) (aI : Option Addr) (aw : Nat) (aJ : Nat) (ck : Nat) (bx : Option Addr) (bB : Nat) (bz : Nat) (b6 : Option Addr) (cd : Nat) (b7 : Nat) (bn : Nat) (bf : Option Addr) (bo : Nat) (bg : Nat) (gi : Nat) (eC : Nat) (gj : Nat) (fZ : Ro F w cu (e8.all bI)) (fL : bI.length = bS) (eU : bS ≤ cv) (ej : Ro F w bY (e8.all a1)) (eM : a1.length = bq) (dA : bq ≤ bZ) (dB : Ro F w bC (e8.all aN)) (eg : aN.length = aZ) (cN : aZ ≤ bD) (bU : Ro F w aI (e8.all ak)) (cg : ak.length = aw) (bF : aw ≤ aJ) (kR : Ro F w (some ⟨gi, 0, none⟩) (e8.all cS)) (lF : cS.length = eC) (jR : eC ≤ gj) (k : Cx F O w w [Bx 58 kU [sl cu bS cv, pt cB 0], Bx 86 cB [I 1, I 64, .u32 4294967295, .u64 274877906944, .b false, sl bY bq bZ, sl bC aZ bD, sl aI aw aJ, pt ck 0, sl (some ⟨gi, 0, none⟩) eC gj, .u64 cp, .ar e8 bJ, I bd, .v (.func (.func 90) ⟨SV.ad [pt cB 0]⟩ ⟨SV.ad []⟩)], Bx 145 ck [I aO, I ax, sl bx bB bz, sl b6 cd b7, .b aP, .u64 ao, .v (.iface 194 (SV.val (pt bn 0)))], Ow e8 bx bB bz aB, Ow e8 b6 cd b7 aU, Bx 200 bn [.ar cj aW, .u64 ai, .u64 aj, sl bf bo bg, I aq, .v (.func (.func 132) ⟨SV.ad []⟩ ⟨SV.ad []⟩), .v (.func (.func 133) ⟨SV.ad []⟩ ⟨SV.ad []⟩)], Ow e8 bf bo bg av]) (r : (Nat × Int × ae UInt64 8 × UInt64 × UInt64 × List UInt8 × Int × Int × Int × List UInt8 × List UInt8 × Bool × UInt64 × UInt64 × ae UInt8 64 × Int)) (hm : gZ bI a1 aN ak aO ax aB aU aP ao aW ai aj av aq cS cp bJ bd = some r) :
    Calls Tryz.prog 8 (ad [pt kU 0]) w (fun e w' => ∃ fb A n c A1 n1 c1 A2 n2 c2, Fl r.1 fb ∧ r.2.2.2.2.2.1.length = n ∧ r.2.2.2.2.2.2.2.2.2.1.length = n1 ∧ r.2.2.2.2.2.2.2.2.2.2.1.length = n2 ∧ e = .returned (SV.val (.gD [.v (.float .f64 fb), I r.2.1])) ∧ Cx F O w w' [Bx 200 bn [.ar cj r.2.2.1, .u64 r.2.2.2.1, .u64 r.2.2.2.2.1, sl A n c, I r.2.2.2.2.2.2.1, .v (.func (.func 132) ⟨SV.ad []⟩ ⟨SV.ad []⟩), .v (.func (.func 133) ⟨SV.ad []⟩ ⟨SV.ad []⟩)], Ow e8 A n c r.2.2.2.2.2.1, Bx 145 ck [I r.2.2.2.2.2.2.2.1, I r.2.2.2.2.2.2.2.2.1, sl A1 n1 c1, sl A2 n2 c2, .b r.2.2.2.2.2.2.2.2.2.2.2.1, .u64 r.2.2.2.2.2.2.2.2.2.2.2.2.1, .v (.iface 194 (SV.val (pt bn 0)))], Ow e8 A1 n1 c1 r.2.2.2.2.2.2.2.2.2.1, Ow e8 A2 n2 c2 r.2.2.2.2.2.2.2.2.2.2.1, Bx 86 cB [I 1, I 64, .u32 4294967295, .u64 274877906944, .b false, sl bY bq bZ, sl bC aZ bD, sl aI aw aJ, pt ck 0, sl (some ⟨gi, 0, none⟩) eC gj, .u64 r.2.2.2.2.2.2.2.2.2.2.2.2.2.1, .ar e8 r.2.2.2.2.2.2.2.2.2.2.2.2.2.2.1, I r.2.2.2.2.2.2.2.2.2.2.2.2.2.2.2, .v (.func (.func 90) ⟨SV.ad [pt cB 0]⟩ ⟨SV.ad []⟩)], Bx 58 kU [sl cu bS cv, pt cB 0]]) := by
 unfold gZ at hm
 subst fL
 subst eM
 subst eg
 subst cg
 obtain rfl := k.len 3 rfl
 obtain rfl := k.len 4 rfl
 obtain rfl := k.len 6 rfl
 subst lF
 refine calls [pt kU 0] Tryz.func8 rfl (of_decide_eq_true (by kernel_rfl)) ?_
 refine ab <| bO [] .a qe (by kernel_rfl) ?_
 refine aa <| ab <| an <| ba 1 [] (.n 7 (pt kU 0) .z) qe (by kernel_rfl) ?_
 refine ag ?_
 obtain ⟨r_, cQ, hm⟩ := ob hm
 obtain ⟨F1, O1, lQ, hO, rp, hF, hb⟩ := k.go (.i (.i (.i (.i (.i (.i (.i .e)))))))
 refine au [] 8 _ E2 (by kernel_rfl) (uj (F := F1) (O := O1) _ _ _ _ _ _ _ _ _ _ _ _ _ _ _ _ _ _ _ _ _ _ _ _ _ _ _ _ _ _ _ _ _ _ _ _ _ _ _ _ _ _ _ _ _ _ _ (Ro.aM fZ k hF) rfl eU (Ro.aM ej k hF) rfl dA (Ro.aM dB k hF) rfl cN (Ro.aM bU k hF) rfl bF (Ro.aM kR k hF) rfl jR lQ _ cQ) ?_
 rintro e_ w_ ⟨A0, _, c0, A3, _, c3, A4, _, c4, rfl, rfl, rfl, rfl, k_⟩
 have db := hb w_ _ _ k_ (.c (.c (.c (.c (.c (.c (.c .n)))))))
 refine ⟨.gD [.u64 r_.1, I r_.2.1], rfl, ?_⟩
 refine ba 5 [] (.n 4 (.u64 r_.1) (.n 5 (I r_.2.1) .z)) qe (by kernel_rfl) ?_
 refine af <| aa <| ab <| an <| ba 1 [] (.n 11 (.u64 r_.1) (.s .a)) qe (by kernel_rfl) ?_
 refine ag ?_
 obtain ⟨ah, dd, hm⟩ := ob hm
 refine au [] 12 _ E3 (by kernel_rfl) (vd (F := N0) (O := N0) _ (Cx.refl _) _ dd) ?_
 rintro e_ k4 ⟨AJ, Ao, rfl, dE⟩
 have dU := db.call dE
 refine ⟨.v (.float .f64 AJ), rfl, ?_⟩
 refine ba 3 [] (.n 2 (.v (.float .f64 AJ)) (.n 3 (I r_.2.1) .z)) qe (by kernel_rfl) ?_
 refine af <| aa <| aQ ?_
 obtain rfl := Option.some.inj hm
 refine aR [.v (.float .f64 AJ), I r_.2.1] qe (by kernel_rfl) ?_
 exact ⟨AJ, A0, r_.2.2.2.2.2.1.length, c0, A3, r_.2.2.2.2.2.2.2.2.2.1.length, c3, A4, r_.2.2.2.2.2.2.2.2.2.2.1.length, c4, Ao, dU.len 1 rfl, dU.len 3 rfl, dU.len 4 rfl, rfl, dU⟩
theorem pB {F O : Nat → Prop} {w : World} (bI : List UInt8) (a1 : List UInt8) (aN : List UInt8) (ak : List UInt8) (aO : Int) (ax : Int) (aB : List UInt8) (aU : List UInt8) (aP : Bool) (ao : UInt64) (aW : ae UInt64 8) (ai : UInt64) (aj : UInt64) (av : List UInt8) (aq : Int) (cS : List UInt8) (cp : UInt64) (bJ : ae UInt8 64) (bd : Int) (lo : Nat) (hi : Nat) (kU : Nat) (cu : Option Addr) (bS : Nat) (cv : Nat) (cB : Nat) (bY : Option Addr) (bq : Nat) (bZ : Nat) (bC : Option Addr) (aZ : Nat) (bD : Nat) (aI : Option Addr) (aw : Nat) (aJ : Nat) (ck : Nat) (bx : Option Addr) (bB : Nat) (bz : Nat) (b6 : Option Addr) (cd : Nat) (b7 : Nat) (bn : Nat) (bf : Option Addr) (bo : Nat) (bg : Nat) (gi : Nat) (eC : Nat) (gj : Nat) (gw : Nat) (iL : Nat) (fZ : Ro F w cu (e8.all bI)) (fL : bI.length = bS) (eU : bS ≤ cv) (ej : Ro F w bY (e8.all a1)) (eM : a1.length = bq) (dA : bq ≤ bZ) (dB : Ro F w bC (e8.all aN)) (eg : aN.length = aZ) (cN : aZ ≤ bD) (bU : Ro F w aI (e8.all ak)) (cg : ak.length = aw) (bF : aw ≤ aJ) (kR : Ro F w (some ⟨gi, 0, none⟩) (e8.all cS)) (lF : cS.length = eC) (jR : eC ≤ gj) (kq : Fl lo gw) (ml : Fl hi iL) (k : Cx F O w w [Bx 58 kU [sl cu bS cv, pt cB 0], Bx 86 cB [I 1, I 64, .u32 4294967295, .u64 274877906944, .b false, sl bY bq bZ, sl bC aZ bD, sl aI aw aJ, pt ck 0, sl (some ⟨gi, 0, none⟩) eC gj, .u64 cp, .ar e8 bJ, I bd, .v (.func (.func 90) ⟨SV.ad [pt cB 0]⟩ ⟨SV.ad []⟩)], Bx 145 ck [I aO, I ax, sl bx bB bz, sl b6 cd b7, .b aP, .u64 ao, .v (.iface 194 (SV.val (pt bn 0)))], Ow e8 bx bB bz aB, Ow e8 b6 cd b7 aU, Bx 200 bn [.ar cj aW, .u64 ai, .u64 aj, sl bf bo bg, I aq, .v (.func (.func 132) ⟨SV.ad []⟩ ⟨SV.ad []⟩), .v (.func (.func 133) ⟨SV.ad []⟩ ⟨SV.ad []⟩)], Ow e8 bf bo bg av]) (r : (Nat × Int × ae UInt64 8 × UInt64 × UInt64 × List UInt8 × Int × Int × Int × List UInt8 × List UInt8 × Bool × UInt64 × UInt64 × ae UInt8 64 × Int)) (hm : ij bI a1 aN ak aO ax aB aU aP ao aW ai aj av aq cS cp bJ bd lo hi = some r) :
    Calls Tryz.prog 9 (ad [pt kU 0, .v (.float .f64 gw), .v (.float .f64 iL)]) w (fun e w' => ∃ fb A n c A1 n1 c1 A2 n2 c2, Fl r.1 fb ∧ r.2.2.2.2.2.1.length = n ∧ r.2.2.2.2.2.2.2.2.2.1.length = n1 ∧ r.2.2.2.2.2.2.2.2.2.2.1.length = n2 ∧ e = .returned (SV.val (.gD [.v (.float .f64 fb), I r.2.1])) ∧ Cx F O w w' [Bx 200 bn [.ar cj r.2.2.1, .u64 r.2.2.2.1, .u64 r.2.2.2.2.1, sl A n c, I r.2.2.2.2.2.2.1, .v (.func (.func 132) ⟨SV.ad []⟩ ⟨SV.ad []⟩), .v (.func (.func 133) ⟨SV.ad []⟩ ⟨SV.ad []⟩)], Ow e8 A n c r.2.2.2.2.2.1, Bx 145 ck [I r.2.2.2.2.2.2.2.1, I r.2.2.2.2.2.2.2.2.1, sl A1 n1 c1, sl A2 n2 c2, .b r.2.2.2.2.2.2.2.2.2.2.2.1, .u64 r.2.2.2.2.2.2.2.2.2.2.2.2.1, .v (.iface 194 (SV.val (pt bn 0)))], Ow e8 A1 n1 c1 r.2.2.2.2.2.2.2.2.2.1, Ow e8 A2 n2 c2 r.2.2.2.2.2.2.2.2.2.2.1, Bx 86 cB [I 1, I 64, .u32 4294967295, .u64 274877906944, .b false, sl bY bq bZ, sl bC aZ bD, sl aI aw aJ, pt ck 0, sl (some ⟨gi, 0, none⟩) eC gj, .u64 r.2.2.2.2.2.2.2.2.2.2.2.2.2.1, .ar e8 r.2.2.2.2.2.2.2.2.2.2.2.2.2.2.1, I r.2.2.2.2.2.2.2.2.2.2.2.2.2.2.2, .v (.func (.func 90) ⟨SV.ad [pt cB 0]⟩ ⟨SV.ad []⟩)], Bx 58 kU [sl cu bS cv, pt cB 0]]) := by
 unfold ij at hm
 subst fL
 subst eM
 subst eg
 subst cg
 obtain rfl := k.len 3 rfl
 obtain rfl := k.len 4 rfl
 obtain rfl := k.len 6 rfl
 subst lF
 refine calls [pt kU 0, .v (.float .f64 gw), .v (.float .f64 iL)] Tryz.func9 rfl (of_decide_eq_true (by kernel_rfl)) ?_
 refine ab <| bO [] .a qe (by kernel_rfl) ?_
 refine aa <| ab <| ab <| an <| ba 1 [] (.n 10 (pt kU 0) .a) qe (by kernel_rfl) ?_
 refine ag ?_
 obtain ⟨r_, cQ, hm⟩ := ob hm
 obtain ⟨F1, O1, lQ, hO, rp, hF, hb⟩ := k.go (.i (.i (.i (.i (.i (.i (.i .e)))))))
 refine au [] 11 _ vz (by kernel_rfl) (pA (F := F1) (O := O1) _ _ _ _ _ _ _ _ _ _ _ _ _ _ _ _ _ _ _ _ _ _ _ _ _ _ _ _ _ _ _ _ _ _ _ _ _ _ _ _ _ _ _ _ _ _ _ (Ro.aM fZ k hF) rfl eU (Ro.aM ej k hF) rfl dA (Ro.aM dB k hF) rfl cN (Ro.aM bU k hF) rfl bF (Ro.aM kR k hF) rfl jR lQ _ cQ) ?_
 rintro e_ w_ ⟨A0, _, c0, A3, _, c3, A4, _, c4, rfl, rfl, rfl, rfl, k_⟩
 have db := hb w_ _ _ k_ (.c (.c (.c (.c (.c (.c (.c .n)))))))
 refine ⟨.b false, rfl, ?_⟩
 refine af <| aa <| cm false (by kernel_rfl) (fun h => by cases h) (fun _ => ?_)
 refine bc <| aa <| ab <| ab <| an <| ba 2 [] (.n 12 (.v (.float .f64 gw)) (.n 13 (.v (.float .f64 iL)) (.ss .a))) qe (by kernel_rfl) ?_
 refine ag <| jy [] 14 (u := gw) (v := iL) (by kernel_rfl) (.inr (.inr (.inr (.inl rfl)))) kq ml ?_
 refine ba 2 [] (.n 16 (.b (!(dr .leq lo hi))) (.oQ .a)) qe (by kernel_rfl) ?_
 refine lj 16 (!(dr .leq lo hi)) (.s .a) (by kernel_rfl) (fun hg => ?_) (fun hg => ?_)
 · rw [if_pos hg] at hm
   refine ba 4 [16] (.n 20 (.b true) (.s .a)) qe (by kernel_rfl) ?_
   refine ba 4 [20] (.n 24 (.b true) (.s .a)) qe (by kernel_rfl) ?_
   refine ba 5 [24] (.n 29 (.b true) (.s .a)) qe (by kernel_rfl) ?_
   refine af <| aa <| cm true (by kernel_rfl) (fun _ => ?_) (fun h => by cases h)
   refine ab <| bO [] (.n 6 (.v (.float .f64 0)) (.n 7 (I 1) .z)) qe (by kernel_rfl) ?_
   refine aa <| aQ (cJ ?_)
   obtain rfl := Option.some.inj hm
   refine aR [.v (.float .f64 0), I 1] qe (by kernel_rfl) ?_
   exact ⟨0, A0, r_.2.2.2.1.length, c0, A3, r_.2.2.2.2.2.2.2.1.length, c3, A4, r_.2.2.2.2.2.2.2.2.1.length, c4, (Fl.lit (c := 0) (by kernel_rfl)), db.len 1 rfl, db.len 3 rfl, db.len 4 rfl, rfl, db⟩
 · rw [if_neg (by rw [hg]; decide)] at hm
   refine ba 1 [16] (.n 17 (.v (.float .f64 gw)) .a) qe (by kernel_rfl) ?_
   refine ag ?_
   obtain ⟨ah, dd, hm⟩ := ob hm
   refine au [16] 18 _ BZ (by kernel_rfl) (tM (F := N0) (O := N0) _ _ kq (Cx.refl _) _ dd) ?_
   rintro e_ k4 ⟨rfl, dE⟩
   have dU := db.call dE
   refine ⟨.b ah, rfl, ?_⟩
   refine ba 2 [16] (.n 20 (.b ah) (.oQ .a)) qe (by kernel_rfl) ?_
   refine lj 20 ah (.s .a) (by kernel_rfl) (fun LQ => ?_) (fun LQ => ?_)
   · rw [if_pos LQ] at hm
     refine ba 4 [20] (.n 24 (.b true) (.s .a)) qe (by kernel_rfl) ?_
     refine ba 5 [24] (.n 29 (.b true) (.s .a)) qe (by kernel_rfl) ?_
     refine af <| aa <| cm true (by kernel_rfl) (fun _ => ?_) (fun h => by cases h)
     refine ab <| bO [] (.n 6 (.v (.float .f64 0)) (.n 7 (I 1) .z)) qe (by kernel_rfl) ?_
     refine aa <| aQ (cJ ?_)
     obtain rfl := Option.some.inj hm
     refine aR [.v (.float .f64 0), I 1] qe (by kernel_rfl) ?_
     exact ⟨0, A0, r_.2.2.2.1.length, c0, A3, r_.2.2.2.2.2.2.2.1.length, c3, A4, r_.2.2.2.2.2.2.2.2.1.length, c4, (Fl.lit (c := 0) (by kernel_rfl)), dU.len 1 rfl, dU.len 3 rfl, dU.len 4 rfl, rfl, dU⟩
   · rw [if_neg (by rw [LQ]; decide)] at hm
     refine ba 1 [20] (.n 21 (.v (.float .f64 iL)) .a) qe (by kernel_rfl) ?_
     refine ag ?_
     obtain ⟨aX, hK, hm⟩ := ob hm
     refine au [20] 22 _ BZ (by kernel_rfl) (tM (F := N0) (O := N0) _ _ ml (Cx.refl _) _ hK) ?_
     rintro e_ l6 ⟨rfl, eY⟩
     have fU := dU.call eY
     refine ⟨.b aX, rfl, ?_⟩
     refine ba 2 [20] (.n 24 (.b aX) (.oQ .a)) qe (by kernel_rfl) ?_
     refine lj 24 aX (.s .a) (by kernel_rfl) (fun LR => ?_) (fun LR => ?_)
     · rw [if_pos LR] at hm
       refine ba 5 [24] (.n 29 (.b true) (.s .a)) qe (by kernel_rfl) ?_
       refine af <| aa <| cm true (by kernel_rfl) (fun _ => ?_) (fun h => by cases h)
       refine ab <| bO [] (.n 6 (.v (.float .f64 0)) (.n 7 (I 1) .z)) qe (by kernel_rfl) ?_
       refine aa <| aQ (cJ ?_)
       obtain rfl := Option.some.inj hm
       refine aR [.v (.float .f64 0), I 1] qe (by kernel_rfl) ?_
       exact ⟨0, A0, r_.2.2.2.1.length, c0, A3, r_.2.2.2.2.2.2.2.1.length, c3, A4, r_.2.2.2.2.2.2.2.2.1.length, c4, (Fl.lit (c := 0) (by kernel_rfl)), fU.len 1 rfl, fU.len 3 rfl, fU.len 4 rfl, rfl, fU⟩
     · rw [if_neg (by rw [LR]; decide)] at hm
       refine ba 2 [24] (.n 25 (.v (.float .f64 iL)) (.n 26 (.v (.float .f64 gw)) .a)) qe (by kernel_rfl) ?_
       refine ag ?_
       have g_ := fU.de (.bX (.kk (.k .e)))
       refine oC [24] 27 (u := iL) (v := gw) (by kernel_rfl) (.inr (.inl rfl)) ml kq g_ ?_
       intro AJ qj Ao gC
       refine ag ?_
       obtain ⟨eK, nX, hm⟩ := ob hm
       refine au [24] 28 _ BZ (by kernel_rfl) (tM (F := N0) (O := N0) _ _ Ao (Cx.refl _) _ nX) ?_
       rintro e_ qk ⟨rfl, gP⟩
       have gB := gC.call gP
       refine ⟨.b eK, rfl, ?_⟩
       refine ba 1 [24] (.n 29 (.b eK) (.jn (.s .a))) qe (by kernel_rfl) ?_
       refine af <| aa <| cm eK (by kernel_rfl) (fun hc => ?_) (fun hc => ?_)
       · rw [if_pos hc] at hm
         refine ab <| bO [] (.n 6 (.v (.float .f64 0)) (.n 7 (I 1) .z)) qe (by kernel_rfl) ?_
         refine aa <| aQ (cJ ?_)
         obtain rfl := Option.some.inj hm
         refine aR [.v (.float .f64 0), I 1] qe (by kernel_rfl) ?_
         exact ⟨0, A0, r_.2.2.2.1.length, c0, A3, r_.2.2.2.2.2.2.2.1.length, c3, A4, r_.2.2.2.2.2.2.2.2.1.length, c4, (Fl.lit (c := 0) (by kernel_rfl)), gB.len 1 rfl, gB.len 3 rfl, gB.len 4 rfl, rfl, gB⟩
       rw [if_neg (by rw [hc]; decide)] at hm
       refine bc <| aa <| ab <| an <| ba 1 [] (.n 31 (pt kU 0) (.ss .a)) qe (by kernel_rfl) ?_
       refine ag ?_
       obtain ⟨gl, sT, hm⟩ := ob hm
       have dO := ((((((gB.pk (.t .h)).pk (.t .h)).pk (.t (.t (.t (.t .h))))).pk (.t (.t (.t (.t .h))))).pk (.t (.t (.t (.t .h))))).pk (.t (.t (.t (.t (.t .h)))))).pk (.t (.t (.t (.t (.t (.t .h))))))
       obtain ⟨xI, xJ, nF, Fi, tF, si, xK⟩ := dO.go (.i (.i (.i (.i (.i (.i (.i .e)))))))
       refine au [] 32 _ Ee (by kernel_rfl) (pq (F := xI) (O := xJ) _ _ _ _ _ _ _ _ _ _ _ _ _ _ _ _ _ _ _ _ _ _ _ _ _ _ _ _ _ _ _ _ _ _ _ _ _ _ _ _ _ _ _ _ _ _ _ (Ro.aM fZ dO si) rfl eU (Ro.aM ej dO si) rfl dA (Ro.aM dB dO si) rfl cN (Ro.aM bU dO si) rfl bF (Ro.aM kR dO si) rfl jR nF _ sT) ?_
       rintro e_ rX ⟨Cu, A5, _, c5, A6, _, c6, A7, _, c7, AK, rfl, rfl, rfl, rfl, cV⟩
       have ff := xK rX _ _ cV (.c (.c (.c (.c (.c (.c (.c .n)))))))
       refine ⟨.gD [.v (.float .f64 Cu), I gl.2.1], rfl, ?_⟩
       refine ba 5 [] (.n 8 (.v (.float .f64 Cu)) (.n 9 (I gl.2.1) (.ss .a))) qe (by kernel_rfl) ?_
       refine af <| aa <| ab <| ab <| bO [] (.n 36 (.b (decide (gl.2.1 ≠ 0))) .a) qe (by kernel_rfl) ?_
       refine aa <| bu (gl.2.1 ≠ 0) (by kernel_rfl) (fun k5 => ?_) (fun k5 => ?_)
       · rw [if_pos k5] at hm
         refine ab <| bO [] (.n 6 (.v (.float .f64 0)) (.n 7 (I gl.2.1) .z)) qe (by kernel_rfl) ?_
         refine aa <| aQ (cJ ?_)
         obtain rfl := Option.some.inj hm
         refine aR [.v (.float .f64 0), I gl.2.1] qe (by kernel_rfl) ?_
         exact ⟨0, A5, gl.2.2.2.2.2.1.length, c5, A6, gl.2.2.2.2.2.2.2.2.2.1.length, c6, A7, gl.2.2.2.2.2.2.2.2.2.2.1.length, c7, (Fl.lit (c := 0) (by kernel_rfl)), ff.len 1 rfl, ff.len 3 rfl, ff.len 4 rfl, rfl, ff⟩
       rw [if_neg k5] at hm
       refine bc <| aa <| ab <| an <| ba 3 [] (.n 38 (.v (.float .f64 gw)) (.n 39 (.v (.float .f64 iL)) (.n 40 (.v (.float .f64 gw)) (.s (.k .z))))) qe (by kernel_rfl) ?_
       refine ag <| oC [] 41 (u := iL) (v := gw) (by kernel_rfl) (.inr (.inl rfl)) ml kq ff ?_
       intro P4 wQ LS gI
       refine ba 1 [] (.n 42 (.v (.float .f64 Cu)) (.kk .z)) qe (by kernel_rfl) ?_
       refine ag ?_
       have ez := gI.de (.bX (.kk (.k .e)))
       refine oC [] 43 (u := P4) (v := Cu) (by kernel_rfl) (.inr (.inr (.inl rfl))) LS AK ez ?_
       intro P5 wR LU jj
       refine ag <| oC [] 44 (u := gw) (v := P5) (by kernel_rfl) (.inl rfl) kq LU jj ?_
       intro N4 Av LV gQ
       refine ba 2 [] (.n 6 (.v (.float .f64 N4)) (.n 7 (I 0) .z)) qe (by kernel_rfl) ?_
       refine af <| aa <| aQ ?_
       obtain rfl := Option.some.inj hm
       refine aR [.v (.float .f64 N4), I 0] qe (by kernel_rfl) ?_
       exact ⟨N4, A5, gl.2.2.2.2.2.1.length, c5, A6, gl.2.2.2.2.2.2.2.2.2.1.length, c6, A7, gl.2.2.2.2.2.2.2.2.2.2.1.length, c7, LV, gQ.len 1 rfl, gQ.len 3 rfl, gQ.len 4 rfl, rfl, gQ⟩
theorem H9 {F O : Nat → Prop} {w : World} (f : Nat) (tN : Nat) (z_ : Fl f tN) (k : Cx F O w w []) (r : Bool) (hm : vw f = some r) :
    Calls Tryz.prog 44 (ad [.v (.float .f64 tN)]) w (fun e w' => e = .returned (SV.val (.b r)) ∧ Cx F O w w' []) := by
 unfold vw at hm
 refine calls [.v (.float .f64 tN)] Tryz.func44 rfl (of_decide_eq_true (by kernel_rfl)) ?_
 refine ab <| bO [] .a qe (by kernel_rfl) ?_
 refine aa <| ab <| an <| ba 2 [] (.n 3 (.v (.float .f64 tN)) (.n 4 (.v (.float .f64 tN)) .z)) qe (by kernel_rfl) ?_
 refine ag <| jy [] 5 (u := tN) (v := tN) (by kernel_rfl) (.inr (.inl rfl)) z_ z_ ?_
 refine ba 1 [] (.n 2 (.b (dr .neq f f)) .z) qe (by kernel_rfl) ?_
 refine af <| aa <| aQ ?_
 obtain rfl := Option.some.inj hm
 refine aR [.b (dr .neq f f)] qe (by kernel_rfl) ?_
 exact ⟨rfl, k⟩
theorem Bo {F O : Nat → Prop} {w : World} (f : Nat) (tN : Nat) (z_ : Fl f tN) (k : Cx F O w w []) (r : UInt64) (hm : pH f = some r) :
    Calls Tryz.prog 23 (ad [.v (.float .f64 tN)]) w (fun e w' => e = .returned (SV.val (.u64 r)) ∧ Cx F O w w' []) := by
 unfold pH at hm
 refine calls [.v (.float .f64 tN)] Tryz.func23 rfl (of_decide_eq_true (by kernel_rfl)) ?_
 refine ab <| bO [] .a qe (by kernel_rfl) ?_
 refine aa <| ab <| ab <| an <| ba 1 [] (.n 3 (.v (.float .f64 tN)) .a) qe (by kernel_rfl) ?_
 refine ag ?_
 obtain ⟨r_, cQ, hm⟩ := ob hm
 refine au [] 4 _ JG (by kernel_rfl) (H9 (F := N0) (O := N0) _ _ z_ (Cx.refl _) _ cQ) ?_
 rintro e_ w_ ⟨rfl, k_⟩
 have db := k.call k_
 refine ⟨.b r_, rfl, ?_⟩
 refine af <| aa <| cm r_ (by kernel_rfl) (fun hc => ?_) (fun hc => ?_)
 · rw [if_pos hc] at hm
   refine ab <| bO [] (.n 2 (.u64 9221120237041090560) .z) qe (by kernel_rfl) ?_
   refine aa <| aQ (cJ ?_)
   obtain rfl := Option.some.inj hm
   refine aR [.u64 9221120237041090560] qe (by kernel_rfl) ?_
   exact ⟨rfl, db⟩
 rw [if_neg (by rw [hc]; decide)] at hm
 refine bc <| aa <| ab <| an <| ba 1 [] (.n 5 (.v (.float .f64 tN)) .z) qe (by kernel_rfl) ?_
 refine ag ?_
 obtain ⟨u, wT, hm⟩ := ob hm
 refine A_ Fh [] 6 (u := tN) z_ (fI wT) (by kernel_rfl) ?_
 refine ba 1 [] (.n 2 (.u64 (UInt64.ofNat f)) .z) qe (by kernel_rfl) ?_
 refine af <| aa <| aQ ?_
 obtain rfl := Option.some.inj hm
 refine aR [.u64 (UInt64.ofNat f)] qe (by kernel_rfl) ?_
 exact ⟨rfl, db⟩
theorem kB {F O : Nat → Prop} {w : World} (a_ : Nat) (b : Nat) (Fk : Nat) (JX : Nat) (LW : Fl a_ Fk) (N5 : Fl b JX) (k : Cx F O w w []) (r : Bool) (hm : e9 a_ b = some r) :
    Calls Tryz.prog 10 (ad [.v (.float .f64 Fk), .v (.float .f64 JX)]) w (fun e w' => e = .returned (SV.val (.b r)) ∧ Cx F O w w' []) := by
 unfold e9 at hm
 refine calls [.v (.float .f64 Fk), .v (.float .f64 JX)] Tryz.func10 rfl (of_decide_eq_true (by kernel_rfl)) ?_
 refine ab <| bO [] .a qe (by kernel_rfl) ?_
 refine aa <| ab <| an <| ba 1 [] (.n 5 (.v (.float .f64 Fk)) (.s .a)) qe (by kernel_rfl) ?_
 refine ag ?_
 obtain ⟨r_, cQ, hm⟩ := ob hm
 refine au [] 6 _ E4 (by kernel_rfl) (Bo (F := N0) (O := N0) _ _ LW (Cx.refl _) _ cQ) ?_
 rintro e_ w_ ⟨rfl, k_⟩
 have db := k.call k_
 refine ⟨.u64 r_, rfl, ?_⟩
 refine ba 1 [] (.n 7 (.v (.float .f64 JX)) (.k .z)) qe (by kernel_rfl) ?_
 refine ag ?_
 obtain ⟨ah, dd, hm⟩ := ob hm
 refine au [] 8 _ E4 (by kernel_rfl) (Bo (F := N0) (O := N0) _ _ N5 (Cx.refl _) _ dd) ?_
 rintro e_ k4 ⟨rfl, dE⟩
 have dU := db.call dE
 refine ⟨.u64 ah, rfl, ?_⟩
 refine ba 2 [] (.n 4 (.b (decide (r_ = ah))) .z) qe (by kernel_rfl) ?_
 refine af <| aa <| aQ ?_
 obtain rfl := Option.some.inj hm
 refine aR [.b (decide (r_ = ah))] qe (by kernel_rfl) ?_
 exact ⟨rfl, dU⟩
end Go.Sx
namespace Go.Sx
open Go.RowKit Go.Proofs
set_option linter.unusedVariables false
set_option linter.unusedSimpArgs false
set_option maxRecDepth 20000
theorem xb {F O : Nat → Prop} {w : World} (fT : ae UInt8 8) (n : UInt64) (lo : Nat) (hi : Nat) (gw : Nat) (iL : Nat) (kq : Fl lo gw) (ml : Fl hi iL) (k : Cx F O w w []) (r : Bool) (hm : mg fT n lo hi = some r) :
    Calls Tryz.prog 3 (ad [.agg [.ar e8 fT], .u64 n, .v (.float .f64 gw), .v (.float .f64 iL)]) w (fun e w' => e = .returned (SV.val (.b r)) ∧ Cx F O w w' []) := by
 unfold mg at hm
 refine calls [.agg [.ar e8 fT], .u64 n, .v (.float .f64 gw), .v (.float .f64 iL)] Tryz.func3 rfl (of_decide_eq_true (by kernel_rfl)) ?_
 refine ab <| an <| ag <| gF [] 4 (.agg [.ar e8 fT]) [.ar e8 fT] (by kernel_rfl) k ?_
 intro g w_ k_
 refine ba 1 [] (.k (.s .a)) qe (by kernel_rfl) ?_
 refine af <| aa <| ab <| ab <| an <| ag ?_
 obtain ⟨r_, cQ, hm⟩ := ob hm
 refine au [] 17 _ LA (by kernel_rfl) (AF (F := N0) (O := N0)  (Cx.refl _) _ cQ) ?_
 rintro e_ k4 ⟨rfl, db⟩
 have dE := k_.call db
 refine ⟨.b r_, rfl, ?_⟩
 refine ba 1 [] (.n 18 (.b (!r_)) (.s .a)) qe (by kernel_rfl) ?_
 refine af <| aa <| cm (!r_) (by kernel_rfl) (fun hc => ?_) (fun hc => ?_)
 · rw [if_pos hc] at hm
   refine ab <| bO [] (.n 8 (.b false) .z) qe (by kernel_rfl) ?_
   refine aa <| aQ (cJ ?_)
   obtain rfl := Option.some.inj hm
   refine aR [.b false] qe (by kernel_rfl) ?_
   have dU := dE.de .z
   exact ⟨rfl, dU⟩
 rw [if_neg (by rw [hc]; decide)] at hm
 refine bc <| aa <| ab <| an <| ba 1 [] (.n 20 (sl (some ⟨g, 0, none⟩) 8 8) (.ss .a)) (qo (.v (.slice (some ⟨g, 0, none⟩) 8 8)) <| qp (((some ⟨g, 0, none⟩) : Option Addr).isSome = true ∧ Value.slice (sD (some ⟨g, 0, none⟩) 0 8 1) (8 - 0) (8 - 0) = .slice (some ⟨g, 0, none⟩) 8 8) ⟨rfl, uA _ _ _ _ _ rfl⟩ <| qe) (by kernel_rfl) ?_
 refine ag ?_
 obtain ⟨ah, dd, hm⟩ := ob hm
 refine au [] 21 _ Hs (by kernel_rfl) (xH (F := N0) (O := N0) _ _ _ _ (Ro.n0 (Rd.vec (dE.uz 0 rfl) (c := fm.all e8 fT.l) (off := 0) (by kernel_rfl))) fT.h (Nat.le_refl _) (Cx.refl _) _ dd) ?_
 rcases ah with aX | eK
 · simp only [Sum.elim_inl, Sum.elim_inr] at hm
   rintro e_ l6 ⟨rfl, eY⟩
   have fU := dE.call eY
   refine ⟨.gD [.v (.pointer none), I aX], rfl, ?_⟩
   have g_ := fU.de .z
   refine ba 5 [] (.n 9 (.v (.pointer none)) (.n 10 (I aX) (.ss .a))) qe (by kernel_rfl) ?_
   refine af <| aa <| ab <| ab <| bO [26] (.n 29 (.b true) (.k (.s .a))) qe (by kernel_rfl) ?_
   refine aa <| cm true (by kernel_rfl) (fun _ => ?_) (fun h => by cases h)
   refine ab <| bO [] (.n 8 (.b false) .z) qe (by kernel_rfl) ?_
   refine aa <| aQ (cJ ?_)
   obtain rfl := Option.some.inj hm
   refine aR [.b false] qe (by kernel_rfl) ?_
   exact ⟨rfl, g_⟩
 · simp only [Sum.elim_inl, Sum.elim_inr] at hm
   rintro e_ qj ⟨g1, A, _, c, g2, A1, _, c1, A2, _, c2, A3, _, c3, g3, A4, _, c4, A5, _, c5, g4, A6, _, c6, rfl, rfl, rfl, rfl, rfl, rfl, rfl, rfl, gC⟩
   have gP := dE.call gC
   refine ⟨.gD [pt g1 0, I 0], rfl, ?_⟩
   have gB := gP.de (.s (.bX (.bX (.kk (.k .e)))))
   refine ba 5 [] (.n 9 (pt g1 0) (.n 10 (I 0) (.ss .a))) qe (by kernel_rfl) ?_
   refine af <| aa <| ab <| ab <| bO [26] (.n 29 (.b false) (.k (.s .a))) qe (by kernel_rfl) ?_
   refine aa <| cm false (by kernel_rfl) (fun h => by cases h) (fun _ => ?_)
   refine bc <| aa <| ab <| an <| ba 2 [] (.n 31 (pt g1 0) (.n 32 (.u64 n) (.s .a))) qe (by kernel_rfl) ?_
   refine ag ?_
   obtain ⟨gl, sT, hm⟩ := ob hm
   obtain ⟨F1, O1, lQ, hO, rp, hF, hb⟩ := gB.go (.i (.r (.i (.r (.r (.r (.i (.i (.i (.i (.i .e)))))))))))
   refine au [] 33 _ LB (by kernel_rfl) (v_ (F := F1) (O := O1) _ _ _ _ _ _ _ _ _ _ _ _ _ _ _ _ _ _ _ _ _ _ _ _ _ _ _ _ _ _ _ _ _ _ _ _ _ _ _ _ _ _ _ _ (Ro.kF lQ.off rp 0 rfl) (gB.fS 1 rfl) (gB.kr 1 rfl) (Ro.kF lQ.off rp 1 rfl) (gB.fS 3 rfl) (gB.kr 3 rfl) (Ro.kF lQ.off rp 2 rfl) (gB.fS 4 rfl) (gB.kr 4 rfl) (Ro.kF lQ.off rp 3 rfl) (gB.fS 5 rfl) (gB.kr 5 rfl) lQ _ sT) ?_
   rcases gl with mA | nr
   · simp only [Sum.elim_inl, Sum.elim_inr] at hm
     rintro e_ qk ⟨A7, _, c7, A8, _, c8, A9, _, c9, rfl, rfl, rfl, rfl, dO⟩
     have cV := hb qk _ _ dO (.c (.c (.c (.c (.c (.c (.c .n)))))))
     refine ⟨.gD [.u64 0, I 1], rfl, ?_⟩
     refine ba 5 [] (.n 11 (.u64 0) (.n 12 (I 1) (.oQ .a))) qe (by kernel_rfl) ?_
     refine af <| aa <| ab <| ab <| bO [48] (.n 54 (.b (((decide (n = 0)) && false) || ((decide ((0 : UInt64) < n)) && true))) (.ss (.k (.s .a)))) qe (by kernel_rfl) ?_
     refine aa <| cm (((decide (n = 0)) && false) || ((decide ((0 : UInt64) < n)) && true)) (by kernel_rfl) (fun k5 => ?_) (fun k5 => ?_)
     · rw [if_pos k5] at hm
       refine ab <| bO [] (.n 8 (.b false) .z) qe (by kernel_rfl) ?_
       refine aa <| aQ (cJ ?_)
       obtain rfl := Option.some.inj hm
       refine aR [.b false] qe (by kernel_rfl) ?_
       have ff := cV.de .z
       exact ⟨rfl, ff⟩
     rw [if_neg (by rw [k5]; decide)] at hm
     refine bc <| aa <| ab <| an <| ba 1 [] (.n 56 (pt g1 0) (.s .a)) qe (by kernel_rfl) ?_
     refine ag ?_
     have gI := cV.de (.bX (.bX (.kk (.k .e))))
     obtain ⟨nV, Di, hm⟩ := ob hm
     have ez := ((((((((((gI.pk (.t (.t (.t (.t (.t (.t (.t (.t (.t (.t .h))))))))))).pk (.t (.t (.t (.t (.t (.t (.t (.t (.t (.t .h))))))))))).pk (.t (.t (.t (.t (.t (.t (.t (.t (.t (.t .h))))))))))).pk (.t (.t (.t (.t (.t (.t (.t (.t (.t (.t .h))))))))))).pk (.t (.t (.t (.t (.t .h)))))).pk (.t (.t (.t (.t (.t .h)))))).pk (.t (.t (.t (.t (.t (.t (.t (.t .h))))))))).pk (.t (.t (.t (.t (.t (.t (.t (.t .h))))))))).pk (.t (.t (.t (.t (.t (.t (.t (.t .h))))))))).pk (.t (.t (.t (.t (.t (.t (.t (.t (.t .h)))))))))).pk (.t (.t (.t (.t (.t (.t (.t (.t (.t (.t .h))))))))))
     obtain ⟨xI, xJ, nF, Fi, tF, si, xK⟩ := ez.go (.i (.i (.i (.i (.i (.i (.i (.r (.r (.r (.r .e)))))))))))
     refine au [] 57 _ Ee (by kernel_rfl) (wa (F := xI) (O := xJ) _ _ _ _ _ _ _ _ _ _ _ _ _ _ _ _ _ _ _ _ _ _ _ _ _ _ _ _ _ _ _ _ _ _ _ _ _ _ _ _ _ _ _ (Ro.kF nF.off tF 0 rfl) (ez.fS 7 rfl) (ez.kr 7 rfl) (Ro.kF nF.off tF 1 rfl) (ez.fS 8 rfl) (ez.kr 8 rfl) (Ro.kF nF.off tF 2 rfl) (ez.fS 9 rfl) (ez.kr 9 rfl) (Ro.kF nF.off tF 3 rfl) (ez.fS 10 rfl) (ez.kr 10 rfl) nF _ Di) ?_
     rintro e_ rX ⟨fb, wq, _, sV, yr, _, uf, Cn, _, xS, g5, _, Co, Ao, rfl, rfl, rfl, rfl, rfl, jj⟩
     have gQ := xK rX _ _ jj (.c (.c (.c (.c (.c (.c (.c (.c .n))))))))
     refine ⟨.gD [.v (.float .f64 fb), I nV.2.1], rfl, ?_⟩
     refine ba 5 [] (.n 13 (.v (.float .f64 fb)) (.n 14 (I nV.2.1) (.ss .a))) qe (by kernel_rfl) ?_
     refine af <| aa <| ab <| ab <| an <| ba 3 [] (.n 62 (.b (decide (nV.2.1 ≠ 0))) (.k (.s .a))) qe (by kernel_rfl) ?_
     refine lj 62 (decide (nV.2.1 ≠ 0)) (.s .a) (by kernel_rfl) (fun hg => ?_) (fun hg => ?_)
     · rw [if_pos (of_decide_eq_true hg)] at hm
       refine ba 3 [62] (.n 65 (.gD []) .a) qe (by kernel_rfl) ?_
       refine ba 5 [62, 65] (.n 70 (.b true) (.oQ .a)) qe (by kernel_rfl) ?_
       refine af <| aa <| cm true (by kernel_rfl) (fun _ => ?_) (fun h => by cases h)
       refine ab <| bO [] (.n 8 (.b false) .z) qe (by kernel_rfl) ?_
       refine aa <| aQ (cJ ?_)
       obtain rfl := Option.some.inj hm
       refine aR [.b false] qe (by kernel_rfl) ?_
       have kV := gQ.de .z
       exact ⟨rfl, kV⟩
     · rw [if_neg (of_decide_eq_false hg)] at hm
       refine ba 1 [62] (.n 63 (.v (.float .f64 fb)) .a) qe (by kernel_rfl) ?_
       refine ag <| jy [62] 64 (u := fb) (v := 0) (by kernel_rfl) (.inr (.inr (.inr (.inr (.inr rfl))))) Ao (Fl.lit (c := 0) (by kernel_rfl)) ?_
       refine ba 1 [62] (.n 65 (.b (dr .geq nV.1 0)) (.ss .a)) qe (by kernel_rfl) ?_
       refine lj 65 (dr .geq nV.1 0) (.s .a) (by kernel_rfl) (fun LQ => ?_) (fun LQ => ?_)
       · rw [if_pos LQ] at hm
         refine ba 1 [65] (.n 66 (.v (.float .f64 fb)) (.kk (.s .a))) qe (by kernel_rfl) ?_
         refine ag <| jy [65] 67 (u := fb) (v := 4607182418800017408) (by kernel_rfl) (.inr (.inr (.inl rfl))) Ao (Fl.lit (c := 4607182418800017408) (by kernel_rfl)) ?_
         refine ba 3 [62, 65] (.n 70 (.b (!(dr .lss nV.1 4607182418800017408))) (.jn .a)) qe (by kernel_rfl) ?_
         refine af <| aa <| cm (!(dr .lss nV.1 4607182418800017408)) (by kernel_rfl) (fun rN => ?_) (fun rN => ?_)
         · rw [if_pos rN] at hm
           refine ab <| bO [] (.n 8 (.b false) .z) qe (by kernel_rfl) ?_
           refine aa <| aQ (cJ ?_)
           obtain rfl := Option.some.inj hm
           refine aR [.b false] qe (by kernel_rfl) ?_
           have lz := gQ.de .z
           exact ⟨rfl, lz⟩
         rw [if_neg (by rw [rN]; decide)] at hm
         refine bc <| aa <| ab <| an <| ba 3 [] (.n 72 (pt g1 0) (.n 73 (.v (.float .f64 gw)) (.n 74 (.v (.float .f64 iL)) (.ss .a)))) qe (by kernel_rfl) ?_
         refine ag ?_
         obtain ⟨ue, H2, hm⟩ := ob hm
         have k6 := (((((((((((gQ.pk (.t (.t (.t (.t (.t (.t (.t (.t (.t (.t (.t .h)))))))))))).pk (.t (.t (.t (.t (.t (.t (.t (.t (.t (.t (.t .h)))))))))))).pk (.t (.t (.t (.t (.t (.t (.t (.t (.t (.t (.t .h)))))))))))).pk (.t (.t (.t (.t (.t (.t (.t (.t (.t (.t (.t .h)))))))))))).pk (.t (.t (.t (.t (.t (.t (.t (.t (.t (.t .h))))))))))).pk (.t (.t (.t (.t (.t (.t .h))))))).pk (.t (.t (.t (.t (.t (.t .h))))))).pk (.t (.t (.t (.t (.t (.t (.t (.t (.t .h)))))))))).pk (.t (.t (.t (.t (.t (.t (.t (.t (.t .h)))))))))).pk (.t (.t (.t (.t (.t (.t (.t (.t (.t .h)))))))))).pk (.t (.t (.t (.t (.t (.t (.t (.t (.t (.t .h))))))))))).pk (.t (.t (.t (.t (.t (.t (.t (.t (.t (.t (.t .h)))))))))))
         obtain ⟨F6, F7, ug, Nc, zY, vV, CP⟩ := k6.go (.i (.i (.i (.i (.i (.i (.i (.r (.r (.r (.r (.r .e))))))))))))
         refine au [] 75 _ Ht (by kernel_rfl) (pB (F := F6) (O := F7) _ _ _ _ _ _ _ _ _ _ _ _ _ _ _ _ _ _ _ _ _ _ _ _ _ _ _ _ _ _ _ _ _ _ _ _ _ _ _ _ _ _ _ _ _ _ _ _ _ _ _ (Ro.kF ug.off zY 1 rfl) (k6.fS 8 rfl) (k6.kr 8 rfl) (Ro.kF ug.off zY 2 rfl) (k6.fS 9 rfl) (k6.kr 9 rfl) (Ro.kF ug.off zY 3 rfl) (k6.fS 10 rfl) (k6.kr 10 rfl) (Ro.kF ug.off zY 4 rfl) (k6.fS 11 rfl) (k6.kr 11 rfl) (Ro.kF ug.off zY 0 rfl) (k6.fS 7 rfl) (k6.kr 7 rfl) kq ml ug _ H2) ?_
         rintro e_ wQ ⟨Cu, IV, _, O5, Tn, _, Tp, To, _, Uo, AK, rfl, rfl, rfl, rfl, lJ⟩
         have my := CP wQ _ _ lJ (.c (.c (.c (.c (.c (.c (.c .n)))))))
         refine ⟨.gD [.v (.float .f64 Cu), I ue.2.1], rfl, ?_⟩
         have nE := my.de .z
         refine ba 5 [] (.n 15 (.v (.float .f64 Cu)) (.n 16 (I ue.2.1) (.jn .a))) qe (by kernel_rfl) ?_
         refine af <| aa <| ab <| ab <| an <| ba 2 [] (.n 78 (.v (.float .f64 gw)) (.n 79 (.v (.float .f64 gw)) .a)) qe (by kernel_rfl) ?_
         refine ag <| oC [] 80 (u := gw) (v := gw) (by kernel_rfl) (.inr (.inl rfl)) kq kq nE ?_
         intro P4 wR LS nh
         refine ag <| jy [] 81 (u := P4) (v := 0) (by kernel_rfl) (.inr (.inl rfl)) LS (Fl.lit (c := 0) (by kernel_rfl)) ?_
         refine ba 1 [] (.n 82 (.b (dr .neq (lG .sub lo lo) 0)) (.jn .a)) qe (by kernel_rfl) ?_
         refine lj 82 (dr .neq (lG .sub lo lo) 0) (.s .a) (by kernel_rfl) (fun LR => ?_) (fun LR => ?_)
         · rw [if_pos LR] at hm
           refine ba 6 [82] (.n 88 (.b true) (.s .a)) qe (by kernel_rfl) ?_
           refine ba 5 [88] (.n 93 (.b true) (.s .a)) qe (by kernel_rfl) ?_
           refine ba 9 [93] (.n 102 (.b true) (.s .a)) qe (by kernel_rfl) ?_
           refine af <| aa <| cm true (by kernel_rfl) (fun _ => ?_) (fun h => by cases h)
           refine ab <| an <| ba 3 [] (.n 105 (.b (decide (ue.2.1 = 1))) (.s (.k .z))) qe (by kernel_rfl) ?_
           refine lj 105 (decide (ue.2.1 = 1)) (.s .a) (by kernel_rfl) (fun P6 => ?_) (fun P6 => ?_)
           · rw [if_pos (of_decide_eq_true P6)] at hm
             refine ba 1 [105] (.n 106 (.v (.float .f64 Cu)) (.k .z)) qe (by kernel_rfl) ?_
             refine ag ?_
             obtain ⟨KI, N6, hm⟩ := ob hm
             refine au [105] 107 _ se (by kernel_rfl) (kB (F := N0) (O := N0) _ _ _ _ AK (Fl.lit (c := 0) (by kernel_rfl)) (Cx.refl _) _ N6) ?_
             rintro e_ Av ⟨rfl, mz⟩
             have sw := nh.call mz
             refine ⟨.b KI, rfl, ?_⟩
             refine ba 2 [105] (.n 8 (.b KI) .z) qe (by kernel_rfl) ?_
             refine af <| aa <| aQ (cJ ?_)
             obtain rfl := Option.some.inj hm
             refine aR [.b KI] qe (by kernel_rfl) ?_
             exact ⟨rfl, sw⟩
           · rw [if_neg (of_decide_eq_false P6)] at hm
             refine ba 4 [105] (.n 8 (.b false) .z) qe (by kernel_rfl) ?_
             refine af <| aa <| aQ (cJ ?_)
             obtain rfl := Option.some.inj hm
             refine aR [.b false] qe (by kernel_rfl) ?_
             exact ⟨rfl, nh⟩
         · rw [if_neg (by rw [LR]; decide)] at hm
           refine ba 2 [82] (.n 83 (.v (.float .f64 iL)) (.n 84 (.v (.float .f64 iL)) .a)) qe (by kernel_rfl) ?_
           refine ag <| oC [82] 85 (u := iL) (v := iL) (by kernel_rfl) (.inr (.inl rfl)) ml ml nh ?_
           intro P5 DE LU re
           refine ag <| jy [82] 86 (u := P5) (v := 0) (by kernel_rfl) (.inr (.inl rfl)) LU (Fl.lit (c := 0) (by kernel_rfl)) ?_
           refine ba 2 [82] (.n 88 (.b (dr .neq (lG .sub hi hi) 0)) (.jn (.s .a))) qe (by kernel_rfl) ?_
           refine lj 88 (dr .neq (lG .sub hi hi) 0) (.s .a) (by kernel_rfl) (fun P7 => ?_) (fun P7 => ?_)
           · rw [if_pos P7] at hm
             refine ba 5 [88] (.n 93 (.b true) (.s .a)) qe (by kernel_rfl) ?_
             refine ba 9 [93] (.n 102 (.b true) (.s .a)) qe (by kernel_rfl) ?_
             refine af <| aa <| cm true (by kernel_rfl) (fun _ => ?_) (fun h => by cases h)
             refine ab <| an <| ba 3 [] (.n 105 (.b (decide (ue.2.1 = 1))) (.s (.k .z))) qe (by kernel_rfl) ?_
             refine lj 105 (decide (ue.2.1 = 1)) (.s .a) (by kernel_rfl) (fun P8 => ?_) (fun P8 => ?_)
             · rw [if_pos (of_decide_eq_true P8)] at hm
               refine ba 1 [105] (.n 106 (.v (.float .f64 Cu)) (.k .z)) qe (by kernel_rfl) ?_
               refine ag ?_
               obtain ⟨Ea, LX, hm⟩ := ob hm
               refine au [105] 107 _ se (by kernel_rfl) (kB (F := N0) (O := N0) _ _ _ _ AK (Fl.lit (c := 0) (by kernel_rfl)) (Cx.refl _) _ LX) ?_
               rintro e_ Aw ⟨rfl, yU⟩
               have u7 := re.call yU
               refine ⟨.b Ea, rfl, ?_⟩
               refine ba 2 [105] (.n 8 (.b Ea) .z) qe (by kernel_rfl) ?_
               refine af <| aa <| aQ (cJ ?_)
               obtain rfl := Option.some.inj hm
               refine aR [.b Ea] qe (by kernel_rfl) ?_
               exact ⟨rfl, u7⟩
             · rw [if_neg (of_decide_eq_false P8)] at hm
               refine ba 4 [105] (.n 8 (.b false) .z) qe (by kernel_rfl) ?_
               refine af <| aa <| aQ (cJ ?_)
               obtain rfl := Option.some.inj hm
               refine aR [.b false] qe (by kernel_rfl) ?_
               exact ⟨rfl, re⟩
           · rw [if_neg (by rw [P7]; decide)] at hm
             refine ba 2 [88] (.n 89 (.v (.float .f64 gw)) (.n 90 (.v (.float .f64 iL)) .a)) qe (by kernel_rfl) ?_
             refine ag <| jy [88] 91 (u := gw) (v := iL) (by kernel_rfl) (.inr (.inr (.inr (.inr (.inl rfl))))) kq ml ?_
             refine ba 2 [88] (.n 93 (.b (dr .gtr lo hi)) (.jn .a)) qe (by kernel_rfl) ?_
             refine lj 93 (dr .gtr lo hi) (.s .a) (by kernel_rfl) (fun P9 => ?_) (fun P9 => ?_)
             · rw [if_pos P9] at hm
               refine ba 9 [93] (.n 102 (.b true) (.s .a)) qe (by kernel_rfl) ?_
               refine af <| aa <| cm true (by kernel_rfl) (fun _ => ?_) (fun h => by cases h)
               refine ab <| an <| ba 3 [] (.n 105 (.b (decide (ue.2.1 = 1))) (.s (.k .z))) qe (by kernel_rfl) ?_
               refine lj 105 (decide (ue.2.1 = 1)) (.s .a) (by kernel_rfl) (fun P_ => ?_) (fun P_ => ?_)
               · rw [if_pos (of_decide_eq_true P_)] at hm
                 refine ba 1 [105] (.n 106 (.v (.float .f64 Cu)) (.k .z)) qe (by kernel_rfl) ?_
                 refine ag ?_
                 obtain ⟨Ec, LY, hm⟩ := ob hm
                 refine au [105] 107 _ se (by kernel_rfl) (kB (F := N0) (O := N0) _ _ _ _ AK (Fl.lit (c := 0) (by kernel_rfl)) (Cx.refl _) _ LY) ?_
                 rintro e_ De ⟨rfl, yp⟩
                 have yq := re.call yp
                 refine ⟨.b Ec, rfl, ?_⟩
                 refine ba 2 [105] (.n 8 (.b Ec) .z) qe (by kernel_rfl) ?_
                 refine af <| aa <| aQ (cJ ?_)
                 obtain rfl := Option.some.inj hm
                 refine aR [.b Ec] qe (by kernel_rfl) ?_
                 exact ⟨rfl, yq⟩
               · rw [if_neg (of_decide_eq_false P_)] at hm
                 refine ba 4 [105] (.n 8 (.b false) .z) qe (by kernel_rfl) ?_
                 refine af <| aa <| aQ (cJ ?_)
                 obtain rfl := Option.some.inj hm
                 refine aR [.b false] qe (by kernel_rfl) ?_
                 exact ⟨rfl, re⟩
             · rw [if_neg (by rw [P9]; decide)] at hm
               refine ba 2 [93] (.n 94 (.v (.float .f64 iL)) (.n 95 (.v (.float .f64 gw)) .a)) qe (by kernel_rfl) ?_
               refine ag <| oC [93] 96 (u := iL) (v := gw) (by kernel_rfl) (.inr (.inl rfl)) ml kq re ?_
               intro N4 Ef LV JU
               refine ba 2 [93] (.n 97 (.v (.float .f64 iL)) (.n 98 (.v (.float .f64 gw)) (.k (.ss .a)))) qe (by kernel_rfl) ?_
               refine ag <| oC [93] 99 (u := iL) (v := gw) (by kernel_rfl) (.inr (.inl rfl)) ml kq JU ?_
               intro Tq LF Qa Qb
               refine ag <| oC [93] 100 (u := N4) (v := Tq) (by kernel_rfl) (.inr (.inl rfl)) LV Qa Qb ?_
               intro Tr N1 Qc F_
               refine ag <| jy [93] 101 (u := Tr) (v := 0) (by kernel_rfl) (.inr (.inl rfl)) Qc (Fl.lit (c := 0) (by kernel_rfl)) ?_
               refine ba 1 [93] (.n 102 (.b (dr .neq (lG .sub (lG .sub hi lo) (lG .sub hi lo)) 0)) (.jn (.oQ .a))) qe (by kernel_rfl) ?_
               refine af <| aa <| cm (dr .neq (lG .sub (lG .sub hi lo) (lG .sub hi lo)) 0) (by kernel_rfl) (fun xQ => ?_) (fun xQ => ?_)
               · rw [if_pos xQ] at hm
                 refine ab <| an <| ba 3 [] (.n 105 (.b (decide (ue.2.1 = 1))) (.s (.k .z))) qe (by kernel_rfl) ?_
                 refine lj 105 (decide (ue.2.1 = 1)) (.s .a) (by kernel_rfl) (fun Qd => ?_) (fun Qd => ?_)
                 · rw [if_pos (of_decide_eq_true Qd)] at hm
                   refine ba 1 [105] (.n 106 (.v (.float .f64 Cu)) (.k .z)) qe (by kernel_rfl) ?_
                   refine ag ?_
                   obtain ⟨Ed, LZ, hm⟩ := ob hm
                   refine au [105] 107 _ se (by kernel_rfl) (kB (F := N0) (O := N0) _ _ _ _ AK (Fl.lit (c := 0) (by kernel_rfl)) (Cx.refl _) _ LZ) ?_
                   rintro e_ PU ⟨rfl, Qe⟩
                   have Qf := F_.call Qe
                   refine ⟨.b Ed, rfl, ?_⟩
                   refine ba 2 [105] (.n 8 (.b Ed) .z) qe (by kernel_rfl) ?_
                   refine af <| aa <| aQ (cJ ?_)
                   obtain rfl := Option.some.inj hm
                   refine aR [.b Ed] qe (by kernel_rfl) ?_
                   exact ⟨rfl, Qf⟩
                 · rw [if_neg (of_decide_eq_false Qd)] at hm
                   refine ba 4 [105] (.n 8 (.b false) .z) qe (by kernel_rfl) ?_
                   refine af <| aa <| aQ (cJ ?_)
                   obtain rfl := Option.some.inj hm
                   refine aR [.b false] qe (by kernel_rfl) ?_
                   exact ⟨rfl, F_⟩
               rw [if_neg (by rw [xQ]; decide)] at hm
               refine bc <| aa <| ab <| an <| ba 3 [] (.n 111 (.b (decide (ue.2.1 = 0))) (.s (.k (.s .a)))) qe (by kernel_rfl) ?_
               refine lj 111 (decide (ue.2.1 = 0)) (.s .a) (by kernel_rfl) (fun Qg => ?_) (fun Qg => ?_)
               · rw [if_pos (of_decide_eq_true Qg)] at hm
                 refine ba 2 [111] (.n 112 (.v (.float .f64 Cu)) (.n 113 (.v (.float .f64 gw)) .a)) qe (by kernel_rfl) ?_
                 refine ag <| jy [111] 114 (u := Cu) (v := gw) (by kernel_rfl) (.inr (.inr (.inr (.inr (.inr rfl))))) AK kq ?_
                 refine ba 2 [111] (.n 116 (.b (dr .geq ue.1 lo)) (.jn .a)) qe (by kernel_rfl) ?_
                 refine lj 116 (dr .geq ue.1 lo) (.s .a) (by kernel_rfl) (fun L3 => ?_) (fun L3 => ?_)
                 · rw [if_pos L3] at hm
                   refine ba 2 [116] (.n 117 (.v (.float .f64 gw)) (.n 118 (.v (.float .f64 iL)) (.uk .z))) qe (by kernel_rfl) ?_
                   refine ag <| jy [116] 119 (u := gw) (v := iL) (by kernel_rfl) (.inr (.inl rfl)) kq ml ?_
                   refine ba 1 [116] (.n 120 (.b (dr .neq lo hi)) (.oQ .a)) qe (by kernel_rfl) ?_
                   refine lj 120 (dr .neq lo hi) (.s .a) (by kernel_rfl) (fun L4 => ?_) (fun L4 => ?_)
                   · rw [if_pos L4] at hm
                     refine ba 6 [116, 120] (.n 8 (.b true) .z) qe (by kernel_rfl) ?_
                     refine af <| aa <| aQ ?_
                     obtain rfl := Option.some.inj hm
                     refine aR [.b true] qe (by kernel_rfl) ?_
                     exact ⟨rfl, F_⟩
                   · rw [if_neg (by rw [L4]; decide)] at hm
                     refine ba 2 [120] (.n 121 (.v (.float .f64 Cu)) (.n 122 (.v (.float .f64 gw)) (.kk .z))) qe (by kernel_rfl) ?_
                     refine ag <| jy [120] 123 (u := Cu) (v := gw) (by kernel_rfl) (.inl rfl) AK kq ?_
                     refine ba 3 [116, 120] (.n 8 (.b (dr .eql ue.1 lo)) .z) qe (by kernel_rfl) ?_
                     refine af <| aa <| aQ ?_
                     obtain rfl := Option.some.inj hm
                     refine aR [.b (dr .eql ue.1 lo)] qe (by kernel_rfl) ?_
                     exact ⟨rfl, F_⟩
                 · rw [if_neg (by rw [L3]; decide)] at hm
                   refine ba 4 [116] (.n 120 (.gD []) (.uk .z)) qe (by kernel_rfl) ?_
                   refine ba 6 [116, 120] (.n 8 (.b false) .z) qe (by kernel_rfl) ?_
                   refine af <| aa <| aQ ?_
                   obtain rfl := Option.some.inj hm
                   refine aR [.b false] qe (by kernel_rfl) ?_
                   exact ⟨rfl, F_⟩
               · rw [if_neg (of_decide_eq_false Qg)] at hm
                 refine ba 5 [111] (.n 116 (.b false) (.s .a)) qe (by kernel_rfl) ?_
                 refine ba 4 [116] (.n 120 (.gD []) (.uk .z)) qe (by kernel_rfl) ?_
                 refine ba 6 [116, 120] (.n 8 (.b false) .z) qe (by kernel_rfl) ?_
                 refine af <| aa <| aQ ?_
                 obtain rfl := Option.some.inj hm
                 refine aR [.b false] qe (by kernel_rfl) ?_
                 exact ⟨rfl, F_⟩
       · rw [if_neg (by rw [LQ]; decide)] at hm
         refine ba 5 [62, 65] (.n 70 (.b true) (.oQ .a)) qe (by kernel_rfl) ?_
         refine af <| aa <| cm true (by kernel_rfl) (fun _ => ?_) (fun h => by cases h)
         refine ab <| bO [] (.n 8 (.b false) .z) qe (by kernel_rfl) ?_
         refine aa <| aQ (cJ ?_)
         obtain rfl := Option.some.inj hm
         refine aR [.b false] qe (by kernel_rfl) ?_
         have Qh := gQ.de .z
         exact ⟨rfl, Qh⟩
   · simp only [Sum.elim_inl, Sum.elim_inr] at hm
     rintro e_ Qi ⟨Up, _, Uq, Ur, _, Us, Ut, _, Uu, g6, _, Uv, rfl, rfl, rfl, rfl, rfl, Qj⟩
     have N7 := hb Qi _ _ Qj (.c (.c (.c (.c (.c (.c (.c (.c .n))))))))
     refine ⟨.gD [.u64 nr.1, I nr.2.1], rfl, ?_⟩
     refine ba 5 [] (.n 11 (.u64 nr.1) (.n 12 (I nr.2.1) (.oQ .a))) qe (by kernel_rfl) ?_
     refine af <| aa <| ab <| ab <| bO [] (.n 54 (.b (((decide (n = 0)) && (decide (nr.2.1 ≠ 1))) || ((decide ((0 : UInt64) < n)) && ((decide (nr.2.1 ≠ 0)) || (decide (n ≤ nr.1)))))) (.ss (.k (.s .a)))) qe (by kernel_rfl) ?_
     refine aa <| cm (((decide (n = 0)) && (decide (nr.2.1 ≠ 1))) || ((decide ((0 : UInt64) < n)) && ((decide (nr.2.1 ≠ 0)) || (decide (n ≤ nr.1))))) (by kernel_rfl) (fun Ak => ?_) (fun Ak => ?_)
     · rw [if_pos Ak] at hm
       refine ab <| bO [] (.n 8 (.b false) .z) qe (by kernel_rfl) ?_
       refine aa <| aQ (cJ ?_)
       obtain rfl := Option.some.inj hm
       refine aR [.b false] qe (by kernel_rfl) ?_
       have Qk := N7.de .z
       exact ⟨rfl, Qk⟩
     rw [if_neg (by rw [Ak]; decide)] at hm
     refine bc <| aa <| ab <| an <| ba 1 [] (.n 56 (pt g1 0) (.s .a)) qe (by kernel_rfl) ?_
     refine ag ?_
     have Ql := N7.de (.bX (.bX (.bX .e)))
     obtain ⟨qg, L5, hm⟩ := ob hm
     have Ac := (((((((((((Ql.pk (.t (.t (.t (.t (.t (.t (.t (.t (.t (.t (.t .h)))))))))))).pk (.t (.t (.t (.t (.t (.t (.t (.t (.t (.t (.t .h)))))))))))).pk (.t (.t (.t (.t (.t (.t (.t (.t (.t (.t (.t .h)))))))))))).pk (.t (.t (.t (.t (.t (.t (.t (.t (.t (.t (.t .h)))))))))))).pk (.t (.t (.t (.t (.t (.t (.t (.t (.t (.t .h))))))))))).pk (.t (.t (.t (.t (.t (.t .h))))))).pk (.t (.t (.t (.t (.t (.t .h))))))).pk (.t (.t (.t (.t (.t (.t (.t (.t (.t .h)))))))))).pk (.t (.t (.t (.t (.t (.t (.t (.t (.t .h)))))))))).pk (.t (.t (.t (.t (.t (.t (.t (.t (.t .h)))))))))).pk (.t (.t (.t (.t (.t (.t (.t (.t (.t (.t .h))))))))))).pk (.t (.t (.t (.t (.t (.t (.t (.t (.t (.t (.t .h)))))))))))
     obtain ⟨Ts, Tt, Ga, Uw, H_, Ux, Tu⟩ := Ac.go (.i (.i (.i (.i (.i (.i (.i (.r (.r (.r (.r (.r .e))))))))))))
     refine au [] 57 _ Ee (by kernel_rfl) (pq (F := Ts) (O := Tt) _ _ _ _ _ _ _ _ _ _ _ _ _ _ _ _ _ _ _ _ _ _ _ _ _ _ _ _ _ _ _ _ _ _ _ _ _ _ _ _ _ _ _ _ _ _ _ (Ro.kF Ga.off H_ 1 rfl) (Ac.fS 8 rfl) (Ac.kr 8 rfl) (Ro.kF Ga.off H_ 2 rfl) (Ac.fS 9 rfl) (Ac.kr 9 rfl) (Ro.kF Ga.off H_ 3 rfl) (Ac.fS 10 rfl) (Ac.kr 10 rfl) (Ro.kF Ga.off H_ 4 rfl) (Ac.fS 11 rfl) (Ac.kr 11 rfl) (Ro.kF Ga.off H_ 0 rfl) (Ac.fS 7 rfl) (Ac.kr 7 rfl) Ga _ L5) ?_
     rintro e_ Qm ⟨AJ, Uy, _, Uz, UA, _, UB, UC, _, UD, N8, rfl, rfl, rfl, rfl, Qn⟩
     have JY := Tu Qm _ _ Qn (.c (.c (.c (.c (.c (.c (.c .n)))))))
     refine ⟨.gD [.v (.float .f64 AJ), I qg.2.1], rfl, ?_⟩
     refine ba 5 [] (.n 13 (.v (.float .f64 AJ)) (.n 14 (I qg.2.1) (.ss .a))) qe (by kernel_rfl) ?_
     refine af <| aa <| ab <| ab <| an <| ba 3 [] (.n 62 (.b (decide (qg.2.1 ≠ 0))) (.k (.s .a))) qe (by kernel_rfl) ?_
     refine lj 62 (decide (qg.2.1 ≠ 0)) (.s .a) (by kernel_rfl) (fun F2 => ?_) (fun F2 => ?_)
     · rw [if_pos (of_decide_eq_true F2)] at hm
       refine ba 3 [62] (.n 65 (.gD []) .a) qe (by kernel_rfl) ?_
       refine ba 5 [62, 65] (.n 70 (.b true) (.oQ .a)) qe (by kernel_rfl) ?_
       refine af <| aa <| cm true (by kernel_rfl) (fun _ => ?_) (fun h => by cases h)
       refine ab <| bO [] (.n 8 (.b false) .z) qe (by kernel_rfl) ?_
       refine aa <| aQ (cJ ?_)
       obtain rfl := Option.some.inj hm
       refine aR [.b false] qe (by kernel_rfl) ?_
       have Qo := JY.de .z
       exact ⟨rfl, Qo⟩
     · rw [if_neg (of_decide_eq_false F2)] at hm
       refine ba 1 [62] (.n 63 (.v (.float .f64 AJ)) .a) qe (by kernel_rfl) ?_
       refine ag <| jy [62] 64 (u := AJ) (v := 0) (by kernel_rfl) (.inr (.inr (.inr (.inr (.inr rfl))))) N8 (Fl.lit (c := 0) (by kernel_rfl)) ?_
       refine ba 1 [62] (.n 65 (.b (dr .geq qg.1 0)) (.ss .a)) qe (by kernel_rfl) ?_
       refine lj 65 (dr .geq qg.1 0) (.s .a) (by kernel_rfl) (fun L6 => ?_) (fun L6 => ?_)
       · rw [if_pos L6] at hm
         refine ba 1 [65] (.n 66 (.v (.float .f64 AJ)) (.kk (.s .a))) qe (by kernel_rfl) ?_
         refine ag <| jy [65] 67 (u := AJ) (v := 4607182418800017408) (by kernel_rfl) (.inr (.inr (.inl rfl))) N8 (Fl.lit (c := 4607182418800017408) (by kernel_rfl)) ?_
         refine ba 3 [62, 65] (.n 70 (.b (!(dr .lss qg.1 4607182418800017408))) (.jn .a)) qe (by kernel_rfl) ?_
         refine af <| aa <| cm (!(dr .lss qg.1 4607182418800017408)) (by kernel_rfl) (fun wm => ?_) (fun wm => ?_)
         · rw [if_pos wm] at hm
           refine ab <| bO [] (.n 8 (.b false) .z) qe (by kernel_rfl) ?_
           refine aa <| aQ (cJ ?_)
           obtain rfl := Option.some.inj hm
           refine aR [.b false] qe (by kernel_rfl) ?_
           have Qp := JY.de .z
           exact ⟨rfl, Qp⟩
         rw [if_neg (by rw [wm]; decide)] at hm
         refine bc <| aa <| ab <| an <| ba 3 [] (.n 72 (pt g1 0) (.n 73 (.v (.float .f64 gw)) (.n 74 (.v (.float .f64 iL)) (.ss .a)))) qe (by kernel_rfl) ?_
         refine ag ?_
         obtain ⟨pv, L7, hm⟩ := ob hm
         have Ad := (((((((((((JY.pk (.t (.t (.t (.t (.t (.t (.t (.t (.t (.t (.t .h)))))))))))).pk (.t (.t (.t (.t (.t (.t (.t (.t (.t (.t (.t .h)))))))))))).pk (.t (.t (.t (.t (.t (.t (.t (.t (.t (.t (.t .h)))))))))))).pk (.t (.t (.t (.t (.t (.t (.t (.t (.t (.t (.t .h)))))))))))).pk (.t (.t (.t (.t (.t (.t (.t (.t (.t (.t (.t .h)))))))))))).pk (.t (.t (.t (.t (.t (.t .h))))))).pk (.t (.t (.t (.t (.t (.t .h))))))).pk (.t (.t (.t (.t (.t (.t (.t (.t (.t .h)))))))))).pk (.t (.t (.t (.t (.t (.t (.t (.t (.t .h)))))))))).pk (.t (.t (.t (.t (.t (.t (.t (.t (.t .h)))))))))).pk (.t (.t (.t (.t (.t (.t (.t (.t (.t (.t .h))))))))))).pk (.t (.t (.t (.t (.t (.t (.t (.t (.t (.t (.t .h)))))))))))
         obtain ⟨Tv, Tw, Gc, UE, Ia, UF, Tx⟩ := Ad.go (.i (.i (.i (.i (.i (.i (.i (.r (.r (.r (.r (.r .e))))))))))))
         refine au [] 75 _ Ht (by kernel_rfl) (pB (F := Tv) (O := Tw) _ _ _ _ _ _ _ _ _ _ _ _ _ _ _ _ _ _ _ _ _ _ _ _ _ _ _ _ _ _ _ _ _ _ _ _ _ _ _ _ _ _ _ _ _ _ _ _ _ _ _ (Ro.kF Gc.off Ia 1 rfl) (Ad.fS 8 rfl) (Ad.kr 8 rfl) (Ro.kF Gc.off Ia 2 rfl) (Ad.fS 9 rfl) (Ad.kr 9 rfl) (Ro.kF Gc.off Ia 3 rfl) (Ad.fS 10 rfl) (Ad.kr 10 rfl) (Ro.kF Gc.off Ia 4 rfl) (Ad.fS 11 rfl) (Ad.kr 11 rfl) (Ro.kF Gc.off Ia 0 rfl) (Ad.fS 7 rfl) (Ad.kr 7 rfl) kq ml Gc _ L7) ?_
         rintro e_ Qq ⟨IW, UG, _, UH, UI, _, UJ, UK, _, UL, Gd, rfl, rfl, rfl, rfl, Qr⟩
         have Qs := Tx Qq _ _ Qr (.c (.c (.c (.c (.c (.c (.c .n)))))))
         refine ⟨.gD [.v (.float .f64 IW), I pv.2.1], rfl, ?_⟩
         have Qt := Qs.de .z
         refine ba 5 [] (.n 15 (.v (.float .f64 IW)) (.n 16 (I pv.2.1) (.jn .a))) qe (by kernel_rfl) ?_
         refine af <| aa <| ab <| ab <| an <| ba 2 [] (.n 78 (.v (.float .f64 gw)) (.n 79 (.v (.float .f64 gw)) .a)) qe (by kernel_rfl) ?_
         refine ag <| oC [] 80 (u := gw) (v := gw) (by kernel_rfl) (.inr (.inl rfl)) kq kq Qt ?_
         intro Ty Tz Qu L8
         refine ag <| jy [] 81 (u := Ty) (v := 0) (by kernel_rfl) (.inr (.inl rfl)) Qu (Fl.lit (c := 0) (by kernel_rfl)) ?_
         refine ba 1 [] (.n 82 (.b (dr .neq (lG .sub lo lo) 0)) (.jn .a)) qe (by kernel_rfl) ?_
         refine lj 82 (dr .neq (lG .sub lo lo) 0) (.s .a) (by kernel_rfl) (fun L9 => ?_) (fun L9 => ?_)
         · rw [if_pos L9] at hm
           refine ba 6 [82] (.n 88 (.b true) (.s .a)) qe (by kernel_rfl) ?_
           refine ba 5 [88] (.n 93 (.b true) (.s .a)) qe (by kernel_rfl) ?_
           refine ba 9 [93] (.n 102 (.b true) (.s .a)) qe (by kernel_rfl) ?_
           refine af <| aa <| cm true (by kernel_rfl) (fun _ => ?_) (fun h => by cases h)
           refine ab <| an <| ba 3 [] (.n 105 (.b (decide (pv.2.1 = 1))) (.s (.k .z))) qe (by kernel_rfl) ?_
           refine lj 105 (decide (pv.2.1 = 1)) (.s .a) (by kernel_rfl) (fun Ma => ?_) (fun Ma => ?_)
           · rw [if_pos (of_decide_eq_true Ma)] at hm
             refine ba 1 [105] (.n 106 (.v (.float .f64 IW)) (.k .z)) qe (by kernel_rfl) ?_
             refine ag ?_
             obtain ⟨Ho, Mb, hm⟩ := ob hm
             refine au [105] 107 _ se (by kernel_rfl) (kB (F := N0) (O := N0) _ _ _ _ Gd (Fl.lit (c := 0) (by kernel_rfl)) (Cx.refl _) _ Mb) ?_
             rintro e_ TA ⟨rfl, Qv⟩
             have Qw := L8.call Qv
             refine ⟨.b Ho, rfl, ?_⟩
             refine ba 2 [105] (.n 8 (.b Ho) .z) qe (by kernel_rfl) ?_
             refine af <| aa <| aQ (cJ ?_)
             obtain rfl := Option.some.inj hm
             refine aR [.b Ho] qe (by kernel_rfl) ?_
             exact ⟨rfl, Qw⟩
           · rw [if_neg (of_decide_eq_false Ma)] at hm
             refine ba 4 [105] (.n 8 (.b false) .z) qe (by kernel_rfl) ?_
             refine af <| aa <| aQ (cJ ?_)
             obtain rfl := Option.some.inj hm
             refine aR [.b false] qe (by kernel_rfl) ?_
             exact ⟨rfl, L8⟩
         · rw [if_neg (by rw [L9]; decide)] at hm
           refine ba 2 [82] (.n 83 (.v (.float .f64 iL)) (.n 84 (.v (.float .f64 iL)) .a)) qe (by kernel_rfl) ?_
           refine ag <| oC [82] 85 (u := iL) (v := iL) (by kernel_rfl) (.inr (.inl rfl)) ml ml L8 ?_
           intro TB TC Qx Ic
           refine ag <| jy [82] 86 (u := TB) (v := 0) (by kernel_rfl) (.inr (.inl rfl)) Qx (Fl.lit (c := 0) (by kernel_rfl)) ?_
           refine ba 2 [82] (.n 88 (.b (dr .neq (lG .sub hi hi) 0)) (.jn (.s .a))) qe (by kernel_rfl) ?_
           refine lj 88 (dr .neq (lG .sub hi hi) 0) (.s .a) (by kernel_rfl) (fun Mc => ?_) (fun Mc => ?_)
           · rw [if_pos Mc] at hm
             refine ba 5 [88] (.n 93 (.b true) (.s .a)) qe (by kernel_rfl) ?_
             refine ba 9 [93] (.n 102 (.b true) (.s .a)) qe (by kernel_rfl) ?_
             refine af <| aa <| cm true (by kernel_rfl) (fun _ => ?_) (fun h => by cases h)
             refine ab <| an <| ba 3 [] (.n 105 (.b (decide (pv.2.1 = 1))) (.s (.k .z))) qe (by kernel_rfl) ?_
             refine lj 105 (decide (pv.2.1 = 1)) (.s .a) (by kernel_rfl) (fun Md => ?_) (fun Md => ?_)
             · rw [if_pos (of_decide_eq_true Md)] at hm
               refine ba 1 [105] (.n 106 (.v (.float .f64 IW)) (.k .z)) qe (by kernel_rfl) ?_
               refine ag ?_
               obtain ⟨Hp, Me, hm⟩ := ob hm
               refine au [105] 107 _ se (by kernel_rfl) (kB (F := N0) (O := N0) _ _ _ _ Gd (Fl.lit (c := 0) (by kernel_rfl)) (Cx.refl _) _ Me) ?_
               rintro e_ TD ⟨rfl, Qy⟩
               have Qz := Ic.call Qy
               refine ⟨.b Hp, rfl, ?_⟩
               refine ba 2 [105] (.n 8 (.b Hp) .z) qe (by kernel_rfl) ?_
               refine af <| aa <| aQ (cJ ?_)
               obtain rfl := Option.some.inj hm
               refine aR [.b Hp] qe (by kernel_rfl) ?_
               exact ⟨rfl, Qz⟩
             · rw [if_neg (of_decide_eq_false Md)] at hm
               refine ba 4 [105] (.n 8 (.b false) .z) qe (by kernel_rfl) ?_
               refine af <| aa <| aQ (cJ ?_)
               obtain rfl := Option.some.inj hm
               refine aR [.b false] qe (by kernel_rfl) ?_
               exact ⟨rfl, Ic⟩
           · rw [if_neg (by rw [Mc]; decide)] at hm
             refine ba 2 [88] (.n 89 (.v (.float .f64 gw)) (.n 90 (.v (.float .f64 iL)) .a)) qe (by kernel_rfl) ?_
             refine ag <| jy [88] 91 (u := gw) (v := iL) (by kernel_rfl) (.inr (.inr (.inr (.inr (.inl rfl))))) kq ml ?_
             refine ba 2 [88] (.n 93 (.b (dr .gtr lo hi)) (.jn .a)) qe (by kernel_rfl) ?_
             refine lj 93 (dr .gtr lo hi) (.s .a) (by kernel_rfl) (fun Mf => ?_) (fun Mf => ?_)
             · rw [if_pos Mf] at hm
               refine ba 9 [93] (.n 102 (.b true) (.s .a)) qe (by kernel_rfl) ?_
               refine af <| aa <| cm true (by kernel_rfl) (fun _ => ?_) (fun h => by cases h)
               refine ab <| an <| ba 3 [] (.n 105 (.b (decide (pv.2.1 = 1))) (.s (.k .z))) qe (by kernel_rfl) ?_
               refine lj 105 (decide (pv.2.1 = 1)) (.s .a) (by kernel_rfl) (fun Mg => ?_) (fun Mg => ?_)
               · rw [if_pos (of_decide_eq_true Mg)] at hm
                 refine ba 1 [105] (.n 106 (.v (.float .f64 IW)) (.k .z)) qe (by kernel_rfl) ?_
                 refine ag ?_
                 obtain ⟨Hq, Mh, hm⟩ := ob hm
                 refine au [105] 107 _ se (by kernel_rfl) (kB (F := N0) (O := N0) _ _ _ _ Gd (Fl.lit (c := 0) (by kernel_rfl)) (Cx.refl _) _ Mh) ?_
                 rintro e_ TE ⟨rfl, QA⟩
                 have QB := Ic.call QA
                 refine ⟨.b Hq, rfl, ?_⟩
                 refine ba 2 [105] (.n 8 (.b Hq) .z) qe (by kernel_rfl) ?_
                 refine af <| aa <| aQ (cJ ?_)
                 obtain rfl := Option.some.inj hm
                 refine aR [.b Hq] qe (by kernel_rfl) ?_
                 exact ⟨rfl, QB⟩
               · rw [if_neg (of_decide_eq_false Mg)] at hm
                 refine ba 4 [105] (.n 8 (.b false) .z) qe (by kernel_rfl) ?_
                 refine af <| aa <| aQ (cJ ?_)
                 obtain rfl := Option.some.inj hm
                 refine aR [.b false] qe (by kernel_rfl) ?_
                 exact ⟨rfl, Ic⟩
             · rw [if_neg (by rw [Mf]; decide)] at hm
               refine ba 2 [93] (.n 94 (.v (.float .f64 iL)) (.n 95 (.v (.float .f64 gw)) .a)) qe (by kernel_rfl) ?_
               refine ag <| oC [93] 96 (u := iL) (v := gw) (by kernel_rfl) (.inr (.inl rfl)) ml kq Ic ?_
               intro QC TG N9 QD
               refine ba 2 [93] (.n 97 (.v (.float .f64 iL)) (.n 98 (.v (.float .f64 gw)) (.k (.ss .a)))) qe (by kernel_rfl) ?_
               refine ag <| oC [93] 99 (u := iL) (v := gw) (by kernel_rfl) (.inr (.inl rfl)) ml kq QD ?_
               intro QE TH N_ QG
               refine ag <| oC [93] 100 (u := QC) (v := QE) (by kernel_rfl) (.inr (.inl rfl)) N9 N_ QG ?_
               intro QH TI Oa Ge
               refine ag <| jy [93] 101 (u := QH) (v := 0) (by kernel_rfl) (.inr (.inl rfl)) Oa (Fl.lit (c := 0) (by kernel_rfl)) ?_
               refine ba 1 [93] (.n 102 (.b (dr .neq (lG .sub (lG .sub hi lo) (lG .sub hi lo)) 0)) (.jn (.oQ .a))) qe (by kernel_rfl) ?_
               refine af <| aa <| cm (dr .neq (lG .sub (lG .sub hi lo) (lG .sub hi lo)) 0) (by kernel_rfl) (fun xR => ?_) (fun xR => ?_)
               · rw [if_pos xR] at hm
                 refine ab <| an <| ba 3 [] (.n 105 (.b (decide (pv.2.1 = 1))) (.s (.k .z))) qe (by kernel_rfl) ?_
                 refine lj 105 (decide (pv.2.1 = 1)) (.s .a) (by kernel_rfl) (fun Mi => ?_) (fun Mi => ?_)
                 · rw [if_pos (of_decide_eq_true Mi)] at hm
                   refine ba 1 [105] (.n 106 (.v (.float .f64 IW)) (.k .z)) qe (by kernel_rfl) ?_
                   refine ag ?_
                   obtain ⟨Hr, Mj, hm⟩ := ob hm
                   refine au [105] 107 _ se (by kernel_rfl) (kB (F := N0) (O := N0) _ _ _ _ Gd (Fl.lit (c := 0) (by kernel_rfl)) (Cx.refl _) _ Mj) ?_
                   rintro e_ TJ ⟨rfl, QI⟩
                   have QJ := Ge.call QI
                   refine ⟨.b Hr, rfl, ?_⟩
                   refine ba 2 [105] (.n 8 (.b Hr) .z) qe (by kernel_rfl) ?_
                   refine af <| aa <| aQ (cJ ?_)
                   obtain rfl := Option.some.inj hm
                   refine aR [.b Hr] qe (by kernel_rfl) ?_
                   exact ⟨rfl, QJ⟩
                 · rw [if_neg (of_decide_eq_false Mi)] at hm
                   refine ba 4 [105] (.n 8 (.b false) .z) qe (by kernel_rfl) ?_
                   refine af <| aa <| aQ (cJ ?_)
                   obtain rfl := Option.some.inj hm
                   refine aR [.b false] qe (by kernel_rfl) ?_
                   exact ⟨rfl, Ge⟩
               rw [if_neg (by rw [xR]; decide)] at hm
               refine bc <| aa <| ab <| an <| ba 3 [] (.n 111 (.b (decide (pv.2.1 = 0))) (.s (.k (.s .a)))) qe (by kernel_rfl) ?_
               refine lj 111 (decide (pv.2.1 = 0)) (.s .a) (by kernel_rfl) (fun Mk => ?_) (fun Mk => ?_)
               · rw [if_pos (of_decide_eq_true Mk)] at hm
                 refine ba 2 [111] (.n 112 (.v (.float .f64 IW)) (.n 113 (.v (.float .f64 gw)) .a)) qe (by kernel_rfl) ?_
                 refine ag <| jy [111] 114 (u := IW) (v := gw) (by kernel_rfl) (.inr (.inr (.inr (.inr (.inr rfl))))) Gd kq ?_
                 refine ba 2 [111] (.n 116 (.b (dr .geq pv.1 lo)) (.jn .a)) qe (by kernel_rfl) ?_
                 refine lj 116 (dr .geq pv.1 lo) (.s .a) (by kernel_rfl) (fun Ml => ?_) (fun Ml => ?_)
                 · rw [if_pos Ml] at hm
                   refine ba 2 [116] (.n 117 (.v (.float .f64 gw)) (.n 118 (.v (.float .f64 iL)) (.uk .z))) qe (by kernel_rfl) ?_
                   refine ag <| jy [116] 119 (u := gw) (v := iL) (by kernel_rfl) (.inr (.inl rfl)) kq ml ?_
                   refine ba 1 [116] (.n 120 (.b (dr .neq lo hi)) (.oQ .a)) qe (by kernel_rfl) ?_
                   refine lj 120 (dr .neq lo hi) (.s .a) (by kernel_rfl) (fun Mm => ?_) (fun Mm => ?_)
                   · rw [if_pos Mm] at hm
                     refine ba 6 [116, 120] (.n 8 (.b true) .z) qe (by kernel_rfl) ?_
                     refine af <| aa <| aQ ?_
                     obtain rfl := Option.some.inj hm
                     refine aR [.b true] qe (by kernel_rfl) ?_
                     exact ⟨rfl, Ge⟩
                   · rw [if_neg (by rw [Mm]; decide)] at hm
                     refine ba 2 [120] (.n 121 (.v (.float .f64 IW)) (.n 122 (.v (.float .f64 gw)) (.kk .z))) qe (by kernel_rfl) ?_
                     refine ag <| jy [120] 123 (u := IW) (v := gw) (by kernel_rfl) (.inl rfl) Gd kq ?_
                     refine ba 3 [116, 120] (.n 8 (.b (dr .eql pv.1 lo)) .z) qe (by kernel_rfl) ?_
                     refine af <| aa <| aQ ?_
                     obtain rfl := Option.some.inj hm
                     refine aR [.b (dr .eql pv.1 lo)] qe (by kernel_rfl) ?_
                     exact ⟨rfl, Ge⟩
                 · rw [if_neg (by rw [Ml]; decide)] at hm
                   refine ba 4 [116] (.n 120 (.gD []) (.uk .z)) qe (by kernel_rfl) ?_
                   refine ba 6 [116, 120] (.n 8 (.b false) .z) qe (by kernel_rfl) ?_
                   refine af <| aa <| aQ ?_
                   obtain rfl := Option.some.inj hm
                   refine aR [.b false] qe (by kernel_rfl) ?_
                   exact ⟨rfl, Ge⟩
               · rw [if_neg (of_decide_eq_false Mk)] at hm
                 refine ba 5 [111] (.n 116 (.b false) (.s .a)) qe (by kernel_rfl) ?_
                 refine ba 4 [116] (.n 120 (.gD []) (.uk .z)) qe (by kernel_rfl) ?_
                 refine ba 6 [116, 120] (.n 8 (.b false) .z) qe (by kernel_rfl) ?_
                 refine af <| aa <| aQ ?_
                 obtain rfl := Option.some.inj hm
                 refine aR [.b false] qe (by kernel_rfl) ?_
                 exact ⟨rfl, Ge⟩
       · rw [if_neg (by rw [L6]; decide)] at hm
         refine ba 5 [62, 65] (.n 70 (.b true) (.oQ .a)) qe (by kernel_rfl) ?_
         refine af <| aa <| cm true (by kernel_rfl) (fun _ => ?_) (fun h => by cases h)
         refine ab <| bO [] (.n 8 (.b false) .z) qe (by kernel_rfl) ?_
         refine aa <| aQ (cJ ?_)
         obtain rfl := Option.some.inj hm
         refine aR [.b false] qe (by kernel_rfl) ?_
         have QK := JY.de .z
         exact ⟨rfl, QK⟩
end Go.Sx
namespace Go.Sx
open Go.RowKit
set_option linter.unusedVariables false
set_option linter.unusedSimpArgs false
section
variable {α σ ρ : Type}
def ae.g [Inhabited α] {n : Nat} (v : ae α n) (i : Nat) : α := v.l.getD i default
theorem dX [Inhabited α] {n : Nat} (v : ae α n) (i : Nat) (h : i < n) : aS v.l (i : Int) = some (v.g i) := by
  have hl : i < v.l.length := by rw [v.h]; exact h
  rw [j4 hl]
  simp [ae.g, List.getD_eq_getElem?_getD, hl]
theorem dM (i : Nat) (h : i < 1000000000000000000) : aD ((i : Int) + 1) = ((i + 1 : Nat) : Int) := by rw [gx (by omega)]; omega
theorem nL (step : σ × Int → Option ((σ × Int) ⊕ ρ)) (n : Nat) (F : σ → Nat → σ) (s : σ) (r : ρ) (h : ∀ s i, i < n → step (s, (i : Int)) = some (.inl (F s i, ((i + 1 : Nat) : Int))))
    (he : step ((List.range n).foldl F s, (n : Int)) = some (.inr r)) : cf step (s, 0) = some r := by
  refine iz (fun i => ((List.range i).foldl F s, (i : Int))) n (fun i hi => ?_) he
  show step ((List.range i).foldl F s, (i : Int)) = some (.inl ((List.range (i + 1)).foldl F s, ((i + 1 : Nat) : Int)))
  rw [h _ _ hi, List.range_succ, List.foldl_append]
  rfl
theorem yX {v : ae α 8} : ∃ a b c d e f g h, v = ⟨[a, b, c, d, e, f, g, h], rfl⟩ := by
  obtain ⟨l, hl⟩ := v
  match l, hl with
  | [a, b, c, d, e, f, g, h], _ => exact ⟨a, b, c, d, e, f, g, h, rfl⟩
end
def ub (x : UInt64) (k : Nat) : UInt64 := aK x k ||| aC x (64 - k)
theorem QL (x : UInt64) : e7 x (-32) = some (ub x 32) := by
  show some (aC x 32 ||| aK x 32) = _
  rw [UInt64.or_comm]; rfl
theorem QM (x : UInt64) : e7 x (-24) = some (ub x 24) := by
  show some (aC x 40 ||| aK x 24) = _
  rw [UInt64.or_comm]; rfl
theorem QN (x : UInt64) : e7 x (-16) = some (ub x 16) := by
  show some (aC x 48 ||| aK x 16) = _
  rw [UInt64.or_comm]; rfl
theorem QO (x : UInt64) : e7 x (-63) = some (ub x 63) := by
  show some (aC x 1 ||| aK x 63) = _
  rw [UInt64.or_comm]; rfl
theorem QP (x : UInt64) : lq x 32 = some (ub x 32) := by kernel_rfl
theorem QQ (x : UInt64) : lq x 24 = some (ub x 24) := by kernel_rfl
theorem QR (x : UInt64) : lq x 16 = some (ub x 16) := by kernel_rfl
theorem QS (x : UInt64) : lq x 63 = some (ub x 63) := by kernel_rfl
def Gb (v : ae UInt64 16) (a b c d : Nat) (x y : UInt64) : ae UInt64 16 :=
  let v1 := iy v a (v.g a + (v.g b + x))
  let v2 := iy v1 d (ub (v1.g d ^^^ v1.g a) 32)
  let v3 := iy v2 c (v2.g c + v2.g d)
  let v4 := iy v3 b (ub (v3.g b ^^^ v3.g c) 24)
  let v5 := iy v4 a (v4.g a + (v4.g b + y))
  let v6 := iy v5 d (ub (v5.g d ^^^ v5.g a) 16)
  let v7 := iy v6 c (v6.g c + v6.g d)
  iy v7 b (ub (v7.g b ^^^ v7.g c) 63)
theorem JZ (v : ae UInt64 16) (a b c d : Nat) (x y : UInt64) (ha : a < 16) (hb : b < 16) (hc : c < 16) (hd : d < 16) (p : ae Int 4) (hp : p.l = [(a : Int), (b : Int), (c : Int), (d : Int)]) : pX v p x y = some (Gb v a b c d x y) := by
  unfold pX
  have e0 : aS p.l 0 = some (a : Int) := by rw [hp]; rfl
  have e1 : aS p.l 1 = some (b : Int) := by rw [hp]; rfl
  have e2 : aS p.l 2 = some (c : Int) := by rw [hp]; rfl
  have e3 : aS p.l 3 = some (d : Int) := by rw [hp]; rfl
  simp only [e0, e1, e2, e3, dX _ a ha, dX _ b hb, dX _ c hc, dX _ d hd, Option.bind_some, QL, QM, QN, QO]
  rfl
theorem QT (v : ae UInt64 16) (a b c d : Nat) (x y : UInt64) (ha : a < 16) (hb : b < 16) (hc : c < 16) (hd : d < 16) (hn : a ≠ b ∧ a ≠ c ∧ a ≠ d ∧ b ≠ c ∧ b ≠ d ∧ c ≠ d) : BR v a b c d x y = some (Gb v a b c d x y, 0) := by
  have pl : ∀ i : Nat, i < 16 → oM (i : Int) = some true := by
    intro i hi
    unfold oM
    simp only [Option.some.injEq, Bool.and_eq_true, decide_eq_true_eq]
    omega
  unfold BR
  simp only [pl a ha, pl b hb, pl c hc, pl d hd, Option.bind_some, Bool.not_true, Bool.false_or, Bool.or_eq_true, decide_eq_true_eq, Bool.false_eq_true, if_false, false_or]
  rw [if_neg (by omega)]
  simp only [dX _ a ha, dX _ b hb, dX _ c hc, dX _ d hd, Option.bind_some, QP, QQ, QR, QS, UInt64.add_assoc]
  rfl
def TK : List (Nat × Nat × Nat × Nat) := [(0, 4, 8, 12), (1, 5, 9, 13), (2, 6, 10, 14), (3, 7, 11, 15), (0, 5, 10, 15), (1, 6, 11, 12), (2, 7, 8, 13), (3, 4, 9, 14)]
def pl (i : Nat) : Nat × Nat × Nat × Nat := TK.getD i (0, 0, 0, 0)
theorem Ie : ∀ i : Nat, i < 8 → (pl i).1 < 16 ∧ (pl i).2.1 < 16 ∧ (pl i).2.2.1 < 16 ∧ (pl i).2.2.2 < 16 ∧ (pl i).1 ≠ (pl i).2.1 ∧ (pl i).1 ≠ (pl i).2.2.1 ∧ (pl i).1 ≠ (pl i).2.2.2 ∧ (pl i).2.1 ≠ (pl i).2.2.1 ∧ (pl i).2.1 ≠ (pl i).2.2.2 ∧ (pl i).2.2.1 ≠ (pl i).2.2.2 := by decide
def TL : List Nat := [0, 1, 2, 3, 4, 5, 6, 7, 8, 9, 10, 11, 12, 13, 14, 15, 14, 10, 4, 8, 9, 15, 13, 6, 1, 12, 0, 2, 11, 7, 5, 3, 11, 8, 12, 0, 5, 2, 15, 13, 10, 14, 3, 6, 7, 1, 9, 4, 7, 9, 3, 1, 13, 12, 11, 14, 2, 6, 5, 10, 4, 0, 15, 8, 9, 0, 5, 7, 2, 4, 10, 15, 14, 1, 11, 12, 6, 8, 3, 13, 2, 12, 6, 10, 0, 11, 8, 3, 4, 13, 7, 5, 15, 14, 1, 9, 12, 5, 1, 15, 14, 13, 4, 10, 0, 7, 6, 3, 9, 2, 8, 11, 13, 11, 7, 14, 12, 1, 3, 9, 5, 0, 15, 4, 8, 6, 2, 10, 6, 15, 14, 9, 11, 3, 0, 8, 12, 2, 13, 7, 1, 4, 10, 5, 10, 2, 8, 4, 7, 6, 1, 5, 15, 11, 9, 14, 3, 12, 13, 0]
def sg (r i : Nat) : Nat := TL.getD (16 * (r % 10) + i) 0
theorem Bp : ∀ r : Nat, r < 12 → ∀ i : Nat, i < 16 → sg r i < 16 := by decide +kernel
theorem O6 : ∀ r : Nat, r < 12 → ∀ i : Nat, i < 16 → p8 (r : Int) (i : Int) = some (sg r i : Int) := by decide +kernel
theorem TM (r : Nat) (hr : r < 12) : ∃ row, oY (r : Int) = some row ∧ ∀ i : Nat, i < 16 → aS row.l (i : Int) = some (sg r i : Int) := by
  match r, hr with
  | 0, _ => exact ⟨_, rfl, by decide +kernel⟩
  | 1, _ => exact ⟨_, rfl, by decide +kernel⟩
  | 2, _ => exact ⟨_, rfl, by decide +kernel⟩
  | 3, _ => exact ⟨_, rfl, by decide +kernel⟩
  | 4, _ => exact ⟨_, rfl, by decide +kernel⟩
  | 5, _ => exact ⟨_, rfl, by decide +kernel⟩
  | 6, _ => exact ⟨_, rfl, by decide +kernel⟩
  | 7, _ => exact ⟨_, rfl, by decide +kernel⟩
  | 8, _ => exact ⟨_, rfl, by decide +kernel⟩
  | 9, _ => exact ⟨_, rfl, by decide +kernel⟩
  | 10, _ => exact ⟨_, rfl, by decide +kernel⟩
  | 11, _ => exact ⟨_, rfl, by decide +kernel⟩
def Sb (m : ae UInt64 16) (r : Nat) (v : ae UInt64 16) (i : Nat) : ae UInt64 16 := Gb v (pl i).1 (pl i).2.1 (pl i).2.2.1 (pl i).2.2.2 (m.g (sg r (2 * i))) (m.g (sg r (2 * i + 1)))
def Rb (v m : ae UInt64 16) (r : Nat) : ae UInt64 16 := (List.range 8).foldl (Sb m r) v
theorem Ig (i : Nat) (h : i < 100) : aD (2 * (i : Int)) = ((2 * i : Nat) : Int) := by rw [gx (by omega)]; omega
theorem J0 (v m : ae UInt64 16) (r : Nat) (hr : r < 12) : pY v m (r : Int) = some (Rb v m r, m) := by
  obtain ⟨row, h1, h2⟩ := TM r hr
  unfold pY
  rw [h1]
  simp only [Option.bind_some]
  unfold pP
  simp only [Option.bind_some]
  refine nL _ 8 (Sb m r) v _ (fun v i hi => ?_) ?_
  · unfold oZ
    obtain ⟨p1, p2, p3, p4, _⟩ := Ie i hi
    simp only []
    rw [if_pos (by omega), Ig i (by omega), dM _ (by omega), dM _ (by omega), h2 _ (by omega), h2 _ (by omega)]
    simp only [Option.bind_some]
    rw [dX _ _ (Bp r hr _ (by omega)), dX _ _ (Bp r hr _ (by omega))]
    have key : ∃ p : ae Int 4, aS (⟨[(⟨[(0 : Int), (4 : Int), (8 : Int), (12 : Int)], rfl⟩ : ae Int 4), (⟨[(1 : Int), (5 : Int), (9 : Int), (13 : Int)], rfl⟩ : ae Int 4), (⟨[(2 : Int), (6 : Int), (10 : Int), (14 : Int)], rfl⟩ : ae Int 4), (⟨[(3 : Int), (7 : Int), (11 : Int), (15 : Int)], rfl⟩ : ae Int 4), (⟨[(0 : Int), (5 : Int), (10 : Int), (15 : Int)], rfl⟩ : ae Int 4), (⟨[(1 : Int), (6 : Int), (11 : Int), (12 : Int)], rfl⟩ : ae Int 4), (⟨[(2 : Int), (7 : Int), (8 : Int), (13 : Int)], rfl⟩ : ae Int 4), (⟨[(3 : Int), (4 : Int), (9 : Int), (14 : Int)], rfl⟩ : ae Int 4)], rfl⟩ : ae (ae Int 4) 8).l (i : Int) = some p ∧ p.l = [((pl i).1 : Int), ((pl i).2.1 : Int), ((pl i).2.2.1 : Int), ((pl i).2.2.2 : Int)] := by
      match i, hi with
      | 0, _ => exact ⟨_, rfl, rfl⟩
      | 1, _ => exact ⟨_, rfl, rfl⟩
      | 2, _ => exact ⟨_, rfl, rfl⟩
      | 3, _ => exact ⟨_, rfl, rfl⟩
      | 4, _ => exact ⟨_, rfl, rfl⟩
      | 5, _ => exact ⟨_, rfl, rfl⟩
      | 6, _ => exact ⟨_, rfl, rfl⟩
      | 7, _ => exact ⟨_, rfl, rfl⟩
    obtain ⟨p, k1, k2⟩ := key
    rw [k1]
    simp only [Option.bind_some]
    rw [JZ v _ _ _ _ _ _ p1 p2 p3 p4 p k2]
    rfl
  · rfl
theorem Gf (i : Nat) (hi : i < 8) : ∃ p : ae Int 4, xv (i : Int) = some p ∧ p.l = [((pl i).1 : Int), ((pl i).2.1 : Int), ((pl i).2.2.1 : Int), ((pl i).2.2.2 : Int)] := by
  match i, hi with
  | 0, _ => exact ⟨_, rfl, rfl⟩
  | 1, _ => exact ⟨_, rfl, rfl⟩
  | 2, _ => exact ⟨_, rfl, rfl⟩
  | 3, _ => exact ⟨_, rfl, rfl⟩
  | 4, _ => exact ⟨_, rfl, rfl⟩
  | 5, _ => exact ⟨_, rfl, rfl⟩
  | 6, _ => exact ⟨_, rfl, rfl⟩
  | 7, _ => exact ⟨_, rfl, rfl⟩
theorem Ih (v m : ae UInt64 16) (r : Nat) (hr : r < 12) : uJ v m (r : Int) = some (Rb v m r, 0) := by
  unfold uJ
  rw [if_neg (by simp only [Bool.or_eq_true, decide_eq_true_eq]; omega)]
  refine nL _ 8 (Sb m r) v _ (fun v i hi => ?_) ?_
  · unfold uI
    obtain ⟨p1, p2, p3, p4, hn⟩ := Ie i hi
    obtain ⟨p, k1, k2⟩ := Gf i hi
    have e0 : aS p.l 0 = some ((pl i).1 : Int) := by rw [k2]; rfl
    have e1 : aS p.l 1 = some ((pl i).2.1 : Int) := by rw [k2]; rfl
    have e2 : aS p.l 2 = some ((pl i).2.2.1 : Int) := by rw [k2]; rfl
    have e3 : aS p.l 3 = some ((pl i).2.2.2 : Int) := by rw [k2]; rfl
    simp only []
    rw [if_pos (by omega), k1, Ig i (by omega), dM _ (by omega), dM _ (by omega)]
    simp only [Option.bind_some, e0, e1, e2, e3]
    rw [O6 r hr _ (by omega), O6 r hr _ (by omega)]
    simp only [Option.bind_some]
    rw [dX _ _ (Bp r hr _ (by omega)), dX _ _ (Bp r hr _ (by omega))]
    simp only [Option.bind_some]
    rw [QT v _ _ _ _ _ _ p1 p2 p3 p4 hn]
    rfl
  · rfl
end Go.Sx
namespace Go.Sx
open Go.RowKit
set_option linter.unusedVariables false
set_option linter.unusedSimpArgs false
def J1 : List UInt64 := [7640891576956012808, 13503953896175478587, 4354685564936845355, 11912009170470909681, 5840696475078001361, 11170449401992604703, 2270897969802886507, 6620516959819538809]
def TN (h : ae UInt64 8) : ae UInt64 16 := ⟨h.l ++ J1, by simp [h.h, J1]⟩
def Ib (h : ae UInt64 8) (lo hi : UInt64) (last node : Bool) : ae UInt64 16 :=
  let v0 := TN h
  let v1 := iy v0 12 (v0.g 12 ^^^ lo)
  let v2 := iy v1 13 (v1.g 13 ^^^ hi)
  let v3 := if last then iy v2 14 (18446744073709551615 ^^^ v2.g 14) else v2
  if node then iy v3 15 (18446744073709551615 ^^^ v3.g 15) else v3
theorem Ob (h : ae UInt64 8) (lo hi : UInt64) (last node : Bool) : r6 h lo hi last node = some (Ib h lo hi last node) := by
  obtain ⟨a, b, c, d, e, f, g, q, rfl⟩ := yX (v := h)
  cases last <;> cases node <;> kernel_rfl
theorem R5 (i : Nat) (hi : i < 8) : zG (i : Int) = some (J1.getD i 0) := by
  match i, hi with
  | 0, _ => rfl
  | 1, _ => rfl
  | 2, _ => rfl
  | 3, _ => rfl
  | 4, _ => rfl
  | 5, _ => rfl
  | 6, _ => rfl
  | 7, _ => rfl
theorem xM (i : Nat) (h : i < 100) : aD ((i : Int) + 8) = ((i + 8 : Nat) : Int) := by rw [gx (by omega)]; omega
theorem Oc (h : ae UInt64 8) (lo hi : UInt64) (last node : Bool) : wJ h lo hi last node = some (Ib h lo hi last node) := by
  unfold wJ
  refine nL _ 8 (fun v i => iy (iy v i (h.g i)) ((i + 8 : Nat) : Int) (J1.getD i 0)) _ _ (fun v i hi => ?_) ?_
  · unfold wh
    simp only []
    rw [if_pos (by omega), dX _ _ hi, dX _ _ (by omega), xM i (by omega), dM i (by omega), R5 i hi]
    simp only [Option.bind_some]
    rw [dX _ _ (by omega)]
    rfl
  · obtain ⟨a, b, c, d, e, f, g, q, rfl⟩ := yX (v := h)
    cases last <;> cases node <;> kernel_rfl
def Eb (v : ae UInt64 16) (h : ae UInt64 8) (i : Nat) : ae UInt64 8 := iy h i (h.g i ^^^ (v.g i ^^^ v.g (i + 8)))
def Fb (h : ae UInt64 8) (m : ae UInt64 16) (lo hi : UInt64) (last node : Bool) : ae UInt64 8 :=
  (List.range 8).foldl (Eb ((List.range 12).foldl (fun v r => Rb v m r) (Ib h lo hi last node))) h
theorem wF (h : ae UInt64 8) (m : ae UInt64 16) (lo hi : UInt64) (last node : Bool) : uC h m lo hi last node = some (Fb h m lo hi last node) := by
  unfold uC
  rw [Ob]
  simp only [Option.bind_some]
  refine iz (fun i => (m, (List.range i).foldl (fun v r => Rb v m r) (Ib h lo hi last node), (i : Int))) 12 (fun i hi => ?_) ?_
  · unfold p5
    simp only []
    rw [if_pos (by omega), J0 _ _ _ hi, dM i (by omega), List.range_succ, List.foldl_append]
    rfl
  · unfold p5
    simp only []
    rw [if_neg (by omega)]
    rw [show cf (pZ ((List.range 12).foldl (fun v r => Rb v m r) (Ib h lo hi last node))) (h, 0) = some (Fb h m lo hi last node) from ?_]
    · rfl
    refine nL _ 8 (Eb ((List.range 12).foldl (fun v r => Rb v m r) (Ib h lo hi last node))) _ _ (fun v i hi => ?_) ?_
    · unfold pZ
      simp only []
      rw [if_pos (by omega), dX _ _ (by omega), dX _ _ (by omega), xM i (by omega), dM i (by omega), dX _ _ (by omega)]
      rfl
    · rfl
theorem rF (h : ae UInt64 8) (m : ae UInt64 16) (lo hi : UInt64) (last node : Bool) : BS h m lo hi last node = some (Fb h m lo hi last node) := by
  unfold BS
  rw [Oc]
  simp only [Option.bind_some]
  refine nL _ 12 (fun v r => Rb v m r) _ _ (fun v i hi => ?_) ?_
  · unfold wL
    simp only []
    rw [if_pos (by omega), Ih _ _ _ hi, dM i (by omega)]
    rfl
  · unfold wL
    simp only []
    rw [if_neg (by omega)]
    rw [show cf (wK ((List.range 12).foldl (fun v r => Rb v m r) (Ib h lo hi last node))) (h, 0) = some (Fb h m lo hi last node) from ?_]
    · rfl
    refine nL _ 8 (Eb ((List.range 12).foldl (fun v r => Rb v m r) (Ib h lo hi last node))) _ _ (fun v i hi => ?_) ?_
    · unfold wK
      simp only []
      rw [if_pos (by omega), dX _ _ (by omega), dX _ _ (by omega), xM i (by omega), dM i (by omega), dX _ _ (by omega)]
      simp only [Option.bind_some, UInt64.xor_assoc]
      rfl
    · rfl
end Go.Sx
namespace Go.Sx
open Go.RowKit
set_option linter.unusedVariables false
set_option linter.unusedSimpArgs false
def Mn : List UInt8 → UInt64
  | [] => 0
  | b :: r => UInt64.ofNat b.toNat + 256 * Mn r
def y7 : List UInt8 → Nat
  | [] => 0
  | b :: r => b.toNat + 256 * y7 r
theorem Mo (l : List UInt8) : y7 l < 256 ^ l.length := by
  induction l with
  | nil => simp [y7]
  | cons b r ih =>
    have := b.toNat_lt
    simp only [y7, List.length_cons, Nat.pow_succ]
    omega
theorem Eu (l : List UInt8) (b : UInt8) : y7 (l ++ [b]) = y7 l + 256 ^ l.length * b.toNat := by
  induction l with
  | nil => simp [y7]
  | cons x r ih =>
    simp only [List.cons_append, y7, ih, List.length_cons, Nat.pow_succ, Nat.mul_add]
    rw [Nat.mul_comm (256 ^ r.length) 256, Nat.mul_assoc]
    omega
theorem Ev (n : Nat) : 256 ^ n = 2 ^ (8 * n) := by
  rw [show (256 : Nat) = 2 ^ 8 from rfl, ← Nat.pow_mul]
theorem Od (b : List UInt8) (hb : b.length ≤ 33554432) (at_ : Int) (ha : -9223372036854775808 ≤ at_ ∧ at_ ≤ 9223372036854775807) (n : Nat) (hn : n ≤ 8) :
    oH b at_ n = some (if at_ < 0 then (0, 1) else if (b.length : Int) < at_ + n then (0, 3) else (UInt64.ofNat (y7 ((b.drop at_.toNat).take n)), 0)) := by
  unfold oH
  by_cases h0 : at_ < 0
  · rw [if_pos h0, if_pos h0]
  rw [if_neg h0, if_neg h0]
  have e : ((decide (((b.length : Nat) : Int) < at_)) || (decide ((aD (((b.length : Nat) : Int) - at_)) < n))) = true ↔ (b.length : Int) < at_ + n := by
    rw [gx (by omega)]
    simp only [Bool.or_eq_true, decide_eq_true_eq]
    omega
  by_cases h1 : (b.length : Int) < at_ + n
  · rw [if_pos (e.2 h1), if_pos h1]
  rw [if_neg (fun h => h1 (e.1 h)), if_neg h1]
  obtain ⟨a, rfl⟩ : ∃ a : Nat, at_ = a := ⟨at_.toNat, by omega⟩
  simp only [Int.toNat_natCast]
  refine rn (fun i s => s = (UInt64.ofNat (y7 ((b.drop a).take i)), (i : Int)) ∧ i ≤ n) _ n _ ⟨by simp [y7], by omega⟩ ?_
  rintro i s ⟨rfl, hi⟩
  unfold oT
  by_cases q7 : i < n
  · left
    refine ⟨q7, (UInt64.ofNat (y7 ((b.drop a).take (i + 1))), ((i + 1 : Nat) : Int)), ?_, rfl, by omega⟩
    have e1 : aD ((a : Int) + (i : Int)) = ((a + i : Nat) : Int) := by rw [gx (by omega)]; omega
    have TO : a + i < b.length := by omega
    have e2 : aD (8 * (i : Int)) = ((8 * i : Nat) : Int) := by rw [gx (by omega)]; omega
    have e3 : aD ((i : Int) + 1) = ((i + 1 : Nat) : Int) := by rw [gx (by omega)]; omega
    simp only []
    rw [if_pos (by omega), e1, j4 TO]
    simp only [Option.bind_some]
    rw [e2, lN (by omega), e3]
    simp only [Option.bind_some, Int.toNat_natCast]
    congr 3
    have hd : (b.drop a).take (i + 1) = (b.drop a).take i ++ [b[a + i]] := by
      rw [List.take_succ_eq_append_getElem (by simp; omega)]
      simp
    rw [hd, Eu, List.length_take, List.length_drop, Nat.min_eq_left (by omega), Ev]
    have hx := (b[a + i]).toNat_lt
    have Oe := Mo ((b.drop a).take i)
    rw [List.length_take, List.length_drop, Nat.min_eq_left (by omega), Ev] at Oe
    have hp : 2 ^ (8 * i) * 256 = 2 ^ (8 * (i + 1)) := by rw [show 8 * (i + 1) = 8 * i + 8 from by omega, Nat.pow_add]
    have hq : 2 ^ (8 * (i + 1)) ≤ 2 ^ 64 := Nat.pow_le_pow_right (by omega) (by omega)
    have hr : 2 ^ (8 * i) * (b[a + i]).toNat < 2 ^ (8 * (i + 1)) := by
      rw [← hp]; exact Nat.mul_lt_mul_of_pos_left hx (Nat.pow_pos (by omega))
    apply UInt64.eq_of_toBitVec_eq
    apply BitVec.eq_of_toNat_eq
    simp only [UInt64.toBitVec_or, aC, BitVec.toNat_or, BitVec.toNat_shiftLeft]
    simp only [UInt64.toNat_toBitVec, UInt64.toNat_ofNat']
    have m1 : y7 ((b.drop a).take i) % 2 ^ 64 = y7 ((b.drop a).take i) := Nat.mod_eq_of_lt (by omega)
    have m2 : (b[a + i]).toNat % 2 ^ 64 = (b[a + i]).toNat := Nat.mod_eq_of_lt (by omega)
    have m3 : ((b[a + i]).toNat <<< (8 * i)) % 2 ^ 64 = (b[a + i]).toNat <<< (8 * i) := by
      apply Nat.mod_eq_of_lt; rw [Nat.shiftLeft_eq, Nat.mul_comm]; omega
    rw [m1, m2, m3, Nat.or_comm, ← Nat.shiftLeft_add_eq_or_of_lt Oe, Nat.shiftLeft_eq, Nat.mul_comm]
    rw [Nat.mod_eq_of_lt]
    · omega
    · have : y7 ((b.drop a).take i) + 2 ^ (8 * i) * (b[a + i]).toNat < 2 ^ (8 * (i + 1)) := by
        rw [← hp]
        have h5 : 2 ^ (8 * i) * (b[a + i]).toNat + 2 ^ (8 * i) ≤ 2 ^ (8 * i) * 256 := by
          rw [← Nat.mul_succ]; exact Nat.mul_le_mul_left _ (by omega)
        omega
      omega
  · right
    obtain rfl : i = n := by omega
    simp
theorem Of (b : List UInt8) (hb : b.length ≤ 33554432) (at_ : Int) (ha : -9223372036854775808 ≤ at_ ∧ at_ ≤ 9223372036854775807) (n : Nat) (hn : n ≤ 8) :
    ry b at_ n = some (if at_ < 0 then (0, 1) else if (b.length : Int) < at_ + n then (0, 3) else (UInt64.ofNat (y7 ((b.drop at_.toNat).take n)), 0)) := by
  unfold ry
  by_cases h0 : at_ < 0
  · rw [if_pos h0, if_pos h0]
  rw [if_neg h0, if_neg h0]
  have e : ((decide (((b.length : Nat) : Int) < at_)) || (decide ((aD (((b.length : Nat) : Int) - at_)) < n))) = true ↔ (b.length : Int) < at_ + n := by
    rw [gx (by omega)]
    simp only [Bool.or_eq_true, decide_eq_true_eq]
    omega
  by_cases h1 : (b.length : Int) < at_ + n
  · rw [if_pos (e.2 h1), if_pos h1]
  rw [if_neg (fun h => h1 (e.1 h)), if_neg h1]
  obtain ⟨a, rfl⟩ : ∃ a : Nat, at_ = a := ⟨at_.toNat, by omega⟩
  simp only [Int.toNat_natCast]
  rw [gx (by omega)]
  refine rn (fun i s => s = (UInt64.ofNat (y7 (((b.drop a).take n).drop (n - i))), (n : Int) - 1 - i) ∧ i ≤ n) _ n _ ⟨?_, by omega⟩ ?_
  · have : ((b.drop a).take n).drop (n - 0) = [] := by apply List.drop_eq_nil_of_le; simp; omega
    rw [this]; simp [y7]
  rintro i s ⟨rfl, hi⟩
  unfold wc
  by_cases q7 : i < n
  · left
    refine ⟨q7, _, ?_, rfl, by omega⟩
    have e1 : aD ((a : Int) + ((n : Int) - 1 - i)) = ((a + (n - 1 - i) : Nat) : Int) := by rw [gx (by omega)]; omega
    have e3 : aD ((n : Int) - 1 - i - 1) = (n : Int) - 1 - ((i + 1 : Nat) : Int) := by rw [gx (by omega)]; omega
    simp only []
    rw [if_pos (by omega), e1, j4 (by omega : a + (n - 1 - i) < b.length)]
    simp only [Option.bind_some]
    rw [e3]
    congr 3
    have hd : ((b.drop a).take n).drop (n - (i + 1)) = b[a + (n - 1 - i)] :: ((b.drop a).take n).drop (n - i) := by
      rw [List.drop_eq_getElem_cons (by simp; omega)]
      simp only [List.getElem_take, List.getElem_drop]
      have q1 : n - (i + 1) + 1 = n - i := by omega
      rw [q1]
      congr 2; omega
    rw [hd, y7]
    apply UInt64.eq_of_toBitVec_eq
    apply BitVec.eq_of_toNat_eq
    simp only [UInt64.toNat_toBitVec, UInt64.toNat_add, UInt64.toNat_mul, UInt64.toNat_ofNat']
    generalize y7 _ = y
    generalize (b[a + (n - 1 - i)]).toNat = z
    have : UInt64.toNat 256 = 256 := rfl
    rw [this]
    omega
  · right
    obtain rfl : i = n := by omega
    simp only []
    rw [if_neg (by omega)]
    simp
theorem Mp (b : List UInt8) (hb : b.length ≤ 33554432) (at_ : Int) (ha : -9223372036854775808 ≤ at_ ∧ at_ ≤ 9223372036854775807) :
    iM b at_ = some (if at_ < 0 then (0, 1) else if (b.length : Int) < at_ + 8 then (0, 3) else (UInt64.ofNat (y7 ((b.drop at_.toNat).take 8)), 0)) := by
  unfold iM
  have := Od b hb at_ ha 8 (by omega)
  rw [show ((8 : Nat) : Int) = 8 from rfl] at this
  rw [this]
  rfl
theorem J2 (w : UInt64) : mR w = some ((List.range 8).map fun i => UInt8.ofNat (w.toNat / 256 ^ i)) := by
  unfold mR
  refine rn (fun i s => s = ((List.range i).map (fun i => UInt8.ofNat (w.toNat / 256 ^ i)) ++ List.replicate (8 - i) 0, (i : Int)) ∧ i ≤ 8) _ 8 _ ⟨by simp, by omega⟩ ?_
  rintro i s ⟨rfl, hi⟩
  unfold mE
  by_cases q7 : i < 8
  · left
    refine ⟨q7, _, ?_, rfl, by omega⟩
    have e2 : aD (8 * (i : Int)) = ((8 * i : Nat) : Int) := by rw [gx (by omega)]; omega
    have e3 : aD ((i : Int) + 1) = ((i + 1 : Nat) : Int) := by rw [gx (by omega)]; omega
    simp only []
    rw [if_pos (by omega), e2, lN (by omega), e3]
    simp only [Option.bind_some]
    rw [j4 (by simp; omega)]
    simp only [Option.bind_some, Int.toNat_natCast]
    congr 3
    have hr : List.replicate (8 - i) (0 : UInt8) = 0 :: List.replicate (8 - (i + 1)) 0 := by
      rw [← List.replicate_succ]; congr 1; omega
    rw [hr, List.range_succ, List.map_append, List.append_assoc]
    rw [List.set_append_right _ _ (by simp)]
    simp only [List.length_map, List.length_range, Nat.sub_self, List.set_cons_zero, List.map_cons, List.map_nil, List.cons_append, List.nil_append]
    congr 2
    apply UInt8.eq_of_toBitVec_eq; apply BitVec.eq_of_toNat_eq
    simp only [aK, Ev]
    simp [Nat.shiftRight_eq_div_pow]
  · right
    obtain rfl : i = 8 := by omega
    simp
theorem Ii (w : UInt64) (n : Nat) (hn : n ≤ 8) : uS w n = some ((List.range n).map fun i => UInt8.ofNat (w.toNat / 256 ^ i)) := by
  unfold uS
  refine rn (fun i s => s = (UInt64.ofNat (w.toNat / 256 ^ i), (List.range i).map (fun i => UInt8.ofNat (w.toNat / 256 ^ i)), (i : Int)) ∧ i ≤ n) _ n _ ⟨by simp, by omega⟩ ?_
  rintro i s ⟨rfl, hi⟩
  unfold uR
  have hw := w.toNat_lt
  have hd : w.toNat / 256 ^ i ≤ w.toNat := Nat.div_le_self _ _
  by_cases q7 : i < n
  · left
    refine ⟨q7, _, ?_, rfl, by omega⟩
    have e3 : aD ((i : Int) + 1) = ((i + 1 : Nat) : Int) := by rw [gx (by omega)]; omega
    simp only []
    rw [if_pos (by omega), mO (by simp; omega), e3]
    simp only [Option.bind_some]
    have q1 : UInt64.ofNat (w.toNat / 256 ^ i) / 256 = UInt64.ofNat (w.toNat / 256 ^ (i + 1)) := by
      apply UInt64.eq_of_toBitVec_eq; apply BitVec.eq_of_toNat_eq
      simp only [UInt64.toNat_toBitVec, UInt64.toNat_div, UInt64.toNat_ofNat']
      rw [Nat.mod_eq_of_lt (by omega), Nat.mod_eq_of_lt (Nat.lt_of_le_of_lt (Nat.div_le_self _ _) hw), Nat.pow_succ, ← Nat.div_div_eq_div_mul]
      rfl
    have q2 : UInt8.ofNat (UInt64.ofNat (w.toNat / 256 ^ i) % 256).toNat = UInt8.ofNat (w.toNat / 256 ^ i) := by
      apply UInt8.eq_of_toBitVec_eq; apply BitVec.eq_of_toNat_eq
      simp only [UInt8.toNat_toBitVec, UInt8.toNat_ofNat', UInt64.toNat_mod, UInt64.toNat_ofNat']
      rw [show UInt64.toNat 256 = 256 from rfl]
      omega
    rw [q1, q2, List.range_succ, List.map_append]
    rfl
  · right
    obtain rfl : i = n := by omega
    simp
theorem Mq (lo hi n : UInt64) : l_ lo hi n = some (UInt64.ofNat (lo.toNat + 18446744073709551616 * hi.toNat + n.toNat), UInt64.ofNat ((lo.toNat + 18446744073709551616 * hi.toNat + n.toNat) / 18446744073709551616), decide (340282366920938463463374607431768211456 ≤ lo.toNat + 18446744073709551616 * hi.toNat + n.toNat)) := by
  have hl := lo.toNat_lt
  have hh := hi.toNat_lt
  have hn := n.toNat_lt
  unfold l_ CX
  simp only [show (0 : UInt64).toNat = 0 from rfl, Nat.zero_le, if_true, Option.bind_some, Nat.add_zero]
  have hc : (UInt64.ofNat ((lo.toNat + n.toNat) / 18446744073709551616)).toNat = (lo.toNat + n.toNat) / 18446744073709551616 := by
    simp only [UInt64.toNat_ofNat']; omega
  rw [hc, if_pos (by omega)]
  simp only [Option.bind_some, Option.some.injEq, Prod.mk.injEq]
  refine ⟨?_, ?_, ?_⟩
  · rw [← UInt64.toNat_inj]; simp only [UInt64.toNat_ofNat']; omega
  · rw [← UInt64.toNat_inj]; simp only [UInt64.toNat_ofNat']; omega
  · rw [decide_eq_decide, ← UInt64.toNat_inj]
    simp only [UInt64.toNat_ofNat', show (1 : UInt64).toNat = 1 from rfl]
    omega
def rY (c : UInt64 × UInt64) (n : UInt64) : UInt64 × UInt64 := (UInt64.ofNat (c.1.toNat + 18446744073709551616 * c.2.toNat + n.toNat), UInt64.ofNat ((c.1.toNat + 18446744073709551616 * c.2.toNat + n.toNat) / 18446744073709551616))
def AM (b : List UInt8) (i : Nat) : UInt64 := UInt64.ofNat (y7 ((b.drop (8 * i)).take 8))
def Wb (b : List UInt8) : ae UInt64 16 := (List.range 16).foldl (fun m (i : Nat) => iy m i (AM b i)) (ae.rep 16 0)
theorem Ij (i : Nat) (h : i < 100) : aD (8 * (i : Int)) = ((8 * i : Nat) : Int) := by rw [gx (by omega)]; omega
theorem Ew (b : List UInt8) (i : Nat) (hb : b.length ≤ 33554432) (hi : 8 * i + 8 ≤ b.length) : iM b ((8 * i : Nat) : Int) = some (AM b i, 0) := by
  rw [Mp b hb _ (by omega), if_neg (by omega), if_neg (by omega), Int.toNat_natCast]
  rfl
theorem Ik (b : List UInt8) (i : Nat) (hb : b.length ≤ 33554432) (hi : 8 * i + 8 ≤ b.length) : ry b ((8 * i : Nat) : Int) 8 = some (AM b i, 0) := by
  have := Of b hb ((8 * i : Nat) : Int) (by omega) 8 (by omega)
  rw [show ((8 : Nat) : Int) = 8 from rfl] at this
  rw [this, if_neg (by omega), if_neg (by omega), Int.toNat_natCast]
  rfl
theorem Mr (b : List UInt8) (hb : b.length = 128) : oV b = some (Wb b, 0) := by
  unfold oV
  rw [if_neg (by omega)]
  refine nL _ 16 (fun m (i : Nat) => iy m i (AM b i)) _ _ (fun v i hi => ?_) (by unfold mn; simp only []; rw [if_neg (by omega)]; rfl)
  unfold mn
  simp only []
  rw [if_pos (by omega), Ij i (by omega), Ew b i (by omega) (by omega), dX _ _ hi, dM i (by omega)]
  rfl
theorem Ms (b : List UInt8) (hb : b.length = 128) : uH b = some (Wb b, 0) := by
  unfold uH
  rw [if_neg (by omega)]
  refine nL _ 16 (fun m (i : Nat) => iy m i (AM b i)) _ _ (fun v i hi => ?_) (by unfold rB; simp only []; rw [if_neg (by omega)]; rfl)
  unfold rB
  simp only []
  rw [if_pos (by omega), Ij i (by omega), Ik b i (by omega) (by omega), dX _ _ hi, dM i (by omega)]
  rfl
def Dq (b : List UInt8) : ae UInt64 8 := (List.range 8).foldl (fun h (i : Nat) => iy h i (J1.getD i 0 ^^^ AM b i)) (ae.rep 8 0)
theorem Mt (b : List UInt8) (hb : b.length = 64) : uE b = some (Dq b, 0) := by
  unfold uE
  rw [if_neg (by omega)]
  refine nL _ 8 (fun m (i : Nat) => iy m i (J1.getD i 0 ^^^ AM b i)) _ _ (fun v i hi => ?_) (by unfold rz; simp only []; rw [if_neg (by omega)]; rfl)
  unfold rz
  simp only []
  rw [if_pos (by omega), Ij i (by omega), Ik b i (by omega) (by omega), dX _ _ hi, dM i (by omega), R5 i hi]
  rfl
theorem Mu (b : List UInt8) (hb : b.length = 64) : oU b = some (Dq b, 0) := by
  unfold oU sQ
  rw [if_neg (by omega)]
  simp only [Option.bind_some]
  have key : ∀ x : Nat → UInt64, (List.range 8).foldl (fun (h : ae UInt64 8) (i : Nat) => iy h i (h.g i ^^^ x i)) ⟨J1, rfl⟩ = (List.range 8).foldl (fun h (i : Nat) => iy h i (J1.getD i 0 ^^^ x i)) (ae.rep 8 0) := fun x => rfl
  refine nL _ 8 (fun h (i : Nat) => iy h i (h.g i ^^^ AM b i)) _ _ (fun v i hi => ?_) ?_
  · unfold od
    simp only []
    rw [if_pos (by omega), Ij i (by omega), Ew b i (by omega) (by omega), dX _ _ hi, dM i (by omega)]
    rfl
  · have := key (AM b)
    unfold J1 at this
    rw [this]
    rfl
def DF (n : Nat) (w : UInt64) : List UInt8 := (List.range n).map fun i => UInt8.ofNat (w.toNat / 256 ^ i)
def Il (h : ae UInt64 8) : List UInt8 := (List.range 8).foldl (fun b i => b ++ DF 8 (h.g i)) []
theorem Ae (h : Nat → List UInt8) (k : Nat) (hk : ∀ i, (h i).length = k) : ∀ n, ((List.range n).foldl (fun b i => b ++ h i) []).length = n * k := by
  intro n
  induction n with
  | zero => simp
  | succ n ih => rw [List.range_succ, List.foldl_append]; simp only [List.foldl_cons, List.foldl_nil, List.length_append, ih, hk]; rw [Nat.succ_mul]
theorem xN (n : Nat) (w : UInt64) : (DF n w).length = n := by simp [DF]
theorem tQ (h : ae UInt64 8) : (Il h).length = 64 := by unfold Il; rw [Ae _ 8 (fun i => xN 8 _)]
theorem Mv (h : ae UInt64 8) : o0 h = some (Il h) := by
  unfold o0
  refine iz (fun i => ((List.range i).foldl (fun b i => b ++ DF 8 (h.g i)) [], (i : Int))) 8 (fun i hi => ?_) rfl
  unfold oo
  simp only []
  rw [if_pos (by omega), dX _ _ hi, dM i (by omega)]
  simp only [Option.bind_some]
  rw [J2]
  simp only [Option.bind_some]
  have hq : (List.range (i + 1)).foldl (fun b i => b ++ DF 8 (h.g i)) [] = (List.range i).foldl (fun b i => b ++ DF 8 (h.g i)) [] ++ DF 8 (h.g i) := by rw [List.range_succ, List.foldl_append]; rfl
  rw [mO (by rw [Ae _ 8 (fun i => xN 8 _)]; simp; omega), hq]
  rfl
end Go.Sx
namespace Go.Sx
open Go.RowKit
set_option linter.unusedVariables false
set_option linter.unusedSimpArgs false
def yP (x : UInt32) (k : Nat) : UInt32 := l3 x k ||| tS x (32 - k)
theorem QU (x : UInt32) : mV x 16 = some (yP x 16) := by kernel_rfl
theorem QV (x : UInt32) : mV x 12 = some (yP x 12) := by kernel_rfl
theorem TP (x : UInt32) : mV x 8 = some (yP x 8) := by kernel_rfl
theorem TQ (x : UInt32) : mV x 7 = some (yP x 7) := by kernel_rfl
def Gs (v : ae UInt32 16) (a b c d : Nat) (x y : UInt32) : ae UInt32 16 :=
  let v1 := iy v a (v.g a + (v.g b + x))
  let v2 := iy v1 d (yP (v1.g d ^^^ v1.g a) 16)
  let v3 := iy v2 c (v2.g c + v2.g d)
  let v4 := iy v3 b (yP (v3.g b ^^^ v3.g c) 12)
  let v5 := iy v4 a (v4.g a + (v4.g b + y))
  let v6 := iy v5 d (yP (v5.g d ^^^ v5.g a) 8)
  let v7 := iy v6 c (v6.g c + v6.g d)
  iy v7 b (yP (v7.g b ^^^ v7.g c) 7)
theorem Gg (a b c d : Nat) (ha : a < 16) (hb : b < 16) (hc : c < 16) (hd : d < 16) (hn : a ≠ b ∧ a ≠ c ∧ a ≠ d ∧ b ≠ c ∧ b ≠ d ∧ c ≠ d) : tA a b c d = some true := by
  have hl : ∀ i : Nat, i < 4 → ∃ x : Nat, aS ([(a : Int), (b : Int), (c : Int), (d : Int)] : List Int) (i : Int) = some (x : Int) ∧ x < 16 ∧ ∀ j : Nat, j < i → ∃ y : Nat, aS ([(a : Int), (b : Int), (c : Int), (d : Int)] : List Int) (j : Int) = some (y : Int) ∧ x ≠ y := by
    intro i hi
    match i, hi with
    | 0, _ => exact ⟨a, rfl, ha, fun j hj => by omega⟩
    | 1, _ => exact ⟨b, rfl, hb, fun j hj => by match j, hj with | 0, _ => exact ⟨a, rfl, by omega⟩⟩
    | 2, _ => exact ⟨c, rfl, hc, fun j hj => by match j, hj with | 0, _ => exact ⟨a, rfl, by omega⟩ | 1, _ => exact ⟨b, rfl, by omega⟩⟩
    | 3, _ => exact ⟨d, rfl, hd, fun j hj => by match j, hj with | 0, _ => exact ⟨a, rfl, by omega⟩ | 1, _ => exact ⟨b, rfl, by omega⟩ | 2, _ => exact ⟨c, rfl, by omega⟩⟩
  unfold tA
  refine iz (fun i => (i : Int)) 4 (fun i hi => ?_) rfl
  obtain ⟨x, h1, h2, h3⟩ := hl i hi
  unfold tW
  rw [if_pos (by omega), h1]
  simp only [Option.bind_some]
  have hx : decide ((x : Int) < 0) = false := by rw [decide_eq_false_iff_not]; omega
  rw [hx]
  simp only [RP, Bool.not_false, if_true, Option.bind_some, Bool.false_or, decide_eq_true_eq]
  rw [if_neg (by omega)]
  refine iz (fun j => (j : Int)) i (fun j hj => ?_) ?_
  · obtain ⟨y, g1, g2⟩ := h3 j hj
    unfold qF
    rw [if_pos (by omega), h1, g1]
    simp only [Option.bind_some]
    rw [if_neg (by omega), dM j (by omega)]
  · unfold qF
    rw [if_neg (by omega), dM i (by omega)]
    rfl
theorem Og (v : ae UInt32 16) (a b c d : Nat) (x y : UInt32) (ha : a < 16) (hb : b < 16) (hc : c < 16) (hd : d < 16) (hn : a ≠ b ∧ a ≠ c ∧ a ≠ d ∧ b ≠ c ∧ b ≠ d ∧ c ≠ d) : BT v a b c d x y = some (Gs v a b c d x y, 0) := by
  unfold BT
  rw [Gg a b c d ha hb hc hd hn]
  simp only [Option.bind_some, Bool.not_true, Bool.false_eq_true, if_false]
  simp only [dX _ a ha, dX _ b hb, dX _ c hc, dX _ d hd, Option.bind_some, QU, QV, TP, TQ, UInt32.add_assoc]
  rfl
def Ss (m : ae UInt32 16) (r : Nat) (v : ae UInt32 16) (i : Nat) : ae UInt32 16 := Gs v (pl i).1 (pl i).2.1 (pl i).2.2.1 (pl i).2.2.2 (m.g (sg r (2 * i))) (m.g (sg r (2 * i + 1)))
def Rs (v m : ae UInt32 16) (r : Nat) : ae UInt32 16 := (List.range 8).foldl (Ss m r) v
theorem J3 : ∀ i : Nat, i < 8 → zJ (i : Int) = some ((((pl i).1 : Nat) : Int), (((pl i).2.1 : Nat) : Int), (((pl i).2.2.1 : Nat) : Int), (((pl i).2.2.2 : Nat) : Int)) := by decide +kernel
theorem Gh (v m : ae UInt32 16) (r : Nat) (hr : r < 10) : uN v m (r : Int) = some (Rs v m r, 0) := by
  unfold uN
  rw [if_neg (by simp only [Bool.or_eq_true, decide_eq_true_eq]; omega)]
  refine nL _ 8 (Ss m r) v _ (fun v i hi => ?_) rfl
  unfold uM
  obtain ⟨p1, p2, p3, p4, hn⟩ := Ie i hi
  simp only []
  rw [if_pos (by omega), J3 i hi, Ig i (by omega), dM _ (by omega), dM _ (by omega)]
  simp only [Option.bind_some]
  rw [O6 r (by omega) _ (by omega), O6 r (by omega) _ (by omega)]
  simp only [Option.bind_some]
  rw [dX _ _ (Bp r (by omega) _ (by omega)), dX _ _ (Bp r (by omega) _ (by omega))]
  simp only [Option.bind_some]
  rw [Og v _ _ _ _ _ _ p1 p2 p3 p4 hn]
  rfl
def O7 : List UInt32 := [1779033703, 3144134277, 1013904242, 2773480762, 1359893119, 2600822924, 528734635, 1541459225]
def TR (h : ae UInt32 8) : ae UInt32 16 := ⟨h.l ++ O7, by simp [h.h, O7]⟩
def Is (h : ae UInt32 8) (lo : UInt64) (last node : Bool) : ae UInt32 16 :=
  let v0 := TR h
  let v1 := iy v0 12 (v0.g 12 ^^^ UInt32.ofNat lo.toNat)
  let v2 := iy v1 13 (v1.g 13 ^^^ UInt32.ofNat (aK lo 32).toNat)
  let v3 := if last then iy v2 14 (4294967295 ^^^ v2.g 14) else v2
  if node then iy v3 15 (4294967295 ^^^ v3.g 15) else v3
theorem Mx (h : ae UInt32 8) (lo : UInt64) (last node : Bool) : uL h lo last node = some (Is h lo last node) := by
  unfold uL xu
  simp only [Option.bind_some]
  refine nL _ 8 (fun v (i : Nat) => iy (iy v i (h.g i)) ((i + 8 : Nat) : Int) (O7.getD i 0)) _ _ (fun v i hi => ?_) ?_
  · unfold rG
    simp only []
    rw [if_pos (by omega), dX _ _ hi, dX _ _ (by omega), xM i (by omega), dM i (by omega)]
    simp only [Option.bind_some]
    rw [j4 (by simp; omega), dX _ _ (by omega)]
    match i, hi with
    | 0, _ => rfl
    | 1, _ => rfl
    | 2, _ => rfl
    | 3, _ => rfl
    | 4, _ => rfl
    | 5, _ => rfl
    | 6, _ => rfl
    | 7, _ => rfl
  · obtain ⟨a, b, c, d, e, f, g, q, rfl⟩ := yX (v := h)
    unfold rG rE rD Is
    simp only [UInt32.xor_comm _ 4294967295]
    cases last <;> cases node <;> kernel_rfl
def Es (v : ae UInt32 16) (h : ae UInt32 8) (i : Nat) : ae UInt32 8 := iy h i (h.g i ^^^ (v.g i ^^^ v.g (i + 8)))
def Fs (h : ae UInt32 8) (m : ae UInt32 16) (lo : UInt64) (last node : Bool) : ae UInt32 8 :=
  (List.range 8).foldl (Es ((List.range 10).foldl (fun v r => Rs v m r) (Is h lo last node))) h
theorem QW (h : ae UInt32 8) (v : ae UInt32 16) : yc h v = some ((List.range 8).foldl (Es v) h) := by
  unfold yc
  refine nL _ 8 (Es v) _ _ (fun h i hi => ?_) rfl
  unfold xw
  simp only []
  rw [if_pos (by omega), dX _ _ (by omega), dX _ _ (by omega), xM i (by omega), dM i (by omega), dX _ _ (by omega)]
  simp only [Option.bind_some, UInt32.xor_assoc]
  rfl
theorem TS (h : ae UInt32 8) (m : ae UInt32 16) (lo : UInt64) (last node : Bool) : BU h m lo last node = some (Fs h m lo last node) := by
  unfold BU
  rw [Mx]
  simp only [Option.bind_some]
  refine nL _ 10 (fun v r => Rs v m r) _ _ (fun v i hi => ?_) ?_
  · unfold wM
    simp only []
    rw [if_pos (by omega), Gh _ _ _ hi, dM i (by omega)]
    rfl
  · unfold wM
    simp only []
    rw [if_neg (by omega), QW]
    rfl
end Go.Sx
namespace Go.Sx
open Go.RowKit
set_option linter.unusedVariables false
set_option linter.unusedSimpArgs false
def Gi (b : List UInt8) (i : Nat) : UInt32 := UInt32.ofNat (y7 ((b.drop (4 * i)).take 4))
theorem Oh (i : Nat) (h : i < 100) : aD (4 * (i : Int)) = ((4 * i : Nat) : Int) := by rw [gx (by omega)]; omega
theorem Im (b : List UInt8) (i : Nat) (hb : b.length ≤ 33554432) (hi : 4 * i + 4 ≤ b.length) : tw b ((4 * i : Nat) : Int) = some (Gi b i) := by
  unfold tw
  have k1 : aD (((4 * i : Nat) : Int) + 1) = ((4 * i + 1 : Nat) : Int) := by rw [gx (by omega)]; omega
  have k2 : aD (((4 * i : Nat) : Int) + 2) = ((4 * i + 2 : Nat) : Int) := by rw [gx (by omega)]; omega
  have k3 : aD (((4 * i : Nat) : Int) + 3) = ((4 * i + 3 : Nat) : Int) := by rw [gx (by omega)]; omega
  rw [k1, k2, k3, j4 (by omega : 4 * i < b.length), j4 (by omega : 4 * i + 1 < b.length), j4 (by omega : 4 * i + 2 < b.length), j4 (by omega : 4 * i + 3 < b.length)]
  simp only [Option.bind_some, Option.some.injEq]
  have hd : (b.drop (4 * i)).take 4 = [b[4 * i], b[4 * i + 1], b[4 * i + 2], b[4 * i + 3]] := by
    rw [List.drop_eq_getElem_cons (by omega), List.drop_eq_getElem_cons (by omega), List.drop_eq_getElem_cons (by omega), List.drop_eq_getElem_cons (by omega)]
    rfl
  unfold Gi
  rw [hd]
  generalize b[4 * i] = x0
  generalize b[4 * i + 1] = x1
  generalize b[4 * i + 2] = x2
  generalize b[4 * i + 3] = x3
  have h0 := x0.toNat_lt
  have h1 := x1.toNat_lt
  have h2 := x2.toNat_lt
  have h3 := x3.toNat_lt
  have sh : ∀ (x : UInt32) (k : Nat), (tS x k).toNat = x.toNat * 2 ^ k % 2 ^ 32 := by
    intro x k
    show (x.toBitVec <<< k).toNat = _
    rw [BitVec.toNat_shiftLeft, Nat.shiftLeft_eq]; rfl
  rw [← UInt32.toNat_inj]
  simp only [UInt32.toNat_add, sh, UInt32.toNat_ofNat', y7]
  rw [show (8 : UInt64).toNat = 8 from rfl, show (16 : UInt64).toNat = 16 from rfl, show (24 : UInt64).toNat = 24 from rfl]
  omega
def Ws (b : List UInt8) : ae UInt32 16 := (List.range 16).foldl (fun m (i : Nat) => iy m i (Gi b i)) (ae.rep 16 0)
theorem J4 (b : List UInt8) (hb : b.length = 64) : uK b = some (Ws b, 0) := by
  unfold uK
  rw [if_neg (by omega), if_neg (by omega)]
  refine nL _ 16 (fun m (i : Nat) => iy m i (Gi b i)) _ _ (fun v i hi => ?_) (by unfold rC; simp only []; rw [if_neg (by omega)]; rfl)
  unfold rC
  simp only []
  rw [if_pos (by omega), Oh i (by omega), Im b i (by omega) (by omega), dX _ _ hi, dM i (by omega)]
  rfl
def O8 (b : List UInt8) : ae UInt32 8 := (List.range 8).foldl (fun h (i : Nat) => iy h i (h.g i ^^^ Gi b i)) ⟨O7, rfl⟩
theorem J5 (b : List UInt8) (hb : b.length = 32) : uF b = some (O8 b, 0) := by
  unfold uF xu
  rw [if_neg (by omega), if_neg (by omega)]
  simp only [Option.bind_some]
  refine nL _ 8 (fun h (i : Nat) => iy h i (h.g i ^^^ Gi b i)) _ _ (fun v i hi => ?_) (by unfold rA; simp only []; rw [if_neg (by omega)]; rfl)
  unfold rA
  simp only []
  rw [if_pos (by omega), Oh i (by omega), Im b i (by omega) (by omega), dX _ _ hi, dM i (by omega)]
  rfl
def O9 (h : ae UInt32 8) : List UInt8 := (List.range 8).foldl (fun b i => b ++ DF 4 (UInt64.ofNat (h.g i).toNat)) []
theorem J6 (h : ae UInt32 8) : (O9 h).length = 32 := by unfold O9; rw [Ae _ 4 (fun i => xN 4 _)]
end Go.Sx
namespace Go.Sx
open Go.RowKit
set_option linter.unusedVariables false
set_option linter.unusedSimpArgs false
theorem Oi (x : UInt64) : ((4294967296 : UInt64) ≤ x) ↔ ((4294967295 : UInt64) < x) := by
  rw [UInt64.le_iff_toNat_le, UInt64.lt_iff_toNat_lt, show (4294967296 : UInt64).toNat = 4294967296 from rfl, show (4294967295 : UInt64).toNat = 4294967295 from rfl]; omega
theorem Oj (x : UInt64) : ((281474976710656 : UInt64) ≤ x) ↔ ((281474976710655 : UInt64) < x) := by
  rw [UInt64.le_iff_toNat_le, UInt64.lt_iff_toNat_lt, show (281474976710656 : UInt64).toNat = 281474976710656 from rfl, show (281474976710655 : UInt64).toNat = 281474976710655 from rfl]; omega
variable {α : Type}
theorem J7 {β : Type} (f : Bool → β) (c d : Bool) : (if c = true then f c else f d) = f (c || d) := by cases c <;> rfl
theorem KL {c d : Prop} [Decidable c] [Decidable d] {x y z : α} (h : c ↔ d) (e : y = z) : (if c then x else y) = (if d then x else z) := by
  subst e
  by_cases hd : d
  · rw [if_pos hd, if_pos (h.2 hd)]
  · rw [if_neg hd, if_neg fun hc => hd (h.1 hc)]
theorem Dr (k S m q d ky f dp : Int) (lf : UInt32) (off : UInt64) (l2 : UInt32) (nd mJ : Int) (dw jx : List UInt8) (hk : mr k = some (S, m, q)) (hm : lI k = some m) (h0 : m ≠ 0) (hq : aD (Int.tdiv m 4) = q) : jz k d ky f dp lf off l2 nd mJ dw jx = ic k d ky f dp lf off l2 nd mJ dw jx := by
  unfold jz ic
  rw [hk, hm]
  simp only [Option.bind_some]
  rw [if_neg h0, if_neg h0, hq]
  have key : ∀ least : Int, (least = 0 ∧ l2 ≠ 0 ∨ least = 1 ∧ l2 = 0) → kC k d ky f dp off l2 nd mJ dw jx (S, m, q) least = (if ((decide (d < 1)) || (decide (m < d))) = true then
      (some (20 : Int))
    else (if ((decide (ky < 0)) || (decide (m < ky))) = true then
      (some (8 : Int))
    else (if ((decide (f < 0)) || (decide (255 < f))) = true then
      (some (21 : Int))
    else (if (((decide (dp < 0)) || (decide (255 < dp))) || ((decide (dp = 0)) && (decide (l2 = 0)))) = true then
      (some (22 : Int))
    else (if (((decide (l2 ≠ 0)) && (decide ((4294967295 : UInt64) < off))) || (((decide (l2 = 0)) && (decide (k = 2))) && (decide ((281474976710655 : UInt64) < off)))) = true then
      (some (23 : Int))
    else (if ((decide (k = 2)) && (decide ((65535 : UInt32) < l2))) = true then
      (some (24 : Int))
    else (if ((decide (nd < 0)) || (decide (255 < nd))) = true then
      (some (25 : Int))
    else (if ((decide (mJ < 0)) || (decide (m < mJ))) = true then
      (some (26 : Int))
    else (if q < ((dw.length : Nat) : Int) then
      (some (27 : Int))
    else (if q < ((jx.length : Nat) : Int) then
      (some (28 : Int))
    else (some (0 : Int)))))))))))) := by
    intro least hl
    unfold kC
    rw [J7]
    unfold lV nu
    simp only [iN, Option.bind_some]
    refine KL (by simp only [Bool.not_eq_true', Bool.and_eq_false_iff, decide_eq_false_iff_not, Bool.or_eq_true, decide_eq_true_eq]; omega) ?_
    refine KL (by simp only [Bool.not_eq_true', Bool.and_eq_false_iff, decide_eq_false_iff_not, Bool.or_eq_true, decide_eq_true_eq]; omega) ?_
    refine KL (by simp only [Bool.not_eq_true', Bool.and_eq_false_iff, decide_eq_false_iff_not, Bool.or_eq_true, decide_eq_true_eq]; omega) ?_
    refine KL (by
      simp only [Bool.not_eq_true', Bool.and_eq_false_iff, decide_eq_false_iff_not, Bool.or_eq_true, decide_eq_true_eq, Bool.and_eq_true]
      rcases hl with ⟨rfl, hx⟩ | ⟨rfl, hx⟩
      · simp only [hx, and_false, or_false]; omega
      · simp only [hx, and_true]; omega) ?_
    refine KL (by simp only [Oi, Oj]) ?_
    refine KL Iff.rfl ?_
    refine KL (by simp only [Bool.not_eq_true', Bool.and_eq_false_iff, decide_eq_false_iff_not, Bool.or_eq_true, decide_eq_true_eq]; omega) ?_
    refine KL (by simp only [Bool.not_eq_true', Bool.and_eq_false_iff, decide_eq_false_iff_not, Bool.or_eq_true, decide_eq_true_eq]; omega) ?_
    rfl
  by_cases hx : l2 = 0
  · rw [if_neg (by simpa using hx)]
    exact key 1 (.inr ⟨rfl, hx⟩)
  · rw [if_pos hx]
    exact key 0 (.inl ⟨rfl, hx⟩)
theorem Af (k d ky f dp : Int) (lf : UInt32) (off : UInt64) (l2 : UInt32) (nd mJ : Int) (dw jx : List UInt8) : jz k d ky f dp lf off l2 nd mJ dw jx = ic k d ky f dp lf off l2 nd mJ dw jx := by
  by_cases k1 : k = 1
  · subst k1
    exact Dr 1 64 64 16 _ _ _ _ _ _ _ _ _ _ _ rfl rfl (by omega) rfl
  · by_cases k2 : k = 2
    · subst k2
      exact Dr 2 32 32 8 _ _ _ _ _ _ _ _ _ _ _ rfl rfl (by omega) rfl
    · unfold jz mr ic lI
      simp only [k1, k2, if_false, Option.bind_some, if_true]
theorem pT {c : Prop} [Decidable c] {n : Int} {Q : Int → Prop} {e : Option Int} (h0 : n ≠ 0) (h : ¬ c → ∃ r, e = some r ∧ (r = 0 → Q r)) : ∃ r, (if c then some n else e) = some r ∧ (r = 0 → Q r) := by
  by_cases hc : c
  · rw [if_pos hc]; exact ⟨n, rfl, fun h => absurd h h0⟩
  · rw [if_neg hc]; exact h hc
theorem Ex (k d ky f dp : Int) (lf : UInt32) (off : UInt64) (l2 : UInt32) (nd mJ : Int) (dw jx : List UInt8) : ∃ r, ic k d ky f dp lf off l2 nd mJ dw jx = some r ∧ (r = 0 → (k = 1 ∧ 1 ≤ d ∧ d ≤ 64 ∧ ky ≤ 64 ∧ dw.length ≤ 16 ∧ jx.length ≤ 16) ∨ (k = 2 ∧ 1 ≤ d ∧ d ≤ 32 ∧ ky ≤ 32 ∧ dw.length ≤ 8 ∧ jx.length ≤ 8)) := by
  have q1 : aD (Int.tdiv 64 4) = 16 := by rfl
  have q2 : aD (Int.tdiv 32 4) = 8 := by rfl
  have key : ∀ m q : Int, aD (Int.tdiv m 4) = q → lI k = some m → m ≠ 0 → ∃ r, ic k d ky f dp lf off l2 nd mJ dw jx = some r ∧ (r = 0 → (1 ≤ d ∧ d ≤ m ∧ ky ≤ m ∧ (dw.length : Int) ≤ q ∧ (jx.length : Int) ≤ q)) := by
    intro m q hq hm h0
    unfold ic
    rw [hm]
    simp only [Option.bind_some]
    rw [if_neg h0, hq]
    refine pT (Q := fun _ => _) (by omega) fun h1 => pT (Q := fun _ => _) (by omega) fun h2 => pT (Q := fun _ => _) (by omega) fun h3 => pT (Q := fun _ => _) (by omega) fun h4 => pT (Q := fun _ => _) (by omega) fun h5 => pT (Q := fun _ => _) (by omega) fun h6 => pT (Q := fun _ => _) (by omega) fun h7 => pT (Q := fun _ => _) (by omega) fun h8 => pT (Q := fun _ => _) (by omega) fun h9 => pT (Q := fun _ => _) (by omega) fun UM => ⟨0, rfl, fun _ => ?_⟩
    simp only [Bool.or_eq_true, decide_eq_true_eq] at h1 h2
    omega
  by_cases k1 : k = 1
  · obtain ⟨r, h1, h2⟩ := key 64 16 q1 (by rw [k1]; rfl) (by omega)
    exact ⟨r, h1, fun h => .inl ⟨k1, by have := h2 h; omega⟩⟩
  · by_cases k2 : k = 2
    · obtain ⟨r, h1, h2⟩ := key 32 8 q2 (by rw [k2]; rfl) (by omega)
      exact ⟨r, h1, fun h => .inr ⟨k2, by have := h2 h; omega⟩⟩
    · refine ⟨1, ?_, fun h => by omega⟩
      unfold ic lI
      simp only [k1, k2, if_false, Option.bind_some, if_true]
end Go.Sx
namespace Go.Sx
open Go.RowKit
set_option linter.unusedVariables false
set_option linter.unusedSimpArgs false
def ps (at_ : Nat) (v : UInt64) (b : List UInt8) (i : Nat) : List UInt8 := b.set (at_ + i) (UInt8.ofNat (aK v (8 * i)).toNat)
def J8 (b : List UInt8) (at_ n : Nat) (v : UInt64) : List UInt8 := (List.range n).foldl (ps at_ v) b
theorem Ey (at_ : Nat) (v : UInt64) (n : Nat) (b : List UInt8) : ((List.range n).foldl (ps at_ v) b).length = b.length := by
  induction n with
  | zero => rfl
  | succ n ih => rw [List.range_succ, List.foldl_append]; simp only [List.foldl_cons, List.foldl_nil, ps, List.length_set, ih]
theorem Io (b : List UInt8) (at_ n : Nat) (v : UInt64) : (J8 b at_ n v).length = b.length := Ey _ _ _ _
theorem J9 (a i : Nat) (h : a < 1000) (hi : i < 1000) : aD ((a : Int) + (i : Int)) = ((a + i : Nat) : Int) := by rw [gx (by omega)]; omega
theorem QX (b : List UInt8) (at_ n : Nat) (v : UInt64) (hn : n ≤ 8) (hb : at_ + n ≤ b.length) (ha : at_ < 1000) : pW b (at_ : Int) (n : Int) v = some (J8 b at_ n v) := by
  unfold pW
  refine iz (fun i => ((List.range i).foldl (ps at_ v) b, (i : Int))) n (fun i hi => ?_) ?_
  · unfold mP
    simp only []
    rw [if_pos (by omega), Ij i (by omega), lN (by omega), J9 _ _ ha (by omega), j4 (by rw [Ey]; omega), dM i (by omega), List.range_succ, List.foldl_append]
    rfl
  · unfold mP
    simp only []
    rw [if_neg (by omega)]
    rfl
theorem m8 : ∀ i : Nat, i < 8 → ((8 : UInt64) * UInt64.ofInt (i : Int)).toNat = 8 * i := by decide +kernel
theorem QY (b : List UInt8) (at_ n : Nat) (v : UInt64) (hn : n ≤ 8) (hb : at_ + n ≤ b.length) (ha : at_ < 1000) : yb b (at_ : Int) (n : Int) v = some (J8 b at_ n v) := by
  unfold yb
  refine iz (fun i => ((List.range i).foldl (ps at_ v) b, (i : Int))) n (fun i hi => ?_) ?_
  · unfold tv
    simp only []
    rw [if_pos (by omega), J9 _ _ ha (by omega), j4 (by rw [Ey]; omega), dM i (by omega), m8 i (by omega), List.range_succ, List.foldl_append]
    rfl
  · unfold tv
    simp only []
    rw [if_neg (by omega)]
    rfl
def J_ (b : List UInt8) (at_ : Nat) (xs : List UInt8) : List UInt8 := (List.range xs.length).foldl (fun (b : List UInt8) (i : Nat) => b.set (at_ + i) (xs.getD i 0)) b
theorem Ip (at_ : Nat) (xs : List UInt8) (n : Nat) (b : List UInt8) (hn : n ≤ xs.length) (hb : at_ + n ≤ b.length) : (List.range n).foldl (fun (b : List UInt8) (i : Nat) => b.set (at_ + i) (xs.getD i 0)) b = b.take at_ ++ xs.take n ++ b.drop (at_ + n) := by
  induction n with
  | zero => simp
  | succ n ih =>
    rw [List.range_succ, List.foldl_append, ih (by omega) (by omega)]
    simp only [List.foldl_cons, List.foldl_nil]
    have hd : b.drop (at_ + n) = b[at_ + n] :: b.drop (at_ + (n + 1)) := List.drop_eq_getElem_cons (by omega)
    rw [hd, List.set_append_right _ _ (by simp; omega)]
    have hx : at_ + n - (b.take at_ ++ xs.take n).length = 0 := by simp; omega
    rw [hx, List.set_cons_zero, List.take_succ_eq_append_getElem (by omega)]
    simp only [List.append_assoc, List.cons_append, List.nil_append]
    congr 3
    simp [List.getD_eq_getElem?_getD, show n < xs.length from by omega]
theorem sj (b : List UInt8) (at_ : Nat) (xs : List UInt8) (h : at_ + xs.length ≤ b.length) : (J_ b at_ xs).length = b.length := by
  unfold J_; rw [Ip at_ xs xs.length b (Nat.le_refl _) h]; simp; omega
theorem Fm (b : List UInt8) (at_ n : Nat) (xs : List UInt8) (hn : xs.length ≤ n) (h : at_ + xs.length ≤ b.length) : DC b at_ n xs = J_ b at_ xs := by
  unfold J_; rw [Ip at_ xs xs.length b (Nat.le_refl _) h, DC, List.take_length, List.take_of_length_le hn, Nat.min_eq_right hn]
def Ez (k : Int) (i : Nat) : Nat × Nat := if k = 1 then [(0, 1), (1, 1), (2, 1), (3, 1), (4, 4), (8, 8), (12, 4), (16, 1), (17, 1)].getD i (0, 0) else [(0, 1), (1, 1), (2, 1), (3, 1), (4, 4), (8, 6), (12, 2), (14, 1), (15, 1)].getD i (0, 0)
theorem Iq (k : Int) : ∀ i : Nat, i < 9 → (Ez k i).1 + (Ez k i).2 ≤ 18 ∧ (Ez k i).2 ≤ 8 := by
  intro i hi
  unfold Ez
  by_cases hk : k = 1
  · simp only [hk, if_true]; revert i; decide
  · simp only [hk, if_false]; revert i; decide
theorem My (k : Int) (hk : k = 1 ∨ k = 2) : ∀ i : Nat, i < 9 → yJ k ((i + 1 : Nat) : Int) = some (((Ez k i).1 : Int), ((Ez k i).2 : Int)) := by
  rcases hk with rfl | rfl <;> decide +kernel
theorem Ol (k : Int) : ∃ rows, l9 k = some rows ∧ rows.length = 9 ∧ ∀ i : Nat, i < 9 → ∃ row, aS rows (i : Int) = some row ∧ row.1 = ((i + 1 : Nat) : Int) ∧ row.2.1 = ((Ez k i).1 : Int) ∧ row.2.2.1 = ((Ez k i).2 : Int) := by
  by_cases hk : k = 1
  · subst hk
    refine ⟨_, rfl, rfl, fun i hi => ?_⟩
    match i, hi with
    | 0, _ => exact ⟨_, rfl, rfl, rfl, rfl⟩
    | 1, _ => exact ⟨_, rfl, rfl, rfl, rfl⟩
    | 2, _ => exact ⟨_, rfl, rfl, rfl, rfl⟩
    | 3, _ => exact ⟨_, rfl, rfl, rfl, rfl⟩
    | 4, _ => exact ⟨_, rfl, rfl, rfl, rfl⟩
    | 5, _ => exact ⟨_, rfl, rfl, rfl, rfl⟩
    | 6, _ => exact ⟨_, rfl, rfl, rfl, rfl⟩
    | 7, _ => exact ⟨_, rfl, rfl, rfl, rfl⟩
    | 8, _ => exact ⟨_, rfl, rfl, rfl, rfl⟩
  · have h2 : ∀ i, Ez k i = Ez 2 i := fun i => by unfold Ez; simp only [hk, if_false]; rfl
    have h3 : l9 k = l9 2 := by unfold l9; rw [if_neg hk, if_neg (by decide)]
    rw [h3]
    simp only [h2]
    refine ⟨_, rfl, rfl, fun i hi => ?_⟩
    match i, hi with
    | 0, _ => exact ⟨_, rfl, rfl, rfl, rfl⟩
    | 1, _ => exact ⟨_, rfl, rfl, rfl, rfl⟩
    | 2, _ => exact ⟨_, rfl, rfl, rfl, rfl⟩
    | 3, _ => exact ⟨_, rfl, rfl, rfl, rfl⟩
    | 4, _ => exact ⟨_, rfl, rfl, rfl, rfl⟩
    | 5, _ => exact ⟨_, rfl, rfl, rfl, rfl⟩
    | 6, _ => exact ⟨_, rfl, rfl, rfl, rfl⟩
    | 7, _ => exact ⟨_, rfl, rfl, rfl, rfl⟩
    | 8, _ => exact ⟨_, rfl, rfl, rfl, rfl⟩
section
variable (k d ky f dp : Int) (lf : UInt32) (off : UInt64) (l2 : UInt32) (nd mJ : Int) (dw jx : List UInt8)
def Fo : List UInt64 := [UInt64.ofInt d, UInt64.ofInt ky, UInt64.ofInt f, UInt64.ofInt dp, UInt64.ofNat lf.toNat, off, UInt64.ofNat l2.toNat, UInt64.ofInt nd, UInt64.ofInt mJ]
theorem Mz (i : Nat) (hi : i < 9) : pO d ky f dp lf off l2 nd mJ dw jx ((i + 1 : Nat) : Int) = some ((Fo d ky f dp lf off l2 nd mJ).getD i 0) := by
  match i, hi with
  | 0, _ => rfl
  | 1, _ => rfl
  | 2, _ => rfl
  | 3, _ => rfl
  | 4, _ => rfl
  | 5, _ => rfl
  | 6, _ => rfl
  | 7, _ => rfl
  | 8, _ => rfl
def Nf (b : List UInt8) (i : Nat) : List UInt8 := if i = 6 ∧ l2 = 0 then b else J8 b (Ez k i).1 (Ez k i).2 ((Fo d ky f dp lf off l2 nd mJ).getD i 0)
def AN (b : List UInt8) (n : Nat) : List UInt8 := (List.range n).foldl (Nf k d ky f dp lf off l2 nd mJ) b
theorem oz (b : List UInt8) (n : Nat) : (AN k d ky f dp lf off l2 nd mJ b n).length = b.length := by
  unfold AN
  induction n with
  | zero => rfl
  | succ n ih =>
    rw [List.range_succ, List.foldl_append]
    simp only [List.foldl_cons, List.foldl_nil, Nf]
    split
    · exact ih
    · rw [Io, ih]
def Gj (S : Nat) : List UInt8 := J_ (J_ (AN k d ky f dp lf off l2 nd mJ (List.replicate S 0) 9) (S / 2) dw) (S / 4 * 3) jx
def Ir : List UInt8 := Gj k d ky f dp lf off l2 nd mJ dw jx (if k = 1 then 64 else 32)
theorem KM (S q : Nat) (hS : S = 64 ∧ q = 16 ∨ S = 32 ∧ q = 8) (m : Int) (hs : dw.length ≤ q) (hp : jx.length ≤ q) (rows : List (Int × Int × Int × List UInt8 × Int)) (hl : rows.length = 9)
    (hr : ∀ i : Nat, i < 9 → ∃ row, aS rows (i : Int) = some row ∧ row.1 = ((i + 1 : Nat) : Int) ∧ row.2.1 = ((Ez k i).1 : Int) ∧ row.2.2.1 = ((Ez k i).2 : Int)) :
    cf (jU d ky f dp lf off l2 nd mJ dw jx ((S : Int), m, (q : Int)) rows) (List.replicate S 0, (0 : Int)) = some (Gj k d ky f dp lf off l2 nd mJ dw jx S, 0) := by
  refine iz (fun i => (AN k d ky f dp lf off l2 nd mJ (List.replicate S 0) i, (i : Int))) 9 (fun i hi => ?_) ?_
  · obtain ⟨row, h1, h2, h3, h4⟩ := hr i hi
    obtain ⟨g1, g2⟩ := Iq k i hi
    unfold jU ln mB
    simp only []
    rw [hl, if_pos (by omega), h1]
    simp only [Option.bind_some]
    rw [h2, h3, h4, dM i (by omega)]
    have QZ : AN k d ky f dp lf off l2 nd mJ (List.replicate S 0) (i + 1) = Nf k d ky f dp lf off l2 nd mJ (AN k d ky f dp lf off l2 nd mJ (List.replicate S 0) i) i := by
      unfold AN; rw [List.range_succ, List.foldl_append]; rfl
    rw [QZ]
    unfold Nf
    by_cases hc : i = 6 ∧ l2 = 0
    · rw [if_pos (by simp only [Bool.and_eq_true, decide_eq_true_eq]; exact ⟨by omega, hc.2⟩), if_pos hc]
    · rw [if_neg (by simp only [Bool.and_eq_true, decide_eq_true_eq]; exact fun h => hc ⟨by omega, h.2⟩), if_neg hc, Mz _ _ _ _ _ _ _ _ _ _ _ i hi]
      simp only [Option.bind_some]
      rw [QX _ _ _ _ g2 (by rw [oz]; simp; omega) (by omega)]
      rfl
  · unfold jU
    simp only []
    have hlen : (AN k d ky f dp lf off l2 nd mJ (List.replicate S 0) 9).length = S := by rw [oz]; simp
    have e1 : aD ((S : Int) - aD (2 * (q : Int))) = ((S / 2 : Nat) : Int) := by rw [gx (n := 2 * (q : Int)) (by omega), gx (by omega)]; omega
    have e2 : aD ((S : Int) - (q : Int)) = ((S / 4 * 3 : Nat) : Int) := by rw [gx (by omega)]; omega
    rw [hl, if_neg (by omega), e1, e2, Int.toNat_natCast]
    rw [uB (by rw [hlen]; omega)]
    simp only [Option.bind_some, Int.toNat_natCast]
    have l1 : ((AN k d ky f dp lf off l2 nd mJ (List.replicate S 0) 9).take S).drop (S / 2) = (AN k d ky f dp lf off l2 nd mJ (List.replicate S 0) 9).drop (S / 2) := by rw [List.take_of_length_le (by omega)]
    rw [l1, Fm _ _ _ _ (by rw [List.length_drop, hlen]; omega) (by rw [hlen]; omega)]
    have Ds : (J_ (AN k d ky f dp lf off l2 nd mJ (List.replicate S 0) 9) (S / 2) dw).length = S := by rw [sj _ _ _ (by omega), hlen]
    rw [uB (by rw [Ds]; omega)]
    simp only [Option.bind_some, Int.toNat_natCast]
    rw [List.take_of_length_le (by omega), Fm _ _ _ _ (by rw [List.length_drop, Ds]; omega) (by rw [Ds]; omega)]
    rfl
theorem Dt (at_ : Nat) (xs : List UInt8) (n : Nat) (b : List UInt8) : ((List.range n).foldl (fun (b : List UInt8) (i : Nat) => b.set (at_ + i) (xs.getD i 0)) b).length = b.length := by
  induction n with
  | zero => rfl
  | succ n ih => rw [List.range_succ, List.foldl_append]; simp only [List.foldl_cons, List.foldl_nil, List.length_set, ih]
theorem Fq (xs : List UInt8) (i : Nat) (h : i < xs.length) : xs.getD i 0 = xs[i] := by simp [List.getD_eq_getElem?_getD, h]
theorem KN (hk : k = 1 ∨ k = 2) (S q : Nat) (hS : S = 64 ∧ q = 16 ∨ S = 32 ∧ q = 8) (hM : lI k = some (S : Int)) (hs : dw.length ≤ q) (hp : jx.length ≤ q) :
    cf (ou k d ky f dp lf off l2 nd mJ dw jx) (List.replicate S 0, (1 : Int)) = some (Gj k d ky f dp lf off l2 nd mJ dw jx S, 0) := by
  refine iz (fun i => (AN k d ky f dp lf off l2 nd mJ (List.replicate S 0) i, ((i + 1 : Nat) : Int))) 9 (fun i hi => ?_) ?_
  · obtain ⟨g1, g2⟩ := Iq k i hi
    unfold ou qE tV
    simp only []
    rw [if_pos (by omega), dM (i + 1) (by omega)]
    have QZ : AN k d ky f dp lf off l2 nd mJ (List.replicate S 0) (i + 1) = Nf k d ky f dp lf off l2 nd mJ (AN k d ky f dp lf off l2 nd mJ (List.replicate S 0) i) i := by
      unfold AN; rw [List.range_succ, List.foldl_append]; rfl
    rw [QZ]
    unfold Nf
    by_cases hc : i = 6 ∧ l2 = 0
    · rw [if_pos (by simp only [Bool.and_eq_true, decide_eq_true_eq]; exact ⟨by omega, hc.2⟩), if_pos hc]
    · rw [if_neg (by simp only [Bool.and_eq_true, decide_eq_true_eq]; exact fun h => hc ⟨by omega, h.2⟩), if_neg hc, My k hk i hi]
      simp only [Option.bind_some]
      have hw : aD (((i + 1 : Nat) : Int) - 1) = (i : Int) := by rw [gx (by omega)]; omega
      have hg : aS [UInt64.ofInt d, UInt64.ofInt ky, UInt64.ofInt f, UInt64.ofInt dp, UInt64.ofNat lf.toNat, off, UInt64.ofNat l2.toNat, UInt64.ofInt nd, UInt64.ofInt mJ] (i : Int) = some ((Fo d ky f dp lf off l2 nd mJ).getD i 0) := by
        rw [j4 (by simp; omega)]
        simp [Fo, List.getD_eq_getElem?_getD, hi]
      rw [hw, hg]
      simp only [Option.bind_some]
      rw [QY _ _ _ _ g2 (by rw [oz]; simp; omega) (by omega)]
      rfl
  · unfold ou
    simp only []
    have hlen : (AN k d ky f dp lf off l2 nd mJ (List.replicate S 0) 9).length = S := by rw [oz]; simp
    rw [if_neg (by omega), hM]
    simp only [Option.bind_some]
    have t4 : aD (Int.tdiv (S : Int) 4) = ((S / 4 : Nat) : Int) := by rcases hS with ⟨rfl, _⟩ | ⟨rfl, _⟩ <;> rfl
    have e1 : aD (2 * ((S / 4 : Nat) : Int)) = ((S / 2 : Nat) : Int) := by rw [gx (by omega)]; omega
    have e2 : aD (3 * ((S / 4 : Nat) : Int)) = ((S / 4 * 3 : Nat) : Int) := by rw [gx (by omega)]; omega
    rw [show cf (ot dw jx (S : Int)) (AN k d ky f dp lf off l2 nd mJ (List.replicate S 0) 9, 0) = some (Gj k d ky f dp lf off l2 nd mJ dw jx S, 0) from ?_]
    · rfl
    refine iz (fun i => ((List.range i).foldl (fun (b : List UInt8) (i : Nat) => b.set (S / 2 + i) (dw.getD i 0)) (AN k d ky f dp lf off l2 nd mJ (List.replicate S 0) 9), (i : Int))) dw.length (fun i hi => ?_) ?_
    · unfold ot
      simp only []
      rw [if_pos (by omega), t4, e1, j4 hi, J9 _ _ (by omega) (by omega), j4 (by rw [Dt, hlen]; omega), dM i (by omega), List.range_succ, List.foldl_append]
      simp only [Option.bind_some, List.foldl_cons, List.foldl_nil, Int.toNat_natCast, Fq _ _ hi]
    · unfold ot
      simp only []
      rw [if_neg (by omega)]
      rw [show cf (oq jx (S : Int)) ((List.range dw.length).foldl (fun (b : List UInt8) (i : Nat) => b.set (S / 2 + i) (dw.getD i 0)) (AN k d ky f dp lf off l2 nd mJ (List.replicate S 0) 9), 0) = some (Gj k d ky f dp lf off l2 nd mJ dw jx S, 0) from ?_]
      · rfl
      have Ds : (J_ (AN k d ky f dp lf off l2 nd mJ (List.replicate S 0) 9) (S / 2) dw).length = S := by rw [sj _ _ _ (by omega), hlen]
      refine iz (fun i => ((List.range i).foldl (fun (b : List UInt8) (i : Nat) => b.set (S / 4 * 3 + i) (jx.getD i 0)) (J_ (AN k d ky f dp lf off l2 nd mJ (List.replicate S 0) 9) (S / 2) dw), (i : Int))) jx.length (fun i hi => ?_) ?_
      · unfold oq
        simp only []
        rw [if_pos (by omega), t4, e2, j4 hi, J9 _ _ (by omega) (by omega), j4 (by rw [Dt, Ds]; omega), dM i (by omega), List.range_succ, List.foldl_append]
        simp only [Option.bind_some, List.foldl_cons, List.foldl_nil, Int.toNat_natCast, Fq _ _ hi]
      · unfold oq
        simp only []
        rw [if_neg (by omega)]
        rfl
theorem It (h : ic k d ky f dp lf off l2 nd mJ dw jx = some 0) :
    kG k d ky f dp lf off l2 nd mJ dw jx = some (Ir k d ky f dp lf off l2 nd mJ dw jx, 0) ∧ mb k d ky f dp lf off l2 nd mJ dw jx = some (Ir k d ky f dp lf off l2 nd mJ dw jx, 0) := by
  obtain ⟨r, h1, h2⟩ := Ex k d ky f dp lf off l2 nd mJ dw jx
  rw [h] at h1
  obtain rfl := Option.some.inj h1
  obtain ⟨rows, r1, r2, r3⟩ := Ol k
  rcases h2 rfl with ⟨rfl, _, _, _, hs, hp⟩ | ⟨rfl, _, _, _, hs, hp⟩
  · constructor
    · unfold kG
      rw [Af, h, r1]
      exact KM 1 d ky f dp lf off l2 nd mJ dw jx 64 16 (by omega) 64 hs hp rows r2 r3
    · unfold mb
      rw [h]
      exact KN 1 d ky f dp lf off l2 nd mJ dw jx (by omega) 64 16 (by omega) rfl hs hp
  · constructor
    · unfold kG
      rw [Af, h, r1]
      exact KM 2 d ky f dp lf off l2 nd mJ dw jx 32 8 (by omega) 32 hs hp rows r2 r3
    · unfold mb
      rw [h]
      exact KN 2 d ky f dp lf off l2 nd mJ dw jx (by omega) 32 8 (by omega) rfl hs hp
theorem Du (h : (k = 1 ∧ dw.length ≤ 16 ∧ jx.length ≤ 16) ∨ (k = 2 ∧ dw.length ≤ 8 ∧ jx.length ≤ 8)) : (Ir k d ky f dp lf off l2 nd mJ dw jx).length = if k = 1 then 64 else 32 := by
  unfold Ir Gj
  rcases h with ⟨rfl, hs, hp⟩ | ⟨rfl, hs, hp⟩
  · simp only [if_true]
    rw [sj _ _ _ (by rw [sj _ _ _ (by rw [oz]; simp; omega), oz]; simp; omega), sj _ _ _ (by rw [oz]; simp; omega), oz]
    simp
  · simp only [show ¬ ((2 : Int) = 1) from by omega, if_false]
    rw [sj _ _ _ (by rw [sj _ _ _ (by rw [oz]; simp; omega), oz]; simp; omega), sj _ _ _ (by rw [oz]; simp; omega), oz]
    simp
end
end Go.Sx
namespace Go.Sx
open Go.RowKit
set_option linter.unusedVariables false
set_option linter.unusedSimpArgs false
section
variable {σ : Type}
def k7 (f : σ → List UInt8 → UInt64 × UInt64 → σ) (B : Nat) (h : σ) (c : UInt64 × UInt64) (M : List UInt8) : σ × (UInt64 × UInt64) × List UInt8 :=
  if q7 : 0 < B ∧ B < M.length then k7 f B (f h (M.take B) (rY c (UInt64.ofNat B))) (rY c (UInt64.ofNat B)) (M.drop B) else (h, c, M)
termination_by M.length
decreasing_by simp only [List.length_drop]; omega
theorem sk (f : σ → List UInt8 → UInt64 × UInt64 → σ) (B : Nat) (h : σ) (c : UInt64 × UInt64) (M : List UInt8) (hM : M.length ≤ B) : k7 f B h c M = (h, c, M) := by
  rw [k7, dif_neg (by omega)]
theorem Bq (f : σ → List UInt8 → UInt64 × UInt64 → σ) (B : Nat) (h : σ) (c : UInt64 × UInt64) (M : List UInt8) (hB : 0 < B) (hM : B < M.length) : k7 f B h c M = k7 f B (f h (M.take B) (rY c (UInt64.ofNat B))) (rY c (UInt64.ofNat B)) (M.drop B) := by
  rw [k7, dif_pos ⟨hB, hM⟩]
theorem EA (f : σ → List UInt8 → UInt64 × UInt64 → σ) (B : Nat) (hB : 0 < B) : ∀ (n : Nat) (h : σ) (c : UInt64 × UInt64) (M : List UInt8), M.length ≤ n → (k7 f B h c M).2.2.length ≤ B ∧ (k7 f B h c M).2.2 = M.drop (M.length - (k7 f B h c M).2.2.length) ∧ (k7 f B h c M).2.2.length ≤ M.length := by
  intro n
  induction n with
  | zero => intro h c M hM; rw [sk f B h c M (by omega)]; simp; omega
  | succ n ih =>
    intro h c M hM
    by_cases hl : B < M.length
    · rw [Bq f B h c M hB hl]
      obtain ⟨h1, h2, h3⟩ := ih (f h (M.take B) (rY c (UInt64.ofNat B))) (rY c (UInt64.ofNat B)) (M.drop B) (by simp only [List.length_drop]; omega)
      refine ⟨h1, ?_, by simp only [List.length_drop] at h3; omega⟩
      rw [List.drop_drop] at h2
      simp only [List.length_drop] at h2 h3
      rw [show B + (M.length - B - (k7 f B (f h (M.take B) (rY c (UInt64.ofNat B))) (rY c (UInt64.ofNat B)) (M.drop B)).2.2.length) = M.length - (k7 f B (f h (M.take B) (rY c (UInt64.ofNat B))) (rY c (UInt64.ofNat B)) (M.drop B)).2.2.length from by omega] at h2
      exact h2
    · rw [sk f B h c M (by omega)]
      simp; omega
end
def pad (n : Nat) (xs : List UInt8) : List UInt8 := xs ++ List.replicate (n - xs.length) 0
theorem Cv (n : Nat) (xs : List UInt8) (h : xs.length ≤ n) : (pad n xs).length = n := by simp [pad]; omega
theorem Ft (n : Nat) : UInt64.ofInt (n : Int) = UInt64.ofNat n := by
  rw [← UInt64.toNat_inj]
  unfold UInt64.ofInt
  simp
  omega
theorem Om (c : UInt64 × UInt64) (n : UInt64) : ∃ o, l_ c.1 c.2 n = some ((rY c n).1, (rY c n).2, o) := ⟨_, Mq _ _ _⟩
theorem On (b : List UInt8) (n : Nat) (hb : b.length ≤ n) (hn : n ≤ 1000) : kt b (n : Int) = some (pad n b) := by
  unfold kt
  rw [lN (by omega)]
  simp only [Option.bind_some]
  rw [mO (by simp; omega)]
  simp only [Option.bind_some]
  have e : aD ((n : Int) - (b.length : Int)) = ((n - b.length : Nat) : Int) := by rw [gx (by omega)]; omega
  rw [e]
  unfold Jj
  rw [if_pos (by simp; omega)]
  simp only [Option.bind_some, Int.toNat_natCast]
  rfl
end Go.Sx
namespace Go.Sx
open Go.RowKit
set_option linter.unusedVariables false
set_option linter.unusedSimpArgs false
structure rV where
  σ : Type
  k : Int
  B : Nat
  S : Nat
  f : σ → List UInt8 → UInt64 × UInt64 → Bool → Bool → σ
  st : List UInt8 → σ
  Q0 : σ → List UInt8
  O_ : σ → ae UInt64 16
  hk : k = 1 ∧ B = 128 ∧ S = 64 ∨ k = 2 ∧ B = 64 ∧ S = 32
  MA : ∀ h, (Q0 h).length = S
  UN : ∀ h b (c : UInt64 × UInt64) last node, b.length = B → uQ k (O_ h) b c.1 c.2 last node = some (O_ (f h b c last node))
  Q1 : ∀ h, p9 k (O_ h) = some (Q0 h)
  Q2 : ∀ (d ky fn dp : Int) (lf : UInt32) (off : UInt64) (l2 : UInt32) (nd mJ : Int) (dw jx key : List UInt8) (last : Bool) (from_ : ae UInt64 16) (lo hi : UInt64) (msg : List UInt8) (cn : UInt64) (gq : List UInt8), mb k d ky fn dp lf off l2 nd mJ dw jx = some (gq, 0) → gq.length = S →
    lX k d ky fn dp lf off l2 nd mJ dw jx key last from_ false lo hi msg cn = some (O_ (st gq), k, d, ky, fn, dp, lf, off, l2, nd, mJ, last, from_, false, lo, hi, msg, cn)
def xO (h : ae UInt64 8) : ae UInt64 16 := ⟨h.l ++ List.replicate 8 0, by simp [h.h]⟩
theorem MB (h : ae UInt64 8) (i : Nat) (hi : i < 8) : (xO h).g i = h.g i := by
  have hl : i < h.l.length := by rw [h.h]; exact hi
  simp [ae.g, xO, List.getD_eq_getElem?_getD, List.getElem?_append_left hl]
theorem Ka (h r : ae UInt64 8) : (List.range 8).foldl (fun v (i : Nat) => iy v i (r.g i)) (xO h) = xO r := by
  obtain ⟨a, b, c, d, e, f, g, q, rfl⟩ := yX (v := h)
  obtain ⟨a', b', c', d', e', f', g', q', rfl⟩ := yX (v := r)
  rfl
theorem Iu (h : ae UInt64 8) : (List.range 8).foldl (fun v (i : Nat) => iy v i ((xO h).g i)) (ae.rep 8 (0 : UInt64)) = h := by
  obtain ⟨a, b, c, d, e, f, g, q, rfl⟩ := yX (v := h)
  rfl
theorem MC (r : ae UInt64 8) : (List.range 8).foldl (fun v (i : Nat) => iy v i (r.g i)) (ae.rep 16 (0 : UInt64)) = xO r := by
  obtain ⟨a', b', c', d', e', f', g', q', rfl⟩ := yX (v := r)
  rfl
theorem Q3 (h : ae UInt64 8) (b : List UInt8) (c : UInt64 × UInt64) (last node : Bool) (hb : b.length = 128) : uQ 1 (xO h) b c.1 c.2 last node = some (xO (Fb h (Wb b) c.1 c.2 last node)) := by
  unfold uQ
  rw [if_pos rfl]
  refine nL _ 8 (fun v (i : Nat) => iy v i ((xO h).g i)) _ _ (fun v i hi => ?_) ?_
  · unfold uO
    simp only []
    rw [if_pos (by omega), dX _ _ (by omega), dX _ _ hi, dM i (by omega)]
    rfl
  · rw [Iu]
    unfold uO
    simp only []
    rw [if_neg (by omega), Ms b hb]
    simp only [Option.bind_some]
    rw [rF]
    simp only [Option.bind_some]
    rw [show cf (r9 (Fb h (Wb b) c.1 c.2 last node)) (xO h, 0) = some (xO (Fb h (Wb b) c.1 c.2 last node)) from ?_]
    · rfl
    refine nL _ 8 (fun v (i : Nat) => iy v i ((Fb h (Wb b) c.1 c.2 last node).g i)) _ _ (fun v i hi => ?_) ?_
    · unfold r9
      simp only []
      rw [if_pos (by omega), dX _ _ hi, dX _ _ (by omega), dM i (by omega)]
      rfl
    · rw [Ka]
      unfold r9
      simp only []
      rw [if_neg (by omega)]
      rfl
theorem Kb (h : ae UInt64 8) : p9 1 (xO h) = some (Il h) := by
  unfold p9
  refine iz (fun i => ((List.range i).foldl (fun b i => b ++ DF 8 (h.g i)) [], (i : Int))) 8 (fun i hi => ?_) rfl
  unfold rH
  simp only []
  have hs := Ii (h.g i) 8 (by omega)
  rw [if_pos (by omega), dX _ _ (by omega), MB h i hi, dM i (by omega)]
  simp only [Option.bind_some]
  rw [show wH 1 = some 64 from rfl]
  simp only [Option.bind_some]
  rw [show aD (Int.tdiv 64 8) = ((8 : Nat) : Int) from rfl, hs]
  simp only [Option.bind_some]
  have hq : (List.range (i + 1)).foldl (fun b i => b ++ DF 8 (h.g i)) [] = (List.range i).foldl (fun b i => b ++ DF 8 (h.g i)) [] ++ DF 8 (h.g i) := by rw [List.range_succ, List.foldl_append]; rfl
  rw [mO (by rw [Ae _ 8 (fun i => xN 8 _)]; simp; omega), hq]
  rfl
theorem Kc (d ky fn dp : Int) (lf : UInt32) (off : UInt64) (l2 : UInt32) (nd mJ : Int) (dw jx key : List UInt8) (last : Bool) (from_ : ae UInt64 16) (lo hi : UInt64) (msg : List UInt8) (cn : UInt64) (gq : List UInt8) (he : mb 1 d ky fn dp lf off l2 nd mJ dw jx = some (gq, 0)) (hl : gq.length = 64) :
    lX 1 d ky fn dp lf off l2 nd mJ dw jx key last from_ false lo hi msg cn = some (xO (Dq gq), 1, d, ky, fn, dp, lf, off, l2, nd, mJ, last, from_, false, lo, hi, msg, cn) := by
  unfold lX
  rw [if_neg (by decide), he]
  simp only [Option.bind_some]
  rw [if_pos trivial, Mt gq hl]
  simp only [Option.bind_some]
  refine nL _ 8 (fun v (i : Nat) => iy v i ((Dq gq).g i)) _ _ (fun v i hi => ?_) ?_
  · unfold nO
    simp only []
    rw [if_pos (by omega), dX _ _ hi, dX _ _ (by omega), dM i (by omega)]
    rfl
  · rw [MC]
    unfold nO
    simp only []
    rw [if_neg (by omega)]
    rfl
def AO : rV := ⟨ae UInt64 8, 1, 128, 64, fun h b c last node => Fb h (Wb b) c.1 c.2 last node, Dq, Il, xO, .inl ⟨rfl, rfl, rfl⟩, tQ, Q3, Kb, Kc⟩
def up (x : UInt32) : UInt64 := UInt64.ofNat x.toNat
theorem down_up (x : UInt32) : UInt32.ofNat (up x).toNat = x := by
  have := x.toNat_lt
  unfold up
  rw [← UInt32.toNat_inj]
  simp only [UInt32.toNat_ofNat', UInt64.toNat_ofNat']
  omega
def yA (h : ae UInt32 8) : ae UInt64 16 := ⟨h.l.map up ++ List.replicate 8 0, by simp [h.h]⟩
theorem MD (h : ae UInt32 8) (i : Nat) (hi : i < 8) : (yA h).g i = up (h.g i) := by
  obtain ⟨a, b, c, d, e, f, g, q, rfl⟩ := yX (v := h)
  match i, hi with
  | 0, _ => rfl
  | 1, _ => rfl
  | 2, _ => rfl
  | 3, _ => rfl
  | 4, _ => rfl
  | 5, _ => rfl
  | 6, _ => rfl
  | 7, _ => rfl
theorem Kd (h r : ae UInt32 8) : (List.range 8).foldl (fun v (i : Nat) => iy v i (up (r.g i))) (yA h) = yA r := by
  obtain ⟨a, b, c, d, e, f, g, q, rfl⟩ := yX (v := h)
  obtain ⟨a', b', c', d', e', f', g', q', rfl⟩ := yX (v := r)
  rfl
theorem Iv (h : ae UInt32 8) : (List.range 8).foldl (fun v (i : Nat) => iy v i (UInt32.ofNat ((yA h).g i).toNat)) (ae.rep 8 (0 : UInt32)) = h := by
  obtain ⟨a, b, c, d, e, f, g, q, rfl⟩ := yX (v := h)
  show (⟨[UInt32.ofNat (up a).toNat, UInt32.ofNat (up b).toNat, UInt32.ofNat (up c).toNat, UInt32.ofNat (up d).toNat, UInt32.ofNat (up e).toNat, UInt32.ofNat (up f).toNat, UInt32.ofNat (up g).toNat, UInt32.ofNat (up q).toNat], rfl⟩ : ae UInt32 8) = _
  apply ae.ext
  simp only [down_up]
theorem ME (r : ae UInt32 8) : (List.range 8).foldl (fun v (i : Nat) => iy v i (up (r.g i))) (ae.rep 16 (0 : UInt64)) = yA r := by
  obtain ⟨a', b', c', d', e', f', g', q', rfl⟩ := yX (v := r)
  rfl
theorem Q4 (h : ae UInt32 8) (b : List UInt8) (c : UInt64 × UInt64) (last node : Bool) (hb : b.length = 64) : uQ 2 (yA h) b c.1 c.2 last node = some (yA (Fs h (Ws b) c.1 last node)) := by
  unfold uQ
  rw [if_neg (by decide)]
  refine nL _ 8 (fun v (i : Nat) => iy v i (UInt32.ofNat ((yA h).g i).toNat)) _ _ (fun v i hi => ?_) ?_
  · unfold uP
    simp only []
    rw [if_pos (by omega), dX _ _ (by omega), dX _ _ hi, dM i (by omega)]
    rfl
  · rw [Iv]
    unfold uP
    simp only []
    rw [if_neg (by omega), J4 b hb]
    simp only [Option.bind_some]
    rw [TS]
    simp only [Option.bind_some]
    rw [show cf (sa (Fs h (Ws b) c.1 last node)) (yA h, 0) = some (yA (Fs h (Ws b) c.1 last node)) from ?_]
    · rfl
    refine nL _ 8 (fun v (i : Nat) => iy v i (up ((Fs h (Ws b) c.1 last node).g i))) _ _ (fun v i hi => ?_) ?_
    · unfold sa
      simp only []
      rw [if_pos (by omega), dX _ _ hi, dX _ _ (by omega), dM i (by omega)]
      rfl
    · rw [Kd]
      unfold sa
      simp only []
      rw [if_neg (by omega)]
      rfl
theorem Ke (h : ae UInt32 8) : p9 2 (yA h) = some (O9 h) := by
  unfold p9
  refine iz (fun i => ((List.range i).foldl (fun b i => b ++ DF 4 (UInt64.ofNat (h.g i).toNat)) [], (i : Int))) 8 (fun i hi => ?_) rfl
  unfold rH
  simp only []
  have hs := Ii (up (h.g i)) 4 (by omega)
  rw [if_pos (by omega), dX _ _ (by omega), MD h i hi, dM i (by omega)]
  simp only [Option.bind_some]
  rw [show wH 2 = some 32 from rfl]
  simp only [Option.bind_some]
  rw [show aD (Int.tdiv 32 8) = ((4 : Nat) : Int) from rfl, hs]
  simp only [Option.bind_some]
  have hq : (List.range (i + 1)).foldl (fun b i => b ++ DF 4 (UInt64.ofNat (h.g i).toNat)) [] = (List.range i).foldl (fun b i => b ++ DF 4 (UInt64.ofNat (h.g i).toNat)) [] ++ DF 4 (UInt64.ofNat (h.g i).toNat) := by rw [List.range_succ, List.foldl_append]; rfl
  rw [mO (by rw [Ae _ 4 (fun i => xN 4 _)]; simp; omega), hq]
  rfl
theorem Kf (d ky fn dp : Int) (lf : UInt32) (off : UInt64) (l2 : UInt32) (nd mJ : Int) (dw jx key : List UInt8) (last : Bool) (from_ : ae UInt64 16) (lo hi : UInt64) (msg : List UInt8) (cn : UInt64) (gq : List UInt8) (he : mb 2 d ky fn dp lf off l2 nd mJ dw jx = some (gq, 0)) (hl : gq.length = 32) :
    lX 2 d ky fn dp lf off l2 nd mJ dw jx key last from_ false lo hi msg cn = some (yA (O8 gq), 2, d, ky, fn, dp, lf, off, l2, nd, mJ, last, from_, false, lo, hi, msg, cn) := by
  unfold lX
  rw [if_neg (by decide), he]
  simp only [Option.bind_some]
  rw [if_neg (by decide), J5 gq hl]
  simp only [Option.bind_some]
  refine nL _ 8 (fun v (i : Nat) => iy v i (up ((O8 gq).g i))) _ _ (fun v i hi => ?_) ?_
  · unfold nP
    simp only []
    rw [if_pos (by omega), dX _ _ hi, dX _ _ (by omega), dM i (by omega)]
    rfl
  · rw [ME]
    unfold nP
    simp only []
    rw [if_neg (by omega)]
    rfl
def small : rV := ⟨ae UInt32 8, 2, 64, 32, fun h b c last node => Fs h (Ws b) c.1 last node, O8, O9, yA, .inr ⟨rfl, rfl, rfl⟩, J6, Q4, Ke, Kf⟩
end Go.Sx
namespace Go.Sx
open Go.RowKit
set_option linter.unusedVariables false
set_option linter.unusedSimpArgs false
def rV.run (H : rV) (gq M : List UInt8) : H.σ × (UInt64 × UInt64) × List UInt8 := k7 (fun h b c => H.f h b c false false) H.B (H.st gq) (0, 0) M
def rV.hash (H : rV) (gq M : List UInt8) (last : Bool) : List UInt8 :=
  H.Q0 (H.f (H.run gq M).1 (pad H.B (H.run gq M).2.2) (rY (H.run gq M).2.1 (UInt64.ofNat (H.run gq M).2.2.length)) true last)
theorem rV.Iw (H : rV) (gq M : List UInt8) (last : Bool) : (H.hash gq M last).length = H.S := H.MA _
theorem rV.bp (H : rV) : 0 < H.B ∧ H.B ≤ 128 := by rcases H.hk with ⟨_, h, _⟩ | ⟨_, h, _⟩ <;> omega
section
variable (H : rV) (d ky fn dp : Int) (lf : UInt32) (off : UInt64) (l2 : UInt32) (nd mJ : Int) (dw jx key : List UInt8) (last : Bool) (from_ : ae UInt64 16) (msg : List UInt8) (cn : UInt64) (gq : List UInt8)
theorem rV.held (H : rV) (gq M : List UInt8) : (H.run gq M).2.2.length ≤ H.B ∧ (H.run gq M).2.2 = M.drop (M.length - (H.run gq M).2.2.length) ∧ (H.run gq M).2.2.length ≤ M.length :=
  EA _ H.B H.bp.1 M.length _ _ M (Nat.le_refl _)
end
def rV.Q5 (H : rV) (gq M : List UInt8) (last : Bool) (out : Int) : List UInt8 × Int := if out < 1 ∨ (H.S : Int) < out then ([], 1) else ((H.hash gq M last).take out.toNat, 0)
def rV.kb (H : rV) (key : List UInt8) : List UInt8 := if key = [] then [] else pad H.B key
theorem rV.Ix (H : rV) (key : List UInt8) (h : key.length ≤ H.B) : (H.kb key).length ≤ H.B := by
  unfold rV.kb
  split
  · simp
  · rw [Cv _ _ h]; exact Nat.le_refl _
end Go.Sx
