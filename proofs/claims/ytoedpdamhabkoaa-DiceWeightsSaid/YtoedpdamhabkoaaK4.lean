import Derived.Test.YtoedpdamhabkoaaK3
namespace Go.Sx
open Go.RowKit Go.Proofs
set_option linter.unusedVariables false
set_option linter.unusedSimpArgs false
set_option maxRecDepth 20000
theorem nI {F O : Nat → Prop} {w : World} (qU : ae UInt32 8) (bC : UInt64) (bD : UInt64) (cA : List UInt8) (aA : Int) (b : List UInt8) (a6 : Nat) (dA : Option Addr) (k9 : Nat) (dB : Nat) (l8 : Option Addr) (o6 : Nat) (mq : Nat) (qu : Ro F w l8 (e8.all b)) (qv : b.length = o6) (rC : o6 ≤ mq) (k : Cx F O w w [Bx 140 a6 [.ar du qU, .u64 bC, .u64 bD, sl dA k9 dB, I aA, .v (.func (.func 76) ⟨SV.ad []⟩ ⟨SV.ad []⟩), .v (.func (.func 77) ⟨SV.ad []⟩ ⟨SV.ad []⟩)], Ow e8 dA k9 dB cA]) (r : (ae UInt32 8 × UInt64 × UInt64 × List UInt8 × Int)) (hm : jm qU bC bD cA aA b = some r) :
    Calls Try.prog 124 (ad [pt a6 0, sl l8 o6 mq]) w (fun e w' => ∃ A n c, r.2.2.2.1.length = n ∧ e = .returned (SV.val (.eO [])) ∧ Cx F O w w' [Bx 140 a6 [.ar du r.1, .u64 r.2.1, .u64 r.2.2.1, sl A n c, I r.2.2.2.2, .v (.func (.func 76) ⟨SV.ad []⟩ ⟨SV.ad []⟩), .v (.func (.func 77) ⟨SV.ad []⟩ ⟨SV.ad []⟩)], Ow e8 A n c r.2.2.2.1]) := by
 unfold jm at hm
 obtain rfl := k.len 1 rfl
 subst qv
 refine calls [pt a6 0, sl l8 b.length mq] Try.func124 rfl (of_decide_eq_true (by kernel_rfl)) ?_
 refine cu <| pc (j0 aA) (fun s L wr => ∃ (aC : ae UInt32 8) (ln : UInt64) (l6 : UInt64) (lG : List UInt8) (b1 : List UInt8) (A0 : Option Addr) (n0 : Nat) (c0 : Nat) (A1 : Option Addr) (c1 : Nat), (aC, ln, l6, lG, b1) = s ∧ L = [(0, pt a6 0), (1, sl A1 b1.length c1)] ∧ lG.length = n0 ∧ Ro F w A1 (e8.all b1) ∧ b1.length ≤ c1 ∧ Cx F O w wr [Bx 140 a6 [.ar du aC, .u64 ln, .u64 l6, sl A0 n0 c0, I aA, .v (.func (.func 76) ⟨SV.ad []⟩ ⟨SV.ad []⟩), .v (.func (.func 77) ⟨SV.ad []⟩ ⟨SV.ad []⟩)], Ow e8 A0 n0 c0 lG]) (qU, bC, bD, cA, b) r hm ⟨qU, bC, bD, cA, b, dA, cA.length, dB, l8, mq, rfl, rfl, k.len 1 rfl, qu, rC, k⟩ (by kernel_rfl) ?_
 intro yU L_ w_ y0 jd dd nF
 obtain ⟨aC, ln, l6, lG, b1, A0, _, c0, A1, c1, rfl, rfl, rfl, h, hc, k_⟩ := jd
 have hm := dd; simp only [j0] at hm
 clear dd
 refine ab <| ab <| bA [] (.n 7 (.b (decide (0 < ((b1.length : Nat) : Int)))) .a) qe (by kernel_rfl) ?_
 refine aa <| bb (0 < ((b1.length : Nat) : Int)) (by kernel_rfl) (fun kr => ?_) (fun kr => ?_)
 · rw [if_pos kr] at hm
   refine aS <| aa <| cu <| kS (fun L wr => ∃ (oH : ae UInt32 8) (ig : UInt64) (kY : UInt64) (ek : List UInt8) (A2 : Option Addr) (n1 : Nat) (c2 : Nat), il aA b1 oH ig kY ek = some y0 ∧ L = [(0, pt a6 0), (1, sl A1 b1.length c1)] ∧ ek.length = n1 ∧ Cx F O w wr [Bx 140 a6 [.ar du oH, .u64 ig, .u64 kY, sl A2 n1 c2, I aA, .v (.func (.func 76) ⟨SV.ad []⟩ ⟨SV.ad []⟩), .v (.func (.func 77) ⟨SV.ad []⟩ ⟨SV.ad []⟩)], Ow e8 A2 n1 c2 ek]) ?_ ?_
   ·
    refine ab <| GK bw (by kernel_rfl) (.n 17 (.b (decide (((lG.length : Nat) : Int) = aA))) (.s .a)) (fun m => qs a6 0 <| qs a6 0 <| qB (k_.drew m) 0 rfl 10 (sl A0 lG.length c0) (by kernel_rfl) <| qs a6 0 <| qs a6 0 <| qB (k_.drew m) 0 rfl 11 (I aA) (by kernel_rfl) <| qe) (by kernel_rfl) (fun m_ => ?_)
    have da := k_.drew m_
    refine aa <| bb (((lG.length : Nat) : Int) = aA) (by kernel_rfl) (fun pf => ?_) (fun pf => ?_)
    · rw [if_pos pf] at hm
      refine ab ?_
      have dF := da.drew 1
      refine qy bw (.q 0 1 (.q 1 1 (.q 2 1 (.q 3 0 (.q 4 0 (.q 5 1 (.q 6 1 (.q 7 1 (.q 8 0 (.q 9 0 (.op 10 (.q 11 1 (.q 12 1 (.q 14 1 (.q 15 1 (.q 13 2 (.op 16 .nil))))))))))))))))) [10, 16] dF (.c (.kk .e) (.c (.s (.k .e)) .l)) (by kernel_rfl) (fun _ => ?_)
      refine bx 3 1 [] (.n 19 (pt a6 0) (.n 21 (pt a6 0) (.s .a))) (fun x hx => qs a6 0 <| qe) (by kernel_rfl) (fun _ => ?_)
      refine bx 2 0 [] (.n 23 (.agg [.u64 ln, .u64 l6]) (.k (.s .a))) (fun x hx => qs a6 0 <| qT hx 0 rfl 8 2 [.u64 ln, .u64 l6] (by kernel_rfl) (by decide) <| qe) (by kernel_rfl) (fun _ => ?_)
      refine bx 3 1 [] (.n 26 (pt a6 11) .a) (fun x hx => qs a6 0 <| qs a6 0 <| qe) (by kernel_rfl) (fun _ => ?_)
      refine bx 2 0 [] (.n 28 (.u64 (UInt64.ofInt aA)) (.s .a)) (fun x hx => qB hx 0 rfl 11 (I aA) (by kernel_rfl) <| qe) (by kernel_rfl) (fun _ => ?_)
      refine bZ (by kernel_rfl) rfl ?_
      obtain ⟨r_, dk, hm⟩ := ob hm
      refine aq [] 29 _ sO (by kernel_rfl) (pg (F := N0) (O := N0) _ _ _ (Cx.refl _) _ dk) ?_
      rintro e_ lh ⟨rfl, en⟩
      have eA := dF.call en
      refine ⟨.eO [.agg [.u64 r_.1, .u64 r_.2.1], .b r_.2.2], rfl, ?_⟩
      refine ⟨eA, fun _ => ?_⟩
      refine bx 4 1 [] (.n 18 (.eO [.agg [.u64 r_.1, .u64 r_.2.1], .b r_.2.2]) (.n 30 (.agg [.u64 r_.1, .u64 r_.2.1]) (.n 33 (pt a6 8) (.fQ .a)))) (fun x hx => qs a6 0 <| qs a6 0 <| qe) (by kernel_rfl) (fun _ => ?_)
      refine bx 1 2 [] (.s .a) (fun x hx => qe) (by kernel_rfl) (fun _ => ?_)
      refine bZ (by kernel_rfl) rfl <| ey [] 0 (.agg [.u64 r_.1, .u64 r_.2.1]) [.u64 r_.1, .u64 r_.2.1] (Pt.at a6 8) eA rfl (.k .h2) (by kernel_rfl) (by kernel_rfl) ?_
      intro l4 fJ
      refine ⟨(fJ.ck (.s (.k .e))), fun _ => ?_⟩
      refine ct <| aa <| ab ?_
      have gi := fJ.drew 1
      refine qy bw (.q 0 1 (.q 1 1 (.q 2 1 (.q 3 0 (.q 4 0 (.q 5 1 (.q 6 1 (.q 7 0 (.q 8 0 (.q 9 1 (.q 10 1 (.q 11 0 (.q 12 0 (.q 13 1 (.q 14 1 (.q 15 0 (.q 16 0 (.op 17 (.q 18 1 (.q 19 1 (.op 20 .nil))))))))))))))))))))) [17, 20] gi (.c (.kk .e) (.c (.s (.k .e)) .l)) (by kernel_rfl) (fun _ => ?_)
      refine bx 3 1 [] (.n 34 (pt a6 0) (.n 36 (pt a6 0) (.ss .a))) (fun x hx => qs a6 0 <| qe) (by kernel_rfl) (fun _ => ?_)
      refine bx 2 0 [] (.n 38 (.v (.func (.func 76) ⟨SV.ad []⟩ ⟨SV.ad []⟩)) (.k (.s .a))) (fun x hx => qs a6 0 <| qB hx 0 rfl 12 (.v (.func (.func 76) ⟨SV.ad []⟩ ⟨SV.ad []⟩)) (by kernel_rfl) <| qe) (by kernel_rfl) (fun _ => ?_)
      refine bx 2 1 [] (.n 40 (pt a6 0) .a) (fun x hx => qs a6 0 <| qe) (by kernel_rfl) (fun _ => ?_)
      refine bx 2 0 [] (.n 42 (.agg [.ar du aC]) (.s .a)) (fun x hx => qs a6 0 <| qT hx 0 rfl 0 8 [.ar du aC] (by kernel_rfl) (by decide) <| qe) (by kernel_rfl) (fun _ => ?_)
      refine bx 2 1 [] (.n 44 (pt a6 0) .a) (fun x hx => qs a6 0 <| qe) (by kernel_rfl) (fun _ => ?_)
      refine bx 2 0 [] (.n 46 (sl A0 lG.length c0) (.s .a)) (fun x hx => qs a6 0 <| qB hx 0 rfl 10 (sl A0 lG.length c0) (by kernel_rfl) <| qe) (by kernel_rfl) (fun _ => ?_)
      refine bx 2 1 [] (.n 48 (pt a6 0) .a) (fun x hx => qs a6 0 <| qe) (by kernel_rfl) (fun _ => ?_)
      refine bx 2 0 [] (.n 50 (.agg [.u64 r_.1, .u64 r_.2.1]) (.s .a)) (fun x hx => qs a6 0 <| qT hx 0 rfl 8 2 [.u64 r_.1, .u64 r_.2.1] (by kernel_rfl) (by decide) <| qe) (by kernel_rfl) (fun _ => ?_)
      refine bZ (by kernel_rfl) rfl ?_
      obtain ⟨ah, dt, hm⟩ := ob hm
      refine mw [] 51 [] [.agg [.ar du aC], sl A0 lG.length c0, .agg [.u64 r_.1, .u64 r_.2.1], .b false, .b false] [] FB (by kernel_rfl) (tT (F := N0) (O := N0) _ _ _ _ _ _ _ _ _ (Ro.n0 (gi.rd 1 rfl)) (gi.len 1 rfl) (gi.Az 1 rfl) (Cx.refl _) _ dt) ?_
      rintro e_ qf ⟨rfl, fY⟩
      have fZ := gi.call fY
      refine ⟨.agg [.ar du ah], rfl, ?_⟩
      refine ⟨fZ, fun _ => ?_⟩
      refine bx 2 1 [] (.n 53 (pt a6 0) (.k (.fQ (.s .a)))) (fun x hx => qs a6 0 <| qs a6 0 <| qe) (by kernel_rfl) (fun _ => ?_)
      refine bZ (by kernel_rfl) rfl <| ey [] 0 (.agg [.ar du ah]) [.ar du ah] (Pt.at a6 0) fZ rfl .h (by kernel_rfl) (by kernel_rfl) ?_
      intro p7 gY
      refine ⟨(gY.ck (.s (.k .e))), fun _ => ?_⟩
      refine ct <| aa <| ao ?_
      obtain ⟨b2, Cm, hm⟩ := ob hm
      have hs := hP Cm
      have hl := kU Cm
      have hn : lG.length = lG.length := (gY.len 1 rfl)
      have ub : lG.length ≤ c0 := (gY.Az 1 rfl)
      have w9 : b2.length ≤ c0 := by omega
      refine bn 8 [] (.n 59 (sl A0 b2.length c0) (.n 61 (pt a6 10) (.ss .a))) (qs a6 0 <| qs a6 0 <| qB gY 0 rfl 10 (sl A0 lG.length c0) (by kernel_rfl) <| qp (0 ≤ (0 : Int) ∧ (0 : Int) ≤ ((c0 : Nat) : Int)) (by omega) <| qo (.v (.slice A0 b2.length c0)) <| qp (Value.slice (sA A0 0 c0 1) (Int.toNat (0 : Int) - 0) (c0 - 0) = .slice A0 b2.length c0) (ur _ _ _ _ _ (by omega)) <| qs a6 0 <| qs a6 0 <| qe) (by kernel_rfl) ?_
      refine ag ?_
      have dK := gY.ck (.kk .e)
      refine ey [] 0 (sl A0 b2.length c0) [sl A0 b2.length c0] (Pt.at a6 10) dK rfl (.kk (.k .h)) (by kernel_rfl) (by kernel_rfl) ?_
      intro sV c_
      refine af ?_
      have ez := c_.pre 1 rfl b2.length c0 b2 (by omega) (by omega) (by omega) (y7 Cm rfl)
      exact iy ⟨ah, r_.1, r_.2.1, b2, A0, b2.length, c0, hm, rfl, ez.len 1 rfl, ez⟩ (by kernel_rfl)
    rw [if_neg pf] at hm
    refine aS ?_
    exact iy ⟨aC, ln, l6, lG, A0, lG.length, c0, hm, rfl, da.len 1 rfl, da⟩ (by kernel_rfl)
   rintro L_ wi ⟨oH, ig, kY, ek, A2, _, c2, hm, rfl, rfl, dH⟩
   simp only [il] at hm
   refine ab <| GK bw (by kernel_rfl) (.n 4 (I (if aB (aA - ((ek.length : Nat) : Int)) < ((b1.length : Nat) : Int) then aB (aA - ((ek.length : Nat) : Int)) else ((b1.length : Nat) : Int))) .a) (fun m => qs a6 0 <| qs a6 0 <| qB (dH.drew m) 0 rfl 11 (I aA) (by kernel_rfl) <| qs a6 0 <| qs a6 0 <| qB (dH.drew m) 0 rfl 10 (sl A2 ek.length c2) (by kernel_rfl) <| qe) (by kernel_rfl) (fun xp => ?_)
   have eX := dH.drew xp
   refine aa <| ab ?_
   have iu := eX.drew 1
   refine qy bw (.q 5 0 (.q 6 0 (.q 7 0 (.q 0 1 (.q 1 1 (.q 2 1 (.q 3 0 (.q 4 0 (.op 8 (.q 9 1 (.q 10 1 (.op 11 .nil)))))))))))) [8, 11] iu (.c (.k .z) (.c (.z) .l)) (by kernel_rfl) (fun _ => ?_)
   obtain ⟨b3, AI, hm⟩ := ob hm
   have Q7 := hP AI
   have FI := kU AI
   have Q8 : b1.length = b1.length := rfl
   have uc : b1.length ≤ c1 := hc
   have ud : b3.length ≤ c1 := by omega
   refine bx 3 0 [] (.n 82 (sl A1 b3.length c1) .a) (fun x hx => qp (0 ≤ (if aB (aA - ((ek.length : Nat) : Int)) < ((b1.length : Nat) : Int) then aB (aA - ((ek.length : Nat) : Int)) else ((b1.length : Nat) : Int)) ∧ (if aB (aA - ((ek.length : Nat) : Int)) < ((b1.length : Nat) : Int) then aB (aA - ((ek.length : Nat) : Int)) else ((b1.length : Nat) : Int)) ≤ ((c1 : Nat) : Int)) (by omega) <| qo (.v (.slice A1 b3.length c1)) <| qp (Value.slice (sA A1 0 c1 1) (Int.toNat (if aB (aA - ((ek.length : Nat) : Int)) < ((b1.length : Nat) : Int) then aB (aA - ((ek.length : Nat) : Int)) else ((b1.length : Nat) : Int)) - 0) (c1 - 0) = .slice A1 b3.length c1) (ur _ _ _ _ _ (by omega)) <| qe) (by kernel_rfl) (fun _ => ?_)
   refine bx 3 1 [] (.n 75 (pt a6 0) (.n 77 (pt a6 0) .a)) (fun x hx => qs a6 0 <| qe) (by kernel_rfl) (fun _ => ?_)
   refine bx 2 0 [] (.n 79 (sl A2 ek.length c2) (.k (.s .a))) (fun x hx => qs a6 0 <| qB hx 0 rfl 10 (sl A2 ek.length c2) (by kernel_rfl) <| qe) (by kernel_rfl) (fun _ => ?_)
   refine bZ (by kernel_rfl) rfl ?_
   obtain ⟨b4, Gm, hm⟩ := ob hm
   obtain ⟨hz, G2⟩ := kV Gm
   refine jG (E := e8) (v := sl A1 b3.length c1) (ys := b3) im [] 83 1 (by kernel_rfl) iu rfl (Src.sl (Rd.pre (h.cx iu) AI rfl) rfl (by rfl)) rfl (by have := iu.len 1 rfl; have := hm; omega) ?_
   intro A3 c3 vO fX
   rw [← G2] at fX
   refine ⟨(fX.ck (.k .z)), fun _ => ?_⟩
   refine bx 2 1 [] (.n 85 (pt a6 10) (.k (.lj .a))) (fun x hx => qs a6 0 <| qs a6 0 <| qe) (by kernel_rfl) (fun _ => ?_)
   refine bZ (by kernel_rfl) rfl <| ey [] 0 (sl A3 (ek.length + b3.length) c3) [sl A3 (ek.length + b3.length) c3] (Pt.at a6 10) fX rfl (.kk (.k .h)) (by kernel_rfl) (by kernel_rfl) ?_
   intro Av jY
   refine ⟨(jY.ck .z), fun _ => ?_⟩
   refine ct <| aa ?_
   obtain ⟨b5, Ez, hm⟩ := ob hm
   have WB := hP Ez
   have WC := kU Ez
   have WD : b1.length = b1.length := rfl
   have FH : b1.length ≤ c1 := hc
   obtain ⟨A4, c4, e_, Ev, hA, Ku⟩ := Lq A1 (Int.toNat (if aB (aA - ((ek.length : Nat) : Int)) < ((b1.length : Nat) : Int) then aB (aA - ((ek.length : Nat) : Int)) else ((b1.length : Nat) : Int))) c1 1 (b1.length - Int.toNat (if aB (aA - ((ek.length : Nat) : Int)) < ((b1.length : Nat) : Int) then aB (aA - ((ek.length : Nat) : Int)) else ((b1.length : Nat) : Int))) b5.length (by omega) (by omega)
   refine bA [] (.n 1 (sl A4 b5.length c4) (.lj (.k .z))) (qp (0 ≤ (if aB (aA - ((ek.length : Nat) : Int)) < ((b1.length : Nat) : Int) then aB (aA - ((ek.length : Nat) : Int)) else ((b1.length : Nat) : Int)) ∧ (if aB (aA - ((ek.length : Nat) : Int)) < ((b1.length : Nat) : Int) then aB (aA - ((ek.length : Nat) : Int)) else ((b1.length : Nat) : Int)) ≤ ((b1.length : Nat) : Int)) (by omega) <| qo (.v (.slice A4 b5.length c4)) <| qp (Value.slice (sA A1 (Int.toNat (if aB (aA - ((ek.length : Nat) : Int)) < ((b1.length : Nat) : Int) then aB (aA - ((ek.length : Nat) : Int)) else ((b1.length : Nat) : Int))) c1 1) (b1.length - Int.toNat (if aB (aA - ((ek.length : Nat) : Int)) < ((b1.length : Nat) : Int) then aB (aA - ((ek.length : Nat) : Int)) else ((b1.length : Nat) : Int))) (c1 - Int.toNat (if aB (aA - ((ek.length : Nat) : Int)) < ((b1.length : Nat) : Int) then aB (aA - ((ek.length : Nat) : Int)) else ((b1.length : Nat) : Int))) = .slice A4 b5.length c4) e_ <| qe) (by kernel_rfl) ?_
   refine hH ?_
   exact jR (oH, ig, kY, b4, b5) (Option.some.inj hm).symm ⟨oH, ig, kY, b4, b5, A3, ek.length + b3.length, c3, A4, c4, rfl, rfl, jY.len 1 rfl, (Ro.cut h Ez rfl (by rfl) hA (by omega)), Ev, jY⟩ (by kernel_rfl)
 rw [if_neg kr] at hm
 refine iq (fe (fe (kG ?_)))
 have hm := d_ hm nF
 obtain rfl := Option.some.inj hm
 refine pJ [] qe (by kernel_rfl) ?_
 exact ⟨A0, lG.length, c0, k_.len 1 rfl, rfl, k_⟩
theorem xA {F O : Nat → Prop} {w : World} (fj : Int) (eg : Int) (cy : List UInt8) (dD : List UInt8) (iZ : Bool) (ed : UInt64) (jc : Nat) (eR : Option Addr) (hZ : Nat) (eU : Nat) (fU : Option Addr) (la : Nat) (fV : Nat) (k : Cx F O w w [Bx 115 jc [I fj, I eg, sl eR hZ eU, sl fU la fV, .b iZ, .u64 ed, .v .nilIface], Ow e8 eR hZ eU cy, Ow e8 fU la fV dD]) (r : (Int × Int × List UInt8 × List UInt8 × ae UInt64 8 × UInt64 × UInt64 × List UInt8 × Int) ⊕ (Int × Int × List UInt8 × List UInt8 × ae UInt32 8 × UInt64 × UInt64 × List UInt8 × Int)) (hm : kZ fj eg cy dD iZ ed = some r) :
    Calls Try.prog 63 (ad [pt jc 0]) w (fun e w' => match r with | .inl r0 => ∃ A n c A1 n1 c1 g A2 n2 c2, r0.2.2.1.length = n ∧ r0.2.2.2.1.length = n1 ∧ r0.2.2.2.2.2.2.2.1.length = n2 ∧ e = .returned (SV.val (.eO [])) ∧ Cx F O w w' [Bx 115 jc [I r0.1, I r0.2.1, sl A n c, sl A1 n1 c1, .b false, .u64 0, .v (.iface 126 (SV.val (pt g 0)))], Ow e8 A n c r0.2.2.1, Ow e8 A1 n1 c1 r0.2.2.2.1, Bx 132 g [.ar cj r0.2.2.2.2.1, .u64 r0.2.2.2.2.2.1, .u64 r0.2.2.2.2.2.2.1, sl A2 n2 c2, I r0.2.2.2.2.2.2.2.2, .v (.func (.func 73) ⟨SV.ad []⟩ ⟨SV.ad []⟩), .v (.func (.func 74) ⟨SV.ad []⟩ ⟨SV.ad []⟩)], Ow e8 A2 n2 c2 r0.2.2.2.2.2.2.2.1] | .inr r1 => ∃ A3 n3 c3 A4 n4 c4 g1 A5 n5 c5, r1.2.2.1.length = n3 ∧ r1.2.2.2.1.length = n4 ∧ r1.2.2.2.2.2.2.2.1.length = n5 ∧ e = .returned (SV.val (.eO [])) ∧ Cx F O w w' [Bx 115 jc [I r1.1, I r1.2.1, sl A3 n3 c3, sl A4 n4 c4, .b false, .u64 0, .v (.iface 136 (SV.val (pt g1 0)))], Ow e8 A3 n3 c3 r1.2.2.1, Ow e8 A4 n4 c4 r1.2.2.2.1, Bx 140 g1 [.ar du r1.2.2.2.2.1, .u64 r1.2.2.2.2.2.1, .u64 r1.2.2.2.2.2.2.1, sl A5 n5 c5, I r1.2.2.2.2.2.2.2.2, .v (.func (.func 76) ⟨SV.ad []⟩ ⟨SV.ad []⟩), .v (.func (.func 77) ⟨SV.ad []⟩ ⟨SV.ad []⟩)], Ow e8 A5 n5 c5 r1.2.2.2.2.2.2.2.1]) := by
 unfold kZ at hm
 obtain rfl := k.len 1 rfl
 obtain rfl := k.len 2 rfl
 refine calls [pt jc 0] Try.func63 rfl (of_decide_eq_true (by kernel_rfl)) ?_
 refine ab ?_
 have k_ := k.drew 1
 refine qy bw (.q 0 1 (.q 1 1 (.q 2 1 (.q 3 0 (.q 4 0 (.q 5 1 (.q 6 1 (.q 7 0 (.q 8 0 (.op 9 (.q 10 1 (.q 11 1 (.op 12 .nil))))))))))))) [9, 12] k_ (.c (.kk (.k .e)) (.c (.s (.kk .e)) .l)) (by kernel_rfl) (fun _ => ?_)
 refine bx 3 1 [] (.n 2 (pt jc 0) (.n 4 (pt jc 0) .a)) (fun x hx => qs jc 0 <| qe) (by kernel_rfl) (fun _ => ?_)
 refine bx 2 0 [] (.n 6 (I fj) (.k (.s .a))) (fun x hx => qs jc 0 <| qB hx 0 rfl 0 (I fj) (by kernel_rfl) <| qe) (by kernel_rfl) (fun _ => ?_)
 refine bx 2 1 [] (.n 8 (pt jc 0) .a) (fun x hx => qs jc 0 <| qe) (by kernel_rfl) (fun _ => ?_)
 refine bx 2 0 [] (.n 10 (sl eR cy.length eU) (.s .a)) (fun x hx => qs jc 0 <| qB hx 0 rfl 2 (sl eR cy.length eU) (by kernel_rfl) <| qe) (by kernel_rfl) (fun _ => ?_)
 refine bZ (by kernel_rfl) rfl ?_
 obtain ⟨r_, dk, hm⟩ := ob hm
 refine aq [] 11 _ Ka (by kernel_rfl) (Cl (F := N0) (O := N0) _ _ _ _ _ (Ro.n0 (k_.rd 1 rfl)) (k_.len 1 rfl) (k_.Az 1 rfl) (Cx.refl _) _ dk) ?_
 rcases r_ with ah | bh
 · simp only [Sum.elim_inl, Sum.elim_inr] at hm
   rintro e_ w_ ⟨g0, A0, _, c0, rfl, rfl, da⟩
   have dF := k_.call da
   refine ⟨.v (.iface 126 (SV.val (pt g0 0))), rfl, ?_⟩
   refine ⟨(dF.ck (.kk (.k .z))), fun _ => ?_⟩
   refine bx 2 1 [] (.n 13 (pt jc 6) (.k (.lj .a))) (fun x hx => qs jc 0 <| qs jc 0 <| qe) (by kernel_rfl) (fun _ => ?_)
   refine bZ (by kernel_rfl) rfl <| ey [] 0 (.v (.iface 126 (SV.val (pt g0 0)))) [.v (.iface 126 (SV.val (pt g0 0)))] (Pt.at jc 6) dF rfl (.aP (.kk .h)) (by kernel_rfl) (by kernel_rfl) ?_
   intro lh en
   refine ⟨(en.ck (.s (.kk .z))), fun _ => ?_⟩
   refine ct <| aa <| ab <| ao <| bn 3 [] (.n 16 (pt jc 4) (.ss .a)) (qs jc 0 <| qs jc 0 <| qe) (by kernel_rfl) ?_
   refine ag <| ey [] 0 (.b false) [.b false] (Pt.at jc 4) en rfl (.aP .h) (by kernel_rfl) (by kernel_rfl) ?_
   intro l4 eA
   refine af <| aa <| ab <| ao <| bn 3 [] (.n 19 (pt jc 5) (.s .a)) (qs jc 0 <| qs jc 0 <| qe) (by kernel_rfl) ?_
   refine ag <| ey [] 0 (.u64 0) [.u64 0] (Pt.at jc 5) eA rfl (.aP (.k .h)) (by kernel_rfl) (by kernel_rfl) ?_
   intro qf fJ
   refine af <| aa <| ab <| bA [] (.n 25 (.b (decide (0 < ((dD.length : Nat) : Int)))) (.s .a)) (qs jc 0 <| qs jc 0 <| qB fJ 0 rfl 3 (sl fU dD.length fV) (by kernel_rfl) <| qe) (by kernel_rfl) ?_
   refine aa <| bb (0 < ((dD.length : Nat) : Int)) (by kernel_rfl) (fun hc => ?_) (fun hc => ?_)
   · rw [if_pos hc] at hm
     have gi := fJ.drew 1
     refine qy bw (.q 0 3 (.q 1 3 (.q 2 3 (.q 3 2 (.q 14 2 (.q 15 2 (.q 4 3 (.q 5 3 (.q 6 2 (.q 7 1 (.q 8 3 (.q 9 3 (.q 10 2 (.q 11 1 (.op 12 (.op 13 (.op 16 .nil))))))))))))))))) [12, 13, 16] gi (.c (.aP (.k .e)) (.c (.aP (.k .e)) (.c (.kk (.k .z)) .l))) (by kernel_rfl) (fun _ => ?_)
     refine bx 3 3 [] (.n 28 (pt jc 6) (.s .a)) (fun x hx => qs jc 0 <| qs jc 0 <| qe) (by kernel_rfl) (fun _ => ?_)
     refine bx 3 2 [] (.n 41 (.v (.iface 126 (SV.val (pt g0 0)))) (.s .a)) (fun x hx => qB hx 0 rfl 6 (.v (.iface 126 (SV.val (pt g0 0)))) (by kernel_rfl) <| qe) (by kernel_rfl) (fun _ => ?_)
     refine bx 2 3 [] (.n 31 (pt jc 0) .a) (fun x hx => qs jc 0 <| qe) (by kernel_rfl) (fun _ => ?_)
     refine bx 1 2 [] (.n 32 (pt jc 3) (.s .a)) (fun x hx => qs jc 0 <| qe) (by kernel_rfl) (fun _ => ?_)
     refine bx 1 1 [] (.n 33 (sl fU dD.length fV) (.s .a)) (fun x hx => qB hx 0 rfl 3 (sl fU dD.length fV) (by kernel_rfl) <| qe) (by kernel_rfl) (fun _ => ?_)
     refine bx 2 3 [] (.n 35 (pt jc 0) (.kk .z)) (fun x hx => qs jc 0 <| qe) (by kernel_rfl) (fun _ => ?_)
     refine bx 1 2 [] (.n 36 (pt jc 0) (.s .a)) (fun x hx => qs jc 0 <| qe) (by kernel_rfl) (fun _ => ?_)
     refine bx 1 1 [] (.n 37 (I fj) (.s .a)) (fun x hx => qB hx 0 rfl 0 (I fj) (by kernel_rfl) <| qe) (by kernel_rfl) (fun _ => ?_)
     refine bZ (by kernel_rfl) rfl ?_
     have fY := gi.ck (.aP (.k .e))
     obtain ⟨cD, oV, hm⟩ := ob hm
     refine aq [] 38 _ zd (by kernel_rfl) (oW (F := N0) (O := N0) _ (Cx.refl _) _ oV) ?_
     rintro e_ p7 ⟨rfl, fZ⟩
     have gY := fY.call fZ
     refine ⟨I cD, rfl, ?_⟩
     refine ⟨gY, fun _ => ?_⟩
     refine bZ (by kernel_rfl) rfl ?_
     obtain ⟨fi, uX, hm⟩ := ob hm
     refine aq [] 39 _ zc (by kernel_rfl) (pD (F := N0) (O := N0) _ _ _ _ _ (Ro.n0 (gY.rd 2 rfl)) (gY.len 2 rfl) (gY.Az 2 rfl) (Cx.refl _) _ uX) ?_
     rintro e_ sV ⟨A6, _, c6, rfl, rfl, dK⟩
     have c_ := gY.call dK
     refine ⟨sl A6 fi.length c6, rfl, ?_⟩
     refine ⟨(c_.ck (.aP (.k .z))), fun _ => ?_⟩
     refine bZ (by kernel_rfl) rfl ?_
     obtain ⟨bH, z1, hm⟩ := ob hm
     obtain ⟨F1, O1, lO, hO, rO, hF, hb⟩ := c_.go (.r (.r (.r (.i (.i (.r .e))))))
     refine o_ [] 42 126 (pt g0 0) [sl A6 fi.length c6] p5 rfl (by kernel_rfl) (nH (F := F1) (O := O1) _ _ _ _ _ _ _ _ _ _ _ _ _ (Ro.E4 rO 3 rfl) (c_.len 5 rfl) (c_.Az 5 rfl) lO _ z1) ?_
     rintro e_ wi ⟨A7, _, c7, rfl, rfl, ez⟩
     have dH := hb wi _ _ ez (.c (.c .n))
     refine ⟨.eO [], rfl, ?_⟩
     have eX := dH.ck (.aP (.k .z))
     refine ⟨(eX.ck (.ss (.kk (.k .e)))), fun _ => ?_⟩
     refine ct ?_
     obtain rfl := Option.some.inj hm
     refine pJ [] qe (by kernel_rfl) ?_
     have iu := ((((eX.pk (.t .h)).pk (.t .h)).pk (.t (.t (.t (.t .h))))).pk (.t (.t (.t (.t .h))))).pk (.t (.t (.t (.t .h))))
     exact ⟨eR, cy.length, eU, fU, dD.length, fV, g0, A7, bH.2.2.2.1.length, c7, iu.len 1 rfl, iu.len 2 rfl, iu.len 4 rfl, rfl, iu⟩
   rw [if_neg hc] at hm
   refine aS ?_
   obtain rfl := Option.some.inj hm
   refine pJ [] qe (by kernel_rfl) ?_
   exact ⟨eR, cy.length, eU, fU, dD.length, fV, g0, A0, ah.2.length, c0, fJ.len 1 rfl, fJ.len 2 rfl, fJ.len 4 rfl, rfl, fJ⟩
 · simp only [Sum.elim_inl, Sum.elim_inr] at hm
   rintro e_ Vq ⟨g2, A8, _, c8, rfl, rfl, fX⟩
   have jY := k_.call fX
   refine ⟨.v (.iface 136 (SV.val (pt g2 0))), rfl, ?_⟩
   refine ⟨(jY.ck (.kk (.k .z))), fun _ => ?_⟩
   refine bx 2 1 [] (.n 13 (pt jc 6) (.k (.lj .a))) (fun x hx => qs jc 0 <| qs jc 0 <| qe) (by kernel_rfl) (fun _ => ?_)
   refine bZ (by kernel_rfl) rfl <| ey [] 0 (.v (.iface 136 (SV.val (pt g2 0)))) [.v (.iface 136 (SV.val (pt g2 0)))] (Pt.at jc 6) jY rfl (.aP (.kk .h)) (by kernel_rfl) (by kernel_rfl) ?_
   intro vO iK
   refine ⟨(iK.ck (.s (.kk .z))), fun _ => ?_⟩
   refine ct <| aa <| ab <| ao <| bn 3 [] (.n 16 (pt jc 4) (.ss .a)) (qs jc 0 <| qs jc 0 <| qe) (by kernel_rfl) ?_
   refine ag <| ey [] 0 (.b false) [.b false] (Pt.at jc 4) iK rfl (.aP .h) (by kernel_rfl) (by kernel_rfl) ?_
   intro Av kt
   refine af <| aa <| ab <| ao <| bn 3 [] (.n 19 (pt jc 5) (.s .a)) (qs jc 0 <| qs jc 0 <| qe) (by kernel_rfl) ?_
   refine ag <| ey [] 0 (.u64 0) [.u64 0] (Pt.at jc 5) kt rfl (.aP (.k .h)) (by kernel_rfl) (by kernel_rfl) ?_
   intro De kg
   refine af <| aa <| ab <| bA [] (.n 25 (.b (decide (0 < ((dD.length : Nat) : Int)))) (.s .a)) (qs jc 0 <| qs jc 0 <| qB kg 0 rfl 3 (sl fU dD.length fV) (by kernel_rfl) <| qe) (by kernel_rfl) ?_
   refine aa <| bb (0 < ((dD.length : Nat) : Int)) (by kernel_rfl) (fun D7 => ?_) (fun D7 => ?_)
   · rw [if_pos D7] at hm
     have lW := kg.drew 1
     refine qy bw (.q 0 3 (.q 1 3 (.q 2 3 (.q 3 2 (.q 14 2 (.q 15 2 (.q 4 3 (.q 5 3 (.q 6 2 (.q 7 1 (.q 8 3 (.q 9 3 (.q 10 2 (.q 11 1 (.op 12 (.op 13 (.op 16 .nil))))))))))))))))) [12, 13, 16] lW (.c (.aP (.k .e)) (.c (.aP (.k .e)) (.c (.kk (.k .z)) .l))) (by kernel_rfl) (fun _ => ?_)
     refine bx 3 3 [] (.n 28 (pt jc 6) (.s .a)) (fun x hx => qs jc 0 <| qs jc 0 <| qe) (by kernel_rfl) (fun _ => ?_)
     refine bx 3 2 [] (.n 41 (.v (.iface 136 (SV.val (pt g2 0)))) (.s .a)) (fun x hx => qB hx 0 rfl 6 (.v (.iface 136 (SV.val (pt g2 0)))) (by kernel_rfl) <| qe) (by kernel_rfl) (fun _ => ?_)
     refine bx 2 3 [] (.n 31 (pt jc 0) .a) (fun x hx => qs jc 0 <| qe) (by kernel_rfl) (fun _ => ?_)
     refine bx 1 2 [] (.n 32 (pt jc 3) (.s .a)) (fun x hx => qs jc 0 <| qe) (by kernel_rfl) (fun _ => ?_)
     refine bx 1 1 [] (.n 33 (sl fU dD.length fV) (.s .a)) (fun x hx => qB hx 0 rfl 3 (sl fU dD.length fV) (by kernel_rfl) <| qe) (by kernel_rfl) (fun _ => ?_)
     refine bx 2 3 [] (.n 35 (pt jc 0) (.kk .z)) (fun x hx => qs jc 0 <| qe) (by kernel_rfl) (fun _ => ?_)
     refine bx 1 2 [] (.n 36 (pt jc 0) (.s .a)) (fun x hx => qs jc 0 <| qe) (by kernel_rfl) (fun _ => ?_)
     refine bx 1 1 [] (.n 37 (I fj) (.s .a)) (fun x hx => qB hx 0 rfl 0 (I fj) (by kernel_rfl) <| qe) (by kernel_rfl) (fun _ => ?_)
     refine bZ (by kernel_rfl) rfl ?_
     have mh := lW.ck (.aP (.k .e))
     obtain ⟨cW, Dd, hm⟩ := ob hm
     refine aq [] 38 _ zd (by kernel_rfl) (oW (F := N0) (O := N0) _ (Cx.refl _) _ Dd) ?_
     rintro e_ z6 ⟨rfl, mo⟩
     have lX := mh.call mo
     refine ⟨I cW, rfl, ?_⟩
     refine ⟨lX, fun _ => ?_⟩
     refine bZ (by kernel_rfl) rfl ?_
     obtain ⟨rY, Dk, hm⟩ := ob hm
     refine aq [] 39 _ zc (by kernel_rfl) (pD (F := N0) (O := N0) _ _ _ _ _ (Ro.n0 (lX.rd 2 rfl)) (lX.len 2 rfl) (lX.Az 2 rfl) (Cx.refl _) _ Dk) ?_
     rintro e_ Ch ⟨A9, _, c9, rfl, rfl, qZ⟩
     have rT := lX.call qZ
     refine ⟨sl A9 rY.length c9, rfl, ?_⟩
     refine ⟨(rT.ck (.aP (.k .z))), fun _ => ?_⟩
     refine bZ (by kernel_rfl) rfl ?_
     obtain ⟨E8, HX, hm⟩ := ob hm
     obtain ⟨R7, R8, MQ, WE, Pp, Vr, R9⟩ := rT.go (.r (.r (.r (.i (.i (.r .e))))))
     refine o_ [] 42 136 (pt g2 0) [sl A9 rY.length c9] p6 rfl (by kernel_rfl) (nI (F := R7) (O := R8) _ _ _ _ _ _ _ _ _ _ _ _ _ (Ro.E4 Pp 3 rfl) (rT.len 5 rfl) (rT.Az 5 rfl) MQ _ HX) ?_
     rintro e_ Dg ⟨wR, _, sW, rfl, rfl, vP⟩
     have tB := R9 Dg _ _ vP (.c (.c .n))
     refine ⟨.eO [], rfl, ?_⟩
     have vQ := tB.ck (.aP (.k .z))
     refine ⟨(vQ.ck (.ss (.kk (.k .e)))), fun _ => ?_⟩
     refine ct ?_
     obtain rfl := Option.some.inj hm
     refine pJ [] qe (by kernel_rfl) ?_
     have yp := ((((vQ.pk (.t .h)).pk (.t .h)).pk (.t (.t (.t (.t .h))))).pk (.t (.t (.t (.t .h))))).pk (.t (.t (.t (.t .h))))
     exact ⟨eR, cy.length, eU, fU, dD.length, fV, g2, wR, E8.2.2.2.1.length, sW, yp.len 1 rfl, yp.len 2 rfl, yp.len 4 rfl, rfl, yp⟩
   rw [if_neg D7] at hm
   refine aS ?_
   obtain rfl := Option.some.inj hm
   refine pJ [] qe (by kernel_rfl) ?_
   exact ⟨eR, cy.length, eU, fU, dD.length, fV, g2, A8, bh.2.length, c8, kg.len 1 rfl, kg.len 2 rfl, kg.len 4 rfl, rfl, kg⟩
theorem Dl {F O : Nat → Prop} {w : World} (k_ : Int) (block : List UInt8) (tn : Int) (key : List UInt8) (iL : Option Addr) (cy : Nat) (iM : Nat) (kI : Option Addr) (dD : Nat) (kJ : Nat) (q8 : Ro F w iL (e8.all block)) (rE : block.length = cy) (p8 : cy ≤ iM) (uV : Ro F w kI (e8.all key)) (rB : key.length = dD) (su : dD ≤ kJ) (k : Cx F O w w []) (r : (Int × Int × List UInt8 × List UInt8 × ae UInt64 8 × UInt64 × UInt64 × List UInt8 × Int) ⊕ (Int × Int × List UInt8 × List UInt8 × ae UInt32 8 × UInt64 × UInt64 × List UInt8 × Int)) (hm : pP k_ block tn key = some r) :
    Calls Try.prog 51 (ad [I k_, sl iL cy iM, I tn, sl kI dD kJ]) w (fun e w' => match r with | .inl r0 => ∃ g A n c A1 n1 c1 g1 A2 n2 c2, r0.2.2.1.length = n ∧ r0.2.2.2.1.length = n1 ∧ r0.2.2.2.2.2.2.2.1.length = n2 ∧ e = .returned (SV.val (pt g 0)) ∧ Cx F O w w' [Bx 115 g [I r0.1, I r0.2.1, sl A n c, sl A1 n1 c1, .b false, .u64 0, .v (.iface 126 (SV.val (pt g1 0)))], Ow e8 A n c r0.2.2.1, Ow e8 A1 n1 c1 r0.2.2.2.1, Bx 132 g1 [.ar cj r0.2.2.2.2.1, .u64 r0.2.2.2.2.2.1, .u64 r0.2.2.2.2.2.2.1, sl A2 n2 c2, I r0.2.2.2.2.2.2.2.2, .v (.func (.func 73) ⟨SV.ad []⟩ ⟨SV.ad []⟩), .v (.func (.func 74) ⟨SV.ad []⟩ ⟨SV.ad []⟩)], Ow e8 A2 n2 c2 r0.2.2.2.2.2.2.2.1] | .inr r1 => ∃ g2 A3 n3 c3 A4 n4 c4 g3 A5 n5 c5, r1.2.2.1.length = n3 ∧ r1.2.2.2.1.length = n4 ∧ r1.2.2.2.2.2.2.2.1.length = n5 ∧ e = .returned (SV.val (pt g2 0)) ∧ Cx F O w w' [Bx 115 g2 [I r1.1, I r1.2.1, sl A3 n3 c3, sl A4 n4 c4, .b false, .u64 0, .v (.iface 136 (SV.val (pt g3 0)))], Ow e8 A3 n3 c3 r1.2.2.1, Ow e8 A4 n4 c4 r1.2.2.2.1, Bx 140 g3 [.ar du r1.2.2.2.2.1, .u64 r1.2.2.2.2.2.1, .u64 r1.2.2.2.2.2.2.1, sl A5 n5 c5, I r1.2.2.2.2.2.2.2.2, .v (.func (.func 76) ⟨SV.ad []⟩ ⟨SV.ad []⟩), .v (.func (.func 77) ⟨SV.ad []⟩ ⟨SV.ad []⟩)], Ow e8 A5 n5 c5 r1.2.2.2.2.2.2.2.1]) := by
 unfold pP at hm
 subst rE
 subst rB
 refine calls [I k_, sl iL block.length iM, I tn, sl kI key.length kJ] Try.func51 rfl (of_decide_eq_true (by kernel_rfl)) ?_
 refine ab <| bA [] .a qe (by kernel_rfl) ?_
 refine aa <| ab <| ao <| bn 3 [] (.n 10 (I k_) (.n 11 (I tn) (.n 12 (sl iL block.length iM) (.lj .a)))) qe (by kernel_rfl) ?_
 refine ag ?_
 have da := k.nil e8
 obtain ⟨b, qu, hm⟩ := ob hm
 obtain ⟨hz, hl⟩ := kV qu
 refine jG (E := e8) (v := sl iL block.length iM) (ys := block) im [] 13 0 (by kernel_rfl) da rfl (Src.sl (q8.cx da) rfl (by rfl)) rfl (by have := da.len 0 rfl; have := hm; omega) ?_
 intro A0 c0 w_ dF
 rw [← hl] at dF
 refine bn 1 [] (.n 14 (sl kI key.length kJ) (.ua .z)) qe (by kernel_rfl) ?_
 refine ag ?_
 have en := dF.nil e8
 obtain ⟨b1, wP, hm⟩ := ob hm
 obtain ⟨Lk, FI⟩ := kV wP
 refine jG (E := e8) (v := sl kI key.length kJ) (ys := key) im [] 15 1 (by kernel_rfl) en rfl (Src.sl (uV.cx en) rfl (by rfl)) rfl (by have := en.len 1 rfl; have := hm; omega) ?_
 intro A6 c6 lh eA
 rw [← FI] at eA
 refine bn 1 [] (.n 16 (.agg [I k_, I tn, sl A0 (0 + block.length) c0, sl A6 (0 + key.length) c6, .b false, .u64 0, .v .nilIface]) .z) qe (by kernel_rfl) ?_
 refine ag <| gj [] 17 (.agg [I k_, I tn, sl A0 (0 + block.length) c0, sl A6 (0 + key.length) c6, .b false, .u64 0, .v .nilIface]) [I k_, I tn, sl A0 (0 + block.length) c0, sl A6 (0 + key.length) c6, .b false, .u64 0, .v .nilIface] (by kernel_rfl) eA ?_
 intro g0 l4 fJ
 refine bn 1 [] (.n 9 (pt g0 0) .z) qe (by kernel_rfl) ?_
 refine af <| aa <| ab <| ao <| bn 1 [] (.n 18 (pt g0 0) .a) qe (by kernel_rfl) ?_
 refine ag ?_
 obtain ⟨r_, dk, hm⟩ := ob hm
 have gi := ((fJ.pk (.t .h)).pk (.t .h)).pk (.t (.t .h))
 obtain ⟨F1, O1, lO, hO, rO, hF, hb⟩ := gi.go (.i (.i (.i .e)))
 refine aq [] 19 _ J8 (by kernel_rfl) (xA (F := F1) (O := O1) _ _ _ _ _ _ _ _ _ _ _ _ _ lO _ dk) ?_
 rcases r_ with ah | bh
 · simp only [Sum.elim_inl, Sum.elim_inr] at hm
   rintro e_ qf ⟨A7, _, c7, A8, _, c8, g4, A9, _, c9, rfl, rfl, rfl, rfl, fY⟩
   have fZ := hb qf _ _ fY (.c (.c (.c (.c (.c .n)))))
   refine ⟨.eO [], rfl, ?_⟩
   refine af <| aa <| ab <| bA [] (.n 8 (pt g0 0) .z) qe (by kernel_rfl) ?_
   refine aa <| aL ?_
   obtain rfl := Option.some.inj hm
   refine aM [pt g0 0] qe (by kernel_rfl) ?_
   exact ⟨g0, A7, ah.2.2.1.length, c7, A8, ah.2.2.2.1.length, c8, g4, A9, ah.2.2.2.2.2.2.2.1.length, c9, fZ.len 1 rfl, fZ.len 2 rfl, fZ.len 4 rfl, rfl, fZ⟩
 · simp only [Sum.elim_inl, Sum.elim_inr] at hm
   rintro e_ p7 ⟨wR, _, sW, yX, _, ue, g5, AN, _, xB, rfl, rfl, rfl, rfl, gY⟩
   have dK := hb p7 _ _ gY (.c (.c (.c (.c (.c .n)))))
   refine ⟨.eO [], rfl, ?_⟩
   refine af <| aa <| ab <| bA [] (.n 8 (pt g0 0) .z) qe (by kernel_rfl) ?_
   refine aa <| aL ?_
   obtain rfl := Option.some.inj hm
   refine aM [pt g0 0] qe (by kernel_rfl) ?_
   exact ⟨g0, wR, bh.2.2.1.length, sW, yX, bh.2.2.2.1.length, ue, g5, AN, bh.2.2.2.2.2.2.2.1.length, xB, dK.len 1 rfl, dK.len 2 rfl, dK.len 4 rfl, rfl, dK⟩
theorem Ad {F O : Nat → Prop} {w : World} (k_ : Int) (bc : Int) (dy : Int) (bj : Int) (bG : Int) (cX : UInt32) (aW : UInt64) (ca : UInt32) (av : Int) (bB : Int) (bP : List UInt8) (au : List UInt8) (key : List UInt8) (cJ : Option Addr) (iJ : Nat) (cK : Nat) (a8 : Option Addr) (ef : Nat) (ba : Nat) (kI : Option Addr) (dD : Nat) (kJ : Nat) (oU : Ro F w cJ (e8.all bP)) (nh : bP.length = iJ) (ow : iJ ≤ cK) (j7 : Ro F w a8 (e8.all au)) (jq : au.length = ef) (ke : ef ≤ ba) (uV : Ro F w kI (e8.all key)) (rB : key.length = dD) (su : dD ≤ kJ) (k : Cx F O w w []) (r : Int ⊕ (Int × Int × List UInt8 × List UInt8 × ae UInt64 8 × UInt64 × UInt64 × List UInt8 × Int) ⊕ (Int × Int × List UInt8 × List UInt8 × ae UInt32 8 × UInt64 × UInt64 × List UInt8 × Int)) (hm : mA k_ bc dy bj bG cX aW ca av bB bP au key = some r) :
    Calls Try.prog 39 (ad [I k_, .agg [I bc, I dy, I bj, I bG, .u32 cX, .u64 aW, .u32 ca, I av, I bB, sl cJ iJ cK, sl a8 ef ba], sl kI dD kJ]) w (fun e w' => match r with | .inl r0 => e = .returned (SV.val (.eO [.v (.pointer none), I r0])) ∧ Cx F O w w' [] | .inr (.inl r1) => ∃ g A n c A1 n1 c1 g1 A2 n2 c2, r1.2.2.1.length = n ∧ r1.2.2.2.1.length = n1 ∧ r1.2.2.2.2.2.2.2.1.length = n2 ∧ e = .returned (SV.val (.eO [pt g 0, I 0])) ∧ Cx F O w w' [Bx 115 g [I r1.1, I r1.2.1, sl A n c, sl A1 n1 c1, .b false, .u64 0, .v (.iface 126 (SV.val (pt g1 0)))], Ow e8 A n c r1.2.2.1, Ow e8 A1 n1 c1 r1.2.2.2.1, Bx 132 g1 [.ar cj r1.2.2.2.2.1, .u64 r1.2.2.2.2.2.1, .u64 r1.2.2.2.2.2.2.1, sl A2 n2 c2, I r1.2.2.2.2.2.2.2.2, .v (.func (.func 73) ⟨SV.ad []⟩ ⟨SV.ad []⟩), .v (.func (.func 74) ⟨SV.ad []⟩ ⟨SV.ad []⟩)], Ow e8 A2 n2 c2 r1.2.2.2.2.2.2.2.1] | .inr (.inr r2) => ∃ g2 A3 n3 c3 A4 n4 c4 g3 A5 n5 c5, r2.2.2.1.length = n3 ∧ r2.2.2.2.1.length = n4 ∧ r2.2.2.2.2.2.2.2.1.length = n5 ∧ e = .returned (SV.val (.eO [pt g2 0, I 0])) ∧ Cx F O w w' [Bx 115 g2 [I r2.1, I r2.2.1, sl A3 n3 c3, sl A4 n4 c4, .b false, .u64 0, .v (.iface 136 (SV.val (pt g3 0)))], Ow e8 A3 n3 c3 r2.2.2.1, Ow e8 A4 n4 c4 r2.2.2.2.1, Bx 140 g3 [.ar du r2.2.2.2.2.1, .u64 r2.2.2.2.2.2.1, .u64 r2.2.2.2.2.2.2.1, sl A5 n5 c5, I r2.2.2.2.2.2.2.2.2, .v (.func (.func 76) ⟨SV.ad []⟩ ⟨SV.ad []⟩), .v (.func (.func 77) ⟨SV.ad []⟩ ⟨SV.ad []⟩)], Ow e8 A5 n5 c5 r2.2.2.2.2.2.2.2.1]) := by
 unfold mA at hm
 subst nh
 subst jq
 subst rB
 refine calls [I k_, .agg [I bc, I dy, I bj, I bG, .u32 cX, .u64 aW, .u32 ca, I av, I bB, sl cJ bP.length cK, sl a8 au.length ba], sl kI key.length kJ] Try.func39 rfl (of_decide_eq_true (by kernel_rfl)) ?_
 refine ab <| ao <| ag <| gj [] 4 (.agg [I bc, I dy, I bj, I bG, .u32 cX, .u64 aW, .u32 ca, I av, I bB, sl cJ bP.length cK, sl a8 au.length ba]) [I bc, I dy, I bj, I bG, .u32 cX, .u64 aW, .u32 ca, I av, I bB, sl cJ bP.length cK, sl a8 au.length ba] (by kernel_rfl) k ?_
 intro g0 w_ da
 refine bn 2 [] (.kk (.s .a)) qe (by kernel_rfl) ?_
 refine af <| aa <| ab <| ao <| bn 2 [] (.n 11 (I k_) (.n 12 (.agg [I bc, I dy, I bj, I bG, .u32 cX, .u64 aW, .u32 ca, I av, I bB, sl cJ bP.length cK, sl a8 au.length ba]) .a)) (qT da 0 rfl 0 11 [I bc, I dy, I bj, I bG, .u32 cX, .u64 aW, .u32 ca, I av, I bB, sl cJ bP.length cK, sl a8 au.length ba] (by kernel_rfl) (by decide) <| qe) (by kernel_rfl) ?_
 refine ag ?_
 obtain ⟨r_, dk, hm⟩ := ob hm
 refine aq [] 13 _ J0 (by kernel_rfl) (z7 (F := N0) (O := N0) _ _ _ _ _ _ _ _ _ _ _ _ _ _ _ _ _ _ (Ro.n0 (oU.cx da)) rfl ow (Ro.n0 (j7.cx da)) rfl ke (Cx.refl _) _ dk) ?_
 rintro e_ lh ⟨A0, _, c0, rfl, rfl, dF⟩
 have en := da.call dF
 refine ⟨.eO [sl A0 r_.1.length c0, I r_.2], rfl, ?_⟩
 refine bn 5 [] (.n 8 (sl A0 r_.1.length c0) (.n 9 (I r_.2) (.lj .a))) qe (by kernel_rfl) ?_
 refine af <| aa <| ab <| ab <| bA [] (.n 17 (.b (decide (r_.2 ≠ 0))) .a) qe (by kernel_rfl) ?_
 refine aa <| bb (r_.2 ≠ 0) (by kernel_rfl) (fun hc => ?_) (fun hc => ?_)
 · rw [if_pos hc] at hm
   refine ab <| bA [] (.n 6 (.v (.pointer none)) (.n 7 (I r_.2) .z)) qe (by kernel_rfl) ?_
   refine aa <| aL (bI ?_)
   obtain rfl := Option.some.inj hm
   refine aM [.v (.pointer none), I r_.2] qe (by kernel_rfl) ?_
   have eA := en.ck .z
   exact ⟨rfl, eA⟩
 rw [if_neg hc] at hm
 refine aS <| aa <| ab <| ab <| bA [] (.n 28 (.b ((decide (((key.length : Nat) : Int) ≠ 0)) && (decide (((key.length : Nat) : Int) ≠ dy)))) (.s (.k (.s .a)))) (qp ((decide (((key.length : Nat) : Int) ≠ 0)) = true → (some ⟨g0, 0, none⟩ : Option Addr).isSome = true) (fun Gl => rfl) <| qo (I dy) <| qc (fun w => (decide (((key.length : Nat) : Int) ≠ 0)) = true → ∃ a, (some ⟨g0, 1, none⟩ : Option Addr) = some a ∧ w.cell? a = some (SV.val (I dy))) (fun Gl => en.OB 0 rfl 1 (I dy) (by kernel_rfl)) <| qe) (by kernel_rfl) ?_
 refine aa <| cw ((decide (((key.length : Nat) : Int) ≠ 0)) && (decide (((key.length : Nat) : Int) ≠ dy))) (by kernel_rfl) (fun kr => ?_) (fun kr => ?_)
 · rw [if_pos kr] at hm
   refine ab <| bA [] (.n 6 (.v (.pointer none)) (.n 7 (I 8) .z)) qe (by kernel_rfl) ?_
   refine aa <| aL (bI ?_)
   obtain rfl := Option.some.inj hm
   refine aM [.v (.pointer none), I 8] qe (by kernel_rfl) ?_
   have fJ := en.ck .z
   exact ⟨rfl, fJ⟩
 rw [if_neg (by rw [kr]; decide)] at hm
 refine aS <| aa <| ab <| ao <| bn 5 [] (.n 29 (I k_) (.n 30 (sl A0 r_.1.length c0) (.n 32 (I bc) (.n 33 (sl kI key.length kJ) .z)))) (qs g0 0 <| qB en 0 rfl 0 (I bc) (by kernel_rfl) <| qe) (by kernel_rfl) ?_
 refine ag ?_
 obtain ⟨ah, dt, hm⟩ := ob hm
 refine aq [] 34 _ J1 (by kernel_rfl) (Dl (F := N0) (O := N0) _ _ _ _ _ _ _ _ _ _ (Ro.n0 (en.rd 1 rfl)) (en.len 1 rfl) (en.Az 1 rfl) (Ro.n0 (uV.cx en)) rfl su (Cx.refl _) _ dt) ?_
 rcases ah with bh | cD
 · simp only [Sum.elim_inl, Sum.elim_inr] at hm
   rintro e_ l4 ⟨g4, A6, _, c6, A7, _, c7, g5, A8, _, c8, rfl, rfl, rfl, rfl, gi⟩
   have fY := en.call gi
   refine ⟨pt g4 0, rfl, ?_⟩
   have fZ := fY.ck (.ss (.aP (.k .e)))
   refine bn 2 [] (.n 6 (pt g4 0) (.n 7 (I 0) .z)) qe (by kernel_rfl) ?_
   refine af <| aa <| aL ?_
   obtain rfl := Option.some.inj hm
   refine aM [pt g4 0, I 0] qe (by kernel_rfl) ?_
   exact ⟨g4, A6, bh.2.2.1.length, c6, A7, bh.2.2.2.1.length, c7, g5, A8, bh.2.2.2.2.2.2.2.1.length, c8, fZ.len 1 rfl, fZ.len 2 rfl, fZ.len 4 rfl, rfl, fZ⟩
 · simp only [Sum.elim_inl, Sum.elim_inr] at hm
   rintro e_ qf ⟨g6, A9, _, c9, wR, _, sW, g7, yX, _, ue, rfl, rfl, rfl, rfl, gY⟩
   have dK := en.call gY
   refine ⟨pt g6 0, rfl, ?_⟩
   have c_ := dK.ck (.ss (.aP (.k .e)))
   refine bn 2 [] (.n 6 (pt g6 0) (.n 7 (I 0) .z)) qe (by kernel_rfl) ?_
   refine af <| aa <| aL ?_
   obtain rfl := Option.some.inj hm
   refine aM [pt g6 0, I 0] qe (by kernel_rfl) ?_
   exact ⟨g6, A9, cD.2.2.1.length, c9, wR, cD.2.2.2.1.length, sW, g7, yX, cD.2.2.2.2.2.2.2.1.length, ue, c_.len 1 rfl, c_.len 2 rfl, c_.len 4 rfl, rfl, c_⟩
theorem uZ {F O : Nat → Prop} {w : World} (cE : List UInt8) (bd : List UInt8) (ai : List UInt8) (ir : UInt64) (ei : ae UInt8 64) (dr : Int) (a6 : Nat) (cG : Option Addr) (di : Nat) (cH : Nat) (bL : Option Addr) (cg : Nat) (bM : Nat) (aH : Option Addr) (aX : Nat) (aI : Nat) (jK : Ro F w cG (e8.all cE)) (iN : cE.length = di) (h_ : di ≤ cH) (gw : Ro F w bL (e8.all bd)) (gp : bd.length = cg) (fF : cg ≤ bM) (dE : Ro F w aH (e8.all ai)) (dN : ai.length = aX) (dj : aX ≤ aI) (k : Cx F O w w [Bx 72 a6 [I 1, I 64, .u32 4294967295, .u64 274877906944, .b false, sl cG di cH, sl bL cg bM, sl aH aX aI, .v (.pointer none), sl none 0 0, .u64 ir, .ar e8 ei, I dr, .v .nilFunc]]) (r : (Int × Int × List UInt8 × List UInt8 × ae UInt64 8 × UInt64 × UInt64 × List UInt8 × Int × ae UInt8 64)) (hm : k5 cE bd ai ir ei dr = some r) :
    Calls Try.prog 28 (ad [pt a6 0]) w (fun e w' => ∃ g A n c A1 n1 c1 g1 A2 n2 c2, r.2.2.1.length = n ∧ r.2.2.2.1.length = n1 ∧ r.2.2.2.2.2.2.2.1.length = n2 ∧ e = .returned (SV.val (.eO [])) ∧ Cx F O w w' [Bx 72 a6 [I 1, I 64, .u32 4294967295, .u64 274877906944, .b false, sl cG di cH, sl bL cg bM, sl aH aX aI, pt g 0, sl none 0 0, .u64 0, .ar e8 r.2.2.2.2.2.2.2.2.2, I (-1), .v (.func (.func 40) ⟨SV.ad [pt a6 0]⟩ ⟨SV.ad []⟩)], Bx 115 g [I r.1, I r.2.1, sl A n c, sl A1 n1 c1, .b false, .u64 0, .v (.iface 126 (SV.val (pt g1 0)))], Ow e8 A n c r.2.2.1, Ow e8 A1 n1 c1 r.2.2.2.1, Bx 132 g1 [.ar cj r.2.2.2.2.1, .u64 r.2.2.2.2.2.1, .u64 r.2.2.2.2.2.2.1, sl A2 n2 c2, I r.2.2.2.2.2.2.2.2.1, .v (.func (.func 73) ⟨SV.ad []⟩ ⟨SV.ad []⟩), .v (.func (.func 74) ⟨SV.ad []⟩ ⟨SV.ad []⟩)], Ow e8 A2 n2 c2 r.2.2.2.2.2.2.2.1]) := by
 unfold k5 at hm
 subst iN
 subst gp
 subst dN
 refine calls [pt a6 0] Try.func28 rfl (of_decide_eq_true (by kernel_rfl)) ?_
 refine ab ?_
 have k_ := k.drew 1
 refine Hr bw (.q 0 2 (.q 1 2 (.q 2 2 (.q 3 2 (.q 4 1 (.q 5 1 (.q 6 2 (.q 7 2 (.q 8 1 (.q 9 0 (.q 10 2 (.q 11 2 (.q 12 1 (.q 13 0 (.q 14 2 (.q 15 2 (.q 16 1 (.q 17 0 (.q 18 2 (.q 19 2 (.q 20 1 (.q 21 0 (.q 23 2 (.q 24 2 (.q 25 1 (.q 26 1 (.op 22 (.op 27 (.q 28 2 (.q 29 2 (.q 31 2 (.q 32 2 (.q 30 3 (.op 33 .nil)))))))))))))))))))))))))))))))))) [22, 27, 33] k_ (.c (.k .e) (.c (.k .e) (.c (.z) .l))) (by kernel_rfl) (fun _ => ?_)
 refine bx 4 2 [] (.n 3 (pt a6 0) (.n 6 (pt a6 0) .a)) (fun x hx => qs a6 0 <| qs a6 0 <| qe) (by kernel_rfl) (fun _ => ?_)
 refine bx 2 1 [] (.n 8 (I 1) (.k (.s .a))) (fun x hx => qs a6 0 <| qB hx 0 rfl 0 (I 1) (by kernel_rfl) <| qe) (by kernel_rfl) (fun _ => ?_)
 refine bx 2 2 [] (.n 10 (pt a6 0) .a) (fun x hx => qs a6 0 <| qe) (by kernel_rfl) (fun _ => ?_)
 refine bx 1 1 [] (.n 11 (pt a6 0) (.s .a)) (fun x hx => qs a6 0 <| qe) (by kernel_rfl) (fun _ => ?_)
 refine bx 1 0 [] (.n 12 (.agg [I 1, I 64, .u32 4294967295, .u64 274877906944, .b false]) (.s .a)) (fun x hx => qT hx 0 rfl 0 5 [I 1, I 64, .u32 4294967295, .u64 274877906944, .b false] (by kernel_rfl) (by decide) <| qe) (by kernel_rfl) (fun _ => ?_)
 refine bx 2 2 [] (.n 14 (pt a6 0) .a) (fun x hx => qs a6 0 <| qe) (by kernel_rfl) (fun _ => ?_)
 refine bx 1 1 [] (.n 15 (pt a6 5) (.s .a)) (fun x hx => qs a6 0 <| qe) (by kernel_rfl) (fun _ => ?_)
 refine bx 1 0 [] (.n 16 (sl cG cE.length cH) (.s .a)) (fun x hx => qB hx 0 rfl 5 (sl cG cE.length cH) (by kernel_rfl) <| qe) (by kernel_rfl) (fun _ => ?_)
 refine bx 2 2 [] (.n 18 (pt a6 0) .a) (fun x hx => qs a6 0 <| qe) (by kernel_rfl) (fun _ => ?_)
 refine bx 1 1 [] (.n 19 (pt a6 6) (.s .a)) (fun x hx => qs a6 0 <| qe) (by kernel_rfl) (fun _ => ?_)
 refine bx 1 0 [] (.n 20 (sl bL bd.length bM) (.s .a)) (fun x hx => qB hx 0 rfl 6 (sl bL bd.length bM) (by kernel_rfl) <| qe) (by kernel_rfl) (fun _ => ?_)
 refine bx 2 2 [] (.n 22 (pt a6 0) .a) (fun x hx => qs a6 0 <| qe) (by kernel_rfl) (fun _ => ?_)
 refine bx 1 1 [] (.n 23 (pt a6 7) (.s .a)) (fun x hx => qs a6 0 <| qe) (by kernel_rfl) (fun _ => ?_)
 refine bx 1 0 [] (.n 24 (sl aH ai.length aI) (.s .a)) (fun x hx => qB hx 0 rfl 7 (sl aH ai.length aI) (by kernel_rfl) <| qe) (by kernel_rfl) (fun _ => ?_)
 refine bx 2 2 [] (.n 27 (pt a6 0) .a) (fun x hx => qs a6 0 <| qe) (by kernel_rfl) (fun _ => ?_)
 refine bx 2 1 [] (.n 29 (sl cG cE.length cH) (.s .a)) (fun x hx => qs a6 0 <| qB hx 0 rfl 5 (sl cG cE.length cH) (by kernel_rfl) <| qe) (by kernel_rfl) (fun _ => ?_)
 refine bZ (by kernel_rfl) rfl ?_
 obtain ⟨r_, dk, hm⟩ := ob hm
 refine aq [] 25 _ Fo (by kernel_rfl) (rA (F := N0) (O := N0) _ _ _ _ _ _ _ _ _ _ _ _ (Ro.n0 (jK.cx k_)) rfl h_ (Ro.n0 (gw.cx k_)) rfl fF (Ro.n0 (dE.cx k_)) rfl dj (Cx.refl _) _ dk) ?_
 rintro e_ w_ ⟨rfl, da⟩
 have dF := k_.call da
 refine ⟨.agg [I 64, I r_, I 1, I 1, .u32 0, .u64 0, .u32 4294967295, I 0, I 0, sl bL bd.length bM, sl aH ai.length aI], rfl, ?_⟩
 refine ⟨dF, fun _ => ?_⟩
 refine bZ (by kernel_rfl) rfl ?_
 obtain ⟨ah, dt, hm⟩ := ob hm
 refine aq [] 30 _ Ft (by kernel_rfl) (Ad (F := N0) (O := N0) _ _ _ _ _ _ _ _ _ _ _ _ _ _ _ _ _ _ _ _ _ _ (Ro.n0 (gw.cx dF)) rfl fF (Ro.n0 (dE.cx dF)) rfl dj (Ro.n0 (jK.cx dF)) rfl h_ (Cx.refl _) _ dt) ?_
 rcases ah with bh | cD | fi
 · simp only [Sum.elim_inl, Sum.elim_inr] at hm
   cases hm
 · simp only [Sum.elim_inl, Sum.elim_inr] at hm
   rintro e_ vO ⟨g0, A0, _, c0, A3, _, c3, g2, A4, _, c4, rfl, rfl, rfl, rfl, c_⟩
   have ez := dF.call c_
   refine ⟨.eO [pt g0 0, I 0], rfl, ?_⟩
   refine ⟨(ez.ck (.k .z)), fun _ => ?_⟩
   refine bx 4 2 [] (.n 2 (.eO [pt g0 0, I 0]) (.n 31 (pt g0 0) (.n 34 (pt a6 8) (.fQ (.fQ (.s .a)))))) (fun x hx => qs a6 0 <| qs a6 0 <| qe) (by kernel_rfl) (fun _ => ?_)
   refine bx 1 3 [] (.s .a) (fun x hx => qe) (by kernel_rfl) (fun _ => ?_)
   refine bZ (by kernel_rfl) rfl <| ey [] 0 (pt g0 0) [pt g0 0] (Pt.at a6 8) ez rfl (.aP (.aP .h)) (by kernel_rfl) (by kernel_rfl) ?_
   intro Av dH
   refine ⟨(dH.ck .z), fun _ => ?_⟩
   refine ct <| aa <| ab <| ao <| bn 5 [] (.n 36 (pt a6 0) (.n 37 (pt a6 0) (.n 39 (pt a6 9) (.ss .a)))) (qs a6 0 <| qs a6 0 <| qe) (by kernel_rfl) ?_
   refine ag <| ey [] 0 (sl none 0 0) [sl none 0 0] (Pt.at a6 9) dH rfl (.aP (.aP (.k .h))) (by kernel_rfl) (by kernel_rfl) ?_
   intro De eX
   refine bn 2 [] (.n 41 (pt a6 10) (.s (.k (.s .a)))) (qs a6 0 <| qs a6 0 <| qe) (by kernel_rfl) ?_
   refine ag ?_
   have iu := eX.ck (.aP (.kk .e))
   refine ey [] 0 (.u64 0) [.u64 0] (Pt.at a6 10) iu rfl (.aP (.aP (.kk .h))) (by kernel_rfl) (by kernel_rfl) ?_
   intro z6 fX
   refine bn 2 [] (.n 43 (pt a6 75) (.ss .a)) (qs a6 0 <| qs a6 0 <| qe) (by kernel_rfl) ?_
   refine ag <| ey [] 0 (I (-1)) [I (-1)] (Pt.at a6 75) fX rfl (.aP (.aP (.aP .h))) (by kernel_rfl) (by kernel_rfl) ?_
   intro Ch jY
   refine af <| aa <| ao <| bn 5 [] (.n 46 (.v (.func (.func 40) ⟨SV.ad [pt a6 0]⟩ ⟨SV.ad []⟩)) (.n 48 (pt a6 76) .z)) (qs a6 0 <| qs a6 0 <| qe) (by kernel_rfl) ?_
   refine ag <| ey [] 0 (.v (.func (.func 40) ⟨SV.ad [pt a6 0]⟩ ⟨SV.ad []⟩)) [.v (.func (.func 40) ⟨SV.ad [pt a6 0]⟩ ⟨SV.ad []⟩)] (Pt.at a6 76) jY rfl (.aP (.aP (.aP (.k .h)))) (by kernel_rfl) (by kernel_rfl) ?_
   intro Dg iK
   refine af ?_
   obtain rfl := Option.some.inj hm
   refine pJ [] qe (by kernel_rfl) ?_
   exact ⟨g0, A0, cD.2.2.1.length, c0, A3, cD.2.2.2.1.length, c3, g2, A4, cD.2.2.2.2.2.2.2.1.length, c4, iK.len 2 rfl, iK.len 3 rfl, iK.len 5 rfl, rfl, iK⟩
 · simp only [Sum.elim_inl, Sum.elim_inr] at hm
   cases hm
theorem Dm {F O : Nat → Prop} {w : World} (key : List UInt8) (dx : List UInt8) (bJ : List UInt8) (kI : Option Addr) (dD : Nat) (kJ : Nat) (gT : Option Addr) (nC : Nat) (gW : Nat) (cS : Option Addr) (gC : Nat) (cT : Nat) (uV : Ro F w kI (e8.all key)) (rB : key.length = dD) (su : dD ≤ kJ) (uW : Ro F w gT (e8.all dx)) (tA : dx.length = nC) (sa : nC ≤ gW) (mN : Ro F w cS (e8.all bJ)) (mO : bJ.length = gC) (lN : gC ≤ cT) (k : Cx F O w w []) (r : Int ⊕ (List UInt8 × List UInt8 × List UInt8 × Int × Int × List UInt8 × List UInt8 × ae UInt64 8 × UInt64 × UInt64 × List UInt8 × Int × ae UInt8 64)) (hm : r7 key dx bJ = some r) :
    Calls Try.prog 18 (ad [I 1, I (-1), sl kI dD kJ, sl gT nC gW, sl cS gC cT]) w (fun e w' => match r with | .inl r0 => e = .returned (SV.val (.eO [.v (.pointer none), I r0])) ∧ Cx F O w w' [] | .inr r1 => ∃ g A n c A1 n1 c1 A2 n2 c2 g1 A3 n3 c3 A4 n4 c4 g2 A5 n5 c5, r1.1.length = n ∧ r1.2.1.length = n1 ∧ r1.2.2.1.length = n2 ∧ r1.2.2.2.2.2.1.length = n3 ∧ r1.2.2.2.2.2.2.1.length = n4 ∧ r1.2.2.2.2.2.2.2.2.2.2.1.length = n5 ∧ e = .returned (SV.val (.eO [pt g 0, I 0])) ∧ Cx F O w w' [Bx 72 g [I 1, I 64, .u32 4294967295, .u64 274877906944, .b false, sl A n c, sl A1 n1 c1, sl A2 n2 c2, pt g1 0, sl none 0 0, .u64 0, .ar e8 r1.2.2.2.2.2.2.2.2.2.2.2.2, I (-1), .v (.func (.func 40) ⟨SV.ad [pt g 0]⟩ ⟨SV.ad []⟩)], Sh (SH e8) [(A, n, c)] [r1.1], Sh (SH e8) [(A1, n1, c1)] [r1.2.1], Sh (SH e8) [(A2, n2, c2)] [r1.2.2.1], Bx 115 g1 [I r1.2.2.2.1, I r1.2.2.2.2.1, sl A3 n3 c3, sl A4 n4 c4, .b false, .u64 0, .v (.iface 126 (SV.val (pt g2 0)))], Ow e8 A3 n3 c3 r1.2.2.2.2.2.1, Ow e8 A4 n4 c4 r1.2.2.2.2.2.2.1, Bx 132 g2 [.ar cj r1.2.2.2.2.2.2.2.1, .u64 r1.2.2.2.2.2.2.2.2.1, .u64 r1.2.2.2.2.2.2.2.2.2.1, sl A5 n5 c5, I r1.2.2.2.2.2.2.2.2.2.2.2.1, .v (.func (.func 73) ⟨SV.ad []⟩ ⟨SV.ad []⟩), .v (.func (.func 74) ⟨SV.ad []⟩ ⟨SV.ad []⟩)], Ow e8 A5 n5 c5 r1.2.2.2.2.2.2.2.2.2.2.1]) := by
 unfold r7 at hm
 subst rB
 subst tA
 subst mO
 refine calls [I 1, I (-1), sl kI key.length kJ, sl gT dx.length gW, sl cS bJ.length cT] Try.func18 rfl (of_decide_eq_true (by kernel_rfl)) ?_
 refine ab <| bA [] .a qe (by kernel_rfl) ?_
 refine aa <| ab <| ao <| bn 5 [] (.n 16 (I 1) (.n 17 (I (-1)) (.n 18 (sl kI key.length kJ) (.n 19 (sl gT dx.length gW) (.n 20 (sl cS bJ.length cT) (.ss .a)))))) qe (by kernel_rfl) ?_
 refine ag ?_
 obtain ⟨r_, dk, hm⟩ := ob hm
 refine aq [] 21 _ JR (by kernel_rfl) (AG (F := N0) (O := N0) _ _ _ _ _ _ _ _ _ _ _ _ (Ro.n0 (uV.cx k)) rfl su (Ro.n0 (uW.cx k)) rfl sa (Ro.n0 (mN.cx k)) rfl lN (Cx.refl _) _ dk) ?_
 rintro e_ w_ ⟨rfl, k_⟩
 have da := k.call k_
 refine ⟨.eO [.agg [I 1, I 64, .u32 4294967295, .u64 274877906944, .b false], I r_], rfl, ?_⟩
 refine bn 3 [] (.n 22 (.agg [I 1, I 64, .u32 4294967295, .u64 274877906944, .b false]) (.n 23 (I r_) (.fQ (.ss .a)))) qe (by kernel_rfl) ?_
 refine ag <| bY [] 12 [I 0, I 0, .u32 0, .u64 0, .b false] (by kernel_rfl) da ?_
 intro g0 lh dF
 refine ag <| ey [] 0 (.agg [I 1, I 64, .u32 4294967295, .u64 274877906944, .b false]) [I 1, I 64, .u32 4294967295, .u64 274877906944, .b false] (Pt.at g0 0) dF rfl .all (by kernel_rfl) (by kernel_rfl) ?_
 intro l4 en
 refine bn 1 [] (.n 13 (I r_) (.k (.ss .a))) qe (by kernel_rfl) ?_
 refine af <| aa <| ab <| ab <| bA [] (.n 25 (.b (decide (r_ ≠ 0))) .a) qe (by kernel_rfl) ?_
 refine aa <| bb (r_ ≠ 0) (by kernel_rfl) (fun hc => ?_) (fun hc => ?_)
 · rw [if_pos hc] at hm
   refine ab <| bA [] (.n 10 (.v (.pointer none)) (.n 11 (I r_) .z)) qe (by kernel_rfl) ?_
   refine aa <| aL (bI ?_)
   obtain rfl := Option.some.inj hm
   refine aM [.v (.pointer none), I r_] qe (by kernel_rfl) ?_
   have eA := en.ck .z
   exact ⟨rfl, eA⟩
 rw [if_neg hc] at hm
 refine aS <| aa <| ab ?_
 have fJ := en.drew 1
 refine qy bw (.q 1 2 (.q 3 2 (.q 0 3 (.q 5 3 (.op 2 (.op 4 (.op 6 (.q 7 3 (.op 8 (.q 9 4 .nil)))))))))) [2, 4, 6, 8] fJ (.c (.k .e) (.c (.k .e) (.c (.k .e) (.c (.k .e) .l)))) (by kernel_rfl) (fun _ => ?_)
 refine bx 2 2 [] (.n 28 (sl kI key.length kJ) (.n 30 (sl gT dx.length gW) (.ss (.k (.ss .a))))) (fun x hx => qe) (by kernel_rfl) (fun _ => ?_)
 refine bx 2 3 [] (.n 27 (.agg [I 1, I 64, .u32 4294967295, .u64 274877906944, .b false]) (.n 32 (sl cS bJ.length cT) (.kk .z))) (fun x hx => qT hx 0 rfl 0 5 [I 1, I 64, .u32 4294967295, .u64 274877906944, .b false] (by kernel_rfl) (by decide) <| qe) (by kernel_rfl) (fun _ => ?_)
 refine bZ (by kernel_rfl) rfl ?_
 obtain ⟨ah, dt, hm⟩ := ob hm
 refine aq [] 29 _ Cb (by kernel_rfl) (uY (F := N0) (O := N0) _ _ _ _ (Ro.n0 (uV.cx fJ)) rfl su (Cx.refl _) _ dt) ?_
 rintro e_ qf ⟨A0, _, c0, rfl, rfl, gi⟩
 have fY := fJ.call gi
 refine ⟨sl A0 ah.length c0, rfl, ?_⟩
 refine ⟨(fY.ck (.k .z)), fun _ => ?_⟩
 refine bZ (by kernel_rfl) rfl ?_
 have fZ := fY.ck (.kk .e)
 obtain ⟨bh, gX, hm⟩ := ob hm
 refine aq [] 31 _ Cb (by kernel_rfl) (uY (F := N0) (O := N0) _ _ _ _ (Ro.n0 (uW.cx fZ)) rfl sa (Cx.refl _) _ gX) ?_
 rintro e_ p7 ⟨A6, _, c6, rfl, rfl, gY⟩
 have dK := fZ.call gY
 refine ⟨sl A6 bh.length c6, rfl, ?_⟩
 refine ⟨(dK.ck (.k .z)), fun _ => ?_⟩
 refine bZ (by kernel_rfl) rfl ?_
 obtain ⟨cD, oV, hm⟩ := ob hm
 refine aq [] 33 _ Cb (by kernel_rfl) (uY (F := N0) (O := N0) _ _ _ _ (Ro.n0 (mN.cx dK)) rfl lN (Cx.refl _) _ oV) ?_
 rintro e_ sV ⟨A7, _, c7, rfl, rfl, c_⟩
 have ez := dK.call c_
 refine ⟨sl A7 cD.length c7, rfl, ?_⟩
 refine ⟨(ez.ck (.k .z)), fun _ => ?_⟩
 refine bx 1 3 [] (.n 34 (.agg [I 1, I 64, .u32 4294967295, .u64 274877906944, .b false, sl A0 ah.length c0, sl A6 bh.length c6, sl A7 cD.length c7, .v (.pointer none), sl none 0 0, .u64 0, .ar e8 (ae.rep 64 (0 : UInt8)), I 0, .v .nilFunc]) .z) (fun x hx => qe) (by kernel_rfl) (fun _ => ?_)
 refine bZ (by kernel_rfl) rfl ?_
 have dH := (((ez.pk (.t (.t (.t .h)))).pk (.t (.t (.t .h)))).pk (.t (.t .h))).pk (.t (.t (.t .h)))
 have eX := dH.share
 have iu := (((eX.pk (.t (.t (.t .h)))).pk (.t (.t .h))).pk (.t (.t .h))).pk (.t (.t (.t .h)))
 have fX := iu.share
 have jY := (((fX.pk (.t (.t .h))).pk (.t (.t .h))).pk (.t (.t .h))).pk (.t (.t (.t .h)))
 have iK := jY.share
 refine gj [] 35 (.agg [I 1, I 64, .u32 4294967295, .u64 274877906944, .b false, sl A0 ah.length c0, sl A6 bh.length c6, sl A7 cD.length c7, .v (.pointer none), sl none 0 0, .u64 0, .ar e8 (ae.rep 64 (0 : UInt8)), I 0, .v .nilFunc]) [I 1, I 64, .u32 4294967295, .u64 274877906944, .b false, sl A0 ah.length c0, sl A6 bh.length c6, sl A7 cD.length c7, .v (.pointer none), sl none 0 0, .u64 0, .ar e8 (ae.rep 64 (0 : UInt8)), I 0, .v .nilFunc] (by kernel_rfl) iK ?_
 intro g3 wi kt
 refine ⟨(kt.ck (.ss (.s (.k .z)))), fun _ => ?_⟩
 refine bx 1 4 [] (.n 14 (pt g3 0) .z) (fun x hx => qe) (by kernel_rfl) (fun _ => ?_)
 refine ct <| aa <| ab <| ao <| bn 1 [] (.n 36 (pt g3 0) .a) qe (by kernel_rfl) ?_
 refine ag ?_
 obtain ⟨fi, uX, hm⟩ := ob hm
 obtain ⟨F1, O1, lO, hO, rO, hF, hb⟩ := kt.go (.r (.r (.r (.r (.i .e)))))
 refine aq [] 37 _ JS (by kernel_rfl) (uZ (F := F1) (O := O1) _ _ _ _ _ _ _ _ _ _ _ _ _ _ _ _ (Ro.de lO.off rO 2 rfl) (kt.b8 2 rfl) (kt.cZ 2 rfl) (Ro.de lO.off rO 1 rfl) (kt.b8 1 rfl) (kt.cZ 1 rfl) (Ro.de lO.off rO 0 rfl) (kt.b8 0 rfl) (kt.cZ 0 rfl) lO _ uX) ?_
 rintro e_ vO ⟨g4, A8, _, c8, A9, _, c9, g5, wR, _, sW, rfl, rfl, rfl, rfl, kg⟩
 have lW := hb vO _ _ kg (.c (.c (.c (.c (.c (.c .n))))))
 refine ⟨.eO [], rfl, ?_⟩
 have mh := lW.ck (.aP (.aP (.k .z)))
 refine af <| aa <| ab <| bA [] (.n 10 (pt g3 0) (.n 11 (I 0) .z)) qe (by kernel_rfl) ?_
 refine aa <| aL ?_
 obtain rfl := Option.some.inj hm
 refine aM [pt g3 0, I 0] qe (by kernel_rfl) ?_
 have mo := ((((((((mh.pk (.t (.t (.t (.t (.t .h)))))).pk (.t (.t (.t (.t (.t .h)))))).pk (.t (.t (.t (.t (.t .h)))))).pk (.t (.t (.t (.t (.t .h)))))).pk (.t (.t (.t (.t (.t .h)))))).pk (.t (.t (.t (.t (.t (.t .h))))))).pk (.t (.t (.t (.t (.t (.t (.t .h)))))))).pk (.t (.t (.t (.t (.t (.t (.t (.t .h))))))))).pk (.t (.t (.t (.t (.t (.t (.t (.t .h))))))))
 exact ⟨g3, A0, ah.length, c0, A6, bh.length, c6, A7, cD.length, c7, g4, A8, fi.2.2.1.length, c8, A9, fi.2.2.2.1.length, c9, g5, wR, fi.2.2.2.2.2.2.2.1.length, sW, mo.b8 1 rfl, mo.b8 2 rfl, mo.b8 3 rfl, mo.len 5 rfl, mo.len 6 rfl, mo.len 8 rfl, rfl, mo⟩
theorem xC {F O : Nat → Prop} {w : World} (fk : List UInt8) (yw : Option Addr) (EC : Nat) (yx : Nat) (HY : Ro F w yw (e8.all fk)) (Kx : fk.length = EC) (Ky : EC ≤ yx) (k : Cx F O w w []) (r : Int ⊕ (List UInt8 × List UInt8 × List UInt8 × List UInt8 × Int × Int × List UInt8 × List UInt8 × ae UInt64 8 × UInt64 × UInt64 × List UInt8 × Int × ae UInt8 64)) (hm : na fk = some r) :
    Calls Try.prog 11 (ad [sl yw EC yx]) w (fun e w' => match r with | .inl r0 => e = .returned (SV.val (.eO [.v (.pointer none), I r0])) ∧ Cx F O w w' [] | .inr r1 => ∃ g A n c g1 A1 n1 c1 A2 n2 c2 A3 n3 c3 g2 A4 n4 c4 A5 n5 c5 g3 A6 n6 c6, r1.1.length = n ∧ r1.2.1.length = n1 ∧ r1.2.2.1.length = n2 ∧ r1.2.2.2.1.length = n3 ∧ r1.2.2.2.2.2.2.1.length = n4 ∧ r1.2.2.2.2.2.2.2.1.length = n5 ∧ r1.2.2.2.2.2.2.2.2.2.2.2.1.length = n6 ∧ e = .returned (SV.val (.eO [pt g 0, I 0])) ∧ Cx F O w w' [Bx 54 g [sl A n c, pt g1 0], Sh (SH e8) [(A, n, c)] [r1.1], Bx 72 g1 [I 1, I 64, .u32 4294967295, .u64 274877906944, .b false, sl A1 n1 c1, sl A2 n2 c2, sl A3 n3 c3, pt g2 0, sl none 0 0, .u64 0, .ar e8 r1.2.2.2.2.2.2.2.2.2.2.2.2.2, I (-1), .v (.func (.func 40) ⟨SV.ad [pt g1 0]⟩ ⟨SV.ad []⟩)], Sh (SH e8) [(A1, n1, c1)] [r1.2.1], Sh (SH e8) [(A2, n2, c2)] [r1.2.2.1], Sh (SH e8) [(A3, n3, c3)] [r1.2.2.2.1], Bx 115 g2 [I r1.2.2.2.2.1, I r1.2.2.2.2.2.1, sl A4 n4 c4, sl A5 n5 c5, .b false, .u64 0, .v (.iface 126 (SV.val (pt g3 0)))], Ow e8 A4 n4 c4 r1.2.2.2.2.2.2.1, Ow e8 A5 n5 c5 r1.2.2.2.2.2.2.2.1, Bx 132 g3 [.ar cj r1.2.2.2.2.2.2.2.2.1, .u64 r1.2.2.2.2.2.2.2.2.2.1, .u64 r1.2.2.2.2.2.2.2.2.2.2.1, sl A6 n6 c6, I r1.2.2.2.2.2.2.2.2.2.2.2.2.1, .v (.func (.func 73) ⟨SV.ad []⟩ ⟨SV.ad []⟩), .v (.func (.func 74) ⟨SV.ad []⟩ ⟨SV.ad []⟩)], Ow e8 A6 n6 c6 r1.2.2.2.2.2.2.2.2.2.2.2.1]) := by
 unfold na at hm
 subst Kx
 refine calls [sl yw fk.length yx] Try.func11 rfl (of_decide_eq_true (by kernel_rfl)) ?_
 refine ab <| bA [] .a qe (by kernel_rfl) ?_
 refine aa <| ab <| ab <| bA [] (.n 8 (.b (decide (64 < ((fk.length : Nat) : Int)))) .a) qe (by kernel_rfl) ?_
 refine aa <| bb (64 < ((fk.length : Nat) : Int)) (by kernel_rfl) (fun hc => ?_) (fun hc => ?_)
 · rw [if_pos hc] at hm
   refine ab <| bA [] (.n 2 (.v (.pointer none)) (.n 3 (I 8) .z)) qe (by kernel_rfl) ?_
   refine aa <| aL (bI ?_)
   obtain rfl := Option.some.inj hm
   refine aM [.v (.pointer none), I 8] qe (by kernel_rfl) ?_
   exact ⟨rfl, k⟩
 rw [if_neg hc] at hm
 refine aS <| aa <| ab <| ao <| bn 1 [] (.n 10 (sl yw fk.length yx) (.s .a)) qe (by kernel_rfl) ?_
 refine ag ?_
 obtain ⟨r_, dk, hm⟩ := ob hm
 refine aq [] 11 _ JN (by kernel_rfl) (Dm (F := N0) (O := N0) _ _ _ _ _ _ _ _ _ _ _ _ (Ro.n0 (HY.cx k)) rfl Ky (Ro.Ge e8) rfl (Nat.le_refl 0) (Ro.Ge e8) rfl (Nat.le_refl 0) (Cx.refl _) _ dk) ?_
 rcases r_ with ah | bh
 · simp only [Sum.elim_inl, Sum.elim_inr] at hm
   rintro e_ w_ ⟨rfl, k_⟩
   have da := k.call k_
   refine ⟨.eO [.v (.pointer none), I ah], rfl, ?_⟩
   refine bn 5 [] (.n 4 (.v (.pointer none)) (.n 5 (I ah) (.ss .a))) qe (by kernel_rfl) ?_
   refine af <| aa <| ab <| ab <| bA [] (.n 15 (.b (decide (ah ≠ 0))) .a) qe (by kernel_rfl) ?_
   refine aa <| bb (ah ≠ 0) (by kernel_rfl) (fun kr => ?_) (fun kr => ?_)
   · rw [if_pos kr] at hm
     refine ab <| bA [] (.n 2 (.v (.pointer none)) (.n 3 (I ah) .z)) qe (by kernel_rfl) ?_
     refine aa <| aL (bI ?_)
     obtain rfl := Option.some.inj hm
     refine aM [.v (.pointer none), I ah] qe (by kernel_rfl) ?_
     exact ⟨rfl, da⟩
   rw [if_neg kr] at hm
   cases hm
 · simp only [Sum.elim_inl, Sum.elim_inr] at hm
   rintro e_ Vq ⟨g4, A7, _, c7, A8, _, c8, A9, _, c9, g5, wR, _, sW, yX, _, ue, g6, AN, _, xB, rfl, rfl, rfl, rfl, rfl, rfl, rfl, R_⟩
   have gi := k.call R_
   refine ⟨.eO [pt g4 0, I 0], rfl, ?_⟩
   refine bn 5 [] (.n 4 (pt g4 0) (.n 5 (I 0) (.ss .a))) qe (by kernel_rfl) ?_
   refine af <| aa <| ab <| ab <| bA [] (.n 15 (.b false) .a) qe (by kernel_rfl) ?_
   refine aa <| cw false (by kernel_rfl) (fun h => by cases h) (fun _ => ?_)
   refine aS <| aa <| ab <| ao <| bn 1 [] (.n 17 (sl yw fk.length yx) (.s (.k .z))) qe (by kernel_rfl) ?_
   refine ag ?_
   have fY := gi.nil e8
   obtain ⟨b0, Sa, hm⟩ := ob hm
   obtain ⟨X5, RP⟩ := kV Sa
   refine jG (E := e8) (v := sl yw fk.length yx) (ys := fk) im [] 18 9 (by kernel_rfl) fY rfl (Src.sl (HY.cx fY) rfl (by rfl)) rfl (by have := fY.len 9 rfl; have := hm; omega) ?_
   intro HZ AO qf fZ
   rw [← RP] at fZ
   refine bn 2 [] (.n 20 (.agg [sl HZ (0 + fk.length) AO, pt g4 0]) .z) qe (by kernel_rfl) ?_
   refine ag ?_
   have gY := (((((((((fZ.pk (.t (.t (.t (.t (.t (.t (.t (.t .h))))))))).pk (.t (.t (.t (.t (.t (.t (.t (.t .h))))))))).pk (.t (.t (.t (.t (.t (.t (.t (.t .h))))))))).pk (.t (.t (.t (.t (.t (.t (.t (.t .h))))))))).pk (.t (.t (.t (.t (.t (.t (.t (.t .h))))))))).pk (.t (.t (.t (.t (.t (.t (.t (.t .h))))))))).pk (.t (.t (.t (.t (.t (.t (.t (.t .h))))))))).pk (.t (.t (.t (.t (.t (.t (.t (.t .h))))))))).pk (.t (.t (.t (.t (.t (.t (.t (.t .h))))))))).pk (.t (.t (.t (.t (.t (.t (.t (.t (.t .h)))))))))
   have dK := gY.share
   refine gj [] 21 (.agg [sl HZ (0 + fk.length) AO, pt g4 0]) [sl HZ (0 + fk.length) AO, pt g4 0] (by kernel_rfl) dK ?_
   intro g7 p7 c_
   refine bn 2 [] (.n 2 (pt g7 0) (.n 3 (I 0) .z)) qe (by kernel_rfl) ?_
   refine af <| aa <| aL ?_
   obtain rfl := Option.some.inj hm
   refine aM [pt g7 0, I 0] qe (by kernel_rfl) ?_
   have ez := ((((((((((c_.pk (.t (.t (.t (.t (.t (.t (.t (.t (.t .h)))))))))).pk (.t (.t (.t (.t (.t (.t (.t (.t (.t .h)))))))))).pk (.t (.t (.t (.t (.t (.t (.t (.t (.t .h)))))))))).pk (.t (.t (.t (.t (.t (.t (.t (.t (.t .h)))))))))).pk (.t (.t (.t (.t (.t (.t (.t (.t (.t .h)))))))))).pk (.t (.t (.t (.t (.t (.t (.t (.t (.t .h)))))))))).pk (.t (.t (.t (.t (.t (.t (.t (.t (.t .h)))))))))).pk (.t (.t (.t (.t (.t (.t (.t (.t (.t .h)))))))))).pk (.t (.t (.t (.t (.t (.t (.t (.t (.t .h)))))))))).pk (.t (.t (.t (.t (.t (.t (.t (.t (.t .h)))))))))).pk (.t (.t (.t (.t (.t (.t (.t (.t (.t (.t .h))))))))))
   exact ⟨g7, HZ, 0 + fk.length, AO, g4, A7, bh.1.length, c7, A8, bh.2.1.length, c8, A9, bh.2.2.1.length, c9, g5, wR, bh.2.2.2.2.2.1.length, sW, yX, bh.2.2.2.2.2.2.1.length, ue, g6, AN, bh.2.2.2.2.2.2.2.2.2.2.1.length, xB, ez.b8 1 rfl, ez.b8 3 rfl, ez.b8 4 rfl, ez.b8 5 rfl, ez.len 7 rfl, ez.len 8 rfl, ez.len 10 rfl, rfl, ez⟩
theorem ku {F O : Nat → Prop} {w : World} (bX : List UInt8) (bk : List UInt8) (aT : List UInt8) (aj : List UInt8) (aZ : Int) (aG : Int) (aO : List UInt8) (bg : List UInt8) (a1 : Bool) (ay : UInt64) (bm : ae UInt64 8) (ak : UInt64) (al : UInt64) (aD : List UInt8) (az : Int) (cR : UInt64) (b9 : ae UInt8 64) (bz : Int) (lx : Nat) (cU : Option Addr) (cc : Nat) (cV : Nat) (cL : Nat) (cd : Option Addr) (bK : Nat) (cf : Nat) (bQ : Option Addr) (bq : Nat) (bR : Nat) (aQ : Option Addr) (aF : Nat) (aR : Nat) (cz : Nat) (bS : Option Addr) (b_ : Nat) (bT : Nat) (cB : Option Addr) (cN : Nat) (cC : Nat) (bu : Nat) (bE : Option Addr) (bN : Nat) (bF : Nat) (gx : Ro F w cU (e8.all bX)) (gq : bX.length = cc) (fG : cc ≤ cV) (eD : Ro F w cd (e8.all bk)) (fI : bk.length = bK) (dQ : bK ≤ cf) (dT : Ro F w bQ (e8.all aT)) (eY : aT.length = bq) (dv : bq ≤ bR) (cb : Ro F w aQ (e8.all aj)) (cY : aj.length = aF) (bU : aF ≤ aR) (k : Cx F O w w [Bx 54 lx [sl cU cc cV, pt cL 0], Bx 72 cL [I 1, I 64, .u32 4294967295, .u64 274877906944, .b false, sl cd bK cf, sl bQ bq bR, sl aQ aF aR, pt cz 0, sl none 0 0, .u64 cR, .ar e8 b9, I bz, .v (.func (.func 40) ⟨SV.ad [pt cL 0]⟩ ⟨SV.ad []⟩)], Bx 115 cz [I aZ, I aG, sl bS b_ bT, sl cB cN cC, .b a1, .u64 ay, .v (.iface 126 (SV.val (pt bu 0)))], Ow e8 bS b_ bT aO, Ow e8 cB cN cC bg, Bx 132 bu [.ar cj bm, .u64 ak, .u64 al, sl bE bN bF, I az, .v (.func (.func 73) ⟨SV.ad []⟩ ⟨SV.ad []⟩), .v (.func (.func 74) ⟨SV.ad []⟩ ⟨SV.ad []⟩)], Ow e8 bE bN bF aD]) (r : (ae UInt64 8 × UInt64 × UInt64 × List UInt8 × Int × Int × Int × List UInt8 × List UInt8 × Bool × UInt64 × UInt64 × ae UInt8 64 × Int)) (hm : cM bX bk aT aj aZ aG aO bg a1 ay bm ak al aD az cR b9 bz = some r) :
    Calls Try.prog 19 (ad [pt lx 0]) w (fun e w' => ∃ A n c A1 n1 c1 A2 n2 c2, r.2.2.2.1.length = n ∧ r.2.2.2.2.2.2.2.1.length = n1 ∧ r.2.2.2.2.2.2.2.2.1.length = n2 ∧ e = .returned (SV.val (.b false)) ∧ Cx F O w w' [Bx 132 bu [.ar cj r.1, .u64 r.2.1, .u64 r.2.2.1, sl A n c, I r.2.2.2.2.1, .v (.func (.func 73) ⟨SV.ad []⟩ ⟨SV.ad []⟩), .v (.func (.func 74) ⟨SV.ad []⟩ ⟨SV.ad []⟩)], Ow e8 A n c r.2.2.2.1, Bx 115 cz [I r.2.2.2.2.2.1, I r.2.2.2.2.2.2.1, sl A1 n1 c1, sl A2 n2 c2, .b r.2.2.2.2.2.2.2.2.2.1, .u64 r.2.2.2.2.2.2.2.2.2.2.1, .v (.iface 126 (SV.val (pt bu 0)))], Ow e8 A1 n1 c1 r.2.2.2.2.2.2.2.1, Ow e8 A2 n2 c2 r.2.2.2.2.2.2.2.2.1, Bx 72 cL [I 1, I 64, .u32 4294967295, .u64 274877906944, .b false, sl cd bK cf, sl bQ bq bR, sl aQ aF aR, pt cz 0, sl none 0 0, .u64 r.2.2.2.2.2.2.2.2.2.2.2.1, .ar e8 r.2.2.2.2.2.2.2.2.2.2.2.2.1, I r.2.2.2.2.2.2.2.2.2.2.2.2.2, .v (.func (.func 40) ⟨SV.ad [pt cL 0]⟩ ⟨SV.ad []⟩)], Bx 54 lx [sl cU cc cV, pt cL 0]]) := by
 unfold cM at hm
 subst gq
 subst fI
 subst eY
 subst cY
 obtain rfl := k.len 3 rfl
 obtain rfl := k.len 4 rfl
 obtain rfl := k.len 6 rfl
 refine calls [pt lx 0] Try.func19 rfl (of_decide_eq_true (by kernel_rfl)) ?_
 refine ab <| bA [] .a qe (by kernel_rfl) ?_
 refine aa <| ab <| bA [5] (.n 2 (.b false) .z) (qs lx 0 <| qs lx 0 <| qB k 0 rfl 1 (pt cL 0) (by kernel_rfl) <| qe) (by kernel_rfl) ?_
 refine aa <| aL ?_
 obtain rfl := Option.some.inj hm
 refine aM [.b false] qe (by kernel_rfl) ?_
 have k_ := ((((((k.pk .h).pk (.t .h)).pk (.t (.t (.t (.t .h))))).pk (.t (.t (.t (.t .h))))).pk (.t (.t (.t (.t .h))))).pk (.t (.t (.t (.t (.t (.t .h))))))).pk (.t (.t (.t (.t (.t (.t .h))))))
 exact ⟨bE, aD.length, bF, bS, aO.length, bT, cB, bg.length, cC, k_.len 1 rfl, k_.len 3 rfl, k_.len 4 rfl, rfl, k_⟩
theorem tD {F O : Nat → Prop} {w : World} (f : Nat) (Gn : Nat) (Pq : Fl f Gn) (k : Cx F O w w []) (r : Bool) (hm : ld f = some r) :
    Calls Try.prog 29 (ad [.v (.float .f64 Gn), I 1]) w (fun e w' => e = .returned (SV.val (.b r)) ∧ Cx F O w w' []) := by
 unfold ld at hm
 refine calls [.v (.float .f64 Gn), I 1] Try.func29 rfl (of_decide_eq_true (by kernel_rfl)) ?_
 refine ab <| bA [] .a qe (by kernel_rfl) ?_
 refine aa <| kS (fun L wr => ng f  = some r ∧ L = [(0, .v (.float .f64 Gn))] ∧ Cx F O w wr []) ?_ ?_
 ·
  refine ab <| bA [] (.n 6 (.b false) .a) qe (by kernel_rfl) ?_
  refine aa <| cw false (by kernel_rfl) (fun h => by cases h) (fun _ => ?_)
  refine ab <| bA [] (.n 10 (.b false) (.s (.k .z))) qe (by kernel_rfl) ?_
  refine aa <| cw false (by kernel_rfl) (fun h => by cases h) (fun _ => ?_)
  refine aS ?_
  exact iy ⟨hm, rfl, k⟩ (by kernel_rfl)
 rintro L_ w_ ⟨hm, rfl, k_⟩
 simp only [ng] at hm
 refine ab <| ao <| bn 1 [] (.n 13 (.v (.float .f64 Gn)) .z) qe (by kernel_rfl) ?_
 refine ag <| gG [] 14 (u := Gn) (v := 9218868437227405311) (by kernel_rfl) (.inr (.inr (.inr (.inr (.inl rfl))))) Pq (Fl.lit (c := 9218868437227405311) (by kernel_rfl)) ?_
 refine bn 1 [] (.n 4 (.b (cv .gtr f 9218868437227405311)) .z) qe (by kernel_rfl) ?_
 refine af <| aa <| aL ?_
 obtain rfl := Option.some.inj hm
 refine aM [.b (cv .gtr f 9218868437227405311)] qe (by kernel_rfl) ?_
 exact ⟨rfl, k_⟩
theorem yy {F O : Nat → Prop} {w : World} (weights : List UInt64) (jg : Option Addr) (ph : Nat) (jh : Nat) (sP : Ro F w jg (eF.all weights)) (wS : weights.length = ph) (Ae : ph ≤ jh) (k : Cx F O w w []) (r : (List Int × Nat × Int)) (hm : dL weights = some r) :
    Calls Try.prog 20 (ad [sl jg ph jh]) w (fun e w' => ∃ A n c fb, r.1.length = n ∧ Fl r.2.1 fb ∧ e = .returned (SV.val (.eO [sl A n c, .v (.float .f64 fb), I r.2.2])) ∧ Cx F O w w' [Ow eI A n c r.1]) := by
 unfold dL at hm
 subst wS
 refine calls [sl jg weights.length jh] Try.func20 rfl (of_decide_eq_true (by kernel_rfl)) ?_
 refine ab <| bA [] .a qe (by kernel_rfl) ?_
 refine aa <| ab <| ab <| bA [] (.n 12 (.b (decide (4096 < ((weights.length : Nat) : Int)))) .a) qe (by kernel_rfl) ?_
 refine aa <| bb (4096 < ((weights.length : Nat) : Int)) (by kernel_rfl) (fun hc => ?_) (fun hc => ?_)
 · rw [if_pos hc] at hm
   refine ab <| bA [] (.n 2 (sl none 0 0) (.n 3 (.v (.float .f64 0)) (.n 4 (I 2) .z))) qe (by kernel_rfl) ?_
   refine aa <| aL (bI ?_)
   have k_ := k.nil eI
   obtain rfl := Option.some.inj hm
   refine aM [sl none 0 0, .v (.float .f64 0), I 2] qe (by kernel_rfl) ?_
   exact ⟨none, 0, 0, 0, k_.len 0 rfl, (Fl.lit (c := 0) (by kernel_rfl)), rfl, k_⟩
 rw [if_neg hc] at hm
 refine aS <| aa <| ab <| bA [] (.n 5 (sl none 0 0) (.s .a)) qe (by kernel_rfl) ?_
 refine aa <| ab <| bA [] (.n 6 (.v (.float .f64 0)) (.n 7 (.b false) .a)) qe (by kernel_rfl) ?_
 refine aa <| ab <| ab <| bA [] (.n 13 (sl jg weights.length jh) (.n 14 (I ((weights.length : Nat) : Int)) (.n 15 (I 0) (.ua .z)))) qe (by kernel_rfl) ?_
 refine aa <| cu ?_
 have dF := k.nil eI
 refine pc (fO weights) (fun s L wr => ∃ (kH : List Int) (sum : Nat) (some_ : Bool) (aC : Int) (A0 : Option Addr) (n0 : Nat) (c0 : Nat) (sQ : Nat), (kH, sum, some_, aC) = s ∧ L = [(5, sl A0 n0 c0), (6, .v (.float .f64 sQ)), (7, .b some_), (13, sl jg weights.length jh), (14, I ((weights.length : Nat) : Int)), (15, I aC)] ∧ kH.length = n0 ∧ Fl sum sQ ∧ Cx F O w wr [Ow eI A0 n0 c0 kH]) (([] : List Int), 0, false, (0 : Int)) r hm ⟨([] : List Int), 0, false, (0 : Int), none, 0, 0, 0, rfl, rfl, dF.len 0 rfl, (Fl.lit (c := 0) (by kernel_rfl)), dF⟩ (by kernel_rfl) ?_
 intro yU L_ w_ y0 jd dd nF
 obtain ⟨kH, sum, some_, aC, A0, _, c0, sQ, rfl, rfl, rfl, yL, da⟩ := jd
 have hm := dd; simp only [fO] at hm
 clear dd
 refine ab <| bA [] (.n 16 (.b (decide (aC < ((weights.length : Nat) : Int)))) .a) qe (by kernel_rfl) ?_
 refine aa <| ab <| bb (aC < ((weights.length : Nat) : Int)) (by kernel_rfl) (fun kr => ?_) (fun kr => ?_)
 · rw [if_pos kr] at hm
   refine aS <| aa <| kS (fun L wr => ∃ (tx : List Int) (Ep : Nat) (wM : Bool) (A1 : Option Addr) (n1 : Nat) (c1 : Nat) (GM : Nat), jV aC tx Ep wM = some y0 ∧ L = [(5, sl A1 n1 c1), (6, .v (.float .f64 GM)), (7, .b wM), (13, sl jg weights.length jh), (14, I ((weights.length : Nat) : Int)), (15, I aC)] ∧ tx.length = n1 ∧ Fl Ep GM ∧ Cx F O w wr [Ow eI A1 n1 c1 tx]) ?_ ?_
   ·
    refine cu <| ab ?_
    obtain ⟨fg, jZ, hm⟩ := ob hm
    refine bA [] (.n 8 (I aC) (.n 9 (.v (.float .f64 fg.toNat)) (.s .a))) (qW (sP.cx da) jZ rfl (.v (.float .f64 fg.toNat)) rfl <| qe) (by kernel_rfl) ?_
    refine aa <| ab <| ab <| ao <| bn 2 [] (.n 20 (.v (.float .f64 fg.toNat)) (.n 21 (.v (.float .f64 fg.toNat)) .a)) qe (by kernel_rfl) ?_
    refine ag <| gG [] 22 (u := fg.toNat) (v := fg.toNat) (by kernel_rfl) (.inr (.inl rfl)) (Fl.u fg) (Fl.u fg) ?_
    refine bn 1 [] (.n 23 (.b (cv .neq (bW fg.toNat) (bW fg.toNat))) (.lj .a)) qe (by kernel_rfl) ?_
    refine my 23 (cv .neq (bW fg.toNat) (bW fg.toNat)) (.s .a) (by kernel_rfl) (fun hg => ?_) (fun hg => ?_)
    · rw [if_pos hg] at hm
      refine bn 3 [23] (.n 26 (.b true) (.s .a)) qe (by kernel_rfl) ?_
      refine af <| aa <| cw true (by kernel_rfl) (fun _ => ?_) (fun h => by cases h)
      refine ab <| bA [] (.n 2 (sl none 0 0) (.n 3 (.v (.float .f64 0)) (.n 4 (I 250) .z))) qe (by kernel_rfl) ?_
      refine aa <| aL (bI (gh (bI (bI (gh (bI ?_))))))
      have hm := d_ hm nF
      have en := da.nil eI
      obtain rfl := Option.some.inj hm
      refine aM [sl none 0 0, .v (.float .f64 0), I 250] qe (by kernel_rfl) ?_
      have eA := en.ck (.s (.k .e))
      exact ⟨none, 0, 0, 0, eA.len 0 rfl, (Fl.lit (c := 0) (by kernel_rfl)), rfl, eA⟩
    · rw [if_neg (by rw [hg]; decide)] at hm
      refine bn 1 [23] (.n 24 (.v (.float .f64 fg.toNat)) .a) qe (by kernel_rfl) ?_
      refine ag <| gG [23] 25 (u := fg.toNat) (v := 0) (by kernel_rfl) (.inr (.inr (.inl rfl))) (Fl.u fg) (Fl.lit (c := 0) (by kernel_rfl)) ?_
      refine bn 1 [23] (.n 26 (.b (cv .lss (bW fg.toNat) 0)) (.lj .a)) qe (by kernel_rfl) ?_
      refine af <| aa <| cw (cv .lss (bW fg.toNat) 0) (by kernel_rfl) (fun pf => ?_) (fun pf => ?_)
      · rw [if_pos pf] at hm
        refine ab <| bA [] (.n 2 (sl none 0 0) (.n 3 (.v (.float .f64 0)) (.n 4 (I 250) .z))) qe (by kernel_rfl) ?_
        refine aa <| aL (bI (gh (bI (bI (gh (bI ?_))))))
        have hm := d_ hm nF
        have fJ := da.nil eI
        obtain rfl := Option.some.inj hm
        refine aM [sl none 0 0, .v (.float .f64 0), I 250] qe (by kernel_rfl) ?_
        have gi := fJ.ck (.s (.k .e))
        exact ⟨none, 0, 0, 0, gi.len 0 rfl, (Fl.lit (c := 0) (by kernel_rfl)), rfl, gi⟩
      rw [if_neg (by rw [pf]; decide)] at hm
      refine aS <| aa <| ab <| ao <| bn 2 [] (.n 28 (.b some_) (.s .a)) qe (by kernel_rfl) ?_
      refine my 28 some_ (.s .a) (by kernel_rfl) (fun MR => ?_) (fun MR => ?_)
      · rw [if_pos MR] at hm
        refine bn 4 [28] (.n 7 (.b true) (.s (.aP (.s .a)))) qe (by kernel_rfl) ?_
        refine af <| aa <| kS (fun L wr => ∃ (uS : List Int) (A2 : Option Addr) (n2 : Nat) (c2 : Nat), jW sum aC fg uS = some y0 ∧ L = [(5, sl A2 n2 c2), (6, .v (.float .f64 sQ)), (7, .b true), (9, .v (.float .f64 fg.toNat)), (13, sl jg weights.length jh), (14, I ((weights.length : Nat) : Int)), (15, I aC)] ∧ uS.length = n2 ∧ Cx F O w wr [Ow eI A2 n2 c2 uS]) ?_ ?_
        ·
         refine ab <| ao <| bn 1 [] (.n 32 (.v (.float .f64 fg.toNat)) .a) qe (by kernel_rfl) ?_
         refine ag ?_
         obtain ⟨r_, dk, hm⟩ := ob hm
         refine aq [] 33 _ Cc (by kernel_rfl) (tD (F := N0) (O := N0) _ _ (Fl.u fg) (Cx.refl _) _ dk) ?_
         rintro e_ lh ⟨rfl, fY⟩
         have fZ := da.call fY
         refine ⟨.b r_, rfl, ?_⟩
         refine af <| aa <| cw r_ (by kernel_rfl) (fun ub => ?_) (fun ub => ?_)
         · rw [if_pos ub] at hm
           refine ao <| bn 2 [] (.n 34 (sl A0 kH.length c0) (.n 35 (I aC) (.ss (.k (.s .a))))) qe (by kernel_rfl) ?_
           refine ag <| E1 zf eI [] 36 ([aC] : List Int) [(0, I aC)] [I aC] (by kernel_rfl) (by kernel_rfl) (by kernel_rfl) fZ ?_
           intro A3 l4 gY
           refine ag ?_
           have dK := gY.ck (.kk .e)
           obtain ⟨Er, H0, hm⟩ := ob hm
           obtain ⟨hz, hl⟩ := kV H0
           refine jG (E := eI) (v := sl A3 1 1) (ys := ([aC] : List Int)) zf [] 37 0 (by kernel_rfl) dK rfl (Src.sl (dK.rd 1 rfl) (dK.len 1 rfl) (by rfl)) (dK.len 1 rfl) (by have := dK.len 0 rfl; have := (dK.len 1 rfl); omega) ?_
           intro A4 c3 qf c_
           rw [← hl] at c_
           have ez := c_.ck (.k .z)
           refine bn 1 [] (.n 5 (sl A4 (kH.length + 1) c3) (.fQ (.kk (.s .a)))) qe (by kernel_rfl) ?_
           refine af ?_
           exact iy ⟨Er, A4, kH.length + 1, c3, hm, rfl, ez.len 0 rfl, ez⟩ (by kernel_rfl)
         rw [if_neg (by rw [ub]; decide)] at hm
         refine aS ?_
         exact iy ⟨kH, A0, kH.length, c0, hm, rfl, fZ.len 0 rfl, fZ⟩ (by kernel_rfl)
        rintro L_ p7 ⟨uS, A2, _, c2, hm, rfl, rfl, dH⟩
        simp only [jW] at hm
        refine ao <| bn 2 [] (.n 38 (.v (.float .f64 sQ)) (.n 39 (.v (.float .f64 fg.toNat)) (.ua (.s .a)))) qe (by kernel_rfl) ?_
        refine ag <| ki [] 40 (u := sQ) (v := fg.toNat) (by kernel_rfl) (.inl rfl) yL (Fl.u fg) dH ?_
        intro Ja sV H2 eX
        refine bn 1 [] (.n 6 (.v (.float .f64 Ja)) (.lj (.k (.s .a)))) qe (by kernel_rfl) ?_
        refine af <| hH ?_
        exact iy ⟨uS, jO .add sum (bW fg.toNat), true, A2, uS.length, c2, Ja, hm, rfl, eX.len 0 rfl, H2, eX⟩ (by kernel_rfl)
      · rw [if_neg (by rw [MR]; decide)] at hm
        refine bn 1 [28] (.n 29 (.v (.float .f64 fg.toNat)) .a) qe (by kernel_rfl) ?_
        refine ag <| gG [28] 30 (u := fg.toNat) (v := 0) (by kernel_rfl) (.inr (.inr (.inr (.inr (.inl rfl))))) (Fl.u fg) (Fl.lit (c := 0) (by kernel_rfl)) ?_
        refine bn 2 [28] (.n 7 (.b (cv .gtr (bW fg.toNat) 0)) (.lj (.aP (.s .a)))) qe (by kernel_rfl) ?_
        refine af <| aa <| kS (fun L wr => ∃ (uT : List Int) (A5 : Option Addr) (n3 : Nat) (c4 : Nat), jX sum aC fg uT = some y0 ∧ L = [(5, sl A5 n3 c4), (6, .v (.float .f64 sQ)), (7, .b (cv .gtr (bW fg.toNat) 0)), (9, .v (.float .f64 fg.toNat)), (13, sl jg weights.length jh), (14, I ((weights.length : Nat) : Int)), (15, I aC)] ∧ uT.length = n3 ∧ Cx F O w wr [Ow eI A5 n3 c4 uT]) ?_ ?_
        ·
         refine ab <| ao <| bn 1 [] (.n 32 (.v (.float .f64 fg.toNat)) .a) qe (by kernel_rfl) ?_
         refine ag ?_
         obtain ⟨ah, dt, hm⟩ := ob hm
         refine aq [] 33 _ Cc (by kernel_rfl) (tD (F := N0) (O := N0) _ _ (Fl.u fg) (Cx.refl _) _ dt) ?_
         rintro e_ wi ⟨rfl, iu⟩
         have fX := da.call iu
         refine ⟨.b ah, rfl, ?_⟩
         refine af <| aa <| cw ah (by kernel_rfl) (fun w9 => ?_) (fun w9 => ?_)
         · rw [if_pos w9] at hm
           refine ao <| bn 2 [] (.n 34 (sl A0 kH.length c0) (.n 35 (I aC) (.ss (.k (.s .a))))) qe (by kernel_rfl) ?_
           refine ag ?_
           have jY := fX.ck (.k .e)
           refine E1 zf eI [] 36 ([aC] : List Int) [(0, I aC)] [I aC] (by kernel_rfl) (by kernel_rfl) (by kernel_rfl) jY ?_
           intro A6 vO iK
           refine ag ?_
           obtain ⟨Et, H3, hm⟩ := ob hm
           obtain ⟨Lk, FI⟩ := kV H3
           refine jG (E := eI) (v := sl A6 1 1) (ys := ([aC] : List Int)) zf [] 37 0 (by kernel_rfl) iK rfl (Src.sl (iK.rd 1 rfl) (iK.len 1 rfl) (by rfl)) (iK.len 1 rfl) (by have := iK.len 0 rfl; have := (iK.len 1 rfl); omega) ?_
           intro A7 c5 Av kt
           rw [← FI] at kt
           have kg := kt.ck (.k .z)
           refine bn 1 [] (.n 5 (sl A7 (kH.length + 1) c5) (.fQ (.kk (.s .a)))) qe (by kernel_rfl) ?_
           refine af ?_
           exact iy ⟨Et, A7, kH.length + 1, c5, hm, rfl, kg.len 0 rfl, kg⟩ (by kernel_rfl)
         rw [if_neg (by rw [w9]; decide)] at hm
         refine aS ?_
         exact iy ⟨kH, A0, kH.length, c0, hm, rfl, fX.len 0 rfl, fX⟩ (by kernel_rfl)
        rintro L_ De ⟨uT, A5, _, c4, hm, rfl, rfl, lW⟩
        simp only [jX] at hm
        refine ao <| bn 2 [] (.n 38 (.v (.float .f64 sQ)) (.n 39 (.v (.float .f64 fg.toNat)) (.ua (.s .a)))) qe (by kernel_rfl) ?_
        refine ag <| ki [] 40 (u := sQ) (v := fg.toNat) (by kernel_rfl) (.inl rfl) yL (Fl.u fg) lW ?_
        intro H4 z6 H5 mh
        refine bn 1 [] (.n 6 (.v (.float .f64 H4)) (.lj (.k (.s .a)))) qe (by kernel_rfl) ?_
        refine af <| hH ?_
        exact iy ⟨uT, jO .add sum (bW fg.toNat), cv .gtr (bW fg.toNat) 0, A5, uT.length, c4, H4, hm, rfl, mh.len 0 rfl, H5, mh⟩ (by kernel_rfl)
   rintro L_ Ch ⟨tx, Ep, wM, A1, _, c1, GM, hm, rfl, rfl, H6, mo⟩
   simp only [jV] at hm
   refine bA [] (.n 15 (I (aB (aC + 1))) (.aP (.k .z))) qe (by kernel_rfl) ?_
   exact jR (tx, Ep, wM, aB (aC + 1)) (Option.some.inj hm).symm ⟨tx, Ep, wM, aB (aC + 1), A1, tx.length, c1, GM, rfl, rfl, mo.len 0 rfl, H6, mo⟩ (by kernel_rfl)
 rw [if_neg kr] at hm
 refine iq (fe (fe (kG ?_)))
 have hm := d_ hm nF
 refine aa <| ab <| cu <| ab <| bA [] (.n 42 (.b (!some_)) (.s (.kk .z))) qe (by kernel_rfl) ?_
 refine aa <| cw (!some_) (by kernel_rfl) (fun uc => ?_) (fun uc => ?_)
 · rw [if_pos uc] at hm
   refine ab <| bA [] (.n 2 (sl none 0 0) (.n 3 (.v (.float .f64 0)) (.n 4 (I 251) .z))) qe (by kernel_rfl) ?_
   refine aa <| aL (gh (bI ?_))
   have lX := da.nil eI
   obtain rfl := Option.some.inj hm
   refine aM [sl none 0 0, .v (.float .f64 0), I 251] qe (by kernel_rfl) ?_
   have qZ := lX.ck (.s (.k .e))
   exact ⟨none, 0, 0, 0, qZ.len 0 rfl, (Fl.lit (c := 0) (by kernel_rfl)), rfl, qZ⟩
 rw [if_neg (by rw [uc]; decide)] at hm
 refine ab <| ao <| bn 4 [] (.n 49 (.b (decide (((kH.length : Nat) : Int) = 0))) (.s .a)) qe (by kernel_rfl) ?_
 refine my 49 (decide (((kH.length : Nat) : Int) = 0)) (.s .a) (by kernel_rfl) (fun MS => ?_) (fun MS => ?_)
 · rw [if_pos (of_decide_eq_true MS)] at hm
   refine bn 1 [49] (.n 50 (.v (.float .f64 sQ)) .a) qe (by kernel_rfl) ?_
   refine ag ?_
   obtain ⟨bh, gX, hm⟩ := ob hm
   refine aq [49] 51 _ Cc (by kernel_rfl) (tD (F := N0) (O := N0) _ _ yL (Cx.refl _) _ gX) ?_
   rintro e_ Dg ⟨rfl, rT⟩
   have vP := da.call rT
   refine ⟨.b bh, rfl, ?_⟩
   refine bn 2 [49] (.n 45 (.b bh) (.lj .a)) qe (by kernel_rfl) ?_
   refine af <| aa <| cw bh (by kernel_rfl) (fun ud => ?_) (fun ud => ?_)
   · rw [if_pos ud] at hm
     refine ab <| bA [] (.n 2 (sl none 0 0) (.n 3 (.v (.float .f64 0)) (.n 4 (I 250) .z))) qe (by kernel_rfl) ?_
     refine aa <| aL (gh (bI ?_))
     have tB := vP.nil eI
     obtain rfl := Option.some.inj hm
     refine aM [sl none 0 0, .v (.float .f64 0), I 250] qe (by kernel_rfl) ?_
     have vQ := tB.ck (.s (.k .e))
     exact ⟨none, 0, 0, 0, vQ.len 0 rfl, (Fl.lit (c := 0) (by kernel_rfl)), rfl, vQ⟩
   rw [if_neg (by rw [ud]; decide)] at hm
   refine aS <| hH <| aa <| ab <| bA [] (.n 2 (sl A0 kH.length c0) (.n 3 (.v (.float .f64 sQ)) (.n 4 (I 0) .z))) qe (by kernel_rfl) ?_
   refine aa <| aL ?_
   obtain rfl := Option.some.inj hm
   refine aM [sl A0 kH.length c0, .v (.float .f64 sQ), I 0] qe (by kernel_rfl) ?_
   exact ⟨A0, kH.length, c0, sQ, vP.len 0 rfl, yL, rfl, vP⟩
 · rw [if_neg (of_decide_eq_false MS)] at hm
   refine bn 4 [49] (.n 45 (.b false) (.s .a)) qe (by kernel_rfl) ?_
   refine af <| aa <| cw false (by kernel_rfl) (fun h => by cases h) (fun _ => ?_)
   refine aS <| hH <| aa <| ab <| bA [] (.n 2 (sl A0 kH.length c0) (.n 3 (.v (.float .f64 sQ)) (.n 4 (I 0) .z))) qe (by kernel_rfl) ?_
   refine aa <| aL ?_
   obtain rfl := Option.some.inj hm
   refine aM [sl A0 kH.length c0, .v (.float .f64 sQ), I 0] qe (by kernel_rfl) ?_
   exact ⟨A0, kH.length, c0, sQ, da.len 0 rfl, yL, rfl, da⟩
theorem nD {F O : Nat → Prop} {w : World} (cE : List UInt8) (bd : List UInt8) (ai : List UInt8) (b6 : Int) (bf : Int) (bo : List UInt8) (cm : List UInt8) (b7 : Bool) (aU : UInt64) (cF : ae UInt64 8) (aw : UInt64) (ax : UInt64) (a7 : List UInt8) (aV : Int) (ir : UInt64) (ei : ae UInt8 64) (dr : Int) (a6 : Nat) (cG : Option Addr) (di : Nat) (cH : Nat) (bL : Option Addr) (cg : Nat) (bM : Nat) (aH : Option Addr) (aX : Nat) (aI : Nat) (ee : Nat) (cO : Option Addr) (dw : Nat) (cP : Nat) (dW : Option Addr) (eE : Nat) (dX : Nat) (cI : Nat) (cp : Option Addr) (cQ : Nat) (cq : Nat) (jK : Ro F w cG (e8.all cE)) (iN : cE.length = di) (h_ : di ≤ cH) (gw : Ro F w bL (e8.all bd)) (gp : bd.length = cg) (fF : cg ≤ bM) (dE : Ro F w aH (e8.all ai)) (dN : ai.length = aX) (dj : aX ≤ aI) (k : Cx F O w w [Bx 72 a6 [I 1, I 64, .u32 4294967295, .u64 274877906944, .b false, sl cG di cH, sl bL cg bM, sl aH aX aI, pt ee 0, sl none 0 0, .u64 ir, .ar e8 ei, I dr, .v (.func (.func 40) ⟨SV.ad [pt a6 0]⟩ ⟨SV.ad []⟩)], Bx 115 ee [I b6, I bf, sl cO dw cP, sl dW eE dX, .b b7, .u64 aU, .v (.iface 126 (SV.val (pt cI 0)))], Ow e8 cO dw cP bo, Ow e8 dW eE dX cm, Bx 132 cI [.ar cj cF, .u64 aw, .u64 ax, sl cp cQ cq, I aV, .v (.func (.func 73) ⟨SV.ad []⟩ ⟨SV.ad []⟩), .v (.func (.func 74) ⟨SV.ad []⟩ ⟨SV.ad []⟩)], Ow e8 cp cQ cq a7]) (r : (ae UInt64 8 × UInt64 × UInt64 × List UInt8 × Int × Int × Int × List UInt8 × List UInt8 × Bool × UInt64 × UInt64 × ae UInt8 64 × Int)) (hm : gA cE bd ai b6 bf bo cm b7 aU cF aw ax a7 aV ir ei dr = some r) :
    Calls Try.prog 35 (ad [pt a6 0]) w (fun e w' => ∃ A n c A1 n1 c1 A2 n2 c2, r.2.2.2.1.length = n ∧ r.2.2.2.2.2.2.2.1.length = n1 ∧ r.2.2.2.2.2.2.2.2.1.length = n2 ∧ e = .returned (SV.val (.b false)) ∧ Cx F O w w' [Bx 132 cI [.ar cj r.1, .u64 r.2.1, .u64 r.2.2.1, sl A n c, I r.2.2.2.2.1, .v (.func (.func 73) ⟨SV.ad []⟩ ⟨SV.ad []⟩), .v (.func (.func 74) ⟨SV.ad []⟩ ⟨SV.ad []⟩)], Ow e8 A n c r.2.2.2.1, Bx 115 ee [I r.2.2.2.2.2.1, I r.2.2.2.2.2.2.1, sl A1 n1 c1, sl A2 n2 c2, .b r.2.2.2.2.2.2.2.2.2.1, .u64 r.2.2.2.2.2.2.2.2.2.2.1, .v (.iface 126 (SV.val (pt cI 0)))], Ow e8 A1 n1 c1 r.2.2.2.2.2.2.2.1, Ow e8 A2 n2 c2 r.2.2.2.2.2.2.2.2.1, Bx 72 a6 [I 1, I 64, .u32 4294967295, .u64 274877906944, .b false, sl cG di cH, sl bL cg bM, sl aH aX aI, pt ee 0, sl none 0 0, .u64 r.2.2.2.2.2.2.2.2.2.2.2.1, .ar e8 r.2.2.2.2.2.2.2.2.2.2.2.2.1, I r.2.2.2.2.2.2.2.2.2.2.2.2.2, .v (.func (.func 40) ⟨SV.ad [pt a6 0]⟩ ⟨SV.ad []⟩)]]) := by
 unfold gA at hm
 subst iN
 subst gp
 subst dN
 obtain rfl := k.len 2 rfl
 obtain rfl := k.len 3 rfl
 obtain rfl := k.len 5 rfl
 refine calls [pt a6 0] Try.func35 rfl (of_decide_eq_true (by kernel_rfl)) ?_
 refine ab <| bA [] .a qe (by kernel_rfl) ?_
 refine aa <| ab <| bA [5] (.n 2 (.b false) .z) (qs a6 0 <| qs a6 0 <| qB k 0 rfl 76 (.v (.func (.func 40) ⟨SV.ad [pt a6 0]⟩ ⟨SV.ad []⟩)) (by kernel_rfl) <| qe) (by kernel_rfl) ?_
 refine aa <| aL ?_
 obtain rfl := Option.some.inj hm
 refine aM [.b false] qe (by kernel_rfl) ?_
 have k_ := (((((k.pk .h).pk (.t (.t (.t .h)))).pk (.t (.t (.t .h)))).pk (.t (.t (.t .h)))).pk (.t (.t (.t (.t (.t .h)))))).pk (.t (.t (.t (.t (.t .h)))))
 exact ⟨cp, a7.length, cq, cO, bo.length, cP, dW, cm.length, dX, k_.len 1 rfl, k_.len 3 rfl, k_.len 4 rfl, rfl, k_⟩
theorem sR {F O : Nat → Prop} {w : World} (fj : Int) (eg : Int) (cy : List UInt8) (dD : List UInt8) (iZ : Bool) (ed : UInt64) (ml : ae UInt64 8) (dm : UInt64) (dq : UInt64) (fx : List UInt8) (fc : Int) (jc : Nat) (eR : Option Addr) (hZ : Nat) (eU : Nat) (fU : Option Addr) (la : Nat) (fV : Nat) (iO : Nat) (gD : Option Addr) (iP : Nat) (gE : Nat) (k : Cx F O w w [Bx 115 jc [I fj, I eg, sl eR hZ eU, sl fU la fV, .b iZ, .u64 ed, .v (.iface 126 (SV.val (pt iO 0)))], Ow e8 eR hZ eU cy, Ow e8 fU la fV dD, Bx 132 iO [.ar cj ml, .u64 dm, .u64 dq, sl gD iP gE, I fc, .v (.func (.func 73) ⟨SV.ad []⟩ ⟨SV.ad []⟩), .v (.func (.func 74) ⟨SV.ad []⟩ ⟨SV.ad []⟩)], Ow e8 gD iP gE fx]) (r : (ae UInt64 8 × UInt64 × UInt64 × List UInt8 × Int × Int × Int × List UInt8 × List UInt8 × Bool × UInt64)) (hm : je fj eg cy dD iZ ed ml dm dq fx fc = some r) :
    Calls Try.prog 64 (ad [pt jc 0]) w (fun e w' => ∃ A n c A1 n1 c1 A2 n2 c2, r.2.2.2.1.length = n ∧ r.2.2.2.2.2.2.2.1.length = n1 ∧ r.2.2.2.2.2.2.2.2.1.length = n2 ∧ e = .returned (SV.val (.b false)) ∧ Cx F O w w' [Bx 132 iO [.ar cj r.1, .u64 r.2.1, .u64 r.2.2.1, sl A n c, I r.2.2.2.2.1, .v (.func (.func 73) ⟨SV.ad []⟩ ⟨SV.ad []⟩), .v (.func (.func 74) ⟨SV.ad []⟩ ⟨SV.ad []⟩)], Ow e8 A n c r.2.2.2.1, Bx 115 jc [I r.2.2.2.2.2.1, I r.2.2.2.2.2.2.1, sl A1 n1 c1, sl A2 n2 c2, .b r.2.2.2.2.2.2.2.2.2.1, .u64 r.2.2.2.2.2.2.2.2.2.2, .v (.iface 126 (SV.val (pt iO 0)))], Ow e8 A1 n1 c1 r.2.2.2.2.2.2.2.1, Ow e8 A2 n2 c2 r.2.2.2.2.2.2.2.2.1]) := by
 unfold je at hm
 obtain rfl := k.len 1 rfl
 obtain rfl := k.len 2 rfl
 obtain rfl := k.len 4 rfl
 refine calls [pt jc 0] Try.func64 rfl (of_decide_eq_true (by kernel_rfl)) ?_
 refine ab <| bA [] .a qe (by kernel_rfl) ?_
 refine aa <| ab <| bA [5] (.n 2 (.b false) .z) (qs jc 0 <| qs jc 0 <| qB k 0 rfl 6 (.v (.iface 126 (SV.val (pt iO 0)))) (by kernel_rfl) <| qe) (by kernel_rfl) ?_
 refine aa <| aL ?_
 obtain rfl := Option.some.inj hm
 refine aM [.b false] qe (by kernel_rfl) ?_
 have k_ := ((((k.pk (.t (.t .h))).pk (.t (.t .h))).pk (.t (.t .h))).pk (.t (.t (.t (.t .h))))).pk (.t (.t (.t (.t .h))))
 exact ⟨gD, fx.length, gE, eR, cy.length, eU, fU, dD.length, fV, k_.len 1 rfl, k_.len 3 rfl, k_.len 4 rfl, rfl, k_⟩
theorem sw {F O : Nat → Prop} {w : World} (qU : ae UInt64 8) (bC : UInt64) (bD : UInt64) (cA : List UInt8) (aA : Int) (a6 : Nat) (dA : Option Addr) (k9 : Nat) (dB : Nat) (k : Cx F O w w [Bx 132 a6 [.ar cj qU, .u64 bC, .u64 bD, sl dA k9 dB, I aA, .v (.func (.func 73) ⟨SV.ad []⟩ ⟨SV.ad []⟩), .v (.func (.func 74) ⟨SV.ad []⟩ ⟨SV.ad []⟩)], Ow e8 dA k9 dB cA]) (r : (ae UInt64 8 × UInt64 × UInt64 × List UInt8 × Int × ae UInt64 8 × UInt64 × UInt64 × List UInt8 × Int)) (hm : gR qU bC bD cA aA = some r) :
    Calls Try.prog 115 (ad [pt a6 0]) w (fun e w' => ∃ g A n c A1 n1 c1, r.2.2.2.1.length = n ∧ r.2.2.2.2.2.2.2.2.1.length = n1 ∧ e = .returned (SV.val (.v (.iface 126 (SV.val (pt g 0))))) ∧ Cx F O w w' [Bx 132 g [.ar cj r.1, .u64 r.2.1, .u64 r.2.2.1, sl A n c, I r.2.2.2.2.1, .v (.func (.func 73) ⟨SV.ad []⟩ ⟨SV.ad []⟩), .v (.func (.func 74) ⟨SV.ad []⟩ ⟨SV.ad []⟩)], Ow e8 A n c r.2.2.2.1, Bx 132 a6 [.ar cj r.2.2.2.2.2.1, .u64 r.2.2.2.2.2.2.1, .u64 r.2.2.2.2.2.2.2.1, sl A1 n1 c1, I r.2.2.2.2.2.2.2.2.2, .v (.func (.func 73) ⟨SV.ad []⟩ ⟨SV.ad []⟩), .v (.func (.func 74) ⟨SV.ad []⟩ ⟨SV.ad []⟩)], Ow e8 A1 n1 c1 r.2.2.2.2.2.2.2.2.1]) := by
 unfold gR at hm
 obtain rfl := k.len 1 rfl
 refine calls [pt a6 0] Try.func115 rfl (of_decide_eq_true (by kernel_rfl)) ?_
 refine ab <| bA [] .a qe (by kernel_rfl) ?_
 refine aa <| ab <| ao <| bn 3 [] (.n 6 (.agg [.ar cj qU, .u64 bC, .u64 bD, sl dA cA.length dB, I aA, .v (.func (.func 73) ⟨SV.ad []⟩ ⟨SV.ad []⟩), .v (.func (.func 74) ⟨SV.ad []⟩ ⟨SV.ad []⟩)]) .a) (qs a6 0 <| qT k 0 rfl 0 14 [.ar cj qU, .u64 bC, .u64 bD, sl dA cA.length dB, I aA, .v (.func (.func 73) ⟨SV.ad []⟩ ⟨SV.ad []⟩), .v (.func (.func 74) ⟨SV.ad []⟩ ⟨SV.ad []⟩)] (by kernel_rfl) (by decide) <| qe) (by kernel_rfl) ?_
 refine ag <| bY [] 3 [.ar cj (ae.rep 8 (0 : UInt64)), .u64 0, .u64 0, sl none 0 0, I 0, .v .nilFunc, .v .nilFunc] (by kernel_rfl) k ?_
 intro g0 w_ k_
 refine ag <| ey [] 2 (.agg [.ar cj qU, .u64 bC, .u64 bD, sl dA cA.length dB, I aA, .v (.func (.func 73) ⟨SV.ad []⟩ ⟨SV.ad []⟩), .v (.func (.func 74) ⟨SV.ad []⟩ ⟨SV.ad []⟩)]) [.ar cj qU, .u64 bC, .u64 bD, sl dA cA.length dB, I aA, .v (.func (.func 73) ⟨SV.ad []⟩ ⟨SV.ad []⟩), .v (.func (.func 74) ⟨SV.ad []⟩ ⟨SV.ad []⟩)] (Pt.at g0 0) k_ rfl .all (by kernel_rfl) (by kernel_rfl) ?_
 intro lh da
 refine af <| aa <| ab ?_
 have dF := da.drew 1
 refine qy bw (.q 0 2 (.q 1 2 (.q 2 1 (.q 3 0 (.q 5 2 (.q 6 2 (.q 7 1 (.q 8 1 (.op 4 (.op 9 (.q 10 2 (.op 11 .nil)))))))))))) [4, 9, 11] dF (.c (.kk (.k .e)) (.c (.kk (.k .e)) (.c (.kk .z) .l))) (by kernel_rfl) (fun _ => ?_)
 refine bx 2 2 [] (.n 8 (pt a6 0) (.k (.s .a))) (fun x hx => qs a6 0 <| qe) (by kernel_rfl) (fun _ => ?_)
 refine bx 1 1 [] (.n 9 (pt a6 11) (.s .a)) (fun x hx => qs a6 0 <| qe) (by kernel_rfl) (fun _ => ?_)
 refine bx 1 0 [] (.n 10 (I aA) (.s .a)) (fun x hx => qB hx 0 rfl 11 (I aA) (by kernel_rfl) <| qe) (by kernel_rfl) (fun _ => ?_)
 refine bx 2 2 [] (.n 13 (pt a6 0) (.kk .z)) (fun x hx => qs a6 0 <| qe) (by kernel_rfl) (fun _ => ?_)
 refine bx 2 1 [] (.n 15 (sl dA cA.length dB) (.s .a)) (fun x hx => qs a6 0 <| qB hx 0 rfl 10 (sl dA cA.length dB) (by kernel_rfl) <| qe) (by kernel_rfl) (fun _ => ?_)
 refine bZ (by kernel_rfl) rfl ?_
 obtain ⟨u, yq, hm⟩ := ob hm
 refine vj im e8 (0 : UInt8) rfl [] 11 (I 0) (I aA) (0 : Int) aA (by kernel_rfl) (fL yq).1 (fL yq).2.1 (fL yq).2.2 dF ?_
 intro A0 l4 en
 refine ⟨(en.ck (.kk (.k .z))), fun _ => ?_⟩
 refine bZ (by kernel_rfl) rfl ?_
 obtain ⟨b, qu, hm⟩ := ob hm
 obtain ⟨hz, hl⟩ := kV qu
 refine jG (E := e8) (v := sl dA cA.length dB) (ys := cA) im [] 16 3 (by kernel_rfl) en rfl (Src.sl (en.rd 1 rfl) (en.len 1 rfl) (by rfl)) (en.len 1 rfl) (by have := en.len 3 rfl; have := (en.len 1 rfl); omega) ?_
 intro A2 c0 qf eA
 rw [← hl] at eA
 refine ⟨(eA.ck (.kk (.k .z))), fun _ => ?_⟩
 refine bx 1 2 [] (.n 17 (pt g0 10) (.k (.lj .a))) (fun x hx => qs g0 0 <| qe) (by kernel_rfl) (fun _ => ?_)
 refine bZ (by kernel_rfl) rfl ?_
 have fJ := eA.ck (.aP .e)
 refine ey [] 2 (sl A2 (Int.toNat (0 : Int) + cA.length) c0) [sl A2 (Int.toNat (0 : Int) + cA.length) c0] (Pt.at g0 10) fJ rfl (.kk (.k .h)) (by kernel_rfl) (by kernel_rfl) ?_
 intro p7 gi
 refine ⟨(gi.ck (.kk .z)), fun _ => ?_⟩
 refine ct <| aa <| ab <| bA [] (.n 2 (.v (.iface 126 (SV.val (pt g0 0)))) .z) qe (by kernel_rfl) ?_
 refine aa <| aL ?_
 obtain rfl := Option.some.inj hm
 refine aM [.v (.iface 126 (SV.val (pt g0 0)))] qe (by kernel_rfl) ?_
 have fY := (((gi.pk (.t .h)).pk (.t .h)).pk (.t (.t (.t .h)))).pk (.t (.t (.t .h)))
 exact ⟨g0, A2, Int.toNat (0 : Int) + cA.length, c0, dA, cA.length, dB, fY.len 1 rfl, fY.len 3 rfl, rfl, fY⟩
theorem yz {F O : Nat → Prop} {w : World} (fj : Int) (eg : Int) (cy : List UInt8) (dD : List UInt8) (iZ : Bool) (ed : UInt64) (ml : ae UInt64 8) (dm : UInt64) (dq : UInt64) (fx : List UInt8) (fc : Int) (jc : Nat) (eR : Option Addr) (hZ : Nat) (eU : Nat) (fU : Option Addr) (la : Nat) (fV : Nat) (iO : Nat) (gD : Option Addr) (iP : Nat) (gE : Nat) (k : Cx F O w w [Bx 115 jc [I fj, I eg, sl eR hZ eU, sl fU la fV, .b iZ, .u64 ed, .v (.iface 126 (SV.val (pt iO 0)))], Ow e8 eR hZ eU cy, Ow e8 fU la fV dD, Bx 132 iO [.ar cj ml, .u64 dm, .u64 dq, sl gD iP gE, I fc, .v (.func (.func 73) ⟨SV.ad []⟩ ⟨SV.ad []⟩), .v (.func (.func 74) ⟨SV.ad []⟩ ⟨SV.ad []⟩)], Ow e8 gD iP gE fx]) (r : (Int × Int × List UInt8 × List UInt8 × Bool × UInt64 × ae UInt64 8 × UInt64 × UInt64 × List UInt8 × Int × ae UInt64 8 × UInt64 × UInt64 × List UInt8 × Int × Int × Int × Bool × UInt64)) (hm : lC fj eg cy dD iZ ed ml dm dq fx fc = some r) :
    Calls Try.prog 55 (ad [pt jc 0]) w (fun e w' => ∃ g A n c A1 n1 c1 g1 A2 n2 c2 A3 n3 c3, r.2.2.1.length = n ∧ r.2.2.2.1.length = n1 ∧ r.2.2.2.2.2.2.2.2.2.1.length = n2 ∧ r.2.2.2.2.2.2.2.2.2.2.2.2.2.2.1.length = n3 ∧ e = .returned (SV.val (pt g 0)) ∧ Cx F O w w' [Bx 115 g [I r.1, I r.2.1, sl A n c, sl A1 n1 c1, .b r.2.2.2.2.1, .u64 r.2.2.2.2.2.1, .v (.iface 126 (SV.val (pt g1 0)))], Ow e8 A n c r.2.2.1, Ow e8 A1 n1 c1 r.2.2.2.1, Bx 132 g1 [.ar cj r.2.2.2.2.2.2.1, .u64 r.2.2.2.2.2.2.2.1, .u64 r.2.2.2.2.2.2.2.2.1, sl A2 n2 c2, I r.2.2.2.2.2.2.2.2.2.2.1, .v (.func (.func 73) ⟨SV.ad []⟩ ⟨SV.ad []⟩), .v (.func (.func 74) ⟨SV.ad []⟩ ⟨SV.ad []⟩)], Ow e8 A2 n2 c2 r.2.2.2.2.2.2.2.2.2.1, Bx 132 iO [.ar cj r.2.2.2.2.2.2.2.2.2.2.2.1, .u64 r.2.2.2.2.2.2.2.2.2.2.2.2.1, .u64 r.2.2.2.2.2.2.2.2.2.2.2.2.2.1, sl A3 n3 c3, I r.2.2.2.2.2.2.2.2.2.2.2.2.2.2.2.1, .v (.func (.func 73) ⟨SV.ad []⟩ ⟨SV.ad []⟩), .v (.func (.func 74) ⟨SV.ad []⟩ ⟨SV.ad []⟩)], Ow e8 A3 n3 c3 r.2.2.2.2.2.2.2.2.2.2.2.2.2.2.1, Bx 115 jc [I r.2.2.2.2.2.2.2.2.2.2.2.2.2.2.2.2.1, I r.2.2.2.2.2.2.2.2.2.2.2.2.2.2.2.2.2.1, sl A n c, sl A1 n1 c1, .b r.2.2.2.2.2.2.2.2.2.2.2.2.2.2.2.2.2.2.1, .u64 r.2.2.2.2.2.2.2.2.2.2.2.2.2.2.2.2.2.2.2, .v (.iface 126 (SV.val (pt iO 0)))]]) := by
 unfold lC at hm
 obtain rfl := k.len 1 rfl
 obtain rfl := k.len 2 rfl
 obtain rfl := k.len 4 rfl
 refine calls [pt jc 0] Try.func55 rfl (of_decide_eq_true (by kernel_rfl)) ?_
 refine ab <| bA [] .a qe (by kernel_rfl) ?_
 refine aa <| ab <| ab <| ao <| bn 1 [] (.n 4 (pt jc 0) .a) qe (by kernel_rfl) ?_
 refine ag ?_
 obtain ⟨r_, dk, hm⟩ := ob hm
 obtain ⟨F1, O1, lO, hO, rO, hF, hb⟩ := k.go (.i (.i (.i (.i (.i .e)))))
 refine aq [] 5 _ Ce (by kernel_rfl) (sR (F := F1) (O := O1) _ _ _ _ _ _ _ _ _ _ _ _ _ _ _ _ _ _ _ _ _ _ lO _ dk) ?_
 rintro e_ w_ ⟨A0, _, c0, A4, _, c4, A5, _, c5, rfl, rfl, rfl, rfl, k_⟩
 have da := hb w_ _ _ k_ (.c (.c (.c (.c (.c .n)))))
 refine ⟨.b false, rfl, ?_⟩
 refine af <| aa <| cw false (by kernel_rfl) (fun h => by cases h) (fun _ => ?_)
 refine aS <| aa <| ab <| ao <| bn 3 [] (.n 8 (.agg [I r_.2.2.2.2.2.1, I r_.2.2.2.2.2.2.1, sl A4 r_.2.2.2.2.2.2.2.1.length c4, sl A5 r_.2.2.2.2.2.2.2.2.1.length c5, .b r_.2.2.2.2.2.2.2.2.2.1, .u64 r_.2.2.2.2.2.2.2.2.2.2, .v (.iface 126 (SV.val (pt iO 0)))]) (.ss .a)) (qs jc 0 <| qT da 2 rfl 0 7 [I r_.2.2.2.2.2.1, I r_.2.2.2.2.2.2.1, sl A4 r_.2.2.2.2.2.2.2.1.length c4, sl A5 r_.2.2.2.2.2.2.2.2.1.length c5, .b r_.2.2.2.2.2.2.2.2.2.1, .u64 r_.2.2.2.2.2.2.2.2.2.2, .v (.iface 126 (SV.val (pt iO 0)))] (by kernel_rfl) (by decide) <| qe) (by kernel_rfl) ?_
 refine ag <| bY [] 3 [I 0, I 0, sl none 0 0, sl none 0 0, .b false, .u64 0, .v .nilIface] (by kernel_rfl) da ?_
 intro g0 lh dF
 refine ag <| ey [] 5 (.agg [I r_.2.2.2.2.2.1, I r_.2.2.2.2.2.2.1, sl A4 r_.2.2.2.2.2.2.2.1.length c4, sl A5 r_.2.2.2.2.2.2.2.2.1.length c5, .b r_.2.2.2.2.2.2.2.2.2.1, .u64 r_.2.2.2.2.2.2.2.2.2.2, .v (.iface 126 (SV.val (pt iO 0)))]) [I r_.2.2.2.2.2.1, I r_.2.2.2.2.2.2.1, sl A4 r_.2.2.2.2.2.2.2.1.length c4, sl A5 r_.2.2.2.2.2.2.2.2.1.length c5, .b r_.2.2.2.2.2.2.2.2.2.1, .u64 r_.2.2.2.2.2.2.2.2.2.2, .v (.iface 126 (SV.val (pt iO 0)))] (Pt.at g0 0) dF rfl .all (by kernel_rfl) (by kernel_rfl) ?_
 intro l4 en
 refine af <| aa <| ab <| ao <| bn 4 [] (.n 12 (.v (.iface 126 (SV.val (pt iO 0)))) (.k .z)) (qs jc 0 <| qs jc 0 <| qB en 2 rfl 6 (.v (.iface 126 (SV.val (pt iO 0)))) (by kernel_rfl) <| qe) (by kernel_rfl) ?_
 refine ag ?_
 obtain ⟨ah, dt, hm⟩ := ob hm
 obtain ⟨xD, xE, ni, FJ, tE, rP, xa⟩ := en.go (.i (.i (.r (.r (.r (.r .e))))))
 refine o_ [] 13 126 (pt iO 0) [] uU rfl (by kernel_rfl) (sw (F := xD) (O := xE) _ _ _ _ _ _ _ _ _ ni _ dt) ?_
 rintro e_ qf ⟨g2, A6, _, c6, A7, _, c7, rfl, rfl, rfl, eA⟩
 have fJ := xa qf _ _ eA (.c (.c (.c (.c .n))))
 refine ⟨.v (.iface 126 (SV.val (pt g2 0))), rfl, ?_⟩
 refine bn 1 [] (.n 14 (pt g0 6) (.k (.s .a))) (qs g0 0 <| qe) (by kernel_rfl) ?_
 refine ag ?_
 have gi := fJ.ck (.aP (.aP .e))
 refine ey [] 7 (.v (.iface 126 (SV.val (pt g2 0)))) [.v (.iface 126 (SV.val (pt g2 0)))] (Pt.at g0 6) gi rfl (.aP (.kk .h)) (by kernel_rfl) (by kernel_rfl) ?_
 intro p7 fY
 refine af <| aa <| ab <| bA [] (.n 2 (pt g0 0) .z) qe (by kernel_rfl) ?_
 refine aa <| aL ?_
 obtain rfl := Option.some.inj hm
 refine aM [pt g0 0] qe (by kernel_rfl) ?_
 have fZ := (((((((fY.pk (.t (.t (.t (.t .h))))).pk (.t (.t (.t (.t .h))))).pk (.t (.t (.t (.t .h))))).pk (.t (.t (.t (.t .h))))).pk (.t (.t (.t (.t .h))))).pk (.t (.t (.t (.t (.t (.t .h))))))).pk (.t (.t (.t (.t (.t (.t .h))))))).pk (.t (.t (.t (.t (.t (.t (.t .h)))))))
 exact ⟨g0, A4, r_.2.2.2.2.2.2.2.1.length, c4, A5, r_.2.2.2.2.2.2.2.2.1.length, c5, g2, A6, ah.2.2.2.1.length, c6, A7, ah.2.2.2.2.2.2.2.2.1.length, c7, fZ.len 1 rfl, fZ.len 2 rfl, fZ.len 4 rfl, fZ.len 6 rfl, rfl, fZ⟩
theorem AP {F O : Nat → Prop} {w : World} (Da : List UInt8) (zU : List UInt8) (rz : List UInt8) (pT : Int) (mH : Int) (kN : List UInt8) (nV : List UInt8) (pU : Bool) (lK : UInt64) (r8 : ae UInt64 8) (jv : UInt64) (jw : UInt64) (kq : List UInt8) (lL : Int) (C_ : UInt64) (yR : ae UInt8 64) (uN : Int) (pV : List UInt8) (oN : List UInt8) (lD : List UInt8) (jx : Int) (hT : Int) (jy : Bool) (gI : UInt64) (ka : ae UInt64 8) (fy : UInt64) (fA : UInt64) (fo : List UInt8) (gJ : Int) (mI : UInt64) (lM : ae UInt8 64) (k6 : Int) (Br : Nat) (zg : Option Addr) (zh : Nat) (zi : Nat) (xF : Option Addr) (xG : Nat) (xH : Nat) (q9 : Option Addr) (q_ : Nat) (ra : Nat) (Bs : Nat) (mP : Option Addr) (u4 : Nat) (mQ : Nat) (pj : Option Addr) (yA : Nat) (pn : Nat) (vt : Nat) (oY : Option Addr) (xI : Nat) (oZ : Nat) (pq : Nat) (pE : Option Addr) (pF : Nat) (pG : Nat) (o0 : Option Addr) (o1 : Nat) (o2 : Nat) (lY : Option Addr) (lZ : Nat) (l0 : Nat) (ox : Nat) (ma : Nat) (kv : Option Addr) (rG : Nat) (kz : Nat) (Q9 : Ro F w zg (e8.all Da)) (H7 : Da.length = zh) (Pr : zh ≤ zi) (Ps : Ro F w xF (e8.all zU)) (Gp : zU.length = xG) (OG : xG ≤ xH) (Kz : Ro F w q9 (e8.all rz)) (AQ : rz.length = q_) (Jb : q_ ≤ ra) (Jc : Ro F w pE (e8.all pV)) (Af : pV.length = pF) (H8 : pF ≤ pG) (H9 : Ro F w o0 (e8.all oN)) (y4 : oN.length = o1) (GN : o1 ≤ o2) (ED : Ro F w lY (e8.all lD)) (vR : lD.length = lZ) (DM : lZ ≤ l0) (k : Cx F O w w [Bx 72 Br [I 1, I 64, .u32 4294967295, .u64 274877906944, .b false, sl zg zh zi, sl xF xG xH, sl q9 q_ ra, pt Bs 0, sl none 0 0, .u64 C_, .ar e8 yR, I uN, .v (.func (.func 40) ⟨SV.ad [pt pq 0]⟩ ⟨SV.ad []⟩)], Bx 115 Bs [I pT, I mH, sl mP u4 mQ, sl pj yA pn, .b pU, .u64 lK, .v (.iface 126 (SV.val (pt vt 0)))], Ow e8 mP u4 mQ kN, Ow e8 pj yA pn nV, Bx 132 vt [.ar cj r8, .u64 jv, .u64 jw, sl oY xI oZ, I lL, .v (.func (.func 73) ⟨SV.ad []⟩ ⟨SV.ad []⟩), .v (.func (.func 74) ⟨SV.ad []⟩ ⟨SV.ad []⟩)], Ow e8 oY xI oZ kq, Bx 72 pq [I 1, I 64, .u32 4294967295, .u64 274877906944, .b false, sl pE pF pG, sl o0 o1 o2, sl lY lZ l0, pt ox 0, sl none 0 0, .u64 mI, .ar e8 lM, I k6, .v (.func (.func 40) ⟨SV.ad [pt pq 0]⟩ ⟨SV.ad []⟩)], Bx 115 ox [I jx, I hT, sl mP u4 mQ, sl pj yA pn, .b jy, .u64 gI, .v (.iface 126 (SV.val (pt ma 0)))], Bx 132 ma [.ar cj ka, .u64 fy, .u64 fA, sl kv rG kz, I gJ, .v (.func (.func 73) ⟨SV.ad []⟩ ⟨SV.ad []⟩), .v (.func (.func 74) ⟨SV.ad []⟩ ⟨SV.ad []⟩)], Ow e8 kv rG kz fo]) (r : (Int × Int × List UInt8 × List UInt8 × Bool × UInt64 × ae UInt64 8 × UInt64 × UInt64 × List UInt8 × Int × UInt64 × ae UInt8 64 × Int × ae UInt64 8 × UInt64 × UInt64 × List UInt8 × Int × Int × Int × Bool × UInt64 × UInt64 × ae UInt8 64 × Int)) (hm : sq Da zU rz pT mH kN nV pU lK r8 jv jw kq lL C_ yR uN pV oN lD jx hT jy gI ka fy fA fo gJ mI lM k6 = some r) :
    Calls Try.prog 56 (ad [pt Br 0]) w (fun e w' => ∃ A n c A1 n1 c1 A2 n2 c2 A3 n3 c3, r.2.2.1.length = n ∧ r.2.2.2.1.length = n1 ∧ r.2.2.2.2.2.2.2.2.2.1.length = n2 ∧ r.2.2.2.2.2.2.2.2.2.2.2.2.2.2.2.2.2.1.length = n3 ∧ e = .returned (SV.val (pt Br 0)) ∧ Cx F O w w' [Bx 72 Br [I 1, I 64, .u32 4294967295, .u64 274877906944, .b false, sl zg zh zi, sl xF xG xH, sl q9 q_ ra, pt Bs 0, sl none 0 0, .u64 r.2.2.2.2.2.2.2.2.2.2.2.1, .ar e8 r.2.2.2.2.2.2.2.2.2.2.2.2.1, I r.2.2.2.2.2.2.2.2.2.2.2.2.2.1, .v (.func (.func 40) ⟨SV.ad [pt Br 0]⟩ ⟨SV.ad []⟩)], Bx 115 Bs [I r.1, I r.2.1, sl A n c, sl A1 n1 c1, .b r.2.2.2.2.1, .u64 r.2.2.2.2.2.1, .v (.iface 126 (SV.val (pt vt 0)))], Ow e8 A n c r.2.2.1, Ow e8 A1 n1 c1 r.2.2.2.1, Bx 132 vt [.ar cj r.2.2.2.2.2.2.1, .u64 r.2.2.2.2.2.2.2.1, .u64 r.2.2.2.2.2.2.2.2.1, sl A2 n2 c2, I r.2.2.2.2.2.2.2.2.2.2.1, .v (.func (.func 73) ⟨SV.ad []⟩ ⟨SV.ad []⟩), .v (.func (.func 74) ⟨SV.ad []⟩ ⟨SV.ad []⟩)], Ow e8 A2 n2 c2 r.2.2.2.2.2.2.2.2.2.1, Bx 132 ma [.ar cj r.2.2.2.2.2.2.2.2.2.2.2.2.2.2.1, .u64 r.2.2.2.2.2.2.2.2.2.2.2.2.2.2.2.1, .u64 r.2.2.2.2.2.2.2.2.2.2.2.2.2.2.2.2.1, sl A3 n3 c3, I r.2.2.2.2.2.2.2.2.2.2.2.2.2.2.2.2.2.2.1, .v (.func (.func 73) ⟨SV.ad []⟩ ⟨SV.ad []⟩), .v (.func (.func 74) ⟨SV.ad []⟩ ⟨SV.ad []⟩)], Ow e8 A3 n3 c3 r.2.2.2.2.2.2.2.2.2.2.2.2.2.2.2.2.2.1, Bx 115 ox [I r.2.2.2.2.2.2.2.2.2.2.2.2.2.2.2.2.2.2.2.1, I r.2.2.2.2.2.2.2.2.2.2.2.2.2.2.2.2.2.2.2.2.1, sl A n c, sl A1 n1 c1, .b r.2.2.2.2.2.2.2.2.2.2.2.2.2.2.2.2.2.2.2.2.2.1, .u64 r.2.2.2.2.2.2.2.2.2.2.2.2.2.2.2.2.2.2.2.2.2.2.1, .v (.iface 126 (SV.val (pt ma 0)))], Bx 72 pq [I 1, I 64, .u32 4294967295, .u64 274877906944, .b false, sl pE pF pG, sl o0 o1 o2, sl lY lZ l0, pt ox 0, sl none 0 0, .u64 r.2.2.2.2.2.2.2.2.2.2.2.2.2.2.2.2.2.2.2.2.2.2.2.1, .ar e8 r.2.2.2.2.2.2.2.2.2.2.2.2.2.2.2.2.2.2.2.2.2.2.2.2.1, I r.2.2.2.2.2.2.2.2.2.2.2.2.2.2.2.2.2.2.2.2.2.2.2.2.2, .v (.func (.func 40) ⟨SV.ad [pt pq 0]⟩ ⟨SV.ad []⟩)]]) := by
 unfold sq at hm
 subst H7
 subst Gp
 subst AQ
 obtain rfl := k.len 2 rfl
 obtain rfl := k.len 3 rfl
 obtain rfl := k.len 5 rfl
 subst Af
 subst y4
 subst vR
 obtain rfl := k.len 9 rfl
 refine calls [pt Br 0] Try.func56 rfl (of_decide_eq_true (by kernel_rfl)) ?_
 refine ab <| bA [] .a qe (by kernel_rfl) ?_
 refine aa <| ab <| ao <| bn 5 [] (.n 5 (.v (.func (.func 40) ⟨SV.ad [pt Br 0]⟩ ⟨SV.ad []⟩)) (.n 7 (pt Br 76) .a)) (qs Br 0 <| qs Br 0 <| qe) (by kernel_rfl) ?_
 refine ag <| ey [] 0 (.v (.func (.func 40) ⟨SV.ad [pt Br 0]⟩ ⟨SV.ad []⟩)) [.v (.func (.func 40) ⟨SV.ad [pt Br 0]⟩ ⟨SV.ad []⟩)] (Pt.at Br 76) k rfl (.aP (.aP (.aP (.k .h)))) (by kernel_rfl) (by kernel_rfl) ?_
 intro w_ k_
 refine af <| aa <| kS (fun L wr => pe pT mH kN nV pU lK r8 jv jw kq lL C_ yR uN jx hT jy gI ka fy fA fo gJ mI lM k6  = some r ∧ L = [(0, pt Br 0)] ∧ Cx F O w wr [Bx 72 Br [I 1, I 64, .u32 4294967295, .u64 274877906944, .b false, sl zg Da.length zi, sl xF zU.length xH, sl q9 rz.length ra, pt Bs 0, sl none 0 0, .u64 C_, .ar e8 yR, I uN, .v (.func (.func 40) ⟨SV.ad [pt Br 0]⟩ ⟨SV.ad []⟩)], Bx 115 Bs [I pT, I mH, sl mP kN.length mQ, sl pj nV.length pn, .b pU, .u64 lK, .v (.iface 126 (SV.val (pt vt 0)))], Ow e8 mP kN.length mQ kN, Ow e8 pj nV.length pn nV, Bx 132 vt [.ar cj r8, .u64 jv, .u64 jw, sl oY kq.length oZ, I lL, .v (.func (.func 73) ⟨SV.ad []⟩ ⟨SV.ad []⟩), .v (.func (.func 74) ⟨SV.ad []⟩ ⟨SV.ad []⟩)], Ow e8 oY kq.length oZ kq, Bx 132 ma [.ar cj ka, .u64 fy, .u64 fA, sl kv fo.length kz, I gJ, .v (.func (.func 73) ⟨SV.ad []⟩ ⟨SV.ad []⟩), .v (.func (.func 74) ⟨SV.ad []⟩ ⟨SV.ad []⟩)], Ow e8 kv fo.length kz fo, Bx 115 ox [I jx, I hT, sl mP kN.length mQ, sl pj nV.length pn, .b jy, .u64 gI, .v (.iface 126 (SV.val (pt ma 0)))], Bx 72 pq [I 1, I 64, .u32 4294967295, .u64 274877906944, .b false, sl pE pV.length pG, sl o0 oN.length o2, sl lY lD.length l0, pt ox 0, sl none 0 0, .u64 mI, .ar e8 lM, I k6, .v (.func (.func 40) ⟨SV.ad [pt pq 0]⟩ ⟨SV.ad []⟩)]]) ?_ ?_
 ·
  refine ab <| bA [] (.n 12 (.b false) (.ss .a)) (qs Br 0 <| qs Br 0 <| qB k_ 0 rfl 9 (sl none 0 0) (by kernel_rfl) <| qe) (by kernel_rfl) ?_
  refine aa <| cw false (by kernel_rfl) (fun h => by cases h) (fun _ => ?_)
  refine aS ?_
  have da := (((((((((k_.pk (.t (.t (.t (.t (.t (.t .h))))))).pk (.t (.t (.t (.t (.t (.t (.t .h)))))))).pk (.t (.t (.t (.t (.t (.t (.t (.t (.t .h)))))))))).pk (.t (.t (.t (.t (.t (.t (.t (.t (.t .h)))))))))).pk (.t (.t (.t (.t (.t (.t (.t (.t (.t .h)))))))))).pk (.t (.t (.t (.t (.t (.t (.t (.t (.t .h)))))))))).pk (.t (.t (.t (.t (.t (.t (.t (.t (.t .h)))))))))).pk (.t (.t (.t (.t (.t (.t (.t (.t (.t .h)))))))))).pk (.t (.t (.t (.t (.t (.t (.t (.t (.t .h)))))))))).pk (.t (.t (.t (.t (.t (.t (.t (.t (.t .h)))))))))
  exact iy ⟨hm, rfl, da⟩ (by kernel_rfl)
 rintro L_ lh ⟨hm, rfl, dF⟩
 simp only [pe] at hm
 refine ab <| bA [] (.n 2 (pt Br 0) .z) qe (by kernel_rfl) ?_
 refine aa <| aL ?_
 obtain rfl := Option.some.inj hm
 refine aM [pt Br 0] qe (by kernel_rfl) ?_
 exact ⟨mP, kN.length, mQ, pj, nV.length, pn, oY, kq.length, oZ, kv, fo.length, kz, dF.len 2 rfl, dF.len 3 rfl, dF.len 5 rfl, dF.len 7 rfl, rfl, dF⟩
theorem qA {F O : Nat → Prop} {w : World} (cE : List UInt8) (bd : List UInt8) (ai : List UInt8) (b6 : Int) (bf : Int) (bo : List UInt8) (cm : List UInt8) (b7 : Bool) (aU : UInt64) (cF : ae UInt64 8) (aw : UInt64) (ax : UInt64) (a7 : List UInt8) (aV : Int) (ir : UInt64) (ei : ae UInt8 64) (dr : Int) (a6 : Nat) (cG : Option Addr) (di : Nat) (cH : Nat) (bL : Option Addr) (cg : Nat) (bM : Nat) (aH : Option Addr) (aX : Nat) (aI : Nat) (ee : Nat) (cO : Option Addr) (dw : Nat) (cP : Nat) (dW : Option Addr) (eE : Nat) (dX : Nat) (cI : Nat) (cp : Option Addr) (cQ : Nat) (cq : Nat) (jK : Ro F w cG (e8.all cE)) (iN : cE.length = di) (h_ : di ≤ cH) (gw : Ro F w bL (e8.all bd)) (gp : bd.length = cg) (fF : cg ≤ bM) (dE : Ro F w aH (e8.all ai)) (dN : ai.length = aX) (dj : aX ≤ aI) (k : Cx F O w w [Bx 72 a6 [I 1, I 64, .u32 4294967295, .u64 274877906944, .b false, sl cG di cH, sl bL cg bM, sl aH aX aI, pt ee 0, sl none 0 0, .u64 ir, .ar e8 ei, I dr, .v (.func (.func 40) ⟨SV.ad [pt a6 0]⟩ ⟨SV.ad []⟩)], Bx 115 ee [I b6, I bf, sl cO dw cP, sl dW eE dX, .b b7, .u64 aU, .v (.iface 126 (SV.val (pt cI 0)))], Ow e8 cO dw cP bo, Ow e8 dW eE dX cm, Bx 132 cI [.ar cj cF, .u64 aw, .u64 ax, sl cp cQ cq, I aV, .v (.func (.func 73) ⟨SV.ad []⟩ ⟨SV.ad []⟩), .v (.func (.func 74) ⟨SV.ad []⟩ ⟨SV.ad []⟩)], Ow e8 cp cQ cq a7]) (r : (Int × Int × List UInt8 × List UInt8 × Bool × UInt64 × ae UInt64 8 × UInt64 × UInt64 × List UInt8 × Int × UInt64 × ae UInt8 64 × Int × ae UInt64 8 × UInt64 × UInt64 × List UInt8 × Int × Int × Int × Bool × UInt64 × UInt64 × ae UInt8 64 × Int)) (hm : gB cE bd ai b6 bf bo cm b7 aU cF aw ax a7 aV ir ei dr = some r) :
    Calls Try.prog 42 (ad [pt a6 0]) w (fun e w' => ∃ g g1 A n c A1 n1 c1 g2 A2 n2 c2 A3 n3 c3, r.2.2.1.length = n ∧ r.2.2.2.1.length = n1 ∧ r.2.2.2.2.2.2.2.2.2.1.length = n2 ∧ r.2.2.2.2.2.2.2.2.2.2.2.2.2.2.2.2.2.1.length = n3 ∧ e = .returned (SV.val (pt g 0)) ∧ Cx F O w w' [Bx 72 g [I 1, I 64, .u32 4294967295, .u64 274877906944, .b false, sl cG di cH, sl bL cg bM, sl aH aX aI, pt g1 0, sl none 0 0, .u64 r.2.2.2.2.2.2.2.2.2.2.2.1, .ar e8 r.2.2.2.2.2.2.2.2.2.2.2.2.1, I r.2.2.2.2.2.2.2.2.2.2.2.2.2.1, .v (.func (.func 40) ⟨SV.ad [pt g 0]⟩ ⟨SV.ad []⟩)], Bx 115 g1 [I r.1, I r.2.1, sl A n c, sl A1 n1 c1, .b r.2.2.2.2.1, .u64 r.2.2.2.2.2.1, .v (.iface 126 (SV.val (pt g2 0)))], Ow e8 A n c r.2.2.1, Ow e8 A1 n1 c1 r.2.2.2.1, Bx 132 g2 [.ar cj r.2.2.2.2.2.2.1, .u64 r.2.2.2.2.2.2.2.1, .u64 r.2.2.2.2.2.2.2.2.1, sl A2 n2 c2, I r.2.2.2.2.2.2.2.2.2.2.1, .v (.func (.func 73) ⟨SV.ad []⟩ ⟨SV.ad []⟩), .v (.func (.func 74) ⟨SV.ad []⟩ ⟨SV.ad []⟩)], Ow e8 A2 n2 c2 r.2.2.2.2.2.2.2.2.2.1, Bx 132 cI [.ar cj r.2.2.2.2.2.2.2.2.2.2.2.2.2.2.1, .u64 r.2.2.2.2.2.2.2.2.2.2.2.2.2.2.2.1, .u64 r.2.2.2.2.2.2.2.2.2.2.2.2.2.2.2.2.1, sl A3 n3 c3, I r.2.2.2.2.2.2.2.2.2.2.2.2.2.2.2.2.2.2.1, .v (.func (.func 73) ⟨SV.ad []⟩ ⟨SV.ad []⟩), .v (.func (.func 74) ⟨SV.ad []⟩ ⟨SV.ad []⟩)], Ow e8 A3 n3 c3 r.2.2.2.2.2.2.2.2.2.2.2.2.2.2.2.2.2.1, Bx 115 ee [I r.2.2.2.2.2.2.2.2.2.2.2.2.2.2.2.2.2.2.2.1, I r.2.2.2.2.2.2.2.2.2.2.2.2.2.2.2.2.2.2.2.2.1, sl A n c, sl A1 n1 c1, .b r.2.2.2.2.2.2.2.2.2.2.2.2.2.2.2.2.2.2.2.2.2.1, .u64 r.2.2.2.2.2.2.2.2.2.2.2.2.2.2.2.2.2.2.2.2.2.2.1, .v (.iface 126 (SV.val (pt cI 0)))], Bx 72 a6 [I 1, I 64, .u32 4294967295, .u64 274877906944, .b false, sl cG di cH, sl bL cg bM, sl aH aX aI, pt ee 0, sl none 0 0, .u64 r.2.2.2.2.2.2.2.2.2.2.2.2.2.2.2.2.2.2.2.2.2.2.2.1, .ar e8 r.2.2.2.2.2.2.2.2.2.2.2.2.2.2.2.2.2.2.2.2.2.2.2.2.1, I r.2.2.2.2.2.2.2.2.2.2.2.2.2.2.2.2.2.2.2.2.2.2.2.2.2, .v (.func (.func 40) ⟨SV.ad [pt a6 0]⟩ ⟨SV.ad []⟩)]]) := by
 unfold gB at hm
 subst iN
 subst gp
 subst dN
 obtain rfl := k.len 2 rfl
 obtain rfl := k.len 3 rfl
 obtain rfl := k.len 5 rfl
 refine calls [pt a6 0] Try.func42 rfl (of_decide_eq_true (by kernel_rfl)) ?_
 refine ab <| bA [] .a qe (by kernel_rfl) ?_
 refine aa <| ab <| ab <| ao <| bn 1 [] (.n 4 (pt a6 0) .a) qe (by kernel_rfl) ?_
 refine ag ?_
 obtain ⟨r_, dk, hm⟩ := ob hm
 obtain ⟨F1, O1, lO, hO, rO, hF, hb⟩ := k.go (.i (.i (.i (.i (.i (.i .e))))))
 refine aq [] 5 _ xw (by kernel_rfl) (nD (F := F1) (O := O1) _ _ _ _ _ _ _ _ _ _ _ _ _ _ _ _ _ _ _ _ _ _ _ _ _ _ _ _ _ _ _ _ _ _ _ _ _ _ (Ro.aY jK k hF) rfl h_ (Ro.aY gw k hF) rfl fF (Ro.aY dE k hF) rfl dj lO _ dk) ?_
 rintro e_ w_ ⟨A0, _, c0, A4, _, c4, A5, _, c5, rfl, rfl, rfl, rfl, k_⟩
 have da := hb w_ _ _ k_ (.c (.c (.c (.c (.c (.c .n))))))
 refine ⟨.b false, rfl, ?_⟩
 refine af <| aa <| cw false (by kernel_rfl) (fun h => by cases h) (fun _ => ?_)
 refine aS <| aa <| ab <| ao <| bn 3 [] (.n 8 (.agg [I 1, I 64, .u32 4294967295, .u64 274877906944, .b false, sl cG cE.length cH, sl bL bd.length bM, sl aH ai.length aI, pt ee 0, sl none 0 0, .u64 r_.2.2.2.2.2.2.2.2.2.2.2.1, .ar e8 r_.2.2.2.2.2.2.2.2.2.2.2.2.1, I r_.2.2.2.2.2.2.2.2.2.2.2.2.2, .v (.func (.func 40) ⟨SV.ad [pt a6 0]⟩ ⟨SV.ad []⟩)]) (.ss .a)) (qs a6 0 <| qT da 5 rfl 0 77 [I 1, I 64, .u32 4294967295, .u64 274877906944, .b false, sl cG cE.length cH, sl bL bd.length bM, sl aH ai.length aI, pt ee 0, sl none 0 0, .u64 r_.2.2.2.2.2.2.2.2.2.2.2.1, .ar e8 r_.2.2.2.2.2.2.2.2.2.2.2.2.1, I r_.2.2.2.2.2.2.2.2.2.2.2.2.2, .v (.func (.func 40) ⟨SV.ad [pt a6 0]⟩ ⟨SV.ad []⟩)] (by kernel_rfl) (by decide) <| qe) (by kernel_rfl) ?_
 refine ag <| bY [] 3 [I 0, I 0, .u32 0, .u64 0, .b false, sl none 0 0, sl none 0 0, sl none 0 0, .v (.pointer none), sl none 0 0, .u64 0, .ar e8 (ae.rep 64 (0 : UInt8)), I 0, .v .nilFunc] (by kernel_rfl) da ?_
 intro g0 lh dF
 refine ag <| ey [] 6 (.agg [I 1, I 64, .u32 4294967295, .u64 274877906944, .b false, sl cG cE.length cH, sl bL bd.length bM, sl aH ai.length aI, pt ee 0, sl none 0 0, .u64 r_.2.2.2.2.2.2.2.2.2.2.2.1, .ar e8 r_.2.2.2.2.2.2.2.2.2.2.2.2.1, I r_.2.2.2.2.2.2.2.2.2.2.2.2.2, .v (.func (.func 40) ⟨SV.ad [pt a6 0]⟩ ⟨SV.ad []⟩)]) [I 1, I 64, .u32 4294967295, .u64 274877906944, .b false, sl cG cE.length cH, sl bL bd.length bM, sl aH ai.length aI, pt ee 0, sl none 0 0, .u64 r_.2.2.2.2.2.2.2.2.2.2.2.1, .ar e8 r_.2.2.2.2.2.2.2.2.2.2.2.2.1, I r_.2.2.2.2.2.2.2.2.2.2.2.2.2, .v (.func (.func 40) ⟨SV.ad [pt a6 0]⟩ ⟨SV.ad []⟩)] (Pt.at g0 0) dF rfl .all (by kernel_rfl) (by kernel_rfl) ?_
 intro l4 en
 refine af <| aa <| ab <| ao <| bn 4 [] (.n 12 (pt ee 0) (.k .z)) (qs a6 0 <| qs a6 0 <| qB en 5 rfl 8 (pt ee 0) (by kernel_rfl) <| qe) (by kernel_rfl) ?_
 refine ag ?_
 obtain ⟨ah, dt, hm⟩ := ob hm
 have eA := ((((((en.pk (.t (.t (.t (.t (.t (.t .h))))))).pk (.t (.t (.t (.t (.t (.t .h))))))).pk (.t (.t (.t .h)))).pk (.t (.t (.t .h)))).pk (.t (.t (.t (.t (.t (.t .h))))))).pk (.t (.t (.t (.t (.t (.t .h))))))).pk (.t (.t (.t (.t (.t (.t .h))))))
 obtain ⟨xD, xE, ni, FJ, tE, rP, xa⟩ := eA.go (.i (.i (.i (.i (.i (.r (.r .e)))))))
 refine aq [] 13 _ J2 (by kernel_rfl) (yz (F := xD) (O := xE) _ _ _ _ _ _ _ _ _ _ _ _ _ _ _ _ _ _ _ _ _ _ ni _ dt) ?_
 rintro e_ qf ⟨g3, A6, _, c6, A7, _, c7, g4, A8, _, c8, A9, _, c9, rfl, rfl, rfl, rfl, rfl, fJ⟩
 have gi := xa qf _ _ fJ (.c (.c (.c (.c (.c (.c (.c (.c .n))))))))
 refine ⟨pt g3 0, rfl, ?_⟩
 refine bn 1 [] (.n 14 (pt g0 8) (.k (.s .a))) (qs g0 0 <| qe) (by kernel_rfl) ?_
 refine ag ?_
 have fY := gi.ck (.aP (.aP (.kk .e)))
 refine ey [] 9 (pt g3 0) [pt g3 0] (Pt.at g0 8) fY rfl (.aP (.aP .h)) (by kernel_rfl) (by kernel_rfl) ?_
 intro p7 fZ
 refine af <| aa <| ab <| ao <| ag ?_
 obtain ⟨bh, gX, hm⟩ := ob hm
 have gY := (((((((((fZ.pk (.t (.t (.t (.t (.t (.t .h))))))).pk (.t (.t (.t (.t (.t (.t .h))))))).pk (.t (.t (.t (.t (.t (.t (.t .h)))))))).pk (.t (.t (.t (.t (.t (.t (.t (.t .h))))))))).pk (.t (.t (.t (.t (.t (.t (.t (.t .h))))))))).pk (.t (.t (.t (.t (.t (.t (.t (.t .h))))))))).pk (.t (.t (.t (.t (.t (.t (.t (.t .h))))))))).pk (.t (.t (.t (.t (.t (.t (.t (.t .h))))))))).pk (.t (.t (.t (.t (.t (.t (.t (.t .h))))))))).pk (.t (.t (.t (.t (.t (.t (.t (.t (.t .h)))))))))
 obtain ⟨H_, Ia, wT, Pu, Cy, Ag, D2⟩ := gY.go (.i (.i (.i (.i (.i (.i (.i (.i (.i (.i .e))))))))))
 refine aq [] 15 _ J3 (by kernel_rfl) (AP (F := H_) (O := Ia) _ _ _ _ _ _ _ _ _ _ _ _ _ _ _ _ _ _ _ _ _ _ _ _ _ _ _ _ _ _ _ _ _ _ _ _ _ _ _ _ _ _ _ _ _ _ _ _ _ _ _ _ _ _ _ _ _ _ _ _ _ _ _ _ _ _ _ _ (Ro.aY jK gY Ag) rfl h_ (Ro.aY gw gY Ag) rfl fF (Ro.aY dE gY Ag) rfl dj (Ro.aY jK gY Ag) rfl h_ (Ro.aY gw gY Ag) rfl fF (Ro.aY dE gY Ag) rfl dj wT _ gX) ?_
 rintro e_ sV ⟨wR, _, sW, yX, _, ue, AN, _, xB, HZ, _, AO, rfl, rfl, rfl, rfl, rfl, dK⟩
 have c_ := D2 sV _ _ dK (.c (.c (.c (.c (.c (.c (.c (.c (.c (.c .n))))))))))
 refine ⟨pt g0 0, rfl, ?_⟩
 refine bn 1 [] (.n 2 (pt g0 0) .z) qe (by kernel_rfl) ?_
 refine af <| aa <| aL ?_
 obtain rfl := Option.some.inj hm
 refine aM [pt g0 0] qe (by kernel_rfl) ?_
 exact ⟨g0, g3, wR, bh.2.2.1.length, sW, yX, bh.2.2.2.1.length, ue, g4, AN, bh.2.2.2.2.2.2.2.2.2.1.length, xB, HZ, bh.2.2.2.2.2.2.2.2.2.2.2.2.2.2.2.2.2.1.length, AO, c_.len 2 rfl, c_.len 3 rfl, c_.len 5 rfl, c_.len 7 rfl, rfl, c_⟩
theorem Cz {F O : Nat → Prop} {w : World} (x_ : UInt64) (k : Cx F O w w []) (r : Int) (hm : oR x_ = some r) :
    Calls Try.prog 68 (ad [.u64 x_]) w (fun e w' => e = .returned (SV.val (I r)) ∧ Cx F O w w' []) := by
 unfold oR at hm
 refine calls [.u64 x_] Try.func68 rfl (of_decide_eq_true (by kernel_rfl)) ?_
 refine ab <| bA [] (.n 2 (I 0) .a) qe (by kernel_rfl) ?_
 refine aa <| kS (fun L wr => ∃ (ej : UInt64) (n : Int), kP ej n = some r ∧ L = [(0, .u64 ej), (2, I n)] ∧ Cx F O w wr []) ?_ ?_
 ·
  refine ab <| bA [] (.n 4 (.b (decide ((4294967296 : UInt64) ≤ x_))) .a) qe (by kernel_rfl) ?_
  refine aa <| bb ((4294967296 : UInt64) ≤ x_) (by kernel_rfl) (fun hc => ?_) (fun hc => ?_)
  · rw [if_pos hc] at hm
    refine ab <| bA [] (.n 0 (.u64 (aJ x_ ((32 : UInt64).toNat))) .z) qe (by kernel_rfl) ?_
    refine aa <| bA [] (.n 2 (I 32) .a) qe (by kernel_rfl) ?_
    exact iy ⟨aJ x_ ((32 : UInt64).toNat), (32 : Int), hm, rfl, k⟩ (by kernel_rfl)
  rw [if_neg hc] at hm
  refine aS ?_
  exact iy ⟨x_, (0 : Int), hm, rfl, k⟩ (by kernel_rfl)
 rintro L_ w_ ⟨ej, n, hm, rfl, k_⟩
 simp only [kP] at hm
 refine kS (fun L wr => ∃ (fg : UInt64) (n1 : Int), kO fg n1 = some r ∧ L = [(0, .u64 fg), (2, I n1)] ∧ Cx F O w wr []) ?_ ?_
 ·
  refine ab <| bA [] (.n 8 (.b (decide ((65536 : UInt64) ≤ ej))) .a) qe (by kernel_rfl) ?_
  refine aa <| bb ((65536 : UInt64) ≤ ej) (by kernel_rfl) (fun kr => ?_) (fun kr => ?_)
  · rw [if_pos kr] at hm
    refine ab <| bA [] (.n 0 (.u64 (aJ ej ((16 : UInt64).toNat))) (.ss .a)) qe (by kernel_rfl) ?_
    refine aa <| bA [] (.n 2 (I (aB (n + 16))) (.k .z)) qe (by kernel_rfl) ?_
    exact iy ⟨aJ ej ((16 : UInt64).toNat), aB (n + 16), hm, rfl, k_⟩ (by kernel_rfl)
  rw [if_neg kr] at hm
  refine aS ?_
  exact iy ⟨ej, n, hm, rfl, k_⟩ (by kernel_rfl)
 rintro L_ lh ⟨fg, n1, hm, rfl, da⟩
 simp only [kO] at hm
 refine kS (fun L wr => ∃ (ll : UInt64) (n2 : Int), iW ll n2 = some r ∧ L = [(0, .u64 ll), (2, I n2)] ∧ Cx F O w wr []) ?_ ?_
 ·
  refine ab <| bA [] (.n 14 (.b (decide ((256 : UInt64) ≤ fg))) .a) qe (by kernel_rfl) ?_
  refine aa <| bb ((256 : UInt64) ≤ fg) (by kernel_rfl) (fun pf => ?_) (fun pf => ?_)
  · rw [if_pos pf] at hm
    refine ab <| bA [] (.n 0 (.u64 (aJ fg ((8 : UInt64).toNat))) (.ss .a)) qe (by kernel_rfl) ?_
    refine aa <| bA [] (.n 2 (I (aB (n1 + 8))) (.k .z)) qe (by kernel_rfl) ?_
    exact iy ⟨aJ fg ((8 : UInt64).toNat), aB (n1 + 8), hm, rfl, da⟩ (by kernel_rfl)
  rw [if_neg pf] at hm
  refine aS ?_
  exact iy ⟨fg, n1, hm, rfl, da⟩ (by kernel_rfl)
 rintro L_ l4 ⟨ll, n2, hm, rfl, dF⟩
 simp only [iW] at hm
 refine ab ?_
 obtain ⟨c, h_c, hm⟩ := ob hm
 refine bA [] (.n 2 (I (aB (n2 + (c.toNat : Int)))) .z) (qX h_c <| qe) (by kernel_rfl) ?_
 refine aa <| aL ?_
 obtain rfl := Option.some.inj hm
 refine aM [I (aB (n2 + (c.toNat : Int)))] qe (by kernel_rfl) ?_
 exact ⟨rfl, dF⟩
theorem tY {F O : Nat → Prop} {w : World} (x_ : UInt64) (k : Cx F O w w []) (r : Int) (hm : ja x_ = some r) :
    Calls Try.prog 59 (ad [.u64 x_]) w (fun e w' => e = .returned (SV.val (I r)) ∧ Cx F O w w' []) := by
 unfold ja at hm
 refine calls [.u64 x_] Try.func59 rfl (of_decide_eq_true (by kernel_rfl)) ?_
 refine ab <| bA [] .a qe (by kernel_rfl) ?_
 refine aa <| ab <| ao <| bn 1 [] (.n 3 (.u64 x_) .z) qe (by kernel_rfl) ?_
 refine ag ?_
 obtain ⟨r_, dk, hm⟩ := ob hm
 refine aq [] 4 _ J_ (by kernel_rfl) (Cz (F := N0) (O := N0) _ (Cx.refl _) _ dk) ?_
 rintro e_ w_ ⟨rfl, k_⟩
 have da := k.call k_
 refine ⟨I r_, rfl, ?_⟩
 refine bn 2 [] (.n 2 (I (aB (64 - r_))) .z) qe (by kernel_rfl) ?_
 refine af <| aa <| aL ?_
 obtain rfl := Option.some.inj hm
 refine aM [I (aB (64 - r_))] qe (by kernel_rfl) ?_
 exact ⟨rfl, da⟩
theorem CA {F O : Nat → Prop} {w : World} (hi : UInt64) (lo : UInt64) (y_ : UInt64) (k : Cx F O w w []) (r : (UInt64 × UInt64)) (hm : oS hi lo y_ = some r) :
    Calls Try.prog 46 (ad [.u64 hi, .u64 lo, .u64 y_]) w (fun e w' => e = .returned (SV.val (.eO [.u64 r.1, .u64 r.2])) ∧ Cx F O w w' []) := by
 unfold oS at hm
 refine calls [.u64 hi, .u64 lo, .u64 y_] Try.func46 rfl (of_decide_eq_true (by kernel_rfl)) ?_
 refine ab <| bA [] .a qe (by kernel_rfl) ?_
 refine aa <| kS (fun L wr => nY hi lo y_  = some r ∧ L = [(0, .u64 hi), (1, .u64 lo), (2, .u64 y_)] ∧ Cx F O w wr []) ?_ ?_
 ·
  refine ab <| bA [] (.n 20 (.b (decide (y_ = 0))) .a) qe (by kernel_rfl) ?_
  refine aa <| bb (y_ = 0) (by kernel_rfl) (fun hc => ?_) (fun hc => ?_)
  · rw [if_pos hc] at hm
    cases hm
  rw [if_neg hc] at hm
  refine aS ?_
  exact iy ⟨hm, rfl, k⟩ (by kernel_rfl)
 rintro L_ w_ ⟨hm, rfl, k_⟩
 simp only [nY] at hm
 refine kS (fun L wr => nX hi lo y_  = some r ∧ L = [(0, .u64 hi), (1, .u64 lo), (2, .u64 y_)] ∧ Cx F O w wr []) ?_ ?_
 ·
  refine ab <| bA [] (.n 24 (.b (decide (y_ ≤ hi))) .a) qe (by kernel_rfl) ?_
  refine aa <| bb (y_ ≤ hi) (by kernel_rfl) (fun kr => ?_) (fun kr => ?_)
  · rw [if_pos kr] at hm
    cases hm
  rw [if_neg kr] at hm
  refine aS ?_
  exact iy ⟨hm, rfl, k_⟩ (by kernel_rfl)
 rintro L_ lh ⟨hm, rfl, da⟩
 simp only [nX] at hm
 refine ab <| ab <| bA [] (.n 27 (.b (decide (hi = 0))) .a) qe (by kernel_rfl) ?_
 refine aa <| bb (hi = 0) (by kernel_rfl) (fun pf => ?_) (fun pf => ?_)
 · rw [if_pos pf] at hm
   refine ab ?_
   obtain ⟨u, yq, hm⟩ := ob hm
   obtain ⟨u1, MU, hm⟩ := ob hm
   refine GK bw (by kernel_rfl) (.n 6 (.u64 (lo / y_)) (.n 7 (.u64 (lo % y_)) .z)) (fun m => qp (y_ ≠ 0) (fL yq) <| qp (y_ ≠ 0) (fL MU) <| qe) (by kernel_rfl) (fun m_ => ?_)
   have dF := da.drew m_
   refine aa <| aL (bI ?_)
   obtain rfl := Option.some.inj hm
   refine aM [.u64 (lo / y_), .u64 (lo % y_)] qe (by kernel_rfl) ?_
   exact ⟨rfl, dF⟩
 rw [if_neg pf] at hm
 refine aS <| aa <| ab <| ao <| bn 1 [] (.n 34 (.u64 y_) (.s .a)) qe (by kernel_rfl) ?_
 refine ag ?_
 obtain ⟨r_, dk, hm⟩ := ob hm
 refine aq [] 35 _ J4 (by kernel_rfl) (tY (F := N0) (O := N0) _ (Cx.refl _) _ dk) ?_
 rintro e_ l4 ⟨rfl, en⟩
 have eA := da.call en
 refine ⟨I r_, rfl, ?_⟩
 refine bn 2 [] (.n 8 (.u64 (UInt64.ofInt r_)) (.ss .a)) qe (by kernel_rfl) ?_
 refine af <| aa <| ab <| bA [] (.n 2 (.u64 (aE y_ ((UInt64.ofInt r_).toNat))) (.ua .z)) qe (by kernel_rfl) ?_
 refine aa <| ab <| bA [] (.n 9 (.u64 (aJ (aE y_ ((UInt64.ofInt r_).toNat)) ((32 : UInt64).toNat))) .a) qe (by kernel_rfl) ?_
 refine aa <| ab <| bA [] (.n 10 (.u64 ((aE y_ ((UInt64.ofInt r_).toNat)) &&& 4294967295)) .a) qe (by kernel_rfl) ?_
 refine aa <| ab <| bA [] (.n 11 (.u64 ((aE hi ((UInt64.ofInt r_).toNat)) ||| (aJ lo (((64 : UInt64) - (UInt64.ofInt r_)).toNat)))) (.aP (.s .a))) qe (by kernel_rfl) ?_
 refine aa <| ab <| bA [] (.n 12 (.u64 (aE lo ((UInt64.ofInt r_).toNat))) (.aP (.k .z))) qe (by kernel_rfl) ?_
 refine aa <| ab <| bA [] (.n 13 (.u64 (aJ (aE lo ((UInt64.ofInt r_).toNat)) ((32 : UInt64).toNat))) .a) qe (by kernel_rfl) ?_
 refine aa <| ab <| bA [] (.n 14 (.u64 ((aE lo ((UInt64.ofInt r_).toNat)) &&& 4294967295)) (.k (.s .a))) qe (by kernel_rfl) ?_
 refine aa <| ab ?_
 obtain ⟨u2, Sc, hm⟩ := ob hm
 refine bA [] (.n 15 (.u64 (((aE hi ((UInt64.ofInt r_).toNat)) ||| (aJ lo (((64 : UInt64) - (UInt64.ofInt r_)).toNat))) / (aJ (aE y_ ((UInt64.ofInt r_).toNat)) ((32 : UInt64).toNat)))) .a) (qp ((aJ (aE y_ ((UInt64.ofInt r_).toNat)) ((32 : UInt64).toNat)) ≠ 0) (fL Sc) <| qe) (by kernel_rfl) ?_
 refine aa <| ab <| bA [] (.n 16 (.u64 (((aE hi ((UInt64.ofInt r_).toNat)) ||| (aJ lo (((64 : UInt64) - (UInt64.ofInt r_)).toNat))) - ((((aE hi ((UInt64.ofInt r_).toNat)) ||| (aJ lo (((64 : UInt64) - (UInt64.ofInt r_)).toNat))) / (aJ (aE y_ ((UInt64.ofInt r_).toNat)) ((32 : UInt64).toNat))) * (aJ (aE y_ ((UInt64.ofInt r_).toNat)) ((32 : UInt64).toNat))))) .a) qe (by kernel_rfl) ?_
 refine aa <| kS (fun L wr => ∃ (q1 : UInt64), l7 hi lo y_ r_ q1 = some r ∧ L = [(2, .u64 (aE y_ ((UInt64.ofInt r_).toNat))), (8, .u64 (UInt64.ofInt r_)), (9, .u64 (aJ (aE y_ ((UInt64.ofInt r_).toNat)) ((32 : UInt64).toNat))), (10, .u64 ((aE y_ ((UInt64.ofInt r_).toNat)) &&& 4294967295)), (11, .u64 ((aE hi ((UInt64.ofInt r_).toNat)) ||| (aJ lo (((64 : UInt64) - (UInt64.ofInt r_)).toNat)))), (13, .u64 (aJ (aE lo ((UInt64.ofInt r_).toNat)) ((32 : UInt64).toNat))), (14, .u64 ((aE lo ((UInt64.ofInt r_).toNat)) &&& 4294967295)), (15, .u64 q1)] ∧ Cx F O w wr []) ?_ ?_
 ·
  refine D4 (fun L wr => ∃ (OF : UInt64), kQ hi lo y_ r_ OF = some r ∧ L = [(2, .u64 (aE y_ ((UInt64.ofInt r_).toNat))), (8, .u64 (UInt64.ofInt r_)), (9, .u64 (aJ (aE y_ ((UInt64.ofInt r_).toNat)) ((32 : UInt64).toNat))), (10, .u64 ((aE y_ ((UInt64.ofInt r_).toNat)) &&& 4294967295)), (11, .u64 ((aE hi ((UInt64.ofInt r_).toNat)) ||| (aJ lo (((64 : UInt64) - (UInt64.ofInt r_)).toNat)))), (13, .u64 (aJ (aE lo ((UInt64.ofInt r_).toNat)) ((32 : UInt64).toNat))), (14, .u64 ((aE lo ((UInt64.ofInt r_).toNat)) &&& 4294967295)), (15, .u64 OF)] ∧ Cx F O w wr []) ?_ ?_
  ·
   refine pc (jN hi lo y_ r_) (fun s L wr => ∃ (CS : UInt64) (lH : UInt64), (CS, lH) = s ∧ L = [(2, .u64 (aE y_ ((UInt64.ofInt r_).toNat))), (8, .u64 (UInt64.ofInt r_)), (9, .u64 (aJ (aE y_ ((UInt64.ofInt r_).toNat)) ((32 : UInt64).toNat))), (10, .u64 ((aE y_ ((UInt64.ofInt r_).toNat)) &&& 4294967295)), (11, .u64 ((aE hi ((UInt64.ofInt r_).toNat)) ||| (aJ lo (((64 : UInt64) - (UInt64.ofInt r_)).toNat)))), (13, .u64 (aJ (aE lo ((UInt64.ofInt r_).toNat)) ((32 : UInt64).toNat))), (14, .u64 ((aE lo ((UInt64.ofInt r_).toNat)) &&& 4294967295)), (15, .u64 CS), (16, .u64 lH)] ∧ Cx F O w wr []) (((aE hi ((UInt64.ofInt r_).toNat)) ||| (aJ lo (((64 : UInt64) - (UInt64.ofInt r_)).toNat))) / (aJ (aE y_ ((UInt64.ofInt r_).toNat)) ((32 : UInt64).toNat)), ((aE hi ((UInt64.ofInt r_).toNat)) ||| (aJ lo (((64 : UInt64) - (UInt64.ofInt r_)).toNat))) - ((((aE hi ((UInt64.ofInt r_).toNat)) ||| (aJ lo (((64 : UInt64) - (UInt64.ofInt r_)).toNat))) / (aJ (aE y_ ((UInt64.ofInt r_).toNat)) ((32 : UInt64).toNat))) * (aJ (aE y_ ((UInt64.ofInt r_).toNat)) ((32 : UInt64).toNat)))) r hm ⟨((aE hi ((UInt64.ofInt r_).toNat)) ||| (aJ lo (((64 : UInt64) - (UInt64.ofInt r_)).toNat))) / (aJ (aE y_ ((UInt64.ofInt r_).toNat)) ((32 : UInt64).toNat)), ((aE hi ((UInt64.ofInt r_).toNat)) ||| (aJ lo (((64 : UInt64) - (UInt64.ofInt r_)).toNat))) - ((((aE hi ((UInt64.ofInt r_).toNat)) ||| (aJ lo (((64 : UInt64) - (UInt64.ofInt r_)).toNat))) / (aJ (aE y_ ((UInt64.ofInt r_).toNat)) ((32 : UInt64).toNat))) * (aJ (aE y_ ((UInt64.ofInt r_).toNat)) ((32 : UInt64).toNat))), rfl, rfl, eA⟩ (by kernel_rfl) ?_
   intro yU L_ qf y0 jd dd nF
   obtain ⟨CS, lH, rfl, rfl, fJ⟩ := jd
   have hm := dd; simp only [jN] at hm
   clear dd
   refine ab <| ab <| bA [] (.n 78 (.b ((decide ((4294967296 : UInt64) ≤ CS)) || (decide ((((4294967296 : UInt64) * lH) + (aJ (aE lo ((UInt64.ofInt r_).toNat)) ((32 : UInt64).toNat))) < (CS * ((aE y_ ((UInt64.ofInt r_).toNat)) &&& 4294967295)))))) .a) qe (by kernel_rfl) ?_
   refine aa <| cw ((decide ((4294967296 : UInt64) ≤ CS)) || (decide ((((4294967296 : UInt64) * lH) + (aJ (aE lo ((UInt64.ofInt r_).toNat)) ((32 : UInt64).toNat))) < (CS * ((aE y_ ((UInt64.ofInt r_).toNat)) &&& 4294967295))))) (by kernel_rfl) (fun ub => ?_) (fun ub => ?_)
   · rw [if_pos ub] at hm
     refine aS <| aa <| cu <| ab <| bA [] (.n 15 (.u64 (CS - 1)) (.s (.aP (.ua (.s .a))))) qe (by kernel_rfl) ?_
     refine aa <| ab <| bA [] (.n 16 (.u64 (lH + (aJ (aE y_ ((UInt64.ofInt r_).toNat)) ((32 : UInt64).toNat)))) (.aP (.aP .z))) qe (by kernel_rfl) ?_
     refine aa <| ab <| bA [] (.n 85 (.b (decide ((4294967296 : UInt64) ≤ (lH + (aJ (aE y_ ((UInt64.ofInt r_).toNat)) ((32 : UInt64).toNat)))))) .a) qe (by kernel_rfl) ?_
     refine aa <| bb ((4294967296 : UInt64) ≤ (lH + (aJ (aE y_ ((UInt64.ofInt r_).toNat)) ((32 : UInt64).toNat)))) (by kernel_rfl) (fun w9 => ?_) (fun w9 => ?_)
     · rw [if_pos w9] at hm
       refine iq (G8 (by decide) (fe (kG ?_)))
       have hm := d_ hm nF
       exact iy ⟨CS - 1, hm, rfl, fJ⟩ (by kernel_rfl)
     rw [if_neg w9] at hm
     refine aS <| hH ?_
     exact jR (CS - 1, lH + (aJ (aE y_ ((UInt64.ofInt r_).toNat)) ((32 : UInt64).toNat))) (Option.some.inj hm).symm ⟨CS - 1, lH + (aJ (aE y_ ((UInt64.ofInt r_).toNat)) ((32 : UInt64).toNat)), rfl, rfl, fJ⟩ (by kernel_rfl)
   rw [if_neg (by rw [ub]; decide)] at hm
   refine iq (fe (fe (kG ?_)))
   have hm := d_ hm nF
   exact iy ⟨CS, hm, rfl, fJ⟩ (by kernel_rfl)
  rintro L_ p7 ⟨OF, hm, rfl, gi⟩
  simp only [kQ] at hm
  exact iy ⟨OF, hm, rfl, gi⟩ (by kernel_rfl)
 rintro L_ sV ⟨q1, hm, rfl, fY⟩
 simp only [l7] at hm
 refine ab <| bA [] (.n 17 (.u64 (((((aE hi ((UInt64.ofInt r_).toNat)) ||| (aJ lo (((64 : UInt64) - (UInt64.ofInt r_)).toNat))) * 4294967296) + (aJ (aE lo ((UInt64.ofInt r_).toNat)) ((32 : UInt64).toNat))) - (q1 * (aE y_ ((UInt64.ofInt r_).toNat))))) (.aP (.ss .a))) qe (by kernel_rfl) ?_
 refine aa <| ab ?_
 obtain ⟨u3, Sd, hm⟩ := ob hm
 refine bA [] (.n 18 (.u64 ((((((aE hi ((UInt64.ofInt r_).toNat)) ||| (aJ lo (((64 : UInt64) - (UInt64.ofInt r_)).toNat))) * 4294967296) + (aJ (aE lo ((UInt64.ofInt r_).toNat)) ((32 : UInt64).toNat))) - (q1 * (aE y_ ((UInt64.ofInt r_).toNat)))) / (aJ (aE y_ ((UInt64.ofInt r_).toNat)) ((32 : UInt64).toNat)))) .a) (qp ((aJ (aE y_ ((UInt64.ofInt r_).toNat)) ((32 : UInt64).toNat)) ≠ 0) (fL Sd) <| qe) (by kernel_rfl) ?_
 refine aa <| ab <| bA [] (.n 16 (.u64 ((((((aE hi ((UInt64.ofInt r_).toNat)) ||| (aJ lo (((64 : UInt64) - (UInt64.ofInt r_)).toNat))) * 4294967296) + (aJ (aE lo ((UInt64.ofInt r_).toNat)) ((32 : UInt64).toNat))) - (q1 * (aE y_ ((UInt64.ofInt r_).toNat)))) - (((((((aE hi ((UInt64.ofInt r_).toNat)) ||| (aJ lo (((64 : UInt64) - (UInt64.ofInt r_)).toNat))) * 4294967296) + (aJ (aE lo ((UInt64.ofInt r_).toNat)) ((32 : UInt64).toNat))) - (q1 * (aE y_ ((UInt64.ofInt r_).toNat)))) / (aJ (aE y_ ((UInt64.ofInt r_).toNat)) ((32 : UInt64).toNat))) * (aJ (aE y_ ((UInt64.ofInt r_).toNat)) ((32 : UInt64).toNat))))) .a) qe (by kernel_rfl) ?_
 refine aa <| kS (fun L wr => ∃ (q0 : UInt64), qq hi lo y_ r_ q1 q0 = some r ∧ L = [(2, .u64 (aE y_ ((UInt64.ofInt r_).toNat))), (8, .u64 (UInt64.ofInt r_)), (14, .u64 ((aE lo ((UInt64.ofInt r_).toNat)) &&& 4294967295)), (15, .u64 q1), (17, .u64 (((((aE hi ((UInt64.ofInt r_).toNat)) ||| (aJ lo (((64 : UInt64) - (UInt64.ofInt r_)).toNat))) * 4294967296) + (aJ (aE lo ((UInt64.ofInt r_).toNat)) ((32 : UInt64).toNat))) - (q1 * (aE y_ ((UInt64.ofInt r_).toNat))))), (18, .u64 q0)] ∧ Cx F O w wr []) ?_ ?_
 ·
  refine D4 (fun L wr => ∃ (OE : UInt64), nW hi lo y_ r_ q1 OE = some r ∧ L = [(2, .u64 (aE y_ ((UInt64.ofInt r_).toNat))), (8, .u64 (UInt64.ofInt r_)), (14, .u64 ((aE lo ((UInt64.ofInt r_).toNat)) &&& 4294967295)), (15, .u64 q1), (17, .u64 (((((aE hi ((UInt64.ofInt r_).toNat)) ||| (aJ lo (((64 : UInt64) - (UInt64.ofInt r_)).toNat))) * 4294967296) + (aJ (aE lo ((UInt64.ofInt r_).toNat)) ((32 : UInt64).toNat))) - (q1 * (aE y_ ((UInt64.ofInt r_).toNat))))), (18, .u64 OE)] ∧ Cx F O w wr []) ?_ ?_
  ·
   refine pc (jM hi lo y_ r_ q1) (fun s L wr => ∃ (r9 : UInt64) (CR : UInt64), (r9, CR) = s ∧ L = [(2, .u64 (aE y_ ((UInt64.ofInt r_).toNat))), (8, .u64 (UInt64.ofInt r_)), (9, .u64 (aJ (aE y_ ((UInt64.ofInt r_).toNat)) ((32 : UInt64).toNat))), (10, .u64 ((aE y_ ((UInt64.ofInt r_).toNat)) &&& 4294967295)), (14, .u64 ((aE lo ((UInt64.ofInt r_).toNat)) &&& 4294967295)), (15, .u64 q1), (16, .u64 r9), (17, .u64 (((((aE hi ((UInt64.ofInt r_).toNat)) ||| (aJ lo (((64 : UInt64) - (UInt64.ofInt r_)).toNat))) * 4294967296) + (aJ (aE lo ((UInt64.ofInt r_).toNat)) ((32 : UInt64).toNat))) - (q1 * (aE y_ ((UInt64.ofInt r_).toNat))))), (18, .u64 CR)] ∧ Cx F O w wr []) ((((((aE hi ((UInt64.ofInt r_).toNat)) ||| (aJ lo (((64 : UInt64) - (UInt64.ofInt r_)).toNat))) * 4294967296) + (aJ (aE lo ((UInt64.ofInt r_).toNat)) ((32 : UInt64).toNat))) - (q1 * (aE y_ ((UInt64.ofInt r_).toNat)))) - (((((((aE hi ((UInt64.ofInt r_).toNat)) ||| (aJ lo (((64 : UInt64) - (UInt64.ofInt r_)).toNat))) * 4294967296) + (aJ (aE lo ((UInt64.ofInt r_).toNat)) ((32 : UInt64).toNat))) - (q1 * (aE y_ ((UInt64.ofInt r_).toNat)))) / (aJ (aE y_ ((UInt64.ofInt r_).toNat)) ((32 : UInt64).toNat))) * (aJ (aE y_ ((UInt64.ofInt r_).toNat)) ((32 : UInt64).toNat))), (((((aE hi ((UInt64.ofInt r_).toNat)) ||| (aJ lo (((64 : UInt64) - (UInt64.ofInt r_)).toNat))) * 4294967296) + (aJ (aE lo ((UInt64.ofInt r_).toNat)) ((32 : UInt64).toNat))) - (q1 * (aE y_ ((UInt64.ofInt r_).toNat)))) / (aJ (aE y_ ((UInt64.ofInt r_).toNat)) ((32 : UInt64).toNat))) r hm ⟨(((((aE hi ((UInt64.ofInt r_).toNat)) ||| (aJ lo (((64 : UInt64) - (UInt64.ofInt r_)).toNat))) * 4294967296) + (aJ (aE lo ((UInt64.ofInt r_).toNat)) ((32 : UInt64).toNat))) - (q1 * (aE y_ ((UInt64.ofInt r_).toNat)))) - (((((((aE hi ((UInt64.ofInt r_).toNat)) ||| (aJ lo (((64 : UInt64) - (UInt64.ofInt r_)).toNat))) * 4294967296) + (aJ (aE lo ((UInt64.ofInt r_).toNat)) ((32 : UInt64).toNat))) - (q1 * (aE y_ ((UInt64.ofInt r_).toNat)))) / (aJ (aE y_ ((UInt64.ofInt r_).toNat)) ((32 : UInt64).toNat))) * (aJ (aE y_ ((UInt64.ofInt r_).toNat)) ((32 : UInt64).toNat))), (((((aE hi ((UInt64.ofInt r_).toNat)) ||| (aJ lo (((64 : UInt64) - (UInt64.ofInt r_)).toNat))) * 4294967296) + (aJ (aE lo ((UInt64.ofInt r_).toNat)) ((32 : UInt64).toNat))) - (q1 * (aE y_ ((UInt64.ofInt r_).toNat)))) / (aJ (aE y_ ((UInt64.ofInt r_).toNat)) ((32 : UInt64).toNat)), rfl, rfl, fY⟩ (by kernel_rfl) ?_
   intro yU L_ wi y0 jd dd nF
   obtain ⟨r9, CR, rfl, rfl, fZ⟩ := jd
   have hm := dd; simp only [jM] at hm
   clear dd
   refine ab <| ab <| bA [] (.n 113 (.b ((decide ((4294967296 : UInt64) ≤ CR)) || (decide ((((4294967296 : UInt64) * r9) + ((aE lo ((UInt64.ofInt r_).toNat)) &&& 4294967295)) < (CR * ((aE y_ ((UInt64.ofInt r_).toNat)) &&& 4294967295)))))) .a) qe (by kernel_rfl) ?_
   refine aa <| cw ((decide ((4294967296 : UInt64) ≤ CR)) || (decide ((((4294967296 : UInt64) * r9) + ((aE lo ((UInt64.ofInt r_).toNat)) &&& 4294967295)) < (CR * ((aE y_ ((UInt64.ofInt r_).toNat)) &&& 4294967295))))) (by kernel_rfl) (fun uc => ?_) (fun uc => ?_)
   · rw [if_pos uc] at hm
     refine aS <| aa <| cu <| ab <| bA [] (.n 18 (.u64 (CR - 1)) (.s (.aP (.aP .z)))) qe (by kernel_rfl) ?_
     refine aa <| ab <| bA [] (.n 16 (.u64 (r9 + (aJ (aE y_ ((UInt64.ofInt r_).toNat)) ((32 : UInt64).toNat)))) (.aP (.ua (.s .a)))) qe (by kernel_rfl) ?_
     refine aa <| ab <| bA [] (.n 120 (.b (decide ((4294967296 : UInt64) ≤ (r9 + (aJ (aE y_ ((UInt64.ofInt r_).toNat)) ((32 : UInt64).toNat)))))) .a) qe (by kernel_rfl) ?_
     refine aa <| bb ((4294967296 : UInt64) ≤ (r9 + (aJ (aE y_ ((UInt64.ofInt r_).toNat)) ((32 : UInt64).toNat)))) (by kernel_rfl) (fun ud => ?_) (fun ud => ?_)
     · rw [if_pos ud] at hm
       refine iq (G8 (by decide) (fe (kG ?_)))
       have hm := d_ hm nF
       exact iy ⟨CR - 1, hm, rfl, fZ⟩ (by kernel_rfl)
     rw [if_neg ud] at hm
     refine aS <| hH ?_
     exact jR (r9 + (aJ (aE y_ ((UInt64.ofInt r_).toNat)) ((32 : UInt64).toNat)), CR - 1) (Option.some.inj hm).symm ⟨r9 + (aJ (aE y_ ((UInt64.ofInt r_).toNat)) ((32 : UInt64).toNat)), CR - 1, rfl, rfl, fZ⟩ (by kernel_rfl)
   rw [if_neg (by rw [uc]; decide)] at hm
   refine iq (fe (fe (kG ?_)))
   have hm := d_ hm nF
   exact iy ⟨CR, hm, rfl, fZ⟩ (by kernel_rfl)
  rintro L_ vO ⟨OE, hm, rfl, gY⟩
  simp only [nW] at hm
  exact iy ⟨OE, hm, rfl, gY⟩ (by kernel_rfl)
 rintro L_ Av ⟨q0, hm, rfl, dK⟩
 simp only [qq] at hm
 refine ab <| bA [] (.n 6 (.u64 ((q1 * 4294967296) + q0)) (.n 7 (.u64 (aJ ((((((((aE hi ((UInt64.ofInt r_).toNat)) ||| (aJ lo (((64 : UInt64) - (UInt64.ofInt r_)).toNat))) * 4294967296) + (aJ (aE lo ((UInt64.ofInt r_).toNat)) ((32 : UInt64).toNat))) - (q1 * (aE y_ ((UInt64.ofInt r_).toNat)))) * 4294967296) + ((aE lo ((UInt64.ofInt r_).toNat)) &&& 4294967295)) - (q0 * (aE y_ ((UInt64.ofInt r_).toNat)))) ((UInt64.ofInt r_).toNat))) .z)) qe (by kernel_rfl) ?_
 refine aa <| aL ?_
 obtain rfl := Option.some.inj hm
 refine aM [.u64 ((q1 * 4294967296) + q0), .u64 (aJ ((((((((aE hi ((UInt64.ofInt r_).toNat)) ||| (aJ lo (((64 : UInt64) - (UInt64.ofInt r_)).toNat))) * 4294967296) + (aJ (aE lo ((UInt64.ofInt r_).toNat)) ((32 : UInt64).toNat))) - (q1 * (aE y_ ((UInt64.ofInt r_).toNat)))) * 4294967296) + ((aE lo ((UInt64.ofInt r_).toNat)) &&& 4294967295)) - (q0 * (aE y_ ((UInt64.ofInt r_).toNat)))) ((UInt64.ofInt r_).toNat))] qe (by kernel_rfl) ?_
 exact ⟨rfl, dK⟩
theorem Ah {F O : Nat → Prop} {w : World} (w_ : UInt64) (k : Cx F O w w []) (r : (List UInt8)) (hm : mB w_ = some r) :
    Calls Try.prog 81 (ad [.u64 w_]) w (fun e w' => ∃ A n c, r.length = n ∧ e = .returned (SV.val (sl A n c)) ∧ Cx F O w w' [Ow e8 A n c r]) := by
 unfold mB at hm
 refine calls [.u64 w_] Try.func81 rfl (of_decide_eq_true (by kernel_rfl)) ?_
 refine ab <| bA [] .a qe (by kernel_rfl) ?_
 refine aa <| ab <| ao <| ag <| vj im e8 (0 : UInt8) rfl [] 5 (I 8) (I 8) (8 : Int) (8 : Int) (by kernel_rfl) (by omega) (by omega) (by omega) k ?_
 intro A0 lh k_
 refine bn 1 [] (.n 3 (sl A0 (Int.toNat (8 : Int)) (Int.toNat (8 : Int))) (.s .a)) qe (by kernel_rfl) ?_
 refine af <| aa <| ab <| ab <| bA [] (.n 6 (I 0) .a) qe (by kernel_rfl) ?_
 refine aa <| cu <| pc (mm w_) (fun s L wr => ∃ (b : List UInt8) (aC : Int), (b, aC) = s ∧ L = [(0, .u64 w_), (3, sl A0 (Int.toNat (8 : Int)) (Int.toNat (8 : Int))), (6, I aC)] ∧ Cx F O w wr [Ow e8 A0 (Int.toNat (8 : Int)) (Int.toNat (8 : Int)) b]) (List.replicate (Int.toNat (8 : Int)) (0 : UInt8), (0 : Int)) r hm ⟨List.replicate (Int.toNat (8 : Int)) (0 : UInt8), (0 : Int), rfl, rfl, k_⟩ (by kernel_rfl) ?_
 intro yU L_ l4 y0 jd dd nF
 obtain ⟨b, aC, rfl, rfl, da⟩ := jd
 have hm := dd; simp only [mm] at hm
 clear dd
 refine ab <| bA [] (.n 7 (.b (decide (aC < 8))) .a) qe (by kernel_rfl) ?_
 refine aa <| ab <| bb (aC < 8) (by kernel_rfl) (fun hc => ?_) (fun hc => ?_)
 · rw [if_pos hc] at hm
   refine aS <| aa <| ab <| cu <| ab <| bA [] (.n 4 (I aC) (.s .a)) qe (by kernel_rfl) ?_
   refine aa <| ao ?_
   obtain ⟨u, yq, hm⟩ := ob hm
   obtain ⟨eL, jC, hm⟩ := ob hm
   refine bn 8 [] (.n 15 (.u8 (UInt8.ofNat (aJ w_ (Int.toNat (aB (8 * aC)))).toNat)) (.n 16 (.v (.pointer (nv A0 aC 1))) (.s .a))) (qp (0 ≤ aB (8 * aC)) (fL yq) <| qJ (da.rd 0 rfl) jC (da.len 0 rfl) <| qe) (by kernel_rfl) ?_
   refine ag <| zH (E := e8) (kk := 0) (sv := .u8 (UInt8.ofNat (aJ w_ (Int.toNat (aB (8 * aC)))).toNat)) (svs := [.u8 (UInt8.ofNat (aJ w_ (Int.toNat (aB (8 * aC)))).toNat)]) [] 0 (UInt8.ofNat (aJ w_ (Int.toNat (aB (8 * aC)))).toNat) (by kernel_rfl) (Pt.x6 A0 aC 1) da rfl (eC jC).2 (y1 (E := e8) (da.rd 0 rfl) (by decide) (kE jC).1 (eC jC).2) rfl (Nat.le_of_ble_eq_true (by kernel_rfl)) ?_
   intro qf dF
   refine af <| hH <| aa <| bA [] (.n 6 (I (aB (aC + 1))) (.ss (.kk .z))) qe (by kernel_rfl) ?_
   exact jR (b.set (Int.toNat aC) (UInt8.ofNat (aJ w_ (Int.toNat (aB (8 * aC)))).toNat), aB (aC + 1)) (Option.some.inj hm).symm ⟨b.set (Int.toNat aC) (UInt8.ofNat (aJ w_ (Int.toNat (aB (8 * aC)))).toNat), aB (aC + 1), rfl, rfl, dF⟩ (by kernel_rfl)
 rw [if_neg hc] at hm
 refine iq (fe (fe (kG ?_)))
 have hm := d_ hm nF
 refine aa <| ab <| bA [] (.n 2 (sl A0 (Int.toNat (8 : Int)) (Int.toNat (8 : Int))) .z) qe (by kernel_rfl) ?_
 refine aa <| aL ?_
 obtain rfl := Option.some.inj hm
 refine aM [sl A0 (Int.toNat (8 : Int)) (Int.toNat (8 : Int))] qe (by kernel_rfl) ?_
 exact ⟨A0, Int.toNat (8 : Int), Int.toNat (8 : Int), da.len 0 rfl, rfl, da⟩
theorem CB {F O : Nat → Prop} {w : World} (h : ae UInt64 8) (k : Cx F O w w []) (r : (List UInt8)) (hm : oK h = some r) :
    Calls Try.prog 74 (ad [.agg [.ar cj h]]) w (fun e w' => ∃ A n c, r.length = n ∧ e = .returned (SV.val (sl A n c)) ∧ Cx F O w w' [Ow e8 A n c r]) := by
 unfold oK at hm
 refine calls [.agg [.ar cj h]] Try.func74 rfl (of_decide_eq_true (by kernel_rfl)) ?_
 refine ab <| ao <| ag <| gj [] 1 (.agg [.ar cj h]) [.ar cj h] (by kernel_rfl) k ?_
 intro g w_ k_
 refine bn 1 [] (.k .z) qe (by kernel_rfl) ?_
 refine af <| aa <| ab <| ao <| ag <| vj im e8 (0 : UInt8) rfl [] 6 (I 0) (I 64) (0 : Int) (64 : Int) (by kernel_rfl) (by omega) (by omega) (by omega) k_ ?_
 intro A0 lh da
 refine bn 1 [] (.n 3 (sl A0 (Int.toNat (0 : Int)) (Int.toNat (64 : Int))) (.s .a)) qe (by kernel_rfl) ?_
 refine af <| aa <| ab <| ab <| bA [] (.n 7 (.agg [.ar cj h]) (.n 8 (I 0) (.k .z))) (qT da 0 rfl 0 8 [.ar cj h] (by kernel_rfl) (by decide) <| qe) (by kernel_rfl) ?_
 refine aa <| cu ?_
 have en := da.ck (.s (.k .e))
 refine pc (nR h) (fun s L wr => ∃ (b : List UInt8) (aC : Int) (A1 : Option Addr) (n0 : Nat) (c0 : Nat), (b, aC) = s ∧ L = [(3, sl A1 n0 c0), (7, .agg [.ar cj h]), (8, I aC)] ∧ b.length = n0 ∧ Cx F O w wr [Ow e8 A1 n0 c0 b]) (List.replicate (Int.toNat (0 : Int)) (0 : UInt8), (0 : Int)) r hm ⟨List.replicate (Int.toNat (0 : Int)) (0 : UInt8), (0 : Int), A0, Int.toNat (0 : Int), Int.toNat (64 : Int), rfl, rfl, en.len 0 rfl, en⟩ (by kernel_rfl) ?_
 intro yU L_ l4 y0 jd dd nF
 obtain ⟨b, aC, A1, _, c0, rfl, rfl, rfl, dF⟩ := jd
 have hm := dd; simp only [nR] at hm
 clear dd
 refine ab <| bA [] (.n 9 (.b (decide (aC < 8))) .a) qe (by kernel_rfl) ?_
 refine aa <| ab <| bb (aC < 8) (by kernel_rfl) (fun hc => ?_) (fun hc => ?_)
 · rw [if_pos hc] at hm
   refine aS <| aa <| ab <| cu <| ab ?_
   obtain ⟨eL, jC, hm⟩ := ob hm
   refine bA [] (.n 5 (.u64 eL) (.s .a)) (qo (.u64 eL) <| qp ((0 ≤ aC ∧ aC < ((8 : Nat) : Int)) ∧ (SV.cl [.ar cj h])[Int.toNat aC * 1]? = some (SV.val (.u64 eL))) (LB (E := cj) jC rfl) <| qe) (by kernel_rfl) ?_
   refine aa <| ao <| bn 2 [] (.n 11 (sl A1 b.length c0) (.n 12 (.u64 eL) (.s .a))) qe (by kernel_rfl) ?_
   refine ag ?_
   obtain ⟨r_, dk, hm⟩ := ob hm
   refine aq [] 13 _ Kh (by kernel_rfl) (Ah (F := N0) (O := N0) _ (Cx.refl _) _ dk) ?_
   rintro e_ qf ⟨A2, _, c1, rfl, rfl, eA⟩
   have fJ := dF.call eA
   refine ⟨sl A2 r_.length c1, rfl, ?_⟩
   refine ag ?_
   obtain ⟨b1, wP, hm⟩ := ob hm
   obtain ⟨hz, hl⟩ := kV wP
   refine jG (E := e8) (v := sl A2 r_.length c1) (ys := r_) im [] 14 0 (by kernel_rfl) fJ rfl (Src.sl (fJ.rd 1 rfl) (fJ.len 1 rfl) (by rfl)) (fJ.len 1 rfl) (by have := fJ.len 0 rfl; have := (fJ.len 1 rfl); omega) ?_
   intro A3 c2 p7 gi
   rw [← hl] at gi
   have fY := gi.ck (.k .z)
   refine bn 1 [] (.n 3 (sl A3 (b.length + r_.length) c2) (.fQ (.s .a))) qe (by kernel_rfl) ?_
   refine af <| hH <| aa <| bA [] (.n 8 (I (aB (aC + 1))) (.kk .z)) qe (by kernel_rfl) ?_
   exact jR (b1, aB (aC + 1)) (Option.some.inj hm).symm ⟨b1, aB (aC + 1), A3, b.length + r_.length, c2, rfl, rfl, fY.len 0 rfl, fY⟩ (by kernel_rfl)
 rw [if_neg hc] at hm
 refine iq (fe (fe (kG ?_)))
 have hm := d_ hm nF
 refine aa <| ab <| bA [] (.n 2 (sl A1 b.length c0) .z) qe (by kernel_rfl) ?_
 refine aa <| aL ?_
 obtain rfl := Option.some.inj hm
 refine aM [sl A1 b.length c0] qe (by kernel_rfl) ?_
 exact ⟨A1, b.length, c0, dF.len 0 rfl, rfl, dF⟩
theorem tF {F O : Nat → Prop} {w : World} (qU : ae UInt64 8) (bC : UInt64) (bD : UInt64) (cA : List UInt8) (aA : Int) (node : Bool) (a6 : Nat) (dA : Option Addr) (k9 : Nat) (dB : Nat) (k : Cx F O w w [Bx 132 a6 [.ar cj qU, .u64 bC, .u64 bD, sl dA k9 dB, I aA, .v (.func (.func 73) ⟨SV.ad []⟩ ⟨SV.ad []⟩), .v (.func (.func 74) ⟨SV.ad []⟩ ⟨SV.ad []⟩)], Ow e8 dA k9 dB cA]) (r : (List UInt8 × ae UInt64 8 × UInt64 × UInt64 × List UInt8 × Int)) (hm : iB qU bC bD cA aA node = some r) :
    Calls Try.prog 116 (ad [pt a6 0, .b node]) w (fun e w' => ∃ A n c A1 n1 c1, r.1.length = n ∧ r.2.2.2.2.1.length = n1 ∧ e = .returned (SV.val (sl A n c)) ∧ Cx F O w w' [Ow e8 A n c r.1, Bx 132 a6 [.ar cj r.2.1, .u64 r.2.2.1, .u64 r.2.2.2.1, sl A1 n1 c1, I r.2.2.2.2.2, .v (.func (.func 73) ⟨SV.ad []⟩ ⟨SV.ad []⟩), .v (.func (.func 74) ⟨SV.ad []⟩ ⟨SV.ad []⟩)], Ow e8 A1 n1 c1 r.2.2.2.2.1]) := by
 unfold iB at hm
 obtain rfl := k.len 1 rfl
 refine calls [pt a6 0, .b node] Try.func116 rfl (of_decide_eq_true (by kernel_rfl)) ?_
 refine ab <| bA [] .a qe (by kernel_rfl) ?_
 refine aa <| ab <| Ho (fun L wr => ∃ (c0 : UInt64) (c2 : UInt64) (g : Nat), i_ qU bC bD cA aA node c0 c2 = some r ∧ L = [(0, pt a6 0), (1, .b node), (5, pt g 0)] ∧ Cx F O w wr [Bx 132 a6 [.ar cj qU, .u64 bC, .u64 bD, sl dA cA.length dB, I aA, .v (.func (.func 73) ⟨SV.ad []⟩ ⟨SV.ad []⟩), .v (.func (.func 74) ⟨SV.ad []⟩ ⟨SV.ad []⟩)], Ow e8 dA cA.length dB cA, Bx 130 g [.u64 c0, .u64 c2]]) ?_ ?_
 ·
  have k_ := k.drew 1
  refine qy bw (.q 0 2 (.q 1 2 (.q 2 1 (.q 3 1 (.q 4 2 (.q 5 2 (.q 6 2 (.q 7 2 (.q 8 1 (.q 9 1 (.br 10 14 (.q 11 2 (.q 12 2 (.q 13 3 (.op 14 (.op 15 (.q 16 3 .nil)))))) (.op 10 (.q 11 2 (.q 12 2 (.q 13 3 (.op 15 (.q 16 3 .nil))))))))))))))))) [10, 14, 15] k_ (.c (.kk .e) (.c (.kk .e) (.c (.kk .e) .l))) (by kernel_rfl) (fun _ => ?_)
  refine bx 2 2 [] (.n 9 (pt a6 0) .a) (fun x hx => qs a6 0 <| qe) (by kernel_rfl) (fun _ => ?_)
  refine bx 2 1 [] (.n 11 (.agg [.u64 bC, .u64 bD]) (.s .a)) (fun x hx => qs a6 0 <| qT hx 0 rfl 8 2 [.u64 bC, .u64 bD] (by kernel_rfl) (by decide) <| qe) (by kernel_rfl) (fun _ => ?_)
  refine bx 4 2 [] (.n 15 (sl dA cA.length dB) .a) (fun x hx => qs a6 0 <| qs a6 0 <| qB hx 0 rfl 10 (sl dA cA.length dB) (by kernel_rfl) <| qe) (by kernel_rfl) (fun _ => ?_)
  refine bx 2 1 [] (.n 17 (.u64 (UInt64.ofInt ((cA.length : Nat) : Int))) (.s .a)) (fun x hx => qe) (by kernel_rfl) (fun _ => ?_)
  refine LA (by kernel_rfl) (by kernel_rfl) rfl rfl ?_ ?_
  ·
   obtain ⟨r_, dk, hm⟩ := ob hm
   refine aq [] 18 _ sO (by kernel_rfl) (pg (F := N0) (O := N0) _ _ _ (Cx.refl _) _ dk) ?_
   rintro e_ w_ ⟨rfl, da⟩
   have dF := k_.call da
   refine ⟨.eO [.agg [.u64 r_.1, .u64 r_.2.1], .b r_.2.2], rfl, ?_⟩
   refine ⟨dF, fun _ => ?_⟩
   refine bx 2 2 [] (.n 7 (.eO [.agg [.u64 r_.1, .u64 r_.2.1], .b r_.2.2]) (.n 19 (.agg [.u64 r_.1, .u64 r_.2.1]) (.lj .a))) (fun x hx => qe) (by kernel_rfl) (fun _ => ?_)
   refine bx 1 3 [] (.n 20 (.b r_.2.2) (.s .a)) (fun x hx => qe) (by kernel_rfl) (fun _ => ?_)
   refine bZ (by kernel_rfl) rfl <| bY [] 5 [.u64 0, .u64 0] (by kernel_rfl) dF ?_
   intro g1 lh en
   refine ⟨(en.ck (.kk .z)), fun _ => ?_⟩
   refine bZ (by kernel_rfl) rfl <| ey [] 2 (.agg [.u64 r_.1, .u64 r_.2.1]) [.u64 r_.1, .u64 r_.2.1] (Pt.at g1 0) en rfl .all (by kernel_rfl) (by kernel_rfl) ?_
   intro l4 eA
   refine ⟨(eA.ck (.kk .z)), fun _ => ?_⟩
   refine bx 1 3 [] (.k (.ss .a)) (fun x hx => qe) (by kernel_rfl) (fun _ => ?_)
   refine ct ?_
   exact iy ⟨r_.1, r_.2.1, g1, hm, rfl, eA⟩ (by kernel_rfl)
  ·
   refine bY [] 5 [.u64 0, .u64 0] (by kernel_rfl) k_ ?_
   intro g1 w_ da
   refine ⟨(da.ck (.kk .z)), fun _ => ?_⟩
   refine bZ (by kernel_rfl) rfl ?_
   obtain ⟨r_, dk, hm⟩ := ob hm
   refine aq [] 18 _ sO (by kernel_rfl) (pg (F := N0) (O := N0) _ _ _ (Cx.refl _) _ dk) ?_
   rintro e_ lh ⟨rfl, dF⟩
   have en := da.call dF
   refine ⟨.eO [.agg [.u64 r_.1, .u64 r_.2.1], .b r_.2.2], rfl, ?_⟩
   refine ⟨(en.ck (.kk .z)), fun _ => ?_⟩
   refine bx 2 2 [] (.n 7 (.eO [.agg [.u64 r_.1, .u64 r_.2.1], .b r_.2.2]) (.n 19 (.agg [.u64 r_.1, .u64 r_.2.1]) (.s (.k (.ss .a))))) (fun x hx => qe) (by kernel_rfl) (fun _ => ?_)
   refine bx 1 3 [] (.n 20 (.b r_.2.2) (.s .a)) (fun x hx => qe) (by kernel_rfl) (fun _ => ?_)
   refine bZ (by kernel_rfl) rfl <| ey [] 2 (.agg [.u64 r_.1, .u64 r_.2.1]) [.u64 r_.1, .u64 r_.2.1] (Pt.at g1 0) en rfl .all (by kernel_rfl) (by kernel_rfl) ?_
   intro l4 eA
   refine ⟨(eA.ck (.kk .z)), fun _ => ?_⟩
   refine bx 1 3 [] (.ss .a) (fun x hx => qe) (by kernel_rfl) (fun _ => ?_)
   refine ct ?_
   exact iy ⟨r_.1, r_.2.1, g1, hm, rfl, eA⟩ (by kernel_rfl)
 rintro L_ qf ⟨c0, c2, g, hm, rfl, fJ⟩
 simp only [i_] at hm
 refine aa <| ab ?_
 have gi := fJ.drew 1
 refine qy bw (.q 21 1 (.q 22 1 (.q 0 3 (.q 1 3 (.q 2 2 (.q 3 2 (.q 4 3 (.q 5 3 (.q 6 2 (.q 7 1 (.q 8 3 (.q 9 3 (.q 10 2 (.q 11 1 (.q 12 3 (.q 13 3 (.q 14 2 (.q 15 1 (.q 16 3 (.q 17 3 (.q 18 2 (.q 19 1 (.op 20 (.op 23 (.op 24 (.q 25 3 .nil)))))))))))))))))))))))))) [20, 23, 24] gi (.c (.kk (.k .e)) (.c (.kk (.k .e)) (.c (.kk (.k .e)) .l))) (by kernel_rfl) (fun _ => ?_)
 refine bx 2 1 [] (.n 42 (.agg [.u64 c0, .u64 c2]) (.n 43 (.b node) (.k .z))) (fun x hx => qT hx 2 rfl 0 2 [.u64 c0, .u64 c2] (by kernel_rfl) (by decide) <| qe) (by kernel_rfl) (fun _ => ?_)
 refine bx 2 3 [] (.n 22 (pt a6 0) .a) (fun x hx => qs a6 0 <| qe) (by kernel_rfl) (fun _ => ?_)
 refine bx 2 2 [] (.n 24 (.v (.func (.func 74) ⟨SV.ad []⟩ ⟨SV.ad []⟩)) (.s .a)) (fun x hx => qs a6 0 <| qB hx 0 rfl 13 (.v (.func (.func 74) ⟨SV.ad []⟩ ⟨SV.ad []⟩)) (by kernel_rfl) <| qe) (by kernel_rfl) (fun _ => ?_)
 refine bx 2 3 [] (.n 26 (pt a6 0) .a) (fun x hx => qs a6 0 <| qe) (by kernel_rfl) (fun _ => ?_)
 refine bx 1 2 [] (.n 27 (pt a6 12) (.s .a)) (fun x hx => qs a6 0 <| qe) (by kernel_rfl) (fun _ => ?_)
 refine bx 1 1 [] (.n 28 (.v (.func (.func 73) ⟨SV.ad []⟩ ⟨SV.ad []⟩)) (.s .a)) (fun x hx => qB hx 0 rfl 12 (.v (.func (.func 73) ⟨SV.ad []⟩ ⟨SV.ad []⟩)) (by kernel_rfl) <| qe) (by kernel_rfl) (fun _ => ?_)
 refine bx 2 3 [] (.n 30 (pt a6 0) .a) (fun x hx => qs a6 0 <| qe) (by kernel_rfl) (fun _ => ?_)
 refine bx 1 2 [] (.n 31 (pt a6 0) (.s .a)) (fun x hx => qs a6 0 <| qe) (by kernel_rfl) (fun _ => ?_)
 refine bx 1 1 [] (.n 32 (.agg [.ar cj qU]) (.s .a)) (fun x hx => qT hx 0 rfl 0 8 [.ar cj qU] (by kernel_rfl) (by decide) <| qe) (by kernel_rfl) (fun _ => ?_)
 refine bx 2 3 [] (.n 34 (pt a6 0) .a) (fun x hx => qs a6 0 <| qe) (by kernel_rfl) (fun _ => ?_)
 refine bx 1 2 [] (.n 35 (pt a6 10) (.s .a)) (fun x hx => qs a6 0 <| qe) (by kernel_rfl) (fun _ => ?_)
 refine bx 1 1 [] (.n 36 (sl dA cA.length dB) (.s .a)) (fun x hx => qB hx 0 rfl 10 (sl dA cA.length dB) (by kernel_rfl) <| qe) (by kernel_rfl) (fun _ => ?_)
 refine bx 2 3 [] (.n 38 (pt a6 0) (.aP (.kk .z))) (fun x hx => qs a6 0 <| qe) (by kernel_rfl) (fun _ => ?_)
 refine bx 1 2 [] (.n 39 (pt a6 11) (.s .a)) (fun x hx => qs a6 0 <| qe) (by kernel_rfl) (fun _ => ?_)
 refine bx 1 1 [] (.n 40 (I aA) (.s .a)) (fun x hx => qB hx 0 rfl 11 (I aA) (by kernel_rfl) <| qe) (by kernel_rfl) (fun _ => ?_)
 refine bZ (by kernel_rfl) rfl ?_
 obtain ⟨ah, dt, hm⟩ := ob hm
 refine aq [] 41 _ zc (by kernel_rfl) (pD (F := N0) (O := N0) _ _ _ _ _ (Ro.n0 (gi.rd 1 rfl)) (gi.len 1 rfl) (gi.Az 1 rfl) (Cx.refl _) _ dt) ?_
 rintro e_ p7 ⟨A0, _, c3, rfl, rfl, fY⟩
 have fZ := gi.call fY
 refine ⟨sl A0 ah.length c3, rfl, ?_⟩
 refine ⟨(fZ.ck (.kk (.k .z))), fun _ => ?_⟩
 refine bZ (by kernel_rfl) rfl ?_
 obtain ⟨bh, gX, hm⟩ := ob hm
 refine mw [] 44 [] [.agg [.ar cj qU], sl A0 ah.length c3, .agg [.u64 c0, .u64 c2], .b true, .b node] [] FA (by kernel_rfl) (wm (F := N0) (O := N0) _ _ _ _ _ _ _ _ _ (Ro.n0 (fZ.rd 3 rfl)) (fZ.len 3 rfl) (fZ.Az 3 rfl) (Cx.refl _) _ gX) ?_
 rintro e_ sV ⟨rfl, gY⟩
 have dK := fZ.call gY
 refine ⟨.agg [.ar cj bh], rfl, ?_⟩
 have c_ := dK.ck (.kk (.k .z))
 refine ⟨c_, fun _ => ?_⟩
 refine bZ (by kernel_rfl) rfl ?_
 obtain ⟨cD, oV, hm⟩ := ob hm
 refine mw [] 45 [] [.agg [.ar cj bh]] [] Kc (by kernel_rfl) (CB (F := N0) (O := N0) _ (Cx.refl _) _ oV) ?_
 rintro e_ wi ⟨A2, _, c4, rfl, rfl, ez⟩
 have dH := c_.call ez
 refine ⟨sl A2 cD.length c4, rfl, ?_⟩
 refine ⟨(dH.ck (.kk (.k .z))), fun _ => ?_⟩
 refine bx 1 3 [] (.n 4 (sl A2 cD.length c4) .z) (fun x hx => qe) (by kernel_rfl) (fun _ => ?_)
 refine ct <| aa <| aL ?_
 obtain rfl := Option.some.inj hm
 refine aM [sl A2 cD.length c4] qe (by kernel_rfl) ?_
 have eX := (((dH.pk (.t .h)).pk (.t .h)).pk (.t (.t (.t .h)))).ck (.kk (.k .z))
 exact ⟨A2, cD.length, c4, dA, cA.length, dB, eX.len 0 rfl, eX.len 2 rfl, rfl, eX⟩
theorem tU {F O : Nat → Prop} {w : World} (fj : Int) (eg : Int) (cy : List UInt8) (dD : List UInt8) (iZ : Bool) (ed : UInt64) (ml : ae UInt64 8) (dm : UInt64) (dq : UInt64) (fx : List UInt8) (fc : Int) (gu : Int) (jc : Nat) (eR : Option Addr) (hZ : Nat) (eU : Nat) (fU : Option Addr) (la : Nat) (fV : Nat) (iO : Nat) (gD : Option Addr) (iP : Nat) (gE : Nat) (k : Cx F O w w [Bx 115 jc [I fj, I eg, sl eR hZ eU, sl fU la fV, .b iZ, .u64 ed, .v (.iface 126 (SV.val (pt iO 0)))], Ow e8 eR hZ eU cy, Ow e8 fU la fV dD, Bx 132 iO [.ar cj ml, .u64 dm, .u64 dq, sl gD iP gE, I fc, .v (.func (.func 73) ⟨SV.ad []⟩ ⟨SV.ad []⟩), .v (.func (.func 74) ⟨SV.ad []⟩ ⟨SV.ad []⟩)], Ow e8 gD iP gE fx]) (r : (List UInt8 × Int × ae UInt64 8 × UInt64 × UInt64 × List UInt8 × Int × Int × Int × List UInt8 × List UInt8 × Bool × UInt64)) (hm : eo fj eg cy dD iZ ed ml dm dq fx fc gu = some r) :
    Calls Try.prog 66 (ad [pt jc 0, I gu]) w (fun e w' => ∃ A n c A1 n1 c1 A2 n2 c2 A3 n3 c3, r.1.length = n ∧ r.2.2.2.2.2.1.length = n1 ∧ r.2.2.2.2.2.2.2.2.2.1.length = n2 ∧ r.2.2.2.2.2.2.2.2.2.2.1.length = n3 ∧ e = .returned (SV.val (.eO [sl A n c, I r.2.1])) ∧ Cx F O w w' [Ow e8 A n c r.1, Bx 132 iO [.ar cj r.2.2.1, .u64 r.2.2.2.1, .u64 r.2.2.2.2.1, sl A1 n1 c1, I r.2.2.2.2.2.2.1, .v (.func (.func 73) ⟨SV.ad []⟩ ⟨SV.ad []⟩), .v (.func (.func 74) ⟨SV.ad []⟩ ⟨SV.ad []⟩)], Ow e8 A1 n1 c1 r.2.2.2.2.2.1, Bx 115 jc [I r.2.2.2.2.2.2.2.1, I r.2.2.2.2.2.2.2.2.1, sl A2 n2 c2, sl A3 n3 c3, .b r.2.2.2.2.2.2.2.2.2.2.2.1, .u64 r.2.2.2.2.2.2.2.2.2.2.2.2, .v (.iface 126 (SV.val (pt iO 0)))], Ow e8 A2 n2 c2 r.2.2.2.2.2.2.2.2.2.1, Ow e8 A3 n3 c3 r.2.2.2.2.2.2.2.2.2.2.1]) := by
 unfold eo at hm
 obtain rfl := k.len 1 rfl
 obtain rfl := k.len 2 rfl
 obtain rfl := k.len 4 rfl
 refine calls [pt jc 0, I gu] Try.func66 rfl (of_decide_eq_true (by kernel_rfl)) ?_
 refine ab <| bA [] .a qe (by kernel_rfl) ?_
 refine aa <| ab <| ab <| ao <| bn 1 [] (.n 6 (pt jc 0) .a) qe (by kernel_rfl) ?_
 refine ag ?_
 obtain ⟨r_, dk, hm⟩ := ob hm
 obtain ⟨F1, O1, lO, hO, rO, hF, hb⟩ := k.go (.i (.i (.i (.i (.i .e)))))
 refine aq [] 7 _ Ce (by kernel_rfl) (sR (F := F1) (O := O1) _ _ _ _ _ _ _ _ _ _ _ _ _ _ _ _ _ _ _ _ _ _ lO _ dk) ?_
 rintro e_ w_ ⟨A0, _, c0, A4, _, c4, A5, _, c5, rfl, rfl, rfl, rfl, k_⟩
 have da := hb w_ _ _ k_ (.c (.c (.c (.c (.c .n)))))
 refine ⟨.b false, rfl, ?_⟩
 refine af <| aa <| cw false (by kernel_rfl) (fun h => by cases h) (fun _ => ?_)
 refine aS <| aa <| ab <| ab <| ao <| bn 3 [] (.n 10 (.b (decide (gu < 1))) (.ss .a)) qe (by kernel_rfl) ?_
 refine my 10 (decide (gu < 1)) (.s .a) (by kernel_rfl) (fun hg => ?_) (fun hg => ?_)
 · rw [if_pos (of_decide_eq_true hg)] at hm
   refine bn 9 [10] (.n 19 (.b true) (.s .a)) qe (by kernel_rfl) ?_
   refine af <| aa <| cw true (by kernel_rfl) (fun _ => ?_) (fun h => by cases h)
   refine ab <| bA [] (.n 4 (sl none 0 0) (.n 5 (I 1) .z)) qe (by kernel_rfl) ?_
   refine aa <| aL (bI ?_)
   have dF := da.nil e8
   obtain rfl := Option.some.inj hm
   refine aM [sl none 0 0, I 1] qe (by kernel_rfl) ?_
   have en := (((((dF.pk (.t (.t (.t (.t .h))))).pk (.t (.t (.t (.t .h))))).pk (.t (.t (.t (.t .h))))).pk (.t (.t (.t (.t .h))))).pk (.t (.t (.t (.t .h))))).pk (.t (.t (.t (.t (.t .h)))))
   exact ⟨none, 0, 0, A0, r_.2.2.2.1.length, c0, A4, r_.2.2.2.2.2.2.2.1.length, c4, A5, r_.2.2.2.2.2.2.2.2.1.length, c5, en.len 0 rfl, en.len 2 rfl, en.len 4 rfl, en.len 5 rfl, rfl, en⟩
 · rw [if_neg (of_decide_eq_false hg)] at hm
   refine bn 5 [10] (.n 11 (I gu) (.n 15 (I r_.2.2.2.2.2.1) .a)) (qs jc 0 <| qs jc 0 <| qB da 2 rfl 0 (I r_.2.2.2.2.2.1) (by kernel_rfl) <| qe) (by kernel_rfl) ?_
   refine ag ?_
   obtain ⟨ah, dt, hm⟩ := ob hm
   refine aq [10] 16 _ zd (by kernel_rfl) (oW (F := N0) (O := N0) _ (Cx.refl _) _ dt) ?_
   rintro e_ lh ⟨rfl, eA⟩
   have fJ := da.call eA
   refine ⟨I ah, rfl, ?_⟩
   refine bn 3 [10] (.n 19 (.b (decide ((aB (Int.tdiv ah 2)) < gu))) (.fQ .a)) (qp ((2 : Int) ≠ (0 : Int)) (by omega) <| qe) (by kernel_rfl) ?_
   refine af <| aa <| bb ((aB (Int.tdiv ah 2)) < gu) (by kernel_rfl) (fun hc => ?_) (fun hc => ?_)
   · rw [if_pos hc] at hm
     refine ab <| bA [] (.n 4 (sl none 0 0) (.n 5 (I 1) .z)) qe (by kernel_rfl) ?_
     refine aa <| aL (bI ?_)
     have gi := fJ.nil e8
     obtain rfl := Option.some.inj hm
     refine aM [sl none 0 0, I 1] qe (by kernel_rfl) ?_
     have fY := (((((gi.pk (.t (.t (.t (.t .h))))).pk (.t (.t (.t (.t .h))))).pk (.t (.t (.t (.t .h))))).pk (.t (.t (.t (.t .h))))).pk (.t (.t (.t (.t .h))))).pk (.t (.t (.t (.t (.t .h)))))
     exact ⟨none, 0, 0, A0, r_.2.2.2.1.length, c0, A4, r_.2.2.2.2.2.2.2.1.length, c4, A5, r_.2.2.2.2.2.2.2.2.1.length, c5, fY.len 0 rfl, fY.len 2 rfl, fY.len 4 rfl, fY.len 5 rfl, rfl, fY⟩
   rw [if_neg hc] at hm
   refine aS <| aa <| ab ?_
   have fZ := fJ.drew 1
   refine qy bw (.q 0 1 (.q 1 1 (.q 2 1 (.q 3 0 (.q 8 0 (.q 9 0 (.q 4 1 (.q 5 1 (.q 6 0 (.q 7 0 (.q 11 1 (.q 12 1 (.op 10 (.q 13 1 (.q 14 1 (.q 15 1 .nil)))))))))))))))) [10] fZ (.c (.ss (.kk (.k .e))) .l) (by kernel_rfl) (fun _ => ?_)
   refine bx 3 1 [] (.n 22 (pt jc 6) (.s .a)) (fun x hx => qs jc 0 <| qs jc 0 <| qe) (by kernel_rfl) (fun _ => ?_)
   refine bx 3 0 [] (.n 29 (.v (.iface 126 (SV.val (pt iO 0)))) (.s .a)) (fun x hx => qB hx 2 rfl 6 (.v (.iface 126 (SV.val (pt iO 0)))) (by kernel_rfl) <| qe) (by kernel_rfl) (fun _ => ?_)
   refine bx 2 1 [] (.n 25 (pt jc 0) (.k (.s .a))) (fun x hx => qs jc 0 <| qe) (by kernel_rfl) (fun _ => ?_)
   refine bx 2 0 [] (.n 27 (.b r_.2.2.2.2.2.2.2.2.2.1) (.s .a)) (fun x hx => qs jc 0 <| qB hx 2 rfl 4 (.b r_.2.2.2.2.2.2.2.2.2.1) (by kernel_rfl) <| qe) (by kernel_rfl) (fun _ => ?_)
   refine bx 2 1 [] (.n 31 (I gu) (.n 32 (I gu) (.kk .z))) (fun x hx => qe) (by kernel_rfl) (fun _ => ?_)
   refine bZ (by kernel_rfl) rfl ?_
   obtain ⟨bh, gX, hm⟩ := ob hm
   obtain ⟨xD, xE, ni, FJ, tE, rP, xa⟩ := fZ.go (.i (.i (.r (.r (.r .e)))))
   refine o_ [] 30 126 (pt iO 0) [.b r_.2.2.2.2.2.2.2.2.2.1] wN rfl (by kernel_rfl) (tF (F := xD) (O := xE) _ _ _ _ _ _ _ _ _ _ ni _ gX) ?_
   rintro e_ l4 ⟨A6, _, c6, A7, _, c7, rfl, rfl, rfl, gY⟩
   have dK := xa l4 _ _ gY (.c (.c (.c .n)))
   refine ⟨sl A6 bh.1.length c6, rfl, ?_⟩
   refine ⟨(dK.ck (.ss (.s (.kk (.k .e))))), fun _ => ?_⟩
   obtain ⟨b, qu, hm⟩ := ob hm
   have hs := hP qu
   have hl := kU qu
   have hn : bh.1.length = bh.1.length := (dK.len 0 rfl)
   have kr : bh.1.length ≤ c6 := (dK.Az 0 rfl)
   obtain ⟨u, yq, hm⟩ := ob hm
   have hq := fL yq
   have pf : b.length ≤ Int.toNat gu := by omega
   refine bx 3 1 [] (.n 4 (sl A6 b.length (Int.toNat gu)) (.n 5 (I 0) .z)) (fun x hx => qp (0 ≤ gu ∧ gu ≤ ((c6 : Nat) : Int)) (by omega) <| qp (0 ≤ gu ∧ gu ≤ ((Int.toNat gu : Nat) : Int)) (by omega) <| qo (.v (.slice A6 b.length (Int.toNat gu))) <| qp (Value.slice (sA A6 0 (Int.toNat gu) 1) (Int.toNat gu - 0) (Int.toNat gu - 0) = .slice A6 b.length (Int.toNat gu)) (ur _ _ _ _ _ (by omega)) <| qe) (by kernel_rfl) (fun _ => ?_)
   refine ct <| aa <| aL ?_
   have c_ := dK.pre 0 rfl b.length (Int.toNat gu) b (by omega) (by omega) (by omega) (y7 qu rfl)
   obtain rfl := Option.some.inj hm
   refine aM [sl A6 b.length (Int.toNat gu), I 0] qe (by kernel_rfl) ?_
   exact ⟨A6, b.length, Int.toNat gu, A7, bh.2.2.2.2.1.length, c7, A4, r_.2.2.2.2.2.2.2.1.length, c4, A5, r_.2.2.2.2.2.2.2.2.1.length, c5, c_.len 0 rfl, c_.len 2 rfl, c_.len 4 rfl, c_.len 5 rfl, rfl, c_⟩
theorem vS {F O : Nat → Prop} {w : World} (cE : List UInt8) (bd : List UInt8) (ai : List UInt8) (b6 : Int) (bf : Int) (bo : List UInt8) (cm : List UInt8) (b7 : Bool) (aU : UInt64) (cF : ae UInt64 8) (aw : UInt64) (ax : UInt64) (a7 : List UInt8) (aV : Int) (ir : UInt64) (ei : ae UInt8 64) (dr : Int) (a6 : Nat) (cG : Option Addr) (di : Nat) (cH : Nat) (bL : Option Addr) (cg : Nat) (bM : Nat) (aH : Option Addr) (aX : Nat) (aI : Nat) (ee : Nat) (cO : Option Addr) (dw : Nat) (cP : Nat) (dW : Option Addr) (eE : Nat) (dX : Nat) (cI : Nat) (cp : Option Addr) (cQ : Nat) (cq : Nat) (jK : Ro F w cG (e8.all cE)) (iN : cE.length = di) (h_ : di ≤ cH) (gw : Ro F w bL (e8.all bd)) (gp : bd.length = cg) (fF : cg ≤ bM) (dE : Ro F w aH (e8.all ai)) (dN : ai.length = aX) (dj : aX ≤ aI) (k : Cx F O w w [Bx 72 a6 [I 1, I 64, .u32 4294967295, .u64 274877906944, .b false, sl cG di cH, sl bL cg bM, sl aH aX aI, pt ee 0, sl none 0 0, .u64 ir, .ar e8 ei, I dr, .v (.func (.func 40) ⟨SV.ad [pt a6 0]⟩ ⟨SV.ad []⟩)], Bx 115 ee [I b6, I bf, sl cO dw cP, sl dW eE dX, .b b7, .u64 aU, .v (.iface 126 (SV.val (pt cI 0)))], Ow e8 cO dw cP bo, Ow e8 dW eE dX cm, Bx 132 cI [.ar cj cF, .u64 aw, .u64 ax, sl cp cQ cq, I aV, .v (.func (.func 73) ⟨SV.ad []⟩ ⟨SV.ad []⟩), .v (.func (.func 74) ⟨SV.ad []⟩ ⟨SV.ad []⟩)], Ow e8 cp cQ cq a7]) (r : (ae UInt64 8 × UInt64 × UInt64 × List UInt8 × Int × Int × Int × List UInt8 × List UInt8 × Bool × UInt64 × List UInt8 × UInt64 × ae UInt8 64 × Int)) (hm : jT cE bd ai b6 bf bo cm b7 aU cF aw ax a7 aV ir ei dr = some r) :
    Calls Try.prog 57 (ad [pt a6 0]) w (fun e w' => ∃ A n c A1 n1 c1 A2 n2 c2 g n3 c3, r.2.2.2.1.length = n ∧ r.2.2.2.2.2.2.2.1.length = n1 ∧ r.2.2.2.2.2.2.2.2.1.length = n2 ∧ r.2.2.2.2.2.2.2.2.2.2.2.1.length = n3 ∧ e = .returned (SV.val (.eO [])) ∧ Cx F O w w' [Bx 132 cI [.ar cj r.1, .u64 r.2.1, .u64 r.2.2.1, sl A n c, I r.2.2.2.2.1, .v (.func (.func 73) ⟨SV.ad []⟩ ⟨SV.ad []⟩), .v (.func (.func 74) ⟨SV.ad []⟩ ⟨SV.ad []⟩)], Ow e8 A n c r.2.2.2.1, Bx 115 ee [I r.2.2.2.2.2.1, I r.2.2.2.2.2.2.1, sl A1 n1 c1, sl A2 n2 c2, .b r.2.2.2.2.2.2.2.2.2.1, .u64 r.2.2.2.2.2.2.2.2.2.2.1, .v (.iface 126 (SV.val (pt cI 0)))], Ow e8 A1 n1 c1 r.2.2.2.2.2.2.2.1, Ow e8 A2 n2 c2 r.2.2.2.2.2.2.2.2.1, Bx 72 a6 [I 1, I 64, .u32 4294967295, .u64 274877906944, .b false, sl cG di cH, sl bL cg bM, sl aH aX aI, pt ee 0, sl (some ⟨g, 0, none⟩) n3 c3, .u64 r.2.2.2.2.2.2.2.2.2.2.2.2.1, .ar e8 r.2.2.2.2.2.2.2.2.2.2.2.2.2.1, I r.2.2.2.2.2.2.2.2.2.2.2.2.2.2, .v (.func (.func 65) ⟨SV.ad [pt a6 0]⟩ ⟨SV.ad []⟩)], Sh (SH e8) [((some ⟨g, 0, none⟩), n3, c3)] [r.2.2.2.2.2.2.2.2.2.2.2.1]]) := by
 unfold jT at hm
 subst iN
 subst gp
 subst dN
 obtain rfl := k.len 2 rfl
 obtain rfl := k.len 3 rfl
 obtain rfl := k.len 5 rfl
 refine calls [pt a6 0] Try.func57 rfl (of_decide_eq_true (by kernel_rfl)) ?_
 refine ab <| bA [] (.n 6 (.b true) .a) (qs a6 0 <| qs a6 0 <| qB k 0 rfl 9 (sl none 0 0) (by kernel_rfl) <| qe) (by kernel_rfl) ?_
 refine aa <| cw true (by kernel_rfl) (fun _ => ?_) (fun h => by cases h)
 refine ab ?_
 have k_ := k.drew 1
 refine qy bw (.q 0 1 (.q 1 1 (.q 2 1 (.q 3 0 (.q 4 0 (.q 5 1 (.q 6 1 (.q 7 1 (.q 8 0 (.q 9 0 (.op 10 (.q 11 1 (.q 12 1 (.q 14 1 (.q 15 1 (.q 13 2 (.op 16 .nil))))))))))))))))) [10, 16] k_ (.c (.k .z) (.c (.z) .l)) (by kernel_rfl) (fun _ => ?_)
 refine bx 3 1 [] (.n 8 (pt a6 0) (.n 10 (pt a6 0) (.s .a))) (fun x hx => qs a6 0 <| qe) (by kernel_rfl) (fun _ => ?_)
 refine bx 2 0 [] (.n 12 (pt ee 0) (.k (.s .a))) (fun x hx => qs a6 0 <| qB hx 0 rfl 8 (pt ee 0) (by kernel_rfl) <| qe) (by kernel_rfl) (fun _ => ?_)
 refine bx 3 1 [] (.n 15 (pt a6 0) .a) (fun x hx => qs a6 0 <| qs a6 0 <| qe) (by kernel_rfl) (fun _ => ?_)
 refine bx 2 0 [] (.n 17 (I 64) (.s .a)) (fun x hx => qs a6 0 <| qB hx 0 rfl 1 (I 64) (by kernel_rfl) <| qe) (by kernel_rfl) (fun _ => ?_)
 refine bZ (by kernel_rfl) rfl ?_
 obtain ⟨r_, dk, hm⟩ := ob hm
 obtain ⟨F1, O1, lO, hO, rO, hF, hb⟩ := k_.go (.r (.i (.i (.i (.i (.i .e))))))
 refine aq [] 18 _ Cf (by kernel_rfl) (tU (F := F1) (O := O1) _ _ _ _ _ _ _ _ _ _ _ _ _ _ _ _ _ _ _ _ _ _ _ lO _ dk) ?_
 rintro e_ w_ ⟨A0, _, c0, A3, _, c4, A4, _, c5, A5, _, c6, rfl, rfl, rfl, rfl, rfl, da⟩
 have dF := hb w_ _ _ da (.c (.c (.c (.c (.c (.c .n))))))
 refine ⟨.eO [sl A0 r_.1.length c0, I r_.2.1], rfl, ?_⟩
 refine ⟨(dF.ck (.fQ (.ss (.k .e)))), fun _ => ?_⟩
 refine bx 4 1 [] (.n 7 (.eO [sl A0 r_.1.length c0, I r_.2.1]) (.n 19 (sl A0 r_.1.length c0) (.n 22 (pt a6 9) (.fQ .a)))) (fun x hx => qs a6 0 <| qs a6 0 <| qe) (by kernel_rfl) (fun _ => ?_)
 refine bx 1 2 [] (.s .a) (fun x hx => qe) (by kernel_rfl) (fun _ => ?_)
 refine bZ (by kernel_rfl) rfl ?_
 obtain ⟨u, yq, hm⟩ := ob hm
 obtain ⟨g0, rfl⟩ := dF.ME 0 rfl (fL yq)
 have en := dF.share
 refine ey [] 6 (sl (some ⟨g0, 0, none⟩) r_.1.length c0) [sl (some ⟨g0, 0, none⟩) r_.1.length c0] (Pt.at a6 9) en rfl (.aP (.aP (.k .h))) (by kernel_rfl) (by kernel_rfl) ?_
 intro lh eA
 refine ⟨(eA.ck .z), fun _ => ?_⟩
 refine ct <| aa <| ao <| bn 5 [] (.n 25 (.v (.func (.func 65) ⟨SV.ad [pt a6 0]⟩ ⟨SV.ad []⟩)) (.n 27 (pt a6 76) .z)) (qs a6 0 <| qs a6 0 <| qe) (by kernel_rfl) ?_
 refine ag <| ey [] 6 (.v (.func (.func 65) ⟨SV.ad [pt a6 0]⟩ ⟨SV.ad []⟩)) [.v (.func (.func 65) ⟨SV.ad [pt a6 0]⟩ ⟨SV.ad []⟩)] (Pt.at a6 76) eA rfl (.aP (.aP (.aP (.k .h)))) (by kernel_rfl) (by kernel_rfl) ?_
 intro l4 fJ
 refine af ?_
 obtain rfl := Option.some.inj hm
 refine pJ [] qe (by kernel_rfl) ?_
 have gi := ((((((fJ.pk .h).pk (.t (.t (.t (.t (.t (.t .h))))))).pk (.t (.t (.t (.t (.t (.t .h))))))).pk (.t (.t (.t (.t (.t (.t .h))))))).pk (.t (.t (.t (.t (.t (.t .h))))))).pk (.t (.t (.t (.t (.t (.t .h))))))).pk (.t (.t (.t (.t (.t (.t .h))))))
 exact ⟨A3, r_.2.2.2.2.2.1.length, c4, A4, r_.2.2.2.2.2.2.2.2.2.1.length, c5, A5, r_.2.2.2.2.2.2.2.2.2.2.1.length, c6, g0, r_.1.length, c0, gi.len 1 rfl, gi.len 3 rfl, gi.len 4 rfl, gi.b8 6 rfl, rfl, gi⟩
theorem vT {F O : Nat → Prop} {w : World} (fj : Int) (eg : Int) (cy : List UInt8) (dD : List UInt8) (iZ : Bool) (ed : UInt64) (ml : ae UInt32 8) (dm : UInt64) (dq : UInt64) (fx : List UInt8) (fc : Int) (jc : Nat) (eR : Option Addr) (hZ : Nat) (eU : Nat) (fU : Option Addr) (la : Nat) (fV : Nat) (iO : Nat) (gD : Option Addr) (iP : Nat) (gE : Nat) (k : Cx F O w w [Bx 115 jc [I fj, I eg, sl eR hZ eU, sl fU la fV, .b iZ, .u64 ed, .v (.iface 136 (SV.val (pt iO 0)))], Ow e8 eR hZ eU cy, Ow e8 fU la fV dD, Bx 140 iO [.ar du ml, .u64 dm, .u64 dq, sl gD iP gE, I fc, .v (.func (.func 76) ⟨SV.ad []⟩ ⟨SV.ad []⟩), .v (.func (.func 77) ⟨SV.ad []⟩ ⟨SV.ad []⟩)], Ow e8 gD iP gE fx]) (r : (ae UInt32 8 × UInt64 × UInt64 × List UInt8 × Int × Int × Int × List UInt8 × List UInt8 × Bool × UInt64)) (hm : nw fj eg cy dD iZ ed ml dm dq fx fc = some r) :
    Calls Try.prog 64 (ad [pt jc 0]) w (fun e w' => ∃ A n c A1 n1 c1 A2 n2 c2, r.2.2.2.1.length = n ∧ r.2.2.2.2.2.2.2.1.length = n1 ∧ r.2.2.2.2.2.2.2.2.1.length = n2 ∧ e = .returned (SV.val (.b false)) ∧ Cx F O w w' [Bx 140 iO [.ar du r.1, .u64 r.2.1, .u64 r.2.2.1, sl A n c, I r.2.2.2.2.1, .v (.func (.func 76) ⟨SV.ad []⟩ ⟨SV.ad []⟩), .v (.func (.func 77) ⟨SV.ad []⟩ ⟨SV.ad []⟩)], Ow e8 A n c r.2.2.2.1, Bx 115 jc [I r.2.2.2.2.2.1, I r.2.2.2.2.2.2.1, sl A1 n1 c1, sl A2 n2 c2, .b r.2.2.2.2.2.2.2.2.2.1, .u64 r.2.2.2.2.2.2.2.2.2.2, .v (.iface 136 (SV.val (pt iO 0)))], Ow e8 A1 n1 c1 r.2.2.2.2.2.2.2.1, Ow e8 A2 n2 c2 r.2.2.2.2.2.2.2.2.1]) := by
 unfold nw at hm
 obtain rfl := k.len 1 rfl
 obtain rfl := k.len 2 rfl
 obtain rfl := k.len 4 rfl
 refine calls [pt jc 0] Try.func64 rfl (of_decide_eq_true (by kernel_rfl)) ?_
 refine ab <| bA [] .a qe (by kernel_rfl) ?_
 refine aa <| ab <| bA [5] (.n 2 (.b false) .z) (qs jc 0 <| qs jc 0 <| qB k 0 rfl 6 (.v (.iface 136 (SV.val (pt iO 0)))) (by kernel_rfl) <| qe) (by kernel_rfl) ?_
 refine aa <| aL ?_
 obtain rfl := Option.some.inj hm
 refine aM [.b false] qe (by kernel_rfl) ?_
 have k_ := ((((k.pk (.t (.t .h))).pk (.t (.t .h))).pk (.t (.t .h))).pk (.t (.t (.t (.t .h))))).pk (.t (.t (.t (.t .h))))
 exact ⟨gD, fx.length, gE, eR, cy.length, eU, fU, dD.length, fV, k_.len 1 rfl, k_.len 3 rfl, k_.len 4 rfl, rfl, k_⟩
theorem CC {F O : Nat → Prop} {w : World} (h : ae UInt32 8) (k : Cx F O w w []) (r : (List UInt8)) (hm : tp h = some r) :
    Calls Try.prog 77 (ad [.agg [.ar du h]]) w (fun e w' => ∃ A n c, r.length = n ∧ e = .returned (SV.val (sl A n c)) ∧ Cx F O w w' [Ow e8 A n c r]) := by
 unfold tp at hm
 refine calls [.agg [.ar du h]] Try.func77 rfl (of_decide_eq_true (by kernel_rfl)) ?_
 refine ab <| ao <| ag <| gj [] 1 (.agg [.ar du h]) [.ar du h] (by kernel_rfl) k ?_
 intro g w_ k_
 refine bn 1 [] (.k .z) qe (by kernel_rfl) ?_
 refine af <| aa <| ab <| ao <| ag <| vj im e8 (0 : UInt8) rfl [] 6 (I 0) (I 32) (0 : Int) (32 : Int) (by kernel_rfl) (by omega) (by omega) (by omega) k_ ?_
 intro A0 lh da
 refine bn 1 [] (.n 3 (sl A0 (Int.toNat (0 : Int)) (Int.toNat (32 : Int))) (.s .a)) qe (by kernel_rfl) ?_
 refine af <| aa <| ab <| ab <| bA [] (.n 7 (.agg [.ar du h]) (.n 8 (I 0) (.k .z))) (qT da 0 rfl 0 8 [.ar du h] (by kernel_rfl) (by decide) <| qe) (by kernel_rfl) ?_
 refine aa <| cu ?_
 have en := da.ck (.s (.k .e))
 refine pc (ql h) (fun s L wr => ∃ (b : List UInt8) (aC : Int) (A1 : Option Addr) (n0 : Nat) (c0 : Nat), (b, aC) = s ∧ L = [(3, sl A1 n0 c0), (7, .agg [.ar du h]), (8, I aC)] ∧ b.length = n0 ∧ Cx F O w wr [Ow e8 A1 n0 c0 b]) (List.replicate (Int.toNat (0 : Int)) (0 : UInt8), (0 : Int)) r hm ⟨List.replicate (Int.toNat (0 : Int)) (0 : UInt8), (0 : Int), A0, Int.toNat (0 : Int), Int.toNat (32 : Int), rfl, rfl, en.len 0 rfl, en⟩ (by kernel_rfl) ?_
 intro yU L_ l4 y0 jd dd nF
 obtain ⟨b, aC, A1, _, c0, rfl, rfl, rfl, dF⟩ := jd
 have hm := dd; simp only [ql] at hm
 clear dd
 refine ab <| bA [] (.n 9 (.b (decide (aC < 8))) .a) qe (by kernel_rfl) ?_
 refine aa <| ab <| bb (aC < 8) (by kernel_rfl) (fun hc => ?_) (fun hc => ?_)
 · rw [if_pos hc] at hm
   refine aS <| aa <| ab <| cu <| ab ?_
   obtain ⟨eL, jC, hm⟩ := ob hm
   refine bA [] (.n 5 (.u32 eL) (.s .a)) (qo (.u32 eL) <| qp ((0 ≤ aC ∧ aC < ((8 : Nat) : Int)) ∧ (SV.cl [.ar du h])[Int.toNat aC * 1]? = some (SV.val (.u32 eL))) (LB (E := du) jC rfl) <| qe) (by kernel_rfl) ?_
   refine aa <| ao <| bn 12 [] (.n 11 (sl A1 b.length c0) (.n 13 (.u8 (UInt8.ofNat eL.toNat)) (.n 16 (.u8 (UInt8.ofNat (lJ eL ((8 : UInt64).toNat)).toNat)) (.n 19 (.u8 (UInt8.ofNat (lJ eL ((16 : UInt64).toNat)).toNat)) (.n 22 (.u8 (UInt8.ofNat (lJ eL ((24 : UInt64).toNat)).toNat)) (.s .a)))))) qe (by kernel_rfl) ?_
   refine ag <| E1 im e8 [] 23 ([UInt8.ofNat eL.toNat, UInt8.ofNat (lJ eL ((8 : UInt64).toNat)).toNat, UInt8.ofNat (lJ eL ((16 : UInt64).toNat)).toNat, UInt8.ofNat (lJ eL ((24 : UInt64).toNat)).toNat] : List UInt8) [(0, .u8 (UInt8.ofNat eL.toNat)), (1, .u8 (UInt8.ofNat (lJ eL ((8 : UInt64).toNat)).toNat)), (2, .u8 (UInt8.ofNat (lJ eL ((16 : UInt64).toNat)).toNat)), (3, .u8 (UInt8.ofNat (lJ eL ((24 : UInt64).toNat)).toNat))] [.u8 (UInt8.ofNat eL.toNat), .u8 (UInt8.ofNat (lJ eL ((8 : UInt64).toNat)).toNat), .u8 (UInt8.ofNat (lJ eL ((16 : UInt64).toNat)).toNat), .u8 (UInt8.ofNat (lJ eL ((24 : UInt64).toNat)).toNat)] (by kernel_rfl) (by kernel_rfl) (by kernel_rfl) dF ?_
   intro A2 qf eA
   refine ag ?_
   obtain ⟨b1, wP, hm⟩ := ob hm
   obtain ⟨hz, hl⟩ := kV wP
   refine jG (E := e8) (v := sl A2 4 4) (ys := ([UInt8.ofNat eL.toNat, UInt8.ofNat (lJ eL ((8 : UInt64).toNat)).toNat, UInt8.ofNat (lJ eL ((16 : UInt64).toNat)).toNat, UInt8.ofNat (lJ eL ((24 : UInt64).toNat)).toNat] : List UInt8)) im [] 24 0 (by kernel_rfl) eA rfl (Src.sl (eA.rd 1 rfl) (eA.len 1 rfl) (by rfl)) (eA.len 1 rfl) (by have := eA.len 0 rfl; have := (eA.len 1 rfl); omega) ?_
   intro A3 c1 p7 fJ
   rw [← hl] at fJ
   have gi := fJ.ck (.k .z)
   refine bn 1 [] (.n 3 (sl A3 (b.length + 4) c1) (.fQ (.fQ .a))) qe (by kernel_rfl) ?_
   refine af <| hH <| aa <| bA [] (.n 8 (I (aB (aC + 1))) (.kk .z)) qe (by kernel_rfl) ?_
   exact jR (b1, aB (aC + 1)) (Option.some.inj hm).symm ⟨b1, aB (aC + 1), A3, b.length + 4, c1, rfl, rfl, gi.len 0 rfl, gi⟩ (by kernel_rfl)
 rw [if_neg hc] at hm
 refine iq (fe (fe (kG ?_)))
 have hm := d_ hm nF
 refine aa <| ab <| bA [] (.n 2 (sl A1 b.length c0) .z) qe (by kernel_rfl) ?_
 refine aa <| aL ?_
 obtain rfl := Option.some.inj hm
 refine aM [sl A1 b.length c0] qe (by kernel_rfl) ?_
 exact ⟨A1, b.length, c0, dF.len 0 rfl, rfl, dF⟩
theorem tG {F O : Nat → Prop} {w : World} (qU : ae UInt32 8) (bC : UInt64) (bD : UInt64) (cA : List UInt8) (aA : Int) (node : Bool) (a6 : Nat) (dA : Option Addr) (k9 : Nat) (dB : Nat) (k : Cx F O w w [Bx 140 a6 [.ar du qU, .u64 bC, .u64 bD, sl dA k9 dB, I aA, .v (.func (.func 76) ⟨SV.ad []⟩ ⟨SV.ad []⟩), .v (.func (.func 77) ⟨SV.ad []⟩ ⟨SV.ad []⟩)], Ow e8 dA k9 dB cA]) (r : (List UInt8 × ae UInt32 8 × UInt64 × UInt64 × List UInt8 × Int)) (hm : lS qU bC bD cA aA node = some r) :
    Calls Try.prog 122 (ad [pt a6 0, .b node]) w (fun e w' => ∃ A n c A1 n1 c1, r.1.length = n ∧ r.2.2.2.2.1.length = n1 ∧ e = .returned (SV.val (sl A n c)) ∧ Cx F O w w' [Ow e8 A n c r.1, Bx 140 a6 [.ar du r.2.1, .u64 r.2.2.1, .u64 r.2.2.2.1, sl A1 n1 c1, I r.2.2.2.2.2, .v (.func (.func 76) ⟨SV.ad []⟩ ⟨SV.ad []⟩), .v (.func (.func 77) ⟨SV.ad []⟩ ⟨SV.ad []⟩)], Ow e8 A1 n1 c1 r.2.2.2.2.1]) := by
 unfold lS at hm
 obtain rfl := k.len 1 rfl
 refine calls [pt a6 0, .b node] Try.func122 rfl (of_decide_eq_true (by kernel_rfl)) ?_
 refine ab <| bA [] .a qe (by kernel_rfl) ?_
 refine aa <| ab <| Ho (fun L wr => ∃ (c0 : UInt64) (c2 : UInt64) (g : Nat), kL qU bC bD cA aA node c0 c2 = some r ∧ L = [(0, pt a6 0), (1, .b node), (5, pt g 0)] ∧ Cx F O w wr [Bx 140 a6 [.ar du qU, .u64 bC, .u64 bD, sl dA cA.length dB, I aA, .v (.func (.func 76) ⟨SV.ad []⟩ ⟨SV.ad []⟩), .v (.func (.func 77) ⟨SV.ad []⟩ ⟨SV.ad []⟩)], Ow e8 dA cA.length dB cA, Bx 130 g [.u64 c0, .u64 c2]]) ?_ ?_
 ·
  have k_ := k.drew 1
  refine qy bw (.q 0 2 (.q 1 2 (.q 2 1 (.q 3 1 (.q 4 2 (.q 5 2 (.q 6 2 (.q 7 2 (.q 8 1 (.q 9 1 (.br 10 14 (.q 11 2 (.q 12 2 (.q 13 3 (.op 14 (.op 15 (.q 16 3 .nil)))))) (.op 10 (.q 11 2 (.q 12 2 (.q 13 3 (.op 15 (.q 16 3 .nil))))))))))))))))) [10, 14, 15] k_ (.c (.kk .e) (.c (.kk .e) (.c (.kk .e) .l))) (by kernel_rfl) (fun _ => ?_)
  refine bx 2 2 [] (.n 9 (pt a6 0) .a) (fun x hx => qs a6 0 <| qe) (by kernel_rfl) (fun _ => ?_)
  refine bx 2 1 [] (.n 11 (.agg [.u64 bC, .u64 bD]) (.s .a)) (fun x hx => qs a6 0 <| qT hx 0 rfl 8 2 [.u64 bC, .u64 bD] (by kernel_rfl) (by decide) <| qe) (by kernel_rfl) (fun _ => ?_)
  refine bx 4 2 [] (.n 15 (sl dA cA.length dB) .a) (fun x hx => qs a6 0 <| qs a6 0 <| qB hx 0 rfl 10 (sl dA cA.length dB) (by kernel_rfl) <| qe) (by kernel_rfl) (fun _ => ?_)
  refine bx 2 1 [] (.n 17 (.u64 (UInt64.ofInt ((cA.length : Nat) : Int))) (.s .a)) (fun x hx => qe) (by kernel_rfl) (fun _ => ?_)
  refine LA (by kernel_rfl) (by kernel_rfl) rfl rfl ?_ ?_
  ·
   obtain ⟨r_, dk, hm⟩ := ob hm
   refine aq [] 18 _ sO (by kernel_rfl) (pg (F := N0) (O := N0) _ _ _ (Cx.refl _) _ dk) ?_
   rintro e_ w_ ⟨rfl, da⟩
   have dF := k_.call da
   refine ⟨.eO [.agg [.u64 r_.1, .u64 r_.2.1], .b r_.2.2], rfl, ?_⟩
   refine ⟨dF, fun _ => ?_⟩
   refine bx 2 2 [] (.n 7 (.eO [.agg [.u64 r_.1, .u64 r_.2.1], .b r_.2.2]) (.n 19 (.agg [.u64 r_.1, .u64 r_.2.1]) (.lj .a))) (fun x hx => qe) (by kernel_rfl) (fun _ => ?_)
   refine bx 1 3 [] (.n 20 (.b r_.2.2) (.s .a)) (fun x hx => qe) (by kernel_rfl) (fun _ => ?_)
   refine bZ (by kernel_rfl) rfl <| bY [] 5 [.u64 0, .u64 0] (by kernel_rfl) dF ?_
   intro g1 lh en
   refine ⟨(en.ck (.kk .z)), fun _ => ?_⟩
   refine bZ (by kernel_rfl) rfl <| ey [] 2 (.agg [.u64 r_.1, .u64 r_.2.1]) [.u64 r_.1, .u64 r_.2.1] (Pt.at g1 0) en rfl .all (by kernel_rfl) (by kernel_rfl) ?_
   intro l4 eA
   refine ⟨(eA.ck (.kk .z)), fun _ => ?_⟩
   refine bx 1 3 [] (.k (.ss .a)) (fun x hx => qe) (by kernel_rfl) (fun _ => ?_)
   refine ct ?_
   exact iy ⟨r_.1, r_.2.1, g1, hm, rfl, eA⟩ (by kernel_rfl)
  ·
   refine bY [] 5 [.u64 0, .u64 0] (by kernel_rfl) k_ ?_
   intro g1 w_ da
   refine ⟨(da.ck (.kk .z)), fun _ => ?_⟩
   refine bZ (by kernel_rfl) rfl ?_
   obtain ⟨r_, dk, hm⟩ := ob hm
   refine aq [] 18 _ sO (by kernel_rfl) (pg (F := N0) (O := N0) _ _ _ (Cx.refl _) _ dk) ?_
   rintro e_ lh ⟨rfl, dF⟩
   have en := da.call dF
   refine ⟨.eO [.agg [.u64 r_.1, .u64 r_.2.1], .b r_.2.2], rfl, ?_⟩
   refine ⟨(en.ck (.kk .z)), fun _ => ?_⟩
   refine bx 2 2 [] (.n 7 (.eO [.agg [.u64 r_.1, .u64 r_.2.1], .b r_.2.2]) (.n 19 (.agg [.u64 r_.1, .u64 r_.2.1]) (.s (.k (.ss .a))))) (fun x hx => qe) (by kernel_rfl) (fun _ => ?_)
   refine bx 1 3 [] (.n 20 (.b r_.2.2) (.s .a)) (fun x hx => qe) (by kernel_rfl) (fun _ => ?_)
   refine bZ (by kernel_rfl) rfl <| ey [] 2 (.agg [.u64 r_.1, .u64 r_.2.1]) [.u64 r_.1, .u64 r_.2.1] (Pt.at g1 0) en rfl .all (by kernel_rfl) (by kernel_rfl) ?_
   intro l4 eA
   refine ⟨(eA.ck (.kk .z)), fun _ => ?_⟩
   refine bx 1 3 [] (.ss .a) (fun x hx => qe) (by kernel_rfl) (fun _ => ?_)
   refine ct ?_
   exact iy ⟨r_.1, r_.2.1, g1, hm, rfl, eA⟩ (by kernel_rfl)
 rintro L_ qf ⟨c0, c2, g, hm, rfl, fJ⟩
 simp only [kL] at hm
 refine aa <| ab ?_
 have gi := fJ.drew 1
 refine qy bw (.q 21 1 (.q 22 1 (.q 0 3 (.q 1 3 (.q 2 2 (.q 3 2 (.q 4 3 (.q 5 3 (.q 6 2 (.q 7 1 (.q 8 3 (.q 9 3 (.q 10 2 (.q 11 1 (.q 12 3 (.q 13 3 (.q 14 2 (.q 15 1 (.q 16 3 (.q 17 3 (.q 18 2 (.q 19 1 (.op 20 (.op 23 (.op 24 (.q 25 3 .nil)))))))))))))))))))))))))) [20, 23, 24] gi (.c (.kk (.k .e)) (.c (.kk (.k .e)) (.c (.kk (.k .e)) .l))) (by kernel_rfl) (fun _ => ?_)
 refine bx 2 1 [] (.n 42 (.agg [.u64 c0, .u64 c2]) (.n 43 (.b node) (.k .z))) (fun x hx => qT hx 2 rfl 0 2 [.u64 c0, .u64 c2] (by kernel_rfl) (by decide) <| qe) (by kernel_rfl) (fun _ => ?_)
 refine bx 2 3 [] (.n 22 (pt a6 0) .a) (fun x hx => qs a6 0 <| qe) (by kernel_rfl) (fun _ => ?_)
 refine bx 2 2 [] (.n 24 (.v (.func (.func 77) ⟨SV.ad []⟩ ⟨SV.ad []⟩)) (.s .a)) (fun x hx => qs a6 0 <| qB hx 0 rfl 13 (.v (.func (.func 77) ⟨SV.ad []⟩ ⟨SV.ad []⟩)) (by kernel_rfl) <| qe) (by kernel_rfl) (fun _ => ?_)
 refine bx 2 3 [] (.n 26 (pt a6 0) .a) (fun x hx => qs a6 0 <| qe) (by kernel_rfl) (fun _ => ?_)
 refine bx 1 2 [] (.n 27 (pt a6 12) (.s .a)) (fun x hx => qs a6 0 <| qe) (by kernel_rfl) (fun _ => ?_)
 refine bx 1 1 [] (.n 28 (.v (.func (.func 76) ⟨SV.ad []⟩ ⟨SV.ad []⟩)) (.s .a)) (fun x hx => qB hx 0 rfl 12 (.v (.func (.func 76) ⟨SV.ad []⟩ ⟨SV.ad []⟩)) (by kernel_rfl) <| qe) (by kernel_rfl) (fun _ => ?_)
 refine bx 2 3 [] (.n 30 (pt a6 0) .a) (fun x hx => qs a6 0 <| qe) (by kernel_rfl) (fun _ => ?_)
 refine bx 1 2 [] (.n 31 (pt a6 0) (.s .a)) (fun x hx => qs a6 0 <| qe) (by kernel_rfl) (fun _ => ?_)
 refine bx 1 1 [] (.n 32 (.agg [.ar du qU]) (.s .a)) (fun x hx => qT hx 0 rfl 0 8 [.ar du qU] (by kernel_rfl) (by decide) <| qe) (by kernel_rfl) (fun _ => ?_)
 refine bx 2 3 [] (.n 34 (pt a6 0) .a) (fun x hx => qs a6 0 <| qe) (by kernel_rfl) (fun _ => ?_)
 refine bx 1 2 [] (.n 35 (pt a6 10) (.s .a)) (fun x hx => qs a6 0 <| qe) (by kernel_rfl) (fun _ => ?_)
 refine bx 1 1 [] (.n 36 (sl dA cA.length dB) (.s .a)) (fun x hx => qB hx 0 rfl 10 (sl dA cA.length dB) (by kernel_rfl) <| qe) (by kernel_rfl) (fun _ => ?_)
 refine bx 2 3 [] (.n 38 (pt a6 0) (.aP (.kk .z))) (fun x hx => qs a6 0 <| qe) (by kernel_rfl) (fun _ => ?_)
 refine bx 1 2 [] (.n 39 (pt a6 11) (.s .a)) (fun x hx => qs a6 0 <| qe) (by kernel_rfl) (fun _ => ?_)
 refine bx 1 1 [] (.n 40 (I aA) (.s .a)) (fun x hx => qB hx 0 rfl 11 (I aA) (by kernel_rfl) <| qe) (by kernel_rfl) (fun _ => ?_)
 refine bZ (by kernel_rfl) rfl ?_
 obtain ⟨ah, dt, hm⟩ := ob hm
 refine aq [] 41 _ zc (by kernel_rfl) (pD (F := N0) (O := N0) _ _ _ _ _ (Ro.n0 (gi.rd 1 rfl)) (gi.len 1 rfl) (gi.Az 1 rfl) (Cx.refl _) _ dt) ?_
 rintro e_ p7 ⟨A0, _, c3, rfl, rfl, fY⟩
 have fZ := gi.call fY
 refine ⟨sl A0 ah.length c3, rfl, ?_⟩
 refine ⟨(fZ.ck (.kk (.k .z))), fun _ => ?_⟩
 refine bZ (by kernel_rfl) rfl ?_
 obtain ⟨bh, gX, hm⟩ := ob hm
 refine mw [] 44 [] [.agg [.ar du qU], sl A0 ah.length c3, .agg [.u64 c0, .u64 c2], .b true, .b node] [] FB (by kernel_rfl) (tT (F := N0) (O := N0) _ _ _ _ _ _ _ _ _ (Ro.n0 (fZ.rd 3 rfl)) (fZ.len 3 rfl) (fZ.Az 3 rfl) (Cx.refl _) _ gX) ?_
 rintro e_ sV ⟨rfl, gY⟩
 have dK := fZ.call gY
 refine ⟨.agg [.ar du bh], rfl, ?_⟩
 have c_ := dK.ck (.kk (.k .z))
 refine ⟨c_, fun _ => ?_⟩
 refine bZ (by kernel_rfl) rfl ?_
 obtain ⟨cD, oV, hm⟩ := ob hm
 refine mw [] 45 [] [.agg [.ar du bh]] [] Ke (by kernel_rfl) (CC (F := N0) (O := N0) _ (Cx.refl _) _ oV) ?_
 rintro e_ wi ⟨A2, _, c4, rfl, rfl, ez⟩
 have dH := c_.call ez
 refine ⟨sl A2 cD.length c4, rfl, ?_⟩
 refine ⟨(dH.ck (.kk (.k .z))), fun _ => ?_⟩
 refine bx 1 3 [] (.n 4 (sl A2 cD.length c4) .z) (fun x hx => qe) (by kernel_rfl) (fun _ => ?_)
 refine ct <| aa <| aL ?_
 obtain rfl := Option.some.inj hm
 refine aM [sl A2 cD.length c4] qe (by kernel_rfl) ?_
 have eX := (((dH.pk (.t .h)).pk (.t .h)).pk (.t (.t (.t .h)))).ck (.kk (.k .z))
 exact ⟨A2, cD.length, c4, dA, cA.length, dB, eX.len 0 rfl, eX.len 2 rfl, rfl, eX⟩
theorem wU {F O : Nat → Prop} {w : World} (fj : Int) (eg : Int) (cy : List UInt8) (dD : List UInt8) (iZ : Bool) (ed : UInt64) (ml : ae UInt32 8) (dm : UInt64) (dq : UInt64) (fx : List UInt8) (fc : Int) (gu : Int) (jc : Nat) (eR : Option Addr) (hZ : Nat) (eU : Nat) (fU : Option Addr) (la : Nat) (fV : Nat) (iO : Nat) (gD : Option Addr) (iP : Nat) (gE : Nat) (k : Cx F O w w [Bx 115 jc [I fj, I eg, sl eR hZ eU, sl fU la fV, .b iZ, .u64 ed, .v (.iface 136 (SV.val (pt iO 0)))], Ow e8 eR hZ eU cy, Ow e8 fU la fV dD, Bx 140 iO [.ar du ml, .u64 dm, .u64 dq, sl gD iP gE, I fc, .v (.func (.func 76) ⟨SV.ad []⟩ ⟨SV.ad []⟩), .v (.func (.func 77) ⟨SV.ad []⟩ ⟨SV.ad []⟩)], Ow e8 gD iP gE fx]) (r : (List UInt8 × Int × ae UInt32 8 × UInt64 × UInt64 × List UInt8 × Int × Int × Int × List UInt8 × List UInt8 × Bool × UInt64)) (hm : n_ fj eg cy dD iZ ed ml dm dq fx fc gu = some r) :
    Calls Try.prog 66 (ad [pt jc 0, I gu]) w (fun e w' => ∃ A n c A1 n1 c1 A2 n2 c2 A3 n3 c3, r.1.length = n ∧ r.2.2.2.2.2.1.length = n1 ∧ r.2.2.2.2.2.2.2.2.2.1.length = n2 ∧ r.2.2.2.2.2.2.2.2.2.2.1.length = n3 ∧ e = .returned (SV.val (.eO [sl A n c, I r.2.1])) ∧ Cx F O w w' [Ow e8 A n c r.1, Bx 140 iO [.ar du r.2.2.1, .u64 r.2.2.2.1, .u64 r.2.2.2.2.1, sl A1 n1 c1, I r.2.2.2.2.2.2.1, .v (.func (.func 76) ⟨SV.ad []⟩ ⟨SV.ad []⟩), .v (.func (.func 77) ⟨SV.ad []⟩ ⟨SV.ad []⟩)], Ow e8 A1 n1 c1 r.2.2.2.2.2.1, Bx 115 jc [I r.2.2.2.2.2.2.2.1, I r.2.2.2.2.2.2.2.2.1, sl A2 n2 c2, sl A3 n3 c3, .b r.2.2.2.2.2.2.2.2.2.2.2.1, .u64 r.2.2.2.2.2.2.2.2.2.2.2.2, .v (.iface 136 (SV.val (pt iO 0)))], Ow e8 A2 n2 c2 r.2.2.2.2.2.2.2.2.2.1, Ow e8 A3 n3 c3 r.2.2.2.2.2.2.2.2.2.2.1]) := by
 unfold n_ at hm
 obtain rfl := k.len 1 rfl
 obtain rfl := k.len 2 rfl
 obtain rfl := k.len 4 rfl
 refine calls [pt jc 0, I gu] Try.func66 rfl (of_decide_eq_true (by kernel_rfl)) ?_
 refine ab <| bA [] .a qe (by kernel_rfl) ?_
 refine aa <| ab <| ab <| ao <| bn 1 [] (.n 6 (pt jc 0) .a) qe (by kernel_rfl) ?_
 refine ag ?_
 obtain ⟨r_, dk, hm⟩ := ob hm
 obtain ⟨F1, O1, lO, hO, rO, hF, hb⟩ := k.go (.i (.i (.i (.i (.i .e)))))
 refine aq [] 7 _ Ce (by kernel_rfl) (vT (F := F1) (O := O1) _ _ _ _ _ _ _ _ _ _ _ _ _ _ _ _ _ _ _ _ _ _ lO _ dk) ?_
 rintro e_ w_ ⟨A0, _, c0, A4, _, c4, A5, _, c5, rfl, rfl, rfl, rfl, k_⟩
 have da := hb w_ _ _ k_ (.c (.c (.c (.c (.c .n)))))
 refine ⟨.b false, rfl, ?_⟩
 refine af <| aa <| cw false (by kernel_rfl) (fun h => by cases h) (fun _ => ?_)
 refine aS <| aa <| ab <| ab <| ao <| bn 3 [] (.n 10 (.b (decide (gu < 1))) (.ss .a)) qe (by kernel_rfl) ?_
 refine my 10 (decide (gu < 1)) (.s .a) (by kernel_rfl) (fun hg => ?_) (fun hg => ?_)
 · rw [if_pos (of_decide_eq_true hg)] at hm
   refine bn 9 [10] (.n 19 (.b true) (.s .a)) qe (by kernel_rfl) ?_
   refine af <| aa <| cw true (by kernel_rfl) (fun _ => ?_) (fun h => by cases h)
   refine ab <| bA [] (.n 4 (sl none 0 0) (.n 5 (I 1) .z)) qe (by kernel_rfl) ?_
   refine aa <| aL (bI ?_)
   have dF := da.nil e8
   obtain rfl := Option.some.inj hm
   refine aM [sl none 0 0, I 1] qe (by kernel_rfl) ?_
   have en := (((((dF.pk (.t (.t (.t (.t .h))))).pk (.t (.t (.t (.t .h))))).pk (.t (.t (.t (.t .h))))).pk (.t (.t (.t (.t .h))))).pk (.t (.t (.t (.t .h))))).pk (.t (.t (.t (.t (.t .h)))))
   exact ⟨none, 0, 0, A0, r_.2.2.2.1.length, c0, A4, r_.2.2.2.2.2.2.2.1.length, c4, A5, r_.2.2.2.2.2.2.2.2.1.length, c5, en.len 0 rfl, en.len 2 rfl, en.len 4 rfl, en.len 5 rfl, rfl, en⟩
 · rw [if_neg (of_decide_eq_false hg)] at hm
   refine bn 5 [10] (.n 11 (I gu) (.n 15 (I r_.2.2.2.2.2.1) .a)) (qs jc 0 <| qs jc 0 <| qB da 2 rfl 0 (I r_.2.2.2.2.2.1) (by kernel_rfl) <| qe) (by kernel_rfl) ?_
   refine ag ?_
   obtain ⟨ah, dt, hm⟩ := ob hm
   refine aq [10] 16 _ zd (by kernel_rfl) (oW (F := N0) (O := N0) _ (Cx.refl _) _ dt) ?_
   rintro e_ lh ⟨rfl, eA⟩
   have fJ := da.call eA
   refine ⟨I ah, rfl, ?_⟩
   refine bn 3 [10] (.n 19 (.b (decide ((aB (Int.tdiv ah 2)) < gu))) (.fQ .a)) (qp ((2 : Int) ≠ (0 : Int)) (by omega) <| qe) (by kernel_rfl) ?_
   refine af <| aa <| bb ((aB (Int.tdiv ah 2)) < gu) (by kernel_rfl) (fun hc => ?_) (fun hc => ?_)
   · rw [if_pos hc] at hm
     refine ab <| bA [] (.n 4 (sl none 0 0) (.n 5 (I 1) .z)) qe (by kernel_rfl) ?_
     refine aa <| aL (bI ?_)
     have gi := fJ.nil e8
     obtain rfl := Option.some.inj hm
     refine aM [sl none 0 0, I 1] qe (by kernel_rfl) ?_
     have fY := (((((gi.pk (.t (.t (.t (.t .h))))).pk (.t (.t (.t (.t .h))))).pk (.t (.t (.t (.t .h))))).pk (.t (.t (.t (.t .h))))).pk (.t (.t (.t (.t .h))))).pk (.t (.t (.t (.t (.t .h)))))
     exact ⟨none, 0, 0, A0, r_.2.2.2.1.length, c0, A4, r_.2.2.2.2.2.2.2.1.length, c4, A5, r_.2.2.2.2.2.2.2.2.1.length, c5, fY.len 0 rfl, fY.len 2 rfl, fY.len 4 rfl, fY.len 5 rfl, rfl, fY⟩
   rw [if_neg hc] at hm
   refine aS <| aa <| ab ?_
   have fZ := fJ.drew 1
   refine qy bw (.q 0 1 (.q 1 1 (.q 2 1 (.q 3 0 (.q 8 0 (.q 9 0 (.q 4 1 (.q 5 1 (.q 6 0 (.q 7 0 (.q 11 1 (.q 12 1 (.op 10 (.q 13 1 (.q 14 1 (.q 15 1 .nil)))))))))))))))) [10] fZ (.c (.ss (.kk (.k .e))) .l) (by kernel_rfl) (fun _ => ?_)
   refine bx 3 1 [] (.n 22 (pt jc 6) (.s .a)) (fun x hx => qs jc 0 <| qs jc 0 <| qe) (by kernel_rfl) (fun _ => ?_)
   refine bx 3 0 [] (.n 29 (.v (.iface 136 (SV.val (pt iO 0)))) (.s .a)) (fun x hx => qB hx 2 rfl 6 (.v (.iface 136 (SV.val (pt iO 0)))) (by kernel_rfl) <| qe) (by kernel_rfl) (fun _ => ?_)
   refine bx 2 1 [] (.n 25 (pt jc 0) (.k (.s .a))) (fun x hx => qs jc 0 <| qe) (by kernel_rfl) (fun _ => ?_)
   refine bx 2 0 [] (.n 27 (.b r_.2.2.2.2.2.2.2.2.2.1) (.s .a)) (fun x hx => qs jc 0 <| qB hx 2 rfl 4 (.b r_.2.2.2.2.2.2.2.2.2.1) (by kernel_rfl) <| qe) (by kernel_rfl) (fun _ => ?_)
   refine bx 2 1 [] (.n 31 (I gu) (.n 32 (I gu) (.kk .z))) (fun x hx => qe) (by kernel_rfl) (fun _ => ?_)
   refine bZ (by kernel_rfl) rfl ?_
   obtain ⟨bh, gX, hm⟩ := ob hm
   obtain ⟨xD, xE, ni, FJ, tE, rP, xa⟩ := fZ.go (.i (.i (.r (.r (.r .e)))))
   refine o_ [] 30 136 (pt iO 0) [.b r_.2.2.2.2.2.2.2.2.2.1] wO rfl (by kernel_rfl) (tG (F := xD) (O := xE) _ _ _ _ _ _ _ _ _ _ ni _ gX) ?_
   rintro e_ l4 ⟨A6, _, c6, A7, _, c7, rfl, rfl, rfl, gY⟩
   have dK := xa l4 _ _ gY (.c (.c (.c .n)))
   refine ⟨sl A6 bh.1.length c6, rfl, ?_⟩
   refine ⟨(dK.ck (.ss (.s (.kk (.k .e))))), fun _ => ?_⟩
   obtain ⟨b, qu, hm⟩ := ob hm
   have hs := hP qu
   have hl := kU qu
   have hn : bh.1.length = bh.1.length := (dK.len 0 rfl)
   have kr : bh.1.length ≤ c6 := (dK.Az 0 rfl)
   obtain ⟨u, yq, hm⟩ := ob hm
   have hq := fL yq
   have pf : b.length ≤ Int.toNat gu := by omega
   refine bx 3 1 [] (.n 4 (sl A6 b.length (Int.toNat gu)) (.n 5 (I 0) .z)) (fun x hx => qp (0 ≤ gu ∧ gu ≤ ((c6 : Nat) : Int)) (by omega) <| qp (0 ≤ gu ∧ gu ≤ ((Int.toNat gu : Nat) : Int)) (by omega) <| qo (.v (.slice A6 b.length (Int.toNat gu))) <| qp (Value.slice (sA A6 0 (Int.toNat gu) 1) (Int.toNat gu - 0) (Int.toNat gu - 0) = .slice A6 b.length (Int.toNat gu)) (ur _ _ _ _ _ (by omega)) <| qe) (by kernel_rfl) (fun _ => ?_)
   refine ct <| aa <| aL ?_
   have c_ := dK.pre 0 rfl b.length (Int.toNat gu) b (by omega) (by omega) (by omega) (y7 qu rfl)
   obtain rfl := Option.some.inj hm
   refine aM [sl A6 b.length (Int.toNat gu), I 0] qe (by kernel_rfl) ?_
   exact ⟨A6, b.length, Int.toNat gu, A7, bh.2.2.2.2.1.length, c7, A4, r_.2.2.2.2.2.2.2.1.length, c4, A5, r_.2.2.2.2.2.2.2.2.1.length, c5, c_.len 0 rfl, c_.len 2 rfl, c_.len 4 rfl, c_.len 5 rfl, rfl, c_⟩
theorem Dn {F O : Nat → Prop} {w : World} (k_ : Int) (bc : Int) (dy : Int) (bj : Int) (bG : Int) (cX : UInt32) (aW : UInt64) (ca : UInt32) (av : Int) (bB : Int) (bP : List UInt8) (au : List UInt8) (key : List UInt8) (last : Bool) (out : Int) (data : List UInt8) (cJ : Option Addr) (iJ : Nat) (cK : Nat) (a8 : Option Addr) (ef : Nat) (ba : Nat) (kI : Option Addr) (dD : Nat) (kJ : Nat) (wV : Nat) (EE : Nat) (wW : Nat) (oU : Ro F w cJ (e8.all bP)) (nh : bP.length = iJ) (ow : iJ ≤ cK) (j7 : Ro F w a8 (e8.all au)) (jq : au.length = ef) (ke : ef ≤ ba) (uV : Ro F w kI (e8.all key)) (rB : key.length = dD) (su : dD ≤ kJ) (Ic : Ro F w (some ⟨wV, 0, none⟩) (e8.all data)) (KA : data.length = EE) (FK : EE ≤ wW) (k : Cx F O w w []) (r : (List UInt8 × Int)) (hm : oq k_ bc dy bj bG cX aW ca av bB bP au key last out data = some r) :
    Calls Try.prog 67 (ad [I k_, .agg [I bc, I dy, I bj, I bG, .u32 cX, .u64 aW, .u32 ca, I av, I bB, sl cJ iJ cK, sl a8 ef ba], sl kI dD kJ, .b last, I out, sl (some ⟨wV, 0, none⟩) EE wW]) w (fun e w' => ∃ A n c, r.1.length = n ∧ e = .returned (SV.val (.eO [sl A n c, I r.2])) ∧ Cx F O w w' [Ow e8 A n c r.1]) := by
 unfold oq at hm
 subst nh
 subst jq
 subst rB
 subst KA
 refine calls [I k_, .agg [I bc, I dy, I bj, I bG, .u32 cX, .u64 aW, .u32 ca, I av, I bB, sl cJ bP.length cK, sl a8 au.length ba], sl kI key.length kJ, .b last, I out, sl (some ⟨wV, 0, none⟩) data.length wW] Try.func67 rfl (of_decide_eq_true (by kernel_rfl)) ?_
 refine ab <| ao <| ag <| gj [] 7 (.agg [I bc, I dy, I bj, I bG, .u32 cX, .u64 aW, .u32 ca, I av, I bB, sl cJ bP.length cK, sl a8 au.length ba]) [I bc, I dy, I bj, I bG, .u32 cX, .u64 aW, .u32 ca, I av, I bB, sl cJ bP.length cK, sl a8 au.length ba] (by kernel_rfl) k ?_
 intro g w_ da
 refine bn 2 [] (.kk (.s .a)) qe (by kernel_rfl) ?_
 refine af <| aa <| ab <| ao <| bn 3 [] (.n 17 (I k_) (.n 18 (.agg [I bc, I dy, I bj, I bG, .u32 cX, .u64 aW, .u32 ca, I av, I bB, sl cJ bP.length cK, sl a8 au.length ba]) (.n 19 (sl kI key.length kJ) (.lj .a)))) (qT da 0 rfl 0 11 [I bc, I dy, I bj, I bG, .u32 cX, .u64 aW, .u32 ca, I av, I bB, sl cJ bP.length cK, sl a8 au.length ba] (by kernel_rfl) (by decide) <| qe) (by kernel_rfl) ?_
 refine ag ?_
 obtain ⟨r_, dk, hm⟩ := ob hm
 refine aq [] 20 _ Ft (by kernel_rfl) (Ad (F := N0) (O := N0) _ _ _ _ _ _ _ _ _ _ _ _ _ _ _ _ _ _ _ _ _ _ (Ro.n0 (oU.cx da)) rfl ow (Ro.n0 (j7.cx da)) rfl ke (Ro.n0 (uV.cx da)) rfl su (Cx.refl _) _ dk) ?_
 rcases r_ with ah | bh | cD
 · simp only [Sum.elim_inl, Sum.elim_inr] at hm
   rintro e_ lh ⟨rfl, dF⟩
   have en := da.call dF
   refine ⟨.eO [.v (.pointer none), I ah], rfl, ?_⟩
   have eA := en.ck .z
   refine bn 5 [] (.n 14 (.v (.pointer none)) (.n 15 (I ah) (.fQ .a))) qe (by kernel_rfl) ?_
   refine af <| aa <| ab <| ab <| bA [] (.n 24 (.b (decide (ah ≠ 0))) .a) qe (by kernel_rfl) ?_
   refine aa <| bb (ah ≠ 0) (by kernel_rfl) (fun hc => ?_) (fun hc => ?_)
   · rw [if_pos hc] at hm
     refine ab <| bA [] (.n 12 (sl none 0 0) (.n 13 (I ah) .z)) qe (by kernel_rfl) ?_
     refine aa <| aL (bI ?_)
     have fJ := eA.nil e8
     obtain rfl := Option.some.inj hm
     refine aM [sl none 0 0, I ah] qe (by kernel_rfl) ?_
     exact ⟨none, 0, 0, fJ.len 0 rfl, rfl, fJ⟩
   rw [if_neg hc] at hm
   cases hm
 · simp only [Sum.elim_inl, Sum.elim_inr] at hm
   rintro e_ l4 ⟨g1, A0, _, c0, A1, _, c1, g2, A2, _, c2, rfl, rfl, rfl, rfl, gi⟩
   have fY := da.call gi
   refine ⟨.eO [pt g1 0, I 0], rfl, ?_⟩
   have fZ := fY.ck (.s (.aP (.k .e)))
   refine bn 5 [] (.n 14 (pt g1 0) (.n 15 (I 0) (.fQ .a))) qe (by kernel_rfl) ?_
   refine af <| aa <| ab <| ab <| bA [] (.n 24 (.b (decide (0 ≠ 0))) .a) qe (by kernel_rfl) ?_
   refine aa <| bb (0 ≠ 0) (by kernel_rfl) (fun D7 => ?_) (fun D7 => ?_)
   · rw [if_pos D7] at hm
     refine ab <| bA [] (.n 12 (sl none 0 0) (.n 13 (I 0) .z)) qe (by kernel_rfl) ?_
     refine aa <| aL (bI ?_)
     have gY := fZ.nil e8
     obtain rfl := Option.some.inj hm
     refine aM [sl none 0 0, I 0] qe (by kernel_rfl) ?_
     have dK := gY.ck (.fQ (.s (.k .e)))
     exact ⟨none, 0, 0, dK.len 0 rfl, rfl, dK⟩
   rw [if_neg D7] at hm
   refine aS <| aa <| ab <| ao <| bn 4 [] (.n 27 (.b last) (.n 29 (pt g1 4) (.s (.k (.ss .a))))) (qs g1 0 <| qs g1 0 <| qe) (by kernel_rfl) ?_
   refine ag <| ey [] 0 (.b last) [.b last] (Pt.at g1 4) fZ rfl (.aP .h) (by kernel_rfl) (by kernel_rfl) ?_
   intro qf c_
   refine af <| aa <| ab <| ao <| bn 5 [] (.n 33 (.v (.iface 126 (SV.val (pt g2 0)))) (.n 34 (sl (some ⟨wV, 0, none⟩) data.length wW) (.ss (.kk .z)))) (qs g1 0 <| qs g1 0 <| qB c_ 0 rfl 6 (.v (.iface 126 (SV.val (pt g2 0)))) (by kernel_rfl) <| qe) (by kernel_rfl) ?_
   refine ag ?_
   obtain ⟨fi, uX, hm⟩ := ob hm
   obtain ⟨F1, O1, lO, hO, rO, hF, hb⟩ := c_.go (.r (.r (.r (.i (.i .e)))))
   refine o_ [] 35 126 (pt g2 0) [sl (some ⟨wV, 0, none⟩) data.length wW] p5 rfl (by kernel_rfl) (nH (F := F1) (O := O1) _ _ _ _ _ _ _ _ _ _ _ _ _ (Ro.aY Ic c_ hF) rfl FK lO _ uX) ?_
   rintro e_ p7 ⟨A3, _, c3, rfl, rfl, ez⟩
   have dH := hb p7 _ _ ez (.c (.c .n))
   refine ⟨.eO [], rfl, ?_⟩
   refine af <| aa <| ab <| ao <| bn 2 [] (.n 36 (pt g1 0) (.n 37 (I out) .z)) qe (by kernel_rfl) ?_
   refine ag ?_
   have eX := dH.ck (.aP (.k .e))
   obtain ⟨bH, z1, hm⟩ := ob hm
   have iu := ((((eX.pk (.t .h)).pk (.t .h)).pk (.t (.t (.t (.t .h))))).pk (.t (.t (.t (.t .h))))).pk (.t (.t (.t (.t .h))))
   obtain ⟨xD, xE, ni, FJ, tE, rP, xa⟩ := iu.go (.i (.i (.i (.i (.i .e)))))
   refine aq [] 38 _ Cf (by kernel_rfl) (tU (F := xD) (O := xE) _ _ _ _ _ _ _ _ _ _ _ _ _ _ _ _ _ _ _ _ _ _ _ ni _ z1) ?_
   rintro e_ sV ⟨A4, _, c4, A5, _, c5, A6, _, c6, A7, _, c7, rfl, rfl, rfl, rfl, rfl, fX⟩
   have jY := xa sV _ _ fX (.c (.c (.c (.c (.c (.c .n))))))
   refine ⟨.eO [sl A4 bH.1.length c4, I bH.2.1], rfl, ?_⟩
   have iK := jY.ck (.k .z)
   refine bn 4 [] (.n 12 (sl A4 bH.1.length c4) (.n 13 (I bH.2.1) .z)) qe (by kernel_rfl) ?_
   refine af <| aa <| aL ?_
   obtain rfl := Option.some.inj hm
   refine aM [sl A4 bH.1.length c4, I bH.2.1] qe (by kernel_rfl) ?_
   exact ⟨A4, bH.1.length, c4, iK.len 0 rfl, rfl, iK⟩
 · simp only [Sum.elim_inl, Sum.elim_inr] at hm
   rintro e_ wi ⟨g3, A8, _, c8, A9, _, c9, g4, wR, _, sW, rfl, rfl, rfl, rfl, kt⟩
   have kg := da.call kt
   refine ⟨.eO [pt g3 0, I 0], rfl, ?_⟩
   have lW := kg.ck (.s (.aP (.k .e)))
   refine bn 5 [] (.n 14 (pt g3 0) (.n 15 (I 0) (.fQ .a))) qe (by kernel_rfl) ?_
   refine af <| aa <| ab <| ab <| bA [] (.n 24 (.b (decide (0 ≠ 0))) .a) qe (by kernel_rfl) ?_
   refine aa <| bb (0 ≠ 0) (by kernel_rfl) (fun kr => ?_) (fun kr => ?_)
   · rw [if_pos kr] at hm
     refine ab <| bA [] (.n 12 (sl none 0 0) (.n 13 (I 0) .z)) qe (by kernel_rfl) ?_
     refine aa <| aL (bI ?_)
     have mh := lW.nil e8
     obtain rfl := Option.some.inj hm
     refine aM [sl none 0 0, I 0] qe (by kernel_rfl) ?_
     have mo := mh.ck (.fQ (.s (.k .e)))
     exact ⟨none, 0, 0, mo.len 0 rfl, rfl, mo⟩
   rw [if_neg kr] at hm
   refine aS <| aa <| ab <| ao <| bn 4 [] (.n 27 (.b last) (.n 29 (pt g3 4) (.s (.k (.ss .a))))) (qs g3 0 <| qs g3 0 <| qe) (by kernel_rfl) ?_
   refine ag <| ey [] 0 (.b last) [.b last] (Pt.at g3 4) lW rfl (.aP .h) (by kernel_rfl) (by kernel_rfl) ?_
   intro vO lX
   refine af <| aa <| ab <| ao <| bn 5 [] (.n 33 (.v (.iface 136 (SV.val (pt g4 0)))) (.n 34 (sl (some ⟨wV, 0, none⟩) data.length wW) (.ss (.kk .z)))) (qs g3 0 <| qs g3 0 <| qB lX 0 rfl 6 (.v (.iface 136 (SV.val (pt g4 0)))) (by kernel_rfl) <| qe) (by kernel_rfl) ?_
   refine ag ?_
   obtain ⟨cW, Dd, hm⟩ := ob hm
   obtain ⟨R7, R8, MQ, WE, Pp, Vr, R9⟩ := lX.go (.r (.r (.r (.i (.i .e)))))
   refine o_ [] 35 136 (pt g4 0) [sl (some ⟨wV, 0, none⟩) data.length wW] p6 rfl (by kernel_rfl) (nI (F := R7) (O := R8) _ _ _ _ _ _ _ _ _ _ _ _ _ (Ro.aY Ic lX Vr) rfl FK MQ _ Dd) ?_
   rintro e_ Av ⟨yX, _, ue, rfl, rfl, qZ⟩
   have rT := R9 Av _ _ qZ (.c (.c .n))
   refine ⟨.eO [], rfl, ?_⟩
   refine af <| aa <| ab <| ao <| bn 2 [] (.n 36 (pt g3 0) (.n 37 (I out) .z)) qe (by kernel_rfl) ?_
   refine ag ?_
   have vP := rT.ck (.aP (.k .e))
   obtain ⟨rY, Dk, hm⟩ := ob hm
   have tB := ((((vP.pk (.t .h)).pk (.t .h)).pk (.t (.t (.t (.t .h))))).pk (.t (.t (.t (.t .h))))).pk (.t (.t (.t (.t .h))))
   obtain ⟨H_, Ia, wT, Pu, Cy, Ag, D2⟩ := tB.go (.i (.i (.i (.i (.i .e)))))
   refine aq [] 38 _ Cf (by kernel_rfl) (wU (F := H_) (O := Ia) _ _ _ _ _ _ _ _ _ _ _ _ _ _ _ _ _ _ _ _ _ _ _ wT _ Dk) ?_
   rintro e_ De ⟨AN, _, xB, HZ, _, AO, Q_, _, MV, KB, _, Ra, rfl, rfl, rfl, rfl, rfl, vQ⟩
   have yp := D2 De _ _ vQ (.c (.c (.c (.c (.c (.c .n))))))
   refine ⟨.eO [sl AN rY.1.length xB, I rY.2.1], rfl, ?_⟩
   have KC := yp.ck (.k .z)
   refine bn 4 [] (.n 12 (sl AN rY.1.length xB) (.n 13 (I rY.2.1) .z)) qe (by kernel_rfl) ?_
   refine af <| aa <| aL ?_
   obtain rfl := Option.some.inj hm
   refine aM [sl AN rY.1.length xB, I rY.2.1] qe (by kernel_rfl) ?_
   exact ⟨AN, rY.1.length, xB, KC.len 0 rfl, rfl, KC⟩
theorem qD {F O : Nat → Prop} {w : World} (dx : List UInt8) (bJ : List UInt8) (root : List UInt8) (i : UInt64) (gT : Option Addr) (nC : Nat) (gW : Nat) (cS : Option Addr) (gC : Nat) (cT : Nat) (Ai : Nat) (EF : Nat) (Aj : Nat) (uW : Ro F w gT (e8.all dx)) (tA : dx.length = nC) (sa : nC ≤ gW) (mN : Ro F w cS (e8.all bJ)) (mO : bJ.length = gC) (lN : gC ≤ cT) (MW : Ro F w (some ⟨Ai, 0, none⟩) (e8.all root)) (KD : root.length = EF) (KE : EF ≤ Aj) (k : Cx F O w w []) (r : (List UInt8)) (hm : fN dx bJ root i = some r) :
    Calls Try.prog 58 (ad [.agg [I 1, I 64, .u32 4294967295, .u64 274877906944, .b false], sl gT nC gW, sl cS gC cT, sl (some ⟨Ai, 0, none⟩) EF Aj, .u64 i]) w (fun e w' => ∃ A n c, r.length = n ∧ e = .returned (SV.val (sl A n c)) ∧ Cx F O w w' [Ow e8 A n c r]) := by
 unfold fN at hm
 subst tA
 subst mO
 subst KD
 refine calls [.agg [I 1, I 64, .u32 4294967295, .u64 274877906944, .b false], sl gT dx.length gW, sl cS bJ.length cT, sl (some ⟨Ai, 0, none⟩) root.length Aj, .u64 i] Try.func58 rfl (of_decide_eq_true (by kernel_rfl)) ?_
 refine ab <| ao <| ag <| gj [] 5 (.agg [I 1, I 64, .u32 4294967295, .u64 274877906944, .b false]) [I 1, I 64, .u32 4294967295, .u64 274877906944, .b false] (by kernel_rfl) k ?_
 intro g w_ k_
 refine bn 1 [] (.k (.s .a)) qe (by kernel_rfl) ?_
 refine af <| aa <| ab <| ao <| bn 13 [] (.n 27 (.agg [I 64, I 0, I 0, I 0, .u32 64, .u64 i, .u32 4294967295, I 0, I 64, sl gT dx.length gW, sl cS bJ.length cT]) (.k (.ss .a))) (qs g 0 <| qB k_ 0 rfl 1 (I 64) (by kernel_rfl) <| qs g 0 <| qB k_ 0 rfl 1 (I 64) (by kernel_rfl) <| qs g 0 <| qB k_ 0 rfl 2 (.u32 4294967295) (by kernel_rfl) <| qs g 0 <| qB k_ 0 rfl 1 (I 64) (by kernel_rfl) <| qe) (by kernel_rfl) ?_
 refine ag <| bY [] 11 [I 0, I 0, I 0, I 0, .u32 0, .u64 0, .u32 0, I 0, I 0, sl none 0 0, sl none 0 0] (by kernel_rfl) k_ ?_
 intro g1 lh da
 refine ag <| ey [] 1 (.agg [I 64, I 0, I 0, I 0, .u32 64, .u64 i, .u32 4294967295, I 0, I 64, sl gT dx.length gW, sl cS bJ.length cT]) [I 64, I 0, I 0, I 0, .u32 64, .u64 i, .u32 4294967295, I 0, I 64, sl gT dx.length gW, sl cS bJ.length cT] (Pt.at g1 0) da rfl .all (by kernel_rfl) (by kernel_rfl) ?_
 intro l4 dF
 refine af <| aa <| kS (fun L wr => ∃ (p : Int), iC dx bJ root i p = some r ∧ L = [(3, sl (some ⟨Ai, 0, none⟩) root.length Aj), (5, pt g 0), (11, pt g1 0)] ∧ Cx F O w wr [Bx 65 g [I 1, I 64, .u32 4294967295, .u64 274877906944, .b false], Bx 83 g1 [I p, I 0, I 0, I 0, .u32 64, .u64 i, .u32 4294967295, I 0, I 64, sl gT dx.length gW, sl cS bJ.length cT]]) ?_ ?_
 ·
  refine ab <| bA [] (.n 12 (.u64 ((274877906944 : UInt64) - (i * 64))) (.k (.s (.kk .z)))) (qs g 0 <| qB dF 0 rfl 3 (.u64 274877906944) (by kernel_rfl) <| qs g 0 <| qB dF 0 rfl 1 (I 64) (by kernel_rfl) <| qe) (by kernel_rfl) ?_
  refine aa <| ab <| bA [] (.n 40 (.b (decide (((274877906944 : UInt64) - (i * 64)) < 64))) .a) (qs g 0 <| qB dF 0 rfl 1 (I 64) (by kernel_rfl) <| qe) (by kernel_rfl) ?_
  refine aa <| bb (((274877906944 : UInt64) - (i * 64)) < 64) (by kernel_rfl) (fun hc => ?_) (fun hc => ?_)
  · rw [if_pos hc] at hm
    refine ao <| bn 3 [] (.n 42 (I (aB ((274877906944 : UInt64) - (i * 64)).toNat)) (.n 43 (pt g1 0) (.ss .a))) (qs g1 0 <| qe) (by kernel_rfl) ?_
    refine ag <| ey [] 1 (I (aB ((274877906944 : UInt64) - (i * 64)).toNat)) [I (aB ((274877906944 : UInt64) - (i * 64)).toNat)] (Pt.at g1 0) dF rfl .h (by kernel_rfl) (by kernel_rfl) ?_
    intro qf en
    refine af ?_
    exact iy ⟨aB ((274877906944 : UInt64) - (i * 64)).toNat, hm, rfl, en⟩ (by kernel_rfl)
  rw [if_neg hc] at hm
  refine aS ?_
  exact iy ⟨(64 : Int), hm, rfl, dF⟩ (by kernel_rfl)
 rintro L_ p7 ⟨p, hm, rfl, eA⟩
 simp only [iC] at hm
 refine ab <| ao <| bn 6 [] (.n 46 (I 1) (.n 47 (.agg [I p, I 0, I 0, I 0, .u32 64, .u64 i, .u32 4294967295, I 0, I 64, sl gT dx.length gW, sl cS bJ.length cT]) (.n 49 (I p) (.n 50 (sl (some ⟨Ai, 0, none⟩) root.length Aj) .z)))) (qs g 0 <| qB eA 0 rfl 0 (I 1) (by kernel_rfl) <| qT eA 1 rfl 0 11 [I p, I 0, I 0, I 0, .u32 64, .u64 i, .u32 4294967295, I 0, I 64, sl gT dx.length gW, sl cS bJ.length cT] (by kernel_rfl) (by decide) <| qs g1 0 <| qB eA 1 rfl 0 (I p) (by kernel_rfl) <| qe) (by kernel_rfl) ?_
 refine ag ?_
 obtain ⟨r_, dk, hm⟩ := ob hm
 refine aq [] 51 _ J9 (by kernel_rfl) (Dn (F := N0) (O := N0) _ _ _ _ _ _ _ _ _ _ _ _ _ _ _ _ _ _ _ _ _ _ _ _ _ _ _ _ (Ro.n0 (uW.cx eA)) rfl sa (Ro.n0 (mN.cx eA)) rfl lN (Ro.Ge e8) rfl (Nat.le_refl 0) (Ro.n0 (MW.cx eA)) rfl KE (Cx.refl _) _ dk) ?_
 rintro e_ sV ⟨A0, _, c0, rfl, rfl, fJ⟩
 have gi := eA.call fJ
 refine ⟨.eO [sl A0 r_.1.length c0, I r_.2], rfl, ?_⟩
 have fY := gi.ck (.ss (.k .e))
 refine bn 5 [] (.n 13 (sl A0 r_.1.length c0) .z) qe (by kernel_rfl) ?_
 refine af <| aa <| ab <| bA [] (.n 10 (sl A0 r_.1.length c0) .z) qe (by kernel_rfl) ?_
 refine aa <| aL ?_
 obtain rfl := Option.some.inj hm
 refine aM [sl A0 r_.1.length c0] qe (by kernel_rfl) ?_
 exact ⟨A0, r_.1.length, c0, fY.len 0 rfl, rfl, fY⟩
end Go.Sx
