import Derived.Test.YtcpbhpebeoopkaaGreatK4
namespace Go.Sx
open Go.RowKit Go.Proofs
set_option linter.unusedVariables false
set_option linter.unusedSimpArgs false
set_option maxRecDepth 20000
theorem rV {F O : Nat → Prop} {w : World} (zZ : Vec UInt64 8) (bK : UInt64) (bM : UInt64) (dO : List UInt8) (aG : Int) (b : List UInt8) (fV : Nat) (gJ : Option Addr) (qM : Nat) (gK : Nat) (lN : Option Addr) (pX : Nat) (lZ : Nat) (sO : Ro F w lN (e8.all b)) (rO : b.length = pX) (uo : pX ≤ lZ) (k : Cx F O w w [Bx 264 fV [.ar e64 zZ, .u64 bK, .u64 bM, sl gJ qM gK, I aG, .v (.func (.func 163) ⟨SV.vals []⟩ ⟨SV.vals []⟩), .v (.func (.func 164) ⟨SV.vals []⟩ ⟨SV.vals []⟩)], Ow e8 gJ qM gK dO]) (r : (Vec UInt64 8 × UInt64 × UInt64 × List UInt8 × Int)) (hm : iC zZ bK bM dO aG b = some r) :
    Calls Tryz.prog 217 (vals [pt fV 0, sl lN pX lZ]) w (fun e w' => ∃ A n c, r.2.2.2.1.length = n ∧ e = .returned (SV.val (.jc [])) ∧ Cx F O w w' [Bx 264 fV [.ar e64 r.1, .u64 r.2.1, .u64 r.2.2.1, sl A n c, I r.2.2.2.2, .v (.func (.func 163) ⟨SV.vals []⟩ ⟨SV.vals []⟩), .v (.func (.func 164) ⟨SV.vals []⟩ ⟨SV.vals []⟩)], Ow e8 A n c r.2.2.2.1]) := by
 unfold iC at hm
 obtain rfl := k.len 1 rfl
 subst rO
 refine calls [pt fV 0, sl lN b.length lZ] Tryz.func217 rfl (of_decide_eq_true (by kernel_rfl)) ?_
 refine aJ <| pg (jO aG) (fun s L wr => ∃ (aC : Vec UInt64 8) (kK : UInt64) (lh : UInt64) (qj : List UInt8) (b1 : List UInt8) (A0 : Option Addr) (n0 : Nat) (c0 : Nat) (A1 : Option Addr) (c1 : Nat), (aC, kK, lh, qj, b1) = s ∧ L = [(0, pt fV 0), (1, sl A1 b1.length c1)] ∧ qj.length = n0 ∧ Ro F w A1 (e8.all b1) ∧ b1.length ≤ c1 ∧ Cx F O w wr [Bx 264 fV [.ar e64 aC, .u64 kK, .u64 lh, sl A0 n0 c0, I aG, .v (.func (.func 163) ⟨SV.vals []⟩ ⟨SV.vals []⟩), .v (.func (.func 164) ⟨SV.vals []⟩ ⟨SV.vals []⟩)], Ow e8 A0 n0 c0 qj]) (zZ, bK, bM, dO, b) r hm ⟨zZ, bK, bM, dO, b, gJ, dO.length, gK, lN, lZ, rfl, rfl, k.len 1 rfl, sO, uo, k⟩ (by kernel_rfl) ?_
 intro BU L_ w_ y0 hrel hstep hr0
 obtain ⟨aC, kK, lh, qj, b1, A0, _, c0, A1, c1, rfl, rfl, rfl, h, hc, k_⟩ := hrel
 have hm := hstep; simp only [jO] at hm
 clear hstep
 refine af <| af <| bg [] (.n 7 (.b (decide (0 < ((b1.length : Nat) : Int)))) .a) qe (by kernel_rfl) ?_
 refine ae <| aZ (0 < ((b1.length : Nat) : Int)) (by kernel_rfl) (fun hc1 => ?_) (fun hc1 => ?_)
 · rw [if_pos hc1] at hm
   refine aS <| ae <| aJ <| vG (fun L wr => ∃ (CO : Vec UInt64 8) (zK : UInt64) (qZ : UInt64) (fZ : List UInt8) (A2 : Option Addr) (n1 : Nat) (c2 : Nat), gq aG b1 CO zK qZ fZ = some y0 ∧ L = [(0, pt fV 0), (1, sl A1 b1.length c1)] ∧ fZ.length = n1 ∧ Cx F O w wr [Bx 264 fV [.ar e64 CO, .u64 zK, .u64 qZ, sl A2 n1 c2, I aG, .v (.func (.func 163) ⟨SV.vals []⟩ ⟨SV.vals []⟩), .v (.func (.func 164) ⟨SV.vals []⟩ ⟨SV.vals []⟩)], Ow e8 A2 n1 c2 fZ]) ?_ ?_
   ·
    refine af <| W_d bG (by kernel_rfl) (.n 17 (.b (decide (((qj.length : Nat) : Int) = aG))) (.s .a)) (fun m => qs fV 0 <| qs fV 0 <| qB (k_.drew m) 0 rfl 10 (sl A0 qj.length c0) (by kernel_rfl) <| qs fV 0 <| qs fV 0 <| qB (k_.drew m) 0 rfl 11 (I aG) (by kernel_rfl) <| qe) (by kernel_rfl) (fun m_ => ?_)
    have dK := k_.drew m_
    refine ae <| aZ (((qj.length : Nat) : Int) = aG) (by kernel_rfl) (fun hc2 => ?_) (fun hc2 => ?_)
    · rw [if_pos hc2] at hm
      refine af ?_
      have fF := dK.drew 1
      refine xQ bG (.q 0 1 (.q 1 1 (.q 2 1 (.q 3 0 (.q 4 0 (.q 5 1 (.q 6 1 (.q 7 1 (.q 8 0 (.q 9 0 (.op 10 (.q 11 1 (.q 12 1 (.q 14 1 (.q 15 1 (.q 13 2 (.op 16 .nil))))))))))))))))) [10, 16] fF (.c (.kk .e) (.c (.s (.k .e)) .l)) (by kernel_rfl) (fun _ => ?_)
      refine dG 3 1 [] (.n 19 (pt fV 0) (.n 21 (pt fV 0) (.s .a))) (fun x hx => qs fV 0 <| qe) (by kernel_rfl) (fun _ => ?_)
      refine dG 2 0 [] (.n 23 (.agg [.u64 kK, .u64 lh]) (.k (.s .a))) (fun x hx => qs fV 0 <| qT hx 0 rfl 8 2 [.u64 kK, .u64 lh] (by kernel_rfl) (by decide) <| qe) (by kernel_rfl) (fun _ => ?_)
      refine dG 3 1 [] (.n 26 (pt fV 11) .a) (fun x hx => qs fV 0 <| qs fV 0 <| qe) (by kernel_rfl) (fun _ => ?_)
      refine dG 2 0 [] (.n 28 (.u64 (UInt64.ofInt aG)) (.s .a)) (fun x hx => qB hx 0 rfl 11 (I aG) (by kernel_rfl) <| qe) (by kernel_rfl) (fun _ => ?_)
      refine dw (by kernel_rfl) rfl ?_
      obtain ⟨r_, dV, hm⟩ := ob hm
      refine ay [] 29 _ zG (by kernel_rfl) (vV (F := N0) (O := N0) _ _ _ (Cx.refl _) _ dV) ?_
      rintro e_ o9 ⟨rfl, fM⟩
      have g_ := fF.call fM
      refine ⟨.jc [.agg [.u64 r_.1, .u64 r_.2.1], .b r_.2.2], rfl, ?_⟩
      refine ⟨g_, fun _ => ?_⟩
      refine dG 4 1 [] (.n 18 (.jc [.agg [.u64 r_.1, .u64 r_.2.1], .b r_.2.2]) (.n 30 (.agg [.u64 r_.1, .u64 r_.2.1]) (.n 33 (pt fV 8) (.kJ .a)))) (fun x hx => qs fV 0 <| qs fV 0 <| qe) (by kernel_rfl) (fun _ => ?_)
      refine dG 1 2 [] (.s .a) (fun x hx => qe) (by kernel_rfl) (fun _ => ?_)
      refine dw (by kernel_rfl) rfl <| iQ [] 0 (.agg [.u64 r_.1, .u64 r_.2.1]) [.u64 r_.1, .u64 r_.2.1] (Pt.at fV 8) g_ rfl (.k .h2) (by kernel_rfl) (by kernel_rfl) ?_
      intro sZ gX
      refine ⟨(gX.bD (.s (.k .e))), fun _ => ?_⟩
      refine dP <| ae <| af ?_
      have jb := gX.drew 1
      refine xQ bG (.q 0 1 (.q 1 1 (.q 2 1 (.q 3 0 (.q 4 0 (.q 5 1 (.q 6 1 (.q 7 0 (.q 8 0 (.q 9 1 (.q 10 1 (.q 11 0 (.q 12 0 (.q 13 1 (.q 14 1 (.q 15 0 (.q 16 0 (.op 17 (.q 18 1 (.q 19 1 (.op 20 .nil))))))))))))))))))))) [17, 20] jb (.c (.kk .e) (.c (.s (.k .e)) .l)) (by kernel_rfl) (fun _ => ?_)
      refine dG 3 1 [] (.n 34 (pt fV 0) (.n 36 (pt fV 0) (.ss .a))) (fun x hx => qs fV 0 <| qe) (by kernel_rfl) (fun _ => ?_)
      refine dG 2 0 [] (.n 38 (.v (.func (.func 163) ⟨SV.vals []⟩ ⟨SV.vals []⟩)) (.k (.s .a))) (fun x hx => qs fV 0 <| qB hx 0 rfl 12 (.v (.func (.func 163) ⟨SV.vals []⟩ ⟨SV.vals []⟩)) (by kernel_rfl) <| qe) (by kernel_rfl) (fun _ => ?_)
      refine dG 2 1 [] (.n 40 (pt fV 0) .a) (fun x hx => qs fV 0 <| qe) (by kernel_rfl) (fun _ => ?_)
      refine dG 2 0 [] (.n 42 (.agg [.ar e64 aC]) (.s .a)) (fun x hx => qs fV 0 <| qT hx 0 rfl 0 8 [.ar e64 aC] (by kernel_rfl) (by decide) <| qe) (by kernel_rfl) (fun _ => ?_)
      refine dG 2 1 [] (.n 44 (pt fV 0) .a) (fun x hx => qs fV 0 <| qe) (by kernel_rfl) (fun _ => ?_)
      refine dG 2 0 [] (.n 46 (sl A0 qj.length c0) (.s .a)) (fun x hx => qs fV 0 <| qB hx 0 rfl 10 (sl A0 qj.length c0) (by kernel_rfl) <| qe) (by kernel_rfl) (fun _ => ?_)
      refine dG 2 1 [] (.n 48 (pt fV 0) .a) (fun x hx => qs fV 0 <| qe) (by kernel_rfl) (fun _ => ?_)
      refine dG 2 0 [] (.n 50 (.agg [.u64 r_.1, .u64 r_.2.1]) (.s .a)) (fun x hx => qs fV 0 <| qT hx 0 rfl 8 2 [.u64 r_.1, .u64 r_.2.1] (by kernel_rfl) (by decide) <| qe) (by kernel_rfl) (fun _ => ?_)
      refine dw (by kernel_rfl) rfl ?_
      obtain ⟨aQ, fG, hm⟩ := ob hm
      refine zk [] 51 [] [.agg [.ar e64 aC], sl A0 qj.length c0, .agg [.u64 r_.1, .u64 r_.2.1], .b false, .b false] [] OZ (by kernel_rfl) (DV (F := N0) (O := N0) _ _ _ _ _ _ _ _ _ (Ro.n0 (jb.rd 1 rfl)) (jb.len 1 rfl) (jb.EH 1 rfl) (Cx.refl _) _ fG) ?_
      rintro e_ xk ⟨rfl, jf⟩
      have jQ := jb.call jf
      refine ⟨.agg [.ar e64 aQ], rfl, ?_⟩
      refine ⟨jQ, fun _ => ?_⟩
      refine dG 2 1 [] (.n 53 (pt fV 0) (.k (.kJ (.s .a)))) (fun x hx => qs fV 0 <| qs fV 0 <| qe) (by kernel_rfl) (fun _ => ?_)
      refine dw (by kernel_rfl) rfl <| iQ [] 0 (.agg [.ar e64 aQ]) [.ar e64 aQ] (Pt.at fV 0) jQ rfl .h (by kernel_rfl) (by kernel_rfl) ?_
      intro xB jS
      refine ⟨(jS.bD (.s (.k .e))), fun _ => ?_⟩
      refine dP <| ae <| ax ?_
      obtain ⟨b2, Gy, hm⟩ := ob hm
      have hs := iq Gy
      have hl := nC Gy
      have hn : qj.length = qj.length := (jS.len 1 rfl)
      have hc3 : qj.length ≤ c0 := (jS.EH 1 rfl)
      have hc4 : b2.length ≤ c0 := by omega
      refine aW 8 [] (.n 59 (sl A0 b2.length c0) (.n 61 (pt fV 10) (.ss .a))) (qs fV 0 <| qs fV 0 <| qB jS 0 rfl 10 (sl A0 qj.length c0) (by kernel_rfl) <| qp (0 ≤ (0 : Int) ∧ (0 : Int) ≤ ((c0 : Nat) : Int)) (by omega) <| qo (.v (.slice A0 b2.length c0)) <| qp (Value.slice (zJ A0 0 c0 1) (Int.toNat (0 : Int) - 0) (c0 - 0) = .slice A0 b2.length c0) (D8 _ _ _ _ _ (by omega)) <| qs fV 0 <| qs fV 0 <| qe) (by kernel_rfl) ?_
      refine ai ?_
      have dJ := jS.bD (.kk .e)
      refine iQ [] 0 (sl A0 b2.length c0) [sl A0 b2.length c0] (Pt.at fV 10) dJ rfl (.kk (.k .h)) (by kernel_rfl) (by kernel_rfl) ?_
      intro y5 dB
      refine ag ?_
      have gz := dB.pre 1 rfl b2.length c0 b2 (by omega) (by omega) (by omega) (Ip Gy rfl)
      exact oJ ⟨aQ, r_.1, r_.2.1, b2, A0, b2.length, c0, hm, rfl, gz.len 1 rfl, gz⟩ (by kernel_rfl)
    rw [if_neg hc2] at hm
    refine aS ?_
    exact oJ ⟨aC, kK, lh, qj, A0, qj.length, c0, hm, rfl, dK.len 1 rfl, dK⟩ (by kernel_rfl)
   rintro L_ CW ⟨CO, zK, qZ, fZ, A2, _, c2, hm, rfl, rfl, iI⟩
   simp only [gq] at hm
   refine af <| W_d bG (by kernel_rfl) (.n 4 (I (if aI (aG - ((fZ.length : Nat) : Int)) < ((b1.length : Nat) : Int) then aI (aG - ((fZ.length : Nat) : Int)) else ((b1.length : Nat) : Int))) .a) (fun m => qs fV 0 <| qs fV 0 <| qB (iI.drew m) 0 rfl 11 (I aG) (by kernel_rfl) <| qs fV 0 <| qs fV 0 <| qB (iI.drew m) 0 rfl 10 (sl A2 fZ.length c2) (by kernel_rfl) <| qe) (by kernel_rfl) (fun vX => ?_)
   have iJ := iI.drew vX
   refine ae <| af ?_
   have iK := iJ.drew 1
   refine xQ bG (.q 5 0 (.q 6 0 (.q 7 0 (.q 0 1 (.q 1 1 (.q 2 1 (.q 3 0 (.q 4 0 (.op 8 (.q 9 1 (.q 10 1 (.op 11 .nil)))))))))))) [8, 11] iK (.c (.k .z) (.c (.z) .l)) (by kernel_rfl) (fun _ => ?_)
   obtain ⟨b3, H8, hm⟩ := ob hm
   have hs1 := iq H8
   have hl1 := nC H8
   have hn1 : b1.length = b1.length := rfl
   have hc5 : b1.length ≤ c1 := hc
   have hc6 : b3.length ≤ c1 := by omega
   refine dG 3 0 [] (.n 82 (sl A1 b3.length c1) .a) (fun x hx => qp (0 ≤ (if aI (aG - ((fZ.length : Nat) : Int)) < ((b1.length : Nat) : Int) then aI (aG - ((fZ.length : Nat) : Int)) else ((b1.length : Nat) : Int)) ∧ (if aI (aG - ((fZ.length : Nat) : Int)) < ((b1.length : Nat) : Int) then aI (aG - ((fZ.length : Nat) : Int)) else ((b1.length : Nat) : Int)) ≤ ((c1 : Nat) : Int)) (by omega) <| qo (.v (.slice A1 b3.length c1)) <| qp (Value.slice (zJ A1 0 c1 1) (Int.toNat (if aI (aG - ((fZ.length : Nat) : Int)) < ((b1.length : Nat) : Int) then aI (aG - ((fZ.length : Nat) : Int)) else ((b1.length : Nat) : Int)) - 0) (c1 - 0) = .slice A1 b3.length c1) (D8 _ _ _ _ _ (by omega)) <| qe) (by kernel_rfl) (fun _ => ?_)
   refine dG 3 1 [] (.n 75 (pt fV 0) (.n 77 (pt fV 0) .a)) (fun x hx => qs fV 0 <| qe) (by kernel_rfl) (fun _ => ?_)
   refine dG 2 0 [] (.n 79 (sl A2 fZ.length c2) (.k (.s .a))) (fun x hx => qs fV 0 <| qB hx 0 rfl 10 (sl A2 fZ.length c2) (by kernel_rfl) <| qe) (by kernel_rfl) (fun _ => ?_)
   refine dw (by kernel_rfl) rfl ?_
   obtain ⟨b4, Et, hm⟩ := ob hm
   obtain ⟨hz, hl2⟩ := fO Et
   refine dL (E := e8) (v := sl A1 b3.length c1) (ys := b3) dW [] 83 1 (by kernel_rfl) iK rfl (Src.sl (Rd.pre (h.cx iK) H8 rfl) rfl (by rfl)) rfl (by have := iK.len 1 rfl; have := hm; omega) ?_
   intro A3 c3 Du iG
   rw [← hl2] at iG
   refine ⟨(iG.bD (.k .z)), fun _ => ?_⟩
   refine dG 2 1 [] (.n 85 (pt fV 10) (.k (.nG .a))) (fun x hx => qs fV 0 <| qs fV 0 <| qe) (by kernel_rfl) (fun _ => ?_)
   refine dw (by kernel_rfl) rfl <| iQ [] 0 (sl A3 (fZ.length + b3.length) c3) [sl A3 (fZ.length + b3.length) c3] (Pt.at fV 10) iG rfl (.kk (.k .h)) (by kernel_rfl) (by kernel_rfl) ?_
   intro Jn je
   refine ⟨(je.bD .z), fun _ => ?_⟩
   refine dP <| ae ?_
   obtain ⟨b5, QR, hm⟩ := ob hm
   have hs2 := iq QR
   have hl3 := nC QR
   have hn2 : b1.length = b1.length := rfl
   have Ol : b1.length ≤ c1 := hc
   obtain ⟨A4, c4, e_, hc8, hA, Yc⟩ := YT A1 (Int.toNat (if aI (aG - ((fZ.length : Nat) : Int)) < ((b1.length : Nat) : Int) then aI (aG - ((fZ.length : Nat) : Int)) else ((b1.length : Nat) : Int))) c1 1 (b1.length - Int.toNat (if aI (aG - ((fZ.length : Nat) : Int)) < ((b1.length : Nat) : Int) then aI (aG - ((fZ.length : Nat) : Int)) else ((b1.length : Nat) : Int))) b5.length (by omega) (by omega)
   refine bg [] (.n 1 (sl A4 b5.length c4) (.nG (.k .z))) (qp (0 ≤ (if aI (aG - ((fZ.length : Nat) : Int)) < ((b1.length : Nat) : Int) then aI (aG - ((fZ.length : Nat) : Int)) else ((b1.length : Nat) : Int)) ∧ (if aI (aG - ((fZ.length : Nat) : Int)) < ((b1.length : Nat) : Int) then aI (aG - ((fZ.length : Nat) : Int)) else ((b1.length : Nat) : Int)) ≤ ((b1.length : Nat) : Int)) (by omega) <| qo (.v (.slice A4 b5.length c4)) <| qp (Value.slice (zJ A1 (Int.toNat (if aI (aG - ((fZ.length : Nat) : Int)) < ((b1.length : Nat) : Int) then aI (aG - ((fZ.length : Nat) : Int)) else ((b1.length : Nat) : Int))) c1 1) (b1.length - Int.toNat (if aI (aG - ((fZ.length : Nat) : Int)) < ((b1.length : Nat) : Int) then aI (aG - ((fZ.length : Nat) : Int)) else ((b1.length : Nat) : Int))) (c1 - Int.toNat (if aI (aG - ((fZ.length : Nat) : Int)) < ((b1.length : Nat) : Int) then aI (aG - ((fZ.length : Nat) : Int)) else ((b1.length : Nat) : Int))) = .slice A4 b5.length c4) e_ <| qe) (by kernel_rfl) ?_
   refine gm ?_
   exact jU (CO, zK, qZ, b4, b5) (Option.some.inj hm).symm ⟨CO, zK, qZ, b4, b5, A3, fZ.length + b3.length, c3, A4, c4, rfl, rfl, je.len 1 rfl, (Ro.cut h QR rfl (by rfl) hA (by omega)), hc8, je⟩ (by kernel_rfl)
 rw [if_neg hc1] at hm
 refine dY (bU (bU (iL ?_)))
 have hm := cO hm hr0
 obtain rfl := Option.some.inj hm
 refine xY [] qe (by kernel_rfl) ?_
 exact ⟨A0, qj.length, c0, k_.len 1 rfl, rfl, k_⟩
theorem NU {F O : Nat → Prop} {w : World} (b : List UInt8) (lN : Option Addr) (pX : Nat) (lZ : Nat) (sO : Ro F w lN (e8.all b)) (rO : b.length = pX) (uo : pX ≤ lZ) (k : Cx F O w w []) (r : (Vec UInt32 16 × Int)) (hm : uO b = some r) :
    Calls Tryz.prog 181 (vals [sl lN pX lZ]) w (fun e w' => e = .returned (SV.val (.jc [.agg [.ar e32 r.1], I r.2])) ∧ Cx F O w w' []) := by
 unfold uO at hm
 subst rO
 refine calls [sl lN b.length lZ] Tryz.func181 rfl (of_decide_eq_true (by kernel_rfl)) ?_
 refine af <| ax <| ai <| bJ [] 2 [.ar e32 (Vec.rep 16 (0 : UInt32))] (by kernel_rfl) k ?_
 intro g w_ k_
 refine aW 1 [] .a qe (by kernel_rfl) ?_
 refine ag <| ae <| af <| ax <| ai <| bJ [] 4 [.ar e32 (Vec.rep 16 (0 : UInt32))] (by kernel_rfl) k_ ?_
 intro g1 o9 dK
 refine ag <| ae <| af <| af <| ax <| aW 1 [] (.n 6 (sl lN b.length lZ) .a) qe (by kernel_rfl) ?_
 refine ai ?_
 obtain ⟨r_, dV, hm⟩ := ob hm
 refine ay [] 7 _ O5 (by kernel_rfl) (FP (F := N0) (O := N0) _ _ _ _ _ (Ro.n0 (sO.cx dK)) rfl uo (Cx.refl _) _ dV) ?_
 rintro e_ sZ ⟨rfl, fF⟩
 have fM := dK.call fF
 refine ⟨I r_, rfl, ?_⟩
 refine aW 1 [] (.n 5 (I r_) (.ss .a)) qe (by kernel_rfl) ?_
 refine ag <| ae <| af <| bg [] (.n 9 (.b (decide (r_ ≠ 0))) .a) qe (by kernel_rfl) ?_
 refine ae <| aZ (r_ ≠ 0) (by kernel_rfl) (fun hc => ?_) (fun hc => ?_)
 · rw [if_pos hc] at hm
   refine af <| ax <| aW 2 [] (.n 10 (.agg [.ar e32 (Vec.rep 16 (0 : UInt32))]) (.n 11 (I r_) (.nG (.k .z)))) (qT fM 1 rfl 0 16 [.ar e32 (Vec.rep 16 (0 : UInt32))] (by kernel_rfl) (by decide) <| qe) (by kernel_rfl) ?_
   refine ai <| iQ [] 0 (.agg [.ar e32 (Vec.rep 16 (0 : UInt32))]) [.ar e32 (Vec.rep 16 (0 : UInt32))] (Pt.at g 0) fM rfl .all (by kernel_rfl) (by kernel_rfl) ?_
   intro xk g_
   have gX := g_.bD (.k .z)
   refine aW 1 [] (.n 3 (I r_) (.ss .a)) qe (by kernel_rfl) ?_
   refine ag <| ae <| aN (bz ?_)
   obtain rfl := Option.some.inj hm
   refine aO [.agg [.ar e32 (Vec.rep 16 (0 : UInt32))], I r_] (qo (.agg [.ar e32 (Vec.rep 16 (0 : UInt32))]) <| qc (fun w => Rd w (some ⟨g, 0, none⟩) (SV.cl [.ar e32 (Vec.rep 16 (0 : UInt32))])) (gX.F9 0 rfl) <| qe) (by kernel_rfl) ?_
   have jb := gX.bD .z
   exact ⟨rfl, jb⟩
 rw [if_neg hc] at hm
 refine aS <| ae <| af <| ax <| aW 2 [] (.n 12 (sl (some ⟨g1, 0, none⟩) 16 16) (.n 13 (sl lN b.length lZ) (.ss (.kk .z)))) (qo (.v (.slice (some ⟨g1, 0, none⟩) 16 16)) <| qp (((some ⟨g1, 0, none⟩) : Option Addr).isSome = true ∧ Value.slice (zJ (some ⟨g1, 0, none⟩) 0 16 1) (16 - 0) (16 - 0) = .slice (some ⟨g1, 0, none⟩) 16 16) ⟨rfl, D8 _ _ _ _ _ rfl⟩ <| qe) (by kernel_rfl) ?_
 refine ai ?_
 have jf := fM.YU [] [] 1 rfl
 obtain ⟨aQ, fG, hm⟩ := ob hm
 obtain ⟨F1, O1, kin, hO, hre, hF, hb⟩ := jf.go (.r (.i .e))
 refine ay [] 14 _ O6 (by kernel_rfl) (FQ (F := F1) (O := O1) _ _ _ _ _ _ _ _ _ (Nat.le_refl _) (Ro.I4 sO jf hF) rfl uo kin _ fG) ?_
 rintro e_ xB ⟨rfl, jQ⟩
 have jS := hb xB _ _ jQ (.c .n)
 refine ⟨.jc [], rfl, ?_⟩
 have dJ := jS.YV [] [] 0 rfl (Vec.of 16 aQ) (Vec.ZF (jS.Qv 0 rfl))
 refine ag <| ae <| af <| ax <| aW 1 [] (.n 15 (.agg [.ar e32 (Vec.of 16 aQ)]) (.kJ .a)) (qT dJ 0 rfl 0 16 [.ar e32 (Vec.of 16 aQ)] (by kernel_rfl) (by decide) <| qe) (by kernel_rfl) ?_
 refine ai ?_
 have dB := dJ.bD (.kk .e)
 refine iQ [] 1 (.agg [.ar e32 (Vec.of 16 aQ)]) [.ar e32 (Vec.of 16 aQ)] (Pt.at g 0) dB rfl .all (by kernel_rfl) (by kernel_rfl) ?_
 intro y5 gz
 have iI := gz.bD (.s (.k .e))
 refine aW 1 [] (.n 3 (I 0) (.s .a)) qe (by kernel_rfl) ?_
 refine ag <| ae <| aN ?_
 obtain rfl := Option.some.inj hm
 refine aO [.agg [.ar e32 (Vec.of 16 aQ)], I 0] (qo (.agg [.ar e32 (Vec.of 16 aQ)]) <| qc (fun w => Rd w (some ⟨g, 0, none⟩) (SV.cl [.ar e32 (Vec.of 16 aQ)])) (iI.F9 0 rfl) <| qe) (by kernel_rfl) ?_
 have iJ := iI.bD .z
 exact ⟨rfl, iJ⟩
theorem NV {F O : Nat → Prop} {w : World} (h : Vec UInt32 8) (count : UInt64) (last : Bool) (node : Bool) (k : Cx F O w w []) (r : (Vec UInt32 16)) (hm : xM h count last node = some r) :
    Calls Tryz.prog 187 (vals [.agg [.ar e32 h], .u64 count, .b last, .b node]) w (fun e w' => e = .returned (SV.val (.agg [.ar e32 r])) ∧ Cx F O w w' []) := by
 unfold xM at hm
 refine calls [.agg [.ar e32 h], .u64 count, .b last, .b node] Tryz.func187 rfl (of_decide_eq_true (by kernel_rfl)) ?_
 refine af <| ax <| ai <| jT [] 4 (.agg [.ar e32 h]) [.ar e32 h] (by kernel_rfl) k ?_
 intro g w_ k_
 refine ai <| bJ [] 8 [.ar e32 (Vec.rep 16 (0 : UInt32))] (by kernel_rfl) k_ ?_
 intro g1 o9 dK
 refine ag <| ae <| af <| ax <| ai <| bJ [] 9 [.ar e32 (Vec.rep 16 (0 : UInt32))] (by kernel_rfl) dK ?_
 intro g2 sZ fF
 refine ag <| ae <| af <| ax <| ai ?_
 obtain ⟨r_, dV, hm⟩ := ob hm
 refine ay [] 11 _ O7 (by kernel_rfl) (Ll (F := N0) (O := N0)  (Cx.refl _) _ dV) ?_
 rintro e_ xk ⟨rfl, fM⟩
 have g_ := fF.call fM
 refine ⟨.agg [.ar e32 r_], rfl, ?_⟩
 refine ai ?_
 have gX := g_.bD (.kk (.k .e))
 refine bJ [] 10 [.ar e32 (Vec.rep 8 (0 : UInt32))] (by kernel_rfl) gX ?_
 intro g3 xB jb
 refine ai <| iQ [] 3 (.agg [.ar e32 r_]) [.ar e32 r_] (Pt.at g3 0) jb rfl .all (by kernel_rfl) (by kernel_rfl) ?_
 intro y5 jf
 refine ag <| ae <| af ?_
 have jQ := jf.drew 1
 refine xQ bG (.q 0 0 (.q 1 0 (.op 2 .nil))) [2] jQ (.c (.kk (.s (.k .e))) .l) (by kernel_rfl) (fun _ => ?_)
 obtain ⟨b, sO, hm⟩ := ob hm
 have hs := iq sO
 have hl := nC sO
 have hn : ((Vec.rep 16 (0 : UInt32)).l).length = 16 := (Vec.rep 16 (0 : UInt32)).h
 have hc : 16 ≤ 16 := (Nat.le_refl _)
 have hc1 : b.length ≤ 16 := by omega
 refine dG 2 0 [] (.n 12 (sl (some ⟨g2, 0, none⟩) b.length 16) (.n 13 (sl (some ⟨g, 0, none⟩) 8 8) (.k (.s (.kk (.ss .a)))))) (fun x hx => qp (0 ≤ (8 : Int) ∧ (8 : Int) ≤ ((16 : Nat) : Int)) (by omega) <| qo (.v (.slice (some ⟨g2, 0, none⟩) b.length 16)) <| qp (((some ⟨g2, 0, none⟩) : Option Addr).isSome = true ∧ Value.slice (zJ (some ⟨g2, 0, none⟩) 0 16 1) (Int.toNat (8 : Int) - 0) (16 - 0) = .slice (some ⟨g2, 0, none⟩) b.length 16) ⟨rfl, D8 _ _ _ _ _ (by omega)⟩ <| qo (.v (.slice (some ⟨g, 0, none⟩) 8 8)) <| qp (((some ⟨g, 0, none⟩) : Option Addr).isSome = true ∧ Value.slice (zJ (some ⟨g, 0, none⟩) 0 8 1) (8 - 0) (8 - 0) = .slice (some ⟨g, 0, none⟩) 8 8) ⟨rfl, D8 _ _ _ _ _ rfl⟩ <| qe) (by kernel_rfl) (fun _ => ?_)
 refine dw (by kernel_rfl) rfl <| ML (E := e32) (dn := b.length) (dc := 16) (v := sl (some ⟨g, 0, none⟩) 8 8) (src := h.l) (lo := 0) (m' := 16) Pe [] 14 2 [] [] (Vec.rep 16 (0 : UInt32)) (by kernel_rfl) (Bj _ _ _).symm jQ rfl (Src.sl (Rd.vec (jQ.F9 0 rfl) (c := Enc.all e32 h.l) (off := 0) (by kernel_rfl)) h.h (by rfl)) h.h (by have := (Vec.rep 16 (0 : UInt32)).h; omega) (by omega) (by omega) ?_
 intro CW jS
 refine ⟨(jS.bD (.kk (.s (.k .e)))), fun _ => ?_⟩
 refine dP <| ae <| af ?_
 have dJ := jS.drew 1
 refine xQ bG (.q 0 0 (.q 1 0 (.op 2 .nil))) [2] dJ (.c (.kk (.s (.k .e))) .l) (by kernel_rfl) (fun _ => ?_)
 obtain ⟨b1, yD, hm⟩ := ob hm
 have hs1 := iq yD
 have hl1 := nC yD
 have hn1 : ((D9 (Vec.rep 16 (0 : UInt32)) 0 b.length h.l).l).length = 16 := (D9 (Vec.rep 16 (0 : UInt32)) 0 b.length h.l).h
 have hc2 : 16 ≤ 16 := (Nat.le_refl _)
 obtain ⟨A, c, e_, hc3, hA, hc4⟩ := YT (some ⟨g2, 0, none⟩) (Int.toNat (8 : Int)) 16 1 (16 - Int.toNat (8 : Int)) b1.length (by omega) (by omega)
 refine dG 2 0 [] (.n 15 (sl A b1.length c) (.n 16 (sl (some ⟨g3, 0, none⟩) 8 8) (.kJ .a))) (fun x hx => qp (0 ≤ (8 : Int) ∧ (8 : Int) ≤ ((16 : Nat) : Int)) (by omega) <| qo (.v (.slice A b1.length c)) <| qp (((some ⟨g2, 0, none⟩) : Option Addr).isSome = true ∧ Value.slice (zJ (some ⟨g2, 0, none⟩) (Int.toNat (8 : Int)) 16 1) (16 - Int.toNat (8 : Int)) (16 - Int.toNat (8 : Int)) = .slice A b1.length c) ⟨rfl, e_⟩ <| qo (.v (.slice (some ⟨g3, 0, none⟩) 8 8)) <| qp (((some ⟨g3, 0, none⟩) : Option Addr).isSome = true ∧ Value.slice (zJ (some ⟨g3, 0, none⟩) 0 8 1) (8 - 0) (8 - 0) = .slice (some ⟨g3, 0, none⟩) 8 8) ⟨rfl, D8 _ _ _ _ _ rfl⟩ <| qe) (by kernel_rfl) (fun _ => ?_)
 refine dw (by kernel_rfl) rfl <| ML (E := e32) (dn := b1.length) (dc := c) (v := sl (some ⟨g3, 0, none⟩) 8 8) (src := r_.l) (lo := Int.toNat (8 : Int)) (m' := 16) Pe [] 17 2 [] [] (D9 (Vec.rep 16 (0 : UInt32)) 0 b.length h.l) (by kernel_rfl) hA dJ rfl (Src.sl (Rd.vec (dJ.F9 3 rfl) (c := Enc.all e32 r_.l) (off := 0) (by kernel_rfl)) r_.h (by rfl)) r_.h (by have := (D9 (Vec.rep 16 (0 : UInt32)) 0 b.length h.l).h; omega) (by omega) (by omega) ?_
 intro Du dB
 refine ⟨(dB.bD (.kk (.s (.k .e)))), fun _ => ?_⟩
 refine dP <| ae <| af <| ax ?_
 obtain ⟨aC, yE, hm⟩ := ob hm
 obtain ⟨x_1, kQ, hm⟩ := ob hm
 refine aW 6 [] (.n 22 (.u32 (aC ^^^ (UInt32.ofNat count.toNat))) (.n 23 (.v (.pointer (rD (some ⟨g2, 0, none⟩) (12 : Int) 1))) (.nG .a))) (qV (dB.rP 2 rfl e32 (D9 (D9 (Vec.rep 16 (0 : UInt32)) 0 b.length h.l) (Int.toNat (8 : Int)) b1.length r_.l) 0 (by kernel_rfl)) yE rfl (.u32 aC) rfl <| qI g2 0 kQ <| qe) (by kernel_rfl) ?_
 refine ai ?_
 have gz := dB.bD (.bH .e)
 obtain ⟨v, Yd, hm⟩ := nm hm
 refine nO (E := e32) (kk := 0) [] 2 (.u32 (aC ^^^ (UInt32.ofNat count.toNat))) [.u32 (aC ^^^ (UInt32.ofNat count.toNat))] Yd kQ (Pt.EU (Pt.at g2 0) (12 : Int) 1) gz rfl .h rfl (by kernel_rfl) (by kernel_rfl) ?_
 intro Jn iI
 refine ag <| ae <| af <| ax ?_
 obtain ⟨bY, jk, hm⟩ := ob hm
 obtain ⟨iy, mf, hm⟩ := ob hm
 refine aW 7 [] (.n 29 (.u32 (bY ^^^ (UInt32.ofNat (jR count ((32 : UInt64).toNat)).toNat))) (.n 30 (.v (.pointer (rD (some ⟨g2, 0, none⟩) (13 : Int) 1))) (.ss (.kk (.s .a))))) (qV (iI.rP 2 rfl e32 v 0 (by kernel_rfl)) jk rfl (.u32 bY) rfl <| qI g2 0 mf <| qe) (by kernel_rfl) ?_
 refine ai ?_
 obtain ⟨v1, Jt, hm⟩ := nm hm
 refine nO (E := e32) (kk := 0) [] 2 (.u32 (bY ^^^ (UInt32.ofNat (jR count ((32 : UInt64).toNat)).toNat))) [.u32 (bY ^^^ (UInt32.ofNat (jR count ((32 : UInt64).toNat)).toNat))] Jt mf (Pt.EU (Pt.at g2 0) (13 : Int) 1) iI rfl .h rfl (by kernel_rfl) (by kernel_rfl) ?_
 intro JW iJ
 refine ag <| ae <| vG (fun L wr => ∃ (v2 : Vec UInt32 16), rZ node v2 = some r ∧ L = [(3, .b node), (8, pt g1 0), (9, pt g2 0)] ∧ Cx F O w wr [Bx 210 g1 [.ar e32 (Vec.rep 16 (0 : UInt32))], Bx 210 g2 [.ar e32 v2]]) ?_ ?_
 ·
  refine af <| bg [] (.n 31 (.b last) (.ss (.kk (.s .a)))) qe (by kernel_rfl) ?_
  refine ae <| bC last (by kernel_rfl) (fun hc5 => ?_) (fun hc5 => ?_)
  · rw [if_pos hc5] at hm
    refine ax ?_
    obtain ⟨iR, oW, hm⟩ := ob hm
    obtain ⟨kK, xe, hm⟩ := ob hm
    refine aW 4 [] (.n 34 (.u32 (4294967295 ^^^ iR)) (.n 35 (.v (.pointer (rD (some ⟨g2, 0, none⟩) (14 : Int) 1))) (.s .a))) (qV (iJ.rP 2 rfl e32 v1 0 (by kernel_rfl)) oW rfl (.u32 iR) rfl <| qI g2 0 xe <| qe) (by kernel_rfl) ?_
    refine ai ?_
    obtain ⟨v3, QP, hm⟩ := nm hm
    refine nO (E := e32) (kk := 0) [] 2 (.u32 (4294967295 ^^^ iR)) [.u32 (4294967295 ^^^ iR)] QP xe (Pt.EU (Pt.at g2 0) (14 : Int) 1) iJ rfl .h rfl (by kernel_rfl) (by kernel_rfl) ?_
    intro BV iK
    refine ag ?_
    have iG := iK.bD (.s (.kk .z))
    exact oJ ⟨v3, hm, rfl, iG⟩ (by kernel_rfl)
  rw [if_neg (by rw [hc5]; decide)] at hm
  refine aS ?_
  have je := iJ.bD (.s (.kk .z))
  exact oJ ⟨v1, hm, rfl, je⟩ (by kernel_rfl)
 rintro L_ Dv ⟨v2, hm, rfl, ku⟩
 simp only [rZ] at hm
 refine vG (fun L wr => ∃ (v4 : Vec UInt32 16), rY v4 = some r ∧ L = [(8, pt g1 0), (9, pt g2 0)] ∧ Cx F O w wr [Bx 210 g1 [.ar e32 (Vec.rep 16 (0 : UInt32))], Bx 210 g2 [.ar e32 v4]]) ?_ ?_
 ·
  refine af <| bg [] (.n 36 (.b node) (.s .a)) qe (by kernel_rfl) ?_
  refine ae <| bC node (by kernel_rfl) (fun hc6 => ?_) (fun hc6 => ?_)
  · rw [if_pos hc6] at hm
    refine ax ?_
    obtain ⟨lh, yS, hm⟩ := ob hm
    obtain ⟨qj, AQ, hm⟩ := ob hm
    refine aW 4 [] (.n 39 (.u32 (4294967295 ^^^ lh)) (.n 40 (.v (.pointer (rD (some ⟨g2, 0, none⟩) (15 : Int) 1))) (.s .a))) (qV (ku.rP 1 rfl e32 v2 0 (by kernel_rfl)) yS rfl (.u32 lh) rfl <| qI g2 0 AQ <| qe) (by kernel_rfl) ?_
    refine ai ?_
    obtain ⟨v5, QQ, hm⟩ := nm hm
    refine nO (E := e32) (kk := 0) [] 1 (.u32 (4294967295 ^^^ lh)) [.u32 (4294967295 ^^^ lh)] QQ AQ (Pt.EU (Pt.at g2 0) (15 : Int) 1) ku rfl .h rfl (by kernel_rfl) (by kernel_rfl) ?_
    intro GG oq
    refine ag ?_
    exact oJ ⟨v5, hm, rfl, oq⟩ (by kernel_rfl)
  rw [if_neg (by rw [hc6]; decide)] at hm
  refine aS ?_
  exact oJ ⟨v2, hm, rfl, ku⟩ (by kernel_rfl)
 rintro L_ QN ⟨v4, hm, rfl, jL⟩
 simp only [rY] at hm
 refine af <| ax <| aW 1 [] (.n 41 (.agg [.ar e32 v4]) (.k .z)) (qT jL 1 rfl 0 16 [.ar e32 v4] (by kernel_rfl) (by decide) <| qe) (by kernel_rfl) ?_
 refine ai <| iQ [] 0 (.agg [.ar e32 v4]) [.ar e32 v4] (Pt.at g1 0) jL rfl .all (by kernel_rfl) (by kernel_rfl) ?_
 intro Pj mQ
 have oM := mQ.bD (.k .z)
 refine ag <| ae <| aN ?_
 obtain rfl := Option.some.inj hm
 refine aO [.agg [.ar e32 v4]] (qo (.agg [.ar e32 v4]) <| qc (fun w => Rd w (some ⟨g1, 0, none⟩) (SV.cl [.ar e32 v4])) (oM.F9 0 rfl) <| qe) (by kernel_rfl) ?_
 have oN := oM.bD .z
 exact ⟨rfl, oN⟩
theorem KG {F O : Nat → Prop} {w : World} (k : Cx F O w w []) (r : (Vec (Vec Int 4) 8)) (hm : vZ = some r) :
    Calls Tryz.prog 193 (vals []) w (fun e w' => e = .returned (SV.val (.agg [.ar (eV eI 4) r])) ∧ Cx F O w w' []) := by
 unfold vZ at hm
 refine calls [] Tryz.func193 rfl (of_decide_eq_true (by kernel_rfl)) ?_
 refine af <| ax <| ai <| bJ [] 0 [.ar (eV eI 4) (Vec.rep 8 (Vec.rep 4 (0 : Int)))] (by kernel_rfl) k ?_
 intro g w_ k_
 refine ag <| ae <| af <| ax <| aW 9 [] (.n 9 (.agg [.ar (eV eI 4) (⟨[(⟨[(0 : Int), (4 : Int), (8 : Int), (12 : Int)], rfl⟩ : Vec Int 4), (⟨[(1 : Int), (5 : Int), (9 : Int), (13 : Int)], rfl⟩ : Vec Int 4), (⟨[(2 : Int), (6 : Int), (10 : Int), (14 : Int)], rfl⟩ : Vec Int 4), (⟨[(3 : Int), (7 : Int), (11 : Int), (15 : Int)], rfl⟩ : Vec Int 4), (⟨[(0 : Int), (5 : Int), (10 : Int), (15 : Int)], rfl⟩ : Vec Int 4), (⟨[(1 : Int), (6 : Int), (11 : Int), (12 : Int)], rfl⟩ : Vec Int 4), (⟨[(2 : Int), (7 : Int), (8 : Int), (13 : Int)], rfl⟩ : Vec Int 4), (⟨[(3 : Int), (4 : Int), (9 : Int), (14 : Int)], rfl⟩ : Vec Int 4)], rfl⟩ : Vec (Vec Int 4) 8)]) .a) qe (by kernel_rfl) ?_
 refine ai <| iQ [] 0 (.agg [.ar (eV eI 4) (⟨[(⟨[(0 : Int), (4 : Int), (8 : Int), (12 : Int)], rfl⟩ : Vec Int 4), (⟨[(1 : Int), (5 : Int), (9 : Int), (13 : Int)], rfl⟩ : Vec Int 4), (⟨[(2 : Int), (6 : Int), (10 : Int), (14 : Int)], rfl⟩ : Vec Int 4), (⟨[(3 : Int), (7 : Int), (11 : Int), (15 : Int)], rfl⟩ : Vec Int 4), (⟨[(0 : Int), (5 : Int), (10 : Int), (15 : Int)], rfl⟩ : Vec Int 4), (⟨[(1 : Int), (6 : Int), (11 : Int), (12 : Int)], rfl⟩ : Vec Int 4), (⟨[(2 : Int), (7 : Int), (8 : Int), (13 : Int)], rfl⟩ : Vec Int 4), (⟨[(3 : Int), (4 : Int), (9 : Int), (14 : Int)], rfl⟩ : Vec Int 4)], rfl⟩ : Vec (Vec Int 4) 8)]) [.ar (eV eI 4) (⟨[(⟨[(0 : Int), (4 : Int), (8 : Int), (12 : Int)], rfl⟩ : Vec Int 4), (⟨[(1 : Int), (5 : Int), (9 : Int), (13 : Int)], rfl⟩ : Vec Int 4), (⟨[(2 : Int), (6 : Int), (10 : Int), (14 : Int)], rfl⟩ : Vec Int 4), (⟨[(3 : Int), (7 : Int), (11 : Int), (15 : Int)], rfl⟩ : Vec Int 4), (⟨[(0 : Int), (5 : Int), (10 : Int), (15 : Int)], rfl⟩ : Vec Int 4), (⟨[(1 : Int), (6 : Int), (11 : Int), (12 : Int)], rfl⟩ : Vec Int 4), (⟨[(2 : Int), (7 : Int), (8 : Int), (13 : Int)], rfl⟩ : Vec Int 4), (⟨[(3 : Int), (4 : Int), (9 : Int), (14 : Int)], rfl⟩ : Vec Int 4)], rfl⟩ : Vec (Vec Int 4) 8)] (Pt.at g 0) k_ rfl .all (by kernel_rfl) (by kernel_rfl) ?_
 intro o9 dK
 refine ag <| ae <| aN ?_
 obtain rfl := Option.some.inj hm
 refine aO [.agg [.ar (eV eI 4) (⟨[(⟨[(0 : Int), (4 : Int), (8 : Int), (12 : Int)], rfl⟩ : Vec Int 4), (⟨[(1 : Int), (5 : Int), (9 : Int), (13 : Int)], rfl⟩ : Vec Int 4), (⟨[(2 : Int), (6 : Int), (10 : Int), (14 : Int)], rfl⟩ : Vec Int 4), (⟨[(3 : Int), (7 : Int), (11 : Int), (15 : Int)], rfl⟩ : Vec Int 4), (⟨[(0 : Int), (5 : Int), (10 : Int), (15 : Int)], rfl⟩ : Vec Int 4), (⟨[(1 : Int), (6 : Int), (11 : Int), (12 : Int)], rfl⟩ : Vec Int 4), (⟨[(2 : Int), (7 : Int), (8 : Int), (13 : Int)], rfl⟩ : Vec Int 4), (⟨[(3 : Int), (4 : Int), (9 : Int), (14 : Int)], rfl⟩ : Vec Int 4)], rfl⟩ : Vec (Vec Int 4) 8)]] (qo (.agg [.ar (eV eI 4) (⟨[(⟨[(0 : Int), (4 : Int), (8 : Int), (12 : Int)], rfl⟩ : Vec Int 4), (⟨[(1 : Int), (5 : Int), (9 : Int), (13 : Int)], rfl⟩ : Vec Int 4), (⟨[(2 : Int), (6 : Int), (10 : Int), (14 : Int)], rfl⟩ : Vec Int 4), (⟨[(3 : Int), (7 : Int), (11 : Int), (15 : Int)], rfl⟩ : Vec Int 4), (⟨[(0 : Int), (5 : Int), (10 : Int), (15 : Int)], rfl⟩ : Vec Int 4), (⟨[(1 : Int), (6 : Int), (11 : Int), (12 : Int)], rfl⟩ : Vec Int 4), (⟨[(2 : Int), (7 : Int), (8 : Int), (13 : Int)], rfl⟩ : Vec Int 4), (⟨[(3 : Int), (4 : Int), (9 : Int), (14 : Int)], rfl⟩ : Vec Int 4)], rfl⟩ : Vec (Vec Int 4) 8)]) <| qc (fun w => Rd w (some ⟨g, 0, none⟩) (SV.cl [.ar (eV eI 4) (⟨[(⟨[(0 : Int), (4 : Int), (8 : Int), (12 : Int)], rfl⟩ : Vec Int 4), (⟨[(1 : Int), (5 : Int), (9 : Int), (13 : Int)], rfl⟩ : Vec Int 4), (⟨[(2 : Int), (6 : Int), (10 : Int), (14 : Int)], rfl⟩ : Vec Int 4), (⟨[(3 : Int), (7 : Int), (11 : Int), (15 : Int)], rfl⟩ : Vec Int 4), (⟨[(0 : Int), (5 : Int), (10 : Int), (15 : Int)], rfl⟩ : Vec Int 4), (⟨[(1 : Int), (6 : Int), (11 : Int), (12 : Int)], rfl⟩ : Vec Int 4), (⟨[(2 : Int), (7 : Int), (8 : Int), (13 : Int)], rfl⟩ : Vec Int 4), (⟨[(3 : Int), (4 : Int), (9 : Int), (14 : Int)], rfl⟩ : Vec Int 4)], rfl⟩ : Vec (Vec Int 4) 8)])) (dK.F9 0 rfl) <| qe) (by kernel_rfl) ?_
 have fF := dK.bD .z
 exact ⟨rfl, fF⟩
theorem oH {F O : Nat → Prop} {w : World} (x_ : UInt32) (k_ : Int) (k : Cx F O w w []) (r : UInt32) (hm : fD x_ k_ = some r) :
    Calls Tryz.prog 196 (vals [.u32 x_, I k_]) w (fun e w' => e = .returned (SV.val (.u32 r)) ∧ Cx F O w w' []) := by
 unfold fD at hm
 refine calls [.u32 x_, I k_] Tryz.func196 rfl (of_decide_eq_true (by kernel_rfl)) ?_
 refine af <| bg [] .a qe (by kernel_rfl) ?_
 refine ae <| af <| bg [] (.n 5 (.u64 ((UInt64.ofInt k_) &&& 31)) (.k .z)) qe (by kernel_rfl) ?_
 refine ae <| af <| bg [] (.n 4 (.u32 ((xC x_ (((UInt64.ofInt k_) &&& 31).toNat)) ||| (iH x_ (((32 : UInt64) - ((UInt64.ofInt k_) &&& 31)).toNat)))) .z) qe (by kernel_rfl) ?_
 refine ae <| aN ?_
 obtain rfl := Option.some.inj hm
 refine aO [.u32 ((xC x_ (((UInt64.ofInt k_) &&& 31).toNat)) ||| (iH x_ (((32 : UInt64) - ((UInt64.ofInt k_) &&& 31)).toNat)))] qe (by kernel_rfl) ?_
 exact ⟨rfl, k⟩
theorem QS {F O : Nat → Prop} {w : World} (v : Vec UInt32 16) (a_ : Int) (b : Int) (c : Int) (d : Int) (x_ : UInt32) (y_ : UInt32) (fH : Nat) (k : Cx F O w w [Bx 210 fH [.ar e32 v]]) (r : (Vec UInt32 16)) (hm : xZ v a_ b c d x_ y_ = some r) :
    Calls Tryz.prog 194 (vals [pt fH 0, I a_, I b, I c, I d, .u32 x_, .u32 y_]) w (fun e w' => e = .returned (SV.val (.jc [])) ∧ Cx F O w w' [Bx 210 fH [.ar e32 r]]) := by
 unfold xZ at hm
 refine calls [pt fH 0, I a_, I b, I c, I d, .u32 x_, .u32 y_] Tryz.func194 rfl (of_decide_eq_true (by kernel_rfl)) ?_
 refine af ?_
 have k_ := k.drew 1
 refine xQ bG (.q 0 0 (.q 1 0 (.q 2 0 (.q 3 0 (.q 4 0 (.q 5 0 (.q 6 0 (.q 7 0 (.q 8 0 (.q 9 0 (.q 10 0 (.q 11 0 (.q 12 0 (.q 13 0 (.q 14 0 (.op 15 .nil)))))))))))))))) [15] k_ (.c (.z) .l) (by kernel_rfl) (fun _ => ?_)
 obtain ⟨bY, jk, hm⟩ := ob hm
 obtain ⟨iy, mf, hm⟩ := ob hm
 obtain ⟨iR, oW, hm⟩ := ob hm
 refine dG 15 0 [] (.n 26 (.u32 (bY + (iy + x_))) (.n 28 (.v (.pointer (rD (some ⟨fH, 0, none⟩) a_ 1))) (.bH (.k (.s .a))))) (fun x hx => qs fH 0 <| qV (hx.rP 0 rfl e32 v 0 (by kernel_rfl)) jk rfl (.u32 bY) rfl <| qs fH 0 <| qV (hx.rP 0 rfl e32 v 0 (by kernel_rfl)) mf rfl (.u32 iy) rfl <| qs fH 0 <| qI fH 0 oW <| qe) (by kernel_rfl) (fun _ => ?_)
 refine dw (by kernel_rfl) rfl ?_
 obtain ⟨v1, Jt, hm⟩ := nm hm
 refine nO (E := e32) (kk := 0) [] 0 (.u32 (bY + (iy + x_))) [.u32 (bY + (iy + x_))] Jt oW (Pt.EU (Pt.at fH 0) a_ 1) k_ rfl .h rfl (by kernel_rfl) (by kernel_rfl) ?_
 intro w_ dK
 refine ⟨(dK.bD .z), fun _ => ?_⟩
 refine dP <| ae <| af ?_
 have fF := dK.drew 1
 refine xQ bG (.q 0 1 (.q 1 1 (.q 2 1 (.q 3 1 (.q 4 1 (.q 5 1 (.q 6 0 (.q 7 1 (.q 8 1 (.q 9 1 (.q 10 1 (.q 11 0 (.q 12 0 (.q 14 1 (.op 13 (.q 15 1 (.op 16 .nil))))))))))))))))) [13, 16] fF (.c (.k .e) (.c (.z) .l)) (by kernel_rfl) (fun _ => ?_)
 obtain ⟨kK, xe, hm⟩ := ob hm
 refine dG 6 1 [] (.n 29 (pt fH 0) (.n 30 (I d) (.n 34 (.v (.pointer (rD (some ⟨fH, 0, none⟩) d 1))) (.ss .a)))) (fun x hx => qs fH 0 <| qI fH 0 xe <| qe) (by kernel_rfl) (fun _ => ?_)
 refine dG 1 0 [] (.n 35 (.u32 kK) (.kk (.s .a))) (fun x hx => qC (.u32 kK) (Rd.el (k := 0) (hx.rP 0 rfl e32 v1 0 (by kernel_rfl)) xe (Pt.Dk (some ⟨fH, 0, none⟩) d 1) rfl) <| qe) (by kernel_rfl) (fun _ => ?_)
 obtain ⟨lh, yS, hm⟩ := ob hm
 refine dG 4 1 [] (.n 39 (.v (.pointer (rD (some ⟨fH, 0, none⟩) a_ 1))) .a) (fun x hx => qs fH 0 <| qI fH 0 yS <| qe) (by kernel_rfl) (fun _ => ?_)
 refine dG 2 0 [] (.n 41 (.u32 (kK ^^^ lh)) (.ss .a)) (fun x hx => qC (.u32 lh) (Rd.el (k := 0) (hx.rP 0 rfl e32 v1 0 (by kernel_rfl)) yS (Pt.Dk (some ⟨fH, 0, none⟩) a_ 1) rfl) <| qe) (by kernel_rfl) (fun _ => ?_)
 refine dG 1 1 [] (.n 43 (pt fH 0) (.k (.s .a))) (fun x hx => qs fH 0 <| qe) (by kernel_rfl) (fun _ => ?_)
 refine dw (by kernel_rfl) rfl ?_
 obtain ⟨r_, dV, hm⟩ := ob hm
 refine ay [] 42 _ FI (by kernel_rfl) (oH (F := N0) (O := N0) _ _ (Cx.refl _) _ dV) ?_
 rintro e_ o9 ⟨rfl, fM⟩
 have g_ := fF.call fM
 refine ⟨.u32 r_, rfl, ?_⟩
 refine ⟨g_, fun _ => ?_⟩
 obtain ⟨qj, AQ, hm⟩ := ob hm
 refine dG 1 1 [] (.n 44 (.v (.pointer (rD (some ⟨fH, 0, none⟩) d 1))) (.k (.nG .a))) (fun x hx => qI fH 0 AQ <| qe) (by kernel_rfl) (fun _ => ?_)
 refine dw (by kernel_rfl) rfl ?_
 obtain ⟨v2, h_v2, hm⟩ := nm hm
 refine nO (E := e32) (kk := 0) [] 0 (.u32 r_) [.u32 r_] h_v2 AQ (Pt.EU (Pt.at fH 0) d 1) g_ rfl .h rfl (by kernel_rfl) (by kernel_rfl) ?_
 intro sZ gX
 refine ⟨(gX.bD .z), fun _ => ?_⟩
 refine dP <| ae <| af ?_
 have jb := gX.drew 1
 refine xQ bG (.q 0 0 (.q 1 0 (.q 2 0 (.q 3 0 (.q 4 0 (.q 5 0 (.q 6 0 (.q 7 0 (.q 8 0 (.q 9 0 (.q 10 0 (.q 11 0 (.q 12 0 (.op 13 .nil)))))))))))))) [13] jb (.c (.z) .l) (by kernel_rfl) (fun _ => ?_)
 obtain ⟨CO, Lm, hm⟩ := ob hm
 obtain ⟨zK, Lp, hm⟩ := ob hm
 obtain ⟨qZ, Ey, hm⟩ := ob hm
 refine dG 13 0 [] (.n 55 (.u32 (CO + zK)) (.n 57 (.v (.pointer (rD (some ⟨fH, 0, none⟩) c 1))) (.ss .a))) (fun x hx => qs fH 0 <| qV (hx.rP 0 rfl e32 v2 0 (by kernel_rfl)) Lm rfl (.u32 CO) rfl <| qs fH 0 <| qV (hx.rP 0 rfl e32 v2 0 (by kernel_rfl)) Lp rfl (.u32 zK) rfl <| qs fH 0 <| qI fH 0 Ey <| qe) (by kernel_rfl) (fun _ => ?_)
 refine dw (by kernel_rfl) rfl ?_
 obtain ⟨v3, QP, hm⟩ := nm hm
 refine nO (E := e32) (kk := 0) [] 0 (.u32 (CO + zK)) [.u32 (CO + zK)] QP Ey (Pt.EU (Pt.at fH 0) c 1) jb rfl .h rfl (by kernel_rfl) (by kernel_rfl) ?_
 intro xk jf
 refine ⟨(jf.bD .z), fun _ => ?_⟩
 refine dP <| ae <| af ?_
 have jQ := jf.drew 1
 refine xQ bG (.q 0 1 (.q 1 1 (.q 2 1 (.q 3 1 (.q 4 1 (.q 5 1 (.q 6 0 (.q 7 1 (.q 8 1 (.q 9 1 (.q 10 1 (.q 11 0 (.q 12 0 (.q 14 1 (.op 13 (.q 15 1 (.op 16 .nil))))))))))))))))) [13, 16] jQ (.c (.k .e) (.c (.z) .l)) (by kernel_rfl) (fun _ => ?_)
 obtain ⟨fZ, Ju, hm⟩ := ob hm
 refine dG 6 1 [] (.n 58 (pt fH 0) (.n 59 (I b) (.n 63 (.v (.pointer (rD (some ⟨fH, 0, none⟩) b 1))) (.ss .a)))) (fun x hx => qs fH 0 <| qI fH 0 Ju <| qe) (by kernel_rfl) (fun _ => ?_)
 refine dG 1 0 [] (.n 64 (.u32 fZ) (.kk (.s .a))) (fun x hx => qC (.u32 fZ) (Rd.el (k := 0) (hx.rP 0 rfl e32 v3 0 (by kernel_rfl)) Ju (Pt.Dk (some ⟨fH, 0, none⟩) b 1) rfl) <| qe) (by kernel_rfl) (fun _ => ?_)
 obtain ⟨Ea, NI, hm⟩ := ob hm
 refine dG 4 1 [] (.n 68 (.v (.pointer (rD (some ⟨fH, 0, none⟩) c 1))) .a) (fun x hx => qs fH 0 <| qI fH 0 NI <| qe) (by kernel_rfl) (fun _ => ?_)
 refine dG 2 0 [] (.n 70 (.u32 (fZ ^^^ Ea)) (.ss .a)) (fun x hx => qC (.u32 Ea) (Rd.el (k := 0) (hx.rP 0 rfl e32 v3 0 (by kernel_rfl)) NI (Pt.Dk (some ⟨fH, 0, none⟩) c 1) rfl) <| qe) (by kernel_rfl) (fun _ => ?_)
 refine dG 1 1 [] (.n 72 (pt fH 0) (.k (.s .a))) (fun x hx => qs fH 0 <| qe) (by kernel_rfl) (fun _ => ?_)
 refine dw (by kernel_rfl) rfl ?_
 have jS := jQ.bD (.k .e)
 obtain ⟨aQ, fG, hm⟩ := ob hm
 refine ay [] 71 _ FI (by kernel_rfl) (oH (F := N0) (O := N0) _ _ (Cx.refl _) _ fG) ?_
 rintro e_ xB ⟨rfl, dJ⟩
 have dB := jS.call dJ
 refine ⟨.u32 aQ, rfl, ?_⟩
 refine ⟨dB, fun _ => ?_⟩
 obtain ⟨H5, NJ, hm⟩ := ob hm
 refine dG 1 1 [] (.n 73 (.v (.pointer (rD (some ⟨fH, 0, none⟩) b 1))) (.k (.nG .a))) (fun x hx => qI fH 0 NJ <| qe) (by kernel_rfl) (fun _ => ?_)
 refine dw (by kernel_rfl) rfl ?_
 obtain ⟨v4, h_v4, hm⟩ := nm hm
 refine nO (E := e32) (kk := 0) [] 0 (.u32 aQ) [.u32 aQ] h_v4 NJ (Pt.EU (Pt.at fH 0) b 1) dB rfl .h rfl (by kernel_rfl) (by kernel_rfl) ?_
 intro y5 gz
 refine ⟨(gz.bD .z), fun _ => ?_⟩
 refine dP <| ae <| af ?_
 have iI := gz.drew 1
 refine xQ bG (.q 0 0 (.q 1 0 (.q 2 0 (.q 3 0 (.q 4 0 (.q 5 0 (.q 6 0 (.q 7 0 (.q 8 0 (.q 9 0 (.q 10 0 (.q 11 0 (.q 12 0 (.q 13 0 (.q 14 0 (.op 15 .nil)))))))))))))))) [15] iI (.c (.z) .l) (by kernel_rfl) (fun _ => ?_)
 obtain ⟨J8, NK, hm⟩ := ob hm
 obtain ⟨Dp, NL, hm⟩ := ob hm
 obtain ⟨J9, Jv, hm⟩ := ob hm
 refine dG 15 0 [] (.n 86 (.u32 (J8 + (Dp + y_))) (.n 88 (.v (.pointer (rD (some ⟨fH, 0, none⟩) a_ 1))) (.ss (.bH (.k .z))))) (fun x hx => qs fH 0 <| qV (hx.rP 0 rfl e32 v4 0 (by kernel_rfl)) NK rfl (.u32 J8) rfl <| qs fH 0 <| qV (hx.rP 0 rfl e32 v4 0 (by kernel_rfl)) NL rfl (.u32 Dp) rfl <| qs fH 0 <| qI fH 0 Jv <| qe) (by kernel_rfl) (fun _ => ?_)
 refine dw (by kernel_rfl) rfl ?_
 obtain ⟨v5, QQ, hm⟩ := nm hm
 refine nO (E := e32) (kk := 0) [] 0 (.u32 (J8 + (Dp + y_))) [.u32 (J8 + (Dp + y_))] QQ Jv (Pt.EU (Pt.at fH 0) a_ 1) iI rfl .h rfl (by kernel_rfl) (by kernel_rfl) ?_
 intro CW iJ
 refine ⟨(iJ.bD .z), fun _ => ?_⟩
 refine dP <| ae <| af ?_
 have iK := iJ.drew 1
 refine xQ bG (.q 0 1 (.q 1 1 (.q 2 1 (.q 3 1 (.q 4 1 (.q 5 1 (.q 6 0 (.q 7 1 (.q 8 1 (.q 9 1 (.q 10 1 (.q 11 0 (.q 12 0 (.q 14 1 (.op 13 (.q 15 1 (.op 16 .nil))))))))))))))))) [13, 16] iK (.c (.k .e) (.c (.z) .l)) (by kernel_rfl) (fun _ => ?_)
 obtain ⟨MQ, Jw, hm⟩ := ob hm
 refine dG 6 1 [] (.n 89 (pt fH 0) (.n 90 (I d) (.n 94 (.v (.pointer (rD (some ⟨fH, 0, none⟩) d 1))) (.ss .a)))) (fun x hx => qs fH 0 <| qI fH 0 Jw <| qe) (by kernel_rfl) (fun _ => ?_)
 refine dG 1 0 [] (.n 95 (.u32 MQ) (.kk (.s .a))) (fun x hx => qC (.u32 MQ) (Rd.el (k := 0) (hx.rP 0 rfl e32 v5 0 (by kernel_rfl)) Jw (Pt.Dk (some ⟨fH, 0, none⟩) d 1) rfl) <| qe) (by kernel_rfl) (fun _ => ?_)
 obtain ⟨Dq, NM, hm⟩ := ob hm
 refine dG 4 1 [] (.n 99 (.v (.pointer (rD (some ⟨fH, 0, none⟩) a_ 1))) (.bH (.s .a))) (fun x hx => qs fH 0 <| qI fH 0 NM <| qe) (by kernel_rfl) (fun _ => ?_)
 refine dG 2 0 [] (.n 101 (.u32 (MQ ^^^ Dq)) (.ss .a)) (fun x hx => qC (.u32 Dq) (Rd.el (k := 0) (hx.rP 0 rfl e32 v5 0 (by kernel_rfl)) NM (Pt.Dk (some ⟨fH, 0, none⟩) a_ 1) rfl) <| qe) (by kernel_rfl) (fun _ => ?_)
 refine dG 1 1 [] (.n 103 (pt fH 0) (.k (.s .a))) (fun x hx => qs fH 0 <| qe) (by kernel_rfl) (fun _ => ?_)
 refine dw (by kernel_rfl) rfl ?_
 obtain ⟨bI, kz, hm⟩ := ob hm
 refine ay [] 102 _ FI (by kernel_rfl) (oH (F := N0) (O := N0) _ _ (Cx.refl _) _ kz) ?_
 rintro e_ Du ⟨rfl, iG⟩
 have je := iK.call iG
 refine ⟨.u32 bI, rfl, ?_⟩
 refine ⟨je, fun _ => ?_⟩
 obtain ⟨Fe, NP, hm⟩ := ob hm
 refine dG 1 1 [] (.n 104 (.v (.pointer (rD (some ⟨fH, 0, none⟩) d 1))) (.k (.nG .a))) (fun x hx => qI fH 0 NP <| qe) (by kernel_rfl) (fun _ => ?_)
 refine dw (by kernel_rfl) rfl ?_
 have ku := je.bD (.k .e)
 obtain ⟨v6, h_v6, hm⟩ := nm hm
 refine nO (E := e32) (kk := 0) [] 0 (.u32 bI) [.u32 bI] h_v6 NP (Pt.EU (Pt.at fH 0) d 1) ku rfl .h rfl (by kernel_rfl) (by kernel_rfl) ?_
 intro Jn oq
 refine ⟨(oq.bD .z), fun _ => ?_⟩
 refine dP <| ae <| af ?_
 have jL := oq.drew 1
 refine xQ bG (.q 0 0 (.q 1 0 (.q 2 0 (.q 3 0 (.q 4 0 (.q 5 0 (.q 6 0 (.q 7 0 (.q 8 0 (.q 9 0 (.q 10 0 (.q 11 0 (.q 12 0 (.op 13 .nil)))))))))))))) [13] jL (.c (.z) .l) (by kernel_rfl) (fun _ => ?_)
 obtain ⟨Jc, NQ, hm⟩ := ob hm
 obtain ⟨Dt, NR, hm⟩ := ob hm
 obtain ⟨J_, Jy, hm⟩ := ob hm
 refine dG 13 0 [] (.n 115 (.u32 (Jc + Dt)) (.n 117 (.v (.pointer (rD (some ⟨fH, 0, none⟩) c 1))) (.ss (.Dl .z)))) (fun x hx => qs fH 0 <| qV (hx.rP 0 rfl e32 v6 0 (by kernel_rfl)) NQ rfl (.u32 Jc) rfl <| qs fH 0 <| qV (hx.rP 0 rfl e32 v6 0 (by kernel_rfl)) NR rfl (.u32 Dt) rfl <| qs fH 0 <| qI fH 0 Jy <| qe) (by kernel_rfl) (fun _ => ?_)
 refine dw (by kernel_rfl) rfl ?_
 obtain ⟨v7, h_v7, hm⟩ := nm hm
 refine nO (E := e32) (kk := 0) [] 0 (.u32 (Jc + Dt)) [.u32 (Jc + Dt)] h_v7 Jy (Pt.EU (Pt.at fH 0) c 1) jL rfl .h rfl (by kernel_rfl) (by kernel_rfl) ?_
 intro JW mQ
 refine ⟨(mQ.bD .z), fun _ => ?_⟩
 refine dP <| ae ?_
 have oM := mQ.drew 1
 refine xQ bG (.q 0 1 (.q 1 1 (.q 2 1 (.q 3 1 (.q 4 1 (.q 5 1 (.q 6 0 (.q 7 1 (.q 8 1 (.q 9 1 (.q 10 1 (.q 11 0 (.q 12 0 (.q 14 1 (.op 13 (.q 15 1 (.op 16 .nil))))))))))))))))) [13, 16] oM (.c (.k .e) (.c (.z) .l)) (by kernel_rfl) (fun _ => ?_)
 obtain ⟨MR, Jz, hm⟩ := ob hm
 refine dG 6 1 [] (.n 118 (pt fH 0) (.n 119 (I b) (.n 123 (.v (.pointer (rD (some ⟨fH, 0, none⟩) b 1))) (.ss (.k (.s .a)))))) (fun x hx => qs fH 0 <| qI fH 0 Jz <| qe) (by kernel_rfl) (fun _ => ?_)
 refine dG 1 0 [] (.n 124 (.u32 MR) (.kk (.s .a))) (fun x hx => qC (.u32 MR) (Rd.el (k := 0) (hx.rP 0 rfl e32 v7 0 (by kernel_rfl)) Jz (Pt.Dk (some ⟨fH, 0, none⟩) b 1) rfl) <| qe) (by kernel_rfl) (fun _ => ?_)
 obtain ⟨Ec, NS, hm⟩ := ob hm
 refine dG 4 1 [] (.n 128 (.v (.pointer (rD (some ⟨fH, 0, none⟩) c 1))) (.Dl .z)) (fun x hx => qs fH 0 <| qI fH 0 NS <| qe) (by kernel_rfl) (fun _ => ?_)
 refine dG 2 0 [] (.n 130 (.u32 (MR ^^^ Ec)) (.ss .a)) (fun x hx => qC (.u32 Ec) (Rd.el (k := 0) (hx.rP 0 rfl e32 v7 0 (by kernel_rfl)) NS (Pt.Dk (some ⟨fH, 0, none⟩) c 1) rfl) <| qe) (by kernel_rfl) (fun _ => ?_)
 refine dG 1 1 [] (.n 132 (pt fH 0) (.k (.s .a))) (fun x hx => qs fH 0 <| qe) (by kernel_rfl) (fun _ => ?_)
 refine dw (by kernel_rfl) rfl ?_
 obtain ⟨dN, qL, hm⟩ := ob hm
 refine ay [] 131 _ FI (by kernel_rfl) (oH (F := N0) (O := N0) _ _ (Cx.refl _) _ qL) ?_
 rintro e_ BV ⟨rfl, oN⟩
 have ni := oM.call oN
 refine ⟨.u32 dN, rfl, ?_⟩
 refine ⟨ni, fun _ => ?_⟩
 obtain ⟨H6, NT, hm⟩ := ob hm
 refine dG 1 1 [] (.n 133 (.v (.pointer (rD (some ⟨fH, 0, none⟩) b 1))) (.k .z)) (fun x hx => qI fH 0 NT <| qe) (by kernel_rfl) (fun _ => ?_)
 refine dw (by kernel_rfl) rfl ?_
 obtain ⟨v8, h_v8, hm⟩ := nm hm
 refine nO (E := e32) (kk := 0) [] 0 (.u32 dN) [.u32 dN] h_v8 NT (Pt.EU (Pt.at fH 0) b 1) ni rfl .h rfl (by kernel_rfl) (by kernel_rfl) ?_
 intro Dv nY
 refine ⟨(nY.bD .z), fun _ => ?_⟩
 refine dP ?_
 obtain rfl := Option.some.inj hm
 refine xY [] qe (by kernel_rfl) ?_
 exact ⟨rfl, nY⟩
theorem NW {F O : Nat → Prop} {w : World} (v : Vec UInt32 16) (m_ : Vec UInt32 16) (r_ : Int) (fH : Nat) (KF : Nat) (k : Cx F O w w [Bx 210 fH [.ar e32 v], Bx 210 KF [.ar e32 m_]]) (r : (Vec UInt32 16 × Vec UInt32 16)) (hm : uP v m_ r_ = some r) :
    Calls Tryz.prog 188 (vals [pt fH 0, pt KF 0, I r_]) w (fun e w' => e = .returned (SV.val (.jc [])) ∧ Cx F O w w' [Bx 210 fH [.ar e32 r.1], Bx 210 KF [.ar e32 r.2]]) := by
 unfold uP at hm
 refine calls [pt fH 0, pt KF 0, I r_] Tryz.func188 rfl (of_decide_eq_true (by kernel_rfl)) ?_
 refine af <| ax <| aW 1 [] (.n 9 (I r_) (.kk .z)) qe (by kernel_rfl) ?_
 refine ai ?_
 obtain ⟨aQ, fG, hm⟩ := ob hm
 refine ay [] 10 _ O9 (by kernel_rfl) (FT (F := N0) (O := N0) _ (Cx.refl _) _ fG) ?_
 rintro e_ w_ ⟨rfl, k_⟩
 have dK := k.call k_
 refine ⟨.agg [.ar eI aQ], rfl, ?_⟩
 refine ai <| bJ [] 6 [.ar eI (Vec.rep 16 (0 : Int))] (by kernel_rfl) dK ?_
 intro g o9 fF
 refine ai <| iQ [] 2 (.agg [.ar eI aQ]) [.ar eI aQ] (Pt.at g 0) fF rfl .all (by kernel_rfl) (by kernel_rfl) ?_
 intro sZ fM
 refine ag <| ae <| af <| ax <| ai ?_
 obtain ⟨bI, kz, hm⟩ := ob hm
 refine ay [] 11 _ VZ (by kernel_rfl) (KG (F := N0) (O := N0)  (Cx.refl _) _ kz) ?_
 rintro e_ xk ⟨rfl, g_⟩
 have gX := fM.call g_
 refine ⟨.agg [.ar (eV eI 4) bI], rfl, ?_⟩
 refine aW 1 [] (.n 12 (I 0) (.kk (.ss .a))) qe (by kernel_rfl) ?_
 refine ag <| ae <| aJ <| pg (su m_ aQ bI) (fun s L wr => ∃ (v1 : Vec UInt32 16) (aC : Int), (v1, aC) = s ∧ L = [(0, pt fH 0), (1, pt KF 0), (6, pt g 0), (11, .agg [.ar (eV eI 4) bI]), (12, I aC)] ∧ Cx F O w wr [Bx 210 fH [.ar e32 v1], Bx 210 KF [.ar e32 m_], Bx 299 g [.ar eI aQ]]) (v, (0 : Int)) r hm ⟨v, (0 : Int), rfl, rfl, gX⟩ (by kernel_rfl) ?_
 intro BU L_ xB y0 hrel hstep hr0
 obtain ⟨v1, aC, rfl, rfl, jb⟩ := hrel
 have hm := hstep; simp only [su] at hm
 clear hstep
 refine af <| bg [] (.n 13 (.b (decide (aC < 8))) .a) qe (by kernel_rfl) ?_
 refine ae <| af <| aZ (aC < 8) (by kernel_rfl) (fun hc => ?_) (fun hc => ?_)
 · rw [if_pos hc] at hm
   refine aS <| ae <| af <| aJ <| af <| ax ?_
   obtain ⟨bY, jk, hm⟩ := ob hm
   refine aW 2 [] (.n 14 (I aC) (.n 15 (.agg [.ar eI bY]) (.s .a))) (qo (.agg [.ar eI bY]) <| qp ((0 ≤ aC ∧ aC < ((8 : Nat) : Int)) ∧ ((SV.cl [.ar (eV eI 4) bI]).drop (Int.toNat aC * 4)).take 4 = SV.cl [.ar eI bY]) (UY (E := eI) jk) <| qe) (by kernel_rfl) ?_
   refine ai <| bJ [] 8 [.ar eI (Vec.rep 4 (0 : Int))] (by kernel_rfl) jb ?_
   intro g1 y5 jf
   refine aW 1 [] (.n 7 (I aC) (.k (.s .a))) qe (by kernel_rfl) ?_
   refine ai <| iQ [] 3 (.agg [.ar eI bY]) [.ar eI bY] (Pt.at g1 0) jf rfl .all (by kernel_rfl) (by kernel_rfl) ?_
   intro CW jQ
   refine ag <| ae ?_
   have jS := jQ.drew 1
   refine xQ bG (.q 0 0 (.q 1 0 (.q 2 0 (.q 3 0 (.q 4 0 (.q 5 0 (.q 6 0 (.q 7 0 (.q 8 0 (.q 9 1 (.q 10 1 (.q 11 1 (.q 12 1 (.q 13 1 (.q 14 1 (.q 15 0 (.q 16 0 (.q 17 1 (.q 18 1 (.q 19 1 (.q 20 1 (.q 21 1 (.q 22 1 (.q 23 1 (.q 24 0 (.q 25 0 (.op 26 .nil))))))))))))))))))))))))))) [26] jS (.c (.s (.kk (.k .e))) .l) (by kernel_rfl) (fun _ => ?_)
   obtain ⟨iy, mf, hm⟩ := ob hm
   obtain ⟨iR, oW, hm⟩ := ob hm
   obtain ⟨kK, xe, hm⟩ := ob hm
   obtain ⟨lh, yS, hm⟩ := ob hm
   refine dG 9 0 [] (.n 16 (pt fH 0) (.n 18 (I iy) (.n 20 (I iR) (.n 22 (I kK) (.n 24 (I lh) (.k (.ss .a))))))) (fun x hx => qV (hx.rP 3 rfl eI bY 0 (by kernel_rfl)) mf rfl (I iy) rfl <| qV (hx.rP 3 rfl eI bY 0 (by kernel_rfl)) oW rfl (I iR) rfl <| qV (hx.rP 3 rfl eI bY 0 (by kernel_rfl)) xe rfl (I kK) rfl <| qV (hx.rP 3 rfl eI bY 0 (by kernel_rfl)) yS rfl (I lh) rfl <| qe) (by kernel_rfl) (fun _ => ?_)
   obtain ⟨qj, AQ, hm⟩ := ob hm
   refine dG 6 1 [] (.n 29 (I qj) (.n 30 (pt KF 0) .a)) (fun x hx => qV (hx.rP 1 rfl eI aQ 0 (by kernel_rfl)) AQ rfl (I qj) rfl <| qs KF 0 <| qe) (by kernel_rfl) (fun _ => ?_)
   obtain ⟨CO, Lm, hm⟩ := ob hm
   refine dG 2 0 [] (.n 32 (.u32 CO) (.ss .a)) (fun x hx => qV (hx.rP 1 rfl e32 m_ 0 (by kernel_rfl)) Lm rfl (.u32 CO) rfl <| qe) (by kernel_rfl) (fun _ => ?_)
   obtain ⟨zK, Lp, hm⟩ := ob hm
   refine dG 7 1 [] (.n 38 (I zK) (.n 39 (pt KF 0) (.bH (.kk (.s .a))))) (fun x hx => qV (hx.rP 1 rfl eI aQ 0 (by kernel_rfl)) Lp rfl (I zK) rfl <| qs KF 0 <| qe) (by kernel_rfl) (fun _ => ?_)
   obtain ⟨qZ, Ey, hm⟩ := ob hm
   refine dG 2 0 [] (.n 41 (.u32 qZ) (.ss .a)) (fun x hx => qV (hx.rP 1 rfl e32 m_ 0 (by kernel_rfl)) Ey rfl (.u32 qZ) rfl <| qe) (by kernel_rfl) (fun _ => ?_)
   refine dw (by kernel_rfl) rfl ?_
   obtain ⟨dN, qL, hm⟩ := ob hm
   obtain ⟨F1, O1, kin, hO, hre, hF, hb⟩ := jS.go (.i (.r (.r (.r .e))))
   refine ay [] 42 _ V3 (by kernel_rfl) (QS (F := F1) (O := O1) _ _ _ _ _ _ _ _ kin _ qL) ?_
   rintro e_ Du ⟨rfl, dJ⟩
   have dB := hb Du _ _ dJ (.c .n)
   refine ⟨.jc [], rfl, ?_⟩
   refine ⟨(dB.bD (.s (.kk (.k .e)))), fun _ => ?_⟩
   refine dP <| gm <| ae <| bg [] (.n 12 (I (aI (aC + 1))) (.kJ (.kJ (.bH .z)))) qe (by kernel_rfl) ?_
   have gz := dB.bD (.kk (.k .z))
   exact jU (dN, aI (aC + 1)) (Option.some.inj hm).symm ⟨dN, aI (aC + 1), rfl, rfl, gz⟩ (by kernel_rfl)
 rw [if_neg hc] at hm
 refine dY (bU (bU (iL ?_)))
 have hm := cO hm hr0
 obtain rfl := Option.some.inj hm
 refine xY [] qe (by kernel_rfl) ?_
 have iI := jb.bD (.kk .z)
 exact ⟨rfl, iI⟩
theorem QT {F O : Nat → Prop} {w : World} (h : Vec UInt32 8) (v : Vec UInt32 16) (k : Cx F O w w []) (r : (Vec UInt32 8)) (hm : x8 h v = some r) :
    Calls Tryz.prog 189 (vals [.agg [.ar e32 h], .agg [.ar e32 v]]) w (fun e w' => e = .returned (SV.val (.agg [.ar e32 r])) ∧ Cx F O w w' []) := by
 unfold x8 at hm
 refine calls [.agg [.ar e32 h], .agg [.ar e32 v]] Tryz.func189 rfl (of_decide_eq_true (by kernel_rfl)) ?_
 refine af <| ax <| ai <| jT [] 2 (.agg [.ar e32 h]) [.ar e32 h] (by kernel_rfl) k ?_
 intro g w_ k_
 refine ai <| jT [] 3 (.agg [.ar e32 v]) [.ar e32 v] (by kernel_rfl) k_ ?_
 intro g1 o9 dK
 refine ai <| bJ [] 4 [.ar e32 (Vec.rep 8 (0 : UInt32))] (by kernel_rfl) dK ?_
 intro g2 sZ fF
 refine ag <| ae <| af <| af <| bg [] (.n 6 (I 0) (.Dl .z)) qe (by kernel_rfl) ?_
 refine ae <| aJ <| pg (v_ v) (fun s L wr => ∃ (h1 : Vec UInt32 8) (aC : Int), (h1, aC) = s ∧ L = [(2, pt g 0), (3, pt g1 0), (4, pt g2 0), (6, I aC)] ∧ Cx F O w wr [Bx 209 g [.ar e32 h1], Bx 210 g1 [.ar e32 v], Bx 209 g2 [.ar e32 (Vec.rep 8 (0 : UInt32))]]) (h, (0 : Int)) r hm ⟨h, (0 : Int), rfl, rfl, fF⟩ (by kernel_rfl) ?_
 intro BU L_ xk y0 hrel hstep hr0
 obtain ⟨h1, aC, rfl, rfl, fM⟩ := hrel
 have hm := hstep; simp only [v_] at hm
 clear hstep
 refine af <| bg [] (.n 7 (.b (decide (aC < 8))) .a) qe (by kernel_rfl) ?_
 refine ae <| af <| aZ (aC < 8) (by kernel_rfl) (fun hc => ?_) (fun hc => ?_)
 · rw [if_pos hc] at hm
   refine aS <| ae <| af <| aJ <| af <| bg [] (.n 5 (I aC) (.s .a)) qe (by kernel_rfl) ?_
   refine ae ?_
   have g_ := fM.drew 1
   refine xQ bG (.q 0 0 (.q 1 0 (.q 2 0 (.q 3 0 (.q 4 0 (.q 5 0 (.q 6 0 (.q 7 0 (.q 8 0 (.q 9 0 (.q 10 0 (.q 11 0 (.q 12 0 (.op 13 .nil)))))))))))))) [13] g_ (.c (.s (.kk .e)) .l) (by kernel_rfl) (fun _ => ?_)
   obtain ⟨x_1, kQ, hm⟩ := ob hm
   obtain ⟨bY, jk, hm⟩ := ob hm
   obtain ⟨iy, mf, hm⟩ := ob hm
   obtain ⟨iR, oW, hm⟩ := ob hm
   refine dG 13 0 [] (.n 20 (.u32 (x_1 ^^^ (bY ^^^ iy))) (.n 21 (.v (.pointer (rD (some ⟨g, 0, none⟩) aC 1))) (.s .a))) (fun x hx => qV (hx.rP 0 rfl e32 h1 0 (by kernel_rfl)) kQ rfl (.u32 x_1) rfl <| qV (hx.rP 1 rfl e32 v 0 (by kernel_rfl)) jk rfl (.u32 bY) rfl <| qV (hx.rP 1 rfl e32 v 0 (by kernel_rfl)) mf rfl (.u32 iy) rfl <| qI g 0 oW <| qe) (by kernel_rfl) (fun _ => ?_)
   refine dw (by kernel_rfl) rfl ?_
   obtain ⟨v1, Jt, hm⟩ := nm hm
   refine nO (E := e32) (kk := 0) [] 0 (.u32 (x_1 ^^^ (bY ^^^ iy))) [.u32 (x_1 ^^^ (bY ^^^ iy))] Jt oW (Pt.EU (Pt.at g 0) aC 1) g_ rfl .h rfl (by kernel_rfl) (by kernel_rfl) ?_
   intro xB gX
   refine ⟨(gX.bD (.s (.kk .e))), fun _ => ?_⟩
   refine dP <| gm <| ae <| bg [] (.n 6 (I (aI (aC + 1))) (.ss (.Dl .z))) qe (by kernel_rfl) ?_
   exact jU (v1, aI (aC + 1)) (Option.some.inj hm).symm ⟨v1, aI (aC + 1), rfl, rfl, gX⟩ (by kernel_rfl)
 rw [if_neg hc] at hm
 refine dY (bU (bU (iL ?_)))
 have hm := cO hm hr0
 refine ae <| af <| ax <| aW 1 [] (.n 23 (.agg [.ar e32 h1]) (.nG (.k .z))) (qT fM 0 rfl 0 8 [.ar e32 h1] (by kernel_rfl) (by decide) <| qe) (by kernel_rfl) ?_
 refine ai <| iQ [] 2 (.agg [.ar e32 h1]) [.ar e32 h1] (Pt.at g2 0) fM rfl .all (by kernel_rfl) (by kernel_rfl) ?_
 intro y5 jb
 have jf := jb.bD (.ss (.k .e))
 refine ag <| ae <| aN ?_
 obtain rfl := Option.some.inj hm
 refine aO [.agg [.ar e32 h1]] (qo (.agg [.ar e32 h1]) <| qc (fun w => Rd w (some ⟨g2, 0, none⟩) (SV.cl [.ar e32 h1])) (jf.F9 0 rfl) <| qe) (by kernel_rfl) ?_
 have jQ := jf.bD .z
 exact ⟨rfl, jQ⟩
theorem Wj {F O : Nat → Prop} {w : World} (h : Vec UInt32 8) (m_ : Vec UInt32 16) (count : UInt64) (last : Bool) (node : Bool) (k : Cx F O w w []) (r : (Vec UInt32 8)) (hm : BB h m_ count last node = some r) :
    Calls Tryz.prog 182 (vals [.agg [.ar e32 h], .agg [.ar e32 m_], .u64 count, .b last, .b node]) w (fun e w' => e = .returned (SV.val (.agg [.ar e32 r])) ∧ Cx F O w w' []) := by
 unfold BB at hm
 refine calls [.agg [.ar e32 h], .agg [.ar e32 m_], .u64 count, .b last, .b node] Tryz.func182 rfl (of_decide_eq_true (by kernel_rfl)) ?_
 refine af <| ax <| ai <| jT [] 5 (.agg [.ar e32 h]) [.ar e32 h] (by kernel_rfl) k ?_
 intro g w_ k_
 refine ai <| jT [] 6 (.agg [.ar e32 m_]) [.ar e32 m_] (by kernel_rfl) k_ ?_
 intro g1 o9 dK
 refine ai <| bJ [] 10 [.ar e32 (Vec.rep 8 (0 : UInt32))] (by kernel_rfl) dK ?_
 intro g2 sZ fF
 refine ag <| ae <| af <| ax <| aW 4 [] (.n 13 (.agg [.ar e32 h]) (.n 14 (.u64 count) (.n 15 (.b last) (.n 16 (.b node) (.Dl .z))))) (qT fF 0 rfl 0 8 [.ar e32 h] (by kernel_rfl) (by decide) <| qe) (by kernel_rfl) ?_
 refine ai ?_
 obtain ⟨r_, dV, hm⟩ := ob hm
 refine ay [] 17 _ VU (by kernel_rfl) (NV (F := N0) (O := N0) _ _ _ _ (Cx.refl _) _ dV) ?_
 rintro e_ xk ⟨rfl, fM⟩
 have g_ := fF.call fM
 refine ⟨.agg [.ar e32 r_], rfl, ?_⟩
 refine ai ?_
 have gX := g_.bD (.kk (.k .e))
 refine bJ [] 11 [.ar e32 (Vec.rep 16 (0 : UInt32))] (by kernel_rfl) gX ?_
 intro g3 xB jb
 refine ai <| iQ [] 3 (.agg [.ar e32 r_]) [.ar e32 r_] (Pt.at g3 0) jb rfl .all (by kernel_rfl) (by kernel_rfl) ?_
 intro y5 jf
 refine ag <| ae <| af <| af <| bg [] (.n 18 (I 0) (.k (.kJ (.s .a)))) qe (by kernel_rfl) ?_
 refine ae <| aJ <| pg (wL h) (fun s L wr => ∃ (vX : Vec UInt32 16) (v : Vec UInt32 16) (aC : Int), (vX, v, aC) = s ∧ L = [(5, pt g 0), (6, pt g1 0), (10, pt g2 0), (11, pt g3 0), (18, I aC)] ∧ Cx F O w wr [Bx 209 g [.ar e32 h], Bx 210 g1 [.ar e32 vX], Bx 209 g2 [.ar e32 (Vec.rep 8 (0 : UInt32))], Bx 210 g3 [.ar e32 v]]) (m_, r_, (0 : Int)) r hm ⟨m_, r_, (0 : Int), rfl, rfl, jf⟩ (by kernel_rfl) ?_
 intro BU L_ CW y0 hrel hstep hr0
 obtain ⟨vX, v, aC, rfl, rfl, jQ⟩ := hrel
 have hm := hstep; simp only [wL] at hm
 clear hstep
 refine af <| bg [] (.n 19 (.b (decide (aC < 10))) .a) qe (by kernel_rfl) ?_
 refine ae <| af <| aZ (aC < 10) (by kernel_rfl) (fun hc => ?_) (fun hc => ?_)
 · rw [if_pos hc] at hm
   refine aS <| ae <| af <| aJ <| af <| bg [] (.n 12 (I aC) (.s .a)) qe (by kernel_rfl) ?_
   refine ae <| ax <| aW 1 [] (.n 21 (I aC) (.s .a)) qe (by kernel_rfl) ?_
   refine ai ?_
   obtain ⟨aQ, fG, hm⟩ := ob hm
   have jS := (((jQ.pk (.t (.t .h))).pk (.t .h)).pk (.t (.t .h))).pk (.t (.t (.t .h)))
   obtain ⟨F1, O1, kin, hO, hre, hF, hb⟩ := jS.go (.i (.i (.r (.r .e))))
   refine ay [] 22 _ VV (by kernel_rfl) (NW (F := F1) (O := O1) _ _ _ _ _ kin _ fG) ?_
   rintro e_ Du ⟨rfl, dJ⟩
   have dB := hb Du _ _ dJ (.c (.c .n))
   refine ⟨.jc [], rfl, ?_⟩
   refine ag <| gm <| ae <| bg [] (.n 18 (I (aI (aC + 1))) (.ss (.bH .z))) qe (by kernel_rfl) ?_
   have gz := (((dB.pk .h).pk (.t (.t (.t .h)))).pk (.t (.t .h))).pk (.t (.t (.t .h)))
   exact jU (aQ.2, aQ.1, aI (aC + 1)) (Option.some.inj hm).symm ⟨aQ.2, aQ.1, aI (aC + 1), rfl, rfl, gz⟩ (by kernel_rfl)
 rw [if_neg hc] at hm
 refine dY (bU (bU (iL ?_)))
 have hm := cO hm hr0
 refine ae <| af <| ax <| aW 2 [] (.n 24 (.agg [.ar e32 h]) (.n 25 (.agg [.ar e32 v]) (.nG (.k .z)))) (qT jQ 0 rfl 0 8 [.ar e32 h] (by kernel_rfl) (by decide) <| qT jQ 3 rfl 0 16 [.ar e32 v] (by kernel_rfl) (by decide) <| qe) (by kernel_rfl) ?_
 refine ai ?_
 obtain ⟨bI, kz, hm⟩ := ob hm
 refine ay [] 26 _ VW (by kernel_rfl) (QT (F := N0) (O := N0) _ _ (Cx.refl _) _ kz) ?_
 rintro e_ Jn ⟨rfl, iI⟩
 have iJ := jQ.call iI
 refine ⟨.agg [.ar e32 bI], rfl, ?_⟩
 have iK := iJ.bD (.ss (.k .z))
 refine ai <| iQ [] 0 (.agg [.ar e32 bI]) [.ar e32 bI] (Pt.at g2 0) iK rfl .all (by kernel_rfl) (by kernel_rfl) ?_
 intro JW iG
 refine ag <| ae <| aN ?_
 obtain rfl := Option.some.inj hm
 refine aO [.agg [.ar e32 bI]] (qo (.agg [.ar e32 bI]) <| qc (fun w => Rd w (some ⟨g2, 0, none⟩) (SV.cl [.ar e32 bI])) (iG.F9 0 rfl) <| qe) (by kernel_rfl) ?_
 have je := iG.bD .z
 exact ⟨rfl, je⟩
theorem AU {F O : Nat → Prop} {w : World} (h : Vec UInt32 8) (b : List UInt8) (um : UInt64) (vK : UInt64) (last : Bool) (node : Bool) (lN : Option Addr) (pX : Nat) (lZ : Nat) (sO : Ro F w lN (e8.all b)) (rO : b.length = pX) (uo : pX ≤ lZ) (k : Cx F O w w []) (r : (Vec UInt32 8)) (hm : nI h b um vK last node = some r) :
    Calls Tryz.prog 166 (vals [.agg [.ar e32 h], sl lN pX lZ, .agg [.u64 um, .u64 vK], .b last, .b node]) w (fun e w' => e = .returned (SV.val (.agg [.ar e32 r])) ∧ Cx F O w w' []) := by
 unfold nI at hm
 subst rO
 refine calls [.agg [.ar e32 h], sl lN b.length lZ, .agg [.u64 um, .u64 vK], .b last, .b node] Tryz.func166 rfl (of_decide_eq_true (by kernel_rfl)) ?_
 refine af <| ax <| ai <| jT [] 5 (.agg [.ar e32 h]) [.ar e32 h] (by kernel_rfl) k ?_
 intro g w_ k_
 refine ai <| jT [] 7 (.agg [.u64 um, .u64 vK]) [.u64 um, .u64 vK] (by kernel_rfl) k_ ?_
 intro g1 o9 dK
 refine ai <| bJ [] 10 [.ar e32 (Vec.rep 8 (0 : UInt32))] (by kernel_rfl) dK ?_
 intro g2 sZ fF
 refine ag <| ae <| af <| ax <| aW 1 [] (.n 14 (sl lN b.length lZ) (.Dl (.nG .a))) qe (by kernel_rfl) ?_
 refine ai ?_
 obtain ⟨r_, dV, hm⟩ := ob hm
 refine ay [] 15 _ VP (by kernel_rfl) (NU (F := N0) (O := N0) _ _ _ _ (Ro.n0 (sO.cx fF)) rfl uo (Cx.refl _) _ dV) ?_
 rintro e_ xk ⟨rfl, fM⟩
 have g_ := fF.call fM
 refine ⟨.jc [.agg [.ar e32 r_.1], I r_.2], rfl, ?_⟩
 refine aW 3 [] (.n 16 (.agg [.ar e32 r_.1]) (.n 17 (I r_.2) (.ss .a))) qe (by kernel_rfl) ?_
 refine ai ?_
 have gX := g_.bD (.kk (.k .e))
 refine bJ [] 11 [.ar e32 (Vec.rep 16 (0 : UInt32))] (by kernel_rfl) gX ?_
 intro g3 xB jb
 refine ai <| iQ [] 3 (.agg [.ar e32 r_.1]) [.ar e32 r_.1] (Pt.at g3 0) jb rfl .all (by kernel_rfl) (by kernel_rfl) ?_
 intro y5 jf
 refine aW 1 [] (.k (.ss .a)) qe (by kernel_rfl) ?_
 refine ag <| ae <| af <| ax <| aW 6 [] (.n 18 (.agg [.ar e32 h]) (.n 19 (.agg [.ar e32 r_.1]) (.n 21 (.u64 um) (.n 22 (.b last) (.n 23 (.b node) (.s (.k .z))))))) (qT jf 0 rfl 0 8 [.ar e32 h] (by kernel_rfl) (by decide) <| qT jf 3 rfl 0 16 [.ar e32 r_.1] (by kernel_rfl) (by decide) <| qs g1 0 <| qB jf 1 rfl 0 (.u64 um) (by kernel_rfl) <| qe) (by kernel_rfl) ?_
 refine ai ?_
 obtain ⟨aQ, fG, hm⟩ := ob hm
 refine ay [] 24 _ VQ (by kernel_rfl) (Wj (F := N0) (O := N0) _ _ _ _ _ (Cx.refl _) _ fG) ?_
 rintro e_ CW ⟨rfl, jQ⟩
 have jS := jf.call jQ
 refine ⟨.agg [.ar e32 aQ], rfl, ?_⟩
 have dJ := jS.bD (.ss (.k .z))
 refine ai <| iQ [] 0 (.agg [.ar e32 aQ]) [.ar e32 aQ] (Pt.at g2 0) dJ rfl .all (by kernel_rfl) (by kernel_rfl) ?_
 intro Du dB
 refine ag <| ae <| aN ?_
 obtain rfl := Option.some.inj hm
 refine aO [.agg [.ar e32 aQ]] (qo (.agg [.ar e32 aQ]) <| qc (fun w => Rd w (some ⟨g2, 0, none⟩) (SV.cl [.ar e32 aQ])) (dB.F9 0 rfl) <| qe) (by kernel_rfl) ?_
 have gz := dB.bD .z
 exact ⟨rfl, gz⟩
theorem rW {F O : Nat → Prop} {w : World} (zZ : Vec UInt32 8) (bK : UInt64) (bM : UInt64) (dO : List UInt8) (aG : Int) (b : List UInt8) (fV : Nat) (gJ : Option Addr) (qM : Nat) (gK : Nat) (lN : Option Addr) (pX : Nat) (lZ : Nat) (sO : Ro F w lN (e8.all b)) (rO : b.length = pX) (uo : pX ≤ lZ) (k : Cx F O w w [Bx 271 fV [.ar e32 zZ, .u64 bK, .u64 bM, sl gJ qM gK, I aG, .v (.func (.func 166) ⟨SV.vals []⟩ ⟨SV.vals []⟩), .v (.func (.func 167) ⟨SV.vals []⟩ ⟨SV.vals []⟩)], Ow e8 gJ qM gK dO]) (r : (Vec UInt32 8 × UInt64 × UInt64 × List UInt8 × Int)) (hm : iD zZ bK bM dO aG b = some r) :
    Calls Tryz.prog 223 (vals [pt fV 0, sl lN pX lZ]) w (fun e w' => ∃ A n c, r.2.2.2.1.length = n ∧ e = .returned (SV.val (.jc [])) ∧ Cx F O w w' [Bx 271 fV [.ar e32 r.1, .u64 r.2.1, .u64 r.2.2.1, sl A n c, I r.2.2.2.2, .v (.func (.func 166) ⟨SV.vals []⟩ ⟨SV.vals []⟩), .v (.func (.func 167) ⟨SV.vals []⟩ ⟨SV.vals []⟩)], Ow e8 A n c r.2.2.2.1]) := by
 unfold iD at hm
 obtain rfl := k.len 1 rfl
 subst rO
 refine calls [pt fV 0, sl lN b.length lZ] Tryz.func223 rfl (of_decide_eq_true (by kernel_rfl)) ?_
 refine aJ <| pg (jP aG) (fun s L wr => ∃ (aC : Vec UInt32 8) (kK : UInt64) (lh : UInt64) (qj : List UInt8) (b1 : List UInt8) (A0 : Option Addr) (n0 : Nat) (c0 : Nat) (A1 : Option Addr) (c1 : Nat), (aC, kK, lh, qj, b1) = s ∧ L = [(0, pt fV 0), (1, sl A1 b1.length c1)] ∧ qj.length = n0 ∧ Ro F w A1 (e8.all b1) ∧ b1.length ≤ c1 ∧ Cx F O w wr [Bx 271 fV [.ar e32 aC, .u64 kK, .u64 lh, sl A0 n0 c0, I aG, .v (.func (.func 166) ⟨SV.vals []⟩ ⟨SV.vals []⟩), .v (.func (.func 167) ⟨SV.vals []⟩ ⟨SV.vals []⟩)], Ow e8 A0 n0 c0 qj]) (zZ, bK, bM, dO, b) r hm ⟨zZ, bK, bM, dO, b, gJ, dO.length, gK, lN, lZ, rfl, rfl, k.len 1 rfl, sO, uo, k⟩ (by kernel_rfl) ?_
 intro BU L_ w_ y0 hrel hstep hr0
 obtain ⟨aC, kK, lh, qj, b1, A0, _, c0, A1, c1, rfl, rfl, rfl, h, hc, k_⟩ := hrel
 have hm := hstep; simp only [jP] at hm
 clear hstep
 refine af <| af <| bg [] (.n 7 (.b (decide (0 < ((b1.length : Nat) : Int)))) .a) qe (by kernel_rfl) ?_
 refine ae <| aZ (0 < ((b1.length : Nat) : Int)) (by kernel_rfl) (fun hc1 => ?_) (fun hc1 => ?_)
 · rw [if_pos hc1] at hm
   refine aS <| ae <| aJ <| vG (fun L wr => ∃ (CO : Vec UInt32 8) (zK : UInt64) (qZ : UInt64) (fZ : List UInt8) (A2 : Option Addr) (n1 : Nat) (c2 : Nat), gu aG b1 CO zK qZ fZ = some y0 ∧ L = [(0, pt fV 0), (1, sl A1 b1.length c1)] ∧ fZ.length = n1 ∧ Cx F O w wr [Bx 271 fV [.ar e32 CO, .u64 zK, .u64 qZ, sl A2 n1 c2, I aG, .v (.func (.func 166) ⟨SV.vals []⟩ ⟨SV.vals []⟩), .v (.func (.func 167) ⟨SV.vals []⟩ ⟨SV.vals []⟩)], Ow e8 A2 n1 c2 fZ]) ?_ ?_
   ·
    refine af <| W_d bG (by kernel_rfl) (.n 17 (.b (decide (((qj.length : Nat) : Int) = aG))) (.s .a)) (fun m => qs fV 0 <| qs fV 0 <| qB (k_.drew m) 0 rfl 10 (sl A0 qj.length c0) (by kernel_rfl) <| qs fV 0 <| qs fV 0 <| qB (k_.drew m) 0 rfl 11 (I aG) (by kernel_rfl) <| qe) (by kernel_rfl) (fun m_ => ?_)
    have dK := k_.drew m_
    refine ae <| aZ (((qj.length : Nat) : Int) = aG) (by kernel_rfl) (fun hc2 => ?_) (fun hc2 => ?_)
    · rw [if_pos hc2] at hm
      refine af ?_
      have fF := dK.drew 1
      refine xQ bG (.q 0 1 (.q 1 1 (.q 2 1 (.q 3 0 (.q 4 0 (.q 5 1 (.q 6 1 (.q 7 1 (.q 8 0 (.q 9 0 (.op 10 (.q 11 1 (.q 12 1 (.q 14 1 (.q 15 1 (.q 13 2 (.op 16 .nil))))))))))))))))) [10, 16] fF (.c (.kk .e) (.c (.s (.k .e)) .l)) (by kernel_rfl) (fun _ => ?_)
      refine dG 3 1 [] (.n 19 (pt fV 0) (.n 21 (pt fV 0) (.s .a))) (fun x hx => qs fV 0 <| qe) (by kernel_rfl) (fun _ => ?_)
      refine dG 2 0 [] (.n 23 (.agg [.u64 kK, .u64 lh]) (.k (.s .a))) (fun x hx => qs fV 0 <| qT hx 0 rfl 8 2 [.u64 kK, .u64 lh] (by kernel_rfl) (by decide) <| qe) (by kernel_rfl) (fun _ => ?_)
      refine dG 3 1 [] (.n 26 (pt fV 11) .a) (fun x hx => qs fV 0 <| qs fV 0 <| qe) (by kernel_rfl) (fun _ => ?_)
      refine dG 2 0 [] (.n 28 (.u64 (UInt64.ofInt aG)) (.s .a)) (fun x hx => qB hx 0 rfl 11 (I aG) (by kernel_rfl) <| qe) (by kernel_rfl) (fun _ => ?_)
      refine dw (by kernel_rfl) rfl ?_
      obtain ⟨r_, dV, hm⟩ := ob hm
      refine ay [] 29 _ zG (by kernel_rfl) (vV (F := N0) (O := N0) _ _ _ (Cx.refl _) _ dV) ?_
      rintro e_ o9 ⟨rfl, fM⟩
      have g_ := fF.call fM
      refine ⟨.jc [.agg [.u64 r_.1, .u64 r_.2.1], .b r_.2.2], rfl, ?_⟩
      refine ⟨g_, fun _ => ?_⟩
      refine dG 4 1 [] (.n 18 (.jc [.agg [.u64 r_.1, .u64 r_.2.1], .b r_.2.2]) (.n 30 (.agg [.u64 r_.1, .u64 r_.2.1]) (.n 33 (pt fV 8) (.kJ .a)))) (fun x hx => qs fV 0 <| qs fV 0 <| qe) (by kernel_rfl) (fun _ => ?_)
      refine dG 1 2 [] (.s .a) (fun x hx => qe) (by kernel_rfl) (fun _ => ?_)
      refine dw (by kernel_rfl) rfl <| iQ [] 0 (.agg [.u64 r_.1, .u64 r_.2.1]) [.u64 r_.1, .u64 r_.2.1] (Pt.at fV 8) g_ rfl (.k .h2) (by kernel_rfl) (by kernel_rfl) ?_
      intro sZ gX
      refine ⟨(gX.bD (.s (.k .e))), fun _ => ?_⟩
      refine dP <| ae <| af ?_
      have jb := gX.drew 1
      refine xQ bG (.q 0 1 (.q 1 1 (.q 2 1 (.q 3 0 (.q 4 0 (.q 5 1 (.q 6 1 (.q 7 0 (.q 8 0 (.q 9 1 (.q 10 1 (.q 11 0 (.q 12 0 (.q 13 1 (.q 14 1 (.q 15 0 (.q 16 0 (.op 17 (.q 18 1 (.q 19 1 (.op 20 .nil))))))))))))))))))))) [17, 20] jb (.c (.kk .e) (.c (.s (.k .e)) .l)) (by kernel_rfl) (fun _ => ?_)
      refine dG 3 1 [] (.n 34 (pt fV 0) (.n 36 (pt fV 0) (.ss .a))) (fun x hx => qs fV 0 <| qe) (by kernel_rfl) (fun _ => ?_)
      refine dG 2 0 [] (.n 38 (.v (.func (.func 166) ⟨SV.vals []⟩ ⟨SV.vals []⟩)) (.k (.s .a))) (fun x hx => qs fV 0 <| qB hx 0 rfl 12 (.v (.func (.func 166) ⟨SV.vals []⟩ ⟨SV.vals []⟩)) (by kernel_rfl) <| qe) (by kernel_rfl) (fun _ => ?_)
      refine dG 2 1 [] (.n 40 (pt fV 0) .a) (fun x hx => qs fV 0 <| qe) (by kernel_rfl) (fun _ => ?_)
      refine dG 2 0 [] (.n 42 (.agg [.ar e32 aC]) (.s .a)) (fun x hx => qs fV 0 <| qT hx 0 rfl 0 8 [.ar e32 aC] (by kernel_rfl) (by decide) <| qe) (by kernel_rfl) (fun _ => ?_)
      refine dG 2 1 [] (.n 44 (pt fV 0) .a) (fun x hx => qs fV 0 <| qe) (by kernel_rfl) (fun _ => ?_)
      refine dG 2 0 [] (.n 46 (sl A0 qj.length c0) (.s .a)) (fun x hx => qs fV 0 <| qB hx 0 rfl 10 (sl A0 qj.length c0) (by kernel_rfl) <| qe) (by kernel_rfl) (fun _ => ?_)
      refine dG 2 1 [] (.n 48 (pt fV 0) .a) (fun x hx => qs fV 0 <| qe) (by kernel_rfl) (fun _ => ?_)
      refine dG 2 0 [] (.n 50 (.agg [.u64 r_.1, .u64 r_.2.1]) (.s .a)) (fun x hx => qs fV 0 <| qT hx 0 rfl 8 2 [.u64 r_.1, .u64 r_.2.1] (by kernel_rfl) (by decide) <| qe) (by kernel_rfl) (fun _ => ?_)
      refine dw (by kernel_rfl) rfl ?_
      obtain ⟨aQ, fG, hm⟩ := ob hm
      refine zk [] 51 [] [.agg [.ar e32 aC], sl A0 qj.length c0, .agg [.u64 r_.1, .u64 r_.2.1], .b false, .b false] [] O0 (by kernel_rfl) (AU (F := N0) (O := N0) _ _ _ _ _ _ _ _ _ (Ro.n0 (jb.rd 1 rfl)) (jb.len 1 rfl) (jb.EH 1 rfl) (Cx.refl _) _ fG) ?_
      rintro e_ xk ⟨rfl, jf⟩
      have jQ := jb.call jf
      refine ⟨.agg [.ar e32 aQ], rfl, ?_⟩
      refine ⟨jQ, fun _ => ?_⟩
      refine dG 2 1 [] (.n 53 (pt fV 0) (.k (.kJ (.s .a)))) (fun x hx => qs fV 0 <| qs fV 0 <| qe) (by kernel_rfl) (fun _ => ?_)
      refine dw (by kernel_rfl) rfl <| iQ [] 0 (.agg [.ar e32 aQ]) [.ar e32 aQ] (Pt.at fV 0) jQ rfl .h (by kernel_rfl) (by kernel_rfl) ?_
      intro xB jS
      refine ⟨(jS.bD (.s (.k .e))), fun _ => ?_⟩
      refine dP <| ae <| ax ?_
      obtain ⟨b2, Gy, hm⟩ := ob hm
      have hs := iq Gy
      have hl := nC Gy
      have hn : qj.length = qj.length := (jS.len 1 rfl)
      have hc3 : qj.length ≤ c0 := (jS.EH 1 rfl)
      have hc4 : b2.length ≤ c0 := by omega
      refine aW 8 [] (.n 59 (sl A0 b2.length c0) (.n 61 (pt fV 10) (.ss .a))) (qs fV 0 <| qs fV 0 <| qB jS 0 rfl 10 (sl A0 qj.length c0) (by kernel_rfl) <| qp (0 ≤ (0 : Int) ∧ (0 : Int) ≤ ((c0 : Nat) : Int)) (by omega) <| qo (.v (.slice A0 b2.length c0)) <| qp (Value.slice (zJ A0 0 c0 1) (Int.toNat (0 : Int) - 0) (c0 - 0) = .slice A0 b2.length c0) (D8 _ _ _ _ _ (by omega)) <| qs fV 0 <| qs fV 0 <| qe) (by kernel_rfl) ?_
      refine ai ?_
      have dJ := jS.bD (.kk .e)
      refine iQ [] 0 (sl A0 b2.length c0) [sl A0 b2.length c0] (Pt.at fV 10) dJ rfl (.kk (.k .h)) (by kernel_rfl) (by kernel_rfl) ?_
      intro y5 dB
      refine ag ?_
      have gz := dB.pre 1 rfl b2.length c0 b2 (by omega) (by omega) (by omega) (Ip Gy rfl)
      exact oJ ⟨aQ, r_.1, r_.2.1, b2, A0, b2.length, c0, hm, rfl, gz.len 1 rfl, gz⟩ (by kernel_rfl)
    rw [if_neg hc2] at hm
    refine aS ?_
    exact oJ ⟨aC, kK, lh, qj, A0, qj.length, c0, hm, rfl, dK.len 1 rfl, dK⟩ (by kernel_rfl)
   rintro L_ CW ⟨CO, zK, qZ, fZ, A2, _, c2, hm, rfl, rfl, iI⟩
   simp only [gu] at hm
   refine af <| W_d bG (by kernel_rfl) (.n 4 (I (if aI (aG - ((fZ.length : Nat) : Int)) < ((b1.length : Nat) : Int) then aI (aG - ((fZ.length : Nat) : Int)) else ((b1.length : Nat) : Int))) .a) (fun m => qs fV 0 <| qs fV 0 <| qB (iI.drew m) 0 rfl 11 (I aG) (by kernel_rfl) <| qs fV 0 <| qs fV 0 <| qB (iI.drew m) 0 rfl 10 (sl A2 fZ.length c2) (by kernel_rfl) <| qe) (by kernel_rfl) (fun vX => ?_)
   have iJ := iI.drew vX
   refine ae <| af ?_
   have iK := iJ.drew 1
   refine xQ bG (.q 5 0 (.q 6 0 (.q 7 0 (.q 0 1 (.q 1 1 (.q 2 1 (.q 3 0 (.q 4 0 (.op 8 (.q 9 1 (.q 10 1 (.op 11 .nil)))))))))))) [8, 11] iK (.c (.k .z) (.c (.z) .l)) (by kernel_rfl) (fun _ => ?_)
   obtain ⟨b3, H8, hm⟩ := ob hm
   have hs1 := iq H8
   have hl1 := nC H8
   have hn1 : b1.length = b1.length := rfl
   have hc5 : b1.length ≤ c1 := hc
   have hc6 : b3.length ≤ c1 := by omega
   refine dG 3 0 [] (.n 82 (sl A1 b3.length c1) .a) (fun x hx => qp (0 ≤ (if aI (aG - ((fZ.length : Nat) : Int)) < ((b1.length : Nat) : Int) then aI (aG - ((fZ.length : Nat) : Int)) else ((b1.length : Nat) : Int)) ∧ (if aI (aG - ((fZ.length : Nat) : Int)) < ((b1.length : Nat) : Int) then aI (aG - ((fZ.length : Nat) : Int)) else ((b1.length : Nat) : Int)) ≤ ((c1 : Nat) : Int)) (by omega) <| qo (.v (.slice A1 b3.length c1)) <| qp (Value.slice (zJ A1 0 c1 1) (Int.toNat (if aI (aG - ((fZ.length : Nat) : Int)) < ((b1.length : Nat) : Int) then aI (aG - ((fZ.length : Nat) : Int)) else ((b1.length : Nat) : Int)) - 0) (c1 - 0) = .slice A1 b3.length c1) (D8 _ _ _ _ _ (by omega)) <| qe) (by kernel_rfl) (fun _ => ?_)
   refine dG 3 1 [] (.n 75 (pt fV 0) (.n 77 (pt fV 0) .a)) (fun x hx => qs fV 0 <| qe) (by kernel_rfl) (fun _ => ?_)
   refine dG 2 0 [] (.n 79 (sl A2 fZ.length c2) (.k (.s .a))) (fun x hx => qs fV 0 <| qB hx 0 rfl 10 (sl A2 fZ.length c2) (by kernel_rfl) <| qe) (by kernel_rfl) (fun _ => ?_)
   refine dw (by kernel_rfl) rfl ?_
   obtain ⟨b4, Et, hm⟩ := ob hm
   obtain ⟨hz, hl2⟩ := fO Et
   refine dL (E := e8) (v := sl A1 b3.length c1) (ys := b3) dW [] 83 1 (by kernel_rfl) iK rfl (Src.sl (Rd.pre (h.cx iK) H8 rfl) rfl (by rfl)) rfl (by have := iK.len 1 rfl; have := hm; omega) ?_
   intro A3 c3 Du iG
   rw [← hl2] at iG
   refine ⟨(iG.bD (.k .z)), fun _ => ?_⟩
   refine dG 2 1 [] (.n 85 (pt fV 10) (.k (.nG .a))) (fun x hx => qs fV 0 <| qs fV 0 <| qe) (by kernel_rfl) (fun _ => ?_)
   refine dw (by kernel_rfl) rfl <| iQ [] 0 (sl A3 (fZ.length + b3.length) c3) [sl A3 (fZ.length + b3.length) c3] (Pt.at fV 10) iG rfl (.kk (.k .h)) (by kernel_rfl) (by kernel_rfl) ?_
   intro Jn je
   refine ⟨(je.bD .z), fun _ => ?_⟩
   refine dP <| ae ?_
   obtain ⟨b5, QR, hm⟩ := ob hm
   have hs2 := iq QR
   have hl3 := nC QR
   have hn2 : b1.length = b1.length := rfl
   have Ol : b1.length ≤ c1 := hc
   obtain ⟨A4, c4, e_, hc8, hA, Yc⟩ := YT A1 (Int.toNat (if aI (aG - ((fZ.length : Nat) : Int)) < ((b1.length : Nat) : Int) then aI (aG - ((fZ.length : Nat) : Int)) else ((b1.length : Nat) : Int))) c1 1 (b1.length - Int.toNat (if aI (aG - ((fZ.length : Nat) : Int)) < ((b1.length : Nat) : Int) then aI (aG - ((fZ.length : Nat) : Int)) else ((b1.length : Nat) : Int))) b5.length (by omega) (by omega)
   refine bg [] (.n 1 (sl A4 b5.length c4) (.nG (.k .z))) (qp (0 ≤ (if aI (aG - ((fZ.length : Nat) : Int)) < ((b1.length : Nat) : Int) then aI (aG - ((fZ.length : Nat) : Int)) else ((b1.length : Nat) : Int)) ∧ (if aI (aG - ((fZ.length : Nat) : Int)) < ((b1.length : Nat) : Int) then aI (aG - ((fZ.length : Nat) : Int)) else ((b1.length : Nat) : Int)) ≤ ((b1.length : Nat) : Int)) (by omega) <| qo (.v (.slice A4 b5.length c4)) <| qp (Value.slice (zJ A1 (Int.toNat (if aI (aG - ((fZ.length : Nat) : Int)) < ((b1.length : Nat) : Int) then aI (aG - ((fZ.length : Nat) : Int)) else ((b1.length : Nat) : Int))) c1 1) (b1.length - Int.toNat (if aI (aG - ((fZ.length : Nat) : Int)) < ((b1.length : Nat) : Int) then aI (aG - ((fZ.length : Nat) : Int)) else ((b1.length : Nat) : Int))) (c1 - Int.toNat (if aI (aG - ((fZ.length : Nat) : Int)) < ((b1.length : Nat) : Int) then aI (aG - ((fZ.length : Nat) : Int)) else ((b1.length : Nat) : Int))) = .slice A4 b5.length c4) e_ <| qe) (by kernel_rfl) ?_
   refine gm ?_
   exact jU (CO, zK, qZ, b4, b5) (Option.some.inj hm).symm ⟨CO, zK, qZ, b4, b5, A3, fZ.length + b3.length, c3, A4, c4, rfl, rfl, je.len 1 rfl, (Ro.cut h QR rfl (by rfl) hA (by omega)), hc8, je⟩ (by kernel_rfl)
 rw [if_neg hc1] at hm
 refine dY (bU (bU (iL ?_)))
 have hm := cO hm hr0
 obtain rfl := Option.some.inj hm
 refine xY [] qe (by kernel_rfl) ?_
 exact ⟨A0, qj.length, c0, k_.len 1 rfl, rfl, k_⟩
theorem FU {F O : Nat → Prop} {w : World} (iP : Int) (gB : Int) (dh : List UInt8) (fQ : List UInt8) (mX : Bool) (gG : UInt64) (lV : Nat) (gY : Option Addr) (lW : Nat) (gZ : Nat) (jl : Option Addr) (qh : Nat) (jm : Nat) (k : Cx F O w w [Bx 169 lV [I iP, I gB, sl gY lW gZ, sl jl qh jm, .b mX, .u64 gG, .v .nilIface], Ow e8 gY lW gZ dh, Ow e8 jl qh jm fQ]) (r : (Int × Int × List UInt8 × List UInt8 × Vec UInt64 8 × UInt64 × UInt64 × List UInt8 × Int) ⊕ (Int × Int × List UInt8 × List UInt8 × Vec UInt32 8 × UInt64 × UInt64 × List UInt8 × Int)) (hm : jW iP gB dh fQ mX gG = some r) :
    Calls Tryz.prog 138 (vals [pt lV 0]) w (fun e w' => match r with | .inl r0 => ∃ A n c A1 n1 c1 g A2 n2 c2, r0.2.2.1.length = n ∧ r0.2.2.2.1.length = n1 ∧ r0.2.2.2.2.2.2.2.1.length = n2 ∧ e = .returned (SV.val (.jc [])) ∧ Cx F O w w' [Bx 169 lV [I r0.1, I r0.2.1, sl A n c, sl A1 n1 c1, .b false, .u64 0, .v (.iface 258 (SV.val (pt g 0)))], Ow e8 A n c r0.2.2.1, Ow e8 A1 n1 c1 r0.2.2.2.1, Bx 264 g [.ar e64 r0.2.2.2.2.1, .u64 r0.2.2.2.2.2.1, .u64 r0.2.2.2.2.2.2.1, sl A2 n2 c2, I r0.2.2.2.2.2.2.2.2, .v (.func (.func 163) ⟨SV.vals []⟩ ⟨SV.vals []⟩), .v (.func (.func 164) ⟨SV.vals []⟩ ⟨SV.vals []⟩)], Ow e8 A2 n2 c2 r0.2.2.2.2.2.2.2.1] | .inr r1 => ∃ A3 n3 c3 A4 n4 c4 g1 A5 n5 c5, r1.2.2.1.length = n3 ∧ r1.2.2.2.1.length = n4 ∧ r1.2.2.2.2.2.2.2.1.length = n5 ∧ e = .returned (SV.val (.jc [])) ∧ Cx F O w w' [Bx 169 lV [I r1.1, I r1.2.1, sl A3 n3 c3, sl A4 n4 c4, .b false, .u64 0, .v (.iface 267 (SV.val (pt g1 0)))], Ow e8 A3 n3 c3 r1.2.2.1, Ow e8 A4 n4 c4 r1.2.2.2.1, Bx 271 g1 [.ar e32 r1.2.2.2.2.1, .u64 r1.2.2.2.2.2.1, .u64 r1.2.2.2.2.2.2.1, sl A5 n5 c5, I r1.2.2.2.2.2.2.2.2, .v (.func (.func 166) ⟨SV.vals []⟩ ⟨SV.vals []⟩), .v (.func (.func 167) ⟨SV.vals []⟩ ⟨SV.vals []⟩)], Ow e8 A5 n5 c5 r1.2.2.2.2.2.2.2.1]) := by
 unfold jW at hm
 obtain rfl := k.len 1 rfl
 obtain rfl := k.len 2 rfl
 refine calls [pt lV 0] Tryz.func138 rfl (of_decide_eq_true (by kernel_rfl)) ?_
 refine af ?_
 have k_ := k.drew 1
 refine xQ bG (.q 0 1 (.q 1 1 (.q 2 1 (.q 3 0 (.q 4 0 (.q 5 1 (.q 6 1 (.q 7 0 (.q 8 0 (.op 9 (.q 10 1 (.q 11 1 (.op 12 .nil))))))))))))) [9, 12] k_ (.c (.kk (.k .e)) (.c (.s (.kk .e)) .l)) (by kernel_rfl) (fun _ => ?_)
 refine dG 3 1 [] (.n 2 (pt lV 0) (.n 4 (pt lV 0) .a)) (fun x hx => qs lV 0 <| qe) (by kernel_rfl) (fun _ => ?_)
 refine dG 2 0 [] (.n 6 (I iP) (.k (.s .a))) (fun x hx => qs lV 0 <| qB hx 0 rfl 0 (I iP) (by kernel_rfl) <| qe) (by kernel_rfl) (fun _ => ?_)
 refine dG 2 1 [] (.n 8 (pt lV 0) .a) (fun x hx => qs lV 0 <| qe) (by kernel_rfl) (fun _ => ?_)
 refine dG 2 0 [] (.n 10 (sl gY dh.length gZ) (.s .a)) (fun x hx => qs lV 0 <| qB hx 0 rfl 2 (sl gY dh.length gZ) (by kernel_rfl) <| qe) (by kernel_rfl) (fun _ => ?_)
 refine dw (by kernel_rfl) rfl ?_
 obtain ⟨r_, dV, hm⟩ := ob hm
 refine ay [] 11 _ VH (by kernel_rfl) (NG (F := N0) (O := N0) _ _ _ _ _ (Ro.n0 (k_.rd 1 rfl)) (k_.len 1 rfl) (k_.EH 1 rfl) (Cx.refl _) _ dV) ?_
 rcases r_ with aQ | bI
 · simp only [Sum.elim_inl, Sum.elim_inr] at hm
   rintro e_ w_ ⟨g0, A0, _, c0, rfl, rfl, dK⟩
   have fF := k_.call dK
   refine ⟨.v (.iface 258 (SV.val (pt g0 0))), rfl, ?_⟩
   refine ⟨(fF.bD (.kk (.k .z))), fun _ => ?_⟩
   refine dG 2 1 [] (.n 13 (pt lV 6) (.k (.nG .a))) (fun x hx => qs lV 0 <| qs lV 0 <| qe) (by kernel_rfl) (fun _ => ?_)
   refine dw (by kernel_rfl) rfl <| iQ [] 0 (.v (.iface 258 (SV.val (pt g0 0)))) [.v (.iface 258 (SV.val (pt g0 0)))] (Pt.at lV 6) fF rfl (.bH (.kk .h)) (by kernel_rfl) (by kernel_rfl) ?_
   intro o9 fM
   refine ⟨(fM.bD (.s (.kk .z))), fun _ => ?_⟩
   refine dP <| ae <| af <| ax <| aW 3 [] (.n 16 (pt lV 4) (.ss .a)) (qs lV 0 <| qs lV 0 <| qe) (by kernel_rfl) ?_
   refine ai <| iQ [] 0 (.b false) [.b false] (Pt.at lV 4) fM rfl (.bH .h) (by kernel_rfl) (by kernel_rfl) ?_
   intro sZ g_
   refine ag <| ae <| af <| ax <| aW 3 [] (.n 19 (pt lV 5) (.s .a)) (qs lV 0 <| qs lV 0 <| qe) (by kernel_rfl) ?_
   refine ai <| iQ [] 0 (.u64 0) [.u64 0] (Pt.at lV 5) g_ rfl (.bH (.k .h)) (by kernel_rfl) (by kernel_rfl) ?_
   intro xk gX
   refine ag <| ae <| af <| bg [] (.n 25 (.b (decide (0 < ((fQ.length : Nat) : Int)))) (.s .a)) (qs lV 0 <| qs lV 0 <| qB gX 0 rfl 3 (sl jl fQ.length jm) (by kernel_rfl) <| qe) (by kernel_rfl) ?_
   refine ae <| aZ (0 < ((fQ.length : Nat) : Int)) (by kernel_rfl) (fun hc => ?_) (fun hc => ?_)
   · rw [if_pos hc] at hm
     have jb := gX.drew 1
     refine xQ bG (.q 0 3 (.q 1 3 (.q 2 3 (.q 3 2 (.q 14 2 (.q 15 2 (.q 4 3 (.q 5 3 (.q 6 2 (.q 7 1 (.q 8 3 (.q 9 3 (.q 10 2 (.q 11 1 (.op 12 (.op 13 (.op 16 .nil))))))))))))))))) [12, 13, 16] jb (.c (.bH (.k .e)) (.c (.bH (.k .e)) (.c (.kk (.k .z)) .l))) (by kernel_rfl) (fun _ => ?_)
     refine dG 3 3 [] (.n 28 (pt lV 6) (.s .a)) (fun x hx => qs lV 0 <| qs lV 0 <| qe) (by kernel_rfl) (fun _ => ?_)
     refine dG 3 2 [] (.n 41 (.v (.iface 258 (SV.val (pt g0 0)))) (.s .a)) (fun x hx => qB hx 0 rfl 6 (.v (.iface 258 (SV.val (pt g0 0)))) (by kernel_rfl) <| qe) (by kernel_rfl) (fun _ => ?_)
     refine dG 2 3 [] (.n 31 (pt lV 0) .a) (fun x hx => qs lV 0 <| qe) (by kernel_rfl) (fun _ => ?_)
     refine dG 1 2 [] (.n 32 (pt lV 3) (.s .a)) (fun x hx => qs lV 0 <| qe) (by kernel_rfl) (fun _ => ?_)
     refine dG 1 1 [] (.n 33 (sl jl fQ.length jm) (.s .a)) (fun x hx => qB hx 0 rfl 3 (sl jl fQ.length jm) (by kernel_rfl) <| qe) (by kernel_rfl) (fun _ => ?_)
     refine dG 2 3 [] (.n 35 (pt lV 0) (.kk .z)) (fun x hx => qs lV 0 <| qe) (by kernel_rfl) (fun _ => ?_)
     refine dG 1 2 [] (.n 36 (pt lV 0) (.s .a)) (fun x hx => qs lV 0 <| qe) (by kernel_rfl) (fun _ => ?_)
     refine dG 1 1 [] (.n 37 (I iP) (.s .a)) (fun x hx => qB hx 0 rfl 0 (I iP) (by kernel_rfl) <| qe) (by kernel_rfl) (fun _ => ?_)
     refine dw (by kernel_rfl) rfl ?_
     have jf := jb.bD (.bH (.k .e))
     obtain ⟨dN, qL, hm⟩ := ob hm
     refine ay [] 38 _ FC (by kernel_rfl) (vz (F := N0) (O := N0) _ (Cx.refl _) _ qL) ?_
     rintro e_ xB ⟨rfl, jQ⟩
     have jS := jf.call jQ
     refine ⟨I dN, rfl, ?_⟩
     refine ⟨jS, fun _ => ?_⟩
     refine dw (by kernel_rfl) rfl ?_
     obtain ⟨ja, vk, hm⟩ := ob hm
     refine ay [] 39 _ FD (by kernel_rfl) (wu (F := N0) (O := N0) _ _ _ _ _ (Ro.n0 (jS.rd 2 rfl)) (jS.len 2 rfl) (jS.EH 2 rfl) (Cx.refl _) _ vk) ?_
     rintro e_ y5 ⟨A6, _, c6, rfl, rfl, dJ⟩
     have dB := jS.call dJ
     refine ⟨sl A6 ja.length c6, rfl, ?_⟩
     refine ⟨(dB.bD (.bH (.k .z))), fun _ => ?_⟩
     refine dw (by kernel_rfl) rfl ?_
     obtain ⟨iO, wY, hm⟩ := ob hm
     obtain ⟨F1, O1, kin, hO, hre, hF, hb⟩ := dB.go (.r (.r (.r (.i (.i (.r .e))))))
     refine xP [] 42 258 (pt g0 0) [sl A6 ja.length c6] wV rfl (by kernel_rfl) (rV (F := F1) (O := O1) _ _ _ _ _ _ _ _ _ _ _ _ _ (Ro.of_rest hre 3 rfl) (dB.len 5 rfl) (dB.EH 5 rfl) kin _ wY) ?_
     rintro e_ CW ⟨A7, _, c7, rfl, rfl, gz⟩
     have iI := hb CW _ _ gz (.c (.c .n))
     refine ⟨.jc [], rfl, ?_⟩
     have iJ := iI.bD (.bH (.k .z))
     refine ⟨(iJ.bD (.ss (.kk (.k .e)))), fun _ => ?_⟩
     refine dP ?_
     obtain rfl := Option.some.inj hm
     refine xY [] qe (by kernel_rfl) ?_
     have iK := ((((iJ.pk (.t .h)).pk (.t .h)).pk (.t (.t (.t (.t .h))))).pk (.t (.t (.t (.t .h))))).pk (.t (.t (.t (.t .h))))
     exact ⟨gY, dh.length, gZ, jl, fQ.length, jm, g0, A7, iO.2.2.2.1.length, c7, iK.len 1 rfl, iK.len 2 rfl, iK.len 4 rfl, rfl, iK⟩
   rw [if_neg hc] at hm
   refine aS ?_
   obtain rfl := Option.some.inj hm
   refine xY [] qe (by kernel_rfl) ?_
   exact ⟨gY, dh.length, gZ, jl, fQ.length, jm, g0, A0, aQ.2.length, c0, gX.len 1 rfl, gX.len 2 rfl, gX.len 4 rfl, rfl, gX⟩
 · simp only [Sum.elim_inl, Sum.elim_inr] at hm
   rintro e_ w_0 ⟨g2, A8, _, c8, rfl, rfl, iG⟩
   have je := k_.call iG
   refine ⟨.v (.iface 267 (SV.val (pt g2 0))), rfl, ?_⟩
   refine ⟨(je.bD (.kk (.k .z))), fun _ => ?_⟩
   refine dG 2 1 [] (.n 13 (pt lV 6) (.k (.nG .a))) (fun x hx => qs lV 0 <| qs lV 0 <| qe) (by kernel_rfl) (fun _ => ?_)
   refine dw (by kernel_rfl) rfl <| iQ [] 0 (.v (.iface 267 (SV.val (pt g2 0)))) [.v (.iface 267 (SV.val (pt g2 0)))] (Pt.at lV 6) je rfl (.bH (.kk .h)) (by kernel_rfl) (by kernel_rfl) ?_
   intro Du ku
   refine ⟨(ku.bD (.s (.kk .z))), fun _ => ?_⟩
   refine dP <| ae <| af <| ax <| aW 3 [] (.n 16 (pt lV 4) (.ss .a)) (qs lV 0 <| qs lV 0 <| qe) (by kernel_rfl) ?_
   refine ai <| iQ [] 0 (.b false) [.b false] (Pt.at lV 4) ku rfl (.bH .h) (by kernel_rfl) (by kernel_rfl) ?_
   intro Jn oq
   refine ag <| ae <| af <| ax <| aW 3 [] (.n 19 (pt lV 5) (.s .a)) (qs lV 0 <| qs lV 0 <| qe) (by kernel_rfl) ?_
   refine ai <| iQ [] 0 (.u64 0) [.u64 0] (Pt.at lV 5) oq rfl (.bH (.k .h)) (by kernel_rfl) (by kernel_rfl) ?_
   intro JW jL
   refine ag <| ae <| af <| bg [] (.n 25 (.b (decide (0 < ((fQ.length : Nat) : Int)))) (.s .a)) (qs lV 0 <| qs lV 0 <| qB jL 0 rfl 3 (sl jl fQ.length jm) (by kernel_rfl) <| qe) (by kernel_rfl) ?_
   refine ae <| aZ (0 < ((fQ.length : Nat) : Int)) (by kernel_rfl) (fun hc0 => ?_) (fun hc0 => ?_)
   · rw [if_pos hc0] at hm
     have mQ := jL.drew 1
     refine xQ bG (.q 0 3 (.q 1 3 (.q 2 3 (.q 3 2 (.q 14 2 (.q 15 2 (.q 4 3 (.q 5 3 (.q 6 2 (.q 7 1 (.q 8 3 (.q 9 3 (.q 10 2 (.q 11 1 (.op 12 (.op 13 (.op 16 .nil))))))))))))))))) [12, 13, 16] mQ (.c (.bH (.k .e)) (.c (.bH (.k .e)) (.c (.kk (.k .z)) .l))) (by kernel_rfl) (fun _ => ?_)
     refine dG 3 3 [] (.n 28 (pt lV 6) (.s .a)) (fun x hx => qs lV 0 <| qs lV 0 <| qe) (by kernel_rfl) (fun _ => ?_)
     refine dG 3 2 [] (.n 41 (.v (.iface 267 (SV.val (pt g2 0)))) (.s .a)) (fun x hx => qB hx 0 rfl 6 (.v (.iface 267 (SV.val (pt g2 0)))) (by kernel_rfl) <| qe) (by kernel_rfl) (fun _ => ?_)
     refine dG 2 3 [] (.n 31 (pt lV 0) .a) (fun x hx => qs lV 0 <| qe) (by kernel_rfl) (fun _ => ?_)
     refine dG 1 2 [] (.n 32 (pt lV 3) (.s .a)) (fun x hx => qs lV 0 <| qe) (by kernel_rfl) (fun _ => ?_)
     refine dG 1 1 [] (.n 33 (sl jl fQ.length jm) (.s .a)) (fun x hx => qB hx 0 rfl 3 (sl jl fQ.length jm) (by kernel_rfl) <| qe) (by kernel_rfl) (fun _ => ?_)
     refine dG 2 3 [] (.n 35 (pt lV 0) (.kk .z)) (fun x hx => qs lV 0 <| qe) (by kernel_rfl) (fun _ => ?_)
     refine dG 1 2 [] (.n 36 (pt lV 0) (.s .a)) (fun x hx => qs lV 0 <| qe) (by kernel_rfl) (fun _ => ?_)
     refine dG 1 1 [] (.n 37 (I iP) (.s .a)) (fun x hx => qB hx 0 rfl 0 (I iP) (by kernel_rfl) <| qe) (by kernel_rfl) (fun _ => ?_)
     refine dw (by kernel_rfl) rfl ?_
     have oM := mQ.bD (.bH (.k .e))
     obtain ⟨qw, BZ, hm⟩ := ob hm
     refine ay [] 38 _ FC (by kernel_rfl) (vz (F := N0) (O := N0) _ (Cx.refl _) _ BZ) ?_
     rintro e_ BV ⟨rfl, oN⟩
     have ni := oM.call oN
     refine ⟨I qw, rfl, ?_⟩
     refine ⟨ni, fun _ => ?_⟩
     refine dw (by kernel_rfl) rfl ?_
     obtain ⟨nJ, BX, hm⟩ := ob hm
     refine ay [] 39 _ FD (by kernel_rfl) (wu (F := N0) (O := N0) _ _ _ _ _ (Ro.n0 (ni.rd 2 rfl)) (ni.len 2 rfl) (ni.EH 2 rfl) (Cx.refl _) _ BX) ?_
     rintro e_ Dv ⟨A9, _, c9, rfl, rfl, nY⟩
     have pM := ni.call nY
     refine ⟨sl A9 nJ.length c9, rfl, ?_⟩
     refine ⟨(pM.bD (.bH (.k .z))), fun _ => ?_⟩
     refine dw (by kernel_rfl) rfl ?_
     obtain ⟨ug, FN, hm⟩ := ob hm
     obtain ⟨F10, O10, kin0, hO0, hre0, hF0, hb0⟩ := pM.go (.r (.r (.r (.i (.i (.r .e))))))
     refine xP [] 42 267 (pt g2 0) [sl A9 nJ.length c9] wW rfl (by kernel_rfl) (rW (F := F10) (O := O10) _ _ _ _ _ _ _ _ _ _ _ _ _ (Ro.of_rest hre0 3 rfl) (pM.len 5 rfl) (pM.EH 5 rfl) kin0 _ FN) ?_
     rintro e_ GG ⟨QM, _, c10, rfl, rfl, ve⟩
     have qH := hb0 GG _ _ ve (.c (.c .n))
     refine ⟨.jc [], rfl, ?_⟩
     have uq := qH.bD (.bH (.k .z))
     refine ⟨(uq.bD (.ss (.kk (.k .e)))), fun _ => ?_⟩
     refine dP ?_
     obtain rfl := Option.some.inj hm
     refine xY [] qe (by kernel_rfl) ?_
     have uu := ((((uq.pk (.t .h)).pk (.t .h)).pk (.t (.t (.t (.t .h))))).pk (.t (.t (.t (.t .h))))).pk (.t (.t (.t (.t .h))))
     exact ⟨gY, dh.length, gZ, jl, fQ.length, jm, g2, QM, ug.2.2.2.1.length, c10, uu.len 1 rfl, uu.len 2 rfl, uu.len 4 rfl, rfl, uu⟩
   rw [if_neg hc0] at hm
   refine aS ?_
   obtain rfl := Option.some.inj hm
   refine xY [] qe (by kernel_rfl) ?_
   exact ⟨gY, dh.length, gZ, jl, fQ.length, jm, g2, A8, bI.2.length, c8, jL.len 1 rfl, jL.len 2 rfl, jL.len 4 rfl, rfl, jL⟩
theorem PE {F O : Nat → Prop} {w : World} (k_ : Int) (block : List UInt8) (digest : Int) (key : List UInt8) (kD : Option Addr) (dh : Nat) (kE : Nat) (yG : Option Addr) (fQ : Nat) (yH : Nat) (xO : Ro F w kD (e8.all block)) (yF : block.length = dh) (wZ : dh ≤ kE) (PG : Ro F w yG (e8.all key)) (JA : key.length = fQ) (NY : fQ ≤ yH) (k : Cx F O w w []) (r : (Int × Int × List UInt8 × List UInt8 × Vec UInt64 8 × UInt64 × UInt64 × List UInt8 × Int) ⊕ (Int × Int × List UInt8 × List UInt8 × Vec UInt32 8 × UInt64 × UInt64 × List UInt8 × Int)) (hm : wM k_ block digest key = some r) :
    Calls Tryz.prog 118 (vals [I k_, sl kD dh kE, I digest, sl yG fQ yH]) w (fun e w' => match r with | .inl r0 => ∃ g A n c A1 n1 c1 g1 A2 n2 c2, r0.2.2.1.length = n ∧ r0.2.2.2.1.length = n1 ∧ r0.2.2.2.2.2.2.2.1.length = n2 ∧ e = .returned (SV.val (pt g 0)) ∧ Cx F O w w' [Bx 169 g [I r0.1, I r0.2.1, sl A n c, sl A1 n1 c1, .b false, .u64 0, .v (.iface 258 (SV.val (pt g1 0)))], Ow e8 A n c r0.2.2.1, Ow e8 A1 n1 c1 r0.2.2.2.1, Bx 264 g1 [.ar e64 r0.2.2.2.2.1, .u64 r0.2.2.2.2.2.1, .u64 r0.2.2.2.2.2.2.1, sl A2 n2 c2, I r0.2.2.2.2.2.2.2.2, .v (.func (.func 163) ⟨SV.vals []⟩ ⟨SV.vals []⟩), .v (.func (.func 164) ⟨SV.vals []⟩ ⟨SV.vals []⟩)], Ow e8 A2 n2 c2 r0.2.2.2.2.2.2.2.1] | .inr r1 => ∃ g2 A3 n3 c3 A4 n4 c4 g3 A5 n5 c5, r1.2.2.1.length = n3 ∧ r1.2.2.2.1.length = n4 ∧ r1.2.2.2.2.2.2.2.1.length = n5 ∧ e = .returned (SV.val (pt g2 0)) ∧ Cx F O w w' [Bx 169 g2 [I r1.1, I r1.2.1, sl A3 n3 c3, sl A4 n4 c4, .b false, .u64 0, .v (.iface 267 (SV.val (pt g3 0)))], Ow e8 A3 n3 c3 r1.2.2.1, Ow e8 A4 n4 c4 r1.2.2.2.1, Bx 271 g3 [.ar e32 r1.2.2.2.2.1, .u64 r1.2.2.2.2.2.1, .u64 r1.2.2.2.2.2.2.1, sl A5 n5 c5, I r1.2.2.2.2.2.2.2.2, .v (.func (.func 166) ⟨SV.vals []⟩ ⟨SV.vals []⟩), .v (.func (.func 167) ⟨SV.vals []⟩ ⟨SV.vals []⟩)], Ow e8 A5 n5 c5 r1.2.2.2.2.2.2.2.1]) := by
 unfold wM at hm
 subst yF
 subst JA
 refine calls [I k_, sl kD block.length kE, I digest, sl yG key.length yH] Tryz.func118 rfl (of_decide_eq_true (by kernel_rfl)) ?_
 refine af <| bg [] .a qe (by kernel_rfl) ?_
 refine ae <| af <| ax <| aW 3 [] (.n 10 (I k_) (.n 11 (I digest) (.n 12 (sl kD block.length kE) (.nG .a)))) qe (by kernel_rfl) ?_
 refine ai ?_
 have dK := k.nil e8
 obtain ⟨b, sO, hm⟩ := ob hm
 obtain ⟨hz, hl⟩ := fO sO
 refine dL (E := e8) (v := sl kD block.length kE) (ys := block) dW [] 13 0 (by kernel_rfl) dK rfl (Src.sl (xO.cx dK) rfl (by rfl)) rfl (by have := dK.len 0 rfl; have := hm; omega) ?_
 intro A0 c0 w_ fF
 rw [← hl] at fF
 refine aW 1 [] (.n 14 (sl yG key.length yH) (.Dl .z)) qe (by kernel_rfl) ?_
 refine ai ?_
 have fM := fF.nil e8
 obtain ⟨b1, yD, hm⟩ := ob hm
 obtain ⟨hz1, hl1⟩ := fO yD
 refine dL (E := e8) (v := sl yG key.length yH) (ys := key) dW [] 15 1 (by kernel_rfl) fM rfl (Src.sl (PG.cx fM) rfl (by rfl)) rfl (by have := fM.len 1 rfl; have := hm; omega) ?_
 intro A6 c6 o9 g_
 rw [← hl1] at g_
 refine aW 1 [] (.n 16 (.agg [I k_, I digest, sl A0 (0 + block.length) c0, sl A6 (0 + key.length) c6, .b false, .u64 0, .v .nilIface]) .z) qe (by kernel_rfl) ?_
 refine ai <| jT [] 17 (.agg [I k_, I digest, sl A0 (0 + block.length) c0, sl A6 (0 + key.length) c6, .b false, .u64 0, .v .nilIface]) [I k_, I digest, sl A0 (0 + block.length) c0, sl A6 (0 + key.length) c6, .b false, .u64 0, .v .nilIface] (by kernel_rfl) g_ ?_
 intro g0 sZ gX
 refine aW 1 [] (.n 9 (pt g0 0) .z) qe (by kernel_rfl) ?_
 refine ag <| ae <| af <| ax <| aW 1 [] (.n 18 (pt g0 0) .a) qe (by kernel_rfl) ?_
 refine ai ?_
 obtain ⟨r_, dV, hm⟩ := ob hm
 have jb := ((gX.pk (.t .h)).pk (.t .h)).pk (.t (.t .h))
 obtain ⟨F1, O1, kin, hO, hre, hF, hb⟩ := jb.go (.i (.i (.i .e)))
 refine ay [] 19 _ VG (by kernel_rfl) (FU (F := F1) (O := O1) _ _ _ _ _ _ _ _ _ _ _ _ _ kin _ dV) ?_
 rcases r_ with aQ | bI
 · simp only [Sum.elim_inl, Sum.elim_inr] at hm
   rintro e_ xk ⟨A7, _, c7, A8, _, c8, g4, A9, _, c9, rfl, rfl, rfl, rfl, jf⟩
   have jQ := hb xk _ _ jf (.c (.c (.c (.c (.c .n)))))
   refine ⟨.jc [], rfl, ?_⟩
   refine ag <| ae <| af <| bg [] (.n 8 (pt g0 0) .z) qe (by kernel_rfl) ?_
   refine ae <| aN ?_
   obtain rfl := Option.some.inj hm
   refine aO [pt g0 0] qe (by kernel_rfl) ?_
   exact ⟨g0, A7, aQ.2.2.1.length, c7, A8, aQ.2.2.2.1.length, c8, g4, A9, aQ.2.2.2.2.2.2.2.1.length, c9, jQ.len 1 rfl, jQ.len 2 rfl, jQ.len 4 rfl, rfl, jQ⟩
 · simp only [Sum.elim_inl, Sum.elim_inr] at hm
   rintro e_ xB ⟨QM, _, c10, Nq, _, c11, g5, Nr, _, c12, rfl, rfl, rfl, rfl, jS⟩
   have dJ := hb xB _ _ jS (.c (.c (.c (.c (.c .n)))))
   refine ⟨.jc [], rfl, ?_⟩
   refine ag <| ae <| af <| bg [] (.n 8 (pt g0 0) .z) qe (by kernel_rfl) ?_
   refine ae <| aN ?_
   obtain rfl := Option.some.inj hm
   refine aO [pt g0 0] qe (by kernel_rfl) ?_
   exact ⟨g0, QM, bI.2.2.1.length, c10, Nq, bI.2.2.2.1.length, c11, g5, Nr, bI.2.2.2.2.2.2.2.1.length, c12, dJ.len 1 rfl, dJ.len 2 rfl, dJ.len 4 rfl, rfl, dJ⟩
theorem QU {F O : Nat → Prop} {w : World} (k_ : Int) (aP : Int) (dA : Int) (aT : Int) (bn : Int) (cu : UInt32) (aH : UInt64) (bF : UInt32) (aB : Int) (bf : Int) (bu : List UInt8) (aA : List UInt8) (key : List UInt8) (bZ : Option Addr) (kC : Nat) (b_ : Nat) (aU : Option Addr) (eu : Nat) (aV : Nat) (yG : Option Addr) (fQ : Nat) (yH : Nat) (vw : Ro F w bZ (e8.all bu)) (rC : bu.length = kC) (uk : kC ≤ b_) (mi : Ro F w aU (e8.all aA)) (lD : aA.length = eu) (mG : eu ≤ aV) (PG : Ro F w yG (e8.all key)) (JA : key.length = fQ) (NY : fQ ≤ yH) (k : Cx F O w w []) (r : Int ⊕ (Int × Int × List UInt8 × List UInt8 × Vec UInt64 8 × UInt64 × UInt64 × List UInt8 × Int) ⊕ (Int × Int × List UInt8 × List UInt8 × Vec UInt32 8 × UInt64 × UInt64 × List UInt8 × Int)) (hm : x9 k_ aP dA aT bn cu aH bF aB bf bu aA key = some r) :
    Calls Tryz.prog 86 (vals [I k_, .agg [I aP, I dA, I aT, I bn, .u32 cu, .u64 aH, .u32 bF, I aB, I bf, sl bZ kC b_, sl aU eu aV], sl yG fQ yH]) w (fun e w' => match r with | .inl r0 => e = .returned (SV.val (.jc [.v (.pointer none), I r0])) ∧ Cx F O w w' [] | .inr (.inl r1) => ∃ g A n c A1 n1 c1 g1 A2 n2 c2, r1.2.2.1.length = n ∧ r1.2.2.2.1.length = n1 ∧ r1.2.2.2.2.2.2.2.1.length = n2 ∧ e = .returned (SV.val (.jc [pt g 0, I 0])) ∧ Cx F O w w' [Bx 169 g [I r1.1, I r1.2.1, sl A n c, sl A1 n1 c1, .b false, .u64 0, .v (.iface 258 (SV.val (pt g1 0)))], Ow e8 A n c r1.2.2.1, Ow e8 A1 n1 c1 r1.2.2.2.1, Bx 264 g1 [.ar e64 r1.2.2.2.2.1, .u64 r1.2.2.2.2.2.1, .u64 r1.2.2.2.2.2.2.1, sl A2 n2 c2, I r1.2.2.2.2.2.2.2.2, .v (.func (.func 163) ⟨SV.vals []⟩ ⟨SV.vals []⟩), .v (.func (.func 164) ⟨SV.vals []⟩ ⟨SV.vals []⟩)], Ow e8 A2 n2 c2 r1.2.2.2.2.2.2.2.1] | .inr (.inr r2) => ∃ g2 A3 n3 c3 A4 n4 c4 g3 A5 n5 c5, r2.2.2.1.length = n3 ∧ r2.2.2.2.1.length = n4 ∧ r2.2.2.2.2.2.2.2.1.length = n5 ∧ e = .returned (SV.val (.jc [pt g2 0, I 0])) ∧ Cx F O w w' [Bx 169 g2 [I r2.1, I r2.2.1, sl A3 n3 c3, sl A4 n4 c4, .b false, .u64 0, .v (.iface 267 (SV.val (pt g3 0)))], Ow e8 A3 n3 c3 r2.2.2.1, Ow e8 A4 n4 c4 r2.2.2.2.1, Bx 271 g3 [.ar e32 r2.2.2.2.2.1, .u64 r2.2.2.2.2.2.1, .u64 r2.2.2.2.2.2.2.1, sl A5 n5 c5, I r2.2.2.2.2.2.2.2.2, .v (.func (.func 166) ⟨SV.vals []⟩ ⟨SV.vals []⟩), .v (.func (.func 167) ⟨SV.vals []⟩ ⟨SV.vals []⟩)], Ow e8 A5 n5 c5 r2.2.2.2.2.2.2.2.1]) := by
 unfold x9 at hm
 subst rC
 subst lD
 subst JA
 refine calls [I k_, .agg [I aP, I dA, I aT, I bn, .u32 cu, .u64 aH, .u32 bF, I aB, I bf, sl bZ bu.length b_, sl aU aA.length aV], sl yG key.length yH] Tryz.func86 rfl (of_decide_eq_true (by kernel_rfl)) ?_
 refine af <| ax <| ai <| jT [] 4 (.agg [I aP, I dA, I aT, I bn, .u32 cu, .u64 aH, .u32 bF, I aB, I bf, sl bZ bu.length b_, sl aU aA.length aV]) [I aP, I dA, I aT, I bn, .u32 cu, .u64 aH, .u32 bF, I aB, I bf, sl bZ bu.length b_, sl aU aA.length aV] (by kernel_rfl) k ?_
 intro g0 w_ dK
 refine aW 2 [] (.kk (.s .a)) qe (by kernel_rfl) ?_
 refine ag <| ae <| af <| ax <| aW 2 [] (.n 11 (I k_) (.n 12 (.agg [I aP, I dA, I aT, I bn, .u32 cu, .u64 aH, .u32 bF, I aB, I bf, sl bZ bu.length b_, sl aU aA.length aV]) .a)) (qT dK 0 rfl 0 11 [I aP, I dA, I aT, I bn, .u32 cu, .u64 aH, .u32 bF, I aB, I bf, sl bZ bu.length b_, sl aU aA.length aV] (by kernel_rfl) (by decide) <| qe) (by kernel_rfl) ?_
 refine ai ?_
 obtain ⟨r_, dV, hm⟩ := ob hm
 refine ay [] 13 _ VA (by kernel_rfl) (Js (F := N0) (O := N0) _ _ _ _ _ _ _ _ _ _ _ _ _ _ _ _ _ _ (Ro.n0 (vw.cx dK)) rfl uk (Ro.n0 (mi.cx dK)) rfl mG (Cx.refl _) _ dV) ?_
 rintro e_ o9 ⟨A0, _, c0, rfl, rfl, fF⟩
 have fM := dK.call fF
 refine ⟨.jc [sl A0 r_.1.length c0, I r_.2], rfl, ?_⟩
 refine aW 5 [] (.n 8 (sl A0 r_.1.length c0) (.n 9 (I r_.2) (.nG .a))) qe (by kernel_rfl) ?_
 refine ag <| ae <| af <| af <| bg [] (.n 17 (.b (decide (r_.2 ≠ 0))) .a) qe (by kernel_rfl) ?_
 refine ae <| aZ (r_.2 ≠ 0) (by kernel_rfl) (fun hc => ?_) (fun hc => ?_)
 · rw [if_pos hc] at hm
   refine af <| bg [] (.n 6 (.v (.pointer none)) (.n 7 (I r_.2) .z)) qe (by kernel_rfl) ?_
   refine ae <| aN (bz ?_)
   obtain rfl := Option.some.inj hm
   refine aO [.v (.pointer none), I r_.2] qe (by kernel_rfl) ?_
   have g_ := fM.bD .z
   exact ⟨rfl, g_⟩
 rw [if_neg hc] at hm
 refine aS <| ae <| af <| af <| bg [] (.n 28 (.b ((decide (((key.length : Nat) : Int) ≠ 0)) && (decide (((key.length : Nat) : Int) ≠ dA)))) (.s (.k (.s .a)))) (qp ((decide (((key.length : Nat) : Int) ≠ 0)) = true → (some ⟨g0, 0, none⟩ : Option Addr).isSome = true) (fun hg0 => rfl) <| qo (I dA) <| qc (fun w => (decide (((key.length : Nat) : Int) ≠ 0)) = true → ∃ a, (some ⟨g0, 1, none⟩ : Option Addr) = some a ∧ w.cell? a = some (SV.val (I dA))) (fun hg0 => fM.XG 0 rfl 1 (I dA) (by kernel_rfl)) <| qe) (by kernel_rfl) ?_
 refine ae <| bC ((decide (((key.length : Nat) : Int) ≠ 0)) && (decide (((key.length : Nat) : Int) ≠ dA))) (by kernel_rfl) (fun hc1 => ?_) (fun hc1 => ?_)
 · rw [if_pos hc1] at hm
   refine af <| bg [] (.n 6 (.v (.pointer none)) (.n 7 (I 8) .z)) qe (by kernel_rfl) ?_
   refine ae <| aN (bz ?_)
   obtain rfl := Option.some.inj hm
   refine aO [.v (.pointer none), I 8] qe (by kernel_rfl) ?_
   have gX := fM.bD .z
   exact ⟨rfl, gX⟩
 rw [if_neg (by rw [hc1]; decide)] at hm
 refine aS <| ae <| af <| ax <| aW 5 [] (.n 29 (I k_) (.n 30 (sl A0 r_.1.length c0) (.n 32 (I aP) (.n 33 (sl yG key.length yH) .z)))) (qs g0 0 <| qB fM 0 rfl 0 (I aP) (by kernel_rfl) <| qe) (by kernel_rfl) ?_
 refine ai ?_
 obtain ⟨aQ, fG, hm⟩ := ob hm
 refine ay [] 34 _ VB (by kernel_rfl) (PE (F := N0) (O := N0) _ _ _ _ _ _ _ _ _ _ (Ro.n0 (fM.rd 1 rfl)) (fM.len 1 rfl) (fM.EH 1 rfl) (Ro.n0 (PG.cx fM)) rfl NY (Cx.refl _) _ fG) ?_
 rcases aQ with bI | dN
 · simp only [Sum.elim_inl, Sum.elim_inr] at hm
   rintro e_ sZ ⟨g4, A6, _, c6, A7, _, c7, g5, A8, _, c8, rfl, rfl, rfl, rfl, jb⟩
   have jf := fM.call jb
   refine ⟨pt g4 0, rfl, ?_⟩
   have jQ := jf.bD (.ss (.bH (.k .e)))
   refine aW 2 [] (.n 6 (pt g4 0) (.n 7 (I 0) .z)) qe (by kernel_rfl) ?_
   refine ag <| ae <| aN ?_
   obtain rfl := Option.some.inj hm
   refine aO [pt g4 0, I 0] qe (by kernel_rfl) ?_
   exact ⟨g4, A6, bI.2.2.1.length, c6, A7, bI.2.2.2.1.length, c7, g5, A8, bI.2.2.2.2.2.2.2.1.length, c8, jQ.len 1 rfl, jQ.len 2 rfl, jQ.len 4 rfl, rfl, jQ⟩
 · simp only [Sum.elim_inl, Sum.elim_inr] at hm
   rintro e_ xk ⟨g6, A9, _, c9, QM, _, c10, g7, Nq, _, c11, rfl, rfl, rfl, rfl, jS⟩
   have dJ := fM.call jS
   refine ⟨pt g6 0, rfl, ?_⟩
   have dB := dJ.bD (.ss (.bH (.k .e)))
   refine aW 2 [] (.n 6 (pt g6 0) (.n 7 (I 0) .z)) qe (by kernel_rfl) ?_
   refine ag <| ae <| aN ?_
   obtain rfl := Option.some.inj hm
   refine aO [pt g6 0, I 0] qe (by kernel_rfl) ?_
   exact ⟨g6, A9, dN.2.2.1.length, c9, QM, dN.2.2.2.1.length, c10, g7, Nq, dN.2.2.2.2.2.2.2.1.length, c11, dB.len 1 rfl, dB.len 2 rfl, dB.len 4 rfl, rfl, dB⟩
theorem GM {F O : Nat → Prop} {w : World} (iP : Int) (gB : Int) (dh : List UInt8) (fQ : List UInt8) (mX : Bool) (gG : UInt64) (uQ : Vec UInt64 8) (dZ : UInt64) (ed : UInt64) (jD : List UInt8) (jd : Int) (lV : Nat) (gY : Option Addr) (lW : Nat) (gZ : Nat) (jl : Option Addr) (qh : Nat) (jm : Nat) (oQ : Nat) (kX : Option Addr) (ny : Nat) (kY : Nat) (k : Cx F O w w [Bx 169 lV [I iP, I gB, sl gY lW gZ, sl jl qh jm, .b mX, .u64 gG, .v (.iface 258 (SV.val (pt oQ 0)))], Ow e8 gY lW gZ dh, Ow e8 jl qh jm fQ, Bx 264 oQ [.ar e64 uQ, .u64 dZ, .u64 ed, sl kX ny kY, I jd, .v (.func (.func 163) ⟨SV.vals []⟩ ⟨SV.vals []⟩), .v (.func (.func 164) ⟨SV.vals []⟩ ⟨SV.vals []⟩)], Ow e8 kX ny kY jD]) (r : (Vec UInt64 8 × UInt64 × UInt64 × List UInt8 × Int × Int × Int × List UInt8 × List UInt8 × Bool × UInt64)) (hm : rf iP gB dh fQ mX gG uQ dZ ed jD jd = some r) :
    Calls Tryz.prog 119 (vals [pt lV 0]) w (fun e w' => ∃ A n c A1 n1 c1 A2 n2 c2, r.2.2.2.1.length = n ∧ r.2.2.2.2.2.2.2.1.length = n1 ∧ r.2.2.2.2.2.2.2.2.1.length = n2 ∧ e = .returned (SV.val (.b false)) ∧ Cx F O w w' [Bx 264 oQ [.ar e64 r.1, .u64 r.2.1, .u64 r.2.2.1, sl A n c, I r.2.2.2.2.1, .v (.func (.func 163) ⟨SV.vals []⟩ ⟨SV.vals []⟩), .v (.func (.func 164) ⟨SV.vals []⟩ ⟨SV.vals []⟩)], Ow e8 A n c r.2.2.2.1, Bx 169 lV [I r.2.2.2.2.2.1, I r.2.2.2.2.2.2.1, sl A1 n1 c1, sl A2 n2 c2, .b r.2.2.2.2.2.2.2.2.2.1, .u64 r.2.2.2.2.2.2.2.2.2.2, .v (.iface 258 (SV.val (pt oQ 0)))], Ow e8 A1 n1 c1 r.2.2.2.2.2.2.2.1, Ow e8 A2 n2 c2 r.2.2.2.2.2.2.2.2.1]) := by
 unfold rf at hm
 obtain rfl := k.len 1 rfl
 obtain rfl := k.len 2 rfl
 obtain rfl := k.len 4 rfl
 refine calls [pt lV 0] Tryz.func119 rfl (of_decide_eq_true (by kernel_rfl)) ?_
 refine af <| bg [] .a qe (by kernel_rfl) ?_
 refine ae <| af <| bg [5] (.n 2 (.b false) .z) (qs lV 0 <| qs lV 0 <| qB k 0 rfl 6 (.v (.iface 258 (SV.val (pt oQ 0)))) (by kernel_rfl) <| qe) (by kernel_rfl) ?_
 refine ae <| aN ?_
 obtain rfl := Option.some.inj hm
 refine aO [.b false] qe (by kernel_rfl) ?_
 have k_ := ((((k.pk (.t (.t .h))).pk (.t (.t .h))).pk (.t (.t .h))).pk (.t (.t (.t (.t .h))))).pk (.t (.t (.t (.t .h))))
 exact ⟨kX, jD.length, kY, gY, dh.length, gZ, jl, fQ.length, jm, k_.len 1 rfl, k_.len 3 rfl, k_.len 4 rfl, rfl, k_⟩
theorem JB {F O : Nat → Prop} {w : World} (w_ : UInt64) (k : Cx F O w w []) (r : (List UInt8)) (hm : qy w_ = some r) :
    Calls Tryz.prog 177 (vals [.u64 w_]) w (fun e w' => ∃ A n c, r.length = n ∧ e = .returned (SV.val (sl A n c)) ∧ Cx F O w w' [Ow e8 A n c r]) := by
 unfold qy at hm
 refine calls [.u64 w_] Tryz.func177 rfl (of_decide_eq_true (by kernel_rfl)) ?_
 refine af <| bg [] .a qe (by kernel_rfl) ?_
 refine ae <| af <| ax <| ai <| ES dW e8 (0 : UInt8) rfl [] 5 (I 8) (I 8) (8 : Int) (8 : Int) (by kernel_rfl) (by omega) (by omega) (by omega) k ?_
 intro A0 o9 k_
 refine aW 1 [] (.n 3 (sl A0 (Int.toNat (8 : Int)) (Int.toNat (8 : Int))) (.s .a)) qe (by kernel_rfl) ?_
 refine ag <| ae <| af <| af <| bg [] (.n 6 (I 0) .a) qe (by kernel_rfl) ?_
 refine ae <| aJ <| pg (qf w_) (fun s L wr => ∃ (b : List UInt8) (aC : Int), (b, aC) = s ∧ L = [(0, .u64 w_), (3, sl A0 (Int.toNat (8 : Int)) (Int.toNat (8 : Int))), (6, I aC)] ∧ Cx F O w wr [Ow e8 A0 (Int.toNat (8 : Int)) (Int.toNat (8 : Int)) b]) (List.replicate (Int.toNat (8 : Int)) (0 : UInt8), (0 : Int)) r hm ⟨List.replicate (Int.toNat (8 : Int)) (0 : UInt8), (0 : Int), rfl, rfl, k_⟩ (by kernel_rfl) ?_
 intro BU L_ sZ y0 hrel hstep hr0
 obtain ⟨b, aC, rfl, rfl, dK⟩ := hrel
 have hm := hstep; simp only [qf] at hm
 clear hstep
 refine af <| bg [] (.n 7 (.b (decide (aC < 8))) .a) qe (by kernel_rfl) ?_
 refine ae <| af <| aZ (aC < 8) (by kernel_rfl) (fun hc => ?_) (fun hc => ?_)
 · rw [if_pos hc] at hm
   refine aS <| ae <| af <| aJ <| af <| bg [] (.n 4 (I aC) (.s .a)) qe (by kernel_rfl) ?_
   refine ae <| ax ?_
   obtain ⟨u, Ap, hm⟩ := ob hm
   obtain ⟨x_1, kQ, hm⟩ := ob hm
   refine aW 8 [] (.n 15 (.u8 (UInt8.ofNat (jR w_ (Int.toNat (aI (8 * aC)))).toNat)) (.n 16 (.v (.pointer (rD A0 aC 1))) (.s .a))) (qp (0 ≤ aI (8 * aC)) (fK Ap) <| qJ (dK.rd 0 rfl) kQ (dK.len 0 rfl) <| qe) (by kernel_rfl) ?_
   refine ai <| IW (E := e8) (kk := 0) (sv := .u8 (UInt8.ofNat (jR w_ (Int.toNat (aI (8 * aC)))).toNat)) (svs := [.u8 (UInt8.ofNat (jR w_ (Int.toNat (aI (8 * aC)))).toNat)]) [] 0 (UInt8.ofNat (jR w_ (Int.toNat (aI (8 * aC)))).toNat) (by kernel_rfl) (Pt.Dk A0 aC 1) dK rfl (dE kQ).2 (Hz (E := e8) (dK.rd 0 rfl) (by decide) (nz kQ).1 (dE kQ).2) rfl (Nat.le_of_ble_eq_true (by kernel_rfl)) ?_
   intro xk fF
   refine ag <| gm <| ae <| bg [] (.n 6 (I (aI (aC + 1))) (.ss (.kk .z))) qe (by kernel_rfl) ?_
   exact jU (b.set (Int.toNat aC) (UInt8.ofNat (jR w_ (Int.toNat (aI (8 * aC)))).toNat), aI (aC + 1)) (Option.some.inj hm).symm ⟨b.set (Int.toNat aC) (UInt8.ofNat (jR w_ (Int.toNat (aI (8 * aC)))).toNat), aI (aC + 1), rfl, rfl, fF⟩ (by kernel_rfl)
 rw [if_neg hc] at hm
 refine dY (bU (bU (iL ?_)))
 have hm := cO hm hr0
 refine ae <| af <| bg [] (.n 2 (sl A0 (Int.toNat (8 : Int)) (Int.toNat (8 : Int))) .z) qe (by kernel_rfl) ?_
 refine ae <| aN ?_
 obtain rfl := Option.some.inj hm
 refine aO [sl A0 (Int.toNat (8 : Int)) (Int.toNat (8 : Int))] qe (by kernel_rfl) ?_
 exact ⟨A0, Int.toNat (8 : Int), Int.toNat (8 : Int), dK.len 0 rfl, rfl, dK⟩
theorem NZ {F O : Nat → Prop} {w : World} (h : Vec UInt64 8) (k : Cx F O w w []) (r : (List UInt8)) (hm : uS h = some r) :
    Calls Tryz.prog 164 (vals [.agg [.ar e64 h]]) w (fun e w' => ∃ A n c, r.length = n ∧ e = .returned (SV.val (sl A n c)) ∧ Cx F O w w' [Ow e8 A n c r]) := by
 unfold uS at hm
 refine calls [.agg [.ar e64 h]] Tryz.func164 rfl (of_decide_eq_true (by kernel_rfl)) ?_
 refine af <| ax <| ai <| jT [] 1 (.agg [.ar e64 h]) [.ar e64 h] (by kernel_rfl) k ?_
 intro g w_ k_
 refine aW 1 [] (.k .z) qe (by kernel_rfl) ?_
 refine ag <| ae <| af <| ax <| ai <| ES dW e8 (0 : UInt8) rfl [] 6 (I 0) (I 64) (0 : Int) (64 : Int) (by kernel_rfl) (by omega) (by omega) (by omega) k_ ?_
 intro A0 o9 dK
 refine aW 1 [] (.n 3 (sl A0 (Int.toNat (0 : Int)) (Int.toNat (64 : Int))) (.s .a)) qe (by kernel_rfl) ?_
 refine ag <| ae <| af <| af <| bg [] (.n 7 (.agg [.ar e64 h]) (.n 8 (I 0) (.k .z))) (qT dK 0 rfl 0 8 [.ar e64 h] (by kernel_rfl) (by decide) <| qe) (by kernel_rfl) ?_
 refine ae <| aJ ?_
 have fM := dK.bD (.s (.k .e))
 refine pg (sD h) (fun s L wr => ∃ (b : List UInt8) (aC : Int) (A1 : Option Addr) (n0 : Nat) (c0 : Nat), (b, aC) = s ∧ L = [(3, sl A1 n0 c0), (7, .agg [.ar e64 h]), (8, I aC)] ∧ b.length = n0 ∧ Cx F O w wr [Ow e8 A1 n0 c0 b]) (List.replicate (Int.toNat (0 : Int)) (0 : UInt8), (0 : Int)) r hm ⟨List.replicate (Int.toNat (0 : Int)) (0 : UInt8), (0 : Int), A0, Int.toNat (0 : Int), Int.toNat (64 : Int), rfl, rfl, fM.len 0 rfl, fM⟩ (by kernel_rfl) ?_
 intro BU L_ sZ y0 hrel hstep hr0
 obtain ⟨b, aC, A1, _, c0, rfl, rfl, rfl, fF⟩ := hrel
 have hm := hstep; simp only [sD] at hm
 clear hstep
 refine af <| bg [] (.n 9 (.b (decide (aC < 8))) .a) qe (by kernel_rfl) ?_
 refine ae <| af <| aZ (aC < 8) (by kernel_rfl) (fun hc => ?_) (fun hc => ?_)
 · rw [if_pos hc] at hm
   refine aS <| ae <| af <| aJ <| af ?_
   obtain ⟨x_1, kQ, hm⟩ := ob hm
   refine bg [] (.n 5 (.u64 x_1) (.s .a)) (qo (.u64 x_1) <| qp ((0 ≤ aC ∧ aC < ((8 : Nat) : Int)) ∧ (SV.cl [.ar e64 h])[Int.toNat aC * 1]? = some (SV.val (.u64 x_1))) (YY (E := e64) kQ rfl) <| qe) (by kernel_rfl) ?_
   refine ae <| ax <| aW 2 [] (.n 11 (sl A1 b.length c0) (.n 12 (.u64 x_1) (.s .a))) qe (by kernel_rfl) ?_
   refine ai ?_
   obtain ⟨r_, dV, hm⟩ := ob hm
   refine ay [] 13 _ VO (by kernel_rfl) (JB (F := N0) (O := N0) _ (Cx.refl _) _ dV) ?_
   rintro e_ xk ⟨A2, _, c1, rfl, rfl, g_⟩
   have gX := fF.call g_
   refine ⟨sl A2 r_.length c1, rfl, ?_⟩
   refine ai ?_
   obtain ⟨b1, yD, hm⟩ := ob hm
   obtain ⟨hz, hl⟩ := fO yD
   refine dL (E := e8) (v := sl A2 r_.length c1) (ys := r_) dW [] 14 0 (by kernel_rfl) gX rfl (Src.sl (gX.rd 1 rfl) (gX.len 1 rfl) (by rfl)) (gX.len 1 rfl) (by have := gX.len 0 rfl; have := (gX.len 1 rfl); omega) ?_
   intro A3 c2 xB jb
   rw [← hl] at jb
   have jf := jb.bD (.k .z)
   refine aW 1 [] (.n 3 (sl A3 (b.length + r_.length) c2) (.kJ (.s .a))) qe (by kernel_rfl) ?_
   refine ag <| gm <| ae <| bg [] (.n 8 (I (aI (aC + 1))) (.kk .z)) qe (by kernel_rfl) ?_
   exact jU (b1, aI (aC + 1)) (Option.some.inj hm).symm ⟨b1, aI (aC + 1), A3, b.length + r_.length, c2, rfl, rfl, jf.len 0 rfl, jf⟩ (by kernel_rfl)
 rw [if_neg hc] at hm
 refine dY (bU (bU (iL ?_)))
 have hm := cO hm hr0
 refine ae <| af <| bg [] (.n 2 (sl A1 b.length c0) .z) qe (by kernel_rfl) ?_
 refine ae <| aN ?_
 obtain rfl := Option.some.inj hm
 refine aO [sl A1 b.length c0] qe (by kernel_rfl) ?_
 exact ⟨A1, b.length, c0, fF.len 0 rfl, rfl, fF⟩
theorem Aq {F O : Nat → Prop} {w : World} (zZ : Vec UInt64 8) (bK : UInt64) (bM : UInt64) (dO : List UInt8) (aG : Int) (node : Bool) (fV : Nat) (gJ : Option Addr) (qM : Nat) (gK : Nat) (k : Cx F O w w [Bx 264 fV [.ar e64 zZ, .u64 bK, .u64 bM, sl gJ qM gK, I aG, .v (.func (.func 163) ⟨SV.vals []⟩ ⟨SV.vals []⟩), .v (.func (.func 164) ⟨SV.vals []⟩ ⟨SV.vals []⟩)], Ow e8 gJ qM gK dO]) (r : (List UInt8 × Vec UInt64 8 × UInt64 × UInt64 × List UInt8 × Int)) (hm : jX zZ bK bM dO aG node = some r) :
    Calls Tryz.prog 215 (vals [pt fV 0, .b node]) w (fun e w' => ∃ A n c A1 n1 c1, r.1.length = n ∧ r.2.2.2.2.1.length = n1 ∧ e = .returned (SV.val (sl A n c)) ∧ Cx F O w w' [Ow e8 A n c r.1, Bx 264 fV [.ar e64 r.2.1, .u64 r.2.2.1, .u64 r.2.2.2.1, sl A1 n1 c1, I r.2.2.2.2.2, .v (.func (.func 163) ⟨SV.vals []⟩ ⟨SV.vals []⟩), .v (.func (.func 164) ⟨SV.vals []⟩ ⟨SV.vals []⟩)], Ow e8 A1 n1 c1 r.2.2.2.2.1]) := by
 unfold jX at hm
 obtain rfl := k.len 1 rfl
 refine calls [pt fV 0, .b node] Tryz.func215 rfl (of_decide_eq_true (by kernel_rfl)) ?_
 refine af <| bg [] .a qe (by kernel_rfl) ?_
 refine ae <| af <| UX (fun L wr => ∃ (c0 : UInt64) (c2 : UInt64) (g : Nat), kL zZ bK bM dO aG node c0 c2 = some r ∧ L = [(0, pt fV 0), (1, .b node), (5, pt g 0)] ∧ Cx F O w wr [Bx 264 fV [.ar e64 zZ, .u64 bK, .u64 bM, sl gJ dO.length gK, I aG, .v (.func (.func 163) ⟨SV.vals []⟩ ⟨SV.vals []⟩), .v (.func (.func 164) ⟨SV.vals []⟩ ⟨SV.vals []⟩)], Ow e8 gJ dO.length gK dO, Bx 262 g [.u64 c0, .u64 c2]]) ?_ ?_
 ·
  have k_ := k.drew 1
  refine xQ bG (.q 0 2 (.q 1 2 (.q 2 1 (.q 3 1 (.q 4 2 (.q 5 2 (.q 6 2 (.q 7 2 (.q 8 1 (.q 9 1 (.br 10 14 (.q 11 2 (.q 12 2 (.q 13 3 (.op 14 (.op 15 (.q 16 3 .nil)))))) (.op 10 (.q 11 2 (.q 12 2 (.q 13 3 (.op 15 (.q 16 3 .nil))))))))))))))))) [10, 14, 15] k_ (.c (.kk .e) (.c (.kk .e) (.c (.kk .e) .l))) (by kernel_rfl) (fun _ => ?_)
  refine dG 2 2 [] (.n 9 (pt fV 0) .a) (fun x hx => qs fV 0 <| qe) (by kernel_rfl) (fun _ => ?_)
  refine dG 2 1 [] (.n 11 (.agg [.u64 bK, .u64 bM]) (.s .a)) (fun x hx => qs fV 0 <| qT hx 0 rfl 8 2 [.u64 bK, .u64 bM] (by kernel_rfl) (by decide) <| qe) (by kernel_rfl) (fun _ => ?_)
  refine dG 4 2 [] (.n 15 (sl gJ dO.length gK) .a) (fun x hx => qs fV 0 <| qs fV 0 <| qB hx 0 rfl 10 (sl gJ dO.length gK) (by kernel_rfl) <| qe) (by kernel_rfl) (fun _ => ?_)
  refine dG 2 1 [] (.n 17 (.u64 (UInt64.ofInt ((dO.length : Nat) : Int))) (.s .a)) (fun x hx => qe) (by kernel_rfl) (fun _ => ?_)
  refine YX (by kernel_rfl) (by kernel_rfl) rfl rfl ?_ ?_
  ·
   obtain ⟨r_, dV, hm⟩ := ob hm
   refine ay [] 18 _ zG (by kernel_rfl) (vV (F := N0) (O := N0) _ _ _ (Cx.refl _) _ dV) ?_
   rintro e_ w_ ⟨rfl, dK⟩
   have fF := k_.call dK
   refine ⟨.jc [.agg [.u64 r_.1, .u64 r_.2.1], .b r_.2.2], rfl, ?_⟩
   refine ⟨fF, fun _ => ?_⟩
   refine dG 2 2 [] (.n 7 (.jc [.agg [.u64 r_.1, .u64 r_.2.1], .b r_.2.2]) (.n 19 (.agg [.u64 r_.1, .u64 r_.2.1]) (.nG .a))) (fun x hx => qe) (by kernel_rfl) (fun _ => ?_)
   refine dG 1 3 [] (.n 20 (.b r_.2.2) (.s .a)) (fun x hx => qe) (by kernel_rfl) (fun _ => ?_)
   refine dw (by kernel_rfl) rfl <| bJ [] 5 [.u64 0, .u64 0] (by kernel_rfl) fF ?_
   intro g1 o9 fM
   refine ⟨(fM.bD (.kk .z)), fun _ => ?_⟩
   refine dw (by kernel_rfl) rfl <| iQ [] 2 (.agg [.u64 r_.1, .u64 r_.2.1]) [.u64 r_.1, .u64 r_.2.1] (Pt.at g1 0) fM rfl .all (by kernel_rfl) (by kernel_rfl) ?_
   intro sZ g_
   refine ⟨(g_.bD (.kk .z)), fun _ => ?_⟩
   refine dG 1 3 [] (.k (.ss .a)) (fun x hx => qe) (by kernel_rfl) (fun _ => ?_)
   refine dP ?_
   exact oJ ⟨r_.1, r_.2.1, g1, hm, rfl, g_⟩ (by kernel_rfl)
  ·
   refine bJ [] 5 [.u64 0, .u64 0] (by kernel_rfl) k_ ?_
   intro g1 w_ dK
   refine ⟨(dK.bD (.kk .z)), fun _ => ?_⟩
   refine dw (by kernel_rfl) rfl ?_
   obtain ⟨r_, dV, hm⟩ := ob hm
   refine ay [] 18 _ zG (by kernel_rfl) (vV (F := N0) (O := N0) _ _ _ (Cx.refl _) _ dV) ?_
   rintro e_ o9 ⟨rfl, fF⟩
   have fM := dK.call fF
   refine ⟨.jc [.agg [.u64 r_.1, .u64 r_.2.1], .b r_.2.2], rfl, ?_⟩
   refine ⟨(fM.bD (.kk .z)), fun _ => ?_⟩
   refine dG 2 2 [] (.n 7 (.jc [.agg [.u64 r_.1, .u64 r_.2.1], .b r_.2.2]) (.n 19 (.agg [.u64 r_.1, .u64 r_.2.1]) (.s (.k (.ss .a))))) (fun x hx => qe) (by kernel_rfl) (fun _ => ?_)
   refine dG 1 3 [] (.n 20 (.b r_.2.2) (.s .a)) (fun x hx => qe) (by kernel_rfl) (fun _ => ?_)
   refine dw (by kernel_rfl) rfl <| iQ [] 2 (.agg [.u64 r_.1, .u64 r_.2.1]) [.u64 r_.1, .u64 r_.2.1] (Pt.at g1 0) fM rfl .all (by kernel_rfl) (by kernel_rfl) ?_
   intro sZ g_
   refine ⟨(g_.bD (.kk .z)), fun _ => ?_⟩
   refine dG 1 3 [] (.ss .a) (fun x hx => qe) (by kernel_rfl) (fun _ => ?_)
   refine dP ?_
   exact oJ ⟨r_.1, r_.2.1, g1, hm, rfl, g_⟩ (by kernel_rfl)
 rintro L_ xk ⟨c0, c2, g, hm, rfl, gX⟩
 simp only [kL] at hm
 refine ae <| af ?_
 have jb := gX.drew 1
 refine xQ bG (.q 21 1 (.q 22 1 (.q 0 3 (.q 1 3 (.q 2 2 (.q 3 2 (.q 4 3 (.q 5 3 (.q 6 2 (.q 7 1 (.q 8 3 (.q 9 3 (.q 10 2 (.q 11 1 (.q 12 3 (.q 13 3 (.q 14 2 (.q 15 1 (.q 16 3 (.q 17 3 (.q 18 2 (.q 19 1 (.op 20 (.op 23 (.op 24 (.q 25 3 .nil)))))))))))))))))))))))))) [20, 23, 24] jb (.c (.kk (.k .e)) (.c (.kk (.k .e)) (.c (.kk (.k .e)) .l))) (by kernel_rfl) (fun _ => ?_)
 refine dG 2 1 [] (.n 42 (.agg [.u64 c0, .u64 c2]) (.n 43 (.b node) (.k .z))) (fun x hx => qT hx 2 rfl 0 2 [.u64 c0, .u64 c2] (by kernel_rfl) (by decide) <| qe) (by kernel_rfl) (fun _ => ?_)
 refine dG 2 3 [] (.n 22 (pt fV 0) .a) (fun x hx => qs fV 0 <| qe) (by kernel_rfl) (fun _ => ?_)
 refine dG 2 2 [] (.n 24 (.v (.func (.func 164) ⟨SV.vals []⟩ ⟨SV.vals []⟩)) (.s .a)) (fun x hx => qs fV 0 <| qB hx 0 rfl 13 (.v (.func (.func 164) ⟨SV.vals []⟩ ⟨SV.vals []⟩)) (by kernel_rfl) <| qe) (by kernel_rfl) (fun _ => ?_)
 refine dG 2 3 [] (.n 26 (pt fV 0) .a) (fun x hx => qs fV 0 <| qe) (by kernel_rfl) (fun _ => ?_)
 refine dG 1 2 [] (.n 27 (pt fV 12) (.s .a)) (fun x hx => qs fV 0 <| qe) (by kernel_rfl) (fun _ => ?_)
 refine dG 1 1 [] (.n 28 (.v (.func (.func 163) ⟨SV.vals []⟩ ⟨SV.vals []⟩)) (.s .a)) (fun x hx => qB hx 0 rfl 12 (.v (.func (.func 163) ⟨SV.vals []⟩ ⟨SV.vals []⟩)) (by kernel_rfl) <| qe) (by kernel_rfl) (fun _ => ?_)
 refine dG 2 3 [] (.n 30 (pt fV 0) .a) (fun x hx => qs fV 0 <| qe) (by kernel_rfl) (fun _ => ?_)
 refine dG 1 2 [] (.n 31 (pt fV 0) (.s .a)) (fun x hx => qs fV 0 <| qe) (by kernel_rfl) (fun _ => ?_)
 refine dG 1 1 [] (.n 32 (.agg [.ar e64 zZ]) (.s .a)) (fun x hx => qT hx 0 rfl 0 8 [.ar e64 zZ] (by kernel_rfl) (by decide) <| qe) (by kernel_rfl) (fun _ => ?_)
 refine dG 2 3 [] (.n 34 (pt fV 0) .a) (fun x hx => qs fV 0 <| qe) (by kernel_rfl) (fun _ => ?_)
 refine dG 1 2 [] (.n 35 (pt fV 10) (.s .a)) (fun x hx => qs fV 0 <| qe) (by kernel_rfl) (fun _ => ?_)
 refine dG 1 1 [] (.n 36 (sl gJ dO.length gK) (.s .a)) (fun x hx => qB hx 0 rfl 10 (sl gJ dO.length gK) (by kernel_rfl) <| qe) (by kernel_rfl) (fun _ => ?_)
 refine dG 2 3 [] (.n 38 (pt fV 0) (.bH (.kk .z))) (fun x hx => qs fV 0 <| qe) (by kernel_rfl) (fun _ => ?_)
 refine dG 1 2 [] (.n 39 (pt fV 11) (.s .a)) (fun x hx => qs fV 0 <| qe) (by kernel_rfl) (fun _ => ?_)
 refine dG 1 1 [] (.n 40 (I aG) (.s .a)) (fun x hx => qB hx 0 rfl 11 (I aG) (by kernel_rfl) <| qe) (by kernel_rfl) (fun _ => ?_)
 refine dw (by kernel_rfl) rfl ?_
 obtain ⟨aQ, fG, hm⟩ := ob hm
 refine ay [] 41 _ FD (by kernel_rfl) (wu (F := N0) (O := N0) _ _ _ _ _ (Ro.n0 (jb.rd 1 rfl)) (jb.len 1 rfl) (jb.EH 1 rfl) (Cx.refl _) _ fG) ?_
 rintro e_ xB ⟨A0, _, c3, rfl, rfl, jf⟩
 have jQ := jb.call jf
 refine ⟨sl A0 aQ.length c3, rfl, ?_⟩
 refine ⟨(jQ.bD (.kk (.k .z))), fun _ => ?_⟩
 refine dw (by kernel_rfl) rfl ?_
 obtain ⟨bI, kz, hm⟩ := ob hm
 refine zk [] 44 [] [.agg [.ar e64 zZ], sl A0 aQ.length c3, .agg [.u64 c0, .u64 c2], .b true, .b node] [] OZ (by kernel_rfl) (DV (F := N0) (O := N0) _ _ _ _ _ _ _ _ _ (Ro.n0 (jQ.rd 3 rfl)) (jQ.len 3 rfl) (jQ.EH 3 rfl) (Cx.refl _) _ kz) ?_
 rintro e_ y5 ⟨rfl, jS⟩
 have dJ := jQ.call jS
 refine ⟨.agg [.ar e64 bI], rfl, ?_⟩
 have dB := dJ.bD (.kk (.k .z))
 refine ⟨dB, fun _ => ?_⟩
 refine dw (by kernel_rfl) rfl ?_
 obtain ⟨dN, qL, hm⟩ := ob hm
 refine zk [] 45 [] [.agg [.ar e64 bI]] [] VJ (by kernel_rfl) (NZ (F := N0) (O := N0) _ (Cx.refl _) _ qL) ?_
 rintro e_ CW ⟨A2, _, c4, rfl, rfl, gz⟩
 have iI := dB.call gz
 refine ⟨sl A2 dN.length c4, rfl, ?_⟩
 refine ⟨(iI.bD (.kk (.k .z))), fun _ => ?_⟩
 refine dG 1 3 [] (.n 4 (sl A2 dN.length c4) .z) (fun x hx => qe) (by kernel_rfl) (fun _ => ?_)
 refine dP <| ae <| aN ?_
 obtain rfl := Option.some.inj hm
 refine aO [sl A2 dN.length c4] qe (by kernel_rfl) ?_
 have iJ := (((iI.pk (.t .h)).pk (.t .h)).pk (.t (.t (.t .h)))).bD (.kk (.k .z))
 exact ⟨A2, dN.length, c4, gJ, dO.length, gK, iJ.len 0 rfl, iJ.len 2 rfl, rfl, iJ⟩
theorem Ii {F O : Nat → Prop} {w : World} (iP : Int) (gB : Int) (dh : List UInt8) (fQ : List UInt8) (mX : Bool) (gG : UInt64) (uQ : Vec UInt64 8) (dZ : UInt64) (ed : UInt64) (jD : List UInt8) (jd : Int) (most : Int) (lV : Nat) (gY : Option Addr) (lW : Nat) (gZ : Nat) (jl : Option Addr) (qh : Nat) (jm : Nat) (oQ : Nat) (kX : Option Addr) (ny : Nat) (kY : Nat) (k : Cx F O w w [Bx 169 lV [I iP, I gB, sl gY lW gZ, sl jl qh jm, .b mX, .u64 gG, .v (.iface 258 (SV.val (pt oQ 0)))], Ow e8 gY lW gZ dh, Ow e8 jl qh jm fQ, Bx 264 oQ [.ar e64 uQ, .u64 dZ, .u64 ed, sl kX ny kY, I jd, .v (.func (.func 163) ⟨SV.vals []⟩ ⟨SV.vals []⟩), .v (.func (.func 164) ⟨SV.vals []⟩ ⟨SV.vals []⟩)], Ow e8 kX ny kY jD]) (r : (List UInt8 × Int × Vec UInt64 8 × UInt64 × UInt64 × List UInt8 × Int × Int × Int × List UInt8 × List UInt8 × Bool × UInt64)) (hm : pI iP gB dh fQ mX gG uQ dZ ed jD jd most = some r) :
    Calls Tryz.prog 87 (vals [pt lV 0, I most]) w (fun e w' => ∃ A n c A1 n1 c1 A2 n2 c2 A3 n3 c3, r.1.length = n ∧ r.2.2.2.2.2.1.length = n1 ∧ r.2.2.2.2.2.2.2.2.2.1.length = n2 ∧ r.2.2.2.2.2.2.2.2.2.2.1.length = n3 ∧ e = .returned (SV.val (.jc [sl A n c, I r.2.1])) ∧ Cx F O w w' [Ow e8 A n c r.1, Bx 264 oQ [.ar e64 r.2.2.1, .u64 r.2.2.2.1, .u64 r.2.2.2.2.1, sl A1 n1 c1, I r.2.2.2.2.2.2.1, .v (.func (.func 163) ⟨SV.vals []⟩ ⟨SV.vals []⟩), .v (.func (.func 164) ⟨SV.vals []⟩ ⟨SV.vals []⟩)], Ow e8 A1 n1 c1 r.2.2.2.2.2.1, Bx 169 lV [I r.2.2.2.2.2.2.2.1, I r.2.2.2.2.2.2.2.2.1, sl A2 n2 c2, sl A3 n3 c3, .b r.2.2.2.2.2.2.2.2.2.2.2.1, .u64 r.2.2.2.2.2.2.2.2.2.2.2.2, .v (.iface 258 (SV.val (pt oQ 0)))], Ow e8 A2 n2 c2 r.2.2.2.2.2.2.2.2.2.1, Ow e8 A3 n3 c3 r.2.2.2.2.2.2.2.2.2.2.1]) := by
 unfold pI at hm
 obtain rfl := k.len 1 rfl
 obtain rfl := k.len 2 rfl
 obtain rfl := k.len 4 rfl
 refine calls [pt lV 0, I most] Tryz.func87 rfl (of_decide_eq_true (by kernel_rfl)) ?_
 refine af <| bg [] .a qe (by kernel_rfl) ?_
 refine ae <| af <| af <| ax <| aW 1 [] (.n 6 (pt lV 0) .a) qe (by kernel_rfl) ?_
 refine ai ?_
 obtain ⟨r_, dV, hm⟩ := ob hm
 obtain ⟨F1, O1, kin, hO, hre, hF, hb⟩ := k.go (.i (.i (.i (.i (.i .e)))))
 refine ay [] 7 _ OX (by kernel_rfl) (GM (F := F1) (O := O1) _ _ _ _ _ _ _ _ _ _ _ _ _ _ _ _ _ _ _ _ _ _ kin _ dV) ?_
 rintro e_ w_ ⟨A0, _, c0, A4, _, c4, A5, _, c5, rfl, rfl, rfl, rfl, k_⟩
 have dK := hb w_ _ _ k_ (.c (.c (.c (.c (.c .n)))))
 refine ⟨.b false, rfl, ?_⟩
 refine ag <| ae <| bC false (by kernel_rfl) (fun h => by cases h) (fun _ => ?_)
 refine aS <| ae <| af <| af <| ax <| aW 3 [] (.n 10 (.b (decide (most < 1))) (.ss .a)) qe (by kernel_rfl) ?_
 refine Hg 10 (decide (most < 1)) (.s .a) (by kernel_rfl) (fun hg => ?_) (fun hg => ?_)
 · rw [if_pos (of_decide_eq_true hg)] at hm
   refine aW 9 [10] (.n 19 (.b true) (.s .a)) qe (by kernel_rfl) ?_
   refine ag <| ae <| bC true (by kernel_rfl) (fun _ => ?_) (fun h => by cases h)
   refine af <| bg [] (.n 4 (sl none 0 0) (.n 5 (I 1) .z)) qe (by kernel_rfl) ?_
   refine ae <| aN (bz ?_)
   have fF := dK.nil e8
   obtain rfl := Option.some.inj hm
   refine aO [sl none 0 0, I 1] qe (by kernel_rfl) ?_
   have fM := (((((fF.pk (.t (.t (.t (.t .h))))).pk (.t (.t (.t (.t .h))))).pk (.t (.t (.t (.t .h))))).pk (.t (.t (.t (.t .h))))).pk (.t (.t (.t (.t .h))))).pk (.t (.t (.t (.t (.t .h)))))
   exact ⟨none, 0, 0, A0, r_.2.2.2.1.length, c0, A4, r_.2.2.2.2.2.2.2.1.length, c4, A5, r_.2.2.2.2.2.2.2.2.1.length, c5, fM.len 0 rfl, fM.len 2 rfl, fM.len 4 rfl, fM.len 5 rfl, rfl, fM⟩
 · rw [if_neg (of_decide_eq_false hg)] at hm
   refine aW 5 [10] (.n 11 (I most) (.n 15 (I r_.2.2.2.2.2.1) .a)) (qs lV 0 <| qs lV 0 <| qB dK 2 rfl 0 (I r_.2.2.2.2.2.1) (by kernel_rfl) <| qe) (by kernel_rfl) ?_
   refine ai ?_
   obtain ⟨aQ, fG, hm⟩ := ob hm
   refine ay [10] 16 _ FC (by kernel_rfl) (vz (F := N0) (O := N0) _ (Cx.refl _) _ fG) ?_
   rintro e_ o9 ⟨rfl, g_⟩
   have gX := dK.call g_
   refine ⟨I aQ, rfl, ?_⟩
   refine aW 3 [10] (.n 19 (.b (decide ((aI (Int.tdiv aQ 2)) < most))) (.kJ .a)) (qp ((2 : Int) ≠ (0 : Int)) (by omega) <| qe) (by kernel_rfl) ?_
   refine ag <| ae <| aZ ((aI (Int.tdiv aQ 2)) < most) (by kernel_rfl) (fun hc => ?_) (fun hc => ?_)
   · rw [if_pos hc] at hm
     refine af <| bg [] (.n 4 (sl none 0 0) (.n 5 (I 1) .z)) qe (by kernel_rfl) ?_
     refine ae <| aN (bz ?_)
     have jb := gX.nil e8
     obtain rfl := Option.some.inj hm
     refine aO [sl none 0 0, I 1] qe (by kernel_rfl) ?_
     have jf := (((((jb.pk (.t (.t (.t (.t .h))))).pk (.t (.t (.t (.t .h))))).pk (.t (.t (.t (.t .h))))).pk (.t (.t (.t (.t .h))))).pk (.t (.t (.t (.t .h))))).pk (.t (.t (.t (.t (.t .h)))))
     exact ⟨none, 0, 0, A0, r_.2.2.2.1.length, c0, A4, r_.2.2.2.2.2.2.2.1.length, c4, A5, r_.2.2.2.2.2.2.2.2.1.length, c5, jf.len 0 rfl, jf.len 2 rfl, jf.len 4 rfl, jf.len 5 rfl, rfl, jf⟩
   rw [if_neg hc] at hm
   refine aS <| ae <| af ?_
   have jQ := gX.drew 1
   refine xQ bG (.q 0 1 (.q 1 1 (.q 2 1 (.q 3 0 (.q 8 0 (.q 9 0 (.q 4 1 (.q 5 1 (.q 6 0 (.q 7 0 (.q 11 1 (.q 12 1 (.op 10 (.q 13 1 (.q 14 1 (.q 15 1 .nil)))))))))))))))) [10] jQ (.c (.ss (.kk (.k .e))) .l) (by kernel_rfl) (fun _ => ?_)
   refine dG 3 1 [] (.n 22 (pt lV 6) (.s .a)) (fun x hx => qs lV 0 <| qs lV 0 <| qe) (by kernel_rfl) (fun _ => ?_)
   refine dG 3 0 [] (.n 29 (.v (.iface 258 (SV.val (pt oQ 0)))) (.s .a)) (fun x hx => qB hx 2 rfl 6 (.v (.iface 258 (SV.val (pt oQ 0)))) (by kernel_rfl) <| qe) (by kernel_rfl) (fun _ => ?_)
   refine dG 2 1 [] (.n 25 (pt lV 0) (.k (.s .a))) (fun x hx => qs lV 0 <| qe) (by kernel_rfl) (fun _ => ?_)
   refine dG 2 0 [] (.n 27 (.b r_.2.2.2.2.2.2.2.2.2.1) (.s .a)) (fun x hx => qs lV 0 <| qB hx 2 rfl 4 (.b r_.2.2.2.2.2.2.2.2.2.1) (by kernel_rfl) <| qe) (by kernel_rfl) (fun _ => ?_)
   refine dG 2 1 [] (.n 31 (I most) (.n 32 (I most) (.kk .z))) (fun x hx => qe) (by kernel_rfl) (fun _ => ?_)
   refine dw (by kernel_rfl) rfl ?_
   obtain ⟨bI, kz, hm⟩ := ob hm
   obtain ⟨F11, H7, wX, TU, Gx, hF1, hb1⟩ := jQ.go (.i (.i (.r (.r (.r .e)))))
   refine xP [] 30 258 (pt oQ 0) [.b r_.2.2.2.2.2.2.2.2.2.1] Em rfl (by kernel_rfl) (Aq (F := F11) (O := H7) _ _ _ _ _ _ _ _ _ _ wX _ kz) ?_
   rintro e_ sZ ⟨A6, _, c6, A7, _, c7, rfl, rfl, rfl, jS⟩
   have dJ := hb1 sZ _ _ jS (.c (.c (.c .n)))
   refine ⟨sl A6 bI.1.length c6, rfl, ?_⟩
   refine ⟨(dJ.bD (.ss (.s (.kk (.k .e))))), fun _ => ?_⟩
   obtain ⟨b, sO, hm⟩ := ob hm
   have hs := iq sO
   have hl := nC sO
   have hn : bI.1.length = bI.1.length := (dJ.len 0 rfl)
   have hc1 : bI.1.length ≤ c6 := (dJ.EH 0 rfl)
   obtain ⟨u, Ap, hm⟩ := ob hm
   have hq := fK Ap
   have hc2 : b.length ≤ Int.toNat most := by omega
   refine dG 3 1 [] (.n 4 (sl A6 b.length (Int.toNat most)) (.n 5 (I 0) .z)) (fun x hx => qp (0 ≤ most ∧ most ≤ ((c6 : Nat) : Int)) (by omega) <| qp (0 ≤ most ∧ most ≤ ((Int.toNat most : Nat) : Int)) (by omega) <| qo (.v (.slice A6 b.length (Int.toNat most))) <| qp (Value.slice (zJ A6 0 (Int.toNat most) 1) (Int.toNat most - 0) (Int.toNat most - 0) = .slice A6 b.length (Int.toNat most)) (D8 _ _ _ _ _ (by omega)) <| qe) (by kernel_rfl) (fun _ => ?_)
   refine dP <| ae <| aN ?_
   have dB := dJ.pre 0 rfl b.length (Int.toNat most) b (by omega) (by omega) (by omega) (Ip sO rfl)
   obtain rfl := Option.some.inj hm
   refine aO [sl A6 b.length (Int.toNat most), I 0] qe (by kernel_rfl) ?_
   exact ⟨A6, b.length, Int.toNat most, A7, bI.2.2.2.2.1.length, c7, A4, r_.2.2.2.2.2.2.2.1.length, c4, A5, r_.2.2.2.2.2.2.2.2.1.length, c5, dB.len 0 rfl, dB.len 2 rfl, dB.len 4 rfl, dB.len 5 rfl, rfl, dB⟩
theorem Dz {F O : Nat → Prop} {w : World} (iP : Int) (gB : Int) (dh : List UInt8) (fQ : List UInt8) (mX : Bool) (gG : UInt64) (uQ : Vec UInt32 8) (dZ : UInt64) (ed : UInt64) (jD : List UInt8) (jd : Int) (lV : Nat) (gY : Option Addr) (lW : Nat) (gZ : Nat) (jl : Option Addr) (qh : Nat) (jm : Nat) (oQ : Nat) (kX : Option Addr) (ny : Nat) (kY : Nat) (k : Cx F O w w [Bx 169 lV [I iP, I gB, sl gY lW gZ, sl jl qh jm, .b mX, .u64 gG, .v (.iface 267 (SV.val (pt oQ 0)))], Ow e8 gY lW gZ dh, Ow e8 jl qh jm fQ, Bx 271 oQ [.ar e32 uQ, .u64 dZ, .u64 ed, sl kX ny kY, I jd, .v (.func (.func 166) ⟨SV.vals []⟩ ⟨SV.vals []⟩), .v (.func (.func 167) ⟨SV.vals []⟩ ⟨SV.vals []⟩)], Ow e8 kX ny kY jD]) (r : (Vec UInt32 8 × UInt64 × UInt64 × List UInt8 × Int × Int × Int × List UInt8 × List UInt8 × Bool × UInt64)) (hm : ou iP gB dh fQ mX gG uQ dZ ed jD jd = some r) :
    Calls Tryz.prog 119 (vals [pt lV 0]) w (fun e w' => ∃ A n c A1 n1 c1 A2 n2 c2, r.2.2.2.1.length = n ∧ r.2.2.2.2.2.2.2.1.length = n1 ∧ r.2.2.2.2.2.2.2.2.1.length = n2 ∧ e = .returned (SV.val (.b false)) ∧ Cx F O w w' [Bx 271 oQ [.ar e32 r.1, .u64 r.2.1, .u64 r.2.2.1, sl A n c, I r.2.2.2.2.1, .v (.func (.func 166) ⟨SV.vals []⟩ ⟨SV.vals []⟩), .v (.func (.func 167) ⟨SV.vals []⟩ ⟨SV.vals []⟩)], Ow e8 A n c r.2.2.2.1, Bx 169 lV [I r.2.2.2.2.2.1, I r.2.2.2.2.2.2.1, sl A1 n1 c1, sl A2 n2 c2, .b r.2.2.2.2.2.2.2.2.2.1, .u64 r.2.2.2.2.2.2.2.2.2.2, .v (.iface 267 (SV.val (pt oQ 0)))], Ow e8 A1 n1 c1 r.2.2.2.2.2.2.2.1, Ow e8 A2 n2 c2 r.2.2.2.2.2.2.2.2.1]) := by
 unfold ou at hm
 obtain rfl := k.len 1 rfl
 obtain rfl := k.len 2 rfl
 obtain rfl := k.len 4 rfl
 refine calls [pt lV 0] Tryz.func119 rfl (of_decide_eq_true (by kernel_rfl)) ?_
 refine af <| bg [] .a qe (by kernel_rfl) ?_
 refine ae <| af <| bg [5] (.n 2 (.b false) .z) (qs lV 0 <| qs lV 0 <| qB k 0 rfl 6 (.v (.iface 267 (SV.val (pt oQ 0)))) (by kernel_rfl) <| qe) (by kernel_rfl) ?_
 refine ae <| aN ?_
 obtain rfl := Option.some.inj hm
 refine aO [.b false] qe (by kernel_rfl) ?_
 have k_ := ((((k.pk (.t (.t .h))).pk (.t (.t .h))).pk (.t (.t .h))).pk (.t (.t (.t (.t .h))))).pk (.t (.t (.t (.t .h))))
 exact ⟨kX, jD.length, kY, gY, dh.length, gZ, jl, fQ.length, jm, k_.len 1 rfl, k_.len 3 rfl, k_.len 4 rfl, rfl, k_⟩
theorem N7 {F O : Nat → Prop} {w : World} (h : Vec UInt32 8) (k : Cx F O w w []) (r : (List UInt8)) (hm : uT h = some r) :
    Calls Tryz.prog 167 (vals [.agg [.ar e32 h]]) w (fun e w' => ∃ A n c, r.length = n ∧ e = .returned (SV.val (sl A n c)) ∧ Cx F O w w' [Ow e8 A n c r]) := by
 unfold uT at hm
 refine calls [.agg [.ar e32 h]] Tryz.func167 rfl (of_decide_eq_true (by kernel_rfl)) ?_
 refine af <| ax <| ai <| jT [] 1 (.agg [.ar e32 h]) [.ar e32 h] (by kernel_rfl) k ?_
 intro g w_ k_
 refine aW 1 [] (.k .z) qe (by kernel_rfl) ?_
 refine ag <| ae <| af <| ax <| ai <| ES dW e8 (0 : UInt8) rfl [] 6 (I 0) (I 32) (0 : Int) (32 : Int) (by kernel_rfl) (by omega) (by omega) (by omega) k_ ?_
 intro A0 o9 dK
 refine aW 1 [] (.n 3 (sl A0 (Int.toNat (0 : Int)) (Int.toNat (32 : Int))) (.s .a)) qe (by kernel_rfl) ?_
 refine ag <| ae <| af <| af <| bg [] (.n 7 (.agg [.ar e32 h]) (.n 8 (I 0) (.k .z))) (qT dK 0 rfl 0 8 [.ar e32 h] (by kernel_rfl) (by decide) <| qe) (by kernel_rfl) ?_
 refine ae <| aJ ?_
 have fM := dK.bD (.s (.k .e))
 refine pg (sF h) (fun s L wr => ∃ (b : List UInt8) (aC : Int) (A1 : Option Addr) (n0 : Nat) (c0 : Nat), (b, aC) = s ∧ L = [(3, sl A1 n0 c0), (7, .agg [.ar e32 h]), (8, I aC)] ∧ b.length = n0 ∧ Cx F O w wr [Ow e8 A1 n0 c0 b]) (List.replicate (Int.toNat (0 : Int)) (0 : UInt8), (0 : Int)) r hm ⟨List.replicate (Int.toNat (0 : Int)) (0 : UInt8), (0 : Int), A0, Int.toNat (0 : Int), Int.toNat (32 : Int), rfl, rfl, fM.len 0 rfl, fM⟩ (by kernel_rfl) ?_
 intro BU L_ sZ y0 hrel hstep hr0
 obtain ⟨b, aC, A1, _, c0, rfl, rfl, rfl, fF⟩ := hrel
 have hm := hstep; simp only [sF] at hm
 clear hstep
 refine af <| bg [] (.n 9 (.b (decide (aC < 8))) .a) qe (by kernel_rfl) ?_
 refine ae <| af <| aZ (aC < 8) (by kernel_rfl) (fun hc => ?_) (fun hc => ?_)
 · rw [if_pos hc] at hm
   refine aS <| ae <| af <| aJ <| af ?_
   obtain ⟨x_1, kQ, hm⟩ := ob hm
   refine bg [] (.n 5 (.u32 x_1) (.s .a)) (qo (.u32 x_1) <| qp ((0 ≤ aC ∧ aC < ((8 : Nat) : Int)) ∧ (SV.cl [.ar e32 h])[Int.toNat aC * 1]? = some (SV.val (.u32 x_1))) (YY (E := e32) kQ rfl) <| qe) (by kernel_rfl) ?_
   refine ae <| ax <| aW 12 [] (.n 11 (sl A1 b.length c0) (.n 13 (.u8 (UInt8.ofNat x_1.toNat)) (.n 16 (.u8 (UInt8.ofNat (iH x_1 ((8 : UInt64).toNat)).toNat)) (.n 19 (.u8 (UInt8.ofNat (iH x_1 ((16 : UInt64).toNat)).toNat)) (.n 22 (.u8 (UInt8.ofNat (iH x_1 ((24 : UInt64).toNat)).toNat)) (.s .a)))))) qe (by kernel_rfl) ?_
   refine ai <| uA dW e8 [] 23 ([UInt8.ofNat x_1.toNat, UInt8.ofNat (iH x_1 ((8 : UInt64).toNat)).toNat, UInt8.ofNat (iH x_1 ((16 : UInt64).toNat)).toNat, UInt8.ofNat (iH x_1 ((24 : UInt64).toNat)).toNat] : List UInt8) [(0, .u8 (UInt8.ofNat x_1.toNat)), (1, .u8 (UInt8.ofNat (iH x_1 ((8 : UInt64).toNat)).toNat)), (2, .u8 (UInt8.ofNat (iH x_1 ((16 : UInt64).toNat)).toNat)), (3, .u8 (UInt8.ofNat (iH x_1 ((24 : UInt64).toNat)).toNat))] [.u8 (UInt8.ofNat x_1.toNat), .u8 (UInt8.ofNat (iH x_1 ((8 : UInt64).toNat)).toNat), .u8 (UInt8.ofNat (iH x_1 ((16 : UInt64).toNat)).toNat), .u8 (UInt8.ofNat (iH x_1 ((24 : UInt64).toNat)).toNat)] (by kernel_rfl) (by kernel_rfl) (by kernel_rfl) fF ?_
   intro A2 xk g_
   refine ai ?_
   obtain ⟨b1, yD, hm⟩ := ob hm
   obtain ⟨hz, hl⟩ := fO yD
   refine dL (E := e8) (v := sl A2 4 4) (ys := ([UInt8.ofNat x_1.toNat, UInt8.ofNat (iH x_1 ((8 : UInt64).toNat)).toNat, UInt8.ofNat (iH x_1 ((16 : UInt64).toNat)).toNat, UInt8.ofNat (iH x_1 ((24 : UInt64).toNat)).toNat] : List UInt8)) dW [] 24 0 (by kernel_rfl) g_ rfl (Src.sl (g_.rd 1 rfl) (g_.len 1 rfl) (by rfl)) (g_.len 1 rfl) (by have := g_.len 0 rfl; have := (g_.len 1 rfl); omega) ?_
   intro A3 c1 xB gX
   rw [← hl] at gX
   have jb := gX.bD (.k .z)
   refine aW 1 [] (.n 3 (sl A3 (b.length + 4) c1) (.kJ (.kJ .a))) qe (by kernel_rfl) ?_
   refine ag <| gm <| ae <| bg [] (.n 8 (I (aI (aC + 1))) (.kk .z)) qe (by kernel_rfl) ?_
   exact jU (b1, aI (aC + 1)) (Option.some.inj hm).symm ⟨b1, aI (aC + 1), A3, b.length + 4, c1, rfl, rfl, jb.len 0 rfl, jb⟩ (by kernel_rfl)
 rw [if_neg hc] at hm
 refine dY (bU (bU (iL ?_)))
 have hm := cO hm hr0
 refine ae <| af <| bg [] (.n 2 (sl A1 b.length c0) .z) qe (by kernel_rfl) ?_
 refine ae <| aN ?_
 obtain rfl := Option.some.inj hm
 refine aO [sl A1 b.length c0] qe (by kernel_rfl) ?_
 exact ⟨A1, b.length, c0, fF.len 0 rfl, rfl, fF⟩
theorem Ar {F O : Nat → Prop} {w : World} (zZ : Vec UInt32 8) (bK : UInt64) (bM : UInt64) (dO : List UInt8) (aG : Int) (node : Bool) (fV : Nat) (gJ : Option Addr) (qM : Nat) (gK : Nat) (k : Cx F O w w [Bx 271 fV [.ar e32 zZ, .u64 bK, .u64 bM, sl gJ qM gK, I aG, .v (.func (.func 166) ⟨SV.vals []⟩ ⟨SV.vals []⟩), .v (.func (.func 167) ⟨SV.vals []⟩ ⟨SV.vals []⟩)], Ow e8 gJ qM gK dO]) (r : (List UInt8 × Vec UInt32 8 × UInt64 × UInt64 × List UInt8 × Int)) (hm : jY zZ bK bM dO aG node = some r) :
    Calls Tryz.prog 221 (vals [pt fV 0, .b node]) w (fun e w' => ∃ A n c A1 n1 c1, r.1.length = n ∧ r.2.2.2.2.1.length = n1 ∧ e = .returned (SV.val (sl A n c)) ∧ Cx F O w w' [Ow e8 A n c r.1, Bx 271 fV [.ar e32 r.2.1, .u64 r.2.2.1, .u64 r.2.2.2.1, sl A1 n1 c1, I r.2.2.2.2.2, .v (.func (.func 166) ⟨SV.vals []⟩ ⟨SV.vals []⟩), .v (.func (.func 167) ⟨SV.vals []⟩ ⟨SV.vals []⟩)], Ow e8 A1 n1 c1 r.2.2.2.2.1]) := by
 unfold jY at hm
 obtain rfl := k.len 1 rfl
 refine calls [pt fV 0, .b node] Tryz.func221 rfl (of_decide_eq_true (by kernel_rfl)) ?_
 refine af <| bg [] .a qe (by kernel_rfl) ?_
 refine ae <| af <| UX (fun L wr => ∃ (c0 : UInt64) (c2 : UInt64) (g : Nat), kM zZ bK bM dO aG node c0 c2 = some r ∧ L = [(0, pt fV 0), (1, .b node), (5, pt g 0)] ∧ Cx F O w wr [Bx 271 fV [.ar e32 zZ, .u64 bK, .u64 bM, sl gJ dO.length gK, I aG, .v (.func (.func 166) ⟨SV.vals []⟩ ⟨SV.vals []⟩), .v (.func (.func 167) ⟨SV.vals []⟩ ⟨SV.vals []⟩)], Ow e8 gJ dO.length gK dO, Bx 262 g [.u64 c0, .u64 c2]]) ?_ ?_
 ·
  have k_ := k.drew 1
  refine xQ bG (.q 0 2 (.q 1 2 (.q 2 1 (.q 3 1 (.q 4 2 (.q 5 2 (.q 6 2 (.q 7 2 (.q 8 1 (.q 9 1 (.br 10 14 (.q 11 2 (.q 12 2 (.q 13 3 (.op 14 (.op 15 (.q 16 3 .nil)))))) (.op 10 (.q 11 2 (.q 12 2 (.q 13 3 (.op 15 (.q 16 3 .nil))))))))))))))))) [10, 14, 15] k_ (.c (.kk .e) (.c (.kk .e) (.c (.kk .e) .l))) (by kernel_rfl) (fun _ => ?_)
  refine dG 2 2 [] (.n 9 (pt fV 0) .a) (fun x hx => qs fV 0 <| qe) (by kernel_rfl) (fun _ => ?_)
  refine dG 2 1 [] (.n 11 (.agg [.u64 bK, .u64 bM]) (.s .a)) (fun x hx => qs fV 0 <| qT hx 0 rfl 8 2 [.u64 bK, .u64 bM] (by kernel_rfl) (by decide) <| qe) (by kernel_rfl) (fun _ => ?_)
  refine dG 4 2 [] (.n 15 (sl gJ dO.length gK) .a) (fun x hx => qs fV 0 <| qs fV 0 <| qB hx 0 rfl 10 (sl gJ dO.length gK) (by kernel_rfl) <| qe) (by kernel_rfl) (fun _ => ?_)
  refine dG 2 1 [] (.n 17 (.u64 (UInt64.ofInt ((dO.length : Nat) : Int))) (.s .a)) (fun x hx => qe) (by kernel_rfl) (fun _ => ?_)
  refine YX (by kernel_rfl) (by kernel_rfl) rfl rfl ?_ ?_
  ·
   obtain ⟨r_, dV, hm⟩ := ob hm
   refine ay [] 18 _ zG (by kernel_rfl) (vV (F := N0) (O := N0) _ _ _ (Cx.refl _) _ dV) ?_
   rintro e_ w_ ⟨rfl, dK⟩
   have fF := k_.call dK
   refine ⟨.jc [.agg [.u64 r_.1, .u64 r_.2.1], .b r_.2.2], rfl, ?_⟩
   refine ⟨fF, fun _ => ?_⟩
   refine dG 2 2 [] (.n 7 (.jc [.agg [.u64 r_.1, .u64 r_.2.1], .b r_.2.2]) (.n 19 (.agg [.u64 r_.1, .u64 r_.2.1]) (.nG .a))) (fun x hx => qe) (by kernel_rfl) (fun _ => ?_)
   refine dG 1 3 [] (.n 20 (.b r_.2.2) (.s .a)) (fun x hx => qe) (by kernel_rfl) (fun _ => ?_)
   refine dw (by kernel_rfl) rfl <| bJ [] 5 [.u64 0, .u64 0] (by kernel_rfl) fF ?_
   intro g1 o9 fM
   refine ⟨(fM.bD (.kk .z)), fun _ => ?_⟩
   refine dw (by kernel_rfl) rfl <| iQ [] 2 (.agg [.u64 r_.1, .u64 r_.2.1]) [.u64 r_.1, .u64 r_.2.1] (Pt.at g1 0) fM rfl .all (by kernel_rfl) (by kernel_rfl) ?_
   intro sZ g_
   refine ⟨(g_.bD (.kk .z)), fun _ => ?_⟩
   refine dG 1 3 [] (.k (.ss .a)) (fun x hx => qe) (by kernel_rfl) (fun _ => ?_)
   refine dP ?_
   exact oJ ⟨r_.1, r_.2.1, g1, hm, rfl, g_⟩ (by kernel_rfl)
  ·
   refine bJ [] 5 [.u64 0, .u64 0] (by kernel_rfl) k_ ?_
   intro g1 w_ dK
   refine ⟨(dK.bD (.kk .z)), fun _ => ?_⟩
   refine dw (by kernel_rfl) rfl ?_
   obtain ⟨r_, dV, hm⟩ := ob hm
   refine ay [] 18 _ zG (by kernel_rfl) (vV (F := N0) (O := N0) _ _ _ (Cx.refl _) _ dV) ?_
   rintro e_ o9 ⟨rfl, fF⟩
   have fM := dK.call fF
   refine ⟨.jc [.agg [.u64 r_.1, .u64 r_.2.1], .b r_.2.2], rfl, ?_⟩
   refine ⟨(fM.bD (.kk .z)), fun _ => ?_⟩
   refine dG 2 2 [] (.n 7 (.jc [.agg [.u64 r_.1, .u64 r_.2.1], .b r_.2.2]) (.n 19 (.agg [.u64 r_.1, .u64 r_.2.1]) (.s (.k (.ss .a))))) (fun x hx => qe) (by kernel_rfl) (fun _ => ?_)
   refine dG 1 3 [] (.n 20 (.b r_.2.2) (.s .a)) (fun x hx => qe) (by kernel_rfl) (fun _ => ?_)
   refine dw (by kernel_rfl) rfl <| iQ [] 2 (.agg [.u64 r_.1, .u64 r_.2.1]) [.u64 r_.1, .u64 r_.2.1] (Pt.at g1 0) fM rfl .all (by kernel_rfl) (by kernel_rfl) ?_
   intro sZ g_
   refine ⟨(g_.bD (.kk .z)), fun _ => ?_⟩
   refine dG 1 3 [] (.ss .a) (fun x hx => qe) (by kernel_rfl) (fun _ => ?_)
   refine dP ?_
   exact oJ ⟨r_.1, r_.2.1, g1, hm, rfl, g_⟩ (by kernel_rfl)
 rintro L_ xk ⟨c0, c2, g, hm, rfl, gX⟩
 simp only [kM] at hm
 refine ae <| af ?_
 have jb := gX.drew 1
 refine xQ bG (.q 21 1 (.q 22 1 (.q 0 3 (.q 1 3 (.q 2 2 (.q 3 2 (.q 4 3 (.q 5 3 (.q 6 2 (.q 7 1 (.q 8 3 (.q 9 3 (.q 10 2 (.q 11 1 (.q 12 3 (.q 13 3 (.q 14 2 (.q 15 1 (.q 16 3 (.q 17 3 (.q 18 2 (.q 19 1 (.op 20 (.op 23 (.op 24 (.q 25 3 .nil)))))))))))))))))))))))))) [20, 23, 24] jb (.c (.kk (.k .e)) (.c (.kk (.k .e)) (.c (.kk (.k .e)) .l))) (by kernel_rfl) (fun _ => ?_)
 refine dG 2 1 [] (.n 42 (.agg [.u64 c0, .u64 c2]) (.n 43 (.b node) (.k .z))) (fun x hx => qT hx 2 rfl 0 2 [.u64 c0, .u64 c2] (by kernel_rfl) (by decide) <| qe) (by kernel_rfl) (fun _ => ?_)
 refine dG 2 3 [] (.n 22 (pt fV 0) .a) (fun x hx => qs fV 0 <| qe) (by kernel_rfl) (fun _ => ?_)
 refine dG 2 2 [] (.n 24 (.v (.func (.func 167) ⟨SV.vals []⟩ ⟨SV.vals []⟩)) (.s .a)) (fun x hx => qs fV 0 <| qB hx 0 rfl 13 (.v (.func (.func 167) ⟨SV.vals []⟩ ⟨SV.vals []⟩)) (by kernel_rfl) <| qe) (by kernel_rfl) (fun _ => ?_)
 refine dG 2 3 [] (.n 26 (pt fV 0) .a) (fun x hx => qs fV 0 <| qe) (by kernel_rfl) (fun _ => ?_)
 refine dG 1 2 [] (.n 27 (pt fV 12) (.s .a)) (fun x hx => qs fV 0 <| qe) (by kernel_rfl) (fun _ => ?_)
 refine dG 1 1 [] (.n 28 (.v (.func (.func 166) ⟨SV.vals []⟩ ⟨SV.vals []⟩)) (.s .a)) (fun x hx => qB hx 0 rfl 12 (.v (.func (.func 166) ⟨SV.vals []⟩ ⟨SV.vals []⟩)) (by kernel_rfl) <| qe) (by kernel_rfl) (fun _ => ?_)
 refine dG 2 3 [] (.n 30 (pt fV 0) .a) (fun x hx => qs fV 0 <| qe) (by kernel_rfl) (fun _ => ?_)
 refine dG 1 2 [] (.n 31 (pt fV 0) (.s .a)) (fun x hx => qs fV 0 <| qe) (by kernel_rfl) (fun _ => ?_)
 refine dG 1 1 [] (.n 32 (.agg [.ar e32 zZ]) (.s .a)) (fun x hx => qT hx 0 rfl 0 8 [.ar e32 zZ] (by kernel_rfl) (by decide) <| qe) (by kernel_rfl) (fun _ => ?_)
 refine dG 2 3 [] (.n 34 (pt fV 0) .a) (fun x hx => qs fV 0 <| qe) (by kernel_rfl) (fun _ => ?_)
 refine dG 1 2 [] (.n 35 (pt fV 10) (.s .a)) (fun x hx => qs fV 0 <| qe) (by kernel_rfl) (fun _ => ?_)
 refine dG 1 1 [] (.n 36 (sl gJ dO.length gK) (.s .a)) (fun x hx => qB hx 0 rfl 10 (sl gJ dO.length gK) (by kernel_rfl) <| qe) (by kernel_rfl) (fun _ => ?_)
 refine dG 2 3 [] (.n 38 (pt fV 0) (.bH (.kk .z))) (fun x hx => qs fV 0 <| qe) (by kernel_rfl) (fun _ => ?_)
 refine dG 1 2 [] (.n 39 (pt fV 11) (.s .a)) (fun x hx => qs fV 0 <| qe) (by kernel_rfl) (fun _ => ?_)
 refine dG 1 1 [] (.n 40 (I aG) (.s .a)) (fun x hx => qB hx 0 rfl 11 (I aG) (by kernel_rfl) <| qe) (by kernel_rfl) (fun _ => ?_)
 refine dw (by kernel_rfl) rfl ?_
 obtain ⟨aQ, fG, hm⟩ := ob hm
 refine ay [] 41 _ FD (by kernel_rfl) (wu (F := N0) (O := N0) _ _ _ _ _ (Ro.n0 (jb.rd 1 rfl)) (jb.len 1 rfl) (jb.EH 1 rfl) (Cx.refl _) _ fG) ?_
 rintro e_ xB ⟨A0, _, c3, rfl, rfl, jf⟩
 have jQ := jb.call jf
 refine ⟨sl A0 aQ.length c3, rfl, ?_⟩
 refine ⟨(jQ.bD (.kk (.k .z))), fun _ => ?_⟩
 refine dw (by kernel_rfl) rfl ?_
 obtain ⟨bI, kz, hm⟩ := ob hm
 refine zk [] 44 [] [.agg [.ar e32 zZ], sl A0 aQ.length c3, .agg [.u64 c0, .u64 c2], .b true, .b node] [] O0 (by kernel_rfl) (AU (F := N0) (O := N0) _ _ _ _ _ _ _ _ _ (Ro.n0 (jQ.rd 3 rfl)) (jQ.len 3 rfl) (jQ.EH 3 rfl) (Cx.refl _) _ kz) ?_
 rintro e_ y5 ⟨rfl, jS⟩
 have dJ := jQ.call jS
 refine ⟨.agg [.ar e32 bI], rfl, ?_⟩
 have dB := dJ.bD (.kk (.k .z))
 refine ⟨dB, fun _ => ?_⟩
 refine dw (by kernel_rfl) rfl ?_
 obtain ⟨dN, qL, hm⟩ := ob hm
 refine zk [] 45 [] [.agg [.ar e32 bI]] [] VL (by kernel_rfl) (N7 (F := N0) (O := N0) _ (Cx.refl _) _ qL) ?_
 rintro e_ CW ⟨A2, _, c4, rfl, rfl, gz⟩
 have iI := dB.call gz
 refine ⟨sl A2 dN.length c4, rfl, ?_⟩
 refine ⟨(iI.bD (.kk (.k .z))), fun _ => ?_⟩
 refine dG 1 3 [] (.n 4 (sl A2 dN.length c4) .z) (fun x hx => qe) (by kernel_rfl) (fun _ => ?_)
 refine dP <| ae <| aN ?_
 obtain rfl := Option.some.inj hm
 refine aO [sl A2 dN.length c4] qe (by kernel_rfl) ?_
 have iJ := (((iI.pk (.t .h)).pk (.t .h)).pk (.t (.t (.t .h)))).bD (.kk (.k .z))
 exact ⟨A2, dN.length, c4, gJ, dO.length, gK, iJ.len 0 rfl, iJ.len 2 rfl, rfl, iJ⟩
theorem Ez {F O : Nat → Prop} {w : World} (iP : Int) (gB : Int) (dh : List UInt8) (fQ : List UInt8) (mX : Bool) (gG : UInt64) (uQ : Vec UInt32 8) (dZ : UInt64) (ed : UInt64) (jD : List UInt8) (jd : Int) (most : Int) (lV : Nat) (gY : Option Addr) (lW : Nat) (gZ : Nat) (jl : Option Addr) (qh : Nat) (jm : Nat) (oQ : Nat) (kX : Option Addr) (ny : Nat) (kY : Nat) (k : Cx F O w w [Bx 169 lV [I iP, I gB, sl gY lW gZ, sl jl qh jm, .b mX, .u64 gG, .v (.iface 267 (SV.val (pt oQ 0)))], Ow e8 gY lW gZ dh, Ow e8 jl qh jm fQ, Bx 271 oQ [.ar e32 uQ, .u64 dZ, .u64 ed, sl kX ny kY, I jd, .v (.func (.func 166) ⟨SV.vals []⟩ ⟨SV.vals []⟩), .v (.func (.func 167) ⟨SV.vals []⟩ ⟨SV.vals []⟩)], Ow e8 kX ny kY jD]) (r : (List UInt8 × Int × Vec UInt32 8 × UInt64 × UInt64 × List UInt8 × Int × Int × Int × List UInt8 × List UInt8 × Bool × UInt64)) (hm : mY iP gB dh fQ mX gG uQ dZ ed jD jd most = some r) :
    Calls Tryz.prog 87 (vals [pt lV 0, I most]) w (fun e w' => ∃ A n c A1 n1 c1 A2 n2 c2 A3 n3 c3, r.1.length = n ∧ r.2.2.2.2.2.1.length = n1 ∧ r.2.2.2.2.2.2.2.2.2.1.length = n2 ∧ r.2.2.2.2.2.2.2.2.2.2.1.length = n3 ∧ e = .returned (SV.val (.jc [sl A n c, I r.2.1])) ∧ Cx F O w w' [Ow e8 A n c r.1, Bx 271 oQ [.ar e32 r.2.2.1, .u64 r.2.2.2.1, .u64 r.2.2.2.2.1, sl A1 n1 c1, I r.2.2.2.2.2.2.1, .v (.func (.func 166) ⟨SV.vals []⟩ ⟨SV.vals []⟩), .v (.func (.func 167) ⟨SV.vals []⟩ ⟨SV.vals []⟩)], Ow e8 A1 n1 c1 r.2.2.2.2.2.1, Bx 169 lV [I r.2.2.2.2.2.2.2.1, I r.2.2.2.2.2.2.2.2.1, sl A2 n2 c2, sl A3 n3 c3, .b r.2.2.2.2.2.2.2.2.2.2.2.1, .u64 r.2.2.2.2.2.2.2.2.2.2.2.2, .v (.iface 267 (SV.val (pt oQ 0)))], Ow e8 A2 n2 c2 r.2.2.2.2.2.2.2.2.2.1, Ow e8 A3 n3 c3 r.2.2.2.2.2.2.2.2.2.2.1]) := by
 unfold mY at hm
 obtain rfl := k.len 1 rfl
 obtain rfl := k.len 2 rfl
 obtain rfl := k.len 4 rfl
 refine calls [pt lV 0, I most] Tryz.func87 rfl (of_decide_eq_true (by kernel_rfl)) ?_
 refine af <| bg [] .a qe (by kernel_rfl) ?_
 refine ae <| af <| af <| ax <| aW 1 [] (.n 6 (pt lV 0) .a) qe (by kernel_rfl) ?_
 refine ai ?_
 obtain ⟨r_, dV, hm⟩ := ob hm
 obtain ⟨F1, O1, kin, hO, hre, hF, hb⟩ := k.go (.i (.i (.i (.i (.i .e)))))
 refine ay [] 7 _ OX (by kernel_rfl) (Dz (F := F1) (O := O1) _ _ _ _ _ _ _ _ _ _ _ _ _ _ _ _ _ _ _ _ _ _ kin _ dV) ?_
 rintro e_ w_ ⟨A0, _, c0, A4, _, c4, A5, _, c5, rfl, rfl, rfl, rfl, k_⟩
 have dK := hb w_ _ _ k_ (.c (.c (.c (.c (.c .n)))))
 refine ⟨.b false, rfl, ?_⟩
 refine ag <| ae <| bC false (by kernel_rfl) (fun h => by cases h) (fun _ => ?_)
 refine aS <| ae <| af <| af <| ax <| aW 3 [] (.n 10 (.b (decide (most < 1))) (.ss .a)) qe (by kernel_rfl) ?_
 refine Hg 10 (decide (most < 1)) (.s .a) (by kernel_rfl) (fun hg => ?_) (fun hg => ?_)
 · rw [if_pos (of_decide_eq_true hg)] at hm
   refine aW 9 [10] (.n 19 (.b true) (.s .a)) qe (by kernel_rfl) ?_
   refine ag <| ae <| bC true (by kernel_rfl) (fun _ => ?_) (fun h => by cases h)
   refine af <| bg [] (.n 4 (sl none 0 0) (.n 5 (I 1) .z)) qe (by kernel_rfl) ?_
   refine ae <| aN (bz ?_)
   have fF := dK.nil e8
   obtain rfl := Option.some.inj hm
   refine aO [sl none 0 0, I 1] qe (by kernel_rfl) ?_
   have fM := (((((fF.pk (.t (.t (.t (.t .h))))).pk (.t (.t (.t (.t .h))))).pk (.t (.t (.t (.t .h))))).pk (.t (.t (.t (.t .h))))).pk (.t (.t (.t (.t .h))))).pk (.t (.t (.t (.t (.t .h)))))
   exact ⟨none, 0, 0, A0, r_.2.2.2.1.length, c0, A4, r_.2.2.2.2.2.2.2.1.length, c4, A5, r_.2.2.2.2.2.2.2.2.1.length, c5, fM.len 0 rfl, fM.len 2 rfl, fM.len 4 rfl, fM.len 5 rfl, rfl, fM⟩
 · rw [if_neg (of_decide_eq_false hg)] at hm
   refine aW 5 [10] (.n 11 (I most) (.n 15 (I r_.2.2.2.2.2.1) .a)) (qs lV 0 <| qs lV 0 <| qB dK 2 rfl 0 (I r_.2.2.2.2.2.1) (by kernel_rfl) <| qe) (by kernel_rfl) ?_
   refine ai ?_
   obtain ⟨aQ, fG, hm⟩ := ob hm
   refine ay [10] 16 _ FC (by kernel_rfl) (vz (F := N0) (O := N0) _ (Cx.refl _) _ fG) ?_
   rintro e_ o9 ⟨rfl, g_⟩
   have gX := dK.call g_
   refine ⟨I aQ, rfl, ?_⟩
   refine aW 3 [10] (.n 19 (.b (decide ((aI (Int.tdiv aQ 2)) < most))) (.kJ .a)) (qp ((2 : Int) ≠ (0 : Int)) (by omega) <| qe) (by kernel_rfl) ?_
   refine ag <| ae <| aZ ((aI (Int.tdiv aQ 2)) < most) (by kernel_rfl) (fun hc => ?_) (fun hc => ?_)
   · rw [if_pos hc] at hm
     refine af <| bg [] (.n 4 (sl none 0 0) (.n 5 (I 1) .z)) qe (by kernel_rfl) ?_
     refine ae <| aN (bz ?_)
     have jb := gX.nil e8
     obtain rfl := Option.some.inj hm
     refine aO [sl none 0 0, I 1] qe (by kernel_rfl) ?_
     have jf := (((((jb.pk (.t (.t (.t (.t .h))))).pk (.t (.t (.t (.t .h))))).pk (.t (.t (.t (.t .h))))).pk (.t (.t (.t (.t .h))))).pk (.t (.t (.t (.t .h))))).pk (.t (.t (.t (.t (.t .h)))))
     exact ⟨none, 0, 0, A0, r_.2.2.2.1.length, c0, A4, r_.2.2.2.2.2.2.2.1.length, c4, A5, r_.2.2.2.2.2.2.2.2.1.length, c5, jf.len 0 rfl, jf.len 2 rfl, jf.len 4 rfl, jf.len 5 rfl, rfl, jf⟩
   rw [if_neg hc] at hm
   refine aS <| ae <| af ?_
   have jQ := gX.drew 1
   refine xQ bG (.q 0 1 (.q 1 1 (.q 2 1 (.q 3 0 (.q 8 0 (.q 9 0 (.q 4 1 (.q 5 1 (.q 6 0 (.q 7 0 (.q 11 1 (.q 12 1 (.op 10 (.q 13 1 (.q 14 1 (.q 15 1 .nil)))))))))))))))) [10] jQ (.c (.ss (.kk (.k .e))) .l) (by kernel_rfl) (fun _ => ?_)
   refine dG 3 1 [] (.n 22 (pt lV 6) (.s .a)) (fun x hx => qs lV 0 <| qs lV 0 <| qe) (by kernel_rfl) (fun _ => ?_)
   refine dG 3 0 [] (.n 29 (.v (.iface 267 (SV.val (pt oQ 0)))) (.s .a)) (fun x hx => qB hx 2 rfl 6 (.v (.iface 267 (SV.val (pt oQ 0)))) (by kernel_rfl) <| qe) (by kernel_rfl) (fun _ => ?_)
   refine dG 2 1 [] (.n 25 (pt lV 0) (.k (.s .a))) (fun x hx => qs lV 0 <| qe) (by kernel_rfl) (fun _ => ?_)
   refine dG 2 0 [] (.n 27 (.b r_.2.2.2.2.2.2.2.2.2.1) (.s .a)) (fun x hx => qs lV 0 <| qB hx 2 rfl 4 (.b r_.2.2.2.2.2.2.2.2.2.1) (by kernel_rfl) <| qe) (by kernel_rfl) (fun _ => ?_)
   refine dG 2 1 [] (.n 31 (I most) (.n 32 (I most) (.kk .z))) (fun x hx => qe) (by kernel_rfl) (fun _ => ?_)
   refine dw (by kernel_rfl) rfl ?_
   obtain ⟨bI, kz, hm⟩ := ob hm
   obtain ⟨F11, H7, wX, TU, Gx, hF1, hb1⟩ := jQ.go (.i (.i (.r (.r (.r .e)))))
   refine xP [] 30 267 (pt oQ 0) [.b r_.2.2.2.2.2.2.2.2.2.1] Eo rfl (by kernel_rfl) (Ar (F := F11) (O := H7) _ _ _ _ _ _ _ _ _ _ wX _ kz) ?_
   rintro e_ sZ ⟨A6, _, c6, A7, _, c7, rfl, rfl, rfl, jS⟩
   have dJ := hb1 sZ _ _ jS (.c (.c (.c .n)))
   refine ⟨sl A6 bI.1.length c6, rfl, ?_⟩
   refine ⟨(dJ.bD (.ss (.s (.kk (.k .e))))), fun _ => ?_⟩
   obtain ⟨b, sO, hm⟩ := ob hm
   have hs := iq sO
   have hl := nC sO
   have hn : bI.1.length = bI.1.length := (dJ.len 0 rfl)
   have hc1 : bI.1.length ≤ c6 := (dJ.EH 0 rfl)
   obtain ⟨u, Ap, hm⟩ := ob hm
   have hq := fK Ap
   have hc2 : b.length ≤ Int.toNat most := by omega
   refine dG 3 1 [] (.n 4 (sl A6 b.length (Int.toNat most)) (.n 5 (I 0) .z)) (fun x hx => qp (0 ≤ most ∧ most ≤ ((c6 : Nat) : Int)) (by omega) <| qp (0 ≤ most ∧ most ≤ ((Int.toNat most : Nat) : Int)) (by omega) <| qo (.v (.slice A6 b.length (Int.toNat most))) <| qp (Value.slice (zJ A6 0 (Int.toNat most) 1) (Int.toNat most - 0) (Int.toNat most - 0) = .slice A6 b.length (Int.toNat most)) (D8 _ _ _ _ _ (by omega)) <| qe) (by kernel_rfl) (fun _ => ?_)
   refine dP <| ae <| aN ?_
   have dB := dJ.pre 0 rfl b.length (Int.toNat most) b (by omega) (by omega) (by omega) (Ip sO rfl)
   obtain rfl := Option.some.inj hm
   refine aO [sl A6 b.length (Int.toNat most), I 0] qe (by kernel_rfl) ?_
   exact ⟨A6, b.length, Int.toNat most, A7, bI.2.2.2.2.1.length, c7, A4, r_.2.2.2.2.2.2.2.1.length, c4, A5, r_.2.2.2.2.2.2.2.2.1.length, c5, dB.len 0 rfl, dB.len 2 rfl, dB.len 4 rfl, dB.len 5 rfl, rfl, dB⟩
theorem Ht {F O : Nat → Prop} {w : World} (k_ : Int) (aP : Int) (dA : Int) (aT : Int) (bn : Int) (cu : UInt32) (aH : UInt64) (bF : UInt32) (aB : Int) (bf : Int) (bu : List UInt8) (aA : List UInt8) (key : List UInt8) (last : Bool) (out : Int) (data : List UInt8) (bZ : Option Addr) (kC : Nat) (b_ : Nat) (aU : Option Addr) (eu : Nat) (aV : Nat) (yG : Option Addr) (fQ : Nat) (yH : Nat) (pW : Option Addr) (Ep : Nat) (oh : Nat) (vw : Ro F w bZ (e8.all bu)) (rC : bu.length = kC) (uk : kC ≤ b_) (mi : Ro F w aU (e8.all aA)) (lD : aA.length = eu) (mG : eu ≤ aV) (PG : Ro F w yG (e8.all key)) (JA : key.length = fQ) (NY : fQ ≤ yH) (Jl : Ro F w pW (e8.all data)) (Nj : data.length = Ep) (Iw : Ep ≤ oh) (k : Cx F O w w []) (r : (List UInt8 × Int)) (hm : lI k_ aP dA aT bn cu aH bF aB bf bu aA key last out data = some r) :
    Calls Tryz.prog 66 (vals [I k_, .agg [I aP, I dA, I aT, I bn, .u32 cu, .u64 aH, .u32 bF, I aB, I bf, sl bZ kC b_, sl aU eu aV], sl yG fQ yH, .b last, I out, sl pW Ep oh]) w (fun e w' => ∃ A n c, r.1.length = n ∧ e = .returned (SV.val (.jc [sl A n c, I r.2])) ∧ Cx F O w w' [Ow e8 A n c r.1]) := by
 unfold lI at hm
 subst rC
 subst lD
 subst JA
 subst Nj
 refine calls [I k_, .agg [I aP, I dA, I aT, I bn, .u32 cu, .u64 aH, .u32 bF, I aB, I bf, sl bZ bu.length b_, sl aU aA.length aV], sl yG key.length yH, .b last, I out, sl pW data.length oh] Tryz.func66 rfl (of_decide_eq_true (by kernel_rfl)) ?_
 refine af <| ax <| ai <| jT [] 7 (.agg [I aP, I dA, I aT, I bn, .u32 cu, .u64 aH, .u32 bF, I aB, I bf, sl bZ bu.length b_, sl aU aA.length aV]) [I aP, I dA, I aT, I bn, .u32 cu, .u64 aH, .u32 bF, I aB, I bf, sl bZ bu.length b_, sl aU aA.length aV] (by kernel_rfl) k ?_
 intro g w_ dK
 refine aW 2 [] (.kk (.s .a)) qe (by kernel_rfl) ?_
 refine ag <| ae <| af <| ax <| aW 3 [] (.n 17 (I k_) (.n 18 (.agg [I aP, I dA, I aT, I bn, .u32 cu, .u64 aH, .u32 bF, I aB, I bf, sl bZ bu.length b_, sl aU aA.length aV]) (.n 19 (sl yG key.length yH) (.nG .a)))) (qT dK 0 rfl 0 11 [I aP, I dA, I aT, I bn, .u32 cu, .u64 aH, .u32 bF, I aB, I bf, sl bZ bu.length b_, sl aU aA.length aV] (by kernel_rfl) (by decide) <| qe) (by kernel_rfl) ?_
 refine ai ?_
 obtain ⟨r_, dV, hm⟩ := ob hm
 refine ay [] 20 _ X5 (by kernel_rfl) (QU (F := N0) (O := N0) _ _ _ _ _ _ _ _ _ _ _ _ _ _ _ _ _ _ _ _ _ _ (Ro.n0 (vw.cx dK)) rfl uk (Ro.n0 (mi.cx dK)) rfl mG (Ro.n0 (PG.cx dK)) rfl NY (Cx.refl _) _ dV) ?_
 rcases r_ with aQ | bI | dN
 · simp only [Sum.elim_inl, Sum.elim_inr] at hm
   rintro e_ o9 ⟨rfl, fF⟩
   have fM := dK.call fF
   refine ⟨.jc [.v (.pointer none), I aQ], rfl, ?_⟩
   have g_ := fM.bD .z
   refine aW 5 [] (.n 14 (.v (.pointer none)) (.n 15 (I aQ) (.kJ .a))) qe (by kernel_rfl) ?_
   refine ag <| ae <| af <| af <| bg [] (.n 24 (.b (decide (aQ ≠ 0))) .a) qe (by kernel_rfl) ?_
   refine ae <| aZ (aQ ≠ 0) (by kernel_rfl) (fun hc => ?_) (fun hc => ?_)
   · rw [if_pos hc] at hm
     refine af <| bg [] (.n 12 (sl none 0 0) (.n 13 (I aQ) .z)) qe (by kernel_rfl) ?_
     refine ae <| aN (bz ?_)
     have gX := g_.nil e8
     obtain rfl := Option.some.inj hm
     refine aO [sl none 0 0, I aQ] qe (by kernel_rfl) ?_
     exact ⟨none, 0, 0, gX.len 0 rfl, rfl, gX⟩
   rw [if_neg hc] at hm
   cases hm
 · simp only [Sum.elim_inl, Sum.elim_inr] at hm
   rintro e_ sZ ⟨g1, A0, _, c0, A1, _, c1, g2, A2, _, c2, rfl, rfl, rfl, rfl, jb⟩
   have jf := dK.call jb
   refine ⟨.jc [pt g1 0, I 0], rfl, ?_⟩
   have jQ := jf.bD (.s (.bH (.k .e)))
   refine aW 5 [] (.n 14 (pt g1 0) (.n 15 (I 0) (.kJ .a))) qe (by kernel_rfl) ?_
   refine ag <| ae <| af <| af <| bg [] (.n 24 (.b (decide (0 ≠ 0))) .a) qe (by kernel_rfl) ?_
   refine ae <| aZ (0 ≠ 0) (by kernel_rfl) (fun hc0 => ?_) (fun hc0 => ?_)
   · rw [if_pos hc0] at hm
     refine af <| bg [] (.n 12 (sl none 0 0) (.n 13 (I 0) .z)) qe (by kernel_rfl) ?_
     refine ae <| aN (bz ?_)
     have jS := jQ.nil e8
     obtain rfl := Option.some.inj hm
     refine aO [sl none 0 0, I 0] qe (by kernel_rfl) ?_
     have dJ := jS.bD (.kJ (.s (.k .e)))
     exact ⟨none, 0, 0, dJ.len 0 rfl, rfl, dJ⟩
   rw [if_neg hc0] at hm
   refine aS <| ae <| af <| ax <| aW 4 [] (.n 27 (.b last) (.n 29 (pt g1 4) (.s (.k (.ss .a))))) (qs g1 0 <| qs g1 0 <| qe) (by kernel_rfl) ?_
   refine ai <| iQ [] 0 (.b last) [.b last] (Pt.at g1 4) jQ rfl (.bH .h) (by kernel_rfl) (by kernel_rfl) ?_
   intro xk dB
   refine ag <| ae <| af <| ax <| aW 5 [] (.n 33 (.v (.iface 258 (SV.val (pt g2 0)))) (.n 34 (sl pW data.length oh) (.ss (.kk .z)))) (qs g1 0 <| qs g1 0 <| qB dB 0 rfl 6 (.v (.iface 258 (SV.val (pt g2 0)))) (by kernel_rfl) <| qe) (by kernel_rfl) ?_
   refine ai ?_
   obtain ⟨ja, vk, hm⟩ := ob hm
   obtain ⟨F1, O1, kin, hO, hre, hF, hb⟩ := dB.go (.r (.r (.r (.i (.i .e)))))
   refine xP [] 35 258 (pt g2 0) [sl pW data.length oh] wV rfl (by kernel_rfl) (rV (F := F1) (O := O1) _ _ _ _ _ _ _ _ _ _ _ _ _ (Ro.I4 Jl dB hF) rfl Iw kin _ vk) ?_
   rintro e_ xB ⟨A3, _, c3, rfl, rfl, gz⟩
   have iI := hb xB _ _ gz (.c (.c .n))
   refine ⟨.jc [], rfl, ?_⟩
   refine ag <| ae <| af <| ax <| aW 2 [] (.n 36 (pt g1 0) (.n 37 (I out) .z)) qe (by kernel_rfl) ?_
   refine ai ?_
   have iJ := iI.bD (.bH (.k .e))
   obtain ⟨iO, wY, hm⟩ := ob hm
   have iK := ((((iJ.pk (.t .h)).pk (.t .h)).pk (.t (.t (.t (.t .h))))).pk (.t (.t (.t (.t .h))))).pk (.t (.t (.t (.t .h))))
   obtain ⟨F11, H7, wX, TU, Gx, hF1, hb1⟩ := iK.go (.i (.i (.i (.i (.i .e)))))
   refine ay [] 38 _ Sv (by kernel_rfl) (Ii (F := F11) (O := H7) _ _ _ _ _ _ _ _ _ _ _ _ _ _ _ _ _ _ _ _ _ _ _ wX _ wY) ?_
   rintro e_ y5 ⟨A4, _, c4, A5, _, c5, A6, _, c6, A7, _, c7, rfl, rfl, rfl, rfl, rfl, iG⟩
   have je := hb1 y5 _ _ iG (.c (.c (.c (.c (.c (.c .n))))))
   refine ⟨.jc [sl A4 iO.1.length c4, I iO.2.1], rfl, ?_⟩
   have ku := je.bD (.k .z)
   refine aW 4 [] (.n 12 (sl A4 iO.1.length c4) (.n 13 (I iO.2.1) .z)) qe (by kernel_rfl) ?_
   refine ag <| ae <| aN ?_
   obtain rfl := Option.some.inj hm
   refine aO [sl A4 iO.1.length c4, I iO.2.1] qe (by kernel_rfl) ?_
   exact ⟨A4, iO.1.length, c4, ku.len 0 rfl, rfl, ku⟩
 · simp only [Sum.elim_inl, Sum.elim_inr] at hm
   rintro e_ CW ⟨g3, A8, _, c8, A9, _, c9, g4, QM, _, c10, rfl, rfl, rfl, rfl, oq⟩
   have jL := dK.call oq
   refine ⟨.jc [pt g3 0, I 0], rfl, ?_⟩
   have mQ := jL.bD (.s (.bH (.k .e)))
   refine aW 5 [] (.n 14 (pt g3 0) (.n 15 (I 0) (.kJ .a))) qe (by kernel_rfl) ?_
   refine ag <| ae <| af <| af <| bg [] (.n 24 (.b (decide (0 ≠ 0))) .a) qe (by kernel_rfl) ?_
   refine ae <| aZ (0 ≠ 0) (by kernel_rfl) (fun hc1 => ?_) (fun hc1 => ?_)
   · rw [if_pos hc1] at hm
     refine af <| bg [] (.n 12 (sl none 0 0) (.n 13 (I 0) .z)) qe (by kernel_rfl) ?_
     refine ae <| aN (bz ?_)
     have oM := mQ.nil e8
     obtain rfl := Option.some.inj hm
     refine aO [sl none 0 0, I 0] qe (by kernel_rfl) ?_
     have oN := oM.bD (.kJ (.s (.k .e)))
     exact ⟨none, 0, 0, oN.len 0 rfl, rfl, oN⟩
   rw [if_neg hc1] at hm
   refine aS <| ae <| af <| ax <| aW 4 [] (.n 27 (.b last) (.n 29 (pt g3 4) (.s (.k (.ss .a))))) (qs g3 0 <| qs g3 0 <| qe) (by kernel_rfl) ?_
   refine ai <| iQ [] 0 (.b last) [.b last] (Pt.at g3 4) mQ rfl (.bH .h) (by kernel_rfl) (by kernel_rfl) ?_
   intro Du ni
   refine ag <| ae <| af <| ax <| aW 5 [] (.n 33 (.v (.iface 267 (SV.val (pt g4 0)))) (.n 34 (sl pW data.length oh) (.ss (.kk .z)))) (qs g3 0 <| qs g3 0 <| qB ni 0 rfl 6 (.v (.iface 267 (SV.val (pt g4 0)))) (by kernel_rfl) <| qe) (by kernel_rfl) ?_
   refine ai ?_
   obtain ⟨qw, BZ, hm⟩ := ob hm
   obtain ⟨F10, O10, kin0, hO0, hre0, hF0, hb0⟩ := ni.go (.r (.r (.r (.i (.i .e)))))
   refine xP [] 35 267 (pt g4 0) [sl pW data.length oh] wW rfl (by kernel_rfl) (rW (F := F10) (O := O10) _ _ _ _ _ _ _ _ _ _ _ _ _ (Ro.I4 Jl ni hF0) rfl Iw kin0 _ BZ) ?_
   rintro e_ Jn ⟨Nq, _, c11, rfl, rfl, nY⟩
   have pM := hb0 Jn _ _ nY (.c (.c .n))
   refine ⟨.jc [], rfl, ?_⟩
   refine ag <| ae <| af <| ax <| aW 2 [] (.n 36 (pt g3 0) (.n 37 (I out) .z)) qe (by kernel_rfl) ?_
   refine ai ?_
   have ve := pM.bD (.bH (.k .e))
   obtain ⟨nJ, BX, hm⟩ := ob hm
   have qH := ((((ve.pk (.t .h)).pk (.t .h)).pk (.t (.t (.t (.t .h))))).pk (.t (.t (.t (.t .h))))).pk (.t (.t (.t (.t .h))))
   obtain ⟨TV, TW, Gz, hO2, TY, hF2, hb2⟩ := qH.go (.i (.i (.i (.i (.i .e)))))
   refine ay [] 38 _ Sv (by kernel_rfl) (Ez (F := TV) (O := TW) _ _ _ _ _ _ _ _ _ _ _ _ _ _ _ _ _ _ _ _ _ _ _ Gz _ BX) ?_
   rintro e_ JW ⟨Nr, _, c12, A13, _, c13, A14, _, c14, A15, _, c15, rfl, rfl, rfl, rfl, rfl, uq⟩
   have uu := hb2 JW _ _ uq (.c (.c (.c (.c (.c (.c .n))))))
   refine ⟨.jc [sl Nr nJ.1.length c12, I nJ.2.1], rfl, ?_⟩
   have zH := uu.bD (.k .z)
   refine aW 4 [] (.n 12 (sl Nr nJ.1.length c12) (.n 13 (I nJ.2.1) .z)) qe (by kernel_rfl) ?_
   refine ag <| ae <| aN ?_
   obtain rfl := Option.some.inj hm
   refine aO [sl Nr nJ.1.length c12, I nJ.2.1] qe (by kernel_rfl) ?_
   exact ⟨Nr, nJ.1.length, c12, zH.len 0 rfl, rfl, zH⟩
theorem B_ {F O : Nat → Prop} {w : World} (aY : Int) (ah : Mp (List UInt8)) (aj : Mp (Mp (Int × List UInt8))) (b : List UInt8) (eU : Nat) (ak : Nat) (au : Nat) (lN : Option Addr) (pX : Nat) (lZ : Nat) (sO : Ro F w lN (e8.all b)) (rO : b.length = pX) (uo : pX ≤ lZ) (k : Cx F O w w [Bx 82 eU [I aY, .v (.map (some ak)), .v (.map (some au))], MS (vH e8) ak ah, MS (vM (vS (eP eI eS) (bT bP bQ))) au aj]) (r : (List UInt8 × Int)) (hm : lJ aY ah aj b = some r) :
    Calls Tryz.prog 51 (vals [pt eU 0, sl lN pX lZ]) w (fun e w' => e = .returned (SV.val (.s r.1)) ∧ Cx F O w w' [Bx 82 eU [I r.2, .v (.map (some ak)), .v (.map (some au))], MS (vH e8) ak ah, MS (vM (vS (eP eI eS) (bT bP bQ))) au aj]) := by
 unfold lJ at hm
 subst rO
 refine calls [pt eU 0, sl lN b.length lZ] Tryz.func51 rfl (of_decide_eq_true (by kernel_rfl)) ?_
 refine af <| bg [] .a qe (by kernel_rfl) ?_
 refine ae <| af ?_
 have k_ := k.drew 1
 refine xQ bG (.q 9 0 (.q 0 1 (.q 1 1 (.q 2 1 (.q 3 0 (.q 4 0 (.q 5 1 (.q 6 1 (.q 7 0 (.q 8 0 (.op 10 (.q 11 1 (.q 12 1 (.q 13 1 (.q 14 1 (.q 15 1 .nil)))))))))))))))) [10] k_ (.c (.kk (.k .e)) .l) (by kernel_rfl) (fun _ => ?_)
 refine dG 1 0 [] (.n 17 (sl lN b.length lZ) (.k .z)) (fun x hx => qe) (by kernel_rfl) (fun _ => ?_)
 refine dG 3 1 [] (.n 10 (pt eU 0) .a) (fun x hx => qs eU 0 <| qs eU 0 <| qe) (by kernel_rfl) (fun _ => ?_)
 refine dG 2 0 [] (.n 12 (.agg [I aY, I 0, I 1, I 1, .u32 0, .u64 0, .u32 0, I 0, I 0, sl none 0 0, sl none 0 0]) (.s .a)) (fun x hx => qB hx 0 rfl 0 (I aY) (by kernel_rfl) <| qe) (by kernel_rfl) (fun _ => ?_)
 refine dG 2 1 [] (.n 14 (pt eU 0) (.kk .z)) (fun x hx => qs eU 0 <| qe) (by kernel_rfl) (fun _ => ?_)
 refine dG 2 0 [] (.n 16 (I aY) (.s .a)) (fun x hx => qs eU 0 <| qB hx 0 rfl 0 (I aY) (by kernel_rfl) <| qe) (by kernel_rfl) (fun _ => ?_)
 refine dw (by kernel_rfl) rfl ?_
 obtain ⟨r_, dV, hm⟩ := ob hm
 refine ay [] 18 _ Su (by kernel_rfl) (Ht (F := N0) (O := N0) _ _ _ _ _ _ _ _ _ _ _ _ _ _ _ _ _ _ _ _ _ _ _ _ _ _ _ _ (Ro.Qx e8) rfl (Nat.le_refl 0) (Ro.Qx e8) rfl (Nat.le_refl 0) (Ro.Qx e8) rfl (Nat.le_refl 0) (Ro.n0 (sO.cx k_)) rfl uo (Cx.refl _) _ dV) ?_
 rintro e_ w_ ⟨A, _, c, rfl, rfl, dK⟩
 have fF := k_.call dK
 refine ⟨.jc [sl A r_.1.length c, I r_.2], rfl, ?_⟩
 refine ⟨(fF.bD (.kk (.k .z))), fun _ => ?_⟩
 refine dG 5 1 [] (.n 5 (sl A r_.1.length c) .z) (fun x hx => qe) (by kernel_rfl) (fun _ => ?_)
 refine dP <| ae <| af <| bg [] (.n 4 (.s r_.1) .z) (qo (.s r_.1) <| qc (fun w => Rd w A (r_.1.map bV) ∧ r_.1.length = r_.1.length) ⟨uz r_.1 ▸ (fF.rd 3 rfl), (fF.len 3 rfl)⟩ <| qe) (by kernel_rfl) ?_
 refine ae <| aN ?_
 obtain rfl := Option.some.inj hm
 refine aO [.s r_.1] qe (by kernel_rfl) ?_
 have fM := fF.bD (.kk (.k .z))
 exact ⟨rfl, fM⟩
theorem yT {F O : Nat → Prop} {w : World} (aY : Int) (ah : Mp (List UInt8)) (aj : Mp (Mp (Int × List UInt8))) (snap : List UInt8) (files : List (List UInt8 × List UInt8)) (eU : Nat) (ak : Nat) (au : Nat) (qi : Option Addr) (N8 : Nat) (sQ : Nat) (Wl : List (List UInt8 × Hd)) (yU : MN F w (eP eS eH) (RP RQ (RH F w e8)) qi Wl files) (Wn : files.length = N8) (hc_files : N8 ≤ sQ) (k : Cx F O w w [Bx 82 eU [I aY, .v (.map (some ak)), .v (.map (some au))], MS (vH e8) ak ah, MS (vM (vS (eP eI eS) (bT bP bQ))) au aj]) (r : (Int × Int × Mp (List UInt8) × (Mp (Mp (Int × List UInt8))))) (hm : kS aY ah aj snap files = some r) :
    Calls Tryz.prog 23 (vals [pt eU 0, .s snap, sl qi N8 sQ]) w (fun e w' => e = .returned (SV.val (I r.1)) ∧ Cx F O w w' [Bx 82 eU [I r.2.1, .v (.map (some ak)), .v (.map (some au))], MS (vH e8) ak r.2.2.1, MS (vM (vS (eP eI eS) (bT bP bQ))) au r.2.2.2]) := by
 unfold kS at hm
 subst Wn
 refine calls [pt eU 0, .s snap, sl qi files.length sQ] Tryz.func23 rfl (of_decide_eq_true (by kernel_rfl)) ?_
 refine af <| bg [] .a qe (by kernel_rfl) ?_
 refine ae <| af <| af <| ax <| aW 1 [] (.n 28 (pt eU 0) .a) qe (by kernel_rfl) ?_
 refine ai ?_
 obtain ⟨r_, dV, hm⟩ := ob hm
 obtain ⟨F1, O1, kin, hO, hre, hF, hb⟩ := k.go (.i (.i (.i .e)))
 refine ay [] 29 _ Am (by kernel_rfl) (jI (F := F1) (O := O1) _ _ _ _ _ _ kin _ dV) ?_
 rintro e_ w_ ⟨rfl, k_⟩
 have dK := hb w_ _ _ k_ (.c (.c (.c .n)))
 refine ⟨.b false, rfl, ?_⟩
 refine ag <| ae <| bC false (by kernel_rfl) (fun h => by cases h) (fun _ => ?_)
 refine aS <| ae <| af <| ax <| aW 5 [] (.n 34 (.v (.map (some au))) (.n 35 (.s snap) (.ss .a))) (qs eU 0 <| qs eU 0 <| qB dK 0 rfl 2 (.v (.map (some au))) (by kernel_rfl) <| qe) (by kernel_rfl) ?_
 refine ai ?_
 have fF := ((dK.pk (.t .h)).pk (.t .h)).pk (.t (.t .h))
 refine Gp (kt := 9) (e := 85) (v := (vS (eP eI eS) (bT bP bQ))) (m := aj) (key := snap) [] 36 (by kernel_rfl) (by kernel_rfl) fF.acc (fun hf => ?_) (fun b aQ hf1 fM => ?_)
 · simp only [hf, Option.elim_none] at hm
   refine aW 5 [] (.n 8 (.b false) (.nG .a)) qe (by kernel_rfl) ?_
   refine ag <| ae <| af <| aJ <| af <| ax <| aW 1 [] (.n 40 (.s snap) .a) qe (by kernel_rfl) ?_
   refine ai ?_
   obtain ⟨bI, kz, hm⟩ := ob hm
   refine ay [] 41 _ Fz (by kernel_rfl) (rU (F := N0) (O := N0) _ (Cx.refl _) _ kz) ?_
   rintro e_ o9 ⟨rfl, g_⟩
   have gX := fF.call g_
   refine ⟨.b bI, rfl, ?_⟩
   refine aW 2 [] (.n 39 (.b (!bI)) (.ss .a)) qe (by kernel_rfl) ?_
   refine ag <| ae <| bC (!bI) (by kernel_rfl) (fun hc => ?_) (fun hc => ?_)
   · rw [if_pos hc] at hm
     refine af <| bg [] (.n 6 (I 214) .z) qe (by kernel_rfl) ?_
     refine ae <| aN (fA (bz ?_))
     obtain rfl := Option.some.inj hm
     refine aO [I 214] qe (by kernel_rfl) ?_
     have jb := ((gX.pk .h).pk (.t (.t .h))).pk (.t (.t .h))
     exact ⟨rfl, jb⟩
   rw [if_neg (by rw [hc]; decide)] at hm
   refine af <| bg [] (.n 43 (.b false) (.ss .a)) qe (by kernel_rfl) ?_
   refine ae <| bC false (by kernel_rfl) (fun h => by cases h) (fun _ => ?_)
   refine af <| ax <| aW 4 [] (.n 49 (.v (.map (some au))) (.s .a)) (qs eU 0 <| qs eU 0 <| qB gX 1 rfl 2 (.v (.map (some au))) (by kernel_rfl) <| qe) (by kernel_rfl) ?_
   refine ai <| E_ (kt := 9) (e := 85) (v := (vM (vS (eP eI eS) (bT bP bQ)))) (m := aj) [] 50 (by kernel_rfl) gX.acc ?_
   refine aW 7 [] (.n 45 (.b ((decide (64 ≤ ((aj.length : Nat) : Int))) || (decide (256 < ((files.length : Nat) : Int))))) (.ss .a)) qe (by kernel_rfl) ?_
   refine ag <| ae <| bC ((decide (64 ≤ ((aj.length : Nat) : Int))) || (decide (256 < ((files.length : Nat) : Int)))) (by kernel_rfl) (fun hc1 => ?_) (fun hc1 => ?_)
   · rw [if_pos hc1] at hm
     refine af <| bg [] (.n 6 (I 2) .z) qe (by kernel_rfl) ?_
     refine ae <| aN (fA (bz ?_))
     obtain rfl := Option.some.inj hm
     refine aO [I 2] qe (by kernel_rfl) ?_
     have jf := ((gX.pk .h).pk (.t (.t .h))).pk (.t (.t .h))
     exact ⟨rfl, jf⟩
   rw [if_neg (by rw [hc1]; decide)] at hm
   refine aS <| gm <| ae <| af <| ax <| ai ?_
   have jQ := gX.bD (.kk (.k .e))
   refine uB [] 57 (by kernel_rfl) jQ ?_
   intro b1 sZ jS
   have dJ := jS.zY (v := vI)
   refine aW 1 [] (.n 9 (.v (.map (some b1))) (.ss .a)) qe (by kernel_rfl) ?_
   refine ag <| ae <| af <| af <| bg [] (.n 58 (sl qi files.length sQ) (.n 59 (I ((files.length : Nat) : Int)) (.n 60 (I 0) .a))) qe (by kernel_rfl) ?_
   refine ae <| aJ ?_
   have gz := (((dJ.pk .h).pk (.t .h)).pk (.t (.t (.t .h)))).pk (.t (.t (.t .h)))
   refine pg (iZ ah aj snap files r_) (fun s L wr => ∃ (uY : Mp Int) (aC : Int), (uY, aC) = s ∧ L = [(0, pt eU 0), (1, .s snap), (2, sl qi files.length sQ), (9, .v (.map (some b1))), (58, sl qi files.length sQ), (59, I ((files.length : Nat) : Int)), (60, I aC)] ∧ Cx F O w wr [Bx 82 eU [I r_, .v (.map (some ak)), .v (.map (some au))], MS (vH e8) ak ah, MS (vM (vS (eP eI eS) (bT bP bQ))) au aj, MS vI b1 uY]) (([] : Mp Int), (0 : Int)) r hm ⟨([] : Mp Int), (0 : Int), rfl, rfl, gz⟩ (by kernel_rfl) ?_
   intro BU L_ xk y0 hrel hstep hr0
   obtain ⟨uY, aC, rfl, rfl, dB⟩ := hrel
   have hm := hstep; simp only [iZ] at hm
   clear hstep
   refine af <| bg [] (.n 61 (.b (decide (aC < ((files.length : Nat) : Int)))) .a) qe (by kernel_rfl) ?_
   refine ae <| af <| aZ (aC < ((files.length : Nat) : Int)) (by kernel_rfl) (fun hc2 => ?_) (fun hc2 => ?_)
   · rw [if_pos hc2] at hm
     refine aS <| ae <| af <| aJ <| af <| ax ?_
     obtain ⟨bY, jk, hm⟩ := ob hm
     obtain ⟨⟨q, ⟨B, n, c⟩⟩, hy, hg⟩ := yU.at jk
     simp only [RP, RQ, RH] at hg; obtain ⟨rfl, ⟨rfl, hle, hro⟩⟩ := hg
     refine aW 3 [] (.n 62 (I aC) (.n 64 (.agg [.s bY.1, sl B bY.2.length c]) (.s .a))) (qJ (E := (eP eS eH)) (yU.ro.cx dB) hy yU.len <| qR [.s bY.1, sl B bY.2.length c] (Rd.els (k := 0) (m := 2) (yU.ro.cx dB) hy (Pt.Dk qi aC 2) rfl (by decide) (by decide)) <| qe) (by kernel_rfl) ?_
     refine ai <| bJ [] 11 [.s ([] : List UInt8), sl none 0 0] (by kernel_rfl) dB ?_
     intro g xB iI
     refine aW 1 [] (.n 10 (I aC) (.k (.s .a))) qe (by kernel_rfl) ?_
     refine ai <| iQ [] 4 (.agg [.s bY.1, sl B bY.2.length c]) [.s bY.1, sl B bY.2.length c] (Pt.at g 0) iI rfl .all (by kernel_rfl) (by kernel_rfl) ?_
     intro y5 iJ
     refine ag <| ae <| af <| ax <| aW 3 [] (.n 66 (.v (.map (some b1))) (.n 68 (.s bY.1) (.kk (.s .a)))) (qs g 0 <| qB iJ 4 rfl 0 (.s bY.1) (by kernel_rfl) <| qe) (by kernel_rfl) ?_
     refine ai ?_
     have iK := ((((iJ.pk (.t (.t (.t (.t .h))))).pk (.t (.t (.t .h)))).pk (.t (.t (.t .h)))).pk (.t (.t (.t .h)))).pk (.t (.t (.t (.t .h))))
     refine K_ (kt := 9) (e := 3) (v := vI) (m := uY) (key := bY.1) rfl [] 69 (0 : Int) (I ((aK uY bY.1).getD (0 : Int))) (by kernel_rfl) (by kernel_rfl) iK.acc rfl ?_
     refine aW 5 [] (.n 13 (.b ((aK uY bY.1).isSome)) (.nG .a)) qe (by kernel_rfl) ?_
     refine ag <| ae <| af <| aJ <| af <| ax <| aW 2 [] (.n 74 (.s bY.1) .a) (qs g 0 <| qB iK 4 rfl 0 (.s bY.1) (by kernel_rfl) <| qe) (by kernel_rfl) ?_
     refine ai ?_
     obtain ⟨dN, qL, hm⟩ := ob hm
     refine ay [] 75 _ Fz (by kernel_rfl) (rU (F := N0) (O := N0) _ (Cx.refl _) _ qL) ?_
     rintro e_ CW ⟨rfl, iG⟩
     have je := iK.call iG
     refine ⟨.b dN, rfl, ?_⟩
     refine aW 2 [] (.n 72 (.b (!dN)) (.ss .a)) qe (by kernel_rfl) ?_
     refine ag <| ae <| bC (!dN) (by kernel_rfl) (fun hc3 => ?_) (fun hc3 => ?_)
     · rw [if_pos hc3] at hm
       refine af <| bg [] (.n 6 (I 214) .z) qe (by kernel_rfl) ?_
       refine ae <| aN (fA (bz (fA (bz (bz (fA (bz ?_)))))))
       have hm := cO hm hr0
       obtain rfl := Option.some.inj hm
       refine aO [I 214] qe (by kernel_rfl) ?_
       have ku := je.bD (.s (.kk (.k .z)))
       exact ⟨rfl, ku⟩
     rw [if_neg (by rw [hc3]; decide)] at hm
     refine af <| bg [] (.n 77 (.b (decide (1048576 < ((bY.2.length : Nat) : Int)))) (.s .a)) (qs g 0 <| qB je 4 rfl 1 (sl B bY.2.length c) (by kernel_rfl) <| qe) (by kernel_rfl) ?_
     refine ae <| aZ (1048576 < ((bY.2.length : Nat) : Int)) (by kernel_rfl) (fun hc4 => ?_) (fun hc4 => ?_)
     · rw [if_pos hc4] at hm
       refine af <| bg [] (.n 6 (I 2) .z) qe (by kernel_rfl) ?_
       refine ae <| aN (fA (bz (fA (bz (bz (fA (bz ?_)))))))
       have hm := cO hm hr0
       obtain rfl := Option.some.inj hm
       refine aO [I 2] qe (by kernel_rfl) ?_
       have oq := je.bD (.s (.kk (.k .z)))
       exact ⟨rfl, oq⟩
     rw [if_neg hc4] at hm
     refine af <| bg [] (.n 82 (.b ((aK uY bY.1).isSome)) (.ss .a)) qe (by kernel_rfl) ?_
     refine ae <| bC ((aK uY bY.1).isSome) (by kernel_rfl) (fun hc5 => ?_) (fun hc5 => ?_)
     · rw [if_pos hc5] at hm
       refine af <| bg [] (.n 6 (I 213) .z) qe (by kernel_rfl) ?_
       refine ae <| aN (fA (bz (fA (bz (bz (fA (bz ?_)))))))
       have hm := cO hm hr0
       obtain rfl := Option.some.inj hm
       refine aO [I 213] qe (by kernel_rfl) ?_
       have jL := je.bD (.s (.kk (.k .z)))
       exact ⟨rfl, jL⟩
     rw [if_neg (by rw [hc5]; decide)] at hm
     refine aS <| gm <| ae <| ax <| aW 4 [] (.n 84 (.v (.map (some b1))) (.n 86 (.s bY.1) (.n 87 (I aC) (.nG .a)))) (qs g 0 <| qB je 4 rfl 0 (.s bY.1) (by kernel_rfl) <| qe) (by kernel_rfl) ?_
     refine ai ?_
     have mQ := je.bD (.bH (.k .e))
     refine Iq (kt := 9) (e := 3) (v := vI) (key := bY.1) rfl [] aC (by kernel_rfl) mQ ?_
     intro Du oM
     refine ag <| gm <| ae <| bg [] (.n 60 (I (aI (aC + 1))) (.nG (.bH (.kk .z)))) qe (by kernel_rfl) ?_
     have oN := ((((oM.pk .h).pk (.t (.t (.t .h)))).pk (.t (.t (.t .h)))).pk (.t (.t (.t .h)))).bD (.bH .z)
     exact jU (dD uY bY.1 aC, aI (aC + 1)) (Option.some.inj hm).symm ⟨dD uY bY.1 aC, aI (aC + 1), rfl, rfl, oN⟩ (by kernel_rfl)
   rw [if_neg hc2] at hm
   refine dY (bU (bU (iL ?_)))
   have hm := cO hm hr0
   refine ae <| af <| ax <| ai <| uB [] 89 (by kernel_rfl) dB ?_
   intro b2 Jn ni
   have nY := ni.zY (v := (vH e8))
   refine aW 1 [] (.n 14 (.v (.map (some b2))) (.ss (.Dl .z))) qe (by kernel_rfl) ?_
   refine ag <| ae <| af <| ax <| ai <| uB [] 90 (by kernel_rfl) nY ?_
   intro b3 JW pM
   have ve := pM.zY (v := (vS (eP eI eS) (bT bP bQ)))
   refine aW 1 [] (.n 15 (.v (.map (some b3))) (.s .a)) qe (by kernel_rfl) ?_
   refine ag <| ae <| af <| af <| bg [] (.n 91 (sl qi files.length sQ) (.n 92 (I ((files.length : Nat) : Int)) (.n 93 (I 0) (.bH .z)))) qe (by kernel_rfl) ?_
   refine ae <| aJ ?_
   have uq := (((((ve.pk .h).pk (.t .h)).pk (.t (.t (.t (.t .h))))).pk (.t (.t (.t (.t .h))))).pk (.t (.t (.t (.t .h))))).bD (.bH (.k .z))
   refine pg (iY ah aj snap files) (fun s L wr => ∃ (d : Int) (y8 : Mp (List UInt8)) (DR : Mp (Int × List UInt8)) (iy : Int), (d, y8, DR, iy) = s ∧ L = [(0, pt eU 0), (1, .s snap), (14, .v (.map (some b2))), (15, .v (.map (some b3))), (91, sl qi files.length sQ), (92, I ((files.length : Nat) : Int)), (93, I iy)] ∧ Cx F O w wr [Bx 82 eU [I d, .v (.map (some ak)), .v (.map (some au))], MS (vH e8) ak ah, MS (vM (vS (eP eI eS) (bT bP bQ))) au aj, MS (vH e8) b2 y8, MS (vS (eP eI eS) (bT bP bQ)) b3 DR]) (r_, ([] : Mp (List UInt8)), ([] : Mp (Int × List UInt8)), (0 : Int)) r hm ⟨r_, ([] : Mp (List UInt8)), ([] : Mp (Int × List UInt8)), (0 : Int), rfl, rfl, uq⟩ (by kernel_rfl) ?_
   intro BU L_ BV y0 hrel hstep hr0
   obtain ⟨d, y8, DR, iy, rfl, rfl, qH⟩ := hrel
   have hm := hstep; simp only [iY] at hm
   clear hstep
   refine af <| bg [] (.n 94 (.b (decide (iy < ((files.length : Nat) : Int)))) .a) qe (by kernel_rfl) ?_
   refine ae <| af <| aZ (iy < ((files.length : Nat) : Int)) (by kernel_rfl) (fun hc6 => ?_) (fun hc6 => ?_)
   · rw [if_pos hc6] at hm
     refine aS <| ae <| af <| aJ <| af <| ax ?_
     obtain ⟨iR, oW, hm⟩ := ob hm
     obtain ⟨⟨q1, ⟨B1, n1, c1⟩⟩, hy1, hg1⟩ := yU.at oW
     simp only [RP, RQ, RH] at hg1; obtain ⟨rfl, ⟨rfl, hle1, hro1⟩⟩ := hg1
     refine aW 2 [] (.n 96 (.agg [.s iR.1, sl B1 iR.2.length c1]) (.s .a)) (qJ (E := (eP eS eH)) (yU.ro.cx qH) hy1 yU.len <| qR [.s iR.1, sl B1 iR.2.length c1] (Rd.els (k := 0) (m := 2) (yU.ro.cx qH) hy1 (Pt.Dk qi iy 2) rfl (by decide) (by decide)) <| qe) (by kernel_rfl) ?_
     refine ai <| bJ [] 17 [.s ([] : List UInt8), sl none 0 0] (by kernel_rfl) qH ?_
     intro g1 Dv uu
     refine ai <| iQ [] 5 (.agg [.s iR.1, sl B1 iR.2.length c1]) [.s iR.1, sl B1 iR.2.length c1] (Pt.at g1 0) uu rfl .all (by kernel_rfl) (by kernel_rfl) ?_
     intro GG zH
     refine ag <| ae <| af <| ax <| aW 4 [] (.n 100 (.agg [I ((iR.2.length : Nat) : Int), .s ([] : List UInt8)]) (.k (.s .a))) (qs g1 0 <| qB zH 5 rfl 1 (sl B1 iR.2.length c1) (by kernel_rfl) <| qe) (by kernel_rfl) ?_
     refine ai <| bJ [] 18 [I 0, .s ([] : List UInt8)] (by kernel_rfl) zH ?_
     intro g2 QN GH
     refine ai <| iQ [] 6 (.agg [I ((iR.2.length : Nat) : Int), .s ([] : List UInt8)]) [I ((iR.2.length : Nat) : Int), .s ([] : List UInt8)] (Pt.at g2 0) GH rfl .all (by kernel_rfl) (by kernel_rfl) ?_
     intro Pj Dw
     refine ag <| ae <| af <| ax <| aW 2 [] (.n 103 (sl B1 iR.2.length c1) (.k (.s .a))) (qs g1 0 <| qB Dw 5 rfl 1 (sl B1 iR.2.length c1) (by kernel_rfl) <| qe) (by kernel_rfl) ?_
     refine ai ?_
     have FM := Dw.bD (.bH (.kk (.k .e)))
     obtain ⟨ja, vk, hm⟩ := ob hm
     refine ay [] 104 _ RZ (by kernel_rfl) (BR (F := N0) (O := N0) _ _ _ _ (Ro.n0 (hro1.cx FM)) rfl hle1 (Cx.refl _) _ vk) ?_
     rintro e_ TZ ⟨A, _, c2, hd, rfl, rfl, Jo⟩
     have H9 := FM.call Jo
     refine ⟨.jc [sl A ja.1.length c2, I ja.2], rfl, ?_⟩
     have H_ := (((((((H9.pk (.t (.t (.t (.t (.t (.t .h))))))).pk (.t (.t (.t (.t (.t (.t .h))))))).pk (.t (.t (.t (.t (.t (.t .h))))))).pk (.t (.t (.t (.t (.t (.t .h))))))).pk (.t (.t (.t (.t (.t (.t .h))))))).pk (.t (.t (.t (.t (.t (.t .h))))))).pk (.t (.t (.t (.t (.t (.t .h))))))).pk (.t (.t (.t (.t (.t (.t (.t .h)))))))
     have GI := H_.o2g
     refine aW 5 [] (.n 19 (sl A ja.1.length c2) (.ss .a)) qe (by kernel_rfl) ?_
     refine ag <| ae <| af <| af <| bg [] (.n 107 (sl A ja.1.length c2) (.n 108 (I ((ja.1.length : Nat) : Int)) (.n 109 (I 0) (.s .a)))) qe (by kernel_rfl) ?_
     refine ae <| aJ ?_
     have GK := (((((((GI.pk .h).pk (.t (.t (.t (.t (.t (.t (.t .h)))))))).pk (.t (.t (.t (.t (.t (.t (.t .h)))))))).pk (.t (.t (.t (.t (.t (.t (.t .h)))))))).pk (.t (.t (.t (.t (.t (.t (.t .h)))))))).pk (.t (.t (.t (.t (.t (.t (.t .h)))))))).pk (.t (.t (.t (.t (.t (.t (.t .h)))))))).pk (.t (.t (.t (.t (.t (.t (.t .h)))))))
     refine pg (iV ah aj DR iy iR ja) (fun s L wr => ∃ (d1 : Int) (JV : Mp (List UInt8)) (e_ : List UInt8) (kK : Int), (d1, JV, e_, kK) = s ∧ L = [(0, pt eU 0), (1, .s snap), (14, .v (.map (some b2))), (15, .v (.map (some b3))), (17, pt g1 0), (18, pt g2 0), (91, sl qi files.length sQ), (92, I ((files.length : Nat) : Int)), (93, I iy), (107, sl A ja.1.length c2), (108, I ((ja.1.length : Nat) : Int)), (109, I kK)] ∧ Cx F O w wr [Bx 82 eU [I d1, .v (.map (some ak)), .v (.map (some au))], MS (vH e8) ak ah, MS (vM (vS (eP eI eS) (bT bP bQ))) au aj, MS (vH e8) b2 JV, MS (vS (eP eI eS) (bT bP bQ)) b3 DR, Bx 113 g1 [.s iR.1, sl B1 iR.2.length c1], Bx 99 g2 [I ((iR.2.length : Nat) : Int), .s e_], OG eH (SH e8) A ja.1.length c2 hd ja.1]) (d, y8, ([] : List UInt8), (0 : Int)) y0 hm ⟨d, y8, ([] : List UInt8), (0 : Int), rfl, rfl, GK⟩ (by kernel_rfl) ?_
     intro s1_ L_ X7 y1 hrel hstep hr1
     obtain ⟨d1, JV, e_, kK, rfl, rfl, qK⟩ := hrel
     have hm := hstep; simp only [iV] at hm
     clear hstep
     refine af <| bg [] (.n 110 (.b (decide (kK < ((ja.1.length : Nat) : Int)))) .a) qe (by kernel_rfl) ?_
     refine ae <| af <| aZ (kK < ((ja.1.length : Nat) : Int)) (by kernel_rfl) (fun Ol => ?_) (fun Ol => ?_)
     · rw [if_pos Ol] at hm
       refine aS <| ae <| vG (fun L wr => ∃ (d2 : Int) (ZX : Mp (List UInt8)) (OU : List UInt8), iU kK d2 ZX OU = some y1 ∧ L = [(0, pt eU 0), (1, .s snap), (14, .v (.map (some b2))), (15, .v (.map (some b3))), (17, pt g1 0), (18, pt g2 0), (91, sl qi files.length sQ), (92, I ((files.length : Nat) : Int)), (93, I iy), (107, sl A ja.1.length c2), (108, I ((ja.1.length : Nat) : Int)), (109, I kK)] ∧ Cx F O w wr [Bx 82 eU [I d2, .v (.map (some ak)), .v (.map (some au))], MS (vH e8) ak ah, MS (vM (vS (eP eI eS) (bT bP bQ))) au aj, MS (vH e8) b2 ZX, MS (vS (eP eI eS) (bT bP bQ)) b3 DR, Bx 113 g1 [.s iR.1, sl B1 iR.2.length c1], Bx 99 g2 [I ((iR.2.length : Nat) : Int), .s OU], OG eH (SH e8) A ja.1.length c2 hd ja.1]) ?_ ?_
       ·
        refine aJ <| af ?_
        obtain ⟨b4, Et, hm⟩ := ob hm
        obtain ⟨JC, N9, hh, hle2⟩ := qK.og_at 7 rfl Et
        refine bg [] (.n 22 (sl JC b4.length N9) (.s .a)) (qJ (qK.ZP 7 rfl) hh (qK.Vb 7 rfl) <| qC (sl JC b4.length N9) (Rd.el (k := 0) (qK.ZP 7 rfl) hh (Pt.Dk A kK 1) rfl) <| qe) (by kernel_rfl) ?_
        refine ae <| af <| ax <| aW 2 [] (.n 113 (pt eU 0) (.n 114 (sl JC b4.length N9) .a)) qe (by kernel_rfl) ?_
        refine ai ?_
        obtain ⟨iO, wY, hm⟩ := ob hm
        obtain ⟨F11, H7, wX, TU, Gx, hF1, hb1⟩ := qK.go (.i (.i (.i (.r (.r (.r (.r (.r .e))))))))
        refine ay [] 115 _ Sm (by kernel_rfl) (B_ (F := F11) (O := H7) _ _ _ _ _ _ _ _ _ _ (OG.XN wX.off Gx 4 rfl Et hh) rfl hle2 wX _ wY) ?_
        rintro e_ V6 ⟨rfl, Ns⟩
        have Jp := hb1 V6 _ _ Ns (.c (.c (.c .n)))
        refine ⟨.s iO.1, rfl, ?_⟩
        refine aW 1 [] (.n 23 (.s iO.1) (.nG .a)) qe (by kernel_rfl) ?_
        refine ag <| ae <| af <| ax <| aW 5 [] (.n 120 (.v (.map (some ak))) (.n 121 (.s iO.1) .a)) (qs eU 0 <| qs eU 0 <| qB Jp 0 rfl 1 (.v (.map (some ak))) (by kernel_rfl) <| qe) (by kernel_rfl) ?_
        refine ai ?_
        have Kr := (((((((Jp.pk (.t (.t (.t (.t (.t (.t (.t .h)))))))).pk (.t (.t (.t (.t (.t (.t (.t .h)))))))).pk (.t (.t (.t (.t (.t (.t (.t .h)))))))).pk (.t (.t (.t (.t (.t (.t (.t .h)))))))).pk (.t (.t (.t (.t (.t (.t (.t .h)))))))).pk (.t (.t (.t (.t (.t (.t (.t .h)))))))).pk (.t (.t (.t (.t (.t (.t .h))))))).pk (.t (.t (.t (.t (.t (.t (.t .h)))))))
        refine CJ (kt := 9) (e := 22) (E := e8) (m := ah) (key := iO.1) [] 122 (by kernel_rfl) (by kernel_rfl) Kr.acc (fun hf2 => ?_) (fun A1 c3 qw hf3 Nu => ?_)
        · simp only [hf2, Option.elim_none] at hm
          refine aW 5 [] (.n 24 (sl none 0 0) (.n 25 (.b false) (.nG .a))) qe (by kernel_rfl) ?_
          refine ag <| ae <| vG (fun L wr => ∃ (old : List UInt8) (is : Bool) (A2 : Option Addr) (n2 : Nat) (c4 : Nat), jJ ah aj JV e_ kK b4 iO old is = some y1 ∧ L = [(0, pt eU 0), (1, .s snap), (14, .v (.map (some b2))), (15, .v (.map (some b3))), (17, pt g1 0), (18, pt g2 0), (22, sl JC b4.length N9), (23, .s iO.1), (24, sl A2 n2 c4), (25, .b is), (91, sl qi files.length sQ), (92, I ((files.length : Nat) : Int)), (93, I iy), (107, sl A ja.1.length c2), (108, I ((ja.1.length : Nat) : Int)), (109, I kK)] ∧ old.length = n2 ∧ Cx F O w wr [Bx 82 eU [I iO.2, .v (.map (some ak)), .v (.map (some au))], MS (vH e8) ak ah, MS (vM (vS (eP eI eS) (bT bP bQ))) au aj, MS (vH e8) b2 JV, MS (vS (eP eI eS) (bT bP bQ)) b3 DR, Bx 113 g1 [.s iR.1, sl B1 iR.2.length c1], Bx 99 g2 [I ((iR.2.length : Nat) : Int), .s e_], OG eH (SH e8) A ja.1.length c2 hd ja.1, Sh (SH e8) [(A2, n2, c4)] [old]]) ?_ ?_
          ·
           refine af <| bg [] (.n 126 (.b true) .a) qe (by kernel_rfl) ?_
           refine ae <| bC true (by kernel_rfl) (fun _ => ?_) (fun h => by cases h)
           refine ax <| aW 2 [] (.n 128 (.v (.map (some b2))) (.n 129 (.s iO.1) (.s .a))) qe (by kernel_rfl) ?_
           refine ai ?_
           have GL := (((((((Kr.pk (.t (.t (.t (.t (.t (.t (.t .h)))))))).pk (.t (.t (.t (.t (.t (.t (.t .h)))))))).pk (.t (.t (.t (.t (.t (.t (.t .h)))))))).pk (.t (.t (.t (.t (.t (.t (.t .h)))))))).pk (.t (.t (.t (.t (.t (.t .h))))))).pk (.t (.t (.t (.t (.t (.t .h))))))).pk (.t (.t (.t (.t (.t (.t .h))))))).pk (.t (.t (.t (.t (.t (.t (.t .h)))))))
           refine CJ (kt := 9) (e := 22) (E := e8) (m := JV) (key := iO.1) [] 130 (by kernel_rfl) (by kernel_rfl) GL.acc (fun hf4 => ?_) (fun A3 c5 nJ hf5 Kt => ?_)
           · simp only [hf4, Option.elim_none] at hm
             refine aW 5 [] (.n 24 (sl none 0 0) (.n 25 (.b false) (.kJ (.s .a)))) qe (by kernel_rfl) ?_
             refine ag ?_
             have Ku := GL.Y6 e8
             have Eu := ((((((((Ku.pk .h).pk (.t (.t (.t (.t (.t (.t (.t (.t .h))))))))).pk (.t (.t (.t (.t (.t (.t (.t (.t .h))))))))).pk (.t (.t (.t (.t (.t (.t (.t (.t .h))))))))).pk (.t (.t (.t (.t (.t (.t (.t (.t .h))))))))).pk (.t (.t (.t (.t (.t .h)))))).pk (.t (.t (.t (.t (.t (.t (.t (.t .h))))))))).pk (.t (.t (.t (.t (.t (.t (.t .h)))))))).pk (.t (.t (.t (.t (.t (.t (.t (.t .h))))))))
             exact oJ ⟨([] : List UInt8), false, none, 0, 0, hm, rfl, Eu.ig 8 rfl, Eu⟩ (by kernel_rfl)
           · simp only [hf5, Option.elim_some] at hm
             refine aW 5 [] (.n 24 (sl A3 nJ.length c5) (.n 25 (.b true) (.kJ (.s .a)))) qe (by kernel_rfl) ?_
             refine ag ?_
             have Dx := ((((((((Kt.pk .h).pk (.t (.t (.t (.t (.t (.t (.t (.t .h))))))))).pk (.t (.t (.t (.t (.t (.t (.t (.t .h))))))))).pk (.t (.t (.t (.t (.t (.t (.t (.t .h))))))))).pk (.t (.t (.t (.t (.t (.t (.t (.t .h))))))))).pk (.t (.t (.t (.t (.t .h)))))).pk (.t (.t (.t (.t (.t (.t (.t (.t .h))))))))).pk (.t (.t (.t (.t (.t (.t (.t .h)))))))).pk (.t (.t (.t (.t (.t (.t (.t (.t .h))))))))
             exact oJ ⟨nJ, true, A3, nJ.length, c5, hm, rfl, Dx.ig 8 rfl, Dx⟩ (by kernel_rfl)
          rintro L_ X_ ⟨old, is, A2, _, c4, hm, rfl, rfl, FO⟩
          simp only [jJ] at hm
          refine af <| af <| bg [] (.n 140 (.b (is && (decide (old ≠ b4)))) (.bH (.bH (.ss .a)))) (qo (.s old) <| qc (fun w => is = true → Rd w A2 (old.map bV) ∧ old.length = old.length) (fun hg0 => ⟨uz old ▸ (FO.J7 8 rfl), (FO.ig 8 rfl)⟩) <| qo (.s b4) <| qc (fun w => is = true → Rd w JC (b4.map bV) ∧ b4.length = b4.length) (fun hg0 => ⟨uz b4 ▸ (FO.Y4 7 rfl Et hh), rfl⟩) <| qe) (by kernel_rfl) ?_
          refine ae <| bC (is && (decide (old ≠ b4))) (by kernel_rfl) (fun hc8 => ?_) (fun hc8 => ?_)
          · rw [if_pos hc8] at hm
            refine af <| bg [] (.n 6 (I 271) .z) qe (by kernel_rfl) ?_
            refine ae <| aN (bz (fA (bz (bz (fA (bz (fA (bz (bz (fA (bz ?_)))))))))))
            have hm := cO hm hr1
            have hm := cO hm hr0
            obtain rfl := Option.some.inj hm
            refine aO [I 271] qe (by kernel_rfl) ?_
            have Ia := FO.bD (.kk (.k .z))
            exact ⟨rfl, Ia⟩
          rw [if_neg (by rw [hc8]; decide)] at hm
          refine aS <| ae <| af <| ax <| aW 3 [] (.n 141 (.v (.map (some b2))) (.n 142 (.s iO.1) (.n 143 (sl JC b4.length N9) (.s (.bH (.kk (.s .a))))))) qe (by kernel_rfl) ?_
          refine ai ?_
          have Ew := FO.Y5 7 rfl Et hh
          have Nv := (((((((((Ew.pk (.t (.t (.t (.t (.t (.t (.t (.t (.t .h)))))))))).pk (.t (.t (.t (.t (.t (.t (.t (.t (.t .h)))))))))).pk (.t (.t (.t (.t (.t (.t (.t (.t (.t .h)))))))))).pk (.t (.t (.t (.t (.t (.t (.t (.t (.t .h)))))))))).pk (.t (.t (.t (.t (.t (.t (.t (.t (.t .h)))))))))).pk (.t (.t (.t (.t (.t (.t (.t (.t .h))))))))).pk (.t (.t (.t (.t (.t (.t (.t (.t .h))))))))).pk (.t (.t (.t (.t (.t (.t (.t (.t .h))))))))).pk (.t (.t (.t (.t (.t (.t (.t (.t .h))))))))).pk (.t (.t (.t (.t (.t (.t (.t (.t (.t .h)))))))))
          refine yM (kt := 9) (e := 22) (v := (vH e8)) (key := iO.1) (u := (JC, b4.length, N9)) (a := b4) [] (by kernel_rfl) Nv ?_
          intro Ya Dy
          refine ag <| ae <| ax ?_
          obtain ⟨u, Ap, hm⟩ := ob hm
          refine aW 5 [] (.n 147 (.s (e_ ++ iO.1)) (.n 148 (pt g2 1) (.nG (.bH (.kk (.s .a)))))) (qs g2 0 <| qB Dy 6 rfl 1 (.s e_) (by kernel_rfl) <| qp (e_.length + iO.1.length ≤ 9223372036854775807) (fK Ap) <| qs g2 0 <| qe) (by kernel_rfl) ?_
          refine ai <| iQ [] 6 (.s (e_ ++ iO.1)) [.s (e_ ++ iO.1)] (Pt.at g2 1) Dy rfl (.k .h) (by kernel_rfl) (by kernel_rfl) ?_
          intro Yb Ic
          have QO := Ic.bD (.bH (.bH .z))
          refine ag <| gm ?_
          have Kv := (((((((QO.pk (.t (.t (.t (.t (.t (.t (.t .h)))))))).pk (.t (.t (.t (.t (.t (.t (.t .h)))))))).pk (.t (.t (.t (.t (.t (.t (.t .h)))))))).pk (.t (.t (.t (.t (.t (.t (.t .h)))))))).pk (.t (.t (.t (.t .h))))).pk (.t (.t (.t (.t (.t (.t (.t .h)))))))).pk (.t (.t (.t (.t (.t (.t (.t .h)))))))).pk (.t (.t (.t (.t (.t (.t (.t .h)))))))
          exact oJ ⟨iO.2, dD JV iO.1 b4, e_ ++ iO.1, hm, rfl, Kv⟩ (by kernel_rfl)
        · simp only [hf3, Option.elim_some] at hm
          refine aW 5 [] (.n 24 (sl A1 qw.length c3) (.n 25 (.b true) (.nG .a))) qe (by kernel_rfl) ?_
          refine ag <| ae <| vG (fun L wr => nT ah aj JV e_ kK b4 iO qw  = some y1 ∧ L = [(0, pt eU 0), (1, .s snap), (14, .v (.map (some b2))), (15, .v (.map (some b3))), (17, pt g1 0), (18, pt g2 0), (22, sl JC b4.length N9), (23, .s iO.1), (24, sl A1 qw.length c3), (25, .b true), (91, sl qi files.length sQ), (92, I ((files.length : Nat) : Int)), (93, I iy), (107, sl A ja.1.length c2), (108, I ((ja.1.length : Nat) : Int)), (109, I kK)] ∧ Cx F O w wr [Bx 82 eU [I iO.2, .v (.map (some ak)), .v (.map (some au))], MS (vH e8) ak ah, MS (vM (vS (eP eI eS) (bT bP bQ))) au aj, MS (vH e8) b2 JV, MS (vS (eP eI eS) (bT bP bQ)) b3 DR, Bx 113 g1 [.s iR.1, sl B1 iR.2.length c1], Bx 99 g2 [I ((iR.2.length : Nat) : Int), .s e_], OG eH (SH e8) A ja.1.length c2 hd ja.1, Sh (SH e8) [(A1, qw.length, c3)] [qw]]) ?_ ?_
          ·
           refine af <| bg [] (.n 126 (.b false) .a) qe (by kernel_rfl) ?_
           refine ae <| bC false (by kernel_rfl) (fun h => by cases h) (fun _ => ?_)
           refine aS ?_
           have Pm := ((((((((Nu.pk .h).pk (.t (.t (.t (.t (.t (.t (.t (.t .h))))))))).pk (.t (.t (.t (.t (.t (.t (.t (.t .h))))))))).pk (.t (.t (.t (.t (.t (.t (.t (.t .h))))))))).pk (.t (.t (.t (.t (.t (.t (.t (.t .h))))))))).pk (.t (.t (.t (.t (.t (.t (.t (.t .h))))))))).pk (.t (.t (.t (.t (.t (.t (.t (.t .h))))))))).pk (.t (.t (.t (.t (.t (.t (.t .h)))))))).pk (.t (.t (.t (.t (.t (.t (.t (.t .h))))))))
           exact oJ ⟨hm, rfl, Pm⟩ (by kernel_rfl)
          rintro L_ w_21 ⟨hm, rfl, Ie⟩
          simp only [nT] at hm
          refine af <| af <| bg [134] (.n 140 (.b (decide (qw ≠ b4))) (.bH (.bH (.ss .a)))) (qo (.s qw) <| qc (fun w => Rd w A1 (qw.map bV) ∧ qw.length = qw.length) ⟨uz qw ▸ (Ie.J7 8 rfl), (Ie.ig 8 rfl)⟩ <| qo (.s b4) <| qc (fun w => Rd w JC (b4.map bV) ∧ b4.length = b4.length) ⟨uz b4 ▸ (Ie.Y4 7 rfl Et hh), rfl⟩ <| qe) (by kernel_rfl) ?_
          refine ae <| aZ (qw ≠ b4) (by kernel_rfl) (fun Yc => ?_) (fun Yc => ?_)
          · rw [if_pos Yc] at hm
            refine af <| bg [] (.n 6 (I 271) .z) qe (by kernel_rfl) ?_
            refine ae <| aN (bz (fA (bz (bz (fA (bz (fA (bz (bz (fA (bz ?_)))))))))))
            have hm := cO hm hr1
            have hm := cO hm hr0
            obtain rfl := Option.some.inj hm
            refine aO [I 271] qe (by kernel_rfl) ?_
            have Ig := Ie.bD (.kk (.k .z))
            exact ⟨rfl, Ig⟩
          rw [if_neg Yc] at hm
          refine aS <| ae <| af <| ax <| aW 3 [] (.n 141 (.v (.map (some b2))) (.n 142 (.s iO.1) (.n 143 (sl JC b4.length N9) (.s (.bH (.kk (.s .a))))))) qe (by kernel_rfl) ?_
          refine ai ?_
          have Pn := Ie.Y5 7 rfl Et hh
          have Kw := (((((((((Pn.pk (.t (.t (.t (.t (.t (.t (.t (.t (.t .h)))))))))).pk (.t (.t (.t (.t (.t (.t (.t (.t (.t .h)))))))))).pk (.t (.t (.t (.t (.t (.t (.t (.t (.t .h)))))))))).pk (.t (.t (.t (.t (.t (.t (.t (.t (.t .h)))))))))).pk (.t (.t (.t (.t (.t (.t (.t (.t (.t .h)))))))))).pk (.t (.t (.t (.t (.t (.t (.t (.t .h))))))))).pk (.t (.t (.t (.t (.t (.t (.t (.t .h))))))))).pk (.t (.t (.t (.t (.t (.t (.t (.t .h))))))))).pk (.t (.t (.t (.t (.t (.t (.t (.t .h))))))))).pk (.t (.t (.t (.t (.t (.t (.t (.t (.t .h)))))))))
          refine yM (kt := 9) (e := 22) (v := (vH e8)) (key := iO.1) (u := (JC, b4.length, N9)) (a := b4) [] (by kernel_rfl) Kw ?_
          intro w_22 Kz
          refine ag <| ae <| ax ?_
          obtain ⟨u0, h_u0, hm⟩ := ob hm
          refine aW 5 [] (.n 147 (.s (e_ ++ iO.1)) (.n 148 (pt g2 1) (.nG (.bH (.kk (.s .a)))))) (qs g2 0 <| qB Kz 6 rfl 1 (.s e_) (by kernel_rfl) <| qp (e_.length + iO.1.length ≤ 9223372036854775807) (fK h_u0) <| qs g2 0 <| qe) (by kernel_rfl) ?_
          refine ai <| iQ [] 6 (.s (e_ ++ iO.1)) [.s (e_ ++ iO.1)] (Pt.at g2 1) Kz rfl (.k .h) (by kernel_rfl) (by kernel_rfl) ?_
          intro w_23 Po
          have Pq := Po.bD (.bH (.bH .z))
          refine ag <| gm ?_
          have Ih := (((((((Pq.pk (.t (.t (.t (.t (.t (.t (.t .h)))))))).pk (.t (.t (.t (.t (.t (.t (.t .h)))))))).pk (.t (.t (.t (.t (.t (.t (.t .h)))))))).pk (.t (.t (.t (.t (.t (.t (.t .h)))))))).pk (.t (.t (.t (.t .h))))).pk (.t (.t (.t (.t (.t (.t (.t .h)))))))).pk (.t (.t (.t (.t (.t (.t (.t .h)))))))).pk (.t (.t (.t (.t (.t (.t (.t .h)))))))
          exact oJ ⟨iO.2, dD JV iO.1 b4, e_ ++ iO.1, hm, rfl, Ih⟩ (by kernel_rfl)
       rintro L_ w_24 ⟨d2, ZX, OU, hm, rfl, Nw⟩
       simp only [iU] at hm
       refine bg [] (.n 109 (I (aI (kK + 1))) (.bH (.bH (.Dl .z)))) qe (by kernel_rfl) ?_
       exact jU (d2, ZX, OU, aI (kK + 1)) (Option.some.inj hm).symm ⟨d2, ZX, OU, aI (kK + 1), rfl, rfl, Nw⟩ (by kernel_rfl)
     rw [if_neg Ol] at hm
     refine dY (bU (bU (iL ?_)))
     have hm := cO hm hr1
     refine ae <| ax <| aW 4 [] (.n 150 (.v (.map (some b3))) (.n 152 (.s iR.1) (.n 153 (.agg [I ((iR.2.length : Nat) : Int), .s e_]) (.s (.bH (.ss (.Dl .z))))))) (qs g1 0 <| qB qK 5 rfl 0 (.s iR.1) (by kernel_rfl) <| qT qK 6 rfl 0 2 [I ((iR.2.length : Nat) : Int), .s e_] (by kernel_rfl) (by decide) <| qe) (by kernel_rfl) ?_
     refine ai ?_
     have Wp := (((((((qK.pk (.t (.t (.t (.t (.t (.t (.t .h)))))))).pk (.t (.t (.t (.t (.t (.t (.t .h)))))))).pk (.t (.t (.t (.t (.t (.t (.t .h)))))))).pk (.t (.t (.t (.t (.t (.t .h))))))).pk (.t (.t (.t (.t (.t (.t .h))))))).pk (.t (.t (.t (.t (.t (.t .h))))))).pk (.t (.t (.t (.t (.t (.t .h))))))).pk (.t (.t (.t (.t (.t (.t (.t .h)))))))
     refine Iq (kt := 9) (e := 99) (v := (vS (eP eI eS) (bT bP bQ))) (key := iR.1) rfl [] (((iR.2.length : Nat) : Int), e_) (by kernel_rfl) Wp ?_
     intro w_25 QV
     refine ag <| gm <| ae <| bg [] (.n 93 (I (aI (iy + 1))) (.nG (.bH (.kk .z)))) qe (by kernel_rfl) ?_
     have Wq := (((((QV.pk .h).pk (.t (.t (.t (.t .h))))).pk (.t (.t (.t (.t .h))))).pk (.t (.t (.t (.t .h))))).pk (.t (.t (.t (.t .h))))).bD (.bH (.k .z))
     exact jU (d1, JV, dD DR iR.1 (((iR.2.length : Nat) : Int), e_), aI (iy + 1)) (Option.some.inj hm).symm ⟨d1, JV, dD DR iR.1 (((iR.2.length : Nat) : Int), e_), aI (iy + 1), rfl, rfl, Wq⟩ (by kernel_rfl)
   rw [if_neg hc6] at hm
   refine dY (bU (bU (iL ?_)))
   have hm := cO hm hr0
   refine ae <| af <| af <| ax <| aW 1 [] (.n 155 (.v (.map (some b2))) (.s (.kk (.s (.k .z))))) qe (by kernel_rfl) ?_
   refine ai ?_
   have T_ := ((((qH.pk (.t (.t (.t (.t .h))))).pk (.t (.t (.t .h)))).pk (.t (.t (.t .h)))).pk (.t (.t (.t .h)))).pk (.t (.t (.t (.t .h))))
   refine xU (kt := 9) (e := 22) [] 156 (by kernel_rfl) T_ ?_
   intro ug w_26 Wu
   refine ag <| ae <| aJ ?_
   obtain ⟨s_, Wv, hm⟩ := ob hm
   have QW := ((((Wu.pk .h).pk (.t (.t (.t (.t .h))))).pk (.t (.t (.t (.t .h))))).pk (.t (.t (.t (.t .h))))).pk (.t (.t (.t (.t .h))))
   refine OI (fun QL L wr => ∃ (m_6 : Mp (List UInt8)) (left : Mp (List UInt8)) (cur : Option (Ky × (List UInt8))), left.length = QL ∧ lG (iW) m_6 left = some s_ ∧ L = [(0, pt eU 0), (1, .s snap), (15, .v (.map (some b3))), (156, .v (.pointer (some ⟨ug, 0, none⟩)))] ∧ Cx F O w wr [Bx 82 eU [I d, .v (.map (some ak)), .v (.map (some au))], MS (vH e8) ak m_6, MS (vM (vS (eP eI eS) (bT bP bQ))) au aj, MS (vS (eP eI eS) (bT bP bQ)) b3 DR, MV (vH e8) false b2 ug y8 left cur]) y8.length ⟨ah, y8, none, rfl, Wv, rfl, QW⟩ (by kernel_rfl) ?_
   rintro kn L_ w_27 ⟨m_6, left, cur, rfl, hf6, rfl, Ua⟩
   refine af <| ax <| ai ?_
   have KH := ((((Ua.pk (.t (.t (.t .h)))).pk (.t (.t (.t .h)))).pk (.t (.t (.t .h)))).pk (.t (.t (.t .h)))).pk (.t (.t (.t (.t .h))))
   refine wE [] 157 (by kernel_rfl) KH (fun hl Ub => ?_) (fun key lh left1 v w_28 hp hnd JD => ?_)
   ·
     have hy2 := CG hl hf6
     obtain rfl := hy2.symm
     have Ij := Ub.KZ
     refine aW 1 [] (.n 158 (.b false) (.s (.Dl .z))) qe (by kernel_rfl) ?_
     refine ag <| ae <| af <| bC false (by kernel_rfl) (fun h => by cases h) (fun _ => ?_)
     refine dY (bU (bU (iL ?_)))
     refine ae <| af <| ax <| aW 6 [] (.n 171 (.v (.map (some au))) (.n 172 (.s snap) (.n 173 (.v (.map (some b3))) .z))) (qs eU 0 <| qs eU 0 <| qB Ij 1 rfl 2 (.v (.map (some au))) (by kernel_rfl) <| qe) (by kernel_rfl) ?_
     refine ai ?_
     have Wx := ((((Ij.pk (.t (.t (.t .h)))).pk (.t (.t (.t .h)))).pk (.t (.t (.t .h)))).pk (.t (.t (.t .h)))).pk (.t (.t (.t (.t .h))))
     have Wy := Wx.Vg
     have WA := Wy.l7 0 rfl
     have Uc := (((((WA.pk (.t (.t (.t (.t .h))))).pk (.t (.t (.t (.t .h))))).pk (.t (.t (.t (.t .h))))).pk (.t (.t (.t (.t .h))))).pk (.t (.t (.t (.t .h))))).pk (.t (.t (.t (.t (.t .h)))))
     refine yM (kt := 9) (e := 85) (v := (vM (vS (eP eI eS) (bT bP bQ)))) (key := snap) (u := b3) (a := DR) [] (by kernel_rfl) Uc ?_
     intro w_29 WB
     refine ag <| ae <| af <| bg [] (.n 6 (I 0) .z) qe (by kernel_rfl) ?_
     refine ae <| aN ?_
     obtain rfl := Option.some.inj hm
     refine aO [I 0] qe (by kernel_rfl) ?_
     have k_84 := (((WB.pk .h).pk (.t (.t (.t (.t .h))))).pk (.t (.t (.t (.t .h))))).bD (.kk (.k .z))
     exact ⟨rfl, k_84⟩
   ·
     obtain ⟨sn, hm, hf7⟩ := zX (AZ) hp hnd hf6
     simp only [iW] at hm
     refine aW 1 [] (.n 158 (.b true) (.s .a)) qe (by kernel_rfl) ?_
     refine ag <| ae <| af <| bC true (by kernel_rfl) (fun _ => ?_) (fun h => by cases h)
     refine aS <| ae <| aJ <| af <| ax <| ai <| Gq [] 159 (by kernel_rfl) JD ?_
     intro A4 c6 Yf
     refine aW 4 [] (.n 26 (.s key) (.n 27 (sl A4 lh.length c6) (.ss .a))) qe (by kernel_rfl) ?_
     refine ag <| ae <| ax <| aW 6 [] (.n 165 (.v (.map (some ak))) (.n 166 (.s key) (.n 167 (sl A4 lh.length c6) (.ss .a)))) (qs eU 0 <| qs eU 0 <| qB Yf 2 rfl 1 (.v (.map (some ak))) (by kernel_rfl) <| qe) (by kernel_rfl) ?_
     refine ai ?_
     have k_86 := Yf.l7 0 rfl
     have k_87 := ((((((k_86.pk (.t (.t (.t (.t (.t (.t .h))))))).pk (.t (.t (.t (.t (.t (.t .h))))))).pk (.t (.t (.t (.t (.t .h)))))).pk (.t (.t (.t (.t (.t .h)))))).pk (.t (.t (.t (.t (.t .h)))))).pk (.t (.t (.t (.t (.t .h)))))).pk (.t (.t (.t (.t (.t (.t .h))))))
     refine yM (kt := 9) (e := 22) (v := (vH e8)) (key := key) (u := (A4, lh.length, c6)) (a := lh) [] (by kernel_rfl) k_87 ?_
     intro w_30 k_88
     refine ag <| gm ?_
     have k_89 := (((((k_88.pk (.t (.t .h))).pk (.t (.t (.t (.t (.t .h)))))).pk (.t (.t (.t (.t (.t .h)))))).pk (.t (.t (.t .h)))).pk (.t (.t (.t (.t (.t .h)))))).bD (.bH (.k .z))
     obtain rfl := Option.some.inj hm
     exact EY left1.length (by have h_ := hp.length_eq; simp only [List.length_cons] at h_; omega) ⟨dD m_6 key lh, left1, (some (key, lh)), rfl, hf7, rfl, k_89⟩ (by kernel_rfl)
 · simp only [hf1, Option.elim_some] at hm
   refine aW 5 [] (.n 8 (.b true) (.nG .a)) qe (by kernel_rfl) ?_
   refine ag <| ae <| af <| aJ <| af <| ax <| aW 1 [] (.n 40 (.s snap) .a) qe (by kernel_rfl) ?_
   refine ai ?_
   obtain ⟨Gf, Jq, hm⟩ := ob hm
   refine ay [] 41 _ Fz (by kernel_rfl) (rU (F := N0) (O := N0) _ (Cx.refl _) _ Jq) ?_
   rintro e_ w_31 ⟨rfl, k_90⟩
   have k_91 := fM.call k_90
   refine ⟨.b Gf, rfl, ?_⟩
   have k_92 := k_91.bD (.s (.kk (.k .e)))
   refine aW 2 [] (.n 39 (.b (!Gf)) (.ss .a)) qe (by kernel_rfl) ?_
   refine ag <| ae <| bC (!Gf) (by kernel_rfl) (fun hc0 => ?_) (fun hc0 => ?_)
   · rw [if_pos hc0] at hm
     refine af <| bg [] (.n 6 (I 214) .z) qe (by kernel_rfl) ?_
     refine ae <| aN (fA (bz ?_))
     obtain rfl := Option.some.inj hm
     refine aO [I 214] qe (by kernel_rfl) ?_
     have k_93 := ((k_92.pk .h).pk (.t (.t .h))).pk (.t (.t .h))
     exact ⟨rfl, k_93⟩
   rw [if_neg (by rw [hc0]; decide)] at hm
   refine af <| bg [] (.n 43 (.b true) (.ss .a)) qe (by kernel_rfl) ?_
   refine ae <| bC true (by kernel_rfl) (fun _ => ?_) (fun h => by cases h)
   refine af <| bg [] (.n 6 (I 213) .z) qe (by kernel_rfl) ?_
   refine ae <| aN (fA (bz ?_))
   obtain rfl := Option.some.inj hm
   refine aO [I 213] qe (by kernel_rfl) ?_
   have k_94 := ((k_92.pk .h).pk (.t (.t .h))).pk (.t (.t .h))
   exact ⟨rfl, k_94⟩
theorem DC {F O : Nat → Prop} {w : World} (aY : Int) (ah : Mp (List UInt8)) (aj : Mp (Mp (Int × List UInt8))) (eU : Nat) (ak : Nat) (au : Nat) (k : Cx F O w w [Bx 82 eU [I aY, .v (.map (some ak)), .v (.map (some au))], MS (vH e8) ak ah, MS (vM (vS (eP eI eS) (bT bP bQ))) au aj]) (r : (List (List UInt8) × Int)) (hm : nU aY ah aj = some r) :
    Calls Tryz.prog 13 (vals [pt eU 0]) w (fun e w' => ∃ A n c, r.1.length = n ∧ e = .returned (SV.val (sl A n c)) ∧ Cx F O w w' [Ow eS A n c r.1, Bx 82 eU [I r.2, .v (.map (some ak)), .v (.map (some au))], MS (vH e8) ak ah, MS (vM (vS (eP eI eS) (bT bP bQ))) au aj]) := by
 unfold nU at hm
 refine calls [pt eU 0] Tryz.func13 rfl (of_decide_eq_true (by kernel_rfl)) ?_
 refine af <| bg [] .a qe (by kernel_rfl) ?_
 refine ae <| af <| af <| ax <| aW 1 [] (.n 3 (pt eU 0) .a) qe (by kernel_rfl) ?_
 refine ai ?_
 obtain ⟨r_, dV, hm⟩ := ob hm
 obtain ⟨F1, O1, kin, hO, hre, hF, hb⟩ := k.go (.i (.i (.i .e)))
 refine ay [] 4 _ Am (by kernel_rfl) (jI (F := F1) (O := O1) _ _ _ _ _ _ kin _ dV) ?_
 rintro e_ w_ ⟨rfl, k_⟩
 have dK := hb w_ _ _ k_ (.c (.c (.c .n)))
 refine ⟨.b false, rfl, ?_⟩
 refine ag <| ae <| bC false (by kernel_rfl) (fun h => by cases h) (fun _ => ?_)
 refine aS <| ae <| af <| ax <| aW 4 [] (.n 8 (.v (.map (some au))) .z) (qs eU 0 <| qs eU 0 <| qB dK 0 rfl 2 (.v (.map (some au))) (by kernel_rfl) <| qe) (by kernel_rfl) ?_
 refine ai ?_
 obtain ⟨aQ, fG, hm⟩ := ob hm
 obtain ⟨F11, H7, wX, TU, Gx, hF1, hb1⟩ := dK.go (.r (.r (.i .e)))
 refine ay [] 9 _ Si (by kernel_rfl) (mF (F := F11) (O := H7) _ _ wX _ fG) ?_
 rintro e_ o9 ⟨A0, _, c0, rfl, rfl, fF⟩
 have fM := hb1 o9 _ _ fF (.c (.c .n))
 refine ⟨sl A0 aQ.length c0, rfl, ?_⟩
 refine aW 1 [] (.n 2 (sl A0 aQ.length c0) .z) qe (by kernel_rfl) ?_
 refine ag <| ae <| aN ?_
 obtain rfl := Option.some.inj hm
 refine aO [sl A0 aQ.length c0] qe (by kernel_rfl) ?_
 have g_ := (((fM.pk (.t .h)).pk (.t (.t (.t .h)))).pk (.t (.t (.t .h)))).pk (.t (.t (.t .h)))
 exact ⟨A0, aQ.length, c0, g_.len 0 rfl, rfl, g_⟩
theorem EC {F O : Nat → Prop} {w : World} (aY : Int) (ah : Mp (List UInt8)) (aj : Mp (Mp (Int × List UInt8))) (snap : List UInt8) (eU : Nat) (ak : Nat) (au : Nat) (k : Cx F O w w [Bx 82 eU [I aY, .v (.map (some ak)), .v (.map (some au))], MS (vH e8) ak ah, MS (vM (vS (eP eI eS) (bT bP bQ))) au aj]) (r : (Int × Int × (Mp (Mp (Int × List UInt8))))) (hm : oD aY ah aj snap = some r) :
    Calls Tryz.prog 24 (vals [pt eU 0, .s snap]) w (fun e w' => e = .returned (SV.val (I r.1)) ∧ Cx F O w w' [Bx 82 eU [I r.2.1, .v (.map (some ak)), .v (.map (some au))], MS (vH e8) ak ah, MS (vM (vS (eP eI eS) (bT bP bQ))) au r.2.2]) := by
 unfold oD at hm
 refine calls [pt eU 0, .s snap] Tryz.func24 rfl (of_decide_eq_true (by kernel_rfl)) ?_
 refine af <| bg [] .a qe (by kernel_rfl) ?_
 refine ae <| af <| af <| ax <| aW 1 [] (.n 7 (pt eU 0) .a) qe (by kernel_rfl) ?_
 refine ai ?_
 obtain ⟨r_, dV, hm⟩ := ob hm
 obtain ⟨F1, O1, kin, hO, hre, hF, hb⟩ := k.go (.i (.i (.i .e)))
 refine ay [] 8 _ Am (by kernel_rfl) (jI (F := F1) (O := O1) _ _ _ _ _ _ kin _ dV) ?_
 rintro e_ w_ ⟨rfl, k_⟩
 have dK := hb w_ _ _ k_ (.c (.c (.c .n)))
 refine ⟨.b false, rfl, ?_⟩
 refine ag <| ae <| bC false (by kernel_rfl) (fun h => by cases h) (fun _ => ?_)
 refine aS <| ae <| af <| af <| ax <| aW 5 [] (.n 13 (.v (.map (some au))) (.n 14 (.s snap) (.ss .a))) (qs eU 0 <| qs eU 0 <| qB dK 0 rfl 2 (.v (.map (some au))) (by kernel_rfl) <| qe) (by kernel_rfl) ?_
 refine ai ?_
 have fF := ((dK.pk (.t .h)).pk (.t .h)).pk (.t (.t .h))
 refine Gp (kt := 9) (e := 85) (v := (vS (eP eI eS) (bT bP bQ))) (m := aj) (key := snap) [] 15 (by kernel_rfl) (by kernel_rfl) fF.acc (fun hf => ?_) (fun b aQ hf1 fM => ?_)
 · simp only [hf, Option.elim_none] at hm
   refine aW 5 [] (.n 6 (.b false) (.nG .a)) qe (by kernel_rfl) ?_
   refine ag <| ae <| af <| bg [] (.n 19 (.b true) (.s .a)) qe (by kernel_rfl) ?_
   refine ae <| bC true (by kernel_rfl) (fun _ => ?_) (fun h => by cases h)
   refine af <| bg [] (.n 4 (I 272) .z) qe (by kernel_rfl) ?_
   refine ae <| aN (bz ?_)
   obtain rfl := Option.some.inj hm
   refine aO [I 272] qe (by kernel_rfl) ?_
   have g_ := ((fF.pk .h).pk (.t (.t .h))).pk (.t (.t .h))
   exact ⟨rfl, g_⟩
 · simp only [hf1, Option.elim_some] at hm
   refine aW 5 [] (.n 6 (.b true) (.nG .a)) qe (by kernel_rfl) ?_
   refine ag <| ae <| af <| bg [] (.n 19 (.b false) (.s .a)) qe (by kernel_rfl) ?_
   refine ae <| bC false (by kernel_rfl) (fun h => by cases h) (fun _ => ?_)
   refine aS <| ae <| af <| ax <| aW 5 [] (.n 23 (.v (.map (some au))) (.n 24 (.s snap) .z)) (qs eU 0 <| qs eU 0 <| qB fM 2 rfl 2 (.v (.map (some au))) (by kernel_rfl) <| qe) (by kernel_rfl) ?_
   refine ai ?_
   have gX := (((fM.pk (.t (.t (.t .h)))).pk (.t (.t (.t .h)))).pk (.t (.t .h))).pk (.t (.t (.t .h)))
   refine XK (kt := 9) (e := 85) (key := snap) [] (by kernel_rfl) gX ?_
   intro o9 jb
   refine ag <| ae <| af <| bg [] (.n 4 (I 0) .z) qe (by kernel_rfl) ?_
   refine ae <| aN ?_
   obtain rfl := Option.some.inj hm
   refine aO [I 0] qe (by kernel_rfl) ?_
   have jf := (((jb.pk .h).pk (.t (.t (.t .h)))).pk (.t (.t (.t .h)))).bD (.kk (.k .z))
   exact ⟨rfl, jf⟩
theorem FV {F O : Nat → Prop} {w : World} (aY : Int) (ah : Mp (List UInt8)) (aj : Mp (Mp (Int × List UInt8))) (s_ : List UInt8) (eU : Nat) (ak : Nat) (au : Nat) (GN : Nat) (Au : Mp (Mp (Int × List UInt8))) (Cb : Option (Ky × (Mp (Int × List UInt8)))) (k : Cx F O w w [Bx 82 eU [I aY, .v (.map (some ak)), .v (.map (some au))], MS (vH e8) ak ah, MV (vM (vS (eP eI eS) (bT bP bQ))) false au GN aj Au Cb]) (r : (List (List UInt8) × Int)) (hm : eX aY ah aj s_ = some r) :
    Calls Tryz.prog 52 (vals [pt eU 0, .s s_]) w (fun e w' => ∃ A n c, r.1.length = n ∧ e = .returned (SV.val (sl A n c)) ∧ Cx F O w w' [Ow eS A n c r.1, Bx 82 eU [I r.2, .v (.map (some ak)), .v (.map (some au))], MS (vH e8) ak ah, MV (vM (vS (eP eI eS) (bT bP bQ))) false au GN aj Au Cb]) := by
 unfold eX at hm
 refine calls [pt eU 0, .s s_] Tryz.func52 rfl (of_decide_eq_true (by kernel_rfl)) ?_
 refine af <| bg [] .a qe (by kernel_rfl) ?_
 refine ae <| af <| bg [] (.n 5 (sl none 0 0) .a) qe (by kernel_rfl) ?_
 refine ae <| af <| aJ ?_
 have dK := k.nil eS
 refine pg (eG aY) (fun s L wr => ∃ (yR : List UInt8) (l : List (List UInt8)) (A0 : Option Addr) (n0 : Nat) (c0 : Nat), (yR, l) = s ∧ L = [(0, pt eU 0), (1, .s yR), (5, sl A0 n0 c0)] ∧ l.length = n0 ∧ Cx F O w wr [Bx 82 eU [I aY, .v (.map (some ak)), .v (.map (some au))], MS (vH e8) ak ah, MV (vM (vS (eP eI eS) (bT bP bQ))) false au GN aj Au Cb, Ow eS A0 n0 c0 l]) (s_, ([] : List (List UInt8))) r hm ⟨s_, ([] : List (List UInt8)), none, 0, 0, rfl, rfl, dK.len 3 rfl, dK⟩ (by kernel_rfl) ?_
 intro BU L_ w_ y0 hrel hstep hr0
 obtain ⟨yR, l, A0, _, c0, rfl, rfl, rfl, k_⟩ := hrel
 have hm := hstep; simp only [eG] at hm
 clear hstep
 refine af <| af <| bg [] (.n 8 (.b (decide (0 < (yR.length : Int)))) .a) qe (by kernel_rfl) ?_
 refine ae <| aZ (0 < (yR.length : Int)) (by kernel_rfl) (fun hc => ?_) (fun hc => ?_)
 · rw [if_pos hc] at hm
   refine aS <| ae <| af <| aJ <| ax ?_
   obtain ⟨Nb, WC, hm⟩ := ob hm
   have hs := iq WC
   refine aW 7 [] (.n 15 (sl A0 l.length c0) (.n 21 (.s Nb) (.s .a))) (qs eU 0 <| qs eU 0 <| qB k_ 0 rfl 0 (I aY) (by kernel_rfl) <| qp (0 ≤ aY ∧ aY ≤ ((yR.length : Nat) : Int)) (by omega) <| qo (.s Nb) <| qp ((yR.take (Int.toNat aY)).drop 0 = Nb) hs.2.2.2.symm <| qe) (by kernel_rfl) ?_
   refine ai <| uA sN eS [] 22 ([Nb] : List (List UInt8)) [(0, .s Nb)] [.s Nb] (by kernel_rfl) (by kernel_rfl) (by kernel_rfl) k_ ?_
   intro A1 o9 fF
   refine ai ?_
   obtain ⟨l1, TT, hm⟩ := ob hm
   obtain ⟨hz, hl⟩ := fO TT
   refine dL (E := eS) (v := sl A1 1 1) (ys := ([Nb] : List (List UInt8))) sN [] 23 3 (by kernel_rfl) fF rfl (Src.sl (fF.rd 4 rfl) (fF.len 4 rfl) (by rfl)) (fF.len 4 rfl) (by have := fF.len 3 rfl; have := (fF.len 4 rfl); omega) ?_
   intro A2 c1 sZ fM
   rw [← hl] at fM
   have g_ := fM.bD (.bH .z)
   refine aW 1 [] (.n 5 (sl A2 (l.length + 1) c1) (.kJ (.kk .z))) qe (by kernel_rfl) ?_
   refine ag <| gm <| ae ?_
   obtain ⟨QH, WE, hm⟩ := ob hm
   have hs1 := iq WE
   refine bg [] (.n 1 (.s QH) (.kk .z)) (qs eU 0 <| qs eU 0 <| qB g_ 0 rfl 0 (I aY) (by kernel_rfl) <| qp (0 ≤ aY ∧ aY ≤ ((yR.length : Nat) : Int)) (by omega) <| qo (.s QH) <| qp ((yR.take yR.length).drop (Int.toNat aY) = QH) hs1.2.2.2.symm <| qe) (by kernel_rfl) ?_
   exact jU (QH, l1) (Option.some.inj hm).symm ⟨QH, l1, A2, l.length + 1, c1, rfl, rfl, g_.len 3 rfl, g_⟩ (by kernel_rfl)
 rw [if_neg hc] at hm
 refine dY (bU (bU (iL ?_)))
 have hm := cO hm hr0
 refine ae <| af <| bg [] (.n 4 (sl A0 l.length c0) .z) qe (by kernel_rfl) ?_
 refine ae <| aN ?_
 obtain rfl := Option.some.inj hm
 refine aO [sl A0 l.length c0] qe (by kernel_rfl) ?_
 have gX := (((k_.pk (.t (.t .h))).pk (.t (.t .h))).pk (.t (.t .h))).pk (.t (.t (.t .h)))
 exact ⟨A0, l.length, c0, gX.len 0 rfl, rfl, gX⟩
theorem yI {F O : Nat → Prop} {w : World} (aY : Int) (ah : Mp (List UInt8)) (aj : Mp (Mp (Int × List UInt8))) (eU : Nat) (ak : Nat) (au : Nat) (k : Cx F O w w [Bx 82 eU [I aY, .v (.map (some ak)), .v (.map (some au))], MS (vH e8) ak ah, MS (vM (vS (eP eI eS) (bT bP bQ))) au aj]) (r : (Mp Int × Int)) (hm : kT aY ah aj = some r) :
    Calls Tryz.prog 47 (vals [pt eU 0]) w (fun e w' => ∃ b, e = .returned (SV.val (.v (.map (some b)))) ∧ Cx F O w w' [MS vI b r.1, Bx 82 eU [I r.2, .v (.map (some ak)), .v (.map (some au))], MS (vH e8) ak ah, MS (vM (vS (eP eI eS) (bT bP bQ))) au aj]) := by
 unfold kT at hm
 refine calls [pt eU 0] Tryz.func47 rfl (of_decide_eq_true (by kernel_rfl)) ?_
 refine af <| bg [] .a qe (by kernel_rfl) ?_
 refine ae <| af <| ax <| ai <| uB [] 10 (by kernel_rfl) k ?_
 intro b0 w_ k_
 have dK := k_.zY (v := vI)
 refine aW 1 [] (.n 3 (.v (.map (some b0))) (.s .a)) qe (by kernel_rfl) ?_
 refine ag <| ae <| af <| af <| ax <| aW 4 [] (.n 14 (.v (.map (some au))) .a) (qs eU 0 <| qs eU 0 <| qB dK 1 rfl 2 (.v (.map (some au))) (by kernel_rfl) <| qe) (by kernel_rfl) ?_
 refine ai ?_
 have fF := (((dK.pk (.t (.t .h))).pk (.t (.t .h))).pk (.t (.t .h))).pk (.t (.t (.t .h)))
 refine xU (kt := 9) (e := 85) [] 15 (by kernel_rfl) fF ?_
 intro r_ o9 fM
 refine ag <| ae <| aJ ?_
 obtain ⟨s_, Wv, hm⟩ := ob hm
 have g_ := (((fM.pk (.t .h)).pk (.t .h)).pk (.t (.t (.t .h)))).pk (.t (.t (.t .h)))
 refine OI (fun QL L wr => ∃ (d : Int) (uY : Mp Int) (left : Mp (Mp (Int × List UInt8))) (cur : Option (Ky × (Mp (Int × List UInt8)))), left.length = QL ∧ lG (jv ah aj) (d, uY) left = some s_ ∧ L = [(0, pt eU 0), (3, .v (.map (some b0))), (15, .v (.pointer (some ⟨r_, 0, none⟩)))] ∧ Cx F O w wr [Bx 82 eU [I d, .v (.map (some ak)), .v (.map (some au))], MS (vH e8) ak ah, MV (vM (vS (eP eI eS) (bT bP bQ))) false au r_ aj left cur, MS vI b0 uY]) aj.length ⟨aY, ([] : Mp Int), aj, none, rfl, Wv, rfl, g_⟩ (by kernel_rfl) ?_
 rintro kn L_ sZ ⟨d, uY, left, cur, rfl, hf, rfl, gX⟩
 refine af <| ax <| ai ?_
 have jb := (((gX.pk (.t (.t (.t .h)))).pk (.t (.t .h))).pk (.t (.t .h))).pk (.t (.t (.t .h)))
 refine wE [] 16 (by kernel_rfl) jb (fun hl jf => ?_) (fun key aC left1 v xk hp hnd jQ => ?_)
 ·
   have hy := CG hl hf
   obtain rfl : d = s_.1 := congrArg (fun z_ => z_.1) hy
   obtain rfl : uY = s_.2 := congrArg (fun z_ => z_.2) hy
   have jS := jf.KZ
   refine aW 1 [] (.n 17 (.b false) (.s (.kk .z))) qe (by kernel_rfl) ?_
   refine ag <| ae <| af <| bC false (by kernel_rfl) (fun h => by cases h) (fun _ => ?_)
   refine dY (bU (bU (iL ?_)))
   refine ae <| af <| bg [] (.n 2 (.v (.map (some b0))) .z) qe (by kernel_rfl) ?_
   refine ae <| aN ?_
   obtain rfl := Option.some.inj hm
   refine aO [.v (.map (some b0))] qe (by kernel_rfl) ?_
   have dJ := (((jS.pk .h).pk (.t (.t .h))).pk (.t (.t .h))).pk (.t (.t (.t .h)))
   exact ⟨b0, rfl, dJ⟩
 ·
   obtain ⟨sn, hm, hf1⟩ := zX (Ai ah aj) hp hnd hf
   simp only [jv] at hm
   refine aW 1 [] (.n 17 (.b true) (.s .a)) qe (by kernel_rfl) ?_
   refine ag <| ae <| af <| bC true (by kernel_rfl) (fun _ => ?_) (fun h => by cases h)
   refine aS <| ae <| aJ <| af <| ax <| ai <| Jb [] 18 (by kernel_rfl) jQ ?_
   intro b1 dB
   refine aW 2 [] (.n 5 (.v (.map (some b1))) (.ss .a)) qe (by kernel_rfl) ?_
   refine ag <| ae <| af <| ax <| aW 1 [] (.n 20 (.v (.map (some b1))) (.s .a)) qe (by kernel_rfl) ?_
   refine ai <| KY (kt := 9) (e := 99) (v := (vS (eP eI eS) (bT bP bQ))) (m := aC) [] 21 0 (by kernel_rfl) dB rfl ?_
   intro aQ xB gz
   refine ag <| ae <| aJ ?_
   obtain ⟨yR, h_s_1, hm⟩ := ob hm
   have iI := (((((gz.pk .h).pk (.t (.t (.t (.t (.t .h)))))).pk (.t (.t (.t .h)))).pk (.t (.t (.t (.t (.t .h)))))).pk (.t (.t (.t (.t (.t .h)))))).bD (.bH (.k .z))
   refine OI (fun QL L wr => ∃ (d1 : Int) (vX : Mp Int) (SB : Mp (Int × List UInt8)) (cur1 : Option (Ky × (Int × List UInt8))), SB.length = QL ∧ lG (dU ah aj) (d1, vX) SB = some yR ∧ L = [(0, pt eU 0), (3, .v (.map (some b0))), (15, .v (.pointer (some ⟨r_, 0, none⟩))), (21, .v (.pointer (some ⟨aQ, 0, none⟩)))] ∧ Cx F O w wr [Bx 82 eU [I d1, .v (.map (some ak)), .v (.map (some au))], MS (vH e8) ak ah, MV (vM (vS (eP eI eS) (bT bP bQ))) false au r_ aj left1 (some (key, aC)), MS vI b0 vX, MV (vS (eP eI eS) (bT bP bQ)) true b1 aQ aC SB cur1]) aC.length ⟨d, uY, aC, none, rfl, h_s_1, rfl, iI⟩ (by kernel_rfl) ?_
   rintro kn1 L_ y5 ⟨d1, vX, SB, cur1, rfl, hf2, rfl, iJ⟩
   refine af <| ax <| ai ?_
   have iK := ((((iJ.pk (.t (.t (.t .h)))).pk (.t (.t (.t .h)))).pk (.t (.t (.t .h)))).pk (.t (.t (.t .h)))).pk (.t (.t (.t (.t .h))))
   refine wE [] 22 (by kernel_rfl) iK (fun hl1 iG => ?_) (fun ZY x_1 WG v1 CW hp1 hnd1 je => ?_)
   ·
     have hy0 := CG hl1 hf2
     obtain rfl : d1 = yR.1 := congrArg (fun z_ => z_.1) hy0
     obtain rfl : vX = yR.2 := congrArg (fun z_ => z_.2) hy0
     have ku := iG.tl
     refine aW 1 [] (.n 23 (.b false) (.s (.Dl .z))) qe (by kernel_rfl) ?_
     refine ag <| ae <| af <| bC false (by kernel_rfl) (fun h => by cases h) (fun _ => ?_)
     refine dY (bU (bU (iL ?_)))
     refine gm ?_
     obtain rfl := Option.some.inj hm
     exact EY left1.length (by have h_ := hp.length_eq; simp only [List.length_cons] at h_; omega) ⟨yR.1, yR.2, left1, (some (key, aC)), rfl, hf1, rfl, ku⟩ (by kernel_rfl)
   ·
     obtain ⟨sn1, hm, hf3⟩ := zX (Ah ah aj) hp1 hnd1 hf2
     simp only [dU] at hm
     refine aW 1 [] (.n 23 (.b true) (.s .a)) qe (by kernel_rfl) ?_
     refine ag <| ae <| af <| bC true (by kernel_rfl) (fun _ => ?_) (fun h => by cases h)
     refine aS <| ae <| aJ <| af <| ax <| ai <| Gn (v := (vS (eP eI eS) (bT bP bQ))) rfl [] 24 (.agg [I x_1.1, .s x_1.2]) (by kernel_rfl) je rfl ?_
     refine aW 1 [] (.n 25 (.agg [I x_1.1, .s x_1.2]) (.ss .a)) qe (by kernel_rfl) ?_
     refine ai <| bJ [] 7 [I 0, .s ([] : List UInt8)] (by kernel_rfl) je ?_
     intro g Du oq
     refine ai <| iQ [] 5 (.agg [I x_1.1, .s x_1.2]) [I x_1.1, .s x_1.2] (Pt.at g 0) oq rfl .all (by kernel_rfl) (by kernel_rfl) ?_
     intro Jn jL
     refine ag <| ae <| af <| ax <| aW 3 [] (.n 26 (pt eU 0) (.n 28 (.s x_1.2) (.ss .a))) (qs g 0 <| qB jL 5 rfl 1 (.s x_1.2) (by kernel_rfl) <| qe) (by kernel_rfl) ?_
     refine ai ?_
     have mQ := jL.bD (.bH (.kk .e))
     obtain ⟨bI, kz, hm⟩ := ob hm
     obtain ⟨F1, O1, kin, hO, hre, hF, hb⟩ := mQ.go (.r (.i (.i (.i (.r (.r .e))))))
     refine ay [] 29 _ Sr (by kernel_rfl) (FV (F := F1) (O := O1) _ _ _ _ _ _ _ _ _ _ kin _ kz) ?_
     rintro e_ JW ⟨A, _, c, rfl, rfl, oM⟩
     have oN := hb JW _ _ oM (.c (.c (.c (.c .n))))
     refine ⟨sl A bI.1.length c, rfl, ?_⟩
     have ni := oN.bD (.bH (.kk .z))
     refine aW 2 [] (.n 30 (I ((bI.1.length : Nat) : Int)) (.n 31 (I 0) (.k (.ss .a)))) qe (by kernel_rfl) ?_
     refine ag <| ae <| aJ ?_
     have pM := (((((ni.pk .h).pk (.t (.t (.t (.t .h))))).pk (.t (.t (.t (.t (.t .h)))))).pk (.t (.t (.t (.t (.t .h)))))).pk (.t (.t (.t (.t (.t .h)))))).pk (.t (.t (.t (.t (.t .h)))))
     refine pg (dQ bI) (fun s L wr => ∃ (y8 : Mp Int) (bY : Int), (y8, bY) = s ∧ L = [(0, pt eU 0), (3, .v (.map (some b0))), (15, .v (.pointer (some ⟨r_, 0, none⟩))), (21, .v (.pointer (some ⟨aQ, 0, none⟩))), (29, sl A bI.1.length c), (30, I ((bI.1.length : Nat) : Int)), (31, I bY)] ∧ Cx F O w wr [Bx 82 eU [I bI.2, .v (.map (some ak)), .v (.map (some au))], MS (vH e8) ak ah, MV (vM (vS (eP eI eS) (bT bP bQ))) false au r_ aj left1 (some (key, aC)), MS vI b0 y8, MV (vS (eP eI eS) (bT bP bQ)) true b1 aQ aC WG (some (ZY, x_1)), Ow eS A bI.1.length c bI.1]) (vX, (0 : Int)) sn1 hm ⟨vX, (0 : Int), rfl, rfl, pM⟩ (by kernel_rfl) ?_
     intro BU L_ BV y0 hrel hstep hr0
     obtain ⟨y8, bY, rfl, rfl, nY⟩ := hrel
     have hm := hstep; simp only [dQ] at hm
     clear hstep
     refine af <| bg [] (.n 32 (.b (decide (bY < ((bI.1.length : Nat) : Int)))) .a) qe (by kernel_rfl) ?_
     refine ae <| af <| aZ (bY < ((bI.1.length : Nat) : Int)) (by kernel_rfl) (fun hc => ?_) (fun hc => ?_)
     · rw [if_pos hc] at hm
       refine aS <| ae <| af <| aJ <| af ?_
       obtain ⟨iy, mf, hm⟩ := ob hm
       refine bg [] (.n 9 (.s iy) (.s .a)) (qW (nY.rd 5 rfl) mf (nY.len 5 rfl) (.s iy) rfl <| qe) (by kernel_rfl) ?_
       refine ae <| ax <| aW 2 [] (.n 35 (.v (.map (some b0))) (.n 36 (.s iy) (.s .a))) qe (by kernel_rfl) ?_
       refine ai ?_
       have ve := (((((nY.pk (.t (.t (.t (.t (.t .h)))))).pk (.t (.t (.t (.t (.t .h)))))).pk (.t (.t (.t (.t .h))))).pk (.t (.t (.t (.t .h))))).pk (.t (.t (.t (.t .h))))).pk (.t (.t (.t (.t (.t .h)))))
       refine zo (kt := 9) (e := 3) (v := vI) (m := y8) (key := iy) rfl [] 37 (0 : Int) (I ((aK y8 iy).getD (0 : Int))) (by kernel_rfl) (by kernel_rfl) ve.acc rfl ?_
       refine aW 1 [] (.n 38 (I (aI (((aK y8 iy).getD (0 : Int)) + 1))) (.s .a)) qe (by kernel_rfl) ?_
       refine ai <| Iq (kt := 9) (e := 3) (v := vI) (key := iy) rfl [] (aI (((aK y8 iy).getD (0 : Int)) + 1)) (by kernel_rfl) ve ?_
       intro Dv qH
       refine ag <| gm <| ae <| bg [] (.n 31 (I (aI (bY + 1))) (.nG (.bH (.kk .z)))) qe (by kernel_rfl) ?_
       have uq := (((((qH.pk (.t (.t (.t (.t (.t .h)))))).pk (.t (.t (.t (.t (.t .h)))))).pk (.t (.t .h))).pk (.t (.t (.t (.t (.t .h)))))).pk (.t (.t (.t (.t (.t .h)))))).pk (.t (.t (.t (.t (.t .h)))))
       exact jU (dD y8 iy (aI (((aK y8 iy).getD (0 : Int)) + 1)), aI (bY + 1)) (Option.some.inj hm).symm ⟨dD y8 iy (aI (((aK y8 iy).getD (0 : Int)) + 1)), aI (bY + 1), rfl, rfl, uq⟩ (by kernel_rfl)
     rw [if_neg hc] at hm
     refine dY (bU (bU (iL ?_)))
     have hm := cO hm hr0
     refine gm ?_
     have uu := nY.bD (.bH (.k .z))
     obtain rfl := Option.some.inj hm
     exact EY WG.length (by have h_ := hp1.length_eq; simp only [List.length_cons] at h_; omega) ⟨bI.2, y8, WG, (some (ZY, x_1)), rfl, hf3, rfl, uu⟩ (by kernel_rfl)
theorem DD {F O : Nat → Prop} {w : World} (aY : Int) (ah : Mp (List UInt8)) (aj : Mp (Mp (Int × List UInt8))) (eU : Nat) (ak : Nat) (au : Nat) (k : Cx F O w w [Bx 82 eU [I aY, .v (.map (some ak)), .v (.map (some au))], MS (vH e8) ak ah, MS (vM (vS (eP eI eS) (bT bP bQ))) au aj]) (r : (Int × Int × Mp (List UInt8))) (hm : lK aY ah aj = some r) :
    Calls Tryz.prog 25 (vals [pt eU 0]) w (fun e w' => e = .returned (SV.val (I r.1)) ∧ Cx F O w w' [Bx 82 eU [I r.2.1, .v (.map (some ak)), .v (.map (some au))], MS (vH e8) ak r.2.2, MS (vM (vS (eP eI eS) (bT bP bQ))) au aj]) := by
 unfold lK at hm
 refine calls [pt eU 0] Tryz.func25 rfl (of_decide_eq_true (by kernel_rfl)) ?_
 refine af <| bg [] .a qe (by kernel_rfl) ?_
 refine ae <| af <| af <| ax <| aW 1 [] (.n 6 (pt eU 0) .a) qe (by kernel_rfl) ?_
 refine ai ?_
 obtain ⟨r_, dV, hm⟩ := ob hm
 obtain ⟨F1, O1, kin, hO, hre, hF, hb⟩ := k.go (.i (.i (.i .e)))
 refine ay [] 7 _ Am (by kernel_rfl) (jI (F := F1) (O := O1) _ _ _ _ _ _ kin _ dV) ?_
 rintro e_ w_ ⟨rfl, k_⟩
 have dK := hb w_ _ _ k_ (.c (.c (.c .n)))
 refine ⟨.b false, rfl, ?_⟩
 refine ag <| ae <| bC false (by kernel_rfl) (fun h => by cases h) (fun _ => ?_)
 refine aS <| ae <| af <| ax <| aW 1 [] (.n 8 (pt eU 0) (.ss .a)) qe (by kernel_rfl) ?_
 refine ai ?_
 obtain ⟨aQ, fG, hm⟩ := ob hm
 obtain ⟨F11, H7, wX, TU, Gx, hF1, hb1⟩ := dK.go (.i (.i (.i .e)))
 refine ay [] 9 _ Sj (by kernel_rfl) (yI (F := F11) (O := H7) _ _ _ _ _ _ wX _ fG) ?_
 rintro e_ o9 ⟨b, rfl, fF⟩
 have fM := hb1 o9 _ _ fF (.c (.c (.c (.c .n))))
 refine ⟨.v (.map (some b)), rfl, ?_⟩
 refine aW 2 [] (.n 3 (I 0) (.n 4 (.v (.map (some b))) (.ss .a))) qe (by kernel_rfl) ?_
 refine ag <| ae <| af <| af <| ax <| aW 4 [] (.n 13 (.v (.map (some ak))) .a) (qs eU 0 <| qs eU 0 <| qB fM 1 rfl 1 (.v (.map (some ak))) (by kernel_rfl) <| qe) (by kernel_rfl) ?_
 refine ai ?_
 have g_ := (((fM.pk (.t (.t (.t .h)))).pk (.t (.t .h))).pk (.t (.t .h))).pk (.t (.t (.t .h)))
 refine xU (kt := 9) (e := 22) [] 14 (by kernel_rfl) g_ ?_
 intro bI sZ gX
 refine ag <| ae <| aJ ?_
 obtain ⟨s_, Wv, hm⟩ := ob hm
 have jb := (((gX.pk (.t .h)).pk (.t (.t (.t .h)))).pk (.t (.t .h))).pk (.t (.t (.t .h)))
 refine OI (fun QL L wr => ∃ (uY : Mp (List UInt8)) (n : Int) (left : Mp (List UInt8)) (cur : Option (Ky × (List UInt8))), left.length = QL ∧ lG (fU aQ) (uY, n) left = some s_ ∧ L = [(0, pt eU 0), (3, I n), (4, .v (.map (some b))), (14, .v (.pointer (some ⟨bI, 0, none⟩)))] ∧ Cx F O w wr [Bx 82 eU [I aQ.2, .v (.map (some ak)), .v (.map (some au))], MV (vH e8) false ak bI uY left cur, MS (vM (vS (eP eI eS) (bT bP bQ))) au aj, MS vI b aQ.1]) ah.length ⟨ah, (0 : Int), ah, none, rfl, Wv, rfl, jb⟩ (by kernel_rfl) ?_
 rintro kn L_ xk ⟨uY, n, left, cur, rfl, hf, rfl, jf⟩
 refine af <| ax <| ai ?_
 have jQ := (((jf.pk (.t (.t (.t .h)))).pk (.t (.t (.t .h)))).pk (.t (.t .h))).pk (.t (.t (.t .h)))
 refine wE [] 15 (by kernel_rfl) jQ (fun hl jS => ?_) (fun key aC left1 v xB hp hnd dJ => ?_)
 ·
   have hy := CG hl hf
   obtain rfl : uY = s_.1 := congrArg (fun z_ => z_.1) hy
   obtain rfl : n = s_.2 := congrArg (fun z_ => z_.2) hy
   have dB := jS.KZ
   refine aW 1 [] (.n 16 (.b false) (.s (.Dl .z))) qe (by kernel_rfl) ?_
   refine ag <| ae <| af <| bC false (by kernel_rfl) (fun h => by cases h) (fun _ => ?_)
   refine dY (bU (bU (iL ?_)))
   refine ae <| af <| bg [] (.n 2 (I s_.2) .z) qe (by kernel_rfl) ?_
   refine ae <| aN ?_
   obtain rfl := Option.some.inj hm
   refine aO [I s_.2] qe (by kernel_rfl) ?_
   have gz := (((dB.pk (.t (.t .h))).pk (.t .h)).pk (.t (.t .h))).bD (.kk (.k .z))
   exact ⟨rfl, gz⟩
 ·
   obtain ⟨sn, hm, hf1⟩ := zX (zD aQ) hp hnd hf
   simp only [fU] at hm
   refine aW 1 [] (.n 16 (.b true) (.s .a)) qe (by kernel_rfl) ?_
   refine ag <| ae <| af <| bC true (by kernel_rfl) (fun _ => ?_) (fun h => by cases h)
   refine aS <| ae <| aJ <| af <| ax <| ai <| Gq [] 17 (by kernel_rfl) dJ ?_
   intro A c iI
   refine aW 2 [] (.n 5 (.s key) (.ss .a)) qe (by kernel_rfl) ?_
   refine ag <| ae <| af <| ax <| aW 2 [] (.n 19 (.v (.map (some b))) (.n 20 (.s key) .a)) qe (by kernel_rfl) ?_
   refine ai ?_
   have iJ := ((((iI.pk (.t (.t (.t .h)))).pk (.t (.t (.t .h)))).pk (.t (.t (.t .h)))).pk (.t (.t (.t .h)))).pk (.t (.t (.t (.t .h))))
   refine zo (kt := 9) (e := 3) (v := vI) (m := aQ.1) (key := key) rfl [] 21 (0 : Int) (I ((aK aQ.1 key).getD (0 : Int))) (by kernel_rfl) (by kernel_rfl) iJ.acc rfl ?_
   refine aW 1 [] (.n 22 (.b (decide (((aK aQ.1 key).getD (0 : Int)) = 0))) (.nG .a)) qe (by kernel_rfl) ?_
   refine ag <| ae <| aZ (((aK aQ.1 key).getD (0 : Int)) = 0) (by kernel_rfl) (fun hc => ?_) (fun hc => ?_)
   · rw [if_pos hc] at hm
     refine af <| ax <| aW 5 [] (.n 26 (.v (.map (some ak))) (.n 27 (.s key) (.ss .a))) (qs eU 0 <| qs eU 0 <| qB iJ 3 rfl 1 (.v (.map (some ak))) (by kernel_rfl) <| qe) (by kernel_rfl) ?_
     refine ai ?_
     have iK := ((((iJ.pk (.t (.t (.t (.t .h))))).pk (.t (.t (.t (.t .h))))).pk (.t (.t (.t .h)))).pk (.t (.t (.t .h)))).pk (.t (.t (.t (.t .h))))
     refine XM (kt := 9) (e := 22) (key := key) [] (by kernel_rfl) iK ?_
     intro y5 iG
     refine ag <| ae <| bg [] (.n 3 (I (aI (n + 1))) (.ss (.k (.s .a)))) qe (by kernel_rfl) ?_
     refine gm ?_
     have je := ((((iG.pk (.t .h)).pk (.t (.t (.t (.t .h))))).pk (.t (.t .h))).pk (.t (.t (.t (.t .h))))).bD (.bH .z)
     obtain rfl := Option.some.inj hm
     exact EY left1.length (by have h_ := hp.length_eq; simp only [List.length_cons] at h_; omega) ⟨uC uY key, aI (n + 1), left1, none, rfl, hf1, rfl, je⟩ (by kernel_rfl)
   rw [if_neg hc] at hm
   refine aS <| gm ?_
   have ku := ((((iJ.pk .h).pk (.t (.t (.t (.t .h))))).pk (.t (.t (.t .h)))).pk (.t (.t (.t (.t .h))))).bD (.bH .z)
   obtain rfl := Option.some.inj hm
   exact EY left1.length (by have h_ := hp.length_eq; simp only [List.length_cons] at h_; omega) ⟨uY, n, left1, (some (key, aC)), rfl, hf1, rfl, ku⟩ (by kernel_rfl)
theorem mV {F O : Nat → Prop} {w : World} (wU : List UInt8) (eY : Bool) (iw : Bool) (n : Int) (nK : Nat) (lQ : Option Addr) (xg : Nat) (jM : Nat) (k : Cx F O w w [Bx 75 nK [sl lQ xg jM, .b eY, .b iw], Sh (SH e8) [(lQ, xg, jM)] [wU]]) (r : (List UInt8 × List UInt8 × Bool × Bool)) (hm : iE wU eY iw n = some r) :
    Calls Tryz.prog 30 (vals [pt nK 0, I n]) w (fun e w' => ∃ A n1 c A1 n2 c1, r.1.length = n1 ∧ r.2.1.length = n2 ∧ e = .returned (SV.val (sl A n1 c)) ∧ Cx F O w w' [Sh (SH e8) [(A, n1, c)] [r.1], Bx 75 nK [sl A1 n2 c1, .b r.2.2.1, .b r.2.2.2], Sh (SH e8) [(A1, n2, c1)] [r.2.1]]) := by
 unfold iE at hm
 obtain rfl := k.ig 1 rfl
 refine calls [pt nK 0, I n] Tryz.func30 rfl (of_decide_eq_true (by kernel_rfl)) ?_
 refine af <| bg [] .a qe (by kernel_rfl) ?_
 refine ae <| af <| af <| bg [] (.n 18 (.b (eY || (decide (((wU.length : Nat) : Int) < n)))) .a) (qs nK 0 <| qs nK 0 <| qB k 0 rfl 1 (.b eY) (by kernel_rfl) <| qp (eY = false → (some ⟨nK, 0, none⟩ : Option Addr).isSome = true) (fun hg0 => rfl) <| qp (eY = false → (some ⟨nK, 0, none⟩ : Option Addr).isSome = true) (fun hg0 => rfl) <| qo (sl lQ wU.length jM) <| qc (fun w => eY = false → ∃ a, (some ⟨nK, 0, none⟩ : Option Addr) = some a ∧ w.cell? a = some (SV.val (sl lQ wU.length jM))) (fun hg0 => k.XG 0 rfl 0 (sl lQ wU.length jM) (by kernel_rfl)) <| qe) (by kernel_rfl) ?_
 refine ae <| bC (eY || (decide (((wU.length : Nat) : Int) < n))) (by kernel_rfl) (fun hc => ?_) (fun hc => ?_)
 · rw [if_pos hc] at hm
   refine af <| ax <| aW 3 [] (.n 21 (pt nK 1) .z) (qs nK 0 <| qs nK 0 <| qe) (by kernel_rfl) ?_
   refine ai <| iQ [] 0 (.b true) [.b true] (Pt.at nK 1) k rfl (.k .h) (by kernel_rfl) (by kernel_rfl) ?_
   intro w_ k_
   refine ag <| ae <| af <| bg [] (.n 4 (sl none 0 0) .z) qe (by kernel_rfl) ?_
   refine ae <| aN (bz ?_)
   have dK := k_.Y6 e8
   obtain rfl := Option.some.inj hm
   refine aO [sl none 0 0] qe (by kernel_rfl) ?_
   exact ⟨none, 0, 0, lQ, wU.length, jM, dK.ig 0 rfl, dK.ig 2 rfl, rfl, dK⟩
 rw [if_neg (by rw [hc]; decide)] at hm
 refine aS <| ae <| af ?_
 obtain ⟨b, sO, hm⟩ := ob hm
 have hs := iq sO
 have hl := nC sO
 have hn : wU.length = wU.length := (k.ig 1 rfl)
 have hc1 : wU.length ≤ jM := (k.Y3 1 rfl)
 have hc2 : b.length ≤ jM := by omega
 refine bg [] (.n 5 (sl lQ b.length jM) (.s .a)) (qs nK 0 <| qs nK 0 <| qB k 0 rfl 0 (sl lQ wU.length jM) (by kernel_rfl) <| qp (0 ≤ n ∧ n ≤ ((jM : Nat) : Int)) (by omega) <| qo (.v (.slice lQ b.length jM)) <| qp (Value.slice (zJ lQ 0 jM 1) (Int.toNat n - 0) (jM - 0) = .slice lQ b.length jM) (D8 _ _ _ _ _ (by omega)) <| qe) (by kernel_rfl) ?_
 refine ae <| af <| ax ?_
 obtain ⟨b1, yD, hm⟩ := ob hm
 have hs1 := iq yD
 have hl1 := nC yD
 have hn1 : wU.length = wU.length := (k.ig 1 rfl)
 have hc3 : wU.length ≤ jM := (k.Y3 1 rfl)
 obtain ⟨A0, c0, e_, hc4, hA, hc5⟩ := YT lQ (Int.toNat n) jM 1 (wU.length - Int.toNat n) b1.length (by omega) (by omega)
 refine aW 9 [] (.n 34 (sl A0 b1.length c0) (.n 36 (pt nK 0) (.k .z))) (qs nK 0 <| qs nK 0 <| qB k 0 rfl 0 (sl lQ wU.length jM) (by kernel_rfl) <| qp (0 ≤ n ∧ n ≤ ((wU.length : Nat) : Int)) (by omega) <| qo (.v (.slice A0 b1.length c0)) <| qp (Value.slice (zJ lQ (Int.toNat n) jM 1) (wU.length - Int.toNat n) (jM - Int.toNat n) = .slice A0 b1.length c0) e_ <| qs nK 0 <| qs nK 0 <| qe) (by kernel_rfl) ?_
 refine ai ?_
 have fF := k.Y8 1 rfl (B := A0) (m := b1.length) (d := c0) (y := b1) (fun F_ w_ p_ => (Ro.cut p_ yD rfl (by rfl) hA (by omega))) rfl hc4
 refine iQ [] 1 (sl A0 b1.length c0) [sl A0 b1.length c0] (Pt.at nK 0) fF rfl .h (by kernel_rfl) (by kernel_rfl) ?_
 intro o9 fM
 refine ag <| ae <| af <| bg [] (.n 4 (sl lQ b.length jM) .z) qe (by kernel_rfl) ?_
 refine ae <| aN ?_
 have g_ := fM.Y8 2 rfl (B := lQ) (m := b.length) (d := jM) (y := b) (fun F_ w_ p_ => (Ro.pre p_ sO rfl)) rfl hc2
 obtain rfl := Option.some.inj hm
 refine aO [sl lQ b.length jM] qe (by kernel_rfl) ?_
 have gX := (((g_.pk (.t .h)).pk (.t (.t .h))).pk (.t (.t .h))).bD (.kk (.k .z))
 exact ⟨lQ, b.length, jM, A0, b1.length, c0, gX.ig 0 rfl, gX.ig 2 rfl, rfl, gX⟩
theorem tq {F O : Nat → Prop} {w : World} (wU : List UInt8) (eY : Bool) (iw : Bool) (size : Int) (nK : Nat) (lQ : Option Addr) (xg : Nat) (jM : Nat) (k : Cx F O w w [Bx 75 nK [sl lQ xg jM, .b eY, .b iw], Sh (SH e8) [(lQ, xg, jM)] [wU]]) (r : (Int × List UInt8 × Bool × Bool)) (hm : jH wU eY iw size = some r) :
    Calls Tryz.prog 31 (vals [pt nK 0, I size]) w (fun e w' => ∃ A n c, r.2.1.length = n ∧ e = .returned (SV.val (I r.1)) ∧ Cx F O w w' [Bx 75 nK [sl A n c, .b r.2.2.1, .b r.2.2.2], Sh (SH e8) [(A, n, c)] [r.2.1]]) := by
 unfold jH at hm
 obtain rfl := k.ig 1 rfl
 refine calls [pt nK 0, I size] Tryz.func31 rfl (of_decide_eq_true (by kernel_rfl)) ?_
 refine af <| bg [] .a qe (by kernel_rfl) ?_
 refine ae <| af <| bg [] (.n 5 (I 0) .a) qe (by kernel_rfl) ?_
 refine ae <| af <| af <| ax <| aW 2 [] (.n 8 (pt nK 0) (.n 9 (I size) (.k .z))) qe (by kernel_rfl) ?_
 refine ai ?_
 have k_ := k.l7 1 rfl
 obtain ⟨r_, dV, hm⟩ := ob hm
 have dK := ((k_.pk (.t (.t .h))).pk (.t .h)).pk (.t (.t .h))
 obtain ⟨F1, O1, kin, hO, hre, hF, hb⟩ := dK.go (.i (.i (.r .e)))
 refine ay [] 10 _ CU (by kernel_rfl) (mV (F := F1) (O := O1) _ _ _ _ _ _ _ _ kin _ dV) ?_
 rintro e_ w_ ⟨A0, _, c0, A1, _, c1, rfl, rfl, rfl, fF⟩
 have fM := hb w_ _ _ fF (.c (.c (.c .n)))
 refine ⟨sl A0 r_.1.length c0, rfl, ?_⟩
 have g_ := fM.bD (.kk (.k .z))
 refine aW 2 [] (.n 11 (I ((r_.1.length : Nat) : Int)) (.n 12 (I 0) (.k (.ss .a)))) qe (by kernel_rfl) ?_
 refine ag <| ae <| aJ <| pg (jw r_) (fun s L wr => ∃ (n0 : Int) (aC : Int), (n0, aC) = s ∧ L = [(5, I n0), (10, sl A0 r_.1.length c0), (11, I ((r_.1.length : Nat) : Int)), (12, I aC)] ∧ Cx F O w wr [Sh (SH e8) [(A0, r_.1.length, c0)] [r_.1], Bx 75 nK [sl A1 r_.2.1.length c1, .b r_.2.2.1, .b r_.2.2.2], Sh (SH e8) [(A1, r_.2.1.length, c1)] [r_.2.1]]) ((0 : Int), (0 : Int)) r hm ⟨(0 : Int), (0 : Int), rfl, rfl, g_⟩ (by kernel_rfl) ?_
 intro BU L_ o9 y0 hrel hstep hr0
 obtain ⟨n0, aC, rfl, rfl, gX⟩ := hrel
 have hm := hstep; simp only [jw] at hm
 clear hstep
 refine af <| bg [] (.n 13 (.b (decide (aC < ((r_.1.length : Nat) : Int)))) .a) qe (by kernel_rfl) ?_
 refine ae <| af <| aZ (aC < ((r_.1.length : Nat) : Int)) (by kernel_rfl) (fun hc => ?_) (fun hc => ?_)
 · rw [if_pos hc] at hm
   refine aS <| ae <| af <| aJ <| af ?_
   obtain ⟨iR, oW, hm⟩ := ob hm
   refine bg [] (.n 6 (I aC) (.n 7 (.u8 iR) (.s .a))) (qW (gX.J7 0 rfl) oW (gX.ig 0 rfl) (.u8 iR) rfl <| qe) (by kernel_rfl) ?_
   refine ae ?_
   obtain ⟨u, Ap, hm⟩ := ob hm
   refine bg [] (.n 5 (I (YQ .i64 n0 (LQ .i64 (iR.toNat : Int) (Int.toNat (aI (8 * aC)))))) (.nG .a)) (qp (0 ≤ aI (8 * aC)) (fK Ap) <| qe) (by kernel_rfl) ?_
   refine gm <| ae <| bg [] (.n 12 (I (aI (aC + 1))) (.Dl .z)) qe (by kernel_rfl) ?_
   exact jU (YQ .i64 n0 (LQ .i64 (iR.toNat : Int) (Int.toNat (aI (8 * aC)))), aI (aC + 1)) (Option.some.inj hm).symm ⟨YQ .i64 n0 (LQ .i64 (iR.toNat : Int) (Int.toNat (aI (8 * aC)))), aI (aC + 1), rfl, rfl, gX⟩ (by kernel_rfl)
 rw [if_neg hc] at hm
 refine dY (bU (bU (iL ?_)))
 have hm := cO hm hr0
 refine ae <| af <| bg [] (.n 4 (I n0) .z) qe (by kernel_rfl) ?_
 refine ae <| aN ?_
 obtain rfl := Option.some.inj hm
 refine aO [I n0] qe (by kernel_rfl) ?_
 have jb := gX.bD (.s (.kk .e))
 exact ⟨A1, r_.2.1.length, c1, jb.ig 1 rfl, rfl, jb⟩
theorem kZ {F O : Nat → Prop} {w : World} (wU : List UInt8) (eY : Bool) (iw : Bool) (ok : Bool) (nK : Nat) (lQ : Option Addr) (xg : Nat) (jM : Nat) (k : Cx F O w w [Bx 75 nK [sl lQ xg jM, .b eY, .b iw], Sh (SH e8) [(lQ, xg, jM)] [wU]]) (r : (List UInt8 × Bool × Bool)) (hm : iF wU eY iw ok = some r) :
    Calls Tryz.prog 32 (vals [pt nK 0, .b ok]) w (fun e w' => ∃ A n c, r.1.length = n ∧ e = .returned (SV.val (.jc [])) ∧ Cx F O w w' [Bx 75 nK [sl A n c, .b r.2.1, .b r.2.2], Sh (SH e8) [(A, n, c)] [r.1]]) := by
 unfold iF at hm
 obtain rfl := k.ig 1 rfl
 refine calls [pt nK 0, .b ok] Tryz.func32 rfl (of_decide_eq_true (by kernel_rfl)) ?_
 refine af <| bg [] (.n 5 (.b (!ok)) (.k .z)) qe (by kernel_rfl) ?_
 refine ae <| bC (!ok) (by kernel_rfl) (fun hc => ?_) (fun hc => ?_)
 · rw [if_pos hc] at hm
   refine ax <| aW 3 [] (.n 8 (pt nK 2) .z) (qs nK 0 <| qs nK 0 <| qe) (by kernel_rfl) ?_
   refine ai <| iQ [] 0 (.b true) [.b true] (Pt.at nK 2) k rfl (.kk .h) (by kernel_rfl) (by kernel_rfl) ?_
   intro w_ k_
   refine ag ?_
   obtain rfl := Option.some.inj hm
   refine xY [] qe (by kernel_rfl) ?_
   exact ⟨lQ, wU.length, jM, k_.ig 1 rfl, rfl, k_⟩
 rw [if_neg (by rw [hc]; decide)] at hm
 refine aS ?_
 obtain rfl := Option.some.inj hm
 refine xY [] qe (by kernel_rfl) ?_
 exact ⟨lQ, wU.length, jM, k.ig 1 rfl, rfl, k⟩
end Go.Sx
