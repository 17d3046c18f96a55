import Derived.Test.YtoedpdamhabkoaaGreatK3
namespace Go.Sx
open Go.RowKit Go.Proofs
set_option linter.unusedVariables false
set_option linter.unusedSimpArgs false
set_option maxRecDepth 20000
theorem nZ {F O : Nat → Prop} {w : World} (ra : ae UInt32 8) (bG : UInt64) (bH : UInt64) (cA : List UInt8) (aA : Int) (b : List UInt8) (aY : Nat) (dG : Option Addr) (lB : Nat) (dH : Nat) (mq : Option Addr) (py : Nat) (mI : Nat) (qH : Ro F w mq (e8.all b)) (qK : b.length = py) (rO : py ≤ mI) (k : Cx F O w w [Bx 208 aY [.ar dt ra, .u64 bG, .u64 bH, sl dG lB dH, I aA, .v (.func (.func 135) ⟨SV.ad []⟩ ⟨SV.ad []⟩), .v (.func (.func 136) ⟨SV.ad []⟩ ⟨SV.ad []⟩)], Ow e8 dG lB dH cA]) (r : (ae UInt32 8 × UInt64 × UInt64 × List UInt8 × Int)) (hm : jA ra bG bH cA aA b = some r) :
    Calls Tryz.prog 226 (ad [pt aY 0, sl mq py mI]) w (fun e w' => ∃ A n c, r.2.2.2.1.length = n ∧ e = .returned (SV.val (.gD [])) ∧ Cx F O w w' [Bx 208 aY [.ar dt r.1, .u64 r.2.1, .u64 r.2.2.1, sl A n c, I r.2.2.2.2, .v (.func (.func 135) ⟨SV.ad []⟩ ⟨SV.ad []⟩), .v (.func (.func 136) ⟨SV.ad []⟩ ⟨SV.ad []⟩)], Ow e8 A n c r.2.2.2.1]) := by
 unfold jA at hm
 obtain rfl := k.len 1 rfl
 subst qK
 refine calls [pt aY 0, sl mq b.length mI] Tryz.func226 rfl (of_decide_eq_true (by kernel_rfl)) ?_
 refine cX <| rv (j_ aA) (fun s L wr => ∃ (aL : ae UInt32 8) (mC : UInt64) (nK : UInt64) (mH : List UInt8) (b1 : List UInt8) (A0 : Option Addr) (n0 : Nat) (c0 : Nat) (A1 : Option Addr) (c1 : Nat), (aL, mC, nK, mH, b1) = s ∧ L = [(0, pt aY 0), (1, sl A1 b1.length c1)] ∧ mH.length = n0 ∧ Ro F w A1 (e8.all b1) ∧ b1.length ≤ c1 ∧ Cx F O w wr [Bx 208 aY [.ar dt aL, .u64 mC, .u64 nK, sl A0 n0 c0, I aA, .v (.func (.func 135) ⟨SV.ad []⟩ ⟨SV.ad []⟩), .v (.func (.func 136) ⟨SV.ad []⟩ ⟨SV.ad []⟩)], Ow e8 A0 n0 c0 mH]) (ra, bG, bH, cA, b) r hm ⟨ra, bG, bH, cA, b, dG, cA.length, dH, mq, mI, rfl, rfl, k.len 1 rfl, qH, rO, k⟩ (by kernel_rfl) ?_
 intro Al L_ w_ y0 kE dY rP
 obtain ⟨aL, mC, nK, mH, b1, A0, _, c0, A1, c1, rfl, rfl, rfl, h, hc, k_⟩ := kE
 have hm := dY; simp only [j_] at hm
 clear dY
 refine ab <| ab <| bO [] (.n 7 (.b (decide (0 < ((b1.length : Nat) : Int)))) .a) qe (by kernel_rfl) ?_
 refine aa <| bu (0 < ((b1.length : Nat) : Int)) (by kernel_rfl) (fun k5 => ?_) (fun k5 => ?_)
 · rw [if_pos k5] at hm
   refine bc <| aa <| cX <| l4 (fun L wr => ∃ (vv : ae UInt32 8) (ta : UInt64) (nv : UInt64) (fx : List UInt8) (A2 : Option Addr) (n1 : Nat) (c2 : Nat), iI aA b1 vv ta nv fx = some y0 ∧ L = [(0, pt aY 0), (1, sl A1 b1.length c1)] ∧ fx.length = n1 ∧ Cx F O w wr [Bx 208 aY [.ar dt vv, .u64 ta, .u64 nv, sl A2 n1 c2, I aA, .v (.func (.func 135) ⟨SV.ad []⟩ ⟨SV.ad []⟩), .v (.func (.func 136) ⟨SV.ad []⟩ ⟨SV.ad []⟩)], Ow e8 A2 n1 c2 fx]) ?_ ?_
   ·
    refine ab <| Gu bK (by kernel_rfl) (.n 17 (.b (decide (((mH.length : Nat) : Int) = aA))) (.s .a)) (fun m => qs aY 0 <| qs aY 0 <| qB (k_.drew m) 0 rfl 10 (sl A0 mH.length c0) (by kernel_rfl) <| qs aY 0 <| qs aY 0 <| qB (k_.drew m) 0 rfl 11 (I aA) (by kernel_rfl) <| qe) (by kernel_rfl) (fun m_ => ?_)
    have db := k_.drew m_
    refine aa <| bu (((mH.length : Nat) : Int) = aA) (by kernel_rfl) (fun rN => ?_) (fun rN => ?_)
    · rw [if_pos rN] at hm
      refine ab ?_
      have dE := db.drew 1
      refine qO bK (.q 0 1 (.q 1 1 (.q 2 1 (.q 3 0 (.q 4 0 (.q 5 1 (.q 6 1 (.q 7 1 (.q 8 0 (.q 9 0 (.op 10 (.q 11 1 (.q 12 1 (.q 14 1 (.q 15 1 (.q 13 2 (.op 16 .nil))))))))))))))))) [10, 16] dE (.c (.kk .e) (.c (.s (.k .e)) .l)) (by kernel_rfl) (fun _ => ?_)
      refine cK 3 1 [] (.n 19 (pt aY 0) (.n 21 (pt aY 0) (.s .a))) (fun x hx => qs aY 0 <| qe) (by kernel_rfl) (fun _ => ?_)
      refine cK 2 0 [] (.n 23 (.agg [.u64 mC, .u64 nK]) (.k (.s .a))) (fun x hx => qs aY 0 <| qT hx 0 rfl 8 2 [.u64 mC, .u64 nK] (by kernel_rfl) (by decide) <| qe) (by kernel_rfl) (fun _ => ?_)
      refine cK 3 1 [] (.n 26 (pt aY 11) .a) (fun x hx => qs aY 0 <| qs aY 0 <| qe) (by kernel_rfl) (fun _ => ?_)
      refine cK 2 0 [] (.n 28 (.u64 (UInt64.ofInt aA)) (.s .a)) (fun x hx => qB hx 0 rfl 11 (I aA) (by kernel_rfl) <| qe) (by kernel_rfl) (fun _ => ?_)
      refine cC (by kernel_rfl) rfl ?_
      obtain ⟨r_, cQ, hm⟩ := ob hm
      refine au [] 29 _ sS (by kernel_rfl) (pI (F := N0) (O := N0) _ _ _ (Cx.refl _) _ cQ) ?_
      rintro e_ k4 ⟨rfl, dU⟩
      have eY := dE.call dU
      refine ⟨.gD [.agg [.u64 r_.1, .u64 r_.2.1], .b r_.2.2], rfl, ?_⟩
      refine ⟨eY, fun _ => ?_⟩
      refine cK 4 1 [] (.n 18 (.gD [.agg [.u64 r_.1, .u64 r_.2.1], .b r_.2.2]) (.n 30 (.agg [.u64 r_.1, .u64 r_.2.1]) (.n 33 (pt aY 8) (.jn .a)))) (fun x hx => qs aY 0 <| qs aY 0 <| qe) (by kernel_rfl) (fun _ => ?_)
      refine cK 1 2 [] (.s .a) (fun x hx => qe) (by kernel_rfl) (fun _ => ?_)
      refine cC (by kernel_rfl) rfl <| en [] 0 (.agg [.u64 r_.1, .u64 r_.2.1]) [.u64 r_.1, .u64 r_.2.1] (Pt.at aY 8) eY rfl (.k .h2) (by kernel_rfl) (by kernel_rfl) ?_
      intro l6 fU
      refine ⟨(fU.de (.s (.k .e))), fun _ => ?_⟩
      refine d_ <| aa <| ab ?_
      have g_ := fU.drew 1
      refine qO bK (.q 0 1 (.q 1 1 (.q 2 1 (.q 3 0 (.q 4 0 (.q 5 1 (.q 6 1 (.q 7 0 (.q 8 0 (.q 9 1 (.q 10 1 (.q 11 0 (.q 12 0 (.q 13 1 (.q 14 1 (.q 15 0 (.q 16 0 (.op 17 (.q 18 1 (.q 19 1 (.op 20 .nil))))))))))))))))))))) [17, 20] g_ (.c (.kk .e) (.c (.s (.k .e)) .l)) (by kernel_rfl) (fun _ => ?_)
      refine cK 3 1 [] (.n 34 (pt aY 0) (.n 36 (pt aY 0) (.ss .a))) (fun x hx => qs aY 0 <| qe) (by kernel_rfl) (fun _ => ?_)
      refine cK 2 0 [] (.n 38 (.v (.func (.func 135) ⟨SV.ad []⟩ ⟨SV.ad []⟩)) (.k (.s .a))) (fun x hx => qs aY 0 <| qB hx 0 rfl 12 (.v (.func (.func 135) ⟨SV.ad []⟩ ⟨SV.ad []⟩)) (by kernel_rfl) <| qe) (by kernel_rfl) (fun _ => ?_)
      refine cK 2 1 [] (.n 40 (pt aY 0) .a) (fun x hx => qs aY 0 <| qe) (by kernel_rfl) (fun _ => ?_)
      refine cK 2 0 [] (.n 42 (.agg [.ar dt aL]) (.s .a)) (fun x hx => qs aY 0 <| qT hx 0 rfl 0 8 [.ar dt aL] (by kernel_rfl) (by decide) <| qe) (by kernel_rfl) (fun _ => ?_)
      refine cK 2 1 [] (.n 44 (pt aY 0) .a) (fun x hx => qs aY 0 <| qe) (by kernel_rfl) (fun _ => ?_)
      refine cK 2 0 [] (.n 46 (sl A0 mH.length c0) (.s .a)) (fun x hx => qs aY 0 <| qB hx 0 rfl 10 (sl A0 mH.length c0) (by kernel_rfl) <| qe) (by kernel_rfl) (fun _ => ?_)
      refine cK 2 1 [] (.n 48 (pt aY 0) .a) (fun x hx => qs aY 0 <| qe) (by kernel_rfl) (fun _ => ?_)
      refine cK 2 0 [] (.n 50 (.agg [.u64 r_.1, .u64 r_.2.1]) (.s .a)) (fun x hx => qs aY 0 <| qT hx 0 rfl 8 2 [.u64 r_.1, .u64 r_.2.1] (by kernel_rfl) (by decide) <| qe) (by kernel_rfl) (fun _ => ?_)
      refine cC (by kernel_rfl) rfl ?_
      obtain ⟨ah, dd, hm⟩ := ob hm
      refine lU [] 51 [] [.agg [.ar dt aL], sl A0 mH.length c0, .agg [.u64 r_.1, .u64 r_.2.1], .b false, .b false] [] C4 (by kernel_rfl) (t_ (F := N0) (O := N0) _ _ _ _ _ _ _ _ _ (Ro.n0 (g_.rd 1 rfl)) (g_.len 1 rfl) (g_.Ap 1 rfl) (Cx.refl _) _ dd) ?_
      rintro e_ qj ⟨rfl, gC⟩
      have gP := g_.call gC
      refine ⟨.agg [.ar dt ah], rfl, ?_⟩
      refine ⟨gP, fun _ => ?_⟩
      refine cK 2 1 [] (.n 53 (pt aY 0) (.k (.jn (.s .a)))) (fun x hx => qs aY 0 <| qs aY 0 <| qe) (by kernel_rfl) (fun _ => ?_)
      refine cC (by kernel_rfl) rfl <| en [] 0 (.agg [.ar dt ah]) [.ar dt ah] (Pt.at aY 0) gP rfl .h (by kernel_rfl) (by kernel_rfl) ?_
      intro qk gB
      refine ⟨(gB.de (.s (.k .e))), fun _ => ?_⟩
      refine d_ <| aa <| an ?_
      obtain ⟨b2, B9, hm⟩ := ob hm
      have hs := iB B9
      have hl := lh B9
      have hn : mH.length = mH.length := (gB.len 1 rfl)
      have xQ : mH.length ≤ c0 := (gB.Ap 1 rfl)
      have Ak : b2.length ≤ c0 := by omega
      refine ba 8 [] (.n 59 (sl A0 b2.length c0) (.n 61 (pt aY 10) (.ss .a))) (qs aY 0 <| qs aY 0 <| qB gB 0 rfl 10 (sl A0 mH.length c0) (by kernel_rfl) <| qp (0 ≤ (0 : Int) ∧ (0 : Int) ≤ ((c0 : Nat) : Int)) (by omega) <| qo (.v (.slice A0 b2.length c0)) <| qp (Value.slice (sD A0 0 c0 1) (Int.toNat (0 : Int) - 0) (c0 - 0) = .slice A0 b2.length c0) (uA _ _ _ _ _ (by omega)) <| qs aY 0 <| qs aY 0 <| qe) (by kernel_rfl) ?_
      refine ag ?_
      have dO := gB.de (.kk .e)
      refine en [] 0 (sl A0 b2.length c0) [sl A0 b2.length c0] (Pt.at aY 10) dO rfl (.kk (.k .h)) (by kernel_rfl) (by kernel_rfl) ?_
      intro rX cV
      refine af ?_
      have ff := cV.pre 1 rfl b2.length c0 b2 (by omega) (by omega) (by omega) (y1 B9 rfl)
      exact jS ⟨ah, r_.1, r_.2.1, b2, A0, b2.length, c0, hm, rfl, ff.len 1 rfl, ff⟩ (by kernel_rfl)
    rw [if_neg rN] at hm
    refine bc ?_
    exact jS ⟨aL, mC, nK, mH, A0, mH.length, c0, hm, rfl, db.len 1 rfl, db⟩ (by kernel_rfl)
   rintro L_ wQ ⟨vv, ta, nv, fx, A2, _, c2, hm, rfl, rfl, gI⟩
   simp only [iI] at hm
   refine ab <| Gu bK (by kernel_rfl) (.n 4 (I (if aD (aA - ((fx.length : Nat) : Int)) < ((b1.length : Nat) : Int) then aD (aA - ((fx.length : Nat) : Int)) else ((b1.length : Nat) : Int))) .a) (fun m => qs aY 0 <| qs aY 0 <| qB (gI.drew m) 0 rfl 11 (I aA) (by kernel_rfl) <| qs aY 0 <| qs aY 0 <| qB (gI.drew m) 0 rfl 10 (sl A2 fx.length c2) (by kernel_rfl) <| qe) (by kernel_rfl) (fun xt => ?_)
   have ez := gI.drew xt
   refine aa <| ab ?_
   have jj := ez.drew 1
   refine qO bK (.q 5 0 (.q 6 0 (.q 7 0 (.q 0 1 (.q 1 1 (.q 2 1 (.q 3 0 (.q 4 0 (.op 8 (.q 9 1 (.q 10 1 (.op 11 .nil)))))))))))) [8, 11] jj (.c (.k .z) (.c (.z) .l)) (by kernel_rfl) (fun _ => ?_)
   obtain ⟨b3, Az, hm⟩ := ob hm
   have O3 := iB Az
   have Gv := lh Az
   have O4 : b1.length = b1.length := rfl
   have wm : b1.length ≤ c1 := hc
   have xR : b3.length ≤ c1 := by omega
   refine cK 3 0 [] (.n 82 (sl A1 b3.length c1) .a) (fun x hx => qp (0 ≤ (if aD (aA - ((fx.length : Nat) : Int)) < ((b1.length : Nat) : Int) then aD (aA - ((fx.length : Nat) : Int)) else ((b1.length : Nat) : Int)) ∧ (if aD (aA - ((fx.length : Nat) : Int)) < ((b1.length : Nat) : Int) then aD (aA - ((fx.length : Nat) : Int)) else ((b1.length : Nat) : Int)) ≤ ((c1 : Nat) : Int)) (by omega) <| qo (.v (.slice A1 b3.length c1)) <| qp (Value.slice (sD A1 0 c1 1) (Int.toNat (if aD (aA - ((fx.length : Nat) : Int)) < ((b1.length : Nat) : Int) then aD (aA - ((fx.length : Nat) : Int)) else ((b1.length : Nat) : Int)) - 0) (c1 - 0) = .slice A1 b3.length c1) (uA _ _ _ _ _ (by omega)) <| qe) (by kernel_rfl) (fun _ => ?_)
   refine cK 3 1 [] (.n 75 (pt aY 0) (.n 77 (pt aY 0) .a)) (fun x hx => qs aY 0 <| qe) (by kernel_rfl) (fun _ => ?_)
   refine cK 2 0 [] (.n 79 (sl A2 fx.length c2) (.k (.s .a))) (fun x hx => qs aY 0 <| qB hx 0 rfl 10 (sl A2 fx.length c2) (by kernel_rfl) <| qe) (by kernel_rfl) (fun _ => ?_)
   refine cC (by kernel_rfl) rfl ?_
   obtain ⟨b4, F4, hm⟩ := ob hm
   obtain ⟨hz, K5⟩ := mm F4
   refine k8 (E := e8) (v := sl A1 b3.length c1) (ys := b3) iJ [] 83 1 (by kernel_rfl) jj rfl (Src.sl (Rd.pre (h.cx jj) Az rfl) rfl (by rfl)) rfl (by have := jj.len 1 rfl; have := hm; omega) ?_
   intro A3 c3 wR gQ
   rw [← K5] at gQ
   refine ⟨(gQ.de (.k .z)), fun _ => ?_⟩
   refine cK 2 1 [] (.n 85 (pt aY 10) (.k (.oQ .a))) (fun x hx => qs aY 0 <| qs aY 0 <| qe) (by kernel_rfl) (fun _ => ?_)
   refine cC (by kernel_rfl) rfl <| en [] 0 (sl A3 (fx.length + b3.length) c3) [sl A3 (fx.length + b3.length) c3] (Pt.at aY 10) gQ rfl (.kk (.k .h)) (by kernel_rfl) (by kernel_rfl) ?_
   intro Av kV
   refine ⟨(kV.de .z), fun _ => ?_⟩
   refine d_ <| aa ?_
   obtain ⟨b5, Ei, hm⟩ := ob hm
   have PV := iB Ei
   have Tk := lh Ei
   have Tl : b1.length = b1.length := rfl
   have IT : b1.length ≤ c1 := hc
   obtain ⟨A4, c4, e_, KK, hA, NZ⟩ := Kx A1 (Int.toNat (if aD (aA - ((fx.length : Nat) : Int)) < ((b1.length : Nat) : Int) then aD (aA - ((fx.length : Nat) : Int)) else ((b1.length : Nat) : Int))) c1 1 (b1.length - Int.toNat (if aD (aA - ((fx.length : Nat) : Int)) < ((b1.length : Nat) : Int) then aD (aA - ((fx.length : Nat) : Int)) else ((b1.length : Nat) : Int))) b5.length (by omega) (by omega)
   refine bO [] (.n 1 (sl A4 b5.length c4) (.oQ (.k .z))) (qp (0 ≤ (if aD (aA - ((fx.length : Nat) : Int)) < ((b1.length : Nat) : Int) then aD (aA - ((fx.length : Nat) : Int)) else ((b1.length : Nat) : Int)) ∧ (if aD (aA - ((fx.length : Nat) : Int)) < ((b1.length : Nat) : Int) then aD (aA - ((fx.length : Nat) : Int)) else ((b1.length : Nat) : Int)) ≤ ((b1.length : Nat) : Int)) (by omega) <| qo (.v (.slice A4 b5.length c4)) <| qp (Value.slice (sD A1 (Int.toNat (if aD (aA - ((fx.length : Nat) : Int)) < ((b1.length : Nat) : Int) then aD (aA - ((fx.length : Nat) : Int)) else ((b1.length : Nat) : Int))) c1 1) (b1.length - Int.toNat (if aD (aA - ((fx.length : Nat) : Int)) < ((b1.length : Nat) : Int) then aD (aA - ((fx.length : Nat) : Int)) else ((b1.length : Nat) : Int))) (c1 - Int.toNat (if aD (aA - ((fx.length : Nat) : Int)) < ((b1.length : Nat) : Int) then aD (aA - ((fx.length : Nat) : Int)) else ((b1.length : Nat) : Int))) = .slice A4 b5.length c4) e_ <| qe) (by kernel_rfl) ?_
   refine lL ?_
   exact mN (vv, ta, nv, b4, b5) (Option.some.inj hm).symm ⟨vv, ta, nv, b4, b5, A3, fx.length + b3.length, c3, A4, c4, rfl, rfl, kV.len 1 rfl, (Ro.cut h Ei rfl (by rfl) hA (by omega)), KK, kV⟩ (by kernel_rfl)
 rw [if_neg k5] at hm
 refine jr (gk (gk (lT ?_)))
 have hm := iv hm rP
 obtain rfl := Option.some.inj hm
 refine px [] qe (by kernel_rfl) ?_
 exact ⟨A0, mH.length, c0, k_.len 1 rfl, rfl, k_⟩
theorem xG {F O : Nat → Prop} {w : World} (fJ : Int) (eD : Int) (cw : List UInt8) (dK : List UInt8) (jl : Bool) (ep : UInt64) (jq : Nat) (fj : Option Addr) (iC : Nat) (fk : Nat) (gz : Option Addr) (lC : Nat) (gA : Nat) (k : Cx F O w w [Bx 145 jq [I fJ, I eD, sl fj iC fk, sl gz lC gA, .b jl, .u64 ep, .v .nilIface], Ow e8 fj iC fk cw, Ow e8 gz lC gA dK]) (r : (Int × Int × List UInt8 × List UInt8 × ae UInt64 8 × UInt64 × UInt64 × List UInt8 × Int) ⊕ (Int × Int × List UInt8 × List UInt8 × ae UInt32 8 × UInt64 × UInt64 × List UInt8 × Int)) (hm : lp fJ eD cw dK jl ep = some r) :
    Calls Tryz.prog 104 (ad [pt jq 0]) w (fun e w' => match r with | .inl r0 => ∃ A n c A1 n1 c1 g A2 n2 c2, r0.2.2.1.length = n ∧ r0.2.2.2.1.length = n1 ∧ r0.2.2.2.2.2.2.2.1.length = n2 ∧ e = .returned (SV.val (.gD [])) ∧ Cx F O w w' [Bx 145 jq [I r0.1, I r0.2.1, sl A n c, sl A1 n1 c1, .b false, .u64 0, .v (.iface 194 (SV.val (pt g 0)))], Ow e8 A n c r0.2.2.1, Ow e8 A1 n1 c1 r0.2.2.2.1, Bx 200 g [.ar cj r0.2.2.2.2.1, .u64 r0.2.2.2.2.2.1, .u64 r0.2.2.2.2.2.2.1, sl A2 n2 c2, I r0.2.2.2.2.2.2.2.2, .v (.func (.func 132) ⟨SV.ad []⟩ ⟨SV.ad []⟩), .v (.func (.func 133) ⟨SV.ad []⟩ ⟨SV.ad []⟩)], Ow e8 A2 n2 c2 r0.2.2.2.2.2.2.2.1] | .inr r1 => ∃ A3 n3 c3 A4 n4 c4 g1 A5 n5 c5, r1.2.2.1.length = n3 ∧ r1.2.2.2.1.length = n4 ∧ r1.2.2.2.2.2.2.2.1.length = n5 ∧ e = .returned (SV.val (.gD [])) ∧ Cx F O w w' [Bx 145 jq [I r1.1, I r1.2.1, sl A3 n3 c3, sl A4 n4 c4, .b false, .u64 0, .v (.iface 204 (SV.val (pt g1 0)))], Ow e8 A3 n3 c3 r1.2.2.1, Ow e8 A4 n4 c4 r1.2.2.2.1, Bx 208 g1 [.ar dt r1.2.2.2.2.1, .u64 r1.2.2.2.2.2.1, .u64 r1.2.2.2.2.2.2.1, sl A5 n5 c5, I r1.2.2.2.2.2.2.2.2, .v (.func (.func 135) ⟨SV.ad []⟩ ⟨SV.ad []⟩), .v (.func (.func 136) ⟨SV.ad []⟩ ⟨SV.ad []⟩)], Ow e8 A5 n5 c5 r1.2.2.2.2.2.2.2.1]) := by
 unfold lp at hm
 obtain rfl := k.len 1 rfl
 obtain rfl := k.len 2 rfl
 refine calls [pt jq 0] Tryz.func104 rfl (of_decide_eq_true (by kernel_rfl)) ?_
 refine ab ?_
 have k_ := k.drew 1
 refine qO bK (.q 0 1 (.q 1 1 (.q 2 1 (.q 3 0 (.q 4 0 (.q 5 1 (.q 6 1 (.q 7 0 (.q 8 0 (.op 9 (.q 10 1 (.q 11 1 (.op 12 .nil))))))))))))) [9, 12] k_ (.c (.kk (.k .e)) (.c (.s (.kk .e)) .l)) (by kernel_rfl) (fun _ => ?_)
 refine cK 3 1 [] (.n 2 (pt jq 0) (.n 4 (pt jq 0) .a)) (fun x hx => qs jq 0 <| qe) (by kernel_rfl) (fun _ => ?_)
 refine cK 2 0 [] (.n 6 (I fJ) (.k (.s .a))) (fun x hx => qs jq 0 <| qB hx 0 rfl 0 (I fJ) (by kernel_rfl) <| qe) (by kernel_rfl) (fun _ => ?_)
 refine cK 2 1 [] (.n 8 (pt jq 0) .a) (fun x hx => qs jq 0 <| qe) (by kernel_rfl) (fun _ => ?_)
 refine cK 2 0 [] (.n 10 (sl fj cw.length fk) (.s .a)) (fun x hx => qs jq 0 <| qB hx 0 rfl 2 (sl fj cw.length fk) (by kernel_rfl) <| qe) (by kernel_rfl) (fun _ => ?_)
 refine cC (by kernel_rfl) rfl ?_
 obtain ⟨r_, cQ, hm⟩ := ob hm
 refine au [] 11 _ Hy (by kernel_rfl) (B8 (F := N0) (O := N0) _ _ _ _ _ (Ro.n0 (k_.rd 1 rfl)) (k_.len 1 rfl) (k_.Ap 1 rfl) (Cx.refl _) _ cQ) ?_
 rcases r_ with ah | aX
 · simp only [Sum.elim_inl, Sum.elim_inr] at hm
   rintro e_ w_ ⟨g0, A0, _, c0, rfl, rfl, db⟩
   have dE := k_.call db
   refine ⟨.v (.iface 194 (SV.val (pt g0 0))), rfl, ?_⟩
   refine ⟨(dE.de (.kk (.k .z))), fun _ => ?_⟩
   refine cK 2 1 [] (.n 13 (pt jq 6) (.k (.oQ .a))) (fun x hx => qs jq 0 <| qs jq 0 <| qe) (by kernel_rfl) (fun _ => ?_)
   refine cC (by kernel_rfl) rfl <| en [] 0 (.v (.iface 194 (SV.val (pt g0 0)))) [.v (.iface 194 (SV.val (pt g0 0)))] (Pt.at jq 6) dE rfl (.bX (.kk .h)) (by kernel_rfl) (by kernel_rfl) ?_
   intro k4 dU
   refine ⟨(dU.de (.s (.kk .z))), fun _ => ?_⟩
   refine d_ <| aa <| ab <| an <| ba 3 [] (.n 16 (pt jq 4) (.ss .a)) (qs jq 0 <| qs jq 0 <| qe) (by kernel_rfl) ?_
   refine ag <| en [] 0 (.b false) [.b false] (Pt.at jq 4) dU rfl (.bX .h) (by kernel_rfl) (by kernel_rfl) ?_
   intro l6 eY
   refine af <| aa <| ab <| an <| ba 3 [] (.n 19 (pt jq 5) (.s .a)) (qs jq 0 <| qs jq 0 <| qe) (by kernel_rfl) ?_
   refine ag <| en [] 0 (.u64 0) [.u64 0] (Pt.at jq 5) eY rfl (.bX (.k .h)) (by kernel_rfl) (by kernel_rfl) ?_
   intro qj fU
   refine af <| aa <| ab <| bO [] (.n 25 (.b (decide (0 < ((dK.length : Nat) : Int)))) (.s .a)) (qs jq 0 <| qs jq 0 <| qB fU 0 rfl 3 (sl gz dK.length gA) (by kernel_rfl) <| qe) (by kernel_rfl) ?_
   refine aa <| bu (0 < ((dK.length : Nat) : Int)) (by kernel_rfl) (fun hc => ?_) (fun hc => ?_)
   · rw [if_pos hc] at hm
     have g_ := fU.drew 1
     refine qO bK (.q 0 3 (.q 1 3 (.q 2 3 (.q 3 2 (.q 14 2 (.q 15 2 (.q 4 3 (.q 5 3 (.q 6 2 (.q 7 1 (.q 8 3 (.q 9 3 (.q 10 2 (.q 11 1 (.op 12 (.op 13 (.op 16 .nil))))))))))))))))) [12, 13, 16] g_ (.c (.bX (.k .e)) (.c (.bX (.k .e)) (.c (.kk (.k .z)) .l))) (by kernel_rfl) (fun _ => ?_)
     refine cK 3 3 [] (.n 28 (pt jq 6) (.s .a)) (fun x hx => qs jq 0 <| qs jq 0 <| qe) (by kernel_rfl) (fun _ => ?_)
     refine cK 3 2 [] (.n 41 (.v (.iface 194 (SV.val (pt g0 0)))) (.s .a)) (fun x hx => qB hx 0 rfl 6 (.v (.iface 194 (SV.val (pt g0 0)))) (by kernel_rfl) <| qe) (by kernel_rfl) (fun _ => ?_)
     refine cK 2 3 [] (.n 31 (pt jq 0) .a) (fun x hx => qs jq 0 <| qe) (by kernel_rfl) (fun _ => ?_)
     refine cK 1 2 [] (.n 32 (pt jq 3) (.s .a)) (fun x hx => qs jq 0 <| qe) (by kernel_rfl) (fun _ => ?_)
     refine cK 1 1 [] (.n 33 (sl gz dK.length gA) (.s .a)) (fun x hx => qB hx 0 rfl 3 (sl gz dK.length gA) (by kernel_rfl) <| qe) (by kernel_rfl) (fun _ => ?_)
     refine cK 2 3 [] (.n 35 (pt jq 0) (.kk .z)) (fun x hx => qs jq 0 <| qe) (by kernel_rfl) (fun _ => ?_)
     refine cK 1 2 [] (.n 36 (pt jq 0) (.s .a)) (fun x hx => qs jq 0 <| qe) (by kernel_rfl) (fun _ => ?_)
     refine cK 1 1 [] (.n 37 (I fJ) (.s .a)) (fun x hx => qB hx 0 rfl 0 (I fJ) (by kernel_rfl) <| qe) (by kernel_rfl) (fun _ => ?_)
     refine cC (by kernel_rfl) rfl ?_
     have gC := g_.de (.bX (.k .e))
     obtain ⟨eK, nX, hm⟩ := ob hm
     refine au [] 38 _ xz (by kernel_rfl) (o8 (F := N0) (O := N0) _ (Cx.refl _) _ nX) ?_
     rintro e_ qk ⟨rfl, gP⟩
     have gB := gC.call gP
     refine ⟨I eK, rfl, ?_⟩
     refine ⟨gB, fun _ => ?_⟩
     refine cC (by kernel_rfl) rfl ?_
     obtain ⟨gl, sT, hm⟩ := ob hm
     refine au [] 39 _ xA (by kernel_rfl) (pR (F := N0) (O := N0) _ _ _ _ _ (Ro.n0 (gB.rd 2 rfl)) (gB.len 2 rfl) (gB.Ap 2 rfl) (Cx.refl _) _ sT) ?_
     rintro e_ rX ⟨A6, _, c6, rfl, rfl, dO⟩
     have cV := gB.call dO
     refine ⟨sl A6 gl.length c6, rfl, ?_⟩
     refine ⟨(cV.de (.bX (.k .z))), fun _ => ?_⟩
     refine cC (by kernel_rfl) rfl ?_
     obtain ⟨mA, Db, hm⟩ := ob hm
     obtain ⟨F1, O1, lQ, hO, rp, hF, hb⟩ := cV.go (.r (.r (.r (.i (.i (.r .e))))))
     refine pD [] 42 194 (pt g0 0) [sl A6 gl.length c6] qh rfl (by kernel_rfl) (nY (F := F1) (O := O1) _ _ _ _ _ _ _ _ _ _ _ _ _ (Ro.ES rp 3 rfl) (cV.len 5 rfl) (cV.Ap 5 rfl) lQ _ Db) ?_
     rintro e_ wQ ⟨A7, _, c7, rfl, rfl, ff⟩
     have gI := hb wQ _ _ ff (.c (.c .n))
     refine ⟨.gD [], rfl, ?_⟩
     have ez := gI.de (.bX (.k .z))
     refine ⟨(ez.de (.ss (.kk (.k .e)))), fun _ => ?_⟩
     refine d_ ?_
     obtain rfl := Option.some.inj hm
     refine px [] qe (by kernel_rfl) ?_
     have jj := ((((ez.pk (.t .h)).pk (.t .h)).pk (.t (.t (.t (.t .h))))).pk (.t (.t (.t (.t .h))))).pk (.t (.t (.t (.t .h))))
     exact ⟨fj, cw.length, fk, gz, dK.length, gA, g0, A7, mA.2.2.2.1.length, c7, jj.len 1 rfl, jj.len 2 rfl, jj.len 4 rfl, rfl, jj⟩
   rw [if_neg hc] at hm
   refine bc ?_
   obtain rfl := Option.some.inj hm
   refine px [] qe (by kernel_rfl) ?_
   exact ⟨fj, cw.length, fk, gz, dK.length, gA, g0, A0, ah.2.length, c0, fU.len 1 rfl, fU.len 2 rfl, fU.len 4 rfl, rfl, fU⟩
 · simp only [Sum.elim_inl, Sum.elim_inr] at hm
   rintro e_ R3 ⟨g2, A8, _, c8, rfl, rfl, gQ⟩
   have kV := k_.call gQ
   refine ⟨.v (.iface 204 (SV.val (pt g2 0))), rfl, ?_⟩
   refine ⟨(kV.de (.kk (.k .z))), fun _ => ?_⟩
   refine cK 2 1 [] (.n 13 (pt jq 6) (.k (.oQ .a))) (fun x hx => qs jq 0 <| qs jq 0 <| qe) (by kernel_rfl) (fun _ => ?_)
   refine cC (by kernel_rfl) rfl <| en [] 0 (.v (.iface 204 (SV.val (pt g2 0)))) [.v (.iface 204 (SV.val (pt g2 0)))] (Pt.at jq 6) kV rfl (.bX (.kk .h)) (by kernel_rfl) (by kernel_rfl) ?_
   intro wR lz
   refine ⟨(lz.de (.s (.kk .z))), fun _ => ?_⟩
   refine d_ <| aa <| ab <| an <| ba 3 [] (.n 16 (pt jq 4) (.ss .a)) (qs jq 0 <| qs jq 0 <| qe) (by kernel_rfl) ?_
   refine ag <| en [] 0 (.b false) [.b false] (Pt.at jq 4) lz rfl (.bX .h) (by kernel_rfl) (by kernel_rfl) ?_
   intro Av k6
   refine af <| aa <| ab <| an <| ba 3 [] (.n 19 (pt jq 5) (.s .a)) (qs jq 0 <| qs jq 0 <| qe) (by kernel_rfl) ?_
   refine ag <| en [] 0 (.u64 0) [.u64 0] (Pt.at jq 5) k6 rfl (.bX (.k .h)) (by kernel_rfl) (by kernel_rfl) ?_
   intro DE lJ
   refine af <| aa <| ab <| bO [] (.n 25 (.b (decide (0 < ((dK.length : Nat) : Int)))) (.s .a)) (qs jq 0 <| qs jq 0 <| qB lJ 0 rfl 3 (sl gz dK.length gA) (by kernel_rfl) <| qe) (by kernel_rfl) ?_
   refine aa <| bu (0 < ((dK.length : Nat) : Int)) (by kernel_rfl) (fun DZ => ?_) (fun DZ => ?_)
   · rw [if_pos DZ] at hm
     have my := lJ.drew 1
     refine qO bK (.q 0 3 (.q 1 3 (.q 2 3 (.q 3 2 (.q 14 2 (.q 15 2 (.q 4 3 (.q 5 3 (.q 6 2 (.q 7 1 (.q 8 3 (.q 9 3 (.q 10 2 (.q 11 1 (.op 12 (.op 13 (.op 16 .nil))))))))))))))))) [12, 13, 16] my (.c (.bX (.k .e)) (.c (.bX (.k .e)) (.c (.kk (.k .z)) .l))) (by kernel_rfl) (fun _ => ?_)
     refine cK 3 3 [] (.n 28 (pt jq 6) (.s .a)) (fun x hx => qs jq 0 <| qs jq 0 <| qe) (by kernel_rfl) (fun _ => ?_)
     refine cK 3 2 [] (.n 41 (.v (.iface 204 (SV.val (pt g2 0)))) (.s .a)) (fun x hx => qB hx 0 rfl 6 (.v (.iface 204 (SV.val (pt g2 0)))) (by kernel_rfl) <| qe) (by kernel_rfl) (fun _ => ?_)
     refine cK 2 3 [] (.n 31 (pt jq 0) .a) (fun x hx => qs jq 0 <| qe) (by kernel_rfl) (fun _ => ?_)
     refine cK 1 2 [] (.n 32 (pt jq 3) (.s .a)) (fun x hx => qs jq 0 <| qe) (by kernel_rfl) (fun _ => ?_)
     refine cK 1 1 [] (.n 33 (sl gz dK.length gA) (.s .a)) (fun x hx => qB hx 0 rfl 3 (sl gz dK.length gA) (by kernel_rfl) <| qe) (by kernel_rfl) (fun _ => ?_)
     refine cK 2 3 [] (.n 35 (pt jq 0) (.kk .z)) (fun x hx => qs jq 0 <| qe) (by kernel_rfl) (fun _ => ?_)
     refine cK 1 2 [] (.n 36 (pt jq 0) (.s .a)) (fun x hx => qs jq 0 <| qe) (by kernel_rfl) (fun _ => ?_)
     refine cK 1 1 [] (.n 37 (I fJ) (.s .a)) (fun x hx => qB hx 0 rfl 0 (I fJ) (by kernel_rfl) <| qe) (by kernel_rfl) (fun _ => ?_)
     refine cC (by kernel_rfl) rfl ?_
     have nE := my.de (.bX (.k .e))
     obtain ⟨nr, Dc, hm⟩ := ob hm
     refine au [] 38 _ xz (by kernel_rfl) (o8 (F := N0) (O := N0) _ (Cx.refl _) _ Dc) ?_
     rintro e_ Aw ⟨rfl, nh⟩
     have mz := nE.call nh
     refine ⟨I nr, rfl, ?_⟩
     refine ⟨mz, fun _ => ?_⟩
     refine cC (by kernel_rfl) rfl ?_
     obtain ⟨nV, Di, hm⟩ := ob hm
     refine au [] 39 _ xA (by kernel_rfl) (pR (F := N0) (O := N0) _ _ _ _ _ (Ro.n0 (mz.rd 2 rfl)) (mz.len 2 rfl) (mz.Ap 2 rfl) (Cx.refl _) _ Di) ?_
     rintro e_ De ⟨A9, _, c9, rfl, rfl, sw⟩
     have re := mz.call sw
     refine ⟨sl A9 nV.length c9, rfl, ?_⟩
     refine ⟨(re.de (.bX (.k .z))), fun _ => ?_⟩
     refine cC (by kernel_rfl) rfl ?_
     obtain ⟨ue, H2, hm⟩ := ob hm
     obtain ⟨PW, PX, LM, Tm, N2, R4, PY⟩ := re.go (.r (.r (.r (.i (.i (.r .e))))))
     refine pD [] 42 204 (pt g2 0) [sl A9 nV.length c9] qi rfl (by kernel_rfl) (nZ (F := PW) (O := PX) _ _ _ _ _ _ _ _ _ _ _ _ _ (Ro.ES N2 3 rfl) (re.len 5 rfl) (re.Ap 5 rfl) LM _ H2) ?_
     rintro e_ Ef ⟨wq, _, sV, rfl, rfl, yU⟩
     have u7 := PY Ef _ _ yU (.c (.c .n))
     refine ⟨.gD [], rfl, ?_⟩
     have yp := u7.de (.bX (.k .z))
     refine ⟨(yp.de (.ss (.kk (.k .e)))), fun _ => ?_⟩
     refine d_ ?_
     obtain rfl := Option.some.inj hm
     refine px [] qe (by kernel_rfl) ?_
     have yq := ((((yp.pk (.t .h)).pk (.t .h)).pk (.t (.t (.t (.t .h))))).pk (.t (.t (.t (.t .h))))).pk (.t (.t (.t (.t .h))))
     exact ⟨fj, cw.length, fk, gz, dK.length, gA, g2, wq, ue.2.2.2.1.length, sV, yq.len 1 rfl, yq.len 2 rfl, yq.len 4 rfl, rfl, yq⟩
   rw [if_neg DZ] at hm
   refine bc ?_
   obtain rfl := Option.some.inj hm
   refine px [] qe (by kernel_rfl) ?_
   exact ⟨fj, cw.length, fk, gz, dK.length, gA, g2, A8, aX.2.length, c8, lJ.len 1 rfl, lJ.len 2 rfl, lJ.len 4 rfl, rfl, lJ⟩
theorem Dj {F O : Nat → Prop} {w : World} (k_ : Int) (block : List UInt8) (tt : Int) (key : List UInt8) (iY : Option Addr) (cw : Nat) (iZ : Nat) (kW : Option Addr) (dK : Nat) (kX : Nat) (rf : Ro F w iY (e8.all block)) (rQ : block.length = cw) (ql : cw ≤ iZ) (u5 : Ro F w kW (e8.all key)) (rM : key.length = dK) (su : dK ≤ kX) (k : Cx F O w w []) (r : (Int × Int × List UInt8 × List UInt8 × ae UInt64 8 × UInt64 × UInt64 × List UInt8 × Int) ⊕ (Int × Int × List UInt8 × List UInt8 × ae UInt32 8 × UInt64 × UInt64 × List UInt8 × Int)) (hm : p6 k_ block tt key = some r) :
    Calls Tryz.prog 87 (ad [I k_, sl iY cw iZ, I tt, sl kW dK kX]) w (fun e w' => match r with | .inl r0 => ∃ g A n c A1 n1 c1 g1 A2 n2 c2, r0.2.2.1.length = n ∧ r0.2.2.2.1.length = n1 ∧ r0.2.2.2.2.2.2.2.1.length = n2 ∧ e = .returned (SV.val (pt g 0)) ∧ Cx F O w w' [Bx 145 g [I r0.1, I r0.2.1, sl A n c, sl A1 n1 c1, .b false, .u64 0, .v (.iface 194 (SV.val (pt g1 0)))], Ow e8 A n c r0.2.2.1, Ow e8 A1 n1 c1 r0.2.2.2.1, Bx 200 g1 [.ar cj r0.2.2.2.2.1, .u64 r0.2.2.2.2.2.1, .u64 r0.2.2.2.2.2.2.1, sl A2 n2 c2, I r0.2.2.2.2.2.2.2.2, .v (.func (.func 132) ⟨SV.ad []⟩ ⟨SV.ad []⟩), .v (.func (.func 133) ⟨SV.ad []⟩ ⟨SV.ad []⟩)], Ow e8 A2 n2 c2 r0.2.2.2.2.2.2.2.1] | .inr r1 => ∃ g2 A3 n3 c3 A4 n4 c4 g3 A5 n5 c5, r1.2.2.1.length = n3 ∧ r1.2.2.2.1.length = n4 ∧ r1.2.2.2.2.2.2.2.1.length = n5 ∧ e = .returned (SV.val (pt g2 0)) ∧ Cx F O w w' [Bx 145 g2 [I r1.1, I r1.2.1, sl A3 n3 c3, sl A4 n4 c4, .b false, .u64 0, .v (.iface 204 (SV.val (pt g3 0)))], Ow e8 A3 n3 c3 r1.2.2.1, Ow e8 A4 n4 c4 r1.2.2.2.1, Bx 208 g3 [.ar dt r1.2.2.2.2.1, .u64 r1.2.2.2.2.2.1, .u64 r1.2.2.2.2.2.2.1, sl A5 n5 c5, I r1.2.2.2.2.2.2.2.2, .v (.func (.func 135) ⟨SV.ad []⟩ ⟨SV.ad []⟩), .v (.func (.func 136) ⟨SV.ad []⟩ ⟨SV.ad []⟩)], Ow e8 A5 n5 c5 r1.2.2.2.2.2.2.2.1]) := by
 unfold p6 at hm
 subst rQ
 subst rM
 refine calls [I k_, sl iY block.length iZ, I tt, sl kW key.length kX] Tryz.func87 rfl (of_decide_eq_true (by kernel_rfl)) ?_
 refine ab <| bO [] .a qe (by kernel_rfl) ?_
 refine aa <| ab <| an <| ba 3 [] (.n 10 (I k_) (.n 11 (I tt) (.n 12 (sl iY block.length iZ) (.oQ .a)))) qe (by kernel_rfl) ?_
 refine ag ?_
 have db := k.nil e8
 obtain ⟨b, qH, hm⟩ := ob hm
 obtain ⟨hz, hl⟩ := mm qH
 refine k8 (E := e8) (v := sl iY block.length iZ) (ys := block) iJ [] 13 0 (by kernel_rfl) db rfl (Src.sl (rf.cx db) rfl (by rfl)) rfl (by have := db.len 0 rfl; have := hm; omega) ?_
 intro A0 c0 w_ dE
 rw [← hl] at dE
 refine ba 1 [] (.n 14 (sl kW key.length kX) (.uk .z)) qe (by kernel_rfl) ?_
 refine ag ?_
 have dU := dE.nil e8
 obtain ⟨b1, wS, hm⟩ := ob hm
 obtain ⟨K3, Gv⟩ := mm wS
 refine k8 (E := e8) (v := sl kW key.length kX) (ys := key) iJ [] 15 1 (by kernel_rfl) dU rfl (Src.sl (u5.cx dU) rfl (by rfl)) rfl (by have := dU.len 1 rfl; have := hm; omega) ?_
 intro A6 c6 k4 eY
 rw [← Gv] at eY
 refine ba 1 [] (.n 16 (.agg [I k_, I tt, sl A0 (0 + block.length) c0, sl A6 (0 + key.length) c6, .b false, .u64 0, .v .nilIface]) .z) qe (by kernel_rfl) ?_
 refine ag <| gF [] 17 (.agg [I k_, I tt, sl A0 (0 + block.length) c0, sl A6 (0 + key.length) c6, .b false, .u64 0, .v .nilIface]) [I k_, I tt, sl A0 (0 + block.length) c0, sl A6 (0 + key.length) c6, .b false, .u64 0, .v .nilIface] (by kernel_rfl) eY ?_
 intro g0 l6 fU
 refine ba 1 [] (.n 9 (pt g0 0) .z) qe (by kernel_rfl) ?_
 refine af <| aa <| ab <| an <| ba 1 [] (.n 18 (pt g0 0) .a) qe (by kernel_rfl) ?_
 refine ag ?_
 obtain ⟨r_, cQ, hm⟩ := ob hm
 have g_ := ((fU.pk (.t .h)).pk (.t .h)).pk (.t (.t .h))
 obtain ⟨F1, O1, lQ, hO, rp, hF, hb⟩ := g_.go (.i (.i (.i .e)))
 refine au [] 19 _ Hx (by kernel_rfl) (xG (F := F1) (O := O1) _ _ _ _ _ _ _ _ _ _ _ _ _ lQ _ cQ) ?_
 rcases r_ with ah | aX
 · simp only [Sum.elim_inl, Sum.elim_inr] at hm
   rintro e_ qj ⟨A7, _, c7, A8, _, c8, g4, A9, _, c9, rfl, rfl, rfl, rfl, gC⟩
   have gP := hb qj _ _ gC (.c (.c (.c (.c (.c .n)))))
   refine ⟨.gD [], rfl, ?_⟩
   refine af <| aa <| ab <| bO [] (.n 8 (pt g0 0) .z) qe (by kernel_rfl) ?_
   refine aa <| aQ ?_
   obtain rfl := Option.some.inj hm
   refine aR [pt g0 0] qe (by kernel_rfl) ?_
   exact ⟨g0, A7, ah.2.2.1.length, c7, A8, ah.2.2.2.1.length, c8, g4, A9, ah.2.2.2.2.2.2.2.1.length, c9, gP.len 1 rfl, gP.len 2 rfl, gP.len 4 rfl, rfl, gP⟩
 · simp only [Sum.elim_inl, Sum.elim_inr] at hm
   rintro e_ qk ⟨wq, _, sV, yr, _, uf, g5, Cn, _, xS, rfl, rfl, rfl, rfl, gB⟩
   have dO := hb qk _ _ gB (.c (.c (.c (.c (.c .n)))))
   refine ⟨.gD [], rfl, ?_⟩
   refine af <| aa <| ab <| bO [] (.n 8 (pt g0 0) .z) qe (by kernel_rfl) ?_
   refine aa <| aQ ?_
   obtain rfl := Option.some.inj hm
   refine aR [pt g0 0] qe (by kernel_rfl) ?_
   exact ⟨g0, wq, aX.2.2.1.length, sV, yr, aX.2.2.2.1.length, uf, g5, Cn, aX.2.2.2.2.2.2.2.1.length, xS, dO.len 1 rfl, dO.len 2 rfl, dO.len 4 rfl, rfl, dO⟩
theorem zU {F O : Nat → Prop} {w : World} (k_ : Int) (bb : Int) (dy : Int) (bm : Int) (bM : Int) (cY : UInt32) (aV : UInt64) (ca : UInt32) (az : Int) (bE : Int) (bW : List UInt8) (ay : List UInt8) (key : List UInt8) (cD : Option Addr) (iX : Nat) (cE : Nat) (a6 : Option Addr) (ey : Nat) (a7 : Nat) (kW : Option Addr) (dK : Nat) (kX : Nat) (o7 : Ro F w cD (e8.all bW)) (nD : bW.length = iX) (oN : iX ≤ cE) (kj : Ro F w a6 (e8.all ay)) (jE : ay.length = ey) (kv : ey ≤ a7) (u5 : Ro F w kW (e8.all key)) (rM : key.length = dK) (su : dK ≤ kX) (k : Cx F O w w []) (r : Int ⊕ (Int × Int × List UInt8 × List UInt8 × ae UInt64 8 × UInt64 × UInt64 × List UInt8 × Int) ⊕ (Int × Int × List UInt8 × List UInt8 × ae UInt32 8 × UInt64 × UInt64 × List UInt8 × Int)) (hm : mQ k_ bb dy bm bM cY aV ca az bE bW ay key = some r) :
    Calls Tryz.prog 65 (ad [I k_, .agg [I bb, I dy, I bm, I bM, .u32 cY, .u64 aV, .u32 ca, I az, I bE, sl cD iX cE, sl a6 ey a7], sl kW dK kX]) w (fun e w' => match r with | .inl r0 => e = .returned (SV.val (.gD [.v (.pointer none), I r0])) ∧ Cx F O w w' [] | .inr (.inl r1) => ∃ g A n c A1 n1 c1 g1 A2 n2 c2, r1.2.2.1.length = n ∧ r1.2.2.2.1.length = n1 ∧ r1.2.2.2.2.2.2.2.1.length = n2 ∧ e = .returned (SV.val (.gD [pt g 0, I 0])) ∧ Cx F O w w' [Bx 145 g [I r1.1, I r1.2.1, sl A n c, sl A1 n1 c1, .b false, .u64 0, .v (.iface 194 (SV.val (pt g1 0)))], Ow e8 A n c r1.2.2.1, Ow e8 A1 n1 c1 r1.2.2.2.1, Bx 200 g1 [.ar cj r1.2.2.2.2.1, .u64 r1.2.2.2.2.2.1, .u64 r1.2.2.2.2.2.2.1, sl A2 n2 c2, I r1.2.2.2.2.2.2.2.2, .v (.func (.func 132) ⟨SV.ad []⟩ ⟨SV.ad []⟩), .v (.func (.func 133) ⟨SV.ad []⟩ ⟨SV.ad []⟩)], Ow e8 A2 n2 c2 r1.2.2.2.2.2.2.2.1] | .inr (.inr r2) => ∃ g2 A3 n3 c3 A4 n4 c4 g3 A5 n5 c5, r2.2.2.1.length = n3 ∧ r2.2.2.2.1.length = n4 ∧ r2.2.2.2.2.2.2.2.1.length = n5 ∧ e = .returned (SV.val (.gD [pt g2 0, I 0])) ∧ Cx F O w w' [Bx 145 g2 [I r2.1, I r2.2.1, sl A3 n3 c3, sl A4 n4 c4, .b false, .u64 0, .v (.iface 204 (SV.val (pt g3 0)))], Ow e8 A3 n3 c3 r2.2.2.1, Ow e8 A4 n4 c4 r2.2.2.2.1, Bx 208 g3 [.ar dt r2.2.2.2.2.1, .u64 r2.2.2.2.2.2.1, .u64 r2.2.2.2.2.2.2.1, sl A5 n5 c5, I r2.2.2.2.2.2.2.2.2, .v (.func (.func 135) ⟨SV.ad []⟩ ⟨SV.ad []⟩), .v (.func (.func 136) ⟨SV.ad []⟩ ⟨SV.ad []⟩)], Ow e8 A5 n5 c5 r2.2.2.2.2.2.2.2.1]) := by
 unfold mQ at hm
 subst nD
 subst jE
 subst rM
 refine calls [I k_, .agg [I bb, I dy, I bm, I bM, .u32 cY, .u64 aV, .u32 ca, I az, I bE, sl cD bW.length cE, sl a6 ay.length a7], sl kW key.length kX] Tryz.func65 rfl (of_decide_eq_true (by kernel_rfl)) ?_
 refine ab <| an <| ag <| gF [] 4 (.agg [I bb, I dy, I bm, I bM, .u32 cY, .u64 aV, .u32 ca, I az, I bE, sl cD bW.length cE, sl a6 ay.length a7]) [I bb, I dy, I bm, I bM, .u32 cY, .u64 aV, .u32 ca, I az, I bE, sl cD bW.length cE, sl a6 ay.length a7] (by kernel_rfl) k ?_
 intro g0 w_ db
 refine ba 2 [] (.kk (.s .a)) qe (by kernel_rfl) ?_
 refine af <| aa <| ab <| an <| ba 2 [] (.n 11 (I k_) (.n 12 (.agg [I bb, I dy, I bm, I bM, .u32 cY, .u64 aV, .u32 ca, I az, I bE, sl cD bW.length cE, sl a6 ay.length a7]) .a)) (qT db 0 rfl 0 11 [I bb, I dy, I bm, I bM, .u32 cY, .u64 aV, .u32 ca, I az, I bE, sl cD bW.length cE, sl a6 ay.length a7] (by kernel_rfl) (by decide) <| qe) (by kernel_rfl) ?_
 refine ag ?_
 obtain ⟨r_, cQ, hm⟩ := ob hm
 refine au [] 13 _ JJ (by kernel_rfl) (zN (F := N0) (O := N0) _ _ _ _ _ _ _ _ _ _ _ _ _ _ _ _ _ _ (Ro.n0 (o7.cx db)) rfl oN (Ro.n0 (kj.cx db)) rfl kv (Cx.refl _) _ cQ) ?_
 rintro e_ k4 ⟨A0, _, c0, rfl, rfl, dE⟩
 have dU := db.call dE
 refine ⟨.gD [sl A0 r_.1.length c0, I r_.2], rfl, ?_⟩
 refine ba 5 [] (.n 8 (sl A0 r_.1.length c0) (.n 9 (I r_.2) (.oQ .a))) qe (by kernel_rfl) ?_
 refine af <| aa <| ab <| ab <| bO [] (.n 17 (.b (decide (r_.2 ≠ 0))) .a) qe (by kernel_rfl) ?_
 refine aa <| bu (r_.2 ≠ 0) (by kernel_rfl) (fun hc => ?_) (fun hc => ?_)
 · rw [if_pos hc] at hm
   refine ab <| bO [] (.n 6 (.v (.pointer none)) (.n 7 (I r_.2) .z)) qe (by kernel_rfl) ?_
   refine aa <| aQ (cJ ?_)
   obtain rfl := Option.some.inj hm
   refine aR [.v (.pointer none), I r_.2] qe (by kernel_rfl) ?_
   have eY := dU.de .z
   exact ⟨rfl, eY⟩
 rw [if_neg hc] at hm
 refine bc <| aa <| ab <| ab <| bO [] (.n 28 (.b ((decide (((key.length : Nat) : Int) ≠ 0)) && (decide (((key.length : Nat) : Int) ≠ dy)))) (.s (.k (.s .a)))) (qp ((decide (((key.length : Nat) : Int) ≠ 0)) = true → (some ⟨g0, 0, none⟩ : Option Addr).isSome = true) (fun F2 => rfl) <| qo (I dy) <| qc (fun w => (decide (((key.length : Nat) : Int) ≠ 0)) = true → ∃ a, (some ⟨g0, 1, none⟩ : Option Addr) = some a ∧ w.cell? a = some (SV.val (I dy))) (fun F2 => dU.M9 0 rfl 1 (I dy) (by kernel_rfl)) <| qe) (by kernel_rfl) ?_
 refine aa <| cm ((decide (((key.length : Nat) : Int) ≠ 0)) && (decide (((key.length : Nat) : Int) ≠ dy))) (by kernel_rfl) (fun k5 => ?_) (fun k5 => ?_)
 · rw [if_pos k5] at hm
   refine ab <| bO [] (.n 6 (.v (.pointer none)) (.n 7 (I 8) .z)) qe (by kernel_rfl) ?_
   refine aa <| aQ (cJ ?_)
   obtain rfl := Option.some.inj hm
   refine aR [.v (.pointer none), I 8] qe (by kernel_rfl) ?_
   have fU := dU.de .z
   exact ⟨rfl, fU⟩
 rw [if_neg (by rw [k5]; decide)] at hm
 refine bc <| aa <| ab <| an <| ba 5 [] (.n 29 (I k_) (.n 30 (sl A0 r_.1.length c0) (.n 32 (I bb) (.n 33 (sl kW key.length kX) .z)))) (qs g0 0 <| qB dU 0 rfl 0 (I bb) (by kernel_rfl) <| qe) (by kernel_rfl) ?_
 refine ag ?_
 obtain ⟨ah, dd, hm⟩ := ob hm
 refine au [] 34 _ JK (by kernel_rfl) (Dj (F := N0) (O := N0) _ _ _ _ _ _ _ _ _ _ (Ro.n0 (dU.rd 1 rfl)) (dU.len 1 rfl) (dU.Ap 1 rfl) (Ro.n0 (u5.cx dU)) rfl su (Cx.refl _) _ dd) ?_
 rcases ah with aX | eK
 · simp only [Sum.elim_inl, Sum.elim_inr] at hm
   rintro e_ l6 ⟨g4, A6, _, c6, A7, _, c7, g5, A8, _, c8, rfl, rfl, rfl, rfl, g_⟩
   have gC := dU.call g_
   refine ⟨pt g4 0, rfl, ?_⟩
   have gP := gC.de (.ss (.bX (.k .e)))
   refine ba 2 [] (.n 6 (pt g4 0) (.n 7 (I 0) .z)) qe (by kernel_rfl) ?_
   refine af <| aa <| aQ ?_
   obtain rfl := Option.some.inj hm
   refine aR [pt g4 0, I 0] qe (by kernel_rfl) ?_
   exact ⟨g4, A6, aX.2.2.1.length, c6, A7, aX.2.2.2.1.length, c7, g5, A8, aX.2.2.2.2.2.2.2.1.length, c8, gP.len 1 rfl, gP.len 2 rfl, gP.len 4 rfl, rfl, gP⟩
 · simp only [Sum.elim_inl, Sum.elim_inr] at hm
   rintro e_ qj ⟨g6, A9, _, c9, wq, _, sV, g7, yr, _, uf, rfl, rfl, rfl, rfl, gB⟩
   have dO := dU.call gB
   refine ⟨pt g6 0, rfl, ?_⟩
   have cV := dO.de (.ss (.bX (.k .e)))
   refine ba 2 [] (.n 6 (pt g6 0) (.n 7 (I 0) .z)) qe (by kernel_rfl) ?_
   refine af <| aa <| aQ ?_
   obtain rfl := Option.some.inj hm
   refine aR [pt g6 0, I 0] qe (by kernel_rfl) ?_
   exact ⟨g6, A9, eK.2.2.1.length, c9, wq, eK.2.2.2.1.length, sV, g7, yr, eK.2.2.2.2.2.2.2.1.length, uf, cV.len 1 rfl, cV.len 2 rfl, cV.len 4 rfl, rfl, cV⟩
theorem u_ {F O : Nat → Prop} {w : World} (cI : List UInt8) (bk : List UInt8) (al : List UInt8) (jB : UInt64) (fy : ae UInt8 64) (dP : Int) (aY : Nat) (cy : Option Addr) (dF : Nat) (cz : Nat) (bQ : Option Addr) (cF : Nat) (bR : Nat) (aE : Option Addr) (a8 : Nat) (aF : Nat) (j0 : Ro F w cy (e8.all cI)) (jP : cI.length = dF) (iD : dF ≤ cz) (hN : Ro F w bQ (e8.all bk)) (iE : bk.length = cF) (gb : cF ≤ bR) (dL : Ro F w aE (e8.all al)) (eG : al.length = a8) (di : a8 ≤ aF) (k : Cx F O w w [Bx 86 aY [I 1, I 64, .u32 4294967295, .u64 274877906944, .b false, sl cy dF cz, sl bQ cF bR, sl aE a8 aF, .v (.pointer none), sl none 0 0, .u64 jB, .ar e8 fy, I dP, .v .nilFunc]]) (r : (Int × Int × List UInt8 × List UInt8 × ae UInt64 8 × UInt64 × UInt64 × List UInt8 × Int × ae UInt8 64)) (hm : lu cI bk al jB fy dP = some r) :
    Calls Tryz.prog 36 (ad [pt aY 0]) w (fun e w' => ∃ g A n c A1 n1 c1 g1 A2 n2 c2, r.2.2.1.length = n ∧ r.2.2.2.1.length = n1 ∧ r.2.2.2.2.2.2.2.1.length = n2 ∧ e = .returned (SV.val (.gD [])) ∧ Cx F O w w' [Bx 86 aY [I 1, I 64, .u32 4294967295, .u64 274877906944, .b false, sl cy dF cz, sl bQ cF bR, sl aE a8 aF, pt g 0, sl none 0 0, .u64 0, .ar e8 r.2.2.2.2.2.2.2.2.2, I (-1), .v (.func (.func 66) ⟨SV.ad [pt aY 0]⟩ ⟨SV.ad []⟩)], Bx 145 g [I r.1, I r.2.1, sl A n c, sl A1 n1 c1, .b false, .u64 0, .v (.iface 194 (SV.val (pt g1 0)))], Ow e8 A n c r.2.2.1, Ow e8 A1 n1 c1 r.2.2.2.1, Bx 200 g1 [.ar cj r.2.2.2.2.1, .u64 r.2.2.2.2.2.1, .u64 r.2.2.2.2.2.2.1, sl A2 n2 c2, I r.2.2.2.2.2.2.2.2.1, .v (.func (.func 132) ⟨SV.ad []⟩ ⟨SV.ad []⟩), .v (.func (.func 133) ⟨SV.ad []⟩ ⟨SV.ad []⟩)], Ow e8 A2 n2 c2 r.2.2.2.2.2.2.2.1]) := by
 unfold lu at hm
 subst jP
 subst iE
 subst eG
 refine calls [pt aY 0] Tryz.func36 rfl (of_decide_eq_true (by kernel_rfl)) ?_
 refine ab ?_
 have k_ := k.drew 1
 refine PO bK (.q 0 2 (.q 1 2 (.q 2 2 (.q 3 2 (.q 4 1 (.q 5 1 (.q 6 2 (.q 7 2 (.q 8 1 (.q 9 0 (.q 10 2 (.q 11 2 (.q 12 1 (.q 13 0 (.q 14 2 (.q 15 2 (.q 16 1 (.q 17 0 (.q 18 2 (.q 19 2 (.q 20 1 (.q 21 0 (.q 23 2 (.q 24 2 (.q 25 1 (.q 26 1 (.op 22 (.op 27 (.q 28 2 (.q 29 2 (.q 31 2 (.q 32 2 (.q 30 3 (.op 33 .nil)))))))))))))))))))))))))))))))))) [22, 27, 33] k_ (.c (.k .e) (.c (.k .e) (.c (.z) .l))) (by kernel_rfl) (fun _ => ?_)
 refine cK 4 2 [] (.n 3 (pt aY 0) (.n 6 (pt aY 0) .a)) (fun x hx => qs aY 0 <| qs aY 0 <| qe) (by kernel_rfl) (fun _ => ?_)
 refine cK 2 1 [] (.n 8 (I 1) (.k (.s .a))) (fun x hx => qs aY 0 <| qB hx 0 rfl 0 (I 1) (by kernel_rfl) <| qe) (by kernel_rfl) (fun _ => ?_)
 refine cK 2 2 [] (.n 10 (pt aY 0) .a) (fun x hx => qs aY 0 <| qe) (by kernel_rfl) (fun _ => ?_)
 refine cK 1 1 [] (.n 11 (pt aY 0) (.s .a)) (fun x hx => qs aY 0 <| qe) (by kernel_rfl) (fun _ => ?_)
 refine cK 1 0 [] (.n 12 (.agg [I 1, I 64, .u32 4294967295, .u64 274877906944, .b false]) (.s .a)) (fun x hx => qT hx 0 rfl 0 5 [I 1, I 64, .u32 4294967295, .u64 274877906944, .b false] (by kernel_rfl) (by decide) <| qe) (by kernel_rfl) (fun _ => ?_)
 refine cK 2 2 [] (.n 14 (pt aY 0) .a) (fun x hx => qs aY 0 <| qe) (by kernel_rfl) (fun _ => ?_)
 refine cK 1 1 [] (.n 15 (pt aY 5) (.s .a)) (fun x hx => qs aY 0 <| qe) (by kernel_rfl) (fun _ => ?_)
 refine cK 1 0 [] (.n 16 (sl cy cI.length cz) (.s .a)) (fun x hx => qB hx 0 rfl 5 (sl cy cI.length cz) (by kernel_rfl) <| qe) (by kernel_rfl) (fun _ => ?_)
 refine cK 2 2 [] (.n 18 (pt aY 0) .a) (fun x hx => qs aY 0 <| qe) (by kernel_rfl) (fun _ => ?_)
 refine cK 1 1 [] (.n 19 (pt aY 6) (.s .a)) (fun x hx => qs aY 0 <| qe) (by kernel_rfl) (fun _ => ?_)
 refine cK 1 0 [] (.n 20 (sl bQ bk.length bR) (.s .a)) (fun x hx => qB hx 0 rfl 6 (sl bQ bk.length bR) (by kernel_rfl) <| qe) (by kernel_rfl) (fun _ => ?_)
 refine cK 2 2 [] (.n 22 (pt aY 0) .a) (fun x hx => qs aY 0 <| qe) (by kernel_rfl) (fun _ => ?_)
 refine cK 1 1 [] (.n 23 (pt aY 7) (.s .a)) (fun x hx => qs aY 0 <| qe) (by kernel_rfl) (fun _ => ?_)
 refine cK 1 0 [] (.n 24 (sl aE al.length aF) (.s .a)) (fun x hx => qB hx 0 rfl 7 (sl aE al.length aF) (by kernel_rfl) <| qe) (by kernel_rfl) (fun _ => ?_)
 refine cK 2 2 [] (.n 27 (pt aY 0) .a) (fun x hx => qs aY 0 <| qe) (by kernel_rfl) (fun _ => ?_)
 refine cK 2 1 [] (.n 29 (sl cy cI.length cz) (.s .a)) (fun x hx => qs aY 0 <| qB hx 0 rfl 5 (sl cy cI.length cz) (by kernel_rfl) <| qe) (by kernel_rfl) (fun _ => ?_)
 refine cC (by kernel_rfl) rfl ?_
 obtain ⟨r_, cQ, hm⟩ := ob hm
 refine au [] 25 _ E8 (by kernel_rfl) (rL (F := N0) (O := N0) _ _ _ _ _ _ _ _ _ _ _ _ (Ro.n0 (j0.cx k_)) rfl iD (Ro.n0 (hN.cx k_)) rfl gb (Ro.n0 (dL.cx k_)) rfl di (Cx.refl _) _ cQ) ?_
 rintro e_ w_ ⟨rfl, db⟩
 have dE := k_.call db
 refine ⟨.agg [I 64, I r_, I 1, I 1, .u32 0, .u64 0, .u32 4294967295, I 0, I 0, sl bQ bk.length bR, sl aE al.length aF], rfl, ?_⟩
 refine ⟨dE, fun _ => ?_⟩
 refine cC (by kernel_rfl) rfl ?_
 obtain ⟨ah, dd, hm⟩ := ob hm
 refine au [] 30 _ E9 (by kernel_rfl) (zU (F := N0) (O := N0) _ _ _ _ _ _ _ _ _ _ _ _ _ _ _ _ _ _ _ _ _ _ (Ro.n0 (hN.cx dE)) rfl gb (Ro.n0 (dL.cx dE)) rfl di (Ro.n0 (j0.cx dE)) rfl iD (Cx.refl _) _ dd) ?_
 rcases ah with aX | eK | gl
 · simp only [Sum.elim_inl, Sum.elim_inr] at hm
   cases hm
 · simp only [Sum.elim_inl, Sum.elim_inr] at hm
   rintro e_ wR ⟨g0, A0, _, c0, A3, _, c3, g2, A4, _, c4, rfl, rfl, rfl, rfl, cV⟩
   have ff := dE.call cV
   refine ⟨.gD [pt g0 0, I 0], rfl, ?_⟩
   refine ⟨(ff.de (.k .z)), fun _ => ?_⟩
   refine cK 4 2 [] (.n 2 (.gD [pt g0 0, I 0]) (.n 31 (pt g0 0) (.n 34 (pt aY 8) (.jn (.jn (.s .a)))))) (fun x hx => qs aY 0 <| qs aY 0 <| qe) (by kernel_rfl) (fun _ => ?_)
   refine cK 1 3 [] (.s .a) (fun x hx => qe) (by kernel_rfl) (fun _ => ?_)
   refine cC (by kernel_rfl) rfl <| en [] 0 (pt g0 0) [pt g0 0] (Pt.at aY 8) ff rfl (.bX (.bX .h)) (by kernel_rfl) (by kernel_rfl) ?_
   intro Av gI
   refine ⟨(gI.de .z), fun _ => ?_⟩
   refine d_ <| aa <| ab <| an <| ba 5 [] (.n 36 (pt aY 0) (.n 37 (pt aY 0) (.n 39 (pt aY 9) (.ss .a)))) (qs aY 0 <| qs aY 0 <| qe) (by kernel_rfl) ?_
   refine ag <| en [] 0 (sl none 0 0) [sl none 0 0] (Pt.at aY 9) gI rfl (.bX (.bX (.k .h))) (by kernel_rfl) (by kernel_rfl) ?_
   intro DE ez
   refine ba 2 [] (.n 41 (pt aY 10) (.s (.k (.s .a)))) (qs aY 0 <| qs aY 0 <| qe) (by kernel_rfl) ?_
   refine ag ?_
   have jj := ez.de (.bX (.kk .e))
   refine en [] 0 (.u64 0) [.u64 0] (Pt.at aY 10) jj rfl (.bX (.bX (.kk .h))) (by kernel_rfl) (by kernel_rfl) ?_
   intro Aw gQ
   refine ba 2 [] (.n 43 (pt aY 75) (.ss .a)) (qs aY 0 <| qs aY 0 <| qe) (by kernel_rfl) ?_
   refine ag <| en [] 0 (I (-1)) [I (-1)] (Pt.at aY 75) gQ rfl (.bX (.bX (.bX .h))) (by kernel_rfl) (by kernel_rfl) ?_
   intro De kV
   refine af <| aa <| an <| ba 5 [] (.n 46 (.v (.func (.func 66) ⟨SV.ad [pt aY 0]⟩ ⟨SV.ad []⟩)) (.n 48 (pt aY 76) .z)) (qs aY 0 <| qs aY 0 <| qe) (by kernel_rfl) ?_
   refine ag <| en [] 0 (.v (.func (.func 66) ⟨SV.ad [pt aY 0]⟩ ⟨SV.ad []⟩)) [.v (.func (.func 66) ⟨SV.ad [pt aY 0]⟩ ⟨SV.ad []⟩)] (Pt.at aY 76) kV rfl (.bX (.bX (.bX (.k .h)))) (by kernel_rfl) (by kernel_rfl) ?_
   intro Ef lz
   refine af ?_
   obtain rfl := Option.some.inj hm
   refine px [] qe (by kernel_rfl) ?_
   exact ⟨g0, A0, eK.2.2.1.length, c0, A3, eK.2.2.2.1.length, c3, g2, A4, eK.2.2.2.2.2.2.2.1.length, c4, lz.len 2 rfl, lz.len 3 rfl, lz.len 5 rfl, rfl, lz⟩
 · simp only [Sum.elim_inl, Sum.elim_inr] at hm
   cases hm
theorem Dk {F O : Nat → Prop} {w : World} (key : List UInt8) (dw : List UInt8) (bP : List UInt8) (kW : Option Addr) (dK : Nat) (kX : Nat) (ir : Option Addr) (nS : Nat) (iu : Nat) (cT : Option Addr) (hZ : Nat) (cU : Nat) (u5 : Ro F w kW (e8.all key)) (rM : key.length = dK) (su : dK ≤ kX) (u6 : Ro F w ir (e8.all dw)) (tE : dw.length = nS) (sf : nS ≤ iu) (nf : Ro F w cT (e8.all bP)) (ng : bP.length = hZ) (l7 : hZ ≤ cU) (k : Cx F O w w []) (r : Int ⊕ (List UInt8 × List UInt8 × List UInt8 × Int × Int × List UInt8 × List UInt8 × ae UInt64 8 × UInt64 × UInt64 × List UInt8 × Int × ae UInt8 64)) (hm : sb key dw bP = some r) :
    Calls Tryz.prog 15 (ad [I 1, I (-1), sl kW dK kX, sl ir nS iu, sl cT hZ cU]) w (fun e w' => match r with | .inl r0 => e = .returned (SV.val (.gD [.v (.pointer none), I r0])) ∧ Cx F O w w' [] | .inr r1 => ∃ g A n c A1 n1 c1 A2 n2 c2 g1 A3 n3 c3 A4 n4 c4 g2 A5 n5 c5, r1.1.length = n ∧ r1.2.1.length = n1 ∧ r1.2.2.1.length = n2 ∧ r1.2.2.2.2.2.1.length = n3 ∧ r1.2.2.2.2.2.2.1.length = n4 ∧ r1.2.2.2.2.2.2.2.2.2.2.1.length = n5 ∧ e = .returned (SV.val (.gD [pt g 0, I 0])) ∧ Cx F O w w' [Bx 86 g [I 1, I 64, .u32 4294967295, .u64 274877906944, .b false, sl A n c, sl A1 n1 c1, sl A2 n2 c2, pt g1 0, sl none 0 0, .u64 0, .ar e8 r1.2.2.2.2.2.2.2.2.2.2.2.2, I (-1), .v (.func (.func 66) ⟨SV.ad [pt g 0]⟩ ⟨SV.ad []⟩)], Sh (SH e8) [(A, n, c)] [r1.1], Sh (SH e8) [(A1, n1, c1)] [r1.2.1], Sh (SH e8) [(A2, n2, c2)] [r1.2.2.1], Bx 145 g1 [I r1.2.2.2.1, I r1.2.2.2.2.1, sl A3 n3 c3, sl A4 n4 c4, .b false, .u64 0, .v (.iface 194 (SV.val (pt g2 0)))], Ow e8 A3 n3 c3 r1.2.2.2.2.2.1, Ow e8 A4 n4 c4 r1.2.2.2.2.2.2.1, Bx 200 g2 [.ar cj r1.2.2.2.2.2.2.2.1, .u64 r1.2.2.2.2.2.2.2.2.1, .u64 r1.2.2.2.2.2.2.2.2.2.1, sl A5 n5 c5, I r1.2.2.2.2.2.2.2.2.2.2.2.1, .v (.func (.func 132) ⟨SV.ad []⟩ ⟨SV.ad []⟩), .v (.func (.func 133) ⟨SV.ad []⟩ ⟨SV.ad []⟩)], Ow e8 A5 n5 c5 r1.2.2.2.2.2.2.2.2.2.2.1]) := by
 unfold sb at hm
 subst rM
 subst tE
 subst ng
 refine calls [I 1, I (-1), sl kW key.length kX, sl ir dw.length iu, sl cT bP.length cU] Tryz.func15 rfl (of_decide_eq_true (by kernel_rfl)) ?_
 refine ab <| bO [] .a qe (by kernel_rfl) ?_
 refine aa <| ab <| an <| ba 5 [] (.n 16 (I 1) (.n 17 (I (-1)) (.n 18 (sl kW key.length kX) (.n 19 (sl ir dw.length iu) (.n 20 (sl cT bP.length cU) (.ss .a)))))) qe (by kernel_rfl) ?_
 refine ag ?_
 obtain ⟨r_, cQ, hm⟩ := ob hm
 refine au [] 21 _ JC (by kernel_rfl) (Ax (F := N0) (O := N0) _ _ _ _ _ _ _ _ _ _ _ _ (Ro.n0 (u5.cx k)) rfl su (Ro.n0 (u6.cx k)) rfl sf (Ro.n0 (nf.cx k)) rfl l7 (Cx.refl _) _ cQ) ?_
 rintro e_ w_ ⟨rfl, k_⟩
 have db := k.call k_
 refine ⟨.gD [.agg [I 1, I 64, .u32 4294967295, .u64 274877906944, .b false], I r_], rfl, ?_⟩
 refine ba 3 [] (.n 22 (.agg [I 1, I 64, .u32 4294967295, .u64 274877906944, .b false]) (.n 23 (I r_) (.jn (.ss .a)))) qe (by kernel_rfl) ?_
 refine ag <| bT [] 12 [I 0, I 0, .u32 0, .u64 0, .b false] (by kernel_rfl) db ?_
 intro g0 k4 dE
 refine ag <| en [] 0 (.agg [I 1, I 64, .u32 4294967295, .u64 274877906944, .b false]) [I 1, I 64, .u32 4294967295, .u64 274877906944, .b false] (Pt.at g0 0) dE rfl .all (by kernel_rfl) (by kernel_rfl) ?_
 intro l6 dU
 refine ba 1 [] (.n 13 (I r_) (.k (.ss .a))) qe (by kernel_rfl) ?_
 refine af <| aa <| ab <| ab <| bO [] (.n 25 (.b (decide (r_ ≠ 0))) .a) qe (by kernel_rfl) ?_
 refine aa <| bu (r_ ≠ 0) (by kernel_rfl) (fun hc => ?_) (fun hc => ?_)
 · rw [if_pos hc] at hm
   refine ab <| bO [] (.n 10 (.v (.pointer none)) (.n 11 (I r_) .z)) qe (by kernel_rfl) ?_
   refine aa <| aQ (cJ ?_)
   obtain rfl := Option.some.inj hm
   refine aR [.v (.pointer none), I r_] qe (by kernel_rfl) ?_
   have eY := dU.de .z
   exact ⟨rfl, eY⟩
 rw [if_neg hc] at hm
 refine bc <| aa <| ab ?_
 have fU := dU.drew 1
 refine qO bK (.q 1 2 (.q 3 2 (.q 0 3 (.q 5 3 (.op 2 (.op 4 (.op 6 (.q 7 3 (.op 8 (.q 9 4 .nil)))))))))) [2, 4, 6, 8] fU (.c (.k .e) (.c (.k .e) (.c (.k .e) (.c (.k .e) .l)))) (by kernel_rfl) (fun _ => ?_)
 refine cK 2 2 [] (.n 28 (sl kW key.length kX) (.n 30 (sl ir dw.length iu) (.ss (.k (.ss .a))))) (fun x hx => qe) (by kernel_rfl) (fun _ => ?_)
 refine cK 2 3 [] (.n 27 (.agg [I 1, I 64, .u32 4294967295, .u64 274877906944, .b false]) (.n 32 (sl cT bP.length cU) (.kk .z))) (fun x hx => qT hx 0 rfl 0 5 [I 1, I 64, .u32 4294967295, .u64 274877906944, .b false] (by kernel_rfl) (by decide) <| qe) (by kernel_rfl) (fun _ => ?_)
 refine cC (by kernel_rfl) rfl ?_
 obtain ⟨ah, dd, hm⟩ := ob hm
 refine au [] 29 _ B0 (by kernel_rfl) (u9 (F := N0) (O := N0) _ _ _ _ (Ro.n0 (u5.cx fU)) rfl su (Cx.refl _) _ dd) ?_
 rintro e_ qj ⟨A0, _, c0, rfl, rfl, g_⟩
 have gC := fU.call g_
 refine ⟨sl A0 ah.length c0, rfl, ?_⟩
 refine ⟨(gC.de (.k .z)), fun _ => ?_⟩
 refine cC (by kernel_rfl) rfl ?_
 have gP := gC.de (.kk .e)
 obtain ⟨aX, hK, hm⟩ := ob hm
 refine au [] 31 _ B0 (by kernel_rfl) (u9 (F := N0) (O := N0) _ _ _ _ (Ro.n0 (u6.cx gP)) rfl sf (Cx.refl _) _ hK) ?_
 rintro e_ qk ⟨A6, _, c6, rfl, rfl, gB⟩
 have dO := gP.call gB
 refine ⟨sl A6 aX.length c6, rfl, ?_⟩
 refine ⟨(dO.de (.k .z)), fun _ => ?_⟩
 refine cC (by kernel_rfl) rfl ?_
 obtain ⟨eK, nX, hm⟩ := ob hm
 refine au [] 33 _ B0 (by kernel_rfl) (u9 (F := N0) (O := N0) _ _ _ _ (Ro.n0 (nf.cx dO)) rfl l7 (Cx.refl _) _ nX) ?_
 rintro e_ rX ⟨A7, _, c7, rfl, rfl, cV⟩
 have ff := dO.call cV
 refine ⟨sl A7 eK.length c7, rfl, ?_⟩
 refine ⟨(ff.de (.k .z)), fun _ => ?_⟩
 refine cK 1 3 [] (.n 34 (.agg [I 1, I 64, .u32 4294967295, .u64 274877906944, .b false, sl A0 ah.length c0, sl A6 aX.length c6, sl A7 eK.length c7, .v (.pointer none), sl none 0 0, .u64 0, .ar e8 (ae.rep 64 (0 : UInt8)), I 0, .v .nilFunc]) .z) (fun x hx => qe) (by kernel_rfl) (fun _ => ?_)
 refine cC (by kernel_rfl) rfl ?_
 have gI := (((ff.pk (.t (.t (.t .h)))).pk (.t (.t (.t .h)))).pk (.t (.t .h))).pk (.t (.t (.t .h)))
 have ez := gI.share
 have jj := (((ez.pk (.t (.t (.t .h)))).pk (.t (.t .h))).pk (.t (.t .h))).pk (.t (.t (.t .h)))
 have gQ := jj.share
 have kV := (((gQ.pk (.t (.t .h))).pk (.t (.t .h))).pk (.t (.t .h))).pk (.t (.t (.t .h)))
 have lz := kV.share
 refine gF [] 35 (.agg [I 1, I 64, .u32 4294967295, .u64 274877906944, .b false, sl A0 ah.length c0, sl A6 aX.length c6, sl A7 eK.length c7, .v (.pointer none), sl none 0 0, .u64 0, .ar e8 (ae.rep 64 (0 : UInt8)), I 0, .v .nilFunc]) [I 1, I 64, .u32 4294967295, .u64 274877906944, .b false, sl A0 ah.length c0, sl A6 aX.length c6, sl A7 eK.length c7, .v (.pointer none), sl none 0 0, .u64 0, .ar e8 (ae.rep 64 (0 : UInt8)), I 0, .v .nilFunc] (by kernel_rfl) lz ?_
 intro g3 wQ k6
 refine ⟨(k6.de (.ss (.s (.k .z)))), fun _ => ?_⟩
 refine cK 1 4 [] (.n 14 (pt g3 0) .z) (fun x hx => qe) (by kernel_rfl) (fun _ => ?_)
 refine d_ <| aa <| ab <| an <| ba 1 [] (.n 36 (pt g3 0) .a) qe (by kernel_rfl) ?_
 refine ag ?_
 obtain ⟨gl, sT, hm⟩ := ob hm
 obtain ⟨F1, O1, lQ, hO, rp, hF, hb⟩ := k6.go (.r (.r (.r (.r (.i .e)))))
 refine au [] 37 _ JD (by kernel_rfl) (u_ (F := F1) (O := O1) _ _ _ _ _ _ _ _ _ _ _ _ _ _ _ _ (Ro.kF lQ.off rp 2 rfl) (k6.fS 2 rfl) (k6.kr 2 rfl) (Ro.kF lQ.off rp 1 rfl) (k6.fS 1 rfl) (k6.kr 1 rfl) (Ro.kF lQ.off rp 0 rfl) (k6.fS 0 rfl) (k6.kr 0 rfl) lQ _ sT) ?_
 rintro e_ wR ⟨g4, A8, _, c8, A9, _, c9, g5, wq, _, sV, rfl, rfl, rfl, rfl, lJ⟩
 have my := hb wR _ _ lJ (.c (.c (.c (.c (.c (.c .n))))))
 refine ⟨.gD [], rfl, ?_⟩
 have nE := my.de (.bX (.bX (.k .z)))
 refine af <| aa <| ab <| bO [] (.n 10 (pt g3 0) (.n 11 (I 0) .z)) qe (by kernel_rfl) ?_
 refine aa <| aQ ?_
 obtain rfl := Option.some.inj hm
 refine aR [pt g3 0, I 0] qe (by kernel_rfl) ?_
 have nh := ((((((((nE.pk (.t (.t (.t (.t (.t .h)))))).pk (.t (.t (.t (.t (.t .h)))))).pk (.t (.t (.t (.t (.t .h)))))).pk (.t (.t (.t (.t (.t .h)))))).pk (.t (.t (.t (.t (.t .h)))))).pk (.t (.t (.t (.t (.t (.t .h))))))).pk (.t (.t (.t (.t (.t (.t (.t .h)))))))).pk (.t (.t (.t (.t (.t (.t (.t (.t .h))))))))).pk (.t (.t (.t (.t (.t (.t (.t (.t .h))))))))
 exact ⟨g3, A0, ah.length, c0, A6, aX.length, c6, A7, eK.length, c7, g4, A8, gl.2.2.1.length, c8, A9, gl.2.2.2.1.length, c9, g5, wq, gl.2.2.2.2.2.2.2.1.length, sV, nh.fS 1 rfl, nh.fS 2 rfl, nh.fS 3 rfl, nh.len 5 rfl, nh.len 6 rfl, nh.len 8 rfl, rfl, nh⟩
theorem xH {F O : Nat → Prop} {w : World} (fT : List UInt8) (yt : Option Addr) (El : Nat) (yu : Nat) (H3 : Ro F w yt (e8.all fT)) (JQ : fT.length = El) (JR : El ≤ yu) (k : Cx F O w w []) (r : Int ⊕ (List UInt8 × List UInt8 × List UInt8 × List UInt8 × Int × Int × List UInt8 × List UInt8 × ae UInt64 8 × UInt64 × UInt64 × List UInt8 × Int × ae UInt8 64)) (hm : nA fT = some r) :
    Calls Tryz.prog 6 (ad [sl yt El yu]) w (fun e w' => match r with | .inl r0 => e = .returned (SV.val (.gD [.v (.pointer none), I r0])) ∧ Cx F O w w' [] | .inr r1 => ∃ g A n c g1 A1 n1 c1 A2 n2 c2 A3 n3 c3 g2 A4 n4 c4 A5 n5 c5 g3 A6 n6 c6, r1.1.length = n ∧ r1.2.1.length = n1 ∧ r1.2.2.1.length = n2 ∧ r1.2.2.2.1.length = n3 ∧ r1.2.2.2.2.2.2.1.length = n4 ∧ r1.2.2.2.2.2.2.2.1.length = n5 ∧ r1.2.2.2.2.2.2.2.2.2.2.2.1.length = n6 ∧ e = .returned (SV.val (.gD [pt g 0, I 0])) ∧ Cx F O w w' [Bx 58 g [sl A n c, pt g1 0], Sh (SH e8) [(A, n, c)] [r1.1], Bx 86 g1 [I 1, I 64, .u32 4294967295, .u64 274877906944, .b false, sl A1 n1 c1, sl A2 n2 c2, sl A3 n3 c3, pt g2 0, sl none 0 0, .u64 0, .ar e8 r1.2.2.2.2.2.2.2.2.2.2.2.2.2, I (-1), .v (.func (.func 66) ⟨SV.ad [pt g1 0]⟩ ⟨SV.ad []⟩)], Sh (SH e8) [(A1, n1, c1)] [r1.2.1], Sh (SH e8) [(A2, n2, c2)] [r1.2.2.1], Sh (SH e8) [(A3, n3, c3)] [r1.2.2.2.1], Bx 145 g2 [I r1.2.2.2.2.1, I r1.2.2.2.2.2.1, sl A4 n4 c4, sl A5 n5 c5, .b false, .u64 0, .v (.iface 194 (SV.val (pt g3 0)))], Ow e8 A4 n4 c4 r1.2.2.2.2.2.2.1, Ow e8 A5 n5 c5 r1.2.2.2.2.2.2.2.1, Bx 200 g3 [.ar cj r1.2.2.2.2.2.2.2.2.1, .u64 r1.2.2.2.2.2.2.2.2.2.1, .u64 r1.2.2.2.2.2.2.2.2.2.2.1, sl A6 n6 c6, I r1.2.2.2.2.2.2.2.2.2.2.2.2.1, .v (.func (.func 132) ⟨SV.ad []⟩ ⟨SV.ad []⟩), .v (.func (.func 133) ⟨SV.ad []⟩ ⟨SV.ad []⟩)], Ow e8 A6 n6 c6 r1.2.2.2.2.2.2.2.2.2.2.2.1]) := by
 unfold nA at hm
 subst JQ
 refine calls [sl yt fT.length yu] Tryz.func6 rfl (of_decide_eq_true (by kernel_rfl)) ?_
 refine ab <| bO [] .a qe (by kernel_rfl) ?_
 refine aa <| ab <| ab <| bO [] (.n 8 (.b (decide (64 < ((fT.length : Nat) : Int)))) .a) qe (by kernel_rfl) ?_
 refine aa <| bu (64 < ((fT.length : Nat) : Int)) (by kernel_rfl) (fun hc => ?_) (fun hc => ?_)
 · rw [if_pos hc] at hm
   refine ab <| bO [] (.n 2 (.v (.pointer none)) (.n 3 (I 8) .z)) qe (by kernel_rfl) ?_
   refine aa <| aQ (cJ ?_)
   obtain rfl := Option.some.inj hm
   refine aR [.v (.pointer none), I 8] qe (by kernel_rfl) ?_
   exact ⟨rfl, k⟩
 rw [if_neg hc] at hm
 refine bc <| aa <| ab <| an <| ba 1 [] (.n 10 (sl yt fT.length yu) (.s .a)) qe (by kernel_rfl) ?_
 refine ag ?_
 obtain ⟨r_, cQ, hm⟩ := ob hm
 refine au [] 11 _ Jy (by kernel_rfl) (Dk (F := N0) (O := N0) _ _ _ _ _ _ _ _ _ _ _ _ (Ro.n0 (H3.cx k)) rfl JR (Ro.Jk e8) rfl (Nat.le_refl 0) (Ro.Jk e8) rfl (Nat.le_refl 0) (Cx.refl _) _ cQ) ?_
 rcases r_ with ah | aX
 · simp only [Sum.elim_inl, Sum.elim_inr] at hm
   rintro e_ w_ ⟨rfl, k_⟩
   have db := k.call k_
   refine ⟨.gD [.v (.pointer none), I ah], rfl, ?_⟩
   refine ba 5 [] (.n 4 (.v (.pointer none)) (.n 5 (I ah) (.ss .a))) qe (by kernel_rfl) ?_
   refine af <| aa <| ab <| ab <| bO [] (.n 15 (.b (decide (ah ≠ 0))) .a) qe (by kernel_rfl) ?_
   refine aa <| bu (ah ≠ 0) (by kernel_rfl) (fun k5 => ?_) (fun k5 => ?_)
   · rw [if_pos k5] at hm
     refine ab <| bO [] (.n 2 (.v (.pointer none)) (.n 3 (I ah) .z)) qe (by kernel_rfl) ?_
     refine aa <| aQ (cJ ?_)
     obtain rfl := Option.some.inj hm
     refine aR [.v (.pointer none), I ah] qe (by kernel_rfl) ?_
     exact ⟨rfl, db⟩
   rw [if_neg k5] at hm
   cases hm
 · simp only [Sum.elim_inl, Sum.elim_inr] at hm
   rintro e_ R3 ⟨g4, A7, _, c7, A8, _, c8, A9, _, c9, g5, wq, _, sV, yr, _, uf, g6, Cn, _, xS, rfl, rfl, rfl, rfl, rfl, rfl, rfl, PZ⟩
   have g_ := k.call PZ
   refine ⟨.gD [pt g4 0, I 0], rfl, ?_⟩
   refine ba 5 [] (.n 4 (pt g4 0) (.n 5 (I 0) (.ss .a))) qe (by kernel_rfl) ?_
   refine af <| aa <| ab <| ab <| bO [] (.n 15 (.b false) .a) qe (by kernel_rfl) ?_
   refine aa <| cm false (by kernel_rfl) (fun h => by cases h) (fun _ => ?_)
   refine bc <| aa <| ab <| an <| ba 1 [] (.n 17 (sl yt fT.length yu) (.s (.k .z))) qe (by kernel_rfl) ?_
   refine ag ?_
   have gC := g_.nil e8
   obtain ⟨b0, P0, hm⟩ := ob hm
   obtain ⟨IU, PG⟩ := mm P0
   refine k8 (E := e8) (v := sl yt fT.length yu) (ys := fT) iJ [] 18 9 (by kernel_rfl) gC rfl (Src.sl (H3.cx gC) rfl (by rfl)) rfl (by have := gC.len 9 rfl; have := hm; omega) ?_
   intro IV Co qj gP
   rw [← PG] at gP
   refine ba 2 [] (.n 20 (.agg [sl IV (0 + fT.length) Co, pt g4 0]) .z) qe (by kernel_rfl) ?_
   refine ag ?_
   have gB := (((((((((gP.pk (.t (.t (.t (.t (.t (.t (.t (.t .h))))))))).pk (.t (.t (.t (.t (.t (.t (.t (.t .h))))))))).pk (.t (.t (.t (.t (.t (.t (.t (.t .h))))))))).pk (.t (.t (.t (.t (.t (.t (.t (.t .h))))))))).pk (.t (.t (.t (.t (.t (.t (.t (.t .h))))))))).pk (.t (.t (.t (.t (.t (.t (.t (.t .h))))))))).pk (.t (.t (.t (.t (.t (.t (.t (.t .h))))))))).pk (.t (.t (.t (.t (.t (.t (.t (.t .h))))))))).pk (.t (.t (.t (.t (.t (.t (.t (.t .h))))))))).pk (.t (.t (.t (.t (.t (.t (.t (.t (.t .h)))))))))
   have dO := gB.share
   refine gF [] 21 (.agg [sl IV (0 + fT.length) Co, pt g4 0]) [sl IV (0 + fT.length) Co, pt g4 0] (by kernel_rfl) dO ?_
   intro g7 qk cV
   refine ba 2 [] (.n 2 (pt g7 0) (.n 3 (I 0) .z)) qe (by kernel_rfl) ?_
   refine af <| aa <| aQ ?_
   obtain rfl := Option.some.inj hm
   refine aR [pt g7 0, I 0] qe (by kernel_rfl) ?_
   have ff := ((((((((((cV.pk (.t (.t (.t (.t (.t (.t (.t (.t (.t .h)))))))))).pk (.t (.t (.t (.t (.t (.t (.t (.t (.t .h)))))))))).pk (.t (.t (.t (.t (.t (.t (.t (.t (.t .h)))))))))).pk (.t (.t (.t (.t (.t (.t (.t (.t (.t .h)))))))))).pk (.t (.t (.t (.t (.t (.t (.t (.t (.t .h)))))))))).pk (.t (.t (.t (.t (.t (.t (.t (.t (.t .h)))))))))).pk (.t (.t (.t (.t (.t (.t (.t (.t (.t .h)))))))))).pk (.t (.t (.t (.t (.t (.t (.t (.t (.t .h)))))))))).pk (.t (.t (.t (.t (.t (.t (.t (.t (.t .h)))))))))).pk (.t (.t (.t (.t (.t (.t (.t (.t (.t .h)))))))))).pk (.t (.t (.t (.t (.t (.t (.t (.t (.t (.t .h))))))))))
   exact ⟨g7, IV, 0 + fT.length, Co, g4, A7, aX.1.length, c7, A8, aX.2.1.length, c8, A9, aX.2.2.1.length, c9, g5, wq, aX.2.2.2.2.2.1.length, sV, yr, aX.2.2.2.2.2.2.1.length, uf, g6, Cn, aX.2.2.2.2.2.2.2.2.2.2.1.length, xS, ff.fS 1 rfl, ff.fS 3 rfl, ff.fS 4 rfl, ff.fS 5 rfl, ff.len 7 rfl, ff.len 8 rfl, ff.len 10 rfl, rfl, ff⟩
theorem mh {F O : Nat → Prop} {w : World} (bI : List UInt8) (a1 : List UInt8) (aN : List UInt8) (ak : List UInt8) (aO : Int) (ax : Int) (aB : List UInt8) (aU : List UInt8) (aP : Bool) (ao : UInt64) (aW : ae UInt64 8) (ai : UInt64) (aj : UInt64) (av : List UInt8) (aq : Int) (cp : UInt64) (bJ : ae UInt8 64) (bd : Int) (kU : Nat) (cu : Option Addr) (bS : Nat) (cv : Nat) (cB : Nat) (bY : Option Addr) (bq : Nat) (bZ : Nat) (bC : Option Addr) (aZ : Nat) (bD : Nat) (aI : Option Addr) (aw : Nat) (aJ : Nat) (ck : Nat) (bx : Option Addr) (bB : Nat) (bz : Nat) (b6 : Option Addr) (cd : Nat) (b7 : Nat) (bn : Nat) (bf : Option Addr) (bo : Nat) (bg : Nat) (fZ : Ro F w cu (e8.all bI)) (fL : bI.length = bS) (eU : bS ≤ cv) (ej : Ro F w bY (e8.all a1)) (eM : a1.length = bq) (dA : bq ≤ bZ) (dB : Ro F w bC (e8.all aN)) (eg : aN.length = aZ) (cN : aZ ≤ bD) (bU : Ro F w aI (e8.all ak)) (cg : ak.length = aw) (bF : aw ≤ aJ) (k : Cx F O w w [Bx 58 kU [sl cu bS cv, pt cB 0], Bx 86 cB [I 1, I 64, .u32 4294967295, .u64 274877906944, .b false, sl bY bq bZ, sl bC aZ bD, sl aI aw aJ, pt ck 0, sl none 0 0, .u64 cp, .ar e8 bJ, I bd, .v (.func (.func 66) ⟨SV.ad [pt cB 0]⟩ ⟨SV.ad []⟩)], Bx 145 ck [I aO, I ax, sl bx bB bz, sl b6 cd b7, .b aP, .u64 ao, .v (.iface 194 (SV.val (pt bn 0)))], Ow e8 bx bB bz aB, Ow e8 b6 cd b7 aU, Bx 200 bn [.ar cj aW, .u64 ai, .u64 aj, sl bf bo bg, I aq, .v (.func (.func 132) ⟨SV.ad []⟩ ⟨SV.ad []⟩), .v (.func (.func 133) ⟨SV.ad []⟩ ⟨SV.ad []⟩)], Ow e8 bf bo bg av]) (r : (ae UInt64 8 × UInt64 × UInt64 × List UInt8 × Int × Int × Int × List UInt8 × List UInt8 × Bool × UInt64 × UInt64 × ae UInt8 64 × Int)) (hm : ek bI a1 aN ak aO ax aB aU aP ao aW ai aj av aq cp bJ bd = some r) :
    Calls Tryz.prog 16 (ad [pt kU 0]) w (fun e w' => ∃ A n c A1 n1 c1 A2 n2 c2, r.2.2.2.1.length = n ∧ r.2.2.2.2.2.2.2.1.length = n1 ∧ r.2.2.2.2.2.2.2.2.1.length = n2 ∧ e = .returned (SV.val (.b false)) ∧ Cx F O w w' [Bx 200 bn [.ar cj r.1, .u64 r.2.1, .u64 r.2.2.1, sl A n c, I r.2.2.2.2.1, .v (.func (.func 132) ⟨SV.ad []⟩ ⟨SV.ad []⟩), .v (.func (.func 133) ⟨SV.ad []⟩ ⟨SV.ad []⟩)], Ow e8 A n c r.2.2.2.1, Bx 145 ck [I r.2.2.2.2.2.1, I r.2.2.2.2.2.2.1, sl A1 n1 c1, sl A2 n2 c2, .b r.2.2.2.2.2.2.2.2.2.1, .u64 r.2.2.2.2.2.2.2.2.2.2.1, .v (.iface 194 (SV.val (pt bn 0)))], Ow e8 A1 n1 c1 r.2.2.2.2.2.2.2.1, Ow e8 A2 n2 c2 r.2.2.2.2.2.2.2.2.1, Bx 86 cB [I 1, I 64, .u32 4294967295, .u64 274877906944, .b false, sl bY bq bZ, sl bC aZ bD, sl aI aw aJ, pt ck 0, sl none 0 0, .u64 r.2.2.2.2.2.2.2.2.2.2.2.1, .ar e8 r.2.2.2.2.2.2.2.2.2.2.2.2.1, I r.2.2.2.2.2.2.2.2.2.2.2.2.2, .v (.func (.func 66) ⟨SV.ad [pt cB 0]⟩ ⟨SV.ad []⟩)], Bx 58 kU [sl cu bS cv, pt cB 0]]) := by
 unfold ek at hm
 subst fL
 subst eM
 subst eg
 subst cg
 obtain rfl := k.len 3 rfl
 obtain rfl := k.len 4 rfl
 obtain rfl := k.len 6 rfl
 refine calls [pt kU 0] Tryz.func16 rfl (of_decide_eq_true (by kernel_rfl)) ?_
 refine ab <| bO [] .a qe (by kernel_rfl) ?_
 refine aa <| ab <| bO [5] (.n 2 (.b false) .z) (qs kU 0 <| qs kU 0 <| qB k 0 rfl 1 (pt cB 0) (by kernel_rfl) <| qe) (by kernel_rfl) ?_
 refine aa <| aQ ?_
 obtain rfl := Option.some.inj hm
 refine aR [.b false] qe (by kernel_rfl) ?_
 have k_ := ((((((k.pk .h).pk (.t .h)).pk (.t (.t (.t (.t .h))))).pk (.t (.t (.t (.t .h))))).pk (.t (.t (.t (.t .h))))).pk (.t (.t (.t (.t (.t (.t .h))))))).pk (.t (.t (.t (.t (.t (.t .h))))))
 exact ⟨bf, av.length, bg, bx, aB.length, bz, b6, aU.length, b7, k_.len 1 rfl, k_.len 3 rfl, k_.len 4 rfl, rfl, k_⟩
theorem yv {F O : Nat → Prop} {w : World} (k : Cx F O w w []) (r : (List Int × Nat)) (hm : mG = some r) :
    Calls Tryz.prog 33 (ad [sl none 0 0]) w (fun e w' => ∃ A n c fb, r.1.length = n ∧ Fl r.2 fb ∧ e = .returned (SV.val (.gD [sl A n c, .v (.float .f64 fb), I 251])) ∧ Cx F O w w' [Ow eI A n c r.1]) := by
 unfold mG at hm
 refine calls [sl none 0 0] Tryz.func33 rfl (of_decide_eq_true (by kernel_rfl)) ?_
 refine ab <| bO [] .a qe (by kernel_rfl) ?_
 refine aa <| ab <| ab <| bO [] (.n 12 (.b false) .a) qe (by kernel_rfl) ?_
 refine aa <| cm false (by kernel_rfl) (fun h => by cases h) (fun _ => ?_)
 refine bc <| aa <| ab <| bO [] (.n 5 (sl none 0 0) (.s .a)) qe (by kernel_rfl) ?_
 refine aa <| ab <| bO [] (.n 6 (.v (.float .f64 0)) (.n 7 (.b false) .a)) qe (by kernel_rfl) ?_
 refine aa <| ab <| ab <| bO [] (.n 13 (sl none 0 0) (.n 14 (I 0) (.n 15 (I 0) (.uk .z)))) qe (by kernel_rfl) ?_
 refine aa <| cX <| PN ?_
 refine ab <| bO [] (.n 16 (.b false) .a) qe (by kernel_rfl) ?_
 refine aa <| ab <| cm false (by kernel_rfl) (fun h => by cases h) (fun _ => ?_)
 refine jr (gk (gk (lT ?_)))
 refine aa <| ab <| cX <| ab <| bO [] (.n 42 (.b true) (.jn (.k (.s .a)))) qe (by kernel_rfl) ?_
 refine aa <| cm true (by kernel_rfl) (fun _ => ?_) (fun h => by cases h)
 refine ab <| bO [] (.n 2 (sl none 0 0) (.n 3 (.v (.float .f64 0)) (.n 4 (I 251) .z))) qe (by kernel_rfl) ?_
 refine aa <| aQ (mL (cJ ?_))
 have k_ := k.nil eI
 obtain rfl := Option.some.inj hm
 refine aR [sl none 0 0, .v (.float .f64 0), I 251] qe (by kernel_rfl) ?_
 exact ⟨none, 0, 0, 0, k_.len 0 rfl, (Fl.lit (c := 0) (by kernel_rfl)), rfl, k_⟩
theorem wV {F O : Nat → Prop} {w : World} (bI : List UInt8) (a1 : List UInt8) (aN : List UInt8) (ak : List UInt8) (aO : Int) (ax : Int) (aB : List UInt8) (aU : List UInt8) (aP : Bool) (ao : UInt64) (aW : ae UInt64 8) (ai : UInt64) (aj : UInt64) (av : List UInt8) (aq : Int) (cp : UInt64) (bJ : ae UInt8 64) (bd : Int) (kU : Nat) (cu : Option Addr) (bS : Nat) (cv : Nat) (cB : Nat) (bY : Option Addr) (bq : Nat) (bZ : Nat) (bC : Option Addr) (aZ : Nat) (bD : Nat) (aI : Option Addr) (aw : Nat) (aJ : Nat) (ck : Nat) (bx : Option Addr) (bB : Nat) (bz : Nat) (b6 : Option Addr) (cd : Nat) (b7 : Nat) (bn : Nat) (bf : Option Addr) (bo : Nat) (bg : Nat) (fZ : Ro F w cu (e8.all bI)) (fL : bI.length = bS) (eU : bS ≤ cv) (ej : Ro F w bY (e8.all a1)) (eM : a1.length = bq) (dA : bq ≤ bZ) (dB : Ro F w bC (e8.all aN)) (eg : aN.length = aZ) (cN : aZ ≤ bD) (bU : Ro F w aI (e8.all ak)) (cg : ak.length = aw) (bF : aw ≤ aJ) (k : Cx F O w w [Bx 58 kU [sl cu bS cv, pt cB 0], Bx 86 cB [I 1, I 64, .u32 4294967295, .u64 274877906944, .b false, sl bY bq bZ, sl bC aZ bD, sl aI aw aJ, pt ck 0, sl none 0 0, .u64 cp, .ar e8 bJ, I bd, .v (.func (.func 66) ⟨SV.ad [pt cB 0]⟩ ⟨SV.ad []⟩)], Bx 145 ck [I aO, I ax, sl bx bB bz, sl b6 cd b7, .b aP, .u64 ao, .v (.iface 194 (SV.val (pt bn 0)))], Ow e8 bx bB bz aB, Ow e8 b6 cd b7 aU, Bx 200 bn [.ar cj aW, .u64 ai, .u64 aj, sl bf bo bg, I aq, .v (.func (.func 132) ⟨SV.ad []⟩ ⟨SV.ad []⟩), .v (.func (.func 133) ⟨SV.ad []⟩ ⟨SV.ad []⟩)], Ow e8 bf bo bg av]) (r : (ae UInt64 8 × UInt64 × UInt64 × List UInt8 × Int × Int × Int × List UInt8 × List UInt8 × Bool × UInt64 × UInt64 × ae UInt8 64 × Int)) (hm : lO bI a1 aN ak aO ax aB aU aP ao aW ai aj av aq cp bJ bd = some r) :
    Calls Tryz.prog 14 (ad [pt kU 0, sl none 0 0]) w (fun e w' => ∃ A n c A1 n1 c1 A2 n2 c2, r.2.2.2.1.length = n ∧ r.2.2.2.2.2.2.2.1.length = n1 ∧ r.2.2.2.2.2.2.2.2.1.length = n2 ∧ e = .returned (SV.val (.gD [I 0, I 251])) ∧ Cx F O w w' [Bx 200 bn [.ar cj r.1, .u64 r.2.1, .u64 r.2.2.1, sl A n c, I r.2.2.2.2.1, .v (.func (.func 132) ⟨SV.ad []⟩ ⟨SV.ad []⟩), .v (.func (.func 133) ⟨SV.ad []⟩ ⟨SV.ad []⟩)], Ow e8 A n c r.2.2.2.1, Bx 145 ck [I r.2.2.2.2.2.1, I r.2.2.2.2.2.2.1, sl A1 n1 c1, sl A2 n2 c2, .b r.2.2.2.2.2.2.2.2.2.1, .u64 r.2.2.2.2.2.2.2.2.2.2.1, .v (.iface 194 (SV.val (pt bn 0)))], Ow e8 A1 n1 c1 r.2.2.2.2.2.2.2.1, Ow e8 A2 n2 c2 r.2.2.2.2.2.2.2.2.1, Bx 86 cB [I 1, I 64, .u32 4294967295, .u64 274877906944, .b false, sl bY bq bZ, sl bC aZ bD, sl aI aw aJ, pt ck 0, sl none 0 0, .u64 r.2.2.2.2.2.2.2.2.2.2.2.1, .ar e8 r.2.2.2.2.2.2.2.2.2.2.2.2.1, I r.2.2.2.2.2.2.2.2.2.2.2.2.2, .v (.func (.func 66) ⟨SV.ad [pt cB 0]⟩ ⟨SV.ad []⟩)], Bx 58 kU [sl cu bS cv, pt cB 0]]) := by
 unfold lO at hm
 subst fL
 subst eM
 subst eg
 subst cg
 obtain rfl := k.len 3 rfl
 obtain rfl := k.len 4 rfl
 obtain rfl := k.len 6 rfl
 refine calls [pt kU 0, sl none 0 0] Tryz.func14 rfl (of_decide_eq_true (by kernel_rfl)) ?_
 refine ab <| bO [] .a qe (by kernel_rfl) ?_
 refine aa <| ab <| ab <| an <| ba 1 [] (.n 16 (pt kU 0) .a) qe (by kernel_rfl) ?_
 refine ag ?_
 obtain ⟨r_, cQ, hm⟩ := ob hm
 obtain ⟨F1, O1, lQ, hO, rp, hF, hb⟩ := k.go (.i (.i (.i (.i (.i (.i (.i .e)))))))
 refine au [] 17 _ vz (by kernel_rfl) (mh (F := F1) (O := O1) _ _ _ _ _ _ _ _ _ _ _ _ _ _ _ _ _ _ _ _ _ _ _ _ _ _ _ _ _ _ _ _ _ _ _ _ _ _ _ _ _ _ _ (Ro.aM fZ k hF) rfl eU (Ro.aM ej k hF) rfl dA (Ro.aM dB k hF) rfl cN (Ro.aM bU k hF) rfl bF lQ _ cQ) ?_
 rintro e_ w_ ⟨A0, _, c0, A3, _, c3, A4, _, c4, rfl, rfl, rfl, rfl, k_⟩
 have db := hb w_ _ _ k_ (.c (.c (.c (.c (.c (.c (.c .n)))))))
 refine ⟨.b false, rfl, ?_⟩
 refine af <| aa <| cm false (by kernel_rfl) (fun h => by cases h) (fun _ => ?_)
 refine bc <| aa <| ab <| an <| ba 1 [] (.n 19 (sl none 0 0) (.ss .a)) qe (by kernel_rfl) ?_
 refine ag ?_
 obtain ⟨ah, dd, hm⟩ := ob hm
 refine au [] 20 _ JB (by kernel_rfl) (yv (F := N0) (O := N0)  (Cx.refl _) _ dd) ?_
 rintro e_ k4 ⟨A5, _, c5, fb, rfl, Ao, rfl, dE⟩
 have dU := db.call dE
 refine ⟨.gD [sl A5 ah.1.length c5, .v (.float .f64 fb), I 251], rfl, ?_⟩
 refine ba 7 [] (.n 6 (sl A5 ah.1.length c5) (.n 7 (.v (.float .f64 fb)) (.n 8 (I 251) (.ss .a)))) qe (by kernel_rfl) ?_
 refine af <| aa <| ab <| ab <| bO [] (.n 25 (.b true) .a) qe (by kernel_rfl) ?_
 refine aa <| cm true (by kernel_rfl) (fun _ => ?_) (fun h => by cases h)
 refine ab <| bO [] (.n 4 (I 0) (.n 5 (I 251) .z)) qe (by kernel_rfl) ?_
 refine aa <| aQ (cJ ?_)
 obtain rfl := Option.some.inj hm
 refine aR [I 0, I 251] qe (by kernel_rfl) ?_
 have eY := dU.de (.bX (.kk (.k .z)))
 exact ⟨A0, r_.2.2.2.1.length, c0, A3, r_.2.2.2.2.2.2.2.1.length, c3, A4, r_.2.2.2.2.2.2.2.2.1.length, c4, eY.len 1 rfl, eY.len 3 rfl, eY.len 4 rfl, rfl, eY⟩
theorem AF {F O : Nat → Prop} {w : World} (k : Cx F O w w []) (r : Bool) (hm : na = some r) :
    Calls Tryz.prog 5 (ad []) w (fun e w' => e = .returned (SV.val (.b r)) ∧ Cx F O w w' []) := by
 unfold na at hm
 refine calls [] Tryz.func5 rfl (of_decide_eq_true (by kernel_rfl)) ?_
 refine ab <| bO [] .a qe (by kernel_rfl) ?_
 refine aa <| ab <| an <| ag ?_
 obtain ⟨r_, cQ, hm⟩ := ob hm
 refine au [] 6 _ Hs (by kernel_rfl) (xH (F := N0) (O := N0) _ _ _ _ (Ro.Jk e8) rfl (Nat.le_refl 0) (Cx.refl _) _ cQ) ?_
 rcases r_ with ah | aX
 · simp only [Sum.elim_inl, Sum.elim_inr] at hm
   rintro e_ w_ ⟨rfl, k_⟩
   have db := k.call k_
   refine ⟨.gD [.v (.pointer none), I ah], rfl, ?_⟩
   refine ba 5 [] (.n 1 (.v (.pointer none)) (.n 2 (I ah) .z)) qe (by kernel_rfl) ?_
   refine af <| aa <| ab <| ab <| bO [11] (.n 14 (.b true) (.k .z)) qe (by kernel_rfl) ?_
   refine aa <| cm true (by kernel_rfl) (fun _ => ?_) (fun h => by cases h)
   refine ab <| bO [] (.n 0 (.b false) .z) qe (by kernel_rfl) ?_
   refine aa <| aQ (cJ ?_)
   obtain rfl := Option.some.inj hm
   refine aR [.b false] qe (by kernel_rfl) ?_
   exact ⟨rfl, db⟩
 · simp only [Sum.elim_inl, Sum.elim_inr] at hm
   rintro e_ R3 ⟨g, A, _, c, g1, A1, _, c1, A2, _, c2, A3, _, c3, g2, A4, _, c4, A5, _, c5, g3, A6, _, c6, rfl, rfl, rfl, rfl, rfl, rfl, rfl, rfl, PZ⟩
   have dE := k.call PZ
   refine ⟨.gD [pt g 0, I 0], rfl, ?_⟩
   refine ba 5 [] (.n 1 (pt g 0) (.n 2 (I 0) .z)) qe (by kernel_rfl) ?_
   refine af <| aa <| ab <| ab <| bO [11] (.n 14 (.b false) (.k .z)) qe (by kernel_rfl) ?_
   refine aa <| cm false (by kernel_rfl) (fun h => by cases h) (fun _ => ?_)
   refine bc <| aa <| ab <| an <| ba 1 [] (.n 16 (pt g 0) .z) qe (by kernel_rfl) ?_
   refine ag ?_
   obtain ⟨eK, nX, hm⟩ := ob hm
   obtain ⟨F1, O1, lQ, hO, rp, hF, hb⟩ := dE.go (.i (.r (.i (.r (.r (.r (.i (.i (.i (.i (.i .e)))))))))))
   refine au [] 17 _ Jx (by kernel_rfl) (wV (F := F1) (O := O1) _ _ _ _ _ _ _ _ _ _ _ _ _ _ _ _ _ _ _ _ _ _ _ _ _ _ _ _ _ _ _ _ _ _ _ _ _ _ _ _ _ _ _ (Ro.kF lQ.off rp 0 rfl) (dE.fS 1 rfl) (dE.kr 1 rfl) (Ro.kF lQ.off rp 1 rfl) (dE.fS 3 rfl) (dE.kr 3 rfl) (Ro.kF lQ.off rp 2 rfl) (dE.fS 4 rfl) (dE.kr 4 rfl) (Ro.kF lQ.off rp 3 rfl) (dE.fS 5 rfl) (dE.kr 5 rfl) lQ _ nX) ?_
   rintro e_ k4 ⟨A7, _, c7, A8, _, c8, A9, _, c9, rfl, rfl, rfl, rfl, dU⟩
   have eY := hb k4 _ _ dU (.c (.c (.c (.c (.c (.c (.c .n)))))))
   refine ⟨.gD [I 0, I 251], rfl, ?_⟩
   have fU := eY.de .z
   refine ba 5 [] (.n 4 (I 251) .z) qe (by kernel_rfl) ?_
   refine af <| aa <| ab <| bO [] (.n 0 (.b true) .z) qe (by kernel_rfl) ?_
   refine aa <| aQ ?_
   obtain rfl := Option.some.inj hm
   refine aR [.b true] qe (by kernel_rfl) ?_
   exact ⟨rfl, fU⟩
theorem qP {F O : Nat → Prop} {w : World} (cI : List UInt8) (bk : List UInt8) (al : List UInt8) (cq : Int) (bA : Int) (bN : List UInt8) (cR : List UInt8) (cr : Bool) (bh : UInt64) (dq : ae UInt64 8) (aG : UInt64) (aH : UInt64) (bw : List UInt8) (bj : Int) (jB : UInt64) (fy : ae UInt8 64) (dP : Int) (aY : Nat) (cy : Option Addr) (dF : Nat) (cz : Nat) (bQ : Option Addr) (cF : Nat) (bR : Nat) (aE : Option Addr) (a8 : Nat) (aF : Nat) (eo : Nat) (du : Option Addr) (ei : Nat) (dv : Nat) (eW : Option Addr) (fM : Nat) (eX : Nat) (da : Nat) (cO : Option Addr) (dD : Nat) (cP : Nat) (j0 : Ro F w cy (e8.all cI)) (jP : cI.length = dF) (iD : dF ≤ cz) (hN : Ro F w bQ (e8.all bk)) (iE : bk.length = cF) (gb : cF ≤ bR) (dL : Ro F w aE (e8.all al)) (eG : al.length = a8) (di : a8 ≤ aF) (k : Cx F O w w [Bx 86 aY [I 1, I 64, .u32 4294967295, .u64 274877906944, .b false, sl cy dF cz, sl bQ cF bR, sl aE a8 aF, pt eo 0, sl none 0 0, .u64 jB, .ar e8 fy, I dP, .v (.func (.func 66) ⟨SV.ad [pt aY 0]⟩ ⟨SV.ad []⟩)], Bx 145 eo [I cq, I bA, sl du ei dv, sl eW fM eX, .b cr, .u64 bh, .v (.iface 194 (SV.val (pt da 0)))], Ow e8 du ei dv bN, Ow e8 eW fM eX cR, Bx 200 da [.ar cj dq, .u64 aG, .u64 aH, sl cO dD cP, I bj, .v (.func (.func 132) ⟨SV.ad []⟩ ⟨SV.ad []⟩), .v (.func (.func 133) ⟨SV.ad []⟩ ⟨SV.ad []⟩)], Ow e8 cO dD cP bw]) (r : (ae UInt64 8 × UInt64 × UInt64 × List UInt8 × Int × Int × Int × List UInt8 × List UInt8 × Bool × UInt64 × UInt64 × ae UInt8 64 × Int)) (hm : ji cI bk al cq bA bN cR cr bh dq aG aH bw bj jB fy dP = some r) :
    Calls Tryz.prog 61 (ad [pt aY 0]) w (fun e w' => ∃ A n c A1 n1 c1 A2 n2 c2, r.2.2.2.1.length = n ∧ r.2.2.2.2.2.2.2.1.length = n1 ∧ r.2.2.2.2.2.2.2.2.1.length = n2 ∧ e = .returned (SV.val (.b false)) ∧ Cx F O w w' [Bx 200 da [.ar cj r.1, .u64 r.2.1, .u64 r.2.2.1, sl A n c, I r.2.2.2.2.1, .v (.func (.func 132) ⟨SV.ad []⟩ ⟨SV.ad []⟩), .v (.func (.func 133) ⟨SV.ad []⟩ ⟨SV.ad []⟩)], Ow e8 A n c r.2.2.2.1, Bx 145 eo [I r.2.2.2.2.2.1, I r.2.2.2.2.2.2.1, sl A1 n1 c1, sl A2 n2 c2, .b r.2.2.2.2.2.2.2.2.2.1, .u64 r.2.2.2.2.2.2.2.2.2.2.1, .v (.iface 194 (SV.val (pt da 0)))], Ow e8 A1 n1 c1 r.2.2.2.2.2.2.2.1, Ow e8 A2 n2 c2 r.2.2.2.2.2.2.2.2.1, Bx 86 aY [I 1, I 64, .u32 4294967295, .u64 274877906944, .b false, sl cy dF cz, sl bQ cF bR, sl aE a8 aF, pt eo 0, sl none 0 0, .u64 r.2.2.2.2.2.2.2.2.2.2.2.1, .ar e8 r.2.2.2.2.2.2.2.2.2.2.2.2.1, I r.2.2.2.2.2.2.2.2.2.2.2.2.2, .v (.func (.func 66) ⟨SV.ad [pt aY 0]⟩ ⟨SV.ad []⟩)]]) := by
 unfold ji at hm
 subst jP
 subst iE
 subst eG
 obtain rfl := k.len 2 rfl
 obtain rfl := k.len 3 rfl
 obtain rfl := k.len 5 rfl
 refine calls [pt aY 0] Tryz.func61 rfl (of_decide_eq_true (by kernel_rfl)) ?_
 refine ab <| bO [] .a qe (by kernel_rfl) ?_
 refine aa <| ab <| bO [5] (.n 2 (.b false) .z) (qs aY 0 <| qs aY 0 <| qB k 0 rfl 76 (.v (.func (.func 66) ⟨SV.ad [pt aY 0]⟩ ⟨SV.ad []⟩)) (by kernel_rfl) <| qe) (by kernel_rfl) ?_
 refine aa <| aQ ?_
 obtain rfl := Option.some.inj hm
 refine aR [.b false] qe (by kernel_rfl) ?_
 have k_ := (((((k.pk .h).pk (.t (.t (.t .h)))).pk (.t (.t (.t .h)))).pk (.t (.t (.t .h)))).pk (.t (.t (.t (.t (.t .h)))))).pk (.t (.t (.t (.t (.t .h)))))
 exact ⟨cO, bw.length, cP, du, bN.length, dv, eW, cR.length, eX, k_.len 1 rfl, k_.len 3 rfl, k_.len 4 rfl, rfl, k_⟩
theorem sW {F O : Nat → Prop} {w : World} (fJ : Int) (eD : Int) (cw : List UInt8) (dK : List UInt8) (jl : Bool) (ep : UInt64) (mD : ae UInt64 8) (dk : UInt64) (dm : UInt64) (fV : List UInt8) (fF : Int) (jq : Nat) (fj : Option Addr) (iC : Nat) (fk : Nat) (gz : Option Addr) (lC : Nat) (gA : Nat) (i_ : Nat) (h_ : Option Addr) (ja : Nat) (ia : Nat) (k : Cx F O w w [Bx 145 jq [I fJ, I eD, sl fj iC fk, sl gz lC gA, .b jl, .u64 ep, .v (.iface 194 (SV.val (pt i_ 0)))], Ow e8 fj iC fk cw, Ow e8 gz lC gA dK, Bx 200 i_ [.ar cj mD, .u64 dk, .u64 dm, sl h_ ja ia, I fF, .v (.func (.func 132) ⟨SV.ad []⟩ ⟨SV.ad []⟩), .v (.func (.func 133) ⟨SV.ad []⟩ ⟨SV.ad []⟩)], Ow e8 h_ ja ia fV]) (r : (ae UInt64 8 × UInt64 × UInt64 × List UInt8 × Int × Int × Int × List UInt8 × List UInt8 × Bool × UInt64)) (hm : js fJ eD cw dK jl ep mD dk dm fV fF = some r) :
    Calls Tryz.prog 89 (ad [pt jq 0]) w (fun e w' => ∃ A n c A1 n1 c1 A2 n2 c2, r.2.2.2.1.length = n ∧ r.2.2.2.2.2.2.2.1.length = n1 ∧ r.2.2.2.2.2.2.2.2.1.length = n2 ∧ e = .returned (SV.val (.b false)) ∧ Cx F O w w' [Bx 200 i_ [.ar cj r.1, .u64 r.2.1, .u64 r.2.2.1, sl A n c, I r.2.2.2.2.1, .v (.func (.func 132) ⟨SV.ad []⟩ ⟨SV.ad []⟩), .v (.func (.func 133) ⟨SV.ad []⟩ ⟨SV.ad []⟩)], Ow e8 A n c r.2.2.2.1, Bx 145 jq [I r.2.2.2.2.2.1, I r.2.2.2.2.2.2.1, sl A1 n1 c1, sl A2 n2 c2, .b r.2.2.2.2.2.2.2.2.2.1, .u64 r.2.2.2.2.2.2.2.2.2.2, .v (.iface 194 (SV.val (pt i_ 0)))], Ow e8 A1 n1 c1 r.2.2.2.2.2.2.2.1, Ow e8 A2 n2 c2 r.2.2.2.2.2.2.2.2.1]) := by
 unfold js at hm
 obtain rfl := k.len 1 rfl
 obtain rfl := k.len 2 rfl
 obtain rfl := k.len 4 rfl
 refine calls [pt jq 0] Tryz.func89 rfl (of_decide_eq_true (by kernel_rfl)) ?_
 refine ab <| bO [] .a qe (by kernel_rfl) ?_
 refine aa <| ab <| bO [5] (.n 2 (.b false) .z) (qs jq 0 <| qs jq 0 <| qB k 0 rfl 6 (.v (.iface 194 (SV.val (pt i_ 0)))) (by kernel_rfl) <| qe) (by kernel_rfl) ?_
 refine aa <| aQ ?_
 obtain rfl := Option.some.inj hm
 refine aR [.b false] qe (by kernel_rfl) ?_
 have k_ := ((((k.pk (.t (.t .h))).pk (.t (.t .h))).pk (.t (.t .h))).pk (.t (.t (.t (.t .h))))).pk (.t (.t (.t (.t .h))))
 exact ⟨h_, fV.length, ia, fj, cw.length, fk, gz, dK.length, gA, k_.len 1 rfl, k_.len 3 rfl, k_.len 4 rfl, rfl, k_⟩
theorem sx {F O : Nat → Prop} {w : World} (ra : ae UInt64 8) (bG : UInt64) (bH : UInt64) (cA : List UInt8) (aA : Int) (aY : Nat) (dG : Option Addr) (lB : Nat) (dH : Nat) (k : Cx F O w w [Bx 200 aY [.ar cj ra, .u64 bG, .u64 bH, sl dG lB dH, I aA, .v (.func (.func 132) ⟨SV.ad []⟩ ⟨SV.ad []⟩), .v (.func (.func 133) ⟨SV.ad []⟩ ⟨SV.ad []⟩)], Ow e8 dG lB dH cA]) (r : (ae UInt64 8 × UInt64 × UInt64 × List UInt8 × Int × ae UInt64 8 × UInt64 × UInt64 × List UInt8 × Int)) (hm : iq ra bG bH cA aA = some r) :
    Calls Tryz.prog 217 (ad [pt aY 0]) w (fun e w' => ∃ g A n c A1 n1 c1, r.2.2.2.1.length = n ∧ r.2.2.2.2.2.2.2.2.1.length = n1 ∧ e = .returned (SV.val (.v (.iface 194 (SV.val (pt g 0))))) ∧ Cx F O w w' [Bx 200 g [.ar cj r.1, .u64 r.2.1, .u64 r.2.2.1, sl A n c, I r.2.2.2.2.1, .v (.func (.func 132) ⟨SV.ad []⟩ ⟨SV.ad []⟩), .v (.func (.func 133) ⟨SV.ad []⟩ ⟨SV.ad []⟩)], Ow e8 A n c r.2.2.2.1, Bx 200 aY [.ar cj r.2.2.2.2.2.1, .u64 r.2.2.2.2.2.2.1, .u64 r.2.2.2.2.2.2.2.1, sl A1 n1 c1, I r.2.2.2.2.2.2.2.2.2, .v (.func (.func 132) ⟨SV.ad []⟩ ⟨SV.ad []⟩), .v (.func (.func 133) ⟨SV.ad []⟩ ⟨SV.ad []⟩)], Ow e8 A1 n1 c1 r.2.2.2.2.2.2.2.2.1]) := by
 unfold iq at hm
 obtain rfl := k.len 1 rfl
 refine calls [pt aY 0] Tryz.func217 rfl (of_decide_eq_true (by kernel_rfl)) ?_
 refine ab <| bO [] .a qe (by kernel_rfl) ?_
 refine aa <| ab <| an <| ba 3 [] (.n 6 (.agg [.ar cj ra, .u64 bG, .u64 bH, sl dG cA.length dH, I aA, .v (.func (.func 132) ⟨SV.ad []⟩ ⟨SV.ad []⟩), .v (.func (.func 133) ⟨SV.ad []⟩ ⟨SV.ad []⟩)]) .a) (qs aY 0 <| qT k 0 rfl 0 14 [.ar cj ra, .u64 bG, .u64 bH, sl dG cA.length dH, I aA, .v (.func (.func 132) ⟨SV.ad []⟩ ⟨SV.ad []⟩), .v (.func (.func 133) ⟨SV.ad []⟩ ⟨SV.ad []⟩)] (by kernel_rfl) (by decide) <| qe) (by kernel_rfl) ?_
 refine ag <| bT [] 3 [.ar cj (ae.rep 8 (0 : UInt64)), .u64 0, .u64 0, sl none 0 0, I 0, .v .nilFunc, .v .nilFunc] (by kernel_rfl) k ?_
 intro g0 w_ k_
 refine ag <| en [] 2 (.agg [.ar cj ra, .u64 bG, .u64 bH, sl dG cA.length dH, I aA, .v (.func (.func 132) ⟨SV.ad []⟩ ⟨SV.ad []⟩), .v (.func (.func 133) ⟨SV.ad []⟩ ⟨SV.ad []⟩)]) [.ar cj ra, .u64 bG, .u64 bH, sl dG cA.length dH, I aA, .v (.func (.func 132) ⟨SV.ad []⟩ ⟨SV.ad []⟩), .v (.func (.func 133) ⟨SV.ad []⟩ ⟨SV.ad []⟩)] (Pt.at g0 0) k_ rfl .all (by kernel_rfl) (by kernel_rfl) ?_
 intro k4 db
 refine af <| aa <| ab ?_
 have dE := db.drew 1
 refine qO bK (.q 0 2 (.q 1 2 (.q 2 1 (.q 3 0 (.q 5 2 (.q 6 2 (.q 7 1 (.q 8 1 (.op 4 (.op 9 (.q 10 2 (.op 11 .nil)))))))))))) [4, 9, 11] dE (.c (.kk (.k .e)) (.c (.kk (.k .e)) (.c (.kk .z) .l))) (by kernel_rfl) (fun _ => ?_)
 refine cK 2 2 [] (.n 8 (pt aY 0) (.k (.s .a))) (fun x hx => qs aY 0 <| qe) (by kernel_rfl) (fun _ => ?_)
 refine cK 1 1 [] (.n 9 (pt aY 11) (.s .a)) (fun x hx => qs aY 0 <| qe) (by kernel_rfl) (fun _ => ?_)
 refine cK 1 0 [] (.n 10 (I aA) (.s .a)) (fun x hx => qB hx 0 rfl 11 (I aA) (by kernel_rfl) <| qe) (by kernel_rfl) (fun _ => ?_)
 refine cK 2 2 [] (.n 13 (pt aY 0) (.kk .z)) (fun x hx => qs aY 0 <| qe) (by kernel_rfl) (fun _ => ?_)
 refine cK 2 1 [] (.n 15 (sl dG cA.length dH) (.s .a)) (fun x hx => qs aY 0 <| qB hx 0 rfl 10 (sl dG cA.length dH) (by kernel_rfl) <| qe) (by kernel_rfl) (fun _ => ?_)
 refine cC (by kernel_rfl) rfl ?_
 obtain ⟨u, wT, hm⟩ := ob hm
 refine vp iJ e8 (0 : UInt8) rfl [] 11 (I 0) (I aA) (0 : Int) aA (by kernel_rfl) (fI wT).1 (fI wT).2.1 (fI wT).2.2 dE ?_
 intro A0 l6 dU
 refine ⟨(dU.de (.kk (.k .z))), fun _ => ?_⟩
 refine cC (by kernel_rfl) rfl ?_
 obtain ⟨b, qH, hm⟩ := ob hm
 obtain ⟨hz, hl⟩ := mm qH
 refine k8 (E := e8) (v := sl dG cA.length dH) (ys := cA) iJ [] 16 3 (by kernel_rfl) dU rfl (Src.sl (dU.rd 1 rfl) (dU.len 1 rfl) (by rfl)) (dU.len 1 rfl) (by have := dU.len 3 rfl; have := (dU.len 1 rfl); omega) ?_
 intro A2 c0 qj eY
 rw [← hl] at eY
 refine ⟨(eY.de (.kk (.k .z))), fun _ => ?_⟩
 refine cK 1 2 [] (.n 17 (pt g0 10) (.k (.oQ .a))) (fun x hx => qs g0 0 <| qe) (by kernel_rfl) (fun _ => ?_)
 refine cC (by kernel_rfl) rfl ?_
 have fU := eY.de (.bX .e)
 refine en [] 2 (sl A2 (Int.toNat (0 : Int) + cA.length) c0) [sl A2 (Int.toNat (0 : Int) + cA.length) c0] (Pt.at g0 10) fU rfl (.kk (.k .h)) (by kernel_rfl) (by kernel_rfl) ?_
 intro qk g_
 refine ⟨(g_.de (.kk .z)), fun _ => ?_⟩
 refine d_ <| aa <| ab <| bO [] (.n 2 (.v (.iface 194 (SV.val (pt g0 0)))) .z) qe (by kernel_rfl) ?_
 refine aa <| aQ ?_
 obtain rfl := Option.some.inj hm
 refine aR [.v (.iface 194 (SV.val (pt g0 0)))] qe (by kernel_rfl) ?_
 have gC := (((g_.pk (.t .h)).pk (.t .h)).pk (.t (.t (.t .h)))).pk (.t (.t (.t .h)))
 exact ⟨g0, A2, Int.toNat (0 : Int) + cA.length, c0, dG, cA.length, dH, gC.len 1 rfl, gC.len 3 rfl, rfl, gC⟩
theorem sX {F O : Nat → Prop} {w : World} (fJ : Int) (eD : Int) (cw : List UInt8) (dK : List UInt8) (jl : Bool) (ep : UInt64) (mD : ae UInt64 8) (dk : UInt64) (dm : UInt64) (fV : List UInt8) (fF : Int) (jq : Nat) (fj : Option Addr) (iC : Nat) (fk : Nat) (gz : Option Addr) (lC : Nat) (gA : Nat) (i_ : Nat) (h_ : Option Addr) (ja : Nat) (ia : Nat) (k : Cx F O w w [Bx 145 jq [I fJ, I eD, sl fj iC fk, sl gz lC gA, .b jl, .u64 ep, .v (.iface 194 (SV.val (pt i_ 0)))], Ow e8 fj iC fk cw, Ow e8 gz lC gA dK, Bx 200 i_ [.ar cj mD, .u64 dk, .u64 dm, sl h_ ja ia, I fF, .v (.func (.func 132) ⟨SV.ad []⟩ ⟨SV.ad []⟩), .v (.func (.func 133) ⟨SV.ad []⟩ ⟨SV.ad []⟩)], Ow e8 h_ ja ia fV]) (r : (Int × Int × List UInt8 × List UInt8 × Bool × UInt64 × ae UInt64 8 × UInt64 × UInt64 × List UInt8 × Int × ae UInt64 8 × UInt64 × UInt64 × List UInt8 × Int × Int × Int × Bool × UInt64)) (hm : kD fJ eD cw dK jl ep mD dk dm fV fF = some r) :
    Calls Tryz.prog 67 (ad [pt jq 0]) w (fun e w' => ∃ g A n c A1 n1 c1 g1 A2 n2 c2 A3 n3 c3, r.2.2.1.length = n ∧ r.2.2.2.1.length = n1 ∧ r.2.2.2.2.2.2.2.2.2.1.length = n2 ∧ r.2.2.2.2.2.2.2.2.2.2.2.2.2.2.1.length = n3 ∧ e = .returned (SV.val (pt g 0)) ∧ Cx F O w w' [Bx 145 g [I r.1, I r.2.1, sl A n c, sl A1 n1 c1, .b r.2.2.2.2.1, .u64 r.2.2.2.2.2.1, .v (.iface 194 (SV.val (pt g1 0)))], Ow e8 A n c r.2.2.1, Ow e8 A1 n1 c1 r.2.2.2.1, Bx 200 g1 [.ar cj r.2.2.2.2.2.2.1, .u64 r.2.2.2.2.2.2.2.1, .u64 r.2.2.2.2.2.2.2.2.1, sl A2 n2 c2, I r.2.2.2.2.2.2.2.2.2.2.1, .v (.func (.func 132) ⟨SV.ad []⟩ ⟨SV.ad []⟩), .v (.func (.func 133) ⟨SV.ad []⟩ ⟨SV.ad []⟩)], Ow e8 A2 n2 c2 r.2.2.2.2.2.2.2.2.2.1, Bx 200 i_ [.ar cj r.2.2.2.2.2.2.2.2.2.2.2.1, .u64 r.2.2.2.2.2.2.2.2.2.2.2.2.1, .u64 r.2.2.2.2.2.2.2.2.2.2.2.2.2.1, sl A3 n3 c3, I r.2.2.2.2.2.2.2.2.2.2.2.2.2.2.2.1, .v (.func (.func 132) ⟨SV.ad []⟩ ⟨SV.ad []⟩), .v (.func (.func 133) ⟨SV.ad []⟩ ⟨SV.ad []⟩)], Ow e8 A3 n3 c3 r.2.2.2.2.2.2.2.2.2.2.2.2.2.2.1, Bx 145 jq [I r.2.2.2.2.2.2.2.2.2.2.2.2.2.2.2.2.1, I r.2.2.2.2.2.2.2.2.2.2.2.2.2.2.2.2.2.1, sl A n c, sl A1 n1 c1, .b r.2.2.2.2.2.2.2.2.2.2.2.2.2.2.2.2.2.2.1, .u64 r.2.2.2.2.2.2.2.2.2.2.2.2.2.2.2.2.2.2.2, .v (.iface 194 (SV.val (pt i_ 0)))]]) := by
 unfold kD at hm
 obtain rfl := k.len 1 rfl
 obtain rfl := k.len 2 rfl
 obtain rfl := k.len 4 rfl
 refine calls [pt jq 0] Tryz.func67 rfl (of_decide_eq_true (by kernel_rfl)) ?_
 refine ab <| bO [] .a qe (by kernel_rfl) ?_
 refine aa <| ab <| ab <| an <| ba 1 [] (.n 4 (pt jq 0) .a) qe (by kernel_rfl) ?_
 refine ag ?_
 obtain ⟨r_, cQ, hm⟩ := ob hm
 obtain ⟨F1, O1, lQ, hO, rp, hF, hb⟩ := k.go (.i (.i (.i (.i (.i .e)))))
 refine au [] 5 _ B2 (by kernel_rfl) (sW (F := F1) (O := O1) _ _ _ _ _ _ _ _ _ _ _ _ _ _ _ _ _ _ _ _ _ _ lQ _ cQ) ?_
 rintro e_ w_ ⟨A0, _, c0, A4, _, c4, A5, _, c5, rfl, rfl, rfl, rfl, k_⟩
 have db := hb w_ _ _ k_ (.c (.c (.c (.c (.c .n)))))
 refine ⟨.b false, rfl, ?_⟩
 refine af <| aa <| cm false (by kernel_rfl) (fun h => by cases h) (fun _ => ?_)
 refine bc <| aa <| ab <| an <| ba 3 [] (.n 8 (.agg [I r_.2.2.2.2.2.1, I r_.2.2.2.2.2.2.1, sl A4 r_.2.2.2.2.2.2.2.1.length c4, sl A5 r_.2.2.2.2.2.2.2.2.1.length c5, .b r_.2.2.2.2.2.2.2.2.2.1, .u64 r_.2.2.2.2.2.2.2.2.2.2, .v (.iface 194 (SV.val (pt i_ 0)))]) (.ss .a)) (qs jq 0 <| qT db 2 rfl 0 7 [I r_.2.2.2.2.2.1, I r_.2.2.2.2.2.2.1, sl A4 r_.2.2.2.2.2.2.2.1.length c4, sl A5 r_.2.2.2.2.2.2.2.2.1.length c5, .b r_.2.2.2.2.2.2.2.2.2.1, .u64 r_.2.2.2.2.2.2.2.2.2.2, .v (.iface 194 (SV.val (pt i_ 0)))] (by kernel_rfl) (by decide) <| qe) (by kernel_rfl) ?_
 refine ag <| bT [] 3 [I 0, I 0, sl none 0 0, sl none 0 0, .b false, .u64 0, .v .nilIface] (by kernel_rfl) db ?_
 intro g0 k4 dE
 refine ag <| en [] 5 (.agg [I r_.2.2.2.2.2.1, I r_.2.2.2.2.2.2.1, sl A4 r_.2.2.2.2.2.2.2.1.length c4, sl A5 r_.2.2.2.2.2.2.2.2.1.length c5, .b r_.2.2.2.2.2.2.2.2.2.1, .u64 r_.2.2.2.2.2.2.2.2.2.2, .v (.iface 194 (SV.val (pt i_ 0)))]) [I r_.2.2.2.2.2.1, I r_.2.2.2.2.2.2.1, sl A4 r_.2.2.2.2.2.2.2.1.length c4, sl A5 r_.2.2.2.2.2.2.2.2.1.length c5, .b r_.2.2.2.2.2.2.2.2.2.1, .u64 r_.2.2.2.2.2.2.2.2.2.2, .v (.iface 194 (SV.val (pt i_ 0)))] (Pt.at g0 0) dE rfl .all (by kernel_rfl) (by kernel_rfl) ?_
 intro l6 dU
 refine af <| aa <| ab <| an <| ba 4 [] (.n 12 (.v (.iface 194 (SV.val (pt i_ 0)))) (.k .z)) (qs jq 0 <| qs jq 0 <| qB dU 2 rfl 6 (.v (.iface 194 (SV.val (pt i_ 0)))) (by kernel_rfl) <| qe) (by kernel_rfl) ?_
 refine ag ?_
 obtain ⟨ah, dd, hm⟩ := ob hm
 obtain ⟨xI, xJ, nF, Fi, tF, si, xK⟩ := dU.go (.i (.i (.r (.r (.r (.r .e))))))
 refine pD [] 13 194 (pt i_ 0) [] u4 rfl (by kernel_rfl) (sx (F := xI) (O := xJ) _ _ _ _ _ _ _ _ _ nF _ dd) ?_
 rintro e_ qj ⟨g2, A6, _, c6, A7, _, c7, rfl, rfl, rfl, eY⟩
 have fU := xK qj _ _ eY (.c (.c (.c (.c .n))))
 refine ⟨.v (.iface 194 (SV.val (pt g2 0))), rfl, ?_⟩
 refine ba 1 [] (.n 14 (pt g0 6) (.k (.s .a))) (qs g0 0 <| qe) (by kernel_rfl) ?_
 refine ag ?_
 have g_ := fU.de (.bX (.bX .e))
 refine en [] 7 (.v (.iface 194 (SV.val (pt g2 0)))) [.v (.iface 194 (SV.val (pt g2 0)))] (Pt.at g0 6) g_ rfl (.bX (.kk .h)) (by kernel_rfl) (by kernel_rfl) ?_
 intro qk gC
 refine af <| aa <| ab <| bO [] (.n 2 (pt g0 0) .z) qe (by kernel_rfl) ?_
 refine aa <| aQ ?_
 obtain rfl := Option.some.inj hm
 refine aR [pt g0 0] qe (by kernel_rfl) ?_
 have gP := (((((((gC.pk (.t (.t (.t (.t .h))))).pk (.t (.t (.t (.t .h))))).pk (.t (.t (.t (.t .h))))).pk (.t (.t (.t (.t .h))))).pk (.t (.t (.t (.t .h))))).pk (.t (.t (.t (.t (.t (.t .h))))))).pk (.t (.t (.t (.t (.t (.t .h))))))).pk (.t (.t (.t (.t (.t (.t (.t .h)))))))
 exact ⟨g0, A4, r_.2.2.2.2.2.2.2.1.length, c4, A5, r_.2.2.2.2.2.2.2.2.1.length, c5, g2, A6, ah.2.2.2.1.length, c6, A7, ah.2.2.2.2.2.2.2.2.1.length, c7, gP.len 1 rfl, gP.len 2 rfl, gP.len 4 rfl, gP.len 6 rfl, rfl, gP⟩
theorem AG {F O : Nat → Prop} {w : World} (uU : List UInt8) (rK : List UInt8) (kM : List UInt8) (jL : Int) (gG : Int) (fi : List UInt8) (iw : List UInt8) (jM : Bool) (fW : UInt64) (lv : ae UInt64 8) (ec : UInt64) (ed : UInt64) (eL : List UInt8) (fX : Int) (uT : UInt64) (p_ : ae UInt8 64) (mX : Int) (jN : List UInt8) (iQ : List UInt8) (fK : List UInt8) (ee : Int) (dj : Int) (ef : Bool) (cL : UInt64) (eE : ae UInt64 8) (cb : UInt64) (cc : UInt64) (b_ : List UInt8) (cM : Int) (gH : UInt64) (fY : ae UInt8 64) (fo : Int) (rq : Nat) (rh : Option Addr) (rk : Nat) (rl : Nat) (o9 : Option Addr) (o_ : Nat) (pc : Nat) (kn : Option Addr) (ko : Nat) (kp : Nat) (sY : Nat) (gJ : Option Addr) (ni : Nat) (gK : Nat) (ju : Option Addr) (pJ : Nat) (jv : Nat) (nG : Nat) (jb : Option Addr) (pd : Nat) (jc : Nat) (jw : Nat) (jF : Option Addr) (jG : Nat) (jH : Nat) (jd : Option Addr) (je : Nat) (jf : Nat) (gf : Option Addr) (gg : Nat) (gh : Nat) (iF : Nat) (gp : Nat) (eN : Option Addr) (kN : Nat) (eO : Nat) (JS : Ro F w rh (e8.all uU)) (zV : uU.length = rk) (H4 : rk ≤ rl) (H5 : Ro F w o9 (e8.all rK)) (yw : rK.length = o_) (F5 : o_ ≤ pc) (Cp : Ro F w kn (e8.all kM)) (sy : kM.length = ko) (AH : ko ≤ kp) (AI : Ro F w jF (e8.all jN)) (rR : jN.length = jG) (zW : jG ≤ jH) (zX : Ro F w jd (e8.all iQ)) (qL : iQ.length = je) (yV : je ≤ jf) (wW : Ro F w gf (e8.all fK)) (nT : fK.length = gg) (vU : gg ≤ gh) (k : Cx F O w w [Bx 86 rq [I 1, I 64, .u32 4294967295, .u64 274877906944, .b false, sl rh rk rl, sl o9 o_ pc, sl kn ko kp, pt sY 0, sl none 0 0, .u64 uT, .ar e8 p_, I mX, .v (.func (.func 66) ⟨SV.ad [pt jw 0]⟩ ⟨SV.ad []⟩)], Bx 145 sY [I jL, I gG, sl gJ ni gK, sl ju pJ jv, .b jM, .u64 fW, .v (.iface 194 (SV.val (pt nG 0)))], Ow e8 gJ ni gK fi, Ow e8 ju pJ jv iw, Bx 200 nG [.ar cj lv, .u64 ec, .u64 ed, sl jb pd jc, I fX, .v (.func (.func 132) ⟨SV.ad []⟩ ⟨SV.ad []⟩), .v (.func (.func 133) ⟨SV.ad []⟩ ⟨SV.ad []⟩)], Ow e8 jb pd jc eL, Bx 86 jw [I 1, I 64, .u32 4294967295, .u64 274877906944, .b false, sl jF jG jH, sl jd je jf, sl gf gg gh, pt iF 0, sl none 0 0, .u64 gH, .ar e8 fY, I fo, .v (.func (.func 66) ⟨SV.ad [pt jw 0]⟩ ⟨SV.ad []⟩)], Bx 145 iF [I ee, I dj, sl gJ ni gK, sl ju pJ jv, .b ef, .u64 cL, .v (.iface 194 (SV.val (pt gp 0)))], Bx 200 gp [.ar cj eE, .u64 cb, .u64 cc, sl eN kN eO, I cM, .v (.func (.func 132) ⟨SV.ad []⟩ ⟨SV.ad []⟩), .v (.func (.func 133) ⟨SV.ad []⟩ ⟨SV.ad []⟩)], Ow e8 eN kN eO b_]) (r : (Int × Int × List UInt8 × List UInt8 × Bool × UInt64 × ae UInt64 8 × UInt64 × UInt64 × List UInt8 × Int × UInt64 × ae UInt8 64 × Int × ae UInt64 8 × UInt64 × UInt64 × List UInt8 × Int × Int × Int × Bool × UInt64 × UInt64 × ae UInt8 64 × Int)) (hm : sr uU rK kM jL gG fi iw jM fW lv ec ed eL fX uT p_ mX jN iQ fK ee dj ef cL eE cb cc b_ cM gH fY fo = some r) :
    Calls Tryz.prog 68 (ad [pt rq 0]) w (fun e w' => ∃ A n c A1 n1 c1 A2 n2 c2 A3 n3 c3, r.2.2.1.length = n ∧ r.2.2.2.1.length = n1 ∧ r.2.2.2.2.2.2.2.2.2.1.length = n2 ∧ r.2.2.2.2.2.2.2.2.2.2.2.2.2.2.2.2.2.1.length = n3 ∧ e = .returned (SV.val (pt rq 0)) ∧ Cx F O w w' [Bx 86 rq [I 1, I 64, .u32 4294967295, .u64 274877906944, .b false, sl rh rk rl, sl o9 o_ pc, sl kn ko kp, pt sY 0, sl none 0 0, .u64 r.2.2.2.2.2.2.2.2.2.2.2.1, .ar e8 r.2.2.2.2.2.2.2.2.2.2.2.2.1, I r.2.2.2.2.2.2.2.2.2.2.2.2.2.1, .v (.func (.func 66) ⟨SV.ad [pt rq 0]⟩ ⟨SV.ad []⟩)], Bx 145 sY [I r.1, I r.2.1, sl A n c, sl A1 n1 c1, .b r.2.2.2.2.1, .u64 r.2.2.2.2.2.1, .v (.iface 194 (SV.val (pt nG 0)))], Ow e8 A n c r.2.2.1, Ow e8 A1 n1 c1 r.2.2.2.1, Bx 200 nG [.ar cj r.2.2.2.2.2.2.1, .u64 r.2.2.2.2.2.2.2.1, .u64 r.2.2.2.2.2.2.2.2.1, sl A2 n2 c2, I r.2.2.2.2.2.2.2.2.2.2.1, .v (.func (.func 132) ⟨SV.ad []⟩ ⟨SV.ad []⟩), .v (.func (.func 133) ⟨SV.ad []⟩ ⟨SV.ad []⟩)], Ow e8 A2 n2 c2 r.2.2.2.2.2.2.2.2.2.1, Bx 200 gp [.ar cj r.2.2.2.2.2.2.2.2.2.2.2.2.2.2.1, .u64 r.2.2.2.2.2.2.2.2.2.2.2.2.2.2.2.1, .u64 r.2.2.2.2.2.2.2.2.2.2.2.2.2.2.2.2.1, sl A3 n3 c3, I r.2.2.2.2.2.2.2.2.2.2.2.2.2.2.2.2.2.2.1, .v (.func (.func 132) ⟨SV.ad []⟩ ⟨SV.ad []⟩), .v (.func (.func 133) ⟨SV.ad []⟩ ⟨SV.ad []⟩)], Ow e8 A3 n3 c3 r.2.2.2.2.2.2.2.2.2.2.2.2.2.2.2.2.2.1, Bx 145 iF [I r.2.2.2.2.2.2.2.2.2.2.2.2.2.2.2.2.2.2.2.1, I r.2.2.2.2.2.2.2.2.2.2.2.2.2.2.2.2.2.2.2.2.1, sl A n c, sl A1 n1 c1, .b r.2.2.2.2.2.2.2.2.2.2.2.2.2.2.2.2.2.2.2.2.2.1, .u64 r.2.2.2.2.2.2.2.2.2.2.2.2.2.2.2.2.2.2.2.2.2.2.1, .v (.iface 194 (SV.val (pt gp 0)))], Bx 86 jw [I 1, I 64, .u32 4294967295, .u64 274877906944, .b false, sl jF jG jH, sl jd je jf, sl gf gg gh, pt iF 0, sl none 0 0, .u64 r.2.2.2.2.2.2.2.2.2.2.2.2.2.2.2.2.2.2.2.2.2.2.2.1, .ar e8 r.2.2.2.2.2.2.2.2.2.2.2.2.2.2.2.2.2.2.2.2.2.2.2.2.1, I r.2.2.2.2.2.2.2.2.2.2.2.2.2.2.2.2.2.2.2.2.2.2.2.2.2, .v (.func (.func 66) ⟨SV.ad [pt jw 0]⟩ ⟨SV.ad []⟩)]]) := by
 unfold sr at hm
 subst zV
 subst yw
 subst sy
 obtain rfl := k.len 2 rfl
 obtain rfl := k.len 3 rfl
 obtain rfl := k.len 5 rfl
 subst rR
 subst qL
 subst nT
 obtain rfl := k.len 9 rfl
 refine calls [pt rq 0] Tryz.func68 rfl (of_decide_eq_true (by kernel_rfl)) ?_
 refine ab <| bO [] .a qe (by kernel_rfl) ?_
 refine aa <| ab <| an <| ba 5 [] (.n 5 (.v (.func (.func 66) ⟨SV.ad [pt rq 0]⟩ ⟨SV.ad []⟩)) (.n 7 (pt rq 76) .a)) (qs rq 0 <| qs rq 0 <| qe) (by kernel_rfl) ?_
 refine ag <| en [] 0 (.v (.func (.func 66) ⟨SV.ad [pt rq 0]⟩ ⟨SV.ad []⟩)) [.v (.func (.func 66) ⟨SV.ad [pt rq 0]⟩ ⟨SV.ad []⟩)] (Pt.at rq 76) k rfl (.bX (.bX (.bX (.k .h)))) (by kernel_rfl) (by kernel_rfl) ?_
 intro w_ k_
 refine af <| aa <| l4 (fun L wr => pF jL gG fi iw jM fW lv ec ed eL fX uT p_ mX ee dj ef cL eE cb cc b_ cM gH fY fo  = some r ∧ L = [(0, pt rq 0)] ∧ Cx F O w wr [Bx 86 rq [I 1, I 64, .u32 4294967295, .u64 274877906944, .b false, sl rh uU.length rl, sl o9 rK.length pc, sl kn kM.length kp, pt sY 0, sl none 0 0, .u64 uT, .ar e8 p_, I mX, .v (.func (.func 66) ⟨SV.ad [pt rq 0]⟩ ⟨SV.ad []⟩)], Bx 145 sY [I jL, I gG, sl gJ fi.length gK, sl ju iw.length jv, .b jM, .u64 fW, .v (.iface 194 (SV.val (pt nG 0)))], Ow e8 gJ fi.length gK fi, Ow e8 ju iw.length jv iw, Bx 200 nG [.ar cj lv, .u64 ec, .u64 ed, sl jb eL.length jc, I fX, .v (.func (.func 132) ⟨SV.ad []⟩ ⟨SV.ad []⟩), .v (.func (.func 133) ⟨SV.ad []⟩ ⟨SV.ad []⟩)], Ow e8 jb eL.length jc eL, Bx 200 gp [.ar cj eE, .u64 cb, .u64 cc, sl eN b_.length eO, I cM, .v (.func (.func 132) ⟨SV.ad []⟩ ⟨SV.ad []⟩), .v (.func (.func 133) ⟨SV.ad []⟩ ⟨SV.ad []⟩)], Ow e8 eN b_.length eO b_, Bx 145 iF [I ee, I dj, sl gJ fi.length gK, sl ju iw.length jv, .b ef, .u64 cL, .v (.iface 194 (SV.val (pt gp 0)))], Bx 86 jw [I 1, I 64, .u32 4294967295, .u64 274877906944, .b false, sl jF jN.length jH, sl jd iQ.length jf, sl gf fK.length gh, pt iF 0, sl none 0 0, .u64 gH, .ar e8 fY, I fo, .v (.func (.func 66) ⟨SV.ad [pt jw 0]⟩ ⟨SV.ad []⟩)]]) ?_ ?_
 ·
  refine ab <| bO [] (.n 12 (.b false) (.ss .a)) (qs rq 0 <| qs rq 0 <| qB k_ 0 rfl 9 (sl none 0 0) (by kernel_rfl) <| qe) (by kernel_rfl) ?_
  refine aa <| cm false (by kernel_rfl) (fun h => by cases h) (fun _ => ?_)
  refine bc ?_
  have db := (((((((((k_.pk (.t (.t (.t (.t (.t (.t .h))))))).pk (.t (.t (.t (.t (.t (.t (.t .h)))))))).pk (.t (.t (.t (.t (.t (.t (.t (.t (.t .h)))))))))).pk (.t (.t (.t (.t (.t (.t (.t (.t (.t .h)))))))))).pk (.t (.t (.t (.t (.t (.t (.t (.t (.t .h)))))))))).pk (.t (.t (.t (.t (.t (.t (.t (.t (.t .h)))))))))).pk (.t (.t (.t (.t (.t (.t (.t (.t (.t .h)))))))))).pk (.t (.t (.t (.t (.t (.t (.t (.t (.t .h)))))))))).pk (.t (.t (.t (.t (.t (.t (.t (.t (.t .h)))))))))).pk (.t (.t (.t (.t (.t (.t (.t (.t (.t .h)))))))))
  exact jS ⟨hm, rfl, db⟩ (by kernel_rfl)
 rintro L_ k4 ⟨hm, rfl, dE⟩
 simp only [pF] at hm
 refine ab <| bO [] (.n 2 (pt rq 0) .z) qe (by kernel_rfl) ?_
 refine aa <| aQ ?_
 obtain rfl := Option.some.inj hm
 refine aR [pt rq 0] qe (by kernel_rfl) ?_
 exact ⟨gJ, fi.length, gK, ju, iw.length, jv, jb, eL.length, jc, eN, b_.length, eO, dE.len 2 rfl, dE.len 3 rfl, dE.len 5 rfl, dE.len 7 rfl, rfl, dE⟩
theorem qQ {F O : Nat → Prop} {w : World} (cI : List UInt8) (bk : List UInt8) (al : List UInt8) (cq : Int) (bA : Int) (bN : List UInt8) (cR : List UInt8) (cr : Bool) (bh : UInt64) (dq : ae UInt64 8) (aG : UInt64) (aH : UInt64) (bw : List UInt8) (bj : Int) (jB : UInt64) (fy : ae UInt8 64) (dP : Int) (aY : Nat) (cy : Option Addr) (dF : Nat) (cz : Nat) (bQ : Option Addr) (cF : Nat) (bR : Nat) (aE : Option Addr) (a8 : Nat) (aF : Nat) (eo : Nat) (du : Option Addr) (ei : Nat) (dv : Nat) (eW : Option Addr) (fM : Nat) (eX : Nat) (da : Nat) (cO : Option Addr) (dD : Nat) (cP : Nat) (j0 : Ro F w cy (e8.all cI)) (jP : cI.length = dF) (iD : dF ≤ cz) (hN : Ro F w bQ (e8.all bk)) (iE : bk.length = cF) (gb : cF ≤ bR) (dL : Ro F w aE (e8.all al)) (eG : al.length = a8) (di : a8 ≤ aF) (k : Cx F O w w [Bx 86 aY [I 1, I 64, .u32 4294967295, .u64 274877906944, .b false, sl cy dF cz, sl bQ cF bR, sl aE a8 aF, pt eo 0, sl none 0 0, .u64 jB, .ar e8 fy, I dP, .v (.func (.func 66) ⟨SV.ad [pt aY 0]⟩ ⟨SV.ad []⟩)], Bx 145 eo [I cq, I bA, sl du ei dv, sl eW fM eX, .b cr, .u64 bh, .v (.iface 194 (SV.val (pt da 0)))], Ow e8 du ei dv bN, Ow e8 eW fM eX cR, Bx 200 da [.ar cj dq, .u64 aG, .u64 aH, sl cO dD cP, I bj, .v (.func (.func 132) ⟨SV.ad []⟩ ⟨SV.ad []⟩), .v (.func (.func 133) ⟨SV.ad []⟩ ⟨SV.ad []⟩)], Ow e8 cO dD cP bw]) (r : (Int × Int × List UInt8 × List UInt8 × Bool × UInt64 × ae UInt64 8 × UInt64 × UInt64 × List UInt8 × Int × UInt64 × ae UInt8 64 × Int × ae UInt64 8 × UInt64 × UInt64 × List UInt8 × Int × Int × Int × Bool × UInt64 × UInt64 × ae UInt8 64 × Int)) (hm : hP cI bk al cq bA bN cR cr bh dq aG aH bw bj jB fy dP = some r) :
    Calls Tryz.prog 37 (ad [pt aY 0]) w (fun e w' => ∃ g g1 A n c A1 n1 c1 g2 A2 n2 c2 A3 n3 c3, r.2.2.1.length = n ∧ r.2.2.2.1.length = n1 ∧ r.2.2.2.2.2.2.2.2.2.1.length = n2 ∧ r.2.2.2.2.2.2.2.2.2.2.2.2.2.2.2.2.2.1.length = n3 ∧ e = .returned (SV.val (pt g 0)) ∧ Cx F O w w' [Bx 86 g [I 1, I 64, .u32 4294967295, .u64 274877906944, .b false, sl cy dF cz, sl bQ cF bR, sl aE a8 aF, pt g1 0, sl none 0 0, .u64 r.2.2.2.2.2.2.2.2.2.2.2.1, .ar e8 r.2.2.2.2.2.2.2.2.2.2.2.2.1, I r.2.2.2.2.2.2.2.2.2.2.2.2.2.1, .v (.func (.func 66) ⟨SV.ad [pt g 0]⟩ ⟨SV.ad []⟩)], Bx 145 g1 [I r.1, I r.2.1, sl A n c, sl A1 n1 c1, .b r.2.2.2.2.1, .u64 r.2.2.2.2.2.1, .v (.iface 194 (SV.val (pt g2 0)))], Ow e8 A n c r.2.2.1, Ow e8 A1 n1 c1 r.2.2.2.1, Bx 200 g2 [.ar cj r.2.2.2.2.2.2.1, .u64 r.2.2.2.2.2.2.2.1, .u64 r.2.2.2.2.2.2.2.2.1, sl A2 n2 c2, I r.2.2.2.2.2.2.2.2.2.2.1, .v (.func (.func 132) ⟨SV.ad []⟩ ⟨SV.ad []⟩), .v (.func (.func 133) ⟨SV.ad []⟩ ⟨SV.ad []⟩)], Ow e8 A2 n2 c2 r.2.2.2.2.2.2.2.2.2.1, Bx 200 da [.ar cj r.2.2.2.2.2.2.2.2.2.2.2.2.2.2.1, .u64 r.2.2.2.2.2.2.2.2.2.2.2.2.2.2.2.1, .u64 r.2.2.2.2.2.2.2.2.2.2.2.2.2.2.2.2.1, sl A3 n3 c3, I r.2.2.2.2.2.2.2.2.2.2.2.2.2.2.2.2.2.2.1, .v (.func (.func 132) ⟨SV.ad []⟩ ⟨SV.ad []⟩), .v (.func (.func 133) ⟨SV.ad []⟩ ⟨SV.ad []⟩)], Ow e8 A3 n3 c3 r.2.2.2.2.2.2.2.2.2.2.2.2.2.2.2.2.2.1, Bx 145 eo [I r.2.2.2.2.2.2.2.2.2.2.2.2.2.2.2.2.2.2.2.1, I r.2.2.2.2.2.2.2.2.2.2.2.2.2.2.2.2.2.2.2.2.1, sl A n c, sl A1 n1 c1, .b r.2.2.2.2.2.2.2.2.2.2.2.2.2.2.2.2.2.2.2.2.2.1, .u64 r.2.2.2.2.2.2.2.2.2.2.2.2.2.2.2.2.2.2.2.2.2.2.1, .v (.iface 194 (SV.val (pt da 0)))], Bx 86 aY [I 1, I 64, .u32 4294967295, .u64 274877906944, .b false, sl cy dF cz, sl bQ cF bR, sl aE a8 aF, pt eo 0, sl none 0 0, .u64 r.2.2.2.2.2.2.2.2.2.2.2.2.2.2.2.2.2.2.2.2.2.2.2.1, .ar e8 r.2.2.2.2.2.2.2.2.2.2.2.2.2.2.2.2.2.2.2.2.2.2.2.2.1, I r.2.2.2.2.2.2.2.2.2.2.2.2.2.2.2.2.2.2.2.2.2.2.2.2.2, .v (.func (.func 66) ⟨SV.ad [pt aY 0]⟩ ⟨SV.ad []⟩)]]) := by
 unfold hP at hm
 subst jP
 subst iE
 subst eG
 obtain rfl := k.len 2 rfl
 obtain rfl := k.len 3 rfl
 obtain rfl := k.len 5 rfl
 refine calls [pt aY 0] Tryz.func37 rfl (of_decide_eq_true (by kernel_rfl)) ?_
 refine ab <| bO [] .a qe (by kernel_rfl) ?_
 refine aa <| ab <| ab <| an <| ba 1 [] (.n 4 (pt aY 0) .a) qe (by kernel_rfl) ?_
 refine ag ?_
 obtain ⟨r_, cQ, hm⟩ := ob hm
 obtain ⟨F1, O1, lQ, hO, rp, hF, hb⟩ := k.go (.i (.i (.i (.i (.i (.i .e))))))
 refine au [] 5 _ y6 (by kernel_rfl) (qP (F := F1) (O := O1) _ _ _ _ _ _ _ _ _ _ _ _ _ _ _ _ _ _ _ _ _ _ _ _ _ _ _ _ _ _ _ _ _ _ _ _ _ _ (Ro.aM j0 k hF) rfl iD (Ro.aM hN k hF) rfl gb (Ro.aM dL k hF) rfl di lQ _ cQ) ?_
 rintro e_ w_ ⟨A0, _, c0, A4, _, c4, A5, _, c5, rfl, rfl, rfl, rfl, k_⟩
 have db := hb w_ _ _ k_ (.c (.c (.c (.c (.c (.c .n))))))
 refine ⟨.b false, rfl, ?_⟩
 refine af <| aa <| cm false (by kernel_rfl) (fun h => by cases h) (fun _ => ?_)
 refine bc <| aa <| ab <| an <| ba 3 [] (.n 8 (.agg [I 1, I 64, .u32 4294967295, .u64 274877906944, .b false, sl cy cI.length cz, sl bQ bk.length bR, sl aE al.length aF, pt eo 0, sl none 0 0, .u64 r_.2.2.2.2.2.2.2.2.2.2.2.1, .ar e8 r_.2.2.2.2.2.2.2.2.2.2.2.2.1, I r_.2.2.2.2.2.2.2.2.2.2.2.2.2, .v (.func (.func 66) ⟨SV.ad [pt aY 0]⟩ ⟨SV.ad []⟩)]) (.ss .a)) (qs aY 0 <| qT db 5 rfl 0 77 [I 1, I 64, .u32 4294967295, .u64 274877906944, .b false, sl cy cI.length cz, sl bQ bk.length bR, sl aE al.length aF, pt eo 0, sl none 0 0, .u64 r_.2.2.2.2.2.2.2.2.2.2.2.1, .ar e8 r_.2.2.2.2.2.2.2.2.2.2.2.2.1, I r_.2.2.2.2.2.2.2.2.2.2.2.2.2, .v (.func (.func 66) ⟨SV.ad [pt aY 0]⟩ ⟨SV.ad []⟩)] (by kernel_rfl) (by decide) <| qe) (by kernel_rfl) ?_
 refine ag <| bT [] 3 [I 0, I 0, .u32 0, .u64 0, .b false, sl none 0 0, sl none 0 0, sl none 0 0, .v (.pointer none), sl none 0 0, .u64 0, .ar e8 (ae.rep 64 (0 : UInt8)), I 0, .v .nilFunc] (by kernel_rfl) db ?_
 intro g0 k4 dE
 refine ag <| en [] 6 (.agg [I 1, I 64, .u32 4294967295, .u64 274877906944, .b false, sl cy cI.length cz, sl bQ bk.length bR, sl aE al.length aF, pt eo 0, sl none 0 0, .u64 r_.2.2.2.2.2.2.2.2.2.2.2.1, .ar e8 r_.2.2.2.2.2.2.2.2.2.2.2.2.1, I r_.2.2.2.2.2.2.2.2.2.2.2.2.2, .v (.func (.func 66) ⟨SV.ad [pt aY 0]⟩ ⟨SV.ad []⟩)]) [I 1, I 64, .u32 4294967295, .u64 274877906944, .b false, sl cy cI.length cz, sl bQ bk.length bR, sl aE al.length aF, pt eo 0, sl none 0 0, .u64 r_.2.2.2.2.2.2.2.2.2.2.2.1, .ar e8 r_.2.2.2.2.2.2.2.2.2.2.2.2.1, I r_.2.2.2.2.2.2.2.2.2.2.2.2.2, .v (.func (.func 66) ⟨SV.ad [pt aY 0]⟩ ⟨SV.ad []⟩)] (Pt.at g0 0) dE rfl .all (by kernel_rfl) (by kernel_rfl) ?_
 intro l6 dU
 refine af <| aa <| ab <| an <| ba 4 [] (.n 12 (pt eo 0) (.k .z)) (qs aY 0 <| qs aY 0 <| qB dU 5 rfl 8 (pt eo 0) (by kernel_rfl) <| qe) (by kernel_rfl) ?_
 refine ag ?_
 obtain ⟨ah, dd, hm⟩ := ob hm
 have eY := ((((((dU.pk (.t (.t (.t (.t (.t (.t .h))))))).pk (.t (.t (.t (.t (.t (.t .h))))))).pk (.t (.t (.t .h)))).pk (.t (.t (.t .h)))).pk (.t (.t (.t (.t (.t (.t .h))))))).pk (.t (.t (.t (.t (.t (.t .h))))))).pk (.t (.t (.t (.t (.t (.t .h))))))
 obtain ⟨xI, xJ, nF, Fi, tF, si, xK⟩ := eY.go (.i (.i (.i (.i (.i (.r (.r .e)))))))
 refine au [] 13 _ E_ (by kernel_rfl) (sX (F := xI) (O := xJ) _ _ _ _ _ _ _ _ _ _ _ _ _ _ _ _ _ _ _ _ _ _ nF _ dd) ?_
 rintro e_ qj ⟨g3, A6, _, c6, A7, _, c7, g4, A8, _, c8, A9, _, c9, rfl, rfl, rfl, rfl, rfl, fU⟩
 have g_ := xK qj _ _ fU (.c (.c (.c (.c (.c (.c (.c (.c .n))))))))
 refine ⟨pt g3 0, rfl, ?_⟩
 refine ba 1 [] (.n 14 (pt g0 8) (.k (.s .a))) (qs g0 0 <| qe) (by kernel_rfl) ?_
 refine ag ?_
 have gC := g_.de (.bX (.bX (.kk .e)))
 refine en [] 9 (pt g3 0) [pt g3 0] (Pt.at g0 8) gC rfl (.bX (.bX .h)) (by kernel_rfl) (by kernel_rfl) ?_
 intro qk gP
 refine af <| aa <| ab <| an <| ag ?_
 obtain ⟨aX, hK, hm⟩ := ob hm
 have gB := (((((((((gP.pk (.t (.t (.t (.t (.t (.t .h))))))).pk (.t (.t (.t (.t (.t (.t .h))))))).pk (.t (.t (.t (.t (.t (.t (.t .h)))))))).pk (.t (.t (.t (.t (.t (.t (.t (.t .h))))))))).pk (.t (.t (.t (.t (.t (.t (.t (.t .h))))))))).pk (.t (.t (.t (.t (.t (.t (.t (.t .h))))))))).pk (.t (.t (.t (.t (.t (.t (.t (.t .h))))))))).pk (.t (.t (.t (.t (.t (.t (.t (.t .h))))))))).pk (.t (.t (.t (.t (.t (.t (.t (.t .h))))))))).pk (.t (.t (.t (.t (.t (.t (.t (.t (.t .h)))))))))
 obtain ⟨F6, F7, ug, Nc, zY, vV, CP⟩ := gB.go (.i (.i (.i (.i (.i (.i (.i (.i (.i (.i .e))))))))))
 refine au [] 15 _ Fa (by kernel_rfl) (AG (F := F6) (O := F7) _ _ _ _ _ _ _ _ _ _ _ _ _ _ _ _ _ _ _ _ _ _ _ _ _ _ _ _ _ _ _ _ _ _ _ _ _ _ _ _ _ _ _ _ _ _ _ _ _ _ _ _ _ _ _ _ _ _ _ _ _ _ _ _ _ _ _ _ (Ro.aM j0 gB vV) rfl iD (Ro.aM hN gB vV) rfl gb (Ro.aM dL gB vV) rfl di (Ro.aM j0 gB vV) rfl iD (Ro.aM hN gB vV) rfl gb (Ro.aM dL gB vV) rfl di ug _ hK) ?_
 rintro e_ rX ⟨wq, _, sV, yr, _, uf, Cn, _, xS, IV, _, Co, rfl, rfl, rfl, rfl, rfl, dO⟩
 have cV := CP rX _ _ dO (.c (.c (.c (.c (.c (.c (.c (.c (.c (.c .n))))))))))
 refine ⟨pt g0 0, rfl, ?_⟩
 refine ba 1 [] (.n 2 (pt g0 0) .z) qe (by kernel_rfl) ?_
 refine af <| aa <| aQ ?_
 obtain rfl := Option.some.inj hm
 refine aR [pt g0 0] qe (by kernel_rfl) ?_
 exact ⟨g0, g3, wq, aX.2.2.1.length, sV, yr, aX.2.2.2.1.length, uf, g4, Cn, aX.2.2.2.2.2.2.2.2.2.1.length, xS, IV, aX.2.2.2.2.2.2.2.2.2.2.2.2.2.2.2.2.2.1.length, Co, cV.len 2 rfl, cV.len 3 rfl, cV.len 5 rfl, cV.len 7 rfl, rfl, cV⟩
theorem Cq {F O : Nat → Prop} {w : World} (x_ : UInt64) (k : Cx F O w w []) (r : Int) (hm : o5 x_ = some r) :
    Calls Tryz.prog 93 (ad [.u64 x_]) w (fun e w' => e = .returned (SV.val (I r)) ∧ Cx F O w w' []) := by
 unfold o5 at hm
 refine calls [.u64 x_] Tryz.func93 rfl (of_decide_eq_true (by kernel_rfl)) ?_
 refine ab <| bO [] (.n 2 (I 0) .a) qe (by kernel_rfl) ?_
 refine aa <| l4 (fun L wr => ∃ (eZ : UInt64) (n : Int), la eZ n = some r ∧ L = [(0, .u64 eZ), (2, I n)] ∧ Cx F O w wr []) ?_ ?_
 ·
  refine ab <| bO [] (.n 4 (.b (decide ((4294967296 : UInt64) ≤ x_))) .a) qe (by kernel_rfl) ?_
  refine aa <| bu ((4294967296 : UInt64) ≤ x_) (by kernel_rfl) (fun hc => ?_) (fun hc => ?_)
  · rw [if_pos hc] at hm
    refine ab <| bO [] (.n 0 (.u64 (aK x_ ((32 : UInt64).toNat))) .z) qe (by kernel_rfl) ?_
    refine aa <| bO [] (.n 2 (I 32) .a) qe (by kernel_rfl) ?_
    exact jS ⟨aK x_ ((32 : UInt64).toNat), (32 : Int), hm, rfl, k⟩ (by kernel_rfl)
  rw [if_neg hc] at hm
  refine bc ?_
  exact jS ⟨x_, (0 : Int), hm, rfl, k⟩ (by kernel_rfl)
 rintro L_ w_ ⟨eZ, n, hm, rfl, k_⟩
 simp only [la] at hm
 refine l4 (fun L wr => ∃ (jT : UInt64) (n1 : Int), k9 jT n1 = some r ∧ L = [(0, .u64 jT), (2, I n1)] ∧ Cx F O w wr []) ?_ ?_
 ·
  refine ab <| bO [] (.n 8 (.b (decide ((65536 : UInt64) ≤ eZ))) .a) qe (by kernel_rfl) ?_
  refine aa <| bu ((65536 : UInt64) ≤ eZ) (by kernel_rfl) (fun k5 => ?_) (fun k5 => ?_)
  · rw [if_pos k5] at hm
    refine ab <| bO [] (.n 0 (.u64 (aK eZ ((16 : UInt64).toNat))) (.ss .a)) qe (by kernel_rfl) ?_
    refine aa <| bO [] (.n 2 (I (aD (n + 16))) (.k .z)) qe (by kernel_rfl) ?_
    exact jS ⟨aK eZ ((16 : UInt64).toNat), aD (n + 16), hm, rfl, k_⟩ (by kernel_rfl)
  rw [if_neg k5] at hm
  refine bc ?_
  exact jS ⟨eZ, n, hm, rfl, k_⟩ (by kernel_rfl)
 rintro L_ k4 ⟨jT, n1, hm, rfl, db⟩
 simp only [k9] at hm
 refine l4 (fun L wr => ∃ (mw : UInt64) (n2 : Int), jk mw n2 = some r ∧ L = [(0, .u64 mw), (2, I n2)] ∧ Cx F O w wr []) ?_ ?_
 ·
  refine ab <| bO [] (.n 14 (.b (decide ((256 : UInt64) ≤ jT))) .a) qe (by kernel_rfl) ?_
  refine aa <| bu ((256 : UInt64) ≤ jT) (by kernel_rfl) (fun rN => ?_) (fun rN => ?_)
  · rw [if_pos rN] at hm
    refine ab <| bO [] (.n 0 (.u64 (aK jT ((8 : UInt64).toNat))) (.ss .a)) qe (by kernel_rfl) ?_
    refine aa <| bO [] (.n 2 (I (aD (n1 + 8))) (.k .z)) qe (by kernel_rfl) ?_
    exact jS ⟨aK jT ((8 : UInt64).toNat), aD (n1 + 8), hm, rfl, db⟩ (by kernel_rfl)
  rw [if_neg rN] at hm
  refine bc ?_
  exact jS ⟨jT, n1, hm, rfl, db⟩ (by kernel_rfl)
 rintro L_ l6 ⟨mw, n2, hm, rfl, dE⟩
 simp only [jk] at hm
 refine ab ?_
 obtain ⟨c, h_c, hm⟩ := ob hm
 refine bO [] (.n 2 (I (aD (n2 + (c.toNat : Int)))) .z) (qX h_c <| qe) (by kernel_rfl) ?_
 refine aa <| aQ ?_
 obtain rfl := Option.some.inj hm
 refine aR [I (aD (n2 + (c.toNat : Int)))] qe (by kernel_rfl) ?_
 exact ⟨rfl, dE⟩
theorem uh {F O : Nat → Prop} {w : World} (x_ : UInt64) (k : Cx F O w w []) (r : Int) (hm : jo x_ = some r) :
    Calls Tryz.prog 72 (ad [.u64 x_]) w (fun e w' => e = .returned (SV.val (I r)) ∧ Cx F O w w' []) := by
 unfold jo at hm
 refine calls [.u64 x_] Tryz.func72 rfl (of_decide_eq_true (by kernel_rfl)) ?_
 refine ab <| bO [] .a qe (by kernel_rfl) ?_
 refine aa <| ab <| an <| ba 1 [] (.n 3 (.u64 x_) .z) qe (by kernel_rfl) ?_
 refine ag ?_
 obtain ⟨r_, cQ, hm⟩ := ob hm
 refine au [] 4 _ JM (by kernel_rfl) (Cq (F := N0) (O := N0) _ (Cx.refl _) _ cQ) ?_
 rintro e_ w_ ⟨rfl, k_⟩
 have db := k.call k_
 refine ⟨I r_, rfl, ?_⟩
 refine ba 2 [] (.n 2 (I (aD (64 - r_))) .z) qe (by kernel_rfl) ?_
 refine af <| aa <| aQ ?_
 obtain rfl := Option.some.inj hm
 refine aR [I (aD (64 - r_))] qe (by kernel_rfl) ?_
 exact ⟨rfl, db⟩
theorem Cr {F O : Nat → Prop} {w : World} (hi : UInt64) (lo : UInt64) (y_ : UInt64) (k : Cx F O w w []) (r : (UInt64 × UInt64)) (hm : o6 hi lo y_ = some r) :
    Calls Tryz.prog 41 (ad [.u64 hi, .u64 lo, .u64 y_]) w (fun e w' => e = .returned (SV.val (.gD [.u64 r.1, .u64 r.2])) ∧ Cx F O w w' []) := by
 unfold o6 at hm
 refine calls [.u64 hi, .u64 lo, .u64 y_] Tryz.func41 rfl (of_decide_eq_true (by kernel_rfl)) ?_
 refine ab <| bO [] .a qe (by kernel_rfl) ?_
 refine aa <| l4 (fun L wr => ox hi lo y_  = some r ∧ L = [(0, .u64 hi), (1, .u64 lo), (2, .u64 y_)] ∧ Cx F O w wr []) ?_ ?_
 ·
  refine ab <| bO [] (.n 20 (.b (decide (y_ = 0))) .a) qe (by kernel_rfl) ?_
  refine aa <| bu (y_ = 0) (by kernel_rfl) (fun hc => ?_) (fun hc => ?_)
  · rw [if_pos hc] at hm
    cases hm
  rw [if_neg hc] at hm
  refine bc ?_
  exact jS ⟨hm, rfl, k⟩ (by kernel_rfl)
 rintro L_ w_ ⟨hm, rfl, k_⟩
 simp only [ox] at hm
 refine l4 (fun L wr => ow hi lo y_  = some r ∧ L = [(0, .u64 hi), (1, .u64 lo), (2, .u64 y_)] ∧ Cx F O w wr []) ?_ ?_
 ·
  refine ab <| bO [] (.n 24 (.b (decide (y_ ≤ hi))) .a) qe (by kernel_rfl) ?_
  refine aa <| bu (y_ ≤ hi) (by kernel_rfl) (fun k5 => ?_) (fun k5 => ?_)
  · rw [if_pos k5] at hm
    cases hm
  rw [if_neg k5] at hm
  refine bc ?_
  exact jS ⟨hm, rfl, k_⟩ (by kernel_rfl)
 rintro L_ k4 ⟨hm, rfl, db⟩
 simp only [ow] at hm
 refine ab <| ab <| bO [] (.n 27 (.b (decide (hi = 0))) .a) qe (by kernel_rfl) ?_
 refine aa <| bu (hi = 0) (by kernel_rfl) (fun rN => ?_) (fun rN => ?_)
 · rw [if_pos rN] at hm
   refine ab ?_
   obtain ⟨u, wT, hm⟩ := ob hm
   obtain ⟨u1, LN, hm⟩ := ob hm
   refine Gu bK (by kernel_rfl) (.n 6 (.u64 (lo / y_)) (.n 7 (.u64 (lo % y_)) .z)) (fun m => qp (y_ ≠ 0) (fI wT) <| qp (y_ ≠ 0) (fI LN) <| qe) (by kernel_rfl) (fun m_ => ?_)
   have dE := db.drew m_
   refine aa <| aQ (cJ ?_)
   obtain rfl := Option.some.inj hm
   refine aR [.u64 (lo / y_), .u64 (lo % y_)] qe (by kernel_rfl) ?_
   exact ⟨rfl, dE⟩
 rw [if_neg rN] at hm
 refine bc <| aa <| ab <| an <| ba 1 [] (.n 34 (.u64 y_) (.s .a)) qe (by kernel_rfl) ?_
 refine ag ?_
 obtain ⟨r_, cQ, hm⟩ := ob hm
 refine au [] 35 _ JI (by kernel_rfl) (uh (F := N0) (O := N0) _ (Cx.refl _) _ cQ) ?_
 rintro e_ l6 ⟨rfl, dU⟩
 have eY := db.call dU
 refine ⟨I r_, rfl, ?_⟩
 refine ba 2 [] (.n 8 (.u64 (UInt64.ofInt r_)) (.ss .a)) qe (by kernel_rfl) ?_
 refine af <| aa <| ab <| bO [] (.n 2 (.u64 (aC y_ ((UInt64.ofInt r_).toNat))) (.uk .z)) qe (by kernel_rfl) ?_
 refine aa <| ab <| bO [] (.n 9 (.u64 (aK (aC y_ ((UInt64.ofInt r_).toNat)) ((32 : UInt64).toNat))) .a) qe (by kernel_rfl) ?_
 refine aa <| ab <| bO [] (.n 10 (.u64 ((aC y_ ((UInt64.ofInt r_).toNat)) &&& 4294967295)) .a) qe (by kernel_rfl) ?_
 refine aa <| ab <| bO [] (.n 11 (.u64 ((aC hi ((UInt64.ofInt r_).toNat)) ||| (aK lo (((64 : UInt64) - (UInt64.ofInt r_)).toNat)))) (.bX (.s .a))) qe (by kernel_rfl) ?_
 refine aa <| ab <| bO [] (.n 12 (.u64 (aC lo ((UInt64.ofInt r_).toNat))) (.bX (.k .z))) qe (by kernel_rfl) ?_
 refine aa <| ab <| bO [] (.n 13 (.u64 (aK (aC lo ((UInt64.ofInt r_).toNat)) ((32 : UInt64).toNat))) .a) qe (by kernel_rfl) ?_
 refine aa <| ab <| bO [] (.n 14 (.u64 ((aC lo ((UInt64.ofInt r_).toNat)) &&& 4294967295)) (.k (.s .a))) qe (by kernel_rfl) ?_
 refine aa <| ab ?_
 obtain ⟨u2, P1, hm⟩ := ob hm
 refine bO [] (.n 15 (.u64 (((aC hi ((UInt64.ofInt r_).toNat)) ||| (aK lo (((64 : UInt64) - (UInt64.ofInt r_)).toNat))) / (aK (aC y_ ((UInt64.ofInt r_).toNat)) ((32 : UInt64).toNat)))) .a) (qp ((aK (aC y_ ((UInt64.ofInt r_).toNat)) ((32 : UInt64).toNat)) ≠ 0) (fI P1) <| qe) (by kernel_rfl) ?_
 refine aa <| ab <| bO [] (.n 16 (.u64 (((aC hi ((UInt64.ofInt r_).toNat)) ||| (aK lo (((64 : UInt64) - (UInt64.ofInt r_)).toNat))) - ((((aC hi ((UInt64.ofInt r_).toNat)) ||| (aK lo (((64 : UInt64) - (UInt64.ofInt r_)).toNat))) / (aK (aC y_ ((UInt64.ofInt r_).toNat)) ((32 : UInt64).toNat))) * (aK (aC y_ ((UInt64.ofInt r_).toNat)) ((32 : UInt64).toNat))))) .a) qe (by kernel_rfl) ?_
 refine aa <| l4 (fun L wr => ∃ (q1 : UInt64), mo hi lo y_ r_ q1 = some r ∧ L = [(2, .u64 (aC y_ ((UInt64.ofInt r_).toNat))), (8, .u64 (UInt64.ofInt r_)), (9, .u64 (aK (aC y_ ((UInt64.ofInt r_).toNat)) ((32 : UInt64).toNat))), (10, .u64 ((aC y_ ((UInt64.ofInt r_).toNat)) &&& 4294967295)), (11, .u64 ((aC hi ((UInt64.ofInt r_).toNat)) ||| (aK lo (((64 : UInt64) - (UInt64.ofInt r_)).toNat)))), (13, .u64 (aK (aC lo ((UInt64.ofInt r_).toNat)) ((32 : UInt64).toNat))), (14, .u64 ((aC lo ((UInt64.ofInt r_).toNat)) &&& 4294967295)), (15, .u64 q1)] ∧ Cx F O w wr []) ?_ ?_
 ·
  refine DV (fun L wr => ∃ (Nb : UInt64), lb hi lo y_ r_ Nb = some r ∧ L = [(2, .u64 (aC y_ ((UInt64.ofInt r_).toNat))), (8, .u64 (UInt64.ofInt r_)), (9, .u64 (aK (aC y_ ((UInt64.ofInt r_).toNat)) ((32 : UInt64).toNat))), (10, .u64 ((aC y_ ((UInt64.ofInt r_).toNat)) &&& 4294967295)), (11, .u64 ((aC hi ((UInt64.ofInt r_).toNat)) ||| (aK lo (((64 : UInt64) - (UInt64.ofInt r_)).toNat)))), (13, .u64 (aK (aC lo ((UInt64.ofInt r_).toNat)) ((32 : UInt64).toNat))), (14, .u64 ((aC lo ((UInt64.ofInt r_).toNat)) &&& 4294967295)), (15, .u64 Nb)] ∧ Cx F O w wr []) ?_ ?_
  ·
   refine rv (j2 hi lo y_ r_) (fun s L wr => ∃ (CJ : UInt64) (l0 : UInt64), (CJ, l0) = s ∧ L = [(2, .u64 (aC y_ ((UInt64.ofInt r_).toNat))), (8, .u64 (UInt64.ofInt r_)), (9, .u64 (aK (aC y_ ((UInt64.ofInt r_).toNat)) ((32 : UInt64).toNat))), (10, .u64 ((aC y_ ((UInt64.ofInt r_).toNat)) &&& 4294967295)), (11, .u64 ((aC hi ((UInt64.ofInt r_).toNat)) ||| (aK lo (((64 : UInt64) - (UInt64.ofInt r_)).toNat)))), (13, .u64 (aK (aC lo ((UInt64.ofInt r_).toNat)) ((32 : UInt64).toNat))), (14, .u64 ((aC lo ((UInt64.ofInt r_).toNat)) &&& 4294967295)), (15, .u64 CJ), (16, .u64 l0)] ∧ Cx F O w wr []) (((aC hi ((UInt64.ofInt r_).toNat)) ||| (aK lo (((64 : UInt64) - (UInt64.ofInt r_)).toNat))) / (aK (aC y_ ((UInt64.ofInt r_).toNat)) ((32 : UInt64).toNat)), ((aC hi ((UInt64.ofInt r_).toNat)) ||| (aK lo (((64 : UInt64) - (UInt64.ofInt r_)).toNat))) - ((((aC hi ((UInt64.ofInt r_).toNat)) ||| (aK lo (((64 : UInt64) - (UInt64.ofInt r_)).toNat))) / (aK (aC y_ ((UInt64.ofInt r_).toNat)) ((32 : UInt64).toNat))) * (aK (aC y_ ((UInt64.ofInt r_).toNat)) ((32 : UInt64).toNat)))) r hm ⟨((aC hi ((UInt64.ofInt r_).toNat)) ||| (aK lo (((64 : UInt64) - (UInt64.ofInt r_)).toNat))) / (aK (aC y_ ((UInt64.ofInt r_).toNat)) ((32 : UInt64).toNat)), ((aC hi ((UInt64.ofInt r_).toNat)) ||| (aK lo (((64 : UInt64) - (UInt64.ofInt r_)).toNat))) - ((((aC hi ((UInt64.ofInt r_).toNat)) ||| (aK lo (((64 : UInt64) - (UInt64.ofInt r_)).toNat))) / (aK (aC y_ ((UInt64.ofInt r_).toNat)) ((32 : UInt64).toNat))) * (aK (aC y_ ((UInt64.ofInt r_).toNat)) ((32 : UInt64).toNat))), rfl, rfl, eY⟩ (by kernel_rfl) ?_
   intro Al L_ qj y0 kE dY rP
   obtain ⟨CJ, l0, rfl, rfl, fU⟩ := kE
   have hm := dY; simp only [j2] at hm
   clear dY
   refine ab <| ab <| bO [] (.n 78 (.b ((decide ((4294967296 : UInt64) ≤ CJ)) || (decide ((((4294967296 : UInt64) * l0) + (aK (aC lo ((UInt64.ofInt r_).toNat)) ((32 : UInt64).toNat))) < (CJ * ((aC y_ ((UInt64.ofInt r_).toNat)) &&& 4294967295)))))) .a) qe (by kernel_rfl) ?_
   refine aa <| cm ((decide ((4294967296 : UInt64) ≤ CJ)) || (decide ((((4294967296 : UInt64) * l0) + (aK (aC lo ((UInt64.ofInt r_).toNat)) ((32 : UInt64).toNat))) < (CJ * ((aC y_ ((UInt64.ofInt r_).toNat)) &&& 4294967295))))) (by kernel_rfl) (fun xQ => ?_) (fun xQ => ?_)
   · rw [if_pos xQ] at hm
     refine bc <| aa <| cX <| ab <| bO [] (.n 15 (.u64 (CJ - 1)) (.s (.bX (.uk (.s .a))))) qe (by kernel_rfl) ?_
     refine aa <| ab <| bO [] (.n 16 (.u64 (l0 + (aK (aC y_ ((UInt64.ofInt r_).toNat)) ((32 : UInt64).toNat)))) (.bX (.bX .z))) qe (by kernel_rfl) ?_
     refine aa <| ab <| bO [] (.n 85 (.b (decide ((4294967296 : UInt64) ≤ (l0 + (aK (aC y_ ((UInt64.ofInt r_).toNat)) ((32 : UInt64).toNat)))))) .a) qe (by kernel_rfl) ?_
     refine aa <| bu ((4294967296 : UInt64) ≤ (l0 + (aK (aC y_ ((UInt64.ofInt r_).toNat)) ((32 : UInt64).toNat)))) (by kernel_rfl) (fun Ak => ?_) (fun Ak => ?_)
     · rw [if_pos Ak] at hm
       refine jr (GO (by decide) (gk (lT ?_)))
       have hm := iv hm rP
       exact jS ⟨CJ - 1, hm, rfl, fU⟩ (by kernel_rfl)
     rw [if_neg Ak] at hm
     refine bc <| lL ?_
     exact mN (CJ - 1, l0 + (aK (aC y_ ((UInt64.ofInt r_).toNat)) ((32 : UInt64).toNat))) (Option.some.inj hm).symm ⟨CJ - 1, l0 + (aK (aC y_ ((UInt64.ofInt r_).toNat)) ((32 : UInt64).toNat)), rfl, rfl, fU⟩ (by kernel_rfl)
   rw [if_neg (by rw [xQ]; decide)] at hm
   refine jr (gk (gk (lT ?_)))
   have hm := iv hm rP
   exact jS ⟨CJ, hm, rfl, fU⟩ (by kernel_rfl)
  rintro L_ qk ⟨Nb, hm, rfl, g_⟩
  simp only [lb] at hm
  exact jS ⟨Nb, hm, rfl, g_⟩ (by kernel_rfl)
 rintro L_ rX ⟨q1, hm, rfl, gC⟩
 simp only [mo] at hm
 refine ab <| bO [] (.n 17 (.u64 (((((aC hi ((UInt64.ofInt r_).toNat)) ||| (aK lo (((64 : UInt64) - (UInt64.ofInt r_)).toNat))) * 4294967296) + (aK (aC lo ((UInt64.ofInt r_).toNat)) ((32 : UInt64).toNat))) - (q1 * (aC y_ ((UInt64.ofInt r_).toNat))))) (.bX (.ss .a))) qe (by kernel_rfl) ?_
 refine aa <| ab ?_
 obtain ⟨u3, P2, hm⟩ := ob hm
 refine bO [] (.n 18 (.u64 ((((((aC hi ((UInt64.ofInt r_).toNat)) ||| (aK lo (((64 : UInt64) - (UInt64.ofInt r_)).toNat))) * 4294967296) + (aK (aC lo ((UInt64.ofInt r_).toNat)) ((32 : UInt64).toNat))) - (q1 * (aC y_ ((UInt64.ofInt r_).toNat)))) / (aK (aC y_ ((UInt64.ofInt r_).toNat)) ((32 : UInt64).toNat)))) .a) (qp ((aK (aC y_ ((UInt64.ofInt r_).toNat)) ((32 : UInt64).toNat)) ≠ 0) (fI P2) <| qe) (by kernel_rfl) ?_
 refine aa <| ab <| bO [] (.n 16 (.u64 ((((((aC hi ((UInt64.ofInt r_).toNat)) ||| (aK lo (((64 : UInt64) - (UInt64.ofInt r_)).toNat))) * 4294967296) + (aK (aC lo ((UInt64.ofInt r_).toNat)) ((32 : UInt64).toNat))) - (q1 * (aC y_ ((UInt64.ofInt r_).toNat)))) - (((((((aC hi ((UInt64.ofInt r_).toNat)) ||| (aK lo (((64 : UInt64) - (UInt64.ofInt r_)).toNat))) * 4294967296) + (aK (aC lo ((UInt64.ofInt r_).toNat)) ((32 : UInt64).toNat))) - (q1 * (aC y_ ((UInt64.ofInt r_).toNat)))) / (aK (aC y_ ((UInt64.ofInt r_).toNat)) ((32 : UInt64).toNat))) * (aK (aC y_ ((UInt64.ofInt r_).toNat)) ((32 : UInt64).toNat))))) .a) qe (by kernel_rfl) ?_
 refine aa <| l4 (fun L wr => ∃ (q0 : UInt64), qG hi lo y_ r_ q1 q0 = some r ∧ L = [(2, .u64 (aC y_ ((UInt64.ofInt r_).toNat))), (8, .u64 (UInt64.ofInt r_)), (14, .u64 ((aC lo ((UInt64.ofInt r_).toNat)) &&& 4294967295)), (15, .u64 q1), (17, .u64 (((((aC hi ((UInt64.ofInt r_).toNat)) ||| (aK lo (((64 : UInt64) - (UInt64.ofInt r_)).toNat))) * 4294967296) + (aK (aC lo ((UInt64.ofInt r_).toNat)) ((32 : UInt64).toNat))) - (q1 * (aC y_ ((UInt64.ofInt r_).toNat))))), (18, .u64 q0)] ∧ Cx F O w wr []) ?_ ?_
 ·
  refine DV (fun L wr => ∃ (Na : UInt64), ov hi lo y_ r_ q1 Na = some r ∧ L = [(2, .u64 (aC y_ ((UInt64.ofInt r_).toNat))), (8, .u64 (UInt64.ofInt r_)), (14, .u64 ((aC lo ((UInt64.ofInt r_).toNat)) &&& 4294967295)), (15, .u64 q1), (17, .u64 (((((aC hi ((UInt64.ofInt r_).toNat)) ||| (aK lo (((64 : UInt64) - (UInt64.ofInt r_)).toNat))) * 4294967296) + (aK (aC lo ((UInt64.ofInt r_).toNat)) ((32 : UInt64).toNat))) - (q1 * (aC y_ ((UInt64.ofInt r_).toNat))))), (18, .u64 Na)] ∧ Cx F O w wr []) ?_ ?_
  ·
   refine rv (j1 hi lo y_ r_ q1) (fun s L wr => ∃ (sd : UInt64) (CI : UInt64), (sd, CI) = s ∧ L = [(2, .u64 (aC y_ ((UInt64.ofInt r_).toNat))), (8, .u64 (UInt64.ofInt r_)), (9, .u64 (aK (aC y_ ((UInt64.ofInt r_).toNat)) ((32 : UInt64).toNat))), (10, .u64 ((aC y_ ((UInt64.ofInt r_).toNat)) &&& 4294967295)), (14, .u64 ((aC lo ((UInt64.ofInt r_).toNat)) &&& 4294967295)), (15, .u64 q1), (16, .u64 sd), (17, .u64 (((((aC hi ((UInt64.ofInt r_).toNat)) ||| (aK lo (((64 : UInt64) - (UInt64.ofInt r_)).toNat))) * 4294967296) + (aK (aC lo ((UInt64.ofInt r_).toNat)) ((32 : UInt64).toNat))) - (q1 * (aC y_ ((UInt64.ofInt r_).toNat))))), (18, .u64 CI)] ∧ Cx F O w wr []) ((((((aC hi ((UInt64.ofInt r_).toNat)) ||| (aK lo (((64 : UInt64) - (UInt64.ofInt r_)).toNat))) * 4294967296) + (aK (aC lo ((UInt64.ofInt r_).toNat)) ((32 : UInt64).toNat))) - (q1 * (aC y_ ((UInt64.ofInt r_).toNat)))) - (((((((aC hi ((UInt64.ofInt r_).toNat)) ||| (aK lo (((64 : UInt64) - (UInt64.ofInt r_)).toNat))) * 4294967296) + (aK (aC lo ((UInt64.ofInt r_).toNat)) ((32 : UInt64).toNat))) - (q1 * (aC y_ ((UInt64.ofInt r_).toNat)))) / (aK (aC y_ ((UInt64.ofInt r_).toNat)) ((32 : UInt64).toNat))) * (aK (aC y_ ((UInt64.ofInt r_).toNat)) ((32 : UInt64).toNat))), (((((aC hi ((UInt64.ofInt r_).toNat)) ||| (aK lo (((64 : UInt64) - (UInt64.ofInt r_)).toNat))) * 4294967296) + (aK (aC lo ((UInt64.ofInt r_).toNat)) ((32 : UInt64).toNat))) - (q1 * (aC y_ ((UInt64.ofInt r_).toNat)))) / (aK (aC y_ ((UInt64.ofInt r_).toNat)) ((32 : UInt64).toNat))) r hm ⟨(((((aC hi ((UInt64.ofInt r_).toNat)) ||| (aK lo (((64 : UInt64) - (UInt64.ofInt r_)).toNat))) * 4294967296) + (aK (aC lo ((UInt64.ofInt r_).toNat)) ((32 : UInt64).toNat))) - (q1 * (aC y_ ((UInt64.ofInt r_).toNat)))) - (((((((aC hi ((UInt64.ofInt r_).toNat)) ||| (aK lo (((64 : UInt64) - (UInt64.ofInt r_)).toNat))) * 4294967296) + (aK (aC lo ((UInt64.ofInt r_).toNat)) ((32 : UInt64).toNat))) - (q1 * (aC y_ ((UInt64.ofInt r_).toNat)))) / (aK (aC y_ ((UInt64.ofInt r_).toNat)) ((32 : UInt64).toNat))) * (aK (aC y_ ((UInt64.ofInt r_).toNat)) ((32 : UInt64).toNat))), (((((aC hi ((UInt64.ofInt r_).toNat)) ||| (aK lo (((64 : UInt64) - (UInt64.ofInt r_)).toNat))) * 4294967296) + (aK (aC lo ((UInt64.ofInt r_).toNat)) ((32 : UInt64).toNat))) - (q1 * (aC y_ ((UInt64.ofInt r_).toNat)))) / (aK (aC y_ ((UInt64.ofInt r_).toNat)) ((32 : UInt64).toNat)), rfl, rfl, gC⟩ (by kernel_rfl) ?_
   intro Al L_ wQ y0 kE dY rP
   obtain ⟨sd, CI, rfl, rfl, gP⟩ := kE
   have hm := dY; simp only [j1] at hm
   clear dY
   refine ab <| ab <| bO [] (.n 113 (.b ((decide ((4294967296 : UInt64) ≤ CI)) || (decide ((((4294967296 : UInt64) * sd) + ((aC lo ((UInt64.ofInt r_).toNat)) &&& 4294967295)) < (CI * ((aC y_ ((UInt64.ofInt r_).toNat)) &&& 4294967295)))))) .a) qe (by kernel_rfl) ?_
   refine aa <| cm ((decide ((4294967296 : UInt64) ≤ CI)) || (decide ((((4294967296 : UInt64) * sd) + ((aC lo ((UInt64.ofInt r_).toNat)) &&& 4294967295)) < (CI * ((aC y_ ((UInt64.ofInt r_).toNat)) &&& 4294967295))))) (by kernel_rfl) (fun wm => ?_) (fun wm => ?_)
   · rw [if_pos wm] at hm
     refine bc <| aa <| cX <| ab <| bO [] (.n 18 (.u64 (CI - 1)) (.s (.bX (.bX .z)))) qe (by kernel_rfl) ?_
     refine aa <| ab <| bO [] (.n 16 (.u64 (sd + (aK (aC y_ ((UInt64.ofInt r_).toNat)) ((32 : UInt64).toNat)))) (.bX (.uk (.s .a)))) qe (by kernel_rfl) ?_
     refine aa <| ab <| bO [] (.n 120 (.b (decide ((4294967296 : UInt64) ≤ (sd + (aK (aC y_ ((UInt64.ofInt r_).toNat)) ((32 : UInt64).toNat)))))) .a) qe (by kernel_rfl) ?_
     refine aa <| bu ((4294967296 : UInt64) ≤ (sd + (aK (aC y_ ((UInt64.ofInt r_).toNat)) ((32 : UInt64).toNat)))) (by kernel_rfl) (fun xR => ?_) (fun xR => ?_)
     · rw [if_pos xR] at hm
       refine jr (GO (by decide) (gk (lT ?_)))
       have hm := iv hm rP
       exact jS ⟨CI - 1, hm, rfl, gP⟩ (by kernel_rfl)
     rw [if_neg xR] at hm
     refine bc <| lL ?_
     exact mN (sd + (aK (aC y_ ((UInt64.ofInt r_).toNat)) ((32 : UInt64).toNat)), CI - 1) (Option.some.inj hm).symm ⟨sd + (aK (aC y_ ((UInt64.ofInt r_).toNat)) ((32 : UInt64).toNat)), CI - 1, rfl, rfl, gP⟩ (by kernel_rfl)
   rw [if_neg (by rw [wm]; decide)] at hm
   refine jr (gk (gk (lT ?_)))
   have hm := iv hm rP
   exact jS ⟨CI, hm, rfl, gP⟩ (by kernel_rfl)
  rintro L_ wR ⟨Na, hm, rfl, gB⟩
  simp only [ov] at hm
  exact jS ⟨Na, hm, rfl, gB⟩ (by kernel_rfl)
 rintro L_ Av ⟨q0, hm, rfl, dO⟩
 simp only [qG] at hm
 refine ab <| bO [] (.n 6 (.u64 ((q1 * 4294967296) + q0)) (.n 7 (.u64 (aK ((((((((aC hi ((UInt64.ofInt r_).toNat)) ||| (aK lo (((64 : UInt64) - (UInt64.ofInt r_)).toNat))) * 4294967296) + (aK (aC lo ((UInt64.ofInt r_).toNat)) ((32 : UInt64).toNat))) - (q1 * (aC y_ ((UInt64.ofInt r_).toNat)))) * 4294967296) + ((aC lo ((UInt64.ofInt r_).toNat)) &&& 4294967295)) - (q0 * (aC y_ ((UInt64.ofInt r_).toNat)))) ((UInt64.ofInt r_).toNat))) .z)) qe (by kernel_rfl) ?_
 refine aa <| aQ ?_
 obtain rfl := Option.some.inj hm
 refine aR [.u64 ((q1 * 4294967296) + q0), .u64 (aK ((((((((aC hi ((UInt64.ofInt r_).toNat)) ||| (aK lo (((64 : UInt64) - (UInt64.ofInt r_)).toNat))) * 4294967296) + (aK (aC lo ((UInt64.ofInt r_).toNat)) ((32 : UInt64).toNat))) - (q1 * (aC y_ ((UInt64.ofInt r_).toNat)))) * 4294967296) + ((aC lo ((UInt64.ofInt r_).toNat)) &&& 4294967295)) - (q0 * (aC y_ ((UInt64.ofInt r_).toNat)))) ((UInt64.ofInt r_).toNat))] qe (by kernel_rfl) ?_
 exact ⟨rfl, dO⟩
theorem zZ {F O : Nat → Prop} {w : World} (w_ : UInt64) (k : Cx F O w w []) (r : (List UInt8)) (hm : mR w_ = some r) :
    Calls Tryz.prog 148 (ad [.u64 w_]) w (fun e w' => ∃ A n c, r.length = n ∧ e = .returned (SV.val (sl A n c)) ∧ Cx F O w w' [Ow e8 A n c r]) := by
 unfold mR at hm
 refine calls [.u64 w_] Tryz.func148 rfl (of_decide_eq_true (by kernel_rfl)) ?_
 refine ab <| bO [] .a qe (by kernel_rfl) ?_
 refine aa <| ab <| an <| ag <| vp iJ e8 (0 : UInt8) rfl [] 5 (I 8) (I 8) (8 : Int) (8 : Int) (by kernel_rfl) (by omega) (by omega) (by omega) k ?_
 intro A0 k4 k_
 refine ba 1 [] (.n 3 (sl A0 (Int.toNat (8 : Int)) (Int.toNat (8 : Int))) (.s .a)) qe (by kernel_rfl) ?_
 refine af <| aa <| ab <| ab <| bO [] (.n 6 (I 0) .a) qe (by kernel_rfl) ?_
 refine aa <| cX <| rv (mE w_) (fun s L wr => ∃ (b : List UInt8) (aL : Int), (b, aL) = s ∧ L = [(0, .u64 w_), (3, sl A0 (Int.toNat (8 : Int)) (Int.toNat (8 : Int))), (6, I aL)] ∧ Cx F O w wr [Ow e8 A0 (Int.toNat (8 : Int)) (Int.toNat (8 : Int)) b]) (List.replicate (Int.toNat (8 : Int)) (0 : UInt8), (0 : Int)) r hm ⟨List.replicate (Int.toNat (8 : Int)) (0 : UInt8), (0 : Int), rfl, rfl, k_⟩ (by kernel_rfl) ?_
 intro Al L_ l6 y0 kE dY rP
 obtain ⟨b, aL, rfl, rfl, db⟩ := kE
 have hm := dY; simp only [mE] at hm
 clear dY
 refine ab <| bO [] (.n 7 (.b (decide (aL < 8))) .a) qe (by kernel_rfl) ?_
 refine aa <| ab <| bu (aL < 8) (by kernel_rfl) (fun hc => ?_) (fun hc => ?_)
 · rw [if_pos hc] at hm
   refine bc <| aa <| ab <| cX <| ab <| bO [] (.n 4 (I aL) (.s .a)) qe (by kernel_rfl) ?_
   refine aa <| an ?_
   obtain ⟨u, wT, hm⟩ := ob hm
   obtain ⟨j5, j9, hm⟩ := ob hm
   refine ba 8 [] (.n 15 (.u8 (UInt8.ofNat (aK w_ (Int.toNat (aD (8 * aL)))).toNat)) (.n 16 (.v (.pointer (nM A0 aL 1))) (.s .a))) (qp (0 ≤ aD (8 * aL)) (fI wT) <| qJ (db.rd 0 rfl) j9 (db.len 0 rfl) <| qe) (by kernel_rfl) ?_
   refine ag <| zu (E := e8) (kk := 0) (sv := .u8 (UInt8.ofNat (aK w_ (Int.toNat (aD (8 * aL)))).toNat)) (svs := [.u8 (UInt8.ofNat (aK w_ (Int.toNat (aD (8 * aL)))).toNat)]) [] 0 (UInt8.ofNat (aK w_ (Int.toNat (aD (8 * aL)))).toNat) (by kernel_rfl) (Pt.x6 A0 aL 1) db rfl (eR j9).2 (yS (E := e8) (db.rd 0 rfl) (by decide) (kS j9).1 (eR j9).2) rfl (Nat.le_of_ble_eq_true (by kernel_rfl)) ?_
   intro qj dE
   refine af <| lL <| aa <| bO [] (.n 6 (I (aD (aL + 1))) (.ss (.kk .z))) qe (by kernel_rfl) ?_
   exact mN (b.set (Int.toNat aL) (UInt8.ofNat (aK w_ (Int.toNat (aD (8 * aL)))).toNat), aD (aL + 1)) (Option.some.inj hm).symm ⟨b.set (Int.toNat aL) (UInt8.ofNat (aK w_ (Int.toNat (aD (8 * aL)))).toNat), aD (aL + 1), rfl, rfl, dE⟩ (by kernel_rfl)
 rw [if_neg hc] at hm
 refine jr (gk (gk (lT ?_)))
 have hm := iv hm rP
 refine aa <| ab <| bO [] (.n 2 (sl A0 (Int.toNat (8 : Int)) (Int.toNat (8 : Int))) .z) qe (by kernel_rfl) ?_
 refine aa <| aQ ?_
 obtain rfl := Option.some.inj hm
 refine aR [sl A0 (Int.toNat (8 : Int)) (Int.toNat (8 : Int))] qe (by kernel_rfl) ?_
 exact ⟨A0, Int.toNat (8 : Int), Int.toNat (8 : Int), db.len 0 rfl, rfl, db⟩
theorem Cs {F O : Nat → Prop} {w : World} (h : ae UInt64 8) (k : Cx F O w w []) (r : (List UInt8)) (hm : o0 h = some r) :
    Calls Tryz.prog 133 (ad [.agg [.ar cj h]]) w (fun e w' => ∃ A n c, r.length = n ∧ e = .returned (SV.val (sl A n c)) ∧ Cx F O w w' [Ow e8 A n c r]) := by
 unfold o0 at hm
 refine calls [.agg [.ar cj h]] Tryz.func133 rfl (of_decide_eq_true (by kernel_rfl)) ?_
 refine ab <| an <| ag <| gF [] 1 (.agg [.ar cj h]) [.ar cj h] (by kernel_rfl) k ?_
 intro g w_ k_
 refine ba 1 [] (.k .z) qe (by kernel_rfl) ?_
 refine af <| aa <| ab <| an <| ag <| vp iJ e8 (0 : UInt8) rfl [] 6 (I 0) (I 64) (0 : Int) (64 : Int) (by kernel_rfl) (by omega) (by omega) (by omega) k_ ?_
 intro A0 k4 db
 refine ba 1 [] (.n 3 (sl A0 (Int.toNat (0 : Int)) (Int.toNat (64 : Int))) (.s .a)) qe (by kernel_rfl) ?_
 refine af <| aa <| ab <| ab <| bO [] (.n 7 (.agg [.ar cj h]) (.n 8 (I 0) (.k .z))) (qT db 0 rfl 0 8 [.ar cj h] (by kernel_rfl) (by decide) <| qe) (by kernel_rfl) ?_
 refine aa <| cX ?_
 have dU := db.de (.s (.k .e))
 refine rv (oo h) (fun s L wr => ∃ (b : List UInt8) (aL : Int) (A1 : Option Addr) (n0 : Nat) (c0 : Nat), (b, aL) = s ∧ L = [(3, sl A1 n0 c0), (7, .agg [.ar cj h]), (8, I aL)] ∧ b.length = n0 ∧ Cx F O w wr [Ow e8 A1 n0 c0 b]) (List.replicate (Int.toNat (0 : Int)) (0 : UInt8), (0 : Int)) r hm ⟨List.replicate (Int.toNat (0 : Int)) (0 : UInt8), (0 : Int), A0, Int.toNat (0 : Int), Int.toNat (64 : Int), rfl, rfl, dU.len 0 rfl, dU⟩ (by kernel_rfl) ?_
 intro Al L_ l6 y0 kE dY rP
 obtain ⟨b, aL, A1, _, c0, rfl, rfl, rfl, dE⟩ := kE
 have hm := dY; simp only [oo] at hm
 clear dY
 refine ab <| bO [] (.n 9 (.b (decide (aL < 8))) .a) qe (by kernel_rfl) ?_
 refine aa <| ab <| bu (aL < 8) (by kernel_rfl) (fun hc => ?_) (fun hc => ?_)
 · rw [if_pos hc] at hm
   refine bc <| aa <| ab <| cX <| ab ?_
   obtain ⟨j5, j9, hm⟩ := ob hm
   refine bO [] (.n 5 (.u64 j5) (.s .a)) (qo (.u64 j5) <| qp ((0 ≤ aL ∧ aL < ((8 : Nat) : Int)) ∧ (SV.cl [.ar cj h])[Int.toNat aL * 1]? = some (SV.val (.u64 j5))) (KF (E := cj) j9 rfl) <| qe) (by kernel_rfl) ?_
   refine aa <| an <| ba 2 [] (.n 11 (sl A1 b.length c0) (.n 12 (.u64 j5) (.s .a))) qe (by kernel_rfl) ?_
   refine ag ?_
   obtain ⟨r_, cQ, hm⟩ := ob hm
   refine au [] 13 _ HF (by kernel_rfl) (zZ (F := N0) (O := N0) _ (Cx.refl _) _ cQ) ?_
   rintro e_ qj ⟨A2, _, c1, rfl, rfl, eY⟩
   have fU := dE.call eY
   refine ⟨sl A2 r_.length c1, rfl, ?_⟩
   refine ag ?_
   obtain ⟨b1, wS, hm⟩ := ob hm
   obtain ⟨hz, hl⟩ := mm wS
   refine k8 (E := e8) (v := sl A2 r_.length c1) (ys := r_) iJ [] 14 0 (by kernel_rfl) fU rfl (Src.sl (fU.rd 1 rfl) (fU.len 1 rfl) (by rfl)) (fU.len 1 rfl) (by have := fU.len 0 rfl; have := (fU.len 1 rfl); omega) ?_
   intro A3 c2 qk g_
   rw [← hl] at g_
   have gC := g_.de (.k .z)
   refine ba 1 [] (.n 3 (sl A3 (b.length + r_.length) c2) (.jn (.s .a))) qe (by kernel_rfl) ?_
   refine af <| lL <| aa <| bO [] (.n 8 (I (aD (aL + 1))) (.kk .z)) qe (by kernel_rfl) ?_
   exact mN (b1, aD (aL + 1)) (Option.some.inj hm).symm ⟨b1, aD (aL + 1), A3, b.length + r_.length, c2, rfl, rfl, gC.len 0 rfl, gC⟩ (by kernel_rfl)
 rw [if_neg hc] at hm
 refine jr (gk (gk (lT ?_)))
 have hm := iv hm rP
 refine aa <| ab <| bO [] (.n 2 (sl A1 b.length c0) .z) qe (by kernel_rfl) ?_
 refine aa <| aQ ?_
 obtain rfl := Option.some.inj hm
 refine aR [sl A1 b.length c0] qe (by kernel_rfl) ?_
 exact ⟨A1, b.length, c0, dE.len 0 rfl, rfl, dE⟩
theorem tG {F O : Nat → Prop} {w : World} (ra : ae UInt64 8) (bG : UInt64) (bH : UInt64) (cA : List UInt8) (aA : Int) (node : Bool) (aY : Nat) (dG : Option Addr) (lB : Nat) (dH : Nat) (k : Cx F O w w [Bx 200 aY [.ar cj ra, .u64 bG, .u64 bH, sl dG lB dH, I aA, .v (.func (.func 132) ⟨SV.ad []⟩ ⟨SV.ad []⟩), .v (.func (.func 133) ⟨SV.ad []⟩ ⟨SV.ad []⟩)], Ow e8 dG lB dH cA]) (r : (List UInt8 × ae UInt64 8 × UInt64 × UInt64 × List UInt8 × Int)) (hm : iP ra bG bH cA aA node = some r) :
    Calls Tryz.prog 218 (ad [pt aY 0, .b node]) w (fun e w' => ∃ A n c A1 n1 c1, r.1.length = n ∧ r.2.2.2.2.1.length = n1 ∧ e = .returned (SV.val (sl A n c)) ∧ Cx F O w w' [Ow e8 A n c r.1, Bx 200 aY [.ar cj r.2.1, .u64 r.2.2.1, .u64 r.2.2.2.1, sl A1 n1 c1, I r.2.2.2.2.2, .v (.func (.func 132) ⟨SV.ad []⟩ ⟨SV.ad []⟩), .v (.func (.func 133) ⟨SV.ad []⟩ ⟨SV.ad []⟩)], Ow e8 A1 n1 c1 r.2.2.2.2.1]) := by
 unfold iP at hm
 obtain rfl := k.len 1 rfl
 refine calls [pt aY 0, .b node] Tryz.func218 rfl (of_decide_eq_true (by kernel_rfl)) ?_
 refine ab <| bO [] .a qe (by kernel_rfl) ?_
 refine aa <| ab <| G8 (fun L wr => ∃ (c0 : UInt64) (c2 : UInt64) (g : Nat), jm ra bG bH cA aA node c0 c2 = some r ∧ L = [(0, pt aY 0), (1, .b node), (5, pt g 0)] ∧ Cx F O w wr [Bx 200 aY [.ar cj ra, .u64 bG, .u64 bH, sl dG cA.length dH, I aA, .v (.func (.func 132) ⟨SV.ad []⟩ ⟨SV.ad []⟩), .v (.func (.func 133) ⟨SV.ad []⟩ ⟨SV.ad []⟩)], Ow e8 dG cA.length dH cA, Bx 198 g [.u64 c0, .u64 c2]]) ?_ ?_
 ·
  have k_ := k.drew 1
  refine qO bK (.q 0 2 (.q 1 2 (.q 2 1 (.q 3 1 (.q 4 2 (.q 5 2 (.q 6 2 (.q 7 2 (.q 8 1 (.q 9 1 (.br 10 14 (.q 11 2 (.q 12 2 (.q 13 3 (.op 14 (.op 15 (.q 16 3 .nil)))))) (.op 10 (.q 11 2 (.q 12 2 (.q 13 3 (.op 15 (.q 16 3 .nil))))))))))))))))) [10, 14, 15] k_ (.c (.kk .e) (.c (.kk .e) (.c (.kk .e) .l))) (by kernel_rfl) (fun _ => ?_)
  refine cK 2 2 [] (.n 9 (pt aY 0) .a) (fun x hx => qs aY 0 <| qe) (by kernel_rfl) (fun _ => ?_)
  refine cK 2 1 [] (.n 11 (.agg [.u64 bG, .u64 bH]) (.s .a)) (fun x hx => qs aY 0 <| qT hx 0 rfl 8 2 [.u64 bG, .u64 bH] (by kernel_rfl) (by decide) <| qe) (by kernel_rfl) (fun _ => ?_)
  refine cK 4 2 [] (.n 15 (sl dG cA.length dH) .a) (fun x hx => qs aY 0 <| qs aY 0 <| qB hx 0 rfl 10 (sl dG cA.length dH) (by kernel_rfl) <| qe) (by kernel_rfl) (fun _ => ?_)
  refine cK 2 1 [] (.n 17 (.u64 (UInt64.ofInt ((cA.length : Nat) : Int))) (.s .a)) (fun x hx => qe) (by kernel_rfl) (fun _ => ?_)
  refine KE (by kernel_rfl) (by kernel_rfl) rfl rfl ?_ ?_
  ·
   obtain ⟨r_, cQ, hm⟩ := ob hm
   refine au [] 18 _ sS (by kernel_rfl) (pI (F := N0) (O := N0) _ _ _ (Cx.refl _) _ cQ) ?_
   rintro e_ w_ ⟨rfl, db⟩
   have dE := k_.call db
   refine ⟨.gD [.agg [.u64 r_.1, .u64 r_.2.1], .b r_.2.2], rfl, ?_⟩
   refine ⟨dE, fun _ => ?_⟩
   refine cK 2 2 [] (.n 7 (.gD [.agg [.u64 r_.1, .u64 r_.2.1], .b r_.2.2]) (.n 19 (.agg [.u64 r_.1, .u64 r_.2.1]) (.oQ .a))) (fun x hx => qe) (by kernel_rfl) (fun _ => ?_)
   refine cK 1 3 [] (.n 20 (.b r_.2.2) (.s .a)) (fun x hx => qe) (by kernel_rfl) (fun _ => ?_)
   refine cC (by kernel_rfl) rfl <| bT [] 5 [.u64 0, .u64 0] (by kernel_rfl) dE ?_
   intro g1 k4 dU
   refine ⟨(dU.de (.kk .z)), fun _ => ?_⟩
   refine cC (by kernel_rfl) rfl <| en [] 2 (.agg [.u64 r_.1, .u64 r_.2.1]) [.u64 r_.1, .u64 r_.2.1] (Pt.at g1 0) dU rfl .all (by kernel_rfl) (by kernel_rfl) ?_
   intro l6 eY
   refine ⟨(eY.de (.kk .z)), fun _ => ?_⟩
   refine cK 1 3 [] (.k (.ss .a)) (fun x hx => qe) (by kernel_rfl) (fun _ => ?_)
   refine d_ ?_
   exact jS ⟨r_.1, r_.2.1, g1, hm, rfl, eY⟩ (by kernel_rfl)
  ·
   refine bT [] 5 [.u64 0, .u64 0] (by kernel_rfl) k_ ?_
   intro g1 w_ db
   refine ⟨(db.de (.kk .z)), fun _ => ?_⟩
   refine cC (by kernel_rfl) rfl ?_
   obtain ⟨r_, cQ, hm⟩ := ob hm
   refine au [] 18 _ sS (by kernel_rfl) (pI (F := N0) (O := N0) _ _ _ (Cx.refl _) _ cQ) ?_
   rintro e_ k4 ⟨rfl, dE⟩
   have dU := db.call dE
   refine ⟨.gD [.agg [.u64 r_.1, .u64 r_.2.1], .b r_.2.2], rfl, ?_⟩
   refine ⟨(dU.de (.kk .z)), fun _ => ?_⟩
   refine cK 2 2 [] (.n 7 (.gD [.agg [.u64 r_.1, .u64 r_.2.1], .b r_.2.2]) (.n 19 (.agg [.u64 r_.1, .u64 r_.2.1]) (.s (.k (.ss .a))))) (fun x hx => qe) (by kernel_rfl) (fun _ => ?_)
   refine cK 1 3 [] (.n 20 (.b r_.2.2) (.s .a)) (fun x hx => qe) (by kernel_rfl) (fun _ => ?_)
   refine cC (by kernel_rfl) rfl <| en [] 2 (.agg [.u64 r_.1, .u64 r_.2.1]) [.u64 r_.1, .u64 r_.2.1] (Pt.at g1 0) dU rfl .all (by kernel_rfl) (by kernel_rfl) ?_
   intro l6 eY
   refine ⟨(eY.de (.kk .z)), fun _ => ?_⟩
   refine cK 1 3 [] (.ss .a) (fun x hx => qe) (by kernel_rfl) (fun _ => ?_)
   refine d_ ?_
   exact jS ⟨r_.1, r_.2.1, g1, hm, rfl, eY⟩ (by kernel_rfl)
 rintro L_ qj ⟨c0, c2, g, hm, rfl, fU⟩
 simp only [jm] at hm
 refine aa <| ab ?_
 have g_ := fU.drew 1
 refine qO bK (.q 21 1 (.q 22 1 (.q 0 3 (.q 1 3 (.q 2 2 (.q 3 2 (.q 4 3 (.q 5 3 (.q 6 2 (.q 7 1 (.q 8 3 (.q 9 3 (.q 10 2 (.q 11 1 (.q 12 3 (.q 13 3 (.q 14 2 (.q 15 1 (.q 16 3 (.q 17 3 (.q 18 2 (.q 19 1 (.op 20 (.op 23 (.op 24 (.q 25 3 .nil)))))))))))))))))))))))))) [20, 23, 24] g_ (.c (.kk (.k .e)) (.c (.kk (.k .e)) (.c (.kk (.k .e)) .l))) (by kernel_rfl) (fun _ => ?_)
 refine cK 2 1 [] (.n 42 (.agg [.u64 c0, .u64 c2]) (.n 43 (.b node) (.k .z))) (fun x hx => qT hx 2 rfl 0 2 [.u64 c0, .u64 c2] (by kernel_rfl) (by decide) <| qe) (by kernel_rfl) (fun _ => ?_)
 refine cK 2 3 [] (.n 22 (pt aY 0) .a) (fun x hx => qs aY 0 <| qe) (by kernel_rfl) (fun _ => ?_)
 refine cK 2 2 [] (.n 24 (.v (.func (.func 133) ⟨SV.ad []⟩ ⟨SV.ad []⟩)) (.s .a)) (fun x hx => qs aY 0 <| qB hx 0 rfl 13 (.v (.func (.func 133) ⟨SV.ad []⟩ ⟨SV.ad []⟩)) (by kernel_rfl) <| qe) (by kernel_rfl) (fun _ => ?_)
 refine cK 2 3 [] (.n 26 (pt aY 0) .a) (fun x hx => qs aY 0 <| qe) (by kernel_rfl) (fun _ => ?_)
 refine cK 1 2 [] (.n 27 (pt aY 12) (.s .a)) (fun x hx => qs aY 0 <| qe) (by kernel_rfl) (fun _ => ?_)
 refine cK 1 1 [] (.n 28 (.v (.func (.func 132) ⟨SV.ad []⟩ ⟨SV.ad []⟩)) (.s .a)) (fun x hx => qB hx 0 rfl 12 (.v (.func (.func 132) ⟨SV.ad []⟩ ⟨SV.ad []⟩)) (by kernel_rfl) <| qe) (by kernel_rfl) (fun _ => ?_)
 refine cK 2 3 [] (.n 30 (pt aY 0) .a) (fun x hx => qs aY 0 <| qe) (by kernel_rfl) (fun _ => ?_)
 refine cK 1 2 [] (.n 31 (pt aY 0) (.s .a)) (fun x hx => qs aY 0 <| qe) (by kernel_rfl) (fun _ => ?_)
 refine cK 1 1 [] (.n 32 (.agg [.ar cj ra]) (.s .a)) (fun x hx => qT hx 0 rfl 0 8 [.ar cj ra] (by kernel_rfl) (by decide) <| qe) (by kernel_rfl) (fun _ => ?_)
 refine cK 2 3 [] (.n 34 (pt aY 0) .a) (fun x hx => qs aY 0 <| qe) (by kernel_rfl) (fun _ => ?_)
 refine cK 1 2 [] (.n 35 (pt aY 10) (.s .a)) (fun x hx => qs aY 0 <| qe) (by kernel_rfl) (fun _ => ?_)
 refine cK 1 1 [] (.n 36 (sl dG cA.length dH) (.s .a)) (fun x hx => qB hx 0 rfl 10 (sl dG cA.length dH) (by kernel_rfl) <| qe) (by kernel_rfl) (fun _ => ?_)
 refine cK 2 3 [] (.n 38 (pt aY 0) (.bX (.kk .z))) (fun x hx => qs aY 0 <| qe) (by kernel_rfl) (fun _ => ?_)
 refine cK 1 2 [] (.n 39 (pt aY 11) (.s .a)) (fun x hx => qs aY 0 <| qe) (by kernel_rfl) (fun _ => ?_)
 refine cK 1 1 [] (.n 40 (I aA) (.s .a)) (fun x hx => qB hx 0 rfl 11 (I aA) (by kernel_rfl) <| qe) (by kernel_rfl) (fun _ => ?_)
 refine cC (by kernel_rfl) rfl ?_
 obtain ⟨ah, dd, hm⟩ := ob hm
 refine au [] 41 _ xA (by kernel_rfl) (pR (F := N0) (O := N0) _ _ _ _ _ (Ro.n0 (g_.rd 1 rfl)) (g_.len 1 rfl) (g_.Ap 1 rfl) (Cx.refl _) _ dd) ?_
 rintro e_ qk ⟨A0, _, c3, rfl, rfl, gC⟩
 have gP := g_.call gC
 refine ⟨sl A0 ah.length c3, rfl, ?_⟩
 refine ⟨(gP.de (.kk (.k .z))), fun _ => ?_⟩
 refine cC (by kernel_rfl) rfl ?_
 obtain ⟨aX, hK, hm⟩ := ob hm
 refine lU [] 44 [] [.agg [.ar cj ra], sl A0 ah.length c3, .agg [.u64 c0, .u64 c2], .b true, .b node] [] C3 (by kernel_rfl) (wo (F := N0) (O := N0) _ _ _ _ _ _ _ _ _ (Ro.n0 (gP.rd 3 rfl)) (gP.len 3 rfl) (gP.Ap 3 rfl) (Cx.refl _) _ hK) ?_
 rintro e_ rX ⟨rfl, gB⟩
 have dO := gP.call gB
 refine ⟨.agg [.ar cj aX], rfl, ?_⟩
 have cV := dO.de (.kk (.k .z))
 refine ⟨cV, fun _ => ?_⟩
 refine cC (by kernel_rfl) rfl ?_
 obtain ⟨eK, nX, hm⟩ := ob hm
 refine lU [] 45 [] [.agg [.ar cj aX]] [] HA (by kernel_rfl) (Cs (F := N0) (O := N0) _ (Cx.refl _) _ nX) ?_
 rintro e_ wQ ⟨A2, _, c4, rfl, rfl, ff⟩
 have gI := cV.call ff
 refine ⟨sl A2 eK.length c4, rfl, ?_⟩
 refine ⟨(gI.de (.kk (.k .z))), fun _ => ?_⟩
 refine cK 1 3 [] (.n 4 (sl A2 eK.length c4) .z) (fun x hx => qe) (by kernel_rfl) (fun _ => ?_)
 refine d_ <| aa <| aQ ?_
 obtain rfl := Option.some.inj hm
 refine aR [sl A2 eK.length c4] qe (by kernel_rfl) ?_
 have ez := (((gI.pk (.t .h)).pk (.t .h)).pk (.t (.t (.t .h)))).de (.kk (.k .z))
 exact ⟨A2, eK.length, c4, dG, cA.length, dH, ez.len 0 rfl, ez.len 2 rfl, rfl, ez⟩
theorem ua {F O : Nat → Prop} {w : World} (fJ : Int) (eD : Int) (cw : List UInt8) (dK : List UInt8) (jl : Bool) (ep : UInt64) (mD : ae UInt64 8) (dk : UInt64) (dm : UInt64) (fV : List UInt8) (fF : Int) (hD : Int) (jq : Nat) (fj : Option Addr) (iC : Nat) (fk : Nat) (gz : Option Addr) (lC : Nat) (gA : Nat) (i_ : Nat) (h_ : Option Addr) (ja : Nat) (ia : Nat) (k : Cx F O w w [Bx 145 jq [I fJ, I eD, sl fj iC fk, sl gz lC gA, .b jl, .u64 ep, .v (.iface 194 (SV.val (pt i_ 0)))], Ow e8 fj iC fk cw, Ow e8 gz lC gA dK, Bx 200 i_ [.ar cj mD, .u64 dk, .u64 dm, sl h_ ja ia, I fF, .v (.func (.func 132) ⟨SV.ad []⟩ ⟨SV.ad []⟩), .v (.func (.func 133) ⟨SV.ad []⟩ ⟨SV.ad []⟩)], Ow e8 h_ ja ia fV]) (r : (List UInt8 × Int × ae UInt64 8 × UInt64 × UInt64 × List UInt8 × Int × Int × Int × List UInt8 × List UInt8 × Bool × UInt64)) (hm : eJ fJ eD cw dK jl ep mD dk dm fV fF hD = some r) :
    Calls Tryz.prog 91 (ad [pt jq 0, I hD]) w (fun e w' => ∃ A n c A1 n1 c1 A2 n2 c2 A3 n3 c3, r.1.length = n ∧ r.2.2.2.2.2.1.length = n1 ∧ r.2.2.2.2.2.2.2.2.2.1.length = n2 ∧ r.2.2.2.2.2.2.2.2.2.2.1.length = n3 ∧ e = .returned (SV.val (.gD [sl A n c, I r.2.1])) ∧ Cx F O w w' [Ow e8 A n c r.1, Bx 200 i_ [.ar cj r.2.2.1, .u64 r.2.2.2.1, .u64 r.2.2.2.2.1, sl A1 n1 c1, I r.2.2.2.2.2.2.1, .v (.func (.func 132) ⟨SV.ad []⟩ ⟨SV.ad []⟩), .v (.func (.func 133) ⟨SV.ad []⟩ ⟨SV.ad []⟩)], Ow e8 A1 n1 c1 r.2.2.2.2.2.1, Bx 145 jq [I r.2.2.2.2.2.2.2.1, I r.2.2.2.2.2.2.2.2.1, sl A2 n2 c2, sl A3 n3 c3, .b r.2.2.2.2.2.2.2.2.2.2.2.1, .u64 r.2.2.2.2.2.2.2.2.2.2.2.2, .v (.iface 194 (SV.val (pt i_ 0)))], Ow e8 A2 n2 c2 r.2.2.2.2.2.2.2.2.2.1, Ow e8 A3 n3 c3 r.2.2.2.2.2.2.2.2.2.2.1]) := by
 unfold eJ at hm
 obtain rfl := k.len 1 rfl
 obtain rfl := k.len 2 rfl
 obtain rfl := k.len 4 rfl
 refine calls [pt jq 0, I hD] Tryz.func91 rfl (of_decide_eq_true (by kernel_rfl)) ?_
 refine ab <| bO [] .a qe (by kernel_rfl) ?_
 refine aa <| ab <| ab <| an <| ba 1 [] (.n 6 (pt jq 0) .a) qe (by kernel_rfl) ?_
 refine ag ?_
 obtain ⟨r_, cQ, hm⟩ := ob hm
 obtain ⟨F1, O1, lQ, hO, rp, hF, hb⟩ := k.go (.i (.i (.i (.i (.i .e)))))
 refine au [] 7 _ B2 (by kernel_rfl) (sW (F := F1) (O := O1) _ _ _ _ _ _ _ _ _ _ _ _ _ _ _ _ _ _ _ _ _ _ lQ _ cQ) ?_
 rintro e_ w_ ⟨A0, _, c0, A4, _, c4, A5, _, c5, rfl, rfl, rfl, rfl, k_⟩
 have db := hb w_ _ _ k_ (.c (.c (.c (.c (.c .n)))))
 refine ⟨.b false, rfl, ?_⟩
 refine af <| aa <| cm false (by kernel_rfl) (fun h => by cases h) (fun _ => ?_)
 refine bc <| aa <| ab <| ab <| an <| ba 3 [] (.n 10 (.b (decide (hD < 1))) (.ss .a)) qe (by kernel_rfl) ?_
 refine lj 10 (decide (hD < 1)) (.s .a) (by kernel_rfl) (fun hg => ?_) (fun hg => ?_)
 · rw [if_pos (of_decide_eq_true hg)] at hm
   refine ba 9 [10] (.n 19 (.b true) (.s .a)) qe (by kernel_rfl) ?_
   refine af <| aa <| cm true (by kernel_rfl) (fun _ => ?_) (fun h => by cases h)
   refine ab <| bO [] (.n 4 (sl none 0 0) (.n 5 (I 1) .z)) qe (by kernel_rfl) ?_
   refine aa <| aQ (cJ ?_)
   have dE := db.nil e8
   obtain rfl := Option.some.inj hm
   refine aR [sl none 0 0, I 1] qe (by kernel_rfl) ?_
   have dU := (((((dE.pk (.t (.t (.t (.t .h))))).pk (.t (.t (.t (.t .h))))).pk (.t (.t (.t (.t .h))))).pk (.t (.t (.t (.t .h))))).pk (.t (.t (.t (.t .h))))).pk (.t (.t (.t (.t (.t .h)))))
   exact ⟨none, 0, 0, A0, r_.2.2.2.1.length, c0, A4, r_.2.2.2.2.2.2.2.1.length, c4, A5, r_.2.2.2.2.2.2.2.2.1.length, c5, dU.len 0 rfl, dU.len 2 rfl, dU.len 4 rfl, dU.len 5 rfl, rfl, dU⟩
 · rw [if_neg (of_decide_eq_false hg)] at hm
   refine ba 5 [10] (.n 11 (I hD) (.n 15 (I r_.2.2.2.2.2.1) .a)) (qs jq 0 <| qs jq 0 <| qB db 2 rfl 0 (I r_.2.2.2.2.2.1) (by kernel_rfl) <| qe) (by kernel_rfl) ?_
   refine ag ?_
   obtain ⟨ah, dd, hm⟩ := ob hm
   refine au [10] 16 _ xz (by kernel_rfl) (o8 (F := N0) (O := N0) _ (Cx.refl _) _ dd) ?_
   rintro e_ k4 ⟨rfl, eY⟩
   have fU := db.call eY
   refine ⟨I ah, rfl, ?_⟩
   refine ba 3 [10] (.n 19 (.b (decide ((aD (Int.tdiv ah 2)) < hD))) (.jn .a)) (qp ((2 : Int) ≠ (0 : Int)) (by omega) <| qe) (by kernel_rfl) ?_
   refine af <| aa <| bu ((aD (Int.tdiv ah 2)) < hD) (by kernel_rfl) (fun hc => ?_) (fun hc => ?_)
   · rw [if_pos hc] at hm
     refine ab <| bO [] (.n 4 (sl none 0 0) (.n 5 (I 1) .z)) qe (by kernel_rfl) ?_
     refine aa <| aQ (cJ ?_)
     have g_ := fU.nil e8
     obtain rfl := Option.some.inj hm
     refine aR [sl none 0 0, I 1] qe (by kernel_rfl) ?_
     have gC := (((((g_.pk (.t (.t (.t (.t .h))))).pk (.t (.t (.t (.t .h))))).pk (.t (.t (.t (.t .h))))).pk (.t (.t (.t (.t .h))))).pk (.t (.t (.t (.t .h))))).pk (.t (.t (.t (.t (.t .h)))))
     exact ⟨none, 0, 0, A0, r_.2.2.2.1.length, c0, A4, r_.2.2.2.2.2.2.2.1.length, c4, A5, r_.2.2.2.2.2.2.2.2.1.length, c5, gC.len 0 rfl, gC.len 2 rfl, gC.len 4 rfl, gC.len 5 rfl, rfl, gC⟩
   rw [if_neg hc] at hm
   refine bc <| aa <| ab ?_
   have gP := fU.drew 1
   refine qO bK (.q 0 1 (.q 1 1 (.q 2 1 (.q 3 0 (.q 8 0 (.q 9 0 (.q 4 1 (.q 5 1 (.q 6 0 (.q 7 0 (.q 11 1 (.q 12 1 (.op 10 (.q 13 1 (.q 14 1 (.q 15 1 .nil)))))))))))))))) [10] gP (.c (.ss (.kk (.k .e))) .l) (by kernel_rfl) (fun _ => ?_)
   refine cK 3 1 [] (.n 22 (pt jq 6) (.s .a)) (fun x hx => qs jq 0 <| qs jq 0 <| qe) (by kernel_rfl) (fun _ => ?_)
   refine cK 3 0 [] (.n 29 (.v (.iface 194 (SV.val (pt i_ 0)))) (.s .a)) (fun x hx => qB hx 2 rfl 6 (.v (.iface 194 (SV.val (pt i_ 0)))) (by kernel_rfl) <| qe) (by kernel_rfl) (fun _ => ?_)
   refine cK 2 1 [] (.n 25 (pt jq 0) (.k (.s .a))) (fun x hx => qs jq 0 <| qe) (by kernel_rfl) (fun _ => ?_)
   refine cK 2 0 [] (.n 27 (.b r_.2.2.2.2.2.2.2.2.2.1) (.s .a)) (fun x hx => qs jq 0 <| qB hx 2 rfl 4 (.b r_.2.2.2.2.2.2.2.2.2.1) (by kernel_rfl) <| qe) (by kernel_rfl) (fun _ => ?_)
   refine cK 2 1 [] (.n 31 (I hD) (.n 32 (I hD) (.kk .z))) (fun x hx => qe) (by kernel_rfl) (fun _ => ?_)
   refine cC (by kernel_rfl) rfl ?_
   obtain ⟨aX, hK, hm⟩ := ob hm
   obtain ⟨xI, xJ, nF, Fi, tF, si, xK⟩ := gP.go (.i (.i (.r (.r (.r .e)))))
   refine pD [] 30 194 (pt i_ 0) [.b r_.2.2.2.2.2.2.2.2.2.1] wO rfl (by kernel_rfl) (tG (F := xI) (O := xJ) _ _ _ _ _ _ _ _ _ _ nF _ hK) ?_
   rintro e_ l6 ⟨A6, _, c6, A7, _, c7, rfl, rfl, rfl, gB⟩
   have dO := xK l6 _ _ gB (.c (.c (.c .n)))
   refine ⟨sl A6 aX.1.length c6, rfl, ?_⟩
   refine ⟨(dO.de (.ss (.s (.kk (.k .e))))), fun _ => ?_⟩
   obtain ⟨b, qH, hm⟩ := ob hm
   have hs := iB qH
   have hl := lh qH
   have hn : aX.1.length = aX.1.length := (dO.len 0 rfl)
   have k5 : aX.1.length ≤ c6 := (dO.Ap 0 rfl)
   obtain ⟨u, wT, hm⟩ := ob hm
   have hq := fI wT
   have rN : b.length ≤ Int.toNat hD := by omega
   refine cK 3 1 [] (.n 4 (sl A6 b.length (Int.toNat hD)) (.n 5 (I 0) .z)) (fun x hx => qp (0 ≤ hD ∧ hD ≤ ((c6 : Nat) : Int)) (by omega) <| qp (0 ≤ hD ∧ hD ≤ ((Int.toNat hD : Nat) : Int)) (by omega) <| qo (.v (.slice A6 b.length (Int.toNat hD))) <| qp (Value.slice (sD A6 0 (Int.toNat hD) 1) (Int.toNat hD - 0) (Int.toNat hD - 0) = .slice A6 b.length (Int.toNat hD)) (uA _ _ _ _ _ (by omega)) <| qe) (by kernel_rfl) (fun _ => ?_)
   refine d_ <| aa <| aQ ?_
   have cV := dO.pre 0 rfl b.length (Int.toNat hD) b (by omega) (by omega) (by omega) (y1 qH rfl)
   obtain rfl := Option.some.inj hm
   refine aR [sl A6 b.length (Int.toNat hD), I 0] qe (by kernel_rfl) ?_
   exact ⟨A6, b.length, Int.toNat hD, A7, aX.2.2.2.2.1.length, c7, A4, r_.2.2.2.2.2.2.2.1.length, c4, A5, r_.2.2.2.2.2.2.2.2.1.length, c5, cV.len 0 rfl, cV.len 2 rfl, cV.len 4 rfl, cV.len 5 rfl, rfl, cV⟩
theorem vW {F O : Nat → Prop} {w : World} (cI : List UInt8) (bk : List UInt8) (al : List UInt8) (cq : Int) (bA : Int) (bN : List UInt8) (cR : List UInt8) (cr : Bool) (bh : UInt64) (dq : ae UInt64 8) (aG : UInt64) (aH : UInt64) (bw : List UInt8) (bj : Int) (jB : UInt64) (fy : ae UInt8 64) (dP : Int) (aY : Nat) (cy : Option Addr) (dF : Nat) (cz : Nat) (bQ : Option Addr) (cF : Nat) (bR : Nat) (aE : Option Addr) (a8 : Nat) (aF : Nat) (eo : Nat) (du : Option Addr) (ei : Nat) (dv : Nat) (eW : Option Addr) (fM : Nat) (eX : Nat) (da : Nat) (cO : Option Addr) (dD : Nat) (cP : Nat) (j0 : Ro F w cy (e8.all cI)) (jP : cI.length = dF) (iD : dF ≤ cz) (hN : Ro F w bQ (e8.all bk)) (iE : bk.length = cF) (gb : cF ≤ bR) (dL : Ro F w aE (e8.all al)) (eG : al.length = a8) (di : a8 ≤ aF) (k : Cx F O w w [Bx 86 aY [I 1, I 64, .u32 4294967295, .u64 274877906944, .b false, sl cy dF cz, sl bQ cF bR, sl aE a8 aF, pt eo 0, sl none 0 0, .u64 jB, .ar e8 fy, I dP, .v (.func (.func 66) ⟨SV.ad [pt aY 0]⟩ ⟨SV.ad []⟩)], Bx 145 eo [I cq, I bA, sl du ei dv, sl eW fM eX, .b cr, .u64 bh, .v (.iface 194 (SV.val (pt da 0)))], Ow e8 du ei dv bN, Ow e8 eW fM eX cR, Bx 200 da [.ar cj dq, .u64 aG, .u64 aH, sl cO dD cP, I bj, .v (.func (.func 132) ⟨SV.ad []⟩ ⟨SV.ad []⟩), .v (.func (.func 133) ⟨SV.ad []⟩ ⟨SV.ad []⟩)], Ow e8 cO dD cP bw]) (r : (ae UInt64 8 × UInt64 × UInt64 × List UInt8 × Int × Int × Int × List UInt8 × List UInt8 × Bool × UInt64 × List UInt8 × UInt64 × ae UInt8 64 × Int)) (hm : j6 cI bk al cq bA bN cR cr bh dq aG aH bw bj jB fy dP = some r) :
    Calls Tryz.prog 69 (ad [pt aY 0]) w (fun e w' => ∃ A n c A1 n1 c1 A2 n2 c2 g n3 c3, r.2.2.2.1.length = n ∧ r.2.2.2.2.2.2.2.1.length = n1 ∧ r.2.2.2.2.2.2.2.2.1.length = n2 ∧ r.2.2.2.2.2.2.2.2.2.2.2.1.length = n3 ∧ e = .returned (SV.val (.gD [])) ∧ Cx F O w w' [Bx 200 da [.ar cj r.1, .u64 r.2.1, .u64 r.2.2.1, sl A n c, I r.2.2.2.2.1, .v (.func (.func 132) ⟨SV.ad []⟩ ⟨SV.ad []⟩), .v (.func (.func 133) ⟨SV.ad []⟩ ⟨SV.ad []⟩)], Ow e8 A n c r.2.2.2.1, Bx 145 eo [I r.2.2.2.2.2.1, I r.2.2.2.2.2.2.1, sl A1 n1 c1, sl A2 n2 c2, .b r.2.2.2.2.2.2.2.2.2.1, .u64 r.2.2.2.2.2.2.2.2.2.2.1, .v (.iface 194 (SV.val (pt da 0)))], Ow e8 A1 n1 c1 r.2.2.2.2.2.2.2.1, Ow e8 A2 n2 c2 r.2.2.2.2.2.2.2.2.1, Bx 86 aY [I 1, I 64, .u32 4294967295, .u64 274877906944, .b false, sl cy dF cz, sl bQ cF bR, sl aE a8 aF, pt eo 0, sl (some ⟨g, 0, none⟩) n3 c3, .u64 r.2.2.2.2.2.2.2.2.2.2.2.2.1, .ar e8 r.2.2.2.2.2.2.2.2.2.2.2.2.2.1, I r.2.2.2.2.2.2.2.2.2.2.2.2.2.2, .v (.func (.func 90) ⟨SV.ad [pt aY 0]⟩ ⟨SV.ad []⟩)], Sh (SH e8) [((some ⟨g, 0, none⟩), n3, c3)] [r.2.2.2.2.2.2.2.2.2.2.2.1]]) := by
 unfold j6 at hm
 subst jP
 subst iE
 subst eG
 obtain rfl := k.len 2 rfl
 obtain rfl := k.len 3 rfl
 obtain rfl := k.len 5 rfl
 refine calls [pt aY 0] Tryz.func69 rfl (of_decide_eq_true (by kernel_rfl)) ?_
 refine ab <| bO [] (.n 6 (.b true) .a) (qs aY 0 <| qs aY 0 <| qB k 0 rfl 9 (sl none 0 0) (by kernel_rfl) <| qe) (by kernel_rfl) ?_
 refine aa <| cm true (by kernel_rfl) (fun _ => ?_) (fun h => by cases h)
 refine ab ?_
 have k_ := k.drew 1
 refine qO bK (.q 0 1 (.q 1 1 (.q 2 1 (.q 3 0 (.q 4 0 (.q 5 1 (.q 6 1 (.q 7 1 (.q 8 0 (.q 9 0 (.op 10 (.q 11 1 (.q 12 1 (.q 14 1 (.q 15 1 (.q 13 2 (.op 16 .nil))))))))))))))))) [10, 16] k_ (.c (.k .z) (.c (.z) .l)) (by kernel_rfl) (fun _ => ?_)
 refine cK 3 1 [] (.n 8 (pt aY 0) (.n 10 (pt aY 0) (.s .a))) (fun x hx => qs aY 0 <| qe) (by kernel_rfl) (fun _ => ?_)
 refine cK 2 0 [] (.n 12 (pt eo 0) (.k (.s .a))) (fun x hx => qs aY 0 <| qB hx 0 rfl 8 (pt eo 0) (by kernel_rfl) <| qe) (by kernel_rfl) (fun _ => ?_)
 refine cK 3 1 [] (.n 15 (pt aY 0) .a) (fun x hx => qs aY 0 <| qs aY 0 <| qe) (by kernel_rfl) (fun _ => ?_)
 refine cK 2 0 [] (.n 17 (I 64) (.s .a)) (fun x hx => qs aY 0 <| qB hx 0 rfl 1 (I 64) (by kernel_rfl) <| qe) (by kernel_rfl) (fun _ => ?_)
 refine cC (by kernel_rfl) rfl ?_
 obtain ⟨r_, cQ, hm⟩ := ob hm
 obtain ⟨F1, O1, lQ, hO, rp, hF, hb⟩ := k_.go (.r (.i (.i (.i (.i (.i .e))))))
 refine au [] 18 _ B3 (by kernel_rfl) (ua (F := F1) (O := O1) _ _ _ _ _ _ _ _ _ _ _ _ _ _ _ _ _ _ _ _ _ _ _ lQ _ cQ) ?_
 rintro e_ w_ ⟨A0, _, c0, A3, _, c4, A4, _, c5, A5, _, c6, rfl, rfl, rfl, rfl, rfl, db⟩
 have dE := hb w_ _ _ db (.c (.c (.c (.c (.c (.c .n))))))
 refine ⟨.gD [sl A0 r_.1.length c0, I r_.2.1], rfl, ?_⟩
 refine ⟨(dE.de (.jn (.ss (.k .e)))), fun _ => ?_⟩
 refine cK 4 1 [] (.n 7 (.gD [sl A0 r_.1.length c0, I r_.2.1]) (.n 19 (sl A0 r_.1.length c0) (.n 22 (pt aY 9) (.jn .a)))) (fun x hx => qs aY 0 <| qs aY 0 <| qe) (by kernel_rfl) (fun _ => ?_)
 refine cK 1 2 [] (.s .a) (fun x hx => qe) (by kernel_rfl) (fun _ => ?_)
 refine cC (by kernel_rfl) rfl ?_
 obtain ⟨u, wT, hm⟩ := ob hm
 obtain ⟨g0, rfl⟩ := dE.Lz 0 rfl (fI wT)
 have dU := dE.share
 refine en [] 6 (sl (some ⟨g0, 0, none⟩) r_.1.length c0) [sl (some ⟨g0, 0, none⟩) r_.1.length c0] (Pt.at aY 9) dU rfl (.bX (.bX (.k .h))) (by kernel_rfl) (by kernel_rfl) ?_
 intro k4 eY
 refine ⟨(eY.de .z), fun _ => ?_⟩
 refine d_ <| aa <| an <| ba 5 [] (.n 25 (.v (.func (.func 90) ⟨SV.ad [pt aY 0]⟩ ⟨SV.ad []⟩)) (.n 27 (pt aY 76) .z)) (qs aY 0 <| qs aY 0 <| qe) (by kernel_rfl) ?_
 refine ag <| en [] 6 (.v (.func (.func 90) ⟨SV.ad [pt aY 0]⟩ ⟨SV.ad []⟩)) [.v (.func (.func 90) ⟨SV.ad [pt aY 0]⟩ ⟨SV.ad []⟩)] (Pt.at aY 76) eY rfl (.bX (.bX (.bX (.k .h)))) (by kernel_rfl) (by kernel_rfl) ?_
 intro l6 fU
 refine af ?_
 obtain rfl := Option.some.inj hm
 refine px [] qe (by kernel_rfl) ?_
 have g_ := ((((((fU.pk .h).pk (.t (.t (.t (.t (.t (.t .h))))))).pk (.t (.t (.t (.t (.t (.t .h))))))).pk (.t (.t (.t (.t (.t (.t .h))))))).pk (.t (.t (.t (.t (.t (.t .h))))))).pk (.t (.t (.t (.t (.t (.t .h))))))).pk (.t (.t (.t (.t (.t (.t .h))))))
 exact ⟨A3, r_.2.2.2.2.2.1.length, c4, A4, r_.2.2.2.2.2.2.2.2.2.1.length, c5, A5, r_.2.2.2.2.2.2.2.2.2.2.1.length, c6, g0, r_.1.length, c0, g_.len 1 rfl, g_.len 3 rfl, g_.len 4 rfl, g_.fS 6 rfl, rfl, g_⟩
theorem vX {F O : Nat → Prop} {w : World} (fJ : Int) (eD : Int) (cw : List UInt8) (dK : List UInt8) (jl : Bool) (ep : UInt64) (mD : ae UInt32 8) (dk : UInt64) (dm : UInt64) (fV : List UInt8) (fF : Int) (jq : Nat) (fj : Option Addr) (iC : Nat) (fk : Nat) (gz : Option Addr) (lC : Nat) (gA : Nat) (i_ : Nat) (h_ : Option Addr) (ja : Nat) (ia : Nat) (k : Cx F O w w [Bx 145 jq [I fJ, I eD, sl fj iC fk, sl gz lC gA, .b jl, .u64 ep, .v (.iface 204 (SV.val (pt i_ 0)))], Ow e8 fj iC fk cw, Ow e8 gz lC gA dK, Bx 208 i_ [.ar dt mD, .u64 dk, .u64 dm, sl h_ ja ia, I fF, .v (.func (.func 135) ⟨SV.ad []⟩ ⟨SV.ad []⟩), .v (.func (.func 136) ⟨SV.ad []⟩ ⟨SV.ad []⟩)], Ow e8 h_ ja ia fV]) (r : (ae UInt32 8 × UInt64 × UInt64 × List UInt8 × Int × Int × Int × List UInt8 × List UInt8 × Bool × UInt64)) (hm : nN fJ eD cw dK jl ep mD dk dm fV fF = some r) :
    Calls Tryz.prog 89 (ad [pt jq 0]) w (fun e w' => ∃ A n c A1 n1 c1 A2 n2 c2, r.2.2.2.1.length = n ∧ r.2.2.2.2.2.2.2.1.length = n1 ∧ r.2.2.2.2.2.2.2.2.1.length = n2 ∧ e = .returned (SV.val (.b false)) ∧ Cx F O w w' [Bx 208 i_ [.ar dt r.1, .u64 r.2.1, .u64 r.2.2.1, sl A n c, I r.2.2.2.2.1, .v (.func (.func 135) ⟨SV.ad []⟩ ⟨SV.ad []⟩), .v (.func (.func 136) ⟨SV.ad []⟩ ⟨SV.ad []⟩)], Ow e8 A n c r.2.2.2.1, Bx 145 jq [I r.2.2.2.2.2.1, I r.2.2.2.2.2.2.1, sl A1 n1 c1, sl A2 n2 c2, .b r.2.2.2.2.2.2.2.2.2.1, .u64 r.2.2.2.2.2.2.2.2.2.2, .v (.iface 204 (SV.val (pt i_ 0)))], Ow e8 A1 n1 c1 r.2.2.2.2.2.2.2.1, Ow e8 A2 n2 c2 r.2.2.2.2.2.2.2.2.1]) := by
 unfold nN at hm
 obtain rfl := k.len 1 rfl
 obtain rfl := k.len 2 rfl
 obtain rfl := k.len 4 rfl
 refine calls [pt jq 0] Tryz.func89 rfl (of_decide_eq_true (by kernel_rfl)) ?_
 refine ab <| bO [] .a qe (by kernel_rfl) ?_
 refine aa <| ab <| bO [5] (.n 2 (.b false) .z) (qs jq 0 <| qs jq 0 <| qB k 0 rfl 6 (.v (.iface 204 (SV.val (pt i_ 0)))) (by kernel_rfl) <| qe) (by kernel_rfl) ?_
 refine aa <| aQ ?_
 obtain rfl := Option.some.inj hm
 refine aR [.b false] qe (by kernel_rfl) ?_
 have k_ := ((((k.pk (.t (.t .h))).pk (.t (.t .h))).pk (.t (.t .h))).pk (.t (.t (.t (.t .h))))).pk (.t (.t (.t (.t .h))))
 exact ⟨h_, fV.length, ia, fj, cw.length, fk, gz, dK.length, gA, k_.len 1 rfl, k_.len 3 rfl, k_.len 4 rfl, rfl, k_⟩
theorem Ct {F O : Nat → Prop} {w : World} (h : ae UInt32 8) (k : Cx F O w w []) (r : (List UInt8)) (hm : tu h = some r) :
    Calls Tryz.prog 136 (ad [.agg [.ar dt h]]) w (fun e w' => ∃ A n c, r.length = n ∧ e = .returned (SV.val (sl A n c)) ∧ Cx F O w w' [Ow e8 A n c r]) := by
 unfold tu at hm
 refine calls [.agg [.ar dt h]] Tryz.func136 rfl (of_decide_eq_true (by kernel_rfl)) ?_
 refine ab <| an <| ag <| gF [] 1 (.agg [.ar dt h]) [.ar dt h] (by kernel_rfl) k ?_
 intro g w_ k_
 refine ba 1 [] (.k .z) qe (by kernel_rfl) ?_
 refine af <| aa <| ab <| an <| ag <| vp iJ e8 (0 : UInt8) rfl [] 6 (I 0) (I 32) (0 : Int) (32 : Int) (by kernel_rfl) (by omega) (by omega) (by omega) k_ ?_
 intro A0 k4 db
 refine ba 1 [] (.n 3 (sl A0 (Int.toNat (0 : Int)) (Int.toNat (32 : Int))) (.s .a)) qe (by kernel_rfl) ?_
 refine af <| aa <| ab <| ab <| bO [] (.n 7 (.agg [.ar dt h]) (.n 8 (I 0) (.k .z))) (qT db 0 rfl 0 8 [.ar dt h] (by kernel_rfl) (by decide) <| qe) (by kernel_rfl) ?_
 refine aa <| cX ?_
 have dU := db.de (.s (.k .e))
 refine rv (qD h) (fun s L wr => ∃ (b : List UInt8) (aL : Int) (A1 : Option Addr) (n0 : Nat) (c0 : Nat), (b, aL) = s ∧ L = [(3, sl A1 n0 c0), (7, .agg [.ar dt h]), (8, I aL)] ∧ b.length = n0 ∧ Cx F O w wr [Ow e8 A1 n0 c0 b]) (List.replicate (Int.toNat (0 : Int)) (0 : UInt8), (0 : Int)) r hm ⟨List.replicate (Int.toNat (0 : Int)) (0 : UInt8), (0 : Int), A0, Int.toNat (0 : Int), Int.toNat (32 : Int), rfl, rfl, dU.len 0 rfl, dU⟩ (by kernel_rfl) ?_
 intro Al L_ l6 y0 kE dY rP
 obtain ⟨b, aL, A1, _, c0, rfl, rfl, rfl, dE⟩ := kE
 have hm := dY; simp only [qD] at hm
 clear dY
 refine ab <| bO [] (.n 9 (.b (decide (aL < 8))) .a) qe (by kernel_rfl) ?_
 refine aa <| ab <| bu (aL < 8) (by kernel_rfl) (fun hc => ?_) (fun hc => ?_)
 · rw [if_pos hc] at hm
   refine bc <| aa <| ab <| cX <| ab ?_
   obtain ⟨j5, j9, hm⟩ := ob hm
   refine bO [] (.n 5 (.u32 j5) (.s .a)) (qo (.u32 j5) <| qp ((0 ≤ aL ∧ aL < ((8 : Nat) : Int)) ∧ (SV.cl [.ar dt h])[Int.toNat aL * 1]? = some (SV.val (.u32 j5))) (KF (E := dt) j9 rfl) <| qe) (by kernel_rfl) ?_
   refine aa <| an <| ba 12 [] (.n 11 (sl A1 b.length c0) (.n 13 (.u8 (UInt8.ofNat j5.toNat)) (.n 16 (.u8 (UInt8.ofNat (l3 j5 ((8 : UInt64).toNat)).toNat)) (.n 19 (.u8 (UInt8.ofNat (l3 j5 ((16 : UInt64).toNat)).toNat)) (.n 22 (.u8 (UInt8.ofNat (l3 j5 ((24 : UInt64).toNat)).toNat)) (.s .a)))))) qe (by kernel_rfl) ?_
   refine ag <| Kv iJ e8 [] 23 ([UInt8.ofNat j5.toNat, UInt8.ofNat (l3 j5 ((8 : UInt64).toNat)).toNat, UInt8.ofNat (l3 j5 ((16 : UInt64).toNat)).toNat, UInt8.ofNat (l3 j5 ((24 : UInt64).toNat)).toNat] : List UInt8) [(0, .u8 (UInt8.ofNat j5.toNat)), (1, .u8 (UInt8.ofNat (l3 j5 ((8 : UInt64).toNat)).toNat)), (2, .u8 (UInt8.ofNat (l3 j5 ((16 : UInt64).toNat)).toNat)), (3, .u8 (UInt8.ofNat (l3 j5 ((24 : UInt64).toNat)).toNat))] [.u8 (UInt8.ofNat j5.toNat), .u8 (UInt8.ofNat (l3 j5 ((8 : UInt64).toNat)).toNat), .u8 (UInt8.ofNat (l3 j5 ((16 : UInt64).toNat)).toNat), .u8 (UInt8.ofNat (l3 j5 ((24 : UInt64).toNat)).toNat)] (by kernel_rfl) (by kernel_rfl) (by kernel_rfl) dE ?_
   intro A2 qj eY
   refine ag ?_
   obtain ⟨b1, wS, hm⟩ := ob hm
   obtain ⟨hz, hl⟩ := mm wS
   refine k8 (E := e8) (v := sl A2 4 4) (ys := ([UInt8.ofNat j5.toNat, UInt8.ofNat (l3 j5 ((8 : UInt64).toNat)).toNat, UInt8.ofNat (l3 j5 ((16 : UInt64).toNat)).toNat, UInt8.ofNat (l3 j5 ((24 : UInt64).toNat)).toNat] : List UInt8)) iJ [] 24 0 (by kernel_rfl) eY rfl (Src.sl (eY.rd 1 rfl) (eY.len 1 rfl) (by rfl)) (eY.len 1 rfl) (by have := eY.len 0 rfl; have := (eY.len 1 rfl); omega) ?_
   intro A3 c1 qk fU
   rw [← hl] at fU
   have g_ := fU.de (.k .z)
   refine ba 1 [] (.n 3 (sl A3 (b.length + 4) c1) (.jn (.jn .a))) qe (by kernel_rfl) ?_
   refine af <| lL <| aa <| bO [] (.n 8 (I (aD (aL + 1))) (.kk .z)) qe (by kernel_rfl) ?_
   exact mN (b1, aD (aL + 1)) (Option.some.inj hm).symm ⟨b1, aD (aL + 1), A3, b.length + 4, c1, rfl, rfl, g_.len 0 rfl, g_⟩ (by kernel_rfl)
 rw [if_neg hc] at hm
 refine jr (gk (gk (lT ?_)))
 have hm := iv hm rP
 refine aa <| ab <| bO [] (.n 2 (sl A1 b.length c0) .z) qe (by kernel_rfl) ?_
 refine aa <| aQ ?_
 obtain rfl := Option.some.inj hm
 refine aR [sl A1 b.length c0] qe (by kernel_rfl) ?_
 exact ⟨A1, b.length, c0, dE.len 0 rfl, rfl, dE⟩
theorem tH {F O : Nat → Prop} {w : World} (ra : ae UInt32 8) (bG : UInt64) (bH : UInt64) (cA : List UInt8) (aA : Int) (node : Bool) (aY : Nat) (dG : Option Addr) (lB : Nat) (dH : Nat) (k : Cx F O w w [Bx 208 aY [.ar dt ra, .u64 bG, .u64 bH, sl dG lB dH, I aA, .v (.func (.func 135) ⟨SV.ad []⟩ ⟨SV.ad []⟩), .v (.func (.func 136) ⟨SV.ad []⟩ ⟨SV.ad []⟩)], Ow e8 dG lB dH cA]) (r : (List UInt8 × ae UInt32 8 × UInt64 × UInt64 × List UInt8 × Int)) (hm : ma ra bG bH cA aA node = some r) :
    Calls Tryz.prog 224 (ad [pt aY 0, .b node]) w (fun e w' => ∃ A n c A1 n1 c1, r.1.length = n ∧ r.2.2.2.2.1.length = n1 ∧ e = .returned (SV.val (sl A n c)) ∧ Cx F O w w' [Ow e8 A n c r.1, Bx 208 aY [.ar dt r.2.1, .u64 r.2.2.1, .u64 r.2.2.2.1, sl A1 n1 c1, I r.2.2.2.2.2, .v (.func (.func 135) ⟨SV.ad []⟩ ⟨SV.ad []⟩), .v (.func (.func 136) ⟨SV.ad []⟩ ⟨SV.ad []⟩)], Ow e8 A1 n1 c1 r.2.2.2.2.1]) := by
 unfold ma at hm
 obtain rfl := k.len 1 rfl
 refine calls [pt aY 0, .b node] Tryz.func224 rfl (of_decide_eq_true (by kernel_rfl)) ?_
 refine ab <| bO [] .a qe (by kernel_rfl) ?_
 refine aa <| ab <| G8 (fun L wr => ∃ (c0 : UInt64) (c2 : UInt64) (g : Nat), kZ ra bG bH cA aA node c0 c2 = some r ∧ L = [(0, pt aY 0), (1, .b node), (5, pt g 0)] ∧ Cx F O w wr [Bx 208 aY [.ar dt ra, .u64 bG, .u64 bH, sl dG cA.length dH, I aA, .v (.func (.func 135) ⟨SV.ad []⟩ ⟨SV.ad []⟩), .v (.func (.func 136) ⟨SV.ad []⟩ ⟨SV.ad []⟩)], Ow e8 dG cA.length dH cA, Bx 198 g [.u64 c0, .u64 c2]]) ?_ ?_
 ·
  have k_ := k.drew 1
  refine qO bK (.q 0 2 (.q 1 2 (.q 2 1 (.q 3 1 (.q 4 2 (.q 5 2 (.q 6 2 (.q 7 2 (.q 8 1 (.q 9 1 (.br 10 14 (.q 11 2 (.q 12 2 (.q 13 3 (.op 14 (.op 15 (.q 16 3 .nil)))))) (.op 10 (.q 11 2 (.q 12 2 (.q 13 3 (.op 15 (.q 16 3 .nil))))))))))))))))) [10, 14, 15] k_ (.c (.kk .e) (.c (.kk .e) (.c (.kk .e) .l))) (by kernel_rfl) (fun _ => ?_)
  refine cK 2 2 [] (.n 9 (pt aY 0) .a) (fun x hx => qs aY 0 <| qe) (by kernel_rfl) (fun _ => ?_)
  refine cK 2 1 [] (.n 11 (.agg [.u64 bG, .u64 bH]) (.s .a)) (fun x hx => qs aY 0 <| qT hx 0 rfl 8 2 [.u64 bG, .u64 bH] (by kernel_rfl) (by decide) <| qe) (by kernel_rfl) (fun _ => ?_)
  refine cK 4 2 [] (.n 15 (sl dG cA.length dH) .a) (fun x hx => qs aY 0 <| qs aY 0 <| qB hx 0 rfl 10 (sl dG cA.length dH) (by kernel_rfl) <| qe) (by kernel_rfl) (fun _ => ?_)
  refine cK 2 1 [] (.n 17 (.u64 (UInt64.ofInt ((cA.length : Nat) : Int))) (.s .a)) (fun x hx => qe) (by kernel_rfl) (fun _ => ?_)
  refine KE (by kernel_rfl) (by kernel_rfl) rfl rfl ?_ ?_
  ·
   obtain ⟨r_, cQ, hm⟩ := ob hm
   refine au [] 18 _ sS (by kernel_rfl) (pI (F := N0) (O := N0) _ _ _ (Cx.refl _) _ cQ) ?_
   rintro e_ w_ ⟨rfl, db⟩
   have dE := k_.call db
   refine ⟨.gD [.agg [.u64 r_.1, .u64 r_.2.1], .b r_.2.2], rfl, ?_⟩
   refine ⟨dE, fun _ => ?_⟩
   refine cK 2 2 [] (.n 7 (.gD [.agg [.u64 r_.1, .u64 r_.2.1], .b r_.2.2]) (.n 19 (.agg [.u64 r_.1, .u64 r_.2.1]) (.oQ .a))) (fun x hx => qe) (by kernel_rfl) (fun _ => ?_)
   refine cK 1 3 [] (.n 20 (.b r_.2.2) (.s .a)) (fun x hx => qe) (by kernel_rfl) (fun _ => ?_)
   refine cC (by kernel_rfl) rfl <| bT [] 5 [.u64 0, .u64 0] (by kernel_rfl) dE ?_
   intro g1 k4 dU
   refine ⟨(dU.de (.kk .z)), fun _ => ?_⟩
   refine cC (by kernel_rfl) rfl <| en [] 2 (.agg [.u64 r_.1, .u64 r_.2.1]) [.u64 r_.1, .u64 r_.2.1] (Pt.at g1 0) dU rfl .all (by kernel_rfl) (by kernel_rfl) ?_
   intro l6 eY
   refine ⟨(eY.de (.kk .z)), fun _ => ?_⟩
   refine cK 1 3 [] (.k (.ss .a)) (fun x hx => qe) (by kernel_rfl) (fun _ => ?_)
   refine d_ ?_
   exact jS ⟨r_.1, r_.2.1, g1, hm, rfl, eY⟩ (by kernel_rfl)
  ·
   refine bT [] 5 [.u64 0, .u64 0] (by kernel_rfl) k_ ?_
   intro g1 w_ db
   refine ⟨(db.de (.kk .z)), fun _ => ?_⟩
   refine cC (by kernel_rfl) rfl ?_
   obtain ⟨r_, cQ, hm⟩ := ob hm
   refine au [] 18 _ sS (by kernel_rfl) (pI (F := N0) (O := N0) _ _ _ (Cx.refl _) _ cQ) ?_
   rintro e_ k4 ⟨rfl, dE⟩
   have dU := db.call dE
   refine ⟨.gD [.agg [.u64 r_.1, .u64 r_.2.1], .b r_.2.2], rfl, ?_⟩
   refine ⟨(dU.de (.kk .z)), fun _ => ?_⟩
   refine cK 2 2 [] (.n 7 (.gD [.agg [.u64 r_.1, .u64 r_.2.1], .b r_.2.2]) (.n 19 (.agg [.u64 r_.1, .u64 r_.2.1]) (.s (.k (.ss .a))))) (fun x hx => qe) (by kernel_rfl) (fun _ => ?_)
   refine cK 1 3 [] (.n 20 (.b r_.2.2) (.s .a)) (fun x hx => qe) (by kernel_rfl) (fun _ => ?_)
   refine cC (by kernel_rfl) rfl <| en [] 2 (.agg [.u64 r_.1, .u64 r_.2.1]) [.u64 r_.1, .u64 r_.2.1] (Pt.at g1 0) dU rfl .all (by kernel_rfl) (by kernel_rfl) ?_
   intro l6 eY
   refine ⟨(eY.de (.kk .z)), fun _ => ?_⟩
   refine cK 1 3 [] (.ss .a) (fun x hx => qe) (by kernel_rfl) (fun _ => ?_)
   refine d_ ?_
   exact jS ⟨r_.1, r_.2.1, g1, hm, rfl, eY⟩ (by kernel_rfl)
 rintro L_ qj ⟨c0, c2, g, hm, rfl, fU⟩
 simp only [kZ] at hm
 refine aa <| ab ?_
 have g_ := fU.drew 1
 refine qO bK (.q 21 1 (.q 22 1 (.q 0 3 (.q 1 3 (.q 2 2 (.q 3 2 (.q 4 3 (.q 5 3 (.q 6 2 (.q 7 1 (.q 8 3 (.q 9 3 (.q 10 2 (.q 11 1 (.q 12 3 (.q 13 3 (.q 14 2 (.q 15 1 (.q 16 3 (.q 17 3 (.q 18 2 (.q 19 1 (.op 20 (.op 23 (.op 24 (.q 25 3 .nil)))))))))))))))))))))))))) [20, 23, 24] g_ (.c (.kk (.k .e)) (.c (.kk (.k .e)) (.c (.kk (.k .e)) .l))) (by kernel_rfl) (fun _ => ?_)
 refine cK 2 1 [] (.n 42 (.agg [.u64 c0, .u64 c2]) (.n 43 (.b node) (.k .z))) (fun x hx => qT hx 2 rfl 0 2 [.u64 c0, .u64 c2] (by kernel_rfl) (by decide) <| qe) (by kernel_rfl) (fun _ => ?_)
 refine cK 2 3 [] (.n 22 (pt aY 0) .a) (fun x hx => qs aY 0 <| qe) (by kernel_rfl) (fun _ => ?_)
 refine cK 2 2 [] (.n 24 (.v (.func (.func 136) ⟨SV.ad []⟩ ⟨SV.ad []⟩)) (.s .a)) (fun x hx => qs aY 0 <| qB hx 0 rfl 13 (.v (.func (.func 136) ⟨SV.ad []⟩ ⟨SV.ad []⟩)) (by kernel_rfl) <| qe) (by kernel_rfl) (fun _ => ?_)
 refine cK 2 3 [] (.n 26 (pt aY 0) .a) (fun x hx => qs aY 0 <| qe) (by kernel_rfl) (fun _ => ?_)
 refine cK 1 2 [] (.n 27 (pt aY 12) (.s .a)) (fun x hx => qs aY 0 <| qe) (by kernel_rfl) (fun _ => ?_)
 refine cK 1 1 [] (.n 28 (.v (.func (.func 135) ⟨SV.ad []⟩ ⟨SV.ad []⟩)) (.s .a)) (fun x hx => qB hx 0 rfl 12 (.v (.func (.func 135) ⟨SV.ad []⟩ ⟨SV.ad []⟩)) (by kernel_rfl) <| qe) (by kernel_rfl) (fun _ => ?_)
 refine cK 2 3 [] (.n 30 (pt aY 0) .a) (fun x hx => qs aY 0 <| qe) (by kernel_rfl) (fun _ => ?_)
 refine cK 1 2 [] (.n 31 (pt aY 0) (.s .a)) (fun x hx => qs aY 0 <| qe) (by kernel_rfl) (fun _ => ?_)
 refine cK 1 1 [] (.n 32 (.agg [.ar dt ra]) (.s .a)) (fun x hx => qT hx 0 rfl 0 8 [.ar dt ra] (by kernel_rfl) (by decide) <| qe) (by kernel_rfl) (fun _ => ?_)
 refine cK 2 3 [] (.n 34 (pt aY 0) .a) (fun x hx => qs aY 0 <| qe) (by kernel_rfl) (fun _ => ?_)
 refine cK 1 2 [] (.n 35 (pt aY 10) (.s .a)) (fun x hx => qs aY 0 <| qe) (by kernel_rfl) (fun _ => ?_)
 refine cK 1 1 [] (.n 36 (sl dG cA.length dH) (.s .a)) (fun x hx => qB hx 0 rfl 10 (sl dG cA.length dH) (by kernel_rfl) <| qe) (by kernel_rfl) (fun _ => ?_)
 refine cK 2 3 [] (.n 38 (pt aY 0) (.bX (.kk .z))) (fun x hx => qs aY 0 <| qe) (by kernel_rfl) (fun _ => ?_)
 refine cK 1 2 [] (.n 39 (pt aY 11) (.s .a)) (fun x hx => qs aY 0 <| qe) (by kernel_rfl) (fun _ => ?_)
 refine cK 1 1 [] (.n 40 (I aA) (.s .a)) (fun x hx => qB hx 0 rfl 11 (I aA) (by kernel_rfl) <| qe) (by kernel_rfl) (fun _ => ?_)
 refine cC (by kernel_rfl) rfl ?_
 obtain ⟨ah, dd, hm⟩ := ob hm
 refine au [] 41 _ xA (by kernel_rfl) (pR (F := N0) (O := N0) _ _ _ _ _ (Ro.n0 (g_.rd 1 rfl)) (g_.len 1 rfl) (g_.Ap 1 rfl) (Cx.refl _) _ dd) ?_
 rintro e_ qk ⟨A0, _, c3, rfl, rfl, gC⟩
 have gP := g_.call gC
 refine ⟨sl A0 ah.length c3, rfl, ?_⟩
 refine ⟨(gP.de (.kk (.k .z))), fun _ => ?_⟩
 refine cC (by kernel_rfl) rfl ?_
 obtain ⟨aX, hK, hm⟩ := ob hm
 refine lU [] 44 [] [.agg [.ar dt ra], sl A0 ah.length c3, .agg [.u64 c0, .u64 c2], .b true, .b node] [] C4 (by kernel_rfl) (t_ (F := N0) (O := N0) _ _ _ _ _ _ _ _ _ (Ro.n0 (gP.rd 3 rfl)) (gP.len 3 rfl) (gP.Ap 3 rfl) (Cx.refl _) _ hK) ?_
 rintro e_ rX ⟨rfl, gB⟩
 have dO := gP.call gB
 refine ⟨.agg [.ar dt aX], rfl, ?_⟩
 have cV := dO.de (.kk (.k .z))
 refine ⟨cV, fun _ => ?_⟩
 refine cC (by kernel_rfl) rfl ?_
 obtain ⟨eK, nX, hm⟩ := ob hm
 refine lU [] 45 [] [.agg [.ar dt aX]] [] HC (by kernel_rfl) (Ct (F := N0) (O := N0) _ (Cx.refl _) _ nX) ?_
 rintro e_ wQ ⟨A2, _, c4, rfl, rfl, ff⟩
 have gI := cV.call ff
 refine ⟨sl A2 eK.length c4, rfl, ?_⟩
 refine ⟨(gI.de (.kk (.k .z))), fun _ => ?_⟩
 refine cK 1 3 [] (.n 4 (sl A2 eK.length c4) .z) (fun x hx => qe) (by kernel_rfl) (fun _ => ?_)
 refine d_ <| aa <| aQ ?_
 obtain rfl := Option.some.inj hm
 refine aR [sl A2 eK.length c4] qe (by kernel_rfl) ?_
 have ez := (((gI.pk (.t .h)).pk (.t .h)).pk (.t (.t (.t .h)))).de (.kk (.k .z))
 exact ⟨A2, eK.length, c4, dG, cA.length, dH, ez.len 0 rfl, ez.len 2 rfl, rfl, ez⟩
theorem wX {F O : Nat → Prop} {w : World} (fJ : Int) (eD : Int) (cw : List UInt8) (dK : List UInt8) (jl : Bool) (ep : UInt64) (mD : ae UInt32 8) (dk : UInt64) (dm : UInt64) (fV : List UInt8) (fF : Int) (hD : Int) (jq : Nat) (fj : Option Addr) (iC : Nat) (fk : Nat) (gz : Option Addr) (lC : Nat) (gA : Nat) (i_ : Nat) (h_ : Option Addr) (ja : Nat) (ia : Nat) (k : Cx F O w w [Bx 145 jq [I fJ, I eD, sl fj iC fk, sl gz lC gA, .b jl, .u64 ep, .v (.iface 204 (SV.val (pt i_ 0)))], Ow e8 fj iC fk cw, Ow e8 gz lC gA dK, Bx 208 i_ [.ar dt mD, .u64 dk, .u64 dm, sl h_ ja ia, I fF, .v (.func (.func 135) ⟨SV.ad []⟩ ⟨SV.ad []⟩), .v (.func (.func 136) ⟨SV.ad []⟩ ⟨SV.ad []⟩)], Ow e8 h_ ja ia fV]) (r : (List UInt8 × Int × ae UInt32 8 × UInt64 × UInt64 × List UInt8 × Int × Int × Int × List UInt8 × List UInt8 × Bool × UInt64)) (hm : oD fJ eD cw dK jl ep mD dk dm fV fF hD = some r) :
    Calls Tryz.prog 91 (ad [pt jq 0, I hD]) w (fun e w' => ∃ A n c A1 n1 c1 A2 n2 c2 A3 n3 c3, r.1.length = n ∧ r.2.2.2.2.2.1.length = n1 ∧ r.2.2.2.2.2.2.2.2.2.1.length = n2 ∧ r.2.2.2.2.2.2.2.2.2.2.1.length = n3 ∧ e = .returned (SV.val (.gD [sl A n c, I r.2.1])) ∧ Cx F O w w' [Ow e8 A n c r.1, Bx 208 i_ [.ar dt r.2.2.1, .u64 r.2.2.2.1, .u64 r.2.2.2.2.1, sl A1 n1 c1, I r.2.2.2.2.2.2.1, .v (.func (.func 135) ⟨SV.ad []⟩ ⟨SV.ad []⟩), .v (.func (.func 136) ⟨SV.ad []⟩ ⟨SV.ad []⟩)], Ow e8 A1 n1 c1 r.2.2.2.2.2.1, Bx 145 jq [I r.2.2.2.2.2.2.2.1, I r.2.2.2.2.2.2.2.2.1, sl A2 n2 c2, sl A3 n3 c3, .b r.2.2.2.2.2.2.2.2.2.2.2.1, .u64 r.2.2.2.2.2.2.2.2.2.2.2.2, .v (.iface 204 (SV.val (pt i_ 0)))], Ow e8 A2 n2 c2 r.2.2.2.2.2.2.2.2.2.1, Ow e8 A3 n3 c3 r.2.2.2.2.2.2.2.2.2.2.1]) := by
 unfold oD at hm
 obtain rfl := k.len 1 rfl
 obtain rfl := k.len 2 rfl
 obtain rfl := k.len 4 rfl
 refine calls [pt jq 0, I hD] Tryz.func91 rfl (of_decide_eq_true (by kernel_rfl)) ?_
 refine ab <| bO [] .a qe (by kernel_rfl) ?_
 refine aa <| ab <| ab <| an <| ba 1 [] (.n 6 (pt jq 0) .a) qe (by kernel_rfl) ?_
 refine ag ?_
 obtain ⟨r_, cQ, hm⟩ := ob hm
 obtain ⟨F1, O1, lQ, hO, rp, hF, hb⟩ := k.go (.i (.i (.i (.i (.i .e)))))
 refine au [] 7 _ B2 (by kernel_rfl) (vX (F := F1) (O := O1) _ _ _ _ _ _ _ _ _ _ _ _ _ _ _ _ _ _ _ _ _ _ lQ _ cQ) ?_
 rintro e_ w_ ⟨A0, _, c0, A4, _, c4, A5, _, c5, rfl, rfl, rfl, rfl, k_⟩
 have db := hb w_ _ _ k_ (.c (.c (.c (.c (.c .n)))))
 refine ⟨.b false, rfl, ?_⟩
 refine af <| aa <| cm false (by kernel_rfl) (fun h => by cases h) (fun _ => ?_)
 refine bc <| aa <| ab <| ab <| an <| ba 3 [] (.n 10 (.b (decide (hD < 1))) (.ss .a)) qe (by kernel_rfl) ?_
 refine lj 10 (decide (hD < 1)) (.s .a) (by kernel_rfl) (fun hg => ?_) (fun hg => ?_)
 · rw [if_pos (of_decide_eq_true hg)] at hm
   refine ba 9 [10] (.n 19 (.b true) (.s .a)) qe (by kernel_rfl) ?_
   refine af <| aa <| cm true (by kernel_rfl) (fun _ => ?_) (fun h => by cases h)
   refine ab <| bO [] (.n 4 (sl none 0 0) (.n 5 (I 1) .z)) qe (by kernel_rfl) ?_
   refine aa <| aQ (cJ ?_)
   have dE := db.nil e8
   obtain rfl := Option.some.inj hm
   refine aR [sl none 0 0, I 1] qe (by kernel_rfl) ?_
   have dU := (((((dE.pk (.t (.t (.t (.t .h))))).pk (.t (.t (.t (.t .h))))).pk (.t (.t (.t (.t .h))))).pk (.t (.t (.t (.t .h))))).pk (.t (.t (.t (.t .h))))).pk (.t (.t (.t (.t (.t .h)))))
   exact ⟨none, 0, 0, A0, r_.2.2.2.1.length, c0, A4, r_.2.2.2.2.2.2.2.1.length, c4, A5, r_.2.2.2.2.2.2.2.2.1.length, c5, dU.len 0 rfl, dU.len 2 rfl, dU.len 4 rfl, dU.len 5 rfl, rfl, dU⟩
 · rw [if_neg (of_decide_eq_false hg)] at hm
   refine ba 5 [10] (.n 11 (I hD) (.n 15 (I r_.2.2.2.2.2.1) .a)) (qs jq 0 <| qs jq 0 <| qB db 2 rfl 0 (I r_.2.2.2.2.2.1) (by kernel_rfl) <| qe) (by kernel_rfl) ?_
   refine ag ?_
   obtain ⟨ah, dd, hm⟩ := ob hm
   refine au [10] 16 _ xz (by kernel_rfl) (o8 (F := N0) (O := N0) _ (Cx.refl _) _ dd) ?_
   rintro e_ k4 ⟨rfl, eY⟩
   have fU := db.call eY
   refine ⟨I ah, rfl, ?_⟩
   refine ba 3 [10] (.n 19 (.b (decide ((aD (Int.tdiv ah 2)) < hD))) (.jn .a)) (qp ((2 : Int) ≠ (0 : Int)) (by omega) <| qe) (by kernel_rfl) ?_
   refine af <| aa <| bu ((aD (Int.tdiv ah 2)) < hD) (by kernel_rfl) (fun hc => ?_) (fun hc => ?_)
   · rw [if_pos hc] at hm
     refine ab <| bO [] (.n 4 (sl none 0 0) (.n 5 (I 1) .z)) qe (by kernel_rfl) ?_
     refine aa <| aQ (cJ ?_)
     have g_ := fU.nil e8
     obtain rfl := Option.some.inj hm
     refine aR [sl none 0 0, I 1] qe (by kernel_rfl) ?_
     have gC := (((((g_.pk (.t (.t (.t (.t .h))))).pk (.t (.t (.t (.t .h))))).pk (.t (.t (.t (.t .h))))).pk (.t (.t (.t (.t .h))))).pk (.t (.t (.t (.t .h))))).pk (.t (.t (.t (.t (.t .h)))))
     exact ⟨none, 0, 0, A0, r_.2.2.2.1.length, c0, A4, r_.2.2.2.2.2.2.2.1.length, c4, A5, r_.2.2.2.2.2.2.2.2.1.length, c5, gC.len 0 rfl, gC.len 2 rfl, gC.len 4 rfl, gC.len 5 rfl, rfl, gC⟩
   rw [if_neg hc] at hm
   refine bc <| aa <| ab ?_
   have gP := fU.drew 1
   refine qO bK (.q 0 1 (.q 1 1 (.q 2 1 (.q 3 0 (.q 8 0 (.q 9 0 (.q 4 1 (.q 5 1 (.q 6 0 (.q 7 0 (.q 11 1 (.q 12 1 (.op 10 (.q 13 1 (.q 14 1 (.q 15 1 .nil)))))))))))))))) [10] gP (.c (.ss (.kk (.k .e))) .l) (by kernel_rfl) (fun _ => ?_)
   refine cK 3 1 [] (.n 22 (pt jq 6) (.s .a)) (fun x hx => qs jq 0 <| qs jq 0 <| qe) (by kernel_rfl) (fun _ => ?_)
   refine cK 3 0 [] (.n 29 (.v (.iface 204 (SV.val (pt i_ 0)))) (.s .a)) (fun x hx => qB hx 2 rfl 6 (.v (.iface 204 (SV.val (pt i_ 0)))) (by kernel_rfl) <| qe) (by kernel_rfl) (fun _ => ?_)
   refine cK 2 1 [] (.n 25 (pt jq 0) (.k (.s .a))) (fun x hx => qs jq 0 <| qe) (by kernel_rfl) (fun _ => ?_)
   refine cK 2 0 [] (.n 27 (.b r_.2.2.2.2.2.2.2.2.2.1) (.s .a)) (fun x hx => qs jq 0 <| qB hx 2 rfl 4 (.b r_.2.2.2.2.2.2.2.2.2.1) (by kernel_rfl) <| qe) (by kernel_rfl) (fun _ => ?_)
   refine cK 2 1 [] (.n 31 (I hD) (.n 32 (I hD) (.kk .z))) (fun x hx => qe) (by kernel_rfl) (fun _ => ?_)
   refine cC (by kernel_rfl) rfl ?_
   obtain ⟨aX, hK, hm⟩ := ob hm
   obtain ⟨xI, xJ, nF, Fi, tF, si, xK⟩ := gP.go (.i (.i (.r (.r (.r .e)))))
   refine pD [] 30 204 (pt i_ 0) [.b r_.2.2.2.2.2.2.2.2.2.1] wP rfl (by kernel_rfl) (tH (F := xI) (O := xJ) _ _ _ _ _ _ _ _ _ _ nF _ hK) ?_
   rintro e_ l6 ⟨A6, _, c6, A7, _, c7, rfl, rfl, rfl, gB⟩
   have dO := xK l6 _ _ gB (.c (.c (.c .n)))
   refine ⟨sl A6 aX.1.length c6, rfl, ?_⟩
   refine ⟨(dO.de (.ss (.s (.kk (.k .e))))), fun _ => ?_⟩
   obtain ⟨b, qH, hm⟩ := ob hm
   have hs := iB qH
   have hl := lh qH
   have hn : aX.1.length = aX.1.length := (dO.len 0 rfl)
   have k5 : aX.1.length ≤ c6 := (dO.Ap 0 rfl)
   obtain ⟨u, wT, hm⟩ := ob hm
   have hq := fI wT
   have rN : b.length ≤ Int.toNat hD := by omega
   refine cK 3 1 [] (.n 4 (sl A6 b.length (Int.toNat hD)) (.n 5 (I 0) .z)) (fun x hx => qp (0 ≤ hD ∧ hD ≤ ((c6 : Nat) : Int)) (by omega) <| qp (0 ≤ hD ∧ hD ≤ ((Int.toNat hD : Nat) : Int)) (by omega) <| qo (.v (.slice A6 b.length (Int.toNat hD))) <| qp (Value.slice (sD A6 0 (Int.toNat hD) 1) (Int.toNat hD - 0) (Int.toNat hD - 0) = .slice A6 b.length (Int.toNat hD)) (uA _ _ _ _ _ (by omega)) <| qe) (by kernel_rfl) (fun _ => ?_)
   refine d_ <| aa <| aQ ?_
   have cV := dO.pre 0 rfl b.length (Int.toNat hD) b (by omega) (by omega) (by omega) (y1 qH rfl)
   obtain rfl := Option.some.inj hm
   refine aR [sl A6 b.length (Int.toNat hD), I 0] qe (by kernel_rfl) ?_
   exact ⟨A6, b.length, Int.toNat hD, A7, aX.2.2.2.2.1.length, c7, A4, r_.2.2.2.2.2.2.2.1.length, c4, A5, r_.2.2.2.2.2.2.2.2.1.length, c5, cV.len 0 rfl, cV.len 2 rfl, cV.len 4 rfl, cV.len 5 rfl, rfl, cV⟩
theorem Dl {F O : Nat → Prop} {w : World} (k_ : Int) (bb : Int) (dy : Int) (bm : Int) (bM : Int) (cY : UInt32) (aV : UInt64) (ca : UInt32) (az : Int) (bE : Int) (bW : List UInt8) (ay : List UInt8) (key : List UInt8) (last : Bool) (out : Int) (data : List UInt8) (cD : Option Addr) (iX : Nat) (cE : Nat) (a6 : Option Addr) (ey : Nat) (a7 : Nat) (kW : Option Addr) (dK : Nat) (kX : Nat) (wY : Nat) (Em : Nat) (wZ : Nat) (o7 : Ro F w cD (e8.all bW)) (nD : bW.length = iX) (oN : iX ≤ cE) (kj : Ro F w a6 (e8.all ay)) (jE : ay.length = ey) (kv : ey ≤ a7) (u5 : Ro F w kW (e8.all key)) (rM : key.length = dK) (su : dK ≤ kX) (H6 : Ro F w (some ⟨wY, 0, none⟩) (e8.all data)) (JT : data.length = Em) (Fj : Em ≤ wZ) (k : Cx F O w w []) (r : (List UInt8 × Int)) (hm : oJ k_ bb dy bm bM cY aV ca az bE bW ay key last out data = some r) :
    Calls Tryz.prog 92 (ad [I k_, .agg [I bb, I dy, I bm, I bM, .u32 cY, .u64 aV, .u32 ca, I az, I bE, sl cD iX cE, sl a6 ey a7], sl kW dK kX, .b last, I out, sl (some ⟨wY, 0, none⟩) Em wZ]) w (fun e w' => ∃ A n c, r.1.length = n ∧ e = .returned (SV.val (.gD [sl A n c, I r.2])) ∧ Cx F O w w' [Ow e8 A n c r.1]) := by
 unfold oJ at hm
 subst nD
 subst jE
 subst rM
 subst JT
 refine calls [I k_, .agg [I bb, I dy, I bm, I bM, .u32 cY, .u64 aV, .u32 ca, I az, I bE, sl cD bW.length cE, sl a6 ay.length a7], sl kW key.length kX, .b last, I out, sl (some ⟨wY, 0, none⟩) data.length wZ] Tryz.func92 rfl (of_decide_eq_true (by kernel_rfl)) ?_
 refine ab <| an <| ag <| gF [] 7 (.agg [I bb, I dy, I bm, I bM, .u32 cY, .u64 aV, .u32 ca, I az, I bE, sl cD bW.length cE, sl a6 ay.length a7]) [I bb, I dy, I bm, I bM, .u32 cY, .u64 aV, .u32 ca, I az, I bE, sl cD bW.length cE, sl a6 ay.length a7] (by kernel_rfl) k ?_
 intro g w_ db
 refine ba 2 [] (.kk (.s .a)) qe (by kernel_rfl) ?_
 refine af <| aa <| ab <| an <| ba 3 [] (.n 17 (I k_) (.n 18 (.agg [I bb, I dy, I bm, I bM, .u32 cY, .u64 aV, .u32 ca, I az, I bE, sl cD bW.length cE, sl a6 ay.length a7]) (.n 19 (sl kW key.length kX) (.oQ .a)))) (qT db 0 rfl 0 11 [I bb, I dy, I bm, I bM, .u32 cY, .u64 aV, .u32 ca, I az, I bE, sl cD bW.length cE, sl a6 ay.length a7] (by kernel_rfl) (by decide) <| qe) (by kernel_rfl) ?_
 refine ag ?_
 obtain ⟨r_, cQ, hm⟩ := ob hm
 refine au [] 20 _ E9 (by kernel_rfl) (zU (F := N0) (O := N0) _ _ _ _ _ _ _ _ _ _ _ _ _ _ _ _ _ _ _ _ _ _ (Ro.n0 (o7.cx db)) rfl oN (Ro.n0 (kj.cx db)) rfl kv (Ro.n0 (u5.cx db)) rfl su (Cx.refl _) _ cQ) ?_
 rcases r_ with ah | aX | eK
 · simp only [Sum.elim_inl, Sum.elim_inr] at hm
   rintro e_ k4 ⟨rfl, dE⟩
   have dU := db.call dE
   refine ⟨.gD [.v (.pointer none), I ah], rfl, ?_⟩
   have eY := dU.de .z
   refine ba 5 [] (.n 14 (.v (.pointer none)) (.n 15 (I ah) (.jn .a))) qe (by kernel_rfl) ?_
   refine af <| aa <| ab <| ab <| bO [] (.n 24 (.b (decide (ah ≠ 0))) .a) qe (by kernel_rfl) ?_
   refine aa <| bu (ah ≠ 0) (by kernel_rfl) (fun hc => ?_) (fun hc => ?_)
   · rw [if_pos hc] at hm
     refine ab <| bO [] (.n 12 (sl none 0 0) (.n 13 (I ah) .z)) qe (by kernel_rfl) ?_
     refine aa <| aQ (cJ ?_)
     have fU := eY.nil e8
     obtain rfl := Option.some.inj hm
     refine aR [sl none 0 0, I ah] qe (by kernel_rfl) ?_
     exact ⟨none, 0, 0, fU.len 0 rfl, rfl, fU⟩
   rw [if_neg hc] at hm
   cases hm
 · simp only [Sum.elim_inl, Sum.elim_inr] at hm
   rintro e_ l6 ⟨g1, A0, _, c0, A1, _, c1, g2, A2, _, c2, rfl, rfl, rfl, rfl, g_⟩
   have gC := db.call g_
   refine ⟨.gD [pt g1 0, I 0], rfl, ?_⟩
   have gP := gC.de (.s (.bX (.k .e)))
   refine ba 5 [] (.n 14 (pt g1 0) (.n 15 (I 0) (.jn .a))) qe (by kernel_rfl) ?_
   refine af <| aa <| ab <| ab <| bO [] (.n 24 (.b (decide (0 ≠ 0))) .a) qe (by kernel_rfl) ?_
   refine aa <| bu (0 ≠ 0) (by kernel_rfl) (fun DZ => ?_) (fun DZ => ?_)
   · rw [if_pos DZ] at hm
     refine ab <| bO [] (.n 12 (sl none 0 0) (.n 13 (I 0) .z)) qe (by kernel_rfl) ?_
     refine aa <| aQ (cJ ?_)
     have gB := gP.nil e8
     obtain rfl := Option.some.inj hm
     refine aR [sl none 0 0, I 0] qe (by kernel_rfl) ?_
     have dO := gB.de (.jn (.s (.k .e)))
     exact ⟨none, 0, 0, dO.len 0 rfl, rfl, dO⟩
   rw [if_neg DZ] at hm
   refine bc <| aa <| ab <| an <| ba 4 [] (.n 27 (.b last) (.n 29 (pt g1 4) (.s (.k (.ss .a))))) (qs g1 0 <| qs g1 0 <| qe) (by kernel_rfl) ?_
   refine ag <| en [] 0 (.b last) [.b last] (Pt.at g1 4) gP rfl (.bX .h) (by kernel_rfl) (by kernel_rfl) ?_
   intro qj cV
   refine af <| aa <| ab <| an <| ba 5 [] (.n 33 (.v (.iface 194 (SV.val (pt g2 0)))) (.n 34 (sl (some ⟨wY, 0, none⟩) data.length wZ) (.ss (.kk .z)))) (qs g1 0 <| qs g1 0 <| qB cV 0 rfl 6 (.v (.iface 194 (SV.val (pt g2 0)))) (by kernel_rfl) <| qe) (by kernel_rfl) ?_
   refine ag ?_
   obtain ⟨gl, sT, hm⟩ := ob hm
   obtain ⟨F1, O1, lQ, hO, rp, hF, hb⟩ := cV.go (.r (.r (.r (.i (.i .e)))))
   refine pD [] 35 194 (pt g2 0) [sl (some ⟨wY, 0, none⟩) data.length wZ] qh rfl (by kernel_rfl) (nY (F := F1) (O := O1) _ _ _ _ _ _ _ _ _ _ _ _ _ (Ro.aM H6 cV hF) rfl Fj lQ _ sT) ?_
   rintro e_ qk ⟨A3, _, c3, rfl, rfl, ff⟩
   have gI := hb qk _ _ ff (.c (.c .n))
   refine ⟨.gD [], rfl, ?_⟩
   refine af <| aa <| ab <| an <| ba 2 [] (.n 36 (pt g1 0) (.n 37 (I out) .z)) qe (by kernel_rfl) ?_
   refine ag ?_
   have ez := gI.de (.bX (.k .e))
   obtain ⟨mA, Db, hm⟩ := ob hm
   have jj := ((((ez.pk (.t .h)).pk (.t .h)).pk (.t (.t (.t (.t .h))))).pk (.t (.t (.t (.t .h))))).pk (.t (.t (.t (.t .h))))
   obtain ⟨xI, xJ, nF, Fi, tF, si, xK⟩ := jj.go (.i (.i (.i (.i (.i .e)))))
   refine au [] 38 _ B3 (by kernel_rfl) (ua (F := xI) (O := xJ) _ _ _ _ _ _ _ _ _ _ _ _ _ _ _ _ _ _ _ _ _ _ _ nF _ Db) ?_
   rintro e_ rX ⟨A4, _, c4, A5, _, c5, A6, _, c6, A7, _, c7, rfl, rfl, rfl, rfl, rfl, gQ⟩
   have kV := xK rX _ _ gQ (.c (.c (.c (.c (.c (.c .n))))))
   refine ⟨.gD [sl A4 mA.1.length c4, I mA.2.1], rfl, ?_⟩
   have lz := kV.de (.k .z)
   refine ba 4 [] (.n 12 (sl A4 mA.1.length c4) (.n 13 (I mA.2.1) .z)) qe (by kernel_rfl) ?_
   refine af <| aa <| aQ ?_
   obtain rfl := Option.some.inj hm
   refine aR [sl A4 mA.1.length c4, I mA.2.1] qe (by kernel_rfl) ?_
   exact ⟨A4, mA.1.length, c4, lz.len 0 rfl, rfl, lz⟩
 · simp only [Sum.elim_inl, Sum.elim_inr] at hm
   rintro e_ wQ ⟨g3, A8, _, c8, A9, _, c9, g4, wq, _, sV, rfl, rfl, rfl, rfl, k6⟩
   have lJ := db.call k6
   refine ⟨.gD [pt g3 0, I 0], rfl, ?_⟩
   have my := lJ.de (.s (.bX (.k .e)))
   refine ba 5 [] (.n 14 (pt g3 0) (.n 15 (I 0) (.jn .a))) qe (by kernel_rfl) ?_
   refine af <| aa <| ab <| ab <| bO [] (.n 24 (.b (decide (0 ≠ 0))) .a) qe (by kernel_rfl) ?_
   refine aa <| bu (0 ≠ 0) (by kernel_rfl) (fun k5 => ?_) (fun k5 => ?_)
   · rw [if_pos k5] at hm
     refine ab <| bO [] (.n 12 (sl none 0 0) (.n 13 (I 0) .z)) qe (by kernel_rfl) ?_
     refine aa <| aQ (cJ ?_)
     have nE := my.nil e8
     obtain rfl := Option.some.inj hm
     refine aR [sl none 0 0, I 0] qe (by kernel_rfl) ?_
     have nh := nE.de (.jn (.s (.k .e)))
     exact ⟨none, 0, 0, nh.len 0 rfl, rfl, nh⟩
   rw [if_neg k5] at hm
   refine bc <| aa <| ab <| an <| ba 4 [] (.n 27 (.b last) (.n 29 (pt g3 4) (.s (.k (.ss .a))))) (qs g3 0 <| qs g3 0 <| qe) (by kernel_rfl) ?_
   refine ag <| en [] 0 (.b last) [.b last] (Pt.at g3 4) my rfl (.bX .h) (by kernel_rfl) (by kernel_rfl) ?_
   intro wR mz
   refine af <| aa <| ab <| an <| ba 5 [] (.n 33 (.v (.iface 204 (SV.val (pt g4 0)))) (.n 34 (sl (some ⟨wY, 0, none⟩) data.length wZ) (.ss (.kk .z)))) (qs g3 0 <| qs g3 0 <| qB mz 0 rfl 6 (.v (.iface 204 (SV.val (pt g4 0)))) (by kernel_rfl) <| qe) (by kernel_rfl) ?_
   refine ag ?_
   obtain ⟨nr, Dc, hm⟩ := ob hm
   obtain ⟨PW, PX, LM, Tm, N2, R4, PY⟩ := mz.go (.r (.r (.r (.i (.i .e)))))
   refine pD [] 35 204 (pt g4 0) [sl (some ⟨wY, 0, none⟩) data.length wZ] qi rfl (by kernel_rfl) (nZ (F := PW) (O := PX) _ _ _ _ _ _ _ _ _ _ _ _ _ (Ro.aM H6 mz R4) rfl Fj LM _ Dc) ?_
   rintro e_ Av ⟨yr, _, uf, rfl, rfl, sw⟩
   have re := PY Av _ _ sw (.c (.c .n))
   refine ⟨.gD [], rfl, ?_⟩
   refine af <| aa <| ab <| an <| ba 2 [] (.n 36 (pt g3 0) (.n 37 (I out) .z)) qe (by kernel_rfl) ?_
   refine ag ?_
   have yU := re.de (.bX (.k .e))
   obtain ⟨nV, Di, hm⟩ := ob hm
   have u7 := ((((yU.pk (.t .h)).pk (.t .h)).pk (.t (.t (.t (.t .h))))).pk (.t (.t (.t (.t .h))))).pk (.t (.t (.t (.t .h))))
   obtain ⟨F6, F7, ug, Nc, zY, vV, CP⟩ := u7.go (.i (.i (.i (.i (.i .e)))))
   refine au [] 38 _ B3 (by kernel_rfl) (wX (F := F6) (O := F7) _ _ _ _ _ _ _ _ _ _ _ _ _ _ _ _ _ _ _ _ _ _ _ ug _ Di) ?_
   rintro e_ DE ⟨Cn, _, xS, IV, _, Co, Tn, _, O5, To, _, Tp, rfl, rfl, rfl, rfl, rfl, yp⟩
   have yq := CP DE _ _ yp (.c (.c (.c (.c (.c (.c .n))))))
   refine ⟨.gD [sl Cn nV.1.length xS, I nV.2.1], rfl, ?_⟩
   have JU := yq.de (.k .z)
   refine ba 4 [] (.n 12 (sl Cn nV.1.length xS) (.n 13 (I nV.2.1) .z)) qe (by kernel_rfl) ?_
   refine af <| aa <| aQ ?_
   obtain rfl := Option.some.inj hm
   refine aR [sl Cn nV.1.length xS, I nV.2.1] qe (by kernel_rfl) ?_
   exact ⟨Cn, nV.1.length, xS, JU.len 0 rfl, rfl, JU⟩
theorem qU {F O : Nat → Prop} {w : World} (dw : List UInt8) (bP : List UInt8) (root : List UInt8) (i : UInt64) (ir : Option Addr) (nS : Nat) (iu : Nat) (cT : Option Addr) (hZ : Nat) (cU : Nat) (z1 : Nat) (Eo : Nat) (z6 : Nat) (u6 : Ro F w ir (e8.all dw)) (tE : dw.length = nS) (sf : nS ≤ iu) (nf : Ro F w cT (e8.all bP)) (ng : bP.length = hZ) (l7 : hZ ≤ cU) (LO : Ro F w (some ⟨z1, 0, none⟩) (e8.all root)) (JV : root.length = Eo) (JW : Eo ≤ z6) (k : Cx F O w w []) (r : (List UInt8)) (hm : gr dw bP root i = some r) :
    Calls Tryz.prog 70 (ad [.agg [I 1, I 64, .u32 4294967295, .u64 274877906944, .b false], sl ir nS iu, sl cT hZ cU, sl (some ⟨z1, 0, none⟩) Eo z6, .u64 i]) w (fun e w' => ∃ A n c, r.length = n ∧ e = .returned (SV.val (sl A n c)) ∧ Cx F O w w' [Ow e8 A n c r]) := by
 unfold gr at hm
 subst tE
 subst ng
 subst JV
 refine calls [.agg [I 1, I 64, .u32 4294967295, .u64 274877906944, .b false], sl ir dw.length iu, sl cT bP.length cU, sl (some ⟨z1, 0, none⟩) root.length z6, .u64 i] Tryz.func70 rfl (of_decide_eq_true (by kernel_rfl)) ?_
 refine ab <| an <| ag <| gF [] 5 (.agg [I 1, I 64, .u32 4294967295, .u64 274877906944, .b false]) [I 1, I 64, .u32 4294967295, .u64 274877906944, .b false] (by kernel_rfl) k ?_
 intro g w_ k_
 refine ba 1 [] (.k (.s .a)) qe (by kernel_rfl) ?_
 refine af <| aa <| ab <| an <| ba 13 [] (.n 27 (.agg [I 64, I 0, I 0, I 0, .u32 64, .u64 i, .u32 4294967295, I 0, I 64, sl ir dw.length iu, sl cT bP.length cU]) (.k (.ss .a))) (qs g 0 <| qB k_ 0 rfl 1 (I 64) (by kernel_rfl) <| qs g 0 <| qB k_ 0 rfl 1 (I 64) (by kernel_rfl) <| qs g 0 <| qB k_ 0 rfl 2 (.u32 4294967295) (by kernel_rfl) <| qs g 0 <| qB k_ 0 rfl 1 (I 64) (by kernel_rfl) <| qe) (by kernel_rfl) ?_
 refine ag <| bT [] 11 [I 0, I 0, I 0, I 0, .u32 0, .u64 0, .u32 0, I 0, I 0, sl none 0 0, sl none 0 0] (by kernel_rfl) k_ ?_
 intro g1 k4 db
 refine ag <| en [] 1 (.agg [I 64, I 0, I 0, I 0, .u32 64, .u64 i, .u32 4294967295, I 0, I 64, sl ir dw.length iu, sl cT bP.length cU]) [I 64, I 0, I 0, I 0, .u32 64, .u64 i, .u32 4294967295, I 0, I 64, sl ir dw.length iu, sl cT bP.length cU] (Pt.at g1 0) db rfl .all (by kernel_rfl) (by kernel_rfl) ?_
 intro l6 dE
 refine af <| aa <| l4 (fun L wr => ∃ (p : Int), iR dw bP root i p = some r ∧ L = [(3, sl (some ⟨z1, 0, none⟩) root.length z6), (5, pt g 0), (11, pt g1 0)] ∧ Cx F O w wr [Bx 78 g [I 1, I 64, .u32 4294967295, .u64 274877906944, .b false], Bx 117 g1 [I p, I 0, I 0, I 0, .u32 64, .u64 i, .u32 4294967295, I 0, I 64, sl ir dw.length iu, sl cT bP.length cU]]) ?_ ?_
 ·
  refine ab <| bO [] (.n 12 (.u64 ((274877906944 : UInt64) - (i * 64))) (.k (.s (.kk .z)))) (qs g 0 <| qB dE 0 rfl 3 (.u64 274877906944) (by kernel_rfl) <| qs g 0 <| qB dE 0 rfl 1 (I 64) (by kernel_rfl) <| qe) (by kernel_rfl) ?_
  refine aa <| ab <| bO [] (.n 40 (.b (decide (((274877906944 : UInt64) - (i * 64)) < 64))) .a) (qs g 0 <| qB dE 0 rfl 1 (I 64) (by kernel_rfl) <| qe) (by kernel_rfl) ?_
  refine aa <| bu (((274877906944 : UInt64) - (i * 64)) < 64) (by kernel_rfl) (fun hc => ?_) (fun hc => ?_)
  · rw [if_pos hc] at hm
    refine an <| ba 3 [] (.n 42 (I (aD ((274877906944 : UInt64) - (i * 64)).toNat)) (.n 43 (pt g1 0) (.ss .a))) (qs g1 0 <| qe) (by kernel_rfl) ?_
    refine ag <| en [] 1 (I (aD ((274877906944 : UInt64) - (i * 64)).toNat)) [I (aD ((274877906944 : UInt64) - (i * 64)).toNat)] (Pt.at g1 0) dE rfl .h (by kernel_rfl) (by kernel_rfl) ?_
    intro qj dU
    refine af ?_
    exact jS ⟨aD ((274877906944 : UInt64) - (i * 64)).toNat, hm, rfl, dU⟩ (by kernel_rfl)
  rw [if_neg hc] at hm
  refine bc ?_
  exact jS ⟨(64 : Int), hm, rfl, dE⟩ (by kernel_rfl)
 rintro L_ qk ⟨p, hm, rfl, eY⟩
 simp only [iR] at hm
 refine ab <| an <| ba 6 [] (.n 46 (I 1) (.n 47 (.agg [I p, I 0, I 0, I 0, .u32 64, .u64 i, .u32 4294967295, I 0, I 64, sl ir dw.length iu, sl cT bP.length cU]) (.n 49 (I p) (.n 50 (sl (some ⟨z1, 0, none⟩) root.length z6) .z)))) (qs g 0 <| qB eY 0 rfl 0 (I 1) (by kernel_rfl) <| qT eY 1 rfl 0 11 [I p, I 0, I 0, I 0, .u32 64, .u64 i, .u32 4294967295, I 0, I 64, sl ir dw.length iu, sl cT bP.length cU] (by kernel_rfl) (by decide) <| qs g1 0 <| qB eY 1 rfl 0 (I p) (by kernel_rfl) <| qe) (by kernel_rfl) ?_
 refine ag ?_
 obtain ⟨r_, cQ, hm⟩ := ob hm
 refine au [] 51 _ JL (by kernel_rfl) (Dl (F := N0) (O := N0) _ _ _ _ _ _ _ _ _ _ _ _ _ _ _ _ _ _ _ _ _ _ _ _ _ _ _ _ (Ro.n0 (u6.cx eY)) rfl sf (Ro.n0 (nf.cx eY)) rfl l7 (Ro.Jk e8) rfl (Nat.le_refl 0) (Ro.n0 (LO.cx eY)) rfl JW (Cx.refl _) _ cQ) ?_
 rintro e_ rX ⟨A0, _, c0, rfl, rfl, fU⟩
 have g_ := eY.call fU
 refine ⟨.gD [sl A0 r_.1.length c0, I r_.2], rfl, ?_⟩
 have gC := g_.de (.ss (.k .e))
 refine ba 5 [] (.n 13 (sl A0 r_.1.length c0) .z) qe (by kernel_rfl) ?_
 refine af <| aa <| ab <| bO [] (.n 10 (sl A0 r_.1.length c0) .z) qe (by kernel_rfl) ?_
 refine aa <| aQ ?_
 obtain rfl := Option.some.inj hm
 refine aR [sl A0 r_.1.length c0] qe (by kernel_rfl) ?_
 exact ⟨A0, r_.1.length, c0, gC.len 0 rfl, rfl, gC⟩
theorem vY {F O : Nat → Prop} {w : World} (cI : List UInt8) (bk : List UInt8) (al : List UInt8) (cq : Int) (bA : Int) (bN : List UInt8) (cR : List UInt8) (cr : Bool) (bh : UInt64) (dq : ae UInt64 8) (aG : UInt64) (aH : UInt64) (bw : List UInt8) (bj : Int) (jB : UInt64) (fy : ae UInt8 64) (dP : Int) (aY : Nat) (cy : Option Addr) (dF : Nat) (cz : Nat) (bQ : Option Addr) (cF : Nat) (bR : Nat) (aE : Option Addr) (a8 : Nat) (aF : Nat) (eo : Nat) (du : Option Addr) (ei : Nat) (dv : Nat) (eW : Option Addr) (fM : Nat) (eX : Nat) (da : Nat) (cO : Option Addr) (dD : Nat) (cP : Nat) (j0 : Ro F w cy (e8.all cI)) (jP : cI.length = dF) (iD : dF ≤ cz) (hN : Ro F w bQ (e8.all bk)) (iE : bk.length = cF) (gb : cF ≤ bR) (dL : Ro F w aE (e8.all al)) (eG : al.length = a8) (di : a8 ≤ aF) (k : Cx F O w w [Bx 86 aY [I 1, I 64, .u32 4294967295, .u64 274877906944, .b false, sl cy dF cz, sl bQ cF bR, sl aE a8 aF, pt eo 0, sl none 0 0, .u64 jB, .ar e8 fy, I dP, .v (.func (.func 66) ⟨SV.ad [pt aY 0]⟩ ⟨SV.ad []⟩)], Bx 145 eo [I cq, I bA, sl du ei dv, sl eW fM eX, .b cr, .u64 bh, .v (.iface 194 (SV.val (pt da 0)))], Ow e8 du ei dv bN, Ow e8 eW fM eX cR, Bx 200 da [.ar cj dq, .u64 aG, .u64 aH, sl cO dD cP, I bj, .v (.func (.func 132) ⟨SV.ad []⟩ ⟨SV.ad []⟩), .v (.func (.func 133) ⟨SV.ad []⟩ ⟨SV.ad []⟩)], Ow e8 cO dD cP bw]) (r : (List UInt8 × Int × ae UInt64 8 × UInt64 × UInt64 × List UInt8 × Int × Int × Int × List UInt8 × List UInt8 × Bool × UInt64 × List UInt8 × UInt64 × ae UInt8 64 × Int)) (hm : j7 cI bk al cq bA bN cR cr bh dq aG aH bw bj jB fy dP = some r) :
    Calls Tryz.prog 39 (ad [pt aY 0, I 8]) w (fun e w' => ∃ A n c A1 n1 c1 A2 n2 c2 A3 n3 c3 g n4 c4, r.1.length = n ∧ r.2.2.2.2.2.1.length = n1 ∧ r.2.2.2.2.2.2.2.2.2.1.length = n2 ∧ r.2.2.2.2.2.2.2.2.2.2.1.length = n3 ∧ r.2.2.2.2.2.2.2.2.2.2.2.2.2.1.length = n4 ∧ e = .returned (SV.val (.gD [sl A n c, I r.2.1])) ∧ Cx F O w w' [Ow e8 A n c r.1, Bx 200 da [.ar cj r.2.2.1, .u64 r.2.2.2.1, .u64 r.2.2.2.2.1, sl A1 n1 c1, I r.2.2.2.2.2.2.1, .v (.func (.func 132) ⟨SV.ad []⟩ ⟨SV.ad []⟩), .v (.func (.func 133) ⟨SV.ad []⟩ ⟨SV.ad []⟩)], Ow e8 A1 n1 c1 r.2.2.2.2.2.1, Bx 145 eo [I r.2.2.2.2.2.2.2.1, I r.2.2.2.2.2.2.2.2.1, sl A2 n2 c2, sl A3 n3 c3, .b r.2.2.2.2.2.2.2.2.2.2.2.1, .u64 r.2.2.2.2.2.2.2.2.2.2.2.2.1, .v (.iface 194 (SV.val (pt da 0)))], Ow e8 A2 n2 c2 r.2.2.2.2.2.2.2.2.2.1, Ow e8 A3 n3 c3 r.2.2.2.2.2.2.2.2.2.2.1, Bx 86 aY [I 1, I 64, .u32 4294967295, .u64 274877906944, .b false, sl cy dF cz, sl bQ cF bR, sl aE a8 aF, pt eo 0, sl (some ⟨g, 0, none⟩) n4 c4, .u64 r.2.2.2.2.2.2.2.2.2.2.2.2.2.2.1, .ar e8 r.2.2.2.2.2.2.2.2.2.2.2.2.2.2.2.1, I r.2.2.2.2.2.2.2.2.2.2.2.2.2.2.2.2, .v (.func (.func 90) ⟨SV.ad [pt aY 0]⟩ ⟨SV.ad []⟩)], Sh (SH e8) [((some ⟨g, 0, none⟩), n4, c4)] [r.2.2.2.2.2.2.2.2.2.2.2.2.2.1]]) := by
 unfold j7 at hm
 subst jP
 subst iE
 subst eG
 obtain rfl := k.len 2 rfl
 obtain rfl := k.len 3 rfl
 obtain rfl := k.len 5 rfl
 refine calls [pt aY 0, I 8] Tryz.func39 rfl (of_decide_eq_true (by kernel_rfl)) ?_
 refine ab <| bO [] .a qe (by kernel_rfl) ?_
 refine aa <| ab <| ab <| an <| ba 1 [] (.n 11 (pt aY 0) .a) qe (by kernel_rfl) ?_
 refine ag ?_
 obtain ⟨r_, cQ, hm⟩ := ob hm
 obtain ⟨F1, O1, lQ, hO, rp, hF, hb⟩ := k.go (.i (.i (.i (.i (.i (.i .e))))))
 refine au [] 12 _ y6 (by kernel_rfl) (qP (F := F1) (O := O1) _ _ _ _ _ _ _ _ _ _ _ _ _ _ _ _ _ _ _ _ _ _ _ _ _ _ _ _ _ _ _ _ _ _ _ _ _ _ (Ro.aM j0 k hF) rfl iD (Ro.aM hN k hF) rfl gb (Ro.aM dL k hF) rfl di lQ _ cQ) ?_
 rintro e_ w_ ⟨A0, _, c0, A4, _, c5, A5, _, c6, rfl, rfl, rfl, rfl, k_⟩
 have db := hb w_ _ _ k_ (.c (.c (.c (.c (.c (.c .n))))))
 refine ⟨.b false, rfl, ?_⟩
 refine af <| aa <| cm false (by kernel_rfl) (fun h => by cases h) (fun _ => ?_)
 refine bc <| aa <| ab <| ab <| bO [15] (.n 18 (.b false) (.ss .a)) qe (by kernel_rfl) ?_
 refine aa <| cm false (by kernel_rfl) (fun h => by cases h) (fun _ => ?_)
 refine bc <| aa <| ab <| an <| ba 1 [] (.n 19 (pt aY 0) (.s .a)) qe (by kernel_rfl) ?_
 refine ag ?_
 obtain ⟨ah, dd, hm⟩ := ob hm
 have dE := (((((db.pk (.t .h)).pk (.t .h)).pk (.t (.t (.t (.t .h))))).pk (.t (.t (.t (.t .h))))).pk (.t (.t (.t (.t .h))))).pk (.t (.t (.t (.t (.t .h)))))
 obtain ⟨xI, xJ, nF, Fi, tF, si, xK⟩ := dE.go (.i (.i (.i (.i (.i (.i .e))))))
 refine au [] 20 _ Fc (by kernel_rfl) (vW (F := xI) (O := xJ) _ _ _ _ _ _ _ _ _ _ _ _ _ _ _ _ _ _ _ _ _ _ _ _ _ _ _ _ _ _ _ _ _ _ _ _ _ _ (Ro.aM j0 dE si) rfl iD (Ro.aM hN dE si) rfl gb (Ro.aM dL dE si) rfl di nF _ dd) ?_
 rintro e_ k4 ⟨A6, _, c7, A7, _, c8, A8, _, c9, g0, _, sV, rfl, rfl, rfl, rfl, rfl, dU⟩
 have eY := xK k4 _ _ dU (.c (.c (.c (.c (.c (.c (.c .n)))))))
 refine ⟨.gD [], rfl, ?_⟩
 refine af <| aa <| ab <| Gu bK (by kernel_rfl) (.n 6 (.u64 ((274877906944 : UInt64) - ah.2.2.2.2.2.2.2.2.2.2.2.2.1)) (.ss .a)) (fun m => qs aY 0 <| qs aY 0 <| qs aY 0 <| qB (eY.drew m) 5 rfl 3 (.u64 274877906944) (by kernel_rfl) <| qs aY 0 <| qs aY 0 <| qB (eY.drew m) 5 rfl 10 (.u64 ah.2.2.2.2.2.2.2.2.2.2.2.2.1) (by kernel_rfl) <| qe) (by kernel_rfl) (fun m_ => ?_)
 have fU := eY.drew m_
 refine aa <| ab <| ab <| bO [33] (.n 36 (.b (decide (((274877906944 : UInt64) - ah.2.2.2.2.2.2.2.2.2.2.2.2.1) = 0))) .a) qe (by kernel_rfl) ?_
 refine aa <| bu (((274877906944 : UInt64) - ah.2.2.2.2.2.2.2.2.2.2.2.2.1) = 0) (by kernel_rfl) (fun hc => ?_) (fun hc => ?_)
 · rw [if_pos hc] at hm
   refine ab <| bO [] (.n 4 (sl none 0 0) (.n 5 (I 70) .z)) qe (by kernel_rfl) ?_
   refine aa <| aQ (cJ ?_)
   have g_ := fU.nil e8
   obtain rfl := Option.some.inj hm
   refine aR [sl none 0 0, I 70] qe (by kernel_rfl) ?_
   have gC := (((((((g_.pk (.t (.t (.t (.t (.t (.t .h))))))).pk (.t (.t (.t (.t (.t (.t .h))))))).pk (.t (.t (.t (.t (.t (.t .h))))))).pk (.t (.t (.t (.t (.t (.t .h))))))).pk (.t (.t (.t (.t (.t (.t .h))))))).pk (.t (.t (.t (.t (.t (.t .h))))))).pk (.t (.t (.t (.t (.t (.t .h))))))).pk (.t (.t (.t (.t (.t (.t (.t .h)))))))
   exact ⟨none, 0, 0, A6, ah.2.2.2.1.length, c7, A7, ah.2.2.2.2.2.2.2.1.length, c8, A8, ah.2.2.2.2.2.2.2.2.1.length, c9, g0, ah.2.2.2.2.2.2.2.2.2.2.2.1.length, sV, gC.len 0 rfl, gC.len 2 rfl, gC.len 4 rfl, gC.len 5 rfl, gC.fS 7 rfl, rfl, gC⟩
 rw [if_neg hc] at hm
 refine bc <| aa <| l4 (fun L wr => ∃ (n0 : Int), gS bk al ah n0 = some r ∧ L = [(0, pt aY 0), (1, I n0)] ∧ Cx F O w wr [Bx 86 aY [I 1, I 64, .u32 4294967295, .u64 274877906944, .b false, sl cy cI.length cz, sl bQ bk.length bR, sl aE al.length aF, pt eo 0, sl (some ⟨g0, 0, none⟩) ah.2.2.2.2.2.2.2.2.2.2.2.1.length sV, .u64 ah.2.2.2.2.2.2.2.2.2.2.2.2.1, .ar e8 ah.2.2.2.2.2.2.2.2.2.2.2.2.2.1, I ah.2.2.2.2.2.2.2.2.2.2.2.2.2.2, .v (.func (.func 90) ⟨SV.ad [pt aY 0]⟩ ⟨SV.ad []⟩)], Bx 145 eo [I ah.2.2.2.2.2.1, I ah.2.2.2.2.2.2.1, sl A7 ah.2.2.2.2.2.2.2.1.length c8, sl A8 ah.2.2.2.2.2.2.2.2.1.length c9, .b ah.2.2.2.2.2.2.2.2.2.1, .u64 ah.2.2.2.2.2.2.2.2.2.2.1, .v (.iface 194 (SV.val (pt da 0)))], Ow e8 A7 ah.2.2.2.2.2.2.2.1.length c8 ah.2.2.2.2.2.2.2.1, Ow e8 A8 ah.2.2.2.2.2.2.2.2.1.length c9 ah.2.2.2.2.2.2.2.2.1, Bx 200 da [.ar cj ah.1, .u64 ah.2.1, .u64 ah.2.2.1, sl A6 ah.2.2.2.1.length c7, I ah.2.2.2.2.1, .v (.func (.func 132) ⟨SV.ad []⟩ ⟨SV.ad []⟩), .v (.func (.func 133) ⟨SV.ad []⟩ ⟨SV.ad []⟩)], Ow e8 A6 ah.2.2.2.1.length c7 ah.2.2.2.1, Sh (SH e8) [((some ⟨g0, 0, none⟩), ah.2.2.2.2.2.2.2.2.2.2.2.1.length, sV)] [ah.2.2.2.2.2.2.2.2.2.2.2.1]]) ?_ ?_
 ·
  refine ab <| bO [] (.n 40 (.b (decide (((274877906944 : UInt64) - ah.2.2.2.2.2.2.2.2.2.2.2.2.1) < (8 : UInt64)))) (.s .a)) qe (by kernel_rfl) ?_
  refine aa <| bu (((274877906944 : UInt64) - ah.2.2.2.2.2.2.2.2.2.2.2.2.1) < (8 : UInt64)) (by kernel_rfl) (fun k5 => ?_) (fun k5 => ?_)
  · rw [if_pos k5] at hm
    refine bO [] (.n 1 (I (aD ((274877906944 : UInt64) - ah.2.2.2.2.2.2.2.2.2.2.2.2.1).toNat)) (.ss (.k .z))) qe (by kernel_rfl) ?_
    have gP := ((((((fU.pk (.t (.t (.t (.t (.t (.t .h))))))).pk (.t (.t .h))).pk (.t (.t .h))).pk (.t (.t (.t (.t (.t .h)))))).pk (.t (.t (.t (.t (.t .h)))))).pk (.t (.t (.t (.t (.t .h)))))).pk (.t (.t (.t (.t (.t (.t .h))))))
    exact jS ⟨aD ((274877906944 : UInt64) - ah.2.2.2.2.2.2.2.2.2.2.2.2.1).toNat, hm, rfl, gP⟩ (by kernel_rfl)
  rw [if_neg k5] at hm
  refine bc ?_
  have gB := ((((((fU.pk (.t (.t (.t (.t (.t (.t .h))))))).pk (.t (.t .h))).pk (.t (.t .h))).pk (.t (.t (.t (.t (.t .h)))))).pk (.t (.t (.t (.t (.t .h)))))).pk (.t (.t (.t (.t (.t .h)))))).pk (.t (.t (.t (.t (.t (.t .h))))))
  exact jS ⟨(8 : Int), hm, rfl, gB⟩ (by kernel_rfl)
 rintro L_ l6 ⟨n0, hm, rfl, dO⟩
 simp only [gS] at hm
 refine ab <| bO [] (.n 7 (sl none 0 0) .a) qe (by kernel_rfl) ?_
 refine aa <| ab <| cX ?_
 have ff := dO.nil e8
 refine rv (gR bk al ah n0) (fun s L wr => ∃ (aL : UInt64) (nw : ae UInt8 64) (lW : Int) (out : List UInt8) (A9 : Option Addr) (n5 : Nat) (uf : Nat), (aL, nw, lW, out) = s ∧ L = [(0, pt aY 0), (1, I n0), (7, sl A9 n5 uf)] ∧ out.length = n5 ∧ Cx F O w wr [Bx 86 aY [I 1, I 64, .u32 4294967295, .u64 274877906944, .b false, sl cy cI.length cz, sl bQ bk.length bR, sl aE al.length aF, pt eo 0, sl (some ⟨g0, 0, none⟩) ah.2.2.2.2.2.2.2.2.2.2.2.1.length sV, .u64 aL, .ar e8 nw, I lW, .v (.func (.func 90) ⟨SV.ad [pt aY 0]⟩ ⟨SV.ad []⟩)], Bx 145 eo [I ah.2.2.2.2.2.1, I ah.2.2.2.2.2.2.1, sl A7 ah.2.2.2.2.2.2.2.1.length c8, sl A8 ah.2.2.2.2.2.2.2.2.1.length c9, .b ah.2.2.2.2.2.2.2.2.2.1, .u64 ah.2.2.2.2.2.2.2.2.2.2.1, .v (.iface 194 (SV.val (pt da 0)))], Ow e8 A7 ah.2.2.2.2.2.2.2.1.length c8 ah.2.2.2.2.2.2.2.1, Ow e8 A8 ah.2.2.2.2.2.2.2.2.1.length c9 ah.2.2.2.2.2.2.2.2.1, Bx 200 da [.ar cj ah.1, .u64 ah.2.1, .u64 ah.2.2.1, sl A6 ah.2.2.2.1.length c7, I ah.2.2.2.2.1, .v (.func (.func 132) ⟨SV.ad []⟩ ⟨SV.ad []⟩), .v (.func (.func 133) ⟨SV.ad []⟩ ⟨SV.ad []⟩)], Ow e8 A6 ah.2.2.2.1.length c7 ah.2.2.2.1, Sh (SH e8) [((some ⟨g0, 0, none⟩), ah.2.2.2.2.2.2.2.2.2.2.2.1.length, sV)] [ah.2.2.2.2.2.2.2.2.2.2.2.1], Ow e8 A9 n5 uf out]) (ah.2.2.2.2.2.2.2.2.2.2.2.2.1, ah.2.2.2.2.2.2.2.2.2.2.2.2.2.1, ah.2.2.2.2.2.2.2.2.2.2.2.2.2.2, ([] : List UInt8)) r hm ⟨ah.2.2.2.2.2.2.2.2.2.2.2.2.1, ah.2.2.2.2.2.2.2.2.2.2.2.2.2.1, ah.2.2.2.2.2.2.2.2.2.2.2.2.2.2, ([] : List UInt8), none, 0, 0, rfl, rfl, ff.len 7 rfl, ff⟩ (by kernel_rfl) ?_
 intro Al L_ qj y0 kE dY rP
 obtain ⟨aL, nw, lW, out, A9, _, uf, rfl, rfl, rfl, cV⟩ := kE
 have hm := dY; simp only [gR] at hm
 clear dY
 refine ab <| ab <| bO [] (.n 46 (.b (decide (((out.length : Nat) : Int) < n0))) .a) qe (by kernel_rfl) ?_
 refine aa <| bu (((out.length : Nat) : Int) < n0) (by kernel_rfl) (fun rN => ?_) (fun rN => ?_)
 · rw [if_pos rN] at hm
   refine bc <| aa <| cX <| ab <| Gu bK (by kernel_rfl) (.n 8 (.u64 (aL / 64)) (.s .a)) (fun m => qs aY 0 <| qs aY 0 <| qB (cV.drew m) 0 rfl 10 (.u64 aL) (by kernel_rfl) <| qs aY 0 <| qs aY 0 <| qs aY 0 <| qB (cV.drew m) 0 rfl 1 (I 64) (by kernel_rfl) <| qp ((64 : UInt64) ≠ 0) (by show (64 : UInt64) ≠ 0; decide) <| qe) (by kernel_rfl) (fun xt => ?_)
   have gI := cV.drew xt
   refine aa <| l4 (fun L wr => ∃ (ny : ae UInt8 64) (tn : Int), iS n0 aL out ny tn = some y0 ∧ L = [(0, pt aY 0), (1, I n0), (7, sl A9 out.length uf)] ∧ Cx F O w wr [Bx 86 aY [I 1, I 64, .u32 4294967295, .u64 274877906944, .b false, sl cy cI.length cz, sl bQ bk.length bR, sl aE al.length aF, pt eo 0, sl (some ⟨g0, 0, none⟩) ah.2.2.2.2.2.2.2.2.2.2.2.1.length sV, .u64 aL, .ar e8 ny, I tn, .v (.func (.func 90) ⟨SV.ad [pt aY 0]⟩ ⟨SV.ad []⟩)], Bx 145 eo [I ah.2.2.2.2.2.1, I ah.2.2.2.2.2.2.1, sl A7 ah.2.2.2.2.2.2.2.1.length c8, sl A8 ah.2.2.2.2.2.2.2.2.1.length c9, .b ah.2.2.2.2.2.2.2.2.2.1, .u64 ah.2.2.2.2.2.2.2.2.2.2.1, .v (.iface 194 (SV.val (pt da 0)))], Ow e8 A7 ah.2.2.2.2.2.2.2.1.length c8 ah.2.2.2.2.2.2.2.1, Ow e8 A8 ah.2.2.2.2.2.2.2.2.1.length c9 ah.2.2.2.2.2.2.2.2.1, Bx 200 da [.ar cj ah.1, .u64 ah.2.1, .u64 ah.2.2.1, sl A6 ah.2.2.2.1.length c7, I ah.2.2.2.2.1, .v (.func (.func 132) ⟨SV.ad []⟩ ⟨SV.ad []⟩), .v (.func (.func 133) ⟨SV.ad []⟩ ⟨SV.ad []⟩)], Ow e8 A6 ah.2.2.2.1.length c7 ah.2.2.2.1, Sh (SH e8) [((some ⟨g0, 0, none⟩), ah.2.2.2.2.2.2.2.2.2.2.2.1.length, sV)] [ah.2.2.2.2.2.2.2.2.2.2.2.1], Ow e8 A9 out.length uf out]) ?_ ?_
   ·
    refine ab <| bO [] (.n 64 (.b (decide (lW ≠ (aD (aL / 64).toNat)))) .a) (qs aY 0 <| qs aY 0 <| qB gI 0 rfl 75 (I lW) (by kernel_rfl) <| qe) (by kernel_rfl) ?_
    refine aa <| bu (lW ≠ (aD (aL / 64).toNat)) (by kernel_rfl) (fun xQ => ?_) (fun xQ => ?_)
    · rw [if_pos xQ] at hm
      refine ab ?_
      have ez := gI.drew 1
      refine qO bK (.q 20 0 (.q 0 2 (.q 1 2 (.q 2 1 (.q 3 1 (.q 4 2 (.q 5 2 (.q 6 1 (.q 7 0 (.q 8 2 (.q 9 2 (.q 10 1 (.q 11 0 (.q 12 2 (.q 13 2 (.q 14 1 (.q 15 0 (.q 16 2 (.q 17 2 (.q 18 1 (.q 19 0 (.op 21 (.op 22 .nil))))))))))))))))))))))) [21, 22] ez (.c (.bX (.bX .e)) (.c (.s (.bX (.kk (.k .e)))) .l)) (by kernel_rfl) (fun _ => ?_)
      refine cK 1 0 [] (.n 85 (.u64 (aL / 64)) (.s .a)) (fun x hx => qe) (by kernel_rfl) (fun _ => ?_)
      refine cK 2 2 [] (.n 66 (pt aY 0) .a) (fun x hx => qs aY 0 <| qe) (by kernel_rfl) (fun _ => ?_)
      refine cK 2 1 [] (.n 68 (sl (some ⟨aY, 11, none⟩) 64 64) (.s .a)) (fun x hx => qs aY 0 <| qo (.v (.slice (some ⟨aY, 11, none⟩) 64 64)) <| qp (((some ⟨aY, 11, none⟩) : Option Addr).isSome = true ∧ Value.slice (sD (some ⟨aY, 11, none⟩) 0 64 1) (64 - 0) (64 - 0) = .slice (some ⟨aY, 11, none⟩) 64 64) ⟨rfl, uA _ _ _ _ _ rfl⟩ <| qe) (by kernel_rfl) (fun _ => ?_)
      refine cK 2 2 [] (.n 70 (pt aY 0) .a) (fun x hx => qs aY 0 <| qe) (by kernel_rfl) (fun _ => ?_)
      refine cK 1 1 [] (.n 71 (pt aY 0) (.s .a)) (fun x hx => qs aY 0 <| qe) (by kernel_rfl) (fun _ => ?_)
      refine cK 1 0 [] (.n 72 (.agg [I 1, I 64, .u32 4294967295, .u64 274877906944, .b false]) (.s .a)) (fun x hx => qT hx 0 rfl 0 5 [I 1, I 64, .u32 4294967295, .u64 274877906944, .b false] (by kernel_rfl) (by decide) <| qe) (by kernel_rfl) (fun _ => ?_)
      refine cK 2 2 [] (.n 74 (pt aY 0) .a) (fun x hx => qs aY 0 <| qe) (by kernel_rfl) (fun _ => ?_)
      refine cK 1 1 [] (.n 75 (pt aY 6) (.s .a)) (fun x hx => qs aY 0 <| qe) (by kernel_rfl) (fun _ => ?_)
      refine cK 1 0 [] (.n 76 (sl bQ bk.length bR) (.s .a)) (fun x hx => qB hx 0 rfl 6 (sl bQ bk.length bR) (by kernel_rfl) <| qe) (by kernel_rfl) (fun _ => ?_)
      refine cK 2 2 [] (.n 78 (pt aY 0) .a) (fun x hx => qs aY 0 <| qe) (by kernel_rfl) (fun _ => ?_)
      refine cK 1 1 [] (.n 79 (pt aY 7) (.s .a)) (fun x hx => qs aY 0 <| qe) (by kernel_rfl) (fun _ => ?_)
      refine cK 1 0 [] (.n 80 (sl aE al.length aF) (.s .a)) (fun x hx => qB hx 0 rfl 7 (sl aE al.length aF) (by kernel_rfl) <| qe) (by kernel_rfl) (fun _ => ?_)
      refine cK 2 2 [] (.n 82 (pt aY 0) .a) (fun x hx => qs aY 0 <| qe) (by kernel_rfl) (fun _ => ?_)
      refine cK 1 1 [] (.n 83 (pt aY 9) (.s .a)) (fun x hx => qs aY 0 <| qe) (by kernel_rfl) (fun _ => ?_)
      refine cK 1 0 [] (.n 84 (sl (some ⟨g0, 0, none⟩) ah.2.2.2.2.2.2.2.2.2.2.2.1.length sV) (.s .a)) (fun x hx => qB hx 0 rfl 9 (sl (some ⟨g0, 0, none⟩) ah.2.2.2.2.2.2.2.2.2.2.2.1.length sV) (by kernel_rfl) <| qe) (by kernel_rfl) (fun _ => ?_)
      refine cC (by kernel_rfl) rfl ?_
      obtain ⟨aX, hK, hm⟩ := ob hm
      refine au [] 86 _ Fe (by kernel_rfl) (qU (F := N0) (O := N0) _ _ _ _ _ _ _ _ _ _ _ _ _ (Ro.n0 (hN.cx ez)) rfl gb (Ro.n0 (dL.cx ez)) rfl di (Ro.n0 (ez.PQ 6 rfl)) (ez.fS 6 rfl) (ez.kr 6 rfl) (Cx.refl _) _ hK) ?_
      rintro e_ qk ⟨wq, _, xS, rfl, rfl, jj⟩
      have gQ := ez.call jj
      refine ⟨sl wq aX.length xS, rfl, ?_⟩
      refine ⟨(gQ.de (.bX (.bX .z))), fun _ => ?_⟩
      refine cC (by kernel_rfl) rfl <| x8 (E := e8) (dn := 64) (dc := 64) (v := sl wq aX.length xS) (src := aX) (lo := 0) (m' := 64) iJ [] 87 0 [I 1, I 64, .u32 4294967295, .u64 274877906944, .b false, sl cy cI.length cz, sl bQ bk.length bR, sl aE al.length aF, pt eo 0, sl (some ⟨g0, 0, none⟩) ah.2.2.2.2.2.2.2.2.2.2.2.1.length sV, .u64 aL] [I lW, .v (.func (.func 90) ⟨SV.ad [pt aY 0]⟩ ⟨SV.ad []⟩)] nw (by kernel_rfl) (sN _ _ _).symm gQ rfl (Src.sl (gQ.rd 8 rfl) (gQ.len 8 rfl) (by rfl)) (gQ.len 8 rfl) (by have := nw.h; omega) (by omega) (by omega) ?_
      intro rX kV
      refine ⟨(kV.de (.s (.bX (.kk (.k .z))))), fun _ => ?_⟩
      refine d_ <| aa <| an <| ba 5 [] (.n 90 (I (aD (aL / 64).toNat)) (.n 92 (pt aY 75) (.jn (.jn (.s .a))))) (qs aY 0 <| qs aY 0 <| qe) (by kernel_rfl) ?_
      refine ag <| en [] 0 (I (aD (aL / 64).toNat)) [I (aD (aL / 64).toNat)] (Pt.at aY 75) kV rfl (.bX (.bX (.bX .h))) (by kernel_rfl) (by kernel_rfl) ?_
      intro wQ lz
      have k6 := lz.de (.bX (.bX .z))
      refine af ?_
      exact jS ⟨(tT nw 0 64 aX), aD (aL / 64).toNat, hm, rfl, k6⟩ (by kernel_rfl)
    rw [if_neg xQ] at hm
    refine bc ?_
    exact jS ⟨nw, lW, hm, rfl, gI⟩ (by kernel_rfl)
   rintro L_ wR ⟨ny, tn, hm, rfl, lJ⟩
   simp only [iS] at hm
   refine ab <| Gu bK (by kernel_rfl) (.n 9 (I (aD (aL % 64).toNat)) .a) (fun m => qs aY 0 <| qs aY 0 <| qB (lJ.drew m) 0 rfl 10 (.u64 aL) (by kernel_rfl) <| qs aY 0 <| qs aY 0 <| qs aY 0 <| qB (lJ.drew m) 0 rfl 1 (I 64) (by kernel_rfl) <| qp ((64 : UInt64) ≠ 0) (by show (64 : UInt64) ≠ 0; decide) <| qe) (by kernel_rfl) (fun P3 => ?_)
   have my := lJ.drew P3
   refine aa <| ab <| bO [] (.n 10 (I (if aD (64 - (aD (aL % 64).toNat)) < aD (n0 - ((out.length : Nat) : Int)) then aD (64 - (aD (aL % 64).toNat)) else aD (n0 - ((out.length : Nat) : Int)))) .a) (qs aY 0 <| qs aY 0 <| qs aY 0 <| qB my 0 rfl 1 (I 64) (by kernel_rfl) <| qe) (by kernel_rfl) ?_
   refine aa <| ab <| an ?_
   obtain ⟨b, qH, hm⟩ := ob hm
   have hs := iB qH
   have hl := lh qH
   have hn : ny.l.length = 64 := ny.h
   have Ak : 64 ≤ 64 := (Nat.le_refl _)
   obtain ⟨yr, Co, e_, wm, hA, xR⟩ := Kx (some ⟨aY, 11, none⟩) (Int.toNat (aD (aL % 64).toNat)) 64 1 (Int.toNat (aD ((aD (aL % 64).toNat) + (if aD (64 - (aD (aL % 64).toNat)) < aD (n0 - ((out.length : Nat) : Int)) then aD (64 - (aD (aL % 64).toNat)) else aD (n0 - ((out.length : Nat) : Int))))) - Int.toNat (aD (aL % 64).toNat)) b.length (by omega) (by omega)
   refine ba 9 [] (.n 117 (sl A9 out.length uf) (.n 125 (sl yr b.length Co) (.k (.s .a)))) (qs aY 0 <| qs aY 0 <| qp (0 ≤ aD ((aD (aL % 64).toNat) + (if aD (64 - (aD (aL % 64).toNat)) < aD (n0 - ((out.length : Nat) : Int)) then aD (64 - (aD (aL % 64).toNat)) else aD (n0 - ((out.length : Nat) : Int)))) ∧ aD ((aD (aL % 64).toNat) + (if aD (64 - (aD (aL % 64).toNat)) < aD (n0 - ((out.length : Nat) : Int)) then aD (64 - (aD (aL % 64).toNat)) else aD (n0 - ((out.length : Nat) : Int)))) ≤ ((64 : Nat) : Int)) (by omega) <| qp (0 ≤ aD (aL % 64).toNat ∧ aD (aL % 64).toNat ≤ ((Int.toNat (aD ((aD (aL % 64).toNat) + (if aD (64 - (aD (aL % 64).toNat)) < aD (n0 - ((out.length : Nat) : Int)) then aD (64 - (aD (aL % 64).toNat)) else aD (n0 - ((out.length : Nat) : Int))))) : Nat) : Int)) (by omega) <| qo (.v (.slice yr b.length Co)) <| qp (((some ⟨aY, 11, none⟩) : Option Addr).isSome = true ∧ Value.slice (sD (some ⟨aY, 11, none⟩) (Int.toNat (aD (aL % 64).toNat)) 64 1) (Int.toNat (aD ((aD (aL % 64).toNat) + (if aD (64 - (aD (aL % 64).toNat)) < aD (n0 - ((out.length : Nat) : Int)) then aD (64 - (aD (aL % 64).toNat)) else aD (n0 - ((out.length : Nat) : Int))))) - Int.toNat (aD (aL % 64).toNat)) (64 - Int.toNat (aD (aL % 64).toNat)) = .slice yr b.length Co) ⟨rfl, e_⟩ <| qe) (by kernel_rfl) ?_
   refine ag ?_
   obtain ⟨zL, Ep, hm⟩ := ob hm
   obtain ⟨hz, Gv⟩ := mm Ep
   refine k8 (E := e8) (v := sl yr b.length Co) (ys := b) iJ [] 126 7 (by kernel_rfl) my rfl (Src.sl (Rd.cut (Rd.vec (my.uz 0 rfl) (c := fm.all e8 ny.l) (off := 11) (by kernel_rfl)) qH rfl (by rfl) hA (by omega)) rfl (by rfl)) rfl (by have := my.len 7 rfl; have := hm; omega) ?_
   intro Cn O5 Av nE
   rw [← Gv] at nE
   refine ba 1 [] (.n 7 (sl Cn (out.length + b.length) O5) (.oQ (.uk .z))) qe (by kernel_rfl) ?_
   refine af <| aa <| an <| ba 9 [] (.n 133 (.u64 (aL + (UInt64.ofInt (if aD (64 - (aD (aL % 64).toNat)) < aD (n0 - ((out.length : Nat) : Int)) then aD (64 - (aD (aL % 64).toNat)) else aD (n0 - ((out.length : Nat) : Int)))))) (.n 135 (pt aY 10) (.k (.s .a)))) (qs aY 0 <| qs aY 0 <| qB nE 0 rfl 10 (.u64 aL) (by kernel_rfl) <| qs aY 0 <| qs aY 0 <| qe) (by kernel_rfl) ?_
   refine ag <| en [] 0 (.u64 (aL + (UInt64.ofInt (if aD (64 - (aD (aL % 64).toNat)) < aD (n0 - ((out.length : Nat) : Int)) then aD (64 - (aD (aL % 64).toNat)) else aD (n0 - ((out.length : Nat) : Int)))))) [.u64 (aL + (UInt64.ofInt (if aD (64 - (aD (aL % 64).toNat)) < aD (n0 - ((out.length : Nat) : Int)) then aD (64 - (aD (aL % 64).toNat)) else aD (n0 - ((out.length : Nat) : Int)))))] (Pt.at aY 10) nE rfl (.bX (.bX (.kk .h))) (by kernel_rfl) (by kernel_rfl) ?_
   intro DE nh
   refine af <| lL ?_
   exact mN (aL + (UInt64.ofInt (if aD (64 - (aD (aL % 64).toNat)) < aD (n0 - ((out.length : Nat) : Int)) then aD (64 - (aD (aL % 64).toNat)) else aD (n0 - ((out.length : Nat) : Int)))), ny, tn, zL) (Option.some.inj hm).symm ⟨aL + (UInt64.ofInt (if aD (64 - (aD (aL % 64).toNat)) < aD (n0 - ((out.length : Nat) : Int)) then aD (64 - (aD (aL % 64).toNat)) else aD (n0 - ((out.length : Nat) : Int)))), ny, tn, zL, Cn, out.length + b.length, O5, rfl, rfl, nh.len 7 rfl, nh⟩ (by kernel_rfl)
 rw [if_neg rN] at hm
 refine jr (gk (gk (lT ?_)))
 have hm := iv hm rP
 refine aa <| ab <| bO [] (.n 4 (sl A9 out.length uf) (.n 5 (I 0) .z)) qe (by kernel_rfl) ?_
 refine aa <| aQ ?_
 obtain rfl := Option.some.inj hm
 refine aR [sl A9 out.length uf, I 0] qe (by kernel_rfl) ?_
 have mz := (((((((cV.pk (.t (.t (.t (.t (.t (.t .h))))))).pk (.t .h)).pk (.t (.t (.t (.t .h))))).pk (.t (.t (.t (.t .h))))).pk (.t (.t (.t (.t .h))))).pk (.t (.t (.t (.t (.t (.t .h))))))).pk (.t (.t (.t (.t (.t (.t .h))))))).pk (.t (.t (.t (.t (.t (.t (.t .h)))))))
 exact ⟨A9, out.length, uf, A6, ah.2.2.2.1.length, c7, A7, ah.2.2.2.2.2.2.2.1.length, c8, A8, ah.2.2.2.2.2.2.2.2.1.length, c9, g0, ah.2.2.2.2.2.2.2.2.2.2.2.1.length, sV, mz.len 0 rfl, mz.len 2 rfl, mz.len 4 rfl, mz.len 5 rfl, mz.fS 7 rfl, rfl, mz⟩
end Go.Sx
