import Derived.Test.YtoedpdamhabkoaaProg
import Derived.Test.YtoedpdamhabkoaaK2
namespace Go.Sx
open Go.RowKit Go.Proofs
set_option linter.unusedVariables false
set_option linter.unusedSimpArgs false
set_option maxRecDepth 20000
theorem JL : ff Try.prog 10 := ⟨⟨Try.f10, _, Try.func10, rfl, by kernel_rfl⟩⟩
theorem Fg : ff Try.prog 11 := ⟨⟨Try.f11, _, Try.func11, rfl, by kernel_rfl⟩⟩
theorem Fh : ff Try.prog 12 := ⟨⟨Try.f12, _, Try.func12, rfl, by kernel_rfl⟩⟩
theorem lr : ff Try.prog 13 := ⟨⟨Try.f13, _, Try.func13, rfl, by kernel_rfl⟩⟩
theorem JM : ff Try.prog 15 := ⟨⟨Try.f15, _, Try.func15, rfl, by kernel_rfl⟩⟩
theorem JN : ff Try.prog 18 := ⟨⟨Try.f18, _, Try.func18, rfl, by kernel_rfl⟩⟩
theorem vp : ff Try.prog 19 := ⟨⟨Try.f19, _, Try.func19, rfl, by kernel_rfl⟩⟩
theorem JO : ff Try.prog 20 := ⟨⟨Try.f20, _, Try.func20, rfl, by kernel_rfl⟩⟩
theorem JP : ff Try.prog 21 := ⟨⟨Try.f21, _, Try.func21, rfl, by kernel_rfl⟩⟩
theorem JQ : ff Try.prog 22 := ⟨⟨Try.f22, _, Try.func22, rfl, by kernel_rfl⟩⟩
theorem Fi : ff Try.prog 23 := ⟨⟨Try.f23, _, Try.func23, rfl, by kernel_rfl⟩⟩
theorem Fj : ff Try.prog 24 := ⟨⟨Try.f24, _, Try.func24, rfl, by kernel_rfl⟩⟩
theorem za : ff Try.prog 25 := ⟨⟨Try.f25, _, Try.func25, rfl, by kernel_rfl⟩⟩
theorem JR : ff Try.prog 26 := ⟨⟨Try.f26, _, Try.func26, rfl, by kernel_rfl⟩⟩
theorem Cb : ff Try.prog 27 := ⟨⟨Try.f27, _, Try.func27, rfl, by kernel_rfl⟩⟩
theorem JS : ff Try.prog 28 := ⟨⟨Try.f28, _, Try.func28, rfl, by kernel_rfl⟩⟩
theorem Cc : ff Try.prog 29 := ⟨⟨Try.f29, _, Try.func29, rfl, by kernel_rfl⟩⟩
theorem Fk : ff Try.prog 30 := ⟨⟨Try.f30, _, Try.func30, rfl, by kernel_rfl⟩⟩
theorem JT : ff Try.prog 31 := ⟨⟨Try.f31, _, Try.func31, rfl, by kernel_rfl⟩⟩
theorem JU : ff Try.prog 32 := ⟨⟨Try.f32, _, Try.func32, rfl, by kernel_rfl⟩⟩
theorem JV : ff Try.prog 33 := ⟨⟨Try.f33, _, Try.func33, rfl, by kernel_rfl⟩⟩
theorem JW : ff Try.prog 34 := ⟨⟨Try.f34, _, Try.func34, rfl, by kernel_rfl⟩⟩
theorem xw : ff Try.prog 35 := ⟨⟨Try.f35, _, Try.func35, rfl, by kernel_rfl⟩⟩
theorem JX : ff Try.prog 36 := ⟨⟨Try.f36, _, Try.func36, rfl, by kernel_rfl⟩⟩
theorem Fm : ff Try.prog 37 := ⟨⟨Try.f37, _, Try.func37, rfl, by kernel_rfl⟩⟩
theorem Fo : ff Try.prog 38 := ⟨⟨Try.f38, _, Try.func38, rfl, by kernel_rfl⟩⟩
theorem Ft : ff Try.prog 39 := ⟨⟨Try.f39, _, Try.func39, rfl, by kernel_rfl⟩⟩
theorem Fv : ff Try.prog 42 := ⟨⟨Try.f42, _, Try.func42, rfl, by kernel_rfl⟩⟩
theorem Cd : ff Try.prog 43 := ⟨⟨Try.f43, _, Try.func43, rfl, by kernel_rfl⟩⟩
theorem Fw : ff Try.prog 44 := ⟨⟨Try.f44, _, Try.func44, rfl, by kernel_rfl⟩⟩
theorem zb : ff Try.prog 45 := ⟨⟨Try.f45, _, Try.func45, rfl, by kernel_rfl⟩⟩
theorem JY : ff Try.prog 46 := ⟨⟨Try.f46, _, Try.func46, rfl, by kernel_rfl⟩⟩
theorem JZ : ff Try.prog 47 := ⟨⟨Try.f47, _, Try.func47, rfl, by kernel_rfl⟩⟩
theorem Fx : ff Try.prog 48 := ⟨⟨Try.f48, _, Try.func48, rfl, by kernel_rfl⟩⟩
theorem vq : ff Try.prog 49 := ⟨⟨Try.f49, _, Try.func49, rfl, by kernel_rfl⟩⟩
theorem J0 : ff Try.prog 50 := ⟨⟨Try.f50, _, Try.func50, rfl, by kernel_rfl⟩⟩
theorem J1 : ff Try.prog 51 := ⟨⟨Try.f51, _, Try.func51, rfl, by kernel_rfl⟩⟩
theorem J2 : ff Try.prog 55 := ⟨⟨Try.f55, _, Try.func55, rfl, by kernel_rfl⟩⟩
theorem J3 : ff Try.prog 56 := ⟨⟨Try.f56, _, Try.func56, rfl, by kernel_rfl⟩⟩
theorem Fy : ff Try.prog 57 := ⟨⟨Try.f57, _, Try.func57, rfl, by kernel_rfl⟩⟩
theorem Fz : ff Try.prog 58 := ⟨⟨Try.f58, _, Try.func58, rfl, by kernel_rfl⟩⟩
theorem J4 : ff Try.prog 59 := ⟨⟨Try.f59, _, Try.func59, rfl, by kernel_rfl⟩⟩
theorem J5 : ff Try.prog 60 := ⟨⟨Try.f60, _, Try.func60, rfl, by kernel_rfl⟩⟩
theorem J6 : ff Try.prog 61 := ⟨⟨Try.f61, _, Try.func61, rfl, by kernel_rfl⟩⟩
theorem J7 : ff Try.prog 62 := ⟨⟨Try.f62, _, Try.func62, rfl, by kernel_rfl⟩⟩
theorem J8 : ff Try.prog 63 := ⟨⟨Try.f63, _, Try.func63, rfl, by kernel_rfl⟩⟩
theorem Ce : ff Try.prog 64 := ⟨⟨Try.f64, _, Try.func64, rfl, by kernel_rfl⟩⟩
theorem Cf : ff Try.prog 66 := ⟨⟨Try.f66, _, Try.func66, rfl, by kernel_rfl⟩⟩
theorem J9 : ff Try.prog 67 := ⟨⟨Try.f67, _, Try.func67, rfl, by kernel_rfl⟩⟩
theorem J_ : ff Try.prog 68 := ⟨⟨Try.f68, _, Try.func68, rfl, by kernel_rfl⟩⟩
theorem Ka : ff Try.prog 69 := ⟨⟨Try.f69, _, Try.func69, rfl, by kernel_rfl⟩⟩
theorem zc : ff Try.prog 70 := ⟨⟨Try.f70, _, Try.func70, rfl, by kernel_rfl⟩⟩
theorem zd : ff Try.prog 71 := ⟨⟨Try.f71, _, Try.func71, rfl, by kernel_rfl⟩⟩
theorem Kb : ff Try.prog 72 := ⟨⟨Try.f72, _, Try.func72, rfl, by kernel_rfl⟩⟩
theorem FA : ff Try.prog 73 := ⟨⟨Try.f73, _, Try.func73, rfl, by kernel_rfl⟩⟩
theorem Kc : ff Try.prog 74 := ⟨⟨Try.f74, _, Try.func74, rfl, by kernel_rfl⟩⟩
theorem Kd : ff Try.prog 75 := ⟨⟨Try.f75, _, Try.func75, rfl, by kernel_rfl⟩⟩
theorem FB : ff Try.prog 76 := ⟨⟨Try.f76, _, Try.func76, rfl, by kernel_rfl⟩⟩
theorem Ke : ff Try.prog 77 := ⟨⟨Try.f77, _, Try.func77, rfl, by kernel_rfl⟩⟩
theorem FC : ff Try.prog 78 := ⟨⟨Try.f78, _, Try.func78, rfl, by kernel_rfl⟩⟩
theorem Kf : ff Try.prog 79 := ⟨⟨Try.f79, _, Try.func79, rfl, by kernel_rfl⟩⟩
theorem Kg : ff Try.prog 80 := ⟨⟨Try.f80, _, Try.func80, rfl, by kernel_rfl⟩⟩
theorem Kh : ff Try.prog 81 := ⟨⟨Try.f81, _, Try.func81, rfl, by kernel_rfl⟩⟩
theorem FD : ff Try.prog 82 := ⟨⟨Try.f82, _, Try.func82, rfl, by kernel_rfl⟩⟩
theorem FE : ff Try.prog 83 := ⟨⟨Try.f83, _, Try.func83, rfl, by kernel_rfl⟩⟩
theorem FF : ff Try.prog 84 := ⟨⟨Try.f84, _, Try.func84, rfl, by kernel_rfl⟩⟩
theorem Ki : ff Try.prog 85 := ⟨⟨Try.f85, _, Try.func85, rfl, by kernel_rfl⟩⟩
theorem Kj : ff Try.prog 86 := ⟨⟨Try.f86, _, Try.func86, rfl, by kernel_rfl⟩⟩
theorem Kk : ff Try.prog 87 := ⟨⟨Try.f87, _, Try.func87, rfl, by kernel_rfl⟩⟩
theorem Kl : ff Try.prog 88 := ⟨⟨Try.f88, _, Try.func88, rfl, by kernel_rfl⟩⟩
theorem Km : ff Try.prog 89 := ⟨⟨Try.f89, _, Try.func89, rfl, by kernel_rfl⟩⟩
theorem Ko : ff Try.prog 90 := ⟨⟨Try.f90, _, Try.func90, rfl, by kernel_rfl⟩⟩
theorem Kp : ff Try.prog 91 := ⟨⟨Try.f91, _, Try.func91, rfl, by kernel_rfl⟩⟩
theorem FG : ff Try.prog 92 := ⟨⟨Try.f92, _, Try.func92, rfl, by kernel_rfl⟩⟩
theorem Kq : ff Try.prog 93 := ⟨⟨Try.f93, _, Try.func93, rfl, by kernel_rfl⟩⟩
theorem Kr : ff Try.prog 94 := ⟨⟨Try.f94, _, Try.func94, rfl, by kernel_rfl⟩⟩
theorem Ks : ff Try.prog 95 := ⟨⟨Try.f95, _, Try.func95, rfl, by kernel_rfl⟩⟩
theorem Kt : ff Try.prog 96 := ⟨⟨Try.f96, _, Try.func96, rfl, by kernel_rfl⟩⟩
theorem ze : ff Try.prog 97 := ⟨⟨Try.f97, _, Try.func97, rfl, by kernel_rfl⟩⟩
theorem sO : ff Try.prog 119 := ⟨⟨Try.f119, _, Try.func119, rfl, by kernel_rfl⟩⟩
theorem Bn : Lu Try.prog 120 := ⟨⟨Try.f120, Try.func120, by kernel_rfl, by kernel_rfl, by kernel_rfl, by kernel_rfl⟩⟩
theorem im : TF Try.prog 22 5 [.int .u8 0] 1 := ⟨by kernel_rfl, by kernel_rfl, by decide, by decide⟩
theorem zf : TF Try.prog 55 3 [.int .i64 0] 8 := ⟨by kernel_rfl, by kernel_rfl, by decide, by decide⟩
theorem HO : TF Try.prog 106 109 [.int .i64 0, .int .i64 0, .int .i64 0, .string ⟨⟨[]⟩⟩, .int .i64 0] 48 := ⟨by kernel_rfl, by kernel_rfl, by decide, by decide⟩
theorem Db : TF Try.prog 149 44 [.int .u32 0] 4 := ⟨by kernel_rfl, by kernel_rfl, by decide, by decide⟩
theorem Dc : TF Try.prog 162 41 [.int .u64 0] 8 := ⟨by kernel_rfl, by kernel_rfl, by decide, by decide⟩
theorem uU : ∀ (v : Option Addr) (l : Array Value) (w : World), (callMethod (.iface 126 (.pointer v)) "quern/node.clone" l).run Try.prog w = .ok (.enter 115 (#[.pointer v] ++ l)) w := by intro v l w; kernel_rfl
theorem wN : ∀ (v : Option Addr) (l : Array Value) (w : World), (callMethod (.iface 126 (.pointer v)) "quern/node.out" l).run Try.prog w = .ok (.enter 116 (#[.pointer v] ++ l)) w := by intro v l w; kernel_rfl
theorem p5 : ∀ (v : Option Addr) (l : Array Value) (w : World), (callMethod (.iface 126 (.pointer v)) "quern/node.write" l).run Try.prog w = .ok (.enter 118 (#[.pointer v] ++ l)) w := by intro v l w; kernel_rfl
theorem wO : ∀ (v : Option Addr) (l : Array Value) (w : World), (callMethod (.iface 136 (.pointer v)) "quern/node.out" l).run Try.prog w = .ok (.enter 122 (#[.pointer v] ++ l)) w := by intro v l w; kernel_rfl
theorem p6 : ∀ (v : Option Addr) (l : Array Value) (w : World), (callMethod (.iface 136 (.pointer v)) "quern/node.write" l).run Try.prog w = .ok (.enter 124 (#[.pointer v] ++ l)) w := by intro v l w; kernel_rfl
theorem bw : Try.prog.follows .mixedOrders = true := by kernel_rfl
theorem zZ {F O : Nat → Prop} {w : World} (k : Cx F O w w []) (r : Unit) (hm : oL = some r) :
    Calls Try.prog 36 (ad [I 1, I (-1)]) w (fun e w' => e = .returned (SV.val (.eO [.agg [I 1, I 64, .u32 4294967295, .u64 274877906944, .b false], .b true])) ∧ Cx F O w w' []) := by
 unfold oL at hm
 refine calls [I 1, I (-1)] Try.func36 rfl (of_decide_eq_true (by kernel_rfl)) ?_
 refine ab <| ao <| ag <| bY [] 4 [I 0, I 0, .u32 0, .u64 0, .b false] (by kernel_rfl) k ?_
 intro g w_ k_
 refine bn 1 [] .a qe (by kernel_rfl) ?_
 refine af <| aa <| ab <| ao <| bn 4 [] (.n 11 (.agg [I 1, I 0, .u32 0, .u64 0, .b false]) .a) qe (by kernel_rfl) ?_
 refine ag <| bY [] 6 [I 0, I 0, .u32 0, .u64 0, .b false] (by kernel_rfl) k_ ?_
 intro g1 lh da
 refine ag <| ey [] 1 (.agg [I 1, I 0, .u32 0, .u64 0, .b false]) [I 1, I 0, .u32 0, .u64 0, .b false] (Pt.at g1 0) da rfl .all (by kernel_rfl) (by kernel_rfl) ?_
 intro l4 dF
 refine af <| aa <| ab <| bA [] (.k (.s .a)) qe (by kernel_rfl) ?_
 refine aa <| kS (fun L wr => mn  = some r ∧ L = [(1, I (-1)), (4, pt g 0), (6, pt g1 0), (7, I 4294967294)] ∧ Cx F O w wr [Bx 65 g [I 0, I 0, .u32 0, .u64 0, .b false], Bx 65 g1 [I 1, I 64, .u32 0, .u64 0, .b false]]) ?_ ?_
 ·
  refine ab <| bA [] (.n 12 (I 1) (.kk (.s .a))) qe (by kernel_rfl) ?_
  refine aa <| cu <| ab <| bA [] (.n 14 (.b true) .a) qe (by kernel_rfl) ?_
  refine aa <| cw true (by kernel_rfl) (fun _ => ?_) (fun h => by cases h)
  refine ao <| bn 1 [] (.n 16 (pt g1 1) (.ss .a)) (qs g1 0 <| qe) (by kernel_rfl) ?_
  refine ag <| ey [] 1 (I 64) [I 64] (Pt.at g1 1) dF rfl (.k .h) (by kernel_rfl) (by kernel_rfl) ?_
  intro qf en
  refine bn 1 [] (.n 7 (I 4294967294) (.s .a)) qe (by kernel_rfl) ?_
  refine af <| hH ?_
  exact iy ⟨hm, rfl, en⟩ (by kernel_rfl)
 rintro L_ p7 ⟨hm, rfl, eA⟩
 unfold mn at hm
 refine ab <| ab <| bA [] (.n 22 (.b true) .a) (qs g1 0 <| qB eA 1 rfl 4 (.b false) (by kernel_rfl) <| qe) (by kernel_rfl) ?_
 refine aa <| cw true (by kernel_rfl) (fun _ => ?_) (fun h => by cases h)
 refine ab <| ao <| bn 8 [] (.n 25 (.u32 4294967295) (.n 29 (.u64 274877906944) (.n 30 (pt g1 2) (.ss (.kk .z))))) (qs g1 0 <| qB eA 1 rfl 1 (I 64) (by kernel_rfl) <| qs g1 0 <| qe) (by kernel_rfl) ?_
 refine ag <| ey [] 1 (.u32 4294967295) [.u32 4294967295] (Pt.at g1 2) eA rfl (.kk .h) (by kernel_rfl) (by kernel_rfl) ?_
 intro sV fJ
 refine bn 1 [] (.n 31 (pt g1 3) (.s (.k (.s .a)))) (qs g1 0 <| qe) (by kernel_rfl) ?_
 refine ag <| ey [] 1 (.u64 274877906944) [.u64 274877906944] (Pt.at g1 3) fJ rfl (.kk (.k .h)) (by kernel_rfl) (by kernel_rfl) ?_
 intro wi gi
 refine af <| aa <| ab <| ao <| bn 1 [] (.n 32 (.agg [I 1, I 64, .u32 4294967295, .u64 274877906944, .b false]) (.ss (.k .z))) (qT gi 1 rfl 0 5 [I 1, I 64, .u32 4294967295, .u64 274877906944, .b false] (by kernel_rfl) (by decide) <| qe) (by kernel_rfl) ?_
 refine ag <| ey [] 0 (.agg [I 1, I 64, .u32 4294967295, .u64 274877906944, .b false]) [I 1, I 64, .u32 4294967295, .u64 274877906944, .b false] (Pt.at g 0) gi rfl .all (by kernel_rfl) (by kernel_rfl) ?_
 intro vO fY
 have fZ := fY.ck (.k .z)
 refine bn 1 [] (.n 5 (.b true) (.s .a)) qe (by kernel_rfl) ?_
 refine af <| aa <| aL (bI ?_)
 obtain rfl := Option.some.inj hm
 refine aM [.agg [I 1, I 64, .u32 4294967295, .u64 274877906944, .b false], .b true] (qo (.agg [I 1, I 64, .u32 4294967295, .u64 274877906944, .b false]) <| qc (fun w => Rd w (some ⟨g, 0, none⟩) (SV.cl [I 1, I 64, .u32 4294967295, .u64 274877906944, .b false])) (fZ.uq 0 rfl) <| qe) (by kernel_rfl) ?_
 have gY := fZ.ck .z
 exact ⟨rfl, gY⟩
theorem rA {F O : Nat → Prop} {w : World} (key : List UInt8) (dx : List UInt8) (bJ : List UInt8) (kI : Option Addr) (dD : Nat) (kJ : Nat) (gT : Option Addr) (nC : Nat) (gW : Nat) (cS : Option Addr) (gC : Nat) (cT : Nat) (uV : Ro F w kI (e8.all key)) (rB : key.length = dD) (su : dD ≤ kJ) (uW : Ro F w gT (e8.all dx)) (tA : dx.length = nC) (sa : nC ≤ gW) (mN : Ro F w cS (e8.all bJ)) (mO : bJ.length = gC) (lN : gC ≤ cT) (k : Cx F O w w []) (r : Int) (hm : jf key dx bJ = some r) :
    Calls Try.prog 38 (ad [.agg [I 1, I 64, .u32 4294967295, .u64 274877906944, .b false], sl kI dD kJ, sl gT nC gW, sl cS gC cT]) w (fun e w' => e = .returned (SV.val (.agg [I 64, I r, I 1, I 1, .u32 0, .u64 0, .u32 4294967295, I 0, I 0, sl gT nC gW, sl cS gC cT])) ∧ Cx F O w w' []) := by
 unfold jf at hm
 subst rB
 subst tA
 subst mO
 refine calls [.agg [I 1, I 64, .u32 4294967295, .u64 274877906944, .b false], sl kI key.length kJ, sl gT dx.length gW, sl cS bJ.length cT] Try.func38 rfl (of_decide_eq_true (by kernel_rfl)) ?_
 refine ab <| ao <| ag <| gj [] 4 (.agg [I 1, I 64, .u32 4294967295, .u64 274877906944, .b false]) [I 1, I 64, .u32 4294967295, .u64 274877906944, .b false] (by kernel_rfl) k ?_
 intro g w_ k_
 refine ag <| bY [] 8 [I 0, I 0, I 0, I 0, .u32 0, .u64 0, .u32 0, I 0, I 0, sl none 0 0, sl none 0 0] (by kernel_rfl) k_ ?_
 intro g1 lh da
 refine af <| aa <| ab <| ao <| bn 9 [] (.n 17 (.agg [I 64, I ((key.length : Nat) : Int), I 1, I 1, .u32 0, .u64 0, .u32 4294967295, I 0, I 0, sl gT dx.length gW, sl cS bJ.length cT]) (.k .z)) (qs g 0 <| qB da 0 rfl 1 (I 64) (by kernel_rfl) <| qs g 0 <| qB da 0 rfl 2 (.u32 4294967295) (by kernel_rfl) <| qe) (by kernel_rfl) ?_
 refine ag <| ey [] 1 (.agg [I 64, I ((key.length : Nat) : Int), I 1, I 1, .u32 0, .u64 0, .u32 4294967295, I 0, I 0, sl gT dx.length gW, sl cS bJ.length cT]) [I 64, I ((key.length : Nat) : Int), I 1, I 1, .u32 0, .u64 0, .u32 4294967295, I 0, I 0, sl gT dx.length gW, sl cS bJ.length cT] (Pt.at g1 0) da rfl .all (by kernel_rfl) (by kernel_rfl) ?_
 intro l4 dF
 have en := dF.ck (.s (.k .e))
 refine af <| aa <| aL ?_
 obtain rfl := Option.some.inj hm
 refine aM [.agg [I 64, I ((key.length : Nat) : Int), I 1, I 1, .u32 0, .u64 0, .u32 4294967295, I 0, I 0, sl gT dx.length gW, sl cS bJ.length cT]] (qo (.agg [I 64, I ((key.length : Nat) : Int), I 1, I 1, .u32 0, .u64 0, .u32 4294967295, I 0, I 0, sl gT dx.length gW, sl cS bJ.length cT]) <| qc (fun w => Rd w (some ⟨g1, 0, none⟩) (SV.cl [I 64, I ((key.length : Nat) : Int), I 1, I 1, .u32 0, .u64 0, .u32 4294967295, I 0, I 0, sl gT dx.length gW, sl cS bJ.length cT])) (en.uq 0 rfl) <| qe) (by kernel_rfl) ?_
 have eA := en.ck .z
 exact ⟨rfl, eA⟩
theorem wj {F O : Nat → Prop} {w : World} (k_ : Int) (k : Cx F O w w []) (r : (Int × Int × Int)) (hm : l9 k_ = some r) :
    Calls Try.prog 48 (ad [I k_]) w (fun e w' => e = .returned (SV.val (.eO [I r.1, I r.2.1, I r.2.2])) ∧ Cx F O w w' []) := by
 unfold l9 at hm
 refine calls [I k_] Try.func48 rfl (of_decide_eq_true (by kernel_rfl)) ?_
 refine ab <| bA [] .a qe (by kernel_rfl) ?_
 refine aa <| ab <| ab <| bA [] (.n 5 (I k_) .z) qe (by kernel_rfl) ?_
 refine aa <| cu <| ab <| bA [] (.n 6 (.b (decide (k_ = 1))) .a) qe (by kernel_rfl) ?_
 refine aa <| bb (k_ = 1) (by kernel_rfl) (fun hc => ?_) (fun hc => ?_)
 · rw [if_pos hc] at hm
   refine ab <| bA [] (.n 2 (I 64) (.n 3 (I 64) (.n 4 (I 16) .z))) qe (by kernel_rfl) ?_
   refine aa <| aL (gh (bI ?_))
   obtain rfl := Option.some.inj hm
   refine aM [I 64, I 64, I 16] qe (by kernel_rfl) ?_
   exact ⟨rfl, k⟩
 rw [if_neg hc] at hm
 refine ab <| bA [] (.n 8 (.b (decide (k_ = 2))) .z) qe (by kernel_rfl) ?_
 refine aa <| bb (k_ = 2) (by kernel_rfl) (fun kr => ?_) (fun kr => ?_)
 · rw [if_pos kr] at hm
   refine ab <| bA [] (.n 2 (I 32) (.n 3 (I 32) (.n 4 (I 8) .z))) qe (by kernel_rfl) ?_
   refine aa <| aL (gh (bI ?_))
   obtain rfl := Option.some.inj hm
   refine aM [I 32, I 32, I 8] qe (by kernel_rfl) ?_
   exact ⟨rfl, k⟩
 rw [if_neg kr] at hm
 refine aS <| hH <| aa <| ab <| bA [] (.n 2 (I 0) (.n 3 (I 0) (.n 4 (I 0) .z))) qe (by kernel_rfl) ?_
 refine aa <| aL ?_
 obtain rfl := Option.some.inj hm
 refine aM [I 0, I 0, I 0] qe (by kernel_rfl) ?_
 exact ⟨rfl, k⟩
theorem lE {F O : Nat → Prop} {w : World} (n : Int) (lo : Int) (hi : Int) (k : Cx F O w w []) (r : Bool) (hm : iz n lo hi = some r) :
    Calls Try.prog 49 (ad [I n, I lo, I hi]) w (fun e w' => e = .returned (SV.val (.b r)) ∧ Cx F O w w' []) := by
 unfold iz at hm
 refine calls [I n, I lo, I hi] Try.func49 rfl (of_decide_eq_true (by kernel_rfl)) ?_
 refine ab <| bA [] .a qe (by kernel_rfl) ?_
 refine aa <| ab <| bA [] (.n 6 (.b ((decide (lo ≤ n)) && (decide (n ≤ hi)))) .z) qe (by kernel_rfl) ?_
 refine aa <| aL ?_
 obtain rfl := Option.some.inj hm
 refine aM [.b ((decide (lo ≤ n)) && (decide (n ≤ hi)))] qe (by kernel_rfl) ?_
 exact ⟨rfl, k⟩
theorem wk {F O : Nat → Prop} {w : World} (k_ : Int) (bc : Int) (dy : Int) (bj : Int) (bG : Int) (cX : UInt32) (aW : UInt64) (ca : UInt32) (av : Int) (bB : Int) (bP : List UInt8) (au : List UInt8) (cJ : Option Addr) (iJ : Nat) (cK : Nat) (a8 : Option Addr) (ef : Nat) (ba : Nat) (oU : Ro F w cJ (e8.all bP)) (nh : bP.length = iJ) (ow : iJ ≤ cK) (j7 : Ro F w a8 (e8.all au)) (jq : au.length = ef) (ke : ef ≤ ba) (k : Cx F O w w []) (r : Int) (hm : jl k_ bc dy bj bG cX aW ca av bB bP au = some r) :
    Calls Try.prog 37 (ad [I k_, .agg [I bc, I dy, I bj, I bG, .u32 cX, .u64 aW, .u32 ca, I av, I bB, sl cJ iJ cK, sl a8 ef ba]]) w (fun e w' => e = .returned (SV.val (I r)) ∧ Cx F O w w' []) := by
 unfold jl at hm
 subst nh
 subst jq
 refine calls [I k_, .agg [I bc, I dy, I bj, I bG, .u32 cX, .u64 aW, .u32 ca, I av, I bB, sl cJ bP.length cK, sl a8 au.length ba]] Try.func37 rfl (of_decide_eq_true (by kernel_rfl)) ?_
 refine ab <| ao <| ag <| gj [] 3 (.agg [I bc, I dy, I bj, I bG, .u32 cX, .u64 aW, .u32 ca, I av, I bB, sl cJ bP.length cK, sl a8 au.length ba]) [I bc, I dy, I bj, I bG, .u32 cX, .u64 aW, .u32 ca, I av, I bB, sl cJ bP.length cK, sl a8 au.length ba] (by kernel_rfl) k ?_
 intro g w_ da
 refine bn 1 [] (.kk .z) qe (by kernel_rfl) ?_
 refine af <| aa <| ab <| ao <| bn 1 [] (.n 10 (I k_) .a) qe (by kernel_rfl) ?_
 refine ag ?_
 obtain ⟨r_, dk, hm⟩ := ob hm
 refine aq [] 11 _ Fx (by kernel_rfl) (wj (F := N0) (O := N0) _ (Cx.refl _) _ dk) ?_
 rintro e_ lh ⟨rfl, dF⟩
 have en := da.call dF
 refine ⟨.eO [I r_.1, I r_.2.1, I r_.2.2], rfl, ?_⟩
 refine bn 7 [] (.n 6 (I r_.2.1) (.n 7 (I r_.2.2) (.ss .a))) qe (by kernel_rfl) ?_
 refine af <| aa <| ab <| ab <| bA [] (.n 16 (.b (decide (r_.2.1 = 0))) .a) qe (by kernel_rfl) ?_
 refine aa <| bb (r_.2.1 = 0) (by kernel_rfl) (fun hc => ?_) (fun hc => ?_)
 · rw [if_pos hc] at hm
   refine ab <| bA [] (.n 4 (I 1) .z) qe (by kernel_rfl) ?_
   refine aa <| aL (bI ?_)
   obtain rfl := Option.some.inj hm
   refine aM [I 1] qe (by kernel_rfl) ?_
   have eA := en.ck .z
   exact ⟨rfl, eA⟩
 rw [if_neg hc] at hm
 refine aS <| aa <| ab <| bA [] (.n 8 (I 1) (.s .a)) qe (by kernel_rfl) ?_
 refine aa <| kS (fun L wr => ∃ (least : Int), kf k_ bc dy bj bG aW ca av bB bP au r_ least = some r ∧ L = [(0, I k_), (3, pt g 0), (6, I r_.2.1), (7, I r_.2.2), (8, I least)] ∧ Cx F O w wr [Bx 83 g [I bc, I dy, I bj, I bG, .u32 cX, .u64 aW, .u32 ca, I av, I bB, sl cJ bP.length cK, sl a8 au.length ba]]) ?_ ?_
 ·
  refine ab <| bA [] (.n 19 (.b (decide (ca ≠ 0))) .a) (qs g 0 <| qB en 0 rfl 6 (.u32 ca) (by kernel_rfl) <| qe) (by kernel_rfl) ?_
  refine aa <| bb (ca ≠ 0) (by kernel_rfl) (fun kr => ?_) (fun kr => ?_)
  · rw [if_pos kr] at hm
    refine bA [] (.n 8 (I 0) (.ss .a)) qe (by kernel_rfl) ?_
    exact iy ⟨(0 : Int), hm, rfl, en⟩ (by kernel_rfl)
  rw [if_neg kr] at hm
  refine aS ?_
  exact iy ⟨(1 : Int), hm, rfl, en⟩ (by kernel_rfl)
 rintro L_ l4 ⟨least, hm, rfl, fJ⟩
 simp only [kf] at hm
 refine kS (fun L wr => mX  = some r ∧ L = [] ∧ Cx F O w wr []) ?_ ?_
 ·
  refine cu <| ab <| ao <| bn 3 [] (.n 22 (I bc) (.n 23 (I r_.2.1) .a)) (qs g 0 <| qB fJ 0 rfl 0 (I bc) (by kernel_rfl) <| qe) (by kernel_rfl) ?_
  refine ag ?_
  obtain ⟨ah, dt, hm⟩ := ob hm
  refine aq [] 24 _ vq (by kernel_rfl) (lE (F := N0) (O := N0) _ _ _ (Cx.refl _) _ dt) ?_
  rintro e_ qf ⟨rfl, gi⟩
  have fY := fJ.call gi
  refine ⟨.b ah, rfl, ?_⟩
  refine bn 2 [] (.n 20 (.b (!ah)) (.lj .a)) qe (by kernel_rfl) ?_
  refine af <| aa <| cw (!ah) (by kernel_rfl) (fun pf => ?_) (fun pf => ?_)
  · rw [if_pos pf] at hm
    refine ab <| bA [] (.n 4 (I 20) .z) qe (by kernel_rfl) ?_
    refine aa <| aL (gh (bI ?_))
    obtain rfl := Option.some.inj hm
    refine aM [I 20] qe (by kernel_rfl) ?_
    have fZ := fY.ck .z
    exact ⟨rfl, fZ⟩
  rw [if_neg (by rw [pf]; decide)] at hm
  refine ab <| ao <| bn 3 [] (.n 28 (I dy) (.n 29 (I r_.2.1) (.s .a))) (qs g 0 <| qB fY 0 rfl 1 (I dy) (by kernel_rfl) <| qe) (by kernel_rfl) ?_
  refine ag ?_
  obtain ⟨bh, gX, hm⟩ := ob hm
  refine aq [] 30 _ vq (by kernel_rfl) (lE (F := N0) (O := N0) _ _ _ (Cx.refl _) _ gX) ?_
  rintro e_ p7 ⟨rfl, gY⟩
  have dK := fY.call gY
  refine ⟨.b bh, rfl, ?_⟩
  refine bn 2 [] (.n 26 (.b (!bh)) (.lj .a)) qe (by kernel_rfl) ?_
  refine af <| aa <| cw (!bh) (by kernel_rfl) (fun ub => ?_) (fun ub => ?_)
  · rw [if_pos ub] at hm
    refine ab <| bA [] (.n 4 (I 8) .z) qe (by kernel_rfl) ?_
    refine aa <| aL (gh (bI ?_))
    obtain rfl := Option.some.inj hm
    refine aM [I 8] qe (by kernel_rfl) ?_
    have c_ := dK.ck .z
    exact ⟨rfl, c_⟩
  rw [if_neg (by rw [ub]; decide)] at hm
  refine ab <| ao <| bn 2 [] (.n 34 (I bj) (.s .a)) (qs g 0 <| qB dK 0 rfl 2 (I bj) (by kernel_rfl) <| qe) (by kernel_rfl) ?_
  refine ag ?_
  obtain ⟨cD, oV, hm⟩ := ob hm
  refine aq [] 35 _ vq (by kernel_rfl) (lE (F := N0) (O := N0) _ _ _ (Cx.refl _) _ oV) ?_
  rintro e_ sV ⟨rfl, ez⟩
  have dH := dK.call ez
  refine ⟨.b cD, rfl, ?_⟩
  refine bn 2 [] (.n 32 (.b (!cD)) (.ss .a)) qe (by kernel_rfl) ?_
  refine af <| aa <| cw (!cD) (by kernel_rfl) (fun w9 => ?_) (fun w9 => ?_)
  · rw [if_pos w9] at hm
    refine ab <| bA [] (.n 4 (I 21) .z) qe (by kernel_rfl) ?_
    refine aa <| aL (gh (bI ?_))
    obtain rfl := Option.some.inj hm
    refine aM [I 21] qe (by kernel_rfl) ?_
    have eX := dH.ck .z
    exact ⟨rfl, eX⟩
  rw [if_neg (by rw [w9]; decide)] at hm
  refine ab <| ao <| bn 3 [] (.n 39 (I bG) (.n 40 (I least) (.s (.aP .z)))) (qs g 0 <| qB dH 0 rfl 3 (I bG) (by kernel_rfl) <| qe) (by kernel_rfl) ?_
  refine ag ?_
  obtain ⟨fi, uX, hm⟩ := ob hm
  refine aq [] 41 _ vq (by kernel_rfl) (lE (F := N0) (O := N0) _ _ _ (Cx.refl _) _ uX) ?_
  rintro e_ wi ⟨rfl, iu⟩
  have fX := dH.call iu
  refine ⟨.b fi, rfl, ?_⟩
  refine bn 2 [] (.n 37 (.b (!fi)) (.lj .a)) qe (by kernel_rfl) ?_
  refine af <| aa <| cw (!fi) (by kernel_rfl) (fun uc => ?_) (fun uc => ?_)
  · rw [if_pos uc] at hm
    refine ab <| bA [] (.n 4 (I 22) .z) qe (by kernel_rfl) ?_
    refine aa <| aL (gh (bI ?_))
    obtain rfl := Option.some.inj hm
    refine aM [I 22] qe (by kernel_rfl) ?_
    have jY := fX.ck .z
    exact ⟨rfl, jY⟩
  rw [if_neg (by rw [uc]; decide)] at hm
  refine kS (fun L wr => ∃ (aC : Bool), lz k_ ca av bB bP au r_ aC = some r ∧ L = [(0, I k_), (3, pt g 0), (6, I r_.2.1), (7, I r_.2.2), (43, .b aC)] ∧ Cx F O w wr [Bx 83 g [I bc, I dy, I bj, I bG, .u32 cX, .u64 aW, .u32 ca, I av, I bB, sl cJ bP.length cK, sl a8 au.length ba]]) ?_ ?_
  ·
   refine ab <| bA [] (.n 43 (.b ((decide (ca ≠ 0)) && (decide ((4294967296 : UInt64) ≤ aW)))) (.s .a)) (qs g 0 <| qB fX 0 rfl 6 (.u32 ca) (by kernel_rfl) <| qp ((decide (ca ≠ 0)) = true → (some ⟨g, 0, none⟩ : Option Addr).isSome = true) (fun Gl => rfl) <| qo (.u64 aW) <| qc (fun w => (decide (ca ≠ 0)) = true → ∃ a, (some ⟨g, 5, none⟩ : Option Addr) = some a ∧ w.cell? a = some (SV.val (.u64 aW))) (fun Gl => fX.OB 0 rfl 5 (.u64 aW) (by kernel_rfl)) <| qe) (by kernel_rfl) ?_
   refine aa <| cw ((decide (ca ≠ 0)) && (decide ((4294967296 : UInt64) ≤ aW))) (by kernel_rfl) (fun ud => ?_) (fun ud => ?_)
   · rw [if_pos ud] at hm
     refine aS ?_
     exact iy ⟨(decide (ca ≠ 0)) && (decide ((4294967296 : UInt64) ≤ aW)), hm, rfl, fX⟩ (by kernel_rfl)
   rw [if_neg (by rw [ud]; decide)] at hm
   refine bA [] (.n 43 (.b (((decide (ca = 0)) && (decide (k_ = 2))) && (decide ((281474976710656 : UInt64) ≤ aW)))) (.s .a)) (qs g 0 <| qB fX 0 rfl 6 (.u32 ca) (by kernel_rfl) <| qp (((decide (ca = 0)) && (decide (k_ = 2))) = true → (some ⟨g, 0, none⟩ : Option Addr).isSome = true) (fun Gl => rfl) <| qo (.u64 aW) <| qc (fun w => ((decide (ca = 0)) && (decide (k_ = 2))) = true → ∃ a, (some ⟨g, 5, none⟩ : Option Addr) = some a ∧ w.cell? a = some (SV.val (.u64 aW))) (fun Gl => fX.OB 0 rfl 5 (.u64 aW) (by kernel_rfl)) <| qe) (by kernel_rfl) ?_
   exact iy ⟨((decide (ca = 0)) && (decide (k_ = 2))) && (decide ((281474976710656 : UInt64) ≤ aW)), hm, rfl, fX⟩ (by kernel_rfl)
  rintro L_ vO ⟨aC, hm, rfl, iK⟩
  simp only [lz] at hm
  refine cw aC (by kernel_rfl) (fun FH => ?_) (fun FH => ?_)
  · rw [if_pos FH] at hm
    refine ab <| bA [] (.n 4 (I 23) .z) qe (by kernel_rfl) ?_
    refine aa <| aL (gh (bI ?_))
    obtain rfl := Option.some.inj hm
    refine aM [I 23] qe (by kernel_rfl) ?_
    have kt := iK.ck .z
    exact ⟨rfl, kt⟩
  rw [if_neg (by rw [FH]; decide)] at hm
  refine ab <| bA [] (.n 64 (.b ((decide (k_ = 2)) && (decide ((65535 : UInt32) < ca)))) (.s (.ua .z))) (qp ((decide (k_ = 2)) = true → (some ⟨g, 0, none⟩ : Option Addr).isSome = true) (fun Gl => rfl) <| qo (.u32 ca) <| qc (fun w => (decide (k_ = 2)) = true → ∃ a, (some ⟨g, 6, none⟩ : Option Addr) = some a ∧ w.cell? a = some (SV.val (.u32 ca))) (fun Gl => iK.OB 0 rfl 6 (.u32 ca) (by kernel_rfl)) <| qe) (by kernel_rfl) ?_
  refine aa <| cw ((decide (k_ = 2)) && (decide ((65535 : UInt32) < ca))) (by kernel_rfl) (fun Ev => ?_) (fun Ev => ?_)
  · rw [if_pos Ev] at hm
    refine ab <| bA [] (.n 4 (I 24) .z) qe (by kernel_rfl) ?_
    refine aa <| aL (gh (bI ?_))
    obtain rfl := Option.some.inj hm
    refine aM [I 24] qe (by kernel_rfl) ?_
    have kg := iK.ck .z
    exact ⟨rfl, kg⟩
  rw [if_neg (by rw [Ev]; decide)] at hm
  refine ab <| ao <| bn 2 [] (.n 74 (I av) (.s .a)) (qs g 0 <| qB iK 0 rfl 7 (I av) (by kernel_rfl) <| qe) (by kernel_rfl) ?_
  refine ag ?_
  obtain ⟨bH, z1, hm⟩ := ob hm
  refine aq [] 75 _ vq (by kernel_rfl) (lE (F := N0) (O := N0) _ _ _ (Cx.refl _) _ z1) ?_
  rintro e_ Av ⟨rfl, lW⟩
  have mh := iK.call lW
  refine ⟨.b bH, rfl, ?_⟩
  refine bn 2 [] (.n 72 (.b (!bH)) (.ss .a)) qe (by kernel_rfl) ?_
  refine af <| aa <| cw (!bH) (by kernel_rfl) (fun Ku => ?_) (fun Ku => ?_)
  · rw [if_pos Ku] at hm
    refine ab <| bA [] (.n 4 (I 25) .z) qe (by kernel_rfl) ?_
    refine aa <| aL (gh (bI ?_))
    obtain rfl := Option.some.inj hm
    refine aM [I 25] qe (by kernel_rfl) ?_
    have mo := mh.ck .z
    exact ⟨rfl, mo⟩
  rw [if_neg (by rw [Ku]; decide)] at hm
  refine ab <| ao <| bn 3 [] (.n 79 (I bB) (.n 80 (I r_.2.1) (.s (.k (.s .a))))) (qs g 0 <| qB mh 0 rfl 8 (I bB) (by kernel_rfl) <| qe) (by kernel_rfl) ?_
  refine ag ?_
  obtain ⟨cW, Dd, hm⟩ := ob hm
  refine aq [] 81 _ vq (by kernel_rfl) (lE (F := N0) (O := N0) _ _ _ (Cx.refl _) _ Dd) ?_
  rintro e_ De ⟨rfl, lX⟩
  have qZ := mh.call lX
  refine ⟨.b cW, rfl, ?_⟩
  refine bn 2 [] (.n 77 (.b (!cW)) (.lj .a)) qe (by kernel_rfl) ?_
  refine af <| aa <| cw (!cW) (by kernel_rfl) (fun Ew => ?_) (fun Ew => ?_)
  · rw [if_pos Ew] at hm
    refine ab <| bA [] (.n 4 (I 26) .z) qe (by kernel_rfl) ?_
    refine aa <| aL (gh (bI ?_))
    obtain rfl := Option.some.inj hm
    refine aM [I 26] qe (by kernel_rfl) ?_
    have rT := qZ.ck .z
    exact ⟨rfl, rT⟩
  rw [if_neg (by rw [Ew]; decide)] at hm
  refine ab <| bA [] (.n 83 (.b (decide (r_.2.2 < ((bP.length : Nat) : Int)))) (.s .a)) (qs g 0 <| qB qZ 0 rfl 9 (sl cJ bP.length cK) (by kernel_rfl) <| qe) (by kernel_rfl) ?_
  refine aa <| bb (r_.2.2 < ((bP.length : Nat) : Int)) (by kernel_rfl) (fun MG => ?_) (fun MG => ?_)
  · rw [if_pos MG] at hm
    refine ab <| bA [] (.n 4 (I 27) .z) qe (by kernel_rfl) ?_
    refine aa <| aL (gh (bI ?_))
    obtain rfl := Option.some.inj hm
    refine aM [I 27] qe (by kernel_rfl) ?_
    have vP := qZ.ck .z
    exact ⟨rfl, vP⟩
  rw [if_neg MG] at hm
  refine ab <| bA [] (.n 89 (.b (decide (r_.2.2 < ((au.length : Nat) : Int)))) .z) (qs g 0 <| qB qZ 0 rfl 10 (sl a8 au.length ba) (by kernel_rfl) <| qe) (by kernel_rfl) ?_
  refine aa <| bb (r_.2.2 < ((au.length : Nat) : Int)) (by kernel_rfl) (fun MH => ?_) (fun MH => ?_)
  · rw [if_pos MH] at hm
    refine ab <| bA [] (.n 4 (I 28) .z) qe (by kernel_rfl) ?_
    refine aa <| aL (gh (bI ?_))
    obtain rfl := Option.some.inj hm
    refine aM [I 28] qe (by kernel_rfl) ?_
    have tB := qZ.ck .z
    exact ⟨rfl, tB⟩
  rw [if_neg MH] at hm
  refine aS <| hH ?_
  have vQ := qZ.ck .z
  exact iy ⟨hm, rfl, vQ⟩ (by kernel_rfl)
 rintro L_ z6 ⟨hm, rfl, yp⟩
 simp only [mX] at hm
 refine ab <| bA [] (.n 4 (I 0) .a) qe (by kernel_rfl) ?_
 refine aa <| aL ?_
 obtain rfl := Option.some.inj hm
 refine aM [I 0] qe (by kernel_rfl) ?_
 exact ⟨rfl, yp⟩
theorem AG {F O : Nat → Prop} {w : World} (key : List UInt8) (dx : List UInt8) (bJ : List UInt8) (kI : Option Addr) (dD : Nat) (kJ : Nat) (gT : Option Addr) (nC : Nat) (gW : Nat) (cS : Option Addr) (gC : Nat) (cT : Nat) (uV : Ro F w kI (e8.all key)) (rB : key.length = dD) (su : dD ≤ kJ) (uW : Ro F w gT (e8.all dx)) (tA : dx.length = nC) (sa : nC ≤ gW) (mN : Ro F w cS (e8.all bJ)) (mO : bJ.length = gC) (lN : gC ≤ cT) (k : Cx F O w w []) (r : Int) (hm : nG key dx bJ = some r) :
    Calls Try.prog 26 (ad [I 1, I (-1), sl kI dD kJ, sl gT nC gW, sl cS gC cT]) w (fun e w' => e = .returned (SV.val (.eO [.agg [I 1, I 64, .u32 4294967295, .u64 274877906944, .b false], I r])) ∧ Cx F O w w' []) := by
 unfold nG at hm
 subst rB
 subst tA
 subst mO
 refine calls [I 1, I (-1), sl kI key.length kJ, sl gT dx.length gW, sl cS bJ.length cT] Try.func26 rfl (of_decide_eq_true (by kernel_rfl)) ?_
 refine ab <| ao <| ag <| bY [] 10 [I 0, I 0, .u32 0, .u64 0, .b false] (by kernel_rfl) k ?_
 intro g w_ k_
 refine bn 1 [] .a qe (by kernel_rfl) ?_
 refine af <| aa <| ab <| ao <| bn 2 [] (.n 15 (I 1) (.n 16 (I (-1)) (.kk (.s .a)))) qe (by kernel_rfl) ?_
 refine ag ?_
 obtain ⟨r_, dk, hm⟩ := ob hm
 refine aq [] 17 _ JX (by kernel_rfl) (zZ (F := N0) (O := N0)  (Cx.refl _) _ dk) ?_
 rintro e_ lh ⟨rfl, da⟩
 have dF := k_.call da
 refine ⟨.eO [.agg [I 1, I 64, .u32 4294967295, .u64 274877906944, .b false], .b true], rfl, ?_⟩
 refine bn 3 [] (.n 18 (.agg [I 1, I 64, .u32 4294967295, .u64 274877906944, .b false]) (.n 19 (.b true) (.lj .a))) qe (by kernel_rfl) ?_
 refine ag <| bY [] 12 [I 0, I 0, .u32 0, .u64 0, .b false] (by kernel_rfl) dF ?_
 intro g1 l4 en
 refine ag <| ey [] 1 (.agg [I 1, I 64, .u32 4294967295, .u64 274877906944, .b false]) [I 1, I 64, .u32 4294967295, .u64 274877906944, .b false] (Pt.at g1 0) en rfl .all (by kernel_rfl) (by kernel_rfl) ?_
 intro qf eA
 refine bn 1 [] (.n 13 (.b true) (.k (.ss .a))) qe (by kernel_rfl) ?_
 refine af <| aa <| ab <| ab <| bA [] (.n 21 (.b false) (.s .a)) qe (by kernel_rfl) ?_
 refine aa <| cw false (by kernel_rfl) (fun h => by cases h) (fun _ => ?_)
 refine aS <| aa <| ab <| ab <| bA [] (.n 27 (.b (decide (64 < ((key.length : Nat) : Int)))) (.s .a)) (qs g1 0 <| qB eA 1 rfl 1 (I 64) (by kernel_rfl) <| qe) (by kernel_rfl) ?_
 refine aa <| bb (64 < ((key.length : Nat) : Int)) (by kernel_rfl) (fun hc => ?_) (fun hc => ?_)
 · rw [if_pos hc] at hm
   refine ab <| ao <| bn 1 [] (.n 28 (.agg [I 1, I 64, .u32 4294967295, .u64 274877906944, .b false]) (.ss (.k .z))) (qT eA 1 rfl 0 5 [I 1, I 64, .u32 4294967295, .u64 274877906944, .b false] (by kernel_rfl) (by decide) <| qe) (by kernel_rfl) ?_
   refine ag ?_
   have fJ := eA.ck (.kk .e)
   refine ey [] 0 (.agg [I 1, I 64, .u32 4294967295, .u64 274877906944, .b false]) [I 1, I 64, .u32 4294967295, .u64 274877906944, .b false] (Pt.at g 0) fJ rfl .all (by kernel_rfl) (by kernel_rfl) ?_
   intro p7 gi
   have fY := gi.ck (.k .z)
   refine bn 1 [] (.n 11 (I 8) (.s .a)) qe (by kernel_rfl) ?_
   refine af <| aa <| aL (bI ?_)
   obtain rfl := Option.some.inj hm
   refine aM [.agg [I 1, I 64, .u32 4294967295, .u64 274877906944, .b false], I 8] (qo (.agg [I 1, I 64, .u32 4294967295, .u64 274877906944, .b false]) <| qc (fun w => Rd w (some ⟨g, 0, none⟩) (SV.cl [I 1, I 64, .u32 4294967295, .u64 274877906944, .b false])) (fY.uq 0 rfl) <| qe) (by kernel_rfl) ?_
   have fZ := fY.ck .z
   exact ⟨rfl, fZ⟩
 rw [if_neg hc] at hm
 refine aS <| aa <| ab ?_
 have gY := eA.drew 1
 refine qy bw (.q 1 1 (.q 2 1 (.q 3 1 (.q 4 1 (.q 5 1 (.q 0 2 (.op 6 (.op 7 (.op 8 (.q 9 3 .nil)))))))))) [6, 7, 8] gY (.c (.kk .e) (.c (.kk .e) (.c (.s (.k .e)) .l))) (by kernel_rfl) (fun _ => ?_)
 refine bx 5 1 [] (.n 30 (I 1) (.n 31 (.agg [I 1, I 64, .u32 4294967295, .u64 274877906944, .b false]) (.n 32 (sl kI key.length kJ) (.n 33 (sl gT dx.length gW) (.n 34 (sl cS bJ.length cT) (.s (.kk .z))))))) (fun x hx => qT hx 1 rfl 0 5 [I 1, I 64, .u32 4294967295, .u64 274877906944, .b false] (by kernel_rfl) (by decide) <| qe) (by kernel_rfl) (fun _ => ?_)
 refine bx 1 2 [] (.n 29 (.agg [I 1, I 64, .u32 4294967295, .u64 274877906944, .b false]) (.aP (.k (.s .a)))) (fun x hx => qT hx 1 rfl 0 5 [I 1, I 64, .u32 4294967295, .u64 274877906944, .b false] (by kernel_rfl) (by decide) <| qe) (by kernel_rfl) (fun _ => ?_)
 refine bZ (by kernel_rfl) rfl ?_
 have dK := gY.ck (.kk .e)
 obtain ⟨ah, dt, hm⟩ := ob hm
 refine aq [] 35 _ Fo (by kernel_rfl) (rA (F := N0) (O := N0) _ _ _ _ _ _ _ _ _ _ _ _ (Ro.n0 (uV.cx dK)) rfl su (Ro.n0 (uW.cx dK)) rfl sa (Ro.n0 (mN.cx dK)) rfl lN (Cx.refl _) _ dt) ?_
 rintro e_ sV ⟨rfl, c_⟩
 have ez := dK.call c_
 refine ⟨.agg [I 64, I ah, I 1, I 1, .u32 0, .u64 0, .u32 4294967295, I 0, I 0, sl gT dx.length gW, sl cS bJ.length cT], rfl, ?_⟩
 refine ⟨ez, fun _ => ?_⟩
 refine bZ (by kernel_rfl) rfl ?_
 obtain ⟨bh, gX, hm⟩ := ob hm
 refine aq [] 36 _ Fm (by kernel_rfl) (wk (F := N0) (O := N0) _ _ _ _ _ _ _ _ _ _ _ _ _ _ _ _ _ _ (Ro.n0 (uW.cx ez)) rfl sa (Ro.n0 (mN.cx ez)) rfl lN (Cx.refl _) _ gX) ?_
 rintro e_ wi ⟨rfl, dH⟩
 have eX := ez.call dH
 refine ⟨I bh, rfl, ?_⟩
 refine ⟨eX, fun _ => ?_⟩
 refine bZ (by kernel_rfl) rfl <| ey [] 0 (.agg [I 1, I 64, .u32 4294967295, .u64 274877906944, .b false]) [I 1, I 64, .u32 4294967295, .u64 274877906944, .b false] (Pt.at g 0) eX rfl .all (by kernel_rfl) (by kernel_rfl) ?_
 intro vO iu
 refine ⟨(iu.ck (.s (.k .e))), fun _ => ?_⟩
 refine bx 1 3 [] (.n 11 (I bh) (.fQ (.fQ .a))) (fun x hx => qe) (by kernel_rfl) (fun _ => ?_)
 refine ct <| aa <| aL ?_
 obtain rfl := Option.some.inj hm
 refine aM [.agg [I 1, I 64, .u32 4294967295, .u64 274877906944, .b false], I bh] (qo (.agg [I 1, I 64, .u32 4294967295, .u64 274877906944, .b false]) <| qc (fun w => Rd w (some ⟨g, 0, none⟩) (SV.cl [I 1, I 64, .u32 4294967295, .u64 274877906944, .b false])) (iu.uq 0 rfl) <| qe) (by kernel_rfl) ?_
 have fX := iu.ck .z
 exact ⟨rfl, fX⟩
theorem uY {F O : Nat → Prop} {w : World} (b : List UInt8) (l8 : Option Addr) (o6 : Nat) (mq : Nat) (qu : Ro F w l8 (e8.all b)) (qv : b.length = o6) (rC : o6 ≤ mq) (k : Cx F O w w []) (r : (List UInt8)) (hm : mG b = some r) :
    Calls Try.prog 27 (ad [sl l8 o6 mq]) w (fun e w' => ∃ A n c, r.length = n ∧ e = .returned (SV.val (sl A n c)) ∧ Cx F O w w' [Ow e8 A n c r]) := by
 unfold mG at hm
 subst qv
 refine calls [sl l8 b.length mq] Try.func27 rfl (of_decide_eq_true (by kernel_rfl)) ?_
 refine ab <| bA [] .a qe (by kernel_rfl) ?_
 refine aa <| ab <| ao <| bn 1 [] (.n 3 (sl l8 b.length mq) .z) qe (by kernel_rfl) ?_
 refine ag ?_
 have k_ := k.nil e8
 obtain ⟨b1, wP, hm⟩ := ob hm
 obtain ⟨hz, hl⟩ := kV wP
 refine jG (E := e8) (v := sl l8 b.length mq) (ys := b) im [] 4 0 (by kernel_rfl) k_ rfl (Src.sl (qu.cx k_) rfl (by rfl)) rfl (by have := k_.len 0 rfl; have := hm; omega) ?_
 intro A0 c0 w_ da
 rw [← hl] at da
 refine bn 1 [] (.n 2 (sl A0 (0 + b.length) c0) .z) qe (by kernel_rfl) ?_
 refine af <| aa <| aL ?_
 obtain rfl := Option.some.inj hm
 refine aM [sl A0 (0 + b.length) c0] qe (by kernel_rfl) ?_
 exact ⟨A0, 0 + b.length, c0, da.len 0 rfl, rfl, da⟩
theorem Cg {F O : Nat → Prop} {w : World} (k_ : Int) (k : Cx F O w w []) (r : (List (Int × Int × Int × List UInt8 × Int))) (hm : lQ k_ = some r) :
    Calls Try.prog 60 (ad [I k_]) w (fun e w' => ∃ A n c, r.length = n ∧ e = .returned (SV.val (sl A n c)) ∧ Cx F O w w' [Ow (eP eI (eP eI (eP eI (eP eS eI)))) A n c r]) := by
 unfold lQ at hm
 refine calls [I k_] Try.func60 rfl (of_decide_eq_true (by kernel_rfl)) ?_
 refine ab <| bA [] .a qe (by kernel_rfl) ?_
 refine aa <| ab <| ao <| bn 9 [] (.n 5 (.agg [I 1, I 0, I 1, .s ([100, 105, 103, 101, 115, 116] : List UInt8), I 20]) (.n 6 (.agg [I 2, I 1, I 1, .s ([107, 101, 121] : List UInt8), I 8]) (.n 7 (.agg [I 3, I 2, I 1, .s ([102, 97, 110, 111, 117, 116] : List UInt8), I 21]) (.n 8 (.agg [I 4, I 3, I 1, .s ([100, 101, 112, 116, 104] : List UInt8), I 22]) (.n 9 (.agg [I 5, I 4, I 4, .s ([108, 101, 97, 102] : List UInt8), I 1]) (.n 10 (.agg [I 6, I 8, I 8, .s ([111, 102, 102, 115, 101, 116] : List UInt8), I 23]) (.n 11 (.agg [I 7, I 12, I 4, .s ([120, 111, 102] : List UInt8), I 24]) (.n 12 (.agg [I 8, I 16, I 1, .s ([110, 111, 100, 101] : List UInt8), I 25]) (.n 13 (.agg [I 9, I 17, I 1, .s ([105, 110, 110, 101, 114] : List UInt8), I 26]) .a))))))))) qe (by kernel_rfl) ?_
 refine ag <| E1 HO (eP eI (eP eI (eP eI (eP eS eI)))) [] 14 ([((1 : Int), (0 : Int), (1 : Int), ([100, 105, 103, 101, 115, 116] : List UInt8), (20 : Int)), ((2 : Int), (1 : Int), (1 : Int), ([107, 101, 121] : List UInt8), (8 : Int)), ((3 : Int), (2 : Int), (1 : Int), ([102, 97, 110, 111, 117, 116] : List UInt8), (21 : Int)), ((4 : Int), (3 : Int), (1 : Int), ([100, 101, 112, 116, 104] : List UInt8), (22 : Int)), ((5 : Int), (4 : Int), (4 : Int), ([108, 101, 97, 102] : List UInt8), (1 : Int)), ((6 : Int), (8 : Int), (8 : Int), ([111, 102, 102, 115, 101, 116] : List UInt8), (23 : Int)), ((7 : Int), (12 : Int), (4 : Int), ([120, 111, 102] : List UInt8), (24 : Int)), ((8 : Int), (16 : Int), (1 : Int), ([110, 111, 100, 101] : List UInt8), (25 : Int)), ((9 : Int), (17 : Int), (1 : Int), ([105, 110, 110, 101, 114] : List UInt8), (26 : Int))] : List (Int × Int × Int × List UInt8 × Int)) [(0, .agg [I 1, I 0, I 1, .s ([100, 105, 103, 101, 115, 116] : List UInt8), I 20]), (1, .agg [I 2, I 1, I 1, .s ([107, 101, 121] : List UInt8), I 8]), (2, .agg [I 3, I 2, I 1, .s ([102, 97, 110, 111, 117, 116] : List UInt8), I 21]), (3, .agg [I 4, I 3, I 1, .s ([100, 101, 112, 116, 104] : List UInt8), I 22]), (4, .agg [I 5, I 4, I 4, .s ([108, 101, 97, 102] : List UInt8), I 1]), (5, .agg [I 6, I 8, I 8, .s ([111, 102, 102, 115, 101, 116] : List UInt8), I 23]), (6, .agg [I 7, I 12, I 4, .s ([120, 111, 102] : List UInt8), I 24]), (7, .agg [I 8, I 16, I 1, .s ([110, 111, 100, 101] : List UInt8), I 25]), (8, .agg [I 9, I 17, I 1, .s ([105, 110, 110, 101, 114] : List UInt8), I 26])] [I 1, I 0, I 1, .s ([100, 105, 103, 101, 115, 116] : List UInt8), I 20, I 2, I 1, I 1, .s ([107, 101, 121] : List UInt8), I 8, I 3, I 2, I 1, .s ([102, 97, 110, 111, 117, 116] : List UInt8), I 21, I 4, I 3, I 1, .s ([100, 101, 112, 116, 104] : List UInt8), I 22, I 5, I 4, I 4, .s ([108, 101, 97, 102] : List UInt8), I 1, I 6, I 8, I 8, .s ([111, 102, 102, 115, 101, 116] : List UInt8), I 23, I 7, I 12, I 4, .s ([120, 111, 102] : List UInt8), I 24, I 8, I 16, I 1, .s ([110, 111, 100, 101] : List UInt8), I 25, I 9, I 17, I 1, .s ([105, 110, 110, 101, 114] : List UInt8), I 26] (by kernel_rfl) (by kernel_rfl) (by kernel_rfl) k ?_
 intro A0 w_ da
 refine bn 1 [] (.n 3 (sl A0 9 9) (.fQ (.fQ (.ss .a)))) qe (by kernel_rfl) ?_
 refine af <| aa <| ab <| ab <| bA [] (.n 16 (.b (decide (k_ = 1))) (.k .z)) qe (by kernel_rfl) ?_
 refine aa <| bb (k_ = 1) (by kernel_rfl) (fun hc => ?_) (fun hc => ?_)
 · rw [if_pos hc] at hm
   refine ab <| bA [] (.n 2 (sl A0 9 9) .z) qe (by kernel_rfl) ?_
   refine aa <| aL (bI ?_)
   obtain rfl := Option.some.inj hm
   refine aM [sl A0 9 9] qe (by kernel_rfl) ?_
   exact ⟨A0, 9, 9, da.len 0 rfl, rfl, da⟩
 rw [if_neg hc] at hm
 refine aS <| aa <| ab <| bA [] (.n 4 (sl A0 9 9) .z) qe (by kernel_rfl) ?_
 refine aa <| ab <| ao ?_
 obtain ⟨aC, rD, hm⟩ := ob hm
 refine bn 4 [] (.n 20 (sl A0 9 9) (.n 22 (.v (.pointer (fa (nv A0 (5 : Int) 5) 2))) .a)) (qJ (da.rd 0 rfl) rD (da.len 0 rfl) <| qS (A := nv A0 (5 : Int) 5) (xn _ _ (y1 (E := (eP eI (eP eI (eP eI (eP eS eI))))) (da.rd 0 rfl) (by decide) (kE rD).1 (eC rD).2)) <| qe) (by kernel_rfl) ?_
 refine ag <| zH (E := (eP eI (eP eI (eP eI (eP eS eI))))) (kk := 2) (sv := I 6) (svs := [I 6]) [] 0 (aC.1, aC.2.1, (6 : Int), aC.2.2.2.1, aC.2.2.2.2) (by kernel_rfl) (Pt.Q2 (Pt.x6 A0 (5 : Int) 5) 2) da rfl (eC rD).2 (y1 (E := (eP eI (eP eI (eP eI (eP eS eI))))) (da.rd 0 rfl) (by decide) (kE rD).1 (eC rD).2) rfl (Nat.le_of_ble_eq_true (by kernel_rfl)) ?_
 intro lh dF
 obtain ⟨eL, jC, hm⟩ := ob hm
 refine bn 2 [] (.n 24 (.v (.pointer (fa (nv A0 (6 : Int) 5) 2))) (.ss .a)) (qJ (dF.rd 0 rfl) jC (dF.len 0 rfl) <| qS (A := nv A0 (6 : Int) 5) (xn _ _ (y1 (E := (eP eI (eP eI (eP eI (eP eS eI))))) (dF.rd 0 rfl) (by decide) (kE jC).1 (eC jC).2)) <| qe) (by kernel_rfl) ?_
 refine ag <| zH (E := (eP eI (eP eI (eP eI (eP eS eI))))) (kk := 2) (sv := I 2) (svs := [I 2]) [] 0 (eL.1, eL.2.1, (2 : Int), eL.2.2.2.1, eL.2.2.2.2) (by kernel_rfl) (Pt.Q2 (Pt.x6 A0 (6 : Int) 5) 2) dF rfl (eC jC).2 (y1 (E := (eP eI (eP eI (eP eI (eP eS eI))))) (dF.rd 0 rfl) (by decide) (kE jC).1 (eC jC).2) rfl (Nat.le_of_ble_eq_true (by kernel_rfl)) ?_
 intro l4 en
 refine af <| aa <| ab <| ao ?_
 obtain ⟨ej, jk, hm⟩ := ob hm
 refine bn 4 [] (.n 26 (sl A0 9 9) (.n 28 (.v (.pointer (fa (nv A0 (7 : Int) 5) 1))) (.s .a))) (qJ (en.rd 0 rfl) jk (en.len 0 rfl) <| qS (A := nv A0 (7 : Int) 5) (xn _ _ (y1 (E := (eP eI (eP eI (eP eI (eP eS eI))))) (en.rd 0 rfl) (by decide) (kE jk).1 (eC jk).2)) <| qe) (by kernel_rfl) ?_
 refine ag <| zH (E := (eP eI (eP eI (eP eI (eP eS eI))))) (kk := 1) (sv := I 14) (svs := [I 14]) [] 0 (ej.1, (14 : Int), ej.2.2.1, ej.2.2.2.1, ej.2.2.2.2) (by kernel_rfl) (Pt.Q2 (Pt.x6 A0 (7 : Int) 5) 1) en rfl (eC jk).2 (y1 (E := (eP eI (eP eI (eP eI (eP eS eI))))) (en.rd 0 rfl) (by decide) (kE jk).1 (eC jk).2) rfl (Nat.le_of_ble_eq_true (by kernel_rfl)) ?_
 intro qf eA
 obtain ⟨fg, jZ, hm⟩ := ob hm
 refine bn 2 [] (.n 30 (.v (.pointer (fa (nv A0 (8 : Int) 5) 1))) (.ss .a)) (qJ (eA.rd 0 rfl) jZ (eA.len 0 rfl) <| qS (A := nv A0 (8 : Int) 5) (xn _ _ (y1 (E := (eP eI (eP eI (eP eI (eP eS eI))))) (eA.rd 0 rfl) (by decide) (kE jZ).1 (eC jZ).2)) <| qe) (by kernel_rfl) ?_
 refine ag ?_
 have fJ := eA.ck (.k .e)
 refine zH (E := (eP eI (eP eI (eP eI (eP eS eI))))) (kk := 1) (sv := I 15) (svs := [I 15]) [] 0 (fg.1, (15 : Int), fg.2.2.1, fg.2.2.2.1, fg.2.2.2.2) (by kernel_rfl) (Pt.Q2 (Pt.x6 A0 (8 : Int) 5) 1) fJ rfl (eC jZ).2 (y1 (E := (eP eI (eP eI (eP eI (eP eS eI))))) (fJ.rd 0 rfl) (by decide) (kE jZ).1 (eC jZ).2) rfl (Nat.le_of_ble_eq_true (by kernel_rfl)) ?_
 intro p7 gi
 refine af <| aa <| ab <| bA [] (.n 2 (sl A0 9 9) .z) qe (by kernel_rfl) ?_
 refine aa <| aL ?_
 obtain rfl := Option.some.inj hm
 refine aM [sl A0 9 9] qe (by kernel_rfl) ?_
 exact ⟨A0, 9, 9, gi.len 0 rfl, rfl, gi⟩
theorem AH {F O : Nat → Prop} {w : World} (bc : Int) (dy : Int) (bj : Int) (bG : Int) (cX : UInt32) (aW : UInt64) (ca : UInt32) (av : Int) (bB : Int) (bP : List UInt8) (au : List UInt8) (field : Int) (cJ : Option Addr) (iJ : Nat) (cK : Nat) (a8 : Option Addr) (ef : Nat) (ba : Nat) (oU : Ro F w cJ (e8.all bP)) (nh : bP.length = iJ) (ow : iJ ≤ cK) (j7 : Ro F w a8 (e8.all au)) (jq : au.length = ef) (ke : ef ≤ ba) (k : Cx F O w w []) (r : UInt64) (hm : pA bc dy bj bG cX aW ca av bB bP au field = some r) :
    Calls Try.prog 62 (ad [.agg [I bc, I dy, I bj, I bG, .u32 cX, .u64 aW, .u32 ca, I av, I bB, sl cJ iJ cK, sl a8 ef ba], I field]) w (fun e w' => e = .returned (SV.val (.u64 r)) ∧ Cx F O w w' []) := by
 unfold pA at hm
 subst nh
 subst jq
 refine calls [.agg [I bc, I dy, I bj, I bG, .u32 cX, .u64 aW, .u32 ca, I av, I bB, sl cJ bP.length cK, sl a8 au.length ba], I field] Try.func62 rfl (of_decide_eq_true (by kernel_rfl)) ?_
 refine ab <| ao <| ag <| gj [] 2 (.agg [I bc, I dy, I bj, I bG, .u32 cX, .u64 aW, .u32 ca, I av, I bB, sl cJ bP.length cK, sl a8 au.length ba]) [I bc, I dy, I bj, I bG, .u32 cX, .u64 aW, .u32 ca, I av, I bB, sl cJ bP.length cK, sl a8 au.length ba] (by kernel_rfl) k ?_
 intro g w_ k_
 refine bn 1 [] (.k (.s .a)) qe (by kernel_rfl) ?_
 refine af <| aa <| ab <| ab <| bA [] (.n 5 (I field) (.k .z)) qe (by kernel_rfl) ?_
 refine aa <| cu <| ab <| bA [] (.n 6 (.b (decide (field = 1))) .a) qe (by kernel_rfl) ?_
 refine aa <| bb (field = 1) (by kernel_rfl) (fun hc => ?_) (fun hc => ?_)
 · rw [if_pos hc] at hm
   refine ab <| bA [] (.n 4 (.u64 (UInt64.ofInt bc)) .z) (qs g 0 <| qB k_ 0 rfl 0 (I bc) (by kernel_rfl) <| qe) (by kernel_rfl) ?_
   refine aa <| aL (gh (bI ?_))
   obtain rfl := Option.some.inj hm
   refine aM [.u64 (UInt64.ofInt bc)] qe (by kernel_rfl) ?_
   have da := k_.ck .z
   exact ⟨rfl, da⟩
 rw [if_neg hc] at hm
 refine ab <| bA [] (.n 11 (.b (decide (field = 2))) (.s .a)) qe (by kernel_rfl) ?_
 refine aa <| bb (field = 2) (by kernel_rfl) (fun kr => ?_) (fun kr => ?_)
 · rw [if_pos kr] at hm
   refine ab <| bA [] (.n 4 (.u64 (UInt64.ofInt dy)) .z) (qs g 0 <| qB k_ 0 rfl 1 (I dy) (by kernel_rfl) <| qe) (by kernel_rfl) ?_
   refine aa <| aL (gh (bI ?_))
   obtain rfl := Option.some.inj hm
   refine aM [.u64 (UInt64.ofInt dy)] qe (by kernel_rfl) ?_
   have dF := k_.ck .z
   exact ⟨rfl, dF⟩
 rw [if_neg kr] at hm
 refine ab <| bA [] (.n 16 (.b (decide (field = 3))) (.s .a)) qe (by kernel_rfl) ?_
 refine aa <| bb (field = 3) (by kernel_rfl) (fun pf => ?_) (fun pf => ?_)
 · rw [if_pos pf] at hm
   refine ab <| bA [] (.n 4 (.u64 (UInt64.ofInt bj)) .z) (qs g 0 <| qB k_ 0 rfl 2 (I bj) (by kernel_rfl) <| qe) (by kernel_rfl) ?_
   refine aa <| aL (gh (bI ?_))
   obtain rfl := Option.some.inj hm
   refine aM [.u64 (UInt64.ofInt bj)] qe (by kernel_rfl) ?_
   have en := k_.ck .z
   exact ⟨rfl, en⟩
 rw [if_neg pf] at hm
 refine ab <| bA [] (.n 21 (.b (decide (field = 4))) (.s .a)) qe (by kernel_rfl) ?_
 refine aa <| bb (field = 4) (by kernel_rfl) (fun ub => ?_) (fun ub => ?_)
 · rw [if_pos ub] at hm
   refine ab <| bA [] (.n 4 (.u64 (UInt64.ofInt bG)) .z) (qs g 0 <| qB k_ 0 rfl 3 (I bG) (by kernel_rfl) <| qe) (by kernel_rfl) ?_
   refine aa <| aL (gh (bI ?_))
   obtain rfl := Option.some.inj hm
   refine aM [.u64 (UInt64.ofInt bG)] qe (by kernel_rfl) ?_
   have eA := k_.ck .z
   exact ⟨rfl, eA⟩
 rw [if_neg ub] at hm
 refine ab <| bA [] (.n 26 (.b (decide (field = 5))) (.s .a)) qe (by kernel_rfl) ?_
 refine aa <| bb (field = 5) (by kernel_rfl) (fun w9 => ?_) (fun w9 => ?_)
 · rw [if_pos w9] at hm
   refine ab <| bA [] (.n 4 (.u64 (UInt64.ofNat cX.toNat)) .z) (qs g 0 <| qB k_ 0 rfl 4 (.u32 cX) (by kernel_rfl) <| qe) (by kernel_rfl) ?_
   refine aa <| aL (gh (bI ?_))
   obtain rfl := Option.some.inj hm
   refine aM [.u64 (UInt64.ofNat cX.toNat)] qe (by kernel_rfl) ?_
   have fJ := k_.ck .z
   exact ⟨rfl, fJ⟩
 rw [if_neg w9] at hm
 refine ab <| bA [] (.n 31 (.b (decide (field = 6))) (.s .a)) qe (by kernel_rfl) ?_
 refine aa <| bb (field = 6) (by kernel_rfl) (fun uc => ?_) (fun uc => ?_)
 · rw [if_pos uc] at hm
   refine ab <| bA [] (.n 4 (.u64 aW) .z) (qs g 0 <| qB k_ 0 rfl 5 (.u64 aW) (by kernel_rfl) <| qe) (by kernel_rfl) ?_
   refine aa <| aL (gh (bI ?_))
   obtain rfl := Option.some.inj hm
   refine aM [.u64 aW] qe (by kernel_rfl) ?_
   have gi := k_.ck .z
   exact ⟨rfl, gi⟩
 rw [if_neg uc] at hm
 refine ab <| bA [] (.n 35 (.b (decide (field = 7))) (.s .a)) qe (by kernel_rfl) ?_
 refine aa <| bb (field = 7) (by kernel_rfl) (fun ud => ?_) (fun ud => ?_)
 · rw [if_pos ud] at hm
   refine ab <| bA [] (.n 4 (.u64 (UInt64.ofNat ca.toNat)) .z) (qs g 0 <| qB k_ 0 rfl 6 (.u32 ca) (by kernel_rfl) <| qe) (by kernel_rfl) ?_
   refine aa <| aL (gh (bI ?_))
   obtain rfl := Option.some.inj hm
   refine aM [.u64 (UInt64.ofNat ca.toNat)] qe (by kernel_rfl) ?_
   have fY := k_.ck .z
   exact ⟨rfl, fY⟩
 rw [if_neg ud] at hm
 refine ab <| bA [] (.n 40 (.b (decide (field = 8))) (.ss .a)) qe (by kernel_rfl) ?_
 refine aa <| bb (field = 8) (by kernel_rfl) (fun FH => ?_) (fun FH => ?_)
 · rw [if_pos FH] at hm
   refine ab <| bA [] (.n 4 (.u64 (UInt64.ofInt av)) .z) (qs g 0 <| qB k_ 0 rfl 7 (I av) (by kernel_rfl) <| qe) (by kernel_rfl) ?_
   refine aa <| aL (gh (bI ?_))
   obtain rfl := Option.some.inj hm
   refine aM [.u64 (UInt64.ofInt av)] qe (by kernel_rfl) ?_
   have fZ := k_.ck .z
   exact ⟨rfl, fZ⟩
 rw [if_neg FH] at hm
 refine aS <| hH <| aa <| ab <| bA [] (.n 4 (.u64 (UInt64.ofInt bB)) .z) (qs g 0 <| qB k_ 0 rfl 8 (I bB) (by kernel_rfl) <| qe) (by kernel_rfl) ?_
 refine aa <| aL ?_
 obtain rfl := Option.some.inj hm
 refine aM [.u64 (UInt64.ofInt bB)] qe (by kernel_rfl) ?_
 have gY := k_.ck .z
 exact ⟨rfl, gY⟩
theorem Df {F O : Nat → Prop} {w : World} (b : List UInt8) (at_ : Int) (size : Int) (v : UInt64) (l8 : Option Addr) (o6 : Nat) (mq : Nat) (R5 : Jr) (rC : o6 ≤ mq) (k : Cx F O w w [Mw e8 l8 o6 b R5]) (r : (List UInt8)) (hm : pK b at_ size v = some r) :
    Calls Try.prog 61 (ad [sl l8 o6 mq, I at_, I size, .u64 v]) w (fun e w' => e = .returned (SV.val (.eO [])) ∧ Cx F O w w' [Mw e8 l8 o6 r R5]) := by
 unfold pK at hm
 obtain rfl := k.D6 0 rfl
 refine calls [sl l8 b.length mq, I at_, I size, .u64 v] Try.func61 rfl (of_decide_eq_true (by kernel_rfl)) ?_
 refine ab <| bA [] (.n 9 (I size) (.n 10 (I 0) (.kk (.s .a)))) qe (by kernel_rfl) ?_
 refine aa <| cu <| pc (mz at_ size v) (fun s L wr => ∃ (b1 : List UInt8) (aC : Int), (b1, aC) = s ∧ L = [(0, sl l8 b.length mq), (1, I at_), (3, .u64 v), (9, I size), (10, I aC)] ∧ Cx F O w wr [Mw e8 l8 b.length b1 R5]) (b, (0 : Int)) r hm ⟨b, (0 : Int), rfl, rfl, k⟩ (by kernel_rfl) ?_
 intro yU L_ w_ y0 jd dd nF
 obtain ⟨b1, aC, rfl, rfl, k_⟩ := jd
 have hm := dd; simp only [mz] at hm
 clear dd
 refine ab <| bA [] (.n 11 (.b (decide (aC < size))) .a) qe (by kernel_rfl) ?_
 refine aa <| ab <| bb (aC < size) (by kernel_rfl) (fun hc => ?_) (fun hc => ?_)
 · rw [if_pos hc] at hm
   refine aS <| aa <| ab <| cu <| ab <| bA [] (.n 8 (I aC) (.s .a)) qe (by kernel_rfl) ?_
   refine aa <| ao ?_
   obtain ⟨u, yq, hm⟩ := ob hm
   obtain ⟨eL, jC, hm⟩ := ob hm
   refine bn 10 [] (.n 21 (.u8 (UInt8.ofNat (aJ v (Int.toNat (aB (8 * aC)))).toNat)) (.n 22 (.v (.pointer (nv l8 (aB (at_ + aC)) 1))) (.s .a))) (qp (0 ≤ aB (8 * aC)) (fL yq) <| qJ (k_.QX 0 rfl) jC (k_.D6 0 rfl) <| qe) (by kernel_rfl) ?_
   refine ag <| Hh (E := e8) (kk := 0) (sv := .u8 (UInt8.ofNat (aJ v (Int.toNat (aB (8 * aC)))).toNat)) (svs := [.u8 (UInt8.ofNat (aJ v (Int.toNat (aB (8 * aC)))).toNat)]) [] 0 (UInt8.ofNat (aJ v (Int.toNat (aB (8 * aC)))).toNat) (by kernel_rfl) (Pt.x6 l8 (aB (at_ + aC)) 1) k_ rfl (eC jC).2 (y1 (E := e8) (k_.QX 0 rfl) (by decide) (kE jC).1 (eC jC).2) rfl (Nat.le_of_ble_eq_true (by kernel_rfl)) ?_
   intro lh da
   refine af <| hH <| aa <| bA [] (.n 10 (I (aB (aC + 1))) (.ss (.aP .z))) qe (by kernel_rfl) ?_
   exact jR (b1.set (Int.toNat (aB (at_ + aC))) (UInt8.ofNat (aJ v (Int.toNat (aB (8 * aC)))).toNat), aB (aC + 1)) (Option.some.inj hm).symm ⟨b1.set (Int.toNat (aB (at_ + aC))) (UInt8.ofNat (aJ v (Int.toNat (aB (8 * aC)))).toNat), aB (aC + 1), rfl, rfl, da⟩ (by kernel_rfl)
 rw [if_neg hc] at hm
 refine iq (fe (fe (kG ?_)))
 have hm := d_ hm nF
 obtain rfl := Option.some.inj hm
 refine pJ [] qe (by kernel_rfl) ?_
 exact ⟨rfl, k_⟩
theorem z7 {F O : Nat → Prop} {w : World} (k_ : Int) (bc : Int) (dy : Int) (bj : Int) (bG : Int) (cX : UInt32) (aW : UInt64) (ca : UInt32) (av : Int) (bB : Int) (bP : List UInt8) (au : List UInt8) (cJ : Option Addr) (iJ : Nat) (cK : Nat) (a8 : Option Addr) (ef : Nat) (ba : Nat) (oU : Ro F w cJ (e8.all bP)) (nh : bP.length = iJ) (ow : iJ ≤ cK) (j7 : Ro F w a8 (e8.all au)) (jq : au.length = ef) (ke : ef ≤ ba) (k : Cx F O w w []) (r : (List UInt8 × Int)) (hm : kj k_ bc dy bj bG cX aW ca av bB bP au = some r) :
    Calls Try.prog 50 (ad [I k_, .agg [I bc, I dy, I bj, I bG, .u32 cX, .u64 aW, .u32 ca, I av, I bB, sl cJ iJ cK, sl a8 ef ba]]) w (fun e w' => ∃ A n c, r.1.length = n ∧ e = .returned (SV.val (.eO [sl A n c, I r.2])) ∧ Cx F O w w' [Ow e8 A n c r.1]) := by
 unfold kj at hm
 subst nh
 subst jq
 refine calls [I k_, .agg [I bc, I dy, I bj, I bG, .u32 cX, .u64 aW, .u32 ca, I av, I bB, sl cJ bP.length cK, sl a8 au.length ba]] Try.func50 rfl (of_decide_eq_true (by kernel_rfl)) ?_
 refine ab <| ao <| ag <| gj [] 3 (.agg [I bc, I dy, I bj, I bG, .u32 cX, .u64 aW, .u32 ca, I av, I bB, sl cJ bP.length cK, sl a8 au.length ba]) [I bc, I dy, I bj, I bG, .u32 cX, .u64 aW, .u32 ca, I av, I bB, sl cJ bP.length cK, sl a8 au.length ba] (by kernel_rfl) k ?_
 intro g w_ da
 refine bn 2 [] (.kk .z) qe (by kernel_rfl) ?_
 refine af <| aa <| ab <| ab <| ao <| bn 2 [] (.n 13 (I k_) (.n 14 (.agg [I bc, I dy, I bj, I bG, .u32 cX, .u64 aW, .u32 ca, I av, I bB, sl cJ bP.length cK, sl a8 au.length ba]) .a)) (qT da 0 rfl 0 11 [I bc, I dy, I bj, I bG, .u32 cX, .u64 aW, .u32 ca, I av, I bB, sl cJ bP.length cK, sl a8 au.length ba] (by kernel_rfl) (by decide) <| qe) (by kernel_rfl) ?_
 refine ag ?_
 obtain ⟨r_, dk, hm⟩ := ob hm
 refine aq [] 15 _ Fm (by kernel_rfl) (wk (F := N0) (O := N0) _ _ _ _ _ _ _ _ _ _ _ _ _ _ _ _ _ _ (Ro.n0 (oU.cx da)) rfl ow (Ro.n0 (j7.cx da)) rfl ke (Cx.refl _) _ dk) ?_
 rintro e_ lh ⟨rfl, dF⟩
 have en := da.call dF
 refine ⟨I r_, rfl, ?_⟩
 refine bn 1 [] (.n 6 (I r_) (.lj .a)) qe (by kernel_rfl) ?_
 refine af <| aa <| ab <| bA [] (.n 17 (.b (decide (r_ ≠ 0))) .a) qe (by kernel_rfl) ?_
 refine aa <| bb (r_ ≠ 0) (by kernel_rfl) (fun hc => ?_) (fun hc => ?_)
 · rw [if_pos hc] at hm
   refine ab <| bA [] (.n 4 (sl none 0 0) (.n 5 (I r_) .z)) qe (by kernel_rfl) ?_
   refine aa <| aL (bI ?_)
   have eA := en.nil e8
   obtain rfl := Option.some.inj hm
   refine aM [sl none 0 0, I r_] qe (by kernel_rfl) ?_
   have fJ := eA.ck (.s (.k .e))
   exact ⟨none, 0, 0, fJ.len 0 rfl, rfl, fJ⟩
 rw [if_neg hc] at hm
 refine aS <| aa <| ab <| ao <| bn 1 [] (.n 20 (I k_) (.ss .a)) qe (by kernel_rfl) ?_
 refine ag ?_
 obtain ⟨ah, dt, hm⟩ := ob hm
 refine aq [] 21 _ Fx (by kernel_rfl) (wj (F := N0) (O := N0) _ (Cx.refl _) _ dt) ?_
 rintro e_ l4 ⟨rfl, gi⟩
 have fY := en.call gi
 refine ⟨.eO [I ah.1, I ah.2.1, I ah.2.2], rfl, ?_⟩
 refine bn 7 [] (.n 7 (I ah.1) (.n 9 (I ah.2.2) (.ss .a))) qe (by kernel_rfl) ?_
 refine af <| aa <| ab <| ao <| bn 1 [] (.n 25 (I ah.1) .a) qe (by kernel_rfl) ?_
 refine ag ?_
 obtain ⟨u, yq, hm⟩ := ob hm
 refine vj im e8 (0 : UInt8) rfl [] 26 (I ah.1) (I ah.1) ah.1 ah.1 (by kernel_rfl) (fL yq).1 (fL yq).2.1 (fL yq).2.2 fY ?_
 intro A0 qf fZ
 refine bn 1 [] (.n 10 (sl A0 (Int.toNat ah.1) (Int.toNat ah.1)) (.ss .a)) qe (by kernel_rfl) ?_
 refine af <| aa <| ab <| ab <| ao <| bn 1 [] (.n 27 (I k_) (.aP .z)) qe (by kernel_rfl) ?_
 refine ag ?_
 have gY := fZ.ck (.kk .e)
 obtain ⟨bh, gX, hm⟩ := ob hm
 refine aq [] 28 _ J5 (by kernel_rfl) (Cg (F := N0) (O := N0) _ (Cx.refl _) _ gX) ?_
 rintro e_ p7 ⟨A1, _, c0, rfl, rfl, dK⟩
 have c_ := gY.call dK
 refine ⟨sl A1 bh.length c0, rfl, ?_⟩
 refine bn 2 [] (.n 29 (I ((bh.length : Nat) : Int)) (.n 30 (I 0) (.k (.s .a)))) qe (by kernel_rfl) ?_
 refine af <| aa <| cu <| pc (jH bc dy bj bG cX aW ca av bB bP au ah bh) (fun s L wr => ∃ (b : List UInt8) (aC : Int), (b, aC) = s ∧ L = [(3, pt g 0), (7, I ah.1), (9, I ah.2.2), (10, sl A0 (Int.toNat ah.1) (Int.toNat ah.1)), (28, sl A1 bh.length c0), (29, I ((bh.length : Nat) : Int)), (30, I aC)] ∧ Cx F O w wr [Bx 83 g [I bc, I dy, I bj, I bG, .u32 cX, .u64 aW, .u32 ca, I av, I bB, sl cJ bP.length cK, sl a8 au.length ba], Ow e8 A0 (Int.toNat ah.1) (Int.toNat ah.1) b, Ow (eP eI (eP eI (eP eI (eP eS eI)))) A1 bh.length c0 bh]) (List.replicate (Int.toNat ah.1) (0 : UInt8), (0 : Int)) r hm ⟨List.replicate (Int.toNat ah.1) (0 : UInt8), (0 : Int), rfl, rfl, c_⟩ (by kernel_rfl) ?_
 intro yU L_ sV y0 jd dd nF
 obtain ⟨b, aC, rfl, rfl, ez⟩ := jd
 have hm := dd; simp only [jH] at hm
 clear dd
 refine ab <| bA [] (.n 31 (.b (decide (aC < ((bh.length : Nat) : Int)))) .a) qe (by kernel_rfl) ?_
 refine aa <| ab <| bb (aC < ((bh.length : Nat) : Int)) (by kernel_rfl) (fun kr => ?_) (fun kr => ?_)
 · rw [if_pos kr] at hm
   refine aS <| aa <| kS (fun L wr => ∃ (b1 : List UInt8), mj aC b1 = some y0 ∧ L = [(3, pt g 0), (7, I ah.1), (9, I ah.2.2), (10, sl A0 (Int.toNat ah.1) (Int.toNat ah.1)), (28, sl A1 bh.length c0), (29, I ((bh.length : Nat) : Int)), (30, I aC)] ∧ Cx F O w wr [Bx 83 g [I bc, I dy, I bj, I bG, .u32 cX, .u64 aW, .u32 ca, I av, I bB, sl cJ bP.length cK, sl a8 au.length ba], Ow e8 A0 (Int.toNat ah.1) (Int.toNat ah.1) b1, Ow (eP eI (eP eI (eP eI (eP eS eI)))) A1 bh.length c0 bh]) ?_ ?_
   ·
    refine D4 (fun L wr => ∃ (b2 : List UInt8), kX aC b2 = some y0 ∧ L = [(3, pt g 0), (7, I ah.1), (9, I ah.2.2), (10, sl A0 (Int.toNat ah.1) (Int.toNat ah.1)), (28, sl A1 bh.length c0), (29, I ((bh.length : Nat) : Int)), (30, I aC)] ∧ Cx F O w wr [Bx 83 g [I bc, I dy, I bj, I bG, .u32 cX, .u64 aW, .u32 ca, I av, I bB, sl cJ bP.length cK, sl a8 au.length ba], Ow e8 A0 (Int.toNat ah.1) (Int.toNat ah.1) b2, Ow (eP eI (eP eI (eP eI (eP eS eI)))) A1 bh.length c0 bh]) ?_ ?_
    ·
     refine ab <| ao ?_
     obtain ⟨ej, jk, hm⟩ := ob hm
     refine bn 2 [] (.n 33 (.agg [I ej.1, I ej.2.1, I ej.2.2.1, .s ej.2.2.2.1, I ej.2.2.2.2]) (.s .a)) (qJ (ez.rd 2 rfl) jk (ez.len 2 rfl) <| qR [I ej.1, I ej.2.1, I ej.2.2.1, .s ej.2.2.2.1, I ej.2.2.2.2] (Rd.Vf (k := 0) (m := 5) (ez.rd 2 rfl) jk (Pt.x6 A1 aC 5) rfl (by decide) (by decide)) <| qe) (by kernel_rfl) ?_
     refine ag <| bY [] 12 [I 0, I 0, I 0, .s ([] : List UInt8), I 0] (by kernel_rfl) ez ?_
     intro g1 wi dH
     refine ag <| ey [] 3 (.agg [I ej.1, I ej.2.1, I ej.2.2.1, .s ej.2.2.2.1, I ej.2.2.2.2]) [I ej.1, I ej.2.1, I ej.2.2.1, .s ej.2.2.2.1, I ej.2.2.2.2] (Pt.at g1 0) dH rfl .all (by kernel_rfl) (by kernel_rfl) ?_
     intro vO eX
     refine af <| aa <| ab <| ab <| bA [] (.n 41 (.b ((decide (ej.1 = 7)) && (decide (ca = 0)))) (.k (.s .a))) (qs g1 0 <| qB eX 3 rfl 0 (I ej.1) (by kernel_rfl) <| qp ((decide (ej.1 = 7)) = true → (some ⟨g, 0, none⟩ : Option Addr).isSome = true) (fun Gl => rfl) <| qo (.u32 ca) <| qc (fun w => (decide (ej.1 = 7)) = true → ∃ a, (some ⟨g, 6, none⟩ : Option Addr) = some a ∧ w.cell? a = some (SV.val (.u32 ca))) (fun Gl => eX.OB 0 rfl 6 (.u32 ca) (by kernel_rfl)) <| qe) (by kernel_rfl) ?_
     refine aa <| cw ((decide (ej.1 = 7)) && (decide (ca = 0))) (by kernel_rfl) (fun pf => ?_) (fun pf => ?_)
     · rw [if_pos pf] at hm
       refine iq (fe (kG ?_))
       have iu := eX.ck (.kk (.k .z))
       exact iy ⟨b, hm, rfl, iu⟩ (by kernel_rfl)
     rw [if_neg (by rw [pf]; decide)] at hm
     refine aS <| aa ?_
     have fX := eX.drew 1
     refine qy bw (.q 5 0 (.q 0 1 (.q 1 1 (.q 2 1 (.q 3 1 (.q 4 1 (.q 6 1 (.q 7 0 (.op 8 (.op 9 .nil)))))))))) [8, 9] fX (.c (.aP .e) (.c (.k (.s (.kk .e))) .l)) (by kernel_rfl) (fun _ => ?_)
     refine bx 1 0 [] (.n 47 (.agg [I bc, I dy, I bj, I bG, .u32 cX, .u64 aW, .u32 ca, I av, I bB, sl cJ bP.length cK, sl a8 au.length ba]) (.s .a)) (fun x hx => qT hx 0 rfl 0 11 [I bc, I dy, I bj, I bG, .u32 cX, .u64 aW, .u32 ca, I av, I bB, sl cJ bP.length cK, sl a8 au.length ba] (by kernel_rfl) (by decide) <| qe) (by kernel_rfl) (fun _ => ?_)
     refine bx 6 1 [] (.n 42 (sl A0 (Int.toNat ah.1) (Int.toNat ah.1)) (.n 44 (I ej.2.1) (.n 46 (I ej.2.2.1) (.n 48 (pt g1 0) (.k (.s .a)))))) (fun x hx => qs g1 0 <| qB hx 3 rfl 1 (I ej.2.1) (by kernel_rfl) <| qs g1 0 <| qB hx 3 rfl 2 (I ej.2.2.1) (by kernel_rfl) <| qs g1 0 <| qe) (by kernel_rfl) (fun _ => ?_)
     refine bx 1 0 [] (.n 49 (I ej.1) (.ua (.s .a))) (fun x hx => qB hx 3 rfl 0 (I ej.1) (by kernel_rfl) <| qe) (by kernel_rfl) (fun _ => ?_)
     refine bZ (by kernel_rfl) rfl ?_
     obtain ⟨cD, oV, hm⟩ := ob hm
     refine aq [] 50 _ J7 (by kernel_rfl) (AH (F := N0) (O := N0) _ _ _ _ _ _ _ _ _ _ _ _ _ _ _ _ _ _ (Ro.n0 (oU.cx fX)) rfl ow (Ro.n0 (j7.cx fX)) rfl ke (Cx.refl _) _ oV) ?_
     rintro e_ Av ⟨rfl, jY⟩
     have iK := fX.call jY
     refine ⟨.u64 cD, rfl, ?_⟩
     refine ⟨iK, fun _ => ?_⟩
     refine bZ (by kernel_rfl) rfl ?_
     obtain ⟨G, hG, kt⟩ := iK.Pb 1 rfl
     obtain ⟨fi, uX, hm⟩ := ob hm
     obtain ⟨F1, O1, lO, hO, rO, hF, hb⟩ := kt.go (.r (.i (.r (.r .e))))
     refine aq [] 51 _ J6 (by kernel_rfl) (Df (F := F1) (O := O1) _ _ _ _ _ _ _ _ (iK.Az 1 rfl) lO _ uX) ?_
     rintro e_ De ⟨rfl, kg⟩
     have lW := hb De _ _ kg (.c .n)
     refine ⟨.eO [], rfl, ?_⟩
     have mh := lW.Pc hG 0 rfl
     refine ⟨(mh.ck (.s (.kk (.k .e)))), fun _ => ?_⟩
     refine ct <| hH ?_
     have mo := (((mh.pk (.t (.t .h))).pk (.t .h)).pk (.t (.t .h))).ck (.kk (.k .z))
     exact iy ⟨fi, hm, rfl, mo⟩ (by kernel_rfl)
    rintro L_ z6 ⟨b2, hm, rfl, lX⟩
    simp only [kX] at hm
    exact iy ⟨b2, hm, rfl, lX⟩ (by kernel_rfl)
   rintro L_ Ch ⟨b1, hm, rfl, qZ⟩
   simp only [mj] at hm
   refine bA [] (.n 30 (I (aB (aC + 1))) (.aP (.kk .z))) qe (by kernel_rfl) ?_
   exact jR (b1, aB (aC + 1)) (Option.some.inj hm).symm ⟨b1, aB (aC + 1), rfl, rfl, qZ⟩ (by kernel_rfl)
 rw [if_neg kr] at hm
 refine iq (fe (fe (kG ?_)))
 have hm := d_ hm nF
 refine aa <| ab ?_
 have rT := ez.drew 1
 refine qy bw (.q 0 0 (.q 6 0 (.q 7 0 (.q 1 1 (.q 2 1 (.q 3 1 (.q 4 0 (.q 5 0 (.op 8 .nil))))))))) [8] rT (.c (.k (.s (.k .e))) .l) (by kernel_rfl) (fun _ => ?_)
 refine bx 3 0 [] (.n 53 (sl A0 (Int.toNat ah.1) (Int.toNat ah.1)) (.n 60 (sl cJ bP.length cK) (.s (.aP .z)))) (fun x hx => qs g 0 <| qB hx 0 rfl 9 (sl cJ bP.length cK) (by kernel_rfl) <| qe) (by kernel_rfl) (fun _ => ?_)
 refine bx 3 1 [] (.n 54 (I ah.1) (.n 56 (I (aB (2 * ah.2.2))) .a)) (fun x hx => qe) (by kernel_rfl) (fun _ => ?_)
 obtain ⟨b3, AI, hm⟩ := ob hm
 have hs := hP AI
 have hl := kU AI
 have hn : b.length = Int.toNat ah.1 := (rT.len 1 rfl)
 have ub : Int.toNat ah.1 ≤ Int.toNat ah.1 := (rT.Az 1 rfl)
 obtain ⟨A2, c1, e_, w9, hA, uc⟩ := Lq A0 (Int.toNat (aB (ah.1 - (aB (2 * ah.2.2))))) (Int.toNat ah.1) 1 (Int.toNat ah.1 - Int.toNat (aB (ah.1 - (aB (2 * ah.2.2))))) b3.length (by omega) (by omega)
 refine bx 2 0 [] (.n 58 (sl A2 b3.length c1) (.lj .a)) (fun x hx => qp (0 ≤ aB (ah.1 - (aB (2 * ah.2.2))) ∧ aB (ah.1 - (aB (2 * ah.2.2))) ≤ ((Int.toNat ah.1 : Nat) : Int)) (by omega) <| qo (.v (.slice A2 b3.length c1)) <| qp (Value.slice (sA A0 (Int.toNat (aB (ah.1 - (aB (2 * ah.2.2))))) (Int.toNat ah.1) 1) (Int.toNat ah.1 - Int.toNat (aB (ah.1 - (aB (2 * ah.2.2))))) (Int.toNat ah.1 - Int.toNat (aB (ah.1 - (aB (2 * ah.2.2))))) = .slice A2 b3.length c1) e_ <| qe) (by kernel_rfl) (fun _ => ?_)
 refine bZ (by kernel_rfl) rfl <| Hk (E := e8) (dn := b3.length) (dc := c1) (v := sl cJ bP.length cK) (src := bP) (lo := Int.toNat (aB (ah.1 - (aB (2 * ah.2.2))))) (m' := Int.toNat ah.1) im [] 61 1 (by kernel_rfl) hA rfl (by omega) rT rfl (Src.sl (oU.cx rT) rfl (by rfl)) rfl (by have := rT.len 1 rfl; omega) ?_
 intro Dg vP
 refine ⟨(vP.ck (.k (.s (.k .e)))), fun _ => ?_⟩
 refine ct <| aa <| ab ?_
 have tB := vP.drew 1
 refine qy bw (.q 0 0 (.q 5 0 (.q 6 0 (.q 1 1 (.q 2 1 (.q 3 0 (.q 4 0 (.op 7 .nil)))))))) [7] tB (.c (.k (.s (.k .e))) .l) (by kernel_rfl) (fun _ => ?_)
 refine bx 3 0 [] (.n 62 (sl A0 (Int.toNat ah.1) (Int.toNat ah.1)) (.n 68 (sl a8 au.length ba) (.fQ .a))) (fun x hx => qs g 0 <| qB hx 0 rfl 10 (sl a8 au.length ba) (by kernel_rfl) <| qe) (by kernel_rfl) (fun _ => ?_)
 refine bx 2 1 [] (.n 63 (I ah.1) (.n 64 (I ah.2.2) (.kk (.ss .a)))) (fun x hx => qe) (by kernel_rfl) (fun _ => ?_)
 obtain ⟨b4, Gm, hm⟩ := ob hm
 have Q7 := hP Gm
 have FI := kU Gm
 have Q8 : (DK b (Int.toNat (aB (ah.1 - (aB (2 * ah.2.2))))) b3.length bP).length = Int.toNat ah.1 := (tB.len 1 rfl)
 have ud : Int.toNat ah.1 ≤ Int.toNat ah.1 := (tB.Az 1 rfl)
 obtain ⟨A3, c2, Wz, FH, WA, Ev⟩ := Lq A0 (Int.toNat (aB (ah.1 - ah.2.2))) (Int.toNat ah.1) 1 (Int.toNat ah.1 - Int.toNat (aB (ah.1 - ah.2.2))) b4.length (by omega) (by omega)
 refine bx 2 0 [] (.n 66 (sl A3 b4.length c2) (.lj .a)) (fun x hx => qp (0 ≤ aB (ah.1 - ah.2.2) ∧ aB (ah.1 - ah.2.2) ≤ ((Int.toNat ah.1 : Nat) : Int)) (by omega) <| qo (.v (.slice A3 b4.length c2)) <| qp (Value.slice (sA A0 (Int.toNat (aB (ah.1 - ah.2.2))) (Int.toNat ah.1) 1) (Int.toNat ah.1 - Int.toNat (aB (ah.1 - ah.2.2))) (Int.toNat ah.1 - Int.toNat (aB (ah.1 - ah.2.2))) = .slice A3 b4.length c2) Wz <| qe) (by kernel_rfl) (fun _ => ?_)
 refine bZ (by kernel_rfl) rfl <| Hk (E := e8) (dn := b4.length) (dc := c2) (v := sl a8 au.length ba) (src := au) (lo := Int.toNat (aB (ah.1 - ah.2.2))) (m' := Int.toNat ah.1) im [] 69 1 (by kernel_rfl) WA rfl (by omega) tB rfl (Src.sl (j7.cx tB) rfl (by rfl)) rfl (by have := tB.len 1 rfl; omega) ?_
 intro MI vQ
 refine ⟨(vQ.ck (.k (.s (.k .e)))), fun _ => ?_⟩
 refine ct <| aa <| ab <| bA [] (.n 4 (sl A0 (Int.toNat ah.1) (Int.toNat ah.1)) (.n 5 (I 0) .z)) qe (by kernel_rfl) ?_
 refine aa <| aL ?_
 obtain rfl := Option.some.inj hm
 refine aM [sl A0 (Int.toNat ah.1) (Int.toNat ah.1), I 0] qe (by kernel_rfl) ?_
 have yp := vQ.ck (.s (.k .z))
 exact ⟨A0, Int.toNat ah.1, Int.toNat ah.1, yp.len 0 rfl, rfl, yp⟩
theorem Bo {F O : Nat → Prop} {w : World} (k : Cx F O w w []) (r : (ae UInt64 8)) (hm : sM = some r) :
    Calls Try.prog 78 (ad []) w (fun e w' => e = .returned (SV.val (.agg [.ar cj r])) ∧ Cx F O w w' []) := by
 unfold sM at hm
 refine calls [] Try.func78 rfl (of_decide_eq_true (by kernel_rfl)) ?_
 refine ab <| ao <| ag <| bY [] 0 [.ar cj (ae.rep 8 (0 : UInt64))] (by kernel_rfl) k ?_
 intro g w_ k_
 refine af <| aa <| ab <| ao <| bn 1 [] (.n 1 (.agg [.ar cj (⟨[(7640891576956012808 : UInt64), (13503953896175478587 : UInt64), (4354685564936845355 : UInt64), (11912009170470909681 : UInt64), (5840696475078001361 : UInt64), (11170449401992604703 : UInt64), (2270897969802886507 : UInt64), (6620516959819538809 : UInt64)], rfl⟩ : ae UInt64 8)]) .a) qe (by kernel_rfl) ?_
 refine ag <| ey [] 0 (.agg [.ar cj (⟨[(7640891576956012808 : UInt64), (13503953896175478587 : UInt64), (4354685564936845355 : UInt64), (11912009170470909681 : UInt64), (5840696475078001361 : UInt64), (11170449401992604703 : UInt64), (2270897969802886507 : UInt64), (6620516959819538809 : UInt64)], rfl⟩ : ae UInt64 8)]) [.ar cj (⟨[(7640891576956012808 : UInt64), (13503953896175478587 : UInt64), (4354685564936845355 : UInt64), (11912009170470909681 : UInt64), (5840696475078001361 : UInt64), (11170449401992604703 : UInt64), (2270897969802886507 : UInt64), (6620516959819538809 : UInt64)], rfl⟩ : ae UInt64 8)] (Pt.at g 0) k_ rfl .all (by kernel_rfl) (by kernel_rfl) ?_
 intro lh da
 refine af <| aa <| aL ?_
 obtain rfl := Option.some.inj hm
 refine aM [.agg [.ar cj (⟨[(7640891576956012808 : UInt64), (13503953896175478587 : UInt64), (4354685564936845355 : UInt64), (11912009170470909681 : UInt64), (5840696475078001361 : UInt64), (11170449401992604703 : UInt64), (2270897969802886507 : UInt64), (6620516959819538809 : UInt64)], rfl⟩ : ae UInt64 8)]] (qo (.agg [.ar cj (⟨[(7640891576956012808 : UInt64), (13503953896175478587 : UInt64), (4354685564936845355 : UInt64), (11912009170470909681 : UInt64), (5840696475078001361 : UInt64), (11170449401992604703 : UInt64), (2270897969802886507 : UInt64), (6620516959819538809 : UInt64)], rfl⟩ : ae UInt64 8)]) <| qc (fun w => Rd w (some ⟨g, 0, none⟩) (SV.cl [.ar cj (⟨[(7640891576956012808 : UInt64), (13503953896175478587 : UInt64), (4354685564936845355 : UInt64), (11912009170470909681 : UInt64), (5840696475078001361 : UInt64), (11170449401992604703 : UInt64), (2270897969802886507 : UInt64), (6620516959819538809 : UInt64)], rfl⟩ : ae UInt64 8)])) (da.uq 0 rfl) <| qe) (by kernel_rfl) ?_
 have dF := da.ck .z
 exact ⟨rfl, dF⟩
theorem yV {F O : Nat → Prop} {w : World} (b : List UInt8) (at_ : Int) (n : Int) (l8 : Option Addr) (o6 : Nat) (mq : Nat) (qu : Ro F w l8 (e8.all b)) (qv : b.length = o6) (rC : o6 ≤ mq) (k : Cx F O w w []) (r : (UInt64 × Int)) (hm : oo b at_ n = some r) :
    Calls Try.prog 24 (ad [sl l8 o6 mq, I at_, I n]) w (fun e w' => e = .returned (SV.val (.eO [.u64 r.1, I r.2])) ∧ Cx F O w w' []) := by
 unfold oo at hm
 subst qv
 refine calls [sl l8 b.length mq, I at_, I n] Try.func24 rfl (of_decide_eq_true (by kernel_rfl)) ?_
 refine ab <| bA [] .a qe (by kernel_rfl) ?_
 refine aa <| ab <| ab <| bA [] (.n 11 (.b (decide (at_ < 0))) .a) qe (by kernel_rfl) ?_
 refine aa <| bb (at_ < 0) (by kernel_rfl) (fun hc => ?_) (fun hc => ?_)
 · rw [if_pos hc] at hm
   refine ab <| bA [] (.n 6 (.u64 0) (.n 7 (I 1) .z)) qe (by kernel_rfl) ?_
   refine aa <| aL (bI ?_)
   obtain rfl := Option.some.inj hm
   refine aM [.u64 0, I 1] qe (by kernel_rfl) ?_
   exact ⟨rfl, k⟩
 rw [if_neg hc] at hm
 refine aS <| aa <| ab <| ab <| bA [] (.n 23 (.b ((decide (((b.length : Nat) : Int) < at_)) || (decide ((aB (((b.length : Nat) : Int) - at_)) < n)))) (.s .a)) qe (by kernel_rfl) ?_
 refine aa <| cw ((decide (((b.length : Nat) : Int) < at_)) || (decide ((aB (((b.length : Nat) : Int) - at_)) < n))) (by kernel_rfl) (fun kr => ?_) (fun kr => ?_)
 · rw [if_pos kr] at hm
   refine ab <| bA [] (.n 6 (.u64 0) (.n 7 (I 3) .z)) qe (by kernel_rfl) ?_
   refine aa <| aL (bI ?_)
   obtain rfl := Option.some.inj hm
   refine aM [.u64 0, I 3] qe (by kernel_rfl) ?_
   exact ⟨rfl, k⟩
 rw [if_neg (by rw [kr]; decide)] at hm
 refine aS <| aa <| ab <| bA [] (.n 8 (.u64 0) (.s .a)) qe (by kernel_rfl) ?_
 refine aa <| ab <| ab <| bA [] (.n 24 (I n) (.n 25 (I 0) (.ua .z))) qe (by kernel_rfl) ?_
 refine aa <| cu <| pc (oB b at_ n) (fun s L wr => ∃ (w_ : UInt64) (aC : Int), (w_, aC) = s ∧ L = [(0, sl l8 b.length mq), (1, I at_), (8, .u64 w_), (24, I n), (25, I aC)] ∧ Cx F O w wr []) ((0 : UInt64), (0 : Int)) r hm ⟨(0 : UInt64), (0 : Int), rfl, rfl, k⟩ (by kernel_rfl) ?_
 intro yU L_ lh y0 jd dd nF
 obtain ⟨w_, aC, rfl, rfl, k_⟩ := jd
 have hm := dd; simp only [oB] at hm
 clear dd
 refine ab <| bA [] (.n 26 (.b (decide (aC < n))) .a) qe (by kernel_rfl) ?_
 refine aa <| ab <| bb (aC < n) (by kernel_rfl) (fun pf => ?_) (fun pf => ?_)
 · rw [if_pos pf] at hm
   refine aS <| aa <| ab <| cu <| ab <| bA [] (.n 9 (I aC) (.s .a)) qe (by kernel_rfl) ?_
   refine aa ?_
   obtain ⟨ej, jk, hm⟩ := ob hm
   obtain ⟨u, yq, hm⟩ := ob hm
   refine bA [] (.n 8 (.u64 (w_ ||| (aE (UInt64.ofNat ej.toNat) (Int.toNat (aB (8 * aC)))))) (.s (.kk (.s .a)))) (qW (qu.cx k_) jk rfl (.u8 ej) rfl <| qp (0 ≤ aB (8 * aC)) (fL yq) <| qe) (by kernel_rfl) ?_
   refine hH <| aa <| bA [] (.n 25 (I (aB (aC + 1))) (.aP .z)) qe (by kernel_rfl) ?_
   exact jR (w_ ||| (aE (UInt64.ofNat ej.toNat) (Int.toNat (aB (8 * aC)))), aB (aC + 1)) (Option.some.inj hm).symm ⟨w_ ||| (aE (UInt64.ofNat ej.toNat) (Int.toNat (aB (8 * aC)))), aB (aC + 1), rfl, rfl, k_⟩ (by kernel_rfl)
 rw [if_neg pf] at hm
 refine iq (fe (fe (kG ?_)))
 have hm := d_ hm nF
 refine aa <| ab <| bA [] (.n 6 (.u64 w_) (.n 7 (I 0) .z)) qe (by kernel_rfl) ?_
 refine aa <| aL ?_
 obtain rfl := Option.some.inj hm
 refine aM [.u64 w_, I 0] qe (by kernel_rfl) ?_
 exact ⟨rfl, k_⟩
theorem pC {F O : Nat → Prop} {w : World} (b : List UInt8) (at_ : Int) (l8 : Option Addr) (o6 : Nat) (mq : Nat) (qu : Ro F w l8 (e8.all b)) (qv : b.length = o6) (rC : o6 ≤ mq) (k : Cx F O w w []) (r : (UInt64 × Int)) (hm : iw b at_ = some r) :
    Calls Try.prog 45 (ad [sl l8 o6 mq, I at_]) w (fun e w' => e = .returned (SV.val (.eO [.u64 r.1, I r.2])) ∧ Cx F O w w' []) := by
 unfold iw at hm
 subst qv
 refine calls [sl l8 b.length mq, I at_] Try.func45 rfl (of_decide_eq_true (by kernel_rfl)) ?_
 refine ab <| bA [] .a qe (by kernel_rfl) ?_
 refine aa <| ab <| ao <| bn 2 [] (.n 6 (sl l8 b.length mq) (.n 7 (I at_) .z)) qe (by kernel_rfl) ?_
 refine ag ?_
 obtain ⟨r_, dk, hm⟩ := ob hm
 refine aq [] 8 _ Fj (by kernel_rfl) (yV (F := N0) (O := N0) _ _ _ _ _ _ (Ro.n0 (qu.cx k)) rfl rC (Cx.refl _) _ dk) ?_
 rintro e_ w_ ⟨rfl, k_⟩
 have da := k.call k_
 refine ⟨.eO [.u64 r_.1, I r_.2], rfl, ?_⟩
 refine bn 4 [] (.n 4 (.u64 r_.1) (.n 5 (I r_.2) .z)) qe (by kernel_rfl) ?_
 refine af <| aa <| aL ?_
 obtain rfl := Option.some.inj hm
 refine aM [.u64 r_.1, I r_.2] qe (by kernel_rfl) ?_
 exact ⟨rfl, da⟩
theorem Ci {F O : Nat → Prop} {w : World} (block : List UInt8) (iL : Option Addr) (cy : Nat) (iM : Nat) (q8 : Ro F w iL (e8.all block)) (rE : block.length = cy) (p8 : cy ≤ iM) (k : Cx F O w w []) (r : (ae UInt64 8 × Int)) (hm : oC block = some r) :
    Calls Try.prog 72 (ad [sl iL cy iM]) w (fun e w' => e = .returned (SV.val (.eO [.agg [.ar cj r.1], I r.2])) ∧ Cx F O w w' []) := by
 unfold oC at hm
 subst rE
 refine calls [sl iL block.length iM] Try.func72 rfl (of_decide_eq_true (by kernel_rfl)) ?_
 refine ab <| ao <| ag <| bY [] 2 [.ar cj (ae.rep 8 (0 : UInt64))] (by kernel_rfl) k ?_
 intro g w_ k_
 refine bn 1 [] .a qe (by kernel_rfl) ?_
 refine af <| aa <| ab <| ab <| bA [] (.n 10 (.b (decide (((block.length : Nat) : Int) ≠ 64))) .a) qe (by kernel_rfl) ?_
 refine aa <| bb (((block.length : Nat) : Int) ≠ 64) (by kernel_rfl) (fun hc => ?_) (fun hc => ?_)
 · rw [if_pos hc] at hm
   refine ab <| ao <| bn 1 [] (.n 11 (.agg [.ar cj (ae.rep 8 ((0 : UInt64) : UInt64))]) (.s (.k .z))) qe (by kernel_rfl) ?_
   refine ag <| ey [] 0 (.agg [.ar cj (ae.rep 8 ((0 : UInt64) : UInt64))]) [.ar cj (ae.rep 8 ((0 : UInt64) : UInt64))] (Pt.at g 0) k_ rfl .all (by kernel_rfl) (by kernel_rfl) ?_
   intro lh da
   refine bn 1 [] (.n 3 (I 1) (.s .a)) qe (by kernel_rfl) ?_
   refine af <| aa <| aL (bI ?_)
   obtain rfl := Option.some.inj hm
   refine aM [.agg [.ar cj (ae.rep 8 ((0 : UInt64) : UInt64))], I 1] (qo (.agg [.ar cj (ae.rep 8 ((0 : UInt64) : UInt64))]) <| qc (fun w => Rd w (some ⟨g, 0, none⟩) (SV.cl [.ar cj (ae.rep 8 ((0 : UInt64) : UInt64))])) (da.uq 0 rfl) <| qe) (by kernel_rfl) ?_
   have dF := da.ck .z
   exact ⟨rfl, dF⟩
 rw [if_neg hc] at hm
 refine aS <| aa <| ab <| ao <| ag ?_
 obtain ⟨r_, dk, hm⟩ := ob hm
 refine aq [] 12 _ FC (by kernel_rfl) (Bo (F := N0) (O := N0)  (Cx.refl _) _ dk) ?_
 rintro e_ l4 ⟨rfl, en⟩
 have eA := k_.call en
 refine ⟨.agg [.ar cj r_], rfl, ?_⟩
 refine ag <| bY [] 4 [.ar cj (ae.rep 8 (0 : UInt64))] (by kernel_rfl) eA ?_
 intro g1 qf fJ
 refine ag <| ey [] 1 (.agg [.ar cj r_]) [.ar cj r_] (Pt.at g1 0) fJ rfl .all (by kernel_rfl) (by kernel_rfl) ?_
 intro p7 gi
 refine af <| aa <| ab <| ab <| bA [] (.n 13 (I 0) (.k (.ss .a))) qe (by kernel_rfl) ?_
 refine aa <| cu <| pc (nN block) (fun s L wr => ∃ (h : ae UInt64 8) (aC : Int), (h, aC) = s ∧ L = [(0, sl iL block.length iM), (2, pt g 0), (4, pt g1 0), (13, I aC)] ∧ Cx F O w wr [Bx 123 g [.ar cj (ae.rep 8 (0 : UInt64))], Bx 123 g1 [.ar cj h]]) (r_, (0 : Int)) r hm ⟨r_, (0 : Int), rfl, rfl, gi⟩ (by kernel_rfl) ?_
 intro yU L_ sV y0 jd dd nF
 obtain ⟨h, aC, rfl, rfl, fY⟩ := jd
 have hm := dd; simp only [nN] at hm
 clear dd
 refine ab <| bA [] (.n 14 (.b (decide (aC < 8))) .a) qe (by kernel_rfl) ?_
 refine aa <| ab <| bb (aC < 8) (by kernel_rfl) (fun kr => ?_) (fun kr => ?_)
 · rw [if_pos kr] at hm
   refine aS <| aa <| ab <| cu <| ab <| bA [] (.n 5 (I aC) (.s .a)) qe (by kernel_rfl) ?_
   refine aa <| ab <| ao <| bn 3 [] (.n 17 (sl iL block.length iM) (.n 19 (I (aB (8 * aC))) .a)) qe (by kernel_rfl) ?_
   refine ag ?_
   obtain ⟨ah, dt, hm⟩ := ob hm
   refine aq [] 20 _ zb (by kernel_rfl) (pC (F := N0) (O := N0) _ _ _ _ _ (Ro.n0 (q8.cx fY)) rfl p8 (Cx.refl _) _ dt) ?_
   rintro e_ wi ⟨rfl, fZ⟩
   have gY := fY.call fZ
   refine ⟨.eO [.u64 ah.1, I ah.2], rfl, ?_⟩
   refine bn 5 [] (.n 6 (.u64 ah.1) (.lj .a)) qe (by kernel_rfl) ?_
   refine af <| aa <| ao ?_
   obtain ⟨ej, jk, hm⟩ := ob hm
   obtain ⟨fg, jZ, hm⟩ := ob hm
   refine bn 6 [] (.n 27 (.u64 (ej ^^^ ah.1)) (.n 28 (.v (.pointer (nv (some ⟨g1, 0, none⟩) aC 1))) (.ss .a))) (qV (gY.nE 1 rfl cj h 0 (by kernel_rfl)) jk rfl (.u64 ej) rfl <| qI g1 0 jZ <| qe) (by kernel_rfl) ?_
   refine ag ?_
   obtain ⟨v, Kv, hm⟩ := nm hm
   refine kW (E := cj) (kk := 0) [] 1 (.u64 (ej ^^^ ah.1)) [.u64 (ej ^^^ ah.1)] Kv jZ (Pt.xo (Pt.at g1 0) aC 1) gY rfl .h rfl (by kernel_rfl) (by kernel_rfl) ?_
   intro vO dK
   refine af <| hH <| aa <| bA [] (.n 13 (I (aB (aC + 1))) (.ss (.ua .z))) qe (by kernel_rfl) ?_
   exact jR (v, aB (aC + 1)) (Option.some.inj hm).symm ⟨v, aB (aC + 1), rfl, rfl, dK⟩ (by kernel_rfl)
 rw [if_neg kr] at hm
 refine iq (fe (fe (kG ?_)))
 have hm := d_ hm nF
 refine aa <| ab <| ao <| bn 1 [] (.n 30 (.agg [.ar cj h]) (.ss (.k .z))) (qT fY 1 rfl 0 8 [.ar cj h] (by kernel_rfl) (by decide) <| qe) (by kernel_rfl) ?_
 refine ag <| ey [] 0 (.agg [.ar cj h]) [.ar cj h] (Pt.at g 0) fY rfl .all (by kernel_rfl) (by kernel_rfl) ?_
 intro Av c_
 have ez := c_.ck (.k .z)
 refine bn 1 [] (.n 3 (I 0) (.s .a)) qe (by kernel_rfl) ?_
 refine af <| aa <| aL ?_
 obtain rfl := Option.some.inj hm
 refine aM [.agg [.ar cj h], I 0] (qo (.agg [.ar cj h]) <| qc (fun w => Rd w (some ⟨g, 0, none⟩) (SV.cl [.ar cj h])) (ez.uq 0 rfl) <| qe) (by kernel_rfl) ?_
 have dH := ez.ck .z
 exact ⟨rfl, dH⟩
theorem xx {F O : Nat → Prop} {w : World} (b : List UInt8) (n : Int) (l8 : Option Addr) (o6 : Nat) (mq : Nat) (qu : Ro F w l8 (e8.all b)) (qv : b.length = o6) (rC : o6 ≤ mq) (k : Cx F O w w []) (r : Int) (hm : qN b n = some r) :
    Calls Try.prog 82 (ad [sl l8 o6 mq, I n]) w (fun e w' => e = .returned (SV.val (I r)) ∧ Cx F O w w' []) := by
 unfold qN at hm
 subst qv
 refine calls [sl l8 b.length mq, I n] Try.func82 rfl (of_decide_eq_true (by kernel_rfl)) ?_
 refine ab <| bA [] .a qe (by kernel_rfl) ?_
 refine aa <| ab <| cu <| ab <| bA [] (.n 5 (.b (decide (((b.length : Nat) : Int) < n))) .a) qe (by kernel_rfl) ?_
 refine aa <| bb (((b.length : Nat) : Int) < n) (by kernel_rfl) (fun hc => ?_) (fun hc => ?_)
 · rw [if_pos hc] at hm
   refine ab <| bA [] (.n 4 (I 3) .z) qe (by kernel_rfl) ?_
   refine aa <| aL (gh (bI ?_))
   obtain rfl := Option.some.inj hm
   refine aM [I 3] qe (by kernel_rfl) ?_
   exact ⟨rfl, k⟩
 rw [if_neg hc] at hm
 refine ab <| bA [] (.n 10 (.b (decide (n < ((b.length : Nat) : Int)))) .z) qe (by kernel_rfl) ?_
 refine aa <| bb (n < ((b.length : Nat) : Int)) (by kernel_rfl) (fun kr => ?_) (fun kr => ?_)
 · rw [if_pos kr] at hm
   refine ab <| bA [] (.n 4 (I 2) .z) qe (by kernel_rfl) ?_
   refine aa <| aL (gh (bI ?_))
   obtain rfl := Option.some.inj hm
   refine aM [I 2] qe (by kernel_rfl) ?_
   exact ⟨rfl, k⟩
 rw [if_neg kr] at hm
 refine aS <| hH <| aa <| ab <| bA [] (.n 4 (I 0) .z) qe (by kernel_rfl) ?_
 refine aa <| aL ?_
 obtain rfl := Option.some.inj hm
 refine aM [I 0] qe (by kernel_rfl) ?_
 exact ⟨rfl, k⟩
theorem AJ {F O : Nat → Prop} {w : World} (b : List UInt8) (at_ : Int) (l8 : Option Addr) (o6 : Nat) (mq : Nat) (qu : Ro F w l8 (e8.all b)) (qv : b.length = o6) (rC : o6 ≤ mq) (k : Cx F O w w []) (r : (UInt32 × Int)) (hm : sk b at_ = some r) :
    Calls Try.prog 15 (ad [sl l8 o6 mq, I at_]) w (fun e w' => e = .returned (SV.val (.eO [.u32 r.1, I r.2])) ∧ Cx F O w w' []) := by
 unfold sk at hm
 subst qv
 refine calls [sl l8 b.length mq, I at_] Try.func15 rfl (of_decide_eq_true (by kernel_rfl)) ?_
 refine ab <| bA [] .a qe (by kernel_rfl) ?_
 refine aa <| ab <| ao <| bn 2 [] (.n 9 (sl l8 b.length mq) (.n 10 (I at_) .z)) qe (by kernel_rfl) ?_
 refine ag ?_
 obtain ⟨r_, dk, hm⟩ := ob hm
 refine aq [] 11 _ Fj (by kernel_rfl) (yV (F := N0) (O := N0) _ _ _ _ _ _ (Ro.n0 (qu.cx k)) rfl rC (Cx.refl _) _ dk) ?_
 rintro e_ w_ ⟨rfl, k_⟩
 have da := k.call k_
 refine ⟨.eO [.u64 r_.1, I r_.2], rfl, ?_⟩
 refine bn 5 [] (.n 6 (.u64 r_.1) (.n 7 (I r_.2) .z)) qe (by kernel_rfl) ?_
 refine af <| aa <| ab <| bA [] (.n 4 (.u32 (UInt32.ofNat r_.1.toNat)) (.n 5 (I r_.2) .z)) qe (by kernel_rfl) ?_
 refine aa <| aL ?_
 obtain rfl := Option.some.inj hm
 refine aM [.u32 (UInt32.ofNat r_.1.toNat), I r_.2] qe (by kernel_rfl) ?_
 exact ⟨rfl, da⟩
theorem xy {F O : Nat → Prop} {w : World} (m_ : List UInt32) (b : List UInt8) (Cj : Option Addr) (Kw : Nat) (HQ : Nat) (MJ : Jr) (l8 : Option Addr) (o6 : Nat) (mq : Nat) (Vp : Kw ≤ HQ) (qu : Ro F w l8 (e8.all b)) (qv : b.length = o6) (rC : o6 ≤ mq) (k : Cx F O w w [Mw du Cj Kw m_ MJ]) (r : (List UInt32)) (hm : qO m_ b = some r) :
    Calls Try.prog 83 (ad [sl Cj Kw HQ, sl l8 o6 mq]) w (fun e w' => e = .returned (SV.val (.eO [])) ∧ Cx F O w w' [Mw du Cj Kw r MJ]) := by
 unfold qO at hm
 obtain rfl := k.D6 0 rfl
 subst qv
 refine calls [sl Cj m_.length HQ, sl l8 b.length mq] Try.func83 rfl (of_decide_eq_true (by kernel_rfl)) ?_
 refine ab <| bA [] (.n 6 (I ((m_.length : Nat) : Int)) (.n 7 (I 0) .a)) qe (by kernel_rfl) ?_
 refine aa <| cu <| pc (qh m_ b) (fun s L wr => ∃ (xp : List UInt32) (aC : Int), (xp, aC) = s ∧ L = [(0, sl Cj m_.length HQ), (1, sl l8 b.length mq), (6, I ((m_.length : Nat) : Int)), (7, I aC)] ∧ Cx F O w wr [Mw du Cj m_.length xp MJ]) (m_, (0 : Int)) r hm ⟨m_, (0 : Int), rfl, rfl, k⟩ (by kernel_rfl) ?_
 intro yU L_ w_ y0 jd dd nF
 obtain ⟨xp, aC, rfl, rfl, k_⟩ := jd
 have hm := dd; simp only [qh] at hm
 clear dd
 refine ab <| bA [] (.n 8 (.b (decide (aC < ((m_.length : Nat) : Int)))) .a) qe (by kernel_rfl) ?_
 refine aa <| ab <| bb (aC < ((m_.length : Nat) : Int)) (by kernel_rfl) (fun hc => ?_) (fun hc => ?_)
 · rw [if_pos hc] at hm
   refine aS <| aa <| ab <| cu <| ab <| bA [] (.n 4 (I aC) (.s .a)) qe (by kernel_rfl) ?_
   refine aa <| ao <| bn 5 [] (.n 11 (sl Cj m_.length HQ) (.n 12 (I aC) (.n 13 (sl l8 b.length mq) (.n 15 (I (aB (4 * aC))) (.s .a))))) qe (by kernel_rfl) ?_
   refine ag ?_
   obtain ⟨r_, dk, hm⟩ := ob hm
   refine aq [] 16 _ JM (by kernel_rfl) (AJ (F := N0) (O := N0) _ _ _ _ _ (Ro.n0 (qu.cx k_)) rfl rC (Cx.refl _) _ dk) ?_
   rintro e_ lh ⟨rfl, da⟩
   have dF := k_.call da
   refine ⟨.eO [.u32 r_.1, I r_.2], rfl, ?_⟩
   obtain ⟨eL, jC, hm⟩ := ob hm
   refine bn 4 [] (.n 17 (.u32 r_.1) (.n 19 (.v (.pointer (nv Cj aC 1))) (.fQ (.s .a)))) (qJ (dF.QX 0 rfl) jC (dF.D6 0 rfl) <| qe) (by kernel_rfl) ?_
   refine ag <| Hh (E := du) (kk := 0) (sv := .u32 r_.1) (svs := [.u32 r_.1]) [] 0 r_.1 (by kernel_rfl) (Pt.x6 Cj aC 1) dF rfl (eC jC).2 (y1 (E := du) (dF.QX 0 rfl) (by decide) (kE jC).1 (eC jC).2) rfl (Nat.le_of_ble_eq_true (by kernel_rfl)) ?_
   intro l4 en
   refine af <| hH <| aa <| bA [] (.n 7 (I (aB (aC + 1))) (.ss (.ua .z))) qe (by kernel_rfl) ?_
   exact jR (xp.set (Int.toNat aC) r_.1, aB (aC + 1)) (Option.some.inj hm).symm ⟨xp.set (Int.toNat aC) r_.1, aB (aC + 1), rfl, rfl, en⟩ (by kernel_rfl)
 rw [if_neg hc] at hm
 refine iq (fe (fe (kG ?_)))
 have hm := d_ hm nF
 obtain rfl := Option.some.inj hm
 refine pJ [] qe (by kernel_rfl) ?_
 exact ⟨rfl, k_⟩
theorem Bp {F O : Nat → Prop} {w : World} (k : Cx F O w w []) (r : (ae UInt32 8)) (hm : vo = some r) :
    Calls Try.prog 84 (ad []) w (fun e w' => e = .returned (SV.val (.agg [.ar du r])) ∧ Cx F O w w' []) := by
 unfold vo at hm
 refine calls [] Try.func84 rfl (of_decide_eq_true (by kernel_rfl)) ?_
 refine ab <| ao <| ag <| bY [] 0 [.ar du (ae.rep 8 (0 : UInt32))] (by kernel_rfl) k ?_
 intro g w_ k_
 refine af <| aa <| ab <| ao <| bn 1 [] (.n 1 (.agg [.ar du (⟨[(1779033703 : UInt32), (3144134277 : UInt32), (1013904242 : UInt32), (2773480762 : UInt32), (1359893119 : UInt32), (2600822924 : UInt32), (528734635 : UInt32), (1541459225 : UInt32)], rfl⟩ : ae UInt32 8)]) .a) qe (by kernel_rfl) ?_
 refine ag <| ey [] 0 (.agg [.ar du (⟨[(1779033703 : UInt32), (3144134277 : UInt32), (1013904242 : UInt32), (2773480762 : UInt32), (1359893119 : UInt32), (2600822924 : UInt32), (528734635 : UInt32), (1541459225 : UInt32)], rfl⟩ : ae UInt32 8)]) [.ar du (⟨[(1779033703 : UInt32), (3144134277 : UInt32), (1013904242 : UInt32), (2773480762 : UInt32), (1359893119 : UInt32), (2600822924 : UInt32), (528734635 : UInt32), (1541459225 : UInt32)], rfl⟩ : ae UInt32 8)] (Pt.at g 0) k_ rfl .all (by kernel_rfl) (by kernel_rfl) ?_
 intro lh da
 refine af <| aa <| aL ?_
 obtain rfl := Option.some.inj hm
 refine aM [.agg [.ar du (⟨[(1779033703 : UInt32), (3144134277 : UInt32), (1013904242 : UInt32), (2773480762 : UInt32), (1359893119 : UInt32), (2600822924 : UInt32), (528734635 : UInt32), (1541459225 : UInt32)], rfl⟩ : ae UInt32 8)]] (qo (.agg [.ar du (⟨[(1779033703 : UInt32), (3144134277 : UInt32), (1013904242 : UInt32), (2773480762 : UInt32), (1359893119 : UInt32), (2600822924 : UInt32), (528734635 : UInt32), (1541459225 : UInt32)], rfl⟩ : ae UInt32 8)]) <| qc (fun w => Rd w (some ⟨g, 0, none⟩) (SV.cl [.ar du (⟨[(1779033703 : UInt32), (3144134277 : UInt32), (1013904242 : UInt32), (2773480762 : UInt32), (1359893119 : UInt32), (2600822924 : UInt32), (528734635 : UInt32), (1541459225 : UInt32)], rfl⟩ : ae UInt32 8)])) (da.uq 0 rfl) <| qe) (by kernel_rfl) ?_
 have dF := da.ck .z
 exact ⟨rfl, dF⟩
theorem Ck {F O : Nat → Prop} {w : World} (block : List UInt8) (iL : Option Addr) (cy : Nat) (iM : Nat) (q8 : Ro F w iL (e8.all block)) (rE : block.length = cy) (p8 : cy ≤ iM) (k : Cx F O w w []) (r : (ae UInt32 8 × Int)) (hm : te block = some r) :
    Calls Try.prog 75 (ad [sl iL cy iM]) w (fun e w' => e = .returned (SV.val (.eO [.agg [.ar du r.1], I r.2])) ∧ Cx F O w w' []) := by
 unfold te at hm
 subst rE
 refine calls [sl iL block.length iM] Try.func75 rfl (of_decide_eq_true (by kernel_rfl)) ?_
 refine ab <| ao <| ag <| bY [] 2 [.ar du (ae.rep 8 (0 : UInt32))] (by kernel_rfl) k ?_
 intro g w_ k_
 refine bn 1 [] .a qe (by kernel_rfl) ?_
 refine af <| aa <| ab <| ab <| ao <| bn 1 [] (.n 8 (sl iL block.length iM) .a) qe (by kernel_rfl) ?_
 refine ag ?_
 obtain ⟨r_, dk, hm⟩ := ob hm
 refine aq [] 9 _ FD (by kernel_rfl) (xx (F := N0) (O := N0) _ _ _ _ _ (Ro.n0 (q8.cx k_)) rfl p8 (Cx.refl _) _ dk) ?_
 rintro e_ lh ⟨rfl, da⟩
 have dF := k_.call da
 refine ⟨I r_, rfl, ?_⟩
 refine bn 1 [] (.n 4 (I r_) (.ss .a)) qe (by kernel_rfl) ?_
 refine af <| aa <| ab <| bA [] (.n 11 (.b (decide (r_ ≠ 0))) .a) qe (by kernel_rfl) ?_
 refine aa <| bb (r_ ≠ 0) (by kernel_rfl) (fun hc => ?_) (fun hc => ?_)
 · rw [if_pos hc] at hm
   refine ab <| ao <| bn 2 [] (.n 12 (.agg [.ar du (ae.rep 8 ((0 : UInt32) : UInt32))]) (.n 13 (I r_) (.ss (.k .z)))) qe (by kernel_rfl) ?_
   refine ag <| ey [] 0 (.agg [.ar du (ae.rep 8 ((0 : UInt32) : UInt32))]) [.ar du (ae.rep 8 ((0 : UInt32) : UInt32))] (Pt.at g 0) dF rfl .all (by kernel_rfl) (by kernel_rfl) ?_
   intro l4 en
   refine bn 1 [] (.n 3 (I r_) (.ss .a)) qe (by kernel_rfl) ?_
   refine af <| aa <| aL (bI ?_)
   obtain rfl := Option.some.inj hm
   refine aM [.agg [.ar du (ae.rep 8 ((0 : UInt32) : UInt32))], I r_] (qo (.agg [.ar du (ae.rep 8 ((0 : UInt32) : UInt32))]) <| qc (fun w => Rd w (some ⟨g, 0, none⟩) (SV.cl [.ar du (ae.rep 8 ((0 : UInt32) : UInt32))])) (en.uq 0 rfl) <| qe) (by kernel_rfl) ?_
   have eA := en.ck .z
   exact ⟨rfl, eA⟩
 rw [if_neg hc] at hm
 refine aS <| aa <| ab <| ao <| ag <| bY [] 5 [.ar du (ae.rep 8 (0 : UInt32))] (by kernel_rfl) dF ?_
 intro g1 qf fJ
 refine af <| aa <| ab <| ao <| bn 2 [] (.n 14 (sl (some ⟨g1, 0, none⟩) 8 8) (.n 15 (sl iL block.length iM) (.k (.ss (.k .z))))) (qo (.v (.slice (some ⟨g1, 0, none⟩) 8 8)) <| qp (((some ⟨g1, 0, none⟩) : Option Addr).isSome = true ∧ Value.slice (sA (some ⟨g1, 0, none⟩) 0 8 1) (8 - 0) (8 - 0) = .slice (some ⟨g1, 0, none⟩) 8 8) ⟨rfl, ur _ _ _ _ _ rfl⟩ <| qe) (by kernel_rfl) ?_
 refine ag ?_
 have gi := fJ.Lr [] [] 1 rfl
 obtain ⟨ah, dt, hm⟩ := ob hm
 obtain ⟨F1, O1, lO, hO, rO, hF, hb⟩ := gi.go (.r (.i .e))
 refine aq [] 16 _ FE (by kernel_rfl) (xy (F := F1) (O := O1) _ _ _ _ _ _ _ _ _ (Nat.le_refl _) (Ro.aY q8 gi hF) rfl p8 lO _ dt) ?_
 rintro e_ p7 ⟨rfl, fY⟩
 have fZ := hb p7 _ _ fY (.c .n)
 refine ⟨.eO [], rfl, ?_⟩
 have gY := fZ.Lt [] [] 0 rfl (ae.of 8 ah) (ae.Pl (fZ.D6 0 rfl))
 refine af <| aa <| ab <| ao <| ag ?_
 have dK := gY.ck (.kk .e)
 obtain ⟨bh, gX, hm⟩ := ob hm
 refine aq [] 17 _ FF (by kernel_rfl) (Bp (F := N0) (O := N0)  (Cx.refl _) _ gX) ?_
 rintro e_ sV ⟨rfl, c_⟩
 have ez := dK.call c_
 refine ⟨.agg [.ar du bh], rfl, ?_⟩
 refine ag <| bY [] 6 [.ar du (ae.rep 8 (0 : UInt32))] (by kernel_rfl) ez ?_
 intro g2 wi dH
 refine ag <| ey [] 2 (.agg [.ar du bh]) [.ar du bh] (Pt.at g2 0) dH rfl .all (by kernel_rfl) (by kernel_rfl) ?_
 intro vO eX
 refine af <| aa <| ab <| ab <| bA [] (.n 18 (I 0) (.k (.fQ .a))) qe (by kernel_rfl) ?_
 refine aa <| cu ?_
 have fX := ((eX.pk (.t (.t .h))).pk (.t .h)).pk (.t (.t .h))
 refine pc (qi ah) (fun s L wr => ∃ (h : ae UInt32 8) (aC : Int), (h, aC) = s ∧ L = [(2, pt g 0), (5, pt g1 0), (6, pt g2 0), (18, I aC)] ∧ Cx F O w wr [Bx 133 g [.ar du (ae.rep 8 (0 : UInt32))], Bx 133 g1 [.ar du (ae.of 8 ah)], Bx 133 g2 [.ar du h]]) (bh, (0 : Int)) r hm ⟨bh, (0 : Int), rfl, rfl, fX⟩ (by kernel_rfl) ?_
 intro yU L_ Av y0 jd dd nF
 obtain ⟨h, aC, rfl, rfl, iu⟩ := jd
 have hm := dd; simp only [qi] at hm
 clear dd
 refine ab <| bA [] (.n 19 (.b (decide (aC < 8))) .a) qe (by kernel_rfl) ?_
 refine aa <| ab <| bb (aC < 8) (by kernel_rfl) (fun kr => ?_) (fun kr => ?_)
 · rw [if_pos kr] at hm
   refine aS <| aa <| ab <| cu <| ab <| bA [] (.n 7 (I aC) (.s .a)) qe (by kernel_rfl) ?_
   refine aa ?_
   have jY := iu.drew 1
   refine qy bw (.q 0 0 (.q 1 0 (.q 2 0 (.q 3 0 (.q 4 0 (.q 5 0 (.q 6 0 (.q 7 0 (.op 8 .nil))))))))) [8] jY (.c (.kk .z) .l) (by kernel_rfl) (fun _ => ?_)
   obtain ⟨ej, jk, hm⟩ := ob hm
   obtain ⟨fg, jZ, hm⟩ := ob hm
   obtain ⟨ll, nt, hm⟩ := ob hm
   refine bx 8 0 [] (.n 27 (.u32 (ej ^^^ fg)) (.n 28 (.v (.pointer (nv (some ⟨g2, 0, none⟩) aC 1))) (.s .a))) (fun x hx => qV (hx.nE 2 rfl du h 0 (by kernel_rfl)) jk rfl (.u32 ej) rfl <| qV (hx.nE 1 rfl du (ae.of 8 ah) 0 (by kernel_rfl)) jZ rfl (.u32 fg) rfl <| qI g2 0 nt <| qe) (by kernel_rfl) (fun _ => ?_)
   refine bZ (by kernel_rfl) rfl ?_
   obtain ⟨v, Kv, hm⟩ := nm hm
   refine kW (E := du) (kk := 0) [] 2 (.u32 (ej ^^^ fg)) [.u32 (ej ^^^ fg)] Kv nt (Pt.xo (Pt.at g2 0) aC 1) jY rfl .h rfl (by kernel_rfl) (by kernel_rfl) ?_
   intro De iK
   refine ⟨(iK.ck (.kk .z)), fun _ => ?_⟩
   refine ct <| hH <| aa <| bA [] (.n 18 (I (aB (aC + 1))) (.ss (.ua .z))) qe (by kernel_rfl) ?_
   exact jR (v, aB (aC + 1)) (Option.some.inj hm).symm ⟨v, aB (aC + 1), rfl, rfl, iK⟩ (by kernel_rfl)
 rw [if_neg kr] at hm
 refine iq (fe (fe (kG ?_)))
 have hm := d_ hm nF
 refine aa <| ab <| ao <| bn 1 [] (.n 30 (.agg [.ar du h]) (.s (.k .z))) (qT iu 2 rfl 0 8 [.ar du h] (by kernel_rfl) (by decide) <| qe) (by kernel_rfl) ?_
 refine ag <| ey [] 0 (.agg [.ar du h]) [.ar du h] (Pt.at g 0) iu rfl .all (by kernel_rfl) (by kernel_rfl) ?_
 intro z6 kt
 have kg := kt.ck (.k .z)
 refine bn 1 [] (.n 3 (I 0) (.s .a)) qe (by kernel_rfl) ?_
 refine af <| aa <| aL ?_
 obtain rfl := Option.some.inj hm
 refine aM [.agg [.ar du h], I 0] (qo (.agg [.ar du h]) <| qc (fun w => Rd w (some ⟨g, 0, none⟩) (SV.cl [.ar du h])) (kg.uq 0 rfl) <| qe) (by kernel_rfl) ?_
 have lW := kg.ck .z
 exact ⟨rfl, lW⟩
theorem Cl {F O : Nat → Prop} {w : World} (k_ : Int) (block : List UInt8) (iL : Option Addr) (cy : Nat) (iM : Nat) (q8 : Ro F w iL (e8.all block)) (rE : block.length = cy) (p8 : cy ≤ iM) (k : Cx F O w w []) (r : (ae UInt64 8 × List UInt8) ⊕ (ae UInt32 8 × List UInt8)) (hm : qP k_ block = some r) :
    Calls Try.prog 69 (ad [I k_, sl iL cy iM]) w (fun e w' => match r with | .inl r0 => ∃ g A n c, r0.2.length = n ∧ e = .returned (SV.val (.v (.iface 126 (SV.val (pt g 0))))) ∧ Cx F O w w' [Bx 132 g [.ar cj r0.1, .u64 0, .u64 0, sl A n c, I 128, .v (.func (.func 73) ⟨SV.ad []⟩ ⟨SV.ad []⟩), .v (.func (.func 74) ⟨SV.ad []⟩ ⟨SV.ad []⟩)], Ow e8 A n c r0.2] | .inr r1 => ∃ g1 A1 n1 c1, r1.2.length = n1 ∧ e = .returned (SV.val (.v (.iface 136 (SV.val (pt g1 0))))) ∧ Cx F O w w' [Bx 140 g1 [.ar du r1.1, .u64 0, .u64 0, sl A1 n1 c1, I 64, .v (.func (.func 76) ⟨SV.ad []⟩ ⟨SV.ad []⟩), .v (.func (.func 77) ⟨SV.ad []⟩ ⟨SV.ad []⟩)], Ow e8 A1 n1 c1 r1.2]) := by
 unfold qP at hm
 subst rE
 refine calls [I k_, sl iL block.length iM] Try.func69 rfl (of_decide_eq_true (by kernel_rfl)) ?_
 refine ab <| bA [] .a qe (by kernel_rfl) ?_
 refine aa <| ab <| ab <| bA [] (.n 10 (.b (decide (k_ = 1))) (.s .a)) qe (by kernel_rfl) ?_
 refine aa <| bb (k_ = 1) (by kernel_rfl) (fun hc => ?_) (fun hc => ?_)
 · rw [if_pos hc] at hm
   refine ab <| ao <| bn 1 [] (.n 12 (sl iL block.length iM) .z) qe (by kernel_rfl) ?_
   refine ag ?_
   obtain ⟨r_, dk, hm⟩ := ob hm
   refine aq [] 13 _ Kb (by kernel_rfl) (Ci (F := N0) (O := N0) _ _ _ _ (Ro.n0 (q8.cx k)) rfl p8 (Cx.refl _) _ dk) ?_
   rintro e_ w_ ⟨rfl, da⟩
   have dF := k.call da
   refine ⟨.eO [.agg [.ar cj r_.1], I r_.2], rfl, ?_⟩
   refine bn 3 [] (.n 14 (.agg [.ar cj r_.1]) (.n 15 (I r_.2) .z)) qe (by kernel_rfl) ?_
   refine ag <| bY [] 5 [.ar cj (ae.rep 8 (0 : UInt64))] (by kernel_rfl) dF ?_
   intro g0 lh en
   refine ag <| ey [] 0 (.agg [.ar cj r_.1]) [.ar cj r_.1] (Pt.at g0 0) en rfl .all (by kernel_rfl) (by kernel_rfl) ?_
   intro l4 eA
   refine bn 1 [] (.k .z) qe (by kernel_rfl) ?_
   refine af <| aa <| ab <| ao <| bn 2 [] (.n 17 (.agg [.ar cj r_.1, .u64 0, .u64 0, sl none 0 0, I 128, .v (.func (.func 73) ⟨SV.ad []⟩ ⟨SV.ad []⟩), .v (.func (.func 74) ⟨SV.ad []⟩ ⟨SV.ad []⟩)]) .z) (qT eA 0 rfl 0 8 [.ar cj r_.1] (by kernel_rfl) (by decide) <| qe) (by kernel_rfl) ?_
   refine ag <| gj [] 18 (.agg [.ar cj r_.1, .u64 0, .u64 0, sl none 0 0, I 128, .v (.func (.func 73) ⟨SV.ad []⟩ ⟨SV.ad []⟩), .v (.func (.func 74) ⟨SV.ad []⟩ ⟨SV.ad []⟩)]) [.ar cj r_.1, .u64 0, .u64 0, sl none 0 0, I 128, .v (.func (.func 73) ⟨SV.ad []⟩ ⟨SV.ad []⟩), .v (.func (.func 74) ⟨SV.ad []⟩ ⟨SV.ad []⟩)] (by kernel_rfl) eA ?_
   intro g2 qf fJ
   refine bn 2 [] (.n 4 (.v (.iface 126 (SV.val (pt g2 0)))) .z) qe (by kernel_rfl) ?_
   refine af <| aa <| aL (bI ?_)
   have gi := fJ.nil e8
   obtain rfl := Option.some.inj hm
   refine aM [.v (.iface 126 (SV.val (pt g2 0)))] qe (by kernel_rfl) ?_
   have fY := gi.ck (.s (.kk .e))
   exact ⟨g2, none, 0, 0, fY.len 1 rfl, rfl, fY⟩
 rw [if_neg hc] at hm
 refine aS <| aa <| ab <| ao <| bn 1 [] (.n 21 (sl iL block.length iM) .z) qe (by kernel_rfl) ?_
 refine ag ?_
 obtain ⟨ah, dt, hm⟩ := ob hm
 refine aq [] 22 _ Kd (by kernel_rfl) (Ck (F := N0) (O := N0) _ _ _ _ (Ro.n0 (q8.cx k)) rfl p8 (Cx.refl _) _ dt) ?_
 rintro e_ p7 ⟨rfl, fZ⟩
 have gY := k.call fZ
 refine ⟨.eO [.agg [.ar du ah.1], I ah.2], rfl, ?_⟩
 refine bn 3 [] (.n 23 (.agg [.ar du ah.1]) (.n 24 (I ah.2) .z)) qe (by kernel_rfl) ?_
 refine ag <| bY [] 7 [.ar du (ae.rep 8 (0 : UInt32))] (by kernel_rfl) gY ?_
 intro g3 sV dK
 refine ag <| ey [] 0 (.agg [.ar du ah.1]) [.ar du ah.1] (Pt.at g3 0) dK rfl .all (by kernel_rfl) (by kernel_rfl) ?_
 intro wi c_
 refine bn 1 [] (.k .z) qe (by kernel_rfl) ?_
 refine af <| aa <| ab <| ao <| bn 2 [] (.n 26 (.agg [.ar du ah.1, .u64 0, .u64 0, sl none 0 0, I 64, .v (.func (.func 76) ⟨SV.ad []⟩ ⟨SV.ad []⟩), .v (.func (.func 77) ⟨SV.ad []⟩ ⟨SV.ad []⟩)]) .z) (qT c_ 0 rfl 0 8 [.ar du ah.1] (by kernel_rfl) (by decide) <| qe) (by kernel_rfl) ?_
 refine ag <| gj [] 27 (.agg [.ar du ah.1, .u64 0, .u64 0, sl none 0 0, I 64, .v (.func (.func 76) ⟨SV.ad []⟩ ⟨SV.ad []⟩), .v (.func (.func 77) ⟨SV.ad []⟩ ⟨SV.ad []⟩)]) [.ar du ah.1, .u64 0, .u64 0, sl none 0 0, I 64, .v (.func (.func 76) ⟨SV.ad []⟩ ⟨SV.ad []⟩), .v (.func (.func 77) ⟨SV.ad []⟩ ⟨SV.ad []⟩)] (by kernel_rfl) c_ ?_
 intro g4 vO ez
 refine bn 2 [] (.n 4 (.v (.iface 136 (SV.val (pt g4 0)))) .z) qe (by kernel_rfl) ?_
 refine af <| aa <| aL ?_
 have dH := ez.nil e8
 obtain rfl := Option.some.inj hm
 refine aM [.v (.iface 136 (SV.val (pt g4 0)))] qe (by kernel_rfl) ?_
 have eX := dH.ck (.s (.kk .e))
 exact ⟨g4, none, 0, 0, eX.len 1 rfl, rfl, eX⟩
theorem oW {F O : Nat → Prop} {w : World} (k_ : Int) (k : Cx F O w w []) (r : Int) (hm : iA k_ = some r) :
    Calls Try.prog 71 (ad [I k_]) w (fun e w' => e = .returned (SV.val (I r)) ∧ Cx F O w w' []) := by
 unfold iA at hm
 refine calls [I k_] Try.func71 rfl (of_decide_eq_true (by kernel_rfl)) ?_
 refine ab <| bA [] .a qe (by kernel_rfl) ?_
 refine aa <| ab <| ab <| bA [] (.n 4 (.b (decide (k_ = 1))) .z) qe (by kernel_rfl) ?_
 refine aa <| bb (k_ = 1) (by kernel_rfl) (fun hc => ?_) (fun hc => ?_)
 · rw [if_pos hc] at hm
   refine ab <| bA [] (.n 2 (I 128) .z) qe (by kernel_rfl) ?_
   refine aa <| aL (bI ?_)
   obtain rfl := Option.some.inj hm
   refine aM [I 128] qe (by kernel_rfl) ?_
   exact ⟨rfl, k⟩
 rw [if_neg hc] at hm
 refine aS <| aa <| ab <| bA [] (.n 2 (I 64) .z) qe (by kernel_rfl) ?_
 refine aa <| aL ?_
 obtain rfl := Option.some.inj hm
 refine aM [I 64] qe (by kernel_rfl) ?_
 exact ⟨rfl, k⟩
theorem pD {F O : Nat → Prop} {w : World} (b : List UInt8) (n : Int) (l8 : Option Addr) (o6 : Nat) (mq : Nat) (qu : Ro F w l8 (e8.all b)) (qv : b.length = o6) (rC : o6 ≤ mq) (k : Cx F O w w []) (r : (List UInt8)) (hm : j9 b n = some r) :
    Calls Try.prog 70 (ad [sl l8 o6 mq, I n]) w (fun e w' => ∃ A n1 c, r.length = n1 ∧ e = .returned (SV.val (sl A n1 c)) ∧ Cx F O w w' [Ow e8 A n1 c r]) := by
 unfold j9 at hm
 subst qv
 refine calls [sl l8 b.length mq, I n] Try.func70 rfl (of_decide_eq_true (by kernel_rfl)) ?_
 refine ab <| bA [] .a qe (by kernel_rfl) ?_
 refine aa <| ab <| ao <| bn 1 [] (.n 5 (I n) .a) qe (by kernel_rfl) ?_
 refine ag ?_
 obtain ⟨u, yq, hm⟩ := ob hm
 refine vj im e8 (0 : UInt8) rfl [] 6 (I 0) (I n) (0 : Int) n (by kernel_rfl) (fL yq).1 (fL yq).2.1 (fL yq).2.2 k ?_
 intro A0 w_ k_
 refine bn 1 [] (.n 7 (sl l8 b.length mq) (.k (.s .a))) qe (by kernel_rfl) ?_
 refine ag ?_
 obtain ⟨b1, wP, hm⟩ := ob hm
 obtain ⟨hz, hl⟩ := kV wP
 refine jG (E := e8) (v := sl l8 b.length mq) (ys := b) im [] 8 0 (by kernel_rfl) k_ rfl (Src.sl (qu.cx k_) rfl (by rfl)) rfl (by have := k_.len 0 rfl; have := hm; omega) ?_
 intro A1 c0 lh da
 rw [← hl] at da
 refine bn 4 [] (.n 12 (I (aB (n - ((b.length : Nat) : Int)))) (.k .z)) qe (by kernel_rfl) ?_
 refine ag ?_
 obtain ⟨b2, Cm, hm⟩ := ob hm
 obtain ⟨h0, Lk, FI⟩ := Gd Cm
 refine D8 (E := e8) (kx := .i64) (ik := .i64) im (0 : UInt8) [] 13 0 (aB (n - ((b.length : Nat) : Int))) (by kernel_rfl) rfl da rfl h0 (by have := da.len 0 rfl; omega) ?_
 intro A2 c1 l4 dF
 rw [← FI] at dF
 refine bn 1 [] (.n 4 (sl A2 (Int.toNat (0 : Int) + b.length + Int.toNat (aB (n - ((b.length : Nat) : Int)))) c1) .z) qe (by kernel_rfl) ?_
 refine af <| aa <| aL ?_
 obtain rfl := Option.some.inj hm
 refine aM [sl A2 (Int.toNat (0 : Int) + b.length + Int.toNat (aB (n - ((b.length : Nat) : Int)))) c1] qe (by kernel_rfl) ?_
 exact ⟨A2, Int.toNat (0 : Int) + b.length + Int.toNat (aB (n - ((b.length : Nat) : Int))), c1, dF.len 0 rfl, rfl, dF⟩
theorem pg {F O : Nat → Prop} {w : World} (oz : UInt64) (pd : UInt64) (n : UInt64) (k : Cx F O w w []) (r : (UInt64 × UInt64 × Bool)) (hm : lR oz pd n = some r) :
    Calls Try.prog 119 (ad [.agg [.u64 oz, .u64 pd], .u64 n]) w (fun e w' => e = .returned (SV.val (.eO [.agg [.u64 r.1, .u64 r.2.1], .b r.2.2])) ∧ Cx F O w w' []) := by
 unfold lR at hm
 refine calls [.agg [.u64 oz, .u64 pd], .u64 n] Try.func119 rfl (of_decide_eq_true (by kernel_rfl)) ?_
 refine ab <| ao <| ag <| gj [] 2 (.agg [.u64 oz, .u64 pd]) [.u64 oz, .u64 pd] (by kernel_rfl) k ?_
 intro g w_ k_
 refine ag <| bY [] 4 [.u64 0, .u64 0] (by kernel_rfl) k_ ?_
 intro g1 lh da
 refine bn 1 [] (.kk (.s .a)) qe (by kernel_rfl) ?_
 refine af <| aa <| ab <| ao <| bn 3 [] (.n 12 (.u64 oz) (.n 13 (.u64 n) (.kk .z))) (qs g 0 <| qB da 0 rfl 0 (.u64 oz) (by kernel_rfl) <| qe) (by kernel_rfl) ?_
 refine ag ?_
 obtain ⟨r_, dk, hm⟩ := ob hm
 refine C5 Bn [] 14 oz n (0 : UInt64) (by kernel_rfl) dk ?_
 refine bn 5 [] (.n 6 (.u64 r_.1) (.n 7 (.u64 r_.2) (.lj .a))) qe (by kernel_rfl) ?_
 refine af <| aa <| ab <| ao <| bn 3 [] (.n 19 (.u64 pd) (.n 20 (.u64 r_.2) (.k (.s (.k .z))))) (qs g 0 <| qB da 0 rfl 1 (.u64 pd) (by kernel_rfl) <| qe) (by kernel_rfl) ?_
 refine ag ?_
 obtain ⟨ah, dt, hm⟩ := ob hm
 refine C5 Bn [] 21 pd (0 : UInt64) r_.2 (by kernel_rfl) dt ?_
 refine bn 5 [] (.n 8 (.u64 ah.1) (.n 9 (.u64 ah.2) (.lj .a))) qe (by kernel_rfl) ?_
 refine af <| aa <| ab <| ao <| bn 5 [] (.n 26 (.agg [.u64 r_.1, .u64 ah.1]) (.n 28 (.b (decide (ah.2 = 1))) (.lj .a))) qe (by kernel_rfl) ?_
 refine ag ?_
 have dF := da.ck (.kk .e)
 refine ey [] 1 (.agg [.u64 r_.1, .u64 ah.1]) [.u64 r_.1, .u64 ah.1] (Pt.at g1 0) dF rfl .all (by kernel_rfl) (by kernel_rfl) ?_
 intro l4 en
 have eA := en.ck (.s (.k .e))
 refine bn 1 [] (.n 5 (.b (decide (ah.2 = 1))) (.ss .a)) qe (by kernel_rfl) ?_
 refine af <| aa <| aL ?_
 obtain rfl := Option.some.inj hm
 refine aM [.agg [.u64 r_.1, .u64 ah.1], .b (decide (ah.2 = 1))] (qo (.agg [.u64 r_.1, .u64 ah.1]) <| qc (fun w => Rd w (some ⟨g1, 0, none⟩) (SV.cl [.u64 r_.1, .u64 ah.1])) (eA.uq 0 rfl) <| qe) (by kernel_rfl) ?_
 have fJ := eA.ck .z
 exact ⟨rfl, fJ⟩
theorem Cn {F O : Nat → Prop} {w : World} (b : List UInt8) (l8 : Option Addr) (o6 : Nat) (mq : Nat) (qu : Ro F w l8 (e8.all b)) (qv : b.length = o6) (rC : o6 ≤ mq) (k : Cx F O w w []) (r : (ae UInt64 16 × Int)) (hm : oD b = some r) :
    Calls Try.prog 79 (ad [sl l8 o6 mq]) w (fun e w' => e = .returned (SV.val (.eO [.agg [.ar cj r.1], I r.2])) ∧ Cx F O w w' []) := by
 unfold oD at hm
 subst qv
 refine calls [sl l8 b.length mq] Try.func79 rfl (of_decide_eq_true (by kernel_rfl)) ?_
 refine ab <| ao <| ag <| bY [] 2 [.ar cj (ae.rep 16 (0 : UInt64))] (by kernel_rfl) k ?_
 intro g w_ k_
 refine bn 1 [] .a qe (by kernel_rfl) ?_
 refine af <| aa <| ab <| ao <| ag <| bY [] 4 [.ar cj (ae.rep 16 (0 : UInt64))] (by kernel_rfl) k_ ?_
 intro g1 lh da
 refine af <| aa <| ab <| ab <| bA [] (.n 8 (.b (decide (((b.length : Nat) : Int) ≠ 128))) .a) qe (by kernel_rfl) ?_
 refine aa <| bb (((b.length : Nat) : Int) ≠ 128) (by kernel_rfl) (fun hc => ?_) (fun hc => ?_)
 · rw [if_pos hc] at hm
   refine ab <| ao <| bn 1 [] (.n 9 (.agg [.ar cj (ae.rep 16 (0 : UInt64))]) (.ss (.k .z))) (qT da 1 rfl 0 16 [.ar cj (ae.rep 16 (0 : UInt64))] (by kernel_rfl) (by decide) <| qe) (by kernel_rfl) ?_
   refine ag <| ey [] 0 (.agg [.ar cj (ae.rep 16 (0 : UInt64))]) [.ar cj (ae.rep 16 (0 : UInt64))] (Pt.at g 0) da rfl .all (by kernel_rfl) (by kernel_rfl) ?_
   intro l4 dF
   have en := dF.ck (.k .z)
   refine bn 1 [] (.n 3 (I 1) (.s .a)) qe (by kernel_rfl) ?_
   refine af <| aa <| aL (bI ?_)
   obtain rfl := Option.some.inj hm
   refine aM [.agg [.ar cj (ae.rep 16 (0 : UInt64))], I 1] (qo (.agg [.ar cj (ae.rep 16 (0 : UInt64))]) <| qc (fun w => Rd w (some ⟨g, 0, none⟩) (SV.cl [.ar cj (ae.rep 16 (0 : UInt64))])) (en.uq 0 rfl) <| qe) (by kernel_rfl) ?_
   have eA := en.ck .z
   exact ⟨rfl, eA⟩
 rw [if_neg hc] at hm
 refine aS <| aa <| ab <| ab <| bA [] (.n 10 (I 0) (.s .a)) qe (by kernel_rfl) ?_
 refine aa <| cu <| pc (l5 b) (fun s L wr => ∃ (m_ : ae UInt64 16) (aC : Int), (m_, aC) = s ∧ L = [(0, sl l8 b.length mq), (2, pt g 0), (4, pt g1 0), (10, I aC)] ∧ Cx F O w wr [Bx 142 g [.ar cj (ae.rep 16 (0 : UInt64))], Bx 142 g1 [.ar cj m_]]) ((ae.rep 16 (0 : UInt64)), (0 : Int)) r hm ⟨(ae.rep 16 (0 : UInt64)), (0 : Int), rfl, rfl, da⟩ (by kernel_rfl) ?_
 intro yU L_ qf y0 jd dd nF
 obtain ⟨m_, aC, rfl, rfl, fJ⟩ := jd
 have hm := dd; simp only [l5] at hm
 clear dd
 refine ab <| bA [] (.n 11 (.b (decide (aC < 16))) .a) qe (by kernel_rfl) ?_
 refine aa <| ab <| bb (aC < 16) (by kernel_rfl) (fun kr => ?_) (fun kr => ?_)
 · rw [if_pos kr] at hm
   refine aS <| aa <| ab <| cu <| ab <| bA [] (.n 5 (I aC) (.s .a)) qe (by kernel_rfl) ?_
   refine aa <| ao <| bn 4 [] (.n 14 (I aC) (.n 15 (sl l8 b.length mq) (.n 17 (I (aB (8 * aC))) (.s .a)))) qe (by kernel_rfl) ?_
   refine ag ?_
   obtain ⟨r_, dk, hm⟩ := ob hm
   refine aq [] 18 _ zb (by kernel_rfl) (pC (F := N0) (O := N0) _ _ _ _ _ (Ro.n0 (qu.cx fJ)) rfl rC (Cx.refl _) _ dk) ?_
   rintro e_ p7 ⟨rfl, gi⟩
   have fY := fJ.call gi
   refine ⟨.eO [.u64 r_.1, I r_.2], rfl, ?_⟩
   obtain ⟨ej, jk, hm⟩ := ob hm
   refine bn 4 [] (.n 19 (.u64 r_.1) (.n 21 (.v (.pointer (nv (some ⟨g1, 0, none⟩) aC 1))) (.fQ .a))) (qI g1 0 jk <| qe) (by kernel_rfl) ?_
   refine ag ?_
   obtain ⟨v, Kv, hm⟩ := nm hm
   refine kW (E := cj) (kk := 0) [] 1 (.u64 r_.1) [.u64 r_.1] Kv jk (Pt.xo (Pt.at g1 0) aC 1) fY rfl .h rfl (by kernel_rfl) (by kernel_rfl) ?_
   intro sV fZ
   refine af <| hH <| aa <| bA [] (.n 10 (I (aB (aC + 1))) (.ss (.ua .z))) qe (by kernel_rfl) ?_
   exact jR (v, aB (aC + 1)) (Option.some.inj hm).symm ⟨v, aB (aC + 1), rfl, rfl, fZ⟩ (by kernel_rfl)
 rw [if_neg kr] at hm
 refine iq (fe (fe (kG ?_)))
 have hm := d_ hm nF
 refine aa <| ab <| ao <| bn 1 [] (.n 23 (.agg [.ar cj m_]) (.ss (.k .z))) (qT fJ 1 rfl 0 16 [.ar cj m_] (by kernel_rfl) (by decide) <| qe) (by kernel_rfl) ?_
 refine ag <| ey [] 0 (.agg [.ar cj m_]) [.ar cj m_] (Pt.at g 0) fJ rfl .all (by kernel_rfl) (by kernel_rfl) ?_
 intro wi gY
 have dK := gY.ck (.k .z)
 refine bn 1 [] (.n 3 (I 0) (.s .a)) qe (by kernel_rfl) ?_
 refine af <| aa <| aL ?_
 obtain rfl := Option.some.inj hm
 refine aM [.agg [.ar cj m_], I 0] (qo (.agg [.ar cj m_]) <| qc (fun w => Rd w (some ⟨g, 0, none⟩) (SV.cl [.ar cj m_])) (dK.uq 0 rfl) <| qe) (by kernel_rfl) ?_
 have c_ := dK.ck .z
 exact ⟨rfl, c_⟩
theorem Dh {F O : Nat → Prop} {w : World} (h : ae UInt64 8) (gP : UInt64) (gQ : UInt64) (last : Bool) (node : Bool) (k : Cx F O w w []) (r : (ae UInt64 16)) (hm : rX h gP gQ last node = some r) :
    Calls Try.prog 87 (ad [.agg [.ar cj h], .agg [.u64 gP, .u64 gQ], .b last, .b node]) w (fun e w' => e = .returned (SV.val (.agg [.ar cj r])) ∧ Cx F O w w' []) := by
 unfold rX at hm
 refine calls [.agg [.ar cj h], .agg [.u64 gP, .u64 gQ], .b last, .b node] Try.func87 rfl (of_decide_eq_true (by kernel_rfl)) ?_
 refine ab <| ao <| ag <| gj [] 4 (.agg [.ar cj h]) [.ar cj h] (by kernel_rfl) k ?_
 intro g w_ k_
 refine ag <| gj [] 5 (.agg [.u64 gP, .u64 gQ]) [.u64 gP, .u64 gQ] (by kernel_rfl) k_ ?_
 intro g1 lh da
 refine ag <| bY [] 8 [.ar cj (ae.rep 16 (0 : UInt64))] (by kernel_rfl) da ?_
 intro g2 l4 dF
 refine af <| aa <| ab <| ao <| ag <| bY [] 9 [.ar cj (ae.rep 16 (0 : UInt64))] (by kernel_rfl) dF ?_
 intro g3 qf en
 refine af <| aa <| ab ?_
 have eA := en.drew 1
 refine qy bw (.q 0 0 (.q 1 0 (.op 2 .nil))) [2] eA (.c (.kk (.k .z)) .l) (by kernel_rfl) (fun _ => ?_)
 obtain ⟨b, qu, hm⟩ := ob hm
 have hs := hP qu
 have hl := kU qu
 have hn : ((ae.rep 16 (0 : UInt64)).l).length = 16 := (ae.rep 16 (0 : UInt64)).h
 have hc : 16 ≤ 16 := (Nat.le_refl _)
 have kr : b.length ≤ 16 := by omega
 refine bx 2 0 [] (.n 11 (sl (some ⟨g3, 0, none⟩) b.length 16) (.n 12 (sl (some ⟨g, 0, none⟩) 8 8) (.ua (.lj .a)))) (fun x hx => qp (0 ≤ (8 : Int) ∧ (8 : Int) ≤ ((16 : Nat) : Int)) (by omega) <| qo (.v (.slice (some ⟨g3, 0, none⟩) b.length 16)) <| qp (((some ⟨g3, 0, none⟩) : Option Addr).isSome = true ∧ Value.slice (sA (some ⟨g3, 0, none⟩) 0 16 1) (Int.toNat (8 : Int) - 0) (16 - 0) = .slice (some ⟨g3, 0, none⟩) b.length 16) ⟨rfl, ur _ _ _ _ _ (by omega)⟩ <| qo (.v (.slice (some ⟨g, 0, none⟩) 8 8)) <| qp (((some ⟨g, 0, none⟩) : Option Addr).isSome = true ∧ Value.slice (sA (some ⟨g, 0, none⟩) 0 8 1) (8 - 0) (8 - 0) = .slice (some ⟨g, 0, none⟩) 8 8) ⟨rfl, ur _ _ _ _ _ rfl⟩ <| qe) (by kernel_rfl) (fun _ => ?_)
 refine bZ (by kernel_rfl) rfl ?_
 have fJ := eA.ck (.aP .e)
 refine x8 (E := cj) (dn := b.length) (dc := 16) (v := sl (some ⟨g, 0, none⟩) 8 8) (src := h.l) (lo := 0) (m' := 16) Dc [] 13 3 [] [] (ae.rep 16 (0 : UInt64)) (by kernel_rfl) (sK _ _ _).symm fJ rfl (Src.sl (Rd.vec (fJ.uq 0 rfl) (c := eG.all cj h.l) (off := 0) (by kernel_rfl)) h.h (by rfl)) h.h (by have := (ae.rep 16 (0 : UInt64)).h; omega) (by omega) (by omega) ?_
 intro p7 gi
 refine ⟨(gi.ck (.kk (.k .z))), fun _ => ?_⟩
 refine ct <| aa <| ab <| ao <| ag ?_
 obtain ⟨r_, dk, hm⟩ := ob hm
 refine aq [] 14 _ FC (by kernel_rfl) (Bo (F := N0) (O := N0)  (Cx.refl _) _ dk) ?_
 rintro e_ sV ⟨rfl, fY⟩
 have fZ := gi.call fY
 refine ⟨.agg [.ar cj r_], rfl, ?_⟩
 have gY := fZ.ck (.s (.kk (.k .e)))
 refine ag <| bY [] 10 [.ar cj (ae.rep 8 (0 : UInt64))] (by kernel_rfl) gY ?_
 intro g4 wi dK
 refine ag <| ey [] 3 (.agg [.ar cj r_]) [.ar cj r_] (Pt.at g4 0) dK rfl .all (by kernel_rfl) (by kernel_rfl) ?_
 intro vO c_
 refine af <| aa <| ab ?_
 have ez := c_.drew 1
 refine qy bw (.q 0 0 (.q 1 0 (.op 2 .nil))) [2] ez (.c (.kk (.s (.k .e))) .l) (by kernel_rfl) (fun _ => ?_)
 obtain ⟨b1, wP, hm⟩ := ob hm
 have Q7 := hP wP
 have FI := kU wP
 have Q8 : ((tP (ae.rep 16 (0 : UInt64)) 0 b.length h.l).l).length = 16 := (tP (ae.rep 16 (0 : UInt64)) 0 b.length h.l).h
 have pf : 16 ≤ 16 := (Nat.le_refl _)
 obtain ⟨A, c, e_, ub, hA, w9⟩ := Lq (some ⟨g3, 0, none⟩) (Int.toNat (8 : Int)) 16 1 (16 - Int.toNat (8 : Int)) b1.length (by omega) (by omega)
 refine bx 2 0 [] (.n 15 (sl A b1.length c) (.n 16 (sl (some ⟨g4, 0, none⟩) 8 8) (.fQ (.s .a)))) (fun x hx => qp (0 ≤ (8 : Int) ∧ (8 : Int) ≤ ((16 : Nat) : Int)) (by omega) <| qo (.v (.slice A b1.length c)) <| qp (((some ⟨g3, 0, none⟩) : Option Addr).isSome = true ∧ Value.slice (sA (some ⟨g3, 0, none⟩) (Int.toNat (8 : Int)) 16 1) (16 - Int.toNat (8 : Int)) (16 - Int.toNat (8 : Int)) = .slice A b1.length c) ⟨rfl, e_⟩ <| qo (.v (.slice (some ⟨g4, 0, none⟩) 8 8)) <| qp (((some ⟨g4, 0, none⟩) : Option Addr).isSome = true ∧ Value.slice (sA (some ⟨g4, 0, none⟩) 0 8 1) (8 - 0) (8 - 0) = .slice (some ⟨g4, 0, none⟩) 8 8) ⟨rfl, ur _ _ _ _ _ rfl⟩ <| qe) (by kernel_rfl) (fun _ => ?_)
 refine bZ (by kernel_rfl) rfl ?_
 have dH := ez.ck (.aP .e)
 refine x8 (E := cj) (dn := b1.length) (dc := c) (v := sl (some ⟨g4, 0, none⟩) 8 8) (src := r_.l) (lo := Int.toNat (8 : Int)) (m' := 16) Dc [] 17 2 [] [] (tP (ae.rep 16 (0 : UInt64)) 0 b.length h.l) (by kernel_rfl) hA dH rfl (Src.sl (Rd.vec (dH.uq 3 rfl) (c := eG.all cj r_.l) (off := 0) (by kernel_rfl)) r_.h (by rfl)) r_.h (by have := (tP (ae.rep 16 (0 : UInt64)) 0 b.length h.l).h; omega) (by omega) (by omega) ?_
 intro Av eX
 refine ⟨(eX.ck (.kk (.s (.k .e)))), fun _ => ?_⟩
 refine ct <| aa <| ab <| ao ?_
 obtain ⟨aC, rD, hm⟩ := ob hm
 obtain ⟨eL, jC, hm⟩ := ob hm
 refine bn 6 [] (.n 22 (.u64 (aC ^^^ gP)) (.n 23 (.v (.pointer (nv (some ⟨g3, 0, none⟩) (12 : Int) 1))) (.lj .a))) (qV (eX.nE 2 rfl cj (tP (tP (ae.rep 16 (0 : UInt64)) 0 b.length h.l) (Int.toNat (8 : Int)) b1.length r_.l) 0 (by kernel_rfl)) rD rfl (.u64 aC) rfl <| qs g1 0 <| qB eX 0 rfl 0 (.u64 gP) (by kernel_rfl) <| qI g3 0 jC <| qe) (by kernel_rfl) ?_
 refine ag ?_
 obtain ⟨v, Kv, hm⟩ := nm hm
 refine kW (E := cj) (kk := 0) [] 2 (.u64 (aC ^^^ gP)) [.u64 (aC ^^^ gP)] Kv jC (Pt.xo (Pt.at g3 0) (12 : Int) 1) eX rfl .h rfl (by kernel_rfl) (by kernel_rfl) ?_
 intro De iu
 refine af <| aa <| ab <| ao ?_
 obtain ⟨ej, jk, hm⟩ := ob hm
 obtain ⟨fg, jZ, hm⟩ := ob hm
 refine bn 6 [] (.n 28 (.u64 (ej ^^^ gQ)) (.n 29 (.v (.pointer (nv (some ⟨g3, 0, none⟩) (13 : Int) 1))) (.ss (.kk (.s .a))))) (qV (iu.nE 2 rfl cj v 0 (by kernel_rfl)) jk rfl (.u64 ej) rfl <| qs g1 0 <| qB iu 0 rfl 1 (.u64 gQ) (by kernel_rfl) <| qI g3 0 jZ <| qe) (by kernel_rfl) ?_
 refine ag ?_
 obtain ⟨v1, z8, hm⟩ := nm hm
 refine kW (E := cj) (kk := 0) [] 2 (.u64 (ej ^^^ gQ)) [.u64 (ej ^^^ gQ)] z8 jZ (Pt.xo (Pt.at g3 0) (13 : Int) 1) iu rfl .h rfl (by kernel_rfl) (by kernel_rfl) ?_
 intro z6 fX
 refine af <| aa <| kS (fun L wr => ∃ (v2 : ae UInt64 16), oF node v2 = some r ∧ L = [(3, .b node), (8, pt g2 0), (9, pt g3 0)] ∧ Cx F O w wr [Bx 142 g2 [.ar cj (ae.rep 16 (0 : UInt64))], Bx 142 g3 [.ar cj v2]]) ?_ ?_
 ·
  refine ab <| bA [] (.n 30 (.b last) (.ss (.kk (.s .a)))) qe (by kernel_rfl) ?_
  refine aa <| cw last (by kernel_rfl) (fun uc => ?_) (fun uc => ?_)
  · rw [if_pos uc] at hm
    refine ao ?_
    obtain ⟨ll, nt, hm⟩ := ob hm
    obtain ⟨ln, oX, hm⟩ := ob hm
    refine bn 4 [] (.n 33 (.u64 (18446744073709551615 ^^^ ll)) (.n 34 (.v (.pointer (nv (some ⟨g3, 0, none⟩) (14 : Int) 1))) (.s .a))) (qV (fX.nE 2 rfl cj v1 0 (by kernel_rfl)) nt rfl (.u64 ll) rfl <| qI g3 0 oX <| qe) (by kernel_rfl) ?_
    refine ag ?_
    obtain ⟨v3, Ex, hm⟩ := nm hm
    refine kW (E := cj) (kk := 0) [] 2 (.u64 (18446744073709551615 ^^^ ll)) [.u64 (18446744073709551615 ^^^ ll)] Ex oX (Pt.xo (Pt.at g3 0) (14 : Int) 1) fX rfl .h rfl (by kernel_rfl) (by kernel_rfl) ?_
    intro Ch jY
    refine af ?_
    have iK := jY.ck (.s (.kk .z))
    exact iy ⟨v3, hm, rfl, iK⟩ (by kernel_rfl)
  rw [if_neg (by rw [uc]; decide)] at hm
  refine aS ?_
  have kt := fX.ck (.s (.kk .z))
  exact iy ⟨v1, hm, rfl, kt⟩ (by kernel_rfl)
 rintro L_ Dg ⟨v2, hm, rfl, kg⟩
 simp only [oF] at hm
 refine kS (fun L wr => ∃ (v4 : ae UInt64 16), oE v4 = some r ∧ L = [(8, pt g2 0), (9, pt g3 0)] ∧ Cx F O w wr [Bx 142 g2 [.ar cj (ae.rep 16 (0 : UInt64))], Bx 142 g3 [.ar cj v4]]) ?_ ?_
 ·
  refine ab <| bA [] (.n 35 (.b node) (.s .a)) qe (by kernel_rfl) ?_
  refine aa <| cw node (by kernel_rfl) (fun ud => ?_) (fun ud => ?_)
  · rw [if_pos ud] at hm
    refine ao ?_
    obtain ⟨l6, sb, hm⟩ := ob hm
    obtain ⟨lG, sd, hm⟩ := ob hm
    refine bn 4 [] (.n 38 (.u64 (18446744073709551615 ^^^ l6)) (.n 39 (.v (.pointer (nv (some ⟨g3, 0, none⟩) (15 : Int) 1))) (.s .a))) (qV (kg.nE 1 rfl cj v2 0 (by kernel_rfl)) sb rfl (.u64 l6) rfl <| qI g3 0 sd <| qe) (by kernel_rfl) ?_
    refine ag ?_
    obtain ⟨v5, Ey, hm⟩ := nm hm
    refine kW (E := cj) (kk := 0) [] 1 (.u64 (18446744073709551615 ^^^ l6)) [.u64 (18446744073709551615 ^^^ l6)] Ey sd (Pt.xo (Pt.at g3 0) (15 : Int) 1) kg rfl .h rfl (by kernel_rfl) (by kernel_rfl) ?_
    intro MI lW
    refine af ?_
    exact iy ⟨v5, hm, rfl, lW⟩ (by kernel_rfl)
  rw [if_neg (by rw [ud]; decide)] at hm
  refine aS ?_
  exact iy ⟨v2, hm, rfl, kg⟩ (by kernel_rfl)
 rintro L_ MK ⟨v4, hm, rfl, mh⟩
 simp only [oE] at hm
 refine ab <| ao <| bn 1 [] (.n 40 (.agg [.ar cj v4]) (.k .z)) (qT mh 1 rfl 0 16 [.ar cj v4] (by kernel_rfl) (by decide) <| qe) (by kernel_rfl) ?_
 refine ag <| ey [] 0 (.agg [.ar cj v4]) [.ar cj v4] (Pt.at g2 0) mh rfl .all (by kernel_rfl) (by kernel_rfl) ?_
 intro R6 mo
 have lX := mo.ck (.k .z)
 refine af <| aa <| aL ?_
 obtain rfl := Option.some.inj hm
 refine aM [.agg [.ar cj v4]] (qo (.agg [.ar cj v4]) <| qc (fun w => Rd w (some ⟨g2, 0, none⟩) (SV.cl [.ar cj v4])) (lX.uq 0 rfl) <| qe) (by kernel_rfl) ?_
 have qZ := lX.ck .z
 exact ⟨rfl, qZ⟩
theorem xz {F O : Nat → Prop} {w : World} (round : Int) (k : Cx F O w w []) (r : (ae Int 16)) (hm : oG round = some r) :
    Calls Try.prog 92 (ad [I round]) w (fun e w' => e = .returned (SV.val (.agg [.ar eI r])) ∧ Cx F O w w' []) := by
 unfold oG at hm
 refine calls [I round] Try.func92 rfl (of_decide_eq_true (by kernel_rfl)) ?_
 refine ab <| ao <| ag <| bY [] 2 [.ar eI (ae.rep 16 (0 : Int))] (by kernel_rfl) k ?_
 intro g w_ k_
 refine af <| aa <| ab <| ao <| bn 11 [] (.n 14 (.agg [.ar (eV eI 16) (⟨[(⟨[(0 : Int), (1 : Int), (2 : Int), (3 : Int), (4 : Int), (5 : Int), (6 : Int), (7 : Int), (8 : Int), (9 : Int), (10 : Int), (11 : Int), (12 : Int), (13 : Int), (14 : Int), (15 : Int)], rfl⟩ : ae Int 16), (⟨[(14 : Int), (10 : Int), (4 : Int), (8 : Int), (9 : Int), (15 : Int), (13 : Int), (6 : Int), (1 : Int), (12 : Int), (0 : Int), (2 : Int), (11 : Int), (7 : Int), (5 : Int), (3 : Int)], rfl⟩ : ae Int 16), (⟨[(11 : Int), (8 : Int), (12 : Int), (0 : Int), (5 : Int), (2 : Int), (15 : Int), (13 : Int), (10 : Int), (14 : Int), (3 : Int), (6 : Int), (7 : Int), (1 : Int), (9 : Int), (4 : Int)], rfl⟩ : ae Int 16), (⟨[(7 : Int), (9 : Int), (3 : Int), (1 : Int), (13 : Int), (12 : Int), (11 : Int), (14 : Int), (2 : Int), (6 : Int), (5 : Int), (10 : Int), (4 : Int), (0 : Int), (15 : Int), (8 : Int)], rfl⟩ : ae Int 16), (⟨[(9 : Int), (0 : Int), (5 : Int), (7 : Int), (2 : Int), (4 : Int), (10 : Int), (15 : Int), (14 : Int), (1 : Int), (11 : Int), (12 : Int), (6 : Int), (8 : Int), (3 : Int), (13 : Int)], rfl⟩ : ae Int 16), (⟨[(2 : Int), (12 : Int), (6 : Int), (10 : Int), (0 : Int), (11 : Int), (8 : Int), (3 : Int), (4 : Int), (13 : Int), (7 : Int), (5 : Int), (15 : Int), (14 : Int), (1 : Int), (9 : Int)], rfl⟩ : ae Int 16), (⟨[(12 : Int), (5 : Int), (1 : Int), (15 : Int), (14 : Int), (13 : Int), (4 : Int), (10 : Int), (0 : Int), (7 : Int), (6 : Int), (3 : Int), (9 : Int), (2 : Int), (8 : Int), (11 : Int)], rfl⟩ : ae Int 16), (⟨[(13 : Int), (11 : Int), (7 : Int), (14 : Int), (12 : Int), (1 : Int), (3 : Int), (9 : Int), (5 : Int), (0 : Int), (15 : Int), (4 : Int), (8 : Int), (6 : Int), (2 : Int), (10 : Int)], rfl⟩ : ae Int 16), (⟨[(6 : Int), (15 : Int), (14 : Int), (9 : Int), (11 : Int), (3 : Int), (0 : Int), (8 : Int), (12 : Int), (2 : Int), (13 : Int), (7 : Int), (1 : Int), (4 : Int), (10 : Int), (5 : Int)], rfl⟩ : ae Int 16), (⟨[(10 : Int), (2 : Int), (8 : Int), (4 : Int), (7 : Int), (6 : Int), (1 : Int), (5 : Int), (15 : Int), (11 : Int), (9 : Int), (14 : Int), (3 : Int), (12 : Int), (13 : Int), (0 : Int)], rfl⟩ : ae Int 16)], rfl⟩ : ae (ae Int 16) 10)]) .a) qe (by kernel_rfl) ?_
 refine ag <| bY [] 3 [.ar (eV eI 16) (ae.rep 10 (ae.rep 16 (0 : Int)))] (by kernel_rfl) k_ ?_
 intro g1 lh da
 refine ag <| ey [] 1 (.agg [.ar (eV eI 16) (⟨[(⟨[(0 : Int), (1 : Int), (2 : Int), (3 : Int), (4 : Int), (5 : Int), (6 : Int), (7 : Int), (8 : Int), (9 : Int), (10 : Int), (11 : Int), (12 : Int), (13 : Int), (14 : Int), (15 : Int)], rfl⟩ : ae Int 16), (⟨[(14 : Int), (10 : Int), (4 : Int), (8 : Int), (9 : Int), (15 : Int), (13 : Int), (6 : Int), (1 : Int), (12 : Int), (0 : Int), (2 : Int), (11 : Int), (7 : Int), (5 : Int), (3 : Int)], rfl⟩ : ae Int 16), (⟨[(11 : Int), (8 : Int), (12 : Int), (0 : Int), (5 : Int), (2 : Int), (15 : Int), (13 : Int), (10 : Int), (14 : Int), (3 : Int), (6 : Int), (7 : Int), (1 : Int), (9 : Int), (4 : Int)], rfl⟩ : ae Int 16), (⟨[(7 : Int), (9 : Int), (3 : Int), (1 : Int), (13 : Int), (12 : Int), (11 : Int), (14 : Int), (2 : Int), (6 : Int), (5 : Int), (10 : Int), (4 : Int), (0 : Int), (15 : Int), (8 : Int)], rfl⟩ : ae Int 16), (⟨[(9 : Int), (0 : Int), (5 : Int), (7 : Int), (2 : Int), (4 : Int), (10 : Int), (15 : Int), (14 : Int), (1 : Int), (11 : Int), (12 : Int), (6 : Int), (8 : Int), (3 : Int), (13 : Int)], rfl⟩ : ae Int 16), (⟨[(2 : Int), (12 : Int), (6 : Int), (10 : Int), (0 : Int), (11 : Int), (8 : Int), (3 : Int), (4 : Int), (13 : Int), (7 : Int), (5 : Int), (15 : Int), (14 : Int), (1 : Int), (9 : Int)], rfl⟩ : ae Int 16), (⟨[(12 : Int), (5 : Int), (1 : Int), (15 : Int), (14 : Int), (13 : Int), (4 : Int), (10 : Int), (0 : Int), (7 : Int), (6 : Int), (3 : Int), (9 : Int), (2 : Int), (8 : Int), (11 : Int)], rfl⟩ : ae Int 16), (⟨[(13 : Int), (11 : Int), (7 : Int), (14 : Int), (12 : Int), (1 : Int), (3 : Int), (9 : Int), (5 : Int), (0 : Int), (15 : Int), (4 : Int), (8 : Int), (6 : Int), (2 : Int), (10 : Int)], rfl⟩ : ae Int 16), (⟨[(6 : Int), (15 : Int), (14 : Int), (9 : Int), (11 : Int), (3 : Int), (0 : Int), (8 : Int), (12 : Int), (2 : Int), (13 : Int), (7 : Int), (1 : Int), (4 : Int), (10 : Int), (5 : Int)], rfl⟩ : ae Int 16), (⟨[(10 : Int), (2 : Int), (8 : Int), (4 : Int), (7 : Int), (6 : Int), (1 : Int), (5 : Int), (15 : Int), (11 : Int), (9 : Int), (14 : Int), (3 : Int), (12 : Int), (13 : Int), (0 : Int)], rfl⟩ : ae Int 16)], rfl⟩ : ae (ae Int 16) 10)]) [.ar (eV eI 16) (⟨[(⟨[(0 : Int), (1 : Int), (2 : Int), (3 : Int), (4 : Int), (5 : Int), (6 : Int), (7 : Int), (8 : Int), (9 : Int), (10 : Int), (11 : Int), (12 : Int), (13 : Int), (14 : Int), (15 : Int)], rfl⟩ : ae Int 16), (⟨[(14 : Int), (10 : Int), (4 : Int), (8 : Int), (9 : Int), (15 : Int), (13 : Int), (6 : Int), (1 : Int), (12 : Int), (0 : Int), (2 : Int), (11 : Int), (7 : Int), (5 : Int), (3 : Int)], rfl⟩ : ae Int 16), (⟨[(11 : Int), (8 : Int), (12 : Int), (0 : Int), (5 : Int), (2 : Int), (15 : Int), (13 : Int), (10 : Int), (14 : Int), (3 : Int), (6 : Int), (7 : Int), (1 : Int), (9 : Int), (4 : Int)], rfl⟩ : ae Int 16), (⟨[(7 : Int), (9 : Int), (3 : Int), (1 : Int), (13 : Int), (12 : Int), (11 : Int), (14 : Int), (2 : Int), (6 : Int), (5 : Int), (10 : Int), (4 : Int), (0 : Int), (15 : Int), (8 : Int)], rfl⟩ : ae Int 16), (⟨[(9 : Int), (0 : Int), (5 : Int), (7 : Int), (2 : Int), (4 : Int), (10 : Int), (15 : Int), (14 : Int), (1 : Int), (11 : Int), (12 : Int), (6 : Int), (8 : Int), (3 : Int), (13 : Int)], rfl⟩ : ae Int 16), (⟨[(2 : Int), (12 : Int), (6 : Int), (10 : Int), (0 : Int), (11 : Int), (8 : Int), (3 : Int), (4 : Int), (13 : Int), (7 : Int), (5 : Int), (15 : Int), (14 : Int), (1 : Int), (9 : Int)], rfl⟩ : ae Int 16), (⟨[(12 : Int), (5 : Int), (1 : Int), (15 : Int), (14 : Int), (13 : Int), (4 : Int), (10 : Int), (0 : Int), (7 : Int), (6 : Int), (3 : Int), (9 : Int), (2 : Int), (8 : Int), (11 : Int)], rfl⟩ : ae Int 16), (⟨[(13 : Int), (11 : Int), (7 : Int), (14 : Int), (12 : Int), (1 : Int), (3 : Int), (9 : Int), (5 : Int), (0 : Int), (15 : Int), (4 : Int), (8 : Int), (6 : Int), (2 : Int), (10 : Int)], rfl⟩ : ae Int 16), (⟨[(6 : Int), (15 : Int), (14 : Int), (9 : Int), (11 : Int), (3 : Int), (0 : Int), (8 : Int), (12 : Int), (2 : Int), (13 : Int), (7 : Int), (1 : Int), (4 : Int), (10 : Int), (5 : Int)], rfl⟩ : ae Int 16), (⟨[(10 : Int), (2 : Int), (8 : Int), (4 : Int), (7 : Int), (6 : Int), (1 : Int), (5 : Int), (15 : Int), (11 : Int), (9 : Int), (14 : Int), (3 : Int), (12 : Int), (13 : Int), (0 : Int)], rfl⟩ : ae Int 16)], rfl⟩ : ae (ae Int 16) 10)] (Pt.at g1 0) da rfl .all (by kernel_rfl) (by kernel_rfl) ?_
 intro l4 dF
 refine af <| aa <| ab <| ao ?_
 obtain ⟨aC, rD, hm⟩ := ob hm
 refine bn 6 [] (.n 20 (.agg [.ar eI aC]) (.ss (.k .z))) (qp ((10 : Int) ≠ (0 : Int)) (by omega) <| qp ((10 : Int) ≠ (0 : Int)) (by omega) <| qI g1 0 rD <| qR [.ar eI aC] (Rd.Wt (dF.nE 1 rfl (eV eI 16) (⟨[(⟨[(0 : Int), (1 : Int), (2 : Int), (3 : Int), (4 : Int), (5 : Int), (6 : Int), (7 : Int), (8 : Int), (9 : Int), (10 : Int), (11 : Int), (12 : Int), (13 : Int), (14 : Int), (15 : Int)], rfl⟩ : ae Int 16), (⟨[(14 : Int), (10 : Int), (4 : Int), (8 : Int), (9 : Int), (15 : Int), (13 : Int), (6 : Int), (1 : Int), (12 : Int), (0 : Int), (2 : Int), (11 : Int), (7 : Int), (5 : Int), (3 : Int)], rfl⟩ : ae Int 16), (⟨[(11 : Int), (8 : Int), (12 : Int), (0 : Int), (5 : Int), (2 : Int), (15 : Int), (13 : Int), (10 : Int), (14 : Int), (3 : Int), (6 : Int), (7 : Int), (1 : Int), (9 : Int), (4 : Int)], rfl⟩ : ae Int 16), (⟨[(7 : Int), (9 : Int), (3 : Int), (1 : Int), (13 : Int), (12 : Int), (11 : Int), (14 : Int), (2 : Int), (6 : Int), (5 : Int), (10 : Int), (4 : Int), (0 : Int), (15 : Int), (8 : Int)], rfl⟩ : ae Int 16), (⟨[(9 : Int), (0 : Int), (5 : Int), (7 : Int), (2 : Int), (4 : Int), (10 : Int), (15 : Int), (14 : Int), (1 : Int), (11 : Int), (12 : Int), (6 : Int), (8 : Int), (3 : Int), (13 : Int)], rfl⟩ : ae Int 16), (⟨[(2 : Int), (12 : Int), (6 : Int), (10 : Int), (0 : Int), (11 : Int), (8 : Int), (3 : Int), (4 : Int), (13 : Int), (7 : Int), (5 : Int), (15 : Int), (14 : Int), (1 : Int), (9 : Int)], rfl⟩ : ae Int 16), (⟨[(12 : Int), (5 : Int), (1 : Int), (15 : Int), (14 : Int), (13 : Int), (4 : Int), (10 : Int), (0 : Int), (7 : Int), (6 : Int), (3 : Int), (9 : Int), (2 : Int), (8 : Int), (11 : Int)], rfl⟩ : ae Int 16), (⟨[(13 : Int), (11 : Int), (7 : Int), (14 : Int), (12 : Int), (1 : Int), (3 : Int), (9 : Int), (5 : Int), (0 : Int), (15 : Int), (4 : Int), (8 : Int), (6 : Int), (2 : Int), (10 : Int)], rfl⟩ : ae Int 16), (⟨[(6 : Int), (15 : Int), (14 : Int), (9 : Int), (11 : Int), (3 : Int), (0 : Int), (8 : Int), (12 : Int), (2 : Int), (13 : Int), (7 : Int), (1 : Int), (4 : Int), (10 : Int), (5 : Int)], rfl⟩ : ae Int 16), (⟨[(10 : Int), (2 : Int), (8 : Int), (4 : Int), (7 : Int), (6 : Int), (1 : Int), (5 : Int), (15 : Int), (11 : Int), (9 : Int), (14 : Int), (3 : Int), (12 : Int), (13 : Int), (0 : Int)], rfl⟩ : ae Int 16)], rfl⟩ : ae (ae Int 16) 10) 0 (by kernel_rfl)) rD (Pt.x6 (some ⟨g1, 0, none⟩) (Int.tmod (aB ((Int.tmod round 10) + 10)) 10) 16) (by decide)) <| qe) (by kernel_rfl) ?_
 refine ag <| ey [] 0 (.agg [.ar eI aC]) [.ar eI aC] (Pt.at g 0) dF rfl .all (by kernel_rfl) (by kernel_rfl) ?_
 intro qf en
 have eA := en.ck (.k .z)
 refine af <| aa <| aL ?_
 obtain rfl := Option.some.inj hm
 refine aM [.agg [.ar eI aC]] (qo (.agg [.ar eI aC]) <| qc (fun w => Rd w (some ⟨g, 0, none⟩) (SV.cl [.ar eI aC])) (eA.uq 0 rfl) <| qe) (by kernel_rfl) ?_
 have fJ := eA.ck .z
 exact ⟨rfl, fJ⟩
theorem AK {F O : Nat → Prop} {w : World} (k : Cx F O w w []) (r : (ae (ae Int 4) 8)) (hm : pB = some r) :
    Calls Try.prog 93 (ad []) w (fun e w' => e = .returned (SV.val (.agg [.ar (eV eI 4) r])) ∧ Cx F O w w' []) := by
 unfold pB at hm
 refine calls [] Try.func93 rfl (of_decide_eq_true (by kernel_rfl)) ?_
 refine ab <| ao <| ag <| bY [] 0 [.ar (eV eI 4) (ae.rep 8 (ae.rep 4 (0 : Int)))] (by kernel_rfl) k ?_
 intro g w_ k_
 refine af <| aa <| ab <| ao <| bn 9 [] (.n 9 (.agg [.ar (eV eI 4) (⟨[(⟨[(0 : Int), (4 : Int), (8 : Int), (12 : Int)], rfl⟩ : ae Int 4), (⟨[(1 : Int), (5 : Int), (9 : Int), (13 : Int)], rfl⟩ : ae Int 4), (⟨[(2 : Int), (6 : Int), (10 : Int), (14 : Int)], rfl⟩ : ae Int 4), (⟨[(3 : Int), (7 : Int), (11 : Int), (15 : Int)], rfl⟩ : ae Int 4), (⟨[(0 : Int), (5 : Int), (10 : Int), (15 : Int)], rfl⟩ : ae Int 4), (⟨[(1 : Int), (6 : Int), (11 : Int), (12 : Int)], rfl⟩ : ae Int 4), (⟨[(2 : Int), (7 : Int), (8 : Int), (13 : Int)], rfl⟩ : ae Int 4), (⟨[(3 : Int), (4 : Int), (9 : Int), (14 : Int)], rfl⟩ : ae Int 4)], rfl⟩ : ae (ae Int 4) 8)]) .a) qe (by kernel_rfl) ?_
 refine ag <| ey [] 0 (.agg [.ar (eV eI 4) (⟨[(⟨[(0 : Int), (4 : Int), (8 : Int), (12 : Int)], rfl⟩ : ae Int 4), (⟨[(1 : Int), (5 : Int), (9 : Int), (13 : Int)], rfl⟩ : ae Int 4), (⟨[(2 : Int), (6 : Int), (10 : Int), (14 : Int)], rfl⟩ : ae Int 4), (⟨[(3 : Int), (7 : Int), (11 : Int), (15 : Int)], rfl⟩ : ae Int 4), (⟨[(0 : Int), (5 : Int), (10 : Int), (15 : Int)], rfl⟩ : ae Int 4), (⟨[(1 : Int), (6 : Int), (11 : Int), (12 : Int)], rfl⟩ : ae Int 4), (⟨[(2 : Int), (7 : Int), (8 : Int), (13 : Int)], rfl⟩ : ae Int 4), (⟨[(3 : Int), (4 : Int), (9 : Int), (14 : Int)], rfl⟩ : ae Int 4)], rfl⟩ : ae (ae Int 4) 8)]) [.ar (eV eI 4) (⟨[(⟨[(0 : Int), (4 : Int), (8 : Int), (12 : Int)], rfl⟩ : ae Int 4), (⟨[(1 : Int), (5 : Int), (9 : Int), (13 : Int)], rfl⟩ : ae Int 4), (⟨[(2 : Int), (6 : Int), (10 : Int), (14 : Int)], rfl⟩ : ae Int 4), (⟨[(3 : Int), (7 : Int), (11 : Int), (15 : Int)], rfl⟩ : ae Int 4), (⟨[(0 : Int), (5 : Int), (10 : Int), (15 : Int)], rfl⟩ : ae Int 4), (⟨[(1 : Int), (6 : Int), (11 : Int), (12 : Int)], rfl⟩ : ae Int 4), (⟨[(2 : Int), (7 : Int), (8 : Int), (13 : Int)], rfl⟩ : ae Int 4), (⟨[(3 : Int), (4 : Int), (9 : Int), (14 : Int)], rfl⟩ : ae Int 4)], rfl⟩ : ae (ae Int 4) 8)] (Pt.at g 0) k_ rfl .all (by kernel_rfl) (by kernel_rfl) ?_
 intro lh da
 refine af <| aa <| aL ?_
 obtain rfl := Option.some.inj hm
 refine aM [.agg [.ar (eV eI 4) (⟨[(⟨[(0 : Int), (4 : Int), (8 : Int), (12 : Int)], rfl⟩ : ae Int 4), (⟨[(1 : Int), (5 : Int), (9 : Int), (13 : Int)], rfl⟩ : ae Int 4), (⟨[(2 : Int), (6 : Int), (10 : Int), (14 : Int)], rfl⟩ : ae Int 4), (⟨[(3 : Int), (7 : Int), (11 : Int), (15 : Int)], rfl⟩ : ae Int 4), (⟨[(0 : Int), (5 : Int), (10 : Int), (15 : Int)], rfl⟩ : ae Int 4), (⟨[(1 : Int), (6 : Int), (11 : Int), (12 : Int)], rfl⟩ : ae Int 4), (⟨[(2 : Int), (7 : Int), (8 : Int), (13 : Int)], rfl⟩ : ae Int 4), (⟨[(3 : Int), (4 : Int), (9 : Int), (14 : Int)], rfl⟩ : ae Int 4)], rfl⟩ : ae (ae Int 4) 8)]] (qo (.agg [.ar (eV eI 4) (⟨[(⟨[(0 : Int), (4 : Int), (8 : Int), (12 : Int)], rfl⟩ : ae Int 4), (⟨[(1 : Int), (5 : Int), (9 : Int), (13 : Int)], rfl⟩ : ae Int 4), (⟨[(2 : Int), (6 : Int), (10 : Int), (14 : Int)], rfl⟩ : ae Int 4), (⟨[(3 : Int), (7 : Int), (11 : Int), (15 : Int)], rfl⟩ : ae Int 4), (⟨[(0 : Int), (5 : Int), (10 : Int), (15 : Int)], rfl⟩ : ae Int 4), (⟨[(1 : Int), (6 : Int), (11 : Int), (12 : Int)], rfl⟩ : ae Int 4), (⟨[(2 : Int), (7 : Int), (8 : Int), (13 : Int)], rfl⟩ : ae Int 4), (⟨[(3 : Int), (4 : Int), (9 : Int), (14 : Int)], rfl⟩ : ae Int 4)], rfl⟩ : ae (ae Int 4) 8)]) <| qc (fun w => Rd w (some ⟨g, 0, none⟩) (SV.cl [.ar (eV eI 4) (⟨[(⟨[(0 : Int), (4 : Int), (8 : Int), (12 : Int)], rfl⟩ : ae Int 4), (⟨[(1 : Int), (5 : Int), (9 : Int), (13 : Int)], rfl⟩ : ae Int 4), (⟨[(2 : Int), (6 : Int), (10 : Int), (14 : Int)], rfl⟩ : ae Int 4), (⟨[(3 : Int), (7 : Int), (11 : Int), (15 : Int)], rfl⟩ : ae Int 4), (⟨[(0 : Int), (5 : Int), (10 : Int), (15 : Int)], rfl⟩ : ae Int 4), (⟨[(1 : Int), (6 : Int), (11 : Int), (12 : Int)], rfl⟩ : ae Int 4), (⟨[(2 : Int), (7 : Int), (8 : Int), (13 : Int)], rfl⟩ : ae Int 4), (⟨[(3 : Int), (4 : Int), (9 : Int), (14 : Int)], rfl⟩ : ae Int 4)], rfl⟩ : ae (ae Int 4) 8)])) (da.uq 0 rfl) <| qe) (by kernel_rfl) ?_
 have dF := da.ck .z
 exact ⟨rfl, dF⟩
theorem lu {F O : Nat → Prop} {w : World} (x_ : UInt64) (k_ : Int) (k : Cx F O w w []) (r : UInt64) (hm : eJ x_ k_ = some r) :
    Calls Try.prog 25 (ad [.u64 x_, I k_]) w (fun e w' => e = .returned (SV.val (.u64 r)) ∧ Cx F O w w' []) := by
 unfold eJ at hm
 refine calls [.u64 x_, I k_] Try.func25 rfl (of_decide_eq_true (by kernel_rfl)) ?_
 refine ab <| bA [] .a qe (by kernel_rfl) ?_
 refine aa <| ab <| bA [] (.n 5 (.u64 ((UInt64.ofInt k_) &&& 63)) (.k .z)) qe (by kernel_rfl) ?_
 refine aa <| ab <| bA [] (.n 4 (.u64 ((aE x_ (((UInt64.ofInt k_) &&& 63).toNat)) ||| (aJ x_ (((64 : UInt64) - ((UInt64.ofInt k_) &&& 63)).toNat)))) .z) qe (by kernel_rfl) ?_
 refine aa <| aL ?_
 obtain rfl := Option.some.inj hm
 refine aM [.u64 ((aE x_ (((UInt64.ofInt k_) &&& 63).toNat)) ||| (aJ x_ (((64 : UInt64) - ((UInt64.ofInt k_) &&& 63)).toNat)))] qe (by kernel_rfl) ?_
 exact ⟨rfl, k⟩
theorem Di {F O : Nat → Prop} {w : World} (v : ae UInt64 16) (p : ae Int 4) (x_ : UInt64) (y_ : UInt64) (eM : Nat) (k : Cx F O w w [Bx 142 eM [.ar cj v]]) (r : (ae UInt64 16)) (hm : pL v p x_ y_ = some r) :
    Calls Try.prog 94 (ad [pt eM 0, .agg [.ar eI p], .u64 x_, .u64 y_]) w (fun e w' => e = .returned (SV.val (.eO [])) ∧ Cx F O w w' [Bx 142 eM [.ar cj r]]) := by
 unfold pL at hm
 refine calls [pt eM 0, .agg [.ar eI p], .u64 x_, .u64 y_] Try.func94 rfl (of_decide_eq_true (by kernel_rfl)) ?_
 refine ab <| ao <| ag <| gj [] 5 (.agg [.ar eI p]) [.ar eI p] (by kernel_rfl) k ?_
 intro g w_ k_
 refine af <| aa <| ab ?_
 obtain ⟨ej, jk, hm⟩ := ob hm
 obtain ⟨fg, jZ, hm⟩ := ob hm
 obtain ⟨ll, nt, hm⟩ := ob hm
 obtain ⟨ln, oX, hm⟩ := ob hm
 refine GK bw (by kernel_rfl) (.n 8 (I ej) (.n 9 (I fg) (.n 10 (I ll) (.n 11 (I ln) (.s (.k (.s .a))))))) (fun m => qV ((k_.drew m).nE 1 rfl eI p 0 (by kernel_rfl)) jk rfl (I ej) rfl <| qV ((k_.drew m).nE 1 rfl eI p 0 (by kernel_rfl)) jZ rfl (I fg) rfl <| qV ((k_.drew m).nE 1 rfl eI p 0 (by kernel_rfl)) nt rfl (I ll) rfl <| qV ((k_.drew m).nE 1 rfl eI p 0 (by kernel_rfl)) oX rfl (I ln) rfl <| qe) (by kernel_rfl) (fun m_ => ?_)
 have da := k_.drew m_
 refine aa <| ab ?_
 have dF := da.drew 1
 refine qy bw (.q 0 0 (.q 1 0 (.q 2 0 (.q 3 0 (.q 4 0 (.q 5 0 (.q 6 0 (.q 7 0 (.q 8 0 (.q 9 0 (.q 10 0 (.q 11 0 (.q 12 0 (.q 13 0 (.q 14 0 (.op 15 .nil)))))))))))))))) [15] dF (.c (.s (.k .e)) .l) (by kernel_rfl) (fun _ => ?_)
 obtain ⟨l6, sb, hm⟩ := ob hm
 obtain ⟨lG, sd, hm⟩ := ob hm
 obtain ⟨oH, Bq, hm⟩ := ob hm
 refine bx 15 0 [] (.n 32 (.u64 (l6 + (lG + x_))) (.n 34 (.v (.pointer (nv (some ⟨eM, 0, none⟩) ej 1))) (.aP (.k (.s .a))))) (fun x hx => qs eM 0 <| qV (hx.nE 0 rfl cj v 0 (by kernel_rfl)) sb rfl (.u64 l6) rfl <| qs eM 0 <| qV (hx.nE 0 rfl cj v 0 (by kernel_rfl)) sd rfl (.u64 lG) rfl <| qs eM 0 <| qI eM 0 Bq <| qe) (by kernel_rfl) (fun _ => ?_)
 refine bZ (by kernel_rfl) rfl ?_
 obtain ⟨v1, z8, hm⟩ := nm hm
 refine kW (E := cj) (kk := 0) [] 0 (.u64 (l6 + (lG + x_))) [.u64 (l6 + (lG + x_))] z8 Bq (Pt.xo (Pt.at eM 0) ej 1) dF rfl .h rfl (by kernel_rfl) (by kernel_rfl) ?_
 intro lh en
 refine ⟨(en.ck (.s (.k .e))), fun _ => ?_⟩
 refine ct <| aa <| ab ?_
 have eA := en.drew 1
 refine qy bw (.q 0 1 (.q 1 1 (.q 2 1 (.q 3 1 (.q 4 1 (.q 5 1 (.q 6 0 (.q 7 1 (.q 8 1 (.q 9 1 (.q 10 1 (.q 11 0 (.q 12 0 (.q 14 1 (.op 13 (.q 15 1 (.op 16 .nil))))))))))))))))) [13, 16] eA (.c (.kk .e) (.c (.s (.k .e)) .l)) (by kernel_rfl) (fun _ => ?_)
 obtain ⟨ig, yW, hm⟩ := ob hm
 refine bx 6 1 [] (.n 35 (pt eM 0) (.n 36 (I ln) (.n 40 (.v (.pointer (nv (some ⟨eM, 0, none⟩) ln 1))) (.ss .a)))) (fun x hx => qs eM 0 <| qI eM 0 yW <| qe) (by kernel_rfl) (fun _ => ?_)
 refine bx 1 0 [] (.n 41 (.u64 ig) (.kk (.s .a))) (fun x hx => qC (.u64 ig) (Rd.el (k := 0) (hx.nE 0 rfl cj v1 0 (by kernel_rfl)) yW (Pt.x6 (some ⟨eM, 0, none⟩) ln 1) rfl) <| qe) (by kernel_rfl) (fun _ => ?_)
 obtain ⟨kY, tC, hm⟩ := ob hm
 refine bx 4 1 [] (.n 45 (.v (.pointer (nv (some ⟨eM, 0, none⟩) ej 1))) .a) (fun x hx => qs eM 0 <| qI eM 0 tC <| qe) (by kernel_rfl) (fun _ => ?_)
 refine bx 2 0 [] (.n 47 (.u64 (ig ^^^ kY)) (.ss .a)) (fun x hx => qC (.u64 kY) (Rd.el (k := 0) (hx.nE 0 rfl cj v1 0 (by kernel_rfl)) tC (Pt.x6 (some ⟨eM, 0, none⟩) ej 1) rfl) <| qe) (by kernel_rfl) (fun _ => ?_)
 refine bx 1 1 [] (.n 49 (pt eM 0) (.k (.s .a))) (fun x hx => qs eM 0 <| qe) (by kernel_rfl) (fun _ => ?_)
 refine bZ (by kernel_rfl) rfl ?_
 obtain ⟨r_, dk, hm⟩ := ob hm
 refine aq [] 48 _ za (by kernel_rfl) (lu (F := N0) (O := N0) _ _ (Cx.refl _) _ dk) ?_
 rintro e_ l4 ⟨rfl, fJ⟩
 have gi := eA.call fJ
 refine ⟨.u64 r_, rfl, ?_⟩
 refine ⟨gi, fun _ => ?_⟩
 obtain ⟨ek, wQ, hm⟩ := ob hm
 refine bx 1 1 [] (.n 50 (.v (.pointer (nv (some ⟨eM, 0, none⟩) ln 1))) (.k (.lj .a))) (fun x hx => qI eM 0 wQ <| qe) (by kernel_rfl) (fun _ => ?_)
 refine bZ (by kernel_rfl) rfl ?_
 obtain ⟨v2, ML, hm⟩ := nm hm
 refine kW (E := cj) (kk := 0) [] 0 (.u64 r_) [.u64 r_] ML wQ (Pt.xo (Pt.at eM 0) ln 1) gi rfl .h rfl (by kernel_rfl) (by kernel_rfl) ?_
 intro qf fY
 refine ⟨(fY.ck (.s (.k .e))), fun _ => ?_⟩
 refine ct <| aa <| ab ?_
 have fZ := fY.drew 1
 refine qy bw (.q 0 0 (.q 1 0 (.q 2 0 (.q 3 0 (.q 4 0 (.q 5 0 (.q 6 0 (.q 7 0 (.q 8 0 (.q 9 0 (.q 10 0 (.q 11 0 (.q 12 0 (.op 13 .nil)))))))))))))) [13] fZ (.c (.s (.k .e)) .l) (by kernel_rfl) (fun _ => ?_)
 obtain ⟨qQ, yr, hm⟩ := ob hm
 obtain ⟨rQ, yt, hm⟩ := ob hm
 obtain ⟨tg, yu, hm⟩ := ob hm
 refine bx 13 0 [] (.n 61 (.u64 (qQ + rQ)) (.n 63 (.v (.pointer (nv (some ⟨eM, 0, none⟩) ll 1))) (.ss .a))) (fun x hx => qs eM 0 <| qV (hx.nE 0 rfl cj v2 0 (by kernel_rfl)) yr rfl (.u64 qQ) rfl <| qs eM 0 <| qV (hx.nE 0 rfl cj v2 0 (by kernel_rfl)) yt rfl (.u64 rQ) rfl <| qs eM 0 <| qI eM 0 yu <| qe) (by kernel_rfl) (fun _ => ?_)
 refine bZ (by kernel_rfl) rfl ?_
 have gY := fZ.ck (.kk .e)
 obtain ⟨v3, Ex, hm⟩ := nm hm
 refine kW (E := cj) (kk := 0) [] 0 (.u64 (qQ + rQ)) [.u64 (qQ + rQ)] Ex yu (Pt.xo (Pt.at eM 0) ll 1) gY rfl .h rfl (by kernel_rfl) (by kernel_rfl) ?_
 intro p7 dK
 refine ⟨(dK.ck (.s (.k .e))), fun _ => ?_⟩
 refine ct <| aa <| ab ?_
 have c_ := dK.drew 1
 refine qy bw (.q 0 1 (.q 1 1 (.q 2 1 (.q 3 1 (.q 4 1 (.q 5 1 (.q 6 0 (.q 7 1 (.q 8 1 (.q 9 1 (.q 10 1 (.q 11 0 (.q 12 0 (.q 14 1 (.op 13 (.q 15 1 (.op 16 .nil))))))))))))))))) [13, 16] c_ (.c (.kk .e) (.c (.s (.k .e)) .l)) (by kernel_rfl) (fun _ => ?_)
 obtain ⟨qj, yv, hm⟩ := ob hm
 refine bx 6 1 [] (.n 64 (pt eM 0) (.n 65 (I fg) (.n 69 (.v (.pointer (nv (some ⟨eM, 0, none⟩) fg 1))) (.ss .a)))) (fun x hx => qs eM 0 <| qI eM 0 yv <| qe) (by kernel_rfl) (fun _ => ?_)
 refine bx 1 0 [] (.n 70 (.u64 qj) (.kk (.s .a))) (fun x hx => qC (.u64 qj) (Rd.el (k := 0) (hx.nE 0 rfl cj v3 0 (by kernel_rfl)) yv (Pt.x6 (some ⟨eM, 0, none⟩) fg 1) rfl) <| qe) (by kernel_rfl) (fun _ => ?_)
 obtain ⟨rR, z_, hm⟩ := ob hm
 refine bx 4 1 [] (.n 74 (.v (.pointer (nv (some ⟨eM, 0, none⟩) ll 1))) .a) (fun x hx => qs eM 0 <| qI eM 0 z_ <| qe) (by kernel_rfl) (fun _ => ?_)
 refine bx 2 0 [] (.n 76 (.u64 (qj ^^^ rR)) (.ss .a)) (fun x hx => qC (.u64 rR) (Rd.el (k := 0) (hx.nE 0 rfl cj v3 0 (by kernel_rfl)) z_ (Pt.x6 (some ⟨eM, 0, none⟩) ll 1) rfl) <| qe) (by kernel_rfl) (fun _ => ?_)
 refine bx 1 1 [] (.n 78 (pt eM 0) (.k (.s .a))) (fun x hx => qs eM 0 <| qe) (by kernel_rfl) (fun _ => ?_)
 refine bZ (by kernel_rfl) rfl ?_
 obtain ⟨ah, dt, hm⟩ := ob hm
 refine aq [] 77 _ za (by kernel_rfl) (lu (F := N0) (O := N0) _ _ (Cx.refl _) _ dt) ?_
 rintro e_ sV ⟨rfl, ez⟩
 have dH := c_.call ez
 refine ⟨.u64 ah, rfl, ?_⟩
 refine ⟨dH, fun _ => ?_⟩
 obtain ⟨mY, Aa, hm⟩ := ob hm
 refine bx 1 1 [] (.n 79 (.v (.pointer (nv (some ⟨eM, 0, none⟩) fg 1))) (.k (.lj .a))) (fun x hx => qI eM 0 Aa <| qe) (by kernel_rfl) (fun _ => ?_)
 refine bZ (by kernel_rfl) rfl ?_
 obtain ⟨v4, MM, hm⟩ := nm hm
 refine kW (E := cj) (kk := 0) [] 0 (.u64 ah) [.u64 ah] MM Aa (Pt.xo (Pt.at eM 0) fg 1) dH rfl .h rfl (by kernel_rfl) (by kernel_rfl) ?_
 intro wi eX
 refine ⟨(eX.ck (.s (.k .e))), fun _ => ?_⟩
 refine ct <| aa <| ab ?_
 have iu := eX.drew 1
 refine qy bw (.q 0 0 (.q 1 0 (.q 2 0 (.q 3 0 (.q 4 0 (.q 5 0 (.q 6 0 (.q 7 0 (.q 8 0 (.q 9 0 (.q 10 0 (.q 11 0 (.q 12 0 (.q 13 0 (.q 14 0 (.op 15 .nil)))))))))))))))) [15] iu (.c (.s (.k .e)) .l) (by kernel_rfl) (fun _ => ?_)
 obtain ⟨lA, Co, hm⟩ := ob hm
 obtain ⟨mZ, Cp, hm⟩ := ob hm
 obtain ⟨th, Cq, hm⟩ := ob hm
 refine bx 15 0 [] (.n 92 (.u64 (lA + (mZ + y_))) (.n 94 (.v (.pointer (nv (some ⟨eM, 0, none⟩) ej 1))) (.ss (.aP (.k .z))))) (fun x hx => qs eM 0 <| qV (hx.nE 0 rfl cj v4 0 (by kernel_rfl)) Co rfl (.u64 lA) rfl <| qs eM 0 <| qV (hx.nE 0 rfl cj v4 0 (by kernel_rfl)) Cp rfl (.u64 mZ) rfl <| qs eM 0 <| qI eM 0 Cq <| qe) (by kernel_rfl) (fun _ => ?_)
 refine bZ (by kernel_rfl) rfl ?_
 obtain ⟨v5, Ey, hm⟩ := nm hm
 refine kW (E := cj) (kk := 0) [] 0 (.u64 (lA + (mZ + y_))) [.u64 (lA + (mZ + y_))] Ey Cq (Pt.xo (Pt.at eM 0) ej 1) iu rfl .h rfl (by kernel_rfl) (by kernel_rfl) ?_
 intro vO fX
 refine ⟨(fX.ck (.s (.k .e))), fun _ => ?_⟩
 refine ct <| aa <| ab ?_
 have jY := fX.drew 1
 refine qy bw (.q 0 1 (.q 1 1 (.q 2 1 (.q 3 1 (.q 4 1 (.q 5 1 (.q 6 0 (.q 7 1 (.q 8 1 (.q 9 1 (.q 10 1 (.q 11 0 (.q 12 0 (.q 14 1 (.op 13 (.q 15 1 (.op 16 .nil))))))))))))))))) [13, 16] jY (.c (.kk .e) (.c (.s (.k .e)) .l)) (by kernel_rfl) (fun _ => ?_)
 obtain ⟨vG, Cr, hm⟩ := ob hm
 refine bx 6 1 [] (.n 95 (pt eM 0) (.n 96 (I ln) (.n 100 (.v (.pointer (nv (some ⟨eM, 0, none⟩) ln 1))) (.ss .a)))) (fun x hx => qs eM 0 <| qI eM 0 Cr <| qe) (by kernel_rfl) (fun _ => ?_)
 refine bx 1 0 [] (.n 101 (.u64 vG) (.kk (.s .a))) (fun x hx => qC (.u64 vG) (Rd.el (k := 0) (hx.nE 0 rfl cj v5 0 (by kernel_rfl)) Cr (Pt.x6 (some ⟨eM, 0, none⟩) ln 1) rfl) <| qe) (by kernel_rfl) (fun _ => ?_)
 obtain ⟨AE, Ab, hm⟩ := ob hm
 refine bx 4 1 [] (.n 105 (.v (.pointer (nv (some ⟨eM, 0, none⟩) ej 1))) (.ua (.s .a))) (fun x hx => qs eM 0 <| qI eM 0 Ab <| qe) (by kernel_rfl) (fun _ => ?_)
 refine bx 2 0 [] (.n 107 (.u64 (vG ^^^ AE)) (.ss .a)) (fun x hx => qC (.u64 AE) (Rd.el (k := 0) (hx.nE 0 rfl cj v5 0 (by kernel_rfl)) Ab (Pt.x6 (some ⟨eM, 0, none⟩) ej 1) rfl) <| qe) (by kernel_rfl) (fun _ => ?_)
 refine bx 1 1 [] (.n 109 (pt eM 0) (.k (.s .a))) (fun x hx => qs eM 0 <| qe) (by kernel_rfl) (fun _ => ?_)
 refine bZ (by kernel_rfl) rfl ?_
 have iK := jY.ck (.kk .e)
 obtain ⟨bh, gX, hm⟩ := ob hm
 refine aq [] 108 _ za (by kernel_rfl) (lu (F := N0) (O := N0) _ _ (Cx.refl _) _ gX) ?_
 rintro e_ Av ⟨rfl, kt⟩
 have kg := iK.call kt
 refine ⟨.u64 bh, rfl, ?_⟩
 refine ⟨kg, fun _ => ?_⟩
 obtain ⟨B3, Ac, hm⟩ := ob hm
 refine bx 1 1 [] (.n 110 (.v (.pointer (nv (some ⟨eM, 0, none⟩) ln 1))) (.k (.lj .a))) (fun x hx => qI eM 0 Ac <| qe) (by kernel_rfl) (fun _ => ?_)
 refine bZ (by kernel_rfl) rfl ?_
 obtain ⟨v6, MN, hm⟩ := nm hm
 refine kW (E := cj) (kk := 0) [] 0 (.u64 bh) [.u64 bh] MN Ac (Pt.xo (Pt.at eM 0) ln 1) kg rfl .h rfl (by kernel_rfl) (by kernel_rfl) ?_
 intro De lW
 refine ⟨(lW.ck (.s (.k .e))), fun _ => ?_⟩
 refine ct <| aa <| ab ?_
 have mh := lW.drew 1
 refine qy bw (.q 0 0 (.q 1 0 (.q 2 0 (.q 3 0 (.q 4 0 (.q 5 0 (.q 6 0 (.q 7 0 (.q 8 0 (.q 9 0 (.q 10 0 (.q 11 0 (.q 12 0 (.op 13 .nil)))))))))))))) [13] mh (.c (.s (.k .e)) .l) (by kernel_rfl) (fun _ => ?_)
 obtain ⟨ti, Cs, hm⟩ := ob hm
 obtain ⟨vH, Ct, hm⟩ := ob hm
 obtain ⟨Gj, HR, hm⟩ := ob hm
 refine bx 13 0 [] (.n 121 (.u64 (ti + vH)) (.n 123 (.v (.pointer (nv (some ⟨eM, 0, none⟩) ll 1))) (.ss (.kk (.s .a))))) (fun x hx => qs eM 0 <| qV (hx.nE 0 rfl cj v6 0 (by kernel_rfl)) Cs rfl (.u64 ti) rfl <| qs eM 0 <| qV (hx.nE 0 rfl cj v6 0 (by kernel_rfl)) Ct rfl (.u64 vH) rfl <| qs eM 0 <| qI eM 0 HR <| qe) (by kernel_rfl) (fun _ => ?_)
 refine bZ (by kernel_rfl) rfl ?_
 obtain ⟨v7, MO, hm⟩ := nm hm
 refine kW (E := cj) (kk := 0) [] 0 (.u64 (ti + vH)) [.u64 (ti + vH)] MO HR (Pt.xo (Pt.at eM 0) ll 1) mh rfl .h rfl (by kernel_rfl) (by kernel_rfl) ?_
 intro z6 mo
 refine ⟨(mo.ck (.s (.k .e))), fun _ => ?_⟩
 refine ct <| aa ?_
 have lX := mo.drew 1
 refine qy bw (.q 0 1 (.q 1 1 (.q 2 1 (.q 3 1 (.q 4 1 (.q 5 1 (.q 6 0 (.q 7 1 (.q 8 1 (.q 9 1 (.q 10 1 (.q 11 0 (.q 12 0 (.q 14 1 (.op 13 (.q 15 1 (.op 16 .nil))))))))))))))))) [13, 16] lX (.c (.kk .e) (.c (.s (.k .e)) .l)) (by kernel_rfl) (fun _ => ?_)
 obtain ⟨Eh, HS, hm⟩ := ob hm
 refine bx 6 1 [] (.n 124 (pt eM 0) (.n 125 (I fg) (.n 129 (.v (.pointer (nv (some ⟨eM, 0, none⟩) fg 1))) (.lj .a)))) (fun x hx => qs eM 0 <| qI eM 0 HS <| qe) (by kernel_rfl) (fun _ => ?_)
 refine bx 1 0 [] (.n 130 (.u64 Eh) (.kk (.s .a))) (fun x hx => qC (.u64 Eh) (Rd.el (k := 0) (hx.nE 0 rfl cj v7 0 (by kernel_rfl)) HS (Pt.x6 (some ⟨eM, 0, none⟩) fg 1) rfl) <| qe) (by kernel_rfl) (fun _ => ?_)
 obtain ⟨JI, HT, hm⟩ := ob hm
 refine bx 4 1 [] (.n 134 (.v (.pointer (nv (some ⟨eM, 0, none⟩) ll 1))) (.ua .z)) (fun x hx => qs eM 0 <| qI eM 0 HT <| qe) (by kernel_rfl) (fun _ => ?_)
 refine bx 2 0 [] (.n 136 (.u64 (Eh ^^^ JI)) (.ss .a)) (fun x hx => qC (.u64 JI) (Rd.el (k := 0) (hx.nE 0 rfl cj v7 0 (by kernel_rfl)) HT (Pt.x6 (some ⟨eM, 0, none⟩) ll 1) rfl) <| qe) (by kernel_rfl) (fun _ => ?_)
 refine bx 1 1 [] (.n 138 (pt eM 0) (.k (.s .a))) (fun x hx => qs eM 0 <| qe) (by kernel_rfl) (fun _ => ?_)
 refine bZ (by kernel_rfl) rfl ?_
 obtain ⟨cD, oV, hm⟩ := ob hm
 refine aq [] 137 _ za (by kernel_rfl) (lu (F := N0) (O := N0) _ _ (Cx.refl _) _ oV) ?_
 rintro e_ Ch ⟨rfl, qZ⟩
 have rT := lX.call qZ
 refine ⟨.u64 cD, rfl, ?_⟩
 refine ⟨rT, fun _ => ?_⟩
 obtain ⟨R3, HU, hm⟩ := ob hm
 refine bx 1 1 [] (.n 139 (.v (.pointer (nv (some ⟨eM, 0, none⟩) fg 1))) (.k .z)) (fun x hx => qI eM 0 HU <| qe) (by kernel_rfl) (fun _ => ?_)
 refine bZ (by kernel_rfl) rfl ?_
 have vP := rT.ck (.kk .e)
 obtain ⟨v8, MP, hm⟩ := nm hm
 refine kW (E := cj) (kk := 0) [] 0 (.u64 cD) [.u64 cD] MP HU (Pt.xo (Pt.at eM 0) fg 1) vP rfl .h rfl (by kernel_rfl) (by kernel_rfl) ?_
 intro Dg tB
 refine ⟨(tB.ck (.s (.k .e))), fun _ => ?_⟩
 refine ct ?_
 obtain rfl := Option.some.inj hm
 refine pJ [] qe (by kernel_rfl) ?_
 have vQ := tB.ck (.k .z)
 exact ⟨rfl, vQ⟩
theorem Dj {F O : Nat → Prop} {w : World} (v : ae UInt64 16) (m_ : ae UInt64 16) (round : Int) (eM : Nat) (AL : Nat) (k : Cx F O w w [Bx 142 eM [.ar cj v], Bx 142 AL [.ar cj m_]]) (r : (ae UInt64 16 × ae UInt64 16)) (hm : pM v m_ round = some r) :
    Calls Try.prog 88 (ad [pt eM 0, pt AL 0, I round]) w (fun e w' => e = .returned (SV.val (.eO [])) ∧ Cx F O w w' [Bx 142 eM [.ar cj r.1], Bx 142 AL [.ar cj r.2]]) := by
 unfold pM at hm
 refine calls [pt eM 0, pt AL 0, I round] Try.func88 rfl (of_decide_eq_true (by kernel_rfl)) ?_
 refine ab <| ao <| bn 1 [] (.n 9 (I round) (.kk .z)) qe (by kernel_rfl) ?_
 refine ag ?_
 obtain ⟨r_, dk, hm⟩ := ob hm
 refine aq [] 10 _ FG (by kernel_rfl) (xz (F := N0) (O := N0) _ (Cx.refl _) _ dk) ?_
 rintro e_ w_ ⟨rfl, k_⟩
 have da := k.call k_
 refine ⟨.agg [.ar eI r_], rfl, ?_⟩
 refine ag <| bY [] 6 [.ar eI (ae.rep 16 (0 : Int))] (by kernel_rfl) da ?_
 intro g lh dF
 refine ag <| ey [] 2 (.agg [.ar eI r_]) [.ar eI r_] (Pt.at g 0) dF rfl .all (by kernel_rfl) (by kernel_rfl) ?_
 intro l4 en
 refine af <| aa <| ab <| ao <| ag ?_
 obtain ⟨ah, dt, hm⟩ := ob hm
 refine aq [] 11 _ Kq (by kernel_rfl) (AK (F := N0) (O := N0)  (Cx.refl _) _ dt) ?_
 rintro e_ qf ⟨rfl, eA⟩
 have fJ := en.call eA
 refine ⟨.agg [.ar (eV eI 4) ah], rfl, ?_⟩
 refine bn 1 [] (.n 12 (I 0) (.kk (.ss .a))) qe (by kernel_rfl) ?_
 refine af <| aa <| cu <| pc (oJ m_ r_ ah) (fun s L wr => ∃ (v1 : ae UInt64 16) (aC : Int), (v1, aC) = s ∧ L = [(0, pt eM 0), (1, pt AL 0), (6, pt g 0), (11, .agg [.ar (eV eI 4) ah]), (12, I aC)] ∧ Cx F O w wr [Bx 142 eM [.ar cj v1], Bx 142 AL [.ar cj m_], Bx 163 g [.ar eI r_]]) (v, (0 : Int)) r hm ⟨v, (0 : Int), rfl, rfl, fJ⟩ (by kernel_rfl) ?_
 intro yU L_ p7 y0 jd dd nF
 obtain ⟨v1, aC, rfl, rfl, gi⟩ := jd
 have hm := dd; simp only [oJ] at hm
 clear dd
 refine ab <| bA [] (.n 13 (.b (decide (aC < 8))) .a) qe (by kernel_rfl) ?_
 refine aa <| ab <| bb (aC < 8) (by kernel_rfl) (fun hc => ?_) (fun hc => ?_)
 · rw [if_pos hc] at hm
   refine aS <| aa <| ab <| cu <| ab <| ao ?_
   obtain ⟨ej, jk, hm⟩ := ob hm
   refine bn 2 [] (.n 14 (I aC) (.n 15 (.agg [.ar eI ej]) (.s .a))) (qo (.agg [.ar eI ej]) <| qp ((0 ≤ aC ∧ aC < ((8 : Nat) : Int)) ∧ ((SV.cl [.ar (eV eI 4) ah]).drop (Int.toNat aC * 4)).take 4 = SV.cl [.ar eI ej]) (Hp (E := eI) jk) <| qe) (by kernel_rfl) ?_
   refine ag <| bY [] 8 [.ar eI (ae.rep 4 (0 : Int))] (by kernel_rfl) gi ?_
   intro g1 sV fY
   refine bn 1 [] (.n 7 (I aC) (.k (.s .a))) qe (by kernel_rfl) ?_
   refine ag <| ey [] 3 (.agg [.ar eI ej]) [.ar eI ej] (Pt.at g1 0) fY rfl .all (by kernel_rfl) (by kernel_rfl) ?_
   intro wi fZ
   refine af <| aa ?_
   have gY := fZ.drew 1
   refine qy bw (.q 0 0 (.q 1 0 (.q 2 1 (.q 3 1 (.q 4 1 (.q 5 1 (.q 6 1 (.q 7 1 (.q 8 0 (.q 9 0 (.q 10 1 (.q 11 1 (.q 12 1 (.q 13 1 (.q 14 1 (.q 15 1 (.q 16 1 (.q 17 0 (.q 18 0 (.op 19 .nil)))))))))))))))))))) [19] gY (.c (.s (.kk (.k .e))) .l) (by kernel_rfl) (fun _ => ?_)
   refine bx 2 0 [] (.n 16 (pt eM 0) (.n 17 (.agg [.ar eI ej]) (.k (.ss .a)))) (fun x hx => qT hx 3 rfl 0 4 [.ar eI ej] (by kernel_rfl) (by decide) <| qe) (by kernel_rfl) (fun _ => ?_)
   obtain ⟨fg, jZ, hm⟩ := ob hm
   refine bx 6 1 [] (.n 22 (I fg) (.n 23 (pt AL 0) .a)) (fun x hx => qV (hx.nE 1 rfl eI r_ 0 (by kernel_rfl)) jZ rfl (I fg) rfl <| qs AL 0 <| qe) (by kernel_rfl) (fun _ => ?_)
   obtain ⟨ll, nt, hm⟩ := ob hm
   refine bx 2 0 [] (.n 25 (.u64 ll) (.ss .a)) (fun x hx => qV (hx.nE 1 rfl cj m_ 0 (by kernel_rfl)) nt rfl (.u64 ll) rfl <| qe) (by kernel_rfl) (fun _ => ?_)
   obtain ⟨ln, oX, hm⟩ := ob hm
   refine bx 7 1 [] (.n 31 (I ln) (.n 32 (pt AL 0) (.ua (.s .a)))) (fun x hx => qV (hx.nE 1 rfl eI r_ 0 (by kernel_rfl)) oX rfl (I ln) rfl <| qs AL 0 <| qe) (by kernel_rfl) (fun _ => ?_)
   obtain ⟨l6, sb, hm⟩ := ob hm
   refine bx 2 0 [] (.n 34 (.u64 l6) (.ss .a)) (fun x hx => qV (hx.nE 1 rfl cj m_ 0 (by kernel_rfl)) sb rfl (.u64 l6) rfl <| qe) (by kernel_rfl) (fun _ => ?_)
   refine bZ (by kernel_rfl) rfl ?_
   obtain ⟨bh, gX, hm⟩ := ob hm
   obtain ⟨F1, O1, lO, hO, rO, hF, hb⟩ := gY.go (.i (.r (.r (.r .e))))
   refine aq [] 35 _ Kr (by kernel_rfl) (Di (F := F1) (O := O1) _ _ _ _ _ lO _ gX) ?_
   rintro e_ vO ⟨rfl, dK⟩
   have c_ := hb vO _ _ dK (.c .n)
   refine ⟨.eO [], rfl, ?_⟩
   refine ⟨(c_.ck (.s (.kk (.k .e)))), fun _ => ?_⟩
   refine ct <| hH <| aa <| bA [] (.n 12 (I (aB (aC + 1))) (.fQ (.s (.aP .z)))) qe (by kernel_rfl) ?_
   have ez := c_.ck (.kk (.k .z))
   exact jR (bh, aB (aC + 1)) (Option.some.inj hm).symm ⟨bh, aB (aC + 1), rfl, rfl, ez⟩ (by kernel_rfl)
 rw [if_neg hc] at hm
 refine iq (fe (fe (kG ?_)))
 have hm := d_ hm nF
 obtain rfl := Option.some.inj hm
 refine pJ [] qe (by kernel_rfl) ?_
 have dH := gi.ck (.kk .z)
 exact ⟨rfl, dH⟩
theorem HV {F O : Nat → Prop} {w : World} (h : ae UInt64 8) (m_ : ae UInt64 16) (gP : UInt64) (gQ : UInt64) (last : Bool) (node : Bool) (k : Cx F O w w []) (r : (ae UInt64 8)) (hm : uw h m_ gP gQ last node = some r) :
    Calls Try.prog 80 (ad [.agg [.ar cj h], .agg [.ar cj m_], .agg [.u64 gP, .u64 gQ], .b last, .b node]) w (fun e w' => e = .returned (SV.val (.agg [.ar cj r])) ∧ Cx F O w w' []) := by
 unfold uw at hm
 refine calls [.agg [.ar cj h], .agg [.ar cj m_], .agg [.u64 gP, .u64 gQ], .b last, .b node] Try.func80 rfl (of_decide_eq_true (by kernel_rfl)) ?_
 refine ab <| ao <| ag <| gj [] 5 (.agg [.ar cj h]) [.ar cj h] (by kernel_rfl) k ?_
 intro g w_ k_
 refine ag <| gj [] 6 (.agg [.ar cj m_]) [.ar cj m_] (by kernel_rfl) k_ ?_
 intro g1 lh da
 refine ag <| gj [] 7 (.agg [.u64 gP, .u64 gQ]) [.u64 gP, .u64 gQ] (by kernel_rfl) da ?_
 intro g2 l4 dF
 refine ag <| bY [] 10 [.ar cj (ae.rep 8 (0 : UInt64))] (by kernel_rfl) dF ?_
 intro g3 qf en
 refine af <| aa <| ab <| ao <| bn 4 [] (.n 14 (.agg [.ar cj h]) (.n 15 (.agg [.u64 gP, .u64 gQ]) (.n 16 (.b last) (.n 17 (.b node) (.k (.s (.kk .z))))))) (qT en 0 rfl 0 8 [.ar cj h] (by kernel_rfl) (by decide) <| qT en 2 rfl 0 2 [.u64 gP, .u64 gQ] (by kernel_rfl) (by decide) <| qe) (by kernel_rfl) ?_
 refine ag ?_
 have eA := en.ck (.aP .e)
 obtain ⟨r_, dk, hm⟩ := ob hm
 refine aq [] 18 _ Kk (by kernel_rfl) (Dh (F := N0) (O := N0) _ _ _ _ _ (Cx.refl _) _ dk) ?_
 rintro e_ p7 ⟨rfl, fJ⟩
 have gi := eA.call fJ
 refine ⟨.agg [.ar cj r_], rfl, ?_⟩
 have fY := gi.ck (.kk (.s (.k .e)))
 refine ag <| bY [] 11 [.ar cj (ae.rep 16 (0 : UInt64))] (by kernel_rfl) fY ?_
 intro g4 sV fZ
 refine ag <| ey [] 3 (.agg [.ar cj r_]) [.ar cj r_] (Pt.at g4 0) fZ rfl .all (by kernel_rfl) (by kernel_rfl) ?_
 intro wi gY
 refine af <| aa <| ab <| ab <| bA [] (.n 19 (I 0) (.k (.fQ (.s .a)))) qe (by kernel_rfl) ?_
 refine aa <| cu <| pc (pO h) (fun s L wr => ∃ (xp : ae UInt64 16) (v : ae UInt64 16) (aC : Int), (xp, v, aC) = s ∧ L = [(5, pt g 0), (6, pt g1 0), (10, pt g3 0), (11, pt g4 0), (19, I aC)] ∧ Cx F O w wr [Bx 123 g [.ar cj h], Bx 142 g1 [.ar cj xp], Bx 123 g3 [.ar cj (ae.rep 8 (0 : UInt64))], Bx 142 g4 [.ar cj v]]) (m_, r_, (0 : Int)) r hm ⟨m_, r_, (0 : Int), rfl, rfl, gY⟩ (by kernel_rfl) ?_
 intro yU L_ vO y0 jd dd nF
 obtain ⟨xp, v, aC, rfl, rfl, dK⟩ := jd
 have hm := dd; simp only [pO] at hm
 clear dd
 refine ab <| bA [] (.n 20 (.b (decide (aC < 12))) .a) qe (by kernel_rfl) ?_
 refine aa <| ab <| bb (aC < 12) (by kernel_rfl) (fun hc => ?_) (fun hc => ?_)
 · rw [if_pos hc] at hm
   refine aS <| aa <| ab <| cu <| ab <| bA [] (.n 12 (I aC) (.s .a)) qe (by kernel_rfl) ?_
   refine aa <| ao <| bn 1 [] (.n 22 (I aC) (.s .a)) qe (by kernel_rfl) ?_
   refine ag ?_
   obtain ⟨ah, dt, hm⟩ := ob hm
   have c_ := (((dK.pk (.t (.t .h))).pk (.t .h)).pk (.t (.t .h))).pk (.t (.t (.t .h)))
   obtain ⟨F1, O1, lO, hO, rO, hF, hb⟩ := c_.go (.i (.i (.r (.r .e))))
   refine aq [] 23 _ Kl (by kernel_rfl) (Dj (F := F1) (O := O1) _ _ _ _ _ lO _ dt) ?_
   rintro e_ Av ⟨rfl, ez⟩
   have dH := hb Av _ _ ez (.c (.c .n))
   refine ⟨.eO [], rfl, ?_⟩
   refine af <| hH <| aa <| bA [] (.n 19 (I (aB (aC + 1))) (.ss (.aP .z))) qe (by kernel_rfl) ?_
   have eX := (((dH.pk .h).pk (.t (.t (.t .h)))).pk (.t (.t .h))).pk (.t (.t (.t .h)))
   exact jR (ah.2, ah.1, aB (aC + 1)) (Option.some.inj hm).symm ⟨ah.2, ah.1, aB (aC + 1), rfl, rfl, eX⟩ (by kernel_rfl)
 rw [if_neg hc] at hm
 refine iq (fe (fe (kG ?_)))
 have hm := d_ hm nF
 refine aa <| ab <| ab <| bA [] (.n 25 (I 0) (.s (.k (.s (.kk .z))))) qe (by kernel_rfl) ?_
 refine aa <| cu ?_
 have fX := dK.ck (.k (.s (.kk .e)))
 refine pc (pN v) (fun s L wr => ∃ (h1 : ae UInt64 8) (eL : Int), (h1, eL) = s ∧ L = [(5, pt g 0), (10, pt g3 0), (11, pt g4 0), (25, I eL)] ∧ Cx F O w wr [Bx 123 g [.ar cj h1], Bx 123 g3 [.ar cj (ae.rep 8 (0 : UInt64))], Bx 142 g4 [.ar cj v]]) (h, (0 : Int)) r hm ⟨h, (0 : Int), rfl, rfl, fX⟩ (by kernel_rfl) ?_
 intro yU L_ De y0 jd dd nF
 obtain ⟨h1, eL, rfl, rfl, iu⟩ := jd
 have hm := dd; simp only [pN] at hm
 clear dd
 refine ab <| bA [] (.n 26 (.b (decide (eL < 8))) .a) qe (by kernel_rfl) ?_
 refine aa <| ab <| bb (eL < 8) (by kernel_rfl) (fun kr => ?_) (fun kr => ?_)
 · rw [if_pos kr] at hm
   refine aS <| aa <| ab <| cu <| ab <| bA [] (.n 13 (I eL) (.s .a)) qe (by kernel_rfl) ?_
   refine aa ?_
   have jY := iu.drew 1
   refine qy bw (.q 0 0 (.q 1 0 (.q 2 0 (.q 3 0 (.q 4 0 (.q 5 0 (.q 6 0 (.q 7 0 (.q 8 0 (.q 9 0 (.q 10 0 (.q 11 0 (.q 12 0 (.op 13 .nil)))))))))))))) [13] jY (.c (.s (.kk .e)) .l) (by kernel_rfl) (fun _ => ?_)
   obtain ⟨ej, jk, hm⟩ := ob hm
   obtain ⟨fg, jZ, hm⟩ := ob hm
   obtain ⟨ll, nt, hm⟩ := ob hm
   obtain ⟨ln, oX, hm⟩ := ob hm
   refine bx 13 0 [] (.n 39 (.u64 (ej ^^^ (fg ^^^ ll))) (.n 40 (.v (.pointer (nv (some ⟨g, 0, none⟩) eL 1))) (.s .a))) (fun x hx => qV (hx.nE 0 rfl cj h1 0 (by kernel_rfl)) jk rfl (.u64 ej) rfl <| qV (hx.nE 2 rfl cj v 0 (by kernel_rfl)) jZ rfl (.u64 fg) rfl <| qV (hx.nE 2 rfl cj v 0 (by kernel_rfl)) nt rfl (.u64 ll) rfl <| qI g 0 oX <| qe) (by kernel_rfl) (fun _ => ?_)
   refine bZ (by kernel_rfl) rfl ?_
   obtain ⟨v1, z8, hm⟩ := nm hm
   refine kW (E := cj) (kk := 0) [] 0 (.u64 (ej ^^^ (fg ^^^ ll))) [.u64 (ej ^^^ (fg ^^^ ll))] z8 oX (Pt.xo (Pt.at g 0) eL 1) jY rfl .h rfl (by kernel_rfl) (by kernel_rfl) ?_
   intro z6 iK
   refine ⟨(iK.ck (.s (.kk .e))), fun _ => ?_⟩
   refine ct <| hH <| aa <| bA [] (.n 25 (I (aB (eL + 1))) (.ss (.ua .z))) qe (by kernel_rfl) ?_
   exact jR (v1, aB (eL + 1)) (Option.some.inj hm).symm ⟨v1, aB (eL + 1), rfl, rfl, iK⟩ (by kernel_rfl)
 rw [if_neg kr] at hm
 refine iq (fe (fe (kG ?_)))
 have hm := d_ hm nF
 refine aa <| ab <| ao <| bn 1 [] (.n 42 (.agg [.ar cj h1]) (.ss (.k .z))) (qT iu 0 rfl 0 8 [.ar cj h1] (by kernel_rfl) (by decide) <| qe) (by kernel_rfl) ?_
 refine ag <| ey [] 1 (.agg [.ar cj h1]) [.ar cj h1] (Pt.at g3 0) iu rfl .all (by kernel_rfl) (by kernel_rfl) ?_
 intro Ch kt
 have kg := kt.ck (.s (.k .z))
 refine af <| aa <| aL ?_
 obtain rfl := Option.some.inj hm
 refine aM [.agg [.ar cj h1]] (qo (.agg [.ar cj h1]) <| qc (fun w => Rd w (some ⟨g3, 0, none⟩) (SV.cl [.ar cj h1])) (kg.uq 0 rfl) <| qe) (by kernel_rfl) ?_
 have lW := kg.ck .z
 exact ⟨rfl, lW⟩
theorem wm {F O : Nat → Prop} {w : World} (h : ae UInt64 8) (b : List UInt8) (oz : UInt64) (pd : UInt64) (last : Bool) (node : Bool) (l8 : Option Addr) (o6 : Nat) (mq : Nat) (qu : Ro F w l8 (e8.all b)) (qv : b.length = o6) (rC : o6 ≤ mq) (k : Cx F O w w []) (r : (ae UInt64 8)) (hm : l_ h b oz pd last node = some r) :
    Calls Try.prog 73 (ad [.agg [.ar cj h], sl l8 o6 mq, .agg [.u64 oz, .u64 pd], .b last, .b node]) w (fun e w' => e = .returned (SV.val (.agg [.ar cj r])) ∧ Cx F O w w' []) := by
 unfold l_ at hm
 subst qv
 refine calls [.agg [.ar cj h], sl l8 b.length mq, .agg [.u64 oz, .u64 pd], .b last, .b node] Try.func73 rfl (of_decide_eq_true (by kernel_rfl)) ?_
 refine ab <| ao <| ag <| gj [] 5 (.agg [.ar cj h]) [.ar cj h] (by kernel_rfl) k ?_
 intro g w_ k_
 refine ag <| gj [] 7 (.agg [.u64 oz, .u64 pd]) [.u64 oz, .u64 pd] (by kernel_rfl) k_ ?_
 intro g1 lh da
 refine ag <| bY [] 10 [.ar cj (ae.rep 8 (0 : UInt64))] (by kernel_rfl) da ?_
 intro g2 l4 dF
 refine af <| aa <| ab <| ao <| bn 1 [] (.n 14 (sl l8 b.length mq) (.ua (.lj .a))) qe (by kernel_rfl) ?_
 refine ag ?_
 obtain ⟨r_, dk, hm⟩ := ob hm
 refine aq [] 15 _ Kf (by kernel_rfl) (Cn (F := N0) (O := N0) _ _ _ _ (Ro.n0 (qu.cx dF)) rfl rC (Cx.refl _) _ dk) ?_
 rintro e_ qf ⟨rfl, en⟩
 have eA := dF.call en
 refine ⟨.eO [.agg [.ar cj r_.1], I r_.2], rfl, ?_⟩
 refine bn 3 [] (.n 16 (.agg [.ar cj r_.1]) (.n 17 (I r_.2) (.ss .a))) qe (by kernel_rfl) ?_
 refine ag ?_
 have fJ := eA.ck (.kk (.k .e))
 refine bY [] 11 [.ar cj (ae.rep 16 (0 : UInt64))] (by kernel_rfl) fJ ?_
 intro g3 p7 gi
 refine ag <| ey [] 3 (.agg [.ar cj r_.1]) [.ar cj r_.1] (Pt.at g3 0) gi rfl .all (by kernel_rfl) (by kernel_rfl) ?_
 intro sV fY
 refine bn 1 [] (.k (.ss .a)) qe (by kernel_rfl) ?_
 refine af <| aa <| ab <| ao <| bn 5 [] (.n 18 (.agg [.ar cj h]) (.n 19 (.agg [.ar cj r_.1]) (.n 20 (.agg [.u64 oz, .u64 pd]) (.n 21 (.b last) (.n 22 (.b node) (.s (.k .z))))))) (qT fY 0 rfl 0 8 [.ar cj h] (by kernel_rfl) (by decide) <| qT fY 3 rfl 0 16 [.ar cj r_.1] (by kernel_rfl) (by decide) <| qT fY 1 rfl 0 2 [.u64 oz, .u64 pd] (by kernel_rfl) (by decide) <| qe) (by kernel_rfl) ?_
 refine ag ?_
 obtain ⟨ah, dt, hm⟩ := ob hm
 refine aq [] 23 _ Kg (by kernel_rfl) (HV (F := N0) (O := N0) _ _ _ _ _ _ (Cx.refl _) _ dt) ?_
 rintro e_ wi ⟨rfl, fZ⟩
 have gY := fY.call fZ
 refine ⟨.agg [.ar cj ah], rfl, ?_⟩
 have dK := gY.ck (.ss (.k .z))
 refine ag <| ey [] 0 (.agg [.ar cj ah]) [.ar cj ah] (Pt.at g2 0) dK rfl .all (by kernel_rfl) (by kernel_rfl) ?_
 intro vO c_
 refine af <| aa <| aL ?_
 obtain rfl := Option.some.inj hm
 refine aM [.agg [.ar cj ah]] (qo (.agg [.ar cj ah]) <| qc (fun w => Rd w (some ⟨g2, 0, none⟩) (SV.cl [.ar cj ah])) (c_.uq 0 rfl) <| qe) (by kernel_rfl) ?_
 have ez := c_.ck .z
 exact ⟨rfl, ez⟩
theorem nH {F O : Nat → Prop} {w : World} (qU : ae UInt64 8) (bC : UInt64) (bD : UInt64) (cA : List UInt8) (aA : Int) (b : List UInt8) (a6 : Nat) (dA : Option Addr) (k9 : Nat) (dB : Nat) (l8 : Option Addr) (o6 : Nat) (mq : Nat) (qu : Ro F w l8 (e8.all b)) (qv : b.length = o6) (rC : o6 ≤ mq) (k : Cx F O w w [Bx 132 a6 [.ar cj qU, .u64 bC, .u64 bD, sl dA k9 dB, I aA, .v (.func (.func 73) ⟨SV.ad []⟩ ⟨SV.ad []⟩), .v (.func (.func 74) ⟨SV.ad []⟩ ⟨SV.ad []⟩)], Ow e8 dA k9 dB cA]) (r : (ae UInt64 8 × UInt64 × UInt64 × List UInt8 × Int)) (hm : fM qU bC bD cA aA b = some r) :
    Calls Try.prog 118 (ad [pt a6 0, sl l8 o6 mq]) w (fun e w' => ∃ A n c, r.2.2.2.1.length = n ∧ e = .returned (SV.val (.eO [])) ∧ Cx F O w w' [Bx 132 a6 [.ar cj r.1, .u64 r.2.1, .u64 r.2.2.1, sl A n c, I r.2.2.2.2, .v (.func (.func 73) ⟨SV.ad []⟩ ⟨SV.ad []⟩), .v (.func (.func 74) ⟨SV.ad []⟩ ⟨SV.ad []⟩)], Ow e8 A n c r.2.2.2.1]) := by
 unfold fM at hm
 obtain rfl := k.len 1 rfl
 subst qv
 refine calls [pt a6 0, sl l8 b.length mq] Try.func118 rfl (of_decide_eq_true (by kernel_rfl)) ?_
 refine cu <| pc (ij aA) (fun s L wr => ∃ (aC : ae UInt64 8) (ln : UInt64) (l6 : UInt64) (lG : List UInt8) (b1 : List UInt8) (A0 : Option Addr) (n0 : Nat) (c0 : Nat) (A1 : Option Addr) (c1 : Nat), (aC, ln, l6, lG, b1) = s ∧ L = [(0, pt a6 0), (1, sl A1 b1.length c1)] ∧ lG.length = n0 ∧ Ro F w A1 (e8.all b1) ∧ b1.length ≤ c1 ∧ Cx F O w wr [Bx 132 a6 [.ar cj aC, .u64 ln, .u64 l6, sl A0 n0 c0, I aA, .v (.func (.func 73) ⟨SV.ad []⟩ ⟨SV.ad []⟩), .v (.func (.func 74) ⟨SV.ad []⟩ ⟨SV.ad []⟩)], Ow e8 A0 n0 c0 lG]) (qU, bC, bD, cA, b) r hm ⟨qU, bC, bD, cA, b, dA, cA.length, dB, l8, mq, rfl, rfl, k.len 1 rfl, qu, rC, k⟩ (by kernel_rfl) ?_
 intro yU L_ w_ y0 jd dd nF
 obtain ⟨aC, ln, l6, lG, b1, A0, _, c0, A1, c1, rfl, rfl, rfl, h, hc, k_⟩ := jd
 have hm := dd; simp only [ij] at hm
 clear dd
 refine ab <| ab <| bA [] (.n 7 (.b (decide (0 < ((b1.length : Nat) : Int)))) .a) qe (by kernel_rfl) ?_
 refine aa <| bb (0 < ((b1.length : Nat) : Int)) (by kernel_rfl) (fun kr => ?_) (fun kr => ?_)
 · rw [if_pos kr] at hm
   refine aS <| aa <| cu <| kS (fun L wr => ∃ (oH : ae UInt64 8) (ig : UInt64) (kY : UInt64) (ek : List UInt8) (A2 : Option Addr) (n1 : Nat) (c2 : Nat), e9 aA b1 oH ig kY ek = some y0 ∧ L = [(0, pt a6 0), (1, sl A1 b1.length c1)] ∧ ek.length = n1 ∧ Cx F O w wr [Bx 132 a6 [.ar cj oH, .u64 ig, .u64 kY, sl A2 n1 c2, I aA, .v (.func (.func 73) ⟨SV.ad []⟩ ⟨SV.ad []⟩), .v (.func (.func 74) ⟨SV.ad []⟩ ⟨SV.ad []⟩)], Ow e8 A2 n1 c2 ek]) ?_ ?_
   ·
    refine ab <| GK bw (by kernel_rfl) (.n 17 (.b (decide (((lG.length : Nat) : Int) = aA))) (.s .a)) (fun m => qs a6 0 <| qs a6 0 <| qB (k_.drew m) 0 rfl 10 (sl A0 lG.length c0) (by kernel_rfl) <| qs a6 0 <| qs a6 0 <| qB (k_.drew m) 0 rfl 11 (I aA) (by kernel_rfl) <| qe) (by kernel_rfl) (fun m_ => ?_)
    have da := k_.drew m_
    refine aa <| bb (((lG.length : Nat) : Int) = aA) (by kernel_rfl) (fun pf => ?_) (fun pf => ?_)
    · rw [if_pos pf] at hm
      refine ab ?_
      have dF := da.drew 1
      refine qy bw (.q 0 1 (.q 1 1 (.q 2 1 (.q 3 0 (.q 4 0 (.q 5 1 (.q 6 1 (.q 7 1 (.q 8 0 (.q 9 0 (.op 10 (.q 11 1 (.q 12 1 (.q 14 1 (.q 15 1 (.q 13 2 (.op 16 .nil))))))))))))))))) [10, 16] dF (.c (.kk .e) (.c (.s (.k .e)) .l)) (by kernel_rfl) (fun _ => ?_)
      refine bx 3 1 [] (.n 19 (pt a6 0) (.n 21 (pt a6 0) (.s .a))) (fun x hx => qs a6 0 <| qe) (by kernel_rfl) (fun _ => ?_)
      refine bx 2 0 [] (.n 23 (.agg [.u64 ln, .u64 l6]) (.k (.s .a))) (fun x hx => qs a6 0 <| qT hx 0 rfl 8 2 [.u64 ln, .u64 l6] (by kernel_rfl) (by decide) <| qe) (by kernel_rfl) (fun _ => ?_)
      refine bx 3 1 [] (.n 26 (pt a6 11) .a) (fun x hx => qs a6 0 <| qs a6 0 <| qe) (by kernel_rfl) (fun _ => ?_)
      refine bx 2 0 [] (.n 28 (.u64 (UInt64.ofInt aA)) (.s .a)) (fun x hx => qB hx 0 rfl 11 (I aA) (by kernel_rfl) <| qe) (by kernel_rfl) (fun _ => ?_)
      refine bZ (by kernel_rfl) rfl ?_
      obtain ⟨r_, dk, hm⟩ := ob hm
      refine aq [] 29 _ sO (by kernel_rfl) (pg (F := N0) (O := N0) _ _ _ (Cx.refl _) _ dk) ?_
      rintro e_ lh ⟨rfl, en⟩
      have eA := dF.call en
      refine ⟨.eO [.agg [.u64 r_.1, .u64 r_.2.1], .b r_.2.2], rfl, ?_⟩
      refine ⟨eA, fun _ => ?_⟩
      refine bx 4 1 [] (.n 18 (.eO [.agg [.u64 r_.1, .u64 r_.2.1], .b r_.2.2]) (.n 30 (.agg [.u64 r_.1, .u64 r_.2.1]) (.n 33 (pt a6 8) (.fQ .a)))) (fun x hx => qs a6 0 <| qs a6 0 <| qe) (by kernel_rfl) (fun _ => ?_)
      refine bx 1 2 [] (.s .a) (fun x hx => qe) (by kernel_rfl) (fun _ => ?_)
      refine bZ (by kernel_rfl) rfl <| ey [] 0 (.agg [.u64 r_.1, .u64 r_.2.1]) [.u64 r_.1, .u64 r_.2.1] (Pt.at a6 8) eA rfl (.k .h2) (by kernel_rfl) (by kernel_rfl) ?_
      intro l4 fJ
      refine ⟨(fJ.ck (.s (.k .e))), fun _ => ?_⟩
      refine ct <| aa <| ab ?_
      have gi := fJ.drew 1
      refine qy bw (.q 0 1 (.q 1 1 (.q 2 1 (.q 3 0 (.q 4 0 (.q 5 1 (.q 6 1 (.q 7 0 (.q 8 0 (.q 9 1 (.q 10 1 (.q 11 0 (.q 12 0 (.q 13 1 (.q 14 1 (.q 15 0 (.q 16 0 (.op 17 (.q 18 1 (.q 19 1 (.op 20 .nil))))))))))))))))))))) [17, 20] gi (.c (.kk .e) (.c (.s (.k .e)) .l)) (by kernel_rfl) (fun _ => ?_)
      refine bx 3 1 [] (.n 34 (pt a6 0) (.n 36 (pt a6 0) (.ss .a))) (fun x hx => qs a6 0 <| qe) (by kernel_rfl) (fun _ => ?_)
      refine bx 2 0 [] (.n 38 (.v (.func (.func 73) ⟨SV.ad []⟩ ⟨SV.ad []⟩)) (.k (.s .a))) (fun x hx => qs a6 0 <| qB hx 0 rfl 12 (.v (.func (.func 73) ⟨SV.ad []⟩ ⟨SV.ad []⟩)) (by kernel_rfl) <| qe) (by kernel_rfl) (fun _ => ?_)
      refine bx 2 1 [] (.n 40 (pt a6 0) .a) (fun x hx => qs a6 0 <| qe) (by kernel_rfl) (fun _ => ?_)
      refine bx 2 0 [] (.n 42 (.agg [.ar cj aC]) (.s .a)) (fun x hx => qs a6 0 <| qT hx 0 rfl 0 8 [.ar cj aC] (by kernel_rfl) (by decide) <| qe) (by kernel_rfl) (fun _ => ?_)
      refine bx 2 1 [] (.n 44 (pt a6 0) .a) (fun x hx => qs a6 0 <| qe) (by kernel_rfl) (fun _ => ?_)
      refine bx 2 0 [] (.n 46 (sl A0 lG.length c0) (.s .a)) (fun x hx => qs a6 0 <| qB hx 0 rfl 10 (sl A0 lG.length c0) (by kernel_rfl) <| qe) (by kernel_rfl) (fun _ => ?_)
      refine bx 2 1 [] (.n 48 (pt a6 0) .a) (fun x hx => qs a6 0 <| qe) (by kernel_rfl) (fun _ => ?_)
      refine bx 2 0 [] (.n 50 (.agg [.u64 r_.1, .u64 r_.2.1]) (.s .a)) (fun x hx => qs a6 0 <| qT hx 0 rfl 8 2 [.u64 r_.1, .u64 r_.2.1] (by kernel_rfl) (by decide) <| qe) (by kernel_rfl) (fun _ => ?_)
      refine bZ (by kernel_rfl) rfl ?_
      obtain ⟨ah, dt, hm⟩ := ob hm
      refine mw [] 51 [] [.agg [.ar cj aC], sl A0 lG.length c0, .agg [.u64 r_.1, .u64 r_.2.1], .b false, .b false] [] FA (by kernel_rfl) (wm (F := N0) (O := N0) _ _ _ _ _ _ _ _ _ (Ro.n0 (gi.rd 1 rfl)) (gi.len 1 rfl) (gi.Az 1 rfl) (Cx.refl _) _ dt) ?_
      rintro e_ qf ⟨rfl, fY⟩
      have fZ := gi.call fY
      refine ⟨.agg [.ar cj ah], rfl, ?_⟩
      refine ⟨fZ, fun _ => ?_⟩
      refine bx 2 1 [] (.n 53 (pt a6 0) (.k (.fQ (.s .a)))) (fun x hx => qs a6 0 <| qs a6 0 <| qe) (by kernel_rfl) (fun _ => ?_)
      refine bZ (by kernel_rfl) rfl <| ey [] 0 (.agg [.ar cj ah]) [.ar cj ah] (Pt.at a6 0) fZ rfl .h (by kernel_rfl) (by kernel_rfl) ?_
      intro p7 gY
      refine ⟨(gY.ck (.s (.k .e))), fun _ => ?_⟩
      refine ct <| aa <| ao ?_
      obtain ⟨b2, Cm, hm⟩ := ob hm
      have hs := hP Cm
      have hl := kU Cm
      have hn : lG.length = lG.length := (gY.len 1 rfl)
      have ub : lG.length ≤ c0 := (gY.Az 1 rfl)
      have w9 : b2.length ≤ c0 := by omega
      refine bn 8 [] (.n 59 (sl A0 b2.length c0) (.n 61 (pt a6 10) (.ss .a))) (qs a6 0 <| qs a6 0 <| qB gY 0 rfl 10 (sl A0 lG.length c0) (by kernel_rfl) <| qp (0 ≤ (0 : Int) ∧ (0 : Int) ≤ ((c0 : Nat) : Int)) (by omega) <| qo (.v (.slice A0 b2.length c0)) <| qp (Value.slice (sA A0 0 c0 1) (Int.toNat (0 : Int) - 0) (c0 - 0) = .slice A0 b2.length c0) (ur _ _ _ _ _ (by omega)) <| qs a6 0 <| qs a6 0 <| qe) (by kernel_rfl) ?_
      refine ag ?_
      have dK := gY.ck (.kk .e)
      refine ey [] 0 (sl A0 b2.length c0) [sl A0 b2.length c0] (Pt.at a6 10) dK rfl (.kk (.k .h)) (by kernel_rfl) (by kernel_rfl) ?_
      intro sV c_
      refine af ?_
      have ez := c_.pre 1 rfl b2.length c0 b2 (by omega) (by omega) (by omega) (y7 Cm rfl)
      exact iy ⟨ah, r_.1, r_.2.1, b2, A0, b2.length, c0, hm, rfl, ez.len 1 rfl, ez⟩ (by kernel_rfl)
    rw [if_neg pf] at hm
    refine aS ?_
    exact iy ⟨aC, ln, l6, lG, A0, lG.length, c0, hm, rfl, da.len 1 rfl, da⟩ (by kernel_rfl)
   rintro L_ wi ⟨oH, ig, kY, ek, A2, _, c2, hm, rfl, rfl, dH⟩
   simp only [e9] at hm
   refine ab <| GK bw (by kernel_rfl) (.n 4 (I (if aB (aA - ((ek.length : Nat) : Int)) < ((b1.length : Nat) : Int) then aB (aA - ((ek.length : Nat) : Int)) else ((b1.length : Nat) : Int))) .a) (fun m => qs a6 0 <| qs a6 0 <| qB (dH.drew m) 0 rfl 11 (I aA) (by kernel_rfl) <| qs a6 0 <| qs a6 0 <| qB (dH.drew m) 0 rfl 10 (sl A2 ek.length c2) (by kernel_rfl) <| qe) (by kernel_rfl) (fun xp => ?_)
   have eX := dH.drew xp
   refine aa <| ab ?_
   have iu := eX.drew 1
   refine qy bw (.q 5 0 (.q 6 0 (.q 7 0 (.q 0 1 (.q 1 1 (.q 2 1 (.q 3 0 (.q 4 0 (.op 8 (.q 9 1 (.q 10 1 (.op 11 .nil)))))))))))) [8, 11] iu (.c (.k .z) (.c (.z) .l)) (by kernel_rfl) (fun _ => ?_)
   obtain ⟨b3, AI, hm⟩ := ob hm
   have Q7 := hP AI
   have FI := kU AI
   have Q8 : b1.length = b1.length := rfl
   have uc : b1.length ≤ c1 := hc
   have ud : b3.length ≤ c1 := by omega
   refine bx 3 0 [] (.n 82 (sl A1 b3.length c1) .a) (fun x hx => qp (0 ≤ (if aB (aA - ((ek.length : Nat) : Int)) < ((b1.length : Nat) : Int) then aB (aA - ((ek.length : Nat) : Int)) else ((b1.length : Nat) : Int)) ∧ (if aB (aA - ((ek.length : Nat) : Int)) < ((b1.length : Nat) : Int) then aB (aA - ((ek.length : Nat) : Int)) else ((b1.length : Nat) : Int)) ≤ ((c1 : Nat) : Int)) (by omega) <| qo (.v (.slice A1 b3.length c1)) <| qp (Value.slice (sA A1 0 c1 1) (Int.toNat (if aB (aA - ((ek.length : Nat) : Int)) < ((b1.length : Nat) : Int) then aB (aA - ((ek.length : Nat) : Int)) else ((b1.length : Nat) : Int)) - 0) (c1 - 0) = .slice A1 b3.length c1) (ur _ _ _ _ _ (by omega)) <| qe) (by kernel_rfl) (fun _ => ?_)
   refine bx 3 1 [] (.n 75 (pt a6 0) (.n 77 (pt a6 0) .a)) (fun x hx => qs a6 0 <| qe) (by kernel_rfl) (fun _ => ?_)
   refine bx 2 0 [] (.n 79 (sl A2 ek.length c2) (.k (.s .a))) (fun x hx => qs a6 0 <| qB hx 0 rfl 10 (sl A2 ek.length c2) (by kernel_rfl) <| qe) (by kernel_rfl) (fun _ => ?_)
   refine bZ (by kernel_rfl) rfl ?_
   obtain ⟨b4, Gm, hm⟩ := ob hm
   obtain ⟨hz, G2⟩ := kV Gm
   refine jG (E := e8) (v := sl A1 b3.length c1) (ys := b3) im [] 83 1 (by kernel_rfl) iu rfl (Src.sl (Rd.pre (h.cx iu) AI rfl) rfl (by rfl)) rfl (by have := iu.len 1 rfl; have := hm; omega) ?_
   intro A3 c3 vO fX
   rw [← G2] at fX
   refine ⟨(fX.ck (.k .z)), fun _ => ?_⟩
   refine bx 2 1 [] (.n 85 (pt a6 10) (.k (.lj .a))) (fun x hx => qs a6 0 <| qs a6 0 <| qe) (by kernel_rfl) (fun _ => ?_)
   refine bZ (by kernel_rfl) rfl <| ey [] 0 (sl A3 (ek.length + b3.length) c3) [sl A3 (ek.length + b3.length) c3] (Pt.at a6 10) fX rfl (.kk (.k .h)) (by kernel_rfl) (by kernel_rfl) ?_
   intro Av jY
   refine ⟨(jY.ck .z), fun _ => ?_⟩
   refine ct <| aa ?_
   obtain ⟨b5, Ez, hm⟩ := ob hm
   have WB := hP Ez
   have WC := kU Ez
   have WD : b1.length = b1.length := rfl
   have FH : b1.length ≤ c1 := hc
   obtain ⟨A4, c4, e_, Ev, hA, Ku⟩ := Lq A1 (Int.toNat (if aB (aA - ((ek.length : Nat) : Int)) < ((b1.length : Nat) : Int) then aB (aA - ((ek.length : Nat) : Int)) else ((b1.length : Nat) : Int))) c1 1 (b1.length - Int.toNat (if aB (aA - ((ek.length : Nat) : Int)) < ((b1.length : Nat) : Int) then aB (aA - ((ek.length : Nat) : Int)) else ((b1.length : Nat) : Int))) b5.length (by omega) (by omega)
   refine bA [] (.n 1 (sl A4 b5.length c4) (.lj (.k .z))) (qp (0 ≤ (if aB (aA - ((ek.length : Nat) : Int)) < ((b1.length : Nat) : Int) then aB (aA - ((ek.length : Nat) : Int)) else ((b1.length : Nat) : Int)) ∧ (if aB (aA - ((ek.length : Nat) : Int)) < ((b1.length : Nat) : Int) then aB (aA - ((ek.length : Nat) : Int)) else ((b1.length : Nat) : Int)) ≤ ((b1.length : Nat) : Int)) (by omega) <| qo (.v (.slice A4 b5.length c4)) <| qp (Value.slice (sA A1 (Int.toNat (if aB (aA - ((ek.length : Nat) : Int)) < ((b1.length : Nat) : Int) then aB (aA - ((ek.length : Nat) : Int)) else ((b1.length : Nat) : Int))) c1 1) (b1.length - Int.toNat (if aB (aA - ((ek.length : Nat) : Int)) < ((b1.length : Nat) : Int) then aB (aA - ((ek.length : Nat) : Int)) else ((b1.length : Nat) : Int))) (c1 - Int.toNat (if aB (aA - ((ek.length : Nat) : Int)) < ((b1.length : Nat) : Int) then aB (aA - ((ek.length : Nat) : Int)) else ((b1.length : Nat) : Int))) = .slice A4 b5.length c4) e_ <| qe) (by kernel_rfl) ?_
   refine hH ?_
   exact jR (oH, ig, kY, b4, b5) (Option.some.inj hm).symm ⟨oH, ig, kY, b4, b5, A3, ek.length + b3.length, c3, A4, c4, rfl, rfl, jY.len 1 rfl, (Ro.cut h Ez rfl (by rfl) hA (by omega)), Ev, jY⟩ (by kernel_rfl)
 rw [if_neg kr] at hm
 refine iq (fe (fe (kG ?_)))
 have hm := d_ hm nF
 obtain rfl := Option.some.inj hm
 refine pJ [] qe (by kernel_rfl) ?_
 exact ⟨A0, lG.length, c0, k_.len 1 rfl, rfl, k_⟩
theorem Cu {F O : Nat → Prop} {w : World} (b : List UInt8) (l8 : Option Addr) (o6 : Nat) (mq : Nat) (qu : Ro F w l8 (e8.all b)) (qv : b.length = o6) (rC : o6 ≤ mq) (k : Cx F O w w []) (r : (ae UInt32 16 × Int)) (hm : tj b = some r) :
    Calls Try.prog 85 (ad [sl l8 o6 mq]) w (fun e w' => e = .returned (SV.val (.eO [.agg [.ar du r.1], I r.2])) ∧ Cx F O w w' []) := by
 unfold tj at hm
 subst qv
 refine calls [sl l8 b.length mq] Try.func85 rfl (of_decide_eq_true (by kernel_rfl)) ?_
 refine ab <| ao <| ag <| bY [] 2 [.ar du (ae.rep 16 (0 : UInt32))] (by kernel_rfl) k ?_
 intro g w_ k_
 refine bn 1 [] .a qe (by kernel_rfl) ?_
 refine af <| aa <| ab <| ao <| ag <| bY [] 4 [.ar du (ae.rep 16 (0 : UInt32))] (by kernel_rfl) k_ ?_
 intro g1 lh da
 refine af <| aa <| ab <| ab <| ao <| bn 1 [] (.n 6 (sl l8 b.length mq) .a) qe (by kernel_rfl) ?_
 refine ag ?_
 obtain ⟨r_, dk, hm⟩ := ob hm
 refine aq [] 7 _ FD (by kernel_rfl) (xx (F := N0) (O := N0) _ _ _ _ _ (Ro.n0 (qu.cx da)) rfl rC (Cx.refl _) _ dk) ?_
 rintro e_ l4 ⟨rfl, dF⟩
 have en := da.call dF
 refine ⟨I r_, rfl, ?_⟩
 refine bn 1 [] (.n 5 (I r_) (.ss .a)) qe (by kernel_rfl) ?_
 refine af <| aa <| ab <| bA [] (.n 9 (.b (decide (r_ ≠ 0))) .a) qe (by kernel_rfl) ?_
 refine aa <| bb (r_ ≠ 0) (by kernel_rfl) (fun hc => ?_) (fun hc => ?_)
 · rw [if_pos hc] at hm
   refine ab <| ao <| bn 2 [] (.n 10 (.agg [.ar du (ae.rep 16 (0 : UInt32))]) (.n 11 (I r_) (.lj (.k .z)))) (qT en 1 rfl 0 16 [.ar du (ae.rep 16 (0 : UInt32))] (by kernel_rfl) (by decide) <| qe) (by kernel_rfl) ?_
   refine ag <| ey [] 0 (.agg [.ar du (ae.rep 16 (0 : UInt32))]) [.ar du (ae.rep 16 (0 : UInt32))] (Pt.at g 0) en rfl .all (by kernel_rfl) (by kernel_rfl) ?_
   intro qf eA
   have fJ := eA.ck (.k .z)
   refine bn 1 [] (.n 3 (I r_) (.ss .a)) qe (by kernel_rfl) ?_
   refine af <| aa <| aL (bI ?_)
   obtain rfl := Option.some.inj hm
   refine aM [.agg [.ar du (ae.rep 16 (0 : UInt32))], I r_] (qo (.agg [.ar du (ae.rep 16 (0 : UInt32))]) <| qc (fun w => Rd w (some ⟨g, 0, none⟩) (SV.cl [.ar du (ae.rep 16 (0 : UInt32))])) (fJ.uq 0 rfl) <| qe) (by kernel_rfl) ?_
   have gi := fJ.ck .z
   exact ⟨rfl, gi⟩
 rw [if_neg hc] at hm
 refine aS <| aa <| ab <| ao <| bn 2 [] (.n 12 (sl (some ⟨g1, 0, none⟩) 16 16) (.n 13 (sl l8 b.length mq) (.ss (.kk .z)))) (qo (.v (.slice (some ⟨g1, 0, none⟩) 16 16)) <| qp (((some ⟨g1, 0, none⟩) : Option Addr).isSome = true ∧ Value.slice (sA (some ⟨g1, 0, none⟩) 0 16 1) (16 - 0) (16 - 0) = .slice (some ⟨g1, 0, none⟩) 16 16) ⟨rfl, ur _ _ _ _ _ rfl⟩ <| qe) (by kernel_rfl) ?_
 refine ag ?_
 have fY := en.Lr [] [] 1 rfl
 obtain ⟨ah, dt, hm⟩ := ob hm
 obtain ⟨F1, O1, lO, hO, rO, hF, hb⟩ := fY.go (.r (.i .e))
 refine aq [] 14 _ FE (by kernel_rfl) (xy (F := F1) (O := O1) _ _ _ _ _ _ _ _ _ (Nat.le_refl _) (Ro.aY qu fY hF) rfl rC lO _ dt) ?_
 rintro e_ p7 ⟨rfl, fZ⟩
 have gY := hb p7 _ _ fZ (.c .n)
 refine ⟨.eO [], rfl, ?_⟩
 have dK := gY.Lt [] [] 0 rfl (ae.of 16 ah) (ae.Pl (gY.D6 0 rfl))
 refine af <| aa <| ab <| ao <| bn 1 [] (.n 15 (.agg [.ar du (ae.of 16 ah)]) (.fQ .a)) (qT dK 0 rfl 0 16 [.ar du (ae.of 16 ah)] (by kernel_rfl) (by decide) <| qe) (by kernel_rfl) ?_
 refine ag ?_
 have c_ := dK.ck (.kk .e)
 refine ey [] 1 (.agg [.ar du (ae.of 16 ah)]) [.ar du (ae.of 16 ah)] (Pt.at g 0) c_ rfl .all (by kernel_rfl) (by kernel_rfl) ?_
 intro sV ez
 have dH := ez.ck (.s (.k .e))
 refine bn 1 [] (.n 3 (I 0) (.s .a)) qe (by kernel_rfl) ?_
 refine af <| aa <| aL ?_
 obtain rfl := Option.some.inj hm
 refine aM [.agg [.ar du (ae.of 16 ah)], I 0] (qo (.agg [.ar du (ae.of 16 ah)]) <| qc (fun w => Rd w (some ⟨g, 0, none⟩) (SV.cl [.ar du (ae.of 16 ah)])) (dH.uq 0 rfl) <| qe) (by kernel_rfl) ?_
 have eX := dH.ck .z
 exact ⟨rfl, eX⟩
theorem Cv {F O : Nat → Prop} {w : World} (h : ae UInt32 8) (count : UInt64) (last : Bool) (node : Bool) (k : Cx F O w w []) (r : (ae UInt32 16)) (hm : tk h count last node = some r) :
    Calls Try.prog 89 (ad [.agg [.ar du h], .u64 count, .b last, .b node]) w (fun e w' => e = .returned (SV.val (.agg [.ar du r])) ∧ Cx F O w w' []) := by
 unfold tk at hm
 refine calls [.agg [.ar du h], .u64 count, .b last, .b node] Try.func89 rfl (of_decide_eq_true (by kernel_rfl)) ?_
 refine ab <| ao <| ag <| gj [] 4 (.agg [.ar du h]) [.ar du h] (by kernel_rfl) k ?_
 intro g w_ k_
 refine ag <| bY [] 8 [.ar du (ae.rep 16 (0 : UInt32))] (by kernel_rfl) k_ ?_
 intro g1 lh da
 refine af <| aa <| ab <| ao <| ag <| bY [] 9 [.ar du (ae.rep 16 (0 : UInt32))] (by kernel_rfl) da ?_
 intro g2 l4 dF
 refine af <| aa <| ab <| ao <| ag ?_
 obtain ⟨r_, dk, hm⟩ := ob hm
 refine aq [] 11 _ FF (by kernel_rfl) (Bp (F := N0) (O := N0)  (Cx.refl _) _ dk) ?_
 rintro e_ qf ⟨rfl, en⟩
 have eA := dF.call en
 refine ⟨.agg [.ar du r_], rfl, ?_⟩
 refine ag ?_
 have fJ := eA.ck (.kk (.k .e))
 refine bY [] 10 [.ar du (ae.rep 8 (0 : UInt32))] (by kernel_rfl) fJ ?_
 intro g3 p7 gi
 refine ag <| ey [] 3 (.agg [.ar du r_]) [.ar du r_] (Pt.at g3 0) gi rfl .all (by kernel_rfl) (by kernel_rfl) ?_
 intro sV fY
 refine af <| aa <| ab ?_
 have fZ := fY.drew 1
 refine qy bw (.q 0 0 (.q 1 0 (.op 2 .nil))) [2] fZ (.c (.kk (.s (.k .e))) .l) (by kernel_rfl) (fun _ => ?_)
 obtain ⟨b, qu, hm⟩ := ob hm
 have hs := hP qu
 have hl := kU qu
 have hn : ((ae.rep 16 (0 : UInt32)).l).length = 16 := (ae.rep 16 (0 : UInt32)).h
 have hc : 16 ≤ 16 := (Nat.le_refl _)
 have kr : b.length ≤ 16 := by omega
 refine bx 2 0 [] (.n 12 (sl (some ⟨g2, 0, none⟩) b.length 16) (.n 13 (sl (some ⟨g, 0, none⟩) 8 8) (.k (.s (.kk (.ss .a)))))) (fun x hx => qp (0 ≤ (8 : Int) ∧ (8 : Int) ≤ ((16 : Nat) : Int)) (by omega) <| qo (.v (.slice (some ⟨g2, 0, none⟩) b.length 16)) <| qp (((some ⟨g2, 0, none⟩) : Option Addr).isSome = true ∧ Value.slice (sA (some ⟨g2, 0, none⟩) 0 16 1) (Int.toNat (8 : Int) - 0) (16 - 0) = .slice (some ⟨g2, 0, none⟩) b.length 16) ⟨rfl, ur _ _ _ _ _ (by omega)⟩ <| qo (.v (.slice (some ⟨g, 0, none⟩) 8 8)) <| qp (((some ⟨g, 0, none⟩) : Option Addr).isSome = true ∧ Value.slice (sA (some ⟨g, 0, none⟩) 0 8 1) (8 - 0) (8 - 0) = .slice (some ⟨g, 0, none⟩) 8 8) ⟨rfl, ur _ _ _ _ _ rfl⟩ <| qe) (by kernel_rfl) (fun _ => ?_)
 refine bZ (by kernel_rfl) rfl <| x8 (E := du) (dn := b.length) (dc := 16) (v := sl (some ⟨g, 0, none⟩) 8 8) (src := h.l) (lo := 0) (m' := 16) Db [] 14 2 [] [] (ae.rep 16 (0 : UInt32)) (by kernel_rfl) (sK _ _ _).symm fZ rfl (Src.sl (Rd.vec (fZ.uq 0 rfl) (c := eG.all du h.l) (off := 0) (by kernel_rfl)) h.h (by rfl)) h.h (by have := (ae.rep 16 (0 : UInt32)).h; omega) (by omega) (by omega) ?_
 intro wi gY
 refine ⟨(gY.ck (.kk (.s (.k .e)))), fun _ => ?_⟩
 refine ct <| aa <| ab ?_
 have dK := gY.drew 1
 refine qy bw (.q 0 0 (.q 1 0 (.op 2 .nil))) [2] dK (.c (.kk (.s (.k .e))) .l) (by kernel_rfl) (fun _ => ?_)
 obtain ⟨b1, wP, hm⟩ := ob hm
 have Q7 := hP wP
 have FI := kU wP
 have Q8 : ((tP (ae.rep 16 (0 : UInt32)) 0 b.length h.l).l).length = 16 := (tP (ae.rep 16 (0 : UInt32)) 0 b.length h.l).h
 have pf : 16 ≤ 16 := (Nat.le_refl _)
 obtain ⟨A, c, e_, ub, hA, w9⟩ := Lq (some ⟨g2, 0, none⟩) (Int.toNat (8 : Int)) 16 1 (16 - Int.toNat (8 : Int)) b1.length (by omega) (by omega)
 refine bx 2 0 [] (.n 15 (sl A b1.length c) (.n 16 (sl (some ⟨g3, 0, none⟩) 8 8) (.fQ .a))) (fun x hx => qp (0 ≤ (8 : Int) ∧ (8 : Int) ≤ ((16 : Nat) : Int)) (by omega) <| qo (.v (.slice A b1.length c)) <| qp (((some ⟨g2, 0, none⟩) : Option Addr).isSome = true ∧ Value.slice (sA (some ⟨g2, 0, none⟩) (Int.toNat (8 : Int)) 16 1) (16 - Int.toNat (8 : Int)) (16 - Int.toNat (8 : Int)) = .slice A b1.length c) ⟨rfl, e_⟩ <| qo (.v (.slice (some ⟨g3, 0, none⟩) 8 8)) <| qp (((some ⟨g3, 0, none⟩) : Option Addr).isSome = true ∧ Value.slice (sA (some ⟨g3, 0, none⟩) 0 8 1) (8 - 0) (8 - 0) = .slice (some ⟨g3, 0, none⟩) 8 8) ⟨rfl, ur _ _ _ _ _ rfl⟩ <| qe) (by kernel_rfl) (fun _ => ?_)
 refine bZ (by kernel_rfl) rfl <| x8 (E := du) (dn := b1.length) (dc := c) (v := sl (some ⟨g3, 0, none⟩) 8 8) (src := r_.l) (lo := Int.toNat (8 : Int)) (m' := 16) Db [] 17 2 [] [] (tP (ae.rep 16 (0 : UInt32)) 0 b.length h.l) (by kernel_rfl) hA dK rfl (Src.sl (Rd.vec (dK.uq 3 rfl) (c := eG.all du r_.l) (off := 0) (by kernel_rfl)) r_.h (by rfl)) r_.h (by have := (tP (ae.rep 16 (0 : UInt32)) 0 b.length h.l).h; omega) (by omega) (by omega) ?_
 intro vO c_
 refine ⟨(c_.ck (.kk (.s (.k .e)))), fun _ => ?_⟩
 refine ct <| aa <| ab <| ao ?_
 obtain ⟨aC, rD, hm⟩ := ob hm
 obtain ⟨eL, jC, hm⟩ := ob hm
 refine bn 6 [] (.n 22 (.u32 (aC ^^^ (UInt32.ofNat count.toNat))) (.n 23 (.v (.pointer (nv (some ⟨g2, 0, none⟩) (12 : Int) 1))) (.lj .a))) (qV (c_.nE 2 rfl du (tP (tP (ae.rep 16 (0 : UInt32)) 0 b.length h.l) (Int.toNat (8 : Int)) b1.length r_.l) 0 (by kernel_rfl)) rD rfl (.u32 aC) rfl <| qI g2 0 jC <| qe) (by kernel_rfl) ?_
 refine ag ?_
 have ez := c_.ck (.aP .e)
 obtain ⟨v, Kv, hm⟩ := nm hm
 refine kW (E := du) (kk := 0) [] 2 (.u32 (aC ^^^ (UInt32.ofNat count.toNat))) [.u32 (aC ^^^ (UInt32.ofNat count.toNat))] Kv jC (Pt.xo (Pt.at g2 0) (12 : Int) 1) ez rfl .h rfl (by kernel_rfl) (by kernel_rfl) ?_
 intro Av dH
 refine af <| aa <| ab <| ao ?_
 obtain ⟨ej, jk, hm⟩ := ob hm
 obtain ⟨fg, jZ, hm⟩ := ob hm
 refine bn 7 [] (.n 29 (.u32 (ej ^^^ (UInt32.ofNat (aJ count ((32 : UInt64).toNat)).toNat))) (.n 30 (.v (.pointer (nv (some ⟨g2, 0, none⟩) (13 : Int) 1))) (.ss (.kk (.s .a))))) (qV (dH.nE 2 rfl du v 0 (by kernel_rfl)) jk rfl (.u32 ej) rfl <| qI g2 0 jZ <| qe) (by kernel_rfl) ?_
 refine ag ?_
 obtain ⟨v1, z8, hm⟩ := nm hm
 refine kW (E := du) (kk := 0) [] 2 (.u32 (ej ^^^ (UInt32.ofNat (aJ count ((32 : UInt64).toNat)).toNat))) [.u32 (ej ^^^ (UInt32.ofNat (aJ count ((32 : UInt64).toNat)).toNat))] z8 jZ (Pt.xo (Pt.at g2 0) (13 : Int) 1) dH rfl .h rfl (by kernel_rfl) (by kernel_rfl) ?_
 intro De eX
 refine af <| aa <| kS (fun L wr => ∃ (v2 : ae UInt32 16), nP node v2 = some r ∧ L = [(3, .b node), (8, pt g1 0), (9, pt g2 0)] ∧ Cx F O w wr [Bx 151 g1 [.ar du (ae.rep 16 (0 : UInt32))], Bx 151 g2 [.ar du v2]]) ?_ ?_
 ·
  refine ab <| bA [] (.n 31 (.b last) (.ss (.kk (.s .a)))) qe (by kernel_rfl) ?_
  refine aa <| cw last (by kernel_rfl) (fun uc => ?_) (fun uc => ?_)
  · rw [if_pos uc] at hm
    refine ao ?_
    obtain ⟨ll, nt, hm⟩ := ob hm
    obtain ⟨ln, oX, hm⟩ := ob hm
    refine bn 4 [] (.n 34 (.u32 (4294967295 ^^^ ll)) (.n 35 (.v (.pointer (nv (some ⟨g2, 0, none⟩) (14 : Int) 1))) (.s .a))) (qV (eX.nE 2 rfl du v1 0 (by kernel_rfl)) nt rfl (.u32 ll) rfl <| qI g2 0 oX <| qe) (by kernel_rfl) ?_
    refine ag ?_
    obtain ⟨v3, Ex, hm⟩ := nm hm
    refine kW (E := du) (kk := 0) [] 2 (.u32 (4294967295 ^^^ ll)) [.u32 (4294967295 ^^^ ll)] Ex oX (Pt.xo (Pt.at g2 0) (14 : Int) 1) eX rfl .h rfl (by kernel_rfl) (by kernel_rfl) ?_
    intro z6 iu
    refine af ?_
    have fX := iu.ck (.s (.kk .z))
    exact iy ⟨v3, hm, rfl, fX⟩ (by kernel_rfl)
  rw [if_neg (by rw [uc]; decide)] at hm
  refine aS ?_
  have jY := eX.ck (.s (.kk .z))
  exact iy ⟨v1, hm, rfl, jY⟩ (by kernel_rfl)
 rintro L_ Ch ⟨v2, hm, rfl, iK⟩
 simp only [nP] at hm
 refine kS (fun L wr => ∃ (v4 : ae UInt32 16), nO v4 = some r ∧ L = [(8, pt g1 0), (9, pt g2 0)] ∧ Cx F O w wr [Bx 151 g1 [.ar du (ae.rep 16 (0 : UInt32))], Bx 151 g2 [.ar du v4]]) ?_ ?_
 ·
  refine ab <| bA [] (.n 36 (.b node) (.s .a)) qe (by kernel_rfl) ?_
  refine aa <| cw node (by kernel_rfl) (fun ud => ?_) (fun ud => ?_)
  · rw [if_pos ud] at hm
    refine ao ?_
    obtain ⟨l6, sb, hm⟩ := ob hm
    obtain ⟨lG, sd, hm⟩ := ob hm
    refine bn 4 [] (.n 39 (.u32 (4294967295 ^^^ l6)) (.n 40 (.v (.pointer (nv (some ⟨g2, 0, none⟩) (15 : Int) 1))) (.s .a))) (qV (iK.nE 1 rfl du v2 0 (by kernel_rfl)) sb rfl (.u32 l6) rfl <| qI g2 0 sd <| qe) (by kernel_rfl) ?_
    refine ag ?_
    obtain ⟨v5, Ey, hm⟩ := nm hm
    refine kW (E := du) (kk := 0) [] 1 (.u32 (4294967295 ^^^ l6)) [.u32 (4294967295 ^^^ l6)] Ey sd (Pt.xo (Pt.at g2 0) (15 : Int) 1) iK rfl .h rfl (by kernel_rfl) (by kernel_rfl) ?_
    intro Dg kt
    refine af ?_
    exact iy ⟨v5, hm, rfl, kt⟩ (by kernel_rfl)
  rw [if_neg (by rw [ud]; decide)] at hm
  refine aS ?_
  exact iy ⟨v2, hm, rfl, iK⟩ (by kernel_rfl)
 rintro L_ MI ⟨v4, hm, rfl, kg⟩
 simp only [nO] at hm
 refine ab <| ao <| bn 1 [] (.n 41 (.agg [.ar du v4]) (.k .z)) (qT kg 1 rfl 0 16 [.ar du v4] (by kernel_rfl) (by decide) <| qe) (by kernel_rfl) ?_
 refine ag <| ey [] 0 (.agg [.ar du v4]) [.ar du v4] (Pt.at g1 0) kg rfl .all (by kernel_rfl) (by kernel_rfl) ?_
 intro MK lW
 have mh := lW.ck (.k .z)
 refine af <| aa <| aL ?_
 obtain rfl := Option.some.inj hm
 refine aM [.agg [.ar du v4]] (qo (.agg [.ar du v4]) <| qc (fun w => Rd w (some ⟨g1, 0, none⟩) (SV.cl [.ar du v4])) (mh.uq 0 rfl) <| qe) (by kernel_rfl) ?_
 have mo := mh.ck .z
 exact ⟨rfl, mo⟩
theorem AM {F O : Nat → Prop} {w : World} (k : Cx F O w w []) (r : (ae (ae Int 4) 8)) (hm : sn = some r) :
    Calls Try.prog 95 (ad []) w (fun e w' => e = .returned (SV.val (.agg [.ar (eV eI 4) r])) ∧ Cx F O w w' []) := by
 unfold sn at hm
 refine calls [] Try.func95 rfl (of_decide_eq_true (by kernel_rfl)) ?_
 refine ab <| ao <| ag <| bY [] 0 [.ar (eV eI 4) (ae.rep 8 (ae.rep 4 (0 : Int)))] (by kernel_rfl) k ?_
 intro g w_ k_
 refine af <| aa <| ab <| ao <| bn 9 [] (.n 9 (.agg [.ar (eV eI 4) (⟨[(⟨[(0 : Int), (4 : Int), (8 : Int), (12 : Int)], rfl⟩ : ae Int 4), (⟨[(1 : Int), (5 : Int), (9 : Int), (13 : Int)], rfl⟩ : ae Int 4), (⟨[(2 : Int), (6 : Int), (10 : Int), (14 : Int)], rfl⟩ : ae Int 4), (⟨[(3 : Int), (7 : Int), (11 : Int), (15 : Int)], rfl⟩ : ae Int 4), (⟨[(0 : Int), (5 : Int), (10 : Int), (15 : Int)], rfl⟩ : ae Int 4), (⟨[(1 : Int), (6 : Int), (11 : Int), (12 : Int)], rfl⟩ : ae Int 4), (⟨[(2 : Int), (7 : Int), (8 : Int), (13 : Int)], rfl⟩ : ae Int 4), (⟨[(3 : Int), (4 : Int), (9 : Int), (14 : Int)], rfl⟩ : ae Int 4)], rfl⟩ : ae (ae Int 4) 8)]) .a) qe (by kernel_rfl) ?_
 refine ag <| ey [] 0 (.agg [.ar (eV eI 4) (⟨[(⟨[(0 : Int), (4 : Int), (8 : Int), (12 : Int)], rfl⟩ : ae Int 4), (⟨[(1 : Int), (5 : Int), (9 : Int), (13 : Int)], rfl⟩ : ae Int 4), (⟨[(2 : Int), (6 : Int), (10 : Int), (14 : Int)], rfl⟩ : ae Int 4), (⟨[(3 : Int), (7 : Int), (11 : Int), (15 : Int)], rfl⟩ : ae Int 4), (⟨[(0 : Int), (5 : Int), (10 : Int), (15 : Int)], rfl⟩ : ae Int 4), (⟨[(1 : Int), (6 : Int), (11 : Int), (12 : Int)], rfl⟩ : ae Int 4), (⟨[(2 : Int), (7 : Int), (8 : Int), (13 : Int)], rfl⟩ : ae Int 4), (⟨[(3 : Int), (4 : Int), (9 : Int), (14 : Int)], rfl⟩ : ae Int 4)], rfl⟩ : ae (ae Int 4) 8)]) [.ar (eV eI 4) (⟨[(⟨[(0 : Int), (4 : Int), (8 : Int), (12 : Int)], rfl⟩ : ae Int 4), (⟨[(1 : Int), (5 : Int), (9 : Int), (13 : Int)], rfl⟩ : ae Int 4), (⟨[(2 : Int), (6 : Int), (10 : Int), (14 : Int)], rfl⟩ : ae Int 4), (⟨[(3 : Int), (7 : Int), (11 : Int), (15 : Int)], rfl⟩ : ae Int 4), (⟨[(0 : Int), (5 : Int), (10 : Int), (15 : Int)], rfl⟩ : ae Int 4), (⟨[(1 : Int), (6 : Int), (11 : Int), (12 : Int)], rfl⟩ : ae Int 4), (⟨[(2 : Int), (7 : Int), (8 : Int), (13 : Int)], rfl⟩ : ae Int 4), (⟨[(3 : Int), (4 : Int), (9 : Int), (14 : Int)], rfl⟩ : ae Int 4)], rfl⟩ : ae (ae Int 4) 8)] (Pt.at g 0) k_ rfl .all (by kernel_rfl) (by kernel_rfl) ?_
 intro lh da
 refine af <| aa <| aL ?_
 obtain rfl := Option.some.inj hm
 refine aM [.agg [.ar (eV eI 4) (⟨[(⟨[(0 : Int), (4 : Int), (8 : Int), (12 : Int)], rfl⟩ : ae Int 4), (⟨[(1 : Int), (5 : Int), (9 : Int), (13 : Int)], rfl⟩ : ae Int 4), (⟨[(2 : Int), (6 : Int), (10 : Int), (14 : Int)], rfl⟩ : ae Int 4), (⟨[(3 : Int), (7 : Int), (11 : Int), (15 : Int)], rfl⟩ : ae Int 4), (⟨[(0 : Int), (5 : Int), (10 : Int), (15 : Int)], rfl⟩ : ae Int 4), (⟨[(1 : Int), (6 : Int), (11 : Int), (12 : Int)], rfl⟩ : ae Int 4), (⟨[(2 : Int), (7 : Int), (8 : Int), (13 : Int)], rfl⟩ : ae Int 4), (⟨[(3 : Int), (4 : Int), (9 : Int), (14 : Int)], rfl⟩ : ae Int 4)], rfl⟩ : ae (ae Int 4) 8)]] (qo (.agg [.ar (eV eI 4) (⟨[(⟨[(0 : Int), (4 : Int), (8 : Int), (12 : Int)], rfl⟩ : ae Int 4), (⟨[(1 : Int), (5 : Int), (9 : Int), (13 : Int)], rfl⟩ : ae Int 4), (⟨[(2 : Int), (6 : Int), (10 : Int), (14 : Int)], rfl⟩ : ae Int 4), (⟨[(3 : Int), (7 : Int), (11 : Int), (15 : Int)], rfl⟩ : ae Int 4), (⟨[(0 : Int), (5 : Int), (10 : Int), (15 : Int)], rfl⟩ : ae Int 4), (⟨[(1 : Int), (6 : Int), (11 : Int), (12 : Int)], rfl⟩ : ae Int 4), (⟨[(2 : Int), (7 : Int), (8 : Int), (13 : Int)], rfl⟩ : ae Int 4), (⟨[(3 : Int), (4 : Int), (9 : Int), (14 : Int)], rfl⟩ : ae Int 4)], rfl⟩ : ae (ae Int 4) 8)]) <| qc (fun w => Rd w (some ⟨g, 0, none⟩) (SV.cl [.ar (eV eI 4) (⟨[(⟨[(0 : Int), (4 : Int), (8 : Int), (12 : Int)], rfl⟩ : ae Int 4), (⟨[(1 : Int), (5 : Int), (9 : Int), (13 : Int)], rfl⟩ : ae Int 4), (⟨[(2 : Int), (6 : Int), (10 : Int), (14 : Int)], rfl⟩ : ae Int 4), (⟨[(3 : Int), (7 : Int), (11 : Int), (15 : Int)], rfl⟩ : ae Int 4), (⟨[(0 : Int), (5 : Int), (10 : Int), (15 : Int)], rfl⟩ : ae Int 4), (⟨[(1 : Int), (6 : Int), (11 : Int), (12 : Int)], rfl⟩ : ae Int 4), (⟨[(2 : Int), (7 : Int), (8 : Int), (13 : Int)], rfl⟩ : ae Int 4), (⟨[(3 : Int), (4 : Int), (9 : Int), (14 : Int)], rfl⟩ : ae Int 4)], rfl⟩ : ae (ae Int 4) 8)])) (da.uq 0 rfl) <| qe) (by kernel_rfl) ?_
 have dF := da.ck .z
 exact ⟨rfl, dF⟩
theorem lv {F O : Nat → Prop} {w : World} (x_ : UInt32) (k_ : Int) (k : Cx F O w w []) (r : UInt32) (hm : iT x_ k_ = some r) :
    Calls Try.prog 97 (ad [.u32 x_, I k_]) w (fun e w' => e = .returned (SV.val (.u32 r)) ∧ Cx F O w w' []) := by
 unfold iT at hm
 refine calls [.u32 x_, I k_] Try.func97 rfl (of_decide_eq_true (by kernel_rfl)) ?_
 refine ab <| bA [] .a qe (by kernel_rfl) ?_
 refine aa <| ab <| bA [] (.n 5 (.u64 ((UInt64.ofInt k_) &&& 31)) (.k .z)) qe (by kernel_rfl) ?_
 refine aa <| ab <| bA [] (.n 4 (.u32 ((tO x_ (((UInt64.ofInt k_) &&& 31).toNat)) ||| (lJ x_ (((32 : UInt64) - ((UInt64.ofInt k_) &&& 31)).toNat)))) .z) qe (by kernel_rfl) ?_
 refine aa <| aL ?_
 obtain rfl := Option.some.inj hm
 refine aM [.u32 ((tO x_ (((UInt64.ofInt k_) &&& 31).toNat)) ||| (lJ x_ (((32 : UInt64) - ((UInt64.ofInt k_) &&& 31)).toNat)))] qe (by kernel_rfl) ?_
 exact ⟨rfl, k⟩
theorem EA {F O : Nat → Prop} {w : World} (v : ae UInt32 16) (a_ : Int) (b : Int) (c : Int) (d : Int) (x_ : UInt32) (y_ : UInt32) (eM : Nat) (k : Cx F O w w [Bx 151 eM [.ar du v]]) (r : (ae UInt32 16)) (hm : wC v a_ b c d x_ y_ = some r) :
    Calls Try.prog 96 (ad [pt eM 0, I a_, I b, I c, I d, .u32 x_, .u32 y_]) w (fun e w' => e = .returned (SV.val (.eO [])) ∧ Cx F O w w' [Bx 151 eM [.ar du r]]) := by
 unfold wC at hm
 refine calls [pt eM 0, I a_, I b, I c, I d, .u32 x_, .u32 y_] Try.func96 rfl (of_decide_eq_true (by kernel_rfl)) ?_
 refine ab ?_
 have k_ := k.drew 1
 refine qy bw (.q 0 0 (.q 1 0 (.q 2 0 (.q 3 0 (.q 4 0 (.q 5 0 (.q 6 0 (.q 7 0 (.q 8 0 (.q 9 0 (.q 10 0 (.q 11 0 (.q 12 0 (.q 13 0 (.q 14 0 (.op 15 .nil)))))))))))))))) [15] k_ (.c (.z) .l) (by kernel_rfl) (fun _ => ?_)
 obtain ⟨ej, jk, hm⟩ := ob hm
 obtain ⟨fg, jZ, hm⟩ := ob hm
 obtain ⟨ll, nt, hm⟩ := ob hm
 refine bx 15 0 [] (.n 26 (.u32 (ej + (fg + x_))) (.n 28 (.v (.pointer (nv (some ⟨eM, 0, none⟩) a_ 1))) (.aP (.k (.s .a))))) (fun x hx => qs eM 0 <| qV (hx.nE 0 rfl du v 0 (by kernel_rfl)) jk rfl (.u32 ej) rfl <| qs eM 0 <| qV (hx.nE 0 rfl du v 0 (by kernel_rfl)) jZ rfl (.u32 fg) rfl <| qs eM 0 <| qI eM 0 nt <| qe) (by kernel_rfl) (fun _ => ?_)
 refine bZ (by kernel_rfl) rfl ?_
 obtain ⟨v1, z8, hm⟩ := nm hm
 refine kW (E := du) (kk := 0) [] 0 (.u32 (ej + (fg + x_))) [.u32 (ej + (fg + x_))] z8 nt (Pt.xo (Pt.at eM 0) a_ 1) k_ rfl .h rfl (by kernel_rfl) (by kernel_rfl) ?_
 intro w_ da
 refine ⟨(da.ck .z), fun _ => ?_⟩
 refine ct <| aa <| ab ?_
 have dF := da.drew 1
 refine qy bw (.q 0 1 (.q 1 1 (.q 2 1 (.q 3 1 (.q 4 1 (.q 5 1 (.q 6 0 (.q 7 1 (.q 8 1 (.q 9 1 (.q 10 1 (.q 11 0 (.q 12 0 (.q 14 1 (.op 13 (.q 15 1 (.op 16 .nil))))))))))))))))) [13, 16] dF (.c (.k .e) (.c (.z) .l)) (by kernel_rfl) (fun _ => ?_)
 obtain ⟨ln, oX, hm⟩ := ob hm
 refine bx 6 1 [] (.n 29 (pt eM 0) (.n 30 (I d) (.n 34 (.v (.pointer (nv (some ⟨eM, 0, none⟩) d 1))) (.ss .a)))) (fun x hx => qs eM 0 <| qI eM 0 oX <| qe) (by kernel_rfl) (fun _ => ?_)
 refine bx 1 0 [] (.n 35 (.u32 ln) (.kk (.s .a))) (fun x hx => qC (.u32 ln) (Rd.el (k := 0) (hx.nE 0 rfl du v1 0 (by kernel_rfl)) oX (Pt.x6 (some ⟨eM, 0, none⟩) d 1) rfl) <| qe) (by kernel_rfl) (fun _ => ?_)
 obtain ⟨l6, sb, hm⟩ := ob hm
 refine bx 4 1 [] (.n 39 (.v (.pointer (nv (some ⟨eM, 0, none⟩) a_ 1))) .a) (fun x hx => qs eM 0 <| qI eM 0 sb <| qe) (by kernel_rfl) (fun _ => ?_)
 refine bx 2 0 [] (.n 41 (.u32 (ln ^^^ l6)) (.ss .a)) (fun x hx => qC (.u32 l6) (Rd.el (k := 0) (hx.nE 0 rfl du v1 0 (by kernel_rfl)) sb (Pt.x6 (some ⟨eM, 0, none⟩) a_ 1) rfl) <| qe) (by kernel_rfl) (fun _ => ?_)
 refine bx 1 1 [] (.n 43 (pt eM 0) (.k (.s .a))) (fun x hx => qs eM 0 <| qe) (by kernel_rfl) (fun _ => ?_)
 refine bZ (by kernel_rfl) rfl ?_
 obtain ⟨r_, dk, hm⟩ := ob hm
 refine aq [] 42 _ ze (by kernel_rfl) (lv (F := N0) (O := N0) _ _ (Cx.refl _) _ dk) ?_
 rintro e_ lh ⟨rfl, en⟩
 have eA := dF.call en
 refine ⟨.u32 r_, rfl, ?_⟩
 refine ⟨eA, fun _ => ?_⟩
 obtain ⟨lG, sd, hm⟩ := ob hm
 refine bx 1 1 [] (.n 44 (.v (.pointer (nv (some ⟨eM, 0, none⟩) d 1))) (.k (.lj .a))) (fun x hx => qI eM 0 sd <| qe) (by kernel_rfl) (fun _ => ?_)
 refine bZ (by kernel_rfl) rfl ?_
 obtain ⟨v2, ML, hm⟩ := nm hm
 refine kW (E := du) (kk := 0) [] 0 (.u32 r_) [.u32 r_] ML sd (Pt.xo (Pt.at eM 0) d 1) eA rfl .h rfl (by kernel_rfl) (by kernel_rfl) ?_
 intro l4 fJ
 refine ⟨(fJ.ck .z), fun _ => ?_⟩
 refine ct <| aa <| ab ?_
 have gi := fJ.drew 1
 refine qy bw (.q 0 0 (.q 1 0 (.q 2 0 (.q 3 0 (.q 4 0 (.q 5 0 (.q 6 0 (.q 7 0 (.q 8 0 (.q 9 0 (.q 10 0 (.q 11 0 (.q 12 0 (.op 13 .nil)))))))))))))) [13] gi (.c (.z) .l) (by kernel_rfl) (fun _ => ?_)
 obtain ⟨oH, Bq, hm⟩ := ob hm
 obtain ⟨ig, yW, hm⟩ := ob hm
 obtain ⟨kY, tC, hm⟩ := ob hm
 refine bx 13 0 [] (.n 55 (.u32 (oH + ig)) (.n 57 (.v (.pointer (nv (some ⟨eM, 0, none⟩) c 1))) (.ss .a))) (fun x hx => qs eM 0 <| qV (hx.nE 0 rfl du v2 0 (by kernel_rfl)) Bq rfl (.u32 oH) rfl <| qs eM 0 <| qV (hx.nE 0 rfl du v2 0 (by kernel_rfl)) yW rfl (.u32 ig) rfl <| qs eM 0 <| qI eM 0 tC <| qe) (by kernel_rfl) (fun _ => ?_)
 refine bZ (by kernel_rfl) rfl ?_
 obtain ⟨v3, Ex, hm⟩ := nm hm
 refine kW (E := du) (kk := 0) [] 0 (.u32 (oH + ig)) [.u32 (oH + ig)] Ex tC (Pt.xo (Pt.at eM 0) c 1) gi rfl .h rfl (by kernel_rfl) (by kernel_rfl) ?_
 intro qf fY
 refine ⟨(fY.ck .z), fun _ => ?_⟩
 refine ct <| aa <| ab ?_
 have fZ := fY.drew 1
 refine qy bw (.q 0 1 (.q 1 1 (.q 2 1 (.q 3 1 (.q 4 1 (.q 5 1 (.q 6 0 (.q 7 1 (.q 8 1 (.q 9 1 (.q 10 1 (.q 11 0 (.q 12 0 (.q 14 1 (.op 13 (.q 15 1 (.op 16 .nil))))))))))))))))) [13, 16] fZ (.c (.k .e) (.c (.z) .l)) (by kernel_rfl) (fun _ => ?_)
 obtain ⟨ek, wQ, hm⟩ := ob hm
 refine bx 6 1 [] (.n 58 (pt eM 0) (.n 59 (I b) (.n 63 (.v (.pointer (nv (some ⟨eM, 0, none⟩) b 1))) (.ss .a)))) (fun x hx => qs eM 0 <| qI eM 0 wQ <| qe) (by kernel_rfl) (fun _ => ?_)
 refine bx 1 0 [] (.n 64 (.u32 ek) (.kk (.s .a))) (fun x hx => qC (.u32 ek) (Rd.el (k := 0) (hx.nE 0 rfl du v3 0 (by kernel_rfl)) wQ (Pt.x6 (some ⟨eM, 0, none⟩) b 1) rfl) <| qe) (by kernel_rfl) (fun _ => ?_)
 obtain ⟨qQ, yr, hm⟩ := ob hm
 refine bx 4 1 [] (.n 68 (.v (.pointer (nv (some ⟨eM, 0, none⟩) c 1))) .a) (fun x hx => qs eM 0 <| qI eM 0 yr <| qe) (by kernel_rfl) (fun _ => ?_)
 refine bx 2 0 [] (.n 70 (.u32 (ek ^^^ qQ)) (.ss .a)) (fun x hx => qC (.u32 qQ) (Rd.el (k := 0) (hx.nE 0 rfl du v3 0 (by kernel_rfl)) yr (Pt.x6 (some ⟨eM, 0, none⟩) c 1) rfl) <| qe) (by kernel_rfl) (fun _ => ?_)
 refine bx 1 1 [] (.n 72 (pt eM 0) (.k (.s .a))) (fun x hx => qs eM 0 <| qe) (by kernel_rfl) (fun _ => ?_)
 refine bZ (by kernel_rfl) rfl ?_
 have gY := fZ.ck (.k .e)
 obtain ⟨ah, dt, hm⟩ := ob hm
 refine aq [] 71 _ ze (by kernel_rfl) (lv (F := N0) (O := N0) _ _ (Cx.refl _) _ dt) ?_
 rintro e_ p7 ⟨rfl, dK⟩
 have c_ := gY.call dK
 refine ⟨.u32 ah, rfl, ?_⟩
 refine ⟨c_, fun _ => ?_⟩
 obtain ⟨rQ, yt, hm⟩ := ob hm
 refine bx 1 1 [] (.n 73 (.v (.pointer (nv (some ⟨eM, 0, none⟩) b 1))) (.k (.lj .a))) (fun x hx => qI eM 0 yt <| qe) (by kernel_rfl) (fun _ => ?_)
 refine bZ (by kernel_rfl) rfl ?_
 obtain ⟨v4, MM, hm⟩ := nm hm
 refine kW (E := du) (kk := 0) [] 0 (.u32 ah) [.u32 ah] MM yt (Pt.xo (Pt.at eM 0) b 1) c_ rfl .h rfl (by kernel_rfl) (by kernel_rfl) ?_
 intro sV ez
 refine ⟨(ez.ck .z), fun _ => ?_⟩
 refine ct <| aa <| ab ?_
 have dH := ez.drew 1
 refine qy bw (.q 0 0 (.q 1 0 (.q 2 0 (.q 3 0 (.q 4 0 (.q 5 0 (.q 6 0 (.q 7 0 (.q 8 0 (.q 9 0 (.q 10 0 (.q 11 0 (.q 12 0 (.q 13 0 (.q 14 0 (.op 15 .nil)))))))))))))))) [15] dH (.c (.z) .l) (by kernel_rfl) (fun _ => ?_)
 obtain ⟨tg, yu, hm⟩ := ob hm
 obtain ⟨qj, yv, hm⟩ := ob hm
 obtain ⟨rR, z_, hm⟩ := ob hm
 refine bx 15 0 [] (.n 86 (.u32 (tg + (qj + y_))) (.n 88 (.v (.pointer (nv (some ⟨eM, 0, none⟩) a_ 1))) (.ss (.aP (.k .z))))) (fun x hx => qs eM 0 <| qV (hx.nE 0 rfl du v4 0 (by kernel_rfl)) yu rfl (.u32 tg) rfl <| qs eM 0 <| qV (hx.nE 0 rfl du v4 0 (by kernel_rfl)) yv rfl (.u32 qj) rfl <| qs eM 0 <| qI eM 0 z_ <| qe) (by kernel_rfl) (fun _ => ?_)
 refine bZ (by kernel_rfl) rfl ?_
 obtain ⟨v5, Ey, hm⟩ := nm hm
 refine kW (E := du) (kk := 0) [] 0 (.u32 (tg + (qj + y_))) [.u32 (tg + (qj + y_))] Ey z_ (Pt.xo (Pt.at eM 0) a_ 1) dH rfl .h rfl (by kernel_rfl) (by kernel_rfl) ?_
 intro wi eX
 refine ⟨(eX.ck .z), fun _ => ?_⟩
 refine ct <| aa <| ab ?_
 have iu := eX.drew 1
 refine qy bw (.q 0 1 (.q 1 1 (.q 2 1 (.q 3 1 (.q 4 1 (.q 5 1 (.q 6 0 (.q 7 1 (.q 8 1 (.q 9 1 (.q 10 1 (.q 11 0 (.q 12 0 (.q 14 1 (.op 13 (.q 15 1 (.op 16 .nil))))))))))))))))) [13, 16] iu (.c (.k .e) (.c (.z) .l)) (by kernel_rfl) (fun _ => ?_)
 obtain ⟨mY, Aa, hm⟩ := ob hm
 refine bx 6 1 [] (.n 89 (pt eM 0) (.n 90 (I d) (.n 94 (.v (.pointer (nv (some ⟨eM, 0, none⟩) d 1))) (.ss .a)))) (fun x hx => qs eM 0 <| qI eM 0 Aa <| qe) (by kernel_rfl) (fun _ => ?_)
 refine bx 1 0 [] (.n 95 (.u32 mY) (.kk (.s .a))) (fun x hx => qC (.u32 mY) (Rd.el (k := 0) (hx.nE 0 rfl du v5 0 (by kernel_rfl)) Aa (Pt.x6 (some ⟨eM, 0, none⟩) d 1) rfl) <| qe) (by kernel_rfl) (fun _ => ?_)
 obtain ⟨lA, Co, hm⟩ := ob hm
 refine bx 4 1 [] (.n 99 (.v (.pointer (nv (some ⟨eM, 0, none⟩) a_ 1))) (.aP (.s .a))) (fun x hx => qs eM 0 <| qI eM 0 Co <| qe) (by kernel_rfl) (fun _ => ?_)
 refine bx 2 0 [] (.n 101 (.u32 (mY ^^^ lA)) (.ss .a)) (fun x hx => qC (.u32 lA) (Rd.el (k := 0) (hx.nE 0 rfl du v5 0 (by kernel_rfl)) Co (Pt.x6 (some ⟨eM, 0, none⟩) a_ 1) rfl) <| qe) (by kernel_rfl) (fun _ => ?_)
 refine bx 1 1 [] (.n 103 (pt eM 0) (.k (.s .a))) (fun x hx => qs eM 0 <| qe) (by kernel_rfl) (fun _ => ?_)
 refine bZ (by kernel_rfl) rfl ?_
 obtain ⟨bh, gX, hm⟩ := ob hm
 refine aq [] 102 _ ze (by kernel_rfl) (lv (F := N0) (O := N0) _ _ (Cx.refl _) _ gX) ?_
 rintro e_ vO ⟨rfl, fX⟩
 have jY := iu.call fX
 refine ⟨.u32 bh, rfl, ?_⟩
 refine ⟨jY, fun _ => ?_⟩
 obtain ⟨mZ, Cp, hm⟩ := ob hm
 refine bx 1 1 [] (.n 104 (.v (.pointer (nv (some ⟨eM, 0, none⟩) d 1))) (.k (.lj .a))) (fun x hx => qI eM 0 Cp <| qe) (by kernel_rfl) (fun _ => ?_)
 refine bZ (by kernel_rfl) rfl ?_
 have iK := jY.ck (.k .e)
 obtain ⟨v6, MN, hm⟩ := nm hm
 refine kW (E := du) (kk := 0) [] 0 (.u32 bh) [.u32 bh] MN Cp (Pt.xo (Pt.at eM 0) d 1) iK rfl .h rfl (by kernel_rfl) (by kernel_rfl) ?_
 intro Av kt
 refine ⟨(kt.ck .z), fun _ => ?_⟩
 refine ct <| aa <| ab ?_
 have kg := kt.drew 1
 refine qy bw (.q 0 0 (.q 1 0 (.q 2 0 (.q 3 0 (.q 4 0 (.q 5 0 (.q 6 0 (.q 7 0 (.q 8 0 (.q 9 0 (.q 10 0 (.q 11 0 (.q 12 0 (.op 13 .nil)))))))))))))) [13] kg (.c (.z) .l) (by kernel_rfl) (fun _ => ?_)
 obtain ⟨th, Cq, hm⟩ := ob hm
 obtain ⟨vG, Cr, hm⟩ := ob hm
 obtain ⟨AE, Ab, hm⟩ := ob hm
 refine bx 13 0 [] (.n 115 (.u32 (th + vG)) (.n 117 (.v (.pointer (nv (some ⟨eM, 0, none⟩) c 1))) (.ss (.ua .z)))) (fun x hx => qs eM 0 <| qV (hx.nE 0 rfl du v6 0 (by kernel_rfl)) Cq rfl (.u32 th) rfl <| qs eM 0 <| qV (hx.nE 0 rfl du v6 0 (by kernel_rfl)) Cr rfl (.u32 vG) rfl <| qs eM 0 <| qI eM 0 Ab <| qe) (by kernel_rfl) (fun _ => ?_)
 refine bZ (by kernel_rfl) rfl ?_
 obtain ⟨v7, MO, hm⟩ := nm hm
 refine kW (E := du) (kk := 0) [] 0 (.u32 (th + vG)) [.u32 (th + vG)] MO Ab (Pt.xo (Pt.at eM 0) c 1) kg rfl .h rfl (by kernel_rfl) (by kernel_rfl) ?_
 intro De lW
 refine ⟨(lW.ck .z), fun _ => ?_⟩
 refine ct <| aa ?_
 have mh := lW.drew 1
 refine qy bw (.q 0 1 (.q 1 1 (.q 2 1 (.q 3 1 (.q 4 1 (.q 5 1 (.q 6 0 (.q 7 1 (.q 8 1 (.q 9 1 (.q 10 1 (.q 11 0 (.q 12 0 (.q 14 1 (.op 13 (.q 15 1 (.op 16 .nil))))))))))))))))) [13, 16] mh (.c (.k .e) (.c (.z) .l)) (by kernel_rfl) (fun _ => ?_)
 obtain ⟨B3, Ac, hm⟩ := ob hm
 refine bx 6 1 [] (.n 118 (pt eM 0) (.n 119 (I b) (.n 123 (.v (.pointer (nv (some ⟨eM, 0, none⟩) b 1))) (.ss (.k (.s .a)))))) (fun x hx => qs eM 0 <| qI eM 0 Ac <| qe) (by kernel_rfl) (fun _ => ?_)
 refine bx 1 0 [] (.n 124 (.u32 B3) (.kk (.s .a))) (fun x hx => qC (.u32 B3) (Rd.el (k := 0) (hx.nE 0 rfl du v7 0 (by kernel_rfl)) Ac (Pt.x6 (some ⟨eM, 0, none⟩) b 1) rfl) <| qe) (by kernel_rfl) (fun _ => ?_)
 obtain ⟨ti, Cs, hm⟩ := ob hm
 refine bx 4 1 [] (.n 128 (.v (.pointer (nv (some ⟨eM, 0, none⟩) c 1))) (.ua .z)) (fun x hx => qs eM 0 <| qI eM 0 Cs <| qe) (by kernel_rfl) (fun _ => ?_)
 refine bx 2 0 [] (.n 130 (.u32 (B3 ^^^ ti)) (.ss .a)) (fun x hx => qC (.u32 ti) (Rd.el (k := 0) (hx.nE 0 rfl du v7 0 (by kernel_rfl)) Cs (Pt.x6 (some ⟨eM, 0, none⟩) c 1) rfl) <| qe) (by kernel_rfl) (fun _ => ?_)
 refine bx 1 1 [] (.n 132 (pt eM 0) (.k (.s .a))) (fun x hx => qs eM 0 <| qe) (by kernel_rfl) (fun _ => ?_)
 refine bZ (by kernel_rfl) rfl ?_
 obtain ⟨cD, oV, hm⟩ := ob hm
 refine aq [] 131 _ ze (by kernel_rfl) (lv (F := N0) (O := N0) _ _ (Cx.refl _) _ oV) ?_
 rintro e_ z6 ⟨rfl, mo⟩
 have lX := mh.call mo
 refine ⟨.u32 cD, rfl, ?_⟩
 refine ⟨lX, fun _ => ?_⟩
 obtain ⟨vH, Ct, hm⟩ := ob hm
 refine bx 1 1 [] (.n 133 (.v (.pointer (nv (some ⟨eM, 0, none⟩) b 1))) (.k .z)) (fun x hx => qI eM 0 Ct <| qe) (by kernel_rfl) (fun _ => ?_)
 refine bZ (by kernel_rfl) rfl ?_
 obtain ⟨v8, MP, hm⟩ := nm hm
 refine kW (E := du) (kk := 0) [] 0 (.u32 cD) [.u32 cD] MP Ct (Pt.xo (Pt.at eM 0) b 1) lX rfl .h rfl (by kernel_rfl) (by kernel_rfl) ?_
 intro Ch qZ
 refine ⟨(qZ.ck .z), fun _ => ?_⟩
 refine ct ?_
 obtain rfl := Option.some.inj hm
 refine pJ [] qe (by kernel_rfl) ?_
 exact ⟨rfl, qZ⟩
theorem Cw {F O : Nat → Prop} {w : World} (v : ae UInt32 16) (m_ : ae UInt32 16) (r_ : Int) (eM : Nat) (AL : Nat) (k : Cx F O w w [Bx 151 eM [.ar du v], Bx 151 AL [.ar du m_]]) (r : (ae UInt32 16 × ae UInt32 16)) (hm : tm v m_ r_ = some r) :
    Calls Try.prog 90 (ad [pt eM 0, pt AL 0, I r_]) w (fun e w' => e = .returned (SV.val (.eO [])) ∧ Cx F O w w' [Bx 151 eM [.ar du r.1], Bx 151 AL [.ar du r.2]]) := by
 unfold tm at hm
 refine calls [pt eM 0, pt AL 0, I r_] Try.func90 rfl (of_decide_eq_true (by kernel_rfl)) ?_
 refine ab <| ao <| bn 1 [] (.n 9 (I r_) (.kk .z)) qe (by kernel_rfl) ?_
 refine ag ?_
 obtain ⟨ah, dt, hm⟩ := ob hm
 refine aq [] 10 _ FG (by kernel_rfl) (xz (F := N0) (O := N0) _ (Cx.refl _) _ dt) ?_
 rintro e_ w_ ⟨rfl, k_⟩
 have da := k.call k_
 refine ⟨.agg [.ar eI ah], rfl, ?_⟩
 refine ag <| bY [] 6 [.ar eI (ae.rep 16 (0 : Int))] (by kernel_rfl) da ?_
 intro g lh dF
 refine ag <| ey [] 2 (.agg [.ar eI ah]) [.ar eI ah] (Pt.at g 0) dF rfl .all (by kernel_rfl) (by kernel_rfl) ?_
 intro l4 en
 refine af <| aa <| ab <| ao <| ag ?_
 obtain ⟨bh, gX, hm⟩ := ob hm
 refine aq [] 11 _ Ks (by kernel_rfl) (AM (F := N0) (O := N0)  (Cx.refl _) _ gX) ?_
 rintro e_ qf ⟨rfl, eA⟩
 have fJ := en.call eA
 refine ⟨.agg [.ar (eV eI 4) bh], rfl, ?_⟩
 refine bn 1 [] (.n 12 (I 0) (.kk (.ss .a))) qe (by kernel_rfl) ?_
 refine af <| aa <| cu <| pc (qk m_ ah bh) (fun s L wr => ∃ (v1 : ae UInt32 16) (aC : Int), (v1, aC) = s ∧ L = [(0, pt eM 0), (1, pt AL 0), (6, pt g 0), (11, .agg [.ar (eV eI 4) bh]), (12, I aC)] ∧ Cx F O w wr [Bx 151 eM [.ar du v1], Bx 151 AL [.ar du m_], Bx 163 g [.ar eI ah]]) (v, (0 : Int)) r hm ⟨v, (0 : Int), rfl, rfl, fJ⟩ (by kernel_rfl) ?_
 intro yU L_ p7 y0 jd dd nF
 obtain ⟨v1, aC, rfl, rfl, gi⟩ := jd
 have hm := dd; simp only [qk] at hm
 clear dd
 refine ab <| bA [] (.n 13 (.b (decide (aC < 8))) .a) qe (by kernel_rfl) ?_
 refine aa <| ab <| bb (aC < 8) (by kernel_rfl) (fun hc => ?_) (fun hc => ?_)
 · rw [if_pos hc] at hm
   refine aS <| aa <| ab <| cu <| ab <| ao ?_
   obtain ⟨ej, jk, hm⟩ := ob hm
   refine bn 2 [] (.n 14 (I aC) (.n 15 (.agg [.ar eI ej]) (.s .a))) (qo (.agg [.ar eI ej]) <| qp ((0 ≤ aC ∧ aC < ((8 : Nat) : Int)) ∧ ((SV.cl [.ar (eV eI 4) bh]).drop (Int.toNat aC * 4)).take 4 = SV.cl [.ar eI ej]) (Hp (E := eI) jk) <| qe) (by kernel_rfl) ?_
   refine ag <| bY [] 8 [.ar eI (ae.rep 4 (0 : Int))] (by kernel_rfl) gi ?_
   intro g1 sV fY
   refine bn 1 [] (.n 7 (I aC) (.k (.s .a))) qe (by kernel_rfl) ?_
   refine ag <| ey [] 3 (.agg [.ar eI ej]) [.ar eI ej] (Pt.at g1 0) fY rfl .all (by kernel_rfl) (by kernel_rfl) ?_
   intro wi fZ
   refine af <| aa ?_
   have gY := fZ.drew 1
   refine qy bw (.q 0 0 (.q 1 0 (.q 2 0 (.q 3 0 (.q 4 0 (.q 5 0 (.q 6 0 (.q 7 0 (.q 8 0 (.q 9 1 (.q 10 1 (.q 11 1 (.q 12 1 (.q 13 1 (.q 14 1 (.q 15 0 (.q 16 0 (.q 17 1 (.q 18 1 (.q 19 1 (.q 20 1 (.q 21 1 (.q 22 1 (.q 23 1 (.q 24 0 (.q 25 0 (.op 26 .nil))))))))))))))))))))))))))) [26] gY (.c (.s (.kk (.k .e))) .l) (by kernel_rfl) (fun _ => ?_)
   obtain ⟨fg, jZ, hm⟩ := ob hm
   obtain ⟨ll, nt, hm⟩ := ob hm
   obtain ⟨ln, oX, hm⟩ := ob hm
   obtain ⟨l6, sb, hm⟩ := ob hm
   refine bx 9 0 [] (.n 16 (pt eM 0) (.n 18 (I fg) (.n 20 (I ll) (.n 22 (I ln) (.n 24 (I l6) (.k (.ss .a))))))) (fun x hx => qV (hx.nE 3 rfl eI ej 0 (by kernel_rfl)) jZ rfl (I fg) rfl <| qV (hx.nE 3 rfl eI ej 0 (by kernel_rfl)) nt rfl (I ll) rfl <| qV (hx.nE 3 rfl eI ej 0 (by kernel_rfl)) oX rfl (I ln) rfl <| qV (hx.nE 3 rfl eI ej 0 (by kernel_rfl)) sb rfl (I l6) rfl <| qe) (by kernel_rfl) (fun _ => ?_)
   obtain ⟨lG, sd, hm⟩ := ob hm
   refine bx 6 1 [] (.n 29 (I lG) (.n 30 (pt AL 0) .a)) (fun x hx => qV (hx.nE 1 rfl eI ah 0 (by kernel_rfl)) sd rfl (I lG) rfl <| qs AL 0 <| qe) (by kernel_rfl) (fun _ => ?_)
   obtain ⟨oH, Bq, hm⟩ := ob hm
   refine bx 2 0 [] (.n 32 (.u32 oH) (.ss .a)) (fun x hx => qV (hx.nE 1 rfl du m_ 0 (by kernel_rfl)) Bq rfl (.u32 oH) rfl <| qe) (by kernel_rfl) (fun _ => ?_)
   obtain ⟨ig, yW, hm⟩ := ob hm
   refine bx 7 1 [] (.n 38 (I ig) (.n 39 (pt AL 0) (.aP (.kk (.s .a))))) (fun x hx => qV (hx.nE 1 rfl eI ah 0 (by kernel_rfl)) yW rfl (I ig) rfl <| qs AL 0 <| qe) (by kernel_rfl) (fun _ => ?_)
   obtain ⟨kY, tC, hm⟩ := ob hm
   refine bx 2 0 [] (.n 41 (.u32 kY) (.ss .a)) (fun x hx => qV (hx.nE 1 rfl du m_ 0 (by kernel_rfl)) tC rfl (.u32 kY) rfl <| qe) (by kernel_rfl) (fun _ => ?_)
   refine bZ (by kernel_rfl) rfl ?_
   obtain ⟨cD, oV, hm⟩ := ob hm
   obtain ⟨F1, O1, lO, hO, rO, hF, hb⟩ := gY.go (.i (.r (.r (.r .e))))
   refine aq [] 42 _ Kt (by kernel_rfl) (EA (F := F1) (O := O1) _ _ _ _ _ _ _ _ lO _ oV) ?_
   rintro e_ vO ⟨rfl, dK⟩
   have c_ := hb vO _ _ dK (.c .n)
   refine ⟨.eO [], rfl, ?_⟩
   refine ⟨(c_.ck (.s (.kk (.k .e)))), fun _ => ?_⟩
   refine ct <| hH <| aa <| bA [] (.n 12 (I (aB (aC + 1))) (.fQ (.fQ (.aP .z)))) qe (by kernel_rfl) ?_
   have ez := c_.ck (.kk (.k .z))
   exact jR (cD, aB (aC + 1)) (Option.some.inj hm).symm ⟨cD, aB (aC + 1), rfl, rfl, ez⟩ (by kernel_rfl)
 rw [if_neg hc] at hm
 refine iq (fe (fe (kG ?_)))
 have hm := d_ hm nF
 obtain rfl := Option.some.inj hm
 refine pJ [] qe (by kernel_rfl) ?_
 have dH := gi.ck (.kk .z)
 exact ⟨rfl, dH⟩
theorem EB {F O : Nat → Prop} {w : World} (h : ae UInt32 8) (v : ae UInt32 16) (k : Cx F O w w []) (r : (ae UInt32 8)) (hm : wD h v = some r) :
    Calls Try.prog 91 (ad [.agg [.ar du h], .agg [.ar du v]]) w (fun e w' => e = .returned (SV.val (.agg [.ar du r])) ∧ Cx F O w w' []) := by
 unfold wD at hm
 refine calls [.agg [.ar du h], .agg [.ar du v]] Try.func91 rfl (of_decide_eq_true (by kernel_rfl)) ?_
 refine ab <| ao <| ag <| gj [] 2 (.agg [.ar du h]) [.ar du h] (by kernel_rfl) k ?_
 intro g w_ k_
 refine ag <| gj [] 3 (.agg [.ar du v]) [.ar du v] (by kernel_rfl) k_ ?_
 intro g1 lh da
 refine ag <| bY [] 4 [.ar du (ae.rep 8 (0 : UInt32))] (by kernel_rfl) da ?_
 intro g2 l4 dF
 refine af <| aa <| ab <| ab <| bA [] (.n 6 (I 0) (.ua .z)) qe (by kernel_rfl) ?_
 refine aa <| cu <| pc (so v) (fun s L wr => ∃ (h1 : ae UInt32 8) (aC : Int), (h1, aC) = s ∧ L = [(2, pt g 0), (3, pt g1 0), (4, pt g2 0), (6, I aC)] ∧ Cx F O w wr [Bx 133 g [.ar du h1], Bx 151 g1 [.ar du v], Bx 133 g2 [.ar du (ae.rep 8 (0 : UInt32))]]) (h, (0 : Int)) r hm ⟨h, (0 : Int), rfl, rfl, dF⟩ (by kernel_rfl) ?_
 intro yU L_ qf y0 jd dd nF
 obtain ⟨h1, aC, rfl, rfl, en⟩ := jd
 have hm := dd; simp only [so] at hm
 clear dd
 refine ab <| bA [] (.n 7 (.b (decide (aC < 8))) .a) qe (by kernel_rfl) ?_
 refine aa <| ab <| bb (aC < 8) (by kernel_rfl) (fun hc => ?_) (fun hc => ?_)
 · rw [if_pos hc] at hm
   refine aS <| aa <| ab <| cu <| ab <| bA [] (.n 5 (I aC) (.s .a)) qe (by kernel_rfl) ?_
   refine aa ?_
   have eA := en.drew 1
   refine qy bw (.q 0 0 (.q 1 0 (.q 2 0 (.q 3 0 (.q 4 0 (.q 5 0 (.q 6 0 (.q 7 0 (.q 8 0 (.q 9 0 (.q 10 0 (.q 11 0 (.q 12 0 (.op 13 .nil)))))))))))))) [13] eA (.c (.s (.kk .e)) .l) (by kernel_rfl) (fun _ => ?_)
   obtain ⟨eL, jC, hm⟩ := ob hm
   obtain ⟨ej, jk, hm⟩ := ob hm
   obtain ⟨fg, jZ, hm⟩ := ob hm
   obtain ⟨ll, nt, hm⟩ := ob hm
   refine bx 13 0 [] (.n 20 (.u32 (eL ^^^ (ej ^^^ fg))) (.n 21 (.v (.pointer (nv (some ⟨g, 0, none⟩) aC 1))) (.s .a))) (fun x hx => qV (hx.nE 0 rfl du h1 0 (by kernel_rfl)) jC rfl (.u32 eL) rfl <| qV (hx.nE 1 rfl du v 0 (by kernel_rfl)) jk rfl (.u32 ej) rfl <| qV (hx.nE 1 rfl du v 0 (by kernel_rfl)) jZ rfl (.u32 fg) rfl <| qI g 0 nt <| qe) (by kernel_rfl) (fun _ => ?_)
   refine bZ (by kernel_rfl) rfl ?_
   obtain ⟨v1, z8, hm⟩ := nm hm
   refine kW (E := du) (kk := 0) [] 0 (.u32 (eL ^^^ (ej ^^^ fg))) [.u32 (eL ^^^ (ej ^^^ fg))] z8 nt (Pt.xo (Pt.at g 0) aC 1) eA rfl .h rfl (by kernel_rfl) (by kernel_rfl) ?_
   intro p7 fJ
   refine ⟨(fJ.ck (.s (.kk .e))), fun _ => ?_⟩
   refine ct <| hH <| aa <| bA [] (.n 6 (I (aB (aC + 1))) (.ss (.ua .z))) qe (by kernel_rfl) ?_
   exact jR (v1, aB (aC + 1)) (Option.some.inj hm).symm ⟨v1, aB (aC + 1), rfl, rfl, fJ⟩ (by kernel_rfl)
 rw [if_neg hc] at hm
 refine iq (fe (fe (kG ?_)))
 have hm := d_ hm nF
 refine aa <| ab <| ao <| bn 1 [] (.n 23 (.agg [.ar du h1]) (.lj (.k .z))) (qT en 0 rfl 0 8 [.ar du h1] (by kernel_rfl) (by decide) <| qe) (by kernel_rfl) ?_
 refine ag <| ey [] 2 (.agg [.ar du h1]) [.ar du h1] (Pt.at g2 0) en rfl .all (by kernel_rfl) (by kernel_rfl) ?_
 intro sV gi
 have fY := gi.ck (.ss (.k .e))
 refine af <| aa <| aL ?_
 obtain rfl := Option.some.inj hm
 refine aM [.agg [.ar du h1]] (qo (.agg [.ar du h1]) <| qc (fun w => Rd w (some ⟨g2, 0, none⟩) (SV.cl [.ar du h1])) (fY.uq 0 rfl) <| qe) (by kernel_rfl) ?_
 have fZ := fY.ck .z
 exact ⟨rfl, fZ⟩
theorem HW {F O : Nat → Prop} {w : World} (h : ae UInt32 8) (m_ : ae UInt32 16) (count : UInt64) (last : Bool) (node : Bool) (k : Cx F O w w []) (r : (ae UInt32 8)) (hm : zO h m_ count last node = some r) :
    Calls Try.prog 86 (ad [.agg [.ar du h], .agg [.ar du m_], .u64 count, .b last, .b node]) w (fun e w' => e = .returned (SV.val (.agg [.ar du r])) ∧ Cx F O w w' []) := by
 unfold zO at hm
 refine calls [.agg [.ar du h], .agg [.ar du m_], .u64 count, .b last, .b node] Try.func86 rfl (of_decide_eq_true (by kernel_rfl)) ?_
 refine ab <| ao <| ag <| gj [] 5 (.agg [.ar du h]) [.ar du h] (by kernel_rfl) k ?_
 intro g w_ k_
 refine ag <| gj [] 6 (.agg [.ar du m_]) [.ar du m_] (by kernel_rfl) k_ ?_
 intro g1 lh da
 refine ag <| bY [] 10 [.ar du (ae.rep 8 (0 : UInt32))] (by kernel_rfl) da ?_
 intro g2 l4 dF
 refine af <| aa <| ab <| ao <| bn 4 [] (.n 13 (.agg [.ar du h]) (.n 14 (.u64 count) (.n 15 (.b last) (.n 16 (.b node) (.ua .z))))) (qT dF 0 rfl 0 8 [.ar du h] (by kernel_rfl) (by decide) <| qe) (by kernel_rfl) ?_
 refine ag ?_
 obtain ⟨r_, dk, hm⟩ := ob hm
 refine aq [] 17 _ Km (by kernel_rfl) (Cv (F := N0) (O := N0) _ _ _ _ (Cx.refl _) _ dk) ?_
 rintro e_ qf ⟨rfl, en⟩
 have eA := dF.call en
 refine ⟨.agg [.ar du r_], rfl, ?_⟩
 refine ag ?_
 have fJ := eA.ck (.kk (.k .e))
 refine bY [] 11 [.ar du (ae.rep 16 (0 : UInt32))] (by kernel_rfl) fJ ?_
 intro g3 p7 gi
 refine ag <| ey [] 3 (.agg [.ar du r_]) [.ar du r_] (Pt.at g3 0) gi rfl .all (by kernel_rfl) (by kernel_rfl) ?_
 intro sV fY
 refine af <| aa <| ab <| ab <| bA [] (.n 18 (I 0) (.k (.fQ (.s .a)))) qe (by kernel_rfl) ?_
 refine aa <| cu <| pc (ux h) (fun s L wr => ∃ (xp : ae UInt32 16) (v : ae UInt32 16) (aC : Int), (xp, v, aC) = s ∧ L = [(5, pt g 0), (6, pt g1 0), (10, pt g2 0), (11, pt g3 0), (18, I aC)] ∧ Cx F O w wr [Bx 133 g [.ar du h], Bx 151 g1 [.ar du xp], Bx 133 g2 [.ar du (ae.rep 8 (0 : UInt32))], Bx 151 g3 [.ar du v]]) (m_, r_, (0 : Int)) r hm ⟨m_, r_, (0 : Int), rfl, rfl, fY⟩ (by kernel_rfl) ?_
 intro yU L_ wi y0 jd dd nF
 obtain ⟨xp, v, aC, rfl, rfl, fZ⟩ := jd
 have hm := dd; simp only [ux] at hm
 clear dd
 refine ab <| bA [] (.n 19 (.b (decide (aC < 10))) .a) qe (by kernel_rfl) ?_
 refine aa <| ab <| bb (aC < 10) (by kernel_rfl) (fun hc => ?_) (fun hc => ?_)
 · rw [if_pos hc] at hm
   refine aS <| aa <| ab <| cu <| ab <| bA [] (.n 12 (I aC) (.s .a)) qe (by kernel_rfl) ?_
   refine aa <| ao <| bn 1 [] (.n 21 (I aC) (.s .a)) qe (by kernel_rfl) ?_
   refine ag ?_
   obtain ⟨ah, dt, hm⟩ := ob hm
   have gY := (((fZ.pk (.t (.t .h))).pk (.t .h)).pk (.t (.t .h))).pk (.t (.t (.t .h)))
   obtain ⟨F1, O1, lO, hO, rO, hF, hb⟩ := gY.go (.i (.i (.r (.r .e))))
   refine aq [] 22 _ Ko (by kernel_rfl) (Cw (F := F1) (O := O1) _ _ _ _ _ lO _ dt) ?_
   rintro e_ vO ⟨rfl, dK⟩
   have c_ := hb vO _ _ dK (.c (.c .n))
   refine ⟨.eO [], rfl, ?_⟩
   refine af <| hH <| aa <| bA [] (.n 18 (I (aB (aC + 1))) (.ss (.aP .z))) qe (by kernel_rfl) ?_
   have ez := (((c_.pk .h).pk (.t (.t (.t .h)))).pk (.t (.t .h))).pk (.t (.t (.t .h)))
   exact jR (ah.2, ah.1, aB (aC + 1)) (Option.some.inj hm).symm ⟨ah.2, ah.1, aB (aC + 1), rfl, rfl, ez⟩ (by kernel_rfl)
 rw [if_neg hc] at hm
 refine iq (fe (fe (kG ?_)))
 have hm := d_ hm nF
 refine aa <| ab <| ao <| bn 2 [] (.n 24 (.agg [.ar du h]) (.n 25 (.agg [.ar du v]) (.lj (.k .z)))) (qT fZ 0 rfl 0 8 [.ar du h] (by kernel_rfl) (by decide) <| qT fZ 3 rfl 0 16 [.ar du v] (by kernel_rfl) (by decide) <| qe) (by kernel_rfl) ?_
 refine ag ?_
 obtain ⟨bh, gX, hm⟩ := ob hm
 refine aq [] 26 _ Kp (by kernel_rfl) (EB (F := N0) (O := N0) _ _ (Cx.refl _) _ gX) ?_
 rintro e_ Av ⟨rfl, dH⟩
 have eX := fZ.call dH
 refine ⟨.agg [.ar du bh], rfl, ?_⟩
 have iu := eX.ck (.ss (.k .z))
 refine ag <| ey [] 0 (.agg [.ar du bh]) [.ar du bh] (Pt.at g2 0) iu rfl .all (by kernel_rfl) (by kernel_rfl) ?_
 intro De fX
 refine af <| aa <| aL ?_
 obtain rfl := Option.some.inj hm
 refine aM [.agg [.ar du bh]] (qo (.agg [.ar du bh]) <| qc (fun w => Rd w (some ⟨g2, 0, none⟩) (SV.cl [.ar du bh])) (fX.uq 0 rfl) <| qe) (by kernel_rfl) ?_
 have jY := fX.ck .z
 exact ⟨rfl, jY⟩
theorem tT {F O : Nat → Prop} {w : World} (h : ae UInt32 8) (b : List UInt8) (oz : UInt64) (pd : UInt64) (last : Bool) (node : Bool) (l8 : Option Addr) (o6 : Nat) (mq : Nat) (qu : Ro F w l8 (e8.all b)) (qv : b.length = o6) (rC : o6 ≤ mq) (k : Cx F O w w []) (r : (ae UInt32 8)) (hm : nQ h b oz pd last node = some r) :
    Calls Try.prog 76 (ad [.agg [.ar du h], sl l8 o6 mq, .agg [.u64 oz, .u64 pd], .b last, .b node]) w (fun e w' => e = .returned (SV.val (.agg [.ar du r])) ∧ Cx F O w w' []) := by
 unfold nQ at hm
 subst qv
 refine calls [.agg [.ar du h], sl l8 b.length mq, .agg [.u64 oz, .u64 pd], .b last, .b node] Try.func76 rfl (of_decide_eq_true (by kernel_rfl)) ?_
 refine ab <| ao <| ag <| gj [] 5 (.agg [.ar du h]) [.ar du h] (by kernel_rfl) k ?_
 intro g w_ k_
 refine ag <| gj [] 7 (.agg [.u64 oz, .u64 pd]) [.u64 oz, .u64 pd] (by kernel_rfl) k_ ?_
 intro g1 lh da
 refine ag <| bY [] 10 [.ar du (ae.rep 8 (0 : UInt32))] (by kernel_rfl) da ?_
 intro g2 l4 dF
 refine af <| aa <| ab <| ao <| bn 1 [] (.n 14 (sl l8 b.length mq) (.ua (.lj .a))) qe (by kernel_rfl) ?_
 refine ag ?_
 obtain ⟨r_, dk, hm⟩ := ob hm
 refine aq [] 15 _ Ki (by kernel_rfl) (Cu (F := N0) (O := N0) _ _ _ _ (Ro.n0 (qu.cx dF)) rfl rC (Cx.refl _) _ dk) ?_
 rintro e_ qf ⟨rfl, en⟩
 have eA := dF.call en
 refine ⟨.eO [.agg [.ar du r_.1], I r_.2], rfl, ?_⟩
 refine bn 3 [] (.n 16 (.agg [.ar du r_.1]) (.n 17 (I r_.2) (.ss .a))) qe (by kernel_rfl) ?_
 refine ag ?_
 have fJ := eA.ck (.kk (.k .e))
 refine bY [] 11 [.ar du (ae.rep 16 (0 : UInt32))] (by kernel_rfl) fJ ?_
 intro g3 p7 gi
 refine ag <| ey [] 3 (.agg [.ar du r_.1]) [.ar du r_.1] (Pt.at g3 0) gi rfl .all (by kernel_rfl) (by kernel_rfl) ?_
 intro sV fY
 refine bn 1 [] (.k (.ss .a)) qe (by kernel_rfl) ?_
 refine af <| aa <| ab <| ao <| bn 6 [] (.n 18 (.agg [.ar du h]) (.n 19 (.agg [.ar du r_.1]) (.n 21 (.u64 oz) (.n 22 (.b last) (.n 23 (.b node) (.s (.k .z))))))) (qT fY 0 rfl 0 8 [.ar du h] (by kernel_rfl) (by decide) <| qT fY 3 rfl 0 16 [.ar du r_.1] (by kernel_rfl) (by decide) <| qs g1 0 <| qB fY 1 rfl 0 (.u64 oz) (by kernel_rfl) <| qe) (by kernel_rfl) ?_
 refine ag ?_
 obtain ⟨ah, dt, hm⟩ := ob hm
 refine aq [] 24 _ Kj (by kernel_rfl) (HW (F := N0) (O := N0) _ _ _ _ _ (Cx.refl _) _ dt) ?_
 rintro e_ wi ⟨rfl, fZ⟩
 have gY := fY.call fZ
 refine ⟨.agg [.ar du ah], rfl, ?_⟩
 have dK := gY.ck (.ss (.k .z))
 refine ag <| ey [] 0 (.agg [.ar du ah]) [.ar du ah] (Pt.at g2 0) dK rfl .all (by kernel_rfl) (by kernel_rfl) ?_
 intro vO c_
 refine af <| aa <| aL ?_
 obtain rfl := Option.some.inj hm
 refine aM [.agg [.ar du ah]] (qo (.agg [.ar du ah]) <| qc (fun w => Rd w (some ⟨g2, 0, none⟩) (SV.cl [.ar du ah])) (c_.uq 0 rfl) <| qe) (by kernel_rfl) ?_
 have ez := c_.ck .z
 exact ⟨rfl, ez⟩
end Go.Sx
