import Derived.Test.YtoedpdamhabkoaaGreatProg
import Derived.Test.YtoedpdamhabkoaaGreatK2
namespace Go.Sx
open Go.RowKit Go.Proofs
set_option linter.unusedVariables false
set_option linter.unusedSimpArgs false
set_option maxRecDepth 20000
theorem LA : fA Tryz.prog 5 := ⟨⟨Tryz.f5, _, Tryz.func5, rfl, by kernel_rfl⟩⟩
theorem Hs : fA Tryz.prog 6 := ⟨⟨Tryz.f6, _, Tryz.func6, rfl, by kernel_rfl⟩⟩
theorem LB : fA Tryz.prog 7 := ⟨⟨Tryz.f7, _, Tryz.func7, rfl, by kernel_rfl⟩⟩
theorem Ee : fA Tryz.prog 8 := ⟨⟨Tryz.f8, _, Tryz.func8, rfl, by kernel_rfl⟩⟩
theorem Ht : fA Tryz.prog 9 := ⟨⟨Tryz.f9, _, Tryz.func9, rfl, by kernel_rfl⟩⟩
theorem se : fA Tryz.prog 10 := ⟨⟨Tryz.f10, _, Tryz.func10, rfl, by kernel_rfl⟩⟩
theorem Jx : fA Tryz.prog 14 := ⟨⟨Tryz.f14, _, Tryz.func14, rfl, by kernel_rfl⟩⟩
theorem Jy : fA Tryz.prog 15 := ⟨⟨Tryz.f15, _, Tryz.func15, rfl, by kernel_rfl⟩⟩
theorem vz : fA Tryz.prog 16 := ⟨⟨Tryz.f16, _, Tryz.func16, rfl, by kernel_rfl⟩⟩
theorem BY : fA Tryz.prog 17 := ⟨⟨Tryz.f17, _, Tryz.func17, rfl, by kernel_rfl⟩⟩
theorem Jz : fA Tryz.prog 18 := ⟨⟨Tryz.f18, _, Tryz.func18, rfl, by kernel_rfl⟩⟩
theorem JA : fA Tryz.prog 19 := ⟨⟨Tryz.f19, _, Tryz.func19, rfl, by kernel_rfl⟩⟩
theorem E2 : fA Tryz.prog 20 := ⟨⟨Tryz.f20, _, Tryz.func20, rfl, by kernel_rfl⟩⟩
theorem E3 : fA Tryz.prog 21 := ⟨⟨Tryz.f21, _, Tryz.func21, rfl, by kernel_rfl⟩⟩
theorem BZ : fA Tryz.prog 22 := ⟨⟨Tryz.f22, _, Tryz.func22, rfl, by kernel_rfl⟩⟩
theorem E4 : fA Tryz.prog 23 := ⟨⟨Tryz.f23, _, Tryz.func23, rfl, by kernel_rfl⟩⟩
theorem JB : fA Tryz.prog 33 := ⟨⟨Tryz.f33, _, Tryz.func33, rfl, by kernel_rfl⟩⟩
theorem JC : fA Tryz.prog 34 := ⟨⟨Tryz.f34, _, Tryz.func34, rfl, by kernel_rfl⟩⟩
theorem B0 : fA Tryz.prog 35 := ⟨⟨Tryz.f35, _, Tryz.func35, rfl, by kernel_rfl⟩⟩
theorem JD : fA Tryz.prog 36 := ⟨⟨Tryz.f36, _, Tryz.func36, rfl, by kernel_rfl⟩⟩
theorem B1 : fA Tryz.prog 37 := ⟨⟨Tryz.f37, _, Tryz.func37, rfl, by kernel_rfl⟩⟩
theorem y4 : fA Tryz.prog 38 := ⟨⟨Tryz.f38, _, Tryz.func38, rfl, by kernel_rfl⟩⟩
theorem E5 : fA Tryz.prog 39 := ⟨⟨Tryz.f39, _, Tryz.func39, rfl, by kernel_rfl⟩⟩
theorem y5 : fA Tryz.prog 40 := ⟨⟨Tryz.f40, _, Tryz.func40, rfl, by kernel_rfl⟩⟩
theorem JE : fA Tryz.prog 41 := ⟨⟨Tryz.f41, _, Tryz.func41, rfl, by kernel_rfl⟩⟩
theorem E6 : fA Tryz.prog 42 := ⟨⟨Tryz.f42, _, Tryz.func42, rfl, by kernel_rfl⟩⟩
theorem JF : fA Tryz.prog 43 := ⟨⟨Tryz.f43, _, Tryz.func43, rfl, by kernel_rfl⟩⟩
theorem JG : fA Tryz.prog 44 := ⟨⟨Tryz.f44, _, Tryz.func44, rfl, by kernel_rfl⟩⟩
theorem y6 : fA Tryz.prog 61 := ⟨⟨Tryz.f61, _, Tryz.func61, rfl, by kernel_rfl⟩⟩
theorem JH : fA Tryz.prog 62 := ⟨⟨Tryz.f62, _, Tryz.func62, rfl, by kernel_rfl⟩⟩
theorem E7 : fA Tryz.prog 63 := ⟨⟨Tryz.f63, _, Tryz.func63, rfl, by kernel_rfl⟩⟩
theorem E8 : fA Tryz.prog 64 := ⟨⟨Tryz.f64, _, Tryz.func64, rfl, by kernel_rfl⟩⟩
theorem E9 : fA Tryz.prog 65 := ⟨⟨Tryz.f65, _, Tryz.func65, rfl, by kernel_rfl⟩⟩
theorem E_ : fA Tryz.prog 67 := ⟨⟨Tryz.f67, _, Tryz.func67, rfl, by kernel_rfl⟩⟩
theorem Fa : fA Tryz.prog 68 := ⟨⟨Tryz.f68, _, Tryz.func68, rfl, by kernel_rfl⟩⟩
theorem Fc : fA Tryz.prog 69 := ⟨⟨Tryz.f69, _, Tryz.func69, rfl, by kernel_rfl⟩⟩
theorem Fe : fA Tryz.prog 70 := ⟨⟨Tryz.f70, _, Tryz.func70, rfl, by kernel_rfl⟩⟩
theorem Ff : fA Tryz.prog 71 := ⟨⟨Tryz.f71, _, Tryz.func71, rfl, by kernel_rfl⟩⟩
theorem JI : fA Tryz.prog 72 := ⟨⟨Tryz.f72, _, Tryz.func72, rfl, by kernel_rfl⟩⟩
theorem Fg : fA Tryz.prog 84 := ⟨⟨Tryz.f84, _, Tryz.func84, rfl, by kernel_rfl⟩⟩
theorem vA : fA Tryz.prog 85 := ⟨⟨Tryz.f85, _, Tryz.func85, rfl, by kernel_rfl⟩⟩
theorem JJ : fA Tryz.prog 86 := ⟨⟨Tryz.f86, _, Tryz.func86, rfl, by kernel_rfl⟩⟩
theorem JK : fA Tryz.prog 87 := ⟨⟨Tryz.f87, _, Tryz.func87, rfl, by kernel_rfl⟩⟩
theorem B2 : fA Tryz.prog 89 := ⟨⟨Tryz.f89, _, Tryz.func89, rfl, by kernel_rfl⟩⟩
theorem B3 : fA Tryz.prog 91 := ⟨⟨Tryz.f91, _, Tryz.func91, rfl, by kernel_rfl⟩⟩
theorem JL : fA Tryz.prog 92 := ⟨⟨Tryz.f92, _, Tryz.func92, rfl, by kernel_rfl⟩⟩
theorem JM : fA Tryz.prog 93 := ⟨⟨Tryz.f93, _, Tryz.func93, rfl, by kernel_rfl⟩⟩
theorem Hu : fA Tryz.prog 101 := ⟨⟨Tryz.f101, _, Tryz.func101, rfl, by kernel_rfl⟩⟩
theorem Hv : fA Tryz.prog 102 := ⟨⟨Tryz.f102, _, Tryz.func102, rfl, by kernel_rfl⟩⟩
theorem Hw : fA Tryz.prog 103 := ⟨⟨Tryz.f103, _, Tryz.func103, rfl, by kernel_rfl⟩⟩
theorem Hx : fA Tryz.prog 104 := ⟨⟨Tryz.f104, _, Tryz.func104, rfl, by kernel_rfl⟩⟩
theorem xz : fA Tryz.prog 105 := ⟨⟨Tryz.f105, _, Tryz.func105, rfl, by kernel_rfl⟩⟩
theorem Hy : fA Tryz.prog 120 := ⟨⟨Tryz.f120, _, Tryz.func120, rfl, by kernel_rfl⟩⟩
theorem xA : fA Tryz.prog 121 := ⟨⟨Tryz.f121, _, Tryz.func121, rfl, by kernel_rfl⟩⟩
theorem Hz : fA Tryz.prog 131 := ⟨⟨Tryz.f131, _, Tryz.func131, rfl, by kernel_rfl⟩⟩
theorem C3 : fA Tryz.prog 132 := ⟨⟨Tryz.f132, _, Tryz.func132, rfl, by kernel_rfl⟩⟩
theorem HA : fA Tryz.prog 133 := ⟨⟨Tryz.f133, _, Tryz.func133, rfl, by kernel_rfl⟩⟩
theorem HB : fA Tryz.prog 134 := ⟨⟨Tryz.f134, _, Tryz.func134, rfl, by kernel_rfl⟩⟩
theorem C4 : fA Tryz.prog 135 := ⟨⟨Tryz.f135, _, Tryz.func135, rfl, by kernel_rfl⟩⟩
theorem HC : fA Tryz.prog 136 := ⟨⟨Tryz.f136, _, Tryz.func136, rfl, by kernel_rfl⟩⟩
theorem C5 : fA Tryz.prog 145 := ⟨⟨Tryz.f145, _, Tryz.func145, rfl, by kernel_rfl⟩⟩
theorem HD : fA Tryz.prog 146 := ⟨⟨Tryz.f146, _, Tryz.func146, rfl, by kernel_rfl⟩⟩
theorem HE : fA Tryz.prog 147 := ⟨⟨Tryz.f147, _, Tryz.func147, rfl, by kernel_rfl⟩⟩
theorem HF : fA Tryz.prog 148 := ⟨⟨Tryz.f148, _, Tryz.func148, rfl, by kernel_rfl⟩⟩
theorem C6 : fA Tryz.prog 149 := ⟨⟨Tryz.f149, _, Tryz.func149, rfl, by kernel_rfl⟩⟩
theorem C7 : fA Tryz.prog 150 := ⟨⟨Tryz.f150, _, Tryz.func150, rfl, by kernel_rfl⟩⟩
theorem C8 : fA Tryz.prog 151 := ⟨⟨Tryz.f151, _, Tryz.func151, rfl, by kernel_rfl⟩⟩
theorem HG : fA Tryz.prog 152 := ⟨⟨Tryz.f152, _, Tryz.func152, rfl, by kernel_rfl⟩⟩
theorem HH : fA Tryz.prog 153 := ⟨⟨Tryz.f153, _, Tryz.func153, rfl, by kernel_rfl⟩⟩
theorem HI : fA Tryz.prog 160 := ⟨⟨Tryz.f160, _, Tryz.func160, rfl, by kernel_rfl⟩⟩
theorem HJ : fA Tryz.prog 161 := ⟨⟨Tryz.f161, _, Tryz.func161, rfl, by kernel_rfl⟩⟩
theorem HK : fA Tryz.prog 162 := ⟨⟨Tryz.f162, _, Tryz.func162, rfl, by kernel_rfl⟩⟩
theorem HL : fA Tryz.prog 163 := ⟨⟨Tryz.f163, _, Tryz.func163, rfl, by kernel_rfl⟩⟩
theorem HM : fA Tryz.prog 164 := ⟨⟨Tryz.f164, _, Tryz.func164, rfl, by kernel_rfl⟩⟩
theorem HN : fA Tryz.prog 165 := ⟨⟨Tryz.f165, _, Tryz.func165, rfl, by kernel_rfl⟩⟩
theorem C9 : fA Tryz.prog 175 := ⟨⟨Tryz.f175, _, Tryz.func175, rfl, by kernel_rfl⟩⟩
theorem HO : fA Tryz.prog 176 := ⟨⟨Tryz.f176, _, Tryz.func176, rfl, by kernel_rfl⟩⟩
theorem HQ : fA Tryz.prog 177 := ⟨⟨Tryz.f177, _, Tryz.func177, rfl, by kernel_rfl⟩⟩
theorem HR : fA Tryz.prog 178 := ⟨⟨Tryz.f178, _, Tryz.func178, rfl, by kernel_rfl⟩⟩
theorem HS : fA Tryz.prog 179 := ⟨⟨Tryz.f179, _, Tryz.func179, rfl, by kernel_rfl⟩⟩
theorem xB : fA Tryz.prog 190 := ⟨⟨Tryz.f190, _, Tryz.func190, rfl, by kernel_rfl⟩⟩
theorem xC : fA Tryz.prog 191 := ⟨⟨Tryz.f191, _, Tryz.func191, rfl, by kernel_rfl⟩⟩
theorem sS : fA Tryz.prog 221 := ⟨⟨Tryz.f221, _, Tryz.func221, rfl, by kernel_rfl⟩⟩
theorem Fh : Ly Tryz.prog 45 := ⟨⟨Tryz.f45, Tryz.func45, by kernel_rfl, by kernel_rfl, by kernel_rfl, by kernel_rfl⟩⟩
theorem JN : NY Tryz.prog 73 := ⟨⟨Tryz.f73, Tryz.func73, by kernel_rfl, by kernel_rfl, by kernel_rfl, by kernel_rfl⟩⟩
theorem Bi : KA Tryz.prog 222 := ⟨⟨Tryz.f222, Tryz.func222, by kernel_rfl, by kernel_rfl, by kernel_rfl, by kernel_rfl⟩⟩
theorem iJ : TF Tryz.prog 30 5 [.int .u8 0] 1 := ⟨by kernel_rfl, by kernel_rfl, by decide, by decide⟩
theorem HT : TF Tryz.prog 155 158 [.int .i64 0, .int .i64 0, .int .i64 0, .string ⟨⟨[]⟩⟩, .int .i64 0] 48 := ⟨by kernel_rfl, by kernel_rfl, by decide, by decide⟩
theorem C_ : TF Tryz.prog 226 76 [.int .u32 0] 4 := ⟨by kernel_rfl, by kernel_rfl, by decide, by decide⟩
theorem Da : TF Tryz.prog 256 23 [.int .u64 0] 8 := ⟨by kernel_rfl, by kernel_rfl, by decide, by decide⟩
theorem u4 : ∀ (v : Option Addr) (l : Array Value) (w : World), (callMethod (.iface 194 (.pointer v)) "quern/node.clone" l).run Tryz.prog w = .ok (.enter 217 (#[.pointer v] ++ l)) w := by intro v l w; kernel_rfl
theorem wO : ∀ (v : Option Addr) (l : Array Value) (w : World), (callMethod (.iface 194 (.pointer v)) "quern/node.out" l).run Tryz.prog w = .ok (.enter 218 (#[.pointer v] ++ l)) w := by intro v l w; kernel_rfl
theorem qh : ∀ (v : Option Addr) (l : Array Value) (w : World), (callMethod (.iface 194 (.pointer v)) "quern/node.write" l).run Tryz.prog w = .ok (.enter 220 (#[.pointer v] ++ l)) w := by intro v l w; kernel_rfl
theorem wP : ∀ (v : Option Addr) (l : Array Value) (w : World), (callMethod (.iface 204 (.pointer v)) "quern/node.out" l).run Tryz.prog w = .ok (.enter 224 (#[.pointer v] ++ l)) w := by intro v l w; kernel_rfl
theorem qi : ∀ (v : Option Addr) (l : Array Value) (w : World), (callMethod (.iface 204 (.pointer v)) "quern/node.write" l).run Tryz.prog w = .ok (.enter 226 (#[.pointer v] ++ l)) w := by intro v l w; kernel_rfl
theorem bK : Tryz.prog.follows .mixedOrders = true := by kernel_rfl
theorem zM {F O : Nat → Prop} {w : World} (k : Cx F O w w []) (r : Unit) (hm : o1 = some r) :
    Calls Tryz.prog 62 (ad [I 1, I (-1)]) w (fun e w' => e = .returned (SV.val (.gD [.agg [I 1, I 64, .u32 4294967295, .u64 274877906944, .b false], .b true])) ∧ Cx F O w w' []) := by
 unfold o1 at hm
 refine calls [I 1, I (-1)] Tryz.func62 rfl (of_decide_eq_true (by kernel_rfl)) ?_
 refine ab <| an <| ag <| bT [] 4 [I 0, I 0, .u32 0, .u64 0, .b false] (by kernel_rfl) k ?_
 intro g w_ k_
 refine ba 1 [] .a qe (by kernel_rfl) ?_
 refine af <| aa <| ab <| an <| ba 4 [] (.n 11 (.agg [I 1, I 0, .u32 0, .u64 0, .b false]) .a) qe (by kernel_rfl) ?_
 refine ag <| bT [] 6 [I 0, I 0, .u32 0, .u64 0, .b false] (by kernel_rfl) k_ ?_
 intro g1 k4 db
 refine ag <| en [] 1 (.agg [I 1, I 0, .u32 0, .u64 0, .b false]) [I 1, I 0, .u32 0, .u64 0, .b false] (Pt.at g1 0) db rfl .all (by kernel_rfl) (by kernel_rfl) ?_
 intro l6 dE
 refine af <| aa <| ab <| bO [] (.k (.s .a)) qe (by kernel_rfl) ?_
 refine aa <| l4 (fun L wr => mF  = some r ∧ L = [(1, I (-1)), (4, pt g 0), (6, pt g1 0), (7, I 4294967294)] ∧ Cx F O w wr [Bx 78 g [I 0, I 0, .u32 0, .u64 0, .b false], Bx 78 g1 [I 1, I 64, .u32 0, .u64 0, .b false]]) ?_ ?_
 ·
  refine ab <| bO [] (.n 12 (I 1) (.kk (.s .a))) qe (by kernel_rfl) ?_
  refine aa <| cX <| ab <| bO [] (.n 14 (.b true) .a) qe (by kernel_rfl) ?_
  refine aa <| cm true (by kernel_rfl) (fun _ => ?_) (fun h => by cases h)
  refine an <| ba 1 [] (.n 16 (pt g1 1) (.ss .a)) (qs g1 0 <| qe) (by kernel_rfl) ?_
  refine ag <| en [] 1 (I 64) [I 64] (Pt.at g1 1) dE rfl (.k .h) (by kernel_rfl) (by kernel_rfl) ?_
  intro qj dU
  refine ba 1 [] (.n 7 (I 4294967294) (.s .a)) qe (by kernel_rfl) ?_
  refine af <| lL ?_
  exact jS ⟨hm, rfl, dU⟩ (by kernel_rfl)
 rintro L_ qk ⟨hm, rfl, eY⟩
 unfold mF at hm
 refine ab <| ab <| bO [] (.n 22 (.b true) .a) (qs g1 0 <| qB eY 1 rfl 4 (.b false) (by kernel_rfl) <| qe) (by kernel_rfl) ?_
 refine aa <| cm true (by kernel_rfl) (fun _ => ?_) (fun h => by cases h)
 refine ab <| an <| ba 8 [] (.n 25 (.u32 4294967295) (.n 29 (.u64 274877906944) (.n 30 (pt g1 2) (.ss (.kk .z))))) (qs g1 0 <| qB eY 1 rfl 1 (I 64) (by kernel_rfl) <| qs g1 0 <| qe) (by kernel_rfl) ?_
 refine ag <| en [] 1 (.u32 4294967295) [.u32 4294967295] (Pt.at g1 2) eY rfl (.kk .h) (by kernel_rfl) (by kernel_rfl) ?_
 intro rX fU
 refine ba 1 [] (.n 31 (pt g1 3) (.s (.k (.s .a)))) (qs g1 0 <| qe) (by kernel_rfl) ?_
 refine ag <| en [] 1 (.u64 274877906944) [.u64 274877906944] (Pt.at g1 3) fU rfl (.kk (.k .h)) (by kernel_rfl) (by kernel_rfl) ?_
 intro wQ g_
 refine af <| aa <| ab <| an <| ba 1 [] (.n 32 (.agg [I 1, I 64, .u32 4294967295, .u64 274877906944, .b false]) (.ss (.k .z))) (qT g_ 1 rfl 0 5 [I 1, I 64, .u32 4294967295, .u64 274877906944, .b false] (by kernel_rfl) (by decide) <| qe) (by kernel_rfl) ?_
 refine ag <| en [] 0 (.agg [I 1, I 64, .u32 4294967295, .u64 274877906944, .b false]) [I 1, I 64, .u32 4294967295, .u64 274877906944, .b false] (Pt.at g 0) g_ rfl .all (by kernel_rfl) (by kernel_rfl) ?_
 intro wR gC
 have gP := gC.de (.k .z)
 refine ba 1 [] (.n 5 (.b true) (.s .a)) qe (by kernel_rfl) ?_
 refine af <| aa <| aQ (cJ ?_)
 obtain rfl := Option.some.inj hm
 refine aR [.agg [I 1, I 64, .u32 4294967295, .u64 274877906944, .b false], .b true] (qo (.agg [I 1, I 64, .u32 4294967295, .u64 274877906944, .b false]) <| qc (fun w => Rd w (some ⟨g, 0, none⟩) (SV.cl [I 1, I 64, .u32 4294967295, .u64 274877906944, .b false])) (gP.uz 0 rfl) <| qe) (by kernel_rfl) ?_
 have gB := gP.de .z
 exact ⟨rfl, gB⟩
theorem rL {F O : Nat → Prop} {w : World} (key : List UInt8) (dw : List UInt8) (bP : List UInt8) (kW : Option Addr) (dK : Nat) (kX : Nat) (ir : Option Addr) (nS : Nat) (iu : Nat) (cT : Option Addr) (hZ : Nat) (cU : Nat) (u5 : Ro F w kW (e8.all key)) (rM : key.length = dK) (su : dK ≤ kX) (u6 : Ro F w ir (e8.all dw)) (tE : dw.length = nS) (sf : nS ≤ iu) (nf : Ro F w cT (e8.all bP)) (ng : bP.length = hZ) (l7 : hZ ≤ cU) (k : Cx F O w w []) (r : Int) (hm : jt key dw bP = some r) :
    Calls Tryz.prog 64 (ad [.agg [I 1, I 64, .u32 4294967295, .u64 274877906944, .b false], sl kW dK kX, sl ir nS iu, sl cT hZ cU]) w (fun e w' => e = .returned (SV.val (.agg [I 64, I r, I 1, I 1, .u32 0, .u64 0, .u32 4294967295, I 0, I 0, sl ir nS iu, sl cT hZ cU])) ∧ Cx F O w w' []) := by
 unfold jt at hm
 subst rM
 subst tE
 subst ng
 refine calls [.agg [I 1, I 64, .u32 4294967295, .u64 274877906944, .b false], sl kW key.length kX, sl ir dw.length iu, sl cT bP.length cU] Tryz.func64 rfl (of_decide_eq_true (by kernel_rfl)) ?_
 refine ab <| an <| ag <| gF [] 4 (.agg [I 1, I 64, .u32 4294967295, .u64 274877906944, .b false]) [I 1, I 64, .u32 4294967295, .u64 274877906944, .b false] (by kernel_rfl) k ?_
 intro g w_ k_
 refine ag <| bT [] 8 [I 0, I 0, I 0, I 0, .u32 0, .u64 0, .u32 0, I 0, I 0, sl none 0 0, sl none 0 0] (by kernel_rfl) k_ ?_
 intro g1 k4 db
 refine af <| aa <| ab <| an <| ba 9 [] (.n 17 (.agg [I 64, I ((key.length : Nat) : Int), I 1, I 1, .u32 0, .u64 0, .u32 4294967295, I 0, I 0, sl ir dw.length iu, sl cT bP.length cU]) (.k .z)) (qs g 0 <| qB db 0 rfl 1 (I 64) (by kernel_rfl) <| qs g 0 <| qB db 0 rfl 2 (.u32 4294967295) (by kernel_rfl) <| qe) (by kernel_rfl) ?_
 refine ag <| en [] 1 (.agg [I 64, I ((key.length : Nat) : Int), I 1, I 1, .u32 0, .u64 0, .u32 4294967295, I 0, I 0, sl ir dw.length iu, sl cT bP.length cU]) [I 64, I ((key.length : Nat) : Int), I 1, I 1, .u32 0, .u64 0, .u32 4294967295, I 0, I 0, sl ir dw.length iu, sl cT bP.length cU] (Pt.at g1 0) db rfl .all (by kernel_rfl) (by kernel_rfl) ?_
 intro l6 dE
 have dU := dE.de (.s (.k .e))
 refine af <| aa <| aQ ?_
 obtain rfl := Option.some.inj hm
 refine aR [.agg [I 64, I ((key.length : Nat) : Int), I 1, I 1, .u32 0, .u64 0, .u32 4294967295, I 0, I 0, sl ir dw.length iu, sl cT bP.length cU]] (qo (.agg [I 64, I ((key.length : Nat) : Int), I 1, I 1, .u32 0, .u64 0, .u32 4294967295, I 0, I 0, sl ir dw.length iu, sl cT bP.length cU]) <| qc (fun w => Rd w (some ⟨g1, 0, none⟩) (SV.cl [I 64, I ((key.length : Nat) : Int), I 1, I 1, .u32 0, .u64 0, .u32 4294967295, I 0, I 0, sl ir dw.length iu, sl cT bP.length cU])) (dU.uz 0 rfl) <| qe) (by kernel_rfl) ?_
 have eY := dU.de .z
 exact ⟨rfl, eY⟩
theorem wj {F O : Nat → Prop} {w : World} (k_ : Int) (k : Cx F O w w []) (r : (Int × Int × Int)) (hm : mr k_ = some r) :
    Calls Tryz.prog 84 (ad [I k_]) w (fun e w' => e = .returned (SV.val (.gD [I r.1, I r.2.1, I r.2.2])) ∧ Cx F O w w' []) := by
 unfold mr at hm
 refine calls [I k_] Tryz.func84 rfl (of_decide_eq_true (by kernel_rfl)) ?_
 refine ab <| bO [] .a qe (by kernel_rfl) ?_
 refine aa <| ab <| ab <| bO [] (.n 5 (I k_) .z) qe (by kernel_rfl) ?_
 refine aa <| cX <| ab <| bO [] (.n 6 (.b (decide (k_ = 1))) .a) qe (by kernel_rfl) ?_
 refine aa <| bu (k_ = 1) (by kernel_rfl) (fun hc => ?_) (fun hc => ?_)
 · rw [if_pos hc] at hm
   refine ab <| bO [] (.n 2 (I 64) (.n 3 (I 64) (.n 4 (I 16) .z))) qe (by kernel_rfl) ?_
   refine aa <| aQ (mL (cJ ?_))
   obtain rfl := Option.some.inj hm
   refine aR [I 64, I 64, I 16] qe (by kernel_rfl) ?_
   exact ⟨rfl, k⟩
 rw [if_neg hc] at hm
 refine ab <| bO [] (.n 8 (.b (decide (k_ = 2))) .z) qe (by kernel_rfl) ?_
 refine aa <| bu (k_ = 2) (by kernel_rfl) (fun k5 => ?_) (fun k5 => ?_)
 · rw [if_pos k5] at hm
   refine ab <| bO [] (.n 2 (I 32) (.n 3 (I 32) (.n 4 (I 8) .z))) qe (by kernel_rfl) ?_
   refine aa <| aQ (mL (cJ ?_))
   obtain rfl := Option.some.inj hm
   refine aR [I 32, I 32, I 8] qe (by kernel_rfl) ?_
   exact ⟨rfl, k⟩
 rw [if_neg k5] at hm
 refine bc <| lL <| aa <| ab <| bO [] (.n 2 (I 0) (.n 3 (I 0) (.n 4 (I 0) .z))) qe (by kernel_rfl) ?_
 refine aa <| aQ ?_
 obtain rfl := Option.some.inj hm
 refine aR [I 0, I 0, I 0] qe (by kernel_rfl) ?_
 exact ⟨rfl, k⟩
theorem lY {F O : Nat → Prop} {w : World} (n : Int) (lo : Int) (hi : Int) (k : Cx F O w w []) (r : Bool) (hm : iN n lo hi = some r) :
    Calls Tryz.prog 85 (ad [I n, I lo, I hi]) w (fun e w' => e = .returned (SV.val (.b r)) ∧ Cx F O w w' []) := by
 unfold iN at hm
 refine calls [I n, I lo, I hi] Tryz.func85 rfl (of_decide_eq_true (by kernel_rfl)) ?_
 refine ab <| bO [] .a qe (by kernel_rfl) ?_
 refine aa <| ab <| bO [] (.n 6 (.b ((decide (lo ≤ n)) && (decide (n ≤ hi)))) .z) qe (by kernel_rfl) ?_
 refine aa <| aQ ?_
 obtain rfl := Option.some.inj hm
 refine aR [.b ((decide (lo ≤ n)) && (decide (n ≤ hi)))] qe (by kernel_rfl) ?_
 exact ⟨rfl, k⟩
theorem wk {F O : Nat → Prop} {w : World} (k_ : Int) (bb : Int) (dy : Int) (bm : Int) (bM : Int) (cY : UInt32) (aV : UInt64) (ca : UInt32) (az : Int) (bE : Int) (bW : List UInt8) (ay : List UInt8) (cD : Option Addr) (iX : Nat) (cE : Nat) (a6 : Option Addr) (ey : Nat) (a7 : Nat) (o7 : Ro F w cD (e8.all bW)) (nD : bW.length = iX) (oN : iX ≤ cE) (kj : Ro F w a6 (e8.all ay)) (jE : ay.length = ey) (kv : ey ≤ a7) (k : Cx F O w w []) (r : Int) (hm : jz k_ bb dy bm bM cY aV ca az bE bW ay = some r) :
    Calls Tryz.prog 63 (ad [I k_, .agg [I bb, I dy, I bm, I bM, .u32 cY, .u64 aV, .u32 ca, I az, I bE, sl cD iX cE, sl a6 ey a7]]) w (fun e w' => e = .returned (SV.val (I r)) ∧ Cx F O w w' []) := by
 unfold jz at hm
 subst nD
 subst jE
 refine calls [I k_, .agg [I bb, I dy, I bm, I bM, .u32 cY, .u64 aV, .u32 ca, I az, I bE, sl cD bW.length cE, sl a6 ay.length a7]] Tryz.func63 rfl (of_decide_eq_true (by kernel_rfl)) ?_
 refine ab <| an <| ag <| gF [] 3 (.agg [I bb, I dy, I bm, I bM, .u32 cY, .u64 aV, .u32 ca, I az, I bE, sl cD bW.length cE, sl a6 ay.length a7]) [I bb, I dy, I bm, I bM, .u32 cY, .u64 aV, .u32 ca, I az, I bE, sl cD bW.length cE, sl a6 ay.length a7] (by kernel_rfl) k ?_
 intro g w_ db
 refine ba 1 [] (.kk .z) qe (by kernel_rfl) ?_
 refine af <| aa <| ab <| an <| ba 1 [] (.n 10 (I k_) .a) qe (by kernel_rfl) ?_
 refine ag ?_
 obtain ⟨r_, cQ, hm⟩ := ob hm
 refine au [] 11 _ Fg (by kernel_rfl) (wj (F := N0) (O := N0) _ (Cx.refl _) _ cQ) ?_
 rintro e_ k4 ⟨rfl, dE⟩
 have dU := db.call dE
 refine ⟨.gD [I r_.1, I r_.2.1, I r_.2.2], rfl, ?_⟩
 refine ba 7 [] (.n 6 (I r_.2.1) (.n 7 (I r_.2.2) (.ss .a))) qe (by kernel_rfl) ?_
 refine af <| aa <| ab <| ab <| bO [] (.n 16 (.b (decide (r_.2.1 = 0))) .a) qe (by kernel_rfl) ?_
 refine aa <| bu (r_.2.1 = 0) (by kernel_rfl) (fun hc => ?_) (fun hc => ?_)
 · rw [if_pos hc] at hm
   refine ab <| bO [] (.n 4 (I 1) .z) qe (by kernel_rfl) ?_
   refine aa <| aQ (cJ ?_)
   obtain rfl := Option.some.inj hm
   refine aR [I 1] qe (by kernel_rfl) ?_
   have eY := dU.de .z
   exact ⟨rfl, eY⟩
 rw [if_neg hc] at hm
 refine bc <| aa <| ab <| bO [] (.n 8 (I 1) (.s .a)) qe (by kernel_rfl) ?_
 refine aa <| l4 (fun L wr => ∃ (least : Int), kC k_ bb dy bm bM aV ca az bE bW ay r_ least = some r ∧ L = [(0, I k_), (3, pt g 0), (6, I r_.2.1), (7, I r_.2.2), (8, I least)] ∧ Cx F O w wr [Bx 117 g [I bb, I dy, I bm, I bM, .u32 cY, .u64 aV, .u32 ca, I az, I bE, sl cD bW.length cE, sl a6 ay.length a7]]) ?_ ?_
 ·
  refine ab <| bO [] (.n 19 (.b (decide (ca ≠ 0))) .a) (qs g 0 <| qB dU 0 rfl 6 (.u32 ca) (by kernel_rfl) <| qe) (by kernel_rfl) ?_
  refine aa <| bu (ca ≠ 0) (by kernel_rfl) (fun k5 => ?_) (fun k5 => ?_)
  · rw [if_pos k5] at hm
    refine bO [] (.n 8 (I 0) (.ss .a)) qe (by kernel_rfl) ?_
    exact jS ⟨(0 : Int), hm, rfl, dU⟩ (by kernel_rfl)
  rw [if_neg k5] at hm
  refine bc ?_
  exact jS ⟨(1 : Int), hm, rfl, dU⟩ (by kernel_rfl)
 rintro L_ l6 ⟨least, hm, rfl, fU⟩
 simp only [kC] at hm
 refine l4 (fun L wr => nu  = some r ∧ L = [] ∧ Cx F O w wr []) ?_ ?_
 ·
  refine cX <| ab <| an <| ba 3 [] (.n 22 (I bb) (.n 23 (I r_.2.1) .a)) (qs g 0 <| qB fU 0 rfl 0 (I bb) (by kernel_rfl) <| qe) (by kernel_rfl) ?_
  refine ag ?_
  obtain ⟨ah, dd, hm⟩ := ob hm
  refine au [] 24 _ vA (by kernel_rfl) (lY (F := N0) (O := N0) _ _ _ (Cx.refl _) _ dd) ?_
  rintro e_ qj ⟨rfl, g_⟩
  have gC := fU.call g_
  refine ⟨.b ah, rfl, ?_⟩
  refine ba 2 [] (.n 20 (.b (!ah)) (.oQ .a)) qe (by kernel_rfl) ?_
  refine af <| aa <| cm (!ah) (by kernel_rfl) (fun rN => ?_) (fun rN => ?_)
  · rw [if_pos rN] at hm
    refine ab <| bO [] (.n 4 (I 20) .z) qe (by kernel_rfl) ?_
    refine aa <| aQ (mL (cJ ?_))
    obtain rfl := Option.some.inj hm
    refine aR [I 20] qe (by kernel_rfl) ?_
    have gP := gC.de .z
    exact ⟨rfl, gP⟩
  rw [if_neg (by rw [rN]; decide)] at hm
  refine ab <| an <| ba 3 [] (.n 28 (I dy) (.n 29 (I r_.2.1) (.s .a))) (qs g 0 <| qB gC 0 rfl 1 (I dy) (by kernel_rfl) <| qe) (by kernel_rfl) ?_
  refine ag ?_
  obtain ⟨aX, hK, hm⟩ := ob hm
  refine au [] 30 _ vA (by kernel_rfl) (lY (F := N0) (O := N0) _ _ _ (Cx.refl _) _ hK) ?_
  rintro e_ qk ⟨rfl, gB⟩
  have dO := gC.call gB
  refine ⟨.b aX, rfl, ?_⟩
  refine ba 2 [] (.n 26 (.b (!aX)) (.oQ .a)) qe (by kernel_rfl) ?_
  refine af <| aa <| cm (!aX) (by kernel_rfl) (fun xQ => ?_) (fun xQ => ?_)
  · rw [if_pos xQ] at hm
    refine ab <| bO [] (.n 4 (I 8) .z) qe (by kernel_rfl) ?_
    refine aa <| aQ (mL (cJ ?_))
    obtain rfl := Option.some.inj hm
    refine aR [I 8] qe (by kernel_rfl) ?_
    have cV := dO.de .z
    exact ⟨rfl, cV⟩
  rw [if_neg (by rw [xQ]; decide)] at hm
  refine ab <| an <| ba 2 [] (.n 34 (I bm) (.s .a)) (qs g 0 <| qB dO 0 rfl 2 (I bm) (by kernel_rfl) <| qe) (by kernel_rfl) ?_
  refine ag ?_
  obtain ⟨eK, nX, hm⟩ := ob hm
  refine au [] 35 _ vA (by kernel_rfl) (lY (F := N0) (O := N0) _ _ _ (Cx.refl _) _ nX) ?_
  rintro e_ rX ⟨rfl, ff⟩
  have gI := dO.call ff
  refine ⟨.b eK, rfl, ?_⟩
  refine ba 2 [] (.n 32 (.b (!eK)) (.ss .a)) qe (by kernel_rfl) ?_
  refine af <| aa <| cm (!eK) (by kernel_rfl) (fun Ak => ?_) (fun Ak => ?_)
  · rw [if_pos Ak] at hm
    refine ab <| bO [] (.n 4 (I 21) .z) qe (by kernel_rfl) ?_
    refine aa <| aQ (mL (cJ ?_))
    obtain rfl := Option.some.inj hm
    refine aR [I 21] qe (by kernel_rfl) ?_
    have ez := gI.de .z
    exact ⟨rfl, ez⟩
  rw [if_neg (by rw [Ak]; decide)] at hm
  refine ab <| an <| ba 3 [] (.n 39 (I bM) (.n 40 (I least) (.s (.bX .z)))) (qs g 0 <| qB gI 0 rfl 3 (I bM) (by kernel_rfl) <| qe) (by kernel_rfl) ?_
  refine ag ?_
  obtain ⟨gl, sT, hm⟩ := ob hm
  refine au [] 41 _ vA (by kernel_rfl) (lY (F := N0) (O := N0) _ _ _ (Cx.refl _) _ sT) ?_
  rintro e_ wQ ⟨rfl, jj⟩
  have gQ := gI.call jj
  refine ⟨.b gl, rfl, ?_⟩
  refine ba 2 [] (.n 37 (.b (!gl)) (.oQ .a)) qe (by kernel_rfl) ?_
  refine af <| aa <| cm (!gl) (by kernel_rfl) (fun wm => ?_) (fun wm => ?_)
  · rw [if_pos wm] at hm
    refine ab <| bO [] (.n 4 (I 22) .z) qe (by kernel_rfl) ?_
    refine aa <| aQ (mL (cJ ?_))
    obtain rfl := Option.some.inj hm
    refine aR [I 22] qe (by kernel_rfl) ?_
    have kV := gQ.de .z
    exact ⟨rfl, kV⟩
  rw [if_neg (by rw [wm]; decide)] at hm
  refine l4 (fun L wr => ∃ (aL : Bool), lV k_ ca az bE bW ay r_ aL = some r ∧ L = [(0, I k_), (3, pt g 0), (6, I r_.2.1), (7, I r_.2.2), (43, .b aL)] ∧ Cx F O w wr [Bx 117 g [I bb, I dy, I bm, I bM, .u32 cY, .u64 aV, .u32 ca, I az, I bE, sl cD bW.length cE, sl a6 ay.length a7]]) ?_ ?_
  ·
   refine ab <| bO [] (.n 43 (.b ((decide (ca ≠ 0)) && (decide ((4294967296 : UInt64) ≤ aV)))) (.s .a)) (qs g 0 <| qB gQ 0 rfl 6 (.u32 ca) (by kernel_rfl) <| qp ((decide (ca ≠ 0)) = true → (some ⟨g, 0, none⟩ : Option Addr).isSome = true) (fun F2 => rfl) <| qo (.u64 aV) <| qc (fun w => (decide (ca ≠ 0)) = true → ∃ a, (some ⟨g, 5, none⟩ : Option Addr) = some a ∧ w.cell? a = some (SV.val (.u64 aV))) (fun F2 => gQ.M9 0 rfl 5 (.u64 aV) (by kernel_rfl)) <| qe) (by kernel_rfl) ?_
   refine aa <| cm ((decide (ca ≠ 0)) && (decide ((4294967296 : UInt64) ≤ aV))) (by kernel_rfl) (fun xR => ?_) (fun xR => ?_)
   · rw [if_pos xR] at hm
     refine bc ?_
     exact jS ⟨(decide (ca ≠ 0)) && (decide ((4294967296 : UInt64) ≤ aV)), hm, rfl, gQ⟩ (by kernel_rfl)
   rw [if_neg (by rw [xR]; decide)] at hm
   refine bO [] (.n 43 (.b (((decide (ca = 0)) && (decide (k_ = 2))) && (decide ((281474976710656 : UInt64) ≤ aV)))) (.s .a)) (qs g 0 <| qB gQ 0 rfl 6 (.u32 ca) (by kernel_rfl) <| qp (((decide (ca = 0)) && (decide (k_ = 2))) = true → (some ⟨g, 0, none⟩ : Option Addr).isSome = true) (fun F2 => rfl) <| qo (.u64 aV) <| qc (fun w => ((decide (ca = 0)) && (decide (k_ = 2))) = true → ∃ a, (some ⟨g, 5, none⟩ : Option Addr) = some a ∧ w.cell? a = some (SV.val (.u64 aV))) (fun F2 => gQ.M9 0 rfl 5 (.u64 aV) (by kernel_rfl)) <| qe) (by kernel_rfl) ?_
   exact jS ⟨((decide (ca = 0)) && (decide (k_ = 2))) && (decide ((281474976710656 : UInt64) ≤ aV)), hm, rfl, gQ⟩ (by kernel_rfl)
  rintro L_ wR ⟨aL, hm, rfl, lz⟩
  simp only [lV] at hm
  refine cm aL (by kernel_rfl) (fun IT => ?_) (fun IT => ?_)
  · rw [if_pos IT] at hm
    refine ab <| bO [] (.n 4 (I 23) .z) qe (by kernel_rfl) ?_
    refine aa <| aQ (mL (cJ ?_))
    obtain rfl := Option.some.inj hm
    refine aR [I 23] qe (by kernel_rfl) ?_
    have k6 := lz.de .z
    exact ⟨rfl, k6⟩
  rw [if_neg (by rw [IT]; decide)] at hm
  refine ab <| bO [] (.n 64 (.b ((decide (k_ = 2)) && (decide ((65535 : UInt32) < ca)))) (.s (.uk .z))) (qp ((decide (k_ = 2)) = true → (some ⟨g, 0, none⟩ : Option Addr).isSome = true) (fun F2 => rfl) <| qo (.u32 ca) <| qc (fun w => (decide (k_ = 2)) = true → ∃ a, (some ⟨g, 6, none⟩ : Option Addr) = some a ∧ w.cell? a = some (SV.val (.u32 ca))) (fun F2 => lz.M9 0 rfl 6 (.u32 ca) (by kernel_rfl)) <| qe) (by kernel_rfl) ?_
  refine aa <| cm ((decide (k_ = 2)) && (decide ((65535 : UInt32) < ca))) (by kernel_rfl) (fun KK => ?_) (fun KK => ?_)
  · rw [if_pos KK] at hm
    refine ab <| bO [] (.n 4 (I 24) .z) qe (by kernel_rfl) ?_
    refine aa <| aQ (mL (cJ ?_))
    obtain rfl := Option.some.inj hm
    refine aR [I 24] qe (by kernel_rfl) ?_
    have lJ := lz.de .z
    exact ⟨rfl, lJ⟩
  rw [if_neg (by rw [KK]; decide)] at hm
  refine ab <| an <| ba 2 [] (.n 74 (I az) (.s .a)) (qs g 0 <| qB lz 0 rfl 7 (I az) (by kernel_rfl) <| qe) (by kernel_rfl) ?_
  refine ag ?_
  obtain ⟨mA, Db, hm⟩ := ob hm
  refine au [] 75 _ vA (by kernel_rfl) (lY (F := N0) (O := N0) _ _ _ (Cx.refl _) _ Db) ?_
  rintro e_ Av ⟨rfl, my⟩
  have nE := lz.call my
  refine ⟨.b mA, rfl, ?_⟩
  refine ba 2 [] (.n 72 (.b (!mA)) (.ss .a)) qe (by kernel_rfl) ?_
  refine af <| aa <| cm (!mA) (by kernel_rfl) (fun NZ => ?_) (fun NZ => ?_)
  · rw [if_pos NZ] at hm
    refine ab <| bO [] (.n 4 (I 25) .z) qe (by kernel_rfl) ?_
    refine aa <| aQ (mL (cJ ?_))
    obtain rfl := Option.some.inj hm
    refine aR [I 25] qe (by kernel_rfl) ?_
    have nh := nE.de .z
    exact ⟨rfl, nh⟩
  rw [if_neg (by rw [NZ]; decide)] at hm
  refine ab <| an <| ba 3 [] (.n 79 (I bE) (.n 80 (I r_.2.1) (.s (.k (.s .a))))) (qs g 0 <| qB nE 0 rfl 8 (I bE) (by kernel_rfl) <| qe) (by kernel_rfl) ?_
  refine ag ?_
  obtain ⟨nr, Dc, hm⟩ := ob hm
  refine au [] 81 _ vA (by kernel_rfl) (lY (F := N0) (O := N0) _ _ _ (Cx.refl _) _ Dc) ?_
  rintro e_ DE ⟨rfl, mz⟩
  have sw := nE.call mz
  refine ⟨.b nr, rfl, ?_⟩
  refine ba 2 [] (.n 77 (.b (!nr)) (.oQ .a)) qe (by kernel_rfl) ?_
  refine af <| aa <| cm (!nr) (by kernel_rfl) (fun F3 => ?_) (fun F3 => ?_)
  · rw [if_pos F3] at hm
    refine ab <| bO [] (.n 4 (I 26) .z) qe (by kernel_rfl) ?_
    refine aa <| aQ (mL (cJ ?_))
    obtain rfl := Option.some.inj hm
    refine aR [I 26] qe (by kernel_rfl) ?_
    have re := sw.de .z
    exact ⟨rfl, re⟩
  rw [if_neg (by rw [F3]; decide)] at hm
  refine ab <| bO [] (.n 83 (.b (decide (r_.2.2 < ((bW.length : Nat) : Int)))) (.s .a)) (qs g 0 <| qB sw 0 rfl 9 (sl cD bW.length cE) (by kernel_rfl) <| qe) (by kernel_rfl) ?_
  refine aa <| bu (r_.2.2 < ((bW.length : Nat) : Int)) (by kernel_rfl) (fun LC => ?_) (fun LC => ?_)
  · rw [if_pos LC] at hm
    refine ab <| bO [] (.n 4 (I 27) .z) qe (by kernel_rfl) ?_
    refine aa <| aQ (mL (cJ ?_))
    obtain rfl := Option.some.inj hm
    refine aR [I 27] qe (by kernel_rfl) ?_
    have yU := sw.de .z
    exact ⟨rfl, yU⟩
  rw [if_neg LC] at hm
  refine ab <| bO [] (.n 89 (.b (decide (r_.2.2 < ((ay.length : Nat) : Int)))) .z) (qs g 0 <| qB sw 0 rfl 10 (sl a6 ay.length a7) (by kernel_rfl) <| qe) (by kernel_rfl) ?_
  refine aa <| bu (r_.2.2 < ((ay.length : Nat) : Int)) (by kernel_rfl) (fun LD => ?_) (fun LD => ?_)
  · rw [if_pos LD] at hm
    refine ab <| bO [] (.n 4 (I 28) .z) qe (by kernel_rfl) ?_
    refine aa <| aQ (mL (cJ ?_))
    obtain rfl := Option.some.inj hm
    refine aR [I 28] qe (by kernel_rfl) ?_
    have u7 := sw.de .z
    exact ⟨rfl, u7⟩
  rw [if_neg LD] at hm
  refine bc <| lL ?_
  have yp := sw.de .z
  exact jS ⟨hm, rfl, yp⟩ (by kernel_rfl)
 rintro L_ Aw ⟨hm, rfl, yq⟩
 simp only [nu] at hm
 refine ab <| bO [] (.n 4 (I 0) .a) qe (by kernel_rfl) ?_
 refine aa <| aQ ?_
 obtain rfl := Option.some.inj hm
 refine aR [I 0] qe (by kernel_rfl) ?_
 exact ⟨rfl, yq⟩
theorem Ax {F O : Nat → Prop} {w : World} (key : List UInt8) (dw : List UInt8) (bP : List UInt8) (kW : Option Addr) (dK : Nat) (kX : Nat) (ir : Option Addr) (nS : Nat) (iu : Nat) (cT : Option Addr) (hZ : Nat) (cU : Nat) (u5 : Ro F w kW (e8.all key)) (rM : key.length = dK) (su : dK ≤ kX) (u6 : Ro F w ir (e8.all dw)) (tE : dw.length = nS) (sf : nS ≤ iu) (nf : Ro F w cT (e8.all bP)) (ng : bP.length = hZ) (l7 : hZ ≤ cU) (k : Cx F O w w []) (r : Int) (hm : nW key dw bP = some r) :
    Calls Tryz.prog 34 (ad [I 1, I (-1), sl kW dK kX, sl ir nS iu, sl cT hZ cU]) w (fun e w' => e = .returned (SV.val (.gD [.agg [I 1, I 64, .u32 4294967295, .u64 274877906944, .b false], I r])) ∧ Cx F O w w' []) := by
 unfold nW at hm
 subst rM
 subst tE
 subst ng
 refine calls [I 1, I (-1), sl kW key.length kX, sl ir dw.length iu, sl cT bP.length cU] Tryz.func34 rfl (of_decide_eq_true (by kernel_rfl)) ?_
 refine ab <| an <| ag <| bT [] 10 [I 0, I 0, .u32 0, .u64 0, .b false] (by kernel_rfl) k ?_
 intro g w_ k_
 refine ba 1 [] .a qe (by kernel_rfl) ?_
 refine af <| aa <| ab <| an <| ba 2 [] (.n 15 (I 1) (.n 16 (I (-1)) (.kk (.s .a)))) qe (by kernel_rfl) ?_
 refine ag ?_
 obtain ⟨r_, cQ, hm⟩ := ob hm
 refine au [] 17 _ JH (by kernel_rfl) (zM (F := N0) (O := N0)  (Cx.refl _) _ cQ) ?_
 rintro e_ k4 ⟨rfl, db⟩
 have dE := k_.call db
 refine ⟨.gD [.agg [I 1, I 64, .u32 4294967295, .u64 274877906944, .b false], .b true], rfl, ?_⟩
 refine ba 3 [] (.n 18 (.agg [I 1, I 64, .u32 4294967295, .u64 274877906944, .b false]) (.n 19 (.b true) (.oQ .a))) qe (by kernel_rfl) ?_
 refine ag <| bT [] 12 [I 0, I 0, .u32 0, .u64 0, .b false] (by kernel_rfl) dE ?_
 intro g1 l6 dU
 refine ag <| en [] 1 (.agg [I 1, I 64, .u32 4294967295, .u64 274877906944, .b false]) [I 1, I 64, .u32 4294967295, .u64 274877906944, .b false] (Pt.at g1 0) dU rfl .all (by kernel_rfl) (by kernel_rfl) ?_
 intro qj eY
 refine ba 1 [] (.n 13 (.b true) (.k (.ss .a))) qe (by kernel_rfl) ?_
 refine af <| aa <| ab <| ab <| bO [] (.n 21 (.b false) (.s .a)) qe (by kernel_rfl) ?_
 refine aa <| cm false (by kernel_rfl) (fun h => by cases h) (fun _ => ?_)
 refine bc <| aa <| ab <| ab <| bO [] (.n 27 (.b (decide (64 < ((key.length : Nat) : Int)))) (.s .a)) (qs g1 0 <| qB eY 1 rfl 1 (I 64) (by kernel_rfl) <| qe) (by kernel_rfl) ?_
 refine aa <| bu (64 < ((key.length : Nat) : Int)) (by kernel_rfl) (fun hc => ?_) (fun hc => ?_)
 · rw [if_pos hc] at hm
   refine ab <| an <| ba 1 [] (.n 28 (.agg [I 1, I 64, .u32 4294967295, .u64 274877906944, .b false]) (.ss (.k .z))) (qT eY 1 rfl 0 5 [I 1, I 64, .u32 4294967295, .u64 274877906944, .b false] (by kernel_rfl) (by decide) <| qe) (by kernel_rfl) ?_
   refine ag ?_
   have fU := eY.de (.kk .e)
   refine en [] 0 (.agg [I 1, I 64, .u32 4294967295, .u64 274877906944, .b false]) [I 1, I 64, .u32 4294967295, .u64 274877906944, .b false] (Pt.at g 0) fU rfl .all (by kernel_rfl) (by kernel_rfl) ?_
   intro qk g_
   have gC := g_.de (.k .z)
   refine ba 1 [] (.n 11 (I 8) (.s .a)) qe (by kernel_rfl) ?_
   refine af <| aa <| aQ (cJ ?_)
   obtain rfl := Option.some.inj hm
   refine aR [.agg [I 1, I 64, .u32 4294967295, .u64 274877906944, .b false], I 8] (qo (.agg [I 1, I 64, .u32 4294967295, .u64 274877906944, .b false]) <| qc (fun w => Rd w (some ⟨g, 0, none⟩) (SV.cl [I 1, I 64, .u32 4294967295, .u64 274877906944, .b false])) (gC.uz 0 rfl) <| qe) (by kernel_rfl) ?_
   have gP := gC.de .z
   exact ⟨rfl, gP⟩
 rw [if_neg hc] at hm
 refine bc <| aa <| ab ?_
 have gB := eY.drew 1
 refine qO bK (.q 1 1 (.q 2 1 (.q 3 1 (.q 4 1 (.q 5 1 (.q 0 2 (.op 6 (.op 7 (.op 8 (.q 9 3 .nil)))))))))) [6, 7, 8] gB (.c (.kk .e) (.c (.kk .e) (.c (.s (.k .e)) .l))) (by kernel_rfl) (fun _ => ?_)
 refine cK 5 1 [] (.n 30 (I 1) (.n 31 (.agg [I 1, I 64, .u32 4294967295, .u64 274877906944, .b false]) (.n 32 (sl kW key.length kX) (.n 33 (sl ir dw.length iu) (.n 34 (sl cT bP.length cU) (.s (.kk .z))))))) (fun x hx => qT hx 1 rfl 0 5 [I 1, I 64, .u32 4294967295, .u64 274877906944, .b false] (by kernel_rfl) (by decide) <| qe) (by kernel_rfl) (fun _ => ?_)
 refine cK 1 2 [] (.n 29 (.agg [I 1, I 64, .u32 4294967295, .u64 274877906944, .b false]) (.bX (.k (.s .a)))) (fun x hx => qT hx 1 rfl 0 5 [I 1, I 64, .u32 4294967295, .u64 274877906944, .b false] (by kernel_rfl) (by decide) <| qe) (by kernel_rfl) (fun _ => ?_)
 refine cC (by kernel_rfl) rfl ?_
 have dO := gB.de (.kk .e)
 obtain ⟨ah, dd, hm⟩ := ob hm
 refine au [] 35 _ E8 (by kernel_rfl) (rL (F := N0) (O := N0) _ _ _ _ _ _ _ _ _ _ _ _ (Ro.n0 (u5.cx dO)) rfl su (Ro.n0 (u6.cx dO)) rfl sf (Ro.n0 (nf.cx dO)) rfl l7 (Cx.refl _) _ dd) ?_
 rintro e_ rX ⟨rfl, cV⟩
 have ff := dO.call cV
 refine ⟨.agg [I 64, I ah, I 1, I 1, .u32 0, .u64 0, .u32 4294967295, I 0, I 0, sl ir dw.length iu, sl cT bP.length cU], rfl, ?_⟩
 refine ⟨ff, fun _ => ?_⟩
 refine cC (by kernel_rfl) rfl ?_
 obtain ⟨aX, hK, hm⟩ := ob hm
 refine au [] 36 _ E7 (by kernel_rfl) (wk (F := N0) (O := N0) _ _ _ _ _ _ _ _ _ _ _ _ _ _ _ _ _ _ (Ro.n0 (u6.cx ff)) rfl sf (Ro.n0 (nf.cx ff)) rfl l7 (Cx.refl _) _ hK) ?_
 rintro e_ wQ ⟨rfl, gI⟩
 have ez := ff.call gI
 refine ⟨I aX, rfl, ?_⟩
 refine ⟨ez, fun _ => ?_⟩
 refine cC (by kernel_rfl) rfl <| en [] 0 (.agg [I 1, I 64, .u32 4294967295, .u64 274877906944, .b false]) [I 1, I 64, .u32 4294967295, .u64 274877906944, .b false] (Pt.at g 0) ez rfl .all (by kernel_rfl) (by kernel_rfl) ?_
 intro wR jj
 refine ⟨(jj.de (.s (.k .e))), fun _ => ?_⟩
 refine cK 1 3 [] (.n 11 (I aX) (.jn (.jn .a))) (fun x hx => qe) (by kernel_rfl) (fun _ => ?_)
 refine d_ <| aa <| aQ ?_
 obtain rfl := Option.some.inj hm
 refine aR [.agg [I 1, I 64, .u32 4294967295, .u64 274877906944, .b false], I aX] (qo (.agg [I 1, I 64, .u32 4294967295, .u64 274877906944, .b false]) <| qc (fun w => Rd w (some ⟨g, 0, none⟩) (SV.cl [I 1, I 64, .u32 4294967295, .u64 274877906944, .b false])) (jj.uz 0 rfl) <| qe) (by kernel_rfl) ?_
 have gQ := jj.de .z
 exact ⟨rfl, gQ⟩
theorem u9 {F O : Nat → Prop} {w : World} (b : List UInt8) (mq : Option Addr) (py : Nat) (mI : Nat) (qH : Ro F w mq (e8.all b)) (qK : b.length = py) (rO : py ≤ mI) (k : Cx F O w w []) (r : (List UInt8)) (hm : mW b = some r) :
    Calls Tryz.prog 35 (ad [sl mq py mI]) w (fun e w' => ∃ A n c, r.length = n ∧ e = .returned (SV.val (sl A n c)) ∧ Cx F O w w' [Ow e8 A n c r]) := by
 unfold mW at hm
 subst qK
 refine calls [sl mq b.length mI] Tryz.func35 rfl (of_decide_eq_true (by kernel_rfl)) ?_
 refine ab <| bO [] .a qe (by kernel_rfl) ?_
 refine aa <| ab <| an <| ba 1 [] (.n 3 (sl mq b.length mI) .z) qe (by kernel_rfl) ?_
 refine ag ?_
 have k_ := k.nil e8
 obtain ⟨b1, wS, hm⟩ := ob hm
 obtain ⟨hz, hl⟩ := mm wS
 refine k8 (E := e8) (v := sl mq b.length mI) (ys := b) iJ [] 4 0 (by kernel_rfl) k_ rfl (Src.sl (qH.cx k_) rfl (by rfl)) rfl (by have := k_.len 0 rfl; have := hm; omega) ?_
 intro A0 c0 w_ db
 rw [← hl] at db
 refine ba 1 [] (.n 2 (sl A0 (0 + b.length) c0) .z) qe (by kernel_rfl) ?_
 refine af <| aa <| aQ ?_
 obtain rfl := Option.some.inj hm
 refine aR [sl A0 (0 + b.length) c0] qe (by kernel_rfl) ?_
 exact ⟨A0, 0 + b.length, c0, db.len 0 rfl, rfl, db⟩
theorem B4 {F O : Nat → Prop} {w : World} (k_ : Int) (k : Cx F O w w []) (r : (List (Int × Int × Int × List UInt8 × Int))) (hm : l9 k_ = some r) :
    Calls Tryz.prog 101 (ad [I k_]) w (fun e w' => ∃ A n c, r.length = n ∧ e = .returned (SV.val (sl A n c)) ∧ Cx F O w w' [Ow (eP eI (eP eI (eP eI (eP eS eI)))) A n c r]) := by
 unfold l9 at hm
 refine calls [I k_] Tryz.func101 rfl (of_decide_eq_true (by kernel_rfl)) ?_
 refine ab <| bO [] .a qe (by kernel_rfl) ?_
 refine aa <| ab <| an <| ba 9 [] (.n 5 (.agg [I 1, I 0, I 1, .s ([100, 105, 103, 101, 115, 116] : List UInt8), I 20]) (.n 6 (.agg [I 2, I 1, I 1, .s ([107, 101, 121] : List UInt8), I 8]) (.n 7 (.agg [I 3, I 2, I 1, .s ([102, 97, 110, 111, 117, 116] : List UInt8), I 21]) (.n 8 (.agg [I 4, I 3, I 1, .s ([100, 101, 112, 116, 104] : List UInt8), I 22]) (.n 9 (.agg [I 5, I 4, I 4, .s ([108, 101, 97, 102] : List UInt8), I 1]) (.n 10 (.agg [I 6, I 8, I 8, .s ([111, 102, 102, 115, 101, 116] : List UInt8), I 23]) (.n 11 (.agg [I 7, I 12, I 4, .s ([120, 111, 102] : List UInt8), I 24]) (.n 12 (.agg [I 8, I 16, I 1, .s ([110, 111, 100, 101] : List UInt8), I 25]) (.n 13 (.agg [I 9, I 17, I 1, .s ([105, 110, 110, 101, 114] : List UInt8), I 26]) .a))))))))) qe (by kernel_rfl) ?_
 refine ag <| Kv HT (eP eI (eP eI (eP eI (eP eS eI)))) [] 14 ([((1 : Int), (0 : Int), (1 : Int), ([100, 105, 103, 101, 115, 116] : List UInt8), (20 : Int)), ((2 : Int), (1 : Int), (1 : Int), ([107, 101, 121] : List UInt8), (8 : Int)), ((3 : Int), (2 : Int), (1 : Int), ([102, 97, 110, 111, 117, 116] : List UInt8), (21 : Int)), ((4 : Int), (3 : Int), (1 : Int), ([100, 101, 112, 116, 104] : List UInt8), (22 : Int)), ((5 : Int), (4 : Int), (4 : Int), ([108, 101, 97, 102] : List UInt8), (1 : Int)), ((6 : Int), (8 : Int), (8 : Int), ([111, 102, 102, 115, 101, 116] : List UInt8), (23 : Int)), ((7 : Int), (12 : Int), (4 : Int), ([120, 111, 102] : List UInt8), (24 : Int)), ((8 : Int), (16 : Int), (1 : Int), ([110, 111, 100, 101] : List UInt8), (25 : Int)), ((9 : Int), (17 : Int), (1 : Int), ([105, 110, 110, 101, 114] : List UInt8), (26 : Int))] : List (Int × Int × Int × List UInt8 × Int)) [(0, .agg [I 1, I 0, I 1, .s ([100, 105, 103, 101, 115, 116] : List UInt8), I 20]), (1, .agg [I 2, I 1, I 1, .s ([107, 101, 121] : List UInt8), I 8]), (2, .agg [I 3, I 2, I 1, .s ([102, 97, 110, 111, 117, 116] : List UInt8), I 21]), (3, .agg [I 4, I 3, I 1, .s ([100, 101, 112, 116, 104] : List UInt8), I 22]), (4, .agg [I 5, I 4, I 4, .s ([108, 101, 97, 102] : List UInt8), I 1]), (5, .agg [I 6, I 8, I 8, .s ([111, 102, 102, 115, 101, 116] : List UInt8), I 23]), (6, .agg [I 7, I 12, I 4, .s ([120, 111, 102] : List UInt8), I 24]), (7, .agg [I 8, I 16, I 1, .s ([110, 111, 100, 101] : List UInt8), I 25]), (8, .agg [I 9, I 17, I 1, .s ([105, 110, 110, 101, 114] : List UInt8), I 26])] [I 1, I 0, I 1, .s ([100, 105, 103, 101, 115, 116] : List UInt8), I 20, I 2, I 1, I 1, .s ([107, 101, 121] : List UInt8), I 8, I 3, I 2, I 1, .s ([102, 97, 110, 111, 117, 116] : List UInt8), I 21, I 4, I 3, I 1, .s ([100, 101, 112, 116, 104] : List UInt8), I 22, I 5, I 4, I 4, .s ([108, 101, 97, 102] : List UInt8), I 1, I 6, I 8, I 8, .s ([111, 102, 102, 115, 101, 116] : List UInt8), I 23, I 7, I 12, I 4, .s ([120, 111, 102] : List UInt8), I 24, I 8, I 16, I 1, .s ([110, 111, 100, 101] : List UInt8), I 25, I 9, I 17, I 1, .s ([105, 110, 110, 101, 114] : List UInt8), I 26] (by kernel_rfl) (by kernel_rfl) (by kernel_rfl) k ?_
 intro A0 w_ db
 refine ba 1 [] (.n 3 (sl A0 9 9) (.jn (.jn (.ss .a)))) qe (by kernel_rfl) ?_
 refine af <| aa <| ab <| ab <| bO [] (.n 16 (.b (decide (k_ = 1))) (.k .z)) qe (by kernel_rfl) ?_
 refine aa <| bu (k_ = 1) (by kernel_rfl) (fun hc => ?_) (fun hc => ?_)
 · rw [if_pos hc] at hm
   refine ab <| bO [] (.n 2 (sl A0 9 9) .z) qe (by kernel_rfl) ?_
   refine aa <| aQ (cJ ?_)
   obtain rfl := Option.some.inj hm
   refine aR [sl A0 9 9] qe (by kernel_rfl) ?_
   exact ⟨A0, 9, 9, db.len 0 rfl, rfl, db⟩
 rw [if_neg hc] at hm
 refine bc <| aa <| ab <| bO [] (.n 4 (sl A0 9 9) .z) qe (by kernel_rfl) ?_
 refine aa <| ab <| an ?_
 obtain ⟨aL, sU, hm⟩ := ob hm
 refine ba 4 [] (.n 20 (sl A0 9 9) (.n 22 (.v (.pointer (fa (nM A0 (5 : Int) 5) 2))) .a)) (qJ (db.rd 0 rfl) sU (db.len 0 rfl) <| qS (A := nM A0 (5 : Int) 5) (xq _ _ (yS (E := (eP eI (eP eI (eP eI (eP eS eI))))) (db.rd 0 rfl) (by decide) (kS sU).1 (eR sU).2)) <| qe) (by kernel_rfl) ?_
 refine ag <| zu (E := (eP eI (eP eI (eP eI (eP eS eI))))) (kk := 2) (sv := I 6) (svs := [I 6]) [] 0 (aL.1, aL.2.1, (6 : Int), aL.2.2.2.1, aL.2.2.2.2) (by kernel_rfl) (Pt.OZ (Pt.x6 A0 (5 : Int) 5) 2) db rfl (eR sU).2 (yS (E := (eP eI (eP eI (eP eI (eP eS eI))))) (db.rd 0 rfl) (by decide) (kS sU).1 (eR sU).2) rfl (Nat.le_of_ble_eq_true (by kernel_rfl)) ?_
 intro k4 dE
 obtain ⟨j5, j9, hm⟩ := ob hm
 refine ba 2 [] (.n 24 (.v (.pointer (fa (nM A0 (6 : Int) 5) 2))) (.ss .a)) (qJ (dE.rd 0 rfl) j9 (dE.len 0 rfl) <| qS (A := nM A0 (6 : Int) 5) (xq _ _ (yS (E := (eP eI (eP eI (eP eI (eP eS eI))))) (dE.rd 0 rfl) (by decide) (kS j9).1 (eR j9).2)) <| qe) (by kernel_rfl) ?_
 refine ag <| zu (E := (eP eI (eP eI (eP eI (eP eS eI))))) (kk := 2) (sv := I 2) (svs := [I 2]) [] 0 (j5.1, j5.2.1, (2 : Int), j5.2.2.2.1, j5.2.2.2.2) (by kernel_rfl) (Pt.OZ (Pt.x6 A0 (6 : Int) 5) 2) dE rfl (eR j9).2 (yS (E := (eP eI (eP eI (eP eI (eP eS eI))))) (dE.rd 0 rfl) (by decide) (kS j9).1 (eR j9).2) rfl (Nat.le_of_ble_eq_true (by kernel_rfl)) ?_
 intro l6 dU
 refine af <| aa <| ab <| an ?_
 obtain ⟨eZ, jZ, hm⟩ := ob hm
 refine ba 4 [] (.n 26 (sl A0 9 9) (.n 28 (.v (.pointer (fa (nM A0 (7 : Int) 5) 1))) (.s .a))) (qJ (dU.rd 0 rfl) jZ (dU.len 0 rfl) <| qS (A := nM A0 (7 : Int) 5) (xq _ _ (yS (E := (eP eI (eP eI (eP eI (eP eS eI))))) (dU.rd 0 rfl) (by decide) (kS jZ).1 (eR jZ).2)) <| qe) (by kernel_rfl) ?_
 refine ag <| zu (E := (eP eI (eP eI (eP eI (eP eS eI))))) (kk := 1) (sv := I 14) (svs := [I 14]) [] 0 (eZ.1, (14 : Int), eZ.2.2.1, eZ.2.2.2.1, eZ.2.2.2.2) (by kernel_rfl) (Pt.OZ (Pt.x6 A0 (7 : Int) 5) 1) dU rfl (eR jZ).2 (yS (E := (eP eI (eP eI (eP eI (eP eS eI))))) (dU.rd 0 rfl) (by decide) (kS jZ).1 (eR jZ).2) rfl (Nat.le_of_ble_eq_true (by kernel_rfl)) ?_
 intro qj eY
 obtain ⟨jT, lA, hm⟩ := ob hm
 refine ba 2 [] (.n 30 (.v (.pointer (fa (nM A0 (8 : Int) 5) 1))) (.ss .a)) (qJ (eY.rd 0 rfl) lA (eY.len 0 rfl) <| qS (A := nM A0 (8 : Int) 5) (xq _ _ (yS (E := (eP eI (eP eI (eP eI (eP eS eI))))) (eY.rd 0 rfl) (by decide) (kS lA).1 (eR lA).2)) <| qe) (by kernel_rfl) ?_
 refine ag ?_
 have fU := eY.de (.k .e)
 refine zu (E := (eP eI (eP eI (eP eI (eP eS eI))))) (kk := 1) (sv := I 15) (svs := [I 15]) [] 0 (jT.1, (15 : Int), jT.2.2.1, jT.2.2.2.1, jT.2.2.2.2) (by kernel_rfl) (Pt.OZ (Pt.x6 A0 (8 : Int) 5) 1) fU rfl (eR lA).2 (yS (E := (eP eI (eP eI (eP eI (eP eS eI))))) (fU.rd 0 rfl) (by decide) (kS lA).1 (eR lA).2) rfl (Nat.le_of_ble_eq_true (by kernel_rfl)) ?_
 intro qk g_
 refine af <| aa <| ab <| bO [] (.n 2 (sl A0 9 9) .z) qe (by kernel_rfl) ?_
 refine aa <| aQ ?_
 obtain rfl := Option.some.inj hm
 refine aR [sl A0 9 9] qe (by kernel_rfl) ?_
 exact ⟨A0, 9, 9, g_.len 0 rfl, rfl, g_⟩
theorem Ay {F O : Nat → Prop} {w : World} (bb : Int) (dy : Int) (bm : Int) (bM : Int) (cY : UInt32) (aV : UInt64) (ca : UInt32) (az : Int) (bE : Int) (bW : List UInt8) (ay : List UInt8) (field : Int) (cD : Option Addr) (iX : Nat) (cE : Nat) (a6 : Option Addr) (ey : Nat) (a7 : Nat) (o7 : Ro F w cD (e8.all bW)) (nD : bW.length = iX) (oN : iX ≤ cE) (kj : Ro F w a6 (e8.all ay)) (jE : ay.length = ey) (kv : ey ≤ a7) (k : Cx F O w w []) (r : UInt64) (hm : pO bb dy bm bM cY aV ca az bE bW ay field = some r) :
    Calls Tryz.prog 103 (ad [.agg [I bb, I dy, I bm, I bM, .u32 cY, .u64 aV, .u32 ca, I az, I bE, sl cD iX cE, sl a6 ey a7], I field]) w (fun e w' => e = .returned (SV.val (.u64 r)) ∧ Cx F O w w' []) := by
 unfold pO at hm
 subst nD
 subst jE
 refine calls [.agg [I bb, I dy, I bm, I bM, .u32 cY, .u64 aV, .u32 ca, I az, I bE, sl cD bW.length cE, sl a6 ay.length a7], I field] Tryz.func103 rfl (of_decide_eq_true (by kernel_rfl)) ?_
 refine ab <| an <| ag <| gF [] 2 (.agg [I bb, I dy, I bm, I bM, .u32 cY, .u64 aV, .u32 ca, I az, I bE, sl cD bW.length cE, sl a6 ay.length a7]) [I bb, I dy, I bm, I bM, .u32 cY, .u64 aV, .u32 ca, I az, I bE, sl cD bW.length cE, sl a6 ay.length a7] (by kernel_rfl) k ?_
 intro g w_ k_
 refine ba 1 [] (.k (.s .a)) qe (by kernel_rfl) ?_
 refine af <| aa <| ab <| ab <| bO [] (.n 5 (I field) (.k .z)) qe (by kernel_rfl) ?_
 refine aa <| cX <| ab <| bO [] (.n 6 (.b (decide (field = 1))) .a) qe (by kernel_rfl) ?_
 refine aa <| bu (field = 1) (by kernel_rfl) (fun hc => ?_) (fun hc => ?_)
 · rw [if_pos hc] at hm
   refine ab <| bO [] (.n 4 (.u64 (UInt64.ofInt bb)) .z) (qs g 0 <| qB k_ 0 rfl 0 (I bb) (by kernel_rfl) <| qe) (by kernel_rfl) ?_
   refine aa <| aQ (mL (cJ ?_))
   obtain rfl := Option.some.inj hm
   refine aR [.u64 (UInt64.ofInt bb)] qe (by kernel_rfl) ?_
   have db := k_.de .z
   exact ⟨rfl, db⟩
 rw [if_neg hc] at hm
 refine ab <| bO [] (.n 11 (.b (decide (field = 2))) (.s .a)) qe (by kernel_rfl) ?_
 refine aa <| bu (field = 2) (by kernel_rfl) (fun k5 => ?_) (fun k5 => ?_)
 · rw [if_pos k5] at hm
   refine ab <| bO [] (.n 4 (.u64 (UInt64.ofInt dy)) .z) (qs g 0 <| qB k_ 0 rfl 1 (I dy) (by kernel_rfl) <| qe) (by kernel_rfl) ?_
   refine aa <| aQ (mL (cJ ?_))
   obtain rfl := Option.some.inj hm
   refine aR [.u64 (UInt64.ofInt dy)] qe (by kernel_rfl) ?_
   have dE := k_.de .z
   exact ⟨rfl, dE⟩
 rw [if_neg k5] at hm
 refine ab <| bO [] (.n 16 (.b (decide (field = 3))) (.s .a)) qe (by kernel_rfl) ?_
 refine aa <| bu (field = 3) (by kernel_rfl) (fun rN => ?_) (fun rN => ?_)
 · rw [if_pos rN] at hm
   refine ab <| bO [] (.n 4 (.u64 (UInt64.ofInt bm)) .z) (qs g 0 <| qB k_ 0 rfl 2 (I bm) (by kernel_rfl) <| qe) (by kernel_rfl) ?_
   refine aa <| aQ (mL (cJ ?_))
   obtain rfl := Option.some.inj hm
   refine aR [.u64 (UInt64.ofInt bm)] qe (by kernel_rfl) ?_
   have dU := k_.de .z
   exact ⟨rfl, dU⟩
 rw [if_neg rN] at hm
 refine ab <| bO [] (.n 21 (.b (decide (field = 4))) (.s .a)) qe (by kernel_rfl) ?_
 refine aa <| bu (field = 4) (by kernel_rfl) (fun xQ => ?_) (fun xQ => ?_)
 · rw [if_pos xQ] at hm
   refine ab <| bO [] (.n 4 (.u64 (UInt64.ofInt bM)) .z) (qs g 0 <| qB k_ 0 rfl 3 (I bM) (by kernel_rfl) <| qe) (by kernel_rfl) ?_
   refine aa <| aQ (mL (cJ ?_))
   obtain rfl := Option.some.inj hm
   refine aR [.u64 (UInt64.ofInt bM)] qe (by kernel_rfl) ?_
   have eY := k_.de .z
   exact ⟨rfl, eY⟩
 rw [if_neg xQ] at hm
 refine ab <| bO [] (.n 26 (.b (decide (field = 5))) (.s .a)) qe (by kernel_rfl) ?_
 refine aa <| bu (field = 5) (by kernel_rfl) (fun Ak => ?_) (fun Ak => ?_)
 · rw [if_pos Ak] at hm
   refine ab <| bO [] (.n 4 (.u64 (UInt64.ofNat cY.toNat)) .z) (qs g 0 <| qB k_ 0 rfl 4 (.u32 cY) (by kernel_rfl) <| qe) (by kernel_rfl) ?_
   refine aa <| aQ (mL (cJ ?_))
   obtain rfl := Option.some.inj hm
   refine aR [.u64 (UInt64.ofNat cY.toNat)] qe (by kernel_rfl) ?_
   have fU := k_.de .z
   exact ⟨rfl, fU⟩
 rw [if_neg Ak] at hm
 refine ab <| bO [] (.n 31 (.b (decide (field = 6))) (.s .a)) qe (by kernel_rfl) ?_
 refine aa <| bu (field = 6) (by kernel_rfl) (fun wm => ?_) (fun wm => ?_)
 · rw [if_pos wm] at hm
   refine ab <| bO [] (.n 4 (.u64 aV) .z) (qs g 0 <| qB k_ 0 rfl 5 (.u64 aV) (by kernel_rfl) <| qe) (by kernel_rfl) ?_
   refine aa <| aQ (mL (cJ ?_))
   obtain rfl := Option.some.inj hm
   refine aR [.u64 aV] qe (by kernel_rfl) ?_
   have g_ := k_.de .z
   exact ⟨rfl, g_⟩
 rw [if_neg wm] at hm
 refine ab <| bO [] (.n 35 (.b (decide (field = 7))) (.s .a)) qe (by kernel_rfl) ?_
 refine aa <| bu (field = 7) (by kernel_rfl) (fun xR => ?_) (fun xR => ?_)
 · rw [if_pos xR] at hm
   refine ab <| bO [] (.n 4 (.u64 (UInt64.ofNat ca.toNat)) .z) (qs g 0 <| qB k_ 0 rfl 6 (.u32 ca) (by kernel_rfl) <| qe) (by kernel_rfl) ?_
   refine aa <| aQ (mL (cJ ?_))
   obtain rfl := Option.some.inj hm
   refine aR [.u64 (UInt64.ofNat ca.toNat)] qe (by kernel_rfl) ?_
   have gC := k_.de .z
   exact ⟨rfl, gC⟩
 rw [if_neg xR] at hm
 refine ab <| bO [] (.n 40 (.b (decide (field = 8))) (.ss .a)) qe (by kernel_rfl) ?_
 refine aa <| bu (field = 8) (by kernel_rfl) (fun IT => ?_) (fun IT => ?_)
 · rw [if_pos IT] at hm
   refine ab <| bO [] (.n 4 (.u64 (UInt64.ofInt az)) .z) (qs g 0 <| qB k_ 0 rfl 7 (I az) (by kernel_rfl) <| qe) (by kernel_rfl) ?_
   refine aa <| aQ (mL (cJ ?_))
   obtain rfl := Option.some.inj hm
   refine aR [.u64 (UInt64.ofInt az)] qe (by kernel_rfl) ?_
   have gP := k_.de .z
   exact ⟨rfl, gP⟩
 rw [if_neg IT] at hm
 refine bc <| lL <| aa <| ab <| bO [] (.n 4 (.u64 (UInt64.ofInt bE)) .z) (qs g 0 <| qB k_ 0 rfl 8 (I bE) (by kernel_rfl) <| qe) (by kernel_rfl) ?_
 refine aa <| aQ ?_
 obtain rfl := Option.some.inj hm
 refine aR [.u64 (UInt64.ofInt bE)] qe (by kernel_rfl) ?_
 have gB := k_.de .z
 exact ⟨rfl, gB⟩
theorem Dd {F O : Nat → Prop} {w : World} (b : List UInt8) (at_ : Int) (size : Int) (v : UInt64) (mq : Option Addr) (py : Nat) (mI : Nat) (PT : Jb) (rO : py ≤ mI) (k : Cx F O w w [Mw e8 mq py b PT]) (r : (List UInt8)) (hm : pW b at_ size v = some r) :
    Calls Tryz.prog 102 (ad [sl mq py mI, I at_, I size, .u64 v]) w (fun e w' => e = .returned (SV.val (.gD [])) ∧ Cx F O w w' [Mw e8 mq py r PT]) := by
 unfold pW at hm
 obtain rfl := k.DY 0 rfl
 refine calls [sl mq b.length mI, I at_, I size, .u64 v] Tryz.func102 rfl (of_decide_eq_true (by kernel_rfl)) ?_
 refine ab <| bO [] (.n 9 (I size) (.n 10 (I 0) (.kk (.s .a)))) qe (by kernel_rfl) ?_
 refine aa <| cX <| rv (mP at_ size v) (fun s L wr => ∃ (b1 : List UInt8) (aL : Int), (b1, aL) = s ∧ L = [(0, sl mq b.length mI), (1, I at_), (3, .u64 v), (9, I size), (10, I aL)] ∧ Cx F O w wr [Mw e8 mq b.length b1 PT]) (b, (0 : Int)) r hm ⟨b, (0 : Int), rfl, rfl, k⟩ (by kernel_rfl) ?_
 intro Al L_ w_ y0 kE dY rP
 obtain ⟨b1, aL, rfl, rfl, k_⟩ := kE
 have hm := dY; simp only [mP] at hm
 clear dY
 refine ab <| bO [] (.n 11 (.b (decide (aL < size))) .a) qe (by kernel_rfl) ?_
 refine aa <| ab <| bu (aL < size) (by kernel_rfl) (fun hc => ?_) (fun hc => ?_)
 · rw [if_pos hc] at hm
   refine bc <| aa <| ab <| cX <| ab <| bO [] (.n 8 (I aL) (.s .a)) qe (by kernel_rfl) ?_
   refine aa <| an ?_
   obtain ⟨u, wT, hm⟩ := ob hm
   obtain ⟨j5, j9, hm⟩ := ob hm
   refine ba 10 [] (.n 21 (.u8 (UInt8.ofNat (aK v (Int.toNat (aD (8 * aL)))).toNat)) (.n 22 (.v (.pointer (nM mq (aD (at_ + aL)) 1))) (.s .a))) (qp (0 ≤ aD (8 * aL)) (fI wT) <| qJ (k_.OV 0 rfl) j9 (k_.DY 0 rfl) <| qe) (by kernel_rfl) ?_
   refine ag <| G1 (E := e8) (kk := 0) (sv := .u8 (UInt8.ofNat (aK v (Int.toNat (aD (8 * aL)))).toNat)) (svs := [.u8 (UInt8.ofNat (aK v (Int.toNat (aD (8 * aL)))).toNat)]) [] 0 (UInt8.ofNat (aK v (Int.toNat (aD (8 * aL)))).toNat) (by kernel_rfl) (Pt.x6 mq (aD (at_ + aL)) 1) k_ rfl (eR j9).2 (yS (E := e8) (k_.OV 0 rfl) (by decide) (kS j9).1 (eR j9).2) rfl (Nat.le_of_ble_eq_true (by kernel_rfl)) ?_
   intro k4 db
   refine af <| lL <| aa <| bO [] (.n 10 (I (aD (aL + 1))) (.ss (.bX .z))) qe (by kernel_rfl) ?_
   exact mN (b1.set (Int.toNat (aD (at_ + aL))) (UInt8.ofNat (aK v (Int.toNat (aD (8 * aL)))).toNat), aD (aL + 1)) (Option.some.inj hm).symm ⟨b1.set (Int.toNat (aD (at_ + aL))) (UInt8.ofNat (aK v (Int.toNat (aD (8 * aL)))).toNat), aD (aL + 1), rfl, rfl, db⟩ (by kernel_rfl)
 rw [if_neg hc] at hm
 refine jr (gk (gk (lT ?_)))
 have hm := iv hm rP
 obtain rfl := Option.some.inj hm
 refine px [] qe (by kernel_rfl) ?_
 exact ⟨rfl, k_⟩
theorem zN {F O : Nat → Prop} {w : World} (k_ : Int) (bb : Int) (dy : Int) (bm : Int) (bM : Int) (cY : UInt32) (aV : UInt64) (ca : UInt32) (az : Int) (bE : Int) (bW : List UInt8) (ay : List UInt8) (cD : Option Addr) (iX : Nat) (cE : Nat) (a6 : Option Addr) (ey : Nat) (a7 : Nat) (o7 : Ro F w cD (e8.all bW)) (nD : bW.length = iX) (oN : iX ≤ cE) (kj : Ro F w a6 (e8.all ay)) (jE : ay.length = ey) (kv : ey ≤ a7) (k : Cx F O w w []) (r : (List UInt8 × Int)) (hm : kG k_ bb dy bm bM cY aV ca az bE bW ay = some r) :
    Calls Tryz.prog 86 (ad [I k_, .agg [I bb, I dy, I bm, I bM, .u32 cY, .u64 aV, .u32 ca, I az, I bE, sl cD iX cE, sl a6 ey a7]]) w (fun e w' => ∃ A n c, r.1.length = n ∧ e = .returned (SV.val (.gD [sl A n c, I r.2])) ∧ Cx F O w w' [Ow e8 A n c r.1]) := by
 unfold kG at hm
 subst nD
 subst jE
 refine calls [I k_, .agg [I bb, I dy, I bm, I bM, .u32 cY, .u64 aV, .u32 ca, I az, I bE, sl cD bW.length cE, sl a6 ay.length a7]] Tryz.func86 rfl (of_decide_eq_true (by kernel_rfl)) ?_
 refine ab <| an <| ag <| gF [] 3 (.agg [I bb, I dy, I bm, I bM, .u32 cY, .u64 aV, .u32 ca, I az, I bE, sl cD bW.length cE, sl a6 ay.length a7]) [I bb, I dy, I bm, I bM, .u32 cY, .u64 aV, .u32 ca, I az, I bE, sl cD bW.length cE, sl a6 ay.length a7] (by kernel_rfl) k ?_
 intro g w_ db
 refine ba 2 [] (.kk .z) qe (by kernel_rfl) ?_
 refine af <| aa <| ab <| ab <| an <| ba 2 [] (.n 13 (I k_) (.n 14 (.agg [I bb, I dy, I bm, I bM, .u32 cY, .u64 aV, .u32 ca, I az, I bE, sl cD bW.length cE, sl a6 ay.length a7]) .a)) (qT db 0 rfl 0 11 [I bb, I dy, I bm, I bM, .u32 cY, .u64 aV, .u32 ca, I az, I bE, sl cD bW.length cE, sl a6 ay.length a7] (by kernel_rfl) (by decide) <| qe) (by kernel_rfl) ?_
 refine ag ?_
 obtain ⟨r_, cQ, hm⟩ := ob hm
 refine au [] 15 _ E7 (by kernel_rfl) (wk (F := N0) (O := N0) _ _ _ _ _ _ _ _ _ _ _ _ _ _ _ _ _ _ (Ro.n0 (o7.cx db)) rfl oN (Ro.n0 (kj.cx db)) rfl kv (Cx.refl _) _ cQ) ?_
 rintro e_ k4 ⟨rfl, dE⟩
 have dU := db.call dE
 refine ⟨I r_, rfl, ?_⟩
 refine ba 1 [] (.n 6 (I r_) (.oQ .a)) qe (by kernel_rfl) ?_
 refine af <| aa <| ab <| bO [] (.n 17 (.b (decide (r_ ≠ 0))) .a) qe (by kernel_rfl) ?_
 refine aa <| bu (r_ ≠ 0) (by kernel_rfl) (fun hc => ?_) (fun hc => ?_)
 · rw [if_pos hc] at hm
   refine ab <| bO [] (.n 4 (sl none 0 0) (.n 5 (I r_) .z)) qe (by kernel_rfl) ?_
   refine aa <| aQ (cJ ?_)
   have eY := dU.nil e8
   obtain rfl := Option.some.inj hm
   refine aR [sl none 0 0, I r_] qe (by kernel_rfl) ?_
   have fU := eY.de (.s (.k .e))
   exact ⟨none, 0, 0, fU.len 0 rfl, rfl, fU⟩
 rw [if_neg hc] at hm
 refine bc <| aa <| ab <| an <| ba 1 [] (.n 20 (I k_) (.ss .a)) qe (by kernel_rfl) ?_
 refine ag ?_
 obtain ⟨ah, dd, hm⟩ := ob hm
 refine au [] 21 _ Fg (by kernel_rfl) (wj (F := N0) (O := N0) _ (Cx.refl _) _ dd) ?_
 rintro e_ l6 ⟨rfl, g_⟩
 have gC := dU.call g_
 refine ⟨.gD [I ah.1, I ah.2.1, I ah.2.2], rfl, ?_⟩
 refine ba 7 [] (.n 7 (I ah.1) (.n 9 (I ah.2.2) (.ss .a))) qe (by kernel_rfl) ?_
 refine af <| aa <| ab <| an <| ba 1 [] (.n 25 (I ah.1) .a) qe (by kernel_rfl) ?_
 refine ag ?_
 obtain ⟨u, wT, hm⟩ := ob hm
 refine vp iJ e8 (0 : UInt8) rfl [] 26 (I ah.1) (I ah.1) ah.1 ah.1 (by kernel_rfl) (fI wT).1 (fI wT).2.1 (fI wT).2.2 gC ?_
 intro A0 qj gP
 refine ba 1 [] (.n 10 (sl A0 (Int.toNat ah.1) (Int.toNat ah.1)) (.ss .a)) qe (by kernel_rfl) ?_
 refine af <| aa <| ab <| ab <| an <| ba 1 [] (.n 27 (I k_) (.bX .z)) qe (by kernel_rfl) ?_
 refine ag ?_
 have gB := gP.de (.kk .e)
 obtain ⟨aX, hK, hm⟩ := ob hm
 refine au [] 28 _ Hu (by kernel_rfl) (B4 (F := N0) (O := N0) _ (Cx.refl _) _ hK) ?_
 rintro e_ qk ⟨A1, _, c0, rfl, rfl, dO⟩
 have cV := gB.call dO
 refine ⟨sl A1 aX.length c0, rfl, ?_⟩
 refine ba 2 [] (.n 29 (I ((aX.length : Nat) : Int)) (.n 30 (I 0) (.k (.s .a)))) qe (by kernel_rfl) ?_
 refine af <| aa <| cX <| rv (jU bb dy bm bM cY aV ca az bE bW ay ah aX) (fun s L wr => ∃ (b : List UInt8) (aL : Int), (b, aL) = s ∧ L = [(3, pt g 0), (7, I ah.1), (9, I ah.2.2), (10, sl A0 (Int.toNat ah.1) (Int.toNat ah.1)), (28, sl A1 aX.length c0), (29, I ((aX.length : Nat) : Int)), (30, I aL)] ∧ Cx F O w wr [Bx 117 g [I bb, I dy, I bm, I bM, .u32 cY, .u64 aV, .u32 ca, I az, I bE, sl cD bW.length cE, sl a6 ay.length a7], Ow e8 A0 (Int.toNat ah.1) (Int.toNat ah.1) b, Ow (eP eI (eP eI (eP eI (eP eS eI)))) A1 aX.length c0 aX]) (List.replicate (Int.toNat ah.1) (0 : UInt8), (0 : Int)) r hm ⟨List.replicate (Int.toNat ah.1) (0 : UInt8), (0 : Int), rfl, rfl, cV⟩ (by kernel_rfl) ?_
 intro Al L_ rX y0 kE dY rP
 obtain ⟨b, aL, rfl, rfl, ff⟩ := kE
 have hm := dY; simp only [jU] at hm
 clear dY
 refine ab <| bO [] (.n 31 (.b (decide (aL < ((aX.length : Nat) : Int)))) .a) qe (by kernel_rfl) ?_
 refine aa <| ab <| bu (aL < ((aX.length : Nat) : Int)) (by kernel_rfl) (fun k5 => ?_) (fun k5 => ?_)
 · rw [if_pos k5] at hm
   refine bc <| aa <| l4 (fun L wr => ∃ (b1 : List UInt8), mB aL b1 = some y0 ∧ L = [(3, pt g 0), (7, I ah.1), (9, I ah.2.2), (10, sl A0 (Int.toNat ah.1) (Int.toNat ah.1)), (28, sl A1 aX.length c0), (29, I ((aX.length : Nat) : Int)), (30, I aL)] ∧ Cx F O w wr [Bx 117 g [I bb, I dy, I bm, I bM, .u32 cY, .u64 aV, .u32 ca, I az, I bE, sl cD bW.length cE, sl a6 ay.length a7], Ow e8 A0 (Int.toNat ah.1) (Int.toNat ah.1) b1, Ow (eP eI (eP eI (eP eI (eP eS eI)))) A1 aX.length c0 aX]) ?_ ?_
   ·
    refine DV (fun L wr => ∃ (b2 : List UInt8), ln aL b2 = some y0 ∧ L = [(3, pt g 0), (7, I ah.1), (9, I ah.2.2), (10, sl A0 (Int.toNat ah.1) (Int.toNat ah.1)), (28, sl A1 aX.length c0), (29, I ((aX.length : Nat) : Int)), (30, I aL)] ∧ Cx F O w wr [Bx 117 g [I bb, I dy, I bm, I bM, .u32 cY, .u64 aV, .u32 ca, I az, I bE, sl cD bW.length cE, sl a6 ay.length a7], Ow e8 A0 (Int.toNat ah.1) (Int.toNat ah.1) b2, Ow (eP eI (eP eI (eP eI (eP eS eI)))) A1 aX.length c0 aX]) ?_ ?_
    ·
     refine ab <| an ?_
     obtain ⟨eZ, jZ, hm⟩ := ob hm
     refine ba 2 [] (.n 33 (.agg [I eZ.1, I eZ.2.1, I eZ.2.2.1, .s eZ.2.2.2.1, I eZ.2.2.2.2]) (.s .a)) (qJ (ff.rd 2 rfl) jZ (ff.len 2 rfl) <| qR [I eZ.1, I eZ.2.1, I eZ.2.2.1, .s eZ.2.2.2.1, I eZ.2.2.2.2] (Rd.RQ (k := 0) (m := 5) (ff.rd 2 rfl) jZ (Pt.x6 A1 aL 5) rfl (by decide) (by decide)) <| qe) (by kernel_rfl) ?_
     refine ag <| bT [] 12 [I 0, I 0, I 0, .s ([] : List UInt8), I 0] (by kernel_rfl) ff ?_
     intro g1 wQ gI
     refine ag <| en [] 3 (.agg [I eZ.1, I eZ.2.1, I eZ.2.2.1, .s eZ.2.2.2.1, I eZ.2.2.2.2]) [I eZ.1, I eZ.2.1, I eZ.2.2.1, .s eZ.2.2.2.1, I eZ.2.2.2.2] (Pt.at g1 0) gI rfl .all (by kernel_rfl) (by kernel_rfl) ?_
     intro wR ez
     refine af <| aa <| ab <| ab <| bO [] (.n 41 (.b ((decide (eZ.1 = 7)) && (decide (ca = 0)))) (.k (.s .a))) (qs g1 0 <| qB ez 3 rfl 0 (I eZ.1) (by kernel_rfl) <| qp ((decide (eZ.1 = 7)) = true → (some ⟨g, 0, none⟩ : Option Addr).isSome = true) (fun F2 => rfl) <| qo (.u32 ca) <| qc (fun w => (decide (eZ.1 = 7)) = true → ∃ a, (some ⟨g, 6, none⟩ : Option Addr) = some a ∧ w.cell? a = some (SV.val (.u32 ca))) (fun F2 => ez.M9 0 rfl 6 (.u32 ca) (by kernel_rfl)) <| qe) (by kernel_rfl) ?_
     refine aa <| cm ((decide (eZ.1 = 7)) && (decide (ca = 0))) (by kernel_rfl) (fun rN => ?_) (fun rN => ?_)
     · rw [if_pos rN] at hm
       refine jr (gk (lT ?_))
       have jj := ez.de (.kk (.k .z))
       exact jS ⟨b, hm, rfl, jj⟩ (by kernel_rfl)
     rw [if_neg (by rw [rN]; decide)] at hm
     refine bc <| aa ?_
     have gQ := ez.drew 1
     refine qO bK (.q 5 0 (.q 0 1 (.q 1 1 (.q 2 1 (.q 3 1 (.q 4 1 (.q 6 1 (.q 7 0 (.op 8 (.op 9 .nil)))))))))) [8, 9] gQ (.c (.bX .e) (.c (.k (.s (.kk .e))) .l)) (by kernel_rfl) (fun _ => ?_)
     refine cK 1 0 [] (.n 47 (.agg [I bb, I dy, I bm, I bM, .u32 cY, .u64 aV, .u32 ca, I az, I bE, sl cD bW.length cE, sl a6 ay.length a7]) (.s .a)) (fun x hx => qT hx 0 rfl 0 11 [I bb, I dy, I bm, I bM, .u32 cY, .u64 aV, .u32 ca, I az, I bE, sl cD bW.length cE, sl a6 ay.length a7] (by kernel_rfl) (by decide) <| qe) (by kernel_rfl) (fun _ => ?_)
     refine cK 6 1 [] (.n 42 (sl A0 (Int.toNat ah.1) (Int.toNat ah.1)) (.n 44 (I eZ.2.1) (.n 46 (I eZ.2.2.1) (.n 48 (pt g1 0) (.k (.s .a)))))) (fun x hx => qs g1 0 <| qB hx 3 rfl 1 (I eZ.2.1) (by kernel_rfl) <| qs g1 0 <| qB hx 3 rfl 2 (I eZ.2.2.1) (by kernel_rfl) <| qs g1 0 <| qe) (by kernel_rfl) (fun _ => ?_)
     refine cK 1 0 [] (.n 49 (I eZ.1) (.uk (.s .a))) (fun x hx => qB hx 3 rfl 0 (I eZ.1) (by kernel_rfl) <| qe) (by kernel_rfl) (fun _ => ?_)
     refine cC (by kernel_rfl) rfl ?_
     obtain ⟨eK, nX, hm⟩ := ob hm
     refine au [] 50 _ Hw (by kernel_rfl) (Ay (F := N0) (O := N0) _ _ _ _ _ _ _ _ _ _ _ _ _ _ _ _ _ _ (Ro.n0 (o7.cx gQ)) rfl oN (Ro.n0 (kj.cx gQ)) rfl kv (Cx.refl _) _ nX) ?_
     rintro e_ Av ⟨rfl, kV⟩
     have lz := gQ.call kV
     refine ⟨.u64 eK, rfl, ?_⟩
     refine ⟨lz, fun _ => ?_⟩
     refine cC (by kernel_rfl) rfl ?_
     obtain ⟨G, hG, k6⟩ := lz.NJ 1 rfl
     obtain ⟨gl, sT, hm⟩ := ob hm
     obtain ⟨F1, O1, lQ, hO, rp, hF, hb⟩ := k6.go (.r (.i (.r (.r .e))))
     refine au [] 51 _ Hv (by kernel_rfl) (Dd (F := F1) (O := O1) _ _ _ _ _ _ _ _ (lz.Ap 1 rfl) lQ _ sT) ?_
     rintro e_ DE ⟨rfl, lJ⟩
     have my := hb DE _ _ lJ (.c .n)
     refine ⟨.gD [], rfl, ?_⟩
     have nE := my.NK hG 0 rfl
     refine ⟨(nE.de (.s (.kk (.k .e)))), fun _ => ?_⟩
     refine d_ <| lL ?_
     have nh := (((nE.pk (.t (.t .h))).pk (.t .h)).pk (.t (.t .h))).de (.kk (.k .z))
     exact jS ⟨gl, hm, rfl, nh⟩ (by kernel_rfl)
    rintro L_ Aw ⟨b2, hm, rfl, mz⟩
    simp only [ln] at hm
    exact jS ⟨b2, hm, rfl, mz⟩ (by kernel_rfl)
   rintro L_ De ⟨b1, hm, rfl, sw⟩
   simp only [mB] at hm
   refine bO [] (.n 30 (I (aD (aL + 1))) (.bX (.kk .z))) qe (by kernel_rfl) ?_
   exact mN (b1, aD (aL + 1)) (Option.some.inj hm).symm ⟨b1, aD (aL + 1), rfl, rfl, sw⟩ (by kernel_rfl)
 rw [if_neg k5] at hm
 refine jr (gk (gk (lT ?_)))
 have hm := iv hm rP
 refine aa <| ab ?_
 have re := ff.drew 1
 refine qO bK (.q 0 0 (.q 6 0 (.q 7 0 (.q 1 1 (.q 2 1 (.q 3 1 (.q 4 0 (.q 5 0 (.op 8 .nil))))))))) [8] re (.c (.k (.s (.k .e))) .l) (by kernel_rfl) (fun _ => ?_)
 refine cK 3 0 [] (.n 53 (sl A0 (Int.toNat ah.1) (Int.toNat ah.1)) (.n 60 (sl cD bW.length cE) (.s (.bX .z)))) (fun x hx => qs g 0 <| qB hx 0 rfl 9 (sl cD bW.length cE) (by kernel_rfl) <| qe) (by kernel_rfl) (fun _ => ?_)
 refine cK 3 1 [] (.n 54 (I ah.1) (.n 56 (I (aD (2 * ah.2.2))) .a)) (fun x hx => qe) (by kernel_rfl) (fun _ => ?_)
 obtain ⟨b3, Az, hm⟩ := ob hm
 have hs := iB Az
 have hl := lh Az
 have hn : b.length = Int.toNat ah.1 := (re.len 1 rfl)
 have xQ : Int.toNat ah.1 ≤ Int.toNat ah.1 := (re.Ap 1 rfl)
 obtain ⟨A2, c1, e_, Ak, hA, wm⟩ := Kx A0 (Int.toNat (aD (ah.1 - (aD (2 * ah.2.2))))) (Int.toNat ah.1) 1 (Int.toNat ah.1 - Int.toNat (aD (ah.1 - (aD (2 * ah.2.2))))) b3.length (by omega) (by omega)
 refine cK 2 0 [] (.n 58 (sl A2 b3.length c1) (.oQ .a)) (fun x hx => qp (0 ≤ aD (ah.1 - (aD (2 * ah.2.2))) ∧ aD (ah.1 - (aD (2 * ah.2.2))) ≤ ((Int.toNat ah.1 : Nat) : Int)) (by omega) <| qo (.v (.slice A2 b3.length c1)) <| qp (Value.slice (sD A0 (Int.toNat (aD (ah.1 - (aD (2 * ah.2.2))))) (Int.toNat ah.1) 1) (Int.toNat ah.1 - Int.toNat (aD (ah.1 - (aD (2 * ah.2.2))))) (Int.toNat ah.1 - Int.toNat (aD (ah.1 - (aD (2 * ah.2.2))))) = .slice A2 b3.length c1) e_ <| qe) (by kernel_rfl) (fun _ => ?_)
 refine cC (by kernel_rfl) rfl <| G4 (E := e8) (dn := b3.length) (dc := c1) (v := sl cD bW.length cE) (src := bW) (lo := Int.toNat (aD (ah.1 - (aD (2 * ah.2.2))))) (m' := Int.toNat ah.1) iJ [] 61 1 (by kernel_rfl) hA rfl (by omega) re rfl (Src.sl (o7.cx re) rfl (by rfl)) rfl (by have := re.len 1 rfl; omega) ?_
 intro Ef yU
 refine ⟨(yU.de (.k (.s (.k .e)))), fun _ => ?_⟩
 refine d_ <| aa <| ab ?_
 have u7 := yU.drew 1
 refine qO bK (.q 0 0 (.q 5 0 (.q 6 0 (.q 1 1 (.q 2 1 (.q 3 0 (.q 4 0 (.op 7 .nil)))))))) [7] u7 (.c (.k (.s (.k .e))) .l) (by kernel_rfl) (fun _ => ?_)
 refine cK 3 0 [] (.n 62 (sl A0 (Int.toNat ah.1) (Int.toNat ah.1)) (.n 68 (sl a6 ay.length a7) (.jn .a))) (fun x hx => qs g 0 <| qB hx 0 rfl 10 (sl a6 ay.length a7) (by kernel_rfl) <| qe) (by kernel_rfl) (fun _ => ?_)
 refine cK 2 1 [] (.n 63 (I ah.1) (.n 64 (I ah.2.2) (.kk (.ss .a)))) (fun x hx => qe) (by kernel_rfl) (fun _ => ?_)
 obtain ⟨b4, F4, hm⟩ := ob hm
 have O3 := iB F4
 have Gv := lh F4
 have O4 : (DC b (Int.toNat (aD (ah.1 - (aD (2 * ah.2.2))))) b3.length bW).length = Int.toNat ah.1 := (u7.len 1 rfl)
 have xR : Int.toNat ah.1 ≤ Int.toNat ah.1 := (u7.Ap 1 rfl)
 obtain ⟨A3, c2, Ti, IT, Tj, KK⟩ := Kx A0 (Int.toNat (aD (ah.1 - ah.2.2))) (Int.toNat ah.1) 1 (Int.toNat ah.1 - Int.toNat (aD (ah.1 - ah.2.2))) b4.length (by omega) (by omega)
 refine cK 2 0 [] (.n 66 (sl A3 b4.length c2) (.oQ .a)) (fun x hx => qp (0 ≤ aD (ah.1 - ah.2.2) ∧ aD (ah.1 - ah.2.2) ≤ ((Int.toNat ah.1 : Nat) : Int)) (by omega) <| qo (.v (.slice A3 b4.length c2)) <| qp (Value.slice (sD A0 (Int.toNat (aD (ah.1 - ah.2.2))) (Int.toNat ah.1) 1) (Int.toNat ah.1 - Int.toNat (aD (ah.1 - ah.2.2))) (Int.toNat ah.1 - Int.toNat (aD (ah.1 - ah.2.2))) = .slice A3 b4.length c2) Ti <| qe) (by kernel_rfl) (fun _ => ?_)
 refine cC (by kernel_rfl) rfl <| G4 (E := e8) (dn := b4.length) (dc := c2) (v := sl a6 ay.length a7) (src := ay) (lo := Int.toNat (aD (ah.1 - ah.2.2))) (m' := Int.toNat ah.1) iJ [] 69 1 (by kernel_rfl) Tj rfl (by omega) u7 rfl (Src.sl (kj.cx u7) rfl (by rfl)) rfl (by have := u7.len 1 rfl; omega) ?_
 intro LF yp
 refine ⟨(yp.de (.k (.s (.k .e)))), fun _ => ?_⟩
 refine d_ <| aa <| ab <| bO [] (.n 4 (sl A0 (Int.toNat ah.1) (Int.toNat ah.1)) (.n 5 (I 0) .z)) qe (by kernel_rfl) ?_
 refine aa <| aQ ?_
 obtain rfl := Option.some.inj hm
 refine aR [sl A0 (Int.toNat ah.1) (Int.toNat ah.1), I 0] qe (by kernel_rfl) ?_
 have yq := yp.de (.s (.k .z))
 exact ⟨A0, Int.toNat ah.1, Int.toNat ah.1, yq.len 0 rfl, rfl, yq⟩
theorem Bj {F O : Nat → Prop} {w : World} (k : Cx F O w w []) (r : (ae UInt64 8)) (hm : sQ = some r) :
    Calls Tryz.prog 145 (ad []) w (fun e w' => e = .returned (SV.val (.agg [.ar cj r])) ∧ Cx F O w w' []) := by
 unfold sQ at hm
 refine calls [] Tryz.func145 rfl (of_decide_eq_true (by kernel_rfl)) ?_
 refine ab <| an <| ag <| bT [] 0 [.ar cj (ae.rep 8 (0 : UInt64))] (by kernel_rfl) k ?_
 intro g w_ k_
 refine af <| aa <| ab <| an <| ba 1 [] (.n 1 (.agg [.ar cj (⟨[(7640891576956012808 : UInt64), (13503953896175478587 : UInt64), (4354685564936845355 : UInt64), (11912009170470909681 : UInt64), (5840696475078001361 : UInt64), (11170449401992604703 : UInt64), (2270897969802886507 : UInt64), (6620516959819538809 : UInt64)], rfl⟩ : ae UInt64 8)]) .a) qe (by kernel_rfl) ?_
 refine ag <| en [] 0 (.agg [.ar cj (⟨[(7640891576956012808 : UInt64), (13503953896175478587 : UInt64), (4354685564936845355 : UInt64), (11912009170470909681 : UInt64), (5840696475078001361 : UInt64), (11170449401992604703 : UInt64), (2270897969802886507 : UInt64), (6620516959819538809 : UInt64)], rfl⟩ : ae UInt64 8)]) [.ar cj (⟨[(7640891576956012808 : UInt64), (13503953896175478587 : UInt64), (4354685564936845355 : UInt64), (11912009170470909681 : UInt64), (5840696475078001361 : UInt64), (11170449401992604703 : UInt64), (2270897969802886507 : UInt64), (6620516959819538809 : UInt64)], rfl⟩ : ae UInt64 8)] (Pt.at g 0) k_ rfl .all (by kernel_rfl) (by kernel_rfl) ?_
 intro k4 db
 refine af <| aa <| aQ ?_
 obtain rfl := Option.some.inj hm
 refine aR [.agg [.ar cj (⟨[(7640891576956012808 : UInt64), (13503953896175478587 : UInt64), (4354685564936845355 : UInt64), (11912009170470909681 : UInt64), (5840696475078001361 : UInt64), (11170449401992604703 : UInt64), (2270897969802886507 : UInt64), (6620516959819538809 : UInt64)], rfl⟩ : ae UInt64 8)]] (qo (.agg [.ar cj (⟨[(7640891576956012808 : UInt64), (13503953896175478587 : UInt64), (4354685564936845355 : UInt64), (11912009170470909681 : UInt64), (5840696475078001361 : UInt64), (11170449401992604703 : UInt64), (2270897969802886507 : UInt64), (6620516959819538809 : UInt64)], rfl⟩ : ae UInt64 8)]) <| qc (fun w => Rd w (some ⟨g, 0, none⟩) (SV.cl [.ar cj (⟨[(7640891576956012808 : UInt64), (13503953896175478587 : UInt64), (4354685564936845355 : UInt64), (11912009170470909681 : UInt64), (5840696475078001361 : UInt64), (11170449401992604703 : UInt64), (2270897969802886507 : UInt64), (6620516959819538809 : UInt64)], rfl⟩ : ae UInt64 8)])) (db.uz 0 rfl) <| qe) (by kernel_rfl) ?_
 have dE := db.de .z
 exact ⟨rfl, dE⟩
theorem yN {F O : Nat → Prop} {w : World} (b : List UInt8) (at_ : Int) (n : Int) (mq : Option Addr) (py : Nat) (mI : Nat) (qH : Ro F w mq (e8.all b)) (qK : b.length = py) (rO : py ≤ mI) (k : Cx F O w w []) (r : (UInt64 × Int)) (hm : oH b at_ n = some r) :
    Calls Tryz.prog 71 (ad [sl mq py mI, I at_, I n]) w (fun e w' => e = .returned (SV.val (.gD [.u64 r.1, I r.2])) ∧ Cx F O w w' []) := by
 unfold oH at hm
 subst qK
 refine calls [sl mq b.length mI, I at_, I n] Tryz.func71 rfl (of_decide_eq_true (by kernel_rfl)) ?_
 refine ab <| bO [] .a qe (by kernel_rfl) ?_
 refine aa <| ab <| ab <| bO [] (.n 11 (.b (decide (at_ < 0))) .a) qe (by kernel_rfl) ?_
 refine aa <| bu (at_ < 0) (by kernel_rfl) (fun hc => ?_) (fun hc => ?_)
 · rw [if_pos hc] at hm
   refine ab <| bO [] (.n 6 (.u64 0) (.n 7 (I 1) .z)) qe (by kernel_rfl) ?_
   refine aa <| aQ (cJ ?_)
   obtain rfl := Option.some.inj hm
   refine aR [.u64 0, I 1] qe (by kernel_rfl) ?_
   exact ⟨rfl, k⟩
 rw [if_neg hc] at hm
 refine bc <| aa <| ab <| ab <| bO [] (.n 23 (.b ((decide (((b.length : Nat) : Int) < at_)) || (decide ((aD (((b.length : Nat) : Int) - at_)) < n)))) (.s .a)) qe (by kernel_rfl) ?_
 refine aa <| cm ((decide (((b.length : Nat) : Int) < at_)) || (decide ((aD (((b.length : Nat) : Int) - at_)) < n))) (by kernel_rfl) (fun k5 => ?_) (fun k5 => ?_)
 · rw [if_pos k5] at hm
   refine ab <| bO [] (.n 6 (.u64 0) (.n 7 (I 3) .z)) qe (by kernel_rfl) ?_
   refine aa <| aQ (cJ ?_)
   obtain rfl := Option.some.inj hm
   refine aR [.u64 0, I 3] qe (by kernel_rfl) ?_
   exact ⟨rfl, k⟩
 rw [if_neg (by rw [k5]; decide)] at hm
 refine bc <| aa <| ab <| bO [] (.n 8 (.u64 0) (.s .a)) qe (by kernel_rfl) ?_
 refine aa <| ab <| ab <| bO [] (.n 24 (I n) (.n 25 (I 0) (.uk .z))) qe (by kernel_rfl) ?_
 refine aa <| cX <| rv (oT b at_ n) (fun s L wr => ∃ (w_ : UInt64) (aL : Int), (w_, aL) = s ∧ L = [(0, sl mq b.length mI), (1, I at_), (8, .u64 w_), (24, I n), (25, I aL)] ∧ Cx F O w wr []) ((0 : UInt64), (0 : Int)) r hm ⟨(0 : UInt64), (0 : Int), rfl, rfl, k⟩ (by kernel_rfl) ?_
 intro Al L_ k4 y0 kE dY rP
 obtain ⟨w_, aL, rfl, rfl, k_⟩ := kE
 have hm := dY; simp only [oT] at hm
 clear dY
 refine ab <| bO [] (.n 26 (.b (decide (aL < n))) .a) qe (by kernel_rfl) ?_
 refine aa <| ab <| bu (aL < n) (by kernel_rfl) (fun rN => ?_) (fun rN => ?_)
 · rw [if_pos rN] at hm
   refine bc <| aa <| ab <| cX <| ab <| bO [] (.n 9 (I aL) (.s .a)) qe (by kernel_rfl) ?_
   refine aa ?_
   obtain ⟨eZ, jZ, hm⟩ := ob hm
   obtain ⟨u, wT, hm⟩ := ob hm
   refine bO [] (.n 8 (.u64 (w_ ||| (aC (UInt64.ofNat eZ.toNat) (Int.toNat (aD (8 * aL)))))) (.s (.kk (.s .a)))) (qW (qH.cx k_) jZ rfl (.u8 eZ) rfl <| qp (0 ≤ aD (8 * aL)) (fI wT) <| qe) (by kernel_rfl) ?_
   refine lL <| aa <| bO [] (.n 25 (I (aD (aL + 1))) (.bX .z)) qe (by kernel_rfl) ?_
   exact mN (w_ ||| (aC (UInt64.ofNat eZ.toNat) (Int.toNat (aD (8 * aL)))), aD (aL + 1)) (Option.some.inj hm).symm ⟨w_ ||| (aC (UInt64.ofNat eZ.toNat) (Int.toNat (aD (8 * aL)))), aD (aL + 1), rfl, rfl, k_⟩ (by kernel_rfl)
 rw [if_neg rN] at hm
 refine jr (gk (gk (lT ?_)))
 have hm := iv hm rP
 refine aa <| ab <| bO [] (.n 6 (.u64 w_) (.n 7 (I 0) .z)) qe (by kernel_rfl) ?_
 refine aa <| aQ ?_
 obtain rfl := Option.some.inj hm
 refine aR [.u64 w_, I 0] qe (by kernel_rfl) ?_
 exact ⟨rfl, k_⟩
theorem pQ {F O : Nat → Prop} {w : World} (b : List UInt8) (at_ : Int) (mq : Option Addr) (py : Nat) (mI : Nat) (qH : Ro F w mq (e8.all b)) (qK : b.length = py) (rO : py ≤ mI) (k : Cx F O w w []) (r : (UInt64 × Int)) (hm : iM b at_ = some r) :
    Calls Tryz.prog 40 (ad [sl mq py mI, I at_]) w (fun e w' => e = .returned (SV.val (.gD [.u64 r.1, I r.2])) ∧ Cx F O w w' []) := by
 unfold iM at hm
 subst qK
 refine calls [sl mq b.length mI, I at_] Tryz.func40 rfl (of_decide_eq_true (by kernel_rfl)) ?_
 refine ab <| bO [] .a qe (by kernel_rfl) ?_
 refine aa <| ab <| an <| ba 2 [] (.n 6 (sl mq b.length mI) (.n 7 (I at_) .z)) qe (by kernel_rfl) ?_
 refine ag ?_
 obtain ⟨r_, cQ, hm⟩ := ob hm
 refine au [] 8 _ Ff (by kernel_rfl) (yN (F := N0) (O := N0) _ _ _ _ _ _ (Ro.n0 (qH.cx k)) rfl rO (Cx.refl _) _ cQ) ?_
 rintro e_ w_ ⟨rfl, k_⟩
 have db := k.call k_
 refine ⟨.gD [.u64 r_.1, I r_.2], rfl, ?_⟩
 refine ba 4 [] (.n 4 (.u64 r_.1) (.n 5 (I r_.2) .z)) qe (by kernel_rfl) ?_
 refine af <| aa <| aQ ?_
 obtain rfl := Option.some.inj hm
 refine aR [.u64 r_.1, I r_.2] qe (by kernel_rfl) ?_
 exact ⟨rfl, db⟩
theorem B5 {F O : Nat → Prop} {w : World} (block : List UInt8) (iY : Option Addr) (cw : Nat) (iZ : Nat) (rf : Ro F w iY (e8.all block)) (rQ : block.length = cw) (ql : cw ≤ iZ) (k : Cx F O w w []) (r : (ae UInt64 8 × Int)) (hm : oU block = some r) :
    Calls Tryz.prog 131 (ad [sl iY cw iZ]) w (fun e w' => e = .returned (SV.val (.gD [.agg [.ar cj r.1], I r.2])) ∧ Cx F O w w' []) := by
 unfold oU at hm
 subst rQ
 refine calls [sl iY block.length iZ] Tryz.func131 rfl (of_decide_eq_true (by kernel_rfl)) ?_
 refine ab <| an <| ag <| bT [] 2 [.ar cj (ae.rep 8 (0 : UInt64))] (by kernel_rfl) k ?_
 intro g w_ k_
 refine ba 1 [] .a qe (by kernel_rfl) ?_
 refine af <| aa <| ab <| ab <| bO [] (.n 10 (.b (decide (((block.length : Nat) : Int) ≠ 64))) .a) qe (by kernel_rfl) ?_
 refine aa <| bu (((block.length : Nat) : Int) ≠ 64) (by kernel_rfl) (fun hc => ?_) (fun hc => ?_)
 · rw [if_pos hc] at hm
   refine ab <| an <| ba 1 [] (.n 11 (.agg [.ar cj (ae.rep 8 ((0 : UInt64) : UInt64))]) (.s (.k .z))) qe (by kernel_rfl) ?_
   refine ag <| en [] 0 (.agg [.ar cj (ae.rep 8 ((0 : UInt64) : UInt64))]) [.ar cj (ae.rep 8 ((0 : UInt64) : UInt64))] (Pt.at g 0) k_ rfl .all (by kernel_rfl) (by kernel_rfl) ?_
   intro k4 db
   refine ba 1 [] (.n 3 (I 1) (.s .a)) qe (by kernel_rfl) ?_
   refine af <| aa <| aQ (cJ ?_)
   obtain rfl := Option.some.inj hm
   refine aR [.agg [.ar cj (ae.rep 8 ((0 : UInt64) : UInt64))], I 1] (qo (.agg [.ar cj (ae.rep 8 ((0 : UInt64) : UInt64))]) <| qc (fun w => Rd w (some ⟨g, 0, none⟩) (SV.cl [.ar cj (ae.rep 8 ((0 : UInt64) : UInt64))])) (db.uz 0 rfl) <| qe) (by kernel_rfl) ?_
   have dE := db.de .z
   exact ⟨rfl, dE⟩
 rw [if_neg hc] at hm
 refine bc <| aa <| ab <| an <| ag ?_
 obtain ⟨r_, cQ, hm⟩ := ob hm
 refine au [] 12 _ C5 (by kernel_rfl) (Bj (F := N0) (O := N0)  (Cx.refl _) _ cQ) ?_
 rintro e_ l6 ⟨rfl, dU⟩
 have eY := k_.call dU
 refine ⟨.agg [.ar cj r_], rfl, ?_⟩
 refine ag <| bT [] 4 [.ar cj (ae.rep 8 (0 : UInt64))] (by kernel_rfl) eY ?_
 intro g1 qj fU
 refine ag <| en [] 1 (.agg [.ar cj r_]) [.ar cj r_] (Pt.at g1 0) fU rfl .all (by kernel_rfl) (by kernel_rfl) ?_
 intro qk g_
 refine af <| aa <| ab <| ab <| bO [] (.n 13 (I 0) (.k (.ss .a))) qe (by kernel_rfl) ?_
 refine aa <| cX <| rv (od block) (fun s L wr => ∃ (h : ae UInt64 8) (aL : Int), (h, aL) = s ∧ L = [(0, sl iY block.length iZ), (2, pt g 0), (4, pt g1 0), (13, I aL)] ∧ Cx F O w wr [Bx 191 g [.ar cj (ae.rep 8 (0 : UInt64))], Bx 191 g1 [.ar cj h]]) (r_, (0 : Int)) r hm ⟨r_, (0 : Int), rfl, rfl, g_⟩ (by kernel_rfl) ?_
 intro Al L_ rX y0 kE dY rP
 obtain ⟨h, aL, rfl, rfl, gC⟩ := kE
 have hm := dY; simp only [od] at hm
 clear dY
 refine ab <| bO [] (.n 14 (.b (decide (aL < 8))) .a) qe (by kernel_rfl) ?_
 refine aa <| ab <| bu (aL < 8) (by kernel_rfl) (fun k5 => ?_) (fun k5 => ?_)
 · rw [if_pos k5] at hm
   refine bc <| aa <| ab <| cX <| ab <| bO [] (.n 5 (I aL) (.s .a)) qe (by kernel_rfl) ?_
   refine aa <| ab <| an <| ba 3 [] (.n 17 (sl iY block.length iZ) (.n 19 (I (aD (8 * aL))) .a)) qe (by kernel_rfl) ?_
   refine ag ?_
   obtain ⟨ah, dd, hm⟩ := ob hm
   refine au [] 20 _ y5 (by kernel_rfl) (pQ (F := N0) (O := N0) _ _ _ _ _ (Ro.n0 (rf.cx gC)) rfl ql (Cx.refl _) _ dd) ?_
   rintro e_ wQ ⟨rfl, gP⟩
   have gB := gC.call gP
   refine ⟨.gD [.u64 ah.1, I ah.2], rfl, ?_⟩
   refine ba 5 [] (.n 6 (.u64 ah.1) (.oQ .a)) qe (by kernel_rfl) ?_
   refine af <| aa <| an ?_
   obtain ⟨eZ, jZ, hm⟩ := ob hm
   obtain ⟨jT, lA, hm⟩ := ob hm
   refine ba 6 [] (.n 27 (.u64 (eZ ^^^ ah.1)) (.n 28 (.v (.pointer (nM (some ⟨g1, 0, none⟩) aL 1))) (.ss .a))) (qV (gB.nU 1 rfl cj h 0 (by kernel_rfl)) jZ rfl (.u64 eZ) rfl <| qI g1 0 lA <| qe) (by kernel_rfl) ?_
   refine ag ?_
   obtain ⟨v, JO, hm⟩ := nm hm
   refine ll (E := cj) (kk := 0) [] 1 (.u64 (eZ ^^^ ah.1)) [.u64 (eZ ^^^ ah.1)] JO lA (Pt.xr (Pt.at g1 0) aL 1) gB rfl .h rfl (by kernel_rfl) (by kernel_rfl) ?_
   intro wR dO
   refine af <| lL <| aa <| bO [] (.n 13 (I (aD (aL + 1))) (.ss (.uk .z))) qe (by kernel_rfl) ?_
   exact mN (v, aD (aL + 1)) (Option.some.inj hm).symm ⟨v, aD (aL + 1), rfl, rfl, dO⟩ (by kernel_rfl)
 rw [if_neg k5] at hm
 refine jr (gk (gk (lT ?_)))
 have hm := iv hm rP
 refine aa <| ab <| an <| ba 1 [] (.n 30 (.agg [.ar cj h]) (.ss (.k .z))) (qT gC 1 rfl 0 8 [.ar cj h] (by kernel_rfl) (by decide) <| qe) (by kernel_rfl) ?_
 refine ag <| en [] 0 (.agg [.ar cj h]) [.ar cj h] (Pt.at g 0) gC rfl .all (by kernel_rfl) (by kernel_rfl) ?_
 intro Av cV
 have ff := cV.de (.k .z)
 refine ba 1 [] (.n 3 (I 0) (.s .a)) qe (by kernel_rfl) ?_
 refine af <| aa <| aQ ?_
 obtain rfl := Option.some.inj hm
 refine aR [.agg [.ar cj h], I 0] (qo (.agg [.ar cj h]) <| qc (fun w => Rd w (some ⟨g, 0, none⟩) (SV.cl [.ar cj h])) (ff.uz 0 rfl) <| qe) (by kernel_rfl) ?_
 have gI := ff.de .z
 exact ⟨rfl, gI⟩
theorem xD {F O : Nat → Prop} {w : World} (b : List UInt8) (n : Int) (mq : Option Addr) (py : Nat) (mI : Nat) (qH : Ro F w mq (e8.all b)) (qK : b.length = py) (rO : py ≤ mI) (k : Cx F O w w []) (r : Int) (hm : q8 b n = some r) :
    Calls Tryz.prog 149 (ad [sl mq py mI, I n]) w (fun e w' => e = .returned (SV.val (I r)) ∧ Cx F O w w' []) := by
 unfold q8 at hm
 subst qK
 refine calls [sl mq b.length mI, I n] Tryz.func149 rfl (of_decide_eq_true (by kernel_rfl)) ?_
 refine ab <| bO [] .a qe (by kernel_rfl) ?_
 refine aa <| ab <| cX <| ab <| bO [] (.n 5 (.b (decide (((b.length : Nat) : Int) < n))) .a) qe (by kernel_rfl) ?_
 refine aa <| bu (((b.length : Nat) : Int) < n) (by kernel_rfl) (fun hc => ?_) (fun hc => ?_)
 · rw [if_pos hc] at hm
   refine ab <| bO [] (.n 4 (I 3) .z) qe (by kernel_rfl) ?_
   refine aa <| aQ (mL (cJ ?_))
   obtain rfl := Option.some.inj hm
   refine aR [I 3] qe (by kernel_rfl) ?_
   exact ⟨rfl, k⟩
 rw [if_neg hc] at hm
 refine ab <| bO [] (.n 10 (.b (decide (n < ((b.length : Nat) : Int)))) .z) qe (by kernel_rfl) ?_
 refine aa <| bu (n < ((b.length : Nat) : Int)) (by kernel_rfl) (fun k5 => ?_) (fun k5 => ?_)
 · rw [if_pos k5] at hm
   refine ab <| bO [] (.n 4 (I 2) .z) qe (by kernel_rfl) ?_
   refine aa <| aQ (mL (cJ ?_))
   obtain rfl := Option.some.inj hm
   refine aR [I 2] qe (by kernel_rfl) ?_
   exact ⟨rfl, k⟩
 rw [if_neg k5] at hm
 refine bc <| lL <| aa <| ab <| bO [] (.n 4 (I 0) .z) qe (by kernel_rfl) ?_
 refine aa <| aQ ?_
 obtain rfl := Option.some.inj hm
 refine aR [I 0] qe (by kernel_rfl) ?_
 exact ⟨rfl, k⟩
theorem AA {F O : Nat → Prop} {w : World} (b : List UInt8) (at_ : Int) (mq : Option Addr) (py : Nat) (mI : Nat) (qH : Ro F w mq (e8.all b)) (qK : b.length = py) (rO : py ≤ mI) (k : Cx F O w w []) (r : (UInt32 × Int)) (hm : sn b at_ = some r) :
    Calls Tryz.prog 162 (ad [sl mq py mI, I at_]) w (fun e w' => e = .returned (SV.val (.gD [.u32 r.1, I r.2])) ∧ Cx F O w w' []) := by
 unfold sn at hm
 subst qK
 refine calls [sl mq b.length mI, I at_] Tryz.func162 rfl (of_decide_eq_true (by kernel_rfl)) ?_
 refine ab <| bO [] .a qe (by kernel_rfl) ?_
 refine aa <| ab <| an <| ba 2 [] (.n 9 (sl mq b.length mI) (.n 10 (I at_) .z)) qe (by kernel_rfl) ?_
 refine ag ?_
 obtain ⟨r_, cQ, hm⟩ := ob hm
 refine au [] 11 _ Ff (by kernel_rfl) (yN (F := N0) (O := N0) _ _ _ _ _ _ (Ro.n0 (qH.cx k)) rfl rO (Cx.refl _) _ cQ) ?_
 rintro e_ w_ ⟨rfl, k_⟩
 have db := k.call k_
 refine ⟨.gD [.u64 r_.1, I r_.2], rfl, ?_⟩
 refine ba 5 [] (.n 6 (.u64 r_.1) (.n 7 (I r_.2) .z)) qe (by kernel_rfl) ?_
 refine af <| aa <| ab <| bO [] (.n 4 (.u32 (UInt32.ofNat r_.1.toNat)) (.n 5 (I r_.2) .z)) qe (by kernel_rfl) ?_
 refine aa <| aQ ?_
 obtain rfl := Option.some.inj hm
 refine aR [.u32 (UInt32.ofNat r_.1.toNat), I r_.2] qe (by kernel_rfl) ?_
 exact ⟨rfl, db⟩
theorem xE {F O : Nat → Prop} {w : World} (m_ : List UInt32) (b : List UInt8) (B6 : Option Addr) (JP : Nat) (HU : Nat) (LG : Jb) (mq : Option Addr) (py : Nat) (mI : Nat) (R2 : JP ≤ HU) (qH : Ro F w mq (e8.all b)) (qK : b.length = py) (rO : py ≤ mI) (k : Cx F O w w [Mw dt B6 JP m_ LG]) (r : (List UInt32)) (hm : q9 m_ b = some r) :
    Calls Tryz.prog 150 (ad [sl B6 JP HU, sl mq py mI]) w (fun e w' => e = .returned (SV.val (.gD [])) ∧ Cx F O w w' [Mw dt B6 JP r LG]) := by
 unfold q9 at hm
 obtain rfl := k.DY 0 rfl
 subst qK
 refine calls [sl B6 m_.length HU, sl mq b.length mI] Tryz.func150 rfl (of_decide_eq_true (by kernel_rfl)) ?_
 refine ab <| bO [] (.n 6 (I ((m_.length : Nat) : Int)) (.n 7 (I 0) .a)) qe (by kernel_rfl) ?_
 refine aa <| cX <| rv (qy m_ b) (fun s L wr => ∃ (xt : List UInt32) (aL : Int), (xt, aL) = s ∧ L = [(0, sl B6 m_.length HU), (1, sl mq b.length mI), (6, I ((m_.length : Nat) : Int)), (7, I aL)] ∧ Cx F O w wr [Mw dt B6 m_.length xt LG]) (m_, (0 : Int)) r hm ⟨m_, (0 : Int), rfl, rfl, k⟩ (by kernel_rfl) ?_
 intro Al L_ w_ y0 kE dY rP
 obtain ⟨xt, aL, rfl, rfl, k_⟩ := kE
 have hm := dY; simp only [qy] at hm
 clear dY
 refine ab <| bO [] (.n 8 (.b (decide (aL < ((m_.length : Nat) : Int)))) .a) qe (by kernel_rfl) ?_
 refine aa <| ab <| bu (aL < ((m_.length : Nat) : Int)) (by kernel_rfl) (fun hc => ?_) (fun hc => ?_)
 · rw [if_pos hc] at hm
   refine bc <| aa <| ab <| cX <| ab <| bO [] (.n 4 (I aL) (.s .a)) qe (by kernel_rfl) ?_
   refine aa <| an <| ba 5 [] (.n 11 (sl B6 m_.length HU) (.n 12 (I aL) (.n 13 (sl mq b.length mI) (.n 15 (I (aD (4 * aL))) (.s .a))))) qe (by kernel_rfl) ?_
   refine ag ?_
   obtain ⟨r_, cQ, hm⟩ := ob hm
   refine au [] 16 _ HK (by kernel_rfl) (AA (F := N0) (O := N0) _ _ _ _ _ (Ro.n0 (qH.cx k_)) rfl rO (Cx.refl _) _ cQ) ?_
   rintro e_ k4 ⟨rfl, db⟩
   have dE := k_.call db
   refine ⟨.gD [.u32 r_.1, I r_.2], rfl, ?_⟩
   obtain ⟨j5, j9, hm⟩ := ob hm
   refine ba 4 [] (.n 17 (.u32 r_.1) (.n 19 (.v (.pointer (nM B6 aL 1))) (.jn (.s .a)))) (qJ (dE.OV 0 rfl) j9 (dE.DY 0 rfl) <| qe) (by kernel_rfl) ?_
   refine ag <| G1 (E := dt) (kk := 0) (sv := .u32 r_.1) (svs := [.u32 r_.1]) [] 0 r_.1 (by kernel_rfl) (Pt.x6 B6 aL 1) dE rfl (eR j9).2 (yS (E := dt) (dE.OV 0 rfl) (by decide) (kS j9).1 (eR j9).2) rfl (Nat.le_of_ble_eq_true (by kernel_rfl)) ?_
   intro l6 dU
   refine af <| lL <| aa <| bO [] (.n 7 (I (aD (aL + 1))) (.ss (.uk .z))) qe (by kernel_rfl) ?_
   exact mN (xt.set (Int.toNat aL) r_.1, aD (aL + 1)) (Option.some.inj hm).symm ⟨xt.set (Int.toNat aL) r_.1, aD (aL + 1), rfl, rfl, dU⟩ (by kernel_rfl)
 rw [if_neg hc] at hm
 refine jr (gk (gk (lT ?_)))
 have hm := iv hm rP
 obtain rfl := Option.some.inj hm
 refine px [] qe (by kernel_rfl) ?_
 exact ⟨rfl, k_⟩
theorem Bk {F O : Nat → Prop} {w : World} (k : Cx F O w w []) (r : (ae UInt32 8)) (hm : vt = some r) :
    Calls Tryz.prog 151 (ad []) w (fun e w' => e = .returned (SV.val (.agg [.ar dt r])) ∧ Cx F O w w' []) := by
 unfold vt at hm
 refine calls [] Tryz.func151 rfl (of_decide_eq_true (by kernel_rfl)) ?_
 refine ab <| an <| ag <| bT [] 0 [.ar dt (ae.rep 8 (0 : UInt32))] (by kernel_rfl) k ?_
 intro g w_ k_
 refine af <| aa <| ab <| an <| ba 1 [] (.n 1 (.agg [.ar dt (⟨[(1779033703 : UInt32), (3144134277 : UInt32), (1013904242 : UInt32), (2773480762 : UInt32), (1359893119 : UInt32), (2600822924 : UInt32), (528734635 : UInt32), (1541459225 : UInt32)], rfl⟩ : ae UInt32 8)]) .a) qe (by kernel_rfl) ?_
 refine ag <| en [] 0 (.agg [.ar dt (⟨[(1779033703 : UInt32), (3144134277 : UInt32), (1013904242 : UInt32), (2773480762 : UInt32), (1359893119 : UInt32), (2600822924 : UInt32), (528734635 : UInt32), (1541459225 : UInt32)], rfl⟩ : ae UInt32 8)]) [.ar dt (⟨[(1779033703 : UInt32), (3144134277 : UInt32), (1013904242 : UInt32), (2773480762 : UInt32), (1359893119 : UInt32), (2600822924 : UInt32), (528734635 : UInt32), (1541459225 : UInt32)], rfl⟩ : ae UInt32 8)] (Pt.at g 0) k_ rfl .all (by kernel_rfl) (by kernel_rfl) ?_
 intro k4 db
 refine af <| aa <| aQ ?_
 obtain rfl := Option.some.inj hm
 refine aR [.agg [.ar dt (⟨[(1779033703 : UInt32), (3144134277 : UInt32), (1013904242 : UInt32), (2773480762 : UInt32), (1359893119 : UInt32), (2600822924 : UInt32), (528734635 : UInt32), (1541459225 : UInt32)], rfl⟩ : ae UInt32 8)]] (qo (.agg [.ar dt (⟨[(1779033703 : UInt32), (3144134277 : UInt32), (1013904242 : UInt32), (2773480762 : UInt32), (1359893119 : UInt32), (2600822924 : UInt32), (528734635 : UInt32), (1541459225 : UInt32)], rfl⟩ : ae UInt32 8)]) <| qc (fun w => Rd w (some ⟨g, 0, none⟩) (SV.cl [.ar dt (⟨[(1779033703 : UInt32), (3144134277 : UInt32), (1013904242 : UInt32), (2773480762 : UInt32), (1359893119 : UInt32), (2600822924 : UInt32), (528734635 : UInt32), (1541459225 : UInt32)], rfl⟩ : ae UInt32 8)])) (db.uz 0 rfl) <| qe) (by kernel_rfl) ?_
 have dE := db.de .z
 exact ⟨rfl, dE⟩
theorem B7 {F O : Nat → Prop} {w : World} (block : List UInt8) (iY : Option Addr) (cw : Nat) (iZ : Nat) (rf : Ro F w iY (e8.all block)) (rQ : block.length = cw) (ql : cw ≤ iZ) (k : Cx F O w w []) (r : (ae UInt32 8 × Int)) (hm : tm block = some r) :
    Calls Tryz.prog 134 (ad [sl iY cw iZ]) w (fun e w' => e = .returned (SV.val (.gD [.agg [.ar dt r.1], I r.2])) ∧ Cx F O w w' []) := by
 unfold tm at hm
 subst rQ
 refine calls [sl iY block.length iZ] Tryz.func134 rfl (of_decide_eq_true (by kernel_rfl)) ?_
 refine ab <| an <| ag <| bT [] 2 [.ar dt (ae.rep 8 (0 : UInt32))] (by kernel_rfl) k ?_
 intro g w_ k_
 refine ba 1 [] .a qe (by kernel_rfl) ?_
 refine af <| aa <| ab <| ab <| an <| ba 1 [] (.n 8 (sl iY block.length iZ) .a) qe (by kernel_rfl) ?_
 refine ag ?_
 obtain ⟨r_, cQ, hm⟩ := ob hm
 refine au [] 9 _ C6 (by kernel_rfl) (xD (F := N0) (O := N0) _ _ _ _ _ (Ro.n0 (rf.cx k_)) rfl ql (Cx.refl _) _ cQ) ?_
 rintro e_ k4 ⟨rfl, db⟩
 have dE := k_.call db
 refine ⟨I r_, rfl, ?_⟩
 refine ba 1 [] (.n 4 (I r_) (.ss .a)) qe (by kernel_rfl) ?_
 refine af <| aa <| ab <| bO [] (.n 11 (.b (decide (r_ ≠ 0))) .a) qe (by kernel_rfl) ?_
 refine aa <| bu (r_ ≠ 0) (by kernel_rfl) (fun hc => ?_) (fun hc => ?_)
 · rw [if_pos hc] at hm
   refine ab <| an <| ba 2 [] (.n 12 (.agg [.ar dt (ae.rep 8 ((0 : UInt32) : UInt32))]) (.n 13 (I r_) (.ss (.k .z)))) qe (by kernel_rfl) ?_
   refine ag <| en [] 0 (.agg [.ar dt (ae.rep 8 ((0 : UInt32) : UInt32))]) [.ar dt (ae.rep 8 ((0 : UInt32) : UInt32))] (Pt.at g 0) dE rfl .all (by kernel_rfl) (by kernel_rfl) ?_
   intro l6 dU
   refine ba 1 [] (.n 3 (I r_) (.ss .a)) qe (by kernel_rfl) ?_
   refine af <| aa <| aQ (cJ ?_)
   obtain rfl := Option.some.inj hm
   refine aR [.agg [.ar dt (ae.rep 8 ((0 : UInt32) : UInt32))], I r_] (qo (.agg [.ar dt (ae.rep 8 ((0 : UInt32) : UInt32))]) <| qc (fun w => Rd w (some ⟨g, 0, none⟩) (SV.cl [.ar dt (ae.rep 8 ((0 : UInt32) : UInt32))])) (dU.uz 0 rfl) <| qe) (by kernel_rfl) ?_
   have eY := dU.de .z
   exact ⟨rfl, eY⟩
 rw [if_neg hc] at hm
 refine bc <| aa <| ab <| an <| ag <| bT [] 5 [.ar dt (ae.rep 8 (0 : UInt32))] (by kernel_rfl) dE ?_
 intro g1 qj fU
 refine af <| aa <| ab <| an <| ba 2 [] (.n 14 (sl (some ⟨g1, 0, none⟩) 8 8) (.n 15 (sl iY block.length iZ) (.k (.ss (.k .z))))) (qo (.v (.slice (some ⟨g1, 0, none⟩) 8 8)) <| qp (((some ⟨g1, 0, none⟩) : Option Addr).isSome = true ∧ Value.slice (sD (some ⟨g1, 0, none⟩) 0 8 1) (8 - 0) (8 - 0) = .slice (some ⟨g1, 0, none⟩) 8 8) ⟨rfl, uA _ _ _ _ _ rfl⟩ <| qe) (by kernel_rfl) ?_
 refine ag ?_
 have g_ := fU.Ky [] [] 1 rfl
 obtain ⟨ah, dd, hm⟩ := ob hm
 obtain ⟨F1, O1, lQ, hO, rp, hF, hb⟩ := g_.go (.r (.i .e))
 refine au [] 16 _ C7 (by kernel_rfl) (xE (F := F1) (O := O1) _ _ _ _ _ _ _ _ _ (Nat.le_refl _) (Ro.aM rf g_ hF) rfl ql lQ _ dd) ?_
 rintro e_ qk ⟨rfl, gC⟩
 have gP := hb qk _ _ gC (.c .n)
 refine ⟨.gD [], rfl, ?_⟩
 have gB := gP.Kz [] [] 0 rfl (ae.of 8 ah) (ae.NU (gP.DY 0 rfl))
 refine af <| aa <| ab <| an <| ag ?_
 have dO := gB.de (.kk .e)
 obtain ⟨aX, hK, hm⟩ := ob hm
 refine au [] 17 _ C8 (by kernel_rfl) (Bk (F := N0) (O := N0)  (Cx.refl _) _ hK) ?_
 rintro e_ rX ⟨rfl, cV⟩
 have ff := dO.call cV
 refine ⟨.agg [.ar dt aX], rfl, ?_⟩
 refine ag <| bT [] 6 [.ar dt (ae.rep 8 (0 : UInt32))] (by kernel_rfl) ff ?_
 intro g2 wQ gI
 refine ag <| en [] 2 (.agg [.ar dt aX]) [.ar dt aX] (Pt.at g2 0) gI rfl .all (by kernel_rfl) (by kernel_rfl) ?_
 intro wR ez
 refine af <| aa <| ab <| ab <| bO [] (.n 18 (I 0) (.k (.jn .a))) qe (by kernel_rfl) ?_
 refine aa <| cX ?_
 have gQ := ((ez.pk (.t (.t .h))).pk (.t .h)).pk (.t (.t .h))
 refine rv (qz ah) (fun s L wr => ∃ (h : ae UInt32 8) (aL : Int), (h, aL) = s ∧ L = [(2, pt g 0), (5, pt g1 0), (6, pt g2 0), (18, I aL)] ∧ Cx F O w wr [Bx 201 g [.ar dt (ae.rep 8 (0 : UInt32))], Bx 201 g1 [.ar dt (ae.of 8 ah)], Bx 201 g2 [.ar dt h]]) (aX, (0 : Int)) r hm ⟨aX, (0 : Int), rfl, rfl, gQ⟩ (by kernel_rfl) ?_
 intro Al L_ Av y0 kE dY rP
 obtain ⟨h, aL, rfl, rfl, jj⟩ := kE
 have hm := dY; simp only [qz] at hm
 clear dY
 refine ab <| bO [] (.n 19 (.b (decide (aL < 8))) .a) qe (by kernel_rfl) ?_
 refine aa <| ab <| bu (aL < 8) (by kernel_rfl) (fun k5 => ?_) (fun k5 => ?_)
 · rw [if_pos k5] at hm
   refine bc <| aa <| ab <| cX <| ab <| bO [] (.n 7 (I aL) (.s .a)) qe (by kernel_rfl) ?_
   refine aa ?_
   have kV := jj.drew 1
   refine qO bK (.q 0 0 (.q 1 0 (.q 2 0 (.q 3 0 (.q 4 0 (.q 5 0 (.q 6 0 (.q 7 0 (.op 8 .nil))))))))) [8] kV (.c (.kk .z) .l) (by kernel_rfl) (fun _ => ?_)
   obtain ⟨eZ, jZ, hm⟩ := ob hm
   obtain ⟨jT, lA, hm⟩ := ob hm
   obtain ⟨mw, oP, hm⟩ := ob hm
   refine cK 8 0 [] (.n 27 (.u32 (eZ ^^^ jT)) (.n 28 (.v (.pointer (nM (some ⟨g2, 0, none⟩) aL 1))) (.s .a))) (fun x hx => qV (hx.nU 2 rfl dt h 0 (by kernel_rfl)) jZ rfl (.u32 eZ) rfl <| qV (hx.nU 1 rfl dt (ae.of 8 ah) 0 (by kernel_rfl)) lA rfl (.u32 jT) rfl <| qI g2 0 oP <| qe) (by kernel_rfl) (fun _ => ?_)
   refine cC (by kernel_rfl) rfl ?_
   obtain ⟨v, JO, hm⟩ := nm hm
   refine ll (E := dt) (kk := 0) [] 2 (.u32 (eZ ^^^ jT)) [.u32 (eZ ^^^ jT)] JO oP (Pt.xr (Pt.at g2 0) aL 1) kV rfl .h rfl (by kernel_rfl) (by kernel_rfl) ?_
   intro DE lz
   refine ⟨(lz.de (.kk .z)), fun _ => ?_⟩
   refine d_ <| lL <| aa <| bO [] (.n 18 (I (aD (aL + 1))) (.ss (.uk .z))) qe (by kernel_rfl) ?_
   exact mN (v, aD (aL + 1)) (Option.some.inj hm).symm ⟨v, aD (aL + 1), rfl, rfl, lz⟩ (by kernel_rfl)
 rw [if_neg k5] at hm
 refine jr (gk (gk (lT ?_)))
 have hm := iv hm rP
 refine aa <| ab <| an <| ba 1 [] (.n 30 (.agg [.ar dt h]) (.s (.k .z))) (qT jj 2 rfl 0 8 [.ar dt h] (by kernel_rfl) (by decide) <| qe) (by kernel_rfl) ?_
 refine ag <| en [] 0 (.agg [.ar dt h]) [.ar dt h] (Pt.at g 0) jj rfl .all (by kernel_rfl) (by kernel_rfl) ?_
 intro Aw k6
 have lJ := k6.de (.k .z)
 refine ba 1 [] (.n 3 (I 0) (.s .a)) qe (by kernel_rfl) ?_
 refine af <| aa <| aQ ?_
 obtain rfl := Option.some.inj hm
 refine aR [.agg [.ar dt h], I 0] (qo (.agg [.ar dt h]) <| qc (fun w => Rd w (some ⟨g, 0, none⟩) (SV.cl [.ar dt h])) (lJ.uz 0 rfl) <| qe) (by kernel_rfl) ?_
 have my := lJ.de .z
 exact ⟨rfl, my⟩
theorem B8 {F O : Nat → Prop} {w : World} (k_ : Int) (block : List UInt8) (iY : Option Addr) (cw : Nat) (iZ : Nat) (rf : Ro F w iY (e8.all block)) (rQ : block.length = cw) (ql : cw ≤ iZ) (k : Cx F O w w []) (r : (ae UInt64 8 × List UInt8) ⊕ (ae UInt32 8 × List UInt8)) (hm : q_ k_ block = some r) :
    Calls Tryz.prog 120 (ad [I k_, sl iY cw iZ]) w (fun e w' => match r with | .inl r0 => ∃ g A n c, r0.2.length = n ∧ e = .returned (SV.val (.v (.iface 194 (SV.val (pt g 0))))) ∧ Cx F O w w' [Bx 200 g [.ar cj r0.1, .u64 0, .u64 0, sl A n c, I 128, .v (.func (.func 132) ⟨SV.ad []⟩ ⟨SV.ad []⟩), .v (.func (.func 133) ⟨SV.ad []⟩ ⟨SV.ad []⟩)], Ow e8 A n c r0.2] | .inr r1 => ∃ g1 A1 n1 c1, r1.2.length = n1 ∧ e = .returned (SV.val (.v (.iface 204 (SV.val (pt g1 0))))) ∧ Cx F O w w' [Bx 208 g1 [.ar dt r1.1, .u64 0, .u64 0, sl A1 n1 c1, I 64, .v (.func (.func 135) ⟨SV.ad []⟩ ⟨SV.ad []⟩), .v (.func (.func 136) ⟨SV.ad []⟩ ⟨SV.ad []⟩)], Ow e8 A1 n1 c1 r1.2]) := by
 unfold q_ at hm
 subst rQ
 refine calls [I k_, sl iY block.length iZ] Tryz.func120 rfl (of_decide_eq_true (by kernel_rfl)) ?_
 refine ab <| bO [] .a qe (by kernel_rfl) ?_
 refine aa <| ab <| ab <| bO [] (.n 10 (.b (decide (k_ = 1))) (.s .a)) qe (by kernel_rfl) ?_
 refine aa <| bu (k_ = 1) (by kernel_rfl) (fun hc => ?_) (fun hc => ?_)
 · rw [if_pos hc] at hm
   refine ab <| an <| ba 1 [] (.n 12 (sl iY block.length iZ) .z) qe (by kernel_rfl) ?_
   refine ag ?_
   obtain ⟨r_, cQ, hm⟩ := ob hm
   refine au [] 13 _ Hz (by kernel_rfl) (B5 (F := N0) (O := N0) _ _ _ _ (Ro.n0 (rf.cx k)) rfl ql (Cx.refl _) _ cQ) ?_
   rintro e_ w_ ⟨rfl, db⟩
   have dE := k.call db
   refine ⟨.gD [.agg [.ar cj r_.1], I r_.2], rfl, ?_⟩
   refine ba 3 [] (.n 14 (.agg [.ar cj r_.1]) (.n 15 (I r_.2) .z)) qe (by kernel_rfl) ?_
   refine ag <| bT [] 5 [.ar cj (ae.rep 8 (0 : UInt64))] (by kernel_rfl) dE ?_
   intro g0 k4 dU
   refine ag <| en [] 0 (.agg [.ar cj r_.1]) [.ar cj r_.1] (Pt.at g0 0) dU rfl .all (by kernel_rfl) (by kernel_rfl) ?_
   intro l6 eY
   refine ba 1 [] (.k .z) qe (by kernel_rfl) ?_
   refine af <| aa <| ab <| an <| ba 2 [] (.n 17 (.agg [.ar cj r_.1, .u64 0, .u64 0, sl none 0 0, I 128, .v (.func (.func 132) ⟨SV.ad []⟩ ⟨SV.ad []⟩), .v (.func (.func 133) ⟨SV.ad []⟩ ⟨SV.ad []⟩)]) .z) (qT eY 0 rfl 0 8 [.ar cj r_.1] (by kernel_rfl) (by decide) <| qe) (by kernel_rfl) ?_
   refine ag <| gF [] 18 (.agg [.ar cj r_.1, .u64 0, .u64 0, sl none 0 0, I 128, .v (.func (.func 132) ⟨SV.ad []⟩ ⟨SV.ad []⟩), .v (.func (.func 133) ⟨SV.ad []⟩ ⟨SV.ad []⟩)]) [.ar cj r_.1, .u64 0, .u64 0, sl none 0 0, I 128, .v (.func (.func 132) ⟨SV.ad []⟩ ⟨SV.ad []⟩), .v (.func (.func 133) ⟨SV.ad []⟩ ⟨SV.ad []⟩)] (by kernel_rfl) eY ?_
   intro g2 qj fU
   refine ba 2 [] (.n 4 (.v (.iface 194 (SV.val (pt g2 0)))) .z) qe (by kernel_rfl) ?_
   refine af <| aa <| aQ (cJ ?_)
   have g_ := fU.nil e8
   obtain rfl := Option.some.inj hm
   refine aR [.v (.iface 194 (SV.val (pt g2 0)))] qe (by kernel_rfl) ?_
   have gC := g_.de (.s (.kk .e))
   exact ⟨g2, none, 0, 0, gC.len 1 rfl, rfl, gC⟩
 rw [if_neg hc] at hm
 refine bc <| aa <| ab <| an <| ba 1 [] (.n 21 (sl iY block.length iZ) .z) qe (by kernel_rfl) ?_
 refine ag ?_
 obtain ⟨ah, dd, hm⟩ := ob hm
 refine au [] 22 _ HB (by kernel_rfl) (B7 (F := N0) (O := N0) _ _ _ _ (Ro.n0 (rf.cx k)) rfl ql (Cx.refl _) _ dd) ?_
 rintro e_ qk ⟨rfl, gP⟩
 have gB := k.call gP
 refine ⟨.gD [.agg [.ar dt ah.1], I ah.2], rfl, ?_⟩
 refine ba 3 [] (.n 23 (.agg [.ar dt ah.1]) (.n 24 (I ah.2) .z)) qe (by kernel_rfl) ?_
 refine ag <| bT [] 7 [.ar dt (ae.rep 8 (0 : UInt32))] (by kernel_rfl) gB ?_
 intro g3 rX dO
 refine ag <| en [] 0 (.agg [.ar dt ah.1]) [.ar dt ah.1] (Pt.at g3 0) dO rfl .all (by kernel_rfl) (by kernel_rfl) ?_
 intro wQ cV
 refine ba 1 [] (.k .z) qe (by kernel_rfl) ?_
 refine af <| aa <| ab <| an <| ba 2 [] (.n 26 (.agg [.ar dt ah.1, .u64 0, .u64 0, sl none 0 0, I 64, .v (.func (.func 135) ⟨SV.ad []⟩ ⟨SV.ad []⟩), .v (.func (.func 136) ⟨SV.ad []⟩ ⟨SV.ad []⟩)]) .z) (qT cV 0 rfl 0 8 [.ar dt ah.1] (by kernel_rfl) (by decide) <| qe) (by kernel_rfl) ?_
 refine ag <| gF [] 27 (.agg [.ar dt ah.1, .u64 0, .u64 0, sl none 0 0, I 64, .v (.func (.func 135) ⟨SV.ad []⟩ ⟨SV.ad []⟩), .v (.func (.func 136) ⟨SV.ad []⟩ ⟨SV.ad []⟩)]) [.ar dt ah.1, .u64 0, .u64 0, sl none 0 0, I 64, .v (.func (.func 135) ⟨SV.ad []⟩ ⟨SV.ad []⟩), .v (.func (.func 136) ⟨SV.ad []⟩ ⟨SV.ad []⟩)] (by kernel_rfl) cV ?_
 intro g4 wR ff
 refine ba 2 [] (.n 4 (.v (.iface 204 (SV.val (pt g4 0)))) .z) qe (by kernel_rfl) ?_
 refine af <| aa <| aQ ?_
 have gI := ff.nil e8
 obtain rfl := Option.some.inj hm
 refine aR [.v (.iface 204 (SV.val (pt g4 0)))] qe (by kernel_rfl) ?_
 have ez := gI.de (.s (.kk .e))
 exact ⟨g4, none, 0, 0, ez.len 1 rfl, rfl, ez⟩
theorem o8 {F O : Nat → Prop} {w : World} (k_ : Int) (k : Cx F O w w []) (r : Int) (hm : iO k_ = some r) :
    Calls Tryz.prog 105 (ad [I k_]) w (fun e w' => e = .returned (SV.val (I r)) ∧ Cx F O w w' []) := by
 unfold iO at hm
 refine calls [I k_] Tryz.func105 rfl (of_decide_eq_true (by kernel_rfl)) ?_
 refine ab <| bO [] .a qe (by kernel_rfl) ?_
 refine aa <| ab <| ab <| bO [] (.n 4 (.b (decide (k_ = 1))) .z) qe (by kernel_rfl) ?_
 refine aa <| bu (k_ = 1) (by kernel_rfl) (fun hc => ?_) (fun hc => ?_)
 · rw [if_pos hc] at hm
   refine ab <| bO [] (.n 2 (I 128) .z) qe (by kernel_rfl) ?_
   refine aa <| aQ (cJ ?_)
   obtain rfl := Option.some.inj hm
   refine aR [I 128] qe (by kernel_rfl) ?_
   exact ⟨rfl, k⟩
 rw [if_neg hc] at hm
 refine bc <| aa <| ab <| bO [] (.n 2 (I 64) .z) qe (by kernel_rfl) ?_
 refine aa <| aQ ?_
 obtain rfl := Option.some.inj hm
 refine aR [I 64] qe (by kernel_rfl) ?_
 exact ⟨rfl, k⟩
theorem pR {F O : Nat → Prop} {w : World} (b : List UInt8) (n : Int) (mq : Option Addr) (py : Nat) (mI : Nat) (qH : Ro F w mq (e8.all b)) (qK : b.length = py) (rO : py ≤ mI) (k : Cx F O w w []) (r : (List UInt8)) (hm : kt b n = some r) :
    Calls Tryz.prog 121 (ad [sl mq py mI, I n]) w (fun e w' => ∃ A n1 c, r.length = n1 ∧ e = .returned (SV.val (sl A n1 c)) ∧ Cx F O w w' [Ow e8 A n1 c r]) := by
 unfold kt at hm
 subst qK
 refine calls [sl mq b.length mI, I n] Tryz.func121 rfl (of_decide_eq_true (by kernel_rfl)) ?_
 refine ab <| bO [] .a qe (by kernel_rfl) ?_
 refine aa <| ab <| an <| ba 1 [] (.n 5 (I n) .a) qe (by kernel_rfl) ?_
 refine ag ?_
 obtain ⟨u, wT, hm⟩ := ob hm
 refine vp iJ e8 (0 : UInt8) rfl [] 6 (I 0) (I n) (0 : Int) n (by kernel_rfl) (fI wT).1 (fI wT).2.1 (fI wT).2.2 k ?_
 intro A0 w_ k_
 refine ba 1 [] (.n 7 (sl mq b.length mI) (.k (.s .a))) qe (by kernel_rfl) ?_
 refine ag ?_
 obtain ⟨b1, wS, hm⟩ := ob hm
 obtain ⟨hz, hl⟩ := mm wS
 refine k8 (E := e8) (v := sl mq b.length mI) (ys := b) iJ [] 8 0 (by kernel_rfl) k_ rfl (Src.sl (qH.cx k_) rfl (by rfl)) rfl (by have := k_.len 0 rfl; have := hm; omega) ?_
 intro A1 c0 k4 db
 rw [← hl] at db
 refine ba 4 [] (.n 12 (I (aD (n - ((b.length : Nat) : Int)))) (.k .z)) qe (by kernel_rfl) ?_
 refine ag ?_
 obtain ⟨b2, B9, hm⟩ := ob hm
 obtain ⟨h0, K3, Gv⟩ := FW B9
 refine D0 (E := e8) (kx := .i64) (ik := .i64) iJ (0 : UInt8) [] 13 0 (aD (n - ((b.length : Nat) : Int))) (by kernel_rfl) rfl db rfl h0 (by have := db.len 0 rfl; omega) ?_
 intro A2 c1 l6 dE
 rw [← Gv] at dE
 refine ba 1 [] (.n 4 (sl A2 (Int.toNat (0 : Int) + b.length + Int.toNat (aD (n - ((b.length : Nat) : Int)))) c1) .z) qe (by kernel_rfl) ?_
 refine af <| aa <| aQ ?_
 obtain rfl := Option.some.inj hm
 refine aR [sl A2 (Int.toNat (0 : Int) + b.length + Int.toNat (aD (n - ((b.length : Nat) : Int)))) c1] qe (by kernel_rfl) ?_
 exact ⟨A2, Int.toNat (0 : Int) + b.length + Int.toNat (aD (n - ((b.length : Nat) : Int))), c1, dE.len 0 rfl, rfl, dE⟩
theorem pI {F O : Nat → Prop} {w : World} (oR : UInt64) (pE : UInt64) (n : UInt64) (k : Cx F O w w []) (r : (UInt64 × UInt64 × Bool)) (hm : l_ oR pE n = some r) :
    Calls Tryz.prog 221 (ad [.agg [.u64 oR, .u64 pE], .u64 n]) w (fun e w' => e = .returned (SV.val (.gD [.agg [.u64 r.1, .u64 r.2.1], .b r.2.2])) ∧ Cx F O w w' []) := by
 unfold l_ at hm
 refine calls [.agg [.u64 oR, .u64 pE], .u64 n] Tryz.func221 rfl (of_decide_eq_true (by kernel_rfl)) ?_
 refine ab <| an <| ag <| gF [] 2 (.agg [.u64 oR, .u64 pE]) [.u64 oR, .u64 pE] (by kernel_rfl) k ?_
 intro g w_ k_
 refine ag <| bT [] 4 [.u64 0, .u64 0] (by kernel_rfl) k_ ?_
 intro g1 k4 db
 refine ba 1 [] (.kk (.s .a)) qe (by kernel_rfl) ?_
 refine af <| aa <| ab <| an <| ba 3 [] (.n 12 (.u64 oR) (.n 13 (.u64 n) (.kk .z))) (qs g 0 <| qB db 0 rfl 0 (.u64 oR) (by kernel_rfl) <| qe) (by kernel_rfl) ?_
 refine ag ?_
 obtain ⟨r_, cQ, hm⟩ := ob hm
 refine CY Bi [] 14 oR n (0 : UInt64) (by kernel_rfl) cQ ?_
 refine ba 5 [] (.n 6 (.u64 r_.1) (.n 7 (.u64 r_.2) (.oQ .a))) qe (by kernel_rfl) ?_
 refine af <| aa <| ab <| an <| ba 3 [] (.n 19 (.u64 pE) (.n 20 (.u64 r_.2) (.k (.s (.k .z))))) (qs g 0 <| qB db 0 rfl 1 (.u64 pE) (by kernel_rfl) <| qe) (by kernel_rfl) ?_
 refine ag ?_
 obtain ⟨ah, dd, hm⟩ := ob hm
 refine CY Bi [] 21 pE (0 : UInt64) r_.2 (by kernel_rfl) dd ?_
 refine ba 5 [] (.n 8 (.u64 ah.1) (.n 9 (.u64 ah.2) (.oQ .a))) qe (by kernel_rfl) ?_
 refine af <| aa <| ab <| an <| ba 5 [] (.n 26 (.agg [.u64 r_.1, .u64 ah.1]) (.n 28 (.b (decide (ah.2 = 1))) (.oQ .a))) qe (by kernel_rfl) ?_
 refine ag ?_
 have dE := db.de (.kk .e)
 refine en [] 1 (.agg [.u64 r_.1, .u64 ah.1]) [.u64 r_.1, .u64 ah.1] (Pt.at g1 0) dE rfl .all (by kernel_rfl) (by kernel_rfl) ?_
 intro l6 dU
 have eY := dU.de (.s (.k .e))
 refine ba 1 [] (.n 5 (.b (decide (ah.2 = 1))) (.ss .a)) qe (by kernel_rfl) ?_
 refine af <| aa <| aQ ?_
 obtain rfl := Option.some.inj hm
 refine aR [.agg [.u64 r_.1, .u64 ah.1], .b (decide (ah.2 = 1))] (qo (.agg [.u64 r_.1, .u64 ah.1]) <| qc (fun w => Rd w (some ⟨g1, 0, none⟩) (SV.cl [.u64 r_.1, .u64 ah.1])) (eY.uz 0 rfl) <| qe) (by kernel_rfl) ?_
 have fU := eY.de .z
 exact ⟨rfl, fU⟩
theorem B_ {F O : Nat → Prop} {w : World} (b : List UInt8) (mq : Option Addr) (py : Nat) (mI : Nat) (qH : Ro F w mq (e8.all b)) (qK : b.length = py) (rO : py ≤ mI) (k : Cx F O w w []) (r : (ae UInt64 16 × Int)) (hm : oV b = some r) :
    Calls Tryz.prog 146 (ad [sl mq py mI]) w (fun e w' => e = .returned (SV.val (.gD [.agg [.ar cj r.1], I r.2])) ∧ Cx F O w w' []) := by
 unfold oV at hm
 subst qK
 refine calls [sl mq b.length mI] Tryz.func146 rfl (of_decide_eq_true (by kernel_rfl)) ?_
 refine ab <| an <| ag <| bT [] 2 [.ar cj (ae.rep 16 (0 : UInt64))] (by kernel_rfl) k ?_
 intro g w_ k_
 refine ba 1 [] .a qe (by kernel_rfl) ?_
 refine af <| aa <| ab <| an <| ag <| bT [] 4 [.ar cj (ae.rep 16 (0 : UInt64))] (by kernel_rfl) k_ ?_
 intro g1 k4 db
 refine af <| aa <| ab <| ab <| bO [] (.n 8 (.b (decide (((b.length : Nat) : Int) ≠ 128))) .a) qe (by kernel_rfl) ?_
 refine aa <| bu (((b.length : Nat) : Int) ≠ 128) (by kernel_rfl) (fun hc => ?_) (fun hc => ?_)
 · rw [if_pos hc] at hm
   refine ab <| an <| ba 1 [] (.n 9 (.agg [.ar cj (ae.rep 16 (0 : UInt64))]) (.ss (.k .z))) (qT db 1 rfl 0 16 [.ar cj (ae.rep 16 (0 : UInt64))] (by kernel_rfl) (by decide) <| qe) (by kernel_rfl) ?_
   refine ag <| en [] 0 (.agg [.ar cj (ae.rep 16 (0 : UInt64))]) [.ar cj (ae.rep 16 (0 : UInt64))] (Pt.at g 0) db rfl .all (by kernel_rfl) (by kernel_rfl) ?_
   intro l6 dE
   have dU := dE.de (.k .z)
   refine ba 1 [] (.n 3 (I 1) (.s .a)) qe (by kernel_rfl) ?_
   refine af <| aa <| aQ (cJ ?_)
   obtain rfl := Option.some.inj hm
   refine aR [.agg [.ar cj (ae.rep 16 (0 : UInt64))], I 1] (qo (.agg [.ar cj (ae.rep 16 (0 : UInt64))]) <| qc (fun w => Rd w (some ⟨g, 0, none⟩) (SV.cl [.ar cj (ae.rep 16 (0 : UInt64))])) (dU.uz 0 rfl) <| qe) (by kernel_rfl) ?_
   have eY := dU.de .z
   exact ⟨rfl, eY⟩
 rw [if_neg hc] at hm
 refine bc <| aa <| ab <| ab <| bO [] (.n 10 (I 0) (.s .a)) qe (by kernel_rfl) ?_
 refine aa <| cX <| rv (mn b) (fun s L wr => ∃ (m_ : ae UInt64 16) (aL : Int), (m_, aL) = s ∧ L = [(0, sl mq b.length mI), (2, pt g 0), (4, pt g1 0), (10, I aL)] ∧ Cx F O w wr [Bx 181 g [.ar cj (ae.rep 16 (0 : UInt64))], Bx 181 g1 [.ar cj m_]]) ((ae.rep 16 (0 : UInt64)), (0 : Int)) r hm ⟨(ae.rep 16 (0 : UInt64)), (0 : Int), rfl, rfl, db⟩ (by kernel_rfl) ?_
 intro Al L_ qj y0 kE dY rP
 obtain ⟨m_, aL, rfl, rfl, fU⟩ := kE
 have hm := dY; simp only [mn] at hm
 clear dY
 refine ab <| bO [] (.n 11 (.b (decide (aL < 16))) .a) qe (by kernel_rfl) ?_
 refine aa <| ab <| bu (aL < 16) (by kernel_rfl) (fun k5 => ?_) (fun k5 => ?_)
 · rw [if_pos k5] at hm
   refine bc <| aa <| ab <| cX <| ab <| bO [] (.n 5 (I aL) (.s .a)) qe (by kernel_rfl) ?_
   refine aa <| an <| ba 4 [] (.n 14 (I aL) (.n 15 (sl mq b.length mI) (.n 17 (I (aD (8 * aL))) (.s .a)))) qe (by kernel_rfl) ?_
   refine ag ?_
   obtain ⟨r_, cQ, hm⟩ := ob hm
   refine au [] 18 _ y5 (by kernel_rfl) (pQ (F := N0) (O := N0) _ _ _ _ _ (Ro.n0 (qH.cx fU)) rfl rO (Cx.refl _) _ cQ) ?_
   rintro e_ qk ⟨rfl, g_⟩
   have gC := fU.call g_
   refine ⟨.gD [.u64 r_.1, I r_.2], rfl, ?_⟩
   obtain ⟨eZ, jZ, hm⟩ := ob hm
   refine ba 4 [] (.n 19 (.u64 r_.1) (.n 21 (.v (.pointer (nM (some ⟨g1, 0, none⟩) aL 1))) (.jn .a))) (qI g1 0 jZ <| qe) (by kernel_rfl) ?_
   refine ag ?_
   obtain ⟨v, JO, hm⟩ := nm hm
   refine ll (E := cj) (kk := 0) [] 1 (.u64 r_.1) [.u64 r_.1] JO jZ (Pt.xr (Pt.at g1 0) aL 1) gC rfl .h rfl (by kernel_rfl) (by kernel_rfl) ?_
   intro rX gP
   refine af <| lL <| aa <| bO [] (.n 10 (I (aD (aL + 1))) (.ss (.uk .z))) qe (by kernel_rfl) ?_
   exact mN (v, aD (aL + 1)) (Option.some.inj hm).symm ⟨v, aD (aL + 1), rfl, rfl, gP⟩ (by kernel_rfl)
 rw [if_neg k5] at hm
 refine jr (gk (gk (lT ?_)))
 have hm := iv hm rP
 refine aa <| ab <| an <| ba 1 [] (.n 23 (.agg [.ar cj m_]) (.ss (.k .z))) (qT fU 1 rfl 0 16 [.ar cj m_] (by kernel_rfl) (by decide) <| qe) (by kernel_rfl) ?_
 refine ag <| en [] 0 (.agg [.ar cj m_]) [.ar cj m_] (Pt.at g 0) fU rfl .all (by kernel_rfl) (by kernel_rfl) ?_
 intro wQ gB
 have dO := gB.de (.k .z)
 refine ba 1 [] (.n 3 (I 0) (.s .a)) qe (by kernel_rfl) ?_
 refine af <| aa <| aQ ?_
 obtain rfl := Option.some.inj hm
 refine aR [.agg [.ar cj m_], I 0] (qo (.agg [.ar cj m_]) <| qc (fun w => Rd w (some ⟨g, 0, none⟩) (SV.cl [.ar cj m_])) (dO.uz 0 rfl) <| qe) (by kernel_rfl) ?_
 have cV := dO.de .z
 exact ⟨rfl, cV⟩
theorem Df {F O : Nat → Prop} {w : World} (h : ae UInt64 8) (il : UInt64) (im : UInt64) (last : Bool) (node : Bool) (k : Cx F O w w []) (r : (ae UInt64 16)) (hm : r6 h il im last node = some r) :
    Calls Tryz.prog 160 (ad [.agg [.ar cj h], .agg [.u64 il, .u64 im], .b last, .b node]) w (fun e w' => e = .returned (SV.val (.agg [.ar cj r])) ∧ Cx F O w w' []) := by
 unfold r6 at hm
 refine calls [.agg [.ar cj h], .agg [.u64 il, .u64 im], .b last, .b node] Tryz.func160 rfl (of_decide_eq_true (by kernel_rfl)) ?_
 refine ab <| an <| ag <| gF [] 4 (.agg [.ar cj h]) [.ar cj h] (by kernel_rfl) k ?_
 intro g w_ k_
 refine ag <| gF [] 5 (.agg [.u64 il, .u64 im]) [.u64 il, .u64 im] (by kernel_rfl) k_ ?_
 intro g1 k4 db
 refine ag <| bT [] 8 [.ar cj (ae.rep 16 (0 : UInt64))] (by kernel_rfl) db ?_
 intro g2 l6 dE
 refine af <| aa <| ab <| an <| ag <| bT [] 9 [.ar cj (ae.rep 16 (0 : UInt64))] (by kernel_rfl) dE ?_
 intro g3 qj dU
 refine af <| aa <| ab ?_
 have eY := dU.drew 1
 refine qO bK (.q 0 0 (.q 1 0 (.op 2 .nil))) [2] eY (.c (.kk (.k .z)) .l) (by kernel_rfl) (fun _ => ?_)
 obtain ⟨b, qH, hm⟩ := ob hm
 have hs := iB qH
 have hl := lh qH
 have hn : ((ae.rep 16 (0 : UInt64)).l).length = 16 := (ae.rep 16 (0 : UInt64)).h
 have hc : 16 ≤ 16 := (Nat.le_refl _)
 have k5 : b.length ≤ 16 := by omega
 refine cK 2 0 [] (.n 11 (sl (some ⟨g3, 0, none⟩) b.length 16) (.n 12 (sl (some ⟨g, 0, none⟩) 8 8) (.uk (.oQ .a)))) (fun x hx => qp (0 ≤ (8 : Int) ∧ (8 : Int) ≤ ((16 : Nat) : Int)) (by omega) <| qo (.v (.slice (some ⟨g3, 0, none⟩) b.length 16)) <| qp (((some ⟨g3, 0, none⟩) : Option Addr).isSome = true ∧ Value.slice (sD (some ⟨g3, 0, none⟩) 0 16 1) (Int.toNat (8 : Int) - 0) (16 - 0) = .slice (some ⟨g3, 0, none⟩) b.length 16) ⟨rfl, uA _ _ _ _ _ (by omega)⟩ <| qo (.v (.slice (some ⟨g, 0, none⟩) 8 8)) <| qp (((some ⟨g, 0, none⟩) : Option Addr).isSome = true ∧ Value.slice (sD (some ⟨g, 0, none⟩) 0 8 1) (8 - 0) (8 - 0) = .slice (some ⟨g, 0, none⟩) 8 8) ⟨rfl, uA _ _ _ _ _ rfl⟩ <| qe) (by kernel_rfl) (fun _ => ?_)
 refine cC (by kernel_rfl) rfl ?_
 have fU := eY.de (.bX .e)
 refine x8 (E := cj) (dn := b.length) (dc := 16) (v := sl (some ⟨g, 0, none⟩) 8 8) (src := h.l) (lo := 0) (m' := 16) Da [] 13 3 [] [] (ae.rep 16 (0 : UInt64)) (by kernel_rfl) (sN _ _ _).symm fU rfl (Src.sl (Rd.vec (fU.uz 0 rfl) (c := fm.all cj h.l) (off := 0) (by kernel_rfl)) h.h (by rfl)) h.h (by have := (ae.rep 16 (0 : UInt64)).h; omega) (by omega) (by omega) ?_
 intro qk g_
 refine ⟨(g_.de (.kk (.k .z))), fun _ => ?_⟩
 refine d_ <| aa <| ab <| an <| ag ?_
 obtain ⟨r_, cQ, hm⟩ := ob hm
 refine au [] 14 _ C5 (by kernel_rfl) (Bj (F := N0) (O := N0)  (Cx.refl _) _ cQ) ?_
 rintro e_ rX ⟨rfl, gC⟩
 have gP := g_.call gC
 refine ⟨.agg [.ar cj r_], rfl, ?_⟩
 have gB := gP.de (.s (.kk (.k .e)))
 refine ag <| bT [] 10 [.ar cj (ae.rep 8 (0 : UInt64))] (by kernel_rfl) gB ?_
 intro g4 wQ dO
 refine ag <| en [] 3 (.agg [.ar cj r_]) [.ar cj r_] (Pt.at g4 0) dO rfl .all (by kernel_rfl) (by kernel_rfl) ?_
 intro wR cV
 refine af <| aa <| ab ?_
 have ff := cV.drew 1
 refine qO bK (.q 0 0 (.q 1 0 (.op 2 .nil))) [2] ff (.c (.kk (.s (.k .e))) .l) (by kernel_rfl) (fun _ => ?_)
 obtain ⟨b1, wS, hm⟩ := ob hm
 have O3 := iB wS
 have Gv := lh wS
 have O4 : ((tT (ae.rep 16 (0 : UInt64)) 0 b.length h.l).l).length = 16 := (tT (ae.rep 16 (0 : UInt64)) 0 b.length h.l).h
 have rN : 16 ≤ 16 := (Nat.le_refl _)
 obtain ⟨A, c, e_, xQ, hA, Ak⟩ := Kx (some ⟨g3, 0, none⟩) (Int.toNat (8 : Int)) 16 1 (16 - Int.toNat (8 : Int)) b1.length (by omega) (by omega)
 refine cK 2 0 [] (.n 15 (sl A b1.length c) (.n 16 (sl (some ⟨g4, 0, none⟩) 8 8) (.jn (.s .a)))) (fun x hx => qp (0 ≤ (8 : Int) ∧ (8 : Int) ≤ ((16 : Nat) : Int)) (by omega) <| qo (.v (.slice A b1.length c)) <| qp (((some ⟨g3, 0, none⟩) : Option Addr).isSome = true ∧ Value.slice (sD (some ⟨g3, 0, none⟩) (Int.toNat (8 : Int)) 16 1) (16 - Int.toNat (8 : Int)) (16 - Int.toNat (8 : Int)) = .slice A b1.length c) ⟨rfl, e_⟩ <| qo (.v (.slice (some ⟨g4, 0, none⟩) 8 8)) <| qp (((some ⟨g4, 0, none⟩) : Option Addr).isSome = true ∧ Value.slice (sD (some ⟨g4, 0, none⟩) 0 8 1) (8 - 0) (8 - 0) = .slice (some ⟨g4, 0, none⟩) 8 8) ⟨rfl, uA _ _ _ _ _ rfl⟩ <| qe) (by kernel_rfl) (fun _ => ?_)
 refine cC (by kernel_rfl) rfl ?_
 have gI := ff.de (.bX .e)
 refine x8 (E := cj) (dn := b1.length) (dc := c) (v := sl (some ⟨g4, 0, none⟩) 8 8) (src := r_.l) (lo := Int.toNat (8 : Int)) (m' := 16) Da [] 17 2 [] [] (tT (ae.rep 16 (0 : UInt64)) 0 b.length h.l) (by kernel_rfl) hA gI rfl (Src.sl (Rd.vec (gI.uz 3 rfl) (c := fm.all cj r_.l) (off := 0) (by kernel_rfl)) r_.h (by rfl)) r_.h (by have := (tT (ae.rep 16 (0 : UInt64)) 0 b.length h.l).h; omega) (by omega) (by omega) ?_
 intro Av ez
 refine ⟨(ez.de (.kk (.s (.k .e)))), fun _ => ?_⟩
 refine d_ <| aa <| ab <| an ?_
 obtain ⟨aL, sU, hm⟩ := ob hm
 obtain ⟨j5, j9, hm⟩ := ob hm
 refine ba 6 [] (.n 22 (.u64 (aL ^^^ il)) (.n 23 (.v (.pointer (nM (some ⟨g3, 0, none⟩) (12 : Int) 1))) (.oQ .a))) (qV (ez.nU 2 rfl cj (tT (tT (ae.rep 16 (0 : UInt64)) 0 b.length h.l) (Int.toNat (8 : Int)) b1.length r_.l) 0 (by kernel_rfl)) sU rfl (.u64 aL) rfl <| qs g1 0 <| qB ez 0 rfl 0 (.u64 il) (by kernel_rfl) <| qI g3 0 j9 <| qe) (by kernel_rfl) ?_
 refine ag ?_
 obtain ⟨v, JO, hm⟩ := nm hm
 refine ll (E := cj) (kk := 0) [] 2 (.u64 (aL ^^^ il)) [.u64 (aL ^^^ il)] JO j9 (Pt.xr (Pt.at g3 0) (12 : Int) 1) ez rfl .h rfl (by kernel_rfl) (by kernel_rfl) ?_
 intro DE jj
 refine af <| aa <| ab <| an ?_
 obtain ⟨eZ, jZ, hm⟩ := ob hm
 obtain ⟨jT, lA, hm⟩ := ob hm
 refine ba 6 [] (.n 28 (.u64 (eZ ^^^ im)) (.n 29 (.v (.pointer (nM (some ⟨g3, 0, none⟩) (13 : Int) 1))) (.ss (.kk (.s .a))))) (qV (jj.nU 2 rfl cj v 0 (by kernel_rfl)) jZ rfl (.u64 eZ) rfl <| qs g1 0 <| qB jj 0 rfl 1 (.u64 im) (by kernel_rfl) <| qI g3 0 lA <| qe) (by kernel_rfl) ?_
 refine ag ?_
 obtain ⟨v1, zO, hm⟩ := nm hm
 refine ll (E := cj) (kk := 0) [] 2 (.u64 (eZ ^^^ im)) [.u64 (eZ ^^^ im)] zO lA (Pt.xr (Pt.at g3 0) (13 : Int) 1) jj rfl .h rfl (by kernel_rfl) (by kernel_rfl) ?_
 intro Aw gQ
 refine af <| aa <| l4 (fun L wr => ∃ (v2 : ae UInt64 16), oX node v2 = some r ∧ L = [(3, .b node), (8, pt g2 0), (9, pt g3 0)] ∧ Cx F O w wr [Bx 181 g2 [.ar cj (ae.rep 16 (0 : UInt64))], Bx 181 g3 [.ar cj v2]]) ?_ ?_
 ·
  refine ab <| bO [] (.n 30 (.b last) (.ss (.kk (.s .a)))) qe (by kernel_rfl) ?_
  refine aa <| cm last (by kernel_rfl) (fun wm => ?_) (fun wm => ?_)
  · rw [if_pos wm] at hm
    refine an ?_
    obtain ⟨mw, oP, hm⟩ := ob hm
    obtain ⟨mC, qm, hm⟩ := ob hm
    refine ba 4 [] (.n 33 (.u64 (18446744073709551615 ^^^ mw)) (.n 34 (.v (.pointer (nM (some ⟨g3, 0, none⟩) (14 : Int) 1))) (.s .a))) (qV (gQ.nU 2 rfl cj v1 0 (by kernel_rfl)) oP rfl (.u64 mw) rfl <| qI g3 0 qm <| qe) (by kernel_rfl) ?_
    refine ag ?_
    obtain ⟨v3, Eg, hm⟩ := nm hm
    refine ll (E := cj) (kk := 0) [] 2 (.u64 (18446744073709551615 ^^^ mw)) [.u64 (18446744073709551615 ^^^ mw)] Eg qm (Pt.xr (Pt.at g3 0) (14 : Int) 1) gQ rfl .h rfl (by kernel_rfl) (by kernel_rfl) ?_
    intro De kV
    refine af ?_
    have lz := kV.de (.s (.kk .z))
    exact jS ⟨v3, hm, rfl, lz⟩ (by kernel_rfl)
  rw [if_neg (by rw [wm]; decide)] at hm
  refine bc ?_
  have k6 := gQ.de (.s (.kk .z))
  exact jS ⟨v1, hm, rfl, k6⟩ (by kernel_rfl)
 rintro L_ Ef ⟨v2, hm, rfl, lJ⟩
 simp only [oX] at hm
 refine l4 (fun L wr => ∃ (v4 : ae UInt64 16), oW v4 = some r ∧ L = [(8, pt g2 0), (9, pt g3 0)] ∧ Cx F O w wr [Bx 181 g2 [.ar cj (ae.rep 16 (0 : UInt64))], Bx 181 g3 [.ar cj v4]]) ?_ ?_
 ·
  refine ab <| bO [] (.n 35 (.b node) (.s .a)) qe (by kernel_rfl) ?_
  refine aa <| cm node (by kernel_rfl) (fun xR => ?_) (fun xR => ?_)
  · rw [if_pos xR] at hm
    refine an ?_
    obtain ⟨nK, tY, hm⟩ := ob hm
    obtain ⟨mH, tZ, hm⟩ := ob hm
    refine ba 4 [] (.n 38 (.u64 (18446744073709551615 ^^^ nK)) (.n 39 (.v (.pointer (nM (some ⟨g3, 0, none⟩) (15 : Int) 1))) (.s .a))) (qV (lJ.nU 1 rfl cj v2 0 (by kernel_rfl)) tY rfl (.u64 nK) rfl <| qI g3 0 tZ <| qe) (by kernel_rfl) ?_
    refine ag ?_
    obtain ⟨v5, Eh, hm⟩ := nm hm
    refine ll (E := cj) (kk := 0) [] 1 (.u64 (18446744073709551615 ^^^ nK)) [.u64 (18446744073709551615 ^^^ nK)] Eh tZ (Pt.xr (Pt.at g3 0) (15 : Int) 1) lJ rfl .h rfl (by kernel_rfl) (by kernel_rfl) ?_
    intro LF my
    refine af ?_
    exact jS ⟨v5, hm, rfl, my⟩ (by kernel_rfl)
  rw [if_neg (by rw [xR]; decide)] at hm
  refine bc ?_
  exact jS ⟨v2, hm, rfl, lJ⟩ (by kernel_rfl)
 rintro L_ N1 ⟨v4, hm, rfl, nE⟩
 simp only [oW] at hm
 refine ab <| an <| ba 1 [] (.n 40 (.agg [.ar cj v4]) (.k .z)) (qT nE 1 rfl 0 16 [.ar cj v4] (by kernel_rfl) (by decide) <| qe) (by kernel_rfl) ?_
 refine ag <| en [] 0 (.agg [.ar cj v4]) [.ar cj v4] (Pt.at g2 0) nE rfl .all (by kernel_rfl) (by kernel_rfl) ?_
 intro PU nh
 have mz := nh.de (.k .z)
 refine af <| aa <| aQ ?_
 obtain rfl := Option.some.inj hm
 refine aR [.agg [.ar cj v4]] (qo (.agg [.ar cj v4]) <| qc (fun w => Rd w (some ⟨g2, 0, none⟩) (SV.cl [.ar cj v4])) (mz.uz 0 rfl) <| qe) (by kernel_rfl) ?_
 have sw := mz.de .z
 exact ⟨rfl, sw⟩
theorem xF {F O : Nat → Prop} {w : World} (round : Int) (k : Cx F O w w []) (r : (ae Int 16)) (hm : oY round = some r) :
    Calls Tryz.prog 175 (ad [I round]) w (fun e w' => e = .returned (SV.val (.agg [.ar eI r])) ∧ Cx F O w w' []) := by
 unfold oY at hm
 refine calls [I round] Tryz.func175 rfl (of_decide_eq_true (by kernel_rfl)) ?_
 refine ab <| an <| ag <| bT [] 2 [.ar eI (ae.rep 16 (0 : Int))] (by kernel_rfl) k ?_
 intro g w_ k_
 refine af <| aa <| ab <| an <| ba 11 [] (.n 14 (.agg [.ar (eV eI 16) (⟨[(⟨[(0 : Int), (1 : Int), (2 : Int), (3 : Int), (4 : Int), (5 : Int), (6 : Int), (7 : Int), (8 : Int), (9 : Int), (10 : Int), (11 : Int), (12 : Int), (13 : Int), (14 : Int), (15 : Int)], rfl⟩ : ae Int 16), (⟨[(14 : Int), (10 : Int), (4 : Int), (8 : Int), (9 : Int), (15 : Int), (13 : Int), (6 : Int), (1 : Int), (12 : Int), (0 : Int), (2 : Int), (11 : Int), (7 : Int), (5 : Int), (3 : Int)], rfl⟩ : ae Int 16), (⟨[(11 : Int), (8 : Int), (12 : Int), (0 : Int), (5 : Int), (2 : Int), (15 : Int), (13 : Int), (10 : Int), (14 : Int), (3 : Int), (6 : Int), (7 : Int), (1 : Int), (9 : Int), (4 : Int)], rfl⟩ : ae Int 16), (⟨[(7 : Int), (9 : Int), (3 : Int), (1 : Int), (13 : Int), (12 : Int), (11 : Int), (14 : Int), (2 : Int), (6 : Int), (5 : Int), (10 : Int), (4 : Int), (0 : Int), (15 : Int), (8 : Int)], rfl⟩ : ae Int 16), (⟨[(9 : Int), (0 : Int), (5 : Int), (7 : Int), (2 : Int), (4 : Int), (10 : Int), (15 : Int), (14 : Int), (1 : Int), (11 : Int), (12 : Int), (6 : Int), (8 : Int), (3 : Int), (13 : Int)], rfl⟩ : ae Int 16), (⟨[(2 : Int), (12 : Int), (6 : Int), (10 : Int), (0 : Int), (11 : Int), (8 : Int), (3 : Int), (4 : Int), (13 : Int), (7 : Int), (5 : Int), (15 : Int), (14 : Int), (1 : Int), (9 : Int)], rfl⟩ : ae Int 16), (⟨[(12 : Int), (5 : Int), (1 : Int), (15 : Int), (14 : Int), (13 : Int), (4 : Int), (10 : Int), (0 : Int), (7 : Int), (6 : Int), (3 : Int), (9 : Int), (2 : Int), (8 : Int), (11 : Int)], rfl⟩ : ae Int 16), (⟨[(13 : Int), (11 : Int), (7 : Int), (14 : Int), (12 : Int), (1 : Int), (3 : Int), (9 : Int), (5 : Int), (0 : Int), (15 : Int), (4 : Int), (8 : Int), (6 : Int), (2 : Int), (10 : Int)], rfl⟩ : ae Int 16), (⟨[(6 : Int), (15 : Int), (14 : Int), (9 : Int), (11 : Int), (3 : Int), (0 : Int), (8 : Int), (12 : Int), (2 : Int), (13 : Int), (7 : Int), (1 : Int), (4 : Int), (10 : Int), (5 : Int)], rfl⟩ : ae Int 16), (⟨[(10 : Int), (2 : Int), (8 : Int), (4 : Int), (7 : Int), (6 : Int), (1 : Int), (5 : Int), (15 : Int), (11 : Int), (9 : Int), (14 : Int), (3 : Int), (12 : Int), (13 : Int), (0 : Int)], rfl⟩ : ae Int 16)], rfl⟩ : ae (ae Int 16) 10)]) .a) qe (by kernel_rfl) ?_
 refine ag <| bT [] 3 [.ar (eV eI 16) (ae.rep 10 (ae.rep 16 (0 : Int)))] (by kernel_rfl) k_ ?_
 intro g1 k4 db
 refine ag <| en [] 1 (.agg [.ar (eV eI 16) (⟨[(⟨[(0 : Int), (1 : Int), (2 : Int), (3 : Int), (4 : Int), (5 : Int), (6 : Int), (7 : Int), (8 : Int), (9 : Int), (10 : Int), (11 : Int), (12 : Int), (13 : Int), (14 : Int), (15 : Int)], rfl⟩ : ae Int 16), (⟨[(14 : Int), (10 : Int), (4 : Int), (8 : Int), (9 : Int), (15 : Int), (13 : Int), (6 : Int), (1 : Int), (12 : Int), (0 : Int), (2 : Int), (11 : Int), (7 : Int), (5 : Int), (3 : Int)], rfl⟩ : ae Int 16), (⟨[(11 : Int), (8 : Int), (12 : Int), (0 : Int), (5 : Int), (2 : Int), (15 : Int), (13 : Int), (10 : Int), (14 : Int), (3 : Int), (6 : Int), (7 : Int), (1 : Int), (9 : Int), (4 : Int)], rfl⟩ : ae Int 16), (⟨[(7 : Int), (9 : Int), (3 : Int), (1 : Int), (13 : Int), (12 : Int), (11 : Int), (14 : Int), (2 : Int), (6 : Int), (5 : Int), (10 : Int), (4 : Int), (0 : Int), (15 : Int), (8 : Int)], rfl⟩ : ae Int 16), (⟨[(9 : Int), (0 : Int), (5 : Int), (7 : Int), (2 : Int), (4 : Int), (10 : Int), (15 : Int), (14 : Int), (1 : Int), (11 : Int), (12 : Int), (6 : Int), (8 : Int), (3 : Int), (13 : Int)], rfl⟩ : ae Int 16), (⟨[(2 : Int), (12 : Int), (6 : Int), (10 : Int), (0 : Int), (11 : Int), (8 : Int), (3 : Int), (4 : Int), (13 : Int), (7 : Int), (5 : Int), (15 : Int), (14 : Int), (1 : Int), (9 : Int)], rfl⟩ : ae Int 16), (⟨[(12 : Int), (5 : Int), (1 : Int), (15 : Int), (14 : Int), (13 : Int), (4 : Int), (10 : Int), (0 : Int), (7 : Int), (6 : Int), (3 : Int), (9 : Int), (2 : Int), (8 : Int), (11 : Int)], rfl⟩ : ae Int 16), (⟨[(13 : Int), (11 : Int), (7 : Int), (14 : Int), (12 : Int), (1 : Int), (3 : Int), (9 : Int), (5 : Int), (0 : Int), (15 : Int), (4 : Int), (8 : Int), (6 : Int), (2 : Int), (10 : Int)], rfl⟩ : ae Int 16), (⟨[(6 : Int), (15 : Int), (14 : Int), (9 : Int), (11 : Int), (3 : Int), (0 : Int), (8 : Int), (12 : Int), (2 : Int), (13 : Int), (7 : Int), (1 : Int), (4 : Int), (10 : Int), (5 : Int)], rfl⟩ : ae Int 16), (⟨[(10 : Int), (2 : Int), (8 : Int), (4 : Int), (7 : Int), (6 : Int), (1 : Int), (5 : Int), (15 : Int), (11 : Int), (9 : Int), (14 : Int), (3 : Int), (12 : Int), (13 : Int), (0 : Int)], rfl⟩ : ae Int 16)], rfl⟩ : ae (ae Int 16) 10)]) [.ar (eV eI 16) (⟨[(⟨[(0 : Int), (1 : Int), (2 : Int), (3 : Int), (4 : Int), (5 : Int), (6 : Int), (7 : Int), (8 : Int), (9 : Int), (10 : Int), (11 : Int), (12 : Int), (13 : Int), (14 : Int), (15 : Int)], rfl⟩ : ae Int 16), (⟨[(14 : Int), (10 : Int), (4 : Int), (8 : Int), (9 : Int), (15 : Int), (13 : Int), (6 : Int), (1 : Int), (12 : Int), (0 : Int), (2 : Int), (11 : Int), (7 : Int), (5 : Int), (3 : Int)], rfl⟩ : ae Int 16), (⟨[(11 : Int), (8 : Int), (12 : Int), (0 : Int), (5 : Int), (2 : Int), (15 : Int), (13 : Int), (10 : Int), (14 : Int), (3 : Int), (6 : Int), (7 : Int), (1 : Int), (9 : Int), (4 : Int)], rfl⟩ : ae Int 16), (⟨[(7 : Int), (9 : Int), (3 : Int), (1 : Int), (13 : Int), (12 : Int), (11 : Int), (14 : Int), (2 : Int), (6 : Int), (5 : Int), (10 : Int), (4 : Int), (0 : Int), (15 : Int), (8 : Int)], rfl⟩ : ae Int 16), (⟨[(9 : Int), (0 : Int), (5 : Int), (7 : Int), (2 : Int), (4 : Int), (10 : Int), (15 : Int), (14 : Int), (1 : Int), (11 : Int), (12 : Int), (6 : Int), (8 : Int), (3 : Int), (13 : Int)], rfl⟩ : ae Int 16), (⟨[(2 : Int), (12 : Int), (6 : Int), (10 : Int), (0 : Int), (11 : Int), (8 : Int), (3 : Int), (4 : Int), (13 : Int), (7 : Int), (5 : Int), (15 : Int), (14 : Int), (1 : Int), (9 : Int)], rfl⟩ : ae Int 16), (⟨[(12 : Int), (5 : Int), (1 : Int), (15 : Int), (14 : Int), (13 : Int), (4 : Int), (10 : Int), (0 : Int), (7 : Int), (6 : Int), (3 : Int), (9 : Int), (2 : Int), (8 : Int), (11 : Int)], rfl⟩ : ae Int 16), (⟨[(13 : Int), (11 : Int), (7 : Int), (14 : Int), (12 : Int), (1 : Int), (3 : Int), (9 : Int), (5 : Int), (0 : Int), (15 : Int), (4 : Int), (8 : Int), (6 : Int), (2 : Int), (10 : Int)], rfl⟩ : ae Int 16), (⟨[(6 : Int), (15 : Int), (14 : Int), (9 : Int), (11 : Int), (3 : Int), (0 : Int), (8 : Int), (12 : Int), (2 : Int), (13 : Int), (7 : Int), (1 : Int), (4 : Int), (10 : Int), (5 : Int)], rfl⟩ : ae Int 16), (⟨[(10 : Int), (2 : Int), (8 : Int), (4 : Int), (7 : Int), (6 : Int), (1 : Int), (5 : Int), (15 : Int), (11 : Int), (9 : Int), (14 : Int), (3 : Int), (12 : Int), (13 : Int), (0 : Int)], rfl⟩ : ae Int 16)], rfl⟩ : ae (ae Int 16) 10)] (Pt.at g1 0) db rfl .all (by kernel_rfl) (by kernel_rfl) ?_
 intro l6 dE
 refine af <| aa <| ab <| an ?_
 obtain ⟨aL, sU, hm⟩ := ob hm
 refine ba 6 [] (.n 20 (.agg [.ar eI aL]) (.ss (.k .z))) (qp ((10 : Int) ≠ (0 : Int)) (by omega) <| qp ((10 : Int) ≠ (0 : Int)) (by omega) <| qI g1 0 sU <| qR [.ar eI aL] (Rd.Tb (dE.nU 1 rfl (eV eI 16) (⟨[(⟨[(0 : Int), (1 : Int), (2 : Int), (3 : Int), (4 : Int), (5 : Int), (6 : Int), (7 : Int), (8 : Int), (9 : Int), (10 : Int), (11 : Int), (12 : Int), (13 : Int), (14 : Int), (15 : Int)], rfl⟩ : ae Int 16), (⟨[(14 : Int), (10 : Int), (4 : Int), (8 : Int), (9 : Int), (15 : Int), (13 : Int), (6 : Int), (1 : Int), (12 : Int), (0 : Int), (2 : Int), (11 : Int), (7 : Int), (5 : Int), (3 : Int)], rfl⟩ : ae Int 16), (⟨[(11 : Int), (8 : Int), (12 : Int), (0 : Int), (5 : Int), (2 : Int), (15 : Int), (13 : Int), (10 : Int), (14 : Int), (3 : Int), (6 : Int), (7 : Int), (1 : Int), (9 : Int), (4 : Int)], rfl⟩ : ae Int 16), (⟨[(7 : Int), (9 : Int), (3 : Int), (1 : Int), (13 : Int), (12 : Int), (11 : Int), (14 : Int), (2 : Int), (6 : Int), (5 : Int), (10 : Int), (4 : Int), (0 : Int), (15 : Int), (8 : Int)], rfl⟩ : ae Int 16), (⟨[(9 : Int), (0 : Int), (5 : Int), (7 : Int), (2 : Int), (4 : Int), (10 : Int), (15 : Int), (14 : Int), (1 : Int), (11 : Int), (12 : Int), (6 : Int), (8 : Int), (3 : Int), (13 : Int)], rfl⟩ : ae Int 16), (⟨[(2 : Int), (12 : Int), (6 : Int), (10 : Int), (0 : Int), (11 : Int), (8 : Int), (3 : Int), (4 : Int), (13 : Int), (7 : Int), (5 : Int), (15 : Int), (14 : Int), (1 : Int), (9 : Int)], rfl⟩ : ae Int 16), (⟨[(12 : Int), (5 : Int), (1 : Int), (15 : Int), (14 : Int), (13 : Int), (4 : Int), (10 : Int), (0 : Int), (7 : Int), (6 : Int), (3 : Int), (9 : Int), (2 : Int), (8 : Int), (11 : Int)], rfl⟩ : ae Int 16), (⟨[(13 : Int), (11 : Int), (7 : Int), (14 : Int), (12 : Int), (1 : Int), (3 : Int), (9 : Int), (5 : Int), (0 : Int), (15 : Int), (4 : Int), (8 : Int), (6 : Int), (2 : Int), (10 : Int)], rfl⟩ : ae Int 16), (⟨[(6 : Int), (15 : Int), (14 : Int), (9 : Int), (11 : Int), (3 : Int), (0 : Int), (8 : Int), (12 : Int), (2 : Int), (13 : Int), (7 : Int), (1 : Int), (4 : Int), (10 : Int), (5 : Int)], rfl⟩ : ae Int 16), (⟨[(10 : Int), (2 : Int), (8 : Int), (4 : Int), (7 : Int), (6 : Int), (1 : Int), (5 : Int), (15 : Int), (11 : Int), (9 : Int), (14 : Int), (3 : Int), (12 : Int), (13 : Int), (0 : Int)], rfl⟩ : ae Int 16)], rfl⟩ : ae (ae Int 16) 10) 0 (by kernel_rfl)) sU (Pt.x6 (some ⟨g1, 0, none⟩) (Int.tmod (aD ((Int.tmod round 10) + 10)) 10) 16) (by decide)) <| qe) (by kernel_rfl) ?_
 refine ag <| en [] 0 (.agg [.ar eI aL]) [.ar eI aL] (Pt.at g 0) dE rfl .all (by kernel_rfl) (by kernel_rfl) ?_
 intro qj dU
 have eY := dU.de (.k .z)
 refine af <| aa <| aQ ?_
 obtain rfl := Option.some.inj hm
 refine aR [.agg [.ar eI aL]] (qo (.agg [.ar eI aL]) <| qc (fun w => Rd w (some ⟨g, 0, none⟩) (SV.cl [.ar eI aL])) (eY.uz 0 rfl) <| qe) (by kernel_rfl) ?_
 have fU := eY.de .z
 exact ⟨rfl, fU⟩
theorem AB {F O : Nat → Prop} {w : World} (k : Cx F O w w []) (r : (ae (ae Int 4) 8)) (hm : pP = some r) :
    Calls Tryz.prog 176 (ad []) w (fun e w' => e = .returned (SV.val (.agg [.ar (eV eI 4) r])) ∧ Cx F O w w' []) := by
 unfold pP at hm
 refine calls [] Tryz.func176 rfl (of_decide_eq_true (by kernel_rfl)) ?_
 refine ab <| an <| ag <| bT [] 0 [.ar (eV eI 4) (ae.rep 8 (ae.rep 4 (0 : Int)))] (by kernel_rfl) k ?_
 intro g w_ k_
 refine af <| aa <| ab <| an <| ba 9 [] (.n 9 (.agg [.ar (eV eI 4) (⟨[(⟨[(0 : Int), (4 : Int), (8 : Int), (12 : Int)], rfl⟩ : ae Int 4), (⟨[(1 : Int), (5 : Int), (9 : Int), (13 : Int)], rfl⟩ : ae Int 4), (⟨[(2 : Int), (6 : Int), (10 : Int), (14 : Int)], rfl⟩ : ae Int 4), (⟨[(3 : Int), (7 : Int), (11 : Int), (15 : Int)], rfl⟩ : ae Int 4), (⟨[(0 : Int), (5 : Int), (10 : Int), (15 : Int)], rfl⟩ : ae Int 4), (⟨[(1 : Int), (6 : Int), (11 : Int), (12 : Int)], rfl⟩ : ae Int 4), (⟨[(2 : Int), (7 : Int), (8 : Int), (13 : Int)], rfl⟩ : ae Int 4), (⟨[(3 : Int), (4 : Int), (9 : Int), (14 : Int)], rfl⟩ : ae Int 4)], rfl⟩ : ae (ae Int 4) 8)]) .a) qe (by kernel_rfl) ?_
 refine ag <| en [] 0 (.agg [.ar (eV eI 4) (⟨[(⟨[(0 : Int), (4 : Int), (8 : Int), (12 : Int)], rfl⟩ : ae Int 4), (⟨[(1 : Int), (5 : Int), (9 : Int), (13 : Int)], rfl⟩ : ae Int 4), (⟨[(2 : Int), (6 : Int), (10 : Int), (14 : Int)], rfl⟩ : ae Int 4), (⟨[(3 : Int), (7 : Int), (11 : Int), (15 : Int)], rfl⟩ : ae Int 4), (⟨[(0 : Int), (5 : Int), (10 : Int), (15 : Int)], rfl⟩ : ae Int 4), (⟨[(1 : Int), (6 : Int), (11 : Int), (12 : Int)], rfl⟩ : ae Int 4), (⟨[(2 : Int), (7 : Int), (8 : Int), (13 : Int)], rfl⟩ : ae Int 4), (⟨[(3 : Int), (4 : Int), (9 : Int), (14 : Int)], rfl⟩ : ae Int 4)], rfl⟩ : ae (ae Int 4) 8)]) [.ar (eV eI 4) (⟨[(⟨[(0 : Int), (4 : Int), (8 : Int), (12 : Int)], rfl⟩ : ae Int 4), (⟨[(1 : Int), (5 : Int), (9 : Int), (13 : Int)], rfl⟩ : ae Int 4), (⟨[(2 : Int), (6 : Int), (10 : Int), (14 : Int)], rfl⟩ : ae Int 4), (⟨[(3 : Int), (7 : Int), (11 : Int), (15 : Int)], rfl⟩ : ae Int 4), (⟨[(0 : Int), (5 : Int), (10 : Int), (15 : Int)], rfl⟩ : ae Int 4), (⟨[(1 : Int), (6 : Int), (11 : Int), (12 : Int)], rfl⟩ : ae Int 4), (⟨[(2 : Int), (7 : Int), (8 : Int), (13 : Int)], rfl⟩ : ae Int 4), (⟨[(3 : Int), (4 : Int), (9 : Int), (14 : Int)], rfl⟩ : ae Int 4)], rfl⟩ : ae (ae Int 4) 8)] (Pt.at g 0) k_ rfl .all (by kernel_rfl) (by kernel_rfl) ?_
 intro k4 db
 refine af <| aa <| aQ ?_
 obtain rfl := Option.some.inj hm
 refine aR [.agg [.ar (eV eI 4) (⟨[(⟨[(0 : Int), (4 : Int), (8 : Int), (12 : Int)], rfl⟩ : ae Int 4), (⟨[(1 : Int), (5 : Int), (9 : Int), (13 : Int)], rfl⟩ : ae Int 4), (⟨[(2 : Int), (6 : Int), (10 : Int), (14 : Int)], rfl⟩ : ae Int 4), (⟨[(3 : Int), (7 : Int), (11 : Int), (15 : Int)], rfl⟩ : ae Int 4), (⟨[(0 : Int), (5 : Int), (10 : Int), (15 : Int)], rfl⟩ : ae Int 4), (⟨[(1 : Int), (6 : Int), (11 : Int), (12 : Int)], rfl⟩ : ae Int 4), (⟨[(2 : Int), (7 : Int), (8 : Int), (13 : Int)], rfl⟩ : ae Int 4), (⟨[(3 : Int), (4 : Int), (9 : Int), (14 : Int)], rfl⟩ : ae Int 4)], rfl⟩ : ae (ae Int 4) 8)]] (qo (.agg [.ar (eV eI 4) (⟨[(⟨[(0 : Int), (4 : Int), (8 : Int), (12 : Int)], rfl⟩ : ae Int 4), (⟨[(1 : Int), (5 : Int), (9 : Int), (13 : Int)], rfl⟩ : ae Int 4), (⟨[(2 : Int), (6 : Int), (10 : Int), (14 : Int)], rfl⟩ : ae Int 4), (⟨[(3 : Int), (7 : Int), (11 : Int), (15 : Int)], rfl⟩ : ae Int 4), (⟨[(0 : Int), (5 : Int), (10 : Int), (15 : Int)], rfl⟩ : ae Int 4), (⟨[(1 : Int), (6 : Int), (11 : Int), (12 : Int)], rfl⟩ : ae Int 4), (⟨[(2 : Int), (7 : Int), (8 : Int), (13 : Int)], rfl⟩ : ae Int 4), (⟨[(3 : Int), (4 : Int), (9 : Int), (14 : Int)], rfl⟩ : ae Int 4)], rfl⟩ : ae (ae Int 4) 8)]) <| qc (fun w => Rd w (some ⟨g, 0, none⟩) (SV.cl [.ar (eV eI 4) (⟨[(⟨[(0 : Int), (4 : Int), (8 : Int), (12 : Int)], rfl⟩ : ae Int 4), (⟨[(1 : Int), (5 : Int), (9 : Int), (13 : Int)], rfl⟩ : ae Int 4), (⟨[(2 : Int), (6 : Int), (10 : Int), (14 : Int)], rfl⟩ : ae Int 4), (⟨[(3 : Int), (7 : Int), (11 : Int), (15 : Int)], rfl⟩ : ae Int 4), (⟨[(0 : Int), (5 : Int), (10 : Int), (15 : Int)], rfl⟩ : ae Int 4), (⟨[(1 : Int), (6 : Int), (11 : Int), (12 : Int)], rfl⟩ : ae Int 4), (⟨[(2 : Int), (7 : Int), (8 : Int), (13 : Int)], rfl⟩ : ae Int 4), (⟨[(3 : Int), (4 : Int), (9 : Int), (14 : Int)], rfl⟩ : ae Int 4)], rfl⟩ : ae (ae Int 4) 8)])) (db.uz 0 rfl) <| qe) (by kernel_rfl) ?_
 have dE := db.de .z
 exact ⟨rfl, dE⟩
theorem lR {F O : Nat → Prop} {w : World} (x_ : UInt64) (k_ : Int) (k : Cx F O w w []) (r : UInt64) (hm : e7 x_ k_ = some r) :
    Calls Tryz.prog 190 (ad [.u64 x_, I k_]) w (fun e w' => e = .returned (SV.val (.u64 r)) ∧ Cx F O w w' []) := by
 unfold e7 at hm
 refine calls [.u64 x_, I k_] Tryz.func190 rfl (of_decide_eq_true (by kernel_rfl)) ?_
 refine ab <| bO [] .a qe (by kernel_rfl) ?_
 refine aa <| ab <| bO [] (.n 5 (.u64 ((UInt64.ofInt k_) &&& 63)) (.k .z)) qe (by kernel_rfl) ?_
 refine aa <| ab <| bO [] (.n 4 (.u64 ((aC x_ (((UInt64.ofInt k_) &&& 63).toNat)) ||| (aK x_ (((64 : UInt64) - ((UInt64.ofInt k_) &&& 63)).toNat)))) .z) qe (by kernel_rfl) ?_
 refine aa <| aQ ?_
 obtain rfl := Option.some.inj hm
 refine aR [.u64 ((aC x_ (((UInt64.ofInt k_) &&& 63).toNat)) ||| (aK x_ (((64 : UInt64) - ((UInt64.ofInt k_) &&& 63)).toNat)))] qe (by kernel_rfl) ?_
 exact ⟨rfl, k⟩
theorem Dg {F O : Nat → Prop} {w : World} (v : ae UInt64 16) (p : ae Int 4) (x_ : UInt64) (y_ : UInt64) (fg : Nat) (k : Cx F O w w [Bx 181 fg [.ar cj v]]) (r : (ae UInt64 16)) (hm : pX v p x_ y_ = some r) :
    Calls Tryz.prog 177 (ad [pt fg 0, .agg [.ar eI p], .u64 x_, .u64 y_]) w (fun e w' => e = .returned (SV.val (.gD [])) ∧ Cx F O w w' [Bx 181 fg [.ar cj r]]) := by
 unfold pX at hm
 refine calls [pt fg 0, .agg [.ar eI p], .u64 x_, .u64 y_] Tryz.func177 rfl (of_decide_eq_true (by kernel_rfl)) ?_
 refine ab <| an <| ag <| gF [] 5 (.agg [.ar eI p]) [.ar eI p] (by kernel_rfl) k ?_
 intro g w_ k_
 refine af <| aa <| ab ?_
 obtain ⟨eZ, jZ, hm⟩ := ob hm
 obtain ⟨jT, lA, hm⟩ := ob hm
 obtain ⟨mw, oP, hm⟩ := ob hm
 obtain ⟨mC, qm, hm⟩ := ob hm
 refine Gu bK (by kernel_rfl) (.n 8 (I eZ) (.n 9 (I jT) (.n 10 (I mw) (.n 11 (I mC) (.s (.k (.s .a))))))) (fun m => qV ((k_.drew m).nU 1 rfl eI p 0 (by kernel_rfl)) jZ rfl (I eZ) rfl <| qV ((k_.drew m).nU 1 rfl eI p 0 (by kernel_rfl)) lA rfl (I jT) rfl <| qV ((k_.drew m).nU 1 rfl eI p 0 (by kernel_rfl)) oP rfl (I mw) rfl <| qV ((k_.drew m).nU 1 rfl eI p 0 (by kernel_rfl)) qm rfl (I mC) rfl <| qe) (by kernel_rfl) (fun m_ => ?_)
 have db := k_.drew m_
 refine aa <| ab ?_
 have dE := db.drew 1
 refine qO bK (.q 0 0 (.q 1 0 (.q 2 0 (.q 3 0 (.q 4 0 (.q 5 0 (.q 6 0 (.q 7 0 (.q 8 0 (.q 9 0 (.q 10 0 (.q 11 0 (.q 12 0 (.q 13 0 (.q 14 0 (.op 15 .nil)))))))))))))))) [15] dE (.c (.s (.k .e)) .l) (by kernel_rfl) (fun _ => ?_)
 obtain ⟨nK, tY, hm⟩ := ob hm
 obtain ⟨mH, tZ, hm⟩ := ob hm
 obtain ⟨vv, Bm, hm⟩ := ob hm
 refine cK 15 0 [] (.n 32 (.u64 (nK + (mH + x_))) (.n 34 (.v (.pointer (nM (some ⟨fg, 0, none⟩) eZ 1))) (.bX (.k (.s .a))))) (fun x hx => qs fg 0 <| qV (hx.nU 0 rfl cj v 0 (by kernel_rfl)) tY rfl (.u64 nK) rfl <| qs fg 0 <| qV (hx.nU 0 rfl cj v 0 (by kernel_rfl)) tZ rfl (.u64 mH) rfl <| qs fg 0 <| qI fg 0 Bm <| qe) (by kernel_rfl) (fun _ => ?_)
 refine cC (by kernel_rfl) rfl ?_
 obtain ⟨v1, zO, hm⟩ := nm hm
 refine ll (E := cj) (kk := 0) [] 0 (.u64 (nK + (mH + x_))) [.u64 (nK + (mH + x_))] zO Bm (Pt.xr (Pt.at fg 0) eZ 1) dE rfl .h rfl (by kernel_rfl) (by kernel_rfl) ?_
 intro k4 dU
 refine ⟨(dU.de (.s (.k .e))), fun _ => ?_⟩
 refine d_ <| aa <| ab ?_
 have eY := dU.drew 1
 refine qO bK (.q 0 1 (.q 1 1 (.q 2 1 (.q 3 1 (.q 4 1 (.q 5 1 (.q 6 0 (.q 7 1 (.q 8 1 (.q 9 1 (.q 10 1 (.q 11 0 (.q 12 0 (.q 14 1 (.op 13 (.q 15 1 (.op 16 .nil))))))))))))))))) [13, 16] eY (.c (.kk .e) (.c (.s (.k .e)) .l)) (by kernel_rfl) (fun _ => ?_)
 obtain ⟨ta, Bn, hm⟩ := ob hm
 refine cK 6 1 [] (.n 35 (pt fg 0) (.n 36 (I mC) (.n 40 (.v (.pointer (nM (some ⟨fg, 0, none⟩) mC 1))) (.ss .a)))) (fun x hx => qs fg 0 <| qI fg 0 Bn <| qe) (by kernel_rfl) (fun _ => ?_)
 refine cK 1 0 [] (.n 41 (.u64 ta) (.kk (.s .a))) (fun x hx => qC (.u64 ta) (Rd.el (k := 0) (hx.nU 0 rfl cj v1 0 (by kernel_rfl)) Bn (Pt.x6 (some ⟨fg, 0, none⟩) mC 1) rfl) <| qe) (by kernel_rfl) (fun _ => ?_)
 obtain ⟨nv, wU, hm⟩ := ob hm
 refine cK 4 1 [] (.n 45 (.v (.pointer (nM (some ⟨fg, 0, none⟩) eZ 1))) .a) (fun x hx => qs fg 0 <| qI fg 0 wU <| qe) (by kernel_rfl) (fun _ => ?_)
 refine cK 2 0 [] (.n 47 (.u64 (ta ^^^ nv)) (.ss .a)) (fun x hx => qC (.u64 nv) (Rd.el (k := 0) (hx.nU 0 rfl cj v1 0 (by kernel_rfl)) wU (Pt.x6 (some ⟨fg, 0, none⟩) eZ 1) rfl) <| qe) (by kernel_rfl) (fun _ => ?_)
 refine cK 1 1 [] (.n 49 (pt fg 0) (.k (.s .a))) (fun x hx => qs fg 0 <| qe) (by kernel_rfl) (fun _ => ?_)
 refine cC (by kernel_rfl) rfl ?_
 obtain ⟨r_, cQ, hm⟩ := ob hm
 refine au [] 48 _ xB (by kernel_rfl) (lR (F := N0) (O := N0) _ _ (Cx.refl _) _ cQ) ?_
 rintro e_ l6 ⟨rfl, fU⟩
 have g_ := eY.call fU
 refine ⟨.u64 r_, rfl, ?_⟩
 refine ⟨g_, fun _ => ?_⟩
 obtain ⟨fx, zP, hm⟩ := ob hm
 refine cK 1 1 [] (.n 50 (.v (.pointer (nM (some ⟨fg, 0, none⟩) mC 1))) (.k (.oQ .a))) (fun x hx => qI fg 0 zP <| qe) (by kernel_rfl) (fun _ => ?_)
 refine cC (by kernel_rfl) rfl ?_
 obtain ⟨v2, LH, hm⟩ := nm hm
 refine ll (E := cj) (kk := 0) [] 0 (.u64 r_) [.u64 r_] LH zP (Pt.xr (Pt.at fg 0) mC 1) g_ rfl .h rfl (by kernel_rfl) (by kernel_rfl) ?_
 intro qj gC
 refine ⟨(gC.de (.s (.k .e))), fun _ => ?_⟩
 refine d_ <| aa <| ab ?_
 have gP := gC.drew 1
 refine qO bK (.q 0 0 (.q 1 0 (.q 2 0 (.q 3 0 (.q 4 0 (.q 5 0 (.q 6 0 (.q 7 0 (.q 8 0 (.q 9 0 (.q 10 0 (.q 11 0 (.q 12 0 (.op 13 .nil)))))))))))))) [13] gP (.c (.s (.k .e)) .l) (by kernel_rfl) (fun _ => ?_)
 obtain ⟨wD, Ca, hm⟩ := ob hm
 obtain ⟨yT, Cb, hm⟩ := ob hm
 obtain ⟨As, Cc, hm⟩ := ob hm
 refine cK 13 0 [] (.n 61 (.u64 (wD + yT)) (.n 63 (.v (.pointer (nM (some ⟨fg, 0, none⟩) mw 1))) (.ss .a))) (fun x hx => qs fg 0 <| qV (hx.nU 0 rfl cj v2 0 (by kernel_rfl)) Ca rfl (.u64 wD) rfl <| qs fg 0 <| qV (hx.nU 0 rfl cj v2 0 (by kernel_rfl)) Cb rfl (.u64 yT) rfl <| qs fg 0 <| qI fg 0 Cc <| qe) (by kernel_rfl) (fun _ => ?_)
 refine cC (by kernel_rfl) rfl ?_
 have gB := gP.de (.kk .e)
 obtain ⟨v3, Eg, hm⟩ := nm hm
 refine ll (E := cj) (kk := 0) [] 0 (.u64 (wD + yT)) [.u64 (wD + yT)] Eg Cc (Pt.xr (Pt.at fg 0) mw 1) gB rfl .h rfl (by kernel_rfl) (by kernel_rfl) ?_
 intro qk dO
 refine ⟨(dO.de (.s (.k .e))), fun _ => ?_⟩
 refine d_ <| aa <| ab ?_
 have cV := dO.drew 1
 refine qO bK (.q 0 1 (.q 1 1 (.q 2 1 (.q 3 1 (.q 4 1 (.q 5 1 (.q 6 0 (.q 7 1 (.q 8 1 (.q 9 1 (.q 10 1 (.q 11 0 (.q 12 0 (.q 14 1 (.op 13 (.q 15 1 (.op 16 .nil))))))))))))))))) [13, 16] cV (.c (.kk .e) (.c (.s (.k .e)) .l)) (by kernel_rfl) (fun _ => ?_)
 obtain ⟨vK, Cd, hm⟩ := ob hm
 refine cK 6 1 [] (.n 64 (pt fg 0) (.n 65 (I jT) (.n 69 (.v (.pointer (nM (some ⟨fg, 0, none⟩) jT 1))) (.ss .a)))) (fun x hx => qs fg 0 <| qI fg 0 Cd <| qe) (by kernel_rfl) (fun _ => ?_)
 refine cK 1 0 [] (.n 70 (.u64 vK) (.kk (.s .a))) (fun x hx => qC (.u64 vK) (Rd.el (k := 0) (hx.nU 0 rfl cj v3 0 (by kernel_rfl)) Cd (Pt.x6 (some ⟨fg, 0, none⟩) jT 1) rfl) <| qe) (by kernel_rfl) (fun _ => ?_)
 obtain ⟨rW, zQ, hm⟩ := ob hm
 refine cK 4 1 [] (.n 74 (.v (.pointer (nM (some ⟨fg, 0, none⟩) mw 1))) .a) (fun x hx => qs fg 0 <| qI fg 0 zQ <| qe) (by kernel_rfl) (fun _ => ?_)
 refine cK 2 0 [] (.n 76 (.u64 (vK ^^^ rW)) (.ss .a)) (fun x hx => qC (.u64 rW) (Rd.el (k := 0) (hx.nU 0 rfl cj v3 0 (by kernel_rfl)) zQ (Pt.x6 (some ⟨fg, 0, none⟩) mw 1) rfl) <| qe) (by kernel_rfl) (fun _ => ?_)
 refine cK 1 1 [] (.n 78 (pt fg 0) (.k (.s .a))) (fun x hx => qs fg 0 <| qe) (by kernel_rfl) (fun _ => ?_)
 refine cC (by kernel_rfl) rfl ?_
 obtain ⟨ah, dd, hm⟩ := ob hm
 refine au [] 77 _ xB (by kernel_rfl) (lR (F := N0) (O := N0) _ _ (Cx.refl _) _ dd) ?_
 rintro e_ rX ⟨rfl, ff⟩
 have gI := cV.call ff
 refine ⟨.u64 ah, rfl, ?_⟩
 refine ⟨gI, fun _ => ?_⟩
 obtain ⟨nw, zR, hm⟩ := ob hm
 refine cK 1 1 [] (.n 79 (.v (.pointer (nM (some ⟨fg, 0, none⟩) jT 1))) (.k (.oQ .a))) (fun x hx => qI fg 0 zR <| qe) (by kernel_rfl) (fun _ => ?_)
 refine cC (by kernel_rfl) rfl ?_
 obtain ⟨v4, LI, hm⟩ := nm hm
 refine ll (E := cj) (kk := 0) [] 0 (.u64 ah) [.u64 ah] LI zR (Pt.xr (Pt.at fg 0) jT 1) gI rfl .h rfl (by kernel_rfl) (by kernel_rfl) ?_
 intro wQ ez
 refine ⟨(ez.de (.s (.k .e))), fun _ => ?_⟩
 refine d_ <| aa <| ab ?_
 have jj := ez.drew 1
 refine qO bK (.q 0 0 (.q 1 0 (.q 2 0 (.q 3 0 (.q 4 0 (.q 5 0 (.q 6 0 (.q 7 0 (.q 8 0 (.q 9 0 (.q 10 0 (.q 11 0 (.q 12 0 (.q 13 0 (.q 14 0 (.op 15 .nil)))))))))))))))) [15] jj (.c (.s (.k .e)) .l) (by kernel_rfl) (fun _ => ?_)
 obtain ⟨lW, Ce, hm⟩ := ob hm
 obtain ⟨ny, Cf, hm⟩ := ob hm
 obtain ⟨tn, Cg, hm⟩ := ob hm
 refine cK 15 0 [] (.n 92 (.u64 (lW + (ny + y_))) (.n 94 (.v (.pointer (nM (some ⟨fg, 0, none⟩) eZ 1))) (.ss (.bX (.k .z))))) (fun x hx => qs fg 0 <| qV (hx.nU 0 rfl cj v4 0 (by kernel_rfl)) Ce rfl (.u64 lW) rfl <| qs fg 0 <| qV (hx.nU 0 rfl cj v4 0 (by kernel_rfl)) Cf rfl (.u64 ny) rfl <| qs fg 0 <| qI fg 0 Cg <| qe) (by kernel_rfl) (fun _ => ?_)
 refine cC (by kernel_rfl) rfl ?_
 obtain ⟨v5, Eh, hm⟩ := nm hm
 refine ll (E := cj) (kk := 0) [] 0 (.u64 (lW + (ny + y_))) [.u64 (lW + (ny + y_))] Eh Cg (Pt.xr (Pt.at fg 0) eZ 1) jj rfl .h rfl (by kernel_rfl) (by kernel_rfl) ?_
 intro wR gQ
 refine ⟨(gQ.de (.s (.k .e))), fun _ => ?_⟩
 refine d_ <| aa <| ab ?_
 have kV := gQ.drew 1
 refine qO bK (.q 0 1 (.q 1 1 (.q 2 1 (.q 3 1 (.q 4 1 (.q 5 1 (.q 6 0 (.q 7 1 (.q 8 1 (.q 9 1 (.q 10 1 (.q 11 0 (.q 12 0 (.q 14 1 (.op 13 (.q 15 1 (.op 16 .nil))))))))))))))))) [13, 16] kV (.c (.kk .e) (.c (.s (.k .e)) .l)) (by kernel_rfl) (fun _ => ?_)
 obtain ⟨vL, Ch, hm⟩ := ob hm
 refine cK 6 1 [] (.n 95 (pt fg 0) (.n 96 (I mC) (.n 100 (.v (.pointer (nM (some ⟨fg, 0, none⟩) mC 1))) (.ss .a)))) (fun x hx => qs fg 0 <| qI fg 0 Ch <| qe) (by kernel_rfl) (fun _ => ?_)
 refine cK 1 0 [] (.n 101 (.u64 vL) (.kk (.s .a))) (fun x hx => qC (.u64 vL) (Rd.el (k := 0) (hx.nU 0 rfl cj v5 0 (by kernel_rfl)) Ch (Pt.x6 (some ⟨fg, 0, none⟩) mC 1) rfl) <| qe) (by kernel_rfl) (fun _ => ?_)
 obtain ⟨Au, zS, hm⟩ := ob hm
 refine cK 4 1 [] (.n 105 (.v (.pointer (nM (some ⟨fg, 0, none⟩) eZ 1))) (.uk (.s .a))) (fun x hx => qs fg 0 <| qI fg 0 zS <| qe) (by kernel_rfl) (fun _ => ?_)
 refine cK 2 0 [] (.n 107 (.u64 (vL ^^^ Au)) (.ss .a)) (fun x hx => qC (.u64 Au) (Rd.el (k := 0) (hx.nU 0 rfl cj v5 0 (by kernel_rfl)) zS (Pt.x6 (some ⟨fg, 0, none⟩) eZ 1) rfl) <| qe) (by kernel_rfl) (fun _ => ?_)
 refine cK 1 1 [] (.n 109 (pt fg 0) (.k (.s .a))) (fun x hx => qs fg 0 <| qe) (by kernel_rfl) (fun _ => ?_)
 refine cC (by kernel_rfl) rfl ?_
 have lz := kV.de (.kk .e)
 obtain ⟨aX, hK, hm⟩ := ob hm
 refine au [] 108 _ xB (by kernel_rfl) (lR (F := N0) (O := N0) _ _ (Cx.refl _) _ hK) ?_
 rintro e_ Av ⟨rfl, k6⟩
 have lJ := lz.call k6
 refine ⟨.u64 aX, rfl, ?_⟩
 refine ⟨lJ, fun _ => ?_⟩
 obtain ⟨BP, zT, hm⟩ := ob hm
 refine cK 1 1 [] (.n 110 (.v (.pointer (nM (some ⟨fg, 0, none⟩) mC 1))) (.k (.oQ .a))) (fun x hx => qI fg 0 zT <| qe) (by kernel_rfl) (fun _ => ?_)
 refine cC (by kernel_rfl) rfl ?_
 obtain ⟨v6, LJ, hm⟩ := nm hm
 refine ll (E := cj) (kk := 0) [] 0 (.u64 aX) [.u64 aX] LJ zT (Pt.xr (Pt.at fg 0) mC 1) lJ rfl .h rfl (by kernel_rfl) (by kernel_rfl) ?_
 intro DE my
 refine ⟨(my.de (.s (.k .e))), fun _ => ?_⟩
 refine d_ <| aa <| ab ?_
 have nE := my.drew 1
 refine qO bK (.q 0 0 (.q 1 0 (.q 2 0 (.q 3 0 (.q 4 0 (.q 5 0 (.q 6 0 (.q 7 0 (.q 8 0 (.q 9 0 (.q 10 0 (.q 11 0 (.q 12 0 (.op 13 .nil)))))))))))))) [13] nE (.c (.s (.k .e)) .l) (by kernel_rfl) (fun _ => ?_)
 obtain ⟨tp, Ci, hm⟩ := ob hm
 obtain ⟨vM, Cj, hm⟩ := ob hm
 obtain ⟨FZ, HV, hm⟩ := ob hm
 refine cK 13 0 [] (.n 121 (.u64 (tp + vM)) (.n 123 (.v (.pointer (nM (some ⟨fg, 0, none⟩) mw 1))) (.ss (.kk (.s .a))))) (fun x hx => qs fg 0 <| qV (hx.nU 0 rfl cj v6 0 (by kernel_rfl)) Ci rfl (.u64 tp) rfl <| qs fg 0 <| qV (hx.nU 0 rfl cj v6 0 (by kernel_rfl)) Cj rfl (.u64 vM) rfl <| qs fg 0 <| qI fg 0 HV <| qe) (by kernel_rfl) (fun _ => ?_)
 refine cC (by kernel_rfl) rfl ?_
 obtain ⟨v7, LK, hm⟩ := nm hm
 refine ll (E := cj) (kk := 0) [] 0 (.u64 (tp + vM)) [.u64 (tp + vM)] LK HV (Pt.xr (Pt.at fg 0) mw 1) nE rfl .h rfl (by kernel_rfl) (by kernel_rfl) ?_
 intro Aw nh
 refine ⟨(nh.de (.s (.k .e))), fun _ => ?_⟩
 refine d_ <| aa ?_
 have mz := nh.drew 1
 refine qO bK (.q 0 1 (.q 1 1 (.q 2 1 (.q 3 1 (.q 4 1 (.q 5 1 (.q 6 0 (.q 7 1 (.q 8 1 (.q 9 1 (.q 10 1 (.q 11 0 (.q 12 0 (.q 14 1 (.op 13 (.q 15 1 (.op 16 .nil))))))))))))))))) [13, 16] mz (.c (.kk .e) (.c (.s (.k .e)) .l)) (by kernel_rfl) (fun _ => ?_)
 obtain ⟨D5, HW, hm⟩ := ob hm
 refine cK 6 1 [] (.n 124 (pt fg 0) (.n 125 (I jT) (.n 129 (.v (.pointer (nM (some ⟨fg, 0, none⟩) jT 1))) (.oQ .a)))) (fun x hx => qs fg 0 <| qI fg 0 HW <| qe) (by kernel_rfl) (fun _ => ?_)
 refine cK 1 0 [] (.n 130 (.u64 D5) (.kk (.s .a))) (fun x hx => qC (.u64 D5) (Rd.el (k := 0) (hx.nU 0 rfl cj v7 0 (by kernel_rfl)) HW (Pt.x6 (some ⟨fg, 0, none⟩) jT 1) rfl) <| qe) (by kernel_rfl) (fun _ => ?_)
 obtain ⟨Jv, HX, hm⟩ := ob hm
 refine cK 4 1 [] (.n 134 (.v (.pointer (nM (some ⟨fg, 0, none⟩) mw 1))) (.uk .z)) (fun x hx => qs fg 0 <| qI fg 0 HX <| qe) (by kernel_rfl) (fun _ => ?_)
 refine cK 2 0 [] (.n 136 (.u64 (D5 ^^^ Jv)) (.ss .a)) (fun x hx => qC (.u64 Jv) (Rd.el (k := 0) (hx.nU 0 rfl cj v7 0 (by kernel_rfl)) HX (Pt.x6 (some ⟨fg, 0, none⟩) mw 1) rfl) <| qe) (by kernel_rfl) (fun _ => ?_)
 refine cK 1 1 [] (.n 138 (pt fg 0) (.k (.s .a))) (fun x hx => qs fg 0 <| qe) (by kernel_rfl) (fun _ => ?_)
 refine cC (by kernel_rfl) rfl ?_
 obtain ⟨eK, nX, hm⟩ := ob hm
 refine au [] 137 _ xB (by kernel_rfl) (lR (F := N0) (O := N0) _ _ (Cx.refl _) _ nX) ?_
 rintro e_ De ⟨rfl, sw⟩
 have re := mz.call sw
 refine ⟨.u64 eK, rfl, ?_⟩
 refine ⟨re, fun _ => ?_⟩
 obtain ⟨PR, HY, hm⟩ := ob hm
 refine cK 1 1 [] (.n 139 (.v (.pointer (nM (some ⟨fg, 0, none⟩) jT 1))) (.k .z)) (fun x hx => qI fg 0 HY <| qe) (by kernel_rfl) (fun _ => ?_)
 refine cC (by kernel_rfl) rfl ?_
 have yU := re.de (.kk .e)
 obtain ⟨v8, LL, hm⟩ := nm hm
 refine ll (E := cj) (kk := 0) [] 0 (.u64 eK) [.u64 eK] LL HY (Pt.xr (Pt.at fg 0) jT 1) yU rfl .h rfl (by kernel_rfl) (by kernel_rfl) ?_
 intro Ef u7
 refine ⟨(u7.de (.s (.k .e))), fun _ => ?_⟩
 refine d_ ?_
 obtain rfl := Option.some.inj hm
 refine px [] qe (by kernel_rfl) ?_
 have yp := u7.de (.k .z)
 exact ⟨rfl, yp⟩
theorem Dh {F O : Nat → Prop} {w : World} (v : ae UInt64 16) (m_ : ae UInt64 16) (round : Int) (fg : Nat) (AD : Nat) (k : Cx F O w w [Bx 181 fg [.ar cj v], Bx 181 AD [.ar cj m_]]) (r : (ae UInt64 16 × ae UInt64 16)) (hm : pY v m_ round = some r) :
    Calls Tryz.prog 161 (ad [pt fg 0, pt AD 0, I round]) w (fun e w' => e = .returned (SV.val (.gD [])) ∧ Cx F O w w' [Bx 181 fg [.ar cj r.1], Bx 181 AD [.ar cj r.2]]) := by
 unfold pY at hm
 refine calls [pt fg 0, pt AD 0, I round] Tryz.func161 rfl (of_decide_eq_true (by kernel_rfl)) ?_
 refine ab <| an <| ba 1 [] (.n 9 (I round) (.kk .z)) qe (by kernel_rfl) ?_
 refine ag ?_
 obtain ⟨r_, cQ, hm⟩ := ob hm
 refine au [] 10 _ C9 (by kernel_rfl) (xF (F := N0) (O := N0) _ (Cx.refl _) _ cQ) ?_
 rintro e_ w_ ⟨rfl, k_⟩
 have db := k.call k_
 refine ⟨.agg [.ar eI r_], rfl, ?_⟩
 refine ag <| bT [] 6 [.ar eI (ae.rep 16 (0 : Int))] (by kernel_rfl) db ?_
 intro g k4 dE
 refine ag <| en [] 2 (.agg [.ar eI r_]) [.ar eI r_] (Pt.at g 0) dE rfl .all (by kernel_rfl) (by kernel_rfl) ?_
 intro l6 dU
 refine af <| aa <| ab <| an <| ag ?_
 obtain ⟨ah, dd, hm⟩ := ob hm
 refine au [] 11 _ HO (by kernel_rfl) (AB (F := N0) (O := N0)  (Cx.refl _) _ dd) ?_
 rintro e_ qj ⟨rfl, eY⟩
 have fU := dU.call eY
 refine ⟨.agg [.ar (eV eI 4) ah], rfl, ?_⟩
 refine ba 1 [] (.n 12 (I 0) (.kk (.ss .a))) qe (by kernel_rfl) ?_
 refine af <| aa <| cX <| rv (oZ m_ r_ ah) (fun s L wr => ∃ (v1 : ae UInt64 16) (aL : Int), (v1, aL) = s ∧ L = [(0, pt fg 0), (1, pt AD 0), (6, pt g 0), (11, .agg [.ar (eV eI 4) ah]), (12, I aL)] ∧ Cx F O w wr [Bx 181 fg [.ar cj v1], Bx 181 AD [.ar cj m_], Bx 257 g [.ar eI r_]]) (v, (0 : Int)) r hm ⟨v, (0 : Int), rfl, rfl, fU⟩ (by kernel_rfl) ?_
 intro Al L_ qk y0 kE dY rP
 obtain ⟨v1, aL, rfl, rfl, g_⟩ := kE
 have hm := dY; simp only [oZ] at hm
 clear dY
 refine ab <| bO [] (.n 13 (.b (decide (aL < 8))) .a) qe (by kernel_rfl) ?_
 refine aa <| ab <| bu (aL < 8) (by kernel_rfl) (fun hc => ?_) (fun hc => ?_)
 · rw [if_pos hc] at hm
   refine bc <| aa <| ab <| cX <| ab <| an ?_
   obtain ⟨eZ, jZ, hm⟩ := ob hm
   refine ba 2 [] (.n 14 (I aL) (.n 15 (.agg [.ar eI eZ]) (.s .a))) (qo (.agg [.ar eI eZ]) <| qp ((0 ≤ aL ∧ aL < ((8 : Nat) : Int)) ∧ ((SV.cl [.ar (eV eI 4) ah]).drop (Int.toNat aL * 4)).take 4 = SV.cl [.ar eI eZ]) (G9 (E := eI) jZ) <| qe) (by kernel_rfl) ?_
   refine ag <| bT [] 8 [.ar eI (ae.rep 4 (0 : Int))] (by kernel_rfl) g_ ?_
   intro g1 rX gC
   refine ba 1 [] (.n 7 (I aL) (.k (.s .a))) qe (by kernel_rfl) ?_
   refine ag <| en [] 3 (.agg [.ar eI eZ]) [.ar eI eZ] (Pt.at g1 0) gC rfl .all (by kernel_rfl) (by kernel_rfl) ?_
   intro wQ gP
   refine af <| aa ?_
   have gB := gP.drew 1
   refine qO bK (.q 0 0 (.q 1 0 (.q 2 1 (.q 3 1 (.q 4 1 (.q 5 1 (.q 6 1 (.q 7 1 (.q 8 0 (.q 9 0 (.q 10 1 (.q 11 1 (.q 12 1 (.q 13 1 (.q 14 1 (.q 15 1 (.q 16 1 (.q 17 0 (.q 18 0 (.op 19 .nil)))))))))))))))))))) [19] gB (.c (.s (.kk (.k .e))) .l) (by kernel_rfl) (fun _ => ?_)
   refine cK 2 0 [] (.n 16 (pt fg 0) (.n 17 (.agg [.ar eI eZ]) (.k (.ss .a)))) (fun x hx => qT hx 3 rfl 0 4 [.ar eI eZ] (by kernel_rfl) (by decide) <| qe) (by kernel_rfl) (fun _ => ?_)
   obtain ⟨jT, lA, hm⟩ := ob hm
   refine cK 6 1 [] (.n 22 (I jT) (.n 23 (pt AD 0) .a)) (fun x hx => qV (hx.nU 1 rfl eI r_ 0 (by kernel_rfl)) lA rfl (I jT) rfl <| qs AD 0 <| qe) (by kernel_rfl) (fun _ => ?_)
   obtain ⟨mw, oP, hm⟩ := ob hm
   refine cK 2 0 [] (.n 25 (.u64 mw) (.ss .a)) (fun x hx => qV (hx.nU 1 rfl cj m_ 0 (by kernel_rfl)) oP rfl (.u64 mw) rfl <| qe) (by kernel_rfl) (fun _ => ?_)
   obtain ⟨mC, qm, hm⟩ := ob hm
   refine cK 7 1 [] (.n 31 (I mC) (.n 32 (pt AD 0) (.uk (.s .a)))) (fun x hx => qV (hx.nU 1 rfl eI r_ 0 (by kernel_rfl)) qm rfl (I mC) rfl <| qs AD 0 <| qe) (by kernel_rfl) (fun _ => ?_)
   obtain ⟨nK, tY, hm⟩ := ob hm
   refine cK 2 0 [] (.n 34 (.u64 nK) (.ss .a)) (fun x hx => qV (hx.nU 1 rfl cj m_ 0 (by kernel_rfl)) tY rfl (.u64 nK) rfl <| qe) (by kernel_rfl) (fun _ => ?_)
   refine cC (by kernel_rfl) rfl ?_
   obtain ⟨aX, hK, hm⟩ := ob hm
   obtain ⟨F1, O1, lQ, hO, rp, hF, hb⟩ := gB.go (.i (.r (.r (.r .e))))
   refine au [] 35 _ HQ (by kernel_rfl) (Dg (F := F1) (O := O1) _ _ _ _ _ lQ _ hK) ?_
   rintro e_ wR ⟨rfl, dO⟩
   have cV := hb wR _ _ dO (.c .n)
   refine ⟨.gD [], rfl, ?_⟩
   refine ⟨(cV.de (.s (.kk (.k .e)))), fun _ => ?_⟩
   refine d_ <| lL <| aa <| bO [] (.n 12 (I (aD (aL + 1))) (.jn (.s (.bX .z)))) qe (by kernel_rfl) ?_
   have ff := cV.de (.kk (.k .z))
   exact mN (aX, aD (aL + 1)) (Option.some.inj hm).symm ⟨aX, aD (aL + 1), rfl, rfl, ff⟩ (by kernel_rfl)
 rw [if_neg hc] at hm
 refine jr (gk (gk (lT ?_)))
 have hm := iv hm rP
 obtain rfl := Option.some.inj hm
 refine px [] qe (by kernel_rfl) ?_
 have gI := g_.de (.kk .z)
 exact ⟨rfl, gI⟩
theorem HZ {F O : Nat → Prop} {w : World} (h : ae UInt64 8) (m_ : ae UInt64 16) (il : UInt64) (im : UInt64) (last : Bool) (node : Bool) (k : Cx F O w w []) (r : (ae UInt64 8)) (hm : uC h m_ il im last node = some r) :
    Calls Tryz.prog 147 (ad [.agg [.ar cj h], .agg [.ar cj m_], .agg [.u64 il, .u64 im], .b last, .b node]) w (fun e w' => e = .returned (SV.val (.agg [.ar cj r])) ∧ Cx F O w w' []) := by
 unfold uC at hm
 refine calls [.agg [.ar cj h], .agg [.ar cj m_], .agg [.u64 il, .u64 im], .b last, .b node] Tryz.func147 rfl (of_decide_eq_true (by kernel_rfl)) ?_
 refine ab <| an <| ag <| gF [] 5 (.agg [.ar cj h]) [.ar cj h] (by kernel_rfl) k ?_
 intro g w_ k_
 refine ag <| gF [] 6 (.agg [.ar cj m_]) [.ar cj m_] (by kernel_rfl) k_ ?_
 intro g1 k4 db
 refine ag <| gF [] 7 (.agg [.u64 il, .u64 im]) [.u64 il, .u64 im] (by kernel_rfl) db ?_
 intro g2 l6 dE
 refine ag <| bT [] 10 [.ar cj (ae.rep 8 (0 : UInt64))] (by kernel_rfl) dE ?_
 intro g3 qj dU
 refine af <| aa <| ab <| an <| ba 4 [] (.n 14 (.agg [.ar cj h]) (.n 15 (.agg [.u64 il, .u64 im]) (.n 16 (.b last) (.n 17 (.b node) (.k (.s (.kk .z))))))) (qT dU 0 rfl 0 8 [.ar cj h] (by kernel_rfl) (by decide) <| qT dU 2 rfl 0 2 [.u64 il, .u64 im] (by kernel_rfl) (by decide) <| qe) (by kernel_rfl) ?_
 refine ag ?_
 have eY := dU.de (.bX .e)
 obtain ⟨r_, cQ, hm⟩ := ob hm
 refine au [] 18 _ HI (by kernel_rfl) (Df (F := N0) (O := N0) _ _ _ _ _ (Cx.refl _) _ cQ) ?_
 rintro e_ qk ⟨rfl, fU⟩
 have g_ := eY.call fU
 refine ⟨.agg [.ar cj r_], rfl, ?_⟩
 have gC := g_.de (.kk (.s (.k .e)))
 refine ag <| bT [] 11 [.ar cj (ae.rep 16 (0 : UInt64))] (by kernel_rfl) gC ?_
 intro g4 rX gP
 refine ag <| en [] 3 (.agg [.ar cj r_]) [.ar cj r_] (Pt.at g4 0) gP rfl .all (by kernel_rfl) (by kernel_rfl) ?_
 intro wQ gB
 refine af <| aa <| ab <| ab <| bO [] (.n 19 (I 0) (.k (.jn (.s .a)))) qe (by kernel_rfl) ?_
 refine aa <| cX <| rv (p5 h) (fun s L wr => ∃ (xt : ae UInt64 16) (v : ae UInt64 16) (aL : Int), (xt, v, aL) = s ∧ L = [(5, pt g 0), (6, pt g1 0), (10, pt g3 0), (11, pt g4 0), (19, I aL)] ∧ Cx F O w wr [Bx 191 g [.ar cj h], Bx 181 g1 [.ar cj xt], Bx 191 g3 [.ar cj (ae.rep 8 (0 : UInt64))], Bx 181 g4 [.ar cj v]]) (m_, r_, (0 : Int)) r hm ⟨m_, r_, (0 : Int), rfl, rfl, gB⟩ (by kernel_rfl) ?_
 intro Al L_ wR y0 kE dY rP
 obtain ⟨xt, v, aL, rfl, rfl, dO⟩ := kE
 have hm := dY; simp only [p5] at hm
 clear dY
 refine ab <| bO [] (.n 20 (.b (decide (aL < 12))) .a) qe (by kernel_rfl) ?_
 refine aa <| ab <| bu (aL < 12) (by kernel_rfl) (fun hc => ?_) (fun hc => ?_)
 · rw [if_pos hc] at hm
   refine bc <| aa <| ab <| cX <| ab <| bO [] (.n 12 (I aL) (.s .a)) qe (by kernel_rfl) ?_
   refine aa <| an <| ba 1 [] (.n 22 (I aL) (.s .a)) qe (by kernel_rfl) ?_
   refine ag ?_
   obtain ⟨ah, dd, hm⟩ := ob hm
   have cV := (((dO.pk (.t (.t .h))).pk (.t .h)).pk (.t (.t .h))).pk (.t (.t (.t .h)))
   obtain ⟨F1, O1, lQ, hO, rp, hF, hb⟩ := cV.go (.i (.i (.r (.r .e))))
   refine au [] 23 _ HJ (by kernel_rfl) (Dh (F := F1) (O := O1) _ _ _ _ _ lQ _ dd) ?_
   rintro e_ Av ⟨rfl, ff⟩
   have gI := hb Av _ _ ff (.c (.c .n))
   refine ⟨.gD [], rfl, ?_⟩
   refine af <| lL <| aa <| bO [] (.n 19 (I (aD (aL + 1))) (.ss (.bX .z))) qe (by kernel_rfl) ?_
   have ez := (((gI.pk .h).pk (.t (.t (.t .h)))).pk (.t (.t .h))).pk (.t (.t (.t .h)))
   exact mN (ah.2, ah.1, aD (aL + 1)) (Option.some.inj hm).symm ⟨ah.2, ah.1, aD (aL + 1), rfl, rfl, ez⟩ (by kernel_rfl)
 rw [if_neg hc] at hm
 refine jr (gk (gk (lT ?_)))
 have hm := iv hm rP
 refine aa <| ab <| ab <| bO [] (.n 25 (I 0) (.s (.k (.s (.kk .z))))) qe (by kernel_rfl) ?_
 refine aa <| cX ?_
 have gQ := dO.de (.k (.s (.kk .e)))
 refine rv (pZ v) (fun s L wr => ∃ (h1 : ae UInt64 8) (j5 : Int), (h1, j5) = s ∧ L = [(5, pt g 0), (10, pt g3 0), (11, pt g4 0), (25, I j5)] ∧ Cx F O w wr [Bx 191 g [.ar cj h1], Bx 191 g3 [.ar cj (ae.rep 8 (0 : UInt64))], Bx 181 g4 [.ar cj v]]) (h, (0 : Int)) r hm ⟨h, (0 : Int), rfl, rfl, gQ⟩ (by kernel_rfl) ?_
 intro Al L_ DE y0 kE dY rP
 obtain ⟨h1, j5, rfl, rfl, jj⟩ := kE
 have hm := dY; simp only [pZ] at hm
 clear dY
 refine ab <| bO [] (.n 26 (.b (decide (j5 < 8))) .a) qe (by kernel_rfl) ?_
 refine aa <| ab <| bu (j5 < 8) (by kernel_rfl) (fun k5 => ?_) (fun k5 => ?_)
 · rw [if_pos k5] at hm
   refine bc <| aa <| ab <| cX <| ab <| bO [] (.n 13 (I j5) (.s .a)) qe (by kernel_rfl) ?_
   refine aa ?_
   have kV := jj.drew 1
   refine qO bK (.q 0 0 (.q 1 0 (.q 2 0 (.q 3 0 (.q 4 0 (.q 5 0 (.q 6 0 (.q 7 0 (.q 8 0 (.q 9 0 (.q 10 0 (.q 11 0 (.q 12 0 (.op 13 .nil)))))))))))))) [13] kV (.c (.s (.kk .e)) .l) (by kernel_rfl) (fun _ => ?_)
   obtain ⟨eZ, jZ, hm⟩ := ob hm
   obtain ⟨jT, lA, hm⟩ := ob hm
   obtain ⟨mw, oP, hm⟩ := ob hm
   obtain ⟨mC, qm, hm⟩ := ob hm
   refine cK 13 0 [] (.n 39 (.u64 (eZ ^^^ (jT ^^^ mw))) (.n 40 (.v (.pointer (nM (some ⟨g, 0, none⟩) j5 1))) (.s .a))) (fun x hx => qV (hx.nU 0 rfl cj h1 0 (by kernel_rfl)) jZ rfl (.u64 eZ) rfl <| qV (hx.nU 2 rfl cj v 0 (by kernel_rfl)) lA rfl (.u64 jT) rfl <| qV (hx.nU 2 rfl cj v 0 (by kernel_rfl)) oP rfl (.u64 mw) rfl <| qI g 0 qm <| qe) (by kernel_rfl) (fun _ => ?_)
   refine cC (by kernel_rfl) rfl ?_
   obtain ⟨v1, zO, hm⟩ := nm hm
   refine ll (E := cj) (kk := 0) [] 0 (.u64 (eZ ^^^ (jT ^^^ mw))) [.u64 (eZ ^^^ (jT ^^^ mw))] zO qm (Pt.xr (Pt.at g 0) j5 1) kV rfl .h rfl (by kernel_rfl) (by kernel_rfl) ?_
   intro Aw lz
   refine ⟨(lz.de (.s (.kk .e))), fun _ => ?_⟩
   refine d_ <| lL <| aa <| bO [] (.n 25 (I (aD (j5 + 1))) (.ss (.uk .z))) qe (by kernel_rfl) ?_
   exact mN (v1, aD (j5 + 1)) (Option.some.inj hm).symm ⟨v1, aD (j5 + 1), rfl, rfl, lz⟩ (by kernel_rfl)
 rw [if_neg k5] at hm
 refine jr (gk (gk (lT ?_)))
 have hm := iv hm rP
 refine aa <| ab <| an <| ba 1 [] (.n 42 (.agg [.ar cj h1]) (.ss (.k .z))) (qT jj 0 rfl 0 8 [.ar cj h1] (by kernel_rfl) (by decide) <| qe) (by kernel_rfl) ?_
 refine ag <| en [] 1 (.agg [.ar cj h1]) [.ar cj h1] (Pt.at g3 0) jj rfl .all (by kernel_rfl) (by kernel_rfl) ?_
 intro De k6
 have lJ := k6.de (.s (.k .z))
 refine af <| aa <| aQ ?_
 obtain rfl := Option.some.inj hm
 refine aR [.agg [.ar cj h1]] (qo (.agg [.ar cj h1]) <| qc (fun w => Rd w (some ⟨g3, 0, none⟩) (SV.cl [.ar cj h1])) (lJ.uz 0 rfl) <| qe) (by kernel_rfl) ?_
 have my := lJ.de .z
 exact ⟨rfl, my⟩
theorem wo {F O : Nat → Prop} {w : World} (h : ae UInt64 8) (b : List UInt8) (oR : UInt64) (pE : UInt64) (last : Bool) (node : Bool) (mq : Option Addr) (py : Nat) (mI : Nat) (qH : Ro F w mq (e8.all b)) (qK : b.length = py) (rO : py ≤ mI) (k : Cx F O w w []) (r : (ae UInt64 8)) (hm : mu h b oR pE last node = some r) :
    Calls Tryz.prog 132 (ad [.agg [.ar cj h], sl mq py mI, .agg [.u64 oR, .u64 pE], .b last, .b node]) w (fun e w' => e = .returned (SV.val (.agg [.ar cj r])) ∧ Cx F O w w' []) := by
 unfold mu at hm
 subst qK
 refine calls [.agg [.ar cj h], sl mq b.length mI, .agg [.u64 oR, .u64 pE], .b last, .b node] Tryz.func132 rfl (of_decide_eq_true (by kernel_rfl)) ?_
 refine ab <| an <| ag <| gF [] 5 (.agg [.ar cj h]) [.ar cj h] (by kernel_rfl) k ?_
 intro g w_ k_
 refine ag <| gF [] 7 (.agg [.u64 oR, .u64 pE]) [.u64 oR, .u64 pE] (by kernel_rfl) k_ ?_
 intro g1 k4 db
 refine ag <| bT [] 10 [.ar cj (ae.rep 8 (0 : UInt64))] (by kernel_rfl) db ?_
 intro g2 l6 dE
 refine af <| aa <| ab <| an <| ba 1 [] (.n 14 (sl mq b.length mI) (.uk (.oQ .a))) qe (by kernel_rfl) ?_
 refine ag ?_
 obtain ⟨r_, cQ, hm⟩ := ob hm
 refine au [] 15 _ HD (by kernel_rfl) (B_ (F := N0) (O := N0) _ _ _ _ (Ro.n0 (qH.cx dE)) rfl rO (Cx.refl _) _ cQ) ?_
 rintro e_ qj ⟨rfl, dU⟩
 have eY := dE.call dU
 refine ⟨.gD [.agg [.ar cj r_.1], I r_.2], rfl, ?_⟩
 refine ba 3 [] (.n 16 (.agg [.ar cj r_.1]) (.n 17 (I r_.2) (.ss .a))) qe (by kernel_rfl) ?_
 refine ag ?_
 have fU := eY.de (.kk (.k .e))
 refine bT [] 11 [.ar cj (ae.rep 16 (0 : UInt64))] (by kernel_rfl) fU ?_
 intro g3 qk g_
 refine ag <| en [] 3 (.agg [.ar cj r_.1]) [.ar cj r_.1] (Pt.at g3 0) g_ rfl .all (by kernel_rfl) (by kernel_rfl) ?_
 intro rX gC
 refine ba 1 [] (.k (.ss .a)) qe (by kernel_rfl) ?_
 refine af <| aa <| ab <| an <| ba 5 [] (.n 18 (.agg [.ar cj h]) (.n 19 (.agg [.ar cj r_.1]) (.n 20 (.agg [.u64 oR, .u64 pE]) (.n 21 (.b last) (.n 22 (.b node) (.s (.k .z))))))) (qT gC 0 rfl 0 8 [.ar cj h] (by kernel_rfl) (by decide) <| qT gC 3 rfl 0 16 [.ar cj r_.1] (by kernel_rfl) (by decide) <| qT gC 1 rfl 0 2 [.u64 oR, .u64 pE] (by kernel_rfl) (by decide) <| qe) (by kernel_rfl) ?_
 refine ag ?_
 obtain ⟨ah, dd, hm⟩ := ob hm
 refine au [] 23 _ HE (by kernel_rfl) (HZ (F := N0) (O := N0) _ _ _ _ _ _ (Cx.refl _) _ dd) ?_
 rintro e_ wQ ⟨rfl, gP⟩
 have gB := gC.call gP
 refine ⟨.agg [.ar cj ah], rfl, ?_⟩
 have dO := gB.de (.ss (.k .z))
 refine ag <| en [] 0 (.agg [.ar cj ah]) [.ar cj ah] (Pt.at g2 0) dO rfl .all (by kernel_rfl) (by kernel_rfl) ?_
 intro wR cV
 refine af <| aa <| aQ ?_
 obtain rfl := Option.some.inj hm
 refine aR [.agg [.ar cj ah]] (qo (.agg [.ar cj ah]) <| qc (fun w => Rd w (some ⟨g2, 0, none⟩) (SV.cl [.ar cj ah])) (cV.uz 0 rfl) <| qe) (by kernel_rfl) ?_
 have ff := cV.de .z
 exact ⟨rfl, ff⟩
theorem nY {F O : Nat → Prop} {w : World} (ra : ae UInt64 8) (bG : UInt64) (bH : UInt64) (cA : List UInt8) (aA : Int) (b : List UInt8) (aY : Nat) (dG : Option Addr) (lB : Nat) (dH : Nat) (mq : Option Addr) (py : Nat) (mI : Nat) (qH : Ro F w mq (e8.all b)) (qK : b.length = py) (rO : py ≤ mI) (k : Cx F O w w [Bx 200 aY [.ar cj ra, .u64 bG, .u64 bH, sl dG lB dH, I aA, .v (.func (.func 132) ⟨SV.ad []⟩ ⟨SV.ad []⟩), .v (.func (.func 133) ⟨SV.ad []⟩ ⟨SV.ad []⟩)], Ow e8 dG lB dH cA]) (r : (ae UInt64 8 × UInt64 × UInt64 × List UInt8 × Int)) (hm : gn ra bG bH cA aA b = some r) :
    Calls Tryz.prog 220 (ad [pt aY 0, sl mq py mI]) w (fun e w' => ∃ A n c, r.2.2.2.1.length = n ∧ e = .returned (SV.val (.gD [])) ∧ Cx F O w w' [Bx 200 aY [.ar cj r.1, .u64 r.2.1, .u64 r.2.2.1, sl A n c, I r.2.2.2.2, .v (.func (.func 132) ⟨SV.ad []⟩ ⟨SV.ad []⟩), .v (.func (.func 133) ⟨SV.ad []⟩ ⟨SV.ad []⟩)], Ow e8 A n c r.2.2.2.1]) := by
 unfold gn at hm
 obtain rfl := k.len 1 rfl
 subst qK
 refine calls [pt aY 0, sl mq b.length mI] Tryz.func220 rfl (of_decide_eq_true (by kernel_rfl)) ?_
 refine cX <| rv (iH aA) (fun s L wr => ∃ (aL : ae UInt64 8) (mC : UInt64) (nK : UInt64) (mH : List UInt8) (b1 : List UInt8) (A0 : Option Addr) (n0 : Nat) (c0 : Nat) (A1 : Option Addr) (c1 : Nat), (aL, mC, nK, mH, b1) = s ∧ L = [(0, pt aY 0), (1, sl A1 b1.length c1)] ∧ mH.length = n0 ∧ Ro F w A1 (e8.all b1) ∧ b1.length ≤ c1 ∧ Cx F O w wr [Bx 200 aY [.ar cj aL, .u64 mC, .u64 nK, sl A0 n0 c0, I aA, .v (.func (.func 132) ⟨SV.ad []⟩ ⟨SV.ad []⟩), .v (.func (.func 133) ⟨SV.ad []⟩ ⟨SV.ad []⟩)], Ow e8 A0 n0 c0 mH]) (ra, bG, bH, cA, b) r hm ⟨ra, bG, bH, cA, b, dG, cA.length, dH, mq, mI, rfl, rfl, k.len 1 rfl, qH, rO, k⟩ (by kernel_rfl) ?_
 intro Al L_ w_ y0 kE dY rP
 obtain ⟨aL, mC, nK, mH, b1, A0, _, c0, A1, c1, rfl, rfl, rfl, h, hc, k_⟩ := kE
 have hm := dY; simp only [iH] at hm
 clear dY
 refine ab <| ab <| bO [] (.n 7 (.b (decide (0 < ((b1.length : Nat) : Int)))) .a) qe (by kernel_rfl) ?_
 refine aa <| bu (0 < ((b1.length : Nat) : Int)) (by kernel_rfl) (fun k5 => ?_) (fun k5 => ?_)
 · rw [if_pos k5] at hm
   refine bc <| aa <| cX <| l4 (fun L wr => ∃ (vv : ae UInt64 8) (ta : UInt64) (nv : UInt64) (fx : List UInt8) (A2 : Option Addr) (n1 : Nat) (c2 : Nat), fE aA b1 vv ta nv fx = some y0 ∧ L = [(0, pt aY 0), (1, sl A1 b1.length c1)] ∧ fx.length = n1 ∧ Cx F O w wr [Bx 200 aY [.ar cj vv, .u64 ta, .u64 nv, sl A2 n1 c2, I aA, .v (.func (.func 132) ⟨SV.ad []⟩ ⟨SV.ad []⟩), .v (.func (.func 133) ⟨SV.ad []⟩ ⟨SV.ad []⟩)], Ow e8 A2 n1 c2 fx]) ?_ ?_
   ·
    refine ab <| Gu bK (by kernel_rfl) (.n 17 (.b (decide (((mH.length : Nat) : Int) = aA))) (.s .a)) (fun m => qs aY 0 <| qs aY 0 <| qB (k_.drew m) 0 rfl 10 (sl A0 mH.length c0) (by kernel_rfl) <| qs aY 0 <| qs aY 0 <| qB (k_.drew m) 0 rfl 11 (I aA) (by kernel_rfl) <| qe) (by kernel_rfl) (fun m_ => ?_)
    have db := k_.drew m_
    refine aa <| bu (((mH.length : Nat) : Int) = aA) (by kernel_rfl) (fun rN => ?_) (fun rN => ?_)
    · rw [if_pos rN] at hm
      refine ab ?_
      have dE := db.drew 1
      refine qO bK (.q 0 1 (.q 1 1 (.q 2 1 (.q 3 0 (.q 4 0 (.q 5 1 (.q 6 1 (.q 7 1 (.q 8 0 (.q 9 0 (.op 10 (.q 11 1 (.q 12 1 (.q 14 1 (.q 15 1 (.q 13 2 (.op 16 .nil))))))))))))))))) [10, 16] dE (.c (.kk .e) (.c (.s (.k .e)) .l)) (by kernel_rfl) (fun _ => ?_)
      refine cK 3 1 [] (.n 19 (pt aY 0) (.n 21 (pt aY 0) (.s .a))) (fun x hx => qs aY 0 <| qe) (by kernel_rfl) (fun _ => ?_)
      refine cK 2 0 [] (.n 23 (.agg [.u64 mC, .u64 nK]) (.k (.s .a))) (fun x hx => qs aY 0 <| qT hx 0 rfl 8 2 [.u64 mC, .u64 nK] (by kernel_rfl) (by decide) <| qe) (by kernel_rfl) (fun _ => ?_)
      refine cK 3 1 [] (.n 26 (pt aY 11) .a) (fun x hx => qs aY 0 <| qs aY 0 <| qe) (by kernel_rfl) (fun _ => ?_)
      refine cK 2 0 [] (.n 28 (.u64 (UInt64.ofInt aA)) (.s .a)) (fun x hx => qB hx 0 rfl 11 (I aA) (by kernel_rfl) <| qe) (by kernel_rfl) (fun _ => ?_)
      refine cC (by kernel_rfl) rfl ?_
      obtain ⟨r_, cQ, hm⟩ := ob hm
      refine au [] 29 _ sS (by kernel_rfl) (pI (F := N0) (O := N0) _ _ _ (Cx.refl _) _ cQ) ?_
      rintro e_ k4 ⟨rfl, dU⟩
      have eY := dE.call dU
      refine ⟨.gD [.agg [.u64 r_.1, .u64 r_.2.1], .b r_.2.2], rfl, ?_⟩
      refine ⟨eY, fun _ => ?_⟩
      refine cK 4 1 [] (.n 18 (.gD [.agg [.u64 r_.1, .u64 r_.2.1], .b r_.2.2]) (.n 30 (.agg [.u64 r_.1, .u64 r_.2.1]) (.n 33 (pt aY 8) (.jn .a)))) (fun x hx => qs aY 0 <| qs aY 0 <| qe) (by kernel_rfl) (fun _ => ?_)
      refine cK 1 2 [] (.s .a) (fun x hx => qe) (by kernel_rfl) (fun _ => ?_)
      refine cC (by kernel_rfl) rfl <| en [] 0 (.agg [.u64 r_.1, .u64 r_.2.1]) [.u64 r_.1, .u64 r_.2.1] (Pt.at aY 8) eY rfl (.k .h2) (by kernel_rfl) (by kernel_rfl) ?_
      intro l6 fU
      refine ⟨(fU.de (.s (.k .e))), fun _ => ?_⟩
      refine d_ <| aa <| ab ?_
      have g_ := fU.drew 1
      refine qO bK (.q 0 1 (.q 1 1 (.q 2 1 (.q 3 0 (.q 4 0 (.q 5 1 (.q 6 1 (.q 7 0 (.q 8 0 (.q 9 1 (.q 10 1 (.q 11 0 (.q 12 0 (.q 13 1 (.q 14 1 (.q 15 0 (.q 16 0 (.op 17 (.q 18 1 (.q 19 1 (.op 20 .nil))))))))))))))))))))) [17, 20] g_ (.c (.kk .e) (.c (.s (.k .e)) .l)) (by kernel_rfl) (fun _ => ?_)
      refine cK 3 1 [] (.n 34 (pt aY 0) (.n 36 (pt aY 0) (.ss .a))) (fun x hx => qs aY 0 <| qe) (by kernel_rfl) (fun _ => ?_)
      refine cK 2 0 [] (.n 38 (.v (.func (.func 132) ⟨SV.ad []⟩ ⟨SV.ad []⟩)) (.k (.s .a))) (fun x hx => qs aY 0 <| qB hx 0 rfl 12 (.v (.func (.func 132) ⟨SV.ad []⟩ ⟨SV.ad []⟩)) (by kernel_rfl) <| qe) (by kernel_rfl) (fun _ => ?_)
      refine cK 2 1 [] (.n 40 (pt aY 0) .a) (fun x hx => qs aY 0 <| qe) (by kernel_rfl) (fun _ => ?_)
      refine cK 2 0 [] (.n 42 (.agg [.ar cj aL]) (.s .a)) (fun x hx => qs aY 0 <| qT hx 0 rfl 0 8 [.ar cj aL] (by kernel_rfl) (by decide) <| qe) (by kernel_rfl) (fun _ => ?_)
      refine cK 2 1 [] (.n 44 (pt aY 0) .a) (fun x hx => qs aY 0 <| qe) (by kernel_rfl) (fun _ => ?_)
      refine cK 2 0 [] (.n 46 (sl A0 mH.length c0) (.s .a)) (fun x hx => qs aY 0 <| qB hx 0 rfl 10 (sl A0 mH.length c0) (by kernel_rfl) <| qe) (by kernel_rfl) (fun _ => ?_)
      refine cK 2 1 [] (.n 48 (pt aY 0) .a) (fun x hx => qs aY 0 <| qe) (by kernel_rfl) (fun _ => ?_)
      refine cK 2 0 [] (.n 50 (.agg [.u64 r_.1, .u64 r_.2.1]) (.s .a)) (fun x hx => qs aY 0 <| qT hx 0 rfl 8 2 [.u64 r_.1, .u64 r_.2.1] (by kernel_rfl) (by decide) <| qe) (by kernel_rfl) (fun _ => ?_)
      refine cC (by kernel_rfl) rfl ?_
      obtain ⟨ah, dd, hm⟩ := ob hm
      refine lU [] 51 [] [.agg [.ar cj aL], sl A0 mH.length c0, .agg [.u64 r_.1, .u64 r_.2.1], .b false, .b false] [] C3 (by kernel_rfl) (wo (F := N0) (O := N0) _ _ _ _ _ _ _ _ _ (Ro.n0 (g_.rd 1 rfl)) (g_.len 1 rfl) (g_.Ap 1 rfl) (Cx.refl _) _ dd) ?_
      rintro e_ qj ⟨rfl, gC⟩
      have gP := g_.call gC
      refine ⟨.agg [.ar cj ah], rfl, ?_⟩
      refine ⟨gP, fun _ => ?_⟩
      refine cK 2 1 [] (.n 53 (pt aY 0) (.k (.jn (.s .a)))) (fun x hx => qs aY 0 <| qs aY 0 <| qe) (by kernel_rfl) (fun _ => ?_)
      refine cC (by kernel_rfl) rfl <| en [] 0 (.agg [.ar cj ah]) [.ar cj ah] (Pt.at aY 0) gP rfl .h (by kernel_rfl) (by kernel_rfl) ?_
      intro qk gB
      refine ⟨(gB.de (.s (.k .e))), fun _ => ?_⟩
      refine d_ <| aa <| an ?_
      obtain ⟨b2, B9, hm⟩ := ob hm
      have hs := iB B9
      have hl := lh B9
      have hn : mH.length = mH.length := (gB.len 1 rfl)
      have xQ : mH.length ≤ c0 := (gB.Ap 1 rfl)
      have Ak : b2.length ≤ c0 := by omega
      refine ba 8 [] (.n 59 (sl A0 b2.length c0) (.n 61 (pt aY 10) (.ss .a))) (qs aY 0 <| qs aY 0 <| qB gB 0 rfl 10 (sl A0 mH.length c0) (by kernel_rfl) <| qp (0 ≤ (0 : Int) ∧ (0 : Int) ≤ ((c0 : Nat) : Int)) (by omega) <| qo (.v (.slice A0 b2.length c0)) <| qp (Value.slice (sD A0 0 c0 1) (Int.toNat (0 : Int) - 0) (c0 - 0) = .slice A0 b2.length c0) (uA _ _ _ _ _ (by omega)) <| qs aY 0 <| qs aY 0 <| qe) (by kernel_rfl) ?_
      refine ag ?_
      have dO := gB.de (.kk .e)
      refine en [] 0 (sl A0 b2.length c0) [sl A0 b2.length c0] (Pt.at aY 10) dO rfl (.kk (.k .h)) (by kernel_rfl) (by kernel_rfl) ?_
      intro rX cV
      refine af ?_
      have ff := cV.pre 1 rfl b2.length c0 b2 (by omega) (by omega) (by omega) (y1 B9 rfl)
      exact jS ⟨ah, r_.1, r_.2.1, b2, A0, b2.length, c0, hm, rfl, ff.len 1 rfl, ff⟩ (by kernel_rfl)
    rw [if_neg rN] at hm
    refine bc ?_
    exact jS ⟨aL, mC, nK, mH, A0, mH.length, c0, hm, rfl, db.len 1 rfl, db⟩ (by kernel_rfl)
   rintro L_ wQ ⟨vv, ta, nv, fx, A2, _, c2, hm, rfl, rfl, gI⟩
   simp only [fE] at hm
   refine ab <| Gu bK (by kernel_rfl) (.n 4 (I (if aD (aA - ((fx.length : Nat) : Int)) < ((b1.length : Nat) : Int) then aD (aA - ((fx.length : Nat) : Int)) else ((b1.length : Nat) : Int))) .a) (fun m => qs aY 0 <| qs aY 0 <| qB (gI.drew m) 0 rfl 11 (I aA) (by kernel_rfl) <| qs aY 0 <| qs aY 0 <| qB (gI.drew m) 0 rfl 10 (sl A2 fx.length c2) (by kernel_rfl) <| qe) (by kernel_rfl) (fun xt => ?_)
   have ez := gI.drew xt
   refine aa <| ab ?_
   have jj := ez.drew 1
   refine qO bK (.q 5 0 (.q 6 0 (.q 7 0 (.q 0 1 (.q 1 1 (.q 2 1 (.q 3 0 (.q 4 0 (.op 8 (.q 9 1 (.q 10 1 (.op 11 .nil)))))))))))) [8, 11] jj (.c (.k .z) (.c (.z) .l)) (by kernel_rfl) (fun _ => ?_)
   obtain ⟨b3, Az, hm⟩ := ob hm
   have O3 := iB Az
   have Gv := lh Az
   have O4 : b1.length = b1.length := rfl
   have wm : b1.length ≤ c1 := hc
   have xR : b3.length ≤ c1 := by omega
   refine cK 3 0 [] (.n 82 (sl A1 b3.length c1) .a) (fun x hx => qp (0 ≤ (if aD (aA - ((fx.length : Nat) : Int)) < ((b1.length : Nat) : Int) then aD (aA - ((fx.length : Nat) : Int)) else ((b1.length : Nat) : Int)) ∧ (if aD (aA - ((fx.length : Nat) : Int)) < ((b1.length : Nat) : Int) then aD (aA - ((fx.length : Nat) : Int)) else ((b1.length : Nat) : Int)) ≤ ((c1 : Nat) : Int)) (by omega) <| qo (.v (.slice A1 b3.length c1)) <| qp (Value.slice (sD A1 0 c1 1) (Int.toNat (if aD (aA - ((fx.length : Nat) : Int)) < ((b1.length : Nat) : Int) then aD (aA - ((fx.length : Nat) : Int)) else ((b1.length : Nat) : Int)) - 0) (c1 - 0) = .slice A1 b3.length c1) (uA _ _ _ _ _ (by omega)) <| qe) (by kernel_rfl) (fun _ => ?_)
   refine cK 3 1 [] (.n 75 (pt aY 0) (.n 77 (pt aY 0) .a)) (fun x hx => qs aY 0 <| qe) (by kernel_rfl) (fun _ => ?_)
   refine cK 2 0 [] (.n 79 (sl A2 fx.length c2) (.k (.s .a))) (fun x hx => qs aY 0 <| qB hx 0 rfl 10 (sl A2 fx.length c2) (by kernel_rfl) <| qe) (by kernel_rfl) (fun _ => ?_)
   refine cC (by kernel_rfl) rfl ?_
   obtain ⟨b4, F4, hm⟩ := ob hm
   obtain ⟨hz, K5⟩ := mm F4
   refine k8 (E := e8) (v := sl A1 b3.length c1) (ys := b3) iJ [] 83 1 (by kernel_rfl) jj rfl (Src.sl (Rd.pre (h.cx jj) Az rfl) rfl (by rfl)) rfl (by have := jj.len 1 rfl; have := hm; omega) ?_
   intro A3 c3 wR gQ
   rw [← K5] at gQ
   refine ⟨(gQ.de (.k .z)), fun _ => ?_⟩
   refine cK 2 1 [] (.n 85 (pt aY 10) (.k (.oQ .a))) (fun x hx => qs aY 0 <| qs aY 0 <| qe) (by kernel_rfl) (fun _ => ?_)
   refine cC (by kernel_rfl) rfl <| en [] 0 (sl A3 (fx.length + b3.length) c3) [sl A3 (fx.length + b3.length) c3] (Pt.at aY 10) gQ rfl (.kk (.k .h)) (by kernel_rfl) (by kernel_rfl) ?_
   intro Av kV
   refine ⟨(kV.de .z), fun _ => ?_⟩
   refine d_ <| aa ?_
   obtain ⟨b5, Ei, hm⟩ := ob hm
   have PV := iB Ei
   have Tk := lh Ei
   have Tl : b1.length = b1.length := rfl
   have IT : b1.length ≤ c1 := hc
   obtain ⟨A4, c4, e_, KK, hA, NZ⟩ := Kx A1 (Int.toNat (if aD (aA - ((fx.length : Nat) : Int)) < ((b1.length : Nat) : Int) then aD (aA - ((fx.length : Nat) : Int)) else ((b1.length : Nat) : Int))) c1 1 (b1.length - Int.toNat (if aD (aA - ((fx.length : Nat) : Int)) < ((b1.length : Nat) : Int) then aD (aA - ((fx.length : Nat) : Int)) else ((b1.length : Nat) : Int))) b5.length (by omega) (by omega)
   refine bO [] (.n 1 (sl A4 b5.length c4) (.oQ (.k .z))) (qp (0 ≤ (if aD (aA - ((fx.length : Nat) : Int)) < ((b1.length : Nat) : Int) then aD (aA - ((fx.length : Nat) : Int)) else ((b1.length : Nat) : Int)) ∧ (if aD (aA - ((fx.length : Nat) : Int)) < ((b1.length : Nat) : Int) then aD (aA - ((fx.length : Nat) : Int)) else ((b1.length : Nat) : Int)) ≤ ((b1.length : Nat) : Int)) (by omega) <| qo (.v (.slice A4 b5.length c4)) <| qp (Value.slice (sD A1 (Int.toNat (if aD (aA - ((fx.length : Nat) : Int)) < ((b1.length : Nat) : Int) then aD (aA - ((fx.length : Nat) : Int)) else ((b1.length : Nat) : Int))) c1 1) (b1.length - Int.toNat (if aD (aA - ((fx.length : Nat) : Int)) < ((b1.length : Nat) : Int) then aD (aA - ((fx.length : Nat) : Int)) else ((b1.length : Nat) : Int))) (c1 - Int.toNat (if aD (aA - ((fx.length : Nat) : Int)) < ((b1.length : Nat) : Int) then aD (aA - ((fx.length : Nat) : Int)) else ((b1.length : Nat) : Int))) = .slice A4 b5.length c4) e_ <| qe) (by kernel_rfl) ?_
   refine lL ?_
   exact mN (vv, ta, nv, b4, b5) (Option.some.inj hm).symm ⟨vv, ta, nv, b4, b5, A3, fx.length + b3.length, c3, A4, c4, rfl, rfl, kV.len 1 rfl, (Ro.cut h Ei rfl (by rfl) hA (by omega)), KK, kV⟩ (by kernel_rfl)
 rw [if_neg k5] at hm
 refine jr (gk (gk (lT ?_)))
 have hm := iv hm rP
 obtain rfl := Option.some.inj hm
 refine px [] qe (by kernel_rfl) ?_
 exact ⟨A0, mH.length, c0, k_.len 1 rfl, rfl, k_⟩
theorem Ck {F O : Nat → Prop} {w : World} (b : List UInt8) (mq : Option Addr) (py : Nat) (mI : Nat) (qH : Ro F w mq (e8.all b)) (qK : b.length = py) (rO : py ≤ mI) (k : Cx F O w w []) (r : (ae UInt32 16 × Int)) (hm : tq b = some r) :
    Calls Tryz.prog 152 (ad [sl mq py mI]) w (fun e w' => e = .returned (SV.val (.gD [.agg [.ar dt r.1], I r.2])) ∧ Cx F O w w' []) := by
 unfold tq at hm
 subst qK
 refine calls [sl mq b.length mI] Tryz.func152 rfl (of_decide_eq_true (by kernel_rfl)) ?_
 refine ab <| an <| ag <| bT [] 2 [.ar dt (ae.rep 16 (0 : UInt32))] (by kernel_rfl) k ?_
 intro g w_ k_
 refine ba 1 [] .a qe (by kernel_rfl) ?_
 refine af <| aa <| ab <| an <| ag <| bT [] 4 [.ar dt (ae.rep 16 (0 : UInt32))] (by kernel_rfl) k_ ?_
 intro g1 k4 db
 refine af <| aa <| ab <| ab <| an <| ba 1 [] (.n 6 (sl mq b.length mI) .a) qe (by kernel_rfl) ?_
 refine ag ?_
 obtain ⟨r_, cQ, hm⟩ := ob hm
 refine au [] 7 _ C6 (by kernel_rfl) (xD (F := N0) (O := N0) _ _ _ _ _ (Ro.n0 (qH.cx db)) rfl rO (Cx.refl _) _ cQ) ?_
 rintro e_ l6 ⟨rfl, dE⟩
 have dU := db.call dE
 refine ⟨I r_, rfl, ?_⟩
 refine ba 1 [] (.n 5 (I r_) (.ss .a)) qe (by kernel_rfl) ?_
 refine af <| aa <| ab <| bO [] (.n 9 (.b (decide (r_ ≠ 0))) .a) qe (by kernel_rfl) ?_
 refine aa <| bu (r_ ≠ 0) (by kernel_rfl) (fun hc => ?_) (fun hc => ?_)
 · rw [if_pos hc] at hm
   refine ab <| an <| ba 2 [] (.n 10 (.agg [.ar dt (ae.rep 16 (0 : UInt32))]) (.n 11 (I r_) (.oQ (.k .z)))) (qT dU 1 rfl 0 16 [.ar dt (ae.rep 16 (0 : UInt32))] (by kernel_rfl) (by decide) <| qe) (by kernel_rfl) ?_
   refine ag <| en [] 0 (.agg [.ar dt (ae.rep 16 (0 : UInt32))]) [.ar dt (ae.rep 16 (0 : UInt32))] (Pt.at g 0) dU rfl .all (by kernel_rfl) (by kernel_rfl) ?_
   intro qj eY
   have fU := eY.de (.k .z)
   refine ba 1 [] (.n 3 (I r_) (.ss .a)) qe (by kernel_rfl) ?_
   refine af <| aa <| aQ (cJ ?_)
   obtain rfl := Option.some.inj hm
   refine aR [.agg [.ar dt (ae.rep 16 (0 : UInt32))], I r_] (qo (.agg [.ar dt (ae.rep 16 (0 : UInt32))]) <| qc (fun w => Rd w (some ⟨g, 0, none⟩) (SV.cl [.ar dt (ae.rep 16 (0 : UInt32))])) (fU.uz 0 rfl) <| qe) (by kernel_rfl) ?_
   have g_ := fU.de .z
   exact ⟨rfl, g_⟩
 rw [if_neg hc] at hm
 refine bc <| aa <| ab <| an <| ba 2 [] (.n 12 (sl (some ⟨g1, 0, none⟩) 16 16) (.n 13 (sl mq b.length mI) (.ss (.kk .z)))) (qo (.v (.slice (some ⟨g1, 0, none⟩) 16 16)) <| qp (((some ⟨g1, 0, none⟩) : Option Addr).isSome = true ∧ Value.slice (sD (some ⟨g1, 0, none⟩) 0 16 1) (16 - 0) (16 - 0) = .slice (some ⟨g1, 0, none⟩) 16 16) ⟨rfl, uA _ _ _ _ _ rfl⟩ <| qe) (by kernel_rfl) ?_
 refine ag ?_
 have gC := dU.Ky [] [] 1 rfl
 obtain ⟨ah, dd, hm⟩ := ob hm
 obtain ⟨F1, O1, lQ, hO, rp, hF, hb⟩ := gC.go (.r (.i .e))
 refine au [] 14 _ C7 (by kernel_rfl) (xE (F := F1) (O := O1) _ _ _ _ _ _ _ _ _ (Nat.le_refl _) (Ro.aM qH gC hF) rfl rO lQ _ dd) ?_
 rintro e_ qk ⟨rfl, gP⟩
 have gB := hb qk _ _ gP (.c .n)
 refine ⟨.gD [], rfl, ?_⟩
 have dO := gB.Kz [] [] 0 rfl (ae.of 16 ah) (ae.NU (gB.DY 0 rfl))
 refine af <| aa <| ab <| an <| ba 1 [] (.n 15 (.agg [.ar dt (ae.of 16 ah)]) (.jn .a)) (qT dO 0 rfl 0 16 [.ar dt (ae.of 16 ah)] (by kernel_rfl) (by decide) <| qe) (by kernel_rfl) ?_
 refine ag ?_
 have cV := dO.de (.kk .e)
 refine en [] 1 (.agg [.ar dt (ae.of 16 ah)]) [.ar dt (ae.of 16 ah)] (Pt.at g 0) cV rfl .all (by kernel_rfl) (by kernel_rfl) ?_
 intro rX ff
 have gI := ff.de (.s (.k .e))
 refine ba 1 [] (.n 3 (I 0) (.s .a)) qe (by kernel_rfl) ?_
 refine af <| aa <| aQ ?_
 obtain rfl := Option.some.inj hm
 refine aR [.agg [.ar dt (ae.of 16 ah)], I 0] (qo (.agg [.ar dt (ae.of 16 ah)]) <| qc (fun w => Rd w (some ⟨g, 0, none⟩) (SV.cl [.ar dt (ae.of 16 ah)])) (gI.uz 0 rfl) <| qe) (by kernel_rfl) ?_
 have ez := gI.de .z
 exact ⟨rfl, ez⟩
theorem Cl {F O : Nat → Prop} {w : World} (h : ae UInt32 8) (count : UInt64) (last : Bool) (node : Bool) (k : Cx F O w w []) (r : (ae UInt32 16)) (hm : tr h count last node = some r) :
    Calls Tryz.prog 163 (ad [.agg [.ar dt h], .u64 count, .b last, .b node]) w (fun e w' => e = .returned (SV.val (.agg [.ar dt r])) ∧ Cx F O w w' []) := by
 unfold tr at hm
 refine calls [.agg [.ar dt h], .u64 count, .b last, .b node] Tryz.func163 rfl (of_decide_eq_true (by kernel_rfl)) ?_
 refine ab <| an <| ag <| gF [] 4 (.agg [.ar dt h]) [.ar dt h] (by kernel_rfl) k ?_
 intro g w_ k_
 refine ag <| bT [] 8 [.ar dt (ae.rep 16 (0 : UInt32))] (by kernel_rfl) k_ ?_
 intro g1 k4 db
 refine af <| aa <| ab <| an <| ag <| bT [] 9 [.ar dt (ae.rep 16 (0 : UInt32))] (by kernel_rfl) db ?_
 intro g2 l6 dE
 refine af <| aa <| ab <| an <| ag ?_
 obtain ⟨r_, cQ, hm⟩ := ob hm
 refine au [] 11 _ C8 (by kernel_rfl) (Bk (F := N0) (O := N0)  (Cx.refl _) _ cQ) ?_
 rintro e_ qj ⟨rfl, dU⟩
 have eY := dE.call dU
 refine ⟨.agg [.ar dt r_], rfl, ?_⟩
 refine ag ?_
 have fU := eY.de (.kk (.k .e))
 refine bT [] 10 [.ar dt (ae.rep 8 (0 : UInt32))] (by kernel_rfl) fU ?_
 intro g3 qk g_
 refine ag <| en [] 3 (.agg [.ar dt r_]) [.ar dt r_] (Pt.at g3 0) g_ rfl .all (by kernel_rfl) (by kernel_rfl) ?_
 intro rX gC
 refine af <| aa <| ab ?_
 have gP := gC.drew 1
 refine qO bK (.q 0 0 (.q 1 0 (.op 2 .nil))) [2] gP (.c (.kk (.s (.k .e))) .l) (by kernel_rfl) (fun _ => ?_)
 obtain ⟨b, qH, hm⟩ := ob hm
 have hs := iB qH
 have hl := lh qH
 have hn : ((ae.rep 16 (0 : UInt32)).l).length = 16 := (ae.rep 16 (0 : UInt32)).h
 have hc : 16 ≤ 16 := (Nat.le_refl _)
 have k5 : b.length ≤ 16 := by omega
 refine cK 2 0 [] (.n 12 (sl (some ⟨g2, 0, none⟩) b.length 16) (.n 13 (sl (some ⟨g, 0, none⟩) 8 8) (.k (.s (.kk (.ss .a)))))) (fun x hx => qp (0 ≤ (8 : Int) ∧ (8 : Int) ≤ ((16 : Nat) : Int)) (by omega) <| qo (.v (.slice (some ⟨g2, 0, none⟩) b.length 16)) <| qp (((some ⟨g2, 0, none⟩) : Option Addr).isSome = true ∧ Value.slice (sD (some ⟨g2, 0, none⟩) 0 16 1) (Int.toNat (8 : Int) - 0) (16 - 0) = .slice (some ⟨g2, 0, none⟩) b.length 16) ⟨rfl, uA _ _ _ _ _ (by omega)⟩ <| qo (.v (.slice (some ⟨g, 0, none⟩) 8 8)) <| qp (((some ⟨g, 0, none⟩) : Option Addr).isSome = true ∧ Value.slice (sD (some ⟨g, 0, none⟩) 0 8 1) (8 - 0) (8 - 0) = .slice (some ⟨g, 0, none⟩) 8 8) ⟨rfl, uA _ _ _ _ _ rfl⟩ <| qe) (by kernel_rfl) (fun _ => ?_)
 refine cC (by kernel_rfl) rfl <| x8 (E := dt) (dn := b.length) (dc := 16) (v := sl (some ⟨g, 0, none⟩) 8 8) (src := h.l) (lo := 0) (m' := 16) C_ [] 14 2 [] [] (ae.rep 16 (0 : UInt32)) (by kernel_rfl) (sN _ _ _).symm gP rfl (Src.sl (Rd.vec (gP.uz 0 rfl) (c := fm.all dt h.l) (off := 0) (by kernel_rfl)) h.h (by rfl)) h.h (by have := (ae.rep 16 (0 : UInt32)).h; omega) (by omega) (by omega) ?_
 intro wQ gB
 refine ⟨(gB.de (.kk (.s (.k .e)))), fun _ => ?_⟩
 refine d_ <| aa <| ab ?_
 have dO := gB.drew 1
 refine qO bK (.q 0 0 (.q 1 0 (.op 2 .nil))) [2] dO (.c (.kk (.s (.k .e))) .l) (by kernel_rfl) (fun _ => ?_)
 obtain ⟨b1, wS, hm⟩ := ob hm
 have O3 := iB wS
 have Gv := lh wS
 have O4 : ((tT (ae.rep 16 (0 : UInt32)) 0 b.length h.l).l).length = 16 := (tT (ae.rep 16 (0 : UInt32)) 0 b.length h.l).h
 have rN : 16 ≤ 16 := (Nat.le_refl _)
 obtain ⟨A, c, e_, xQ, hA, Ak⟩ := Kx (some ⟨g2, 0, none⟩) (Int.toNat (8 : Int)) 16 1 (16 - Int.toNat (8 : Int)) b1.length (by omega) (by omega)
 refine cK 2 0 [] (.n 15 (sl A b1.length c) (.n 16 (sl (some ⟨g3, 0, none⟩) 8 8) (.jn .a))) (fun x hx => qp (0 ≤ (8 : Int) ∧ (8 : Int) ≤ ((16 : Nat) : Int)) (by omega) <| qo (.v (.slice A b1.length c)) <| qp (((some ⟨g2, 0, none⟩) : Option Addr).isSome = true ∧ Value.slice (sD (some ⟨g2, 0, none⟩) (Int.toNat (8 : Int)) 16 1) (16 - Int.toNat (8 : Int)) (16 - Int.toNat (8 : Int)) = .slice A b1.length c) ⟨rfl, e_⟩ <| qo (.v (.slice (some ⟨g3, 0, none⟩) 8 8)) <| qp (((some ⟨g3, 0, none⟩) : Option Addr).isSome = true ∧ Value.slice (sD (some ⟨g3, 0, none⟩) 0 8 1) (8 - 0) (8 - 0) = .slice (some ⟨g3, 0, none⟩) 8 8) ⟨rfl, uA _ _ _ _ _ rfl⟩ <| qe) (by kernel_rfl) (fun _ => ?_)
 refine cC (by kernel_rfl) rfl <| x8 (E := dt) (dn := b1.length) (dc := c) (v := sl (some ⟨g3, 0, none⟩) 8 8) (src := r_.l) (lo := Int.toNat (8 : Int)) (m' := 16) C_ [] 17 2 [] [] (tT (ae.rep 16 (0 : UInt32)) 0 b.length h.l) (by kernel_rfl) hA dO rfl (Src.sl (Rd.vec (dO.uz 3 rfl) (c := fm.all dt r_.l) (off := 0) (by kernel_rfl)) r_.h (by rfl)) r_.h (by have := (tT (ae.rep 16 (0 : UInt32)) 0 b.length h.l).h; omega) (by omega) (by omega) ?_
 intro wR cV
 refine ⟨(cV.de (.kk (.s (.k .e)))), fun _ => ?_⟩
 refine d_ <| aa <| ab <| an ?_
 obtain ⟨aL, sU, hm⟩ := ob hm
 obtain ⟨j5, j9, hm⟩ := ob hm
 refine ba 6 [] (.n 22 (.u32 (aL ^^^ (UInt32.ofNat count.toNat))) (.n 23 (.v (.pointer (nM (some ⟨g2, 0, none⟩) (12 : Int) 1))) (.oQ .a))) (qV (cV.nU 2 rfl dt (tT (tT (ae.rep 16 (0 : UInt32)) 0 b.length h.l) (Int.toNat (8 : Int)) b1.length r_.l) 0 (by kernel_rfl)) sU rfl (.u32 aL) rfl <| qI g2 0 j9 <| qe) (by kernel_rfl) ?_
 refine ag ?_
 have ff := cV.de (.bX .e)
 obtain ⟨v, JO, hm⟩ := nm hm
 refine ll (E := dt) (kk := 0) [] 2 (.u32 (aL ^^^ (UInt32.ofNat count.toNat))) [.u32 (aL ^^^ (UInt32.ofNat count.toNat))] JO j9 (Pt.xr (Pt.at g2 0) (12 : Int) 1) ff rfl .h rfl (by kernel_rfl) (by kernel_rfl) ?_
 intro Av gI
 refine af <| aa <| ab <| an ?_
 obtain ⟨eZ, jZ, hm⟩ := ob hm
 obtain ⟨jT, lA, hm⟩ := ob hm
 refine ba 7 [] (.n 29 (.u32 (eZ ^^^ (UInt32.ofNat (aK count ((32 : UInt64).toNat)).toNat))) (.n 30 (.v (.pointer (nM (some ⟨g2, 0, none⟩) (13 : Int) 1))) (.ss (.kk (.s .a))))) (qV (gI.nU 2 rfl dt v 0 (by kernel_rfl)) jZ rfl (.u32 eZ) rfl <| qI g2 0 lA <| qe) (by kernel_rfl) ?_
 refine ag ?_
 obtain ⟨v1, zO, hm⟩ := nm hm
 refine ll (E := dt) (kk := 0) [] 2 (.u32 (eZ ^^^ (UInt32.ofNat (aK count ((32 : UInt64).toNat)).toNat))) [.u32 (eZ ^^^ (UInt32.ofNat (aK count ((32 : UInt64).toNat)).toNat))] zO lA (Pt.xr (Pt.at g2 0) (13 : Int) 1) gI rfl .h rfl (by kernel_rfl) (by kernel_rfl) ?_
 intro DE ez
 refine af <| aa <| l4 (fun L wr => ∃ (v2 : ae UInt32 16), og node v2 = some r ∧ L = [(3, .b node), (8, pt g1 0), (9, pt g2 0)] ∧ Cx F O w wr [Bx 228 g1 [.ar dt (ae.rep 16 (0 : UInt32))], Bx 228 g2 [.ar dt v2]]) ?_ ?_
 ·
  refine ab <| bO [] (.n 31 (.b last) (.ss (.kk (.s .a)))) qe (by kernel_rfl) ?_
  refine aa <| cm last (by kernel_rfl) (fun wm => ?_) (fun wm => ?_)
  · rw [if_pos wm] at hm
    refine an ?_
    obtain ⟨mw, oP, hm⟩ := ob hm
    obtain ⟨mC, qm, hm⟩ := ob hm
    refine ba 4 [] (.n 34 (.u32 (4294967295 ^^^ mw)) (.n 35 (.v (.pointer (nM (some ⟨g2, 0, none⟩) (14 : Int) 1))) (.s .a))) (qV (ez.nU 2 rfl dt v1 0 (by kernel_rfl)) oP rfl (.u32 mw) rfl <| qI g2 0 qm <| qe) (by kernel_rfl) ?_
    refine ag ?_
    obtain ⟨v3, Eg, hm⟩ := nm hm
    refine ll (E := dt) (kk := 0) [] 2 (.u32 (4294967295 ^^^ mw)) [.u32 (4294967295 ^^^ mw)] Eg qm (Pt.xr (Pt.at g2 0) (14 : Int) 1) ez rfl .h rfl (by kernel_rfl) (by kernel_rfl) ?_
    intro Aw jj
    refine af ?_
    have gQ := jj.de (.s (.kk .z))
    exact jS ⟨v3, hm, rfl, gQ⟩ (by kernel_rfl)
  rw [if_neg (by rw [wm]; decide)] at hm
  refine bc ?_
  have kV := ez.de (.s (.kk .z))
  exact jS ⟨v1, hm, rfl, kV⟩ (by kernel_rfl)
 rintro L_ De ⟨v2, hm, rfl, lz⟩
 simp only [og] at hm
 refine l4 (fun L wr => ∃ (v4 : ae UInt32 16), oe v4 = some r ∧ L = [(8, pt g1 0), (9, pt g2 0)] ∧ Cx F O w wr [Bx 228 g1 [.ar dt (ae.rep 16 (0 : UInt32))], Bx 228 g2 [.ar dt v4]]) ?_ ?_
 ·
  refine ab <| bO [] (.n 36 (.b node) (.s .a)) qe (by kernel_rfl) ?_
  refine aa <| cm node (by kernel_rfl) (fun xR => ?_) (fun xR => ?_)
  · rw [if_pos xR] at hm
    refine an ?_
    obtain ⟨nK, tY, hm⟩ := ob hm
    obtain ⟨mH, tZ, hm⟩ := ob hm
    refine ba 4 [] (.n 39 (.u32 (4294967295 ^^^ nK)) (.n 40 (.v (.pointer (nM (some ⟨g2, 0, none⟩) (15 : Int) 1))) (.s .a))) (qV (lz.nU 1 rfl dt v2 0 (by kernel_rfl)) tY rfl (.u32 nK) rfl <| qI g2 0 tZ <| qe) (by kernel_rfl) ?_
    refine ag ?_
    obtain ⟨v5, Eh, hm⟩ := nm hm
    refine ll (E := dt) (kk := 0) [] 1 (.u32 (4294967295 ^^^ nK)) [.u32 (4294967295 ^^^ nK)] Eh tZ (Pt.xr (Pt.at g2 0) (15 : Int) 1) lz rfl .h rfl (by kernel_rfl) (by kernel_rfl) ?_
    intro Ef k6
    refine af ?_
    exact jS ⟨v5, hm, rfl, k6⟩ (by kernel_rfl)
  rw [if_neg (by rw [xR]; decide)] at hm
  refine bc ?_
  exact jS ⟨v2, hm, rfl, lz⟩ (by kernel_rfl)
 rintro L_ LF ⟨v4, hm, rfl, lJ⟩
 simp only [oe] at hm
 refine ab <| an <| ba 1 [] (.n 41 (.agg [.ar dt v4]) (.k .z)) (qT lJ 1 rfl 0 16 [.ar dt v4] (by kernel_rfl) (by decide) <| qe) (by kernel_rfl) ?_
 refine ag <| en [] 0 (.agg [.ar dt v4]) [.ar dt v4] (Pt.at g1 0) lJ rfl .all (by kernel_rfl) (by kernel_rfl) ?_
 intro N1 my
 have nE := my.de (.k .z)
 refine af <| aa <| aQ ?_
 obtain rfl := Option.some.inj hm
 refine aR [.agg [.ar dt v4]] (qo (.agg [.ar dt v4]) <| qc (fun w => Rd w (some ⟨g1, 0, none⟩) (SV.cl [.ar dt v4])) (nE.uz 0 rfl) <| qe) (by kernel_rfl) ?_
 have nh := nE.de .z
 exact ⟨rfl, nh⟩
theorem AE {F O : Nat → Prop} {w : World} (k : Cx F O w w []) (r : (ae (ae Int 4) 8)) (hm : so = some r) :
    Calls Tryz.prog 178 (ad []) w (fun e w' => e = .returned (SV.val (.agg [.ar (eV eI 4) r])) ∧ Cx F O w w' []) := by
 unfold so at hm
 refine calls [] Tryz.func178 rfl (of_decide_eq_true (by kernel_rfl)) ?_
 refine ab <| an <| ag <| bT [] 0 [.ar (eV eI 4) (ae.rep 8 (ae.rep 4 (0 : Int)))] (by kernel_rfl) k ?_
 intro g w_ k_
 refine af <| aa <| ab <| an <| ba 9 [] (.n 9 (.agg [.ar (eV eI 4) (⟨[(⟨[(0 : Int), (4 : Int), (8 : Int), (12 : Int)], rfl⟩ : ae Int 4), (⟨[(1 : Int), (5 : Int), (9 : Int), (13 : Int)], rfl⟩ : ae Int 4), (⟨[(2 : Int), (6 : Int), (10 : Int), (14 : Int)], rfl⟩ : ae Int 4), (⟨[(3 : Int), (7 : Int), (11 : Int), (15 : Int)], rfl⟩ : ae Int 4), (⟨[(0 : Int), (5 : Int), (10 : Int), (15 : Int)], rfl⟩ : ae Int 4), (⟨[(1 : Int), (6 : Int), (11 : Int), (12 : Int)], rfl⟩ : ae Int 4), (⟨[(2 : Int), (7 : Int), (8 : Int), (13 : Int)], rfl⟩ : ae Int 4), (⟨[(3 : Int), (4 : Int), (9 : Int), (14 : Int)], rfl⟩ : ae Int 4)], rfl⟩ : ae (ae Int 4) 8)]) .a) qe (by kernel_rfl) ?_
 refine ag <| en [] 0 (.agg [.ar (eV eI 4) (⟨[(⟨[(0 : Int), (4 : Int), (8 : Int), (12 : Int)], rfl⟩ : ae Int 4), (⟨[(1 : Int), (5 : Int), (9 : Int), (13 : Int)], rfl⟩ : ae Int 4), (⟨[(2 : Int), (6 : Int), (10 : Int), (14 : Int)], rfl⟩ : ae Int 4), (⟨[(3 : Int), (7 : Int), (11 : Int), (15 : Int)], rfl⟩ : ae Int 4), (⟨[(0 : Int), (5 : Int), (10 : Int), (15 : Int)], rfl⟩ : ae Int 4), (⟨[(1 : Int), (6 : Int), (11 : Int), (12 : Int)], rfl⟩ : ae Int 4), (⟨[(2 : Int), (7 : Int), (8 : Int), (13 : Int)], rfl⟩ : ae Int 4), (⟨[(3 : Int), (4 : Int), (9 : Int), (14 : Int)], rfl⟩ : ae Int 4)], rfl⟩ : ae (ae Int 4) 8)]) [.ar (eV eI 4) (⟨[(⟨[(0 : Int), (4 : Int), (8 : Int), (12 : Int)], rfl⟩ : ae Int 4), (⟨[(1 : Int), (5 : Int), (9 : Int), (13 : Int)], rfl⟩ : ae Int 4), (⟨[(2 : Int), (6 : Int), (10 : Int), (14 : Int)], rfl⟩ : ae Int 4), (⟨[(3 : Int), (7 : Int), (11 : Int), (15 : Int)], rfl⟩ : ae Int 4), (⟨[(0 : Int), (5 : Int), (10 : Int), (15 : Int)], rfl⟩ : ae Int 4), (⟨[(1 : Int), (6 : Int), (11 : Int), (12 : Int)], rfl⟩ : ae Int 4), (⟨[(2 : Int), (7 : Int), (8 : Int), (13 : Int)], rfl⟩ : ae Int 4), (⟨[(3 : Int), (4 : Int), (9 : Int), (14 : Int)], rfl⟩ : ae Int 4)], rfl⟩ : ae (ae Int 4) 8)] (Pt.at g 0) k_ rfl .all (by kernel_rfl) (by kernel_rfl) ?_
 intro k4 db
 refine af <| aa <| aQ ?_
 obtain rfl := Option.some.inj hm
 refine aR [.agg [.ar (eV eI 4) (⟨[(⟨[(0 : Int), (4 : Int), (8 : Int), (12 : Int)], rfl⟩ : ae Int 4), (⟨[(1 : Int), (5 : Int), (9 : Int), (13 : Int)], rfl⟩ : ae Int 4), (⟨[(2 : Int), (6 : Int), (10 : Int), (14 : Int)], rfl⟩ : ae Int 4), (⟨[(3 : Int), (7 : Int), (11 : Int), (15 : Int)], rfl⟩ : ae Int 4), (⟨[(0 : Int), (5 : Int), (10 : Int), (15 : Int)], rfl⟩ : ae Int 4), (⟨[(1 : Int), (6 : Int), (11 : Int), (12 : Int)], rfl⟩ : ae Int 4), (⟨[(2 : Int), (7 : Int), (8 : Int), (13 : Int)], rfl⟩ : ae Int 4), (⟨[(3 : Int), (4 : Int), (9 : Int), (14 : Int)], rfl⟩ : ae Int 4)], rfl⟩ : ae (ae Int 4) 8)]] (qo (.agg [.ar (eV eI 4) (⟨[(⟨[(0 : Int), (4 : Int), (8 : Int), (12 : Int)], rfl⟩ : ae Int 4), (⟨[(1 : Int), (5 : Int), (9 : Int), (13 : Int)], rfl⟩ : ae Int 4), (⟨[(2 : Int), (6 : Int), (10 : Int), (14 : Int)], rfl⟩ : ae Int 4), (⟨[(3 : Int), (7 : Int), (11 : Int), (15 : Int)], rfl⟩ : ae Int 4), (⟨[(0 : Int), (5 : Int), (10 : Int), (15 : Int)], rfl⟩ : ae Int 4), (⟨[(1 : Int), (6 : Int), (11 : Int), (12 : Int)], rfl⟩ : ae Int 4), (⟨[(2 : Int), (7 : Int), (8 : Int), (13 : Int)], rfl⟩ : ae Int 4), (⟨[(3 : Int), (4 : Int), (9 : Int), (14 : Int)], rfl⟩ : ae Int 4)], rfl⟩ : ae (ae Int 4) 8)]) <| qc (fun w => Rd w (some ⟨g, 0, none⟩) (SV.cl [.ar (eV eI 4) (⟨[(⟨[(0 : Int), (4 : Int), (8 : Int), (12 : Int)], rfl⟩ : ae Int 4), (⟨[(1 : Int), (5 : Int), (9 : Int), (13 : Int)], rfl⟩ : ae Int 4), (⟨[(2 : Int), (6 : Int), (10 : Int), (14 : Int)], rfl⟩ : ae Int 4), (⟨[(3 : Int), (7 : Int), (11 : Int), (15 : Int)], rfl⟩ : ae Int 4), (⟨[(0 : Int), (5 : Int), (10 : Int), (15 : Int)], rfl⟩ : ae Int 4), (⟨[(1 : Int), (6 : Int), (11 : Int), (12 : Int)], rfl⟩ : ae Int 4), (⟨[(2 : Int), (7 : Int), (8 : Int), (13 : Int)], rfl⟩ : ae Int 4), (⟨[(3 : Int), (4 : Int), (9 : Int), (14 : Int)], rfl⟩ : ae Int 4)], rfl⟩ : ae (ae Int 4) 8)])) (db.uz 0 rfl) <| qe) (by kernel_rfl) ?_
 have dE := db.de .z
 exact ⟨rfl, dE⟩
theorem lS {F O : Nat → Prop} {w : World} (x_ : UInt32) (k_ : Int) (k : Cx F O w w []) (r : UInt32) (hm : jh x_ k_ = some r) :
    Calls Tryz.prog 191 (ad [.u32 x_, I k_]) w (fun e w' => e = .returned (SV.val (.u32 r)) ∧ Cx F O w w' []) := by
 unfold jh at hm
 refine calls [.u32 x_, I k_] Tryz.func191 rfl (of_decide_eq_true (by kernel_rfl)) ?_
 refine ab <| bO [] .a qe (by kernel_rfl) ?_
 refine aa <| ab <| bO [] (.n 5 (.u64 ((UInt64.ofInt k_) &&& 31)) (.k .z)) qe (by kernel_rfl) ?_
 refine aa <| ab <| bO [] (.n 4 (.u32 ((tS x_ (((UInt64.ofInt k_) &&& 31).toNat)) ||| (l3 x_ (((32 : UInt64) - ((UInt64.ofInt k_) &&& 31)).toNat)))) .z) qe (by kernel_rfl) ?_
 refine aa <| aQ ?_
 obtain rfl := Option.some.inj hm
 refine aR [.u32 ((tS x_ (((UInt64.ofInt k_) &&& 31).toNat)) ||| (l3 x_ (((32 : UInt64) - ((UInt64.ofInt k_) &&& 31)).toNat)))] qe (by kernel_rfl) ?_
 exact ⟨rfl, k⟩
theorem Ej {F O : Nat → Prop} {w : World} (v : ae UInt32 16) (a_ : Int) (b : Int) (c : Int) (d : Int) (x_ : UInt32) (y_ : UInt32) (fg : Nat) (k : Cx F O w w [Bx 228 fg [.ar dt v]]) (r : (ae UInt32 16)) (hm : wE v a_ b c d x_ y_ = some r) :
    Calls Tryz.prog 179 (ad [pt fg 0, I a_, I b, I c, I d, .u32 x_, .u32 y_]) w (fun e w' => e = .returned (SV.val (.gD [])) ∧ Cx F O w w' [Bx 228 fg [.ar dt r]]) := by
 unfold wE at hm
 refine calls [pt fg 0, I a_, I b, I c, I d, .u32 x_, .u32 y_] Tryz.func179 rfl (of_decide_eq_true (by kernel_rfl)) ?_
 refine ab ?_
 have k_ := k.drew 1
 refine qO bK (.q 0 0 (.q 1 0 (.q 2 0 (.q 3 0 (.q 4 0 (.q 5 0 (.q 6 0 (.q 7 0 (.q 8 0 (.q 9 0 (.q 10 0 (.q 11 0 (.q 12 0 (.q 13 0 (.q 14 0 (.op 15 .nil)))))))))))))))) [15] k_ (.c (.z) .l) (by kernel_rfl) (fun _ => ?_)
 obtain ⟨eZ, jZ, hm⟩ := ob hm
 obtain ⟨jT, lA, hm⟩ := ob hm
 obtain ⟨mw, oP, hm⟩ := ob hm
 refine cK 15 0 [] (.n 26 (.u32 (eZ + (jT + x_))) (.n 28 (.v (.pointer (nM (some ⟨fg, 0, none⟩) a_ 1))) (.bX (.k (.s .a))))) (fun x hx => qs fg 0 <| qV (hx.nU 0 rfl dt v 0 (by kernel_rfl)) jZ rfl (.u32 eZ) rfl <| qs fg 0 <| qV (hx.nU 0 rfl dt v 0 (by kernel_rfl)) lA rfl (.u32 jT) rfl <| qs fg 0 <| qI fg 0 oP <| qe) (by kernel_rfl) (fun _ => ?_)
 refine cC (by kernel_rfl) rfl ?_
 obtain ⟨v1, zO, hm⟩ := nm hm
 refine ll (E := dt) (kk := 0) [] 0 (.u32 (eZ + (jT + x_))) [.u32 (eZ + (jT + x_))] zO oP (Pt.xr (Pt.at fg 0) a_ 1) k_ rfl .h rfl (by kernel_rfl) (by kernel_rfl) ?_
 intro w_ db
 refine ⟨(db.de .z), fun _ => ?_⟩
 refine d_ <| aa <| ab ?_
 have dE := db.drew 1
 refine qO bK (.q 0 1 (.q 1 1 (.q 2 1 (.q 3 1 (.q 4 1 (.q 5 1 (.q 6 0 (.q 7 1 (.q 8 1 (.q 9 1 (.q 10 1 (.q 11 0 (.q 12 0 (.q 14 1 (.op 13 (.q 15 1 (.op 16 .nil))))))))))))))))) [13, 16] dE (.c (.k .e) (.c (.z) .l)) (by kernel_rfl) (fun _ => ?_)
 obtain ⟨mC, qm, hm⟩ := ob hm
 refine cK 6 1 [] (.n 29 (pt fg 0) (.n 30 (I d) (.n 34 (.v (.pointer (nM (some ⟨fg, 0, none⟩) d 1))) (.ss .a)))) (fun x hx => qs fg 0 <| qI fg 0 qm <| qe) (by kernel_rfl) (fun _ => ?_)
 refine cK 1 0 [] (.n 35 (.u32 mC) (.kk (.s .a))) (fun x hx => qC (.u32 mC) (Rd.el (k := 0) (hx.nU 0 rfl dt v1 0 (by kernel_rfl)) qm (Pt.x6 (some ⟨fg, 0, none⟩) d 1) rfl) <| qe) (by kernel_rfl) (fun _ => ?_)
 obtain ⟨nK, tY, hm⟩ := ob hm
 refine cK 4 1 [] (.n 39 (.v (.pointer (nM (some ⟨fg, 0, none⟩) a_ 1))) .a) (fun x hx => qs fg 0 <| qI fg 0 tY <| qe) (by kernel_rfl) (fun _ => ?_)
 refine cK 2 0 [] (.n 41 (.u32 (mC ^^^ nK)) (.ss .a)) (fun x hx => qC (.u32 nK) (Rd.el (k := 0) (hx.nU 0 rfl dt v1 0 (by kernel_rfl)) tY (Pt.x6 (some ⟨fg, 0, none⟩) a_ 1) rfl) <| qe) (by kernel_rfl) (fun _ => ?_)
 refine cK 1 1 [] (.n 43 (pt fg 0) (.k (.s .a))) (fun x hx => qs fg 0 <| qe) (by kernel_rfl) (fun _ => ?_)
 refine cC (by kernel_rfl) rfl ?_
 obtain ⟨r_, cQ, hm⟩ := ob hm
 refine au [] 42 _ xC (by kernel_rfl) (lS (F := N0) (O := N0) _ _ (Cx.refl _) _ cQ) ?_
 rintro e_ k4 ⟨rfl, dU⟩
 have eY := dE.call dU
 refine ⟨.u32 r_, rfl, ?_⟩
 refine ⟨eY, fun _ => ?_⟩
 obtain ⟨mH, tZ, hm⟩ := ob hm
 refine cK 1 1 [] (.n 44 (.v (.pointer (nM (some ⟨fg, 0, none⟩) d 1))) (.k (.oQ .a))) (fun x hx => qI fg 0 tZ <| qe) (by kernel_rfl) (fun _ => ?_)
 refine cC (by kernel_rfl) rfl ?_
 obtain ⟨v2, LH, hm⟩ := nm hm
 refine ll (E := dt) (kk := 0) [] 0 (.u32 r_) [.u32 r_] LH tZ (Pt.xr (Pt.at fg 0) d 1) eY rfl .h rfl (by kernel_rfl) (by kernel_rfl) ?_
 intro l6 fU
 refine ⟨(fU.de .z), fun _ => ?_⟩
 refine d_ <| aa <| ab ?_
 have g_ := fU.drew 1
 refine qO bK (.q 0 0 (.q 1 0 (.q 2 0 (.q 3 0 (.q 4 0 (.q 5 0 (.q 6 0 (.q 7 0 (.q 8 0 (.q 9 0 (.q 10 0 (.q 11 0 (.q 12 0 (.op 13 .nil)))))))))))))) [13] g_ (.c (.z) .l) (by kernel_rfl) (fun _ => ?_)
 obtain ⟨vv, Bm, hm⟩ := ob hm
 obtain ⟨ta, Bn, hm⟩ := ob hm
 obtain ⟨nv, wU, hm⟩ := ob hm
 refine cK 13 0 [] (.n 55 (.u32 (vv + ta)) (.n 57 (.v (.pointer (nM (some ⟨fg, 0, none⟩) c 1))) (.ss .a))) (fun x hx => qs fg 0 <| qV (hx.nU 0 rfl dt v2 0 (by kernel_rfl)) Bm rfl (.u32 vv) rfl <| qs fg 0 <| qV (hx.nU 0 rfl dt v2 0 (by kernel_rfl)) Bn rfl (.u32 ta) rfl <| qs fg 0 <| qI fg 0 wU <| qe) (by kernel_rfl) (fun _ => ?_)
 refine cC (by kernel_rfl) rfl ?_
 obtain ⟨v3, Eg, hm⟩ := nm hm
 refine ll (E := dt) (kk := 0) [] 0 (.u32 (vv + ta)) [.u32 (vv + ta)] Eg wU (Pt.xr (Pt.at fg 0) c 1) g_ rfl .h rfl (by kernel_rfl) (by kernel_rfl) ?_
 intro qj gC
 refine ⟨(gC.de .z), fun _ => ?_⟩
 refine d_ <| aa <| ab ?_
 have gP := gC.drew 1
 refine qO bK (.q 0 1 (.q 1 1 (.q 2 1 (.q 3 1 (.q 4 1 (.q 5 1 (.q 6 0 (.q 7 1 (.q 8 1 (.q 9 1 (.q 10 1 (.q 11 0 (.q 12 0 (.q 14 1 (.op 13 (.q 15 1 (.op 16 .nil))))))))))))))))) [13, 16] gP (.c (.k .e) (.c (.z) .l)) (by kernel_rfl) (fun _ => ?_)
 obtain ⟨fx, zP, hm⟩ := ob hm
 refine cK 6 1 [] (.n 58 (pt fg 0) (.n 59 (I b) (.n 63 (.v (.pointer (nM (some ⟨fg, 0, none⟩) b 1))) (.ss .a)))) (fun x hx => qs fg 0 <| qI fg 0 zP <| qe) (by kernel_rfl) (fun _ => ?_)
 refine cK 1 0 [] (.n 64 (.u32 fx) (.kk (.s .a))) (fun x hx => qC (.u32 fx) (Rd.el (k := 0) (hx.nU 0 rfl dt v3 0 (by kernel_rfl)) zP (Pt.x6 (some ⟨fg, 0, none⟩) b 1) rfl) <| qe) (by kernel_rfl) (fun _ => ?_)
 obtain ⟨wD, Ca, hm⟩ := ob hm
 refine cK 4 1 [] (.n 68 (.v (.pointer (nM (some ⟨fg, 0, none⟩) c 1))) .a) (fun x hx => qs fg 0 <| qI fg 0 Ca <| qe) (by kernel_rfl) (fun _ => ?_)
 refine cK 2 0 [] (.n 70 (.u32 (fx ^^^ wD)) (.ss .a)) (fun x hx => qC (.u32 wD) (Rd.el (k := 0) (hx.nU 0 rfl dt v3 0 (by kernel_rfl)) Ca (Pt.x6 (some ⟨fg, 0, none⟩) c 1) rfl) <| qe) (by kernel_rfl) (fun _ => ?_)
 refine cK 1 1 [] (.n 72 (pt fg 0) (.k (.s .a))) (fun x hx => qs fg 0 <| qe) (by kernel_rfl) (fun _ => ?_)
 refine cC (by kernel_rfl) rfl ?_
 have gB := gP.de (.k .e)
 obtain ⟨ah, dd, hm⟩ := ob hm
 refine au [] 71 _ xC (by kernel_rfl) (lS (F := N0) (O := N0) _ _ (Cx.refl _) _ dd) ?_
 rintro e_ qk ⟨rfl, dO⟩
 have cV := gB.call dO
 refine ⟨.u32 ah, rfl, ?_⟩
 refine ⟨cV, fun _ => ?_⟩
 obtain ⟨yT, Cb, hm⟩ := ob hm
 refine cK 1 1 [] (.n 73 (.v (.pointer (nM (some ⟨fg, 0, none⟩) b 1))) (.k (.oQ .a))) (fun x hx => qI fg 0 Cb <| qe) (by kernel_rfl) (fun _ => ?_)
 refine cC (by kernel_rfl) rfl ?_
 obtain ⟨v4, LI, hm⟩ := nm hm
 refine ll (E := dt) (kk := 0) [] 0 (.u32 ah) [.u32 ah] LI Cb (Pt.xr (Pt.at fg 0) b 1) cV rfl .h rfl (by kernel_rfl) (by kernel_rfl) ?_
 intro rX ff
 refine ⟨(ff.de .z), fun _ => ?_⟩
 refine d_ <| aa <| ab ?_
 have gI := ff.drew 1
 refine qO bK (.q 0 0 (.q 1 0 (.q 2 0 (.q 3 0 (.q 4 0 (.q 5 0 (.q 6 0 (.q 7 0 (.q 8 0 (.q 9 0 (.q 10 0 (.q 11 0 (.q 12 0 (.q 13 0 (.q 14 0 (.op 15 .nil)))))))))))))))) [15] gI (.c (.z) .l) (by kernel_rfl) (fun _ => ?_)
 obtain ⟨As, Cc, hm⟩ := ob hm
 obtain ⟨vK, Cd, hm⟩ := ob hm
 obtain ⟨rW, zQ, hm⟩ := ob hm
 refine cK 15 0 [] (.n 86 (.u32 (As + (vK + y_))) (.n 88 (.v (.pointer (nM (some ⟨fg, 0, none⟩) a_ 1))) (.ss (.bX (.k .z))))) (fun x hx => qs fg 0 <| qV (hx.nU 0 rfl dt v4 0 (by kernel_rfl)) Cc rfl (.u32 As) rfl <| qs fg 0 <| qV (hx.nU 0 rfl dt v4 0 (by kernel_rfl)) Cd rfl (.u32 vK) rfl <| qs fg 0 <| qI fg 0 zQ <| qe) (by kernel_rfl) (fun _ => ?_)
 refine cC (by kernel_rfl) rfl ?_
 obtain ⟨v5, Eh, hm⟩ := nm hm
 refine ll (E := dt) (kk := 0) [] 0 (.u32 (As + (vK + y_))) [.u32 (As + (vK + y_))] Eh zQ (Pt.xr (Pt.at fg 0) a_ 1) gI rfl .h rfl (by kernel_rfl) (by kernel_rfl) ?_
 intro wQ ez
 refine ⟨(ez.de .z), fun _ => ?_⟩
 refine d_ <| aa <| ab ?_
 have jj := ez.drew 1
 refine qO bK (.q 0 1 (.q 1 1 (.q 2 1 (.q 3 1 (.q 4 1 (.q 5 1 (.q 6 0 (.q 7 1 (.q 8 1 (.q 9 1 (.q 10 1 (.q 11 0 (.q 12 0 (.q 14 1 (.op 13 (.q 15 1 (.op 16 .nil))))))))))))))))) [13, 16] jj (.c (.k .e) (.c (.z) .l)) (by kernel_rfl) (fun _ => ?_)
 obtain ⟨nw, zR, hm⟩ := ob hm
 refine cK 6 1 [] (.n 89 (pt fg 0) (.n 90 (I d) (.n 94 (.v (.pointer (nM (some ⟨fg, 0, none⟩) d 1))) (.ss .a)))) (fun x hx => qs fg 0 <| qI fg 0 zR <| qe) (by kernel_rfl) (fun _ => ?_)
 refine cK 1 0 [] (.n 95 (.u32 nw) (.kk (.s .a))) (fun x hx => qC (.u32 nw) (Rd.el (k := 0) (hx.nU 0 rfl dt v5 0 (by kernel_rfl)) zR (Pt.x6 (some ⟨fg, 0, none⟩) d 1) rfl) <| qe) (by kernel_rfl) (fun _ => ?_)
 obtain ⟨lW, Ce, hm⟩ := ob hm
 refine cK 4 1 [] (.n 99 (.v (.pointer (nM (some ⟨fg, 0, none⟩) a_ 1))) (.bX (.s .a))) (fun x hx => qs fg 0 <| qI fg 0 Ce <| qe) (by kernel_rfl) (fun _ => ?_)
 refine cK 2 0 [] (.n 101 (.u32 (nw ^^^ lW)) (.ss .a)) (fun x hx => qC (.u32 lW) (Rd.el (k := 0) (hx.nU 0 rfl dt v5 0 (by kernel_rfl)) Ce (Pt.x6 (some ⟨fg, 0, none⟩) a_ 1) rfl) <| qe) (by kernel_rfl) (fun _ => ?_)
 refine cK 1 1 [] (.n 103 (pt fg 0) (.k (.s .a))) (fun x hx => qs fg 0 <| qe) (by kernel_rfl) (fun _ => ?_)
 refine cC (by kernel_rfl) rfl ?_
 obtain ⟨aX, hK, hm⟩ := ob hm
 refine au [] 102 _ xC (by kernel_rfl) (lS (F := N0) (O := N0) _ _ (Cx.refl _) _ hK) ?_
 rintro e_ wR ⟨rfl, gQ⟩
 have kV := jj.call gQ
 refine ⟨.u32 aX, rfl, ?_⟩
 refine ⟨kV, fun _ => ?_⟩
 obtain ⟨ny, Cf, hm⟩ := ob hm
 refine cK 1 1 [] (.n 104 (.v (.pointer (nM (some ⟨fg, 0, none⟩) d 1))) (.k (.oQ .a))) (fun x hx => qI fg 0 Cf <| qe) (by kernel_rfl) (fun _ => ?_)
 refine cC (by kernel_rfl) rfl ?_
 have lz := kV.de (.k .e)
 obtain ⟨v6, LJ, hm⟩ := nm hm
 refine ll (E := dt) (kk := 0) [] 0 (.u32 aX) [.u32 aX] LJ Cf (Pt.xr (Pt.at fg 0) d 1) lz rfl .h rfl (by kernel_rfl) (by kernel_rfl) ?_
 intro Av k6
 refine ⟨(k6.de .z), fun _ => ?_⟩
 refine d_ <| aa <| ab ?_
 have lJ := k6.drew 1
 refine qO bK (.q 0 0 (.q 1 0 (.q 2 0 (.q 3 0 (.q 4 0 (.q 5 0 (.q 6 0 (.q 7 0 (.q 8 0 (.q 9 0 (.q 10 0 (.q 11 0 (.q 12 0 (.op 13 .nil)))))))))))))) [13] lJ (.c (.z) .l) (by kernel_rfl) (fun _ => ?_)
 obtain ⟨tn, Cg, hm⟩ := ob hm
 obtain ⟨vL, Ch, hm⟩ := ob hm
 obtain ⟨Au, zS, hm⟩ := ob hm
 refine cK 13 0 [] (.n 115 (.u32 (tn + vL)) (.n 117 (.v (.pointer (nM (some ⟨fg, 0, none⟩) c 1))) (.ss (.uk .z)))) (fun x hx => qs fg 0 <| qV (hx.nU 0 rfl dt v6 0 (by kernel_rfl)) Cg rfl (.u32 tn) rfl <| qs fg 0 <| qV (hx.nU 0 rfl dt v6 0 (by kernel_rfl)) Ch rfl (.u32 vL) rfl <| qs fg 0 <| qI fg 0 zS <| qe) (by kernel_rfl) (fun _ => ?_)
 refine cC (by kernel_rfl) rfl ?_
 obtain ⟨v7, LK, hm⟩ := nm hm
 refine ll (E := dt) (kk := 0) [] 0 (.u32 (tn + vL)) [.u32 (tn + vL)] LK zS (Pt.xr (Pt.at fg 0) c 1) lJ rfl .h rfl (by kernel_rfl) (by kernel_rfl) ?_
 intro DE my
 refine ⟨(my.de .z), fun _ => ?_⟩
 refine d_ <| aa ?_
 have nE := my.drew 1
 refine qO bK (.q 0 1 (.q 1 1 (.q 2 1 (.q 3 1 (.q 4 1 (.q 5 1 (.q 6 0 (.q 7 1 (.q 8 1 (.q 9 1 (.q 10 1 (.q 11 0 (.q 12 0 (.q 14 1 (.op 13 (.q 15 1 (.op 16 .nil))))))))))))))))) [13, 16] nE (.c (.k .e) (.c (.z) .l)) (by kernel_rfl) (fun _ => ?_)
 obtain ⟨BP, zT, hm⟩ := ob hm
 refine cK 6 1 [] (.n 118 (pt fg 0) (.n 119 (I b) (.n 123 (.v (.pointer (nM (some ⟨fg, 0, none⟩) b 1))) (.ss (.k (.s .a)))))) (fun x hx => qs fg 0 <| qI fg 0 zT <| qe) (by kernel_rfl) (fun _ => ?_)
 refine cK 1 0 [] (.n 124 (.u32 BP) (.kk (.s .a))) (fun x hx => qC (.u32 BP) (Rd.el (k := 0) (hx.nU 0 rfl dt v7 0 (by kernel_rfl)) zT (Pt.x6 (some ⟨fg, 0, none⟩) b 1) rfl) <| qe) (by kernel_rfl) (fun _ => ?_)
 obtain ⟨tp, Ci, hm⟩ := ob hm
 refine cK 4 1 [] (.n 128 (.v (.pointer (nM (some ⟨fg, 0, none⟩) c 1))) (.uk .z)) (fun x hx => qs fg 0 <| qI fg 0 Ci <| qe) (by kernel_rfl) (fun _ => ?_)
 refine cK 2 0 [] (.n 130 (.u32 (BP ^^^ tp)) (.ss .a)) (fun x hx => qC (.u32 tp) (Rd.el (k := 0) (hx.nU 0 rfl dt v7 0 (by kernel_rfl)) Ci (Pt.x6 (some ⟨fg, 0, none⟩) c 1) rfl) <| qe) (by kernel_rfl) (fun _ => ?_)
 refine cK 1 1 [] (.n 132 (pt fg 0) (.k (.s .a))) (fun x hx => qs fg 0 <| qe) (by kernel_rfl) (fun _ => ?_)
 refine cC (by kernel_rfl) rfl ?_
 obtain ⟨eK, nX, hm⟩ := ob hm
 refine au [] 131 _ xC (by kernel_rfl) (lS (F := N0) (O := N0) _ _ (Cx.refl _) _ nX) ?_
 rintro e_ Aw ⟨rfl, nh⟩
 have mz := nE.call nh
 refine ⟨.u32 eK, rfl, ?_⟩
 refine ⟨mz, fun _ => ?_⟩
 obtain ⟨vM, Cj, hm⟩ := ob hm
 refine cK 1 1 [] (.n 133 (.v (.pointer (nM (some ⟨fg, 0, none⟩) b 1))) (.k .z)) (fun x hx => qI fg 0 Cj <| qe) (by kernel_rfl) (fun _ => ?_)
 refine cC (by kernel_rfl) rfl ?_
 obtain ⟨v8, LL, hm⟩ := nm hm
 refine ll (E := dt) (kk := 0) [] 0 (.u32 eK) [.u32 eK] LL Cj (Pt.xr (Pt.at fg 0) b 1) mz rfl .h rfl (by kernel_rfl) (by kernel_rfl) ?_
 intro De sw
 refine ⟨(sw.de .z), fun _ => ?_⟩
 refine d_ ?_
 obtain rfl := Option.some.inj hm
 refine px [] qe (by kernel_rfl) ?_
 exact ⟨rfl, sw⟩
theorem Cm {F O : Nat → Prop} {w : World} (v : ae UInt32 16) (m_ : ae UInt32 16) (r_ : Int) (fg : Nat) (AD : Nat) (k : Cx F O w w [Bx 228 fg [.ar dt v], Bx 228 AD [.ar dt m_]]) (r : (ae UInt32 16 × ae UInt32 16)) (hm : ts v m_ r_ = some r) :
    Calls Tryz.prog 164 (ad [pt fg 0, pt AD 0, I r_]) w (fun e w' => e = .returned (SV.val (.gD [])) ∧ Cx F O w w' [Bx 228 fg [.ar dt r.1], Bx 228 AD [.ar dt r.2]]) := by
 unfold ts at hm
 refine calls [pt fg 0, pt AD 0, I r_] Tryz.func164 rfl (of_decide_eq_true (by kernel_rfl)) ?_
 refine ab <| an <| ba 1 [] (.n 9 (I r_) (.kk .z)) qe (by kernel_rfl) ?_
 refine ag ?_
 obtain ⟨ah, dd, hm⟩ := ob hm
 refine au [] 10 _ C9 (by kernel_rfl) (xF (F := N0) (O := N0) _ (Cx.refl _) _ dd) ?_
 rintro e_ w_ ⟨rfl, k_⟩
 have db := k.call k_
 refine ⟨.agg [.ar eI ah], rfl, ?_⟩
 refine ag <| bT [] 6 [.ar eI (ae.rep 16 (0 : Int))] (by kernel_rfl) db ?_
 intro g k4 dE
 refine ag <| en [] 2 (.agg [.ar eI ah]) [.ar eI ah] (Pt.at g 0) dE rfl .all (by kernel_rfl) (by kernel_rfl) ?_
 intro l6 dU
 refine af <| aa <| ab <| an <| ag ?_
 obtain ⟨aX, hK, hm⟩ := ob hm
 refine au [] 11 _ HR (by kernel_rfl) (AE (F := N0) (O := N0)  (Cx.refl _) _ hK) ?_
 rintro e_ qj ⟨rfl, eY⟩
 have fU := dU.call eY
 refine ⟨.agg [.ar (eV eI 4) aX], rfl, ?_⟩
 refine ba 1 [] (.n 12 (I 0) (.kk (.ss .a))) qe (by kernel_rfl) ?_
 refine af <| aa <| cX <| rv (qA m_ ah aX) (fun s L wr => ∃ (v1 : ae UInt32 16) (aL : Int), (v1, aL) = s ∧ L = [(0, pt fg 0), (1, pt AD 0), (6, pt g 0), (11, .agg [.ar (eV eI 4) aX]), (12, I aL)] ∧ Cx F O w wr [Bx 228 fg [.ar dt v1], Bx 228 AD [.ar dt m_], Bx 257 g [.ar eI ah]]) (v, (0 : Int)) r hm ⟨v, (0 : Int), rfl, rfl, fU⟩ (by kernel_rfl) ?_
 intro Al L_ qk y0 kE dY rP
 obtain ⟨v1, aL, rfl, rfl, g_⟩ := kE
 have hm := dY; simp only [qA] at hm
 clear dY
 refine ab <| bO [] (.n 13 (.b (decide (aL < 8))) .a) qe (by kernel_rfl) ?_
 refine aa <| ab <| bu (aL < 8) (by kernel_rfl) (fun hc => ?_) (fun hc => ?_)
 · rw [if_pos hc] at hm
   refine bc <| aa <| ab <| cX <| ab <| an ?_
   obtain ⟨eZ, jZ, hm⟩ := ob hm
   refine ba 2 [] (.n 14 (I aL) (.n 15 (.agg [.ar eI eZ]) (.s .a))) (qo (.agg [.ar eI eZ]) <| qp ((0 ≤ aL ∧ aL < ((8 : Nat) : Int)) ∧ ((SV.cl [.ar (eV eI 4) aX]).drop (Int.toNat aL * 4)).take 4 = SV.cl [.ar eI eZ]) (G9 (E := eI) jZ) <| qe) (by kernel_rfl) ?_
   refine ag <| bT [] 8 [.ar eI (ae.rep 4 (0 : Int))] (by kernel_rfl) g_ ?_
   intro g1 rX gC
   refine ba 1 [] (.n 7 (I aL) (.k (.s .a))) qe (by kernel_rfl) ?_
   refine ag <| en [] 3 (.agg [.ar eI eZ]) [.ar eI eZ] (Pt.at g1 0) gC rfl .all (by kernel_rfl) (by kernel_rfl) ?_
   intro wQ gP
   refine af <| aa ?_
   have gB := gP.drew 1
   refine qO bK (.q 0 0 (.q 1 0 (.q 2 0 (.q 3 0 (.q 4 0 (.q 5 0 (.q 6 0 (.q 7 0 (.q 8 0 (.q 9 1 (.q 10 1 (.q 11 1 (.q 12 1 (.q 13 1 (.q 14 1 (.q 15 0 (.q 16 0 (.q 17 1 (.q 18 1 (.q 19 1 (.q 20 1 (.q 21 1 (.q 22 1 (.q 23 1 (.q 24 0 (.q 25 0 (.op 26 .nil))))))))))))))))))))))))))) [26] gB (.c (.s (.kk (.k .e))) .l) (by kernel_rfl) (fun _ => ?_)
   obtain ⟨jT, lA, hm⟩ := ob hm
   obtain ⟨mw, oP, hm⟩ := ob hm
   obtain ⟨mC, qm, hm⟩ := ob hm
   obtain ⟨nK, tY, hm⟩ := ob hm
   refine cK 9 0 [] (.n 16 (pt fg 0) (.n 18 (I jT) (.n 20 (I mw) (.n 22 (I mC) (.n 24 (I nK) (.k (.ss .a))))))) (fun x hx => qV (hx.nU 3 rfl eI eZ 0 (by kernel_rfl)) lA rfl (I jT) rfl <| qV (hx.nU 3 rfl eI eZ 0 (by kernel_rfl)) oP rfl (I mw) rfl <| qV (hx.nU 3 rfl eI eZ 0 (by kernel_rfl)) qm rfl (I mC) rfl <| qV (hx.nU 3 rfl eI eZ 0 (by kernel_rfl)) tY rfl (I nK) rfl <| qe) (by kernel_rfl) (fun _ => ?_)
   obtain ⟨mH, tZ, hm⟩ := ob hm
   refine cK 6 1 [] (.n 29 (I mH) (.n 30 (pt AD 0) .a)) (fun x hx => qV (hx.nU 1 rfl eI ah 0 (by kernel_rfl)) tZ rfl (I mH) rfl <| qs AD 0 <| qe) (by kernel_rfl) (fun _ => ?_)
   obtain ⟨vv, Bm, hm⟩ := ob hm
   refine cK 2 0 [] (.n 32 (.u32 vv) (.ss .a)) (fun x hx => qV (hx.nU 1 rfl dt m_ 0 (by kernel_rfl)) Bm rfl (.u32 vv) rfl <| qe) (by kernel_rfl) (fun _ => ?_)
   obtain ⟨ta, Bn, hm⟩ := ob hm
   refine cK 7 1 [] (.n 38 (I ta) (.n 39 (pt AD 0) (.bX (.kk (.s .a))))) (fun x hx => qV (hx.nU 1 rfl eI ah 0 (by kernel_rfl)) Bn rfl (I ta) rfl <| qs AD 0 <| qe) (by kernel_rfl) (fun _ => ?_)
   obtain ⟨nv, wU, hm⟩ := ob hm
   refine cK 2 0 [] (.n 41 (.u32 nv) (.ss .a)) (fun x hx => qV (hx.nU 1 rfl dt m_ 0 (by kernel_rfl)) wU rfl (.u32 nv) rfl <| qe) (by kernel_rfl) (fun _ => ?_)
   refine cC (by kernel_rfl) rfl ?_
   obtain ⟨eK, nX, hm⟩ := ob hm
   obtain ⟨F1, O1, lQ, hO, rp, hF, hb⟩ := gB.go (.i (.r (.r (.r .e))))
   refine au [] 42 _ HS (by kernel_rfl) (Ej (F := F1) (O := O1) _ _ _ _ _ _ _ _ lQ _ nX) ?_
   rintro e_ wR ⟨rfl, dO⟩
   have cV := hb wR _ _ dO (.c .n)
   refine ⟨.gD [], rfl, ?_⟩
   refine ⟨(cV.de (.s (.kk (.k .e)))), fun _ => ?_⟩
   refine d_ <| lL <| aa <| bO [] (.n 12 (I (aD (aL + 1))) (.jn (.jn (.bX .z)))) qe (by kernel_rfl) ?_
   have ff := cV.de (.kk (.k .z))
   exact mN (eK, aD (aL + 1)) (Option.some.inj hm).symm ⟨eK, aD (aL + 1), rfl, rfl, ff⟩ (by kernel_rfl)
 rw [if_neg hc] at hm
 refine jr (gk (gk (lT ?_)))
 have hm := iv hm rP
 obtain rfl := Option.some.inj hm
 refine px [] qe (by kernel_rfl) ?_
 have gI := g_.de (.kk .z)
 exact ⟨rfl, gI⟩
theorem Ek {F O : Nat → Prop} {w : World} (h : ae UInt32 8) (v : ae UInt32 16) (k : Cx F O w w []) (r : (ae UInt32 8)) (hm : wG h v = some r) :
    Calls Tryz.prog 165 (ad [.agg [.ar dt h], .agg [.ar dt v]]) w (fun e w' => e = .returned (SV.val (.agg [.ar dt r])) ∧ Cx F O w w' []) := by
 unfold wG at hm
 refine calls [.agg [.ar dt h], .agg [.ar dt v]] Tryz.func165 rfl (of_decide_eq_true (by kernel_rfl)) ?_
 refine ab <| an <| ag <| gF [] 2 (.agg [.ar dt h]) [.ar dt h] (by kernel_rfl) k ?_
 intro g w_ k_
 refine ag <| gF [] 3 (.agg [.ar dt v]) [.ar dt v] (by kernel_rfl) k_ ?_
 intro g1 k4 db
 refine ag <| bT [] 4 [.ar dt (ae.rep 8 (0 : UInt32))] (by kernel_rfl) db ?_
 intro g2 l6 dE
 refine af <| aa <| ab <| ab <| bO [] (.n 6 (I 0) (.uk .z)) qe (by kernel_rfl) ?_
 refine aa <| cX <| rv (sq v) (fun s L wr => ∃ (h1 : ae UInt32 8) (aL : Int), (h1, aL) = s ∧ L = [(2, pt g 0), (3, pt g1 0), (4, pt g2 0), (6, I aL)] ∧ Cx F O w wr [Bx 201 g [.ar dt h1], Bx 228 g1 [.ar dt v], Bx 201 g2 [.ar dt (ae.rep 8 (0 : UInt32))]]) (h, (0 : Int)) r hm ⟨h, (0 : Int), rfl, rfl, dE⟩ (by kernel_rfl) ?_
 intro Al L_ qj y0 kE dY rP
 obtain ⟨h1, aL, rfl, rfl, dU⟩ := kE
 have hm := dY; simp only [sq] at hm
 clear dY
 refine ab <| bO [] (.n 7 (.b (decide (aL < 8))) .a) qe (by kernel_rfl) ?_
 refine aa <| ab <| bu (aL < 8) (by kernel_rfl) (fun hc => ?_) (fun hc => ?_)
 · rw [if_pos hc] at hm
   refine bc <| aa <| ab <| cX <| ab <| bO [] (.n 5 (I aL) (.s .a)) qe (by kernel_rfl) ?_
   refine aa ?_
   have eY := dU.drew 1
   refine qO bK (.q 0 0 (.q 1 0 (.q 2 0 (.q 3 0 (.q 4 0 (.q 5 0 (.q 6 0 (.q 7 0 (.q 8 0 (.q 9 0 (.q 10 0 (.q 11 0 (.q 12 0 (.op 13 .nil)))))))))))))) [13] eY (.c (.s (.kk .e)) .l) (by kernel_rfl) (fun _ => ?_)
   obtain ⟨j5, j9, hm⟩ := ob hm
   obtain ⟨eZ, jZ, hm⟩ := ob hm
   obtain ⟨jT, lA, hm⟩ := ob hm
   obtain ⟨mw, oP, hm⟩ := ob hm
   refine cK 13 0 [] (.n 20 (.u32 (j5 ^^^ (eZ ^^^ jT))) (.n 21 (.v (.pointer (nM (some ⟨g, 0, none⟩) aL 1))) (.s .a))) (fun x hx => qV (hx.nU 0 rfl dt h1 0 (by kernel_rfl)) j9 rfl (.u32 j5) rfl <| qV (hx.nU 1 rfl dt v 0 (by kernel_rfl)) jZ rfl (.u32 eZ) rfl <| qV (hx.nU 1 rfl dt v 0 (by kernel_rfl)) lA rfl (.u32 jT) rfl <| qI g 0 oP <| qe) (by kernel_rfl) (fun _ => ?_)
   refine cC (by kernel_rfl) rfl ?_
   obtain ⟨v1, zO, hm⟩ := nm hm
   refine ll (E := dt) (kk := 0) [] 0 (.u32 (j5 ^^^ (eZ ^^^ jT))) [.u32 (j5 ^^^ (eZ ^^^ jT))] zO oP (Pt.xr (Pt.at g 0) aL 1) eY rfl .h rfl (by kernel_rfl) (by kernel_rfl) ?_
   intro qk fU
   refine ⟨(fU.de (.s (.kk .e))), fun _ => ?_⟩
   refine d_ <| lL <| aa <| bO [] (.n 6 (I (aD (aL + 1))) (.ss (.uk .z))) qe (by kernel_rfl) ?_
   exact mN (v1, aD (aL + 1)) (Option.some.inj hm).symm ⟨v1, aD (aL + 1), rfl, rfl, fU⟩ (by kernel_rfl)
 rw [if_neg hc] at hm
 refine jr (gk (gk (lT ?_)))
 have hm := iv hm rP
 refine aa <| ab <| an <| ba 1 [] (.n 23 (.agg [.ar dt h1]) (.oQ (.k .z))) (qT dU 0 rfl 0 8 [.ar dt h1] (by kernel_rfl) (by decide) <| qe) (by kernel_rfl) ?_
 refine ag <| en [] 2 (.agg [.ar dt h1]) [.ar dt h1] (Pt.at g2 0) dU rfl .all (by kernel_rfl) (by kernel_rfl) ?_
 intro rX g_
 have gC := g_.de (.ss (.k .e))
 refine af <| aa <| aQ ?_
 obtain rfl := Option.some.inj hm
 refine aR [.agg [.ar dt h1]] (qo (.agg [.ar dt h1]) <| qc (fun w => Rd w (some ⟨g2, 0, none⟩) (SV.cl [.ar dt h1])) (gC.uz 0 rfl) <| qe) (by kernel_rfl) ?_
 have gP := gC.de .z
 exact ⟨rfl, gP⟩
theorem H0 {F O : Nat → Prop} {w : World} (h : ae UInt32 8) (m_ : ae UInt32 16) (count : UInt64) (last : Bool) (node : Bool) (k : Cx F O w w []) (r : (ae UInt32 8)) (hm : zF h m_ count last node = some r) :
    Calls Tryz.prog 153 (ad [.agg [.ar dt h], .agg [.ar dt m_], .u64 count, .b last, .b node]) w (fun e w' => e = .returned (SV.val (.agg [.ar dt r])) ∧ Cx F O w w' []) := by
 unfold zF at hm
 refine calls [.agg [.ar dt h], .agg [.ar dt m_], .u64 count, .b last, .b node] Tryz.func153 rfl (of_decide_eq_true (by kernel_rfl)) ?_
 refine ab <| an <| ag <| gF [] 5 (.agg [.ar dt h]) [.ar dt h] (by kernel_rfl) k ?_
 intro g w_ k_
 refine ag <| gF [] 6 (.agg [.ar dt m_]) [.ar dt m_] (by kernel_rfl) k_ ?_
 intro g1 k4 db
 refine ag <| bT [] 10 [.ar dt (ae.rep 8 (0 : UInt32))] (by kernel_rfl) db ?_
 intro g2 l6 dE
 refine af <| aa <| ab <| an <| ba 4 [] (.n 13 (.agg [.ar dt h]) (.n 14 (.u64 count) (.n 15 (.b last) (.n 16 (.b node) (.uk .z))))) (qT dE 0 rfl 0 8 [.ar dt h] (by kernel_rfl) (by decide) <| qe) (by kernel_rfl) ?_
 refine ag ?_
 obtain ⟨r_, cQ, hm⟩ := ob hm
 refine au [] 17 _ HL (by kernel_rfl) (Cl (F := N0) (O := N0) _ _ _ _ (Cx.refl _) _ cQ) ?_
 rintro e_ qj ⟨rfl, dU⟩
 have eY := dE.call dU
 refine ⟨.agg [.ar dt r_], rfl, ?_⟩
 refine ag ?_
 have fU := eY.de (.kk (.k .e))
 refine bT [] 11 [.ar dt (ae.rep 16 (0 : UInt32))] (by kernel_rfl) fU ?_
 intro g3 qk g_
 refine ag <| en [] 3 (.agg [.ar dt r_]) [.ar dt r_] (Pt.at g3 0) g_ rfl .all (by kernel_rfl) (by kernel_rfl) ?_
 intro rX gC
 refine af <| aa <| ab <| ab <| bO [] (.n 18 (I 0) (.k (.jn (.s .a)))) qe (by kernel_rfl) ?_
 refine aa <| cX <| rv (uD h) (fun s L wr => ∃ (xt : ae UInt32 16) (v : ae UInt32 16) (aL : Int), (xt, v, aL) = s ∧ L = [(5, pt g 0), (6, pt g1 0), (10, pt g2 0), (11, pt g3 0), (18, I aL)] ∧ Cx F O w wr [Bx 201 g [.ar dt h], Bx 228 g1 [.ar dt xt], Bx 201 g2 [.ar dt (ae.rep 8 (0 : UInt32))], Bx 228 g3 [.ar dt v]]) (m_, r_, (0 : Int)) r hm ⟨m_, r_, (0 : Int), rfl, rfl, gC⟩ (by kernel_rfl) ?_
 intro Al L_ wQ y0 kE dY rP
 obtain ⟨xt, v, aL, rfl, rfl, gP⟩ := kE
 have hm := dY; simp only [uD] at hm
 clear dY
 refine ab <| bO [] (.n 19 (.b (decide (aL < 10))) .a) qe (by kernel_rfl) ?_
 refine aa <| ab <| bu (aL < 10) (by kernel_rfl) (fun hc => ?_) (fun hc => ?_)
 · rw [if_pos hc] at hm
   refine bc <| aa <| ab <| cX <| ab <| bO [] (.n 12 (I aL) (.s .a)) qe (by kernel_rfl) ?_
   refine aa <| an <| ba 1 [] (.n 21 (I aL) (.s .a)) qe (by kernel_rfl) ?_
   refine ag ?_
   obtain ⟨ah, dd, hm⟩ := ob hm
   have gB := (((gP.pk (.t (.t .h))).pk (.t .h)).pk (.t (.t .h))).pk (.t (.t (.t .h)))
   obtain ⟨F1, O1, lQ, hO, rp, hF, hb⟩ := gB.go (.i (.i (.r (.r .e))))
   refine au [] 22 _ HM (by kernel_rfl) (Cm (F := F1) (O := O1) _ _ _ _ _ lQ _ dd) ?_
   rintro e_ wR ⟨rfl, dO⟩
   have cV := hb wR _ _ dO (.c (.c .n))
   refine ⟨.gD [], rfl, ?_⟩
   refine af <| lL <| aa <| bO [] (.n 18 (I (aD (aL + 1))) (.ss (.bX .z))) qe (by kernel_rfl) ?_
   have ff := (((cV.pk .h).pk (.t (.t (.t .h)))).pk (.t (.t .h))).pk (.t (.t (.t .h)))
   exact mN (ah.2, ah.1, aD (aL + 1)) (Option.some.inj hm).symm ⟨ah.2, ah.1, aD (aL + 1), rfl, rfl, ff⟩ (by kernel_rfl)
 rw [if_neg hc] at hm
 refine jr (gk (gk (lT ?_)))
 have hm := iv hm rP
 refine aa <| ab <| an <| ba 2 [] (.n 24 (.agg [.ar dt h]) (.n 25 (.agg [.ar dt v]) (.oQ (.k .z)))) (qT gP 0 rfl 0 8 [.ar dt h] (by kernel_rfl) (by decide) <| qT gP 3 rfl 0 16 [.ar dt v] (by kernel_rfl) (by decide) <| qe) (by kernel_rfl) ?_
 refine ag ?_
 obtain ⟨aX, hK, hm⟩ := ob hm
 refine au [] 26 _ HN (by kernel_rfl) (Ek (F := N0) (O := N0) _ _ (Cx.refl _) _ hK) ?_
 rintro e_ Av ⟨rfl, gI⟩
 have ez := gP.call gI
 refine ⟨.agg [.ar dt aX], rfl, ?_⟩
 have jj := ez.de (.ss (.k .z))
 refine ag <| en [] 0 (.agg [.ar dt aX]) [.ar dt aX] (Pt.at g2 0) jj rfl .all (by kernel_rfl) (by kernel_rfl) ?_
 intro DE gQ
 refine af <| aa <| aQ ?_
 obtain rfl := Option.some.inj hm
 refine aR [.agg [.ar dt aX]] (qo (.agg [.ar dt aX]) <| qc (fun w => Rd w (some ⟨g2, 0, none⟩) (SV.cl [.ar dt aX])) (gQ.uz 0 rfl) <| qe) (by kernel_rfl) ?_
 have kV := gQ.de .z
 exact ⟨rfl, kV⟩
theorem t_ {F O : Nat → Prop} {w : World} (h : ae UInt32 8) (b : List UInt8) (oR : UInt64) (pE : UInt64) (last : Bool) (node : Bool) (mq : Option Addr) (py : Nat) (mI : Nat) (qH : Ro F w mq (e8.all b)) (qK : b.length = py) (rO : py ≤ mI) (k : Cx F O w w []) (r : (ae UInt32 8)) (hm : oh h b oR pE last node = some r) :
    Calls Tryz.prog 135 (ad [.agg [.ar dt h], sl mq py mI, .agg [.u64 oR, .u64 pE], .b last, .b node]) w (fun e w' => e = .returned (SV.val (.agg [.ar dt r])) ∧ Cx F O w w' []) := by
 unfold oh at hm
 subst qK
 refine calls [.agg [.ar dt h], sl mq b.length mI, .agg [.u64 oR, .u64 pE], .b last, .b node] Tryz.func135 rfl (of_decide_eq_true (by kernel_rfl)) ?_
 refine ab <| an <| ag <| gF [] 5 (.agg [.ar dt h]) [.ar dt h] (by kernel_rfl) k ?_
 intro g w_ k_
 refine ag <| gF [] 7 (.agg [.u64 oR, .u64 pE]) [.u64 oR, .u64 pE] (by kernel_rfl) k_ ?_
 intro g1 k4 db
 refine ag <| bT [] 10 [.ar dt (ae.rep 8 (0 : UInt32))] (by kernel_rfl) db ?_
 intro g2 l6 dE
 refine af <| aa <| ab <| an <| ba 1 [] (.n 14 (sl mq b.length mI) (.uk (.oQ .a))) qe (by kernel_rfl) ?_
 refine ag ?_
 obtain ⟨r_, cQ, hm⟩ := ob hm
 refine au [] 15 _ HG (by kernel_rfl) (Ck (F := N0) (O := N0) _ _ _ _ (Ro.n0 (qH.cx dE)) rfl rO (Cx.refl _) _ cQ) ?_
 rintro e_ qj ⟨rfl, dU⟩
 have eY := dE.call dU
 refine ⟨.gD [.agg [.ar dt r_.1], I r_.2], rfl, ?_⟩
 refine ba 3 [] (.n 16 (.agg [.ar dt r_.1]) (.n 17 (I r_.2) (.ss .a))) qe (by kernel_rfl) ?_
 refine ag ?_
 have fU := eY.de (.kk (.k .e))
 refine bT [] 11 [.ar dt (ae.rep 16 (0 : UInt32))] (by kernel_rfl) fU ?_
 intro g3 qk g_
 refine ag <| en [] 3 (.agg [.ar dt r_.1]) [.ar dt r_.1] (Pt.at g3 0) g_ rfl .all (by kernel_rfl) (by kernel_rfl) ?_
 intro rX gC
 refine ba 1 [] (.k (.ss .a)) qe (by kernel_rfl) ?_
 refine af <| aa <| ab <| an <| ba 6 [] (.n 18 (.agg [.ar dt h]) (.n 19 (.agg [.ar dt r_.1]) (.n 21 (.u64 oR) (.n 22 (.b last) (.n 23 (.b node) (.s (.k .z))))))) (qT gC 0 rfl 0 8 [.ar dt h] (by kernel_rfl) (by decide) <| qT gC 3 rfl 0 16 [.ar dt r_.1] (by kernel_rfl) (by decide) <| qs g1 0 <| qB gC 1 rfl 0 (.u64 oR) (by kernel_rfl) <| qe) (by kernel_rfl) ?_
 refine ag ?_
 obtain ⟨ah, dd, hm⟩ := ob hm
 refine au [] 24 _ HH (by kernel_rfl) (H0 (F := N0) (O := N0) _ _ _ _ _ (Cx.refl _) _ dd) ?_
 rintro e_ wQ ⟨rfl, gP⟩
 have gB := gC.call gP
 refine ⟨.agg [.ar dt ah], rfl, ?_⟩
 have dO := gB.de (.ss (.k .z))
 refine ag <| en [] 0 (.agg [.ar dt ah]) [.ar dt ah] (Pt.at g2 0) dO rfl .all (by kernel_rfl) (by kernel_rfl) ?_
 intro wR cV
 refine af <| aa <| aQ ?_
 obtain rfl := Option.some.inj hm
 refine aR [.agg [.ar dt ah]] (qo (.agg [.ar dt ah]) <| qc (fun w => Rd w (some ⟨g2, 0, none⟩) (SV.cl [.ar dt ah])) (cV.uz 0 rfl) <| qe) (by kernel_rfl) ?_
 have ff := cV.de .z
 exact ⟨rfl, ff⟩
end Go.Sx
