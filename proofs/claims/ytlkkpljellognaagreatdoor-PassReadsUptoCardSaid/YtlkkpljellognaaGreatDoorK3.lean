import Derived.Test.YtlkkpljellognaaGreatDoorProg
import Derived.Test.YtlkkpljellognaaGreatDoorK2
namespace Go.Sx
open Go.RowKit Go.Proofs
set_option linter.unusedVariables false
set_option linter.unusedSimpArgs false
set_option maxRecDepth 20000
theorem KD : eu Tryz.prog 4 := ⟨⟨Tryz.f4, _, Tryz.func4, rfl, by kernel_rfl⟩⟩
theorem FQ : eu Tryz.prog 5 := ⟨⟨Tryz.f5, _, Tryz.func5, rfl, by kernel_rfl⟩⟩
theorem yN : eu Tryz.prog 6 := ⟨⟨Tryz.f6, _, Tryz.func6, rfl, by kernel_rfl⟩⟩
theorem KE : eu Tryz.prog 7 := ⟨⟨Tryz.f7, _, Tryz.func7, rfl, by kernel_rfl⟩⟩
theorem FT : eu Tryz.prog 8 := ⟨⟨Tryz.f8, _, Tryz.func8, rfl, by kernel_rfl⟩⟩
theorem KF : eu Tryz.prog 9 := ⟨⟨Tryz.f9, _, Tryz.func9, rfl, by kernel_rfl⟩⟩
theorem Ik : eu Tryz.prog 10 := ⟨⟨Tryz.f10, _, Tryz.func10, rfl, by kernel_rfl⟩⟩
theorem Cc : eu Tryz.prog 11 := ⟨⟨Tryz.f11, _, Tryz.func11, rfl, by kernel_rfl⟩⟩
theorem Ce : eu Tryz.prog 12 := ⟨⟨Tryz.f12, _, Tryz.func12, rfl, by kernel_rfl⟩⟩
theorem Il : eu Tryz.prog 13 := ⟨⟨Tryz.f13, _, Tryz.func13, rfl, by kernel_rfl⟩⟩
theorem Cf : eu Tryz.prog 14 := ⟨⟨Tryz.f14, _, Tryz.func14, rfl, by kernel_rfl⟩⟩
theorem Io : eu Tryz.prog 15 := ⟨⟨Tryz.f15, _, Tryz.func15, rfl, by kernel_rfl⟩⟩
theorem Ci : eu Tryz.prog 16 := ⟨⟨Tryz.f16, _, Tryz.func16, rfl, by kernel_rfl⟩⟩
theorem Ip : eu Tryz.prog 17 := ⟨⟨Tryz.f17, _, Tryz.func17, rfl, by kernel_rfl⟩⟩
theorem Iq : eu Tryz.prog 18 := ⟨⟨Tryz.f18, _, Tryz.func18, rfl, by kernel_rfl⟩⟩
theorem Ir : eu Tryz.prog 19 := ⟨⟨Tryz.f19, _, Tryz.func19, rfl, by kernel_rfl⟩⟩
theorem Iu : eu Tryz.prog 20 := ⟨⟨Tryz.f20, _, Tryz.func20, rfl, by kernel_rfl⟩⟩
theorem Iw : eu Tryz.prog 21 := ⟨⟨Tryz.f21, _, Tryz.func21, rfl, by kernel_rfl⟩⟩
theorem Cj : eu Tryz.prog 22 := ⟨⟨Tryz.f22, _, Tryz.func22, rfl, by kernel_rfl⟩⟩
theorem Iy : eu Tryz.prog 23 := ⟨⟨Tryz.f23, _, Tryz.func23, rfl, by kernel_rfl⟩⟩
theorem Iz : eu Tryz.prog 24 := ⟨⟨Tryz.f24, _, Tryz.func24, rfl, by kernel_rfl⟩⟩
theorem IA : eu Tryz.prog 25 := ⟨⟨Tryz.f25, _, Tryz.func25, rfl, by kernel_rfl⟩⟩
theorem sD : eu Tryz.prog 26 := ⟨⟨Tryz.f26, _, Tryz.func26, rfl, by kernel_rfl⟩⟩
theorem Cm : eu Tryz.prog 27 := ⟨⟨Tryz.f27, _, Tryz.func27, rfl, by kernel_rfl⟩⟩
theorem IB : eu Tryz.prog 28 := ⟨⟨Tryz.f28, _, Tryz.func28, rfl, by kernel_rfl⟩⟩
theorem CB : eu Tryz.prog 29 := ⟨⟨Tryz.f29, _, Tryz.func29, rfl, by kernel_rfl⟩⟩
theorem IC : eu Tryz.prog 30 := ⟨⟨Tryz.f30, _, Tryz.func30, rfl, by kernel_rfl⟩⟩
theorem lg : eu Tryz.prog 31 := ⟨⟨Tryz.f31, _, Tryz.func31, rfl, by kernel_rfl⟩⟩
theorem yO : eu Tryz.prog 32 := ⟨⟨Tryz.f32, _, Tryz.func32, rfl, by kernel_rfl⟩⟩
theorem yP : eu Tryz.prog 33 := ⟨⟨Tryz.f33, _, Tryz.func33, rfl, by kernel_rfl⟩⟩
theorem CE : eu Tryz.prog 34 := ⟨⟨Tryz.f34, _, Tryz.func34, rfl, by kernel_rfl⟩⟩
theorem CG : eu Tryz.prog 35 := ⟨⟨Tryz.f35, _, Tryz.func35, rfl, by kernel_rfl⟩⟩
theorem IE : eu Tryz.prog 36 := ⟨⟨Tryz.f36, _, Tryz.func36, rfl, by kernel_rfl⟩⟩
theorem IG : eu Tryz.prog 40 := ⟨⟨Tryz.f40, _, Tryz.func40, rfl, by kernel_rfl⟩⟩
theorem II : eu Tryz.prog 41 := ⟨⟨Tryz.f41, _, Tryz.func41, rfl, by kernel_rfl⟩⟩
theorem IJ : eu Tryz.prog 42 := ⟨⟨Tryz.f42, _, Tryz.func42, rfl, by kernel_rfl⟩⟩
theorem CJ : eu Tryz.prog 43 := ⟨⟨Tryz.f43, _, Tryz.func43, rfl, by kernel_rfl⟩⟩
theorem IK : eu Tryz.prog 44 := ⟨⟨Tryz.f44, _, Tryz.func44, rfl, by kernel_rfl⟩⟩
theorem IL : eu Tryz.prog 45 := ⟨⟨Tryz.f45, _, Tryz.func45, rfl, by kernel_rfl⟩⟩
theorem yQ : eu Tryz.prog 46 := ⟨⟨Tryz.f46, _, Tryz.func46, rfl, by kernel_rfl⟩⟩
theorem uQ : eu Tryz.prog 47 := ⟨⟨Tryz.f47, _, Tryz.func47, rfl, by kernel_rfl⟩⟩
theorem nV : eu Tryz.prog 48 := ⟨⟨Tryz.f48, _, Tryz.func48, rfl, by kernel_rfl⟩⟩
theorem IM : eu Tryz.prog 49 := ⟨⟨Tryz.f49, _, Tryz.func49, rfl, by kernel_rfl⟩⟩
theorem CO : eu Tryz.prog 50 := ⟨⟨Tryz.f50, _, Tryz.func50, rfl, by kernel_rfl⟩⟩
theorem CP : eu Tryz.prog 51 := ⟨⟨Tryz.f51, _, Tryz.func51, rfl, by kernel_rfl⟩⟩
theorem yR : eu Tryz.prog 52 := ⟨⟨Tryz.f52, _, Tryz.func52, rfl, by kernel_rfl⟩⟩
theorem IP : eu Tryz.prog 53 := ⟨⟨Tryz.f53, _, Tryz.func53, rfl, by kernel_rfl⟩⟩
theorem IQ : eu Tryz.prog 54 := ⟨⟨Tryz.f54, _, Tryz.func54, rfl, by kernel_rfl⟩⟩
theorem IU : eu Tryz.prog 55 := ⟨⟨Tryz.f55, _, Tryz.func55, rfl, by kernel_rfl⟩⟩
theorem IV : eu Tryz.prog 70 := ⟨⟨Tryz.f70, _, Tryz.func70, rfl, by kernel_rfl⟩⟩
theorem IW : eu Tryz.prog 71 := ⟨⟨Tryz.f71, _, Tryz.func71, rfl, by kernel_rfl⟩⟩
theorem IX : eu Tryz.prog 77 := ⟨⟨Tryz.f77, _, Tryz.func77, rfl, by kernel_rfl⟩⟩
theorem yS : eu Tryz.prog 78 := ⟨⟨Tryz.f78, _, Tryz.func78, rfl, by kernel_rfl⟩⟩
open Go.Shelf in
def wu : Go.Shelf.Ren := ⟨fun | 190 => 18 | 125 => 38 | 258 => 37 | 128 => 65 | 129 => 66 | 302 => 56 | 303 => 57 | 304 => 58 | 305 => 59 | 306 => 60 | 307 => 61 | 308 => 62 | 309 => 63 | 310 => 64 | 333 => 79 | 329 => 80 | 330 => 81 | 334 => 82 | 335 => 83 | 336 => 84 | 344 => 95 | n => n, fun | 31 => 34 | 9 => 9 | 3 => 3 | 46 => 95 | 0 => 0 | 51 => 111 | 53 => 24 | 4 => 4 | 183 => 116 | 182 => 115 | 131 => 120 | 5 => 5 | 218 => 132 | 222 => 135 | 228 => 147 | 229 => 148 | n => n, fun | n => n⟩
open Go.Shelf in
theorem Bc : Go.Proofs.Lays.n190 Tryz.prog wu := {
  mixed := by kernel_rfl
  f125 := Tryz.func38.trans (congrArg some (by kernel_rfl))
  f128 := Tryz.func65.trans (congrArg some (by kernel_rfl))
  f129 := Tryz.func66.trans (congrArg some (by kernel_rfl))
  f190 := Tryz.func18.trans (congrArg some (by kernel_rfl))
  f258 := Tryz.func37.trans (congrArg some (by kernel_rfl))
  f302 := Tryz.func56.trans (congrArg some (by kernel_rfl))
  f303 := Tryz.func57.trans (congrArg some (by kernel_rfl))
  f304 := Tryz.func58.trans (congrArg some (by kernel_rfl))
  f305 := Tryz.func59.trans (congrArg some (by kernel_rfl))
  f306 := Tryz.func60.trans (congrArg some (by kernel_rfl))
  f307 := Tryz.func61.trans (congrArg some (by kernel_rfl))
  f308 := Tryz.func62.trans (congrArg some (by kernel_rfl))
  f309 := Tryz.func63.trans (congrArg some (by kernel_rfl))
  f310 := Tryz.func64.trans (congrArg some (by kernel_rfl))
  f329 := Tryz.func80.trans (congrArg some (by kernel_rfl))
  f330 := Tryz.func81.trans (congrArg some (by kernel_rfl))
  f333 := Tryz.func79.trans (congrArg some (by kernel_rfl))
  f334 := Tryz.func82.trans (congrArg some (by kernel_rfl))
  f335 := Tryz.func83.trans (congrArg some (by kernel_rfl))
  f336 := Tryz.func84.trans (congrArg some (by kernel_rfl))
  f344 := Tryz.func95.trans (congrArg some (by kernel_rfl))
  t0 := Tryz.underlying0
  a0 := Tryz.isAgg0
  z0 := Tryz.sizeOf0
  v0 := Tryz.zeroValue0
  t3 := Tryz.underlying3
  a3 := Tryz.isAgg3
  z3 := Tryz.sizeOf3
  v3 := Tryz.zeroValue3
  t4 := Tryz.underlying4
  a4 := Tryz.isAgg4
  z4 := Tryz.sizeOf4
  v4 := Tryz.zeroValue4
  t5 := Tryz.underlying5
  a5 := Tryz.isAgg5
  z5 := Tryz.sizeOf5
  v5 := Tryz.zeroValue5
  t9 := Tryz.underlying9
  a9 := Tryz.isAgg9
  z9 := Tryz.sizeOf9
  v9 := Tryz.zeroValue9
  t31 := Tryz.underlying34
  a31 := Tryz.isAgg34
  z31 := Tryz.sizeOf34
  v31 := Tryz.zeroValue34
  t46 := Tryz.underlying95
  a46 := Tryz.isAgg95
  z46 := Tryz.sizeOf95
  v46 := Tryz.zeroValue95
  t51 := Tryz.underlying111
  a51 := Tryz.isAgg111
  z51 := Tryz.sizeOf111
  v51 := Tryz.zeroValue111
  t53 := Tryz.underlying24
  a53 := Tryz.isAgg24
  z53 := Tryz.sizeOf24
  v53 := Tryz.zeroValue24
  t131 := Tryz.underlying120
  a131 := Tryz.isAgg120
  z131 := Tryz.sizeOf120
  v131 := Tryz.zeroValue120
  t182 := Tryz.underlying115
  a182 := Tryz.isAgg115
  z182 := Tryz.sizeOf115
  v182 := Tryz.zeroValue115
  t183 := Tryz.underlying116
  a183 := Tryz.isAgg116
  z183 := Tryz.sizeOf116
  v183 := Tryz.zeroValue116
  t218 := Tryz.underlying132
  a218 := Tryz.isAgg132
  z218 := Tryz.sizeOf132
  v218 := Tryz.zeroValue132
  t222 := Tryz.underlying135
  a222 := Tryz.isAgg135
  z222 := Tryz.sizeOf135
  v222 := Tryz.zeroValue135
  t228 := Tryz.underlying147
  a228 := Tryz.isAgg147
  z228 := Tryz.sizeOf147
  v228 := Tryz.zeroValue147
  t229 := Tryz.underlying148
  a229 := Tryz.isAgg148
  z229 := Tryz.sizeOf148
  v229 := Tryz.zeroValue148 }
theorem D7 {F O : Nat → Prop} {w0 w : World} {hs : List HP} {i : Nat} {A : Option Addr} {n c : Nat} {xs : List (List UInt8)} (k : Cx F O w0 w hs) (hi : hs[i]? = some (Ow eS A n c xs)) (hsz : n < 4611686018427387904) : Calls Tryz.prog 18 (vals [sl A n c]) w (fun e w' => e = .returned (SV.val (.fV [])) ∧ Cx F O w0 w' (hs.set i (Ow eS A n c (A7 xs)))) := Ku Bc k hi hsz
open Go.Shelf in
def wz : Go.Shelf.Ren := ⟨fun | 171 => 40 | 243 => 68 | 246 => 85 | 283 => 86 | 284 => 87 | 285 => 88 | 286 => 89 | 129 => 66 | 317 => 96 | 318 => 97 | 319 => 98 | 320 => 99 | 337 => 101 | 338 => 102 | n => n, fun | 3 => 3 | 9 => 9 | 2 => 2 | 4 => 4 | 171 => 138 | 0 => 0 | 53 => 24 | 37 => 60 | 5 => 5 | 173 => 140 | 212 => 151 | 51 => 111 | 20 => 20 | 213 => 152 | 46 => 95 | 232 => 158 | 233 => 159 | n => n, fun | 17 => 1 | 18 => 4 | 19 => 5 | n => n⟩
open Go.Shelf in
theorem Be : Go.Proofs.LaysM.n171 Tryz.prog wz := {
  mixed := by kernel_rfl
  f129 := Tryz.func66.trans (congrArg some (by kernel_rfl))
  f171 := Tryz.func40.trans (congrArg some (by kernel_rfl))
  f243 := Tryz.func68.trans (congrArg some (by kernel_rfl))
  f246 := Tryz.func85.trans (congrArg some (by kernel_rfl))
  f283 := Tryz.func86.trans (congrArg some (by kernel_rfl))
  f284 := Tryz.func87.trans (congrArg some (by kernel_rfl))
  f285 := Tryz.func88.trans (congrArg some (by kernel_rfl))
  f286 := Tryz.func89.trans (congrArg some (by kernel_rfl))
  f317 := Tryz.func96.trans (congrArg some (by kernel_rfl))
  f318 := Tryz.func97.trans (congrArg some (by kernel_rfl))
  f319 := Tryz.func98.trans (congrArg some (by kernel_rfl))
  f320 := Tryz.func99.trans (congrArg some (by kernel_rfl))
  f337 := Tryz.func101.trans (congrArg some (by kernel_rfl))
  f338 := Tryz.func102.trans (congrArg some (by kernel_rfl))
  t0 := Tryz.underlying0
  a0 := Tryz.isAgg0
  z0 := Tryz.sizeOf0
  v0 := Tryz.zeroValue0
  t2 := Tryz.underlying2
  a2 := Tryz.isAgg2
  z2 := Tryz.sizeOf2
  v2 := Tryz.zeroValue2
  t3 := Tryz.underlying3
  a3 := Tryz.isAgg3
  z3 := Tryz.sizeOf3
  v3 := Tryz.zeroValue3
  t4 := Tryz.underlying4
  a4 := Tryz.isAgg4
  z4 := Tryz.sizeOf4
  v4 := Tryz.zeroValue4
  t5 := Tryz.underlying5
  a5 := Tryz.isAgg5
  z5 := Tryz.sizeOf5
  v5 := Tryz.zeroValue5
  t9 := Tryz.underlying9
  a9 := Tryz.isAgg9
  z9 := Tryz.sizeOf9
  v9 := Tryz.zeroValue9
  t20 := Tryz.underlying20
  a20 := Tryz.isAgg20
  z20 := Tryz.sizeOf20
  v20 := Tryz.zeroValue20
  t37 := Tryz.underlying60
  a37 := Tryz.isAgg60
  z37 := Tryz.sizeOf60
  v37 := Tryz.zeroValue60
  t46 := Tryz.underlying95
  a46 := Tryz.isAgg95
  z46 := Tryz.sizeOf95
  v46 := Tryz.zeroValue95
  t51 := Tryz.underlying111
  a51 := Tryz.isAgg111
  z51 := Tryz.sizeOf111
  v51 := Tryz.zeroValue111
  t53 := Tryz.underlying24
  a53 := Tryz.isAgg24
  z53 := Tryz.sizeOf24
  v53 := Tryz.zeroValue24
  t171 := Tryz.underlying138
  a171 := Tryz.isAgg138
  z171 := Tryz.sizeOf138
  v171 := Tryz.zeroValue138
  t173 := Tryz.underlying140
  a173 := Tryz.isAgg140
  z173 := Tryz.sizeOf140
  v173 := Tryz.zeroValue140
  t212 := Tryz.underlying151
  a212 := Tryz.isAgg151
  z212 := Tryz.sizeOf151
  v212 := Tryz.zeroValue151
  t213 := Tryz.underlying152
  a213 := Tryz.isAgg152
  z213 := Tryz.sizeOf152
  t232 := Tryz.underlying158
  a232 := Tryz.isAgg158
  z232 := Tryz.sizeOf158
  v232 := Tryz.zeroValue158
  t233 := Tryz.underlying159
  a233 := Tryz.isAgg159
  z233 := Tryz.sizeOf159
  v233 := Tryz.zeroValue159
  g17 := by kernel_rfl
  g18 := by kernel_rfl
  g19 := by kernel_rfl
  i0 := by kernel_rfl
  i2 := by kernel_rfl
  i3 := by kernel_rfl
  i4 := by kernel_rfl
  i5 := by kernel_rfl
  i9 := by kernel_rfl
  i20 := by kernel_rfl
  i37 := by kernel_rfl
  i46 := by kernel_rfl
  i51 := by kernel_rfl
  i53 := by kernel_rfl
  i171 := by kernel_rfl
  i173 := by kernel_rfl
  i212 := by kernel_rfl
  i232 := by kernel_rfl
  i233 := by kernel_rfl
  m17 := by kernel_rfl
  m18 := by kernel_rfl
  m19 := by kernel_rfl }
theorem D8 {F O : Nat → Prop} {w0 w : World} {hs : List HP} (k : Cx F O w0 w hs) {n : Int} (hn : -9223372036854775808 ≤ n ∧ n ≤ 9223372036854775807) (hT : qm Tryz.prog F w0) : Calls Tryz.prog 40 (vals [I n]) w (fun e w' => e = .returned (SV.val (.s (Lib.itoa n))) ∧ Cx F O w0 w' hs) := Kv Be k hn (hT.cx k)
theorem IY : NH Tryz.prog 90 := ⟨⟨Tryz.f90, Tryz.func90, by kernel_rfl, by kernel_rfl, by kernel_rfl, by kernel_rfl⟩⟩
theorem sF : TF Tryz.prog 34 9 [.string ⟨⟨[]⟩⟩] 16 := ⟨by kernel_rfl, by kernel_rfl, by decide, by decide⟩
theorem CQ : TF Tryz.prog 52 57 [.string ⟨⟨[]⟩⟩, .int .i64 0, .int .u64 0, .string ⟨⟨[]⟩⟩] 48 := ⟨by kernel_rfl, by kernel_rfl, by decide, by decide⟩
theorem qf : TF Tryz.prog 60 5 [.int .u8 0] 1 := ⟨by kernel_rfl, by kernel_rfl, by decide, by decide⟩
theorem FU : TF Tryz.prog 125 128 [.int .i64 0, .int .i64 0, .int .i64 0] 24 := ⟨by kernel_rfl, by kernel_rfl, by decide, by decide⟩
theorem bu : Tryz.prog.follows .mixedOrders = true := by kernel_rfl
theorem wB {F O : Nat → Prop} {w : World} (ak : Int) (ag : Int) (ai : Int) (ah : Int) (aB : Int) (k : Cx F O w w []) (r : (List (Int × Int × Int))) (hm : kG ak ag ai ah aB = some r) :
    Calls Tryz.prog 70 (vals [.agg [I ak, I ag, I ai, I ah, I aB]]) w (fun e w' => ∃ A n c, r.length = n ∧ e = .returned (SV.val (sl A n c)) ∧ Cx F O w w' [Ow (eP eI (eP eI eI)) A n c r]) := by
 unfold kG at hm
 refine calls [.agg [I ak, I ag, I ai, I ah, I aB]] Tryz.func70 rfl (of_decide_eq_true (by kernel_rfl)) ?_
 refine af <| ay <| au <| ik [] 1 (.agg [I ak, I ag, I ai, I ah, I aB]) [I ak, I ag, I ai, I ah, I aB] (by kernel_rfl) k ?_
 intro g w_ k_
 refine aK 1 [] (.k .z) qe (by kernel_rfl) ?_
 refine aj <| ae <| af <| ay <| aK 15 [] (.n 5 (.agg [I ak, I 0, I 2]) (.n 8 (.agg [I ah, I 1, I 8]) (.n 11 (.agg [I ai, I 1, I 16]) (.n 14 (.agg [I aB, I 4, I 1024]) (.n 17 (.agg [I ag, I 8, I 4096]) .z))))) (qs g 0 <| qB k_ 0 rfl 0 (I ak) (by kernel_rfl) <| qs g 0 <| qB k_ 0 rfl 3 (I ah) (by kernel_rfl) <| qs g 0 <| qB k_ 0 rfl 2 (I ai) (by kernel_rfl) <| qs g 0 <| qB k_ 0 rfl 4 (I aB) (by kernel_rfl) <| qs g 0 <| qB k_ 0 rfl 1 (I ag) (by kernel_rfl) <| qe) (by kernel_rfl) ?_
 refine au <| xM FU (eP eI (eP eI eI)) [] 18 ([(ak, (0 : Int), (2 : Int)), (ah, (1 : Int), (8 : Int)), (ai, (1 : Int), (16 : Int)), (aB, (4 : Int), (1024 : Int)), (ag, (8 : Int), (4096 : Int))] : List (Int × Int × Int)) [(0, .agg [I ak, I 0, I 2]), (1, .agg [I ah, I 1, I 8]), (2, .agg [I ai, I 1, I 16]), (3, .agg [I aB, I 4, I 1024]), (4, .agg [I ag, I 8, I 4096])] [I ak, I 0, I 2, I ah, I 1, I 8, I ai, I 1, I 16, I aB, I 4, I 1024, I ag, I 8, I 4096] (by kernel_rfl) (by kernel_rfl) (by kernel_rfl) k_ ?_
 intro A0 qF fQ
 refine aK 1 [] (.n 2 (sl A0 5 5) .z) qe (by kernel_rfl) ?_
 refine aj <| ae <| aF ?_
 obtain rfl := Option.some.inj hm
 refine aG [sl A0 5 5] qe (by kernel_rfl) ?_
 have eX := fQ.dm (.s (.k .e))
 exact ⟨A0, 5, 5, eX.len 0 rfl, rfl, eX⟩
theorem zH {F O : Nat → Prop} {w : World} (ak : Int) (ag : Int) (ai : Int) (ah : Int) (aB : Int) (k : Cx F O w w []) (r : Bool) (hm : lh ak ag ai ah aB = some r) :
    Calls Tryz.prog 42 (vals [.agg [I ak, I ag, I ai, I ah, I aB]]) w (fun e w' => e = .returned (SV.val (.b r)) ∧ Cx F O w w' []) := by
 unfold lh at hm
 refine calls [.agg [I ak, I ag, I ai, I ah, I aB]] Tryz.func42 rfl (of_decide_eq_true (by kernel_rfl)) ?_
 refine af <| ay <| au <| ik [] 1 (.agg [I ak, I ag, I ai, I ah, I aB]) [I ak, I ag, I ai, I ah, I aB] (by kernel_rfl) k ?_
 intro g w_ k_
 refine aK 1 [] (.k .z) qe (by kernel_rfl) ?_
 refine aj <| ae <| af <| af <| ay <| aK 1 [] (.n 5 (.agg [I ak, I ag, I ai, I ah, I aB]) .a) (qT k_ 0 rfl 0 5 [I ak, I ag, I ai, I ah, I aB] (by kernel_rfl) (by decide) <| qe) (by kernel_rfl) ?_
 refine au ?_
 obtain ⟨r_, fC, hm⟩ := ob hm
 refine ax [] 6 _ IV (by kernel_rfl) (wB (F := N0) (O := N0) _ _ _ _ _ (Cx.refl _) _ fC) ?_
 rintro e_ qF ⟨A, _, c, rfl, rfl, fQ⟩
 have eX := k_.call fQ
 refine ⟨sl A r_.length c, rfl, ?_⟩
 refine aK 2 [] (.n 7 (I ((r_.length : Nat) : Int)) (.n 8 (I 0) (.k (.s .a)))) qe (by kernel_rfl) ?_
 refine aj <| ae <| aS <| mV (gq ag ah r_) (fun s L wr => ∃ (gm : Int), gm = s ∧ L = [(1, pt g 0), (6, sl A r_.length c), (7, I ((r_.length : Nat) : Int)), (8, I gm)] ∧ Cx F O w wr [Bx 23 g [I ak, I ag, I ai, I ah, I aB], Ow (eP eI (eP eI eI)) A r_.length c r_]) (0 : Int) r hm ⟨(0 : Int), rfl, rfl, eX⟩ (by kernel_rfl) ?_
 intro yT L_ uq y0 hrel hstep hr0
 obtain ⟨gm, rfl, rfl, gG⟩ := hrel
 have hm := hstep; simp only [gq] at hm
 clear hstep
 refine af <| aP [] (.n 9 (.b (decide (gm < ((r_.length : Nat) : Int)))) .a) qe (by kernel_rfl) ?_
 refine ae <| af <| aQ (gm < ((r_.length : Nat) : Int)) (by kernel_rfl) (fun hc => ?_) (fun hc => ?_)
 · rw [if_pos hc] at hm
   refine aH <| ae <| af <| aS <| af <| ay ?_
   obtain ⟨x_1, wC, hm⟩ := ob hm
   refine aK 2 [] (.n 11 (.agg [I x_1.1, I x_1.2.1, I x_1.2.2]) (.s .a)) (qJ (gG.rd 1 rfl) wC (gG.len 1 rfl) <| qR [I x_1.1, I x_1.2.1, I x_1.2.2] (Rd.els (k := 0) (m := 3) (gG.rd 1 rfl) wC (Pt.Hq A gm 3) rfl (by decide) (by decide)) <| qe) (by kernel_rfl) ?_
   refine au <| iH [] 4 [I 0, I 0, I 0] (by kernel_rfl) gG ?_
   intro g1 xU jV
   refine au <| dZ [] 2 (.agg [I x_1.1, I x_1.2.1, I x_1.2.2]) [I x_1.1, I x_1.2.1, I x_1.2.2] (Pt.at g1 0) jV rfl .all (by kernel_rfl) (by kernel_rfl) ?_
   intro Bf jG
   refine aj <| ae <| af <| aP [] (.n 23 (.b ((decide (x_1.1 < x_1.2.1)) || (decide (x_1.2.2 < x_1.1)))) (.ss .a)) (qs g1 0 <| qB jG 2 rfl 0 (I x_1.1) (by kernel_rfl) <| qs g1 0 <| qB jG 2 rfl 1 (I x_1.2.1) (by kernel_rfl) <| qp ((decide (x_1.1 < x_1.2.1)) = false → (some ⟨g1, 0, none⟩ : Option Addr).isSome = true) (fun hg0 => rfl) <| qo (I x_1.1) <| qc (fun w => (decide (x_1.1 < x_1.2.1)) = false → ∃ a, (some ⟨g1, 0, none⟩ : Option Addr) = some a ∧ w.cell? a = some (SV.val (I x_1.1))) (fun hg0 => jG.jY 2 rfl 0 (I x_1.1) (by kernel_rfl)) <| qp ((decide (x_1.1 < x_1.2.1)) = false → (some ⟨g1, 0, none⟩ : Option Addr).isSome = true) (fun hg0 => rfl) <| qo (I x_1.2.2) <| qc (fun w => (decide (x_1.1 < x_1.2.1)) = false → ∃ a, (some ⟨g1, 2, none⟩ : Option Addr) = some a ∧ w.cell? a = some (SV.val (I x_1.2.2))) (fun hg0 => jG.jY 2 rfl 2 (I x_1.2.2) (by kernel_rfl)) <| qe) (by kernel_rfl) ?_
   refine ae <| aN ((decide (x_1.1 < x_1.2.1)) || (decide (x_1.2.2 < x_1.1))) (by kernel_rfl) (fun hc1 => ?_) (fun hc1 => ?_)
   · rw [if_pos hc1] at hm
     refine af <| aP [] (.n 2 (.b false) .z) qe (by kernel_rfl) ?_
     refine ae <| aF (ed (aJ (aJ (ed (aJ ?_)))))
     have hm := aV hm hr0
     obtain rfl := Option.some.inj hm
     refine aG [.b false] qe (by kernel_rfl) ?_
     have mD := jG.dm .z
     exact ⟨rfl, mD⟩
   rw [if_neg (by rw [hc1]; decide)] at hm
   refine aH <| fO <| ae <| aP [] (.n 8 (I (aA (gm + 1))) (.s (.DF .z))) qe (by kernel_rfl) ?_
   have jA := jG.dm (.kk .z)
   exact jZ (aA (gm + 1)) (Option.some.inj hm).symm ⟨aA (gm + 1), rfl, rfl, jA⟩ (by kernel_rfl)
 rw [if_neg hc] at hm
 refine eU (bU (bU (iG ?_)))
 have hm := aV hm hr0
 refine ae <| af <| aP [] (.n 2 (.b (decide ((aA (8 * ah)) ≤ ag))) .z) (qs g 0 <| qB gG 0 rfl 1 (I ag) (by kernel_rfl) <| qs g 0 <| qB gG 0 rfl 3 (I ah) (by kernel_rfl) <| qe) (by kernel_rfl) ?_
 refine ae <| aF ?_
 obtain rfl := Option.some.inj hm
 refine aG [.b (decide ((aA (8 * ah)) ≤ ag))] qe (by kernel_rfl) ?_
 have lX := gG.dm .z
 exact ⟨rfl, lX⟩
theorem qG {F O : Nat → Prop} {w : World} (ak : Int) (ag : Int) (ai : Int) (ah : Int) (aB : Int) (iq : List UInt8) (rf : Option Addr) (rq : Nat) (ru : Nat) (KG : Ro F w rf (e8.all iq)) (yU : iq.length = rq) (IZ : rq ≤ ru) (k : Cx F O w w []) (r : Int) (hm : jl ak ag ai ah aB iq = some r) :
    Calls Tryz.prog 22 (vals [.agg [I ak, I ag, I ai, I ah, I aB], sl rf rq ru]) w (fun e w' => e = .returned (SV.val (I r)) ∧ Cx F O w w' []) := by
 unfold jl at hm
 subst yU
 refine calls [.agg [I ak, I ag, I ai, I ah, I aB], sl rf iq.length ru] Tryz.func22 rfl (of_decide_eq_true (by kernel_rfl)) ?_
 refine af <| ay <| au <| ik [] 2 (.agg [I ak, I ag, I ai, I ah, I aB]) [I ak, I ag, I ai, I ah, I aB] (by kernel_rfl) k ?_
 intro g w_ k_
 refine aK 1 [] (.k (.s .a)) qe (by kernel_rfl) ?_
 refine aj <| ae <| af <| aS <| af <| ay <| aK 1 [] (.n 6 (.agg [I ak, I ag, I ai, I ah, I aB]) (.s .a)) (qT k_ 0 rfl 0 5 [I ak, I ag, I ai, I ah, I aB] (by kernel_rfl) (by decide) <| qe) (by kernel_rfl) ?_
 refine au ?_
 obtain ⟨r_, fC, hm⟩ := ob hm
 refine ax [] 7 _ IJ (by kernel_rfl) (zH (F := N0) (O := N0) _ _ _ _ _ (Cx.refl _) _ fC) ?_
 rintro e_ qF ⟨rfl, fQ⟩
 have eX := k_.call fQ
 refine ⟨.b r_, rfl, ?_⟩
 have gG := eX.dm .z
 refine aK 2 [] (.n 5 (.b (!r_)) (.ss .a)) qe (by kernel_rfl) ?_
 refine aj <| ae <| aN (!r_) (by kernel_rfl) (fun hc => ?_) (fun hc => ?_)
 · rw [if_pos hc] at hm
   refine af <| aP [] (.n 4 (I 200) .z) qe (by kernel_rfl) ?_
   refine ae <| aF (ed (aJ ?_))
   obtain rfl := Option.some.inj hm
   refine aG [I 200] qe (by kernel_rfl) ?_
   exact ⟨rfl, gG⟩
 rw [if_neg (by rw [hc]; decide)] at hm
 refine af <| aP [] (.n 9 (.b ((decide (((iq.length : Nat) : Int) < 8)) || (decide (64 < ((iq.length : Nat) : Int))))) .z) qe (by kernel_rfl) ?_
 refine ae <| aN ((decide (((iq.length : Nat) : Int) < 8)) || (decide (64 < ((iq.length : Nat) : Int)))) (by kernel_rfl) (fun hc1 => ?_) (fun hc1 => ?_)
 · rw [if_pos hc1] at hm
   refine af <| aP [] (.n 4 (I 201) .z) qe (by kernel_rfl) ?_
   refine ae <| aF (ed (aJ ?_))
   obtain rfl := Option.some.inj hm
   refine aG [I 201] qe (by kernel_rfl) ?_
   exact ⟨rfl, gG⟩
 rw [if_neg (by rw [hc1]; decide)] at hm
 refine aH <| fO <| ae <| af <| aP [] (.n 4 (I 0) .z) qe (by kernel_rfl) ?_
 refine ae <| aF ?_
 obtain rfl := Option.some.inj hm
 refine aG [I 0] qe (by kernel_rfl) ?_
 exact ⟨rfl, gG⟩
theorem Bg {F O : Nat → Prop} {w : World} (ak : Int) (ag : Int) (ai : Int) (ah : Int) (aB : Int) (most : Int) (hold : UInt64) (k : Cx F O w w []) (r : Int ⊕ (Int × Int × Int × Int × Int × Int × UInt64 × (Mp (List UInt8 × Int × UInt64)))) (hm : lU ak ag ai ah aB most hold = some r) :
    Calls Tryz.prog 10 (vals [.agg [I ak, I ag, I ai, I ah, I aB], I most, .u64 hold]) w (fun e w' => match r with | .inl r0 => e = .returned (SV.val (.fV [.v (.pointer none), I r0])) ∧ Cx F O w w' [] | .inr r1 => ∃ g b, e = .returned (SV.val (.fV [pt g 0, I 0])) ∧ Cx F O w w' [Bx 50 g [I r1.1, I r1.2.1, I r1.2.2.1, I r1.2.2.2.1, I r1.2.2.2.2.1, I r1.2.2.2.2.2.1, .u64 r1.2.2.2.2.2.2.1, .v (.map (some b))], MS (vS (eP eS (eP eI e64)) (fZ lJ (fZ lI jP))) b r1.2.2.2.2.2.2.2]) := by
 unfold lU at hm
 refine calls [.agg [I ak, I ag, I ai, I ah, I aB], I most, .u64 hold] Tryz.func10 rfl (of_decide_eq_true (by kernel_rfl)) ?_
 refine af <| ay <| au <| ik [] 3 (.agg [I ak, I ag, I ai, I ah, I aB]) [I ak, I ag, I ai, I ah, I aB] (by kernel_rfl) k ?_
 intro g0 w_ k_
 refine aK 2 [] (.k (.s .a)) qe (by kernel_rfl) ?_
 refine aj <| ae <| af <| af ?_
 have fQ := k_.drew 1
 refine B_ bu (.q 0 1 (.op 1 (.op 2 (.q 3 2 .nil)))) [1, 2] fQ (.c (.k .e) (.c (.k .e) .l)) (by kernel_rfl) (fun _ => ?_)
 refine jT 1 1 [] (.n 9 (.agg [I ak, I ag, I ai, I ah, I aB]) .a) (fun x hx => qT hx 0 rfl 0 5 [I ak, I ag, I ai, I ah, I aB] (by kernel_rfl) (by decide) <| qe) (by kernel_rfl) (fun _ => ?_)
 refine jX (by kernel_rfl) rfl <| yF qf e8 (0 : UInt8) rfl [] 10 (I 16) (I 16) (16 : Int) (16 : Int) (by kernel_rfl) (by omega) (by omega) (by omega) fQ ?_
 intro A qF eX
 refine ⟨(eX.dm (.k .z)), fun _ => ?_⟩
 refine jX (by kernel_rfl) rfl ?_
 obtain ⟨r_, fC, hm⟩ := ob hm
 refine ax [] 11 _ Cj (by kernel_rfl) (qG (F := N0) (O := N0) _ _ _ _ _ _ _ _ _ (Ro.n0 (eX.rd 1 rfl)) (eX.len 1 rfl) (eX.J7 1 rfl) (Cx.refl _) _ fC) ?_
 rintro e_ uq ⟨rfl, gG⟩
 have jV := eX.call gG
 refine ⟨I r_, rfl, ?_⟩
 have jG := jV.dm (.k .z)
 refine ⟨jG, fun _ => ?_⟩
 refine jT 1 2 [] (.n 8 (I r_) (.nG .a)) (fun x hx => qe) (by kernel_rfl) (fun _ => ?_)
 refine iU <| ae <| af <| aP [] (.n 13 (.b (decide (r_ ≠ 0))) .a) qe (by kernel_rfl) ?_
 refine ae <| aQ (r_ ≠ 0) (by kernel_rfl) (fun hc => ?_) (fun hc => ?_)
 · rw [if_pos hc] at hm
   refine af <| aP [] (.n 6 (.v (.pointer none)) (.n 7 (I r_) .z)) qe (by kernel_rfl) ?_
   refine ae <| aF (aJ ?_)
   obtain rfl := Option.some.inj hm
   refine aG [.v (.pointer none), I r_] qe (by kernel_rfl) ?_
   have mD := jG.dm .z
   exact ⟨rfl, mD⟩
 rw [if_neg hc] at hm
 refine aH <| ae <| af <| af <| aP [] (.n 20 (.b ((decide (most < 1)) || (decide (100 < most)))) (.ss .a)) qe (by kernel_rfl) ?_
 refine ae <| aN ((decide (most < 1)) || (decide (100 < most))) (by kernel_rfl) (fun hc1 => ?_) (fun hc1 => ?_)
 · rw [if_pos hc1] at hm
   refine af <| aP [] (.n 6 (.v (.pointer none)) (.n 7 (I 1) .z)) qe (by kernel_rfl) ?_
   refine ae <| aF (aJ ?_)
   obtain rfl := Option.some.inj hm
   refine aG [.v (.pointer none), I 1] qe (by kernel_rfl) ?_
   have jA := jG.dm .z
   exact ⟨rfl, jA⟩
 rw [if_neg (by rw [hc1]; decide)] at hm
 refine aH <| ae <| af <| ay <| aK 3 [] (.n 21 (.agg [I ak, I ag, I ai, I ah, I aB]) (.n 22 (I most) (.n 23 (.u64 hold) .z))) (qT jG 0 rfl 0 5 [I ak, I ag, I ai, I ah, I aB] (by kernel_rfl) (by decide) <| qe) (by kernel_rfl) ?_
 refine au <| Fg [] 24 (by kernel_rfl) jG ?_
 intro b0 xU lX
 have qH := lX.Kz (v := (vS (eP eS (eP eI e64)) (fZ lJ (fZ lI jP))))
 refine aK 1 [] (.n 25 (.agg [I ak, I ag, I ai, I ah, I aB, I most, .u64 hold, .v (.map (some b0))]) .z) qe (by kernel_rfl) ?_
 refine au ?_
 have jF := qH.dm (.kk .e)
 refine ik [] 26 (.agg [I ak, I ag, I ai, I ah, I aB, I most, .u64 hold, .v (.map (some b0))]) [I ak, I ag, I ai, I ah, I aB, I most, .u64 hold, .v (.map (some b0))] (by kernel_rfl) jF ?_
 intro g1 Bf ji
 refine aK 2 [] (.n 6 (pt g1 0) (.n 7 (I 0) .z)) qe (by kernel_rfl) ?_
 refine aj <| ae <| aF ?_
 obtain rfl := Option.some.inj hm
 refine aG [pt g1 0, I 0] qe (by kernel_rfl) ?_
 have jk := ((ji.pk .h).pk (.t (.t .h))).dm (.kk .z)
 exact ⟨g1, b0, rfl, jk⟩
theorem lY {F O : Nat → Prop} {w : World} (s_ : List UInt8) (k : Cx F O w w []) (r : (List UInt8 × List UInt8 × Bool)) (hm : dV s_ = some r) :
    Calls Tryz.prog 23 (vals [.s s_, .s ([10] : List UInt8)]) w (fun e w' => e = .returned (SV.val (.fV [.s r.1, .s r.2.1, .b r.2.2])) ∧ Cx F O w w' []) := by
 unfold dV at hm
 refine calls [.s s_, .s ([10] : List UInt8)] Tryz.func23 rfl (of_decide_eq_true (by kernel_rfl)) ?_
 refine af <| aP [] .a qe (by kernel_rfl) ?_
 refine ae <| af <| af <| ay <| aK 2 [] (.n 8 (.s s_) (.n 9 (.s ([10] : List UInt8)) .a)) qe (by kernel_rfl) ?_
 refine au <| ax [] 10 _ CJ (by kernel_rfl) (Jz k s_ 10) ?_
 rintro e_ w_ ⟨rfl, k_⟩
 refine ⟨I (Lib.indexByte s_ 10), rfl, ?_⟩
 refine aK 1 [] (.n 7 (I (Lib.indexByte s_ 10)) (.nG .a)) qe (by kernel_rfl) ?_
 refine aj <| ae <| af <| aP [] (.n 12 (.b (decide (0 ≤ (Lib.indexByte s_ 10)))) .a) qe (by kernel_rfl) ?_
 refine ae <| aQ (0 ≤ (Lib.indexByte s_ 10)) (by kernel_rfl) (fun hc => ?_) (fun hc => ?_)
 · rw [if_pos hc] at hm
   refine af ?_
   obtain ⟨kS, oC, hm⟩ := ob hm
   have hs := fE oC
   obtain ⟨xn, FV, hm⟩ := ob hm
   have hs1 := fE FV
   refine zh bu (by kernel_rfl) (.n 4 (.s kS) (.n 5 (.s xn) (.n 6 (.b true) .z))) (fun m => qp (0 ≤ Lib.indexByte s_ 10 ∧ Lib.indexByte s_ 10 ≤ ((s_.length : Nat) : Int)) (by omega) <| qo (.s kS) <| qp ((s_.take (Int.toNat (Lib.indexByte s_ 10))).drop 0 = kS) hs.2.2.2.symm <| qp (0 ≤ aA ((Lib.indexByte s_ 10) + (([10] : List UInt8).length : Int)) ∧ aA ((Lib.indexByte s_ 10) + (([10] : List UInt8).length : Int)) ≤ ((s_.length : Nat) : Int)) (by omega) <| qo (.s xn) <| qp ((s_.take s_.length).drop (Int.toNat (aA ((Lib.indexByte s_ 10) + (([10] : List UInt8).length : Int)))) = xn) hs1.2.2.2.symm <| qe) (by kernel_rfl) (fun m_ => ?_)
   have fQ := k_.drew m_
   refine ae <| aF (aJ ?_)
   obtain rfl := Option.some.inj hm
   refine aG [.s kS, .s xn, .b true] qe (by kernel_rfl) ?_
   exact ⟨rfl, fQ⟩
 rw [if_neg hc] at hm
 refine aH <| ae <| af <| aP [] (.n 4 (.s s_) (.n 5 (.s ([] : List UInt8)) (.n 6 (.b false) .z))) qe (by kernel_rfl) ?_
 refine ae <| aF ?_
 obtain rfl := Option.some.inj hm
 refine aG [.s s_, .s ([] : List UInt8), .b false] qe (by kernel_rfl) ?_
 exact ⟨rfl, k_⟩
theorem qI {F O : Nat → Prop} {w : World} (s_ : List UInt8) (k : Cx F O w w []) (r : (List UInt8 × List UInt8 × Bool)) (hm : jo s_ = some r) :
    Calls Tryz.prog 11 (vals [.s s_, .s ([10] : List UInt8)]) w (fun e w' => e = .returned (SV.val (.fV [.s r.1, .s r.2.1, .b r.2.2])) ∧ Cx F O w w' []) := by
 unfold jo at hm
 refine calls [.s s_, .s ([10] : List UInt8)] Tryz.func11 rfl (of_decide_eq_true (by kernel_rfl)) ?_
 refine af <| aP [] .a qe (by kernel_rfl) ?_
 refine ae <| af <| ay <| aK 2 [] (.n 7 (.s s_) (.n 8 (.s ([10] : List UInt8)) .z)) qe (by kernel_rfl) ?_
 refine au ?_
 obtain ⟨r_, fC, hm⟩ := ob hm
 refine ax [] 9 _ Iy (by kernel_rfl) (lY (F := N0) (O := N0) _ (Cx.refl _) _ fC) ?_
 rintro e_ w_ ⟨rfl, k_⟩
 have fQ := k.call k_
 refine ⟨.fV [.s r_.1, .s r_.2.1, .b r_.2.2], rfl, ?_⟩
 refine aK 6 [] (.n 4 (.s r_.1) (.n 5 (.s r_.2.1) (.n 6 (.b r_.2.2) .z))) qe (by kernel_rfl) ?_
 refine aj <| ae <| aF ?_
 obtain rfl := Option.some.inj hm
 refine aG [.s r_.1, .s r_.2.1, .b r_.2.2] qe (by kernel_rfl) ?_
 exact ⟨rfl, fQ⟩
theorem uK {F O : Nat → Prop} {w : World} (s_ : List UInt8) (k : Cx F O w w []) (r : Int) (hm : jg s_ = some r) :
    Calls Tryz.prog 77 (vals [.s s_, .s ([32] : List UInt8)]) w (fun e w' => e = .returned (SV.val (I r)) ∧ Cx F O w w' []) := by
 unfold jg at hm
 refine calls [.s s_, .s ([32] : List UInt8)] Tryz.func77 rfl (of_decide_eq_true (by kernel_rfl)) ?_
 refine af <| aP [] .a qe (by kernel_rfl) ?_
 refine ae <| af <| ay <| aK 2 [] (.n 5 (.s s_) (.n 6 (.s ([32] : List UInt8)) .z)) qe (by kernel_rfl) ?_
 refine au <| ax [] 7 _ CJ (by kernel_rfl) (Jz k s_ 32) ?_
 rintro e_ w_ ⟨rfl, k_⟩
 refine ⟨I (Lib.indexByte s_ 32), rfl, ?_⟩
 refine aK 1 [] (.n 4 (I (Lib.indexByte s_ 32)) .z) qe (by kernel_rfl) ?_
 refine aj <| ae <| aF ?_
 obtain rfl := Option.some.inj hm
 refine aG [I (Lib.indexByte s_ 32)] qe (by kernel_rfl) ?_
 exact ⟨rfl, k_⟩
theorem ry {F O : Nat → Prop} {w : World} (s_ : List UInt8) (k : Cx F O w w []) (r : (List (List UInt8))) (hm : jb s_ = some r) :
    Calls Tryz.prog 44 (vals [.s s_, .s ([32] : List UInt8), I 0, I 4]) w (fun e w' => ∃ A n c, r.length = n ∧ e = .returned (SV.val (sl A n c)) ∧ Cx F O w w' [Ow eS A n c r]) := by
 unfold jb at hm
 refine calls [.s s_, .s ([32] : List UInt8), I 0, I 4] Tryz.func44 rfl (of_decide_eq_true (by kernel_rfl)) ?_
 refine af <| aP [] .a qe (by kernel_rfl) ?_
 refine ae <| af <| af <| aP [] (.n 13 (.b false) .a) qe (by kernel_rfl) ?_
 refine ae <| aN false (by kernel_rfl) (fun h => by cases h) (fun _ => ?_)
 refine aH <| ae <| af <| af <| aP [] (.n 15 (.b false) (.s .a)) qe (by kernel_rfl) ?_
 refine ae <| aN false (by kernel_rfl) (fun h => by cases h) (fun _ => ?_)
 refine aH <| ae <| vM (fun L wr => gB s_  = some r ∧ L = [(0, .s s_), (1, .s ([32] : List UInt8)), (2, I 0), (3, I 4)] ∧ Cx F O w wr []) ?_ ?_
 ·
  refine af <| aP [] (.n 20 (.b false) (.s .a)) qe (by kernel_rfl) ?_
  refine ae <| aN false (by kernel_rfl) (fun h => by cases h) (fun _ => ?_)
  refine aH ?_
  exact mi ⟨hm, rfl, k⟩ (by kernel_rfl)
 rintro L_ w_ ⟨hm, rfl, k_⟩
 simp only [gB] at hm
 refine af <| aP [] (.n 3 (I (if aA ((s_.length : Int) + 1) < 4 then aA ((s_.length : Int) + 1) else 4)) (.DF .z)) qe (by kernel_rfl) ?_
 refine ae <| af <| ay <| aK 1 [] (.n 30 (I (if aA ((s_.length : Int) + 1) < 4 then aA ((s_.length : Int) + 1) else 4)) .a) qe (by kernel_rfl) ?_
 refine au ?_
 obtain ⟨u, CS, hm⟩ := ob hm
 refine yF sF eS ([] : List UInt8) rfl [] 31 (I (if aA ((s_.length : Int) + 1) < 4 then aA ((s_.length : Int) + 1) else 4)) (I (if aA ((s_.length : Int) + 1) < 4 then aA ((s_.length : Int) + 1) else 4)) (if aA ((s_.length : Int) + 1) < 4 then aA ((s_.length : Int) + 1) else 4) (if aA ((s_.length : Int) + 1) < 4 then aA ((s_.length : Int) + 1) else 4) (by kernel_rfl) (dK CS).1 (dK CS).2.1 (dK CS).2.2 k_ ?_
 intro A0 qF fQ
 refine aK 1 [] (.n 9 (sl A0 (Int.toNat (if aA ((s_.length : Int) + 1) < 4 then aA ((s_.length : Int) + 1) else 4)) (Int.toNat (if aA ((s_.length : Int) + 1) < 4 then aA ((s_.length : Int) + 1) else 4))) (.ss .a)) qe (by kernel_rfl) ?_
 refine aj <| ae <| af <| aP [] (.n 3 (I (aA ((if aA ((s_.length : Int) + 1) < 4 then aA ((s_.length : Int) + 1) else 4) - 1))) (.k (.s .a))) qe (by kernel_rfl) ?_
 refine ae <| af <| aP [] (.n 10 (I 0) .a) qe (by kernel_rfl) ?_
 refine ae <| vM (fun L wr => ∃ (kS : List UInt8) (a_ : List (List UInt8)) (i : Int), eG kS a_ i = some r ∧ L = [(0, .s kS), (9, sl A0 (Int.toNat (if aA ((s_.length : Int) + 1) < 4 then aA ((s_.length : Int) + 1) else 4)) (Int.toNat (if aA ((s_.length : Int) + 1) < 4 then aA ((s_.length : Int) + 1) else 4))), (10, I i)] ∧ Cx F O w wr [Ow eS A0 (Int.toNat (if aA ((s_.length : Int) + 1) < 4 then aA ((s_.length : Int) + 1) else 4)) (Int.toNat (if aA ((s_.length : Int) + 1) < 4 then aA ((s_.length : Int) + 1) else 4)) a_]) ?_ ?_
 ·
  refine EL (fun L wr => ∃ (xn : List UInt8) (Nq : List (List UInt8)) (i1 : Int), cO xn Nq i1 = some r ∧ L = [(0, .s xn), (9, sl A0 (Int.toNat (if aA ((s_.length : Int) + 1) < 4 then aA ((s_.length : Int) + 1) else 4)) (Int.toNat (if aA ((s_.length : Int) + 1) < 4 then aA ((s_.length : Int) + 1) else 4))), (10, I i1)] ∧ Cx F O w wr [Ow eS A0 (Int.toNat (if aA ((s_.length : Int) + 1) < 4 then aA ((s_.length : Int) + 1) else 4)) (Int.toNat (if aA ((s_.length : Int) + 1) < 4 then aA ((s_.length : Int) + 1) else 4)) Nq]) ?_ ?_
  ·
   refine mV (aY s_) (fun s L wr => ∃ (uo : List UInt8) (Eo : List (List UInt8)) (i2 : Int), (uo, Eo, i2) = s ∧ L = [(0, .s uo), (1, .s ([32] : List UInt8)), (2, I 0), (3, I (aA ((if aA ((s_.length : Int) + 1) < 4 then aA ((s_.length : Int) + 1) else 4) - 1))), (9, sl A0 (Int.toNat (if aA ((s_.length : Int) + 1) < 4 then aA ((s_.length : Int) + 1) else 4)) (Int.toNat (if aA ((s_.length : Int) + 1) < 4 then aA ((s_.length : Int) + 1) else 4))), (10, I i2)] ∧ Cx F O w wr [Ow eS A0 (Int.toNat (if aA ((s_.length : Int) + 1) < 4 then aA ((s_.length : Int) + 1) else 4)) (Int.toNat (if aA ((s_.length : Int) + 1) < 4 then aA ((s_.length : Int) + 1) else 4)) Eo]) (s_, List.replicate (Int.toNat (if aA ((s_.length : Int) + 1) < 4 then aA ((s_.length : Int) + 1) else 4)) ([] : List UInt8), (0 : Int)) r hm ⟨s_, List.replicate (Int.toNat (if aA ((s_.length : Int) + 1) < 4 then aA ((s_.length : Int) + 1) else 4)) ([] : List UInt8), (0 : Int), rfl, rfl, fQ⟩ (by kernel_rfl) ?_
   intro yT L_ uq y0 hrel hstep hr0
   obtain ⟨uo, Eo, i2, rfl, rfl, eX⟩ := hrel
   have hm := hstep; simp only [aY] at hm
   clear hstep
   refine af <| af <| aP [] (.n 36 (.b (decide (i2 < (aA ((if aA ((s_.length : Int) + 1) < 4 then aA ((s_.length : Int) + 1) else 4) - 1))))) .a) qe (by kernel_rfl) ?_
   refine ae <| aQ (i2 < (aA ((if aA ((s_.length : Int) + 1) < 4 then aA ((s_.length : Int) + 1) else 4) - 1))) (by kernel_rfl) (fun hc => ?_) (fun hc => ?_)
   · rw [if_pos hc] at hm
     refine aH <| ae <| aS <| af <| ay <| aK 2 [] (.n 37 (.s uo) (.n 38 (.s ([32] : List UInt8)) (.s .a))) qe (by kernel_rfl) ?_
     refine au ?_
     obtain ⟨r_, fC, hm⟩ := ob hm
     refine ax [] 39 _ IX (by kernel_rfl) (uK (F := N0) (O := N0) _ (Cx.refl _) _ fC) ?_
     rintro e_ xU ⟨rfl, gG⟩
     have jV := eX.call gG
     refine ⟨I r_, rfl, ?_⟩
     refine aK 1 [] (.n 11 (I r_) (.nG .a)) qe (by kernel_rfl) ?_
     refine aj <| ae <| af <| af <| aP [] (.n 41 (.b (decide (r_ < 0))) .a) qe (by kernel_rfl) ?_
     refine ae <| aQ (r_ < 0) (by kernel_rfl) (fun hc1 => ?_) (fun hc1 => ?_)
     · rw [if_pos hc1] at hm
       refine eU (bU (EM (by decide) (bU (iG ?_))))
       have hm := aV hm hr0
       exact mi ⟨uo, Eo, i2, hm, rfl, jV⟩ (by kernel_rfl)
     rw [if_neg hc1] at hm
     refine aH <| ae <| af <| ay ?_
     obtain ⟨Ej, NP, hm⟩ := ob hm
     have hs := fE NP
     obtain ⟨gm, nJ, hm⟩ := ob hm
     refine aK 8 [] (.n 48 (.s Ej) (.n 49 (.v (.pointer (zn A0 i2 1))) (.s .a))) (qp (0 ≤ aA (r_ + 0) ∧ aA (r_ + 0) ≤ ((uo.length : Nat) : Int)) (by omega) <| qo (.s Ej) <| qp ((uo.take (Int.toNat (aA (r_ + 0)))).drop 0 = Ej) hs.2.2.2.symm <| qJ (jV.rd 0 rfl) nJ (jV.len 0 rfl) <| qe) (by kernel_rfl) ?_
     refine au <| EY (E := eS) (kk := 0) (sv := .s Ej) (svs := [.s Ej]) [] 0 Ej (by kernel_rfl) (Pt.Hq A0 i2 1) jV rfl (bC nJ).2 (EX (E := eS) (jV.rd 0 rfl) (by decide) (rW nJ).1 (bC nJ).2) rfl (Nat.le_of_ble_eq_true (by kernel_rfl)) ?_
     intro Bf jG
     refine aj <| ae <| af ?_
     obtain ⟨H5, NQ, hm⟩ := ob hm
     have hs1 := fE NQ
     refine aP [] (.n 0 (.s H5) (.kF .a)) (qp (0 ≤ aA (r_ + (([32] : List UInt8).length : Int)) ∧ aA (r_ + (([32] : List UInt8).length : Int)) ≤ ((uo.length : Nat) : Int)) (by omega) <| qo (.s H5) <| qp ((uo.take uo.length).drop (Int.toNat (aA (r_ + (([32] : List UInt8).length : Int)))) = H5) hs1.2.2.2.symm <| qe) (by kernel_rfl) ?_
     refine ae <| aP [] (.n 10 (I (aA (i2 + 1))) (.kD (.k .z))) qe (by kernel_rfl) ?_
     refine fO ?_
     exact jZ (H5, Eo.set (Int.toNat i2) Ej, aA (i2 + 1)) (Option.some.inj hm).symm ⟨H5, Eo.set (Int.toNat i2) Ej, aA (i2 + 1), rfl, rfl, jG⟩ (by kernel_rfl)
   rw [if_neg hc] at hm
   refine eU (bU (bU (iG ?_)))
   have hm := aV hm hr0
   exact mi ⟨uo, Eo, i2, hm, rfl, eX⟩ (by kernel_rfl)
  rintro L_ D9 ⟨xn, Nq, i1, hm, rfl, mD⟩
  simp only [cO] at hm
  exact mi ⟨xn, Nq, i1, hm, rfl, mD⟩ (by kernel_rfl)
 rintro L_ Es ⟨kS, a_, i, hm, rfl, jA⟩
 simp only [eG] at hm
 refine af <| ay ?_
 obtain ⟨x_1, wC, hm⟩ := ob hm
 refine aK 4 [] (.n 60 (.s kS) (.n 61 (.v (.pointer (zn A0 i 1))) (.s .a))) (qJ (jA.rd 0 rfl) wC (jA.len 0 rfl) <| qe) (by kernel_rfl) ?_
 refine au <| EY (E := eS) (kk := 0) (sv := .s kS) (svs := [.s kS]) [] 0 kS (by kernel_rfl) (Pt.Hq A0 i 1) jA rfl (bC wC).2 (EX (E := eS) (jA.rd 0 rfl) (by decide) (rW wC).1 (bC wC).2) rfl (Nat.le_of_ble_eq_true (by kernel_rfl)) ?_
 intro G9 lX
 refine aj <| ae <| af ?_
 obtain ⟨b, Pj, hm⟩ := ob hm
 have hs2 := fE Pj
 have hl := BZ Pj
 have hn : (a_.set (Int.toNat i) kS).length = Int.toNat (if aA ((s_.length : Int) + 1) < 4 then aA ((s_.length : Int) + 1) else 4) := (lX.len 0 rfl)
 have hc2 : Int.toNat (if aA ((s_.length : Int) + 1) < 4 then aA ((s_.length : Int) + 1) else 4) ≤ Int.toNat (if aA ((s_.length : Int) + 1) < 4 then aA ((s_.length : Int) + 1) else 4) := (lX.J7 0 rfl)
 have hc3 : b.length ≤ Int.toNat (if aA ((s_.length : Int) + 1) < 4 then aA ((s_.length : Int) + 1) else 4) := by omega
 refine aP [] (.n 8 (sl A0 b.length (Int.toNat (if aA ((s_.length : Int) + 1) < 4 then aA ((s_.length : Int) + 1) else 4))) .z) (qp (0 ≤ aA (i + 1) ∧ aA (i + 1) ≤ ((Int.toNat (if aA ((s_.length : Int) + 1) < 4 then aA ((s_.length : Int) + 1) else 4) : Nat) : Int)) (by omega) <| qo (.v (.slice A0 b.length (Int.toNat (if aA ((s_.length : Int) + 1) < 4 then aA ((s_.length : Int) + 1) else 4)))) <| qp (Value.slice (JY A0 0 (Int.toNat (if aA ((s_.length : Int) + 1) < 4 then aA ((s_.length : Int) + 1) else 4)) 1) (Int.toNat (aA (i + 1)) - 0) (Int.toNat (if aA ((s_.length : Int) + 1) < 4 then aA ((s_.length : Int) + 1) else 4) - 0) = .slice A0 b.length (Int.toNat (if aA ((s_.length : Int) + 1) < 4 then aA ((s_.length : Int) + 1) else 4))) (O0 _ _ _ _ _ (by omega)) <| qe) (by kernel_rfl) ?_
 refine ae <| aF ?_
 have qH := lX.pre 0 rfl b.length (Int.toNat (if aA ((s_.length : Int) + 1) < 4 then aA ((s_.length : Int) + 1) else 4)) b (by omega) (by omega) (by omega) (Hr Pj rfl)
 obtain rfl := Option.some.inj hm
 refine aG [sl A0 b.length (Int.toNat (if aA ((s_.length : Int) + 1) < 4 then aA ((s_.length : Int) + 1) else 4))] qe (by kernel_rfl) ?_
 exact ⟨A0, b.length, Int.toNat (if aA ((s_.length : Int) + 1) < 4 then aA ((s_.length : Int) + 1) else 4), qH.len 0 rfl, rfl, qH⟩
theorem tK {F O : Nat → Prop} {w : World} (s_ : List UInt8) (k : Cx F O w w []) (r : (List (List UInt8))) (hm : iJ s_ = some r) :
    Calls Tryz.prog 24 (vals [.s s_, .s ([32] : List UInt8), I 4]) w (fun e w' => ∃ A n c, r.length = n ∧ e = .returned (SV.val (sl A n c)) ∧ Cx F O w w' [Ow eS A n c r]) := by
 unfold iJ at hm
 refine calls [.s s_, .s ([32] : List UInt8), I 4] Tryz.func24 rfl (of_decide_eq_true (by kernel_rfl)) ?_
 refine af <| aP [] .a qe (by kernel_rfl) ?_
 refine ae <| af <| ay <| aK 3 [] (.n 7 (.s s_) (.n 8 (.s ([32] : List UInt8)) (.n 9 (I 4) .z))) qe (by kernel_rfl) ?_
 refine au ?_
 obtain ⟨r_, fC, hm⟩ := ob hm
 refine ax [] 10 _ IK (by kernel_rfl) (ry (F := N0) (O := N0) _ (Cx.refl _) _ fC) ?_
 rintro e_ w_ ⟨A0, _, c0, rfl, rfl, k_⟩
 have fQ := k.call k_
 refine ⟨sl A0 r_.length c0, rfl, ?_⟩
 refine aK 1 [] (.n 6 (sl A0 r_.length c0) .z) qe (by kernel_rfl) ?_
 refine aj <| ae <| aF ?_
 obtain rfl := Option.some.inj hm
 refine aG [sl A0 r_.length c0] qe (by kernel_rfl) ?_
 exact ⟨A0, r_.length, c0, fQ.len 0 rfl, rfl, fQ⟩
theorem yV {F O : Nat → Prop} {w : World} (s_ : List UInt8) (k : Cx F O w w []) (r : Bool) (hm : jL s_ = some r) :
    Calls Tryz.prog 25 (vals [.s s_]) w (fun e w' => e = .returned (SV.val (.b r)) ∧ Cx F O w w' []) := by
 unfold jL at hm
 refine calls [.s s_] Tryz.func25 rfl (of_decide_eq_true (by kernel_rfl)) ?_
 refine af <| aP [] .a qe (by kernel_rfl) ?_
 refine ae <| af <| af <| aP [] (.n 12 (.b ((decide ((s_.length : Int) < 1)) || (decide (32 < (s_.length : Int))))) .a) qe (by kernel_rfl) ?_
 refine ae <| aN ((decide ((s_.length : Int) < 1)) || (decide (32 < (s_.length : Int)))) (by kernel_rfl) (fun hc => ?_) (fun hc => ?_)
 · rw [if_pos hc] at hm
   refine af <| aP [] (.n 2 (.b false) .z) qe (by kernel_rfl) ?_
   refine ae <| aF (aJ ?_)
   obtain rfl := Option.some.inj hm
   refine aG [.b false] qe (by kernel_rfl) ?_
   exact ⟨rfl, k⟩
 rw [if_neg (by rw [hc]; decide)] at hm
 refine aH <| ae <| af <| af <| aP [] (.n 14 (I (s_.length : Int)) (.n 15 (I 0) (.s .a))) qe (by kernel_rfl) ?_
 refine ae <| aS <| mV (di s_) (fun s L wr => ∃ (gm : Int), gm = s ∧ L = [(0, .s s_), (14, I (s_.length : Int)), (15, I gm)] ∧ Cx F O w wr []) (0 : Int) r hm ⟨(0 : Int), rfl, rfl, k⟩ (by kernel_rfl) ?_
 intro yT L_ w_ y0 hrel hstep hr0
 obtain ⟨gm, rfl, rfl, k_⟩ := hrel
 have hm := hstep; simp only [di] at hm
 clear hstep
 refine af <| aP [] (.n 16 (.b (decide (gm < (s_.length : Int)))) .a) qe (by kernel_rfl) ?_
 refine ae <| af <| aQ (gm < (s_.length : Int)) (by kernel_rfl) (fun hc1 => ?_) (fun hc1 => ?_)
 · rw [if_pos hc1] at hm
   refine aH <| ae <| af <| aS <| af <| aP [] (.n 3 (I gm) (.s .a)) qe (by kernel_rfl) ?_
   refine ae <| af ?_
   obtain ⟨c, h_c, hm⟩ := ob hm
   refine aP [] (.n 4 (.u8 c) (.s .a)) (qX h_c <| qe) (by kernel_rfl) ?_
   refine ae <| af <| aP [] (.n 47 (.b (!((((((decide ((97 : UInt8) ≤ c)) && (decide (c ≤ 122))) || ((decide ((48 : UInt8) ≤ c)) && (decide (c ≤ 57)))) || (decide (c = 95))) || (decide (c = 46))) || (decide (c = 45))))) (.s .a)) qe (by kernel_rfl) ?_
   refine ae <| aN (!((((((decide ((97 : UInt8) ≤ c)) && (decide (c ≤ 122))) || ((decide ((48 : UInt8) ≤ c)) && (decide (c ≤ 57)))) || (decide (c = 95))) || (decide (c = 46))) || (decide (c = 45)))) (by kernel_rfl) (fun hc2 => ?_) (fun hc2 => ?_)
   · rw [if_pos hc2] at hm
     refine af <| aP [] (.n 2 (.b false) .z) qe (by kernel_rfl) ?_
     refine ae <| aF (ed (aJ (aJ (ed (aJ ?_)))))
     have hm := aV hm hr0
     obtain rfl := Option.some.inj hm
     refine aG [.b false] qe (by kernel_rfl) ?_
     exact ⟨rfl, k_⟩
   rw [if_neg (by rw [hc2]; decide)] at hm
   refine aH <| fO <| ae <| aP [] (.n 15 (I (aA (gm + 1))) (.s (.kk .z))) qe (by kernel_rfl) ?_
   exact jZ (aA (gm + 1)) (Option.some.inj hm).symm ⟨aA (gm + 1), rfl, rfl, k_⟩ (by kernel_rfl)
 rw [if_neg hc1] at hm
 refine eU (bU (bU (iG ?_)))
 have hm := aV hm hr0
 refine ae <| af <| aP [] (.n 2 (.b true) .z) qe (by kernel_rfl) ?_
 refine ae <| aF ?_
 obtain rfl := Option.some.inj hm
 refine aG [.b true] qe (by kernel_rfl) ?_
 exact ⟨rfl, k_⟩
theorem g_ {F O : Nat → Prop} {w : World} (dH : List UInt8) (eY : Int) (gu : Bool) (dh : Nat) (k : Cx F O w w [Bx 78 dh [.s dH, I eY, .b gu]]) (r : (UInt64 × List UInt8 × Int × Bool)) (hm : df dH eY gu = some r) :
    Calls Tryz.prog 26 (vals [pt dh 0]) w (fun e w' => e = .returned (SV.val (.u64 r.1)) ∧ Cx F O w w' [Bx 78 dh [.s r.2.1, I r.2.2.1, .b r.2.2.2]]) := by
 unfold df at hm
 refine calls [pt dh 0] Tryz.func26 rfl (of_decide_eq_true (by kernel_rfl)) ?_
 refine af <| aP [] .a qe (by kernel_rfl) ?_
 refine ae <| af <| aP [] (.n 3 (.u64 0) .a) qe (by kernel_rfl) ?_
 refine ae <| af <| af <| aP [] (.n 10 (.b (!gu)) .a) (qs dh 0 <| qs dh 0 <| qB k 0 rfl 2 (.b gu) (by kernel_rfl) <| qe) (by kernel_rfl) ?_
 refine ae <| aN (!gu) (by kernel_rfl) (fun hc => ?_) (fun hc => ?_)
 · rw [if_pos hc] at hm
   refine af <| aP [] (.n 2 (.u64 0) .z) qe (by kernel_rfl) ?_
   refine ae <| aF (aJ ?_)
   obtain rfl := Option.some.inj hm
   refine aG [.u64 0] qe (by kernel_rfl) ?_
   exact ⟨rfl, k⟩
 rw [if_neg (by rw [hc]; decide)] at hm
 refine aH <| ae <| af <| aP [] (.n 4 (I eY) (.s .a)) (qs dh 0 <| qs dh 0 <| qB k 0 rfl 1 (I eY) (by kernel_rfl) <| qe) (by kernel_rfl) ?_
 refine ae <| af <| aS <| mV (bH dH eY) (fun s L wr => ∃ (p : Int) (v : UInt64), (p, v) = s ∧ L = [(0, pt dh 0), (3, .u64 v), (4, I eY)] ∧ Cx F O w wr [Bx 78 dh [.s dH, I p, .b gu]]) (eY, (0 : UInt64)) r hm ⟨eY, (0 : UInt64), rfl, rfl, k⟩ (by kernel_rfl) ?_
 intro yT L_ w_ y0 hrel hstep hr0
 obtain ⟨p, v, rfl, rfl, k_⟩ := hrel
 have hm := hstep; simp only [bH] at hm
 clear hstep
 refine af <| af ?_
 obtain ⟨c, h_c, hm⟩ := ob hm
 obtain ⟨c1, tN, hm⟩ := ob hm
 refine zh bu (by kernel_rfl) (.n 48 (.b (((decide (p < (dH.length : Int))) && (decide ((48 : UInt8) ≤ c))) && (decide (c1 ≤ 57)))) .a) (fun m => qs dh 0 <| qs dh 0 <| qB (k_.drew m) 0 rfl 1 (I p) (by kernel_rfl) <| qs dh 0 <| qs dh 0 <| qB (k_.drew m) 0 rfl 0 (.s dH) (by kernel_rfl) <| qp ((decide (p < (dH.length : Int))) = true → (some ⟨dh, 0, none⟩ : Option Addr).isSome = true) (fun hg0 => rfl) <| qp ((decide (p < (dH.length : Int))) = true → (some ⟨dh, 0, none⟩ : Option Addr).isSome = true) (fun hg0 => rfl) <| qo (.s dH) <| qc (fun w => (decide (p < (dH.length : Int))) = true → ∃ a, (some ⟨dh, 0, none⟩ : Option Addr) = some a ∧ w.cell? a = some (SV.val (.s dH))) (fun hg0 => (k_.drew m).jY 0 rfl 0 (.s dH) (by kernel_rfl)) <| qp ((decide (p < (dH.length : Int))) = true → (some ⟨dh, 0, none⟩ : Option Addr).isSome = true) (fun hg0 => rfl) <| qp ((decide (p < (dH.length : Int))) = true → (some ⟨dh, 0, none⟩ : Option Addr).isSome = true) (fun hg0 => rfl) <| qo (I p) <| qc (fun w => (decide (p < (dH.length : Int))) = true → ∃ a, (some ⟨dh, 1, none⟩ : Option Addr) = some a ∧ w.cell? a = some (SV.val (I p))) (fun hg0 => (k_.drew m).jY 0 rfl 1 (I p) (by kernel_rfl)) <| qo (.u8 c) <| qp ((decide (p < (dH.length : Int))) = true → 0 ≤ p ∧ dH[Int.toNat p]? = some c) (fun hg0 => bC (gQ h_c hg0)) <| qp (((decide (p < (dH.length : Int))) && (decide ((48 : UInt8) ≤ c))) = true → (some ⟨dh, 0, none⟩ : Option Addr).isSome = true) (fun hg0 => rfl) <| qp (((decide (p < (dH.length : Int))) && (decide ((48 : UInt8) ≤ c))) = true → (some ⟨dh, 0, none⟩ : Option Addr).isSome = true) (fun hg0 => rfl) <| qo (.s dH) <| qc (fun w => ((decide (p < (dH.length : Int))) && (decide ((48 : UInt8) ≤ c))) = true → ∃ a, (some ⟨dh, 0, none⟩ : Option Addr) = some a ∧ w.cell? a = some (SV.val (.s dH))) (fun hg0 => (k_.drew m).jY 0 rfl 0 (.s dH) (by kernel_rfl)) <| qp (((decide (p < (dH.length : Int))) && (decide ((48 : UInt8) ≤ c))) = true → (some ⟨dh, 0, none⟩ : Option Addr).isSome = true) (fun hg0 => rfl) <| qp (((decide (p < (dH.length : Int))) && (decide ((48 : UInt8) ≤ c))) = true → (some ⟨dh, 0, none⟩ : Option Addr).isSome = true) (fun hg0 => rfl) <| qo (I p) <| qc (fun w => ((decide (p < (dH.length : Int))) && (decide ((48 : UInt8) ≤ c))) = true → ∃ a, (some ⟨dh, 1, none⟩ : Option Addr) = some a ∧ w.cell? a = some (SV.val (I p))) (fun hg0 => (k_.drew m).jY 0 rfl 1 (I p) (by kernel_rfl)) <| qo (.u8 c1) <| qp (((decide (p < (dH.length : Int))) && (decide ((48 : UInt8) ≤ c))) = true → 0 ≤ p ∧ dH[Int.toNat p]? = some c1) (fun hg0 => bC (gQ tN hg0)) <| qe) (by kernel_rfl) (fun m_ => ?_)
 have fQ := k_.drew m_
 refine ae <| aN (((decide (p < (dH.length : Int))) && (decide ((48 : UInt8) ≤ c))) && (decide (c1 ≤ 57))) (by kernel_rfl) (fun hc1 => ?_) (fun hc1 => ?_)
 · rw [if_pos hc1] at hm
   refine aH <| ae <| aS <| af ?_
   obtain ⟨c2, Bh, hm⟩ := ob hm
   refine zh bu (by kernel_rfl) (.n 5 (.u64 (UInt64.ofNat (c2 - 48).toNat)) (.s .a)) (fun m => qs dh 0 <| qs dh 0 <| qB (fQ.drew m) 0 rfl 0 (.s dH) (by kernel_rfl) <| qs dh 0 <| qs dh 0 <| qB (fQ.drew m) 0 rfl 1 (I p) (by kernel_rfl) <| qX Bh <| qe) (by kernel_rfl) (fun I4 => ?_)
   have eX := fQ.drew I4
   refine ae <| af <| af <| aP [] (.n 76 (.b (((decide (eY < p)) && (decide (v = 0))) || (decide ((((18446744073709551615 : UInt64) - (UInt64.ofNat (c2 - 48).toNat)) / 10) < v)))) .a) (qs dh 0 <| qs dh 0 <| qB eX 0 rfl 1 (I p) (by kernel_rfl) <| qp (((decide (eY < p)) && (decide (v = 0))) = false → (10 : UInt64) ≠ 0) (fun hg0 => (by show (10 : UInt64) ≠ 0; decide)) <| qe) (by kernel_rfl) ?_
   refine ae <| aN (((decide (eY < p)) && (decide (v = 0))) || (decide ((((18446744073709551615 : UInt64) - (UInt64.ofNat (c2 - 48).toNat)) / 10) < v))) (by kernel_rfl) (fun hc2 => ?_) (fun hc2 => ?_)
   · rw [if_pos hc2] at hm
     refine af <| ay <| aK 3 [] (.n 79 (pt dh 2) .z) (qs dh 0 <| qs dh 0 <| qe) (by kernel_rfl) ?_
     refine au <| dZ [] 0 (.b false) [.b false] (Pt.at dh 2) eX rfl (.kk .h) (by kernel_rfl) (by kernel_rfl) ?_
     intro qF gG
     refine aj <| ae <| af <| aP [] (.n 2 (.u64 0) .z) qe (by kernel_rfl) ?_
     refine ae <| aF (aJ (ed (aJ (ed (aJ ?_)))))
     have hm := aV hm hr0
     obtain rfl := Option.some.inj hm
     refine aG [.u64 0] qe (by kernel_rfl) ?_
     exact ⟨rfl, gG⟩
   rw [if_neg (by rw [hc2]; decide)] at hm
   refine aH <| ae <| af <| aP [] (.n 3 (.u64 (((10 : UInt64) * v) + (UInt64.ofNat (c2 - 48).toNat))) (.ss (.k (.s .a)))) qe (by kernel_rfl) ?_
   refine ae <| ay <| aK 7 [] (.n 88 (I (aA (p + 1))) (.n 90 (pt dh 1) .a)) (qs dh 0 <| qs dh 0 <| qB eX 0 rfl 1 (I p) (by kernel_rfl) <| qs dh 0 <| qs dh 0 <| qe) (by kernel_rfl) ?_
   refine au <| dZ [] 0 (I (aA (p + 1))) [I (aA (p + 1))] (Pt.at dh 1) eX rfl (.k .h) (by kernel_rfl) (by kernel_rfl) ?_
   intro uq jV
   refine aj <| fO ?_
   exact jZ (aA (p + 1), ((10 : UInt64) * v) + (UInt64.ofNat (c2 - 48).toNat)) (Option.some.inj hm).symm ⟨aA (p + 1), ((10 : UInt64) * v) + (UInt64.ofNat (c2 - 48).toNat), rfl, rfl, jV⟩ (by kernel_rfl)
 rw [if_neg (by rw [hc1]; decide)] at hm
 refine eU (bU (bU (iG ?_)))
 have hm := aV hm hr0
 refine ae <| af <| ay <| aK 9 [] (.n 97 (.b (decide (eY < p))) (.n 99 (pt dh 2) (.ss (.k .z)))) (qs dh 0 <| qs dh 0 <| qB fQ 0 rfl 1 (I p) (by kernel_rfl) <| qs dh 0 <| qs dh 0 <| qe) (by kernel_rfl) ?_
 refine au <| dZ [] 0 (.b (decide (eY < p))) [.b (decide (eY < p))] (Pt.at dh 2) fQ rfl (.kk .h) (by kernel_rfl) (by kernel_rfl) ?_
 intro xU jG
 refine aj <| ae <| af <| aP [] (.n 2 (.u64 v) .z) qe (by kernel_rfl) ?_
 refine ae <| aF ?_
 obtain rfl := Option.some.inj hm
 refine aG [.u64 v] qe (by kernel_rfl) ?_
 exact ⟨rfl, jG⟩
theorem dF {F O : Nat → Prop} {w : World} (dH : List UInt8) (eY : Int) (gu : Bool) (t : List UInt8) (dh : Nat) (k : Cx F O w w [Bx 78 dh [.s dH, I eY, .b gu]]) (r : (List UInt8 × Int × Bool)) (hm : bF dH eY gu t = some r) :
    Calls Tryz.prog 31 (vals [pt dh 0, .s t]) w (fun e w' => e = .returned (SV.val (.fV [])) ∧ Cx F O w w' [Bx 78 dh [.s r.1, I r.2.1, .b r.2.2]]) := by
 unfold bF at hm
 refine calls [pt dh 0, .s t] Tryz.func31 rfl (of_decide_eq_true (by kernel_rfl)) ?_
 refine af <| aP [] (.n 4 (I 0) .a) qe (by kernel_rfl) ?_
 refine ae <| aS <| mV (cZ dH gu t) (fun s L wr => ∃ (p : Int) (i : Int), (p, i) = s ∧ L = [(0, pt dh 0), (1, .s t), (4, I i)] ∧ Cx F O w wr [Bx 78 dh [.s dH, I p, .b gu]]) (eY, (0 : Int)) r hm ⟨eY, (0 : Int), rfl, rfl, k⟩ (by kernel_rfl) ?_
 intro yT L_ w_ y0 hrel hstep hr0
 obtain ⟨p, i, rfl, rfl, k_⟩ := hrel
 have hm := hstep; simp only [cZ] at hm
 clear hstep
 refine af <| af <| aP [] (.n 14 (.b ((decide (i < (t.length : Int))) && gu)) .a) (qp ((decide (i < (t.length : Int))) = true → (some ⟨dh, 0, none⟩ : Option Addr).isSome = true) (fun hg0 => rfl) <| qp ((decide (i < (t.length : Int))) = true → (some ⟨dh, 0, none⟩ : Option Addr).isSome = true) (fun hg0 => rfl) <| qo (.b gu) <| qc (fun w => (decide (i < (t.length : Int))) = true → ∃ a, (some ⟨dh, 2, none⟩ : Option Addr) = some a ∧ w.cell? a = some (SV.val (.b gu))) (fun hg0 => k_.jY 0 rfl 2 (.b gu) (by kernel_rfl)) <| qe) (by kernel_rfl) ?_
 refine ae <| aN ((decide (i < (t.length : Int))) && gu) (by kernel_rfl) (fun hc => ?_) (fun hc => ?_)
 · rw [if_pos hc] at hm
   refine aH <| ae <| af <| aS <| af <| af ?_
   obtain ⟨c, h_c, hm⟩ := ob hm
   obtain ⟨c1, tN, hm⟩ := ob hm
   refine zh bu (by kernel_rfl) (.n 41 (.b ((decide ((dH.length : Int) ≤ p)) || (decide (c ≠ c1)))) (.s .a)) (fun m => qs dh 0 <| qs dh 0 <| qB (k_.drew m) 0 rfl 1 (I p) (by kernel_rfl) <| qs dh 0 <| qs dh 0 <| qB (k_.drew m) 0 rfl 0 (.s dH) (by kernel_rfl) <| qp ((decide ((dH.length : Int) ≤ p)) = false → (some ⟨dh, 0, none⟩ : Option Addr).isSome = true) (fun hg0 => rfl) <| qp ((decide ((dH.length : Int) ≤ p)) = false → (some ⟨dh, 0, none⟩ : Option Addr).isSome = true) (fun hg0 => rfl) <| qo (.s dH) <| qc (fun w => (decide ((dH.length : Int) ≤ p)) = false → ∃ a, (some ⟨dh, 0, none⟩ : Option Addr) = some a ∧ w.cell? a = some (SV.val (.s dH))) (fun hg0 => (k_.drew m).jY 0 rfl 0 (.s dH) (by kernel_rfl)) <| qp ((decide ((dH.length : Int) ≤ p)) = false → (some ⟨dh, 0, none⟩ : Option Addr).isSome = true) (fun hg0 => rfl) <| qp ((decide ((dH.length : Int) ≤ p)) = false → (some ⟨dh, 0, none⟩ : Option Addr).isSome = true) (fun hg0 => rfl) <| qo (I p) <| qc (fun w => (decide ((dH.length : Int) ≤ p)) = false → ∃ a, (some ⟨dh, 1, none⟩ : Option Addr) = some a ∧ w.cell? a = some (SV.val (I p))) (fun hg0 => (k_.drew m).jY 0 rfl 1 (I p) (by kernel_rfl)) <| qo (.u8 c) <| qp ((decide ((dH.length : Int) ≤ p)) = false → 0 ≤ p ∧ dH[Int.toNat p]? = some c) (fun hg0 => bC (iT h_c hg0)) <| qo (.u8 c1) <| qp ((decide ((dH.length : Int) ≤ p)) = false → 0 ≤ i ∧ t[Int.toNat i]? = some c1) (fun hg0 => bC (iT tN hg0)) <| qe) (by kernel_rfl) (fun m_ => ?_)
   have fQ := k_.drew m_
   refine ae <| aN ((decide ((dH.length : Int) ≤ p)) || (decide (c ≠ c1))) (by kernel_rfl) (fun hc1 => ?_) (fun hc1 => ?_)
   · rw [if_pos hc1] at hm
     refine af <| ay <| aK 3 [] (.n 44 (pt dh 2) .z) (qs dh 0 <| qs dh 0 <| qe) (by kernel_rfl) ?_
     refine au <| dZ [] 0 (.b false) [.b false] (Pt.at dh 2) fQ rfl (.kk .h) (by kernel_rfl) (by kernel_rfl) ?_
     intro qF eX
     refine aj <| ae <| aF (aJ (ed (aJ (aJ (ed ?_)))))
     have hm := aV hm hr0
     obtain rfl := Option.some.inj hm
     refine aG [] qe (by kernel_rfl) ?_
     exact ⟨rfl, eX⟩
   rw [if_neg (by rw [hc1]; decide)] at hm
   refine aH <| ae <| ay <| aK 7 [] (.n 49 (I (aA (p + 1))) (.n 51 (pt dh 1) (.s .a))) (qs dh 0 <| qs dh 0 <| qB fQ 0 rfl 1 (I p) (by kernel_rfl) <| qs dh 0 <| qs dh 0 <| qe) (by kernel_rfl) ?_
   refine au <| dZ [] 0 (I (aA (p + 1))) [I (aA (p + 1))] (Pt.at dh 1) fQ rfl (.k .h) (by kernel_rfl) (by kernel_rfl) ?_
   intro uq gG
   refine aj <| fO <| ae <| aP [] (.n 4 (I (aA (i + 1))) (.ss (.kk .z))) qe (by kernel_rfl) ?_
   exact jZ (aA (p + 1), aA (i + 1)) (Option.some.inj hm).symm ⟨aA (p + 1), aA (i + 1), rfl, rfl, gG⟩ (by kernel_rfl)
 rw [if_neg (by rw [hc]; decide)] at hm
 refine eU (bU (bU (iG ?_)))
 have hm := aV hm hr0
 obtain rfl := Option.some.inj hm
 refine Jy [] qe (by kernel_rfl) ?_
 exact ⟨rfl, k_⟩
theorem kP {F O : Nat → Prop} {w : World} (s_ : List UInt8) (dM : List UInt8) (k : Cx F O w w []) (r : Bool) (hm : bG s_ dM = some r) :
    Calls Tryz.prog 53 (vals [.s s_, .s dM]) w (fun e w' => e = .returned (SV.val (.b r)) ∧ Cx F O w w' []) := by
 unfold bG at hm
 refine calls [.s s_, .s dM] Tryz.func53 rfl (of_decide_eq_true (by kernel_rfl)) ?_
 refine af <| aP [] .a qe (by kernel_rfl) ?_
 refine ae <| af ?_
 obtain ⟨kS, oC, hm⟩ := ob hm
 refine aP [] (.n 4 (.b ((decide ((dM.length : Int) ≤ (s_.length : Int))) && (decide (kS = dM)))) .z) (qp ((decide ((dM.length : Int) ≤ (s_.length : Int))) = true → 0 ≤ (dM.length : Int) ∧ (dM.length : Int) ≤ ((s_.length : Nat) : Int)) (fun hg0 => by have hs := fE (gQ oC hg0); omega) <| qo (.s kS) <| qp ((decide ((dM.length : Int) ≤ (s_.length : Int))) = true → (s_.take (Int.toNat (dM.length : Int))).drop 0 = kS) (fun hg0 => (fE (gQ oC hg0)).2.2.2.symm) <| qe) (by kernel_rfl) ?_
 refine ae <| aF ?_
 obtain rfl := Option.some.inj hm
 refine aG [.b ((decide ((dM.length : Int) ≤ (s_.length : Int))) && (decide (kS = dM)))] qe (by kernel_rfl) ?_
 exact ⟨rfl, k⟩
theorem jQ {F O : Nat → Prop} {w : World} (s_ : List UInt8) (dM : List UInt8) (k : Cx F O w w []) (r : Bool) (hm : bM s_ dM = some r) :
    Calls Tryz.prog 32 (vals [.s s_, .s dM]) w (fun e w' => e = .returned (SV.val (.b r)) ∧ Cx F O w w' []) := by
 unfold bM at hm
 refine calls [.s s_, .s dM] Tryz.func32 rfl (of_decide_eq_true (by kernel_rfl)) ?_
 refine af <| aP [] .a qe (by kernel_rfl) ?_
 refine ae <| af <| ay <| aK 2 [] (.n 5 (.s s_) (.n 6 (.s dM) .z)) qe (by kernel_rfl) ?_
 refine au ?_
 obtain ⟨r_, fC, hm⟩ := ob hm
 refine ax [] 7 _ IP (by kernel_rfl) (kP (F := N0) (O := N0) _ _ (Cx.refl _) _ fC) ?_
 rintro e_ w_ ⟨rfl, k_⟩
 have fQ := k.call k_
 refine ⟨.b r_, rfl, ?_⟩
 refine aK 1 [] (.n 4 (.b r_) .z) qe (by kernel_rfl) ?_
 refine aj <| ae <| aF ?_
 obtain rfl := Option.some.inj hm
 refine aG [.b r_] qe (by kernel_rfl) ?_
 exact ⟨rfl, fQ⟩
theorem nX {F O : Nat → Prop} {w : World} (v : UInt64) (k : Cx F O w w []) (r : Int) (hm : iV v = some r) :
    Calls Tryz.prog 33 (vals [.u64 v]) w (fun e w' => e = .returned (SV.val (I r)) ∧ Cx F O w w' []) := by
 unfold iV at hm
 refine calls [.u64 v] Tryz.func33 rfl (of_decide_eq_true (by kernel_rfl)) ?_
 refine af <| aP [] .a qe (by kernel_rfl) ?_
 refine ae <| af <| af <| aP [] (.n 4 (.b (decide ((9223372036854775807 : UInt64) < v))) .a) qe (by kernel_rfl) ?_
 refine ae <| aQ ((9223372036854775807 : UInt64) < v) (by kernel_rfl) (fun hc => ?_) (fun hc => ?_)
 · rw [if_pos hc] at hm
   refine af <| aP [] (.n 2 (I (-1)) .z) qe (by kernel_rfl) ?_
   refine ae <| aF (aJ ?_)
   obtain rfl := Option.some.inj hm
   refine aG [I (-1)] qe (by kernel_rfl) ?_
   exact ⟨rfl, k⟩
 rw [if_neg hc] at hm
 refine aH <| ae <| af <| aP [] (.n 2 (I (aA v.toNat)) .z) qe (by kernel_rfl) ?_
 refine ae <| aF ?_
 obtain rfl := Option.some.inj hm
 refine aG [I (aA v.toNat)] qe (by kernel_rfl) ?_
 exact ⟨rfl, k⟩
theorem kQ {F O : Nat → Prop} {w : World} (s_ : List UInt8) (c : UInt8) (k : Cx F O w w []) (r : Int) (hm : dU s_ c = some r) :
    Calls Tryz.prog 71 (vals [.s s_, .u8 c]) w (fun e w' => e = .returned (SV.val (I r)) ∧ Cx F O w w' []) := by
 unfold dU at hm
 refine calls [.s s_, .u8 c] Tryz.func71 rfl (of_decide_eq_true (by kernel_rfl)) ?_
 refine af <| aP [] .a qe (by kernel_rfl) ?_
 refine ae <| af <| ay <| aK 2 [] (.n 5 (.s s_) (.n 6 (.u8 c) .z)) qe (by kernel_rfl) ?_
 refine au <| HY IY [] 7 s_ c (by kernel_rfl) ?_
 refine aK 1 [] (.n 4 (I (yK s_ c)) .z) qe (by kernel_rfl) ?_
 refine aj <| ae <| aF ?_
 obtain rfl := Option.some.inj hm
 refine aG [I (yK s_ c)] qe (by kernel_rfl) ?_
 exact ⟨rfl, k⟩
theorem qw {F O : Nat → Prop} {w : World} (s_ : List UInt8) (c : UInt8) (k : Cx F O w w []) (r : Int) (hm : iF s_ c = some r) :
    Calls Tryz.prog 54 (vals [.s s_, .u8 c]) w (fun e w' => e = .returned (SV.val (I r)) ∧ Cx F O w w' []) := by
 unfold iF at hm
 refine calls [.s s_, .u8 c] Tryz.func54 rfl (of_decide_eq_true (by kernel_rfl)) ?_
 refine af <| aP [] .a qe (by kernel_rfl) ?_
 refine ae <| af <| ay <| aK 2 [] (.n 5 (.s s_) (.n 6 (.u8 c) .z)) qe (by kernel_rfl) ?_
 refine au ?_
 obtain ⟨r_, fC, hm⟩ := ob hm
 refine ax [] 7 _ IW (by kernel_rfl) (kQ (F := N0) (O := N0) _ _ (Cx.refl _) _ fC) ?_
 rintro e_ w_ ⟨rfl, k_⟩
 have fQ := k.call k_
 refine ⟨I r_, rfl, ?_⟩
 refine aK 1 [] (.n 4 (I r_) .z) qe (by kernel_rfl) ?_
 refine aj <| ae <| aF ?_
 obtain rfl := Option.some.inj hm
 refine aG [I r_] qe (by kernel_rfl) ?_
 exact ⟨rfl, fQ⟩
theorem lZ {F O : Nat → Prop} {w : World} (dH : List UInt8) (eY : Int) (gu : Bool) (dh : Nat) (k : Cx F O w w [Bx 78 dh [.s dH, I eY, .b gu]]) (r : (List UInt8 × Int × List UInt8 × Int × Bool)) (hm : fA dH eY gu = some r) :
    Calls Tryz.prog 34 (vals [pt dh 0]) w (fun e w' => e = .returned (SV.val (.fV [.s r.1, I r.2.1])) ∧ Cx F O w w' [Bx 78 dh [.s r.2.2.1, I r.2.2.2.1, .b r.2.2.2.2]]) := by
 unfold fA at hm
 refine calls [pt dh 0] Tryz.func34 rfl (of_decide_eq_true (by kernel_rfl)) ?_
 refine af <| aP [] .a qe (by kernel_rfl) ?_
 refine ae <| af <| aP [] (.n 4 (I eY) .a) (qs dh 0 <| qs dh 0 <| qB k 0 rfl 1 (I eY) (by kernel_rfl) <| qe) (by kernel_rfl) ?_
 refine ae <| af <| aS <| mV (bK dH eY gu) (fun s L wr => ∃ (p : Int), p = s ∧ L = [(0, pt dh 0), (4, I eY)] ∧ Cx F O w wr [Bx 78 dh [.s dH, I p, .b gu]]) eY r hm ⟨eY, rfl, rfl, k⟩ (by kernel_rfl) ?_
 intro yT L_ w_ y0 hrel hstep hr0
 obtain ⟨p, rfl, rfl, k_⟩ := hrel
 have hm := hstep; simp only [bK] at hm
 clear hstep
 refine af <| af ?_
 have fQ := k_.drew 1
 refine O6 bu (.q 0 1 (.q 1 1 (.q 2 1 (.q 3 1 (.q 4 0 (.q 5 1 (.q 6 1 (.q 7 1 (.q 8 1 (.q 9 1 (.q 10 1 (.q 11 1 (.q 12 1 (.q 13 1 (.q 14 1 (.q 15 1 (.q 16 0 (.q 17 1 (.q 18 1 (.q 19 1 (.q 20 1 (.q 21 1 (.q 22 1 (.q 23 1 (.q 24 1 (.q 25 1 (.op 26 (.q 27 1 (.q 28 1 (.q 29 1 (.q 30 1 (.q 31 1 (.q 32 1 (.q 33 1 (.q 34 1 (.q 35 1 (.q 36 1 (.q 37 1 (.q 38 1 (.q 39 1 (.q 40 1 (.q 41 1 (.q 42 1 (.q 43 1 (.q 44 1 (.q 45 1 (.q 46 1 (.q 47 1 (.q 48 1 (.q 49 1 (.q 50 1 (.q 51 1 (.q 52 1 (.q 53 1 (.q 54 1 (.q 55 1 (.q 56 1 (.q 57 1 (.q 58 1 (.q 59 1 (.q 60 1 (.q 61 1 (.q 62 1 (.q 63 1 (.q 64 1 (.q 65 1 (.q 66 1 (.q 67 1 (.q 68 1 (.q 69 1 (.q 70 1 (.q 71 1 (.q 72 1 (.q 73 1 (.q 74 1 (.q 75 1 (.q 76 1 (.q 77 1 (.q 78 1 (.q 79 1 (.q 80 1 (.q 81 1 (.q 82 1 (.q 83 1 (.q 84 1 (.q 85 1 (.q 86 1 (.q 87 1 (.q 88 1 (.q 89 1 (.q 90 1 (.q 91 1 (.q 92 1 (.q 93 1 (.q 94 1 (.q 95 1 (.q 96 1 (.q 97 1 (.q 98 1 (.q 99 1 (.q 100 1 .nil))))))))))))))))))))))))))))))))))))))))))))))))))))))))))))))))))))))))))))))))))))))))))))))))))))) [26] fQ (.c (.k .e) .l) (by kernel_rfl) (fun _ => ?_)
 refine jT 4 1 [] (.n 12 (.b gu) .a) (fun x hx => qs dh 0 <| qs dh 0 <| qB hx 0 rfl 2 (.b gu) (by kernel_rfl) <| qe) (by kernel_rfl) (fun _ => ?_)
 refine jT 1 0 [] (.n 13 (.b gu) (.s .a)) (fun x hx => qe) (by kernel_rfl) (fun _ => ?_)
 refine jT 11 1 [] (.n 24 (.b (gu && (decide (p < (dH.length : Int))))) (.s .a)) (fun x hx => qp (gu = true → (some ⟨dh, 0, none⟩ : Option Addr).isSome = true) (fun hg0 => rfl) <| qp (gu = true → (some ⟨dh, 0, none⟩ : Option Addr).isSome = true) (fun hg0 => rfl) <| qo (I p) <| qc (fun w => gu = true → ∃ a, (some ⟨dh, 1, none⟩ : Option Addr) = some a ∧ w.cell? a = some (SV.val (I p))) (fun hg0 => hx.jY 0 rfl 1 (I p) (by kernel_rfl)) <| qp (gu = true → (some ⟨dh, 0, none⟩ : Option Addr).isSome = true) (fun hg0 => rfl) <| qp (gu = true → (some ⟨dh, 0, none⟩ : Option Addr).isSome = true) (fun hg0 => rfl) <| qo (.s dH) <| qc (fun w => gu = true → ∃ a, (some ⟨dh, 0, none⟩ : Option Addr) = some a ∧ w.cell? a = some (SV.val (.s dH))) (fun hg0 => hx.jY 0 rfl 0 (.s dH) (by kernel_rfl)) <| qe) (by kernel_rfl) (fun _ => ?_)
 refine jT 1 0 [] (.n 25 (.b (gu && (decide (p < (dH.length : Int))))) (.s .a)) (fun x hx => qe) (by kernel_rfl) (fun _ => ?_)
 refine Cb 25 (gu && (decide (p < (dH.length : Int)))) (.s .a) (by kernel_rfl) (fun hg _ => ?_) (fun hg _ => ?_)
 · rw [if_pos hg] at hm
   obtain ⟨c, h_c, hm⟩ := ob hm
   refine jT 9 1 [25] (.n 34 (.u8 c) .a) (fun x hx => qs dh 0 <| qs dh 0 <| qB hx 0 rfl 0 (.s dH) (by kernel_rfl) <| qs dh 0 <| qs dh 0 <| qB hx 0 rfl 1 (I p) (by kernel_rfl) <| qX h_c <| qe) (by kernel_rfl) (fun _ => ?_)
   refine jX (by kernel_rfl) rfl ?_
   obtain ⟨r_, fC, hm⟩ := ob hm
   refine ax [25] 35 _ IQ (by kernel_rfl) (qw (F := N0) (O := N0) _ _ (Cx.refl _) _ fC) ?_
   rintro e_ qF ⟨rfl, eX⟩
   have gG := fQ.call eX
   refine ⟨I r_, rfl, ?_⟩
   refine ⟨gG, fun _ => ?_⟩
   obtain ⟨c1, tN, hm⟩ := ob hm
   obtain ⟨c2, Bh, hm⟩ := ob hm
   obtain ⟨c3, KH, hm⟩ := ob hm
   obtain ⟨c4, FW, hm⟩ := ob hm
   obtain ⟨c5, Pm, hm⟩ := ob hm
   obtain ⟨c6, Pn, hm⟩ := ob hm
   refine jT 74 1 [25] (.n 109 (.b ((((decide (0 ≤ r_)) || ((decide ((48 : UInt8) ≤ c1)) && (decide (c2 ≤ 57)))) || ((decide ((65 : UInt8) ≤ c3)) && (decide (c4 ≤ 90)))) || ((decide ((97 : UInt8) ≤ c5)) && (decide (c6 ≤ 122))))) (.nG .a)) (fun x hx => qp ((decide (0 ≤ r_)) = false → (some ⟨dh, 0, none⟩ : Option Addr).isSome = true) (fun hg0 => rfl) <| qp ((decide (0 ≤ r_)) = false → (some ⟨dh, 0, none⟩ : Option Addr).isSome = true) (fun hg0 => rfl) <| qo (.s dH) <| qc (fun w => (decide (0 ≤ r_)) = false → ∃ a, (some ⟨dh, 0, none⟩ : Option Addr) = some a ∧ w.cell? a = some (SV.val (.s dH))) (fun hg0 => hx.jY 0 rfl 0 (.s dH) (by kernel_rfl)) <| qp ((decide (0 ≤ r_)) = false → (some ⟨dh, 0, none⟩ : Option Addr).isSome = true) (fun hg0 => rfl) <| qp ((decide (0 ≤ r_)) = false → (some ⟨dh, 0, none⟩ : Option Addr).isSome = true) (fun hg0 => rfl) <| qo (I p) <| qc (fun w => (decide (0 ≤ r_)) = false → ∃ a, (some ⟨dh, 1, none⟩ : Option Addr) = some a ∧ w.cell? a = some (SV.val (I p))) (fun hg0 => hx.jY 0 rfl 1 (I p) (by kernel_rfl)) <| qo (.u8 c1) <| qp ((decide (0 ≤ r_)) = false → 0 ≤ p ∧ dH[Int.toNat p]? = some c1) (fun hg0 => bC (iT tN hg0)) <| qp ((decide (0 ≤ r_)) = false → (decide ((48 : UInt8) ≤ c1)) = true → (some ⟨dh, 0, none⟩ : Option Addr).isSome = true) (fun hg1 => fun hg0 => rfl) <| qp ((decide (0 ≤ r_)) = false → (decide ((48 : UInt8) ≤ c1)) = true → (some ⟨dh, 0, none⟩ : Option Addr).isSome = true) (fun hg1 => fun hg0 => rfl) <| qo (.s dH) <| qc (fun w => (decide (0 ≤ r_)) = false → (decide ((48 : UInt8) ≤ c1)) = true → ∃ a, (some ⟨dh, 0, none⟩ : Option Addr) = some a ∧ w.cell? a = some (SV.val (.s dH))) (fun hg1 => fun hg0 => hx.jY 0 rfl 0 (.s dH) (by kernel_rfl)) <| qp ((decide (0 ≤ r_)) = false → (decide ((48 : UInt8) ≤ c1)) = true → (some ⟨dh, 0, none⟩ : Option Addr).isSome = true) (fun hg1 => fun hg0 => rfl) <| qp ((decide (0 ≤ r_)) = false → (decide ((48 : UInt8) ≤ c1)) = true → (some ⟨dh, 0, none⟩ : Option Addr).isSome = true) (fun hg1 => fun hg0 => rfl) <| qo (I p) <| qc (fun w => (decide (0 ≤ r_)) = false → (decide ((48 : UInt8) ≤ c1)) = true → ∃ a, (some ⟨dh, 1, none⟩ : Option Addr) = some a ∧ w.cell? a = some (SV.val (I p))) (fun hg1 => fun hg0 => hx.jY 0 rfl 1 (I p) (by kernel_rfl)) <| qo (.u8 c2) <| qp ((decide (0 ≤ r_)) = false → (decide ((48 : UInt8) ≤ c1)) = true → 0 ≤ p ∧ dH[Int.toNat p]? = some c2) (fun hg1 => fun hg0 => bC (gQ (iT Bh hg1) hg0)) <| qp (((decide (0 ≤ r_)) || ((decide ((48 : UInt8) ≤ c1)) && (decide (c2 ≤ 57)))) = false → (some ⟨dh, 0, none⟩ : Option Addr).isSome = true) (fun hg0 => rfl) <| qp (((decide (0 ≤ r_)) || ((decide ((48 : UInt8) ≤ c1)) && (decide (c2 ≤ 57)))) = false → (some ⟨dh, 0, none⟩ : Option Addr).isSome = true) (fun hg0 => rfl) <| qo (.s dH) <| qc (fun w => ((decide (0 ≤ r_)) || ((decide ((48 : UInt8) ≤ c1)) && (decide (c2 ≤ 57)))) = false → ∃ a, (some ⟨dh, 0, none⟩ : Option Addr) = some a ∧ w.cell? a = some (SV.val (.s dH))) (fun hg0 => hx.jY 0 rfl 0 (.s dH) (by kernel_rfl)) <| qp (((decide (0 ≤ r_)) || ((decide ((48 : UInt8) ≤ c1)) && (decide (c2 ≤ 57)))) = false → (some ⟨dh, 0, none⟩ : Option Addr).isSome = true) (fun hg0 => rfl) <| qp (((decide (0 ≤ r_)) || ((decide ((48 : UInt8) ≤ c1)) && (decide (c2 ≤ 57)))) = false → (some ⟨dh, 0, none⟩ : Option Addr).isSome = true) (fun hg0 => rfl) <| qo (I p) <| qc (fun w => ((decide (0 ≤ r_)) || ((decide ((48 : UInt8) ≤ c1)) && (decide (c2 ≤ 57)))) = false → ∃ a, (some ⟨dh, 1, none⟩ : Option Addr) = some a ∧ w.cell? a = some (SV.val (I p))) (fun hg0 => hx.jY 0 rfl 1 (I p) (by kernel_rfl)) <| qo (.u8 c3) <| qp (((decide (0 ≤ r_)) || ((decide ((48 : UInt8) ≤ c1)) && (decide (c2 ≤ 57)))) = false → 0 ≤ p ∧ dH[Int.toNat p]? = some c3) (fun hg0 => bC (iT KH hg0)) <| qp (((decide (0 ≤ r_)) || ((decide ((48 : UInt8) ≤ c1)) && (decide (c2 ≤ 57)))) = false → (decide ((65 : UInt8) ≤ c3)) = true → (some ⟨dh, 0, none⟩ : Option Addr).isSome = true) (fun hg1 => fun hg0 => rfl) <| qp (((decide (0 ≤ r_)) || ((decide ((48 : UInt8) ≤ c1)) && (decide (c2 ≤ 57)))) = false → (decide ((65 : UInt8) ≤ c3)) = true → (some ⟨dh, 0, none⟩ : Option Addr).isSome = true) (fun hg1 => fun hg0 => rfl) <| qo (.s dH) <| qc (fun w => ((decide (0 ≤ r_)) || ((decide ((48 : UInt8) ≤ c1)) && (decide (c2 ≤ 57)))) = false → (decide ((65 : UInt8) ≤ c3)) = true → ∃ a, (some ⟨dh, 0, none⟩ : Option Addr) = some a ∧ w.cell? a = some (SV.val (.s dH))) (fun hg1 => fun hg0 => hx.jY 0 rfl 0 (.s dH) (by kernel_rfl)) <| qp (((decide (0 ≤ r_)) || ((decide ((48 : UInt8) ≤ c1)) && (decide (c2 ≤ 57)))) = false → (decide ((65 : UInt8) ≤ c3)) = true → (some ⟨dh, 0, none⟩ : Option Addr).isSome = true) (fun hg1 => fun hg0 => rfl) <| qp (((decide (0 ≤ r_)) || ((decide ((48 : UInt8) ≤ c1)) && (decide (c2 ≤ 57)))) = false → (decide ((65 : UInt8) ≤ c3)) = true → (some ⟨dh, 0, none⟩ : Option Addr).isSome = true) (fun hg1 => fun hg0 => rfl) <| qo (I p) <| qc (fun w => ((decide (0 ≤ r_)) || ((decide ((48 : UInt8) ≤ c1)) && (decide (c2 ≤ 57)))) = false → (decide ((65 : UInt8) ≤ c3)) = true → ∃ a, (some ⟨dh, 1, none⟩ : Option Addr) = some a ∧ w.cell? a = some (SV.val (I p))) (fun hg1 => fun hg0 => hx.jY 0 rfl 1 (I p) (by kernel_rfl)) <| qo (.u8 c4) <| qp (((decide (0 ≤ r_)) || ((decide ((48 : UInt8) ≤ c1)) && (decide (c2 ≤ 57)))) = false → (decide ((65 : UInt8) ≤ c3)) = true → 0 ≤ p ∧ dH[Int.toNat p]? = some c4) (fun hg1 => fun hg0 => bC (gQ (iT FW hg1) hg0)) <| qp ((((decide (0 ≤ r_)) || ((decide ((48 : UInt8) ≤ c1)) && (decide (c2 ≤ 57)))) || ((decide ((65 : UInt8) ≤ c3)) && (decide (c4 ≤ 90)))) = false → (some ⟨dh, 0, none⟩ : Option Addr).isSome = true) (fun hg0 => rfl) <| qp ((((decide (0 ≤ r_)) || ((decide ((48 : UInt8) ≤ c1)) && (decide (c2 ≤ 57)))) || ((decide ((65 : UInt8) ≤ c3)) && (decide (c4 ≤ 90)))) = false → (some ⟨dh, 0, none⟩ : Option Addr).isSome = true) (fun hg0 => rfl) <| qo (.s dH) <| qc (fun w => (((decide (0 ≤ r_)) || ((decide ((48 : UInt8) ≤ c1)) && (decide (c2 ≤ 57)))) || ((decide ((65 : UInt8) ≤ c3)) && (decide (c4 ≤ 90)))) = false → ∃ a, (some ⟨dh, 0, none⟩ : Option Addr) = some a ∧ w.cell? a = some (SV.val (.s dH))) (fun hg0 => hx.jY 0 rfl 0 (.s dH) (by kernel_rfl)) <| qp ((((decide (0 ≤ r_)) || ((decide ((48 : UInt8) ≤ c1)) && (decide (c2 ≤ 57)))) || ((decide ((65 : UInt8) ≤ c3)) && (decide (c4 ≤ 90)))) = false → (some ⟨dh, 0, none⟩ : Option Addr).isSome = true) (fun hg0 => rfl) <| qp ((((decide (0 ≤ r_)) || ((decide ((48 : UInt8) ≤ c1)) && (decide (c2 ≤ 57)))) || ((decide ((65 : UInt8) ≤ c3)) && (decide (c4 ≤ 90)))) = false → (some ⟨dh, 0, none⟩ : Option Addr).isSome = true) (fun hg0 => rfl) <| qo (I p) <| qc (fun w => (((decide (0 ≤ r_)) || ((decide ((48 : UInt8) ≤ c1)) && (decide (c2 ≤ 57)))) || ((decide ((65 : UInt8) ≤ c3)) && (decide (c4 ≤ 90)))) = false → ∃ a, (some ⟨dh, 1, none⟩ : Option Addr) = some a ∧ w.cell? a = some (SV.val (I p))) (fun hg0 => hx.jY 0 rfl 1 (I p) (by kernel_rfl)) <| qo (.u8 c5) <| qp ((((decide (0 ≤ r_)) || ((decide ((48 : UInt8) ≤ c1)) && (decide (c2 ≤ 57)))) || ((decide ((65 : UInt8) ≤ c3)) && (decide (c4 ≤ 90)))) = false → 0 ≤ p ∧ dH[Int.toNat p]? = some c5) (fun hg0 => bC (iT Pm hg0)) <| qp ((((decide (0 ≤ r_)) || ((decide ((48 : UInt8) ≤ c1)) && (decide (c2 ≤ 57)))) || ((decide ((65 : UInt8) ≤ c3)) && (decide (c4 ≤ 90)))) = false → (decide ((97 : UInt8) ≤ c5)) = true → (some ⟨dh, 0, none⟩ : Option Addr).isSome = true) (fun hg1 => fun hg0 => rfl) <| qp ((((decide (0 ≤ r_)) || ((decide ((48 : UInt8) ≤ c1)) && (decide (c2 ≤ 57)))) || ((decide ((65 : UInt8) ≤ c3)) && (decide (c4 ≤ 90)))) = false → (decide ((97 : UInt8) ≤ c5)) = true → (some ⟨dh, 0, none⟩ : Option Addr).isSome = true) (fun hg1 => fun hg0 => rfl) <| qo (.s dH) <| qc (fun w => (((decide (0 ≤ r_)) || ((decide ((48 : UInt8) ≤ c1)) && (decide (c2 ≤ 57)))) || ((decide ((65 : UInt8) ≤ c3)) && (decide (c4 ≤ 90)))) = false → (decide ((97 : UInt8) ≤ c5)) = true → ∃ a, (some ⟨dh, 0, none⟩ : Option Addr) = some a ∧ w.cell? a = some (SV.val (.s dH))) (fun hg1 => fun hg0 => hx.jY 0 rfl 0 (.s dH) (by kernel_rfl)) <| qp ((((decide (0 ≤ r_)) || ((decide ((48 : UInt8) ≤ c1)) && (decide (c2 ≤ 57)))) || ((decide ((65 : UInt8) ≤ c3)) && (decide (c4 ≤ 90)))) = false → (decide ((97 : UInt8) ≤ c5)) = true → (some ⟨dh, 0, none⟩ : Option Addr).isSome = true) (fun hg1 => fun hg0 => rfl) <| qp ((((decide (0 ≤ r_)) || ((decide ((48 : UInt8) ≤ c1)) && (decide (c2 ≤ 57)))) || ((decide ((65 : UInt8) ≤ c3)) && (decide (c4 ≤ 90)))) = false → (decide ((97 : UInt8) ≤ c5)) = true → (some ⟨dh, 0, none⟩ : Option Addr).isSome = true) (fun hg1 => fun hg0 => rfl) <| qo (I p) <| qc (fun w => (((decide (0 ≤ r_)) || ((decide ((48 : UInt8) ≤ c1)) && (decide (c2 ≤ 57)))) || ((decide ((65 : UInt8) ≤ c3)) && (decide (c4 ≤ 90)))) = false → (decide ((97 : UInt8) ≤ c5)) = true → ∃ a, (some ⟨dh, 1, none⟩ : Option Addr) = some a ∧ w.cell? a = some (SV.val (I p))) (fun hg1 => fun hg0 => hx.jY 0 rfl 1 (I p) (by kernel_rfl)) <| qo (.u8 c6) <| qp ((((decide (0 ≤ r_)) || ((decide ((48 : UInt8) ≤ c1)) && (decide (c2 ≤ 57)))) || ((decide ((65 : UInt8) ≤ c3)) && (decide (c4 ≤ 90)))) = false → (decide ((97 : UInt8) ≤ c5)) = true → 0 ≤ p ∧ dH[Int.toNat p]? = some c6) (fun hg1 => fun hg0 => bC (gQ (iT Pn hg1) hg0)) <| qe) (by kernel_rfl) (fun _ => ?_)
   refine iU <| ae <| aN ((((decide (0 ≤ r_)) || ((decide ((48 : UInt8) ≤ c1)) && (decide (c2 ≤ 57)))) || ((decide ((65 : UInt8) ≤ c3)) && (decide (c4 ≤ 90)))) || ((decide ((97 : UInt8) ≤ c5)) && (decide (c6 ≤ 122)))) (by kernel_rfl) (fun hc => ?_) (fun hc => ?_)
   · rw [if_pos hc] at hm
     refine aH <| ae <| aS <| ay <| aK 7 [] (.n 114 (I (aA (p + 1))) (.n 116 (pt dh 1) (.s .a))) (qs dh 0 <| qs dh 0 <| qB gG 0 rfl 1 (I p) (by kernel_rfl) <| qs dh 0 <| qs dh 0 <| qe) (by kernel_rfl) ?_
     refine au <| dZ [] 0 (I (aA (p + 1))) [I (aA (p + 1))] (Pt.at dh 1) gG rfl (.k .h) (by kernel_rfl) (by kernel_rfl) ?_
     intro uq jV
     refine aj <| fO ?_
     exact jZ (aA (p + 1)) (Option.some.inj hm).symm ⟨aA (p + 1), rfl, rfl, jV⟩ (by kernel_rfl)
   rw [if_neg (by rw [hc]; decide)] at hm
   refine eU (bU (bU (iG ?_)))
   have hm := aV hm hr0
   refine ae <| af ?_
   obtain ⟨s_, KI, hm⟩ := ob hm
   have hs := fE KI
   refine zh bu (by kernel_rfl) (.n 2 (.s s_) (.n 3 (I eY) .z)) (fun m => qs dh 0 <| qs dh 0 <| qB (gG.drew m) 0 rfl 0 (.s dH) (by kernel_rfl) <| qs dh 0 <| qs dh 0 <| qB (gG.drew m) 0 rfl 1 (I p) (by kernel_rfl) <| qp (0 ≤ p ∧ p ≤ ((dH.length : Nat) : Int)) (by omega) <| qp (0 ≤ eY ∧ eY ≤ ((Int.toNat p : Nat) : Int)) (by omega) <| qo (.s s_) <| qp ((dH.take (Int.toNat p)).drop (Int.toNat eY) = s_) hs.2.2.2.symm <| qe) (by kernel_rfl) (fun m_ => ?_)
   have jG := gG.drew m_
   refine ae <| aF ?_
   obtain rfl := Option.some.inj hm
   refine aG [.s s_, I eY] qe (by kernel_rfl) ?_
   exact ⟨rfl, jG⟩
 · rw [if_neg (by rw [hg]; decide)] at hm
   refine jT 9 1 [25] (.n 34 (.fV []) .a) (fun x hx => qe) (by kernel_rfl) (fun _ => ?_)
   refine yI 35 [25] (by kernel_rfl) rfl (by kernel_rfl) (fun _ => ?_)
   refine jT 74 1 [25, 37, 48, 61, 72, 85, 96] (.n 109 (.b false) (.nG .a)) (fun x hx => qe) (by kernel_rfl) (fun _ => ?_)
   refine iU <| ae <| aN false (by kernel_rfl) (fun h => by cases h) (fun _ => ?_)
   refine eU (bU (bU (iG ?_)))
   have hm := aV hm hr0
   refine ae <| af ?_
   obtain ⟨kS, oC, hm⟩ := ob hm
   have hs1 := fE oC
   refine zh bu (by kernel_rfl) (.n 2 (.s kS) (.n 3 (I eY) .z)) (fun m => qs dh 0 <| qs dh 0 <| qB (fQ.drew m) 0 rfl 0 (.s dH) (by kernel_rfl) <| qs dh 0 <| qs dh 0 <| qB (fQ.drew m) 0 rfl 1 (I p) (by kernel_rfl) <| qp (0 ≤ p ∧ p ≤ ((dH.length : Nat) : Int)) (by omega) <| qp (0 ≤ eY ∧ eY ≤ ((Int.toNat p : Nat) : Int)) (by omega) <| qo (.s kS) <| qp ((dH.take (Int.toNat p)).drop (Int.toNat eY) = kS) hs1.2.2.2.symm <| qe) (by kernel_rfl) (fun I4 => ?_)
   have mD := fQ.drew I4
   refine ae <| aF ?_
   obtain rfl := Option.some.inj hm
   refine aG [.s kS, I eY] qe (by kernel_rfl) ?_
   exact ⟨rfl, mD⟩
theorem xw {F O : Nat → Prop} {w : World} (c : UInt8) (k : Cx F O w w []) (r : (UInt32 × Bool)) (hm : jm c = some r) :
    Calls Tryz.prog 55 (vals [.u8 c]) w (fun e w' => e = .returned (SV.val (.fV [.u32 r.1, .b r.2])) ∧ Cx F O w w' []) := by
 unfold jm at hm
 refine calls [.u8 c] Tryz.func55 rfl (of_decide_eq_true (by kernel_rfl)) ?_
 refine af <| aP [] .a qe (by kernel_rfl) ?_
 refine ae <| af <| aS <| af <| aP [] (.n 4 (.b ((decide ((65 : UInt8) ≤ c)) && (decide (c ≤ 90)))) .a) qe (by kernel_rfl) ?_
 refine ae <| aN ((decide ((65 : UInt8) ≤ c)) && (decide (c ≤ 90))) (by kernel_rfl) (fun hc => ?_) (fun hc => ?_)
 · rw [if_pos hc] at hm
   refine af <| aP [] (.n 2 (.u32 (UInt32.ofNat (c - 65).toNat)) (.n 3 (.b true) .z)) qe (by kernel_rfl) ?_
   refine ae <| aF (ed (aJ ?_))
   obtain rfl := Option.some.inj hm
   refine aG [.u32 (UInt32.ofNat (c - 65).toNat), .b true] qe (by kernel_rfl) ?_
   exact ⟨rfl, k⟩
 rw [if_neg (by rw [hc]; decide)] at hm
 refine af <| aP [] (.n 14 (.b ((decide ((97 : UInt8) ≤ c)) && (decide (c ≤ 122)))) (.s .a)) qe (by kernel_rfl) ?_
 refine ae <| aN ((decide ((97 : UInt8) ≤ c)) && (decide (c ≤ 122))) (by kernel_rfl) (fun hc1 => ?_) (fun hc1 => ?_)
 · rw [if_pos hc1] at hm
   refine af <| aP [] (.n 2 (.u32 ((UInt32.ofNat (c - 97).toNat) + 26)) (.n 3 (.b true) .z)) qe (by kernel_rfl) ?_
   refine ae <| aF (ed (aJ ?_))
   obtain rfl := Option.some.inj hm
   refine aG [.u32 ((UInt32.ofNat (c - 97).toNat) + 26), .b true] qe (by kernel_rfl) ?_
   exact ⟨rfl, k⟩
 rw [if_neg (by rw [hc1]; decide)] at hm
 refine af <| aP [] (.n 25 (.b ((decide ((48 : UInt8) ≤ c)) && (decide (c ≤ 57)))) (.s .a)) qe (by kernel_rfl) ?_
 refine ae <| aN ((decide ((48 : UInt8) ≤ c)) && (decide (c ≤ 57))) (by kernel_rfl) (fun hc2 => ?_) (fun hc2 => ?_)
 · rw [if_pos hc2] at hm
   refine af <| aP [] (.n 2 (.u32 ((UInt32.ofNat (c - 48).toNat) + 52)) (.n 3 (.b true) .z)) qe (by kernel_rfl) ?_
   refine ae <| aF (ed (aJ ?_))
   obtain rfl := Option.some.inj hm
   refine aG [.u32 ((UInt32.ofNat (c - 48).toNat) + 52), .b true] qe (by kernel_rfl) ?_
   exact ⟨rfl, k⟩
 rw [if_neg (by rw [hc2]; decide)] at hm
 refine af <| aP [] (.n 36 (.b (decide (c = 43))) (.s .a)) qe (by kernel_rfl) ?_
 refine ae <| aQ (c = 43) (by kernel_rfl) (fun hc3 => ?_) (fun hc3 => ?_)
 · rw [if_pos hc3] at hm
   refine af <| aP [] (.n 2 (.u32 62) (.n 3 (.b true) .z)) qe (by kernel_rfl) ?_
   refine ae <| aF (ed (aJ ?_))
   obtain rfl := Option.some.inj hm
   refine aG [.u32 62, .b true] qe (by kernel_rfl) ?_
   exact ⟨rfl, k⟩
 rw [if_neg hc3] at hm
 refine af <| aP [] (.n 39 (.b (decide (c = 47))) .z) qe (by kernel_rfl) ?_
 refine ae <| aQ (c = 47) (by kernel_rfl) (fun hc4 => ?_) (fun hc4 => ?_)
 · rw [if_pos hc4] at hm
   refine af <| aP [] (.n 2 (.u32 63) (.n 3 (.b true) .z)) qe (by kernel_rfl) ?_
   refine ae <| aF (ed (aJ ?_))
   obtain rfl := Option.some.inj hm
   refine aG [.u32 63, .b true] qe (by kernel_rfl) ?_
   exact ⟨rfl, k⟩
 rw [if_neg hc4] at hm
 refine aH <| fO <| ae <| af <| aP [] (.n 2 (.u32 0) (.n 3 (.b false) .z)) qe (by kernel_rfl) ?_
 refine ae <| aF ?_
 obtain rfl := Option.some.inj hm
 refine aG [.u32 0, .b false] qe (by kernel_rfl) ?_
 exact ⟨rfl, k⟩
theorem oD {F O : Nat → Prop} {w : World} (s_ : List UInt8) (k : Cx F O w w []) (r : (List UInt8 × Int × Int)) (hm : gJ s_ = some r) :
    Calls Tryz.prog 35 (vals [.s s_]) w (fun e w' => ∃ A n c, r.1.length = n ∧ e = .returned (SV.val (.fV [sl A n c, I r.2.1, I r.2.2])) ∧ Cx F O w w' [Ow e8 A n c r.1]) := by
 unfold gJ at hm
 refine calls [.s s_] Tryz.func35 rfl (of_decide_eq_true (by kernel_rfl)) ?_
 refine af <| aP [] .a qe (by kernel_rfl) ?_
 refine ae <| af <| aP [] (.n 5 (sl none 0 0) .a) qe (by kernel_rfl) ?_
 refine ae <| af <| aP [] (.n 6 (I 0) (.n 7 (.u32 0) .a)) qe (by kernel_rfl) ?_
 refine ae <| af <| af <| aP [] (.n 12 (I (s_.length : Int)) (.n 13 (I 0) .a)) qe (by kernel_rfl) ?_
 refine ae <| aS ?_
 have fQ := k.nil e8
 refine mV (iW s_) (fun s L wr => ∃ (b : List UInt8) (dY : Int) (v : UInt32) (gm : Int) (A0 : Option Addr) (n0 : Nat) (c0 : Nat), (b, dY, v, gm) = s ∧ L = [(0, .s s_), (5, sl A0 n0 c0), (6, I dY), (7, .u32 v), (12, I (s_.length : Int)), (13, I gm)] ∧ b.length = n0 ∧ Cx F O w wr [Ow e8 A0 n0 c0 b]) (([] : List UInt8), (0 : Int), (0 : UInt32), (0 : Int)) r hm ⟨([] : List UInt8), (0 : Int), (0 : UInt32), (0 : Int), none, 0, 0, rfl, rfl, fQ.len 0 rfl, fQ⟩ (by kernel_rfl) ?_
 intro yT L_ w_ y0 hrel hstep hr0
 obtain ⟨b, dY, v, gm, A0, _, c0, rfl, rfl, rfl, k_⟩ := hrel
 have hm := hstep; simp only [iW] at hm
 clear hstep
 refine af <| aP [] (.n 14 (.b (decide (gm < (s_.length : Int)))) .a) qe (by kernel_rfl) ?_
 refine ae <| af <| aQ (gm < (s_.length : Int)) (by kernel_rfl) (fun hc => ?_) (fun hc => ?_)
 · rw [if_pos hc] at hm
   refine aH <| ae <| vM (fun L wr => ∃ (b1 : List UInt8) (have_1 : Int) (v1 : UInt32) (A1 : Option Addr) (n1 : Nat) (c1 : Nat), fB gm b1 have_1 v1 = some y0 ∧ L = [(0, .s s_), (5, sl A1 n1 c1), (6, I have_1), (7, .u32 v1), (12, I (s_.length : Int)), (13, I gm)] ∧ b1.length = n1 ∧ Cx F O w wr [Ow e8 A1 n1 c1 b1]) ?_ ?_
   ·
    refine aS <| af <| aP [] (.n 8 (I gm) (.s .a)) qe (by kernel_rfl) ?_
    refine ae <| af <| ay ?_
    obtain ⟨c2, Bh, hm⟩ := ob hm
    refine aK 3 [] (.n 19 (.u8 c2) .a) (qX Bh <| qe) (by kernel_rfl) ?_
    refine au ?_
    obtain ⟨r_, fC, hm⟩ := ob hm
    refine ax [] 20 _ IU (by kernel_rfl) (xw (F := N0) (O := N0) _ (Cx.refl _) _ fC) ?_
    rintro e_ qF ⟨rfl, eX⟩
    have gG := k_.call eX
    refine ⟨.fV [.u32 r_.1, .b r_.2], rfl, ?_⟩
    refine aK 5 [] (.n 9 (.u32 r_.1) (.n 10 (.b r_.2) (.ss .a))) qe (by kernel_rfl) ?_
    refine aj <| ae <| af <| af <| aP [] (.n 24 (.b (!r_.2)) (.k (.s .a))) qe (by kernel_rfl) ?_
    refine ae <| aN (!r_.2) (by kernel_rfl) (fun hc1 => ?_) (fun hc1 => ?_)
    · rw [if_pos hc1] at hm
      refine af <| aP [] (.n 2 (sl none 0 0) (.n 3 (I gm) (.n 4 (I 4) .z))) qe (by kernel_rfl) ?_
      refine ae <| aF (aJ (ed (aJ (aJ (ed (aJ ?_))))))
      have hm := aV hm hr0
      have jV := gG.nil e8
      obtain rfl := Option.some.inj hm
      refine aG [sl none 0 0, I gm, I 4] qe (by kernel_rfl) ?_
      have jG := jV.dm (.s (.k .e))
      exact ⟨none, 0, 0, jG.len 0 rfl, rfl, jG⟩
    rw [if_neg (by rw [hc1]; decide)] at hm
    refine aH <| ae <| af <| aP [] (.n 7 (.u32 ((jd v ((6 : UInt64).toNat)) ||| r_.1)) (.nG (.DF (.s .a)))) qe (by kernel_rfl) ?_
    refine ae <| af <| aP [] (.n 6 (I (aA (dY + 6))) (.DF (.s .a))) qe (by kernel_rfl) ?_
    refine ae <| af <| aP [] (.n 33 (.b (decide (8 ≤ (aA (dY + 6))))) .a) qe (by kernel_rfl) ?_
    refine ae <| aQ (8 ≤ (aA (dY + 6))) (by kernel_rfl) (fun hc2 => ?_) (fun hc2 => ?_)
    · rw [if_pos hc2] at hm
      refine af <| aP [] (.n 6 (I (aA ((aA (dY + 6)) - 8))) (.ss .a)) qe (by kernel_rfl) ?_
      refine ae <| af <| ay ?_
      obtain ⟨u, CS, hm⟩ := ob hm
      refine aK 5 [] (.n 36 (sl A0 b.length c0) (.n 40 (.u8 (UInt8.ofNat (oh ((jd v ((6 : UInt64).toNat)) ||| r_.1) (Int.toNat (aA ((aA (dY + 6)) - 8)))).toNat)) .a)) (qp (0 ≤ aA ((aA (dY + 6)) - 8)) (dK CS) <| qe) (by kernel_rfl) ?_
      refine au <| xM qf e8 [] 41 ([UInt8.ofNat (oh ((jd v ((6 : UInt64).toNat)) ||| r_.1) (Int.toNat (aA ((aA (dY + 6)) - 8)))).toNat] : List UInt8) [(0, .u8 (UInt8.ofNat (oh ((jd v ((6 : UInt64).toNat)) ||| r_.1) (Int.toNat (aA ((aA (dY + 6)) - 8)))).toNat))] [.u8 (UInt8.ofNat (oh ((jd v ((6 : UInt64).toNat)) ||| r_.1) (Int.toNat (aA ((aA (dY + 6)) - 8)))).toNat)] (by kernel_rfl) (by kernel_rfl) (by kernel_rfl) gG ?_
      intro A2 uq mD
      refine au ?_
      obtain ⟨b2, Po, hm⟩ := ob hm
      obtain ⟨hz, hl⟩ := rX Po
      refine nD (E := e8) (v := sl A2 1 1) (ys := ([UInt8.ofNat (oh ((jd v ((6 : UInt64).toNat)) ||| r_.1) (Int.toNat (aA ((aA (dY + 6)) - 8)))).toNat] : List UInt8)) qf [] 42 0 (by kernel_rfl) mD rfl (Src.sl (mD.rd 1 rfl) (mD.len 1 rfl) (by rfl)) (mD.len 1 rfl) (by have := mD.len 0 rfl; have := (mD.len 1 rfl); omega) ?_
      intro A3 c3 xU jA
      rw [← hl] at jA
      have lX := jA.dm (.k .z)
      refine aK 1 [] (.n 5 (sl A3 (b.length + 1) c3) (.kF (.DF (.s .a)))) qe (by kernel_rfl) ?_
      refine aj <| ae ?_
      obtain ⟨u1, KJ, hm⟩ := ob hm
      refine aP [] (.n 7 (.u32 (((jd v ((6 : UInt64).toNat)) ||| r_.1) &&& ((jd 1 (Int.toNat (aA ((aA (dY + 6)) - 8)))) - 1))) (.kk (.s .a))) (qp (0 ≤ aA ((aA (dY + 6)) - 8)) (dK KJ) <| qe) (by kernel_rfl) ?_
      refine fO ?_
      exact mi ⟨b2, aA ((aA (dY + 6)) - 8), ((jd v ((6 : UInt64).toNat)) ||| r_.1) &&& ((jd 1 (Int.toNat (aA ((aA (dY + 6)) - 8)))) - 1), A3, b.length + 1, c3, hm, rfl, lX.len 0 rfl, lX⟩ (by kernel_rfl)
    rw [if_neg hc2] at hm
    refine aH <| fO ?_
    exact mi ⟨b, aA (dY + 6), (jd v ((6 : UInt64).toNat)) ||| r_.1, A0, b.length, c0, hm, rfl, gG.len 0 rfl, gG⟩ (by kernel_rfl)
   rintro L_ Bf ⟨b1, have_1, v1, A1, _, c1, hm, rfl, rfl, qH⟩
   simp only [fB] at hm
   refine aP [] (.n 13 (I (aA (gm + 1))) (.kD (.k .z))) qe (by kernel_rfl) ?_
   exact jZ (b1, have_1, v1, aA (gm + 1)) (Option.some.inj hm).symm ⟨b1, have_1, v1, aA (gm + 1), A1, b1.length, c1, rfl, rfl, qH.len 0 rfl, qH⟩ (by kernel_rfl)
 rw [if_neg hc] at hm
 refine eU (bU (bU (iG ?_)))
 have hm := aV hm hr0
 refine ae <| af <| af <| aP [] (.n 52 (.b (decide ((Int.tmod (s_.length : Int) 4) = 1))) (.s (.kk (.s (.k .z))))) (qp ((4 : Int) ≠ (0 : Int)) (by omega) <| qe) (by kernel_rfl) ?_
 refine ae <| aQ ((Int.tmod (s_.length : Int) 4) = 1) (by kernel_rfl) (fun hc3 => ?_) (fun hc3 => ?_)
 · rw [if_pos hc3] at hm
   refine af <| aP [] (.n 2 (sl none 0 0) (.n 3 (I (s_.length : Int)) (.n 4 (I 4) .z))) qe (by kernel_rfl) ?_
   refine ae <| aF (aJ ?_)
   have jF := k_.nil e8
   obtain rfl := Option.some.inj hm
   refine aG [sl none 0 0, I (s_.length : Int), I 4] qe (by kernel_rfl) ?_
   have ji := jF.dm (.s (.k .e))
   exact ⟨none, 0, 0, ji.len 0 rfl, rfl, ji⟩
 rw [if_neg hc3] at hm
 refine aH <| ae <| af <| af <| aP [] (.n 56 (.b (decide (v ≠ 0))) (.s (.kk .z))) qe (by kernel_rfl) ?_
 refine ae <| aQ (v ≠ 0) (by kernel_rfl) (fun hc4 => ?_) (fun hc4 => ?_)
 · rw [if_pos hc4] at hm
   refine af <| aP [] (.n 2 (sl none 0 0) (.n 3 (I (aA ((s_.length : Int) - 1))) (.n 4 (I 4) .z))) qe (by kernel_rfl) ?_
   refine ae <| aF (aJ ?_)
   have jk := k_.nil e8
   obtain rfl := Option.some.inj hm
   refine aG [sl none 0 0, I (aA ((s_.length : Int) - 1)), I 4] qe (by kernel_rfl) ?_
   have kR := jk.dm (.s (.k .e))
   exact ⟨none, 0, 0, kR.len 0 rfl, rfl, kR⟩
 rw [if_neg hc4] at hm
 refine aH <| ae <| af <| aP [] (.n 2 (sl A0 b.length c0) (.n 3 (I 0) (.n 4 (I 0) .z))) qe (by kernel_rfl) ?_
 refine ae <| aF ?_
 obtain rfl := Option.some.inj hm
 refine aG [sl A0 b.length c0, I 0, I 0] qe (by kernel_rfl) ?_
 exact ⟨A0, b.length, c0, k_.len 0 rfl, rfl, k_⟩
theorem yX {F O : Nat → Prop} {w : World} (fU : Int) (dP : Int) (dQ : Int) (fD : Int) (dL : Int) (mW : List UInt8) (pF : List UInt8) (l7 : Option Addr) (wE : Nat) (l9 : Nat) (qg : Option Addr) (yY : Nat) (qh : Nat) (FX : Ro F w l7 (e8.all mW)) (D_ : mW.length = wE) (Ea : wE ≤ l9) (OL : Ro F w qg (e8.all pF)) (FY : pF.length = yY) (NR : yY ≤ qh) (k : Cx F O w w []) (r : Int) (hm : kH fU dP dQ fD dL mW pF = some r) :
    Calls Tryz.prog 36 (vals [.agg [I fU, I dP, I dQ, I fD, I dL, sl l7 wE l9, sl qg yY qh]]) w (fun e w' => e = .returned (SV.val (I r)) ∧ Cx F O w w' []) := by
 unfold kH at hm
 subst D_
 subst FY
 refine calls [.agg [I fU, I dP, I dQ, I fD, I dL, sl l7 mW.length l9, sl qg pF.length qh]] Tryz.func36 rfl (of_decide_eq_true (by kernel_rfl)) ?_
 refine af <| ay <| au <| ik [] 1 (.agg [I fU, I dP, I dQ, I fD, I dL, sl l7 mW.length l9, sl qg pF.length qh]) [I fU, I dP, I dQ, I fD, I dL, sl l7 mW.length l9, sl qg pF.length qh] (by kernel_rfl) k ?_
 intro g w_ k_
 refine aK 1 [] (.k .z) qe (by kernel_rfl) ?_
 refine aj <| ae <| af <| af <| ay <| aK 4 [] (.n 5 (.agg [I fU, I dP, I dQ, I fD, I dL]) (.n 7 (sl l7 mW.length l9) .a)) (qs g 0 <| qT k_ 0 rfl 0 5 [I fU, I dP, I dQ, I fD, I dL] (by kernel_rfl) (by decide) <| qs g 0 <| qB k_ 0 rfl 5 (sl l7 mW.length l9) (by kernel_rfl) <| qe) (by kernel_rfl) ?_
 refine au ?_
 obtain ⟨r_, fC, hm⟩ := ob hm
 refine ax [] 8 _ Cj (by kernel_rfl) (qG (F := N0) (O := N0) _ _ _ _ _ _ _ _ _ (Ro.n0 (FX.cx k_)) rfl Ea (Cx.refl _) _ fC) ?_
 rintro e_ qF ⟨rfl, fQ⟩
 have eX := k_.call fQ
 refine ⟨I r_, rfl, ?_⟩
 refine aK 1 [] (.n 3 (I r_) (.nG .a)) qe (by kernel_rfl) ?_
 refine aj <| ae <| af <| aP [] (.n 10 (.b (decide (r_ ≠ 0))) .a) qe (by kernel_rfl) ?_
 refine ae <| aQ (r_ ≠ 0) (by kernel_rfl) (fun hc => ?_) (fun hc => ?_)
 · rw [if_pos hc] at hm
   refine af <| aP [] (.n 2 (I r_) .z) qe (by kernel_rfl) ?_
   refine ae <| aF (aJ ?_)
   obtain rfl := Option.some.inj hm
   refine aG [I r_] qe (by kernel_rfl) ?_
   have gG := eX.dm .z
   exact ⟨rfl, gG⟩
 rw [if_neg hc] at hm
 refine aH <| ae <| af <| af <| aP [] (.n 18 (.b (decide (((pF.length : Nat) : Int) ≠ dL))) .z) (qs g 0 <| qB eX 0 rfl 6 (sl qg pF.length qh) (by kernel_rfl) <| qs g 0 <| qs g 0 <| qB eX 0 rfl 4 (I dL) (by kernel_rfl) <| qe) (by kernel_rfl) ?_
 refine ae <| aQ (((pF.length : Nat) : Int) ≠ dL) (by kernel_rfl) (fun hc1 => ?_) (fun hc1 => ?_)
 · rw [if_pos hc1] at hm
   refine af <| aP [] (.n 2 (I 1) .z) qe (by kernel_rfl) ?_
   refine ae <| aF (aJ ?_)
   obtain rfl := Option.some.inj hm
   refine aG [I 1] qe (by kernel_rfl) ?_
   have jV := eX.dm .z
   exact ⟨rfl, jV⟩
 rw [if_neg hc1] at hm
 refine aH <| ae <| af <| aP [] (.n 2 (I 0) .z) qe (by kernel_rfl) ?_
 refine ae <| aF ?_
 obtain rfl := Option.some.inj hm
 refine aG [I 0] qe (by kernel_rfl) ?_
 have jG := eX.dm .z
 exact ⟨rfl, jG⟩
theorem sG {F O : Nat → Prop} {w : World} (s_ : List UInt8) (k : Cx F O w w []) (r : (Int × Int × Int × Int × Int × List UInt8 × List UInt8 × Int × Int)) (hm : iZ s_ = some r) :
    Calls Tryz.prog 16 (vals [.s s_]) w (fun e w' => ∃ A n c A1 n1 c1, r.2.2.2.2.2.1.length = n ∧ r.2.2.2.2.2.2.1.length = n1 ∧ e = .returned (SV.val (.fV [.agg [I r.1, I r.2.1, I r.2.2.1, I r.2.2.2.1, I r.2.2.2.2.1, sl A n c, sl A1 n1 c1], I r.2.2.2.2.2.2.2.1, I r.2.2.2.2.2.2.2.2])) ∧ Cx F O w w' [Ow e8 A n c r.2.2.2.2.2.1, Ow e8 A1 n1 c1 r.2.2.2.2.2.2.1]) := by
 unfold iZ at hm
 refine calls [.s s_] Tryz.func16 rfl (of_decide_eq_true (by kernel_rfl)) ?_
 refine af <| ay <| au <| iH [] 2 [I 0, I 0, I 0, I 0, I 0, sl none 0 0, sl none 0 0] (by kernel_rfl) k ?_
 intro g w_ k_
 refine aK 2 [] .a qe (by kernel_rfl) ?_
 refine aj <| ae <| af <| ay <| aK 2 [] (.n 13 (.agg [.s s_, I 0, .b true]) .a) qe (by kernel_rfl) ?_
 refine au <| ik [] 14 (.agg [.s s_, I 0, .b true]) [.s s_, I 0, .b true] (by kernel_rfl) k_ ?_
 intro g1 qF fQ
 refine aK 1 [] (.n 5 (pt g1 0) (.ss .a)) qe (by kernel_rfl) ?_
 refine aj <| ae <| af <| ay <| au <| iH [] 6 [I 0, I 0, I 0, I 0, I 0, sl none 0 0, sl none 0 0] (by kernel_rfl) fQ ?_
 intro g2 uq eX
 refine aj <| ae <| af <| ay <| aK 1 [] (.n 15 (pt g1 0) .a) qe (by kernel_rfl) ?_
 refine au ?_
 obtain ⟨r_, fC, hm⟩ := ob hm
 obtain ⟨F1, O1, kin, hO, hre, hF, hb⟩ := eX.go (.r (.i (.r .e)))
 refine ax [] 16 _ lg (by kernel_rfl) (dF (F := F1) (O := O1) _ _ _ _ _ kin _ fC) ?_
 rintro e_ xU ⟨rfl, gG⟩
 have jV := hb xU _ _ gG (.c .n)
 refine ⟨.fV [], rfl, ?_⟩
 refine aj <| ae <| vM (fun L wr => ∃ (p : List UInt8) (p1 : Int) (p2 : Bool) (t : Int), bP s_ p p1 p2 t = some r ∧ L = [(0, .s s_), (2, pt g 0), (5, pt g1 0), (6, pt g2 0)] ∧ Cx F O w wr [Bx 62 g [I 0, I 0, I 0, I 0, I 0, sl none 0 0, sl none 0 0], Bx 78 g1 [.s p, I p1, .b p2], Bx 62 g2 [I t, I 0, I 0, I 0, I 0, sl none 0 0, sl none 0 0]]) ?_ ?_
 ·
  refine aS <| af <| ay <| aK 5 [] (.n 24 (.b r_.2.2) (.ss .a)) (qs g1 0 <| qs g1 0 <| qB jV 0 rfl 2 (.b r_.2.2) (by kernel_rfl) <| qe) (by kernel_rfl) ?_
  refine oq 24 r_.2.2 (.s .a) (by kernel_rfl) (fun hg => ?_) (fun hg => ?_)
  · rw [if_pos hg] at hm
    obtain ⟨kS, oC, hm⟩ := ob hm
    have hs := fE oC
    refine aK 6 [24] (.n 30 (.s kS) .a) (qs g1 0 <| qs g1 0 <| qB jV 0 rfl 1 (I r_.2.1) (by kernel_rfl) <| qp (0 ≤ r_.2.1 ∧ r_.2.1 ≤ ((s_.length : Nat) : Int)) (by omega) <| qo (.s kS) <| qp ((s_.take s_.length).drop (Int.toNat r_.2.1) = kS) hs.2.2.2.symm <| qe) (by kernel_rfl) ?_
    refine au ?_
    have jG := jV.dm (.kk (.k .e))
    obtain ⟨bQ, l_, hm⟩ := ob hm
    refine ax [24] 31 _ yO (by kernel_rfl) (jQ (F := N0) (O := N0) _ _ (Cx.refl _) _ l_) ?_
    rintro e_ Bf ⟨rfl, mD⟩
    have jA := jG.call mD
    refine ⟨.b bQ, rfl, ?_⟩
    refine aK 2 [24] (.n 19 (.b bQ) (.nG .a)) qe (by kernel_rfl) ?_
    refine aj <| ae <| aN bQ (by kernel_rfl) (fun hc => ?_) (fun hc => ?_)
    · rw [if_pos hc] at hm
      refine af <| ay <| aK 2 [] (.n 34 (pt g2 0) (.s .a)) (qs g2 0 <| qs g2 0 <| qe) (by kernel_rfl) ?_
      refine au <| dZ [] 2 (I 2) [I 2] (Pt.at g2 0) jA rfl .h (by kernel_rfl) (by kernel_rfl) ?_
      intro D9 lX
      refine aj <| ae <| ay <| aK 7 [] (.n 39 (I (aA (r_.2.1 + 2))) (.n 41 (pt g1 1) (.s .a))) (qs g1 0 <| qs g1 0 <| qB lX 0 rfl 1 (I r_.2.1) (by kernel_rfl) <| qs g1 0 <| qs g1 0 <| qe) (by kernel_rfl) ?_
      refine au <| dZ [] 0 (I (aA (r_.2.1 + 2))) [I (aA (r_.2.1 + 2))] (Pt.at g1 1) lX rfl (.k .h) (by kernel_rfl) (by kernel_rfl) ?_
      intro Es qH
      refine aj <| fO ?_
      have jF := ((qH.pk (.t (.t .h))).pk (.t .h)).pk (.t (.t .h))
      exact mi ⟨r_.1, aA (r_.2.1 + 2), r_.2.2, (2 : Int), hm, rfl, jF⟩ (by kernel_rfl)
    rw [if_neg (by rw [hc]; decide)] at hm
    refine af <| ay <| aK 5 [] (.n 47 (.b r_.2.2) (.s .a)) (qs g1 0 <| qs g1 0 <| qB jA 0 rfl 2 (.b r_.2.2) (by kernel_rfl) <| qe) (by kernel_rfl) ?_
    refine oq 47 r_.2.2 (.s .a) (by kernel_rfl) (fun hg1 => ?_) (fun hg1 => ?_)
    · rw [if_pos hg1] at hm
      obtain ⟨xn, FV, hm⟩ := ob hm
      have hs1 := fE FV
      refine aK 6 [47] (.n 53 (.s xn) .a) (qs g1 0 <| qs g1 0 <| qB jA 0 rfl 1 (I r_.2.1) (by kernel_rfl) <| qp (0 ≤ r_.2.1 ∧ r_.2.1 ≤ ((s_.length : Nat) : Int)) (by omega) <| qo (.s xn) <| qp ((s_.take s_.length).drop (Int.toNat r_.2.1) = xn) hs1.2.2.2.symm <| qe) (by kernel_rfl) ?_
      refine au ?_
      obtain ⟨aX, pJ, hm⟩ := ob hm
      refine ax [47] 54 _ yO (by kernel_rfl) (jQ (F := N0) (O := N0) _ _ (Cx.refl _) _ pJ) ?_
      rintro e_ G9 ⟨rfl, ji⟩
      have jk := jA.call ji
      refine ⟨.b aX, rfl, ?_⟩
      refine aK 2 [47] (.n 42 (.b aX) (.nG .a)) qe (by kernel_rfl) ?_
      refine aj <| ae <| aN aX (by kernel_rfl) (fun hc1 => ?_) (fun hc1 => ?_)
      · rw [if_pos hc1] at hm
        refine af <| ay <| aK 2 [] (.n 57 (pt g2 0) (.s .a)) (qs g2 0 <| qs g2 0 <| qe) (by kernel_rfl) ?_
        refine au <| dZ [] 2 (I 1) [I 1] (Pt.at g2 0) jk rfl .h (by kernel_rfl) (by kernel_rfl) ?_
        intro JA kR
        refine aj <| ae <| ay <| aK 7 [] (.n 62 (I (aA (r_.2.1 + 1))) (.n 64 (pt g1 1) (.s .a))) (qs g1 0 <| qs g1 0 <| qB kR 0 rfl 1 (I r_.2.1) (by kernel_rfl) <| qs g1 0 <| qs g1 0 <| qe) (by kernel_rfl) ?_
        refine au <| dZ [] 0 (I (aA (r_.2.1 + 1))) [I (aA (r_.2.1 + 1))] (Pt.at g1 1) kR rfl (.k .h) (by kernel_rfl) (by kernel_rfl) ?_
        intro KL lS
        refine aj <| fO ?_
        have lF := ((lS.pk (.t (.t .h))).pk (.t .h)).pk (.t (.t .h))
        exact mi ⟨r_.1, aA (r_.2.1 + 1), r_.2.2, (1 : Int), hm, rfl, lF⟩ (by kernel_rfl)
      rw [if_neg (by rw [hc1]; decide)] at hm
      refine ay <| aK 1 [] (.n 17 (pt g1 0) (.s .a)) qe (by kernel_rfl) ?_
      refine au ?_
      obtain ⟨gy, pK, hm⟩ := ob hm
      obtain ⟨F11, KN, Bi, Pq, I5, hF1, hb1⟩ := jk.go (.i (.r (.r .e)))
      refine ax [] 18 _ lg (by kernel_rfl) (dF (F := F11) (O := KN) _ _ _ _ _ Bi _ pK) ?_
      rintro e_ zI ⟨rfl, oG⟩
      have rC := hb1 zI _ _ oG (.c .n)
      refine ⟨.fV [], rfl, ?_⟩
      refine aj <| fO ?_
      have sH := ((rC.pk (.t (.t .h))).pk (.t .h)).pk (.t (.t .h))
      exact mi ⟨gy.1, gy.2.1, gy.2.2, (0 : Int), hm, rfl, sH⟩ (by kernel_rfl)
    · rw [if_neg (by rw [hg1]; decide)] at hm
      refine aK 9 [47] (.n 42 (.b false) (.s .a)) qe (by kernel_rfl) ?_
      refine aj <| ae <| aN false (by kernel_rfl) (fun h => by cases h) (fun _ => ?_)
      refine ay <| aK 1 [] (.n 17 (pt g1 0) (.s .a)) qe (by kernel_rfl) ?_
      refine au ?_
      obtain ⟨dw, sJ, hm⟩ := ob hm
      obtain ⟨NS, NT, FZ, hO2, NU, hF2, hb2⟩ := jA.go (.i (.r (.r .e)))
      refine ax [] 18 _ lg (by kernel_rfl) (dF (F := NS) (O := NT) _ _ _ _ _ FZ _ sJ) ?_
      rintro e_ zJ ⟨rfl, sK⟩
      have lG := hb2 zJ _ _ sK (.c .n)
      refine ⟨.fV [], rfl, ?_⟩
      refine aj <| fO ?_
      have oH := ((lG.pk (.t (.t .h))).pk (.t .h)).pk (.t (.t .h))
      exact mi ⟨dw.1, dw.2.1, dw.2.2, (0 : Int), hm, rfl, oH⟩ (by kernel_rfl)
  · rw [if_neg (by rw [hg]; decide)] at hm
    refine aK 9 [24] (.n 19 (.b false) (.s .a)) qe (by kernel_rfl) ?_
    refine aj <| ae <| aN false (by kernel_rfl) (fun h => by cases h) (fun _ => ?_)
    refine af <| ay <| aK 5 [] (.n 47 (.b r_.2.2) (.s .a)) (qs g1 0 <| qs g1 0 <| qB jV 0 rfl 2 (.b r_.2.2) (by kernel_rfl) <| qe) (by kernel_rfl) ?_
    refine oq 47 r_.2.2 (.s .a) (by kernel_rfl) (fun hg2 => ?_) (fun hg2 => ?_)
    · rw [if_pos hg2] at hm
      obtain ⟨uo, NV, hm⟩ := ob hm
      have hs2 := fE NV
      refine aK 6 [47] (.n 53 (.s uo) .a) (qs g1 0 <| qs g1 0 <| qB jV 0 rfl 1 (I r_.2.1) (by kernel_rfl) <| qp (0 ≤ r_.2.1 ∧ r_.2.1 ≤ ((s_.length : Nat) : Int)) (by omega) <| qo (.s uo) <| qp ((s_.take s_.length).drop (Int.toNat r_.2.1) = uo) hs2.2.2.2.symm <| qe) (by kernel_rfl) ?_
      refine au ?_
      have pM := jV.dm (.kk (.k .e))
      obtain ⟨pG, zK, hm⟩ := ob hm
      refine ax [47] 54 _ yO (by kernel_rfl) (jQ (F := N0) (O := N0) _ _ (Cx.refl _) _ zK) ?_
      rintro e_ Bj ⟨rfl, qx⟩
      have rD := pM.call qx
      refine ⟨.b pG, rfl, ?_⟩
      refine aK 2 [47] (.n 42 (.b pG) (.nG .a)) qe (by kernel_rfl) ?_
      refine aj <| ae <| aN pG (by kernel_rfl) (fun hc2 => ?_) (fun hc2 => ?_)
      · rw [if_pos hc2] at hm
        refine af <| ay <| aK 2 [] (.n 57 (pt g2 0) (.s .a)) (qs g2 0 <| qs g2 0 <| qe) (by kernel_rfl) ?_
        refine au <| dZ [] 2 (I 1) [I 1] (Pt.at g2 0) rD rfl .h (by kernel_rfl) (by kernel_rfl) ?_
        intro Eb nY
        refine aj <| ae <| ay <| aK 7 [] (.n 62 (I (aA (r_.2.1 + 1))) (.n 64 (pt g1 1) (.s .a))) (qs g1 0 <| qs g1 0 <| qB nY 0 rfl 1 (I r_.2.1) (by kernel_rfl) <| qs g1 0 <| qs g1 0 <| qe) (by kernel_rfl) ?_
        refine au <| dZ [] 0 (I (aA (r_.2.1 + 1))) [I (aA (r_.2.1 + 1))] (Pt.at g1 1) nY rfl (.k .h) (by kernel_rfl) (by kernel_rfl) ?_
        intro I7 tV
        refine aj <| fO ?_
        have rE := ((tV.pk (.t (.t .h))).pk (.t .h)).pk (.t (.t .h))
        exact mi ⟨r_.1, aA (r_.2.1 + 1), r_.2.2, (1 : Int), hm, rfl, rE⟩ (by kernel_rfl)
      rw [if_neg (by rw [hc2]; decide)] at hm
      refine ay <| aK 1 [] (.n 17 (pt g1 0) (.s .a)) qe (by kernel_rfl) ?_
      refine au ?_
      obtain ⟨iP, wF, hm⟩ := ob hm
      obtain ⟨Pv, Py, KO, hO3, Pz, hF3, hb3⟩ := rD.go (.i (.r (.r .e)))
      refine ax [] 18 _ lg (by kernel_rfl) (dF (F := Pv) (O := Py) _ _ _ _ _ KO _ wF) ?_
      rintro e_ KP ⟨rfl, rF⟩
      have xx := hb3 KP _ _ rF (.c .n)
      refine ⟨.fV [], rfl, ?_⟩
      refine aj <| fO ?_
      have xy := ((xx.pk (.t (.t .h))).pk (.t .h)).pk (.t (.t .h))
      exact mi ⟨iP.1, iP.2.1, iP.2.2, (0 : Int), hm, rfl, xy⟩ (by kernel_rfl)
    · rw [if_neg (by rw [hg2]; decide)] at hm
      refine aK 9 [47] (.n 42 (.b false) (.s .a)) qe (by kernel_rfl) ?_
      refine aj <| ae <| aN false (by kernel_rfl) (fun h => by cases h) (fun _ => ?_)
      refine ay <| aK 1 [] (.n 17 (pt g1 0) (.s .a)) qe (by kernel_rfl) ?_
      refine au ?_
      have zL := jV.dm (.kk (.k .e))
      obtain ⟨wW, zM, hm⟩ := ob hm
      obtain ⟨PD, PE, KQ, hO4, PG, SK, hb4⟩ := zL.go (.i (.r (.r .e)))
      refine ax [] 18 _ lg (by kernel_rfl) (dF (F := PD) (O := PE) _ _ _ _ _ KQ _ zM) ?_
      rintro e_ NW ⟨rfl, Bo⟩
      have wG := hb4 NW _ _ Bo (.c .n)
      refine ⟨.fV [], rfl, ?_⟩
      refine aj <| fO ?_
      have Bq := ((wG.pk (.t (.t .h))).pk (.t .h)).pk (.t (.t .h))
      exact mi ⟨wW.1, wW.2.1, wW.2.2, (0 : Int), hm, rfl, Bq⟩ (by kernel_rfl)
 rintro L_ PH ⟨p, p1, p2, t, hm, rfl, xA⟩
 simp only [bP] at hm
 refine af <| ay <| aK 1 [] (.n 65 (pt g1 0) .a) qe (by kernel_rfl) ?_
 refine au ?_
 obtain ⟨yM, zN, hm⟩ := ob hm
 obtain ⟨PI, PK, KR, SL, PL, SN, hb5⟩ := xA.go (.r (.i (.r .e)))
 refine ax [] 66 _ lg (by kernel_rfl) (dF (F := PI) (O := PK) _ _ _ _ _ KR _ zN) ?_
 rintro e_ NY ⟨rfl, xB⟩
 have yZ := hb5 NY _ _ xB (.c .n)
 refine ⟨.fV [], rfl, ?_⟩
 refine aj <| ae <| af <| ay <| aK 1 [] (.n 67 (pt g1 0) (.ss .a)) qe (by kernel_rfl) ?_
 refine au ?_
 obtain ⟨tJ, F5, hm⟩ := ob hm
 obtain ⟨PM, PN, KT, SS, PO, SX, hb6⟩ := yZ.go (.i (.r (.r .e)))
 refine ax [] 68 _ sD (by kernel_rfl) (g_ (F := PM) (O := PN) _ _ _ _ KT _ F5) ?_
 rintro e_ NZ ⟨rfl, Ec⟩
 have F6 := hb6 NZ _ _ Ec (.c .n)
 refine ⟨.u64 tJ.1, rfl, ?_⟩
 refine au ?_
 obtain ⟨jy, Bv, hm⟩ := ob hm
 refine ax [] 69 _ yP (by kernel_rfl) (nX (F := N0) (O := N0) _ (Cx.refl _) _ Bv) ?_
 rintro e_ PQ ⟨rfl, Bz⟩
 have BA := F6.call Bz
 refine ⟨I jy, rfl, ?_⟩
 refine aK 2 [] (.n 71 (pt g2 1) (.k (.ss .a))) (qs g2 0 <| qs g2 0 <| qe) (by kernel_rfl) ?_
 refine au <| dZ [] 2 (I jy) [I jy] (Pt.at g2 1) BA rfl (.k .h) (by kernel_rfl) (by kernel_rfl) ?_
 intro PR F7
 refine aj <| ae <| af <| ay <| aK 1 [] (.n 72 (pt g1 0) (.ss .a)) qe (by kernel_rfl) ?_
 refine au ?_
 have Ed := F7.dm (.kk (.k .e))
 obtain ⟨jJ, wH, hm⟩ := ob hm
 obtain ⟨PS, PT, KU, SY, PU, S9, hb7⟩ := Ed.go (.i (.r (.r .e)))
 refine ax [] 73 _ lg (by kernel_rfl) (dF (F := PS) (O := PT) _ _ _ _ _ KU _ wH) ?_
 rintro e_ N7 ⟨rfl, F8⟩
 have KW := hb7 N7 _ _ F8 (.c .n)
 refine ⟨.fV [], rfl, ?_⟩
 refine aj <| ae <| af <| ay <| aK 1 [] (.n 74 (pt g1 0) (.ss .a)) qe (by kernel_rfl) ?_
 refine au ?_
 obtain ⟨jW, BB, hm⟩ := ob hm
 obtain ⟨PV, PW, KX, S_, PX, Tc, hb8⟩ := KW.go (.i (.r (.r .e)))
 refine ax [] 75 _ sD (by kernel_rfl) (g_ (F := PV) (O := PW) _ _ _ _ KX _ BB) ?_
 rintro e_ N8 ⟨rfl, I8⟩
 have KY := hb8 N8 _ _ I8 (.c .n)
 refine ⟨.u64 jW.1, rfl, ?_⟩
 refine au ?_
 obtain ⟨d_, wI, hm⟩ := ob hm
 refine ax [] 76 _ yP (by kernel_rfl) (nX (F := N0) (O := N0) _ (Cx.refl _) _ wI) ?_
 rintro e_ PY ⟨rfl, KZ⟩
 have F9 := KY.call KZ
 refine ⟨I d_, rfl, ?_⟩
 refine aK 2 [] (.n 78 (pt g2 2) (.k (.ss .a))) (qs g2 0 <| qs g2 0 <| qe) (by kernel_rfl) ?_
 refine au <| dZ [] 2 (I d_) [I d_] (Pt.at g2 2) F9 rfl (.kk .h) (by kernel_rfl) (by kernel_rfl) ?_
 intro PZ K_
 refine aj <| ae <| af <| ay <| aK 1 [] (.n 79 (pt g1 0) (.ss .a)) qe (by kernel_rfl) ?_
 refine au ?_
 have La := K_.dm (.kk (.k .e))
 obtain ⟨jR, wJ, hm⟩ := ob hm
 obtain ⟨P5, P6, Ld, Td, P7, Tf, P8⟩ := La.go (.i (.r (.r .e)))
 refine ax [] 80 _ lg (by kernel_rfl) (dF (F := P5) (O := P6) _ _ _ _ _ Ld _ wJ) ?_
 rintro e_ N9 ⟨rfl, Le⟩
 have Lh := P8 N9 _ _ Le (.c .n)
 refine ⟨.fV [], rfl, ?_⟩
 refine aj <| ae <| af <| ay <| aK 1 [] (.n 81 (pt g1 0) (.ss .a)) qe (by kernel_rfl) ?_
 refine au ?_
 obtain ⟨kJ, wK, hm⟩ := ob hm
 obtain ⟨Lj, Ll, F_, P9, N_, P_, Lm⟩ := Lh.go (.i (.r (.r .e)))
 refine ax [] 82 _ sD (by kernel_rfl) (g_ (F := Lj) (O := Ll) _ _ _ _ F_ _ wK) ?_
 rintro e_ Qa ⟨rfl, Lp⟩
 have Lr := Lm Qa _ _ Lp (.c .n)
 refine ⟨.u64 kJ.1, rfl, ?_⟩
 refine au ?_
 obtain ⟨je, wL, hm⟩ := ob hm
 refine ax [] 83 _ yP (by kernel_rfl) (nX (F := N0) (O := N0) _ (Cx.refl _) _ wL) ?_
 rintro e_ Ti ⟨rfl, Lt⟩
 have Lu := Lr.call Lt
 refine ⟨I je, rfl, ?_⟩
 refine aK 2 [] (.n 85 (pt g2 3) (.k (.ss .a))) (qs g2 0 <| qs g2 0 <| qe) (by kernel_rfl) ?_
 refine au <| dZ [] 2 (I je) [I je] (Pt.at g2 3) Lu rfl (.kk (.k .h)) (by kernel_rfl) (by kernel_rfl) ?_
 intro Tj LC
 refine aj <| ae <| af <| ay <| aK 1 [] (.n 86 (pt g1 0) (.ss .a)) qe (by kernel_rfl) ?_
 refine au ?_
 have zO := LC.dm (.kk (.k .e))
 obtain ⟨xq, BC, hm⟩ := ob hm
 obtain ⟨LD, LG, Gf, Qb, Oa, Qc, LH⟩ := zO.go (.i (.r (.r .e)))
 refine ax [] 87 _ lg (by kernel_rfl) (dF (F := LD) (O := LG) _ _ _ _ _ Gf _ BC) ?_
 rintro e_ Qd ⟨rfl, LJ⟩
 have Gg := LH Qd _ _ LJ (.c .n)
 refine ⟨.fV [], rfl, ?_⟩
 refine aj <| ae <| af <| ay <| aK 1 [] (.n 89 (pt g1 0) (.ss .a)) qe (by kernel_rfl) ?_
 refine au ?_
 obtain ⟨rY, LK, hm⟩ := ob hm
 obtain ⟨Qe, Qg, Ob, Tm, RI, Tn, Qh⟩ := Gg.go (.i (.r (.r .e)))
 refine ax [] 90 _ CE (by kernel_rfl) (lZ (F := Qe) (O := Qg) _ _ _ _ Ob _ LK) ?_
 rintro e_ Qi ⟨rfl, LM⟩
 have I9 := Qh Qi _ _ LM (.c .n)
 refine ⟨.fV [.s rY.1, I rY.2.1], rfl, ?_⟩
 refine aK 5 [] (.n 7 (.s rY.1) (.n 8 (I rY.2.1) (.ss .a))) qe (by kernel_rfl) ?_
 refine aj <| ae <| af <| ay <| aK 1 [] (.n 93 (pt g1 0) .a) qe (by kernel_rfl) ?_
 refine au ?_
 obtain ⟨H7, LP, hm⟩ := ob hm
 obtain ⟨Qj, Qk, Oc, Tq, RJ, Tt, Ql⟩ := I9.go (.i (.r (.r .e)))
 refine ax [] 94 _ lg (by kernel_rfl) (dF (F := Qj) (O := Qk) _ _ _ _ _ Oc _ LP) ?_
 rintro e_ Qm ⟨rfl, LQ⟩
 have LU := Ql Qm _ _ LQ (.c .n)
 refine ⟨.fV [], rfl, ?_⟩
 refine aj <| ae <| af <| ay <| aK 1 [] (.n 96 (pt g1 0) (.ss .a)) qe (by kernel_rfl) ?_
 refine au ?_
 obtain ⟨kK, LV, hm⟩ := ob hm
 obtain ⟨Qn, Qo, Oe, Tu, RN, Tv, Qp⟩ := LU.go (.i (.r (.r .e)))
 refine ax [] 97 _ CE (by kernel_rfl) (lZ (F := Qn) (O := Qo) _ _ _ _ Oe _ LV) ?_
 rintro e_ Qq ⟨rfl, Gh⟩
 have Ee := Qp Qq _ _ Gh (.c .n)
 refine ⟨.fV [.s kK.1, I kK.2.1], rfl, ?_⟩
 refine aK 5 [] (.n 9 (.s kK.1) (.n 10 (I kK.2.1) (.ss .a))) qe (by kernel_rfl) ?_
 refine aj <| ae <| af <| af <| aP [] (.n 113 (.b ((!kK.2.2.2.2) || (decide (kK.2.2.2.1 < (s_.length : Int))))) (.kD (.s .a))) (qs g1 0 <| qs g1 0 <| qB Ee 0 rfl 2 (.b kK.2.2.2.2) (by kernel_rfl) <| qp ((!kK.2.2.2.2) = false → (some ⟨g1, 0, none⟩ : Option Addr).isSome = true) (fun hg0 => rfl) <| qp ((!kK.2.2.2.2) = false → (some ⟨g1, 0, none⟩ : Option Addr).isSome = true) (fun hg0 => rfl) <| qo (I kK.2.2.2.1) <| qc (fun w => (!kK.2.2.2.2) = false → ∃ a, (some ⟨g1, 1, none⟩ : Option Addr) = some a ∧ w.cell? a = some (SV.val (I kK.2.2.2.1))) (fun hg0 => Ee.jY 0 rfl 1 (I kK.2.2.2.1) (by kernel_rfl)) <| qe) (by kernel_rfl) ?_
 refine ae <| aN ((!kK.2.2.2.2) || (decide (kK.2.2.2.1 < (s_.length : Int)))) (by kernel_rfl) (fun hc3 => ?_) (fun hc3 => ?_)
 · rw [if_pos hc3] at hm
   refine af ?_
   have Gi := Ee.drew 1
   refine B_ bu (.q 0 0 (.q 1 1 (.q 2 1 (.q 3 1 (.q 4 1 (.op 5 (.q 6 1 (.q 7 1 .nil)))))))) [5] Gi (.c (.k (.s (.k .e))) .l) (by kernel_rfl) (fun _ => ?_)
   refine jT 1 0 [] (.n 114 (.agg [I 0, I 0, I 0, I 0, I 0, sl none 0 0, sl none 0 0]) (.kF (.s (.kk .z)))) (fun x hx => qe) (by kernel_rfl) (fun _ => ?_)
   refine jT 4 1 [] (.n 118 (I kK.2.2.2.1) (.kk .z)) (fun x hx => qs g1 0 <| qs g1 0 <| qB hx 0 rfl 1 (I kK.2.2.2.1) (by kernel_rfl) <| qe) (by kernel_rfl) (fun _ => ?_)
   refine jX (by kernel_rfl) rfl ?_
   have Gj := Gi.dm (.kk (.k .e))
   refine dZ [] 1 (.agg [I 0, I 0, I 0, I 0, I 0, sl none 0 0, sl none 0 0]) [I 0, I 0, I 0, I 0, I 0, sl none 0 0, sl none 0 0] (Pt.at g 0) Gj rfl .all (by kernel_rfl) (by kernel_rfl) ?_
   intro Tz LW
   refine ⟨(LW.dm (.k (.s (.k .e)))), fun _ => ?_⟩
   refine jT 2 1 [] (.n 3 (I kK.2.2.2.1) (.n 4 (I 4) (.ss .a))) (fun x hx => qe) (by kernel_rfl) (fun _ => ?_)
   refine iU <| ae <| aF (aJ ?_)
   have Qr := LW.nil e8
   have Qs := Qr.nil e8
   obtain rfl := Option.some.inj hm
   refine aG [.agg [I 0, I 0, I 0, I 0, I 0, sl none 0 0, sl none 0 0], I kK.2.2.2.1, I 4] (qo (.agg [I 0, I 0, I 0, I 0, I 0, sl none 0 0, sl none 0 0]) <| qc (fun w => Rd w (some ⟨g, 0, none⟩) (SV.cl [I 0, I 0, I 0, I 0, I 0, sl none 0 0, sl none 0 0])) (LW.xe 1 rfl) <| qe) (by kernel_rfl) ?_
   have LX := Qs.dm (.ss (.s (.kk .e)))
   exact ⟨none, 0, 0, none, 0, 0, LX.len 0 rfl, LX.len 1 rfl, rfl, LX⟩
 rw [if_neg (by rw [hc3]; decide)] at hm
 refine aH <| ae <| af <| aP [] (.s (.kD (.k (.s .a)))) qe (by kernel_rfl) ?_
 refine ae <| af <| af <| ay <| aK 1 [] (.n 120 (.s rY.1) (.kk (.s .a))) qe (by kernel_rfl) ?_
 refine au ?_
 have Qu := Ee.dm (.kk (.k .e))
 obtain ⟨lQ, LY, hm⟩ := ob hm
 refine ax [] 121 _ CG (by kernel_rfl) (oD (F := N0) (O := N0) _ (Cx.refl _) _ LY) ?_
 rintro e_ TA ⟨A0, _, c0, rfl, rfl, Qv⟩
 have Qw := Qu.call Qv
 refine ⟨.fV [sl A0 lQ.1.length c0, I lQ.2.1, I lQ.2.2], rfl, ?_⟩
 have Qx := Qw.dm (.s (.kk (.k .e)))
 refine aK 5 [] (.n 122 (sl A0 lQ.1.length c0) (.n 124 (I lQ.2.2) (.n 125 (pt g2 5) (.ss .a)))) (qs g2 0 <| qe) (by kernel_rfl) ?_
 refine au <| dZ [] 1 (sl A0 lQ.1.length c0) [sl A0 lQ.1.length c0] (Pt.at g2 5) Qx rfl (.kD (.k .h)) (by kernel_rfl) (by kernel_rfl) ?_
 intro TB Og
 refine aK 1 [] (.n 11 (I lQ.2.2) (.nG .a)) qe (by kernel_rfl) ?_
 refine aj <| ae <| af <| aP [] (.n 127 (.b (decide (lQ.2.2 ≠ 0))) (.s .a)) qe (by kernel_rfl) ?_
 refine ae <| aQ (lQ.2.2 ≠ 0) (by kernel_rfl) (fun hc4 => ?_) (fun hc4 => ?_)
 · rw [if_pos hc4] at hm
   refine af <| ay <| aK 2 [] (.n 128 (.agg [I 0, I 0, I 0, I 0, I 0, sl none 0 0, sl none 0 0]) (.n 129 (I rY.2.1) (.kF (.k .z)))) qe (by kernel_rfl) ?_
   refine au <| dZ [] 0 (.agg [I 0, I 0, I 0, I 0, I 0, sl none 0 0, sl none 0 0]) [I 0, I 0, I 0, I 0, I 0, sl none 0 0, sl none 0 0] (Pt.at g 0) Og rfl .all (by kernel_rfl) (by kernel_rfl) ?_
   intro TC Qy
   have Oh := Qy.dm (.k .z)
   refine aK 2 [] (.n 3 (I rY.2.1) (.n 4 (I 4) (.ss .a))) qe (by kernel_rfl) ?_
   refine aj <| ae <| aF (aJ ?_)
   have Qz := Oh.nil e8
   have QA := Qz.nil e8
   obtain rfl := Option.some.inj hm
   refine aG [.agg [I 0, I 0, I 0, I 0, I 0, sl none 0 0, sl none 0 0], I rY.2.1, I 4] (qo (.agg [I 0, I 0, I 0, I 0, I 0, sl none 0 0, sl none 0 0]) <| qc (fun w => Rd w (some ⟨g, 0, none⟩) (SV.cl [I 0, I 0, I 0, I 0, I 0, sl none 0 0, sl none 0 0])) (Oh.xe 0 rfl) <| qe) (by kernel_rfl) ?_
   have LZ := QA.dm (.s (.kk .e))
   exact ⟨none, 0, 0, none, 0, 0, LZ.len 0 rfl, LZ.len 1 rfl, rfl, LZ⟩
 rw [if_neg hc4] at hm
 refine aH <| ae <| af <| af <| ay <| aK 1 [] (.n 131 (.s kK.1) (.ss (.k (.s .a)))) qe (by kernel_rfl) ?_
 refine au ?_
 obtain ⟨iY, L6, hm⟩ := ob hm
 refine ax [] 132 _ CG (by kernel_rfl) (oD (F := N0) (O := N0) _ (Cx.refl _) _ L6) ?_
 rintro e_ TD ⟨A2, _, c2, rfl, rfl, QB⟩
 have QC := Og.call QB
 refine ⟨.fV [sl A2 iY.1.length c2, I iY.2.1, I iY.2.2], rfl, ?_⟩
 refine aK 5 [] (.n 133 (sl A2 iY.1.length c2) (.n 135 (I iY.2.2) (.n 136 (pt g2 6) (.ss .a)))) (qs g2 0 <| qe) (by kernel_rfl) ?_
 refine au <| dZ [] 1 (sl A2 iY.1.length c2) [sl A2 iY.1.length c2] (Pt.at g2 6) QC rfl (.kD (.kk .h)) (by kernel_rfl) (by kernel_rfl) ?_
 intro TE L8
 refine aK 1 [] (.n 11 (I iY.2.2) (.nG .a)) qe (by kernel_rfl) ?_
 refine aj <| ae <| af <| aP [] (.n 138 (.b (decide (iY.2.2 ≠ 0))) (.s .a)) qe (by kernel_rfl) ?_
 refine ae <| aQ (iY.2.2 ≠ 0) (by kernel_rfl) (fun hc5 => ?_) (fun hc5 => ?_)
 · rw [if_pos hc5] at hm
   refine af <| ay <| aK 2 [] (.n 139 (.agg [I 0, I 0, I 0, I 0, I 0, sl none 0 0, sl none 0 0]) (.n 140 (I kK.2.1) (.ss (.k .z)))) qe (by kernel_rfl) ?_
   refine au ?_
   have QD := L8.dm (.kD .e)
   refine dZ [] 0 (.agg [I 0, I 0, I 0, I 0, I 0, sl none 0 0, sl none 0 0]) [I 0, I 0, I 0, I 0, I 0, sl none 0 0, sl none 0 0] (Pt.at g 0) QD rfl .all (by kernel_rfl) (by kernel_rfl) ?_
   intro TG QE
   have Oi := QE.dm (.k .z)
   refine aK 2 [] (.n 3 (I kK.2.1) (.n 4 (I 4) (.ss .a))) qe (by kernel_rfl) ?_
   refine aj <| ae <| aF (aJ ?_)
   have QG := Oi.nil e8
   have QH := QG.nil e8
   obtain rfl := Option.some.inj hm
   refine aG [.agg [I 0, I 0, I 0, I 0, I 0, sl none 0 0, sl none 0 0], I kK.2.1, I 4] (qo (.agg [I 0, I 0, I 0, I 0, I 0, sl none 0 0, sl none 0 0]) <| qc (fun w => Rd w (some ⟨g, 0, none⟩) (SV.cl [I 0, I 0, I 0, I 0, I 0, sl none 0 0, sl none 0 0])) (Oi.xe 0 rfl) <| qe) (by kernel_rfl) ?_
   have L9 := QH.dm (.s (.kk .e))
   exact ⟨none, 0, 0, none, 0, 0, L9.len 0 rfl, L9.len 1 rfl, rfl, L9⟩
 rw [if_neg hc5] at hm
 refine aH <| ae <| af <| ay <| aK 5 [] (.n 143 (I ((iY.1.length : Nat) : Int)) (.n 145 (pt g2 4) (.ss .a))) (qs g2 0 <| qB L8 1 rfl 6 (sl A2 iY.1.length c2) (by kernel_rfl) <| qs g2 0 <| qs g2 0 <| qe) (by kernel_rfl) ?_
 refine au ?_
 have QI := L8.dm (.kD .e)
 refine dZ [] 1 (I ((iY.1.length : Nat) : Int)) [I ((iY.1.length : Nat) : Int)] (Pt.at g2 4) QI rfl (.kD .h) (by kernel_rfl) (by kernel_rfl) ?_
 intro TI zQ
 refine aj <| ae <| af <| af <| ay <| aK 1 [] (.n 146 (.agg [I t, I jy, I d_, I je, I ((iY.1.length : Nat) : Int), sl A0 lQ.1.length c0, sl A2 iY.1.length c2]) (.ss .a)) (qT zQ 1 rfl 0 7 [I t, I jy, I d_, I je, I ((iY.1.length : Nat) : Int), sl A0 lQ.1.length c0, sl A2 iY.1.length c2] (by kernel_rfl) (by decide) <| qe) (by kernel_rfl) ?_
 refine au ?_
 obtain ⟨Fv, Mc, hm⟩ := ob hm
 refine ax [] 147 _ IE (by kernel_rfl) (yX (F := N0) (O := N0) _ _ _ _ _ _ _ _ _ _ _ _ _ (Ro.n0 (zQ.rd 2 rfl)) (zQ.len 2 rfl) (zQ.J7 2 rfl) (Ro.n0 (zQ.rd 3 rfl)) (zQ.len 3 rfl) (zQ.J7 3 rfl) (Cx.refl _) _ Mc) ?_
 rintro e_ TJ ⟨rfl, QJ⟩
 have Md := zQ.call QJ
 refine ⟨I Fv, rfl, ?_⟩
 refine aK 1 [] (.n 148 (.b (decide (Fv ≠ 0))) (.ss .a)) qe (by kernel_rfl) ?_
 refine aj <| ae <| aQ (Fv ≠ 0) (by kernel_rfl) (fun hc6 => ?_) (fun hc6 => ?_)
 · rw [if_pos hc6] at hm
   refine af <| ay <| aK 1 [] (.n 149 (.agg [I 0, I 0, I 0, I 0, I 0, sl none 0 0, sl none 0 0]) (.s (.k .z))) qe (by kernel_rfl) ?_
   refine au <| dZ [] 0 (.agg [I 0, I 0, I 0, I 0, I 0, sl none 0 0, sl none 0 0]) [I 0, I 0, I 0, I 0, I 0, sl none 0 0, sl none 0 0] (Pt.at g 0) Md rfl .all (by kernel_rfl) (by kernel_rfl) ?_
   intro TK QK
   have Oj := QK.dm (.k .z)
   refine aK 2 [] (.n 3 (I 0) (.n 4 (I 1) (.s .a))) qe (by kernel_rfl) ?_
   refine aj <| ae <| aF (aJ ?_)
   have QL := Oj.nil e8
   have Ol := QL.nil e8
   obtain rfl := Option.some.inj hm
   refine aG [.agg [I 0, I 0, I 0, I 0, I 0, sl none 0 0, sl none 0 0], I 0, I 1] (qo (.agg [I 0, I 0, I 0, I 0, I 0, sl none 0 0, sl none 0 0]) <| qc (fun w => Rd w (some ⟨g, 0, none⟩) (SV.cl [I 0, I 0, I 0, I 0, I 0, sl none 0 0, sl none 0 0])) (Oj.xe 0 rfl) <| qe) (by kernel_rfl) ?_
   have Gl := Ol.dm (.s (.kk .e))
   exact ⟨none, 0, 0, none, 0, 0, Gl.len 0 rfl, Gl.len 1 rfl, rfl, Gl⟩
 rw [if_neg hc6] at hm
 refine aH <| ae <| af <| ay <| aK 1 [] (.n 150 (.agg [I t, I jy, I d_, I je, I ((iY.1.length : Nat) : Int), sl A0 lQ.1.length c0, sl A2 iY.1.length c2]) (.s (.k .z))) (qT Md 1 rfl 0 7 [I t, I jy, I d_, I je, I ((iY.1.length : Nat) : Int), sl A0 lQ.1.length c0, sl A2 iY.1.length c2] (by kernel_rfl) (by decide) <| qe) (by kernel_rfl) ?_
 refine au <| dZ [] 0 (.agg [I t, I jy, I d_, I je, I ((iY.1.length : Nat) : Int), sl A0 lQ.1.length c0, sl A2 iY.1.length c2]) [I t, I jy, I d_, I je, I ((iY.1.length : Nat) : Int), sl A0 lQ.1.length c0, sl A2 iY.1.length c2] (Pt.at g 0) Md rfl .all (by kernel_rfl) (by kernel_rfl) ?_
 intro TL Om
 have JB := Om.dm (.k (.s (.kk .e)))
 refine aK 2 [] (.n 3 (I 0) (.n 4 (I 0) (.s .a))) qe (by kernel_rfl) ?_
 refine aj <| ae <| aF ?_
 obtain rfl := Option.some.inj hm
 refine aG [.agg [I t, I jy, I d_, I je, I ((iY.1.length : Nat) : Int), sl A0 lQ.1.length c0, sl A2 iY.1.length c2], I 0, I 0] (qo (.agg [I t, I jy, I d_, I je, I ((iY.1.length : Nat) : Int), sl A0 lQ.1.length c0, sl A2 iY.1.length c2]) <| qc (fun w => Rd w (some ⟨g, 0, none⟩) (SV.cl [I t, I jy, I d_, I je, I ((iY.1.length : Nat) : Int), sl A0 lQ.1.length c0, sl A2 iY.1.length c2])) (JB.xe 0 rfl) <| qe) (by kernel_rfl) ?_
 have Gm := JB.dm (.s (.kk .e))
 exact ⟨A0, lQ.1.length, c0, A2, iY.1.length, c2, Gm.len 0 rfl, Gm.len 1 rfl, rfl, Gm⟩
theorem uu {F O : Nat → Prop} {w : World} (s_ : List UInt8) (most : Int) (k : Cx F O w w []) (r : (List UInt8 × List UInt8 × Int × UInt64 × Bool)) (hm : kz s_ most = some r) :
    Calls Tryz.prog 12 (vals [.s s_, I most]) w (fun e w' => e = .returned (SV.val (.fV [.agg [.s r.1, .s r.2.1, I r.2.2.1, .u64 r.2.2.2.1], .b r.2.2.2.2])) ∧ Cx F O w w' []) := by
 unfold kz at hm
 refine calls [.s s_, I most] Tryz.func12 rfl (of_decide_eq_true (by kernel_rfl)) ?_
 refine af <| ay <| au <| iH [] 4 [.s ([] : List UInt8), .s ([] : List UInt8), I 0, .u64 0] (by kernel_rfl) k ?_
 intro g w_ k_
 refine aK 1 [] .a qe (by kernel_rfl) ?_
 refine aj <| ae <| af <| ay <| aK 1 [] (.n 14 (.s s_) (.k (.s .a))) qe (by kernel_rfl) ?_
 refine au ?_
 obtain ⟨r_, fC, hm⟩ := ob hm
 refine ax [] 15 _ Iz (by kernel_rfl) (tK (F := N0) (O := N0) _ (Cx.refl _) _ fC) ?_
 rintro e_ qF ⟨A, _, c, rfl, rfl, fQ⟩
 have eX := k_.call fQ
 refine ⟨sl A r_.length c, rfl, ?_⟩
 refine aK 1 [] (.n 6 (sl A r_.length c) (.ss .a)) qe (by kernel_rfl) ?_
 refine aj <| ae <| af <| af <| ay <| aK 4 [] (.n 19 (.b (decide (((r_.length : Nat) : Int) ≠ 4))) .a) qe (by kernel_rfl) ?_
 refine oq 19 (decide (((r_.length : Nat) : Int) ≠ 4)) (.s .a) (by kernel_rfl) (fun hg => ?_) (fun hg => ?_)
 · rw [if_pos (of_decide_eq_true hg)] at hm
   refine aK 6 [19] (.n 25 (.b true) (.s .a)) qe (by kernel_rfl) ?_
   refine aj <| ae <| aN true (by kernel_rfl) (fun _ => ?_) (fun h => by cases h)
   refine af <| ay <| aK 1 [] (.n 26 (.agg [.s ([] : List UInt8), .s ([] : List UInt8), I 0, .u64 0]) (.ss (.k .z))) qe (by kernel_rfl) ?_
   refine au <| dZ [] 0 (.agg [.s ([] : List UInt8), .s ([] : List UInt8), I 0, .u64 0]) [.s ([] : List UInt8), .s ([] : List UInt8), I 0, .u64 0] (Pt.at g 0) eX rfl .all (by kernel_rfl) (by kernel_rfl) ?_
   intro uq gG
   have jV := gG.dm (.k .z)
   refine aK 1 [] (.n 5 (.b false) (.s .a)) qe (by kernel_rfl) ?_
   refine aj <| ae <| aF (aJ ?_)
   obtain rfl := Option.some.inj hm
   refine aG [.agg [.s ([] : List UInt8), .s ([] : List UInt8), I 0, .u64 0], .b false] (qo (.agg [.s ([] : List UInt8), .s ([] : List UInt8), I 0, .u64 0]) <| qc (fun w => Rd w (some ⟨g, 0, none⟩) (SV.cl [.s ([] : List UInt8), .s ([] : List UInt8), I 0, .u64 0])) (jV.xe 0 rfl) <| qe) (by kernel_rfl) ?_
   have jG := jV.dm .z
   exact ⟨rfl, jG⟩
 · rw [if_neg (of_decide_eq_false hg)] at hm
   obtain ⟨gm, nJ, hm⟩ := ob hm
   refine aK 3 [19] (.n 22 (.s gm) .a) (qW (eX.rd 1 rfl) nJ (eX.len 1 rfl) (.s gm) rfl <| qe) (by kernel_rfl) ?_
   refine au ?_
   obtain ⟨bQ, l_, hm⟩ := ob hm
   refine ax [19] 23 _ IA (by kernel_rfl) (yV (F := N0) (O := N0) _ (Cx.refl _) _ l_) ?_
   rintro e_ xU ⟨rfl, mD⟩
   have jA := eX.call mD
   refine ⟨.b bQ, rfl, ?_⟩
   refine aK 2 [19] (.n 25 (.b (!bQ)) (.nG .a)) qe (by kernel_rfl) ?_
   refine aj <| ae <| aN (!bQ) (by kernel_rfl) (fun hc => ?_) (fun hc => ?_)
   · rw [if_pos hc] at hm
     refine af <| ay <| aK 1 [] (.n 26 (.agg [.s ([] : List UInt8), .s ([] : List UInt8), I 0, .u64 0]) (.ss (.k .z))) qe (by kernel_rfl) ?_
     refine au <| dZ [] 0 (.agg [.s ([] : List UInt8), .s ([] : List UInt8), I 0, .u64 0]) [.s ([] : List UInt8), .s ([] : List UInt8), I 0, .u64 0] (Pt.at g 0) jA rfl .all (by kernel_rfl) (by kernel_rfl) ?_
     intro Bf lX
     have qH := lX.dm (.k .z)
     refine aK 1 [] (.n 5 (.b false) (.s .a)) qe (by kernel_rfl) ?_
     refine aj <| ae <| aF (aJ ?_)
     obtain rfl := Option.some.inj hm
     refine aG [.agg [.s ([] : List UInt8), .s ([] : List UInt8), I 0, .u64 0], .b false] (qo (.agg [.s ([] : List UInt8), .s ([] : List UInt8), I 0, .u64 0]) <| qc (fun w => Rd w (some ⟨g, 0, none⟩) (SV.cl [.s ([] : List UInt8), .s ([] : List UInt8), I 0, .u64 0])) (qH.xe 0 rfl) <| qe) (by kernel_rfl) ?_
     have jF := qH.dm .z
     exact ⟨rfl, jF⟩
   rw [if_neg (by rw [hc]; decide)] at hm
   refine aH <| ae <| af <| Ko (fun L wr => ∃ (p : List UInt8) (q : List UInt8) (g1 : Nat) (g2 : Nat), jD most r_ p q = some r ∧ L = [(1, I most), (4, pt g 0), (6, sl A r_.length c), (7, pt g1 0), (8, pt g2 0)] ∧ Cx F O w wr [Bx 45 g [.s ([] : List UInt8), .s ([] : List UInt8), I 0, .u64 0], Ow eS A r_.length c r_, Bx 78 g1 [.s p, I 0, .b true], Bx 78 g2 [.s q, I 0, .b true]]) ?_ ?_
   ·
    have ji := jA.drew 1
    refine B_ bu (.q 0 2 (.q 1 2 (.q 2 1 (.q 3 1 (.q 5 2 (.q 6 2 (.q 7 1 (.q 8 1 (.br 4 9 (.q 10 2 (.op 9 (.q 11 2 .nil))) (.op 4 (.q 10 2 (.q 11 2 .nil)))))))))))) [4, 9] ji (.c (.kk .e) (.c (.kk .e) .l)) (by kernel_rfl) (fun _ => ?_)
    obtain ⟨zF, CU, hm⟩ := ob hm
    refine jT 2 2 [] (.n 28 (.v (.pointer (zn A (1 : Int) 1))) (.s .a)) (fun x hx => qJ (hx.rd 1 rfl) CU (ji.len 1 rfl) <| qe) (by kernel_rfl) (fun _ => ?_)
    refine jT 2 1 [] (.n 30 (.agg [.s zF, I 0, .b true]) (.s .a)) (fun x hx => qC (.s zF) (Rd.el (k := 0) (hx.rd 1 rfl) CU (Pt.Hq A (1 : Int) 1) rfl) <| qe) (by kernel_rfl) (fun _ => ?_)
    obtain ⟨zG, CV, hm⟩ := ob hm
    refine jT 2 2 [] (.n 33 (.v (.pointer (zn A (2 : Int) 1))) .a) (fun x hx => qJ (hx.rd 1 rfl) CV (ji.len 1 rfl) <| qe) (by kernel_rfl) (fun _ => ?_)
    refine jT 2 1 [] (.n 35 (.agg [.s zG, I 0, .b true]) (.s .a)) (fun x hx => qC (.s zG) (Rd.el (k := 0) (hx.rd 1 rfl) CV (Pt.Hq A (2 : Int) 1) rfl) <| qe) (by kernel_rfl) (fun _ => ?_)
    refine Ny (by kernel_rfl) (by kernel_rfl) rfl rfl ?_ ?_
    ·
     refine ik [] 31 (.agg [.s zF, I 0, .b true]) [.s zF, I 0, .b true] (by kernel_rfl) ji ?_
     intro g3 D9 jk
     refine ⟨(jk.dm (.kk .z)), fun _ => ?_⟩
     refine jT 1 2 [] (.n 7 (pt g3 0) (.s (.k (.s .a)))) (fun x hx => qe) (by kernel_rfl) (fun _ => ?_)
     refine jX (by kernel_rfl) rfl ?_
     have kR := jk.dm (.kk (.k .e))
     refine ik [] 36 (.agg [.s zG, I 0, .b true]) [.s zG, I 0, .b true] (by kernel_rfl) kR ?_
     intro g4 Es lS
     refine ⟨(lS.dm (.kk .z)), fun _ => ?_⟩
     refine jT 1 2 [] (.n 8 (pt g4 0) (.s (.k (.s .a)))) (fun x hx => qe) (by kernel_rfl) (fun _ => ?_)
     refine iU ?_
     exact mi ⟨zF, zG, g3, g4, hm, rfl, lS⟩ (by kernel_rfl)
    ·
     refine ik [] 36 (.agg [.s zG, I 0, .b true]) [.s zG, I 0, .b true] (by kernel_rfl) ji ?_
     intro g3 D9 jk
     refine ⟨(jk.dm (.kk .z)), fun _ => ?_⟩
     refine jX (by kernel_rfl) rfl ?_
     have kR := jk.dm (.kk (.k .e))
     refine ik [] 31 (.agg [.s zF, I 0, .b true]) [.s zF, I 0, .b true] (by kernel_rfl) kR ?_
     intro g4 Es lS
     refine ⟨(lS.dm (.kk .z)), fun _ => ?_⟩
     refine jT 2 2 [] (.n 7 (pt g4 0) (.n 8 (pt g3 0) (.kF .a))) (fun x hx => qe) (by kernel_rfl) (fun _ => ?_)
     refine iU ?_
     have lF := (((lS.pk (.t (.t .h))).pk (.t (.t (.t .h)))).pk (.t (.t (.t .h)))).pk (.t (.t (.t .h)))
     exact mi ⟨zF, zG, g4, g3, hm, rfl, lF⟩ (by kernel_rfl)
   rintro L_ G9 ⟨p, q, g1, g2, hm, rfl, oG⟩
   simp only [jD] at hm
   refine ae <| af <| ay <| aK 1 [] (.n 37 (pt g1 0) .a) qe (by kernel_rfl) ?_
   refine au ?_
   obtain ⟨aX, pJ, hm⟩ := ob hm
   obtain ⟨F1, O1, kin, hO, hre, hF, hb⟩ := oG.go (.r (.r (.i (.r .e))))
   refine ax [] 38 _ sD (by kernel_rfl) (g_ (F := F1) (O := O1) _ _ _ _ kin _ pJ) ?_
   rintro e_ JA ⟨rfl, rC⟩
   have sH := hb JA _ _ rC (.c .n)
   refine ⟨.u64 aX.1, rfl, ?_⟩
   refine aK 1 [] (.n 39 (pt g2 0) (.k (.s .a))) qe (by kernel_rfl) ?_
   refine au ?_
   obtain ⟨gy, pK, hm⟩ := ob hm
   obtain ⟨F11, KN, Bi, Pq, I5, hF1, hb1⟩ := sH.go (.r (.r (.r (.i .e))))
   refine ax [] 40 _ sD (by kernel_rfl) (g_ (F := F11) (O := KN) _ _ _ _ Bi _ pK) ?_
   rintro e_ KL ⟨rfl, sK⟩
   have lG := hb1 KL _ _ sK (.c .n)
   refine ⟨.u64 gy.1, rfl, ?_⟩
   refine aK 2 [] (.n 9 (.u64 aX.1) (.n 10 (.u64 gy.1) (.nG .a))) qe (by kernel_rfl) ?_
   refine aj <| ae <| af <| af <| zh bu (by kernel_rfl) (.n 82 (.b (((((!aX.2.2.2) || (!gy.2.2.2)) || (decide (aX.2.2.1 < (aX.2.1.length : Int)))) || (decide (gy.2.2.1 < (gy.2.1.length : Int)))) || (decide ((UInt64.ofInt most) ≤ aX.1)))) (.kk (.s (.kk .z)))) (fun m => qs g1 0 <| qs g1 0 <| qB (lG.drew m) 1 rfl 2 (.b aX.2.2.2) (by kernel_rfl) <| qp ((!aX.2.2.2) = false → (some ⟨g2, 0, none⟩ : Option Addr).isSome = true) (fun hg0 => rfl) <| qp ((!aX.2.2.2) = false → (some ⟨g2, 0, none⟩ : Option Addr).isSome = true) (fun hg0 => rfl) <| qo (.b gy.2.2.2) <| qc (fun w => (!aX.2.2.2) = false → ∃ a, (some ⟨g2, 2, none⟩ : Option Addr) = some a ∧ w.cell? a = some (SV.val (.b gy.2.2.2))) (fun hg0 => (lG.drew m).jY 0 rfl 2 (.b gy.2.2.2) (by kernel_rfl)) <| qp (((!aX.2.2.2) || (!gy.2.2.2)) = false → (some ⟨g1, 0, none⟩ : Option Addr).isSome = true) (fun hg0 => rfl) <| qp (((!aX.2.2.2) || (!gy.2.2.2)) = false → (some ⟨g1, 0, none⟩ : Option Addr).isSome = true) (fun hg0 => rfl) <| qo (I aX.2.2.1) <| qc (fun w => ((!aX.2.2.2) || (!gy.2.2.2)) = false → ∃ a, (some ⟨g1, 1, none⟩ : Option Addr) = some a ∧ w.cell? a = some (SV.val (I aX.2.2.1))) (fun hg0 => (lG.drew m).jY 1 rfl 1 (I aX.2.2.1) (by kernel_rfl)) <| qp (((!aX.2.2.2) || (!gy.2.2.2)) = false → (some ⟨g1, 0, none⟩ : Option Addr).isSome = true) (fun hg0 => rfl) <| qp (((!aX.2.2.2) || (!gy.2.2.2)) = false → (some ⟨g1, 0, none⟩ : Option Addr).isSome = true) (fun hg0 => rfl) <| qo (.s aX.2.1) <| qc (fun w => ((!aX.2.2.2) || (!gy.2.2.2)) = false → ∃ a, (some ⟨g1, 0, none⟩ : Option Addr) = some a ∧ w.cell? a = some (SV.val (.s aX.2.1))) (fun hg0 => (lG.drew m).jY 1 rfl 0 (.s aX.2.1) (by kernel_rfl)) <| qp ((((!aX.2.2.2) || (!gy.2.2.2)) || (decide (aX.2.2.1 < (aX.2.1.length : Int)))) = false → (some ⟨g2, 0, none⟩ : Option Addr).isSome = true) (fun hg0 => rfl) <| qp ((((!aX.2.2.2) || (!gy.2.2.2)) || (decide (aX.2.2.1 < (aX.2.1.length : Int)))) = false → (some ⟨g2, 0, none⟩ : Option Addr).isSome = true) (fun hg0 => rfl) <| qo (I gy.2.2.1) <| qc (fun w => (((!aX.2.2.2) || (!gy.2.2.2)) || (decide (aX.2.2.1 < (aX.2.1.length : Int)))) = false → ∃ a, (some ⟨g2, 1, none⟩ : Option Addr) = some a ∧ w.cell? a = some (SV.val (I gy.2.2.1))) (fun hg0 => (lG.drew m).jY 0 rfl 1 (I gy.2.2.1) (by kernel_rfl)) <| qp ((((!aX.2.2.2) || (!gy.2.2.2)) || (decide (aX.2.2.1 < (aX.2.1.length : Int)))) = false → (some ⟨g2, 0, none⟩ : Option Addr).isSome = true) (fun hg0 => rfl) <| qp ((((!aX.2.2.2) || (!gy.2.2.2)) || (decide (aX.2.2.1 < (aX.2.1.length : Int)))) = false → (some ⟨g2, 0, none⟩ : Option Addr).isSome = true) (fun hg0 => rfl) <| qo (.s gy.2.1) <| qc (fun w => (((!aX.2.2.2) || (!gy.2.2.2)) || (decide (aX.2.2.1 < (aX.2.1.length : Int)))) = false → ∃ a, (some ⟨g2, 0, none⟩ : Option Addr) = some a ∧ w.cell? a = some (SV.val (.s gy.2.1))) (fun hg0 => (lG.drew m).jY 0 rfl 0 (.s gy.2.1) (by kernel_rfl)) <| qe) (by kernel_rfl) (fun m_ => ?_)
   have oH := lG.drew m_
   refine ae <| aN (((((!aX.2.2.2) || (!gy.2.2.2)) || (decide (aX.2.2.1 < (aX.2.1.length : Int)))) || (decide (gy.2.2.1 < (gy.2.1.length : Int)))) || (decide ((UInt64.ofInt most) ≤ aX.1))) (by kernel_rfl) (fun hc1 => ?_) (fun hc1 => ?_)
   · rw [if_pos hc1] at hm
     refine af <| ay <| aK 1 [] (.n 83 (.agg [.s ([] : List UInt8), .s ([] : List UInt8), I 0, .u64 0]) (.nG (.k .z))) qe (by kernel_rfl) ?_
     refine au <| dZ [] 2 (.agg [.s ([] : List UInt8), .s ([] : List UInt8), I 0, .u64 0]) [.s ([] : List UInt8), .s ([] : List UInt8), I 0, .u64 0] (Pt.at g 0) oH rfl .all (by kernel_rfl) (by kernel_rfl) ?_
     intro zI pM
     have qx := pM.dm (.ss (.k .z))
     refine aK 1 [] (.n 5 (.b false) (.s .a)) qe (by kernel_rfl) ?_
     refine aj <| ae <| aF (aJ ?_)
     obtain rfl := Option.some.inj hm
     refine aG [.agg [.s ([] : List UInt8), .s ([] : List UInt8), I 0, .u64 0], .b false] (qo (.agg [.s ([] : List UInt8), .s ([] : List UInt8), I 0, .u64 0]) <| qc (fun w => Rd w (some ⟨g, 0, none⟩) (SV.cl [.s ([] : List UInt8), .s ([] : List UInt8), I 0, .u64 0])) (qx.xe 0 rfl) <| qe) (by kernel_rfl) ?_
     have rD := qx.dm .z
     exact ⟨rfl, rD⟩
   rw [if_neg (by rw [hc1]; decide)] at hm
   refine aH <| ae <| af <| af <| ay ?_
   obtain ⟨Ic, Gn, hm⟩ := ob hm
   refine aK 3 [] (.n 87 (.s Ic) (.s .a)) (qW (oH.rd 3 rfl) Gn (oH.len 3 rfl) (.s Ic) rfl <| qe) (by kernel_rfl) ?_
   refine au ?_
   obtain ⟨dw, sJ, hm⟩ := ob hm
   refine ax [] 88 _ Ci (by kernel_rfl) (sG (F := N0) (O := N0) _ (Cx.refl _) _ sJ) ?_
   rintro e_ zJ ⟨A1, _, c1, A2, _, c2, rfl, rfl, rfl, nY⟩
   have tV := oH.call nY
   refine ⟨.fV [.agg [I dw.1, I dw.2.1, I dw.2.2.1, I dw.2.2.2.1, I dw.2.2.2.2.1, sl A1 dw.2.2.2.2.2.1.length c1, sl A2 dw.2.2.2.2.2.2.1.length c2], I dw.2.2.2.2.2.2.2.1, I dw.2.2.2.2.2.2.2.2], rfl, ?_⟩
   have rE := tV.dm (.ss (.kD .e))
   refine aK 4 [] (.n 89 (.agg [I dw.1, I dw.2.1, I dw.2.2.1, I dw.2.2.2.1, I dw.2.2.2.2.1, sl A1 dw.2.2.2.2.2.1.length c1, sl A2 dw.2.2.2.2.2.2.1.length c2]) (.n 90 (I dw.2.2.2.2.2.2.2.1) (.n 91 (I dw.2.2.2.2.2.2.2.2) (.ss .a)))) qe (by kernel_rfl) ?_
   refine au <| iH [] 11 [I 0, I 0, I 0, I 0, I 0, sl none 0 0, sl none 0 0] (by kernel_rfl) rE ?_
   intro g5 Bj rF
   refine au ?_
   have xx := rF.dm (.kD (.k .e))
   refine dZ [] 4 (.agg [I dw.1, I dw.2.1, I dw.2.2.1, I dw.2.2.2.1, I dw.2.2.2.2.1, sl A1 dw.2.2.2.2.2.1.length c1, sl A2 dw.2.2.2.2.2.2.1.length c2]) [I dw.1, I dw.2.1, I dw.2.2.1, I dw.2.2.2.1, I dw.2.2.2.2.1, sl A1 dw.2.2.2.2.2.1.length c1, sl A2 dw.2.2.2.2.2.2.1.length c2] (Pt.at g5 0) xx rfl .all (by kernel_rfl) (by kernel_rfl) ?_
   intro Eb xy
   have zL := xy.dm (.kk .z)
   refine aK 2 [] (.n 13 (I dw.2.2.2.2.2.2.2.2) (.kF .a)) qe (by kernel_rfl) ?_
   refine aj <| ae <| af <| aP [] (.n 93 (.b (decide (dw.2.2.2.2.2.2.2.2 ≠ 0))) (.s .a)) qe (by kernel_rfl) ?_
   refine ae <| aQ (dw.2.2.2.2.2.2.2.2 ≠ 0) (by kernel_rfl) (fun hc2 => ?_) (fun hc2 => ?_)
   · rw [if_pos hc2] at hm
     refine af <| ay <| aK 1 [] (.n 94 (.agg [.s ([] : List UInt8), .s ([] : List UInt8), I 0, .u64 0]) (.nG (.k .z))) qe (by kernel_rfl) ?_
     refine au <| dZ [] 0 (.agg [.s ([] : List UInt8), .s ([] : List UInt8), I 0, .u64 0]) [.s ([] : List UInt8), .s ([] : List UInt8), I 0, .u64 0] (Pt.at g 0) zL rfl .all (by kernel_rfl) (by kernel_rfl) ?_
     intro I7 Bo
     have wG := Bo.dm (.k .z)
     refine aK 1 [] (.n 5 (.b false) (.s .a)) qe (by kernel_rfl) ?_
     refine aj <| ae <| aF (aJ ?_)
     obtain rfl := Option.some.inj hm
     refine aG [.agg [.s ([] : List UInt8), .s ([] : List UInt8), I 0, .u64 0], .b false] (qo (.agg [.s ([] : List UInt8), .s ([] : List UInt8), I 0, .u64 0]) <| qc (fun w => Rd w (some ⟨g, 0, none⟩) (SV.cl [.s ([] : List UInt8), .s ([] : List UInt8), I 0, .u64 0])) (wG.xe 0 rfl) <| qe) (by kernel_rfl) ?_
     have Bq := wG.dm .z
     exact ⟨rfl, Bq⟩
   rw [if_neg hc2] at hm
   refine aH <| ae <| af ?_
   have xA := zL.drew 1
   refine B_ bu (.q 0 0 (.q 1 0 (.q 2 0 (.q 3 0 (.q 4 0 (.q 5 0 (.q 6 0 (.q 7 0 (.q 8 0 (.q 9 0 (.q 10 0 (.op 11 (.q 12 1 .nil))))))))))))) [11] xA (.c (.s (.k .e)) .l) (by kernel_rfl) (fun _ => ?_)
   obtain ⟨rZ, zS, hm⟩ := ob hm
   obtain ⟨uI, uw, hm⟩ := ob hm
   refine jT 11 0 [] (.n 105 (.agg [.s rZ, .s uI, I (aA aX.1.toNat), .u64 gy.1]) (.nG (.k .z))) (fun x hx => qW (hx.rd 1 rfl) zS (xA.len 1 rfl) (.s rZ) rfl <| qW (hx.rd 1 rfl) uw (xA.len 1 rfl) (.s uI) rfl <| qe) (by kernel_rfl) (fun _ => ?_)
   refine jX (by kernel_rfl) rfl <| dZ [] 0 (.agg [.s rZ, .s uI, I (aA aX.1.toNat), .u64 gy.1]) [.s rZ, .s uI, I (aA aX.1.toNat), .u64 gy.1] (Pt.at g 0) xA rfl .all (by kernel_rfl) (by kernel_rfl) ?_
   intro KP xB
   refine ⟨(xB.dm (.s (.k .e))), fun _ => ?_⟩
   refine jT 1 1 [] (.n 5 (.b true) (.s .a)) (fun x hx => qe) (by kernel_rfl) (fun _ => ?_)
   refine iU <| ae <| aF ?_
   obtain rfl := Option.some.inj hm
   refine aG [.agg [.s rZ, .s uI, I (aA aX.1.toNat), .u64 gy.1], .b true] (qo (.agg [.s rZ, .s uI, I (aA aX.1.toNat), .u64 gy.1]) <| qc (fun w => Rd w (some ⟨g, 0, none⟩) (SV.cl [.s rZ, .s uI, I (aA aX.1.toNat), .u64 gy.1])) (xB.xe 0 rfl) <| qe) (by kernel_rfl) ?_
   have yZ := xB.dm .z
   exact ⟨rfl, yZ⟩
theorem zT {F O : Nat → Prop} {w : World} (ak : Int) (ag : Int) (ai : Int) (ah : Int) (aB : Int) (most : Int) (hold : UInt64) (text : List UInt8) (k : Cx F O w w []) (r : (Int × Int) ⊕ (Int × Int × Int × Int × Int × Int × UInt64 × (Mp (List UInt8 × Int × UInt64)))) (hm : lC ak ag ai ah aB most hold text = some r) :
    Calls Tryz.prog 4 (vals [.agg [I ak, I ag, I ai, I ah, I aB], I most, .u64 hold, .s text]) w (fun e w' => match r with | .inl r0 => e = .returned (SV.val (.fV [.v (.pointer none), I r0.1, I r0.2])) ∧ Cx F O w w' [] | .inr r1 => ∃ g b, e = .returned (SV.val (.fV [pt g 0, I 0, I 0])) ∧ Cx F O w w' [Bx 50 g [I r1.1, I r1.2.1, I r1.2.2.1, I r1.2.2.2.1, I r1.2.2.2.2.1, I r1.2.2.2.2.2.1, .u64 r1.2.2.2.2.2.2.1, .v (.map (some b))], MS (vS (eP eS (eP eI e64)) (fZ lJ (fZ lI jP))) b r1.2.2.2.2.2.2.2]) := by
 unfold lC at hm
 refine calls [.agg [I ak, I ag, I ai, I ah, I aB], I most, .u64 hold, .s text] Tryz.func4 rfl (of_decide_eq_true (by kernel_rfl)) ?_
 refine af <| ay <| au <| ik [] 4 (.agg [I ak, I ag, I ai, I ah, I aB]) [I ak, I ag, I ai, I ah, I aB] (by kernel_rfl) k ?_
 intro g0 w_ k_
 refine aK 3 [] (.k (.s .a)) qe (by kernel_rfl) ?_
 refine aj <| ae <| af <| ay <| aK 3 [] (.n 21 (.agg [I ak, I ag, I ai, I ah, I aB]) (.n 22 (I most) (.n 23 (.u64 hold) (.s (.k (.s .a)))))) (qT k_ 0 rfl 0 5 [I ak, I ag, I ai, I ah, I aB] (by kernel_rfl) (by decide) <| qe) (by kernel_rfl) ?_
 refine au ?_
 obtain ⟨r_, fC, hm⟩ := ob hm
 refine ax [] 24 _ Ik (by kernel_rfl) (Bg (F := N0) (O := N0) _ _ _ _ _ _ _ (Cx.refl _) _ fC) ?_
 rcases r_ with bQ | aX
 · simp only [Sum.elim_inl, Sum.elim_inr] at hm
   rintro e_ qF ⟨rfl, fQ⟩
   have eX := k_.call fQ
   refine ⟨.fV [.v (.pointer none), I bQ], rfl, ?_⟩
   have gG := eX.dm .z
   refine aK 5 [] (.n 11 (.v (.pointer none)) (.n 12 (I bQ) (.kF .a))) qe (by kernel_rfl) ?_
   refine aj <| ae <| af <| af <| aP [] (.n 28 (.b (decide (bQ ≠ 0))) .a) qe (by kernel_rfl) ?_
   refine ae <| aQ (bQ ≠ 0) (by kernel_rfl) (fun hc => ?_) (fun hc => ?_)
   · rw [if_pos hc] at hm
     refine af <| aP [] (.n 8 (.v (.pointer none)) (.n 9 (I 0) (.n 10 (I bQ) .z))) qe (by kernel_rfl) ?_
     refine ae <| aF (aJ ?_)
     obtain rfl := Option.some.inj hm
     refine aG [.v (.pointer none), I 0, I bQ] qe (by kernel_rfl) ?_
     exact ⟨rfl, gG⟩
   rw [if_neg hc] at hm
   refine aH <| ae <| af <| aP [] (.n 13 (.s ([] : List UInt8)) (.s (.k (.s .a)))) qe (by kernel_rfl) ?_
   refine ae <| af <| af <| aP [] (.n 14 (I 1) .a) qe (by kernel_rfl) ?_
   refine ae <| aS <| mV (lV most text) (fun s L wr => () = s ∧ L = [(1, I most), (3, .s text), (11, .v (.pointer none)), (13, .s ([] : List UInt8)), (14, I 1)] ∧ Cx F O w wr []) () r hm ⟨rfl, rfl, gG⟩ (by kernel_rfl) ?_
   intro yT L_ uq y0 hrel hstep hr0
   obtain ⟨rfl, rfl, jV⟩ := hrel
   have hm := hstep; simp only [lV] at hm
   clear hstep
   refine af <| af <| aP [] (.n 31 (.b (decide (text ≠ ([] : List UInt8)))) .a) qe (by kernel_rfl) ?_
   refine ae <| aQ (text ≠ ([] : List UInt8)) (by kernel_rfl) (fun hc1 => ?_) (fun hc1 => ?_)
   · rw [if_pos hc1] at hm
     refine aH <| ae <| af <| aS <| af <| ay <| aK 1 [] (.n 35 (.s text) (.s (.k (.s .a)))) qe (by kernel_rfl) ?_
     refine au ?_
     obtain ⟨gy, pK, hm⟩ := ob hm
     refine ax [] 36 _ Cc (by kernel_rfl) (qI (F := N0) (O := N0) _ (Cx.refl _) _ pK) ?_
     rintro e_ xU ⟨rfl, jG⟩
     have mD := jV.call jG
     refine ⟨.fV [.s gy.1, .s gy.2.1, .b gy.2.2], rfl, ?_⟩
     refine aK 7 [] (.n 15 (.s gy.1) (.n 16 (.s gy.2.1) (.n 17 (.b gy.2.2) (.ss .a)))) qe (by kernel_rfl) ?_
     refine aj <| ae <| af <| ay <| aK 2 [] (.n 41 (.s gy.1) (.n 42 (I most) (.s .a))) qe (by kernel_rfl) ?_
     refine au ?_
     obtain ⟨dw, sJ, hm⟩ := ob hm
     refine ax [] 43 _ Ce (by kernel_rfl) (uu (F := N0) (O := N0) _ _ (Cx.refl _) _ sJ) ?_
     rintro e_ Bf ⟨rfl, jA⟩
     have lX := mD.call jA
     refine ⟨.fV [.agg [.s dw.1, .s dw.2.1, I dw.2.2.1, .u64 dw.2.2.2.1], .b dw.2.2.2.2], rfl, ?_⟩
     refine aK 3 [] (.n 44 (.agg [.s dw.1, .s dw.2.1, I dw.2.2.1, .u64 dw.2.2.2.1]) (.n 45 (.b dw.2.2.2.2) (.nG .a))) qe (by kernel_rfl) ?_
     refine au <| iH [] 18 [.s ([] : List UInt8), .s ([] : List UInt8), I 0, .u64 0] (by kernel_rfl) lX ?_
     intro g1 D9 qH
     refine au <| dZ [] 0 (.agg [.s dw.1, .s dw.2.1, I dw.2.2.1, .u64 dw.2.2.2.1]) [.s dw.1, .s dw.2.1, I dw.2.2.1, .u64 dw.2.2.2.1] (Pt.at g1 0) qH rfl .all (by kernel_rfl) (by kernel_rfl) ?_
     intro Es jF
     refine aK 1 [] (.n 19 (.b dw.2.2.2.2) (.k (.ss .a))) qe (by kernel_rfl) ?_
     refine aj <| ae <| af <| af <| ay <| aK 13 [] (.n 58 (.b (((!gy.2.2) || (!dw.2.2.2.2)) || (Op.bytesLess dw.1 ([] : List UInt8) || decide (dw.1 = ([] : List UInt8))))) (.s (.kk (.s (.kk (.s .a)))))) (qp (((!gy.2.2) || (!dw.2.2.2.2)) = false → (some ⟨g1, 0, none⟩ : Option Addr).isSome = true) (fun hg0 => rfl) <| qo (.s dw.1) <| qc (fun w => ((!gy.2.2) || (!dw.2.2.2.2)) = false → ∃ a, (some ⟨g1, 0, none⟩ : Option Addr) = some a ∧ w.cell? a = some (SV.val (.s dw.1))) (fun hg0 => jF.jY 0 rfl 0 (.s dw.1) (by kernel_rfl)) <| qe) (by kernel_rfl) ?_
     refine oq 58 (((!gy.2.2) || (!dw.2.2.2.2)) || (Op.bytesLess dw.1 ([] : List UInt8) || decide (dw.1 = ([] : List UInt8)))) (.s .a) (by kernel_rfl) (fun hg => ?_) (fun hg => ?_)
     · rw [if_pos hg] at hm
       refine aK 7 [58] (.n 65 (.b true) (.s .a)) qe (by kernel_rfl) ?_
       refine aj <| ae <| aN true (by kernel_rfl) (fun _ => ?_) (fun h => by cases h)
       refine af <| aP [] (.n 8 (.v (.pointer none)) (.n 9 (I 1) (.n 10 (I 4) .z))) qe (by kernel_rfl) ?_
       refine ae <| aF (aJ (ed (aJ (aJ (ed (aJ ?_))))))
       have hm := aV hm hr0
       obtain rfl := Option.some.inj hm
       refine aG [.v (.pointer none), I 1, I 4] qe (by kernel_rfl) ?_
       have ji := jF.dm .z
       exact ⟨rfl, ji⟩
     · rw [if_neg (by rw [hg]; decide)] at hm
       cases hm
   rw [if_neg hc1] at hm
   refine eU (bU (bU (iG ?_)))
   have hm := aV hm hr0
   refine ae <| af <| aP [] (.n 8 (.v (.pointer none)) (.n 9 (I 0) (.n 10 (I 0) .z))) qe (by kernel_rfl) ?_
   refine ae <| aF ?_
   obtain rfl := Option.some.inj hm
   refine aG [.v (.pointer none), I 0, I 0] qe (by kernel_rfl) ?_
   exact ⟨rfl, jV⟩
 · simp only [Sum.elim_inl, Sum.elim_inr] at hm
   rintro e_ G9 ⟨g2, b0, rfl, jk⟩
   have kR := k_.call jk
   refine ⟨.fV [pt g2 0, I 0], rfl, ?_⟩
   have lS := kR.dm (.s (.kk .e))
   refine aK 5 [] (.n 11 (pt g2 0) (.n 12 (I 0) (.kF .a))) qe (by kernel_rfl) ?_
   refine aj <| ae <| af <| af <| aP [] (.n 28 (.b (decide (0 ≠ 0))) .a) qe (by kernel_rfl) ?_
   refine ae <| aQ (0 ≠ 0) (by kernel_rfl) (fun hc0 => ?_) (fun hc0 => ?_)
   · rw [if_pos hc0] at hm
     refine af <| aP [] (.n 8 (.v (.pointer none)) (.n 9 (I 0) (.n 10 (I 0) .z))) qe (by kernel_rfl) ?_
     refine ae <| aF (aJ ?_)
     obtain rfl := Option.some.inj hm
     refine aG [.v (.pointer none), I 0, I 0] qe (by kernel_rfl) ?_
     have lF := lS.dm .z
     exact ⟨rfl, lF⟩
   rw [if_neg hc0] at hm
   refine aH <| ae <| af <| aP [] (.n 13 (.s ([] : List UInt8)) (.s (.k (.s .a)))) qe (by kernel_rfl) ?_
   refine ae <| af <| af <| aP [] (.n 14 (I 1) .a) qe (by kernel_rfl) ?_
   refine ae <| aS <| mV (dE most aX) (fun s L wr => ∃ (text1 : List UInt8) (Ep : Mp (List UInt8 × Int × UInt64)) (last : List UInt8) (n : Int), (text1, Ep, last, n) = s ∧ L = [(1, I most), (3, .s text1), (11, pt g2 0), (13, .s last), (14, I n)] ∧ Cx F O w wr [Bx 50 g2 [I aX.1, I aX.2.1, I aX.2.2.1, I aX.2.2.2.1, I aX.2.2.2.2.1, I aX.2.2.2.2.2.1, .u64 aX.2.2.2.2.2.2.1, .v (.map (some b0))], MS (vS (eP eS (eP eI e64)) (fZ lJ (fZ lI jP))) b0 Ep]) (text, aX.2.2.2.2.2.2.2, ([] : List UInt8), (1 : Int)) r hm ⟨text, aX.2.2.2.2.2.2.2, ([] : List UInt8), (1 : Int), rfl, rfl, lS⟩ (by kernel_rfl) ?_
   intro yT L_ JA y0 hrel hstep hr0
   obtain ⟨text1, Ep, last, n, rfl, rfl, oG⟩ := hrel
   have hm := hstep; simp only [dE] at hm
   clear hstep
   refine af <| af <| aP [] (.n 31 (.b (decide (text1 ≠ ([] : List UInt8)))) .a) qe (by kernel_rfl) ?_
   refine ae <| aQ (text1 ≠ ([] : List UInt8)) (by kernel_rfl) (fun hc2 => ?_) (fun hc2 => ?_)
   · rw [if_pos hc2] at hm
     refine aH <| ae <| af <| aS <| af <| ay <| aK 1 [] (.n 35 (.s text1) (.s (.k (.s .a)))) qe (by kernel_rfl) ?_
     refine au ?_
     obtain ⟨pG, zK, hm⟩ := ob hm
     refine ax [] 36 _ Cc (by kernel_rfl) (qI (F := N0) (O := N0) _ (Cx.refl _) _ zK) ?_
     rintro e_ KL ⟨rfl, rC⟩
     have sH := oG.call rC
     refine ⟨.fV [.s pG.1, .s pG.2.1, .b pG.2.2], rfl, ?_⟩
     refine aK 7 [] (.n 15 (.s pG.1) (.n 16 (.s pG.2.1) (.n 17 (.b pG.2.2) (.ss .a)))) qe (by kernel_rfl) ?_
     refine aj <| ae <| af <| ay <| aK 2 [] (.n 41 (.s pG.1) (.n 42 (I most) (.s .a))) qe (by kernel_rfl) ?_
     refine au ?_
     obtain ⟨iP, wF, hm⟩ := ob hm
     refine ax [] 43 _ Ce (by kernel_rfl) (uu (F := N0) (O := N0) _ _ (Cx.refl _) _ wF) ?_
     rintro e_ zI ⟨rfl, sK⟩
     have lG := sH.call sK
     refine ⟨.fV [.agg [.s iP.1, .s iP.2.1, I iP.2.2.1, .u64 iP.2.2.2.1], .b iP.2.2.2.2], rfl, ?_⟩
     refine aK 3 [] (.n 44 (.agg [.s iP.1, .s iP.2.1, I iP.2.2.1, .u64 iP.2.2.2.1]) (.n 45 (.b iP.2.2.2.2) (.nG .a))) qe (by kernel_rfl) ?_
     refine au <| iH [] 18 [.s ([] : List UInt8), .s ([] : List UInt8), I 0, .u64 0] (by kernel_rfl) lG ?_
     intro g3 zJ oH
     refine au <| dZ [] 2 (.agg [.s iP.1, .s iP.2.1, I iP.2.2.1, .u64 iP.2.2.2.1]) [.s iP.1, .s iP.2.1, I iP.2.2.1, .u64 iP.2.2.2.1] (Pt.at g3 0) oH rfl .all (by kernel_rfl) (by kernel_rfl) ?_
     intro Bj pM
     refine aK 1 [] (.n 19 (.b iP.2.2.2.2) (.k (.ss .a))) qe (by kernel_rfl) ?_
     refine aj <| ae <| af <| af <| ay <| aK 13 [] (.n 58 (.b (((!pG.2.2) || (!iP.2.2.2.2)) || (Op.bytesLess iP.1 last || decide (iP.1 = last)))) (.s (.kk (.s (.kk (.s .a)))))) (qp (((!pG.2.2) || (!iP.2.2.2.2)) = false → (some ⟨g3, 0, none⟩ : Option Addr).isSome = true) (fun hg0 => rfl) <| qo (.s iP.1) <| qc (fun w => ((!pG.2.2) || (!iP.2.2.2.2)) = false → ∃ a, (some ⟨g3, 0, none⟩ : Option Addr) = some a ∧ w.cell? a = some (SV.val (.s iP.1))) (fun hg0 => pM.jY 2 rfl 0 (.s iP.1) (by kernel_rfl)) <| qe) (by kernel_rfl) ?_
     refine oq 58 (((!pG.2.2) || (!iP.2.2.2.2)) || (Op.bytesLess iP.1 last || decide (iP.1 = last))) (.s .a) (by kernel_rfl) (fun hg0 => ?_) (fun hg0 => ?_)
     · rw [if_pos hg0] at hm
       refine aK 7 [58] (.n 65 (.b true) (.s .a)) qe (by kernel_rfl) ?_
       refine aj <| ae <| aN true (by kernel_rfl) (fun _ => ?_) (fun h => by cases h)
       refine af <| aP [] (.n 8 (.v (.pointer none)) (.n 9 (I n) (.n 10 (I 4) .z))) qe (by kernel_rfl) ?_
       refine ae <| aF (aJ (ed (aJ (aJ (ed (aJ ?_))))))
       have hm := aV hm hr0
       obtain rfl := Option.some.inj hm
       refine aG [.v (.pointer none), I n, I 4] qe (by kernel_rfl) ?_
       have qx := pM.dm .z
       exact ⟨rfl, qx⟩
     · rw [if_neg (by rw [hg0]; decide)] at hm
       refine aK 4 [58] (.n 62 (.v (.map (some b0))) .a) (qs g2 0 <| qs g2 0 <| qB pM 0 rfl 7 (.v (.map (some b0))) (by kernel_rfl) <| qe) (by kernel_rfl) ?_
       refine au ?_
       have rD := pM.dm (.kk (.k .e))
       have nY := ((rD.pk (.t (.t .h))).pk (.t .h)).pk (.t (.t .h))
       refine FH (kt := 9) (e := 43) (v := (vS (eP eS (eP eI e64)) (fZ lJ (fZ lI jP)))) (m := Ep) [58] 63 (by kernel_rfl) nY.acc ?_
       refine aK 2 [58] (.n 65 (.b (decide (1024 ≤ ((Ep.length : Nat) : Int)))) (.nG .a)) qe (by kernel_rfl) ?_
       refine aj <| ae <| aQ (1024 ≤ ((Ep.length : Nat) : Int)) (by kernel_rfl) (fun hc3 => ?_) (fun hc3 => ?_)
       · rw [if_pos hc3] at hm
         refine af <| aP [] (.n 8 (.v (.pointer none)) (.n 9 (I n) (.n 10 (I 4) .z))) qe (by kernel_rfl) ?_
         refine ae <| aF (aJ (ed (aJ (aJ (ed (aJ ?_))))))
         have hm := aV hm hr0
         obtain rfl := Option.some.inj hm
         refine aG [.v (.pointer none), I n, I 4] qe (by kernel_rfl) ?_
         have tV := nY.dm .z
         exact ⟨rfl, tV⟩
       rw [if_neg hc3] at hm
       refine aH <| ae <| af <| aP [] (.n 13 (.s iP.1) (.s .a)) (qs g3 0 <| qB nY 2 rfl 0 (.s iP.1) (by kernel_rfl) <| qe) (by kernel_rfl) ?_
       refine ae <| af ?_
       have rE := nY.drew 1
       refine B_ bu (.q 0 0 (.q 1 0 (.q 2 0 (.q 3 0 (.q 4 0 (.q 5 0 (.q 6 0 (.q 7 0 (.op 8 .nil))))))))) [8] rE (.c (.s (.kk .e)) .l) (by kernel_rfl) (fun _ => ?_)
       refine jT 8 0 [] (.n 72 (.v (.map (some b0))) (.n 74 (.s iP.1) (.n 76 (.agg [.s iP.2.1, I iP.2.2.1, .u64 iP.2.2.2.1]) (.k (.s .a))))) (fun x hx => qs g2 0 <| qs g2 0 <| qB hx 1 rfl 7 (.v (.map (some b0))) (by kernel_rfl) <| qs g3 0 <| qB hx 2 rfl 0 (.s iP.1) (by kernel_rfl) <| qs g3 0 <| qT hx 2 rfl 1 3 [.s iP.2.1, I iP.2.2.1, .u64 iP.2.2.2.1] (by kernel_rfl) (by decide) <| qe) (by kernel_rfl) (fun _ => ?_)
       refine jX (by kernel_rfl) rfl <| Ia (kt := 9) (e := 43) (v := (vS (eP eS (eP eI e64)) (fZ lJ (fZ lI jP)))) (key := iP.1) rfl [] (iP.2.1, iP.2.2.1, iP.2.2.2.1) (by kernel_rfl) rE ?_
       intro Eb rF
       refine ⟨(rF.dm (.s (.kk .e))), fun _ => ?_⟩
       refine iU <| ae <| aP [] (.n 3 (.s pG.2.1) (.nG (.k (.s .a)))) qe (by kernel_rfl) ?_
       refine fO <| ae <| aP [] (.n 14 (I (aA (n + 1))) (.kD .z)) qe (by kernel_rfl) ?_
       have xx := ((rF.pk .h).pk (.t .h)).dm (.kk .z)
       exact jZ (pG.2.1, mr Ep iP.1 (iP.2.1, iP.2.2.1, iP.2.2.2.1), iP.1, aA (n + 1)) (Option.some.inj hm).symm ⟨pG.2.1, mr Ep iP.1 (iP.2.1, iP.2.2.1, iP.2.2.2.1), iP.1, aA (n + 1), rfl, rfl, xx⟩ (by kernel_rfl)
   rw [if_neg hc2] at hm
   refine eU (bU (bU (iG ?_)))
   have hm := aV hm hr0
   refine ae <| af <| aP [] (.n 8 (pt g2 0) (.n 9 (I 0) (.n 10 (I 0) .z))) qe (by kernel_rfl) ?_
   refine ae <| aF ?_
   obtain rfl := Option.some.inj hm
   refine aG [pt g2 0, I 0, I 0] qe (by kernel_rfl) ?_
   exact ⟨g2, b0, rfl, oG⟩
theorem zU {F O : Nat → Prop} {w : World} (ak : Int) (ag : Int) (ai : Int) (ah : Int) (aB : Int) (k : Cx F O w w []) (r : Int) (hm : lq ak ag ai ah aB = some r) :
    Calls Tryz.prog 45 (vals [.agg [I ak, I ag, I ai, I ah, I aB]]) w (fun e w' => e = .returned (SV.val (I r)) ∧ Cx F O w w' []) := by
 unfold lq at hm
 refine calls [.agg [I ak, I ag, I ai, I ah, I aB]] Tryz.func45 rfl (of_decide_eq_true (by kernel_rfl)) ?_
 refine af <| ay <| au <| ik [] 1 (.agg [I ak, I ag, I ai, I ah, I aB]) [I ak, I ag, I ai, I ah, I aB] (by kernel_rfl) k ?_
 intro g w_ k_
 refine aK 1 [] (.k .z) qe (by kernel_rfl) ?_
 refine aj <| ae <| af <| af <| aP [] (.n 53 (.b ((((((((((decide (ak < 0)) || (decide (2 < ak))) || (decide (ah < 1))) || (decide (8 < ah))) || (decide (ag < (aA (8 * ah))))) || (decide (4096 < ag))) || (decide (ai < 1))) || (decide (16 < ai))) || (decide (aB < 4))) || (decide (1024 < aB)))) .z) (qs g 0 <| qB k_ 0 rfl 0 (I ak) (by kernel_rfl) <| qp ((decide (ak < 0)) = false → (some ⟨g, 0, none⟩ : Option Addr).isSome = true) (fun hg0 => rfl) <| qo (I ak) <| qc (fun w => (decide (ak < 0)) = false → ∃ a, (some ⟨g, 0, none⟩ : Option Addr) = some a ∧ w.cell? a = some (SV.val (I ak))) (fun hg0 => k_.jY 0 rfl 0 (I ak) (by kernel_rfl)) <| qp (((decide (ak < 0)) || (decide (2 < ak))) = false → (some ⟨g, 0, none⟩ : Option Addr).isSome = true) (fun hg0 => rfl) <| qo (I ah) <| qc (fun w => ((decide (ak < 0)) || (decide (2 < ak))) = false → ∃ a, (some ⟨g, 3, none⟩ : Option Addr) = some a ∧ w.cell? a = some (SV.val (I ah))) (fun hg0 => k_.jY 0 rfl 3 (I ah) (by kernel_rfl)) <| qp ((((decide (ak < 0)) || (decide (2 < ak))) || (decide (ah < 1))) = false → (some ⟨g, 0, none⟩ : Option Addr).isSome = true) (fun hg0 => rfl) <| qo (I ah) <| qc (fun w => (((decide (ak < 0)) || (decide (2 < ak))) || (decide (ah < 1))) = false → ∃ a, (some ⟨g, 3, none⟩ : Option Addr) = some a ∧ w.cell? a = some (SV.val (I ah))) (fun hg0 => k_.jY 0 rfl 3 (I ah) (by kernel_rfl)) <| qp (((((decide (ak < 0)) || (decide (2 < ak))) || (decide (ah < 1))) || (decide (8 < ah))) = false → (some ⟨g, 0, none⟩ : Option Addr).isSome = true) (fun hg0 => rfl) <| qo (I ag) <| qc (fun w => ((((decide (ak < 0)) || (decide (2 < ak))) || (decide (ah < 1))) || (decide (8 < ah))) = false → ∃ a, (some ⟨g, 1, none⟩ : Option Addr) = some a ∧ w.cell? a = some (SV.val (I ag))) (fun hg0 => k_.jY 0 rfl 1 (I ag) (by kernel_rfl)) <| qp (((((decide (ak < 0)) || (decide (2 < ak))) || (decide (ah < 1))) || (decide (8 < ah))) = false → (some ⟨g, 0, none⟩ : Option Addr).isSome = true) (fun hg0 => rfl) <| qo (I ah) <| qc (fun w => ((((decide (ak < 0)) || (decide (2 < ak))) || (decide (ah < 1))) || (decide (8 < ah))) = false → ∃ a, (some ⟨g, 3, none⟩ : Option Addr) = some a ∧ w.cell? a = some (SV.val (I ah))) (fun hg0 => k_.jY 0 rfl 3 (I ah) (by kernel_rfl)) <| qp ((((((decide (ak < 0)) || (decide (2 < ak))) || (decide (ah < 1))) || (decide (8 < ah))) || (decide (ag < (aA (8 * ah))))) = false → (some ⟨g, 0, none⟩ : Option Addr).isSome = true) (fun hg0 => rfl) <| qo (I ag) <| qc (fun w => (((((decide (ak < 0)) || (decide (2 < ak))) || (decide (ah < 1))) || (decide (8 < ah))) || (decide (ag < (aA (8 * ah))))) = false → ∃ a, (some ⟨g, 1, none⟩ : Option Addr) = some a ∧ w.cell? a = some (SV.val (I ag))) (fun hg0 => k_.jY 0 rfl 1 (I ag) (by kernel_rfl)) <| qp (((((((decide (ak < 0)) || (decide (2 < ak))) || (decide (ah < 1))) || (decide (8 < ah))) || (decide (ag < (aA (8 * ah))))) || (decide (4096 < ag))) = false → (some ⟨g, 0, none⟩ : Option Addr).isSome = true) (fun hg0 => rfl) <| qo (I ai) <| qc (fun w => ((((((decide (ak < 0)) || (decide (2 < ak))) || (decide (ah < 1))) || (decide (8 < ah))) || (decide (ag < (aA (8 * ah))))) || (decide (4096 < ag))) = false → ∃ a, (some ⟨g, 2, none⟩ : Option Addr) = some a ∧ w.cell? a = some (SV.val (I ai))) (fun hg0 => k_.jY 0 rfl 2 (I ai) (by kernel_rfl)) <| qp ((((((((decide (ak < 0)) || (decide (2 < ak))) || (decide (ah < 1))) || (decide (8 < ah))) || (decide (ag < (aA (8 * ah))))) || (decide (4096 < ag))) || (decide (ai < 1))) = false → (some ⟨g, 0, none⟩ : Option Addr).isSome = true) (fun hg0 => rfl) <| qo (I ai) <| qc (fun w => (((((((decide (ak < 0)) || (decide (2 < ak))) || (decide (ah < 1))) || (decide (8 < ah))) || (decide (ag < (aA (8 * ah))))) || (decide (4096 < ag))) || (decide (ai < 1))) = false → ∃ a, (some ⟨g, 2, none⟩ : Option Addr) = some a ∧ w.cell? a = some (SV.val (I ai))) (fun hg0 => k_.jY 0 rfl 2 (I ai) (by kernel_rfl)) <| qp (((((((((decide (ak < 0)) || (decide (2 < ak))) || (decide (ah < 1))) || (decide (8 < ah))) || (decide (ag < (aA (8 * ah))))) || (decide (4096 < ag))) || (decide (ai < 1))) || (decide (16 < ai))) = false → (some ⟨g, 0, none⟩ : Option Addr).isSome = true) (fun hg0 => rfl) <| qo (I aB) <| qc (fun w => ((((((((decide (ak < 0)) || (decide (2 < ak))) || (decide (ah < 1))) || (decide (8 < ah))) || (decide (ag < (aA (8 * ah))))) || (decide (4096 < ag))) || (decide (ai < 1))) || (decide (16 < ai))) = false → ∃ a, (some ⟨g, 4, none⟩ : Option Addr) = some a ∧ w.cell? a = some (SV.val (I aB))) (fun hg0 => k_.jY 0 rfl 4 (I aB) (by kernel_rfl)) <| qp ((((((((((decide (ak < 0)) || (decide (2 < ak))) || (decide (ah < 1))) || (decide (8 < ah))) || (decide (ag < (aA (8 * ah))))) || (decide (4096 < ag))) || (decide (ai < 1))) || (decide (16 < ai))) || (decide (aB < 4))) = false → (some ⟨g, 0, none⟩ : Option Addr).isSome = true) (fun hg0 => rfl) <| qo (I aB) <| qc (fun w => (((((((((decide (ak < 0)) || (decide (2 < ak))) || (decide (ah < 1))) || (decide (8 < ah))) || (decide (ag < (aA (8 * ah))))) || (decide (4096 < ag))) || (decide (ai < 1))) || (decide (16 < ai))) || (decide (aB < 4))) = false → ∃ a, (some ⟨g, 4, none⟩ : Option Addr) = some a ∧ w.cell? a = some (SV.val (I aB))) (fun hg0 => k_.jY 0 rfl 4 (I aB) (by kernel_rfl)) <| qe) (by kernel_rfl) ?_
 refine ae <| aN ((((((((((decide (ak < 0)) || (decide (2 < ak))) || (decide (ah < 1))) || (decide (8 < ah))) || (decide (ag < (aA (8 * ah))))) || (decide (4096 < ag))) || (decide (ai < 1))) || (decide (16 < ai))) || (decide (aB < 4))) || (decide (1024 < aB))) (by kernel_rfl) (fun hc => ?_) (fun hc => ?_)
 · rw [if_pos hc] at hm
   refine af <| aP [] (.n 2 (I 200) .z) qe (by kernel_rfl) ?_
   refine ae <| aF (aJ ?_)
   obtain rfl := Option.some.inj hm
   refine aG [I 200] qe (by kernel_rfl) ?_
   have fQ := k_.dm .z
   exact ⟨rfl, fQ⟩
 rw [if_neg (by rw [hc]; decide)] at hm
 refine aH <| ae <| af <| aP [] (.n 2 (I 0) .z) qe (by kernel_rfl) ?_
 refine ae <| aF ?_
 obtain rfl := Option.some.inj hm
 refine aG [I 0] qe (by kernel_rfl) ?_
 have eX := k_.dm .z
 exact ⟨rfl, eX⟩
theorem uy {F O : Nat → Prop} {w : World} (ak : Int) (ag : Int) (ai : Int) (ah : Int) (aB : Int) (iq : List UInt8) (rf : Option Addr) (rq : Nat) (ru : Nat) (KG : Ro F w rf (e8.all iq)) (yU : iq.length = rq) (IZ : rq ≤ ru) (k : Cx F O w w []) (r : Int) (hm : j_ ak ag ai ah aB iq = some r) :
    Calls Tryz.prog 27 (vals [.agg [I ak, I ag, I ai, I ah, I aB], sl rf rq ru]) w (fun e w' => e = .returned (SV.val (I r)) ∧ Cx F O w w' []) := by
 unfold j_ at hm
 subst yU
 refine calls [.agg [I ak, I ag, I ai, I ah, I aB], sl rf iq.length ru] Tryz.func27 rfl (of_decide_eq_true (by kernel_rfl)) ?_
 refine af <| ay <| au <| ik [] 2 (.agg [I ak, I ag, I ai, I ah, I aB]) [I ak, I ag, I ai, I ah, I aB] (by kernel_rfl) k ?_
 intro g w_ k_
 refine aK 1 [] (.k (.s .a)) qe (by kernel_rfl) ?_
 refine aj <| ae <| af <| ay <| aK 1 [] (.n 6 (.agg [I ak, I ag, I ai, I ah, I aB]) (.s .a)) (qT k_ 0 rfl 0 5 [I ak, I ag, I ai, I ah, I aB] (by kernel_rfl) (by decide) <| qe) (by kernel_rfl) ?_
 refine au ?_
 obtain ⟨r_, fC, hm⟩ := ob hm
 refine ax [] 7 _ IL (by kernel_rfl) (zU (F := N0) (O := N0) _ _ _ _ _ (Cx.refl _) _ fC) ?_
 rintro e_ qF ⟨rfl, fQ⟩
 have eX := k_.call fQ
 refine ⟨I r_, rfl, ?_⟩
 have gG := eX.dm .z
 refine aK 1 [] (.n 5 (I r_) (.ss .a)) qe (by kernel_rfl) ?_
 refine aj <| ae <| af <| af <| aP [] (.n 9 (.b (decide (r_ ≠ 0))) .a) qe (by kernel_rfl) ?_
 refine ae <| aQ (r_ ≠ 0) (by kernel_rfl) (fun hc => ?_) (fun hc => ?_)
 · rw [if_pos hc] at hm
   refine af <| aP [] (.n 4 (I r_) .z) qe (by kernel_rfl) ?_
   refine ae <| aF (aJ ?_)
   obtain rfl := Option.some.inj hm
   refine aG [I r_] qe (by kernel_rfl) ?_
   exact ⟨rfl, gG⟩
 rw [if_neg hc] at hm
 refine aH <| ae <| af <| af <| aP [] (.n 18 (.b ((decide (((iq.length : Nat) : Int) < 8)) || (decide (64 < ((iq.length : Nat) : Int))))) .z) qe (by kernel_rfl) ?_
 refine ae <| aN ((decide (((iq.length : Nat) : Int) < 8)) || (decide (64 < ((iq.length : Nat) : Int)))) (by kernel_rfl) (fun hc1 => ?_) (fun hc1 => ?_)
 · rw [if_pos hc1] at hm
   refine af <| aP [] (.n 4 (I 201) .z) qe (by kernel_rfl) ?_
   refine ae <| aF (aJ ?_)
   obtain rfl := Option.some.inj hm
   refine aG [I 201] qe (by kernel_rfl) ?_
   exact ⟨rfl, gG⟩
 rw [if_neg (by rw [hc1]; decide)] at hm
 refine aH <| ae <| af <| aP [] (.n 4 (I 0) .z) qe (by kernel_rfl) ?_
 refine ae <| aF ?_
 obtain rfl := Option.some.inj hm
 refine aG [I 0] qe (by kernel_rfl) ?_
 exact ⟨rfl, gG⟩
theorem zV {F O : Nat → Prop} {w : World} (ak : Int) (ag : Int) (ai : Int) (ah : Int) (aB : Int) (most : Int) (k : Cx F O w w []) (r : Int) (hm : lD ak ag ai ah aB most = some r) :
    Calls Tryz.prog 13 (vals [.agg [I ak, I ag, I ai, I ah, I aB], I most]) w (fun e w' => e = .returned (SV.val (I r)) ∧ Cx F O w w' []) := by
 unfold lD at hm
 refine calls [.agg [I ak, I ag, I ai, I ah, I aB], I most] Tryz.func13 rfl (of_decide_eq_true (by kernel_rfl)) ?_
 refine af <| ay <| au <| ik [] 2 (.agg [I ak, I ag, I ai, I ah, I aB]) [I ak, I ag, I ai, I ah, I aB] (by kernel_rfl) k ?_
 intro g w_ k_
 refine aK 1 [] (.k (.s .a)) qe (by kernel_rfl) ?_
 refine aj <| ae <| af ?_
 have fQ := k_.drew 1
 refine B_ bu (.q 0 1 (.op 1 (.op 2 (.q 3 2 .nil)))) [1, 2] fQ (.c (.k .e) (.c (.k .e) .l)) (by kernel_rfl) (fun _ => ?_)
 refine jT 1 1 [] (.n 6 (.agg [I ak, I ag, I ai, I ah, I aB]) (.s .a)) (fun x hx => qT hx 0 rfl 0 5 [I ak, I ag, I ai, I ah, I aB] (by kernel_rfl) (by decide) <| qe) (by kernel_rfl) (fun _ => ?_)
 refine jX (by kernel_rfl) rfl <| yF qf e8 (0 : UInt8) rfl [] 7 (I 16) (I 16) (16 : Int) (16 : Int) (by kernel_rfl) (by omega) (by omega) (by omega) fQ ?_
 intro A qF eX
 refine ⟨(eX.dm (.k .z)), fun _ => ?_⟩
 refine jX (by kernel_rfl) rfl ?_
 obtain ⟨r_, fC, hm⟩ := ob hm
 refine ax [] 8 _ Cm (by kernel_rfl) (uy (F := N0) (O := N0) _ _ _ _ _ _ _ _ _ (Ro.n0 (eX.rd 1 rfl)) (eX.len 1 rfl) (eX.J7 1 rfl) (Cx.refl _) _ fC) ?_
 rintro e_ uq ⟨rfl, gG⟩
 have jV := eX.call gG
 refine ⟨I r_, rfl, ?_⟩
 have jG := jV.dm (.k .z)
 refine ⟨jG, fun _ => ?_⟩
 refine jT 1 2 [] (.n 5 (I r_) (.nG .a)) (fun x hx => qe) (by kernel_rfl) (fun _ => ?_)
 refine iU <| ae <| af <| af <| aP [] (.n 10 (.b (decide (r_ ≠ 0))) .a) qe (by kernel_rfl) ?_
 refine ae <| aQ (r_ ≠ 0) (by kernel_rfl) (fun hc => ?_) (fun hc => ?_)
 · rw [if_pos hc] at hm
   refine af <| aP [] (.n 4 (I r_) .z) qe (by kernel_rfl) ?_
   refine ae <| aF (aJ ?_)
   obtain rfl := Option.some.inj hm
   refine aG [I r_] qe (by kernel_rfl) ?_
   have mD := jG.dm .z
   exact ⟨rfl, mD⟩
 rw [if_neg hc] at hm
 refine aH <| ae <| af <| af <| aP [] (.n 17 (.b ((decide (most < 1)) || (decide (100 < most)))) .z) qe (by kernel_rfl) ?_
 refine ae <| aN ((decide (most < 1)) || (decide (100 < most))) (by kernel_rfl) (fun hc1 => ?_) (fun hc1 => ?_)
 · rw [if_pos hc1] at hm
   refine af <| aP [] (.n 4 (I 1) .z) qe (by kernel_rfl) ?_
   refine ae <| aF (aJ ?_)
   obtain rfl := Option.some.inj hm
   refine aG [I 1] qe (by kernel_rfl) ?_
   have jA := jG.dm .z
   exact ⟨rfl, jA⟩
 rw [if_neg (by rw [hc1]; decide)] at hm
 refine aH <| ae <| af <| aP [] (.n 4 (I 0) .z) qe (by kernel_rfl) ?_
 refine ae <| aF ?_
 obtain rfl := Option.some.inj hm
 refine aG [I 0] qe (by kernel_rfl) ?_
 have lX := jG.dm .z
 exact ⟨rfl, lX⟩
theorem sN {F O : Nat → Prop} {w : World} (s_ : List UInt8) (c : UInt8) (k : Cx F O w w []) (r : (List (List UInt8))) (hm : jM s_ c = some r) :
    Calls Tryz.prog 14 (vals [.s s_, .u8 c]) w (fun e w' => ∃ A n c1, r.length = n ∧ e = .returned (SV.val (sl A n c1)) ∧ Cx F O w w' [Ow eS A n c1 r]) := by
 unfold jM at hm
 refine calls [.s s_, .u8 c] Tryz.func14 rfl (of_decide_eq_true (by kernel_rfl)) ?_
 refine af <| aP [] .a qe (by kernel_rfl) ?_
 refine ae <| af <| aP [] (.n 5 (sl none 0 0) .a) qe (by kernel_rfl) ?_
 refine ae <| af <| aP [] (.n 6 (I 0) .a) qe (by kernel_rfl) ?_
 refine ae <| af <| af <| aP [] (.n 7 (I 0) .a) qe (by kernel_rfl) ?_
 refine ae <| aS ?_
 have fQ := k.nil eS
 refine mV (bT s_ c) (fun s L wr => ∃ (l : List (List UInt8)) (from_ : Int) (i : Int) (A0 : Option Addr) (n0 : Nat) (c2 : Nat), (l, from_, i) = s ∧ L = [(0, .s s_), (1, .u8 c), (5, sl A0 n0 c2), (6, I from_), (7, I i)] ∧ l.length = n0 ∧ Cx F O w wr [Ow eS A0 n0 c2 l]) (([] : List (List UInt8)), (0 : Int), (0 : Int)) r hm ⟨([] : List (List UInt8)), (0 : Int), (0 : Int), none, 0, 0, rfl, rfl, fQ.len 0 rfl, fQ⟩ (by kernel_rfl) ?_
 intro yT L_ w_ y0 hrel hstep hr0
 obtain ⟨l, from_, i, A0, _, c2, rfl, rfl, rfl, k_⟩ := hrel
 have hm := hstep; simp only [bT] at hm
 clear hstep
 refine af <| af <| aP [] (.n 11 (.b (decide (i ≤ (s_.length : Int)))) .a) qe (by kernel_rfl) ?_
 refine ae <| aQ (i ≤ (s_.length : Int)) (by kernel_rfl) (fun hc => ?_) (fun hc => ?_)
 · rw [if_pos hc] at hm
   refine aH <| ae <| vM (fun L wr => ∃ (l1 : List (List UInt8)) (qY : Int) (A1 : Option Addr) (n1 : Nat) (c3 : Nat), fM i l1 qY = some y0 ∧ L = [(0, .s s_), (1, .u8 c), (5, sl A1 n1 c3), (6, I qY), (7, I i)] ∧ l1.length = n1 ∧ Cx F O w wr [Ow eS A1 n1 c3 l1]) ?_ ?_
   ·
    refine aS <| af ?_
    obtain ⟨c4, FW, hm⟩ := ob hm
    refine aP [] (.n 24 (.b ((decide (i = (s_.length : Int))) || (decide (c4 = c)))) (.s .a)) (qo (.u8 c4) <| qp ((decide (i = (s_.length : Int))) = false → 0 ≤ i ∧ s_[Int.toNat i]? = some c4) (fun hg0 => bC (iT FW hg0)) <| qe) (by kernel_rfl) ?_
    refine ae <| aN ((decide (i = (s_.length : Int))) || (decide (c4 = c))) (by kernel_rfl) (fun hc1 => ?_) (fun hc1 => ?_)
    · rw [if_pos hc1] at hm
      refine af <| ay ?_
      obtain ⟨kS, oC, hm⟩ := ob hm
      have hs := fE oC
      refine aK 5 [] (.n 25 (sl A0 l.length c2) (.n 29 (.s kS) (.s (.DF (.s .a))))) (qp (0 ≤ i ∧ i ≤ ((s_.length : Nat) : Int)) (by omega) <| qp (0 ≤ from_ ∧ from_ ≤ ((Int.toNat i : Nat) : Int)) (by omega) <| qo (.s kS) <| qp ((s_.take (Int.toNat i)).drop (Int.toNat from_) = kS) hs.2.2.2.symm <| qe) (by kernel_rfl) ?_
      refine au <| xM sF eS [] 30 ([kS] : List (List UInt8)) [(0, .s kS)] [.s kS] (by kernel_rfl) (by kernel_rfl) (by kernel_rfl) k_ ?_
      intro A2 qF eX
      refine au ?_
      obtain ⟨l2, QM, hm⟩ := ob hm
      obtain ⟨hz, hl⟩ := rX QM
      refine nD (E := eS) (v := sl A2 1 1) (ys := ([kS] : List (List UInt8))) sF [] 31 0 (by kernel_rfl) eX rfl (Src.sl (eX.rd 1 rfl) (eX.len 1 rfl) (by rfl)) (eX.len 1 rfl) (by have := eX.len 0 rfl; have := (eX.len 1 rfl); omega) ?_
      intro A3 c5 uq gG
      rw [← hl] at gG
      have jV := gG.dm (.k .z)
      refine aK 1 [] (.n 5 (sl A3 (l.length + 1) c5) (.kF (.kk (.s .a)))) qe (by kernel_rfl) ?_
      refine aj <| ae <| aP [] (.n 6 (I (aA (i + 1))) .a) qe (by kernel_rfl) ?_
      refine fO ?_
      exact mi ⟨l2, aA (i + 1), A3, l.length + 1, c5, hm, rfl, jV.len 0 rfl, jV⟩ (by kernel_rfl)
    rw [if_neg (by rw [hc1]; decide)] at hm
    refine aH <| fO ?_
    exact mi ⟨l, from_, A0, l.length, c2, hm, rfl, k_.len 0 rfl, k_⟩ (by kernel_rfl)
   rintro L_ xU ⟨l1, qY, A1, _, c3, hm, rfl, rfl, jG⟩
   simp only [fM] at hm
   refine aP [] (.n 7 (I (aA (i + 1))) (.kD .z)) qe (by kernel_rfl) ?_
   exact jZ (l1, qY, aA (i + 1)) (Option.some.inj hm).symm ⟨l1, qY, aA (i + 1), A1, l1.length, c3, rfl, rfl, jG.len 0 rfl, jG⟩ (by kernel_rfl)
 rw [if_neg hc] at hm
 refine eU (bU (bU (iG ?_)))
 have hm := aV hm hr0
 refine ae <| af <| aP [] (.n 4 (sl A0 l.length c2) .z) qe (by kernel_rfl) ?_
 refine ae <| aF ?_
 obtain rfl := Option.some.inj hm
 refine aG [sl A0 l.length c2] qe (by kernel_rfl) ?_
 exact ⟨A0, l.length, c2, k_.len 0 rfl, rfl, k_⟩
theorem pO {F O : Nat → Prop} {w : World} (c : UInt8) (k : Cx F O w w []) (r : Bool) (hm : gW c = some r) :
    Calls Tryz.prog 46 (vals [.u8 c]) w (fun e w' => e = .returned (SV.val (.b r)) ∧ Cx F O w w' []) := by
 unfold gW at hm
 refine calls [.u8 c] Tryz.func46 rfl (of_decide_eq_true (by kernel_rfl)) ?_
 refine af <| aP [] .a qe (by kernel_rfl) ?_
 refine ae <| af <| aP [] (.n 2 (.b ((decide ((48 : UInt8) ≤ c)) && (decide (c ≤ 57)))) .z) qe (by kernel_rfl) ?_
 refine ae <| aF ?_
 obtain rfl := Option.some.inj hm
 refine aG [.b ((decide ((48 : UInt8) ≤ c)) && (decide (c ≤ 57)))] qe (by kernel_rfl) ?_
 exact ⟨rfl, k⟩
theorem BD {F O : Nat → Prop} {w : World} (s_ : List UInt8) (k : Cx F O w w []) (r : Bool) (hm : kW s_ = some r) :
    Calls Tryz.prog 28 (vals [.s s_]) w (fun e w' => e = .returned (SV.val (.b r)) ∧ Cx F O w w' []) := by
 unfold kW at hm
 refine calls [.s s_] Tryz.func28 rfl (of_decide_eq_true (by kernel_rfl)) ?_
 refine af <| aP [] .a qe (by kernel_rfl) ?_
 refine ae <| af <| af <| aP [] (.n 3 (I 0) .a) qe (by kernel_rfl) ?_
 refine ae <| aS <| mV (dO s_) (fun s L wr => ∃ (i : Int), i = s ∧ L = [(0, .s s_), (3, I i)] ∧ Cx F O w wr []) (0 : Int) r hm ⟨(0 : Int), rfl, rfl, k⟩ (by kernel_rfl) ?_
 intro yT L_ w_ y0 hrel hstep hr0
 obtain ⟨i, rfl, rfl, k_⟩ := hrel
 have hm := hstep; simp only [dO] at hm
 clear hstep
 refine af <| af <| aP [] (.n 8 (.b (decide (i < (s_.length : Int)))) .a) qe (by kernel_rfl) ?_
 refine ae <| aQ (i < (s_.length : Int)) (by kernel_rfl) (fun hc => ?_) (fun hc => ?_)
 · rw [if_pos hc] at hm
   refine aH <| ae <| af <| aS <| af ?_
   obtain ⟨c, h_c, hm⟩ := ob hm
   refine aP [] (.n 4 (.u8 c) (.s .a)) (qX h_c <| qe) (by kernel_rfl) ?_
   refine ae <| af <| ay <| aK 1 [] (.n 14 (.u8 c) .a) qe (by kernel_rfl) ?_
   refine au ?_
   obtain ⟨r_, fC, hm⟩ := ob hm
   refine ax [] 15 _ yQ (by kernel_rfl) (pO (F := N0) (O := N0) _ (Cx.refl _) _ fC) ?_
   rintro e_ qF ⟨rfl, fQ⟩
   have eX := k_.call fQ
   refine ⟨.b r_, rfl, ?_⟩
   refine aK 21 [] (.n 36 (.b (((((!r_) && ((decide (c < 97)) || (decide ((122 : UInt8) < c)))) && (decide (c ≠ 95))) && (decide (c ≠ 46))) && (decide (c ≠ 45)))) (.nG .a)) qe (by kernel_rfl) ?_
   refine aj <| ae <| aN (((((!r_) && ((decide (c < 97)) || (decide ((122 : UInt8) < c)))) && (decide (c ≠ 95))) && (decide (c ≠ 46))) && (decide (c ≠ 45))) (by kernel_rfl) (fun hc1 => ?_) (fun hc1 => ?_)
   · rw [if_pos hc1] at hm
     refine af <| aP [] (.n 2 (.b false) .z) qe (by kernel_rfl) ?_
     refine ae <| aF (ed (aJ (aJ (ed (aJ ?_)))))
     have hm := aV hm hr0
     obtain rfl := Option.some.inj hm
     refine aG [.b false] qe (by kernel_rfl) ?_
     exact ⟨rfl, eX⟩
   rw [if_neg (by rw [hc1]; decide)] at hm
   refine aH <| fO <| ae <| aP [] (.n 3 (I (aA (i + 1))) (.s (.k .z))) qe (by kernel_rfl) ?_
   exact jZ (aA (i + 1)) (Option.some.inj hm).symm ⟨aA (i + 1), rfl, rfl, eX⟩ (by kernel_rfl)
 rw [if_neg hc] at hm
 refine eU (bU (bU (iG ?_)))
 have hm := aV hm hr0
 refine ae <| af <| aP [] (.n 2 (.b ((decide (1 ≤ (s_.length : Int))) && (decide ((s_.length : Int) ≤ 32)))) .z) qe (by kernel_rfl) ?_
 refine ae <| aF ?_
 obtain rfl := Option.some.inj hm
 refine aG [.b ((decide (1 ≤ (s_.length : Int))) && (decide ((s_.length : Int) ≤ 32)))] qe (by kernel_rfl) ?_
 exact ⟨rfl, k_⟩
theorem ig {F O : Nat → Prop} {w : World} (fK : List UInt8) (r_at : Int) (aT : Bool) (bJ : Nat) (k : Cx F O w w [Bx 106 bJ [.s fK, I r_at, .b aT]]) (r : (UInt64 × List UInt8 × Int × Bool)) (hm : b_ fK r_at aT = some r) :
    Calls Tryz.prog 47 (vals [pt bJ 0]) w (fun e w' => e = .returned (SV.val (.u64 r.1)) ∧ Cx F O w w' [Bx 106 bJ [.s r.2.1, I r.2.2.1, .b r.2.2.2]]) := by
 unfold b_ at hm
 refine calls [pt bJ 0] Tryz.func47 rfl (of_decide_eq_true (by kernel_rfl)) ?_
 refine af <| aP [] .a qe (by kernel_rfl) ?_
 refine ae <| af <| af ?_
 have k_ := k.drew 1
 refine B_ bu (.q 0 1 (.q 1 1 (.q 2 1 (.q 3 1 (.q 4 0 (.q 5 1 (.q 6 1 (.q 7 1 (.q 8 1 (.q 9 1 (.q 10 1 (.q 11 1 (.q 12 1 (.q 13 1 (.q 14 1 (.q 15 1 (.q 16 0 (.q 17 1 (.q 18 1 (.q 19 1 (.q 20 1 (.q 21 1 (.q 22 1 (.q 23 1 (.q 24 1 (.q 25 1 (.op 26 (.q 27 1 (.q 28 1 .nil))))))))))))))))))))))))))))) [26] k_ (.c (.k .e) .l) (by kernel_rfl) (fun _ => ?_)
 refine jT 4 1 [] (.n 9 (.b aT) .a) (fun x hx => qs bJ 0 <| qs bJ 0 <| qB hx 0 rfl 2 (.b aT) (by kernel_rfl) <| qe) (by kernel_rfl) (fun _ => ?_)
 refine jT 1 0 [] (.n 10 (.b aT) (.s .a)) (fun x hx => qe) (by kernel_rfl) (fun _ => ?_)
 refine jT 11 1 [] (.n 21 (.b (aT || (decide ((fK.length : Int) ≤ r_at)))) (.s .a)) (fun x hx => qp (aT = false → (some ⟨bJ, 0, none⟩ : Option Addr).isSome = true) (fun hg0 => rfl) <| qp (aT = false → (some ⟨bJ, 0, none⟩ : Option Addr).isSome = true) (fun hg0 => rfl) <| qo (I r_at) <| qc (fun w => aT = false → ∃ a, (some ⟨bJ, 1, none⟩ : Option Addr) = some a ∧ w.cell? a = some (SV.val (I r_at))) (fun hg0 => hx.jY 0 rfl 1 (I r_at) (by kernel_rfl)) <| qp (aT = false → (some ⟨bJ, 0, none⟩ : Option Addr).isSome = true) (fun hg0 => rfl) <| qp (aT = false → (some ⟨bJ, 0, none⟩ : Option Addr).isSome = true) (fun hg0 => rfl) <| qo (.s fK) <| qc (fun w => aT = false → ∃ a, (some ⟨bJ, 0, none⟩ : Option Addr) = some a ∧ w.cell? a = some (SV.val (.s fK))) (fun hg0 => hx.jY 0 rfl 0 (.s fK) (by kernel_rfl)) <| qe) (by kernel_rfl) (fun _ => ?_)
 refine jT 1 0 [] (.n 22 (.b (aT || (decide ((fK.length : Int) ≤ r_at)))) (.s .a)) (fun x hx => qe) (by kernel_rfl) (fun _ => ?_)
 refine Cb 22 (aT || (decide ((fK.length : Int) ≤ r_at))) (.s .a) (by kernel_rfl) (fun hg _ => ?_) (fun hg _ => ?_)
 · rw [if_pos hg] at hm
   refine jT 9 1 [22] (.n 31 (.fV []) .a) (fun x hx => qe) (by kernel_rfl) (fun _ => ?_)
   refine yI 32 [22] (by kernel_rfl) rfl (by kernel_rfl) (fun _ => ?_)
   refine jT 2 1 [22] (.n 34 (.b true) (.nG .a)) (fun x hx => qe) (by kernel_rfl) (fun _ => ?_)
   refine iU <| ae <| aN true (by kernel_rfl) (fun _ => ?_) (fun h => by cases h)
   refine af <| ay <| aK 3 [] (.n 37 (pt bJ 2) .z) (qs bJ 0 <| qs bJ 0 <| qe) (by kernel_rfl) ?_
   refine au <| dZ [] 0 (.b true) [.b true] (Pt.at bJ 2) k_ rfl (.kk .h) (by kernel_rfl) (by kernel_rfl) ?_
   intro w_ fQ
   refine aj <| ae <| af <| aP [] (.n 2 (.u64 0) .z) qe (by kernel_rfl) ?_
   refine ae <| aF (aJ ?_)
   obtain rfl := Option.some.inj hm
   refine aG [.u64 0] qe (by kernel_rfl) ?_
   exact ⟨rfl, fQ⟩
 · rw [if_neg (by rw [hg]; decide)] at hm
   obtain ⟨c, h_c, hm⟩ := ob hm
   refine jT 9 1 [22] (.n 31 (.u8 c) .a) (fun x hx => qs bJ 0 <| qs bJ 0 <| qB hx 0 rfl 0 (.s fK) (by kernel_rfl) <| qs bJ 0 <| qs bJ 0 <| qB hx 0 rfl 1 (I r_at) (by kernel_rfl) <| qX h_c <| qe) (by kernel_rfl) (fun _ => ?_)
   refine jX (by kernel_rfl) rfl ?_
   obtain ⟨r_, fC, hm⟩ := ob hm
   refine ax [22] 32 _ yQ (by kernel_rfl) (pO (F := N0) (O := N0) _ (Cx.refl _) _ fC) ?_
   rintro e_ qF ⟨rfl, eX⟩
   have gG := k_.call eX
   refine ⟨.b r_, rfl, ?_⟩
   refine ⟨gG, fun _ => ?_⟩
   refine jT 2 1 [22] (.n 34 (.b (!r_)) (.nG .a)) (fun x hx => qe) (by kernel_rfl) (fun _ => ?_)
   refine iU <| ae <| aN (!r_) (by kernel_rfl) (fun hc => ?_) (fun hc => ?_)
   · rw [if_pos hc] at hm
     refine af <| ay <| aK 3 [] (.n 37 (pt bJ 2) .z) (qs bJ 0 <| qs bJ 0 <| qe) (by kernel_rfl) ?_
     refine au <| dZ [] 0 (.b true) [.b true] (Pt.at bJ 2) gG rfl (.kk .h) (by kernel_rfl) (by kernel_rfl) ?_
     intro uq jV
     refine aj <| ae <| af <| aP [] (.n 2 (.u64 0) .z) qe (by kernel_rfl) ?_
     refine ae <| aF (aJ ?_)
     obtain rfl := Option.some.inj hm
     refine aG [.u64 0] qe (by kernel_rfl) ?_
     exact ⟨rfl, jV⟩
   rw [if_neg (by rw [hc]; decide)] at hm
   refine aH <| ae <| af ?_
   obtain ⟨c1, tN, hm⟩ := ob hm
   refine zh bu (by kernel_rfl) (.n 3 (.u64 (UInt64.ofNat (c1 - 48).toNat)) (.s .a)) (fun m => qs bJ 0 <| qs bJ 0 <| qB (gG.drew m) 0 rfl 0 (.s fK) (by kernel_rfl) <| qs bJ 0 <| qs bJ 0 <| qB (gG.drew m) 0 rfl 1 (I r_at) (by kernel_rfl) <| qX tN <| qe) (by kernel_rfl) (fun m_ => ?_)
   have jG := gG.drew m_
   refine ae <| af <| aP [] (.n 4 (.b (decide ((UInt64.ofNat (c1 - 48).toNat) = 0))) .a) qe (by kernel_rfl) ?_
   refine ae <| af <| ay <| aK 7 [] (.n 55 (I (aA (r_at + 1))) (.n 57 (pt bJ 1) .a)) (qs bJ 0 <| qs bJ 0 <| qB jG 0 rfl 1 (I r_at) (by kernel_rfl) <| qs bJ 0 <| qs bJ 0 <| qe) (by kernel_rfl) ?_
   refine au <| dZ [] 0 (I (aA (r_at + 1))) [I (aA (r_at + 1))] (Pt.at bJ 1) jG rfl (.k .h) (by kernel_rfl) (by kernel_rfl) ?_
   intro xU mD
   refine aj <| ae <| af <| aS <| mV (bW fK aT c1) (fun s L wr => ∃ (bQ : Int) (n : UInt64), (bQ, n) = s ∧ L = [(0, pt bJ 0), (3, .u64 n), (4, .b (decide ((UInt64.ofNat (c1 - 48).toNat) = 0)))] ∧ Cx F O w wr [Bx 106 bJ [.s fK, I bQ, .b aT]]) (aA (r_at + 1), UInt64.ofNat (c1 - 48).toNat) r hm ⟨aA (r_at + 1), UInt64.ofNat (c1 - 48).toNat, rfl, rfl, mD⟩ (by kernel_rfl) ?_
   intro yT L_ Bf y0 hrel hstep hr0
   obtain ⟨bQ, n, rfl, rfl, jA⟩ := hrel
   have hm := hstep; simp only [bW] at hm
   clear hstep
   refine af <| af ?_
   have lX := jA.drew 1
   refine B_ bu (.q 0 1 (.q 1 1 (.q 2 1 (.q 3 1 (.q 4 1 (.q 5 1 (.q 6 1 (.q 7 1 (.q 8 1 (.q 9 0 (.q 10 0 (.q 11 1 (.q 12 1 (.q 13 1 (.q 14 1 (.q 15 1 (.q 16 1 (.q 17 1 (.q 18 1 (.q 19 1 (.op 20 (.q 21 1 .nil)))))))))))))))))))))) [20] lX (.c (.k .e) .l) (by kernel_rfl) (fun _ => ?_)
   refine jT 9 1 [] (.n 61 (I bQ) (.n 66 (I (fK.length : Int)) .a)) (fun x hx => qs bJ 0 <| qs bJ 0 <| qB hx 0 rfl 1 (I bQ) (by kernel_rfl) <| qs bJ 0 <| qs bJ 0 <| qB hx 0 rfl 0 (.s fK) (by kernel_rfl) <| qe) (by kernel_rfl) (fun _ => ?_)
   refine jT 2 0 [] (.n 68 (.b (decide (bQ < (fK.length : Int)))) (.ss .a)) (fun x hx => qe) (by kernel_rfl) (fun _ => ?_)
   refine Cb 68 (decide (bQ < (fK.length : Int))) (.s .a) (by kernel_rfl) (fun hg1 _ => ?_) (fun hg1 _ => ?_)
   · rw [if_pos (of_decide_eq_true hg1)] at hm
     obtain ⟨c2, Bh, hm⟩ := ob hm
     refine jT 9 1 [68] (.n 77 (.u8 c2) .a) (fun x hx => qs bJ 0 <| qs bJ 0 <| qB hx 0 rfl 0 (.s fK) (by kernel_rfl) <| qs bJ 0 <| qs bJ 0 <| qB hx 0 rfl 1 (I bQ) (by kernel_rfl) <| qX Bh <| qe) (by kernel_rfl) (fun _ => ?_)
     refine jX (by kernel_rfl) rfl ?_
     obtain ⟨aX, pJ, hm⟩ := ob hm
     refine ax [68] 78 _ yQ (by kernel_rfl) (pO (F := N0) (O := N0) _ (Cx.refl _) _ pJ) ?_
     rintro e_ D9 ⟨rfl, qH⟩
     have jF := lX.call qH
     refine ⟨.b aX, rfl, ?_⟩
     refine ⟨jF, fun _ => ?_⟩
     refine jT 1 1 [68] (.n 79 (.b aX) (.nG .a)) (fun x hx => qe) (by kernel_rfl) (fun _ => ?_)
     refine iU <| ae <| aN aX (by kernel_rfl) (fun hc1 => ?_) (fun hc1 => ?_)
     · rw [if_pos hc1] at hm
       refine aH <| ae <| aS <| af ?_
       obtain ⟨c3, KH, hm⟩ := ob hm
       refine zh bu (by kernel_rfl) (.n 5 (.u64 (UInt64.ofNat (c3 - 48).toNat)) (.s .a)) (fun m => qs bJ 0 <| qs bJ 0 <| qB (jF.drew m) 0 rfl 0 (.s fK) (by kernel_rfl) <| qs bJ 0 <| qs bJ 0 <| qB (jF.drew m) 0 rfl 1 (I bQ) (by kernel_rfl) <| qX KH <| qe) (by kernel_rfl) (fun I4 => ?_)
       have ji := jF.drew I4
       refine ae <| af <| af <| aP [] (.n 98 (.b ((decide ((UInt64.ofNat (c1 - 48).toNat) = 0)) || (decide ((((18446744073709551615 : UInt64) - (UInt64.ofNat (c3 - 48).toNat)) / 10) < n)))) .a) (qp ((decide ((UInt64.ofNat (c1 - 48).toNat) = 0)) = false → (10 : UInt64) ≠ 0) (fun hg0 => (by show (10 : UInt64) ≠ 0; decide)) <| qe) (by kernel_rfl) ?_
       refine ae <| aN ((decide ((UInt64.ofNat (c1 - 48).toNat) = 0)) || (decide ((((18446744073709551615 : UInt64) - (UInt64.ofNat (c3 - 48).toNat)) / 10) < n))) (by kernel_rfl) (fun hc2 => ?_) (fun hc2 => ?_)
       · rw [if_pos hc2] at hm
         refine af <| ay <| aK 3 [] (.n 101 (pt bJ 2) .z) (qs bJ 0 <| qs bJ 0 <| qe) (by kernel_rfl) ?_
         refine au <| dZ [] 0 (.b true) [.b true] (Pt.at bJ 2) ji rfl (.kk .h) (by kernel_rfl) (by kernel_rfl) ?_
         intro Es jk
         refine aj <| ae <| af <| aP [] (.n 2 (.u64 0) .z) qe (by kernel_rfl) ?_
         refine ae <| aF (aJ (ed (aJ (ed (aJ ?_)))))
         have hm := aV hm hr0
         obtain rfl := Option.some.inj hm
         refine aG [.u64 0] qe (by kernel_rfl) ?_
         exact ⟨rfl, jk⟩
       rw [if_neg (by rw [hc2]; decide)] at hm
       refine aH <| ae <| af <| aP [] (.n 3 (.u64 (((10 : UInt64) * n) + (UInt64.ofNat (c3 - 48).toNat))) (.ss (.k (.s .a)))) qe (by kernel_rfl) ?_
       refine ae <| ay <| aK 7 [] (.n 110 (I (aA (bQ + 1))) (.n 112 (pt bJ 1) .a)) (qs bJ 0 <| qs bJ 0 <| qB ji 0 rfl 1 (I bQ) (by kernel_rfl) <| qs bJ 0 <| qs bJ 0 <| qe) (by kernel_rfl) ?_
       refine au <| dZ [] 0 (I (aA (bQ + 1))) [I (aA (bQ + 1))] (Pt.at bJ 1) ji rfl (.k .h) (by kernel_rfl) (by kernel_rfl) ?_
       intro G9 kR
       refine aj <| fO ?_
       exact jZ (aA (bQ + 1), ((10 : UInt64) * n) + (UInt64.ofNat (c3 - 48).toNat)) (Option.some.inj hm).symm ⟨aA (bQ + 1), ((10 : UInt64) * n) + (UInt64.ofNat (c3 - 48).toNat), rfl, rfl, kR⟩ (by kernel_rfl)
     rw [if_neg (by rw [hc1]; decide)] at hm
     refine eU (bU (bU (iG ?_)))
     have hm := aV hm hr0
     refine ae <| af <| aP [] (.n 2 (.u64 n) .z) qe (by kernel_rfl) ?_
     refine ae <| aF ?_
     obtain rfl := Option.some.inj hm
     refine aG [.u64 n] qe (by kernel_rfl) ?_
     exact ⟨rfl, jF⟩
   · rw [if_neg (of_decide_eq_false hg1)] at hm
     refine jT 9 1 [68] (.n 77 (.fV []) .a) (fun x hx => qe) (by kernel_rfl) (fun _ => ?_)
     refine yI 78 [68] (by kernel_rfl) rfl (by kernel_rfl) (fun _ => ?_)
     refine jT 1 1 [68] (.n 79 (.b false) (.nG .a)) (fun x hx => qe) (by kernel_rfl) (fun _ => ?_)
     refine iU <| ae <| aN false (by kernel_rfl) (fun h => by cases h) (fun _ => ?_)
     refine eU (bU (bU (iG ?_)))
     have hm := aV hm hr0
     refine ae <| af <| aP [] (.n 2 (.u64 n) .z) qe (by kernel_rfl) ?_
     refine ae <| aF ?_
     obtain rfl := Option.some.inj hm
     refine aG [.u64 n] qe (by kernel_rfl) ?_
     exact ⟨rfl, lX⟩
theorem uz {F O : Nat → Prop} {w : World} (s_ : List UInt8) (k : Cx F O w w []) (r : (UInt64 × Bool)) (hm : iR s_ = some r) :
    Calls Tryz.prog 29 (vals [.s s_]) w (fun e w' => e = .returned (SV.val (.fV [.u64 r.1, .b r.2])) ∧ Cx F O w w' []) := by
 unfold iR at hm
 refine calls [.s s_] Tryz.func29 rfl (of_decide_eq_true (by kernel_rfl)) ?_
 refine af <| aP [] .a qe (by kernel_rfl) ?_
 refine ae <| af <| ay <| aK 2 [] (.n 7 (.agg [.s s_, I 0, .b false]) .a) qe (by kernel_rfl) ?_
 refine au <| ik [] 8 (.agg [.s s_, I 0, .b false]) [.s s_, I 0, .b false] (by kernel_rfl) k ?_
 intro g w_ k_
 refine aK 1 [] (.n 4 (pt g 0) (.ss .a)) qe (by kernel_rfl) ?_
 refine aj <| ae <| af <| ay <| aK 1 [] (.n 9 (pt g 0) .a) qe (by kernel_rfl) ?_
 refine au ?_
 obtain ⟨r_, fC, hm⟩ := ob hm
 obtain ⟨F1, O1, kin, hO, hre, hF, hb⟩ := k_.go (.i .e)
 refine ax [] 10 _ uQ (by kernel_rfl) (ig (F := F1) (O := O1) _ _ _ _ kin _ fC) ?_
 rintro e_ qF ⟨rfl, fQ⟩
 have eX := hb qF _ _ fQ (.c .n)
 refine ⟨.u64 r_.1, rfl, ?_⟩
 refine aK 1 [] (.n 5 (.u64 r_.1) (.ss .a)) qe (by kernel_rfl) ?_
 refine aj <| ae <| af <| zh bu (by kernel_rfl) (.n 2 (.u64 r_.1) (.n 3 (.b ((!r_.2.2.2) && (decide (r_.2.2.1 = (s_.length : Int))))) .z)) (fun m => qs g 0 <| qs g 0 <| qB (eX.drew m) 0 rfl 2 (.b r_.2.2.2) (by kernel_rfl) <| qp ((!r_.2.2.2) = true → (some ⟨g, 0, none⟩ : Option Addr).isSome = true) (fun hg0 => rfl) <| qp ((!r_.2.2.2) = true → (some ⟨g, 0, none⟩ : Option Addr).isSome = true) (fun hg0 => rfl) <| qo (I r_.2.2.1) <| qc (fun w => (!r_.2.2.2) = true → ∃ a, (some ⟨g, 1, none⟩ : Option Addr) = some a ∧ w.cell? a = some (SV.val (I r_.2.2.1))) (fun hg0 => (eX.drew m).jY 0 rfl 1 (I r_.2.2.1) (by kernel_rfl)) <| qe) (by kernel_rfl) (fun m_ => ?_)
 have gG := eX.drew m_
 refine ae <| aF ?_
 obtain rfl := Option.some.inj hm
 refine aG [.u64 r_.1, .b ((!r_.2.2.2) && (decide (r_.2.2.1 = (s_.length : Int))))] qe (by kernel_rfl) ?_
 have jV := gG.dm .z
 exact ⟨rfl, jV⟩
theorem dJ {F O : Nat → Prop} {w : World} (fK : List UInt8) (r_at : Int) (aT : Bool) (w_ : List UInt8) (bJ : Nat) (k : Cx F O w w [Bx 106 bJ [.s fK, I r_at, .b aT]]) (r : (List UInt8 × Int × Bool)) (hm : aZ fK r_at aT w_ = some r) :
    Calls Tryz.prog 48 (vals [pt bJ 0, .s w_]) w (fun e w' => e = .returned (SV.val (.fV [])) ∧ Cx F O w w' [Bx 106 bJ [.s r.1, I r.2.1, .b r.2.2]]) := by
 unfold aZ at hm
 refine calls [pt bJ 0, .s w_] Tryz.func48 rfl (of_decide_eq_true (by kernel_rfl)) ?_
 refine af <| aP [] (.n 4 (I 0) .a) qe (by kernel_rfl) ?_
 refine ae <| aS <| mV (bz fK aT w_) (fun s L wr => ∃ (r_ : Int) (i : Int), (r_, i) = s ∧ L = [(0, pt bJ 0), (1, .s w_), (4, I i)] ∧ Cx F O w wr [Bx 106 bJ [.s fK, I r_, .b aT]]) (r_at, (0 : Int)) r hm ⟨r_at, (0 : Int), rfl, rfl, k⟩ (by kernel_rfl) ?_
 intro yT L_ qF y0 hrel hstep hr0
 obtain ⟨r_, i, rfl, rfl, k_⟩ := hrel
 have hm := hstep; simp only [bz] at hm
 clear hstep
 refine af <| af <| aP [] (.n 15 (.b ((decide (i < (w_.length : Int))) && (!aT))) .a) (qp ((decide (i < (w_.length : Int))) = true → (some ⟨bJ, 0, none⟩ : Option Addr).isSome = true) (fun hg0 => rfl) <| qp ((decide (i < (w_.length : Int))) = true → (some ⟨bJ, 0, none⟩ : Option Addr).isSome = true) (fun hg0 => rfl) <| qo (.b aT) <| qc (fun w => (decide (i < (w_.length : Int))) = true → ∃ a, (some ⟨bJ, 2, none⟩ : Option Addr) = some a ∧ w.cell? a = some (SV.val (.b aT))) (fun hg0 => k_.jY 0 rfl 2 (.b aT) (by kernel_rfl)) <| qe) (by kernel_rfl) ?_
 refine ae <| aN ((decide (i < (w_.length : Int))) && (!aT)) (by kernel_rfl) (fun hc => ?_) (fun hc => ?_)
 · rw [if_pos hc] at hm
   refine aH <| ae <| af <| aS <| af <| af ?_
   obtain ⟨c, h_c, hm⟩ := ob hm
   obtain ⟨c1, tN, hm⟩ := ob hm
   refine zh bu (by kernel_rfl) (.n 42 (.b ((decide ((fK.length : Int) ≤ r_)) || (decide (c ≠ c1)))) (.s .a)) (fun m => qs bJ 0 <| qs bJ 0 <| qB (k_.drew m) 0 rfl 1 (I r_) (by kernel_rfl) <| qs bJ 0 <| qs bJ 0 <| qB (k_.drew m) 0 rfl 0 (.s fK) (by kernel_rfl) <| qp ((decide ((fK.length : Int) ≤ r_)) = false → (some ⟨bJ, 0, none⟩ : Option Addr).isSome = true) (fun hg0 => rfl) <| qp ((decide ((fK.length : Int) ≤ r_)) = false → (some ⟨bJ, 0, none⟩ : Option Addr).isSome = true) (fun hg0 => rfl) <| qo (.s fK) <| qc (fun w => (decide ((fK.length : Int) ≤ r_)) = false → ∃ a, (some ⟨bJ, 0, none⟩ : Option Addr) = some a ∧ w.cell? a = some (SV.val (.s fK))) (fun hg0 => (k_.drew m).jY 0 rfl 0 (.s fK) (by kernel_rfl)) <| qp ((decide ((fK.length : Int) ≤ r_)) = false → (some ⟨bJ, 0, none⟩ : Option Addr).isSome = true) (fun hg0 => rfl) <| qp ((decide ((fK.length : Int) ≤ r_)) = false → (some ⟨bJ, 0, none⟩ : Option Addr).isSome = true) (fun hg0 => rfl) <| qo (I r_) <| qc (fun w => (decide ((fK.length : Int) ≤ r_)) = false → ∃ a, (some ⟨bJ, 1, none⟩ : Option Addr) = some a ∧ w.cell? a = some (SV.val (I r_))) (fun hg0 => (k_.drew m).jY 0 rfl 1 (I r_) (by kernel_rfl)) <| qo (.u8 c) <| qp ((decide ((fK.length : Int) ≤ r_)) = false → 0 ≤ r_ ∧ fK[Int.toNat r_]? = some c) (fun hg0 => bC (iT h_c hg0)) <| qo (.u8 c1) <| qp ((decide ((fK.length : Int) ≤ r_)) = false → 0 ≤ i ∧ w_[Int.toNat i]? = some c1) (fun hg0 => bC (iT tN hg0)) <| qe) (by kernel_rfl) (fun m_ => ?_)
   have fQ := k_.drew m_
   refine ae <| aN ((decide ((fK.length : Int) ≤ r_)) || (decide (c ≠ c1))) (by kernel_rfl) (fun hc1 => ?_) (fun hc1 => ?_)
   · rw [if_pos hc1] at hm
     refine af <| ay <| aK 3 [] (.n 45 (pt bJ 2) .z) (qs bJ 0 <| qs bJ 0 <| qe) (by kernel_rfl) ?_
     refine au <| dZ [] 0 (.b true) [.b true] (Pt.at bJ 2) fQ rfl (.kk .h) (by kernel_rfl) (by kernel_rfl) ?_
     intro uq eX
     refine aj <| ae <| aF (aJ (ed (aJ (aJ (ed ?_)))))
     have hm := aV hm hr0
     obtain rfl := Option.some.inj hm
     refine aG [] qe (by kernel_rfl) ?_
     exact ⟨rfl, eX⟩
   rw [if_neg (by rw [hc1]; decide)] at hm
   refine aH <| ae <| ay <| aK 7 [] (.n 50 (I (aA (r_ + 1))) (.n 52 (pt bJ 1) (.s .a))) (qs bJ 0 <| qs bJ 0 <| qB fQ 0 rfl 1 (I r_) (by kernel_rfl) <| qs bJ 0 <| qs bJ 0 <| qe) (by kernel_rfl) ?_
   refine au <| dZ [] 0 (I (aA (r_ + 1))) [I (aA (r_ + 1))] (Pt.at bJ 1) fQ rfl (.k .h) (by kernel_rfl) (by kernel_rfl) ?_
   intro xU gG
   refine aj <| fO <| ae <| aP [] (.n 4 (I (aA (i + 1))) (.ss (.kk .z))) qe (by kernel_rfl) ?_
   exact jZ (aA (r_ + 1), aA (i + 1)) (Option.some.inj hm).symm ⟨aA (r_ + 1), aA (i + 1), rfl, rfl, gG⟩ (by kernel_rfl)
 rw [if_neg (by rw [hc]; decide)] at hm
 refine eU (bU (bU (iG ?_)))
 have hm := aV hm hr0
 obtain rfl := Option.some.inj hm
 refine Jy [] qe (by kernel_rfl) ?_
 exact ⟨rfl, k_⟩
theorem rG {F O : Nat → Prop} {w : World} (fK : List UInt8) (r_at : Int) (aT : Bool) (bJ : Nat) (k : Cx F O w w [Bx 106 bJ [.s fK, I r_at, .b aT]]) (r : (Int × List UInt8 × Int × Bool)) (hm : gz fK r_at aT = some r) :
    Calls Tryz.prog 49 (vals [pt bJ 0]) w (fun e w' => e = .returned (SV.val (I r.1)) ∧ Cx F O w w' [Bx 106 bJ [.s r.2.1, I r.2.2.1, .b r.2.2.2]]) := by
 unfold gz at hm
 refine calls [pt bJ 0] Tryz.func49 rfl (of_decide_eq_true (by kernel_rfl)) ?_
 refine af <| aP [] .a qe (by kernel_rfl) ?_
 refine ae <| af <| af <| zh bu (by kernel_rfl) (.n 18 (.b (aT || (decide ((fK.length : Int) ≤ r_at)))) .a) (fun m => qs bJ 0 <| qs bJ 0 <| qB (k.drew m) 0 rfl 2 (.b aT) (by kernel_rfl) <| qp (aT = false → (some ⟨bJ, 0, none⟩ : Option Addr).isSome = true) (fun hg0 => rfl) <| qp (aT = false → (some ⟨bJ, 0, none⟩ : Option Addr).isSome = true) (fun hg0 => rfl) <| qo (I r_at) <| qc (fun w => aT = false → ∃ a, (some ⟨bJ, 1, none⟩ : Option Addr) = some a ∧ w.cell? a = some (SV.val (I r_at))) (fun hg0 => (k.drew m).jY 0 rfl 1 (I r_at) (by kernel_rfl)) <| qp (aT = false → (some ⟨bJ, 0, none⟩ : Option Addr).isSome = true) (fun hg0 => rfl) <| qp (aT = false → (some ⟨bJ, 0, none⟩ : Option Addr).isSome = true) (fun hg0 => rfl) <| qo (.s fK) <| qc (fun w => aT = false → ∃ a, (some ⟨bJ, 0, none⟩ : Option Addr) = some a ∧ w.cell? a = some (SV.val (.s fK))) (fun hg0 => (k.drew m).jY 0 rfl 0 (.s fK) (by kernel_rfl)) <| qe) (by kernel_rfl) (fun m_ => ?_)
 have k_ := k.drew m_
 refine ae <| aN (aT || (decide ((fK.length : Int) ≤ r_at))) (by kernel_rfl) (fun hc => ?_) (fun hc => ?_)
 · rw [if_pos hc] at hm
   refine af <| ay <| aK 3 [] (.n 21 (pt bJ 2) .z) (qs bJ 0 <| qs bJ 0 <| qe) (by kernel_rfl) ?_
   refine au <| dZ [] 0 (.b true) [.b true] (Pt.at bJ 2) k_ rfl (.kk .h) (by kernel_rfl) (by kernel_rfl) ?_
   intro w_ fQ
   refine aj <| ae <| af <| aP [] (.n 2 (I 0) .z) qe (by kernel_rfl) ?_
   refine ae <| aF (aJ ?_)
   obtain rfl := Option.some.inj hm
   refine aG [I 0] qe (by kernel_rfl) ?_
   exact ⟨rfl, fQ⟩
 rw [if_neg (by rw [hc]; decide)] at hm
 refine aH <| ae <| af <| af ?_
 obtain ⟨c, h_c, hm⟩ := ob hm
 refine zh bu (by kernel_rfl) (.n 31 (.b (decide (c = 100))) (.s .a)) (fun m => qs bJ 0 <| qs bJ 0 <| qB (k_.drew m) 0 rfl 0 (.s fK) (by kernel_rfl) <| qs bJ 0 <| qs bJ 0 <| qB (k_.drew m) 0 rfl 1 (I r_at) (by kernel_rfl) <| qX h_c <| qe) (by kernel_rfl) (fun I4 => ?_)
 have eX := k_.drew I4
 refine ae <| aQ (c = 100) (by kernel_rfl) (fun hc1 => ?_) (fun hc1 => ?_)
 · rw [if_pos hc1] at hm
   refine af <| ay <| aK 7 [] (.n 36 (I (aA (r_at + 1))) (.n 38 (pt bJ 1) .z)) (qs bJ 0 <| qs bJ 0 <| qB eX 0 rfl 1 (I r_at) (by kernel_rfl) <| qs bJ 0 <| qs bJ 0 <| qe) (by kernel_rfl) ?_
   refine au <| dZ [] 0 (I (aA (r_at + 1))) [I (aA (r_at + 1))] (Pt.at bJ 1) eX rfl (.k .h) (by kernel_rfl) (by kernel_rfl) ?_
   intro qF gG
   refine aj <| ae <| af <| aP [] (.n 2 (I 0) .z) qe (by kernel_rfl) ?_
   refine ae <| aF (aJ ?_)
   obtain rfl := Option.some.inj hm
   refine aG [I 0] qe (by kernel_rfl) ?_
   exact ⟨rfl, gG⟩
 rw [if_neg hc1] at hm
 refine aH <| ae <| af <| ay <| aK 1 [] (.n 39 (pt bJ 0) (.s .a)) qe (by kernel_rfl) ?_
 refine au ?_
 obtain ⟨r_, fC, hm⟩ := ob hm
 obtain ⟨F1, O1, kin, hO, hre, hF, hb⟩ := eX.go (.i .e)
 refine ax [] 40 _ nV (by kernel_rfl) (dJ (F := F1) (O := O1) _ _ _ _ _ kin _ fC) ?_
 rintro e_ uq ⟨rfl, jV⟩
 have jG := hb uq _ _ jV (.c .n)
 refine ⟨.fV [], rfl, ?_⟩
 refine aj <| ae <| af <| af ?_
 obtain ⟨c1, tN, hm⟩ := ob hm
 refine zh bu (by kernel_rfl) (.n 69 (.b (((!r_.2.2) && (decide (r_.2.1 < (r_.1.length : Int)))) && (decide (c1 = 100)))) (.ss .a)) (fun m => qs bJ 0 <| qs bJ 0 <| qB (jG.drew m) 0 rfl 2 (.b r_.2.2) (by kernel_rfl) <| qp ((!r_.2.2) = true → (some ⟨bJ, 0, none⟩ : Option Addr).isSome = true) (fun hg0 => rfl) <| qp ((!r_.2.2) = true → (some ⟨bJ, 0, none⟩ : Option Addr).isSome = true) (fun hg0 => rfl) <| qo (I r_.2.1) <| qc (fun w => (!r_.2.2) = true → ∃ a, (some ⟨bJ, 1, none⟩ : Option Addr) = some a ∧ w.cell? a = some (SV.val (I r_.2.1))) (fun hg0 => (jG.drew m).jY 0 rfl 1 (I r_.2.1) (by kernel_rfl)) <| qp ((!r_.2.2) = true → (some ⟨bJ, 0, none⟩ : Option Addr).isSome = true) (fun hg0 => rfl) <| qp ((!r_.2.2) = true → (some ⟨bJ, 0, none⟩ : Option Addr).isSome = true) (fun hg0 => rfl) <| qo (.s r_.1) <| qc (fun w => (!r_.2.2) = true → ∃ a, (some ⟨bJ, 0, none⟩ : Option Addr) = some a ∧ w.cell? a = some (SV.val (.s r_.1))) (fun hg0 => (jG.drew m).jY 0 rfl 0 (.s r_.1) (by kernel_rfl)) <| qp (((!r_.2.2) && (decide (r_.2.1 < (r_.1.length : Int)))) = true → (some ⟨bJ, 0, none⟩ : Option Addr).isSome = true) (fun hg0 => rfl) <| qp (((!r_.2.2) && (decide (r_.2.1 < (r_.1.length : Int)))) = true → (some ⟨bJ, 0, none⟩ : Option Addr).isSome = true) (fun hg0 => rfl) <| qo (.s r_.1) <| qc (fun w => ((!r_.2.2) && (decide (r_.2.1 < (r_.1.length : Int)))) = true → ∃ a, (some ⟨bJ, 0, none⟩ : Option Addr) = some a ∧ w.cell? a = some (SV.val (.s r_.1))) (fun hg0 => (jG.drew m).jY 0 rfl 0 (.s r_.1) (by kernel_rfl)) <| qp (((!r_.2.2) && (decide (r_.2.1 < (r_.1.length : Int)))) = true → (some ⟨bJ, 0, none⟩ : Option Addr).isSome = true) (fun hg0 => rfl) <| qp (((!r_.2.2) && (decide (r_.2.1 < (r_.1.length : Int)))) = true → (some ⟨bJ, 0, none⟩ : Option Addr).isSome = true) (fun hg0 => rfl) <| qo (I r_.2.1) <| qc (fun w => ((!r_.2.2) && (decide (r_.2.1 < (r_.1.length : Int)))) = true → ∃ a, (some ⟨bJ, 1, none⟩ : Option Addr) = some a ∧ w.cell? a = some (SV.val (I r_.2.1))) (fun hg0 => (jG.drew m).jY 0 rfl 1 (I r_.2.1) (by kernel_rfl)) <| qo (.u8 c1) <| qp (((!r_.2.2) && (decide (r_.2.1 < (r_.1.length : Int)))) = true → 0 ≤ r_.2.1 ∧ r_.1[Int.toNat r_.2.1]? = some c1) (fun hg0 => bC (gQ tN hg0)) <| qe) (by kernel_rfl) (fun TM => ?_)
 have mD := jG.drew TM
 refine ae <| aN (((!r_.2.2) && (decide (r_.2.1 < (r_.1.length : Int)))) && (decide (c1 = 100))) (by kernel_rfl) (fun hc2 => ?_) (fun hc2 => ?_)
 · rw [if_pos hc2] at hm
   refine af <| ay <| aK 7 [] (.n 74 (I (aA (r_.2.1 + 1))) (.n 76 (pt bJ 1) .z)) (qs bJ 0 <| qs bJ 0 <| qB mD 0 rfl 1 (I r_.2.1) (by kernel_rfl) <| qs bJ 0 <| qs bJ 0 <| qe) (by kernel_rfl) ?_
   refine au <| dZ [] 0 (I (aA (r_.2.1 + 1))) [I (aA (r_.2.1 + 1))] (Pt.at bJ 1) mD rfl (.k .h) (by kernel_rfl) (by kernel_rfl) ?_
   intro xU jA
   refine aj <| ae <| af <| aP [] (.n 2 (I 2) .z) qe (by kernel_rfl) ?_
   refine ae <| aF (aJ ?_)
   obtain rfl := Option.some.inj hm
   refine aG [I 2] qe (by kernel_rfl) ?_
   exact ⟨rfl, jA⟩
 rw [if_neg (by rw [hc2]; decide)] at hm
 refine aH <| ae <| af <| aP [] (.n 2 (I 1) .z) qe (by kernel_rfl) ?_
 refine ae <| aF ?_
 obtain rfl := Option.some.inj hm
 refine aG [I 1] qe (by kernel_rfl) ?_
 exact ⟨rfl, mD⟩
theorem nZ {F O : Nat → Prop} {w : World} (c : UInt8) (k : Cx F O w w []) (r : Int) (hm : ja c = some r) :
    Calls Tryz.prog 78 (vals [.u8 c]) w (fun e w' => e = .returned (SV.val (I r)) ∧ Cx F O w w' []) := by
 unfold ja at hm
 refine calls [.u8 c] Tryz.func78 rfl (of_decide_eq_true (by kernel_rfl)) ?_
 refine af <| aP [] .a qe (by kernel_rfl) ?_
 refine ae <| af <| af <| aP [] (.n 3 (I 0) .a) qe (by kernel_rfl) ?_
 refine ae <| aS <| mV (jf c) (fun s L wr => ∃ (i : Int), i = s ∧ L = [(0, .u8 c), (3, I i)] ∧ Cx F O w wr []) (0 : Int) r hm ⟨(0 : Int), rfl, rfl, k⟩ (by kernel_rfl) ?_
 intro yT L_ w_ y0 hrel hstep hr0
 obtain ⟨i, rfl, rfl, k_⟩ := hrel
 have hm := hstep; simp only [jf] at hm
 clear hstep
 refine af <| af <| aP [] (.n 5 (.b (decide (i < 64))) .a) qe (by kernel_rfl) ?_
 refine ae <| aQ (i < 64) (by kernel_rfl) (fun hc => ?_) (fun hc => ?_)
 · rw [if_pos hc] at hm
   refine aH <| ae <| af <| aS <| af ?_
   obtain ⟨c1, tN, hm⟩ := ob hm
   refine aP [] (.n 11 (.b (decide (c1 = c))) (.s .a)) (qX tN <| qe) (by kernel_rfl) ?_
   refine ae <| aQ (c1 = c) (by kernel_rfl) (fun hc1 => ?_) (fun hc1 => ?_)
   · rw [if_pos hc1] at hm
     refine af <| aP [] (.n 2 (I i) .z) qe (by kernel_rfl) ?_
     refine ae <| aF (ed (aJ (aJ (ed (aJ ?_)))))
     have hm := aV hm hr0
     obtain rfl := Option.some.inj hm
     refine aG [I i] qe (by kernel_rfl) ?_
     exact ⟨rfl, k_⟩
   rw [if_neg hc1] at hm
   refine aH <| fO <| ae <| aP [] (.n 3 (I (aA (i + 1))) (.s (.k .z))) qe (by kernel_rfl) ?_
   exact jZ (aA (i + 1)) (Option.some.inj hm).symm ⟨aA (i + 1), rfl, rfl, k_⟩ (by kernel_rfl)
 rw [if_neg hc] at hm
 refine eU (bU (bU (iG ?_)))
 have hm := aV hm hr0
 refine ae <| af <| aP [] (.n 2 (I (-1)) .z) qe (by kernel_rfl) ?_
 refine ae <| aF ?_
 obtain rfl := Option.some.inj hm
 refine aG [I (-1)] qe (by kernel_rfl) ?_
 exact ⟨rfl, k_⟩
theorem kU {F O : Nat → Prop} {w : World} (fK : List UInt8) (r_at : Int) (aT : Bool) (bJ : Nat) (k : Cx F O w w [Bx 106 bJ [.s fK, I r_at, .b aT]]) (r : (List UInt8 × List UInt8 × Int × Bool)) (hm : dD fK r_at aT = some r) :
    Calls Tryz.prog 50 (vals [pt bJ 0]) w (fun e w' => e = .returned (SV.val (.s r.1)) ∧ Cx F O w w' [Bx 106 bJ [.s r.2.1, I r.2.2.1, .b r.2.2.2]]) := by
 unfold dD at hm
 refine calls [pt bJ 0] Tryz.func50 rfl (of_decide_eq_true (by kernel_rfl)) ?_
 refine af <| aP [] .a qe (by kernel_rfl) ?_
 refine ae <| af <| aP [] (.n 3 (I r_at) .a) (qs bJ 0 <| qs bJ 0 <| qB k 0 rfl 1 (I r_at) (by kernel_rfl) <| qe) (by kernel_rfl) ?_
 refine ae <| af <| aS <| mV (bg fK r_at aT) (fun s L wr => ∃ (r_ : Int), r_ = s ∧ L = [(0, pt bJ 0), (3, I r_at)] ∧ Cx F O w wr [Bx 106 bJ [.s fK, I r_, .b aT]]) r_at r hm ⟨r_at, rfl, rfl, k⟩ (by kernel_rfl) ?_
 intro yT L_ w_ y0 hrel hstep hr0
 obtain ⟨r_, rfl, rfl, k_⟩ := hrel
 have hm := hstep; simp only [bg] at hm
 clear hstep
 refine af <| af ?_
 have fQ := k_.drew 1
 refine B_ bu (.q 0 1 (.q 1 1 (.q 2 1 (.q 3 1 (.q 4 1 (.q 5 0 (.q 6 1 (.q 7 1 (.q 8 1 (.q 9 1 (.q 10 1 (.q 11 1 (.q 12 1 (.q 13 1 (.q 14 1 (.q 15 1 (.q 16 1 (.q 17 0 (.q 18 1 (.q 19 1 (.q 20 1 (.q 21 1 (.q 22 1 (.q 23 1 (.q 24 1 (.q 25 1 (.q 26 1 (.op 27 (.q 28 1 (.q 29 1 .nil)))))))))))))))))))))))))))))) [27] fQ (.c (.k .e) .l) (by kernel_rfl) (fun _ => ?_)
 refine jT 5 1 [] (.n 12 (.b (!aT)) .a) (fun x hx => qs bJ 0 <| qs bJ 0 <| qB hx 0 rfl 2 (.b aT) (by kernel_rfl) <| qe) (by kernel_rfl) (fun _ => ?_)
 refine jT 1 0 [] (.n 13 (.b (!aT)) (.s .a)) (fun x hx => qe) (by kernel_rfl) (fun _ => ?_)
 refine jT 11 1 [] (.n 24 (.b ((!aT) && (decide (r_ < (fK.length : Int))))) (.s .a)) (fun x hx => qp ((!aT) = true → (some ⟨bJ, 0, none⟩ : Option Addr).isSome = true) (fun hg0 => rfl) <| qp ((!aT) = true → (some ⟨bJ, 0, none⟩ : Option Addr).isSome = true) (fun hg0 => rfl) <| qo (I r_) <| qc (fun w => (!aT) = true → ∃ a, (some ⟨bJ, 1, none⟩ : Option Addr) = some a ∧ w.cell? a = some (SV.val (I r_))) (fun hg0 => hx.jY 0 rfl 1 (I r_) (by kernel_rfl)) <| qp ((!aT) = true → (some ⟨bJ, 0, none⟩ : Option Addr).isSome = true) (fun hg0 => rfl) <| qp ((!aT) = true → (some ⟨bJ, 0, none⟩ : Option Addr).isSome = true) (fun hg0 => rfl) <| qo (.s fK) <| qc (fun w => (!aT) = true → ∃ a, (some ⟨bJ, 0, none⟩ : Option Addr) = some a ∧ w.cell? a = some (SV.val (.s fK))) (fun hg0 => hx.jY 0 rfl 0 (.s fK) (by kernel_rfl)) <| qe) (by kernel_rfl) (fun _ => ?_)
 refine jT 1 0 [] (.n 25 (.b ((!aT) && (decide (r_ < (fK.length : Int))))) (.s .a)) (fun x hx => qe) (by kernel_rfl) (fun _ => ?_)
 refine Cb 25 ((!aT) && (decide (r_ < (fK.length : Int)))) (.s .a) (by kernel_rfl) (fun hg _ => ?_) (fun hg _ => ?_)
 · rw [if_pos hg] at hm
   obtain ⟨c, h_c, hm⟩ := ob hm
   refine jT 9 1 [25] (.n 34 (.u8 c) .a) (fun x hx => qs bJ 0 <| qs bJ 0 <| qB hx 0 rfl 0 (.s fK) (by kernel_rfl) <| qs bJ 0 <| qs bJ 0 <| qB hx 0 rfl 1 (I r_) (by kernel_rfl) <| qX h_c <| qe) (by kernel_rfl) (fun _ => ?_)
   refine jX (by kernel_rfl) rfl ?_
   obtain ⟨bQ, l_, hm⟩ := ob hm
   refine ax [25] 35 _ yS (by kernel_rfl) (nZ (F := N0) (O := N0) _ (Cx.refl _) _ l_) ?_
   rintro e_ qF ⟨rfl, eX⟩
   have gG := fQ.call eX
   refine ⟨I bQ, rfl, ?_⟩
   refine ⟨gG, fun _ => ?_⟩
   refine jT 2 1 [25] (.n 37 (.b (decide (0 ≤ bQ))) (.nG .a)) (fun x hx => qe) (by kernel_rfl) (fun _ => ?_)
   refine iU <| ae <| aQ (0 ≤ bQ) (by kernel_rfl) (fun hc => ?_) (fun hc => ?_)
   · rw [if_pos hc] at hm
     refine aH <| ae <| aS <| ay <| aK 7 [] (.n 42 (I (aA (r_ + 1))) (.n 44 (pt bJ 1) (.s .a))) (qs bJ 0 <| qs bJ 0 <| qB gG 0 rfl 1 (I r_) (by kernel_rfl) <| qs bJ 0 <| qs bJ 0 <| qe) (by kernel_rfl) ?_
     refine au <| dZ [] 0 (I (aA (r_ + 1))) [I (aA (r_ + 1))] (Pt.at bJ 1) gG rfl (.k .h) (by kernel_rfl) (by kernel_rfl) ?_
     intro uq jV
     refine aj <| fO ?_
     exact jZ (aA (r_ + 1)) (Option.some.inj hm).symm ⟨aA (r_ + 1), rfl, rfl, jV⟩ (by kernel_rfl)
   rw [if_neg hc] at hm
   refine eU (bU (bU (iG ?_)))
   have hm := aV hm hr0
   refine ae <| af ?_
   obtain ⟨s_, KI, hm⟩ := ob hm
   have hs := fE KI
   refine zh bu (by kernel_rfl) (.n 2 (.s s_) .z) (fun m => qs bJ 0 <| qs bJ 0 <| qB (gG.drew m) 0 rfl 0 (.s fK) (by kernel_rfl) <| qs bJ 0 <| qs bJ 0 <| qB (gG.drew m) 0 rfl 1 (I r_) (by kernel_rfl) <| qp (0 ≤ r_ ∧ r_ ≤ ((fK.length : Nat) : Int)) (by omega) <| qp (0 ≤ r_at ∧ r_at ≤ ((Int.toNat r_ : Nat) : Int)) (by omega) <| qo (.s s_) <| qp ((fK.take (Int.toNat r_)).drop (Int.toNat r_at) = s_) hs.2.2.2.symm <| qe) (by kernel_rfl) (fun m_ => ?_)
   have jG := gG.drew m_
   refine ae <| aF ?_
   obtain rfl := Option.some.inj hm
   refine aG [.s s_] qe (by kernel_rfl) ?_
   exact ⟨rfl, jG⟩
 · rw [if_neg (by rw [hg]; decide)] at hm
   refine jT 9 1 [25] (.n 34 (.fV []) .a) (fun x hx => qe) (by kernel_rfl) (fun _ => ?_)
   refine yI 35 [25] (by kernel_rfl) rfl (by kernel_rfl) (fun _ => ?_)
   refine jT 2 1 [25] (.n 37 (.b false) (.nG .a)) (fun x hx => qe) (by kernel_rfl) (fun _ => ?_)
   refine iU <| ae <| aN false (by kernel_rfl) (fun h => by cases h) (fun _ => ?_)
   refine eU (bU (bU (iG ?_)))
   have hm := aV hm hr0
   refine ae <| af ?_
   obtain ⟨kS, oC, hm⟩ := ob hm
   have hs1 := fE oC
   refine zh bu (by kernel_rfl) (.n 2 (.s kS) .z) (fun m => qs bJ 0 <| qs bJ 0 <| qB (fQ.drew m) 0 rfl 0 (.s fK) (by kernel_rfl) <| qs bJ 0 <| qs bJ 0 <| qB (fQ.drew m) 0 rfl 1 (I r_) (by kernel_rfl) <| qp (0 ≤ r_ ∧ r_ ≤ ((fK.length : Nat) : Int)) (by omega) <| qp (0 ≤ r_at ∧ r_at ≤ ((Int.toNat r_ : Nat) : Int)) (by omega) <| qo (.s kS) <| qp ((fK.take (Int.toNat r_)).drop (Int.toNat r_at) = kS) hs1.2.2.2.symm <| qe) (by kernel_rfl) (fun I4 => ?_)
   have mD := fQ.drew I4
   refine ae <| aF ?_
   obtain rfl := Option.some.inj hm
   refine aG [.s kS] qe (by kernel_rfl) ?_
   exact ⟨rfl, mD⟩
theorem pR {F O : Nat → Prop} {w : World} (s_ : List UInt8) (k : Cx F O w w []) (r : (List UInt8 × Int × Int)) (hm : iI s_ = some r) :
    Calls Tryz.prog 51 (vals [.s s_]) w (fun e w' => ∃ A n c, r.1.length = n ∧ e = .returned (SV.val (.fV [sl A n c, I r.2.1, I r.2.2])) ∧ Cx F O w w' [Ow e8 A n c r.1]) := by
 unfold iI at hm
 refine calls [.s s_] Tryz.func51 rfl (of_decide_eq_true (by kernel_rfl)) ?_
 refine af <| aP [] .a qe (by kernel_rfl) ?_
 refine ae <| af <| af <| aP [] (.n 5 (I 0) .a) qe (by kernel_rfl) ?_
 refine ae <| aS <| mV (jr s_) (fun s L wr => ∃ (i : Int), i = s ∧ L = [(0, .s s_), (5, I i)] ∧ Cx F O w wr []) (0 : Int) r hm ⟨(0 : Int), rfl, rfl, k⟩ (by kernel_rfl) ?_
 intro yT L_ w_ y0 hrel hstep hr0
 obtain ⟨i, rfl, rfl, k_⟩ := hrel
 have hm := hstep; simp only [jr] at hm
 clear hstep
 refine af <| af <| aP [] (.n 14 (.b (decide (i < (s_.length : Int)))) .a) qe (by kernel_rfl) ?_
 refine ae <| aQ (i < (s_.length : Int)) (by kernel_rfl) (fun hc => ?_) (fun hc => ?_)
 · rw [if_pos hc] at hm
   refine aH <| ae <| af <| aS <| af <| ay ?_
   obtain ⟨c0, QN, hm⟩ := ob hm
   refine aK 3 [] (.n 19 (.u8 c0) (.s .a)) (qX QN <| qe) (by kernel_rfl) ?_
   refine au ?_
   obtain ⟨r_, fC, hm⟩ := ob hm
   refine ax [] 20 _ yS (by kernel_rfl) (nZ (F := N0) (O := N0) _ (Cx.refl _) _ fC) ?_
   rintro e_ qF ⟨rfl, fQ⟩
   have eX := k_.call fQ
   refine ⟨I r_, rfl, ?_⟩
   refine aK 1 [] (.n 21 (.b (decide (r_ < 0))) (.ss .a)) qe (by kernel_rfl) ?_
   refine aj <| ae <| aQ (r_ < 0) (by kernel_rfl) (fun hc1 => ?_) (fun hc1 => ?_)
   · rw [if_pos hc1] at hm
     refine af <| aP [] (.n 2 (sl none 0 0) (.n 3 (I i) (.n 4 (I 4) .z))) qe (by kernel_rfl) ?_
     refine ae <| aF (ed (aJ (aJ (ed (aJ ?_)))))
     have hm := aV hm hr0
     have gG := eX.nil e8
     obtain rfl := Option.some.inj hm
     refine aG [sl none 0 0, I i, I 4] qe (by kernel_rfl) ?_
     exact ⟨none, 0, 0, gG.len 0 rfl, rfl, gG⟩
   rw [if_neg hc1] at hm
   refine aH <| fO <| ae <| aP [] (.n 5 (I (aA (i + 1))) (.s (.k .z))) qe (by kernel_rfl) ?_
   exact jZ (aA (i + 1)) (Option.some.inj hm).symm ⟨aA (i + 1), rfl, rfl, eX⟩ (by kernel_rfl)
 rw [if_neg hc] at hm
 refine eU (bU (bU (iG ?_)))
 have hm := aV hm hr0
 refine ae <| af <| af <| aP [] (.n 26 (.b (decide ((Int.tmod (s_.length : Int) 4) = 1))) (.s (.k .z))) (qp ((4 : Int) ≠ (0 : Int)) (by omega) <| qe) (by kernel_rfl) ?_
 refine ae <| aQ ((Int.tmod (s_.length : Int) 4) = 1) (by kernel_rfl) (fun hc2 => ?_) (fun hc2 => ?_)
 · rw [if_pos hc2] at hm
   refine af <| aP [] (.n 2 (sl none 0 0) (.n 3 (I (s_.length : Int)) (.n 4 (I 4) .z))) qe (by kernel_rfl) ?_
   refine ae <| aF (aJ ?_)
   have jV := k_.nil e8
   obtain rfl := Option.some.inj hm
   refine aG [sl none 0 0, I (s_.length : Int), I 4] qe (by kernel_rfl) ?_
   exact ⟨none, 0, 0, jV.len 0 rfl, rfl, jV⟩
 rw [if_neg hc2] at hm
 refine aH <| ae <| af <| aP [] (.n 6 (sl none 0 0) (.s .a)) qe (by kernel_rfl) ?_
 refine ae <| af <| aP [] (.n 7 (I 0) .a) qe (by kernel_rfl) ?_
 refine ae <| af <| aP [] (.n 8 (I 0) .a) qe (by kernel_rfl) ?_
 refine ae <| af <| af <| aP [] (.n 9 (I 0) .a) qe (by kernel_rfl) ?_
 refine ae <| aS ?_
 have mD := k_.nil e8
 refine mV (gY s_) (fun s L wr => ∃ (b : List UInt8) (dY : Int) (nI : Int) (i1 : Int) (A0 : Option Addr) (n0 : Nat) (c1 : Nat), (b, dY, nI, i1) = s ∧ L = [(0, .s s_), (6, sl A0 n0 c1), (7, I dY), (8, I nI), (9, I i1)] ∧ b.length = n0 ∧ Cx F O w wr [Ow e8 A0 n0 c1 b]) (([] : List UInt8), (0 : Int), (0 : Int), (0 : Int)) r hm ⟨([] : List UInt8), (0 : Int), (0 : Int), (0 : Int), none, 0, 0, rfl, rfl, mD.len 0 rfl, mD⟩ (by kernel_rfl) ?_
 intro yT L_ uq y0 hrel hstep hr0
 obtain ⟨b, dY, nI, i1, A0, _, c1, rfl, rfl, rfl, jG⟩ := hrel
 have hm := hstep; simp only [gY] at hm
 clear hstep
 refine af <| af <| aP [] (.n 32 (.b (decide (i1 < (s_.length : Int)))) .a) qe (by kernel_rfl) ?_
 refine ae <| aQ (i1 < (s_.length : Int)) (by kernel_rfl) (fun hc3 => ?_) (fun hc3 => ?_)
 · rw [if_pos hc3] at hm
   refine aH <| ae <| af <| aS <| af <| aP [] (.n 10 (I 5) (.s .a)) qe (by kernel_rfl) ?_
   refine ae <| aS <| mV (gX s_ i1) (fun s L wr => ∃ (b1 : List UInt8) (have_1 : Int) (iw : Int) (jA : Int) (A1 : Option Addr) (n1 : Nat) (c2 : Nat), (b1, have_1, iw, jA) = s ∧ L = [(0, .s s_), (6, sl A1 n1 c2), (7, I have_1), (8, I iw), (9, I i1), (10, I jA)] ∧ b1.length = n1 ∧ Cx F O w wr [Ow e8 A1 n1 c2 b1]) (b, dY, nI, (5 : Int)) y0 hm ⟨b, dY, nI, (5 : Int), A0, b.length, c1, rfl, rfl, jG.len 0 rfl, jG⟩ (by kernel_rfl) ?_
   intro UA L_ xU y1 hrel hstep hr1
   obtain ⟨b1, have_1, iw, jA, A1, _, c2, rfl, rfl, rfl, lX⟩ := hrel
   have hm := hstep; simp only [gX] at hm
   clear hstep
   refine af <| af <| aP [] (.n 36 (.b (decide (0 ≤ jA))) .a) qe (by kernel_rfl) ?_
   refine ae <| aQ (0 ≤ jA) (by kernel_rfl) (fun hc4 => ?_) (fun hc4 => ?_)
   · rw [if_pos hc4] at hm
     refine aH <| ae <| vM (fun L wr => ∃ (b2 : List UInt8) (nT : Int) (nU : Int) (A2 : Option Addr) (n2 : Nat) (c3 : Nat), fG jA b2 nT nU = some y1 ∧ L = [(0, .s s_), (6, sl A2 n2 c3), (7, I nT), (8, I nU), (9, I i1), (10, I jA)] ∧ b2.length = n2 ∧ Cx F O w wr [Ow e8 A2 n2 c3 b2]) ?_ ?_
     ·
      refine aS <| af <| ay ?_
      obtain ⟨c4, FW, hm⟩ := ob hm
      refine aK 5 [] (.n 40 (I (aA (2 * iw))) (.n 43 (.u8 c4) (.s .a))) (qX FW <| qe) (by kernel_rfl) ?_
      refine au ?_
      obtain ⟨bQ, l_, hm⟩ := ob hm
      refine ax [] 44 _ yS (by kernel_rfl) (nZ (F := N0) (O := N0) _ (Cx.refl _) _ l_) ?_
      rintro e_ Bf ⟨rfl, qH⟩
      have jF := lX.call qH
      refine ⟨I bQ, rfl, ?_⟩
      obtain ⟨u, CS, hm⟩ := ob hm
      refine aK 5 [] (.n 8 (I (aA ((aA (2 * iw)) + (Int.tmod (rM .i64 bQ (Int.toNat jA)) 2)))) (.nG (.DF (.s .a)))) (qp (0 ≤ jA) (dK CS) <| qp ((2 : Int) ≠ (0 : Int)) (by omega) <| qe) (by kernel_rfl) ?_
      refine aj <| ae <| af <| aP [] (.n 7 (I (aA (have_1 + 1))) (.DF (.s .a))) qe (by kernel_rfl) ?_
      refine ae <| af <| aP [] (.n 52 (.b (decide ((aA (have_1 + 1)) = 8))) .a) qe (by kernel_rfl) ?_
      refine ae <| aQ ((aA (have_1 + 1)) = 8) (by kernel_rfl) (fun hc5 => ?_) (fun hc5 => ?_)
      · rw [if_pos hc5] at hm
        refine af <| ay <| aK 3 [] (.n 53 (sl A1 b1.length c2) (.n 55 (.u8 (UInt8.ofInt (aA ((aA (2 * iw)) + (Int.tmod (rM .i64 bQ (Int.toNat jA)) 2))))) (.nG .a))) qe (by kernel_rfl) ?_
        refine au <| xM qf e8 [] 56 ([UInt8.ofInt (aA ((aA (2 * iw)) + (Int.tmod (rM .i64 bQ (Int.toNat jA)) 2)))] : List UInt8) [(0, .u8 (UInt8.ofInt (aA ((aA (2 * iw)) + (Int.tmod (rM .i64 bQ (Int.toNat jA)) 2)))))] [.u8 (UInt8.ofInt (aA ((aA (2 * iw)) + (Int.tmod (rM .i64 bQ (Int.toNat jA)) 2))))] (by kernel_rfl) (by kernel_rfl) (by kernel_rfl) jF ?_
        intro A3 D9 ji
        refine au ?_
        obtain ⟨b3, Me, hm⟩ := ob hm
        obtain ⟨hz, hl⟩ := rX Me
        refine nD (E := e8) (v := sl A3 1 1) (ys := ([UInt8.ofInt (aA ((aA (2 * iw)) + (Int.tmod (rM .i64 bQ (Int.toNat jA)) 2)))] : List UInt8)) qf [] 57 0 (by kernel_rfl) ji rfl (Src.sl (ji.rd 1 rfl) (ji.len 1 rfl) (by rfl)) (ji.len 1 rfl) (by have := ji.len 0 rfl; have := (ji.len 1 rfl); omega) ?_
        intro A4 c5 Es jk
        rw [← hl] at jk
        have kR := jk.dm (.k .z)
        refine aK 1 [] (.n 6 (sl A4 (b1.length + 1) c5) (.kF (.k (.s .a)))) qe (by kernel_rfl) ?_
        refine aj <| ae <| af <| aP [] (.n 7 (I 0) .a) qe (by kernel_rfl) ?_
        refine ae <| aP [] (.n 8 (I 0) .a) qe (by kernel_rfl) ?_
        refine fO ?_
        exact mi ⟨b3, (0 : Int), (0 : Int), A4, b1.length + 1, c5, hm, rfl, kR.len 0 rfl, kR⟩ (by kernel_rfl)
      rw [if_neg hc5] at hm
      refine aH <| fO ?_
      exact mi ⟨b1, aA (have_1 + 1), aA ((aA (2 * iw)) + (Int.tmod (rM .i64 bQ (Int.toNat jA)) 2)), A1, b1.length, c2, hm, rfl, jF.len 0 rfl, jF⟩ (by kernel_rfl)
     rintro L_ G9 ⟨b2, nT, nU, A2, _, c3, hm, rfl, rfl, lS⟩
     simp only [fG] at hm
     refine aP [] (.n 10 (I (aA (jA - 1))) (.kD (.k .z))) qe (by kernel_rfl) ?_
     exact jZ (b2, nT, nU, aA (jA - 1)) (Option.some.inj hm).symm ⟨b2, nT, nU, aA (jA - 1), A2, b2.length, c3, rfl, rfl, lS.len 0 rfl, lS⟩ (by kernel_rfl)
   rw [if_neg hc4] at hm
   refine eU (bU (bU (iG ?_)))
   have hm := aV hm hr1
   refine fO <| ae <| aP [] (.n 9 (I (aA (i1 + 1))) (.s (.kD .z))) qe (by kernel_rfl) ?_
   exact jZ (b1, have_1, iw, aA (i1 + 1)) (Option.some.inj hm).symm ⟨b1, have_1, iw, aA (i1 + 1), A1, b1.length, c2, rfl, rfl, lX.len 0 rfl, lX⟩ (by kernel_rfl)
 rw [if_neg hc3] at hm
 refine eU (bU (bU (iG ?_)))
 have hm := aV hm hr0
 refine ae <| af <| af <| aP [] (.n 59 (.b (decide (nI ≠ 0))) (.s (.kk .z))) qe (by kernel_rfl) ?_
 refine ae <| aQ (nI ≠ 0) (by kernel_rfl) (fun hc6 => ?_) (fun hc6 => ?_)
 · rw [if_pos hc6] at hm
   refine af <| aP [] (.n 2 (sl none 0 0) (.n 3 (I (aA ((s_.length : Int) - 1))) (.n 4 (I 4) .z))) qe (by kernel_rfl) ?_
   refine ae <| aF (aJ ?_)
   have lF := jG.nil e8
   obtain rfl := Option.some.inj hm
   refine aG [sl none 0 0, I (aA ((s_.length : Int) - 1)), I 4] qe (by kernel_rfl) ?_
   have oG := lF.dm (.s (.k .e))
   exact ⟨none, 0, 0, oG.len 0 rfl, rfl, oG⟩
 rw [if_neg hc6] at hm
 refine aH <| ae <| af <| aP [] (.n 2 (sl A0 b.length c1) (.n 3 (I 0) (.n 4 (I 0) .z))) qe (by kernel_rfl) ?_
 refine ae <| aF ?_
 obtain rfl := Option.some.inj hm
 refine aG [sl A0 b.length c1, I 0, I 0] qe (by kernel_rfl) ?_
 exact ⟨A0, b.length, c1, jG.len 0 rfl, rfl, jG⟩
theorem pU {F O : Nat → Prop} {w : World} (n : UInt64) (k : Cx F O w w []) (r : Int) (hm : jC n = some r) :
    Calls Tryz.prog 52 (vals [.u64 n]) w (fun e w' => e = .returned (SV.val (I r)) ∧ Cx F O w w' []) := by
 unfold jC at hm
 refine calls [.u64 n] Tryz.func52 rfl (of_decide_eq_true (by kernel_rfl)) ?_
 refine af <| aP [] .a qe (by kernel_rfl) ?_
 refine ae <| af <| af <| aP [] (.n 4 (.b (decide ((9223372036854775807 : UInt64) < n))) .a) qe (by kernel_rfl) ?_
 refine ae <| aQ ((9223372036854775807 : UInt64) < n) (by kernel_rfl) (fun hc => ?_) (fun hc => ?_)
 · rw [if_pos hc] at hm
   refine af <| aP [] (.n 2 (I (-1)) .z) qe (by kernel_rfl) ?_
   refine ae <| aF (aJ ?_)
   obtain rfl := Option.some.inj hm
   refine aG [I (-1)] qe (by kernel_rfl) ?_
   exact ⟨rfl, k⟩
 rw [if_neg hc] at hm
 refine aH <| ae <| af <| aP [] (.n 2 (I (aA n.toNat)) .z) qe (by kernel_rfl) ?_
 refine ae <| aF ?_
 obtain rfl := Option.some.inj hm
 refine aG [I (aA n.toNat)] qe (by kernel_rfl) ?_
 exact ⟨rfl, k⟩
theorem zW {F O : Nat → Prop} {w : World} (s_ : List UInt8) (k : Cx F O w w []) (r : (Int × Int × Int × Int × Int × List UInt8 × List UInt8 × Int × Int)) (hm : ku s_ = some r) :
    Calls Tryz.prog 30 (vals [.s s_]) w (fun e w' => ∃ A n c A1 n1 c1, r.2.2.2.2.2.1.length = n ∧ r.2.2.2.2.2.2.1.length = n1 ∧ e = .returned (SV.val (.fV [.agg [I r.1, I r.2.1, I r.2.2.1, I r.2.2.2.1, I r.2.2.2.2.1, sl A n c, sl A1 n1 c1], I r.2.2.2.2.2.2.2.1, I r.2.2.2.2.2.2.2.2])) ∧ Cx F O w w' [Ow e8 A n c r.2.2.2.2.2.1, Ow e8 A1 n1 c1 r.2.2.2.2.2.2.1]) := by
 unfold ku at hm
 refine calls [.s s_] Tryz.func30 rfl (of_decide_eq_true (by kernel_rfl)) ?_
 refine af <| ay <| au <| iH [] 2 [I 0, I 0, I 0, I 0, I 0, sl none 0 0, sl none 0 0] (by kernel_rfl) k ?_
 intro g w_ k_
 refine aK 2 [] .a qe (by kernel_rfl) ?_
 refine aj <| ae <| af <| ay <| aK 2 [] (.n 21 (.agg [.s s_, I 0, .b false]) .a) qe (by kernel_rfl) ?_
 refine au <| ik [] 22 (.agg [.s s_, I 0, .b false]) [.s s_, I 0, .b false] (by kernel_rfl) k_ ?_
 intro g1 qF fQ
 refine aK 1 [] (.n 5 (pt g1 0) (.ss .a)) qe (by kernel_rfl) ?_
 refine aj <| ae <| af <| ay <| aK 1 [] (.n 23 (pt g1 0) .a) qe (by kernel_rfl) ?_
 refine au ?_
 obtain ⟨r_, fC, hm⟩ := ob hm
 obtain ⟨F1, O1, kin, hO, hre, hF, hb⟩ := fQ.go (.r (.i .e))
 refine ax [] 24 _ nV (by kernel_rfl) (dJ (F := F1) (O := O1) _ _ _ _ _ kin _ fC) ?_
 rintro e_ uq ⟨rfl, eX⟩
 have gG := hb uq _ _ eX (.c .n)
 refine ⟨.fV [], rfl, ?_⟩
 refine aj <| ae <| af <| ay <| aK 1 [] (.n 25 (pt g1 0) (.ss .a)) qe (by kernel_rfl) ?_
 refine au ?_
 obtain ⟨bQ, l_, hm⟩ := ob hm
 obtain ⟨F11, KN, Bi, Pq, I5, hF1, hb1⟩ := gG.go (.i (.r .e))
 refine ax [] 26 _ IM (by kernel_rfl) (rG (F := F11) (O := KN) _ _ _ _ Bi _ l_) ?_
 rintro e_ xU ⟨rfl, jV⟩
 have jG := hb1 xU _ _ jV (.c .n)
 refine ⟨I bQ.1, rfl, ?_⟩
 refine aK 1 [] (.n 6 (I bQ.1) (.ss .a)) qe (by kernel_rfl) ?_
 refine aj <| ae <| af <| ay <| aK 1 [] (.n 27 (pt g1 0) .a) qe (by kernel_rfl) ?_
 refine au ?_
 have mD := jG.dm (.kk .e)
 obtain ⟨aX, pJ, hm⟩ := ob hm
 obtain ⟨NS, NT, FZ, hO2, NU, hF2, hb2⟩ := mD.go (.i (.r .e))
 refine ax [] 28 _ nV (by kernel_rfl) (dJ (F := NS) (O := NT) _ _ _ _ _ FZ _ pJ) ?_
 rintro e_ Bf ⟨rfl, jA⟩
 have lX := hb2 Bf _ _ jA (.c .n)
 refine ⟨.fV [], rfl, ?_⟩
 refine aj <| ae <| af <| ay <| aK 1 [] (.n 29 (pt g1 0) (.ss .a)) qe (by kernel_rfl) ?_
 refine au ?_
 obtain ⟨gy, pK, hm⟩ := ob hm
 obtain ⟨Pv, Py, KO, hO3, Pz, hF3, hb3⟩ := lX.go (.i (.r .e))
 refine ax [] 30 _ uQ (by kernel_rfl) (ig (F := Pv) (O := Py) _ _ _ _ KO _ pK) ?_
 rintro e_ D9 ⟨rfl, qH⟩
 have jF := hb3 D9 _ _ qH (.c .n)
 refine ⟨.u64 gy.1, rfl, ?_⟩
 refine aK 1 [] (.n 7 (.u64 gy.1) (.ss .a)) qe (by kernel_rfl) ?_
 refine aj <| ae <| af <| ay <| aK 1 [] (.n 31 (pt g1 0) .a) qe (by kernel_rfl) ?_
 refine au ?_
 obtain ⟨dw, sJ, hm⟩ := ob hm
 obtain ⟨PD, PE, KQ, hO4, PG, SK, hb4⟩ := jF.go (.i (.r .e))
 refine ax [] 32 _ nV (by kernel_rfl) (dJ (F := PD) (O := PE) _ _ _ _ _ KQ _ sJ) ?_
 rintro e_ Es ⟨rfl, ji⟩
 have jk := hb4 Es _ _ ji (.c .n)
 refine ⟨.fV [], rfl, ?_⟩
 refine aj <| ae <| af <| ay <| aK 1 [] (.n 33 (pt g1 0) (.ss .a)) qe (by kernel_rfl) ?_
 refine au ?_
 obtain ⟨pG, zK, hm⟩ := ob hm
 obtain ⟨PI, PK, KR, SL, PL, SN, hb5⟩ := jk.go (.i (.r .e))
 refine ax [] 34 _ uQ (by kernel_rfl) (ig (F := PI) (O := PK) _ _ _ _ KR _ zK) ?_
 rintro e_ G9 ⟨rfl, kR⟩
 have lS := hb5 G9 _ _ kR (.c .n)
 refine ⟨.u64 pG.1, rfl, ?_⟩
 refine aK 1 [] (.n 8 (.u64 pG.1) (.ss .a)) qe (by kernel_rfl) ?_
 refine aj <| ae <| af <| ay <| aK 1 [] (.n 35 (pt g1 0) .a) qe (by kernel_rfl) ?_
 refine au ?_
 have lF := lS.dm (.kk .e)
 obtain ⟨iP, wF, hm⟩ := ob hm
 obtain ⟨PM, PN, KT, SS, PO, SX, hb6⟩ := lF.go (.i (.r .e))
 refine ax [] 36 _ nV (by kernel_rfl) (dJ (F := PM) (O := PN) _ _ _ _ _ KT _ wF) ?_
 rintro e_ JA ⟨rfl, oG⟩
 have rC := hb6 JA _ _ oG (.c .n)
 refine ⟨.fV [], rfl, ?_⟩
 refine aj <| ae <| af <| ay <| aK 1 [] (.n 37 (pt g1 0) (.ss .a)) qe (by kernel_rfl) ?_
 refine au ?_
 obtain ⟨wW, zM, hm⟩ := ob hm
 obtain ⟨PS, PT, KU, SY, PU, S9, hb7⟩ := rC.go (.i (.r .e))
 refine ax [] 38 _ uQ (by kernel_rfl) (ig (F := PS) (O := PT) _ _ _ _ KU _ zM) ?_
 rintro e_ KL ⟨rfl, sH⟩
 have sK := hb7 KL _ _ sH (.c .n)
 refine ⟨.u64 wW.1, rfl, ?_⟩
 refine aK 1 [] (.n 9 (.u64 wW.1) (.ss .a)) qe (by kernel_rfl) ?_
 refine aj <| ae <| af <| ay <| aK 1 [] (.n 39 (pt g1 0) .a) qe (by kernel_rfl) ?_
 refine au ?_
 obtain ⟨yM, zN, hm⟩ := ob hm
 obtain ⟨PV, PW, KX, S_, PX, Tc, hb8⟩ := sK.go (.i (.r .e))
 refine ax [] 40 _ nV (by kernel_rfl) (dJ (F := PV) (O := PW) _ _ _ _ _ KX _ zN) ?_
 rintro e_ zI ⟨rfl, lG⟩
 have oH := hb8 zI _ _ lG (.c .n)
 refine ⟨.fV [], rfl, ?_⟩
 refine aj <| ae <| af <| aP [] (.n 10 (I yM.2.1) (.ss .a)) (qs g1 0 <| qs g1 0 <| qB oH 0 rfl 1 (I yM.2.1) (by kernel_rfl) <| qe) (by kernel_rfl) ?_
 refine ae <| af <| ay <| aK 1 [] (.n 45 (pt g1 0) .a) qe (by kernel_rfl) ?_
 refine au ?_
 obtain ⟨tJ, F5, hm⟩ := ob hm
 obtain ⟨P5, P6, Ld, Td, P7, Tf, P8⟩ := oH.go (.i (.r .e))
 refine ax [] 46 _ CO (by kernel_rfl) (kU (F := P5) (O := P6) _ _ _ _ Ld _ F5) ?_
 rintro e_ zJ ⟨rfl, pM⟩
 have qx := P8 zJ _ _ pM (.c .n)
 refine ⟨.s tJ.1, rfl, ?_⟩
 refine aK 1 [] (.n 11 (.s tJ.1) (.ss .a)) qe (by kernel_rfl) ?_
 refine aj <| ae <| af <| ay <| aK 1 [] (.n 47 (pt g1 0) .a) qe (by kernel_rfl) ?_
 refine au ?_
 have rD := qx.dm (.kk .e)
 obtain ⟨jy, Bv, hm⟩ := ob hm
 obtain ⟨Lj, Ll, F_, P9, N_, P_, Lm⟩ := rD.go (.i (.r .e))
 refine ax [] 48 _ nV (by kernel_rfl) (dJ (F := Lj) (O := Ll) _ _ _ _ _ F_ _ Bv) ?_
 rintro e_ Bj ⟨rfl, nY⟩
 have tV := Lm Bj _ _ nY (.c .n)
 refine ⟨.fV [], rfl, ?_⟩
 refine aj <| ae <| af <| aP [] (.n 12 (I jy.2.1) (.ss .a)) (qs g1 0 <| qs g1 0 <| qB tV 0 rfl 1 (I jy.2.1) (by kernel_rfl) <| qe) (by kernel_rfl) ?_
 refine ae <| af <| ay <| aK 1 [] (.n 53 (pt g1 0) .a) qe (by kernel_rfl) ?_
 refine au ?_
 obtain ⟨jJ, wH, hm⟩ := ob hm
 obtain ⟨LD, LG, Gf, Qb, Oa, Qc, LH⟩ := tV.go (.i (.r .e))
 refine ax [] 54 _ CO (by kernel_rfl) (kU (F := LD) (O := LG) _ _ _ _ Gf _ wH) ?_
 rintro e_ Eb ⟨rfl, rE⟩
 have rF := LH Eb _ _ rE (.c .n)
 refine ⟨.s jJ.1, rfl, ?_⟩
 refine aK 1 [] (.n 13 (.s jJ.1) (.ss .a)) qe (by kernel_rfl) ?_
 refine aj <| ae <| af <| af <| aP [] (.n 67 (.b (jJ.2.2.2 || (decide (jJ.2.2.1 < (s_.length : Int))))) (.kD (.kD (.kk .z)))) (qs g1 0 <| qs g1 0 <| qB rF 0 rfl 2 (.b jJ.2.2.2) (by kernel_rfl) <| qp (jJ.2.2.2 = false → (some ⟨g1, 0, none⟩ : Option Addr).isSome = true) (fun hg0 => rfl) <| qp (jJ.2.2.2 = false → (some ⟨g1, 0, none⟩ : Option Addr).isSome = true) (fun hg0 => rfl) <| qo (I jJ.2.2.1) <| qc (fun w => jJ.2.2.2 = false → ∃ a, (some ⟨g1, 1, none⟩ : Option Addr) = some a ∧ w.cell? a = some (SV.val (I jJ.2.2.1))) (fun hg0 => rF.jY 0 rfl 1 (I jJ.2.2.1) (by kernel_rfl)) <| qe) (by kernel_rfl) ?_
 refine ae <| aN (jJ.2.2.2 || (decide (jJ.2.2.1 < (s_.length : Int)))) (by kernel_rfl) (fun hc => ?_) (fun hc => ?_)
 · rw [if_pos hc] at hm
   refine af ?_
   have xx := rF.drew 1
   refine B_ bu (.q 0 0 (.q 1 1 (.q 2 1 (.q 3 1 (.q 4 1 (.op 5 (.q 6 1 (.q 7 1 .nil)))))))) [5] xx (.c (.k .z) .l) (by kernel_rfl) (fun _ => ?_)
   refine jT 1 0 [] (.n 68 (.agg [I 0, I 0, I 0, I 0, I 0, sl none 0 0, sl none 0 0]) (.kF (.kF (.s .a)))) (fun x hx => qe) (by kernel_rfl) (fun _ => ?_)
   refine jT 4 1 [] (.n 72 (I jJ.2.2.1) (.k (.s .a))) (fun x hx => qs g1 0 <| qs g1 0 <| qB hx 0 rfl 1 (I jJ.2.2.1) (by kernel_rfl) <| qe) (by kernel_rfl) (fun _ => ?_)
   refine jX (by kernel_rfl) rfl <| dZ [] 1 (.agg [I 0, I 0, I 0, I 0, I 0, sl none 0 0, sl none 0 0]) [I 0, I 0, I 0, I 0, I 0, sl none 0 0, sl none 0 0] (Pt.at g 0) xx rfl .all (by kernel_rfl) (by kernel_rfl) ?_
   intro I7 xy
   refine ⟨(xy.dm (.k .z)), fun _ => ?_⟩
   refine jT 2 1 [] (.n 3 (I jJ.2.2.1) (.n 4 (I 4) (.ss .a))) (fun x hx => qe) (by kernel_rfl) (fun _ => ?_)
   refine iU <| ae <| aF (aJ ?_)
   have zL := xy.nil e8
   have Bo := zL.nil e8
   obtain rfl := Option.some.inj hm
   refine aG [.agg [I 0, I 0, I 0, I 0, I 0, sl none 0 0, sl none 0 0], I jJ.2.2.1, I 4] (qo (.agg [I 0, I 0, I 0, I 0, I 0, sl none 0 0, sl none 0 0]) <| qc (fun w => Rd w (some ⟨g, 0, none⟩) (SV.cl [I 0, I 0, I 0, I 0, I 0, sl none 0 0, sl none 0 0])) (xy.xe 1 rfl) <| qe) (by kernel_rfl) ?_
   have wG := Bo.dm (.ss (.kk .e))
   exact ⟨none, 0, 0, none, 0, 0, wG.len 0 rfl, wG.len 1 rfl, rfl, wG⟩
 rw [if_neg (by rw [hc]; decide)] at hm
 refine aH <| ae <| af <| ay <| aK 1 [] (.n 74 (.s tJ.1) (.s (.kk (.s (.kD (.k (.s .a))))))) qe (by kernel_rfl) ?_
 refine au ?_
 obtain ⟨jW, BB, hm⟩ := ob hm
 refine ax [] 75 _ CP (by kernel_rfl) (pR (F := N0) (O := N0) _ (Cx.refl _) _ BB) ?_
 rintro e_ KP ⟨A0, _, c0, rfl, rfl, Bq⟩
 have xA := rF.call Bq
 refine ⟨.fV [sl A0 jW.1.length c0, I jW.2.1, I jW.2.2], rfl, ?_⟩
 have xB := xA.dm (.s (.kk .e))
 refine aK 7 [] (.n 14 (sl A0 jW.1.length c0) (.n 16 (I jW.2.2) (.ss .a))) qe (by kernel_rfl) ?_
 refine aj <| ae <| af <| af <| aP [] (.n 80 (.b (decide (jW.2.2 ≠ 0))) (.k (.s .a))) qe (by kernel_rfl) ?_
 refine ae <| aQ (jW.2.2 ≠ 0) (by kernel_rfl) (fun hc1 => ?_) (fun hc1 => ?_)
 · rw [if_pos hc1] at hm
   refine af <| ay <| aK 2 [] (.n 81 (.agg [I 0, I 0, I 0, I 0, I 0, sl none 0 0, sl none 0 0]) (.n 82 (I yM.2.1) (.kF (.kF (.s .a))))) qe (by kernel_rfl) ?_
   refine au <| dZ [] 0 (.agg [I 0, I 0, I 0, I 0, I 0, sl none 0 0, sl none 0 0]) [I 0, I 0, I 0, I 0, I 0, sl none 0 0, sl none 0 0] (Pt.at g 0) xB rfl .all (by kernel_rfl) (by kernel_rfl) ?_
   intro NW yZ
   have Ec := yZ.dm (.k .z)
   refine aK 2 [] (.n 3 (I yM.2.1) (.n 4 (I 4) (.ss .a))) qe (by kernel_rfl) ?_
   refine aj <| ae <| aF (aJ ?_)
   have F6 := Ec.nil e8
   have Bz := F6.nil e8
   obtain rfl := Option.some.inj hm
   refine aG [.agg [I 0, I 0, I 0, I 0, I 0, sl none 0 0, sl none 0 0], I yM.2.1, I 4] (qo (.agg [I 0, I 0, I 0, I 0, I 0, sl none 0 0, sl none 0 0]) <| qc (fun w => Rd w (some ⟨g, 0, none⟩) (SV.cl [I 0, I 0, I 0, I 0, I 0, sl none 0 0, sl none 0 0])) (Ec.xe 0 rfl) <| qe) (by kernel_rfl) ?_
   have BA := Bz.dm (.s (.kk .e))
   exact ⟨none, 0, 0, none, 0, 0, BA.len 0 rfl, BA.len 1 rfl, rfl, BA⟩
 rw [if_neg hc1] at hm
 refine aH <| ae <| af <| ay <| aK 1 [] (.n 84 (.s jJ.1) (.s (.k (.s (.k (.s .a)))))) qe (by kernel_rfl) ?_
 refine au ?_
 obtain ⟨d_, wI, hm⟩ := ob hm
 refine ax [] 85 _ CP (by kernel_rfl) (pR (F := N0) (O := N0) _ (Cx.refl _) _ wI) ?_
 rintro e_ PH ⟨A2, _, c2, rfl, rfl, F7⟩
 have Ed := xB.call F7
 refine ⟨.fV [sl A2 d_.1.length c2, I d_.2.1, I d_.2.2], rfl, ?_⟩
 refine aK 7 [] (.n 16 (I d_.2.2) (.n 17 (sl A2 d_.1.length c2) (.ss .a))) qe (by kernel_rfl) ?_
 refine aj <| ae <| af <| af <| aP [] (.n 90 (.b (decide (d_.2.2 ≠ 0))) (.s .a)) qe (by kernel_rfl) ?_
 refine ae <| aQ (d_.2.2 ≠ 0) (by kernel_rfl) (fun hc2 => ?_) (fun hc2 => ?_)
 · rw [if_pos hc2] at hm
   refine af <| ay <| aK 2 [] (.n 91 (.agg [I 0, I 0, I 0, I 0, I 0, sl none 0 0, sl none 0 0]) (.n 92 (I jy.2.1) (.kF (.kF .a)))) qe (by kernel_rfl) ?_
   refine au ?_
   have F8 := Ed.dm (.kk (.k .e))
   refine dZ [] 0 (.agg [I 0, I 0, I 0, I 0, I 0, sl none 0 0, sl none 0 0]) [I 0, I 0, I 0, I 0, I 0, sl none 0 0, sl none 0 0] (Pt.at g 0) F8 rfl .all (by kernel_rfl) (by kernel_rfl) ?_
   intro NY KW
   have I8 := KW.dm (.k .z)
   refine aK 2 [] (.n 3 (I jy.2.1) (.n 4 (I 4) (.ss .a))) qe (by kernel_rfl) ?_
   refine aj <| ae <| aF (aJ ?_)
   have KY := I8.nil e8
   have KZ := KY.nil e8
   obtain rfl := Option.some.inj hm
   refine aG [.agg [I 0, I 0, I 0, I 0, I 0, sl none 0 0, sl none 0 0], I jy.2.1, I 4] (qo (.agg [I 0, I 0, I 0, I 0, I 0, sl none 0 0, sl none 0 0]) <| qc (fun w => Rd w (some ⟨g, 0, none⟩) (SV.cl [I 0, I 0, I 0, I 0, I 0, sl none 0 0, sl none 0 0])) (I8.xe 0 rfl) <| qe) (by kernel_rfl) ?_
   have F9 := KZ.dm (.s (.kk .e))
   exact ⟨none, 0, 0, none, 0, 0, F9.len 0 rfl, F9.len 1 rfl, rfl, F9⟩
 rw [if_neg hc2] at hm
 refine aH <| ae <| af <| ay <| aK 2 [] (.n 93 (I bQ.1) (.n 94 (.u64 gy.1) (.s (.kk (.s (.kk (.ss .a))))))) qe (by kernel_rfl) ?_
 refine au ?_
 have K_ := Ed.dm (.kk (.k .e))
 obtain ⟨jR, wJ, hm⟩ := ob hm
 refine ax [] 95 _ yR (by kernel_rfl) (pU (F := N0) (O := N0) _ (Cx.refl _) _ wJ) ?_
 rintro e_ NZ ⟨rfl, La⟩
 have Le := K_.call La
 refine ⟨I jR, rfl, ?_⟩
 refine aK 1 [] (.n 96 (.u64 pG.1) (.kk (.s (.DF (.s .a))))) qe (by kernel_rfl) ?_
 refine au ?_
 obtain ⟨kJ, wK, hm⟩ := ob hm
 refine ax [] 97 _ yR (by kernel_rfl) (pU (F := N0) (O := N0) _ (Cx.refl _) _ wK) ?_
 rintro e_ PQ ⟨rfl, Lh⟩
 have Lp := Le.call Lh
 refine ⟨I kJ, rfl, ?_⟩
 refine aK 1 [] (.n 98 (.u64 wW.1) (.k (.s (.kD (.s .a))))) qe (by kernel_rfl) ?_
 refine au ?_
 obtain ⟨je, wL, hm⟩ := ob hm
 refine ax [] 99 _ yR (by kernel_rfl) (pU (F := N0) (O := N0) _ (Cx.refl _) _ wL) ?_
 rintro e_ PR ⟨rfl, Lr⟩
 have Lt := Lp.call Lr
 refine ⟨I je, rfl, ?_⟩
 refine aK 6 [] (.n 105 (.agg [I bQ.1, I jR, I kJ, I je, I ((d_.1.length : Nat) : Int), sl A0 jW.1.length c0, sl A2 d_.1.length c2]) (.kF (.nG .a))) qe (by kernel_rfl) ?_
 refine au <| iH [] 19 [I 0, I 0, I 0, I 0, I 0, sl none 0 0, sl none 0 0] (by kernel_rfl) Lt ?_
 intro g2 N7 Lu
 refine au ?_
 have LC := Lu.dm (.kD .e)
 refine dZ [] 3 (.agg [I bQ.1, I jR, I kJ, I je, I ((d_.1.length : Nat) : Int), sl A0 jW.1.length c0, sl A2 d_.1.length c2]) [I bQ.1, I jR, I kJ, I je, I ((d_.1.length : Nat) : Int), sl A0 jW.1.length c0, sl A2 d_.1.length c2] (Pt.at g2 0) LC rfl .all (by kernel_rfl) (by kernel_rfl) ?_
 intro N8 zO
 refine aj <| ae <| af <| af <| ay <| aK 4 [] (.n 107 (.agg [I bQ.1, I jR, I kJ, I je, I ((d_.1.length : Nat) : Int)]) (.n 109 (sl A0 jW.1.length c0) (.k (.s .a)))) (qs g2 0 <| qT zO 3 rfl 0 5 [I bQ.1, I jR, I kJ, I je, I ((d_.1.length : Nat) : Int)] (by kernel_rfl) (by decide) <| qs g2 0 <| qB zO 3 rfl 5 (sl A0 jW.1.length c0) (by kernel_rfl) <| qe) (by kernel_rfl) ?_
 refine au ?_
 obtain ⟨xq, BC, hm⟩ := ob hm
 refine ax [] 110 _ Cm (by kernel_rfl) (uy (F := N0) (O := N0) _ _ _ _ _ _ _ _ _ (Ro.n0 (zO.rd 1 rfl)) (zO.len 1 rfl) (zO.J7 1 rfl) (Cx.refl _) _ BC) ?_
 rintro e_ PY ⟨rfl, LJ⟩
 have Gg := zO.call LJ
 refine ⟨I xq, rfl, ?_⟩
 refine aK 1 [] (.n 111 (.b (decide (xq ≠ 0))) (.nG .a)) qe (by kernel_rfl) ?_
 refine aj <| ae <| aQ (xq ≠ 0) (by kernel_rfl) (fun hc3 => ?_) (fun hc3 => ?_)
 · rw [if_pos hc3] at hm
   refine af <| ay <| aK 1 [] (.n 112 (.agg [I 0, I 0, I 0, I 0, I 0, sl none 0 0, sl none 0 0]) (.ss .a)) qe (by kernel_rfl) ?_
   refine au <| dZ [] 0 (.agg [I 0, I 0, I 0, I 0, I 0, sl none 0 0, sl none 0 0]) [I 0, I 0, I 0, I 0, I 0, sl none 0 0, sl none 0 0] (Pt.at g 0) Gg rfl .all (by kernel_rfl) (by kernel_rfl) ?_
   intro PZ LM
   have I9 := LM.dm (.k .z)
   refine aK 2 [] (.n 3 (I 0) (.n 4 (I 1) (.s .a))) qe (by kernel_rfl) ?_
   refine aj <| ae <| aF (aJ ?_)
   have LQ := I9.nil e8
   have LU := LQ.nil e8
   obtain rfl := Option.some.inj hm
   refine aG [.agg [I 0, I 0, I 0, I 0, I 0, sl none 0 0, sl none 0 0], I 0, I 1] (qo (.agg [I 0, I 0, I 0, I 0, I 0, sl none 0 0, sl none 0 0]) <| qc (fun w => Rd w (some ⟨g, 0, none⟩) (SV.cl [I 0, I 0, I 0, I 0, I 0, sl none 0 0, sl none 0 0])) (I9.xe 0 rfl) <| qe) (by kernel_rfl) ?_
   have Gh := LU.dm (.s (.kk .e))
   exact ⟨none, 0, 0, none, 0, 0, Gh.len 0 rfl, Gh.len 1 rfl, rfl, Gh⟩
 rw [if_neg hc3] at hm
 refine aH <| ae <| af <| ay <| aK 1 [] (.n 113 (.agg [I bQ.1, I jR, I kJ, I je, I ((d_.1.length : Nat) : Int), sl A0 jW.1.length c0, sl A2 d_.1.length c2]) (.ss .a)) (qT Gg 3 rfl 0 7 [I bQ.1, I jR, I kJ, I je, I ((d_.1.length : Nat) : Int), sl A0 jW.1.length c0, sl A2 d_.1.length c2] (by kernel_rfl) (by decide) <| qe) (by kernel_rfl) ?_
 refine au <| dZ [] 0 (.agg [I bQ.1, I jR, I kJ, I je, I ((d_.1.length : Nat) : Int), sl A0 jW.1.length c0, sl A2 d_.1.length c2]) [I bQ.1, I jR, I kJ, I je, I ((d_.1.length : Nat) : Int), sl A0 jW.1.length c0, sl A2 d_.1.length c2] (Pt.at g 0) Gg rfl .all (by kernel_rfl) (by kernel_rfl) ?_
 intro N9 Ee
 have Gi := Ee.dm (.kk (.k .z))
 refine aK 2 [] (.n 3 (I 0) (.n 4 (I 0) (.s .a))) qe (by kernel_rfl) ?_
 refine aj <| ae <| aF ?_
 obtain rfl := Option.some.inj hm
 refine aG [.agg [I bQ.1, I jR, I kJ, I je, I ((d_.1.length : Nat) : Int), sl A0 jW.1.length c0, sl A2 d_.1.length c2], I 0, I 0] (qo (.agg [I bQ.1, I jR, I kJ, I je, I ((d_.1.length : Nat) : Int), sl A0 jW.1.length c0, sl A2 d_.1.length c2]) <| qc (fun w => Rd w (some ⟨g, 0, none⟩) (SV.cl [I bQ.1, I jR, I kJ, I je, I ((d_.1.length : Nat) : Int), sl A0 jW.1.length c0, sl A2 d_.1.length c2])) (Gi.xe 0 rfl) <| qe) (by kernel_rfl) ?_
 have Gj := Gi.dm (.s (.kk .e))
 exact ⟨A0, jW.1.length, c0, A2, d_.1.length, c2, Gj.len 0 rfl, Gj.len 1 rfl, rfl, Gj⟩
end Go.Sx
