import Derived.Test.YtcpbhpebeoopkaaGreatProg
import Derived.Test.YtcpbhpebeoopkaaGreatK3
namespace Go.Sx
open Go.RowKit Go.Proofs
set_option linter.unusedVariables false
set_option linter.unusedSimpArgs false
set_option maxRecDepth 20000
theorem Z5 : gy Tryz.prog 6 := ⟨⟨Tryz.f6, _, Tryz.func6, rfl, by kernel_rfl⟩⟩
theorem Z7 : gy Tryz.prog 7 := ⟨⟨Tryz.f7, _, Tryz.func7, rfl, by kernel_rfl⟩⟩
theorem Z8 : gy Tryz.prog 8 := ⟨⟨Tryz.f8, _, Tryz.func8, rfl, by kernel_rfl⟩⟩
theorem CQ : gy Tryz.prog 10 := ⟨⟨Tryz.f10, _, Tryz.func10, rfl, by kernel_rfl⟩⟩
theorem CS : gy Tryz.prog 11 := ⟨⟨Tryz.f11, _, Tryz.func11, rfl, by kernel_rfl⟩⟩
theorem XQ : gy Tryz.prog 13 := ⟨⟨Tryz.f13, _, Tryz.func13, rfl, by kernel_rfl⟩⟩
theorem XR : gy Tryz.prog 16 := ⟨⟨Tryz.f16, _, Tryz.func16, rfl, by kernel_rfl⟩⟩
theorem XT : gy Tryz.prog 21 := ⟨⟨Tryz.f21, _, Tryz.func21, rfl, by kernel_rfl⟩⟩
theorem RV : gy Tryz.prog 22 := ⟨⟨Tryz.f22, _, Tryz.func22, rfl, by kernel_rfl⟩⟩
theorem RX : gy Tryz.prog 23 := ⟨⟨Tryz.f23, _, Tryz.func23, rfl, by kernel_rfl⟩⟩
theorem XU : gy Tryz.prog 24 := ⟨⟨Tryz.f24, _, Tryz.func24, rfl, by kernel_rfl⟩⟩
theorem XV : gy Tryz.prog 25 := ⟨⟨Tryz.f25, _, Tryz.func25, rfl, by kernel_rfl⟩⟩
theorem RY : gy Tryz.prog 26 := ⟨⟨Tryz.f26, _, Tryz.func26, rfl, by kernel_rfl⟩⟩
theorem RZ : gy Tryz.prog 29 := ⟨⟨Tryz.f29, _, Tryz.func29, rfl, by kernel_rfl⟩⟩
theorem CU : gy Tryz.prog 30 := ⟨⟨Tryz.f30, _, Tryz.func30, rfl, by kernel_rfl⟩⟩
theorem Nh : gy Tryz.prog 31 := ⟨⟨Tryz.f31, _, Tryz.func31, rfl, by kernel_rfl⟩⟩
theorem Aj : gy Tryz.prog 32 := ⟨⟨Tryz.f32, _, Tryz.func32, rfl, by kernel_rfl⟩⟩
theorem XW : gy Tryz.prog 33 := ⟨⟨Tryz.f33, _, Tryz.func33, rfl, by kernel_rfl⟩⟩
theorem Ak : gy Tryz.prog 34 := ⟨⟨Tryz.f34, _, Tryz.func34, rfl, by kernel_rfl⟩⟩
theorem Fz : gy Tryz.prog 35 := ⟨⟨Tryz.f35, _, Tryz.func35, rfl, by kernel_rfl⟩⟩
theorem XX : gy Tryz.prog 36 := ⟨⟨Tryz.f36, _, Tryz.func36, rfl, by kernel_rfl⟩⟩
theorem XY : gy Tryz.prog 40 := ⟨⟨Tryz.f40, _, Tryz.func40, rfl, by kernel_rfl⟩⟩
theorem Am : gy Tryz.prog 41 := ⟨⟨Tryz.f41, _, Tryz.func41, rfl, by kernel_rfl⟩⟩
theorem FB : gy Tryz.prog 42 := ⟨⟨Tryz.f42, _, Tryz.func42, rfl, by kernel_rfl⟩⟩
theorem XZ : gy Tryz.prog 43 := ⟨⟨Tryz.f43, _, Tryz.func43, rfl, by kernel_rfl⟩⟩
theorem Si : gy Tryz.prog 44 := ⟨⟨Tryz.f44, _, Tryz.func44, rfl, by kernel_rfl⟩⟩
theorem X0 : gy Tryz.prog 45 := ⟨⟨Tryz.f45, _, Tryz.func45, rfl, by kernel_rfl⟩⟩
theorem X3 : gy Tryz.prog 46 := ⟨⟨Tryz.f46, _, Tryz.func46, rfl, by kernel_rfl⟩⟩
theorem Sj : gy Tryz.prog 47 := ⟨⟨Tryz.f47, _, Tryz.func47, rfl, by kernel_rfl⟩⟩
theorem Sm : gy Tryz.prog 51 := ⟨⟨Tryz.f51, _, Tryz.func51, rfl, by kernel_rfl⟩⟩
theorem Sr : gy Tryz.prog 52 := ⟨⟨Tryz.f52, _, Tryz.func52, rfl, by kernel_rfl⟩⟩
theorem X4 : gy Tryz.prog 61 := ⟨⟨Tryz.f61, _, Tryz.func61, rfl, by kernel_rfl⟩⟩
theorem Ir : gy Tryz.prog 62 := ⟨⟨Tryz.f62, _, Tryz.func62, rfl, by kernel_rfl⟩⟩
theorem Su : gy Tryz.prog 66 := ⟨⟨Tryz.f66, _, Tryz.func66, rfl, by kernel_rfl⟩⟩
theorem X5 : gy Tryz.prog 86 := ⟨⟨Tryz.f86, _, Tryz.func86, rfl, by kernel_rfl⟩⟩
theorem Sv : gy Tryz.prog 87 := ⟨⟨Tryz.f87, _, Tryz.func87, rfl, by kernel_rfl⟩⟩
theorem VA : gy Tryz.prog 117 := ⟨⟨Tryz.f117, _, Tryz.func117, rfl, by kernel_rfl⟩⟩
theorem VB : gy Tryz.prog 118 := ⟨⟨Tryz.f118, _, Tryz.func118, rfl, by kernel_rfl⟩⟩
theorem OX : gy Tryz.prog 119 := ⟨⟨Tryz.f119, _, Tryz.func119, rfl, by kernel_rfl⟩⟩
theorem FC : gy Tryz.prog 120 := ⟨⟨Tryz.f120, _, Tryz.func120, rfl, by kernel_rfl⟩⟩
theorem VC : gy Tryz.prog 133 := ⟨⟨Tryz.f133, _, Tryz.func133, rfl, by kernel_rfl⟩⟩
theorem OY : gy Tryz.prog 134 := ⟨⟨Tryz.f134, _, Tryz.func134, rfl, by kernel_rfl⟩⟩
theorem VD : gy Tryz.prog 135 := ⟨⟨Tryz.f135, _, Tryz.func135, rfl, by kernel_rfl⟩⟩
theorem VE : gy Tryz.prog 136 := ⟨⟨Tryz.f136, _, Tryz.func136, rfl, by kernel_rfl⟩⟩
theorem VF : gy Tryz.prog 137 := ⟨⟨Tryz.f137, _, Tryz.func137, rfl, by kernel_rfl⟩⟩
theorem VG : gy Tryz.prog 138 := ⟨⟨Tryz.f138, _, Tryz.func138, rfl, by kernel_rfl⟩⟩
theorem zF : gy Tryz.prog 149 := ⟨⟨Tryz.f149, _, Tryz.func149, rfl, by kernel_rfl⟩⟩
theorem VH : gy Tryz.prog 150 := ⟨⟨Tryz.f150, _, Tryz.func150, rfl, by kernel_rfl⟩⟩
theorem FD : gy Tryz.prog 151 := ⟨⟨Tryz.f151, _, Tryz.func151, rfl, by kernel_rfl⟩⟩
theorem VI : gy Tryz.prog 162 := ⟨⟨Tryz.f162, _, Tryz.func162, rfl, by kernel_rfl⟩⟩
theorem OZ : gy Tryz.prog 163 := ⟨⟨Tryz.f163, _, Tryz.func163, rfl, by kernel_rfl⟩⟩
theorem VJ : gy Tryz.prog 164 := ⟨⟨Tryz.f164, _, Tryz.func164, rfl, by kernel_rfl⟩⟩
theorem VK : gy Tryz.prog 165 := ⟨⟨Tryz.f165, _, Tryz.func165, rfl, by kernel_rfl⟩⟩
theorem O0 : gy Tryz.prog 166 := ⟨⟨Tryz.f166, _, Tryz.func166, rfl, by kernel_rfl⟩⟩
theorem VL : gy Tryz.prog 167 := ⟨⟨Tryz.f167, _, Tryz.func167, rfl, by kernel_rfl⟩⟩
theorem O3 : gy Tryz.prog 173 := ⟨⟨Tryz.f173, _, Tryz.func173, rfl, by kernel_rfl⟩⟩
theorem O4 : gy Tryz.prog 174 := ⟨⟨Tryz.f174, _, Tryz.func174, rfl, by kernel_rfl⟩⟩
theorem VM : gy Tryz.prog 175 := ⟨⟨Tryz.f175, _, Tryz.func175, rfl, by kernel_rfl⟩⟩
theorem VN : gy Tryz.prog 176 := ⟨⟨Tryz.f176, _, Tryz.func176, rfl, by kernel_rfl⟩⟩
theorem VO : gy Tryz.prog 177 := ⟨⟨Tryz.f177, _, Tryz.func177, rfl, by kernel_rfl⟩⟩
theorem O5 : gy Tryz.prog 178 := ⟨⟨Tryz.f178, _, Tryz.func178, rfl, by kernel_rfl⟩⟩
theorem O6 : gy Tryz.prog 179 := ⟨⟨Tryz.f179, _, Tryz.func179, rfl, by kernel_rfl⟩⟩
theorem O7 : gy Tryz.prog 180 := ⟨⟨Tryz.f180, _, Tryz.func180, rfl, by kernel_rfl⟩⟩
theorem VP : gy Tryz.prog 181 := ⟨⟨Tryz.f181, _, Tryz.func181, rfl, by kernel_rfl⟩⟩
theorem VQ : gy Tryz.prog 182 := ⟨⟨Tryz.f182, _, Tryz.func182, rfl, by kernel_rfl⟩⟩
theorem O8 : gy Tryz.prog 183 := ⟨⟨Tryz.f183, _, Tryz.func183, rfl, by kernel_rfl⟩⟩
theorem VR : gy Tryz.prog 184 := ⟨⟨Tryz.f184, _, Tryz.func184, rfl, by kernel_rfl⟩⟩
theorem VS : gy Tryz.prog 185 := ⟨⟨Tryz.f185, _, Tryz.func185, rfl, by kernel_rfl⟩⟩
theorem VT : gy Tryz.prog 186 := ⟨⟨Tryz.f186, _, Tryz.func186, rfl, by kernel_rfl⟩⟩
theorem VU : gy Tryz.prog 187 := ⟨⟨Tryz.f187, _, Tryz.func187, rfl, by kernel_rfl⟩⟩
theorem VV : gy Tryz.prog 188 := ⟨⟨Tryz.f188, _, Tryz.func188, rfl, by kernel_rfl⟩⟩
theorem VW : gy Tryz.prog 189 := ⟨⟨Tryz.f189, _, Tryz.func189, rfl, by kernel_rfl⟩⟩
theorem O9 : gy Tryz.prog 190 := ⟨⟨Tryz.f190, _, Tryz.func190, rfl, by kernel_rfl⟩⟩
theorem VX : gy Tryz.prog 191 := ⟨⟨Tryz.f191, _, Tryz.func191, rfl, by kernel_rfl⟩⟩
theorem VY : gy Tryz.prog 192 := ⟨⟨Tryz.f192, _, Tryz.func192, rfl, by kernel_rfl⟩⟩
theorem VZ : gy Tryz.prog 193 := ⟨⟨Tryz.f193, _, Tryz.func193, rfl, by kernel_rfl⟩⟩
theorem V3 : gy Tryz.prog 194 := ⟨⟨Tryz.f194, _, Tryz.func194, rfl, by kernel_rfl⟩⟩
theorem FH : gy Tryz.prog 195 := ⟨⟨Tryz.f195, _, Tryz.func195, rfl, by kernel_rfl⟩⟩
theorem FI : gy Tryz.prog 196 := ⟨⟨Tryz.f196, _, Tryz.func196, rfl, by kernel_rfl⟩⟩
theorem zG : gy Tryz.prog 218 := ⟨⟨Tryz.f218, _, Tryz.func218, rfl, by kernel_rfl⟩⟩
open Go.Shelf in
def Jk : Go.Shelf.Ren := ⟨fun | 190 => 62 | 125 => 85 | 258 => 84 | 128 => 115 | 129 => 116 | 302 => 106 | 303 => 107 | 304 => 108 | 305 => 109 | 306 => 110 | 307 => 111 | 308 => 112 | 309 => 113 | 310 => 114 | 333 => 127 | 329 => 128 | 330 => 129 | 334 => 130 | 335 => 131 | 336 => 132 | 344 => 148 | n => n, fun | 31 => 35 | 9 => 9 | 3 => 3 | 46 => 95 | 0 => 0 | 51 => 125 | 53 => 109 | 4 => 4 | 183 => 192 | 182 => 191 | 131 => 116 | 5 => 5 | 218 => 214 | 222 => 218 | 228 => 240 | 229 => 241 | n => n, fun | n => n⟩
open Go.Shelf in
theorem QI : Go.Proofs.Lays.n190 Tryz.prog Jk := {
  mixed := by kernel_rfl
  f125 := Tryz.func85.trans (congrArg some (by kernel_rfl))
  f128 := Tryz.func115.trans (congrArg some (by kernel_rfl))
  f129 := Tryz.func116.trans (congrArg some (by kernel_rfl))
  f190 := Tryz.func62.trans (congrArg some (by kernel_rfl))
  f258 := Tryz.func84.trans (congrArg some (by kernel_rfl))
  f302 := Tryz.func106.trans (congrArg some (by kernel_rfl))
  f303 := Tryz.func107.trans (congrArg some (by kernel_rfl))
  f304 := Tryz.func108.trans (congrArg some (by kernel_rfl))
  f305 := Tryz.func109.trans (congrArg some (by kernel_rfl))
  f306 := Tryz.func110.trans (congrArg some (by kernel_rfl))
  f307 := Tryz.func111.trans (congrArg some (by kernel_rfl))
  f308 := Tryz.func112.trans (congrArg some (by kernel_rfl))
  f309 := Tryz.func113.trans (congrArg some (by kernel_rfl))
  f310 := Tryz.func114.trans (congrArg some (by kernel_rfl))
  f329 := Tryz.func128.trans (congrArg some (by kernel_rfl))
  f330 := Tryz.func129.trans (congrArg some (by kernel_rfl))
  f333 := Tryz.func127.trans (congrArg some (by kernel_rfl))
  f334 := Tryz.func130.trans (congrArg some (by kernel_rfl))
  f335 := Tryz.func131.trans (congrArg some (by kernel_rfl))
  f336 := Tryz.func132.trans (congrArg some (by kernel_rfl))
  f344 := Tryz.func148.trans (congrArg some (by kernel_rfl))
  t0 := Tryz.underlying0
  a0 := Tryz.isAgg0
  z0 := Tryz.sizeOf0
  v0 := Tryz.zeroValue0
  t3 := Tryz.underlying3
  a3 := Tryz.isAgg3
  z3 := Tryz.sizeOf3
  v3 := Tryz.zeroValue3
  t4 := Tryz.underlying4
  a4 := Tryz.isAgg4
  z4 := Tryz.sizeOf4
  v4 := Tryz.zeroValue4
  t5 := Tryz.underlying5
  a5 := Tryz.isAgg5
  z5 := Tryz.sizeOf5
  v5 := Tryz.zeroValue5
  t9 := Tryz.underlying9
  a9 := Tryz.isAgg9
  z9 := Tryz.sizeOf9
  v9 := Tryz.zeroValue9
  t31 := Tryz.underlying35
  a31 := Tryz.isAgg35
  z31 := Tryz.sizeOf35
  v31 := Tryz.zeroValue35
  t46 := Tryz.underlying95
  a46 := Tryz.isAgg95
  z46 := Tryz.sizeOf95
  v46 := Tryz.zeroValue95
  t51 := Tryz.underlying125
  a51 := Tryz.isAgg125
  z51 := Tryz.sizeOf125
  v51 := Tryz.zeroValue125
  t53 := Tryz.underlying109
  a53 := Tryz.isAgg109
  z53 := Tryz.sizeOf109
  v53 := Tryz.zeroValue109
  t131 := Tryz.underlying116
  a131 := Tryz.isAgg116
  z131 := Tryz.sizeOf116
  v131 := Tryz.zeroValue116
  t182 := Tryz.underlying191
  a182 := Tryz.isAgg191
  z182 := Tryz.sizeOf191
  v182 := Tryz.zeroValue191
  t183 := Tryz.underlying192
  a183 := Tryz.isAgg192
  z183 := Tryz.sizeOf192
  v183 := Tryz.zeroValue192
  t218 := Tryz.underlying214
  a218 := Tryz.isAgg214
  z218 := Tryz.sizeOf214
  v218 := Tryz.zeroValue214
  t222 := Tryz.underlying218
  a222 := Tryz.isAgg218
  z222 := Tryz.sizeOf218
  v222 := Tryz.zeroValue218
  t228 := Tryz.underlying240
  a228 := Tryz.isAgg240
  z228 := Tryz.sizeOf240
  v228 := Tryz.zeroValue240
  t229 := Tryz.underlying241
  a229 := Tryz.isAgg241
  z229 := Tryz.sizeOf241
  v229 := Tryz.zeroValue241 }
theorem CV {F O : Nat → Prop} {w0 w : World} {hs : List HP} {i : Nat} {A : Option Addr} {n c : Nat} {xs : List (List UInt8)} (k : Cx F O w0 w hs) (hi : hs[i]? = some (Ow eS A n c xs)) (hsz : n < 4611686018427387904) : Calls Tryz.prog 62 (vals [sl A n c]) w (fun e w' => e = .returned (SV.val (.jc [])) ∧ Cx F O w0 w' (hs.set i (Ow eS A n c (xq xs)))) := ZO QI k hi hsz
theorem Lh : YW Tryz.prog 219 := ⟨⟨Tryz.f219, Tryz.func219, by kernel_rfl, by kernel_rfl, by kernel_rfl, by kernel_rfl⟩⟩
theorem dW : TF Tryz.prog 22 5 [.int .u8 0] 1 := ⟨by kernel_rfl, by kernel_rfl, by decide, by decide⟩
theorem sN : TF Tryz.prog 35 9 [.string ⟨⟨[]⟩⟩] 16 := ⟨by kernel_rfl, by kernel_rfl, by decide, by decide⟩
theorem Iu : TF Tryz.prog 39 22 [.slice none 0 0] 24 := ⟨by kernel_rfl, by kernel_rfl, by decide, by decide⟩
theorem Sz : TF Tryz.prog 49 113 [.string ⟨⟨[]⟩⟩, .slice none 0 0] 40 := ⟨by kernel_rfl, by kernel_rfl, by decide, by decide⟩
theorem SA : TF Tryz.prog 50 114 [.string ⟨⟨[]⟩⟩, .slice none 0 0] 40 := ⟨by kernel_rfl, by kernel_rfl, by decide, by decide⟩
theorem V4 : TF Tryz.prog 223 226 [.int .i64 0, .int .i64 0, .int .i64 0, .string ⟨⟨[]⟩⟩, .int .i64 0] 48 := ⟨by kernel_rfl, by kernel_rfl, by decide, by decide⟩
theorem O_ : TF Tryz.prog 246 109 [.int .u64 0] 8 := ⟨by kernel_rfl, by kernel_rfl, by decide, by decide⟩
theorem Pe : TF Tryz.prog 287 125 [.int .u32 0] 4 := ⟨by kernel_rfl, by kernel_rfl, by decide, by decide⟩
theorem Em : ∀ (v : Option Addr) (l : Array Value) (w : World), (callMethod (.iface 258 (.pointer v)) "quern/node.out" l).run Tryz.prog w = .ok (.enter 215 (#[.pointer v] ++ l)) w := by intro v l w; kernel_rfl
theorem wV : ∀ (v : Option Addr) (l : Array Value) (w : World), (callMethod (.iface 258 (.pointer v)) "quern/node.write" l).run Tryz.prog w = .ok (.enter 217 (#[.pointer v] ++ l)) w := by intro v l w; kernel_rfl
theorem Eo : ∀ (v : Option Addr) (l : Array Value) (w : World), (callMethod (.iface 267 (.pointer v)) "quern/node.out" l).run Tryz.prog w = .ok (.enter 221 (#[.pointer v] ++ l)) w := by intro v l w; kernel_rfl
theorem wW : ∀ (v : Option Addr) (l : Array Value) (w : World), (callMethod (.iface 267 (.pointer v)) "quern/node.write" l).run Tryz.prog w = .ok (.enter 223 (#[.pointer v] ++ l)) w := by intro v l w; kernel_rfl
theorem bG : Tryz.prog.follows .mixedOrders = true := by kernel_rfl
theorem BR {F O : Nat → Prop} {w : World} (data : List UInt8) (pW : Option Addr) (Ep : Nat) (oh : Nat) (Jl : Ro F w pW (e8.all data)) (Nj : data.length = Ep) (Iw : Ep ≤ oh) (k : Cx F O w w []) (r : (List (List UInt8) × Int)) (hm : oL data = some r) :
    Calls Tryz.prog 29 (vals [sl pW Ep oh]) w (fun e w' => ∃ A n c hd, r.1.length = n ∧ e = .returned (SV.val (.jc [sl A n c, I r.2])) ∧ Cx F O w w' [O2 e8 A n c hd r.1]) := by
 unfold oL at hm
 subst Nj
 refine calls [sl pW data.length oh] Tryz.func29 rfl (of_decide_eq_true (by kernel_rfl)) ?_
 refine af <| bg [] .a qe (by kernel_rfl) ?_
 refine ae <| af <| af <| bg [] (.n 12 (.b (decide (1048576 < ((data.length : Nat) : Int)))) .a) qe (by kernel_rfl) ?_
 refine ae <| aZ (1048576 < ((data.length : Nat) : Int)) (by kernel_rfl) (fun hc => ?_) (fun hc => ?_)
 · rw [if_pos hc] at hm
   refine af <| bg [] (.n 2 (sl none 0 0) (.n 3 (I 2) .z)) qe (by kernel_rfl) ?_
   refine ae <| aN (bz ?_)
   have k_ := k.ZJ e8
   obtain rfl := Option.some.inj hm
   refine aO [sl none 0 0, I 2] qe (by kernel_rfl) ?_
   exact ⟨none, 0, 0, ([] : List Hd), k_.AY 0 rfl, rfl, k_⟩
 rw [if_neg hc] at hm
 refine aS <| ae <| af <| bg [] (.n 4 (sl none 0 0) (.s .a)) qe (by kernel_rfl) ?_
 refine ae <| af <| bg [] (.n 5 (I 0) (.n 6 (.u64 0) .a)) qe (by kernel_rfl) ?_
 refine ae <| af <| af <| bg [] (.n 13 (sl pW data.length oh) (.n 14 (I ((data.length : Nat) : Int)) (.n 15 (I 0) .a))) qe (by kernel_rfl) ?_
 refine ae <| aJ ?_
 have fF := k.ZJ e8
 refine pg (jZ data) (fun s L wr => ∃ (l : List (List UInt8)) (from_ : Int) (sum : UInt64) (aC : Int) (A0 : Option Addr) (n0 : Nat) (c0 : Nat) (hd0 : List Hd), (l, from_, sum, aC) = s ∧ L = [(0, sl pW data.length oh), (4, sl A0 n0 c0), (5, I from_), (6, .u64 sum), (13, sl pW data.length oh), (14, I ((data.length : Nat) : Int)), (15, I aC)] ∧ l.length = n0 ∧ Cx F O w wr [O2 e8 A0 n0 c0 hd0 l]) (([] : List (List UInt8)), (0 : Int), (0 : UInt64), (0 : Int)) r hm ⟨([] : List (List UInt8)), (0 : Int), (0 : UInt64), (0 : Int), none, 0, 0, ([] : List Hd), rfl, rfl, fF.AY 0 rfl, fF⟩ (by kernel_rfl) ?_
 intro BU L_ w_ y0 hrel hstep hr0
 obtain ⟨l, from_, sum, aC, A0, _, c0, hd0, rfl, rfl, rfl, dK⟩ := hrel
 have hm := hstep; simp only [jZ] at hm
 clear hstep
 refine af <| bg [] (.n 16 (.b (decide (aC < ((data.length : Nat) : Int)))) .a) qe (by kernel_rfl) ?_
 refine ae <| af <| aZ (aC < ((data.length : Nat) : Int)) (by kernel_rfl) (fun hc1 => ?_) (fun hc1 => ?_)
 · rw [if_pos hc1] at hm
   refine aS <| ae <| vG (fun L wr => ∃ (l1 : List (List UInt8)) (Ej : Int) (QE : UInt64) (A1 : Option Addr) (n1 : Nat) (c1 : Nat) (hd1 : List Hd), lT aC l1 Ej QE = some y0 ∧ L = [(0, sl pW data.length oh), (4, sl A1 n1 c1), (5, I Ej), (6, .u64 QE), (13, sl pW data.length oh), (14, I ((data.length : Nat) : Int)), (15, I aC)] ∧ l1.length = n1 ∧ Cx F O w wr [O2 e8 A1 n1 c1 hd1 l1]) ?_ ?_
   ·
    refine aJ <| af ?_
    obtain ⟨bY, jk, hm⟩ := ob hm
    refine bg [] (.n 7 (I aC) (.n 8 (.u8 bY) (.s .a))) (qW (Jl.cx dK) jk rfl (.u8 bY) rfl <| qe) (by kernel_rfl) ?_
    refine ae <| af <| bg [] (.n 6 (.u64 ((o_ sum ((1 : UInt64).toNat)) + (((UInt64.ofNat bY.toNat) + 1) * 11400714819323198485))) (.k (.s (.Dl (.s .a))))) qe (by kernel_rfl) ?_
    refine ae <| af <| bg [] (.n 9 (I (aI ((aI (aC + 1)) - from_))) .a) qe (by kernel_rfl) ?_
    refine ae <| af <| bg [] (.n 48 (.b (((decide ((aI ((aI (aC + 1)) - from_)) = 1024)) || ((decide (64 ≤ (aI ((aI (aC + 1)) - from_)))) && (decide ((jR ((o_ sum ((1 : UInt64).toNat)) + (((UInt64.ofNat bY.toNat) + 1) * 11400714819323198485)) ((58 : UInt64).toNat)) = 0)))) || (decide (aC = (aI (((data.length : Nat) : Int) - 1)))))) (.s .a)) qe (by kernel_rfl) ?_
    refine ae <| bC (((decide ((aI ((aI (aC + 1)) - from_)) = 1024)) || ((decide (64 ≤ (aI ((aI (aC + 1)) - from_)))) && (decide ((jR ((o_ sum ((1 : UInt64).toNat)) + (((UInt64.ofNat bY.toNat) + 1) * 11400714819323198485)) ((58 : UInt64).toNat)) = 0)))) || (decide (aC = (aI (((data.length : Nat) : Int) - 1))))) (by kernel_rfl) (fun hc2 => ?_) (fun hc2 => ?_)
    · rw [if_pos hc2] at hm
      refine af <| ax ?_
      obtain ⟨b, sO, hm⟩ := ob hm
      have hs := iq sO
      have hl := nC sO
      have hn : data.length = data.length := rfl
      have hc3 : data.length ≤ oh := Iw
      obtain ⟨A2, c2, e_, hc4, hA, hc5⟩ := YT pW (Int.toNat from_) oh 1 (Int.toNat (aI (aC + 1)) - Int.toNat from_) b.length (by omega) (by omega)
      refine aW 6 [] (.n 49 (sl A0 l.length c0) (.n 54 (sl A2 b.length c2) (.ss (.Dl (.s .a))))) (qp (0 ≤ aI (aC + 1) ∧ aI (aC + 1) ≤ ((oh : Nat) : Int)) (by omega) <| qp (0 ≤ from_ ∧ from_ ≤ ((Int.toNat (aI (aC + 1)) : Nat) : Int)) (by omega) <| qo (.v (.slice A2 b.length c2)) <| qp (Value.slice (zJ pW (Int.toNat from_) oh 1) (Int.toNat (aI (aC + 1)) - Int.toNat from_) (oh - Int.toNat from_) = .slice A2 b.length c2) e_ <| qe) (by kernel_rfl) ?_
      refine ai ?_
      have fM := dK.nil e8
      obtain ⟨b1, yD, hm⟩ := ob hm
      obtain ⟨hz, hl1⟩ := fO yD
      refine dL (E := e8) (v := sl A2 b.length c2) (ys := b) dW [] 55 1 (by kernel_rfl) fM rfl (Src.sl (Rd.cut (Jl.cx fM) sO rfl (by rfl) hA (by omega)) rfl (by rfl)) rfl (by have := fM.len 1 rfl; have := hm; omega) ?_
      intro A3 c3 o9 g_
      rw [← hl1] at g_
      refine ai ?_
      have gX := (g_.pk .h).pk (.t .h)
      refine U4 (rest := [O2 e8 A0 l.length c0 hd0 l]) Iu e8 [] 56 ([(A3, 0 + b.length, c3)] : List Hd) ([b1] : List (List UInt8)) [(0, sl A3 (0 + b.length) c3)] [sl A3 (0 + b.length) c3] (by kernel_rfl) (by kernel_rfl) (by kernel_rfl) rfl gX ?_
      intro A4 sZ jb
      refine ai ?_
      have jf := (jb.pk .h).pk (.t .h)
      obtain ⟨l2, Z9, hm⟩ := ob hm
      obtain ⟨hz1, hl2⟩ := fO Z9
      refine I8 Iu [] 57 (by kernel_rfl) jf (by have := jf.AY 0 rfl; have := jf.AY 1 rfl; omega) ?_
      intro A5 c4 xk jQ
      rw [← hl2] at jQ
      refine aW 1 [] (.n 4 (sl A5 (l.length + 1) c4) (.kJ (.s (.kk (.s .a))))) qe (by kernel_rfl) ?_
      refine ag <| ae <| bg [] (.n 5 (I (aI (aC + 1))) (.n 6 (.u64 0) (.k (.s .a)))) qe (by kernel_rfl) ?_
      refine gm ?_
      exact oJ ⟨l2, aI (aC + 1), (0 : UInt64), A5, l.length + 1, c4, hd0 ++ ([(A3, 0 + b.length, c3)] : List Hd), hm, rfl, jQ.AY 0 rfl, jQ⟩ (by kernel_rfl)
    rw [if_neg (by rw [hc2]; decide)] at hm
    refine aS <| gm ?_
    exact oJ ⟨l, from_, (o_ sum ((1 : UInt64).toNat)) + (((UInt64.ofNat bY.toNat) + 1) * 11400714819323198485), A0, l.length, c0, hd0, hm, rfl, dK.AY 0 rfl, dK⟩ (by kernel_rfl)
   rintro L_ xB ⟨l1, Ej, QE, A1, _, c1, hd1, hm, rfl, rfl, jS⟩
   simp only [lT] at hm
   refine bg [] (.n 15 (I (aI (aC + 1))) (.bH (.kk .z))) qe (by kernel_rfl) ?_
   exact jU (l1, Ej, QE, aI (aC + 1)) (Option.some.inj hm).symm ⟨l1, Ej, QE, aI (aC + 1), A1, l1.length, c1, hd1, rfl, rfl, jS.AY 0 rfl, jS⟩ (by kernel_rfl)
 rw [if_neg hc1] at hm
 refine dY (bU (bU (iL ?_)))
 have hm := cO hm hr0
 refine ae <| af <| bg [] (.n 2 (sl A0 l.length c0) (.n 3 (I 0) .z)) qe (by kernel_rfl) ?_
 refine ae <| aN ?_
 obtain rfl := Option.some.inj hm
 refine aO [sl A0 l.length c0, I 0] qe (by kernel_rfl) ?_
 exact ⟨A0, l.length, c0, hd0, dK.AY 0 rfl, rfl, dK⟩
theorem QJ {F O : Nat → Prop} {w : World} (a_ : List UInt8) (b : List UInt8) (Nk : Option Addr) (QK : Nat) (Nl : Nat) (lN : Option Addr) (pX : Nat) (lZ : Nat) (Z_ : Ro F w Nk (e8.all a_)) (V5 : a_.length = QK) (Y9 : QK ≤ Nl) (sO : Ro F w lN (e8.all b)) (rO : b.length = pX) (uo : pX ≤ lZ) (k : Cx F O w w []) (r : Bool) (hm : vT a_ b = some r) :
    Calls Tryz.prog 40 (vals [sl Nk QK Nl, sl lN pX lZ]) w (fun e w' => e = .returned (SV.val (.b r)) ∧ Cx F O w w' []) := by
 unfold vT at hm
 subst V5
 subst rO
 refine calls [sl Nk a_.length Nl, sl lN b.length lZ] Tryz.func40 rfl (of_decide_eq_true (by kernel_rfl)) ?_
 refine af <| bg [] .a qe (by kernel_rfl) ?_
 refine ae <| af <| af <| bg [] (.n 10 (.b (decide (((a_.length : Nat) : Int) ≠ ((b.length : Nat) : Int)))) .a) qe (by kernel_rfl) ?_
 refine ae <| aZ (((a_.length : Nat) : Int) ≠ ((b.length : Nat) : Int)) (by kernel_rfl) (fun hc => ?_) (fun hc => ?_)
 · rw [if_pos hc] at hm
   refine af <| bg [] (.n 4 (.b false) .z) qe (by kernel_rfl) ?_
   refine ae <| aN (bz ?_)
   obtain rfl := Option.some.inj hm
   refine aO [.b false] qe (by kernel_rfl) ?_
   exact ⟨rfl, k⟩
 rw [if_neg hc] at hm
 refine aS <| ae <| af <| af <| bg [] (.n 5 (I 0) (.s .a)) qe (by kernel_rfl) ?_
 refine ae <| aJ <| pg (n_ a_ b) (fun s L wr => ∃ (i : Int), i = s ∧ L = [(0, sl Nk a_.length Nl), (1, sl lN b.length lZ), (5, I i)] ∧ Cx F O w wr []) (0 : Int) r hm ⟨(0 : Int), rfl, rfl, k⟩ (by kernel_rfl) ?_
 intro BU L_ w_ y0 hrel hstep hr0
 obtain ⟨i, rfl, rfl, k_⟩ := hrel
 have hm := hstep; simp only [n_] at hm
 clear hstep
 refine af <| af <| bg [] (.n 14 (.b (decide (i < ((a_.length : Nat) : Int)))) .a) qe (by kernel_rfl) ?_
 refine ae <| aZ (i < ((a_.length : Nat) : Int)) (by kernel_rfl) (fun hc1 => ?_) (fun hc1 => ?_)
 · rw [if_pos hc1] at hm
   refine aS <| ae <| af <| aJ <| af ?_
   obtain ⟨aC, yE, hm⟩ := ob hm
   obtain ⟨x_1, kQ, hm⟩ := ob hm
   refine W_d bG (by kernel_rfl) (.n 25 (.b (decide (aC ≠ x_1))) (.s .a)) (fun m => qW (Z_.cx (k_.drew m)) yE rfl (.u8 aC) rfl <| qW (sO.cx (k_.drew m)) kQ rfl (.u8 x_1) rfl <| qe) (by kernel_rfl) (fun m_ => ?_)
   have dK := k_.drew m_
   refine ae <| aZ (aC ≠ x_1) (by kernel_rfl) (fun hc2 => ?_) (fun hc2 => ?_)
   · rw [if_pos hc2] at hm
     refine af <| bg [] (.n 4 (.b false) .z) qe (by kernel_rfl) ?_
     refine ae <| aN (fA (bz (bz (fA (bz ?_)))))
     have hm := cO hm hr0
     obtain rfl := Option.some.inj hm
     refine aO [.b false] qe (by kernel_rfl) ?_
     exact ⟨rfl, dK⟩
   rw [if_neg hc2] at hm
   refine aS <| gm <| ae <| bg [] (.n 5 (I (aI (i + 1))) (.s (.kk .z))) qe (by kernel_rfl) ?_
   exact jU (aI (i + 1)) (Option.some.inj hm).symm ⟨aI (i + 1), rfl, rfl, dK⟩ (by kernel_rfl)
 rw [if_neg hc1] at hm
 refine dY (bU (bU (iL ?_)))
 have hm := cO hm hr0
 refine ae <| af <| bg [] (.n 4 (.b true) .z) qe (by kernel_rfl) ?_
 refine ae <| aN ?_
 obtain rfl := Option.some.inj hm
 refine aO [.b true] qe (by kernel_rfl) ?_
 exact ⟨rfl, k_⟩
theorem vU {F O : Nat → Prop} {w : World} (a_ : List UInt8) (b : List UInt8) (Nk : Option Addr) (QK : Nat) (Nl : Nat) (lN : Option Addr) (pX : Nat) (lZ : Nat) (Z_ : Ro F w Nk (e8.all a_)) (V5 : a_.length = QK) (Y9 : QK ≤ Nl) (sO : Ro F w lN (e8.all b)) (rO : b.length = pX) (uo : pX ≤ lZ) (k : Cx F O w w []) (r : Bool) (hm : lY a_ b = some r) :
    Calls Tryz.prog 10 (vals [sl Nk QK Nl, sl lN pX lZ]) w (fun e w' => e = .returned (SV.val (.b r)) ∧ Cx F O w w' []) := by
 unfold lY at hm
 subst V5
 subst rO
 refine calls [sl Nk a_.length Nl, sl lN b.length lZ] Tryz.func10 rfl (of_decide_eq_true (by kernel_rfl)) ?_
 refine af <| bg [] .a qe (by kernel_rfl) ?_
 refine ae <| af <| ax <| aW 2 [] (.n 5 (sl Nk a_.length Nl) (.n 6 (sl lN b.length lZ) .z)) qe (by kernel_rfl) ?_
 refine ai ?_
 obtain ⟨r_, dV, hm⟩ := ob hm
 refine ay [] 7 _ XY (by kernel_rfl) (QJ (F := N0) (O := N0) _ _ _ _ _ _ _ _ (Ro.n0 (Z_.cx k)) rfl Y9 (Ro.n0 (sO.cx k)) rfl uo (Cx.refl _) _ dV) ?_
 rintro e_ w_ ⟨rfl, k_⟩
 have dK := k.call k_
 refine ⟨.b r_, rfl, ?_⟩
 refine aW 1 [] (.n 4 (.b r_) .z) qe (by kernel_rfl) ?_
 refine ag <| ae <| aN ?_
 obtain rfl := Option.some.inj hm
 refine aO [.b r_] qe (by kernel_rfl) ?_
 exact ⟨rfl, dK⟩
theorem Pg {F O : Nat → Prop} {w : World} (k : Cx F O w w []) (r : Bool) (hm : wR = some r) :
    Calls Tryz.prog 6 (vals []) w (fun e w' => e = .returned (SV.val (.b r)) ∧ Cx F O w w' []) := by
 unfold wR at hm
 refine calls [] Tryz.func6 rfl (of_decide_eq_true (by kernel_rfl)) ?_
 refine af <| bg [] .a qe (by kernel_rfl) ?_
 refine ae <| af <| ax <| ai <| uA dW e8 [] 4 ([(97 : UInt8), (98 : UInt8), (99 : UInt8)] : List UInt8) [(0, .u8 97), (1, .u8 98), (2, .u8 99)] [.u8 97, .u8 98, .u8 99] (by kernel_rfl) (by kernel_rfl) (by kernel_rfl) k ?_
 intro A w_ k_
 refine ai <| Y0 5 [] 5 0 (by kernel_rfl) k_ rfl (by omega) ?_
 intro o9 dK
 refine ai ?_
 obtain ⟨r_, dV, hm⟩ := ob hm
 refine ay [] 6 _ RZ (by kernel_rfl) (BR (F := N0) (O := N0) _ _ _ _ (Ro.n0 (dK.rd 0 rfl)) (dK.len 0 rfl) (dK.EH 0 rfl) (Cx.refl _) _ dV) ?_
 rintro e_ sZ ⟨A1, _, c, hd, rfl, rfl, fF⟩
 have fM := dK.call fF
 refine ⟨.jc [sl A1 r_.1.length c, I r_.2], rfl, ?_⟩
 have g_ := fM.bD (.s (.k .e))
 refine aW 5 [] (.n 1 (sl A1 r_.1.length c) (.n 2 (I r_.2) .z)) qe (by kernel_rfl) ?_
 refine ag <| ae <| af <| ax <| aW 8 [] (.n 16 (.b ((decide (r_.2 = 0)) && (decide (((r_.1.length : Nat) : Int) = 1)))) (.k .z)) qe (by kernel_rfl) ?_
 refine Hg 16 ((decide (r_.2 = 0)) && (decide (((r_.1.length : Nat) : Int) = 1))) (.s .a) (by kernel_rfl) (fun hg => ?_) (fun hg => ?_)
 · rw [if_pos hg] at hm
   obtain ⟨b, sO, hm⟩ := ob hm
   obtain ⟨lN, lZ, hh, hle⟩ := g_.at2 0 rfl sO
   refine aW 3 [16] (.n 19 (sl lN b.length lZ) (.k .z)) (qJ (g_.hd2 0 rfl) hh (g_.hlen2 0 rfl) <| qC (sl lN b.length lZ) (Rd.el (k := 0) (g_.hd2 0 rfl) hh (Pt.Dk A1 (0 : Int) 1) rfl) <| qe) (by kernel_rfl) ?_
   refine ai <| uA dW e8 [16] 20 ([(97 : UInt8), (98 : UInt8), (99 : UInt8)] : List UInt8) [(0, .u8 97), (1, .u8 98), (2, .u8 99)] [.u8 97, .u8 98, .u8 99] (by kernel_rfl) (by kernel_rfl) (by kernel_rfl) g_ ?_
   intro A2 xk gX
   refine ai ?_
   have jb := gX.bD (.kk .e)
   refine Y0 5 [16] 21 1 (by kernel_rfl) jb rfl (by omega) ?_
   intro xB jf
   refine ai ?_
   obtain ⟨aQ, fG, hm⟩ := ob hm
   refine ay [16] 22 _ CQ (by kernel_rfl) (vU (F := N0) (O := N0) _ _ _ _ _ _ _ _ (Ro.n0 (jf.in2 0 rfl sO hh)) rfl hle (Ro.n0 (jf.rd 1 rfl)) (jf.len 1 rfl) (jf.EH 1 rfl) (Cx.refl _) _ fG) ?_
   rintro e_ y5 ⟨rfl, jQ⟩
   have jS := jf.call jQ
   refine ⟨.b aQ, rfl, ?_⟩
   have dJ := jS.bD .z
   refine aW 2 [16] (.n 0 (.b aQ) .z) qe (by kernel_rfl) ?_
   refine ag <| ae <| aN ?_
   obtain rfl := Option.some.inj hm
   refine aO [.b aQ] qe (by kernel_rfl) ?_
   exact ⟨rfl, dJ⟩
 · rw [if_neg (by rw [hg]; decide)] at hm
   refine aW 8 [16] (.n 0 (.b false) .z) qe (by kernel_rfl) ?_
   refine ag <| ae <| aN ?_
   obtain rfl := Option.some.inj hm
   refine aO [.b false] qe (by kernel_rfl) ?_
   have dB := g_.bD .z
   exact ⟨rfl, dB⟩
theorem Ph {F O : Nat → Prop} {w : World} (size : Int) (k : Cx F O w w []) (r : Unit ⊕ (Int × Mp (List UInt8) × (Mp (Mp (Int × List UInt8))))) (hm : wS size = some r) :
    Calls Tryz.prog 21 (vals [I size]) w (fun e w' => match r with | .inl r0 => e = .returned (SV.val (.jc [.v (.pointer none), I 1])) ∧ Cx F O w w' [] | .inr r1 => ∃ g b b1, e = .returned (SV.val (.jc [pt g 0, I 0])) ∧ Cx F O w w' [Bx 82 g [I r1.1, .v (.map (some b)), .v (.map (some b1))], MS (vH e8) b r1.2.1, MS (vM (vS (eP eI eS) (bT bP bQ))) b1 r1.2.2]) := by
 unfold wS at hm
 refine calls [I size] Tryz.func21 rfl (of_decide_eq_true (by kernel_rfl)) ?_
 refine af <| bg [] .a qe (by kernel_rfl) ?_
 refine ae <| af <| af <| bg [] (.n 9 (.b ((decide (size < 1)) || (decide (64 < size)))) .a) qe (by kernel_rfl) ?_
 refine ae <| bC ((decide (size < 1)) || (decide (64 < size))) (by kernel_rfl) (fun hc => ?_) (fun hc => ?_)
 · rw [if_pos hc] at hm
   refine af <| bg [] (.n 2 (.v (.pointer none)) (.n 3 (I 1) .z)) qe (by kernel_rfl) ?_
   refine ae <| aN (bz ?_)
   obtain rfl := Option.some.inj hm
   refine aO [.v (.pointer none), I 1] qe (by kernel_rfl) ?_
   exact ⟨rfl, k⟩
 rw [if_neg (by rw [hc]; decide)] at hm
 refine aS <| ae <| af <| ax <| aW 1 [] (.n 10 (I size) .z) qe (by kernel_rfl) ?_
 refine ai <| uB [] 11 (by kernel_rfl) k ?_
 intro b0 w_ k_
 have dK := k_.zY (v := (vH e8))
 refine ai <| uB [] 12 (by kernel_rfl) dK ?_
 intro b2 o9 fF
 have fM := fF.zY (v := (vM (vS (eP eI eS) (bT bP bQ))))
 refine aW 1 [] (.n 13 (.agg [I size, .v (.map (some b0)), .v (.map (some b2))]) .z) qe (by kernel_rfl) ?_
 refine ai <| jT [] 14 (.agg [I size, .v (.map (some b0)), .v (.map (some b2))]) [I size, .v (.map (some b0)), .v (.map (some b2))] (by kernel_rfl) fM ?_
 intro g0 sZ g_
 refine aW 2 [] (.n 2 (pt g0 0) (.n 3 (I 0) .z)) qe (by kernel_rfl) ?_
 refine ag <| ae <| aN ?_
 obtain rfl := Option.some.inj hm
 refine aO [pt g0 0, I 0] qe (by kernel_rfl) ?_
 have gX := ((g_.pk .h).pk (.t .h)).pk (.t (.t .h))
 exact ⟨g0, b0, b2, rfl, gX⟩
theorem Np {F O : Nat → Prop} {w : World} (b : List UInt8) (lN : Option Addr) (pX : Nat) (lZ : Nat) (sO : Ro F w lN (e8.all b)) (rO : b.length = pX) (uo : pX ≤ lZ) (k : Cx F O w w []) (r : (List UInt8)) (hm : uX b = some r) :
    Calls Tryz.prog 8 (vals [sl lN pX lZ]) w (fun e w' => ∃ A n c, r.length = n ∧ e = .returned (SV.val (sl A n c)) ∧ Cx F O w w' [Ow e8 A n c r]) := by
 unfold uX at hm
 subst rO
 refine calls [sl lN b.length lZ] Tryz.func8 rfl (of_decide_eq_true (by kernel_rfl)) ?_
 refine af <| bg [] .a qe (by kernel_rfl) ?_
 refine ae <| af <| ax <| ai <| uA dW e8 [] 3 ([] : List UInt8) [] [] (by kernel_rfl) (by kernel_rfl) (by kernel_rfl) k ?_
 intro A0 w_ k_
 refine aW 1 [] (.n 4 (sl lN b.length lZ) (.k .z)) qe (by kernel_rfl) ?_
 refine ai ?_
 obtain ⟨b1, yD, hm⟩ := ob hm
 obtain ⟨hz, hl⟩ := fO yD
 refine dL (E := e8) (v := sl lN b.length lZ) (ys := b) dW [] 5 0 (by kernel_rfl) k_ rfl (Src.sl (sO.cx k_) rfl (by rfl)) rfl (by have := k_.len 0 rfl; have := hm; omega) ?_
 intro A1 c0 o9 dK
 rw [← hl] at dK
 refine aW 1 [] (.n 2 (sl A1 (0 + b.length) c0) .z) qe (by kernel_rfl) ?_
 refine ag <| ae <| aN ?_
 obtain rfl := Option.some.inj hm
 refine aO [sl A1 (0 + b.length) c0] qe (by kernel_rfl) ?_
 exact ⟨A1, 0 + b.length, c0, dK.len 0 rfl, rfl, dK⟩
theorem Ho {F O : Nat → Prop} {w : World} (l : List (List UInt8 × List UInt8)) (A_l : Option Addr) (n_l : Nat) (c_l : Nat) (ys_l : List (List UInt8 × Hd)) (TT : OJ F O w (eP eS eH) (SP SQ (SH e8)) A_l ys_l l) (hn_l : l.length = n_l) (hc_l : n_l ≤ c_l) (k : Cx F O w w []) (r : ((List (List UInt8 × List UInt8)) × (List (List UInt8 × List UInt8)))) (hm : uj l = some r) :
    Calls Tryz.prog 22 (vals [sl A_l n_l c_l]) w (fun e w' => ∃ A n c ys A1 n1 c1 ys1, r.1.length = n ∧ r.2.length = n1 ∧ e = .returned (SV.val (.jc [sl A n c, sl A1 n1 c1])) ∧ Cx F O w w' [OG (eP eS eH) (SP SQ (SH e8)) A n c ys r.1, OG (eP eS eH) (SP SQ (SH e8)) A1 n1 c1 ys1 r.2]) := by
 unfold uj at hm
 have h_l : MN F w (eP eS eH) (RP RQ (RH F w e8)) A_l ys_l l := TT.rog k.off (fun R_ y_ x_ X6 q_ => ⟨(And.left q_), (SH.rh (And.right q_) X6)⟩)
 subst hn_l
 refine calls [sl A_l l.length c_l] Tryz.func22 rfl (of_decide_eq_true (by kernel_rfl)) ?_
 refine af <| bg [] .a qe (by kernel_rfl) ?_
 refine ae <| af <| bg [] (.n 4 (sl none 0 0) .a) qe (by kernel_rfl) ?_
 refine ae <| af <| bg [] (.n 5 (sl none 0 0) .a) qe (by kernel_rfl) ?_
 refine ae <| af <| af <| bg [] (.n 8 (sl A_l l.length c_l) (.n 9 (I ((l.length : Nat) : Int)) (.n 10 (I 0) (.kk .z)))) qe (by kernel_rfl) ?_
 refine ae <| aJ ?_
 have dK := k.Y1 (eP eS eH) (SP SQ (SH e8))
 have fF := dK.Y1 (eP eS eH) (SP SQ (SH e8))
 have fM := (fF.pk .h).pk (.t .h)
 refine pg (qG l) (fun s L wr => ∃ (a_ : List (List UInt8 × List UInt8)) (b : List (List UInt8 × List UInt8)) (aC : Int) (A0 : Option Addr) (n0 : Nat) (c0 : Nat) (ys0 : List (List UInt8 × Hd)) (A2 : Option Addr) (n2 : Nat) (c2 : Nat) (TE : List (List UInt8 × Hd)), (a_, b, aC) = s ∧ L = [(4, sl A0 n0 c0), (5, sl A2 n2 c2), (8, sl A_l l.length c_l), (9, I ((l.length : Nat) : Int)), (10, I aC)] ∧ a_.length = n0 ∧ b.length = n2 ∧ Cx F O w wr [OG (eP eS eH) (SP SQ (SH e8)) A0 n0 c0 ys0 a_, OG (eP eS eH) (SP SQ (SH e8)) A2 n2 c2 TE b]) (([] : List (List UInt8 × List UInt8)), ([] : List (List UInt8 × List UInt8)), (0 : Int)) r hm ⟨([] : List (List UInt8 × List UInt8)), ([] : List (List UInt8 × List UInt8)), (0 : Int), none, 0, 0, ([] : List (List UInt8 × Hd)), none, 0, 0, ([] : List (List UInt8 × Hd)), rfl, rfl, fM.AL 0 rfl, fM.AL 1 rfl, fM⟩ (by kernel_rfl) ?_
 intro BU L_ w_ y0 hrel hstep hr0
 obtain ⟨a_, b, aC, A0, _, c0, ys0, A2, _, c2, TE, rfl, rfl, rfl, rfl, k_⟩ := hrel
 have hm := hstep; simp only [qG] at hm
 clear hstep
 refine af <| bg [] (.n 11 (.b (decide (aC < ((l.length : Nat) : Int)))) .a) qe (by kernel_rfl) ?_
 refine ae <| af <| aZ (aC < ((l.length : Nat) : Int)) (by kernel_rfl) (fun hc => ?_) (fun hc => ?_)
 · rw [if_pos hc] at hm
   refine aS <| ae <| af <| aJ <| af <| ax ?_
   obtain ⟨bY, jk, hm⟩ := ob hm
   obtain ⟨⟨q, ⟨B, n3, c3⟩⟩, hy, hg⟩ := TT.at jk
   simp only [SP, SQ, SH] at hg; obtain ⟨rfl, ⟨rfl, hle, hrd, hO⟩⟩ := hg
   have hro : Ro F w B (e8.all bY.2) := ⟨hrd, fun hne_ a_ ha_ hf_ => k.off _ (hO hne_ a_ ha_) hf_⟩
   have hsx : (SH e8).r w O (B, bY.2.length, c3) bY.2 := ⟨rfl, hle, hrd, hO⟩
   refine aW 2 [] (.n 13 (.agg [.s bY.1, sl B bY.2.length c3]) (.s .a)) (qJ (E := (eP eS eH)) (h_l.ro.cx k_) hy h_l.len <| qR [.s bY.1, sl B bY.2.length c3] (Rd.els (k := 0) (m := 2) (h_l.ro.cx k_) hy (Pt.Dk A_l aC 2) rfl (by decide) (by decide)) <| qe) (by kernel_rfl) ?_
   refine ai <| bJ [] 7 [.s ([] : List UInt8), sl none 0 0] (by kernel_rfl) k_ ?_
   intro g o9 g_
   refine ai <| iQ [] 2 (.agg [.s bY.1, sl B bY.2.length c3]) [.s bY.1, sl B bY.2.length c3] (Pt.at g 0) g_ rfl .all (by kernel_rfl) (by kernel_rfl) ?_
   intro sZ gX
   refine ag <| ae <| af ?_
   have jb := gX.drew 1
   refine xQ bG (.q 0 2 (.q 3 2 (.q 4 1 (.q 1 3 (.q 2 2 (.op 5 (.q 6 1 (.op 7 (.op 8 (.q 9 3 .nil)))))))))) [5, 7, 8] jb (.c (.kk (.k .e)) (.c (.kk (.k .e)) (.c (.s (.kk .e)) .l))) (by kernel_rfl) (fun _ => ?_)
   refine dG 2 2 [] (.n 14 (sl A0 a_.length c0) (.n 17 (pt g 1) (.k (.s .a)))) (fun x hx => qs g 0 <| qe) (by kernel_rfl) (fun _ => ?_)
   refine dG 1 1 [] (.n 18 (sl B bY.2.length c3) (.k (.s .a))) (fun x hx => qB hx 2 rfl 1 (sl B bY.2.length c3) (by kernel_rfl) <| qe) (by kernel_rfl) (fun _ => ?_)
   refine dG 1 3 [] (.n 15 (pt g 0) .a) (fun x hx => qs g 0 <| qe) (by kernel_rfl) (fun _ => ?_)
   refine dG 1 2 [] (.n 16 (.s bY.1) (.s .a)) (fun x hx => qB hx 2 rfl 0 (.s bY.1) (by kernel_rfl) <| qe) (by kernel_rfl) (fun _ => ?_)
   refine dw (by kernel_rfl) rfl ?_
   obtain ⟨r_, dV, hm⟩ := ob hm
   refine ay [] 19 _ Z8 (by kernel_rfl) (Np (F := N0) (O := N0) _ _ _ _ (Ro.n0 (hro.cx jb)) rfl hle (Cx.refl _) _ dV) ?_
   rintro e_ xk ⟨A3, _, c4, rfl, rfl, jf⟩
   have jQ := jb.call jf
   refine ⟨sl A3 r_.length c4, rfl, ?_⟩
   refine ⟨(jQ.bD (.kk (.k .z))), fun _ => ?_⟩
   refine dG 1 1 [] (.n 20 (.agg [.s bY.1, sl A3 r_.length c4]) (.nG .a)) (fun x hx => qe) (by kernel_rfl) (fun _ => ?_)
   refine dw (by kernel_rfl) rfl ?_
   have jS := (((jQ.pk (.t (.t .h))).pk (.t (.t .h))).pk (.t (.t .h))).pk (.t (.t (.t .h)))
   have dJ := jS.share
   have dB := dJ.l7 0 rfl
   have gz := dB.shq (bY.1 : List UInt8)
   have iI := gz.shp
   refine uA Sz (eP eS eH) [] 21 ([((bY.1 : List UInt8), (A3, r_.length, c4))] : List (List UInt8 × Hd)) [(0, .agg [.s bY.1, sl A3 r_.length c4])] [.s bY.1, sl A3 r_.length c4] (by kernel_rfl) (by kernel_rfl) (by kernel_rfl) iI ?_
   intro A4 xB iJ
   have iK := (((((iJ.pk (.t (.t (.t (.t .h))))).pk (.t (.t (.t (.t .h))))).pk (.t (.t (.t (.t .h))))).pk (.t (.t (.t (.t .h))))).pk (.t (.t (.t (.t .h))))).pk (.t (.t (.t (.t (.t .h)))))
   have iG := iK.og
   refine ⟨(iG.bD (.ss (.kk (.k .e)))), fun _ => ?_⟩
   refine dw (by kernel_rfl) rfl ?_
   have je := iG.bD (.bH (.k .e))
   have ku := ((((je.pk (.t (.t (.t (.t .h))))).pk (.t (.t (.t (.t .h))))).pk (.t (.t (.t .h)))).pk (.t (.t (.t .h)))).pk (.t (.t (.t (.t .h))))
   obtain ⟨a_1, h_a_1, hm⟩ := ob hm
   obtain ⟨hz, hl⟩ := fO h_a_1
   refine I_ Sz [] 22 (by kernel_rfl) ku (by have := ku.AL 0 rfl; have := ku.AL 1 rfl; omega) ?_
   intro A5 c5 y5 oq
   rw [← hl] at oq
   have jL := oq.bD (.k (.s (.kk .e)))
   refine ⟨(jL.bD (.s (.kk .e))), fun _ => ?_⟩
   refine dG 1 3 [] (.n 4 (sl A5 (a_.length + 1) c5) (.kJ (.k (.s .a)))) (fun x hx => qe) (by kernel_rfl) (fun _ => ?_)
   refine dP <| ae <| ax <| aW 6 [] (.n 23 (sl A2 b.length c2) (.n 28 (.agg [.s bY.1, sl B bY.2.length c3]) (.k (.s .a)))) (qs g 0 <| qB jL 2 rfl 0 (.s bY.1) (by kernel_rfl) <| qs g 0 <| qB jL 2 rfl 1 (sl B bY.2.length c3) (by kernel_rfl) <| qe) (by kernel_rfl) ?_
   refine ai ?_
   have mQ := jL.shold (SH e8) hsx
   have oM := mQ.shq (bY.1 : List UInt8)
   have oN := oM.shp
   refine uA SA (eP eS eH) [] 29 ([((bY.1 : List UInt8), (B, bY.2.length, c3))] : List (List UInt8 × Hd)) [(0, .agg [.s bY.1, sl B bY.2.length c3])] [.s bY.1, sl B bY.2.length c3] (by kernel_rfl) (by kernel_rfl) (by kernel_rfl) oN ?_
   intro A6 CW ni
   have nY := ((((ni.pk (.t (.t (.t .h)))).pk (.t (.t (.t .h)))).pk (.t (.t (.t .h)))).pk (.t (.t (.t .h)))).pk (.t (.t (.t (.t .h))))
   have pM := nY.og
   refine ai ?_
   have ve := (((pM.pk (.t (.t (.t .h)))).pk (.t (.t .h))).pk (.t (.t .h))).pk (.t (.t (.t .h)))
   obtain ⟨b1, yD, hm⟩ := ob hm
   obtain ⟨hz1, hl1⟩ := fO yD
   refine I_ SA [] 30 (by kernel_rfl) ve (by have := ve.AL 0 rfl; have := ve.AL 1 rfl; omega) ?_
   intro A7 c6 Du qH
   rw [← hl1] at qH
   have uq := qH.bD (.kk .z)
   refine aW 1 [] (.n 5 (sl A7 (b.length + 1) c6) (.kJ (.k (.s .a)))) qe (by kernel_rfl) ?_
   refine ag <| gm <| ae <| bg [] (.n 10 (I (aI (aC + 1))) (.bH .z)) qe (by kernel_rfl) ?_
   have uu := (uq.pk .h).pk (.t .h)
   exact jU (a_1, b1, aI (aC + 1)) (Option.some.inj hm).symm ⟨a_1, b1, aI (aC + 1), A5, a_.length + 1, c5, ys0 ++ ([((bY.1 : List UInt8), (A3, r_.length, c4))] : List (List UInt8 × Hd)), A7, b.length + 1, c6, TE ++ ([((bY.1 : List UInt8), (B, bY.2.length, c3))] : List (List UInt8 × Hd)), rfl, rfl, uu.AL 0 rfl, uu.AL 1 rfl, uu⟩ (by kernel_rfl)
 rw [if_neg hc] at hm
 refine dY (bU (bU (iL ?_)))
 have hm := cO hm hr0
 refine ae <| af <| bg [] (.n 2 (sl A0 a_.length c0) (.n 3 (sl A2 b.length c2) .z)) qe (by kernel_rfl) ?_
 refine ae <| aN ?_
 obtain rfl := Option.some.inj hm
 refine aO [sl A0 a_.length c0, sl A2 b.length c2] qe (by kernel_rfl) ?_
 exact ⟨A0, a_.length, c0, ys0, A2, b.length, c2, TE, k_.AL 0 rfl, k_.AL 1 rfl, rfl, k_⟩
theorem jI {F O : Nat → Prop} {w : World} (aY : Int) (ah : Mp (List UInt8)) (aj : Mp (Mp (Int × List UInt8))) (eU : Nat) (ak : Nat) (au : Nat) (k : Cx F O w w [Bx 82 eU [I aY, .v (.map (some ak)), .v (.map (some au))], MS (vH e8) ak ah, MS (vM (vS (eP eI eS) (bT bP bQ))) au aj]) (r : Int) (hm : cZ aY ah aj = some r) :
    Calls Tryz.prog 41 (vals [pt eU 0]) w (fun e w' => e = .returned (SV.val (.b false)) ∧ Cx F O w w' [Bx 82 eU [I r, .v (.map (some ak)), .v (.map (some au))], MS (vH e8) ak ah, MS (vM (vS (eP eI eS) (bT bP bQ))) au aj]) := by
 unfold cZ at hm
 refine calls [pt eU 0] Tryz.func41 rfl (of_decide_eq_true (by kernel_rfl)) ?_
 refine af <| bg [] .a qe (by kernel_rfl) ?_
 refine ae <| af <| bg [5] (.n 2 (.b false) .z) (qs eU 0 <| qs eU 0 <| qB k 0 rfl 1 (.v (.map (some ak))) (by kernel_rfl) <| qe) (by kernel_rfl) ?_
 refine ae <| aN ?_
 obtain rfl := Option.some.inj hm
 refine aO [.b false] qe (by kernel_rfl) ?_
 exact ⟨rfl, k⟩
theorem Jm {F O : Nat → Prop} {w : World} (w_ : UInt32) (k : Cx F O w w []) (r : (List UInt8)) (hm : uZ w_ = some r) :
    Calls Tryz.prog 61 (vals [.u32 w_]) w (fun e w' => ∃ A n c, r.length = n ∧ e = .returned (SV.val (sl A n c)) ∧ Cx F O w w' [Ow e8 A n c r]) := by
 unfold uZ at hm
 refine calls [.u32 w_] Tryz.func61 rfl (of_decide_eq_true (by kernel_rfl)) ?_
 refine af <| bg [] .a qe (by kernel_rfl) ?_
 refine ae <| af <| ax <| aW 11 [] (.n 4 (.u8 (UInt8.ofNat w_.toNat)) (.n 7 (.u8 (UInt8.ofNat (iH w_ ((8 : UInt64).toNat)).toNat)) (.n 10 (.u8 (UInt8.ofNat (iH w_ ((16 : UInt64).toNat)).toNat)) (.n 13 (.u8 (UInt8.ofNat (iH w_ ((24 : UInt64).toNat)).toNat)) .z)))) qe (by kernel_rfl) ?_
 refine ai <| uA dW e8 [] 14 ([UInt8.ofNat w_.toNat, UInt8.ofNat (iH w_ ((8 : UInt64).toNat)).toNat, UInt8.ofNat (iH w_ ((16 : UInt64).toNat)).toNat, UInt8.ofNat (iH w_ ((24 : UInt64).toNat)).toNat] : List UInt8) [(0, .u8 (UInt8.ofNat w_.toNat)), (1, .u8 (UInt8.ofNat (iH w_ ((8 : UInt64).toNat)).toNat)), (2, .u8 (UInt8.ofNat (iH w_ ((16 : UInt64).toNat)).toNat)), (3, .u8 (UInt8.ofNat (iH w_ ((24 : UInt64).toNat)).toNat))] [.u8 (UInt8.ofNat w_.toNat), .u8 (UInt8.ofNat (iH w_ ((8 : UInt64).toNat)).toNat), .u8 (UInt8.ofNat (iH w_ ((16 : UInt64).toNat)).toNat), .u8 (UInt8.ofNat (iH w_ ((24 : UInt64).toNat)).toNat)] (by kernel_rfl) (by kernel_rfl) (by kernel_rfl) k ?_
 intro A0 o9 k_
 refine aW 1 [] (.n 2 (sl A0 4 4) .z) qe (by kernel_rfl) ?_
 refine ag <| ae <| aN ?_
 obtain rfl := Option.some.inj hm
 refine aO [sl A0 4 4] qe (by kernel_rfl) ?_
 exact ⟨A0, 4, 4, k_.len 0 rfl, rfl, k_⟩
theorem vg {F O : Nat → Prop} {w : World} (n : Int) (k : Cx F O w w []) (r : (List UInt8)) (hm : mg n = some r) :
    Calls Tryz.prog 42 (vals [I n]) w (fun e w' => ∃ A n1 c, r.length = n1 ∧ e = .returned (SV.val (sl A n1 c)) ∧ Cx F O w w' [Ow e8 A n1 c r]) := by
 unfold mg at hm
 refine calls [I n] Tryz.func42 rfl (of_decide_eq_true (by kernel_rfl)) ?_
 refine af <| bg [] .a qe (by kernel_rfl) ?_
 refine ae <| af <| ax <| aW 2 [] (.n 4 (.u32 (UInt32.ofInt n)) .z) qe (by kernel_rfl) ?_
 refine ai ?_
 obtain ⟨r_, dV, hm⟩ := ob hm
 refine ay [] 5 _ X4 (by kernel_rfl) (Jm (F := N0) (O := N0) _ (Cx.refl _) _ dV) ?_
 rintro e_ w_ ⟨A0, _, c0, rfl, rfl, k_⟩
 have dK := k.call k_
 refine ⟨sl A0 r_.length c0, rfl, ?_⟩
 refine aW 1 [] (.n 2 (sl A0 r_.length c0) .z) qe (by kernel_rfl) ?_
 refine ag <| ae <| aN ?_
 obtain rfl := Option.some.inj hm
 refine aO [sl A0 r_.length c0] qe (by kernel_rfl) ?_
 exact ⟨A0, r_.length, c0, dK.len 0 rfl, rfl, dK⟩
theorem FK {F O : Nat → Prop} {w : World} (yC : Mp (List UInt8)) (Hq : Nat) (k : Cx F O w w [MS (vH e8) Hq yC]) (r : (List (List UInt8))) (hm : qg yC = some r) :
    Calls Tryz.prog 43 (vals [.v (.map (some Hq))]) w (fun e w' => ∃ A n c, r.length = n ∧ e = .returned (SV.val (sl A n c)) ∧ Cx F O w w' [Ow eS A n c r, MS (vH e8) Hq yC]) := by
 unfold qg at hm
 refine calls [.v (.map (some Hq))] Tryz.func43 rfl (of_decide_eq_true (by kernel_rfl)) ?_
 refine af <| bg [] .a qe (by kernel_rfl) ?_
 refine ae <| af <| bg [] (.n 3 (sl none 0 0) .a) qe (by kernel_rfl) ?_
 refine ae <| af <| af <| ax <| aW 1 [] (.n 5 (.v (.map (some Hq))) (.k .z)) qe (by kernel_rfl) ?_
 refine ai <| xU (kt := 9) (e := 22) [] 6 (by kernel_rfl) k ?_
 intro r_ w_ k_
 refine ag <| ae <| aJ ?_
 obtain ⟨u, Ap, hm⟩ := ob hm
 have dK := k_.nil eS
 refine OI (fun QL L wr => ∃ (l : List (List UInt8)) (left : Mp (List UInt8)) (cur : Option (Ky × (List UInt8))) (A0 : Option Addr) (n0 c0 : Nat), left.length = QL ∧ (l ++ left.map (·.1)).Perm (yC.map (·.1)) ∧ l.length = n0 ∧ L = [(3, sl A0 n0 c0), (6, .v (.pointer (some ⟨r_, 0, none⟩)))] ∧ Cx F O w wr [MV (vH e8) false Hq r_ yC left cur, Ow eS A0 n0 c0 l]) yC.length ⟨[], yC, none, none, 0, 0, rfl, List.Perm.refl _, rfl, rfl, dK⟩ (by kernel_rfl) ?_
 rintro kn L_ o9 ⟨l, left, cur, A0, _, c0, rfl, hperm, rfl, rfl, fF⟩
 refine af <| ax <| ai <| wE [] 7 (by kernel_rfl) fF (fun hl fM => ?_) (fun key aC left1 v sZ hp hnd g_ => ?_)
 ·
   have hp1 : l.Perm (yC.map (·.1)) := by have h_ := hperm; rw [hl, List.map_nil, List.append_nil] at h_; exact h_
   have gX := fM.KZ
   refine aW 1 [] (.n 8 (.b false) (.s (.k .z))) qe (by kernel_rfl) ?_
   refine ag <| ae <| af <| bC false (by kernel_rfl) (fun h => by cases h) (fun _ => ?_)
   refine dY (bU (bU (iL ?_)))
   refine ae <| af <| ax <| aW 1 [] (.n 15 (sl A0 l.length c0) (.s .a)) qe (by kernel_rfl) ?_
   refine ai <| ay [] 16 _ Ir (by kernel_rfl) (CV (i := 1) gX rfl (by have h1 := hp1.length_eq; have h2 := fK Ap; have h3 := gX.len 1 rfl; rw [List.length_map] at h1; omega)) ?_
   rintro e_ xk ⟨rfl, jb⟩
   rw [EZ hp1] at jb
   refine ⟨.jc [], rfl, ?_⟩
   refine ag <| ae <| af <| bg [] (.n 2 (sl A0 l.length c0) .z) qe (by kernel_rfl) ?_
   refine ae <| aN ?_
   obtain rfl := Option.some.inj hm
   refine aO [sl A0 l.length c0] qe (by kernel_rfl) ?_
   have jf := (jb.pk .h).pk (.t .h)
   exact ⟨A0, l.length, c0, jf.len 0 rfl, rfl, jf⟩
 ·
   refine aW 1 [] (.n 8 (.b true) (.s .a)) qe (by kernel_rfl) ?_
   refine ag <| ae <| af <| bC true (by kernel_rfl) (fun _ => ?_) (fun h => by cases h)
   refine aS <| ae <| aJ <| af <| ax <| ai <| Gq [] 9 (by kernel_rfl) g_ ?_
   intro A1 c1 jQ
   refine aW 2 [] (.n 4 (.s key) (.ss .a)) qe (by kernel_rfl) ?_
   refine ag <| ae <| ax <| aW 2 [] (.n 11 (sl A0 l.length c0) (.n 12 (.s key) (.s .a))) qe (by kernel_rfl) ?_
   refine ai <| uA sN eS [] 13 ([key] : List (List UInt8)) [(0, .s key)] [.s key] (by kernel_rfl) (by kernel_rfl) (by kernel_rfl) jQ ?_
   intro A2 xB jS
   refine ai ?_
   have dJ := jS.bD (.bH .e)
   have hz : (l.length + ([key] : List (List UInt8)).length) * 16 ≤ 140737488355328 := by have h1 := hperm.length_eq; have h2 := hp.length_eq; have h3 := fK Ap; simp only [List.length_append, List.length_cons, List.length_nil, List.length_map] at *; omega
   refine dL (E := eS) (v := sl A2 1 1) (ys := ([key] : List (List UInt8))) sN [] 14 2 (by kernel_rfl) dJ rfl (Src.sl (dJ.rd 3 rfl) (dJ.len 3 rfl) (by rfl)) (dJ.len 3 rfl) (by have := dJ.len 2 rfl; have := (dJ.len 3 rfl); omega) ?_
   intro A3 c2 y5 dB
   have gz := dB.bD (.s (.kk .z))
   refine aW 1 [] (.n 3 (sl A3 (l.length + 1) c2) (.kJ (.s .a))) qe (by kernel_rfl) ?_
   refine ag <| gm ?_
   exact EY left1.length (by have h_ := hp.length_eq; simp only [List.length_cons] at h_; omega) ⟨l ++ ([key] : List (List UInt8)), left1, (some (key, aC)), A3, _, c2, rfl, (by rw [List.append_assoc]; exact (List.Perm.append_left l (hp.map (·.1)).symm).trans hperm), gz.len 1 rfl, rfl, gz⟩ (by kernel_rfl)
theorem mF {F O : Nat → Prop} {w : World} (yC : Mp (Mp (Int × List UInt8))) (Hq : Nat) (k : Cx F O w w [MS (vM (vS (eP eI eS) (bT bP bQ))) Hq yC]) (r : (List (List UInt8))) (hm : dH yC = some r) :
    Calls Tryz.prog 44 (vals [.v (.map (some Hq))]) w (fun e w' => ∃ A n c, r.length = n ∧ e = .returned (SV.val (sl A n c)) ∧ Cx F O w w' [Ow eS A n c r, MS (vM (vS (eP eI eS) (bT bP bQ))) Hq yC]) := by
 unfold dH at hm
 refine calls [.v (.map (some Hq))] Tryz.func44 rfl (of_decide_eq_true (by kernel_rfl)) ?_
 refine af <| bg [] .a qe (by kernel_rfl) ?_
 refine ae <| af <| bg [] (.n 3 (sl none 0 0) .a) qe (by kernel_rfl) ?_
 refine ae <| af <| af <| ax <| aW 1 [] (.n 5 (.v (.map (some Hq))) (.k .z)) qe (by kernel_rfl) ?_
 refine ai <| xU (kt := 9) (e := 85) [] 6 (by kernel_rfl) k ?_
 intro r_ w_ k_
 refine ag <| ae <| aJ ?_
 obtain ⟨u, Ap, hm⟩ := ob hm
 have dK := k_.nil eS
 refine OI (fun QL L wr => ∃ (l : List (List UInt8)) (left : Mp (Mp (Int × List UInt8))) (cur : Option (Ky × (Mp (Int × List UInt8)))) (A0 : Option Addr) (n0 c0 : Nat), left.length = QL ∧ (l ++ left.map (·.1)).Perm (yC.map (·.1)) ∧ l.length = n0 ∧ L = [(3, sl A0 n0 c0), (6, .v (.pointer (some ⟨r_, 0, none⟩)))] ∧ Cx F O w wr [MV (vM (vS (eP eI eS) (bT bP bQ))) false Hq r_ yC left cur, Ow eS A0 n0 c0 l]) yC.length ⟨[], yC, none, none, 0, 0, rfl, List.Perm.refl _, rfl, rfl, dK⟩ (by kernel_rfl) ?_
 rintro kn L_ o9 ⟨l, left, cur, A0, _, c0, rfl, hperm, rfl, rfl, fF⟩
 refine af <| ax <| ai <| wE [] 7 (by kernel_rfl) fF (fun hl fM => ?_) (fun key aC left1 v sZ hp hnd g_ => ?_)
 ·
   have hp1 : l.Perm (yC.map (·.1)) := by have h_ := hperm; rw [hl, List.map_nil, List.append_nil] at h_; exact h_
   have gX := fM.KZ
   refine aW 1 [] (.n 8 (.b false) (.s (.k .z))) qe (by kernel_rfl) ?_
   refine ag <| ae <| af <| bC false (by kernel_rfl) (fun h => by cases h) (fun _ => ?_)
   refine dY (bU (bU (iL ?_)))
   refine ae <| af <| ax <| aW 1 [] (.n 15 (sl A0 l.length c0) (.s .a)) qe (by kernel_rfl) ?_
   refine ai <| ay [] 16 _ Ir (by kernel_rfl) (CV (i := 1) gX rfl (by have h1 := hp1.length_eq; have h2 := fK Ap; have h3 := gX.len 1 rfl; rw [List.length_map] at h1; omega)) ?_
   rintro e_ xk ⟨rfl, jb⟩
   rw [EZ hp1] at jb
   refine ⟨.jc [], rfl, ?_⟩
   refine ag <| ae <| af <| bg [] (.n 2 (sl A0 l.length c0) .z) qe (by kernel_rfl) ?_
   refine ae <| aN ?_
   obtain rfl := Option.some.inj hm
   refine aO [sl A0 l.length c0] qe (by kernel_rfl) ?_
   have jf := (jb.pk .h).pk (.t .h)
   exact ⟨A0, l.length, c0, jf.len 0 rfl, rfl, jf⟩
 ·
   refine aW 1 [] (.n 8 (.b true) (.s .a)) qe (by kernel_rfl) ?_
   refine ag <| ae <| af <| bC true (by kernel_rfl) (fun _ => ?_) (fun h => by cases h)
   refine aS <| ae <| aJ <| af <| ax <| ai <| Jb [] 9 (by kernel_rfl) g_ ?_
   intro b jQ
   refine aW 2 [] (.n 4 (.s key) (.ss .a)) qe (by kernel_rfl) ?_
   refine ag <| ae <| ax <| aW 2 [] (.n 11 (sl A0 l.length c0) (.n 12 (.s key) (.s .a))) qe (by kernel_rfl) ?_
   refine ai <| uA sN eS [] 13 ([key] : List (List UInt8)) [(0, .s key)] [.s key] (by kernel_rfl) (by kernel_rfl) (by kernel_rfl) jQ ?_
   intro A1 xB jS
   refine ai ?_
   have dJ := jS.bD (.bH .e)
   have hz : (l.length + ([key] : List (List UInt8)).length) * 16 ≤ 140737488355328 := by have h1 := hperm.length_eq; have h2 := hp.length_eq; have h3 := fK Ap; simp only [List.length_append, List.length_cons, List.length_nil, List.length_map] at *; omega
   refine dL (E := eS) (v := sl A1 1 1) (ys := ([key] : List (List UInt8))) sN [] 14 2 (by kernel_rfl) dJ rfl (Src.sl (dJ.rd 3 rfl) (dJ.len 3 rfl) (by rfl)) (dJ.len 3 rfl) (by have := dJ.len 2 rfl; have := (dJ.len 3 rfl); omega) ?_
   intro A2 c1 y5 dB
   have gz := dB.bD (.s (.kk .z))
   refine aW 1 [] (.n 3 (sl A2 (l.length + 1) c1) (.kJ (.s .a))) qe (by kernel_rfl) ?_
   refine ag <| gm ?_
   exact EY left1.length (by have h_ := hp.length_eq; simp only [List.length_cons] at h_; omega) ⟨l ++ ([key] : List (List UInt8)), left1, (some (key, aC)), A2, _, c1, rfl, (by rw [List.append_assoc]; exact (List.Perm.append_left l (hp.map (·.1)).symm).trans hperm), gz.len 1 rfl, rfl, gz⟩ (by kernel_rfl)
theorem y7 {F O : Nat → Prop} {w : World} (yC : Mp (Int × List UInt8)) (Hq : Nat) (k : Cx F O w w [Sh (RM (vS (eP eI eS) (bT bP bQ))) [Hq] [yC]]) (r : (List (List UInt8))) (hm : lC yC = some r) :
    Calls Tryz.prog 45 (vals [.v (.map (some Hq))]) w (fun e w' => ∃ A n c, r.length = n ∧ e = .returned (SV.val (sl A n c)) ∧ Cx F O w w' [Ow eS A n c r]) := by
 unfold lC at hm
 refine calls [.v (.map (some Hq))] Tryz.func45 rfl (of_decide_eq_true (by kernel_rfl)) ?_
 refine af <| bg [] .a qe (by kernel_rfl) ?_
 refine ae <| af <| bg [] (.n 3 (sl none 0 0) .a) qe (by kernel_rfl) ?_
 refine ae <| af <| af <| ax <| aW 1 [] (.n 5 (.v (.map (some Hq))) (.k .z)) qe (by kernel_rfl) ?_
 refine ai <| KY (kt := 9) (e := 99) (v := (vS (eP eI eS) (bT bP bQ))) (m := yC) [] 6 0 (by kernel_rfl) k rfl ?_
 intro r_ w_ k_
 refine ag <| ae <| aJ ?_
 obtain ⟨u, Ap, hm⟩ := ob hm
 have dK := k_.nil eS
 have fM := dK.bD (.k (.s (.k .e)))
 refine OI (fun QL L wr => ∃ (l : List (List UInt8)) (left : Mp (Int × List UInt8)) (cur : Option (Ky × (Int × List UInt8))) (A0 : Option Addr) (n0 c0 : Nat), left.length = QL ∧ (l ++ left.map (·.1)).Perm (yC.map (·.1)) ∧ l.length = n0 ∧ L = [(3, sl A0 n0 c0), (6, .v (.pointer (some ⟨r_, 0, none⟩)))] ∧ Cx F O w wr [MV (vS (eP eI eS) (bT bP bQ)) true Hq r_ yC left cur, Ow eS A0 n0 c0 l]) yC.length ⟨[], yC, none, none, 0, 0, rfl, List.Perm.refl _, rfl, rfl, fM⟩ (by kernel_rfl) ?_
 rintro kn L_ o9 ⟨l, left, cur, A0, _, c0, rfl, hperm, rfl, rfl, fF⟩
 refine af <| ax <| ai <| wE [] 7 (by kernel_rfl) fF (fun hl g_ => ?_) (fun key aC left1 v sZ hp hnd gX => ?_)
 ·
   have hp1 : l.Perm (yC.map (·.1)) := by have h_ := hperm; rw [hl, List.map_nil, List.append_nil] at h_; exact h_
   have jb := g_.tl
   refine aW 1 [] (.n 8 (.b false) (.s (.k .z))) qe (by kernel_rfl) ?_
   refine ag <| ae <| af <| bC false (by kernel_rfl) (fun h => by cases h) (fun _ => ?_)
   refine dY (bU (bU (iL ?_)))
   refine ae <| af <| ax <| aW 1 [] (.n 15 (sl A0 l.length c0) (.s .a)) qe (by kernel_rfl) ?_
   refine ai <| ay [] 16 _ Ir (by kernel_rfl) (CV (i := 0) jb rfl (by have h1 := hp1.length_eq; have h2 := fK Ap; have h3 := jb.len 0 rfl; rw [List.length_map] at h1; omega)) ?_
   rintro e_ xk ⟨rfl, jf⟩
   rw [EZ hp1] at jf
   refine ⟨.jc [], rfl, ?_⟩
   refine ag <| ae <| af <| bg [] (.n 2 (sl A0 l.length c0) .z) qe (by kernel_rfl) ?_
   refine ae <| aN ?_
   obtain rfl := Option.some.inj hm
   refine aO [sl A0 l.length c0] qe (by kernel_rfl) ?_
   exact ⟨A0, l.length, c0, jf.len 0 rfl, rfl, jf⟩
 ·
   refine aW 1 [] (.n 8 (.b true) (.s .a)) qe (by kernel_rfl) ?_
   refine ag <| ae <| af <| bC true (by kernel_rfl) (fun _ => ?_) (fun h => by cases h)
   refine aS <| ae <| aJ <| af <| ax <| ai <| Gn (v := (vS (eP eI eS) (bT bP bQ))) rfl [] 9 (.agg [I aC.1, .s aC.2]) (by kernel_rfl) gX rfl ?_
   refine aW 2 [] (.n 4 (.s key) (.ss .a)) qe (by kernel_rfl) ?_
   refine ag <| ae <| ax <| aW 2 [] (.n 11 (sl A0 l.length c0) (.n 12 (.s key) (.s .a))) qe (by kernel_rfl) ?_
   refine ai <| uA sN eS [] 13 ([key] : List (List UInt8)) [(0, .s key)] [.s key] (by kernel_rfl) (by kernel_rfl) (by kernel_rfl) gX ?_
   intro A1 xB jQ
   refine ai ?_
   have jS := jQ.bD (.kk (.k .e))
   have hz : (l.length + ([key] : List (List UInt8)).length) * 16 ≤ 140737488355328 := by have h1 := hperm.length_eq; have h2 := hp.length_eq; have h3 := fK Ap; simp only [List.length_append, List.length_cons, List.length_nil, List.length_map] at *; omega
   refine dL (E := eS) (v := sl A1 1 1) (ys := ([key] : List (List UInt8))) sN [] 14 1 (by kernel_rfl) jS rfl (Src.sl (jS.rd 2 rfl) (jS.len 2 rfl) (by rfl)) (jS.len 2 rfl) (by have := jS.len 1 rfl; have := (jS.len 2 rfl); omega) ?_
   intro A2 c1 y5 dJ
   have dB := dJ.bD (.kk .z)
   refine aW 1 [] (.n 3 (sl A2 (l.length + 1) c1) (.kJ (.s .a))) qe (by kernel_rfl) ?_
   refine ag <| gm ?_
   exact EY left1.length (by have h_ := hp.length_eq; simp only [List.length_cons] at h_; omega) ⟨l ++ ([key] : List (List UInt8)), left1, (some (key, aC)), A2, _, c1, rfl, (by rw [List.append_assoc]; exact (List.Perm.append_left l (hp.map (·.1)).symm).trans hperm), dB.len 1 rfl, rfl, dB⟩ (by kernel_rfl)
theorem kW {F O : Nat → Prop} {w : World} (aY : Int) (ah : Mp (List UInt8)) (aj : Mp (Mp (Int × List UInt8))) (eU : Nat) (ak : Nat) (au : Nat) (k : Cx F O w w [Bx 82 eU [I aY, .v (.map (some ak)), .v (.map (some au))], MS (vH e8) ak ah, MS (vM (vS (eP eI eS) (bT bP bQ))) au aj]) (r : (List UInt8 × Int)) (hm : dX aY ah aj = some r) :
    Calls Tryz.prog 11 (vals [pt eU 0]) w (fun e w' => ∃ A n c, r.1.length = n ∧ e = .returned (SV.val (sl A n c)) ∧ Cx F O w w' [Ow e8 A n c r.1, Bx 82 eU [I r.2, .v (.map (some ak)), .v (.map (some au))], MS (vH e8) ak ah, MS (vM (vS (eP eI eS) (bT bP bQ))) au aj]) := by
 unfold dX at hm
 refine calls [pt eU 0] Tryz.func11 rfl (of_decide_eq_true (by kernel_rfl)) ?_
 refine af <| bg [] .a qe (by kernel_rfl) ?_
 refine ae <| af <| af <| ax <| aW 1 [] (.n 12 (pt eU 0) .a) qe (by kernel_rfl) ?_
 refine ai ?_
 obtain ⟨r_, dV, hm⟩ := ob hm
 obtain ⟨F1, O1, kin, hO, hre, hF, hb⟩ := k.go (.i (.i (.i .e)))
 refine ay [] 13 _ Am (by kernel_rfl) (jI (F := F1) (O := O1) _ _ _ _ _ _ kin _ dV) ?_
 rintro e_ w_ ⟨rfl, k_⟩
 have dK := hb w_ _ _ k_ (.c (.c (.c .n)))
 refine ⟨.b false, rfl, ?_⟩
 refine ag <| ae <| bC false (by kernel_rfl) (fun h => by cases h) (fun _ => ?_)
 refine aS <| ae <| af <| ax <| aW 5 [] (.n 18 (.u8 (UInt8.ofInt r_)) (.ss .a)) (qs eU 0 <| qs eU 0 <| qB dK 0 rfl 0 (I r_) (by kernel_rfl) <| qe) (by kernel_rfl) ?_
 refine ai <| uA dW e8 [] 19 ([(68 : UInt8), (81 : UInt8), (1 : UInt8), UInt8.ofInt r_] : List UInt8) [(0, .u8 68), (1, .u8 81), (2, .u8 1), (3, .u8 (UInt8.ofInt r_))] [.u8 68, .u8 81, .u8 1, .u8 (UInt8.ofInt r_)] (by kernel_rfl) (by kernel_rfl) (by kernel_rfl) dK ?_
 intro A0 o9 fF
 refine aW 1 [] (.n 3 (sl A0 4 4) (.ss .a)) qe (by kernel_rfl) ?_
 refine ag <| ae <| af <| ax <| aW 5 [] (.n 20 (sl A0 4 4) (.n 24 (.v (.map (some ak))) .a)) (qs eU 0 <| qs eU 0 <| qB fF 0 rfl 1 (.v (.map (some ak))) (by kernel_rfl) <| qe) (by kernel_rfl) ?_
 refine ai ?_
 have fM := (((fF.pk (.t (.t (.t .h)))).pk (.t (.t (.t .h)))).pk (.t (.t .h))).pk (.t (.t (.t .h)))
 refine E_ (kt := 9) (e := 22) (v := (vH e8)) (m := ah) [] 25 (by kernel_rfl) fM.acc ?_
 refine ai ?_
 obtain ⟨aQ, fG, hm⟩ := ob hm
 refine ay [] 26 _ FB (by kernel_rfl) (vg (F := N0) (O := N0) _ (Cx.refl _) _ fG) ?_
 rintro e_ sZ ⟨A1, _, c0, rfl, rfl, g_⟩
 have gX := fM.call g_
 refine ⟨sl A1 aQ.length c0, rfl, ?_⟩
 refine ai ?_
 have jb := gX.bD (.bH (.k .e))
 obtain ⟨b, sO, hm⟩ := ob hm
 obtain ⟨hz, hl⟩ := fO sO
 refine dL (E := e8) (v := sl A1 aQ.length c0) (ys := aQ) dW [] 27 3 (by kernel_rfl) jb rfl (Src.sl (jb.rd 4 rfl) (jb.len 4 rfl) (by rfl)) (jb.len 4 rfl) (by have := jb.len 3 rfl; have := (jb.len 4 rfl); omega) ?_
 intro A2 c1 xk jf
 rw [← hl] at jf
 have jQ := jf.bD (.bH .z)
 refine aW 1 [] (.n 3 (sl A2 (4 + aQ.length) c1) (.kJ (.ss .a))) qe (by kernel_rfl) ?_
 refine ag <| ae <| af <| af <| ax <| aW 4 [] (.n 31 (.v (.map (some ak))) .a) (qs eU 0 <| qs eU 0 <| qB jQ 1 rfl 1 (.v (.map (some ak))) (by kernel_rfl) <| qe) (by kernel_rfl) ?_
 refine ai ?_
 obtain ⟨bI, kz, hm⟩ := ob hm
 obtain ⟨F11, H7, wX, TU, Gx, hF1, hb1⟩ := jQ.go (.i (.r (.r (.r .e))))
 refine ay [] 32 _ XZ (by kernel_rfl) (FK (F := F11) (O := H7) _ _ wX _ kz) ?_
 rintro e_ xB ⟨A3, _, c2, rfl, rfl, jS⟩
 have dJ := hb1 xB _ _ jS (.c (.c .n))
 refine ⟨sl A3 bI.length c2, rfl, ?_⟩
 refine aW 2 [] (.n 33 (I ((bI.length : Nat) : Int)) (.n 34 (I 0) (.k (.s .a)))) qe (by kernel_rfl) ?_
 refine ag <| ae <| aJ ?_
 have gz := ((((dJ.pk .h).pk (.t (.t (.t (.t .h))))).pk (.t (.t (.t (.t .h))))).pk (.t (.t (.t .h)))).pk (.t (.t (.t (.t .h))))
 refine pg (jr ah aj r_ bI) (fun s L wr => ∃ (b1 : List UInt8) (aC : Int) (A4 : Option Addr) (n0 : Nat) (c3 : Nat), (b1, aC) = s ∧ L = [(0, pt eU 0), (3, sl A4 n0 c3), (32, sl A3 bI.length c2), (33, I ((bI.length : Nat) : Int)), (34, I aC)] ∧ b1.length = n0 ∧ Cx F O w wr [Bx 82 eU [I r_, .v (.map (some ak)), .v (.map (some au))], MS (vH e8) ak ah, MS (vM (vS (eP eI eS) (bT bP bQ))) au aj, Ow e8 A4 n0 c3 b1, Ow eS A3 bI.length c2 bI]) (b, (0 : Int)) r hm ⟨b, (0 : Int), A2, 4 + aQ.length, c1, rfl, rfl, gz.len 3 rfl, gz⟩ (by kernel_rfl) ?_
 intro BU L_ y5 y0 hrel hstep hr0
 obtain ⟨b1, aC, A4, _, c3, rfl, rfl, rfl, dB⟩ := hrel
 have hm := hstep; simp only [jr] at hm
 clear hstep
 refine af <| bg [] (.n 35 (.b (decide (aC < ((bI.length : Nat) : Int)))) .a) qe (by kernel_rfl) ?_
 refine ae <| af <| aZ (aC < ((bI.length : Nat) : Int)) (by kernel_rfl) (fun hc => ?_) (fun hc => ?_)
 · rw [if_pos hc] at hm
   refine aS <| ae <| af <| aJ <| af ?_
   obtain ⟨bY, jk, hm⟩ := ob hm
   refine bg [] (.n 5 (.s bY) (.s .a)) (qW (dB.rd 4 rfl) jk (dB.len 4 rfl) (.s bY) rfl <| qe) (by kernel_rfl) ?_
   refine ae <| af <| ax <| aW 5 [] (.n 41 (.v (.map (some ak))) (.n 42 (.s bY) (.s .a))) (qs eU 0 <| qs eU 0 <| qB dB 0 rfl 1 (.v (.map (some ak))) (by kernel_rfl) <| qe) (by kernel_rfl) ?_
   refine ai ?_
   have iI := ((((dB.pk (.t (.t (.t (.t .h))))).pk (.t (.t (.t (.t .h))))).pk (.t (.t (.t (.t .h))))).pk (.t (.t (.t .h)))).pk (.t (.t (.t (.t .h))))
   refine TM (kt := 9) (e := 22) (E := e8) (m := ah) (key := bY) [] 43 (by kernel_rfl) (by kernel_rfl) iI.acc (fun hf => ?_) (fun A5 c4 dN hf1 iJ => ?_)
   · simp only [hf, Option.elim_none] at hm
     cases hm
   · simp only [hf1, Option.elim_some] at hm
     refine aW 1 [] (.n 6 (sl A5 dN.length c4) (.nG .a)) qe (by kernel_rfl) ?_
     refine ag <| ae <| af <| ax <| aW 8 [] (.n 44 (sl A4 b1.length c3) (.n 47 (.u8 (UInt8.ofInt ((dN.length : Nat) : Int))) (.n 51 (.u8 (UInt8.ofInt (J4 .i64 ((dN.length : Nat) : Int) ((8 : UInt64).toNat)))) .a))) qe (by kernel_rfl) ?_
     refine ai <| uA dW e8 [] 52 ([UInt8.ofInt ((dN.length : Nat) : Int), UInt8.ofInt (J4 .i64 ((dN.length : Nat) : Int) ((8 : UInt64).toNat))] : List UInt8) [(0, .u8 (UInt8.ofInt ((dN.length : Nat) : Int))), (1, .u8 (UInt8.ofInt (J4 .i64 ((dN.length : Nat) : Int) ((8 : UInt64).toNat))))] [.u8 (UInt8.ofInt ((dN.length : Nat) : Int)), .u8 (UInt8.ofInt (J4 .i64 ((dN.length : Nat) : Int) ((8 : UInt64).toNat)))] (by kernel_rfl) (by kernel_rfl) (by kernel_rfl) iJ ?_
     intro A6 CW iK
     refine ai ?_
     obtain ⟨b2, Gy, hm⟩ := ob hm
     obtain ⟨hz1, hl1⟩ := fO Gy
     refine dL (E := e8) (v := sl A6 2 2) (ys := ([UInt8.ofInt ((dN.length : Nat) : Int), UInt8.ofInt (J4 .i64 ((dN.length : Nat) : Int) ((8 : UInt64).toNat))] : List UInt8)) dW [] 53 4 (by kernel_rfl) iK rfl (Src.sl (iK.rd 6 rfl) (iK.len 6 rfl) (by rfl)) (iK.len 6 rfl) (by have := iK.len 4 rfl; have := (iK.len 6 rfl); omega) ?_
     intro A7 c5 Du iG
     rw [← hl1] at iG
     have je := iG.bD (.bH (.kk .z))
     refine aW 1 [] (.n 3 (sl A7 (b1.length + 2) c5) (.kJ (.s (.kk (.s .a))))) qe (by kernel_rfl) ?_
     refine ag <| ae <| ax <| aW 2 [] (.n 54 (sl A7 (b1.length + 2) c5) (.n 55 (sl A5 dN.length c4) (.k (.s .a)))) qe (by kernel_rfl) ?_
     refine ai ?_
     obtain ⟨b3, H8, hm⟩ := ob hm
     obtain ⟨hz2, hl2⟩ := fO H8
     refine dL (E := e8) (v := sl A5 dN.length c4) (ys := dN) dW [] 56 4 (by kernel_rfl) je rfl (Src.sl (je.J7 0 rfl) (je.ig 0 rfl) (by rfl)) (je.ig 0 rfl) (by have := je.len 4 rfl; have := (je.ig 0 rfl); omega) ?_
     intro A8 c6 Jn ku
     rw [← hl2] at ku
     have oq := ku.bD (.s (.bH (.k .e)))
     refine aW 1 [] (.n 3 (sl A8 (b1.length + 2 + dN.length) c6) (.kJ .a)) qe (by kernel_rfl) ?_
     refine ag <| gm <| ae <| bg [] (.n 34 (I (aI (aC + 1))) (.bH .z)) qe (by kernel_rfl) ?_
     have jL := ((((oq.pk (.t (.t (.t (.t .h))))).pk (.t (.t (.t (.t .h))))).pk (.t (.t (.t (.t .h))))).pk (.t (.t (.t .h)))).pk (.t (.t (.t (.t .h))))
     exact jU (b3, aI (aC + 1)) (Option.some.inj hm).symm ⟨b3, aI (aC + 1), A8, b1.length + 2 + dN.length, c6, rfl, rfl, jL.len 3 rfl, jL⟩ (by kernel_rfl)
 rw [if_neg hc] at hm
 refine dY (bU (bU (iL ?_)))
 have hm := cO hm hr0
 refine ae <| af <| ax <| aW 5 [] (.n 58 (sl A4 b1.length c3) (.n 62 (.v (.map (some au))) (.s (.kk .z)))) (qs eU 0 <| qs eU 0 <| qB dB 0 rfl 2 (.v (.map (some au))) (by kernel_rfl) <| qe) (by kernel_rfl) ?_
 refine ai ?_
 have mQ := ((((dB.pk (.t (.t (.t (.t .h))))).pk (.t (.t (.t (.t .h))))).pk (.t (.t (.t .h)))).pk (.t (.t (.t .h)))).pk (.t (.t (.t (.t .h))))
 refine E_ (kt := 9) (e := 85) (v := (vM (vS (eP eI eS) (bT bP bQ)))) (m := aj) [] 63 (by kernel_rfl) mQ.acc ?_
 refine ai ?_
 obtain ⟨ja, vk, hm⟩ := ob hm
 refine ay [] 64 _ FB (by kernel_rfl) (vg (F := N0) (O := N0) _ (Cx.refl _) _ vk) ?_
 rintro e_ JW ⟨A9, _, c7, rfl, rfl, oM⟩
 have oN := mQ.call oM
 refine ⟨sl A9 ja.length c7, rfl, ?_⟩
 have ni := oN.bD (.bH (.s (.k .e)))
 refine ai ?_
 obtain ⟨b4, Et, hm⟩ := ob hm
 obtain ⟨hz3, hl3⟩ := fO Et
 refine dL (E := e8) (v := sl A9 ja.length c7) (ys := ja) dW [] 65 3 (by kernel_rfl) ni rfl (Src.sl (ni.rd 4 rfl) (ni.len 4 rfl) (by rfl)) (ni.len 4 rfl) (by have := ni.len 3 rfl; have := (ni.len 4 rfl); omega) ?_
 intro QM c8 BV nY
 rw [← hl3] at nY
 have pM := nY.bD (.bH .z)
 refine aW 1 [] (.n 3 (sl QM (b1.length + ja.length) c8) (.kJ (.s (.k .z)))) qe (by kernel_rfl) ?_
 refine ag <| ae <| af <| af <| ax <| aW 4 [] (.n 69 (.v (.map (some au))) .a) (qs eU 0 <| qs eU 0 <| qB pM 1 rfl 2 (.v (.map (some au))) (by kernel_rfl) <| qe) (by kernel_rfl) ?_
 refine ai ?_
 obtain ⟨iO, wY, hm⟩ := ob hm
 obtain ⟨TV, TW, Gz, hO2, TY, hF2, hb2⟩ := pM.go (.i (.r (.r (.r .e))))
 refine ay [] 70 _ Si (by kernel_rfl) (mF (F := TV) (O := TW) _ _ Gz _ wY) ?_
 rintro e_ Dv ⟨Nq, _, c9, rfl, rfl, ve⟩
 have qH := hb2 Dv _ _ ve (.c (.c .n))
 refine ⟨sl Nq iO.length c9, rfl, ?_⟩
 refine aW 2 [] (.n 71 (I ((iO.length : Nat) : Int)) (.n 72 (I 0) (.k (.s .a)))) qe (by kernel_rfl) ?_
 refine ag <| ae <| aJ ?_
 have uu := ((((qH.pk .h).pk (.t (.t (.t (.t .h))))).pk (.t (.t .h))).pk (.t (.t (.t (.t .h))))).pk (.t (.t (.t (.t .h))))
 refine pg (jq aj r_ iO) (fun s L wr => ∃ (b5 : List UInt8) (iy : Int) (Nr : Option Addr) (n1 : Nat) (c10 : Nat), (b5, iy) = s ∧ L = [(0, pt eU 0), (3, sl Nr n1 c10), (70, sl Nq iO.length c9), (71, I ((iO.length : Nat) : Int)), (72, I iy)] ∧ b5.length = n1 ∧ Cx F O w wr [Bx 82 eU [I r_, .v (.map (some ak)), .v (.map (some au))], MS (vH e8) ak ah, MS (vM (vS (eP eI eS) (bT bP bQ))) au aj, Ow e8 Nr n1 c10 b5, Ow eS Nq iO.length c9 iO]) (b4, (0 : Int)) r hm ⟨b4, (0 : Int), QM, b1.length + ja.length, c8, rfl, rfl, uu.len 3 rfl, uu⟩ (by kernel_rfl) ?_
 intro BU L_ GG y0 hrel hstep hr0
 obtain ⟨b5, iy, Nr, _, c10, rfl, rfl, rfl, uq⟩ := hrel
 have hm := hstep; simp only [jq] at hm
 clear hstep
 refine af <| bg [] (.n 73 (.b (decide (iy < ((iO.length : Nat) : Int)))) .a) qe (by kernel_rfl) ?_
 refine ae <| af <| aZ (iy < ((iO.length : Nat) : Int)) (by kernel_rfl) (fun hc1 => ?_) (fun hc1 => ?_)
 · rw [if_pos hc1] at hm
   refine aS <| ae <| af <| aJ <| af ?_
   obtain ⟨iR, oW, hm⟩ := ob hm
   refine bg [] (.n 8 (.s iR) (.s .a)) (qW (uq.rd 4 rfl) oW (uq.len 4 rfl) (.s iR) rfl <| qe) (by kernel_rfl) ?_
   refine ae <| af <| ax <| aW 4 [] (.n 76 (sl Nr b5.length c10) (.n 79 (.u8 (UInt8.ofInt (iR.length : Int))) .a)) qe (by kernel_rfl) ?_
   refine ai <| uA dW e8 [] 80 ([UInt8.ofInt (iR.length : Int)] : List UInt8) [(0, .u8 (UInt8.ofInt (iR.length : Int)))] [.u8 (UInt8.ofInt (iR.length : Int))] (by kernel_rfl) (by kernel_rfl) (by kernel_rfl) uq ?_
   intro A13 QN zH
   refine ai ?_
   obtain ⟨b6, h_b6, hm⟩ := ob hm
   obtain ⟨hz4, hl4⟩ := fO h_b6
   refine dL (E := e8) (v := sl A13 1 1) (ys := ([UInt8.ofInt (iR.length : Int)] : List UInt8)) dW [] 81 3 (by kernel_rfl) zH rfl (Src.sl (zH.rd 5 rfl) (zH.len 5 rfl) (by rfl)) (zH.len 5 rfl) (by have := zH.len 3 rfl; have := (zH.len 5 rfl); omega) ?_
   intro A14 c11 Pj GH
   rw [← hl4] at GH
   have Dw := GH.bD (.bH (.k .z))
   refine aW 1 [] (.n 82 (.s iR) (.k (.nG (.kk (.s .a))))) qe (by kernel_rfl) ?_
   refine ai ?_
   obtain ⟨b7, h_b7, hm⟩ := ob hm
   obtain ⟨hz5, hl5⟩ := fO h_b7
   refine dL (E := e8) (v := .s iR) (ys := iR) dW [] 83 3 (by kernel_rfl) Dw rfl (Src.str iR) rfl (by have := Dw.len 3 rfl; have := hm; omega) ?_
   intro A15 c12 TZ FM
   rw [← hl5] at FM
   refine aW 1 [] (.n 3 (sl A15 (b5.length + 1 + iR.length) c12) (.nG .a)) qe (by kernel_rfl) ?_
   refine ag <| ae <| af <| ax <| aW 5 [] (.n 87 (.v (.map (some au))) (.n 88 (.s iR) (.k (.s .a)))) (qs eU 0 <| qs eU 0 <| qB FM 0 rfl 2 (.v (.map (some au))) (by kernel_rfl) <| qe) (by kernel_rfl) ?_
   refine ai ?_
   have Jo := ((((FM.pk (.t (.t (.t (.t .h))))).pk (.t (.t (.t (.t .h))))).pk (.t (.t (.t .h)))).pk (.t (.t (.t .h)))).pk (.t (.t (.t (.t .h))))
   refine TN (kt := 9) (e := 85) (v := (vS (eP eI eS) (bT bP bQ))) (m := aj) (key := iR) [] 89 (by kernel_rfl) (by kernel_rfl) Jo.acc (fun hf2 => ?_) (fun b8 qw hf3 H9 => ?_)
   · simp only [hf2, Option.elim_none] at hm
     cases hm
   · simp only [hf3, Option.elim_some] at hm
     refine aW 1 [] (.n 9 (.v (.map (some b8))) (.nG .a)) qe (by kernel_rfl) ?_
     refine ag <| ae <| af <| ax <| aW 2 [] (.n 90 (sl A15 (b5.length + 1 + iR.length) c12) (.n 91 (.v (.map (some b8))) .a)) qe (by kernel_rfl) ?_
     refine ai ?_
     have H_ := H9.bD (.bH (.kk .e))
     refine E_ (kt := 9) (e := 99) (v := (vS (eP eI eS) (bT bP bQ))) (m := qw) [] 92 (by kernel_rfl) (H_.TK 0 rfl) ?_
     refine ai ?_
     obtain ⟨nJ, BX, hm⟩ := ob hm
     refine ay [] 93 _ FB (by kernel_rfl) (vg (F := N0) (O := N0) _ (Cx.refl _) _ BX) ?_
     rintro e_ X7 ⟨A16, _, c13, rfl, rfl, GI⟩
     have qK := H_.call GI
     refine ⟨sl A16 nJ.length c13, rfl, ?_⟩
     refine ai ?_
     obtain ⟨b9, h_b9, hm⟩ := ob hm
     obtain ⟨hz6, hl6⟩ := fO h_b9
     refine dL (E := e8) (v := sl A16 nJ.length c13) (ys := nJ) dW [] 94 4 (by kernel_rfl) qK rfl (Src.sl (qK.rd 6 rfl) (qK.len 6 rfl) (by rfl)) (qK.len 6 rfl) (by have := qK.len 4 rfl; have := (qK.len 6 rfl); omega) ?_
     intro A17 c14 V6 GK
     rw [← hl6] at GK
     have Ns := GK.bD (.bH (.kk .z))
     refine aW 1 [] (.n 3 (sl A17 (b5.length + 1 + iR.length + nJ.length) c14) (.kJ (.s (.k (.s .a))))) qe (by kernel_rfl) ?_
     refine ag <| ae <| af <| ax <| aW 1 [] (.n 95 (.v (.map (some b8))) .a) qe (by kernel_rfl) ?_
     refine ai ?_
     have Jp := Ns.l7 0 rfl
     obtain ⟨ug, FN, hm⟩ := ob hm
     obtain ⟨X8, X9, Kq, hO3, V7, hF3, hb3⟩ := Jp.go (.i (.r (.r (.r (.r (.r (.r .e)))))))
     refine ay [] 96 _ X0 (by kernel_rfl) (y7 (F := X8) (O := X9) _ _ Kq _ FN) ?_
     rintro e_ X_ ⟨A18, _, c15, rfl, rfl, Kr⟩
     have Nu := hb3 X_ _ _ Kr (.c .n)
     refine ⟨sl A18 ug.length c15, rfl, ?_⟩
     refine aW 2 [] (.n 97 (I ((ug.length : Nat) : Int)) (.n 98 (I 0) (.k (.s .a)))) qe (by kernel_rfl) ?_
     refine ag <| ae <| aJ ?_
     have Kt := Nu.l7 1 rfl
     have Ku := (((((((Kt.pk (.t .h)).pk (.t (.t (.t (.t (.t (.t (.t .h)))))))).pk (.t (.t .h))).pk (.t (.t (.t (.t (.t (.t (.t .h)))))))).pk (.t (.t (.t (.t (.t .h)))))).pk (.t (.t (.t (.t (.t (.t (.t .h)))))))).pk (.t (.t (.t (.t (.t (.t (.t .h)))))))).bD (.bH (.kk (.k .z)))
     refine pg (jo r_ iy qw ug) (fun s L wr => ∃ (b10 : List UInt8) (kK : Int) (A19 : Option Addr) (n2 : Nat) (c16 : Nat), (b10, kK) = s ∧ L = [(0, pt eU 0), (3, sl A19 n2 c16), (9, .v (.map (some b8))), (70, sl Nq iO.length c9), (71, I ((iO.length : Nat) : Int)), (72, I iy), (96, sl A18 ug.length c15), (97, I ((ug.length : Nat) : Int)), (98, I kK)] ∧ b10.length = n2 ∧ Cx F O w wr [Bx 82 eU [I r_, .v (.map (some ak)), .v (.map (some au))], MS (vH e8) ak ah, MS (vM (vS (eP eI eS) (bT bP bQ))) au aj, Ow e8 A19 n2 c16 b10, Sh (RM (vS (eP eI eS) (bT bP bQ))) [b8] [qw], Ow eS Nq iO.length c9 iO, Ow eS A18 ug.length c15 ug]) (b9, (0 : Int)) y0 hm ⟨b9, (0 : Int), A17, b5.length + 1 + iR.length + nJ.length, c14, rfl, rfl, Ku.len 3 rfl, Ku⟩ (by kernel_rfl) ?_
     intro s1_ L_ Ya y1 hrel hstep hr1
     obtain ⟨b10, kK, A19, _, c16, rfl, rfl, rfl, GL⟩ := hrel
     have hm := hstep; simp only [jo] at hm
     clear hstep
     refine af <| bg [] (.n 99 (.b (decide (kK < ((ug.length : Nat) : Int)))) .a) qe (by kernel_rfl) ?_
     refine ae <| af <| aZ (kK < ((ug.length : Nat) : Int)) (by kernel_rfl) (fun hc2 => ?_) (fun hc2 => ?_)
     · rw [if_pos hc2] at hm
       refine aS <| ae <| af <| aJ <| af ?_
       obtain ⟨lh, yS, hm⟩ := ob hm
       refine bg [] (.n 11 (.s lh) (.s .a)) (qW (GL.rd 6 rfl) yS (GL.len 6 rfl) (.s lh) rfl <| qe) (by kernel_rfl) ?_
       refine ae <| af <| ax <| aW 4 [] (.n 102 (sl A19 b10.length c16) (.n 105 (.u8 (UInt8.ofInt (lh.length : Int))) .a)) qe (by kernel_rfl) ?_
       refine ai <| uA dW e8 [] 106 ([UInt8.ofInt (lh.length : Int)] : List UInt8) [(0, .u8 (UInt8.ofInt (lh.length : Int)))] [.u8 (UInt8.ofInt (lh.length : Int))] (by kernel_rfl) (by kernel_rfl) (by kernel_rfl) GL ?_
       intro A20 Yb Eu
       refine ai ?_
       obtain ⟨b11, h_b11, hm⟩ := ob hm
       obtain ⟨hz7, hl7⟩ := fO h_b11
       refine dL (E := e8) (v := sl A20 1 1) (ys := ([UInt8.ofInt (lh.length : Int)] : List UInt8)) dW [] 107 3 (by kernel_rfl) Eu rfl (Src.sl (Eu.rd 7 rfl) (Eu.len 7 rfl) (by rfl)) (Eu.len 7 rfl) (by have := Eu.len 3 rfl; have := (Eu.len 7 rfl); omega) ?_
       intro A21 c17 w_21 Dx
       rw [← hl7] at Dx
       have FO := Dx.bD (.bH (.kk (.k .z)))
       refine aW 1 [] (.n 108 (.s lh) (.k (.nG (.kk (.s .a))))) qe (by kernel_rfl) ?_
       refine ai ?_
       obtain ⟨b12, h_b12, hm⟩ := ob hm
       obtain ⟨hz8, hl8⟩ := fO h_b12
       refine dL (E := e8) (v := .s lh) (ys := lh) dW [] 109 3 (by kernel_rfl) FO rfl (Src.str lh) rfl (by have := FO.len 3 rfl; have := hm; omega) ?_
       intro A22 c18 w_22 Ia
       rw [← hl8] at Ia
       refine aW 1 [] (.n 3 (sl A22 (b10.length + 1 + lh.length) c18) (.nG .a)) qe (by kernel_rfl) ?_
       refine ag <| ae <| af <| ax <| aW 3 [] (.n 110 (sl A22 (b10.length + 1 + lh.length) c18) (.n 111 (.v (.map (some b8))) (.n 112 (.s lh) .a))) qe (by kernel_rfl) ?_
       refine ai ?_
       obtain ⟨e_, h_e_, hm⟩ := nm hm
       refine zo (kt := 9) (e := 99) (v := (vS (eP eI eS) (bT bP bQ))) (m := qw) (key := lh) rfl [] 113 ((0 : Int), ([] : List UInt8)) (.agg [I e_.1, .s e_.2]) (by kernel_rfl) (by kernel_rfl) (Ia.TK 4 rfl) (by rw [h_e_]; rfl) ?_
       refine aW 1 [] (.n 114 (I e_.1) (.s (.k (.ss .a)))) qe (by kernel_rfl) ?_
       refine ai ?_
       have Ew := Ia.bD (.bH (.kk (.k .e)))
       obtain ⟨Gf, Jq, hm⟩ := ob hm
       refine ay [] 115 _ FB (by kernel_rfl) (vg (F := N0) (O := N0) _ (Cx.refl _) _ Jq) ?_
       rintro e_ w_23 ⟨A23, _, c19, rfl, rfl, Nv⟩
       have Dy := Ew.call Nv
       refine ⟨sl A23 Gf.length c19, rfl, ?_⟩
       refine ai ?_
       obtain ⟨b13, h_b13, hm⟩ := ob hm
       obtain ⟨hz9, hl9⟩ := fO h_b13
       refine dL (E := e8) (v := sl A23 Gf.length c19) (ys := Gf) dW [] 116 3 (by kernel_rfl) Dy rfl (Src.sl (Dy.rd 7 rfl) (Dy.len 7 rfl) (by rfl)) (Dy.len 7 rfl) (by have := Dy.len 3 rfl; have := (Dy.len 7 rfl); omega) ?_
       intro A24 c20 w_24 Ic
       rw [← hl9] at Ic
       have QO := Ic.bD (.bH (.kk (.k .z)))
       refine aW 1 [] (.n 3 (sl A24 (b10.length + 1 + lh.length + Gf.length) c20) (.kJ (.s .a))) qe (by kernel_rfl) ?_
       refine ag <| ae <| af ?_
       have Kv := QO.drew 1
       refine xQ bG (.q 0 2 (.q 1 2 (.q 2 2 (.q 6 3 (.q 7 3 (.q 8 3 (.q 9 2 (.op 3 (.q 4 3 (.q 5 2 (.q 10 1 (.op 11 (.op 12 (.q 13 3 .nil)))))))))))))) [3, 11, 12] Kv (.c (.bH (.kk (.k .e))) (.c (.bH (.kk (.k .e))) (.c (.kk (.k (.s (.kk (.k .e))))) .l))) (by kernel_rfl) (fun _ => ?_)
       refine dG 3 2 [] (.n 117 (sl A24 (b10.length + 1 + lh.length + Gf.length) c20) (.n 118 (.v (.map (some b8))) (.n 119 (.s lh) .a))) (fun x hx => qe) (by kernel_rfl) (fun _ => ?_)
       refine dG 3 3 [] (.n 125 (pt eU 0) .a) (fun x hx => qs eU 0 <| qs eU 0 <| qe) (by kernel_rfl) (fun _ => ?_)
       refine dG 1 2 [] (.n 126 (I r_) (.s .a)) (fun x hx => qB hx 0 rfl 0 (I r_) (by kernel_rfl) <| qe) (by kernel_rfl) (fun _ => ?_)
       refine dw (by kernel_rfl) rfl ?_
       obtain ⟨OU, h_e_1, hm⟩ := nm hm
       refine zo (kt := 9) (e := 99) (v := (vS (eP eI eS) (bT bP bQ))) (m := qw) (key := lh) rfl [] 120 ((0 : Int), ([] : List UInt8)) (.agg [I OU.1, .s OU.2]) (by kernel_rfl) (by kernel_rfl) (Kv.TK 4 rfl) (by rw [h_e_1]; rfl) ?_
       refine ⟨Kv, fun _ => ?_⟩
       refine dG 1 3 [] (.n 121 (.s OU.2) (.s (.kk (.ss .a)))) (fun x hx => qe) (by kernel_rfl) (fun _ => ?_)
       refine dG 1 2 [] (.n 122 (I (OU.2.length : Int)) (.s .a)) (fun x hx => qe) (by kernel_rfl) (fun _ => ?_)
       obtain ⟨u, Ap, hm⟩ := ob hm
       refine dG 1 1 [] (.n 127 (I (aI (Int.tdiv (OU.2.length : Int) r_))) (.ss .a)) (fun x hx => qp (r_ ≠ 0) (fK Ap) <| qe) (by kernel_rfl) (fun _ => ?_)
       refine dw (by kernel_rfl) rfl ?_
       obtain ⟨Ag, Jr, hm⟩ := ob hm
       refine ay [] 128 _ FB (by kernel_rfl) (vg (F := N0) (O := N0) _ (Cx.refl _) _ Jr) ?_
       rintro e_ w_25 ⟨A25, _, c21, rfl, rfl, Pm⟩
       have Ie := Kv.call Pm
       refine ⟨sl A25 Ag.length c21, rfl, ?_⟩
       refine ⟨(Ie.bD (.bH (.kk (.k .z)))), fun _ => ?_⟩
       refine dw (by kernel_rfl) rfl ?_
       have Ig := Ie.bD (.bH (.bH .e))
       obtain ⟨b14, h_b14, hm⟩ := ob hm
       obtain ⟨hz10, hl10⟩ := fO h_b14
       refine dL (E := e8) (v := sl A25 Ag.length c21) (ys := Ag) dW [] 129 3 (by kernel_rfl) Ig rfl (Src.sl (Ig.rd 7 rfl) (Ig.len 7 rfl) (by rfl)) (Ig.len 7 rfl) (by have := Ig.len 3 rfl; have := (Ig.len 7 rfl); omega) ?_
       intro A26 c22 w_26 Pn
       rw [← hl10] at Pn
       have Kw := Pn.bD (.bH (.kk (.k .z)))
       refine ⟨(Kw.bD (.kk (.k (.s (.kk (.k .e)))))), fun _ => ?_⟩
       refine dG 1 3 [] (.n 3 (sl A26 (b10.length + 1 + lh.length + Gf.length + Ag.length) c22) (.kJ (.s .a))) (fun x hx => qe) (by kernel_rfl) (fun _ => ?_)
       refine dP <| ae <| ax <| aW 3 [] (.n 130 (sl A26 (b10.length + 1 + lh.length + Gf.length + Ag.length) c22) (.n 131 (.v (.map (some b8))) (.n 132 (.s lh) (.k (.s .a))))) qe (by kernel_rfl) ?_
       refine ai ?_
       obtain ⟨Xt, h_e_2, hm⟩ := nm hm
       refine zo (kt := 9) (e := 99) (v := (vS (eP eI eS) (bT bP bQ))) (m := qw) (key := lh) rfl [] 133 ((0 : Int), ([] : List UInt8)) (.agg [I Xt.1, .s Xt.2]) (by kernel_rfl) (by kernel_rfl) (Kw.TK 4 rfl) (by rw [h_e_2]; rfl) ?_
       refine aW 1 [] (.n 134 (.s Xt.2) (.s (.k (.ss .a)))) qe (by kernel_rfl) ?_
       refine ai ?_
       obtain ⟨b15, h_b15, hm⟩ := ob hm
       obtain ⟨hz11, hl11⟩ := fO h_b15
       refine dL (E := e8) (v := .s Xt.2) (ys := Xt.2) dW [] 135 3 (by kernel_rfl) Kw rfl (Src.str Xt.2) rfl (by have := Kw.len 3 rfl; have := hm; omega) ?_
       intro A27 c23 w_27 Kz
       rw [← hl11] at Kz
       refine aW 1 [] (.n 3 (sl A27 (b10.length + 1 + lh.length + Gf.length + Ag.length + Xt.2.length) c23) (.kJ .a)) qe (by kernel_rfl) ?_
       refine ag <| gm <| ae <| bg [] (.n 98 (I (aI (kK + 1))) (.bH (.bH .z))) qe (by kernel_rfl) ?_
       have Po := Kz.l7 4 rfl
       have Pq := (((((((Po.pk (.t (.t (.t (.t (.t (.t (.t .h)))))))).pk (.t (.t (.t (.t (.t (.t (.t .h)))))))).pk (.t (.t .h))).pk (.t (.t (.t (.t (.t (.t .h))))))).pk (.t (.t (.t (.t (.t (.t .h))))))).pk (.t (.t (.t (.t (.t (.t .h))))))).pk (.t (.t (.t (.t (.t (.t .h))))))).bD (.bH (.kk (.k .z)))
       exact jU (b15, aI (kK + 1)) (Option.some.inj hm).symm ⟨b15, aI (kK + 1), A27, b10.length + 1 + lh.length + Gf.length + Ag.length + Xt.2.length, c23, rfl, rfl, Pq.len 3 rfl, Pq⟩ (by kernel_rfl)
     rw [if_neg hc2] at hm
     refine dY (bU (bU (iL ?_)))
     have hm := cO hm hr1
     refine gm <| ae <| bg [] (.n 72 (I (aI (iy + 1))) (.s (.kk (.s (.kk .z))))) qe (by kernel_rfl) ?_
     have Ih := GL.bD (.bH (.s (.k .z)))
     exact jU (b10, aI (iy + 1)) (Option.some.inj hm).symm ⟨b10, aI (iy + 1), A19, b10.length, c16, rfl, rfl, Ih.len 3 rfl, Ih⟩ (by kernel_rfl)
 rw [if_neg hc1] at hm
 refine dY (bU (bU (iL ?_)))
 have hm := cO hm hr0
 refine ae <| af <| bg [] (.n 2 (sl Nr b5.length c10) .z) qe (by kernel_rfl) ?_
 refine ae <| aN ?_
 obtain rfl := Option.some.inj hm
 refine aO [sl Nr b5.length c10] qe (by kernel_rfl) ?_
 have Nw := ((((uq.pk (.t (.t .h))).pk (.t (.t .h))).pk (.t (.t .h))).pk (.t (.t (.t .h)))).bD (.bH .z)
 exact ⟨Nr, b5.length, c10, Nw.len 0 rfl, rfl, Nw⟩
theorem rU {F O : Nat → Prop} {w : World} (s_ : List UInt8) (k : Cx F O w w []) (r : Bool) (hm : lu s_ = some r) :
    Calls Tryz.prog 35 (vals [.s s_]) w (fun e w' => e = .returned (SV.val (.b r)) ∧ Cx F O w w' []) := by
 unfold lu at hm
 refine calls [.s s_] Tryz.func35 rfl (of_decide_eq_true (by kernel_rfl)) ?_
 refine af <| bg [] .a qe (by kernel_rfl) ?_
 refine ae <| af <| af <| bg [] (.n 11 (.b ((decide ((s_.length : Int) < 1)) || (decide (64 < (s_.length : Int))))) .a) qe (by kernel_rfl) ?_
 refine ae <| bC ((decide ((s_.length : Int) < 1)) || (decide (64 < (s_.length : Int)))) (by kernel_rfl) (fun hc => ?_) (fun hc => ?_)
 · rw [if_pos hc] at hm
   refine af <| bg [] (.n 2 (.b false) .z) qe (by kernel_rfl) ?_
   refine ae <| aN (bz ?_)
   obtain rfl := Option.some.inj hm
   refine aO [.b false] qe (by kernel_rfl) ?_
   exact ⟨rfl, k⟩
 rw [if_neg (by rw [hc]; decide)] at hm
 refine aS <| ae <| af <| af <| bg [] (.n 13 (I (s_.length : Int)) (.n 14 (I 0) (.s .a))) qe (by kernel_rfl) ?_
 refine ae <| aJ <| pg (mP s_) (fun s L wr => ∃ (aC : Int), aC = s ∧ L = [(0, .s s_), (13, I (s_.length : Int)), (14, I aC)] ∧ Cx F O w wr []) (0 : Int) r hm ⟨(0 : Int), rfl, rfl, k⟩ (by kernel_rfl) ?_
 intro BU L_ w_ y0 hrel hstep hr0
 obtain ⟨aC, rfl, rfl, k_⟩ := hrel
 have hm := hstep; simp only [mP] at hm
 clear hstep
 refine af <| bg [] (.n 15 (.b (decide (aC < (s_.length : Int)))) .a) qe (by kernel_rfl) ?_
 refine ae <| af <| aZ (aC < (s_.length : Int)) (by kernel_rfl) (fun hc1 => ?_) (fun hc1 => ?_)
 · rw [if_pos hc1] at hm
   refine aS <| ae <| af <| aJ <| af <| bg [] (.n 3 (I aC) (.s .a)) qe (by kernel_rfl) ?_
   refine ae <| af ?_
   obtain ⟨c, h_c, hm⟩ := ob hm
   obtain ⟨c1, h_c1, hm⟩ := ob hm
   refine bg [] (.n 26 (.b ((decide (c < 33)) || (decide ((126 : UInt8) < c1)))) (.s .a)) (qX h_c <| qo (.u8 c1) <| qp ((decide (c < 33)) = false → 0 ≤ aC ∧ s_[Int.toNat aC]? = some c1) (fun hg0 => dE (XF h_c1 hg0)) <| qe) (by kernel_rfl) ?_
   refine ae <| bC ((decide (c < 33)) || (decide ((126 : UInt8) < c1))) (by kernel_rfl) (fun hc2 => ?_) (fun hc2 => ?_)
   · rw [if_pos hc2] at hm
     refine af <| bg [] (.n 2 (.b false) .z) qe (by kernel_rfl) ?_
     refine ae <| aN (fA (bz (bz (fA (bz ?_)))))
     have hm := cO hm hr0
     obtain rfl := Option.some.inj hm
     refine aO [.b false] qe (by kernel_rfl) ?_
     exact ⟨rfl, k_⟩
   rw [if_neg (by rw [hc2]; decide)] at hm
   refine aS <| gm <| ae <| bg [] (.n 14 (I (aI (aC + 1))) (.s (.kk .z))) qe (by kernel_rfl) ?_
   exact jU (aI (aC + 1)) (Option.some.inj hm).symm ⟨aI (aC + 1), rfl, rfl, k_⟩ (by kernel_rfl)
 rw [if_neg hc1] at hm
 refine dY (bU (bU (iL ?_)))
 have hm := cO hm hr0
 refine ae <| af <| bg [] (.n 2 (.b true) .z) qe (by kernel_rfl) ?_
 refine ae <| aN ?_
 obtain rfl := Option.some.inj hm
 refine aO [.b true] qe (by kernel_rfl) ?_
 exact ⟨rfl, k_⟩
theorem DT {F O : Nat → Prop} {w : World} (k_ : Int) (k : Cx F O w w []) (r : (Int × Int × Int)) (hm : pR k_ = some r) :
    Calls Tryz.prog 134 (vals [I k_]) w (fun e w' => e = .returned (SV.val (.jc [I r.1, I r.2.1, I r.2.2])) ∧ Cx F O w w' []) := by
 unfold pR at hm
 refine calls [I k_] Tryz.func134 rfl (of_decide_eq_true (by kernel_rfl)) ?_
 refine af <| bg [] .a qe (by kernel_rfl) ?_
 refine ae <| af <| af <| bg [] (.n 5 (I k_) .z) qe (by kernel_rfl) ?_
 refine ae <| aJ <| af <| bg [] (.n 6 (.b (decide (k_ = 1))) .a) qe (by kernel_rfl) ?_
 refine ae <| aZ (k_ = 1) (by kernel_rfl) (fun hc => ?_) (fun hc => ?_)
 · rw [if_pos hc] at hm
   refine af <| bg [] (.n 2 (I 64) (.n 3 (I 64) (.n 4 (I 16) .z))) qe (by kernel_rfl) ?_
   refine ae <| aN (fA (bz ?_))
   obtain rfl := Option.some.inj hm
   refine aO [I 64, I 64, I 16] qe (by kernel_rfl) ?_
   exact ⟨rfl, k⟩
 rw [if_neg hc] at hm
 refine af <| bg [] (.n 8 (.b (decide (k_ = 2))) .z) qe (by kernel_rfl) ?_
 refine ae <| aZ (k_ = 2) (by kernel_rfl) (fun hc1 => ?_) (fun hc1 => ?_)
 · rw [if_pos hc1] at hm
   refine af <| bg [] (.n 2 (I 32) (.n 3 (I 32) (.n 4 (I 8) .z))) qe (by kernel_rfl) ?_
   refine ae <| aN (fA (bz ?_))
   obtain rfl := Option.some.inj hm
   refine aO [I 32, I 32, I 8] qe (by kernel_rfl) ?_
   exact ⟨rfl, k⟩
 rw [if_neg hc1] at hm
 refine aS <| gm <| ae <| af <| bg [] (.n 2 (I 0) (.n 3 (I 0) (.n 4 (I 0) .z))) qe (by kernel_rfl) ?_
 refine ae <| aN ?_
 obtain rfl := Option.some.inj hm
 refine aO [I 0, I 0, I 0] qe (by kernel_rfl) ?_
 exact ⟨rfl, k⟩
theorem oP {F O : Nat → Prop} {w : World} (n : Int) (lo : Int) (hi : Int) (k : Cx F O w w []) (r : Bool) (hm : jV n lo hi = some r) :
    Calls Tryz.prog 149 (vals [I n, I lo, I hi]) w (fun e w' => e = .returned (SV.val (.b r)) ∧ Cx F O w w' []) := by
 unfold jV at hm
 refine calls [I n, I lo, I hi] Tryz.func149 rfl (of_decide_eq_true (by kernel_rfl)) ?_
 refine af <| bg [] .a qe (by kernel_rfl) ?_
 refine ae <| af <| bg [] (.n 6 (.b ((decide (lo ≤ n)) && (decide (n ≤ hi)))) .z) qe (by kernel_rfl) ?_
 refine ae <| aN ?_
 obtain rfl := Option.some.inj hm
 refine aO [.b ((decide (lo ≤ n)) && (decide (n ≤ hi)))] qe (by kernel_rfl) ?_
 exact ⟨rfl, k⟩
theorem KA {F O : Nat → Prop} {w : World} (k_ : Int) (aP : Int) (dA : Int) (aT : Int) (bn : Int) (cu : UInt32) (aH : UInt64) (bF : UInt32) (aB : Int) (bf : Int) (bu : List UInt8) (aA : List UInt8) (bZ : Option Addr) (kC : Nat) (b_ : Nat) (aU : Option Addr) (eu : Nat) (aV : Nat) (vw : Ro F w bZ (e8.all bu)) (rC : bu.length = kC) (uk : kC ≤ b_) (mi : Ro F w aU (e8.all aA)) (lD : aA.length = eu) (mG : eu ≤ aV) (k : Cx F O w w []) (r : Int) (hm : nZ k_ aP dA aT bn cu aH bF aB bf bu aA = some r) :
    Calls Tryz.prog 133 (vals [I k_, .agg [I aP, I dA, I aT, I bn, .u32 cu, .u64 aH, .u32 bF, I aB, I bf, sl bZ kC b_, sl aU eu aV]]) w (fun e w' => e = .returned (SV.val (I r)) ∧ Cx F O w w' []) := by
 unfold nZ at hm
 subst rC
 subst lD
 refine calls [I k_, .agg [I aP, I dA, I aT, I bn, .u32 cu, .u64 aH, .u32 bF, I aB, I bf, sl bZ bu.length b_, sl aU aA.length aV]] Tryz.func133 rfl (of_decide_eq_true (by kernel_rfl)) ?_
 refine af <| ax <| ai <| jT [] 3 (.agg [I aP, I dA, I aT, I bn, .u32 cu, .u64 aH, .u32 bF, I aB, I bf, sl bZ bu.length b_, sl aU aA.length aV]) [I aP, I dA, I aT, I bn, .u32 cu, .u64 aH, .u32 bF, I aB, I bf, sl bZ bu.length b_, sl aU aA.length aV] (by kernel_rfl) k ?_
 intro g w_ dK
 refine aW 1 [] (.kk .z) qe (by kernel_rfl) ?_
 refine ag <| ae <| af <| ax <| aW 1 [] (.n 10 (I k_) .a) qe (by kernel_rfl) ?_
 refine ai ?_
 obtain ⟨r_, dV, hm⟩ := ob hm
 refine ay [] 11 _ OY (by kernel_rfl) (DT (F := N0) (O := N0) _ (Cx.refl _) _ dV) ?_
 rintro e_ o9 ⟨rfl, fF⟩
 have fM := dK.call fF
 refine ⟨.jc [I r_.1, I r_.2.1, I r_.2.2], rfl, ?_⟩
 refine aW 7 [] (.n 6 (I r_.2.1) (.n 7 (I r_.2.2) (.ss .a))) qe (by kernel_rfl) ?_
 refine ag <| ae <| af <| af <| bg [] (.n 16 (.b (decide (r_.2.1 = 0))) .a) qe (by kernel_rfl) ?_
 refine ae <| aZ (r_.2.1 = 0) (by kernel_rfl) (fun hc => ?_) (fun hc => ?_)
 · rw [if_pos hc] at hm
   refine af <| bg [] (.n 4 (I 1) .z) qe (by kernel_rfl) ?_
   refine ae <| aN (bz ?_)
   obtain rfl := Option.some.inj hm
   refine aO [I 1] qe (by kernel_rfl) ?_
   have g_ := fM.bD .z
   exact ⟨rfl, g_⟩
 rw [if_neg hc] at hm
 refine aS <| ae <| af <| bg [] (.n 8 (I 1) (.s .a)) qe (by kernel_rfl) ?_
 refine ae <| vG (fun L wr => ∃ (least : Int), mM k_ aP dA aT bn aH bF aB bf bu aA r_ least = some r ∧ L = [(0, I k_), (3, pt g 0), (6, I r_.2.1), (7, I r_.2.2), (8, I least)] ∧ Cx F O w wr [Bx 127 g [I aP, I dA, I aT, I bn, .u32 cu, .u64 aH, .u32 bF, I aB, I bf, sl bZ bu.length b_, sl aU aA.length aV]]) ?_ ?_
 ·
  refine af <| bg [] (.n 19 (.b (decide (bF ≠ 0))) .a) (qs g 0 <| qB fM 0 rfl 6 (.u32 bF) (by kernel_rfl) <| qe) (by kernel_rfl) ?_
  refine ae <| aZ (bF ≠ 0) (by kernel_rfl) (fun hc1 => ?_) (fun hc1 => ?_)
  · rw [if_pos hc1] at hm
    refine bg [] (.n 8 (I 0) (.ss .a)) qe (by kernel_rfl) ?_
    exact oJ ⟨(0 : Int), hm, rfl, fM⟩ (by kernel_rfl)
  rw [if_neg hc1] at hm
  refine aS ?_
  exact oJ ⟨(1 : Int), hm, rfl, fM⟩ (by kernel_rfl)
 rintro L_ sZ ⟨least, hm, rfl, gX⟩
 simp only [mM] at hm
 refine vG (fun L wr => qQ  = some r ∧ L = [] ∧ Cx F O w wr []) ?_ ?_
 ·
  refine aJ <| af <| ax <| aW 3 [] (.n 22 (I aP) (.n 23 (I r_.2.1) .a)) (qs g 0 <| qB gX 0 rfl 0 (I aP) (by kernel_rfl) <| qe) (by kernel_rfl) ?_
  refine ai ?_
  obtain ⟨aQ, fG, hm⟩ := ob hm
  refine ay [] 24 _ zF (by kernel_rfl) (oP (F := N0) (O := N0) _ _ _ (Cx.refl _) _ fG) ?_
  rintro e_ xk ⟨rfl, jb⟩
  have jf := gX.call jb
  refine ⟨.b aQ, rfl, ?_⟩
  refine aW 2 [] (.n 20 (.b (!aQ)) (.nG .a)) qe (by kernel_rfl) ?_
  refine ag <| ae <| bC (!aQ) (by kernel_rfl) (fun hc2 => ?_) (fun hc2 => ?_)
  · rw [if_pos hc2] at hm
    refine af <| bg [] (.n 4 (I 20) .z) qe (by kernel_rfl) ?_
    refine ae <| aN (fA (bz ?_))
    obtain rfl := Option.some.inj hm
    refine aO [I 20] qe (by kernel_rfl) ?_
    have jQ := jf.bD .z
    exact ⟨rfl, jQ⟩
  rw [if_neg (by rw [hc2]; decide)] at hm
  refine af <| ax <| aW 3 [] (.n 28 (I dA) (.n 29 (I r_.2.1) (.s .a))) (qs g 0 <| qB jf 0 rfl 1 (I dA) (by kernel_rfl) <| qe) (by kernel_rfl) ?_
  refine ai ?_
  obtain ⟨bI, kz, hm⟩ := ob hm
  refine ay [] 30 _ zF (by kernel_rfl) (oP (F := N0) (O := N0) _ _ _ (Cx.refl _) _ kz) ?_
  rintro e_ xB ⟨rfl, jS⟩
  have dJ := jf.call jS
  refine ⟨.b bI, rfl, ?_⟩
  refine aW 2 [] (.n 26 (.b (!bI)) (.nG .a)) qe (by kernel_rfl) ?_
  refine ag <| ae <| bC (!bI) (by kernel_rfl) (fun hc3 => ?_) (fun hc3 => ?_)
  · rw [if_pos hc3] at hm
    refine af <| bg [] (.n 4 (I 8) .z) qe (by kernel_rfl) ?_
    refine ae <| aN (fA (bz ?_))
    obtain rfl := Option.some.inj hm
    refine aO [I 8] qe (by kernel_rfl) ?_
    have dB := dJ.bD .z
    exact ⟨rfl, dB⟩
  rw [if_neg (by rw [hc3]; decide)] at hm
  refine af <| ax <| aW 2 [] (.n 34 (I aT) (.s .a)) (qs g 0 <| qB dJ 0 rfl 2 (I aT) (by kernel_rfl) <| qe) (by kernel_rfl) ?_
  refine ai ?_
  obtain ⟨dN, qL, hm⟩ := ob hm
  refine ay [] 35 _ zF (by kernel_rfl) (oP (F := N0) (O := N0) _ _ _ (Cx.refl _) _ qL) ?_
  rintro e_ y5 ⟨rfl, gz⟩
  have iI := dJ.call gz
  refine ⟨.b dN, rfl, ?_⟩
  refine aW 2 [] (.n 32 (.b (!dN)) (.ss .a)) qe (by kernel_rfl) ?_
  refine ag <| ae <| bC (!dN) (by kernel_rfl) (fun hc4 => ?_) (fun hc4 => ?_)
  · rw [if_pos hc4] at hm
    refine af <| bg [] (.n 4 (I 21) .z) qe (by kernel_rfl) ?_
    refine ae <| aN (fA (bz ?_))
    obtain rfl := Option.some.inj hm
    refine aO [I 21] qe (by kernel_rfl) ?_
    have iJ := iI.bD .z
    exact ⟨rfl, iJ⟩
  rw [if_neg (by rw [hc4]; decide)] at hm
  refine af <| ax <| aW 3 [] (.n 39 (I bn) (.n 40 (I least) (.s (.bH .z)))) (qs g 0 <| qB iI 0 rfl 3 (I bn) (by kernel_rfl) <| qe) (by kernel_rfl) ?_
  refine ai ?_
  obtain ⟨ja, vk, hm⟩ := ob hm
  refine ay [] 41 _ zF (by kernel_rfl) (oP (F := N0) (O := N0) _ _ _ (Cx.refl _) _ vk) ?_
  rintro e_ CW ⟨rfl, iK⟩
  have iG := iI.call iK
  refine ⟨.b ja, rfl, ?_⟩
  refine aW 2 [] (.n 37 (.b (!ja)) (.nG .a)) qe (by kernel_rfl) ?_
  refine ag <| ae <| bC (!ja) (by kernel_rfl) (fun hc5 => ?_) (fun hc5 => ?_)
  · rw [if_pos hc5] at hm
    refine af <| bg [] (.n 4 (I 22) .z) qe (by kernel_rfl) ?_
    refine ae <| aN (fA (bz ?_))
    obtain rfl := Option.some.inj hm
    refine aO [I 22] qe (by kernel_rfl) ?_
    have je := iG.bD .z
    exact ⟨rfl, je⟩
  rw [if_neg (by rw [hc5]; decide)] at hm
  refine vG (fun L wr => ∃ (aC : Bool), oK k_ bF aB bf bu aA r_ aC = some r ∧ L = [(0, I k_), (3, pt g 0), (6, I r_.2.1), (7, I r_.2.2), (43, .b aC)] ∧ Cx F O w wr [Bx 127 g [I aP, I dA, I aT, I bn, .u32 cu, .u64 aH, .u32 bF, I aB, I bf, sl bZ bu.length b_, sl aU aA.length aV]]) ?_ ?_
  ·
   refine af <| bg [] (.n 43 (.b ((decide (bF ≠ 0)) && (decide ((4294967296 : UInt64) ≤ aH)))) (.s .a)) (qs g 0 <| qB iG 0 rfl 6 (.u32 bF) (by kernel_rfl) <| qp ((decide (bF ≠ 0)) = true → (some ⟨g, 0, none⟩ : Option Addr).isSome = true) (fun hg0 => rfl) <| qo (.u64 aH) <| qc (fun w => (decide (bF ≠ 0)) = true → ∃ a, (some ⟨g, 5, none⟩ : Option Addr) = some a ∧ w.cell? a = some (SV.val (.u64 aH))) (fun hg0 => iG.XG 0 rfl 5 (.u64 aH) (by kernel_rfl)) <| qe) (by kernel_rfl) ?_
   refine ae <| bC ((decide (bF ≠ 0)) && (decide ((4294967296 : UInt64) ≤ aH))) (by kernel_rfl) (fun hc6 => ?_) (fun hc6 => ?_)
   · rw [if_pos hc6] at hm
     refine aS ?_
     exact oJ ⟨(decide (bF ≠ 0)) && (decide ((4294967296 : UInt64) ≤ aH)), hm, rfl, iG⟩ (by kernel_rfl)
   rw [if_neg (by rw [hc6]; decide)] at hm
   refine bg [] (.n 43 (.b (((decide (bF = 0)) && (decide (k_ = 2))) && (decide ((281474976710656 : UInt64) ≤ aH)))) (.s .a)) (qs g 0 <| qB iG 0 rfl 6 (.u32 bF) (by kernel_rfl) <| qp (((decide (bF = 0)) && (decide (k_ = 2))) = true → (some ⟨g, 0, none⟩ : Option Addr).isSome = true) (fun hg0 => rfl) <| qo (.u64 aH) <| qc (fun w => ((decide (bF = 0)) && (decide (k_ = 2))) = true → ∃ a, (some ⟨g, 5, none⟩ : Option Addr) = some a ∧ w.cell? a = some (SV.val (.u64 aH))) (fun hg0 => iG.XG 0 rfl 5 (.u64 aH) (by kernel_rfl)) <| qe) (by kernel_rfl) ?_
   exact oJ ⟨((decide (bF = 0)) && (decide (k_ = 2))) && (decide ((281474976710656 : UInt64) ≤ aH)), hm, rfl, iG⟩ (by kernel_rfl)
  rintro L_ Du ⟨aC, hm, rfl, ku⟩
  simp only [oK] at hm
  refine bC aC (by kernel_rfl) (fun Ol => ?_) (fun Ol => ?_)
  · rw [if_pos Ol] at hm
    refine af <| bg [] (.n 4 (I 23) .z) qe (by kernel_rfl) ?_
    refine ae <| aN (fA (bz ?_))
    obtain rfl := Option.some.inj hm
    refine aO [I 23] qe (by kernel_rfl) ?_
    have oq := ku.bD .z
    exact ⟨rfl, oq⟩
  rw [if_neg (by rw [Ol]; decide)] at hm
  refine af <| bg [] (.n 64 (.b ((decide (k_ = 2)) && (decide ((65535 : UInt32) < bF)))) (.s (.Dl .z))) (qp ((decide (k_ = 2)) = true → (some ⟨g, 0, none⟩ : Option Addr).isSome = true) (fun hg0 => rfl) <| qo (.u32 bF) <| qc (fun w => (decide (k_ = 2)) = true → ∃ a, (some ⟨g, 6, none⟩ : Option Addr) = some a ∧ w.cell? a = some (SV.val (.u32 bF))) (fun hg0 => ku.XG 0 rfl 6 (.u32 bF) (by kernel_rfl)) <| qe) (by kernel_rfl) ?_
  refine ae <| bC ((decide (k_ = 2)) && (decide ((65535 : UInt32) < bF))) (by kernel_rfl) (fun hc8 => ?_) (fun hc8 => ?_)
  · rw [if_pos hc8] at hm
    refine af <| bg [] (.n 4 (I 24) .z) qe (by kernel_rfl) ?_
    refine ae <| aN (fA (bz ?_))
    obtain rfl := Option.some.inj hm
    refine aO [I 24] qe (by kernel_rfl) ?_
    have jL := ku.bD .z
    exact ⟨rfl, jL⟩
  rw [if_neg (by rw [hc8]; decide)] at hm
  refine af <| ax <| aW 2 [] (.n 74 (I aB) (.s .a)) (qs g 0 <| qB ku 0 rfl 7 (I aB) (by kernel_rfl) <| qe) (by kernel_rfl) ?_
  refine ai ?_
  obtain ⟨iO, wY, hm⟩ := ob hm
  refine ay [] 75 _ zF (by kernel_rfl) (oP (F := N0) (O := N0) _ _ _ (Cx.refl _) _ wY) ?_
  rintro e_ Jn ⟨rfl, mQ⟩
  have oM := ku.call mQ
  refine ⟨.b iO, rfl, ?_⟩
  refine aW 2 [] (.n 72 (.b (!iO)) (.ss .a)) qe (by kernel_rfl) ?_
  refine ag <| ae <| bC (!iO) (by kernel_rfl) (fun Yc => ?_) (fun Yc => ?_)
  · rw [if_pos Yc] at hm
    refine af <| bg [] (.n 4 (I 25) .z) qe (by kernel_rfl) ?_
    refine ae <| aN (fA (bz ?_))
    obtain rfl := Option.some.inj hm
    refine aO [I 25] qe (by kernel_rfl) ?_
    have oN := oM.bD .z
    exact ⟨rfl, oN⟩
  rw [if_neg (by rw [Yc]; decide)] at hm
  refine af <| ax <| aW 3 [] (.n 79 (I bf) (.n 80 (I r_.2.1) (.s (.k (.s .a))))) (qs g 0 <| qB oM 0 rfl 8 (I bf) (by kernel_rfl) <| qe) (by kernel_rfl) ?_
  refine ai ?_
  obtain ⟨qw, BZ, hm⟩ := ob hm
  refine ay [] 81 _ zF (by kernel_rfl) (oP (F := N0) (O := N0) _ _ _ (Cx.refl _) _ BZ) ?_
  rintro e_ JW ⟨rfl, ni⟩
  have nY := oM.call ni
  refine ⟨.b qw, rfl, ?_⟩
  refine aW 2 [] (.n 77 (.b (!qw)) (.nG .a)) qe (by kernel_rfl) ?_
  refine ag <| ae <| bC (!qw) (by kernel_rfl) (fun hc10 => ?_) (fun hc10 => ?_)
  · rw [if_pos hc10] at hm
    refine af <| bg [] (.n 4 (I 26) .z) qe (by kernel_rfl) ?_
    refine ae <| aN (fA (bz ?_))
    obtain rfl := Option.some.inj hm
    refine aO [I 26] qe (by kernel_rfl) ?_
    have pM := nY.bD .z
    exact ⟨rfl, pM⟩
  rw [if_neg (by rw [hc10]; decide)] at hm
  refine af <| bg [] (.n 83 (.b (decide (r_.2.2 < ((bu.length : Nat) : Int)))) (.s .a)) (qs g 0 <| qB nY 0 rfl 9 (sl bZ bu.length b_) (by kernel_rfl) <| qe) (by kernel_rfl) ?_
  refine ae <| aZ (r_.2.2 < ((bu.length : Nat) : Int)) (by kernel_rfl) (fun hc11 => ?_) (fun hc11 => ?_)
  · rw [if_pos hc11] at hm
    refine af <| bg [] (.n 4 (I 27) .z) qe (by kernel_rfl) ?_
    refine ae <| aN (fA (bz ?_))
    obtain rfl := Option.some.inj hm
    refine aO [I 27] qe (by kernel_rfl) ?_
    have ve := nY.bD .z
    exact ⟨rfl, ve⟩
  rw [if_neg hc11] at hm
  refine af <| bg [] (.n 89 (.b (decide (r_.2.2 < ((aA.length : Nat) : Int)))) .z) (qs g 0 <| qB nY 0 rfl 10 (sl aU aA.length aV) (by kernel_rfl) <| qe) (by kernel_rfl) ?_
  refine ae <| aZ (r_.2.2 < ((aA.length : Nat) : Int)) (by kernel_rfl) (fun hc12 => ?_) (fun hc12 => ?_)
  · rw [if_pos hc12] at hm
    refine af <| bg [] (.n 4 (I 28) .z) qe (by kernel_rfl) ?_
    refine ae <| aN (fA (bz ?_))
    obtain rfl := Option.some.inj hm
    refine aO [I 28] qe (by kernel_rfl) ?_
    have qH := nY.bD .z
    exact ⟨rfl, qH⟩
  rw [if_neg hc12] at hm
  refine aS <| gm ?_
  have uq := nY.bD .z
  exact oJ ⟨hm, rfl, uq⟩ (by kernel_rfl)
 rintro L_ BV ⟨hm, rfl, uu⟩
 simp only [qQ] at hm
 refine af <| bg [] (.n 4 (I 0) .a) qe (by kernel_rfl) ?_
 refine ae <| aN ?_
 obtain rfl := Option.some.inj hm
 refine aO [I 0] qe (by kernel_rfl) ?_
 exact ⟨rfl, uu⟩
theorem Ny {F O : Nat → Prop} {w : World} (k_ : Int) (k : Cx F O w w []) (r : (List (Int × Int × Int × List UInt8 × Int))) (hm : oZ k_ = some r) :
    Calls Tryz.prog 135 (vals [I k_]) w (fun e w' => ∃ A n c, r.length = n ∧ e = .returned (SV.val (sl A n c)) ∧ Cx F O w w' [Ow (eP eI (eP eI (eP eI (eP eS eI)))) A n c r]) := by
 unfold oZ at hm
 refine calls [I k_] Tryz.func135 rfl (of_decide_eq_true (by kernel_rfl)) ?_
 refine af <| bg [] .a qe (by kernel_rfl) ?_
 refine ae <| af <| ax <| aW 9 [] (.n 5 (.agg [I 1, I 0, I 1, .s ([100, 105, 103, 101, 115, 116] : List UInt8), I 20]) (.n 6 (.agg [I 2, I 1, I 1, .s ([107, 101, 121] : List UInt8), I 8]) (.n 7 (.agg [I 3, I 2, I 1, .s ([102, 97, 110, 111, 117, 116] : List UInt8), I 21]) (.n 8 (.agg [I 4, I 3, I 1, .s ([100, 101, 112, 116, 104] : List UInt8), I 22]) (.n 9 (.agg [I 5, I 4, I 4, .s ([108, 101, 97, 102] : List UInt8), I 1]) (.n 10 (.agg [I 6, I 8, I 8, .s ([111, 102, 102, 115, 101, 116] : List UInt8), I 23]) (.n 11 (.agg [I 7, I 12, I 4, .s ([120, 111, 102] : List UInt8), I 24]) (.n 12 (.agg [I 8, I 16, I 1, .s ([110, 111, 100, 101] : List UInt8), I 25]) (.n 13 (.agg [I 9, I 17, I 1, .s ([105, 110, 110, 101, 114] : List UInt8), I 26]) .a))))))))) qe (by kernel_rfl) ?_
 refine ai <| uA V4 (eP eI (eP eI (eP eI (eP eS eI)))) [] 14 ([((1 : Int), (0 : Int), (1 : Int), ([100, 105, 103, 101, 115, 116] : List UInt8), (20 : Int)), ((2 : Int), (1 : Int), (1 : Int), ([107, 101, 121] : List UInt8), (8 : Int)), ((3 : Int), (2 : Int), (1 : Int), ([102, 97, 110, 111, 117, 116] : List UInt8), (21 : Int)), ((4 : Int), (3 : Int), (1 : Int), ([100, 101, 112, 116, 104] : List UInt8), (22 : Int)), ((5 : Int), (4 : Int), (4 : Int), ([108, 101, 97, 102] : List UInt8), (1 : Int)), ((6 : Int), (8 : Int), (8 : Int), ([111, 102, 102, 115, 101, 116] : List UInt8), (23 : Int)), ((7 : Int), (12 : Int), (4 : Int), ([120, 111, 102] : List UInt8), (24 : Int)), ((8 : Int), (16 : Int), (1 : Int), ([110, 111, 100, 101] : List UInt8), (25 : Int)), ((9 : Int), (17 : Int), (1 : Int), ([105, 110, 110, 101, 114] : List UInt8), (26 : Int))] : List (Int × Int × Int × List UInt8 × Int)) [(0, .agg [I 1, I 0, I 1, .s ([100, 105, 103, 101, 115, 116] : List UInt8), I 20]), (1, .agg [I 2, I 1, I 1, .s ([107, 101, 121] : List UInt8), I 8]), (2, .agg [I 3, I 2, I 1, .s ([102, 97, 110, 111, 117, 116] : List UInt8), I 21]), (3, .agg [I 4, I 3, I 1, .s ([100, 101, 112, 116, 104] : List UInt8), I 22]), (4, .agg [I 5, I 4, I 4, .s ([108, 101, 97, 102] : List UInt8), I 1]), (5, .agg [I 6, I 8, I 8, .s ([111, 102, 102, 115, 101, 116] : List UInt8), I 23]), (6, .agg [I 7, I 12, I 4, .s ([120, 111, 102] : List UInt8), I 24]), (7, .agg [I 8, I 16, I 1, .s ([110, 111, 100, 101] : List UInt8), I 25]), (8, .agg [I 9, I 17, I 1, .s ([105, 110, 110, 101, 114] : List UInt8), I 26])] [I 1, I 0, I 1, .s ([100, 105, 103, 101, 115, 116] : List UInt8), I 20, I 2, I 1, I 1, .s ([107, 101, 121] : List UInt8), I 8, I 3, I 2, I 1, .s ([102, 97, 110, 111, 117, 116] : List UInt8), I 21, I 4, I 3, I 1, .s ([100, 101, 112, 116, 104] : List UInt8), I 22, I 5, I 4, I 4, .s ([108, 101, 97, 102] : List UInt8), I 1, I 6, I 8, I 8, .s ([111, 102, 102, 115, 101, 116] : List UInt8), I 23, I 7, I 12, I 4, .s ([120, 111, 102] : List UInt8), I 24, I 8, I 16, I 1, .s ([110, 111, 100, 101] : List UInt8), I 25, I 9, I 17, I 1, .s ([105, 110, 110, 101, 114] : List UInt8), I 26] (by kernel_rfl) (by kernel_rfl) (by kernel_rfl) k ?_
 intro A0 w_ dK
 refine aW 1 [] (.n 3 (sl A0 9 9) (.kJ (.kJ (.ss .a)))) qe (by kernel_rfl) ?_
 refine ag <| ae <| af <| af <| bg [] (.n 16 (.b (decide (k_ = 1))) (.k .z)) qe (by kernel_rfl) ?_
 refine ae <| aZ (k_ = 1) (by kernel_rfl) (fun hc => ?_) (fun hc => ?_)
 · rw [if_pos hc] at hm
   refine af <| bg [] (.n 2 (sl A0 9 9) .z) qe (by kernel_rfl) ?_
   refine ae <| aN (bz ?_)
   obtain rfl := Option.some.inj hm
   refine aO [sl A0 9 9] qe (by kernel_rfl) ?_
   exact ⟨A0, 9, 9, dK.len 0 rfl, rfl, dK⟩
 rw [if_neg hc] at hm
 refine aS <| ae <| af <| bg [] (.n 4 (sl A0 9 9) .z) qe (by kernel_rfl) ?_
 refine ae <| af <| ax ?_
 obtain ⟨aC, yE, hm⟩ := ob hm
 refine aW 4 [] (.n 20 (sl A0 9 9) (.n 22 (.v (.pointer (fa (rD A0 (5 : Int) 5) 2))) .a)) (qJ (dK.rd 0 rfl) yE (dK.len 0 rfl) <| qS (A := rD A0 (5 : Int) 5) (ET _ _ (Hz (E := (eP eI (eP eI (eP eI (eP eS eI))))) (dK.rd 0 rfl) (by decide) (nz yE).1 (dE yE).2)) <| qe) (by kernel_rfl) ?_
 refine ai <| IW (E := (eP eI (eP eI (eP eI (eP eS eI))))) (kk := 2) (sv := I 6) (svs := [I 6]) [] 0 (aC.1, aC.2.1, (6 : Int), aC.2.2.2.1, aC.2.2.2.2) (by kernel_rfl) (Pt.fa2 (Pt.Dk A0 (5 : Int) 5) 2) dK rfl (dE yE).2 (Hz (E := (eP eI (eP eI (eP eI (eP eS eI))))) (dK.rd 0 rfl) (by decide) (nz yE).1 (dE yE).2) rfl (Nat.le_of_ble_eq_true (by kernel_rfl)) ?_
 intro o9 fF
 obtain ⟨x_1, kQ, hm⟩ := ob hm
 refine aW 2 [] (.n 24 (.v (.pointer (fa (rD A0 (6 : Int) 5) 2))) (.ss .a)) (qJ (fF.rd 0 rfl) kQ (fF.len 0 rfl) <| qS (A := rD A0 (6 : Int) 5) (ET _ _ (Hz (E := (eP eI (eP eI (eP eI (eP eS eI))))) (fF.rd 0 rfl) (by decide) (nz kQ).1 (dE kQ).2)) <| qe) (by kernel_rfl) ?_
 refine ai <| IW (E := (eP eI (eP eI (eP eI (eP eS eI))))) (kk := 2) (sv := I 2) (svs := [I 2]) [] 0 (x_1.1, x_1.2.1, (2 : Int), x_1.2.2.2.1, x_1.2.2.2.2) (by kernel_rfl) (Pt.fa2 (Pt.Dk A0 (6 : Int) 5) 2) fF rfl (dE kQ).2 (Hz (E := (eP eI (eP eI (eP eI (eP eS eI))))) (fF.rd 0 rfl) (by decide) (nz kQ).1 (dE kQ).2) rfl (Nat.le_of_ble_eq_true (by kernel_rfl)) ?_
 intro sZ fM
 refine ag <| ae <| af <| ax ?_
 obtain ⟨bY, jk, hm⟩ := ob hm
 refine aW 4 [] (.n 26 (sl A0 9 9) (.n 28 (.v (.pointer (fa (rD A0 (7 : Int) 5) 1))) (.s .a))) (qJ (fM.rd 0 rfl) jk (fM.len 0 rfl) <| qS (A := rD A0 (7 : Int) 5) (ET _ _ (Hz (E := (eP eI (eP eI (eP eI (eP eS eI))))) (fM.rd 0 rfl) (by decide) (nz jk).1 (dE jk).2)) <| qe) (by kernel_rfl) ?_
 refine ai <| IW (E := (eP eI (eP eI (eP eI (eP eS eI))))) (kk := 1) (sv := I 14) (svs := [I 14]) [] 0 (bY.1, (14 : Int), bY.2.2.1, bY.2.2.2.1, bY.2.2.2.2) (by kernel_rfl) (Pt.fa2 (Pt.Dk A0 (7 : Int) 5) 1) fM rfl (dE jk).2 (Hz (E := (eP eI (eP eI (eP eI (eP eS eI))))) (fM.rd 0 rfl) (by decide) (nz jk).1 (dE jk).2) rfl (Nat.le_of_ble_eq_true (by kernel_rfl)) ?_
 intro xk g_
 obtain ⟨iy, mf, hm⟩ := ob hm
 refine aW 2 [] (.n 30 (.v (.pointer (fa (rD A0 (8 : Int) 5) 1))) (.ss .a)) (qJ (g_.rd 0 rfl) mf (g_.len 0 rfl) <| qS (A := rD A0 (8 : Int) 5) (ET _ _ (Hz (E := (eP eI (eP eI (eP eI (eP eS eI))))) (g_.rd 0 rfl) (by decide) (nz mf).1 (dE mf).2)) <| qe) (by kernel_rfl) ?_
 refine ai ?_
 have gX := g_.bD (.k .e)
 refine IW (E := (eP eI (eP eI (eP eI (eP eS eI))))) (kk := 1) (sv := I 15) (svs := [I 15]) [] 0 (iy.1, (15 : Int), iy.2.2.1, iy.2.2.2.1, iy.2.2.2.2) (by kernel_rfl) (Pt.fa2 (Pt.Dk A0 (8 : Int) 5) 1) gX rfl (dE mf).2 (Hz (E := (eP eI (eP eI (eP eI (eP eS eI))))) (gX.rd 0 rfl) (by decide) (nz mf).1 (dE mf).2) rfl (Nat.le_of_ble_eq_true (by kernel_rfl)) ?_
 intro xB jb
 refine ag <| ae <| af <| bg [] (.n 2 (sl A0 9 9) .z) qe (by kernel_rfl) ?_
 refine ae <| aN ?_
 obtain rfl := Option.some.inj hm
 refine aO [sl A0 9 9] qe (by kernel_rfl) ?_
 exact ⟨A0, 9, 9, jb.len 0 rfl, rfl, jb⟩
theorem KC {F O : Nat → Prop} {w : World} (aP : Int) (dA : Int) (aT : Int) (bn : Int) (cu : UInt32) (aH : UInt64) (bF : UInt32) (aB : Int) (bf : Int) (bu : List UInt8) (aA : List UInt8) (field : Int) (bZ : Option Addr) (kC : Nat) (b_ : Nat) (aU : Option Addr) (eu : Nat) (aV : Nat) (vw : Ro F w bZ (e8.all bu)) (rC : bu.length = kC) (uk : kC ≤ b_) (mi : Ro F w aU (e8.all aA)) (lD : aA.length = eu) (mG : eu ≤ aV) (k : Cx F O w w []) (r : UInt64) (hm : vW aP dA aT bn cu aH bF aB bf bu aA field = some r) :
    Calls Tryz.prog 137 (vals [.agg [I aP, I dA, I aT, I bn, .u32 cu, .u64 aH, .u32 bF, I aB, I bf, sl bZ kC b_, sl aU eu aV], I field]) w (fun e w' => e = .returned (SV.val (.u64 r)) ∧ Cx F O w w' []) := by
 unfold vW at hm
 subst rC
 subst lD
 refine calls [.agg [I aP, I dA, I aT, I bn, .u32 cu, .u64 aH, .u32 bF, I aB, I bf, sl bZ bu.length b_, sl aU aA.length aV], I field] Tryz.func137 rfl (of_decide_eq_true (by kernel_rfl)) ?_
 refine af <| ax <| ai <| jT [] 2 (.agg [I aP, I dA, I aT, I bn, .u32 cu, .u64 aH, .u32 bF, I aB, I bf, sl bZ bu.length b_, sl aU aA.length aV]) [I aP, I dA, I aT, I bn, .u32 cu, .u64 aH, .u32 bF, I aB, I bf, sl bZ bu.length b_, sl aU aA.length aV] (by kernel_rfl) k ?_
 intro g w_ k_
 refine aW 1 [] (.k (.s .a)) qe (by kernel_rfl) ?_
 refine ag <| ae <| af <| af <| bg [] (.n 5 (I field) (.k .z)) qe (by kernel_rfl) ?_
 refine ae <| aJ <| af <| bg [] (.n 6 (.b (decide (field = 1))) .a) qe (by kernel_rfl) ?_
 refine ae <| aZ (field = 1) (by kernel_rfl) (fun hc => ?_) (fun hc => ?_)
 · rw [if_pos hc] at hm
   refine af <| bg [] (.n 4 (.u64 (UInt64.ofInt aP)) .z) (qs g 0 <| qB k_ 0 rfl 0 (I aP) (by kernel_rfl) <| qe) (by kernel_rfl) ?_
   refine ae <| aN (fA (bz ?_))
   obtain rfl := Option.some.inj hm
   refine aO [.u64 (UInt64.ofInt aP)] qe (by kernel_rfl) ?_
   have dK := k_.bD .z
   exact ⟨rfl, dK⟩
 rw [if_neg hc] at hm
 refine af <| bg [] (.n 11 (.b (decide (field = 2))) (.s .a)) qe (by kernel_rfl) ?_
 refine ae <| aZ (field = 2) (by kernel_rfl) (fun hc1 => ?_) (fun hc1 => ?_)
 · rw [if_pos hc1] at hm
   refine af <| bg [] (.n 4 (.u64 (UInt64.ofInt dA)) .z) (qs g 0 <| qB k_ 0 rfl 1 (I dA) (by kernel_rfl) <| qe) (by kernel_rfl) ?_
   refine ae <| aN (fA (bz ?_))
   obtain rfl := Option.some.inj hm
   refine aO [.u64 (UInt64.ofInt dA)] qe (by kernel_rfl) ?_
   have fF := k_.bD .z
   exact ⟨rfl, fF⟩
 rw [if_neg hc1] at hm
 refine af <| bg [] (.n 16 (.b (decide (field = 3))) (.s .a)) qe (by kernel_rfl) ?_
 refine ae <| aZ (field = 3) (by kernel_rfl) (fun hc2 => ?_) (fun hc2 => ?_)
 · rw [if_pos hc2] at hm
   refine af <| bg [] (.n 4 (.u64 (UInt64.ofInt aT)) .z) (qs g 0 <| qB k_ 0 rfl 2 (I aT) (by kernel_rfl) <| qe) (by kernel_rfl) ?_
   refine ae <| aN (fA (bz ?_))
   obtain rfl := Option.some.inj hm
   refine aO [.u64 (UInt64.ofInt aT)] qe (by kernel_rfl) ?_
   have fM := k_.bD .z
   exact ⟨rfl, fM⟩
 rw [if_neg hc2] at hm
 refine af <| bg [] (.n 21 (.b (decide (field = 4))) (.s .a)) qe (by kernel_rfl) ?_
 refine ae <| aZ (field = 4) (by kernel_rfl) (fun hc3 => ?_) (fun hc3 => ?_)
 · rw [if_pos hc3] at hm
   refine af <| bg [] (.n 4 (.u64 (UInt64.ofInt bn)) .z) (qs g 0 <| qB k_ 0 rfl 3 (I bn) (by kernel_rfl) <| qe) (by kernel_rfl) ?_
   refine ae <| aN (fA (bz ?_))
   obtain rfl := Option.some.inj hm
   refine aO [.u64 (UInt64.ofInt bn)] qe (by kernel_rfl) ?_
   have g_ := k_.bD .z
   exact ⟨rfl, g_⟩
 rw [if_neg hc3] at hm
 refine af <| bg [] (.n 26 (.b (decide (field = 5))) (.s .a)) qe (by kernel_rfl) ?_
 refine ae <| aZ (field = 5) (by kernel_rfl) (fun hc4 => ?_) (fun hc4 => ?_)
 · rw [if_pos hc4] at hm
   refine af <| bg [] (.n 4 (.u64 (UInt64.ofNat cu.toNat)) .z) (qs g 0 <| qB k_ 0 rfl 4 (.u32 cu) (by kernel_rfl) <| qe) (by kernel_rfl) ?_
   refine ae <| aN (fA (bz ?_))
   obtain rfl := Option.some.inj hm
   refine aO [.u64 (UInt64.ofNat cu.toNat)] qe (by kernel_rfl) ?_
   have gX := k_.bD .z
   exact ⟨rfl, gX⟩
 rw [if_neg hc4] at hm
 refine af <| bg [] (.n 31 (.b (decide (field = 6))) (.s .a)) qe (by kernel_rfl) ?_
 refine ae <| aZ (field = 6) (by kernel_rfl) (fun hc5 => ?_) (fun hc5 => ?_)
 · rw [if_pos hc5] at hm
   refine af <| bg [] (.n 4 (.u64 aH) .z) (qs g 0 <| qB k_ 0 rfl 5 (.u64 aH) (by kernel_rfl) <| qe) (by kernel_rfl) ?_
   refine ae <| aN (fA (bz ?_))
   obtain rfl := Option.some.inj hm
   refine aO [.u64 aH] qe (by kernel_rfl) ?_
   have jb := k_.bD .z
   exact ⟨rfl, jb⟩
 rw [if_neg hc5] at hm
 refine af <| bg [] (.n 35 (.b (decide (field = 7))) (.s .a)) qe (by kernel_rfl) ?_
 refine ae <| aZ (field = 7) (by kernel_rfl) (fun hc6 => ?_) (fun hc6 => ?_)
 · rw [if_pos hc6] at hm
   refine af <| bg [] (.n 4 (.u64 (UInt64.ofNat bF.toNat)) .z) (qs g 0 <| qB k_ 0 rfl 6 (.u32 bF) (by kernel_rfl) <| qe) (by kernel_rfl) ?_
   refine ae <| aN (fA (bz ?_))
   obtain rfl := Option.some.inj hm
   refine aO [.u64 (UInt64.ofNat bF.toNat)] qe (by kernel_rfl) ?_
   have jf := k_.bD .z
   exact ⟨rfl, jf⟩
 rw [if_neg hc6] at hm
 refine af <| bg [] (.n 40 (.b (decide (field = 8))) (.ss .a)) qe (by kernel_rfl) ?_
 refine ae <| aZ (field = 8) (by kernel_rfl) (fun Ol => ?_) (fun Ol => ?_)
 · rw [if_pos Ol] at hm
   refine af <| bg [] (.n 4 (.u64 (UInt64.ofInt aB)) .z) (qs g 0 <| qB k_ 0 rfl 7 (I aB) (by kernel_rfl) <| qe) (by kernel_rfl) ?_
   refine ae <| aN (fA (bz ?_))
   obtain rfl := Option.some.inj hm
   refine aO [.u64 (UInt64.ofInt aB)] qe (by kernel_rfl) ?_
   have jQ := k_.bD .z
   exact ⟨rfl, jQ⟩
 rw [if_neg Ol] at hm
 refine aS <| gm <| ae <| af <| bg [] (.n 4 (.u64 (UInt64.ofInt bf)) .z) (qs g 0 <| qB k_ 0 rfl 8 (I bf) (by kernel_rfl) <| qe) (by kernel_rfl) ?_
 refine ae <| aN ?_
 obtain rfl := Option.some.inj hm
 refine aO [.u64 (UInt64.ofInt bf)] qe (by kernel_rfl) ?_
 have jS := k_.bD .z
 exact ⟨rfl, jS⟩
theorem Pv {F O : Nat → Prop} {w : World} (b : List UInt8) (at_ : Int) (size : Int) (v : UInt64) (lN : Option Addr) (pX : Nat) (lZ : Nat) (G_b : XB) (uo : pX ≤ lZ) (k : Cx F O w w [Mw e8 lN pX b G_b]) (r : (List UInt8)) (hm : wG b at_ size v = some r) :
    Calls Tryz.prog 136 (vals [sl lN pX lZ, I at_, I size, .u64 v]) w (fun e w' => e = .returned (SV.val (.jc [])) ∧ Cx F O w w' [Mw e8 lN pX r G_b]) := by
 unfold wG at hm
 obtain rfl := k.Qv 0 rfl
 refine calls [sl lN b.length lZ, I at_, I size, .u64 v] Tryz.func136 rfl (of_decide_eq_true (by kernel_rfl)) ?_
 refine af <| bg [] (.n 9 (I size) (.n 10 (I 0) (.kk (.s .a)))) qe (by kernel_rfl) ?_
 refine ae <| aJ <| pg (qx at_ size v) (fun s L wr => ∃ (b1 : List UInt8) (aC : Int), (b1, aC) = s ∧ L = [(0, sl lN b.length lZ), (1, I at_), (3, .u64 v), (9, I size), (10, I aC)] ∧ Cx F O w wr [Mw e8 lN b.length b1 G_b]) (b, (0 : Int)) r hm ⟨b, (0 : Int), rfl, rfl, k⟩ (by kernel_rfl) ?_
 intro BU L_ w_ y0 hrel hstep hr0
 obtain ⟨b1, aC, rfl, rfl, k_⟩ := hrel
 have hm := hstep; simp only [qx] at hm
 clear hstep
 refine af <| bg [] (.n 11 (.b (decide (aC < size))) .a) qe (by kernel_rfl) ?_
 refine ae <| af <| aZ (aC < size) (by kernel_rfl) (fun hc => ?_) (fun hc => ?_)
 · rw [if_pos hc] at hm
   refine aS <| ae <| af <| aJ <| af <| bg [] (.n 8 (I aC) (.s .a)) qe (by kernel_rfl) ?_
   refine ae <| ax ?_
   obtain ⟨u, Ap, hm⟩ := ob hm
   obtain ⟨x_1, kQ, hm⟩ := ob hm
   refine aW 10 [] (.n 21 (.u8 (UInt8.ofNat (jR v (Int.toNat (aI (8 * aC)))).toNat)) (.n 22 (.v (.pointer (rD lN (aI (at_ + aC)) 1))) (.s .a))) (qp (0 ≤ aI (8 * aC)) (fK Ap) <| qJ (k_.mrd 0 rfl) kQ (k_.Qv 0 rfl) <| qe) (by kernel_rfl) ?_
   refine ai <| UM (E := e8) (kk := 0) (sv := .u8 (UInt8.ofNat (jR v (Int.toNat (aI (8 * aC)))).toNat)) (svs := [.u8 (UInt8.ofNat (jR v (Int.toNat (aI (8 * aC)))).toNat)]) [] 0 (UInt8.ofNat (jR v (Int.toNat (aI (8 * aC)))).toNat) (by kernel_rfl) (Pt.Dk lN (aI (at_ + aC)) 1) k_ rfl (dE kQ).2 (Hz (E := e8) (k_.mrd 0 rfl) (by decide) (nz kQ).1 (dE kQ).2) rfl (Nat.le_of_ble_eq_true (by kernel_rfl)) ?_
   intro o9 dK
   refine ag <| gm <| ae <| bg [] (.n 10 (I (aI (aC + 1))) (.ss (.bH .z))) qe (by kernel_rfl) ?_
   exact jU (b1.set (Int.toNat (aI (at_ + aC))) (UInt8.ofNat (jR v (Int.toNat (aI (8 * aC)))).toNat), aI (aC + 1)) (Option.some.inj hm).symm ⟨b1.set (Int.toNat (aI (at_ + aC))) (UInt8.ofNat (jR v (Int.toNat (aI (8 * aC)))).toNat), aI (aC + 1), rfl, rfl, dK⟩ (by kernel_rfl)
 rw [if_neg hc] at hm
 refine dY (bU (bU (iL ?_)))
 have hm := cO hm hr0
 obtain rfl := Option.some.inj hm
 refine xY [] qe (by kernel_rfl) ?_
 exact ⟨rfl, k_⟩
theorem Js {F O : Nat → Prop} {w : World} (k_ : Int) (aP : Int) (dA : Int) (aT : Int) (bn : Int) (cu : UInt32) (aH : UInt64) (bF : UInt32) (aB : Int) (bf : Int) (bu : List UInt8) (aA : List UInt8) (bZ : Option Addr) (kC : Nat) (b_ : Nat) (aU : Option Addr) (eu : Nat) (aV : Nat) (vw : Ro F w bZ (e8.all bu)) (rC : bu.length = kC) (uk : kC ≤ b_) (mi : Ro F w aU (e8.all aA)) (lD : aA.length = eu) (mG : eu ≤ aV) (k : Cx F O w w []) (r : (List UInt8 × Int)) (hm : lH k_ aP dA aT bn cu aH bF aB bf bu aA = some r) :
    Calls Tryz.prog 117 (vals [I k_, .agg [I aP, I dA, I aT, I bn, .u32 cu, .u64 aH, .u32 bF, I aB, I bf, sl bZ kC b_, sl aU eu aV]]) w (fun e w' => ∃ A n c, r.1.length = n ∧ e = .returned (SV.val (.jc [sl A n c, I r.2])) ∧ Cx F O w w' [Ow e8 A n c r.1]) := by
 unfold lH at hm
 subst rC
 subst lD
 refine calls [I k_, .agg [I aP, I dA, I aT, I bn, .u32 cu, .u64 aH, .u32 bF, I aB, I bf, sl bZ bu.length b_, sl aU aA.length aV]] Tryz.func117 rfl (of_decide_eq_true (by kernel_rfl)) ?_
 refine af <| ax <| ai <| jT [] 3 (.agg [I aP, I dA, I aT, I bn, .u32 cu, .u64 aH, .u32 bF, I aB, I bf, sl bZ bu.length b_, sl aU aA.length aV]) [I aP, I dA, I aT, I bn, .u32 cu, .u64 aH, .u32 bF, I aB, I bf, sl bZ bu.length b_, sl aU aA.length aV] (by kernel_rfl) k ?_
 intro g w_ dK
 refine aW 2 [] (.kk .z) qe (by kernel_rfl) ?_
 refine ag <| ae <| af <| af <| ax <| aW 2 [] (.n 13 (I k_) (.n 14 (.agg [I aP, I dA, I aT, I bn, .u32 cu, .u64 aH, .u32 bF, I aB, I bf, sl bZ bu.length b_, sl aU aA.length aV]) .a)) (qT dK 0 rfl 0 11 [I aP, I dA, I aT, I bn, .u32 cu, .u64 aH, .u32 bF, I aB, I bf, sl bZ bu.length b_, sl aU aA.length aV] (by kernel_rfl) (by decide) <| qe) (by kernel_rfl) ?_
 refine ai ?_
 obtain ⟨r_, dV, hm⟩ := ob hm
 refine ay [] 15 _ VC (by kernel_rfl) (KA (F := N0) (O := N0) _ _ _ _ _ _ _ _ _ _ _ _ _ _ _ _ _ _ (Ro.n0 (vw.cx dK)) rfl uk (Ro.n0 (mi.cx dK)) rfl mG (Cx.refl _) _ dV) ?_
 rintro e_ o9 ⟨rfl, fF⟩
 have fM := dK.call fF
 refine ⟨I r_, rfl, ?_⟩
 refine aW 1 [] (.n 6 (I r_) (.nG .a)) qe (by kernel_rfl) ?_
 refine ag <| ae <| af <| bg [] (.n 17 (.b (decide (r_ ≠ 0))) .a) qe (by kernel_rfl) ?_
 refine ae <| aZ (r_ ≠ 0) (by kernel_rfl) (fun hc => ?_) (fun hc => ?_)
 · rw [if_pos hc] at hm
   refine af <| bg [] (.n 4 (sl none 0 0) (.n 5 (I r_) .z)) qe (by kernel_rfl) ?_
   refine ae <| aN (bz ?_)
   have g_ := fM.nil e8
   obtain rfl := Option.some.inj hm
   refine aO [sl none 0 0, I r_] qe (by kernel_rfl) ?_
   have gX := g_.bD (.s (.k .e))
   exact ⟨none, 0, 0, gX.len 0 rfl, rfl, gX⟩
 rw [if_neg hc] at hm
 refine aS <| ae <| af <| ax <| aW 1 [] (.n 20 (I k_) (.ss .a)) qe (by kernel_rfl) ?_
 refine ai ?_
 obtain ⟨aQ, fG, hm⟩ := ob hm
 refine ay [] 21 _ OY (by kernel_rfl) (DT (F := N0) (O := N0) _ (Cx.refl _) _ fG) ?_
 rintro e_ sZ ⟨rfl, jb⟩
 have jf := fM.call jb
 refine ⟨.jc [I aQ.1, I aQ.2.1, I aQ.2.2], rfl, ?_⟩
 refine aW 7 [] (.n 7 (I aQ.1) (.n 9 (I aQ.2.2) (.ss .a))) qe (by kernel_rfl) ?_
 refine ag <| ae <| af <| ax <| aW 1 [] (.n 25 (I aQ.1) .a) qe (by kernel_rfl) ?_
 refine ai ?_
 obtain ⟨u, Ap, hm⟩ := ob hm
 refine ES dW e8 (0 : UInt8) rfl [] 26 (I aQ.1) (I aQ.1) aQ.1 aQ.1 (by kernel_rfl) (fK Ap).1 (fK Ap).2.1 (fK Ap).2.2 jf ?_
 intro A0 xk jQ
 refine aW 1 [] (.n 10 (sl A0 (Int.toNat aQ.1) (Int.toNat aQ.1)) (.ss .a)) qe (by kernel_rfl) ?_
 refine ag <| ae <| af <| af <| ax <| aW 1 [] (.n 27 (I k_) (.bH .z)) qe (by kernel_rfl) ?_
 refine ai ?_
 have jS := jQ.bD (.kk .e)
 obtain ⟨bI, kz, hm⟩ := ob hm
 refine ay [] 28 _ VD (by kernel_rfl) (Ny (F := N0) (O := N0) _ (Cx.refl _) _ kz) ?_
 rintro e_ xB ⟨A1, _, c0, rfl, rfl, dJ⟩
 have dB := jS.call dJ
 refine ⟨sl A1 bI.length c0, rfl, ?_⟩
 refine aW 2 [] (.n 29 (I ((bI.length : Nat) : Int)) (.n 30 (I 0) (.k (.s .a)))) qe (by kernel_rfl) ?_
 refine ag <| ae <| aJ <| pg (lS aP dA aT bn cu aH bF aB bf bu aA aQ bI) (fun s L wr => ∃ (b : List UInt8) (aC : Int), (b, aC) = s ∧ L = [(3, pt g 0), (7, I aQ.1), (9, I aQ.2.2), (10, sl A0 (Int.toNat aQ.1) (Int.toNat aQ.1)), (28, sl A1 bI.length c0), (29, I ((bI.length : Nat) : Int)), (30, I aC)] ∧ Cx F O w wr [Bx 127 g [I aP, I dA, I aT, I bn, .u32 cu, .u64 aH, .u32 bF, I aB, I bf, sl bZ bu.length b_, sl aU aA.length aV], Ow e8 A0 (Int.toNat aQ.1) (Int.toNat aQ.1) b, Ow (eP eI (eP eI (eP eI (eP eS eI)))) A1 bI.length c0 bI]) (List.replicate (Int.toNat aQ.1) (0 : UInt8), (0 : Int)) r hm ⟨List.replicate (Int.toNat aQ.1) (0 : UInt8), (0 : Int), rfl, rfl, dB⟩ (by kernel_rfl) ?_
 intro BU L_ y5 y0 hrel hstep hr0
 obtain ⟨b, aC, rfl, rfl, gz⟩ := hrel
 have hm := hstep; simp only [lS] at hm
 clear hstep
 refine af <| bg [] (.n 31 (.b (decide (aC < ((bI.length : Nat) : Int)))) .a) qe (by kernel_rfl) ?_
 refine ae <| af <| aZ (aC < ((bI.length : Nat) : Int)) (by kernel_rfl) (fun hc1 => ?_) (fun hc1 => ?_)
 · rw [if_pos hc1] at hm
   refine aS <| ae <| vG (fun L wr => ∃ (b1 : List UInt8), pY aC b1 = some y0 ∧ L = [(3, pt g 0), (7, I aQ.1), (9, I aQ.2.2), (10, sl A0 (Int.toNat aQ.1) (Int.toNat aQ.1)), (28, sl A1 bI.length c0), (29, I ((bI.length : Nat) : Int)), (30, I aC)] ∧ Cx F O w wr [Bx 127 g [I aP, I dA, I aT, I bn, .u32 cu, .u64 aH, .u32 bF, I aB, I bf, sl bZ bu.length b_, sl aU aA.length aV], Ow e8 A0 (Int.toNat aQ.1) (Int.toNat aQ.1) b1, Ow (eP eI (eP eI (eP eI (eP eS eI)))) A1 bI.length c0 bI]) ?_ ?_
   ·
    refine Qs (fun L wr => ∃ (b2 : List UInt8), nR aC b2 = some y0 ∧ L = [(3, pt g 0), (7, I aQ.1), (9, I aQ.2.2), (10, sl A0 (Int.toNat aQ.1) (Int.toNat aQ.1)), (28, sl A1 bI.length c0), (29, I ((bI.length : Nat) : Int)), (30, I aC)] ∧ Cx F O w wr [Bx 127 g [I aP, I dA, I aT, I bn, .u32 cu, .u64 aH, .u32 bF, I aB, I bf, sl bZ bu.length b_, sl aU aA.length aV], Ow e8 A0 (Int.toNat aQ.1) (Int.toNat aQ.1) b2, Ow (eP eI (eP eI (eP eI (eP eS eI)))) A1 bI.length c0 bI]) ?_ ?_
    ·
     refine af <| ax ?_
     obtain ⟨bY, jk, hm⟩ := ob hm
     refine aW 2 [] (.n 33 (.agg [I bY.1, I bY.2.1, I bY.2.2.1, .s bY.2.2.2.1, I bY.2.2.2.2]) (.s .a)) (qJ (gz.rd 2 rfl) jk (gz.len 2 rfl) <| qR [I bY.1, I bY.2.1, I bY.2.2.1, .s bY.2.2.2.1, I bY.2.2.2.2] (Rd.els (k := 0) (m := 5) (gz.rd 2 rfl) jk (Pt.Dk A1 aC 5) rfl (by decide) (by decide)) <| qe) (by kernel_rfl) ?_
     refine ai <| bJ [] 12 [I 0, I 0, I 0, .s ([] : List UInt8), I 0] (by kernel_rfl) gz ?_
     intro g1 CW iI
     refine ai <| iQ [] 3 (.agg [I bY.1, I bY.2.1, I bY.2.2.1, .s bY.2.2.2.1, I bY.2.2.2.2]) [I bY.1, I bY.2.1, I bY.2.2.1, .s bY.2.2.2.1, I bY.2.2.2.2] (Pt.at g1 0) iI rfl .all (by kernel_rfl) (by kernel_rfl) ?_
     intro Du iJ
     refine ag <| ae <| af <| af <| bg [] (.n 41 (.b ((decide (bY.1 = 7)) && (decide (bF = 0)))) (.k (.s .a))) (qs g1 0 <| qB iJ 3 rfl 0 (I bY.1) (by kernel_rfl) <| qp ((decide (bY.1 = 7)) = true → (some ⟨g, 0, none⟩ : Option Addr).isSome = true) (fun hg0 => rfl) <| qo (.u32 bF) <| qc (fun w => (decide (bY.1 = 7)) = true → ∃ a, (some ⟨g, 6, none⟩ : Option Addr) = some a ∧ w.cell? a = some (SV.val (.u32 bF))) (fun hg0 => iJ.XG 0 rfl 6 (.u32 bF) (by kernel_rfl)) <| qe) (by kernel_rfl) ?_
     refine ae <| bC ((decide (bY.1 = 7)) && (decide (bF = 0))) (by kernel_rfl) (fun hc2 => ?_) (fun hc2 => ?_)
     · rw [if_pos hc2] at hm
       refine dY (bU (iL ?_))
       have iK := iJ.bD (.kk (.k .z))
       exact oJ ⟨b, hm, rfl, iK⟩ (by kernel_rfl)
     rw [if_neg (by rw [hc2]; decide)] at hm
     refine aS <| ae ?_
     have iG := iJ.drew 1
     refine xQ bG (.q 5 0 (.q 0 1 (.q 1 1 (.q 2 1 (.q 3 1 (.q 4 1 (.q 6 1 (.q 7 0 (.op 8 (.op 9 .nil)))))))))) [8, 9] iG (.c (.bH .e) (.c (.k (.s (.kk .e))) .l)) (by kernel_rfl) (fun _ => ?_)
     refine dG 1 0 [] (.n 47 (.agg [I aP, I dA, I aT, I bn, .u32 cu, .u64 aH, .u32 bF, I aB, I bf, sl bZ bu.length b_, sl aU aA.length aV]) (.s .a)) (fun x hx => qT hx 0 rfl 0 11 [I aP, I dA, I aT, I bn, .u32 cu, .u64 aH, .u32 bF, I aB, I bf, sl bZ bu.length b_, sl aU aA.length aV] (by kernel_rfl) (by decide) <| qe) (by kernel_rfl) (fun _ => ?_)
     refine dG 6 1 [] (.n 42 (sl A0 (Int.toNat aQ.1) (Int.toNat aQ.1)) (.n 44 (I bY.2.1) (.n 46 (I bY.2.2.1) (.n 48 (pt g1 0) (.k (.s .a)))))) (fun x hx => qs g1 0 <| qB hx 3 rfl 1 (I bY.2.1) (by kernel_rfl) <| qs g1 0 <| qB hx 3 rfl 2 (I bY.2.2.1) (by kernel_rfl) <| qs g1 0 <| qe) (by kernel_rfl) (fun _ => ?_)
     refine dG 1 0 [] (.n 49 (I bY.1) (.Dl (.s .a))) (fun x hx => qB hx 3 rfl 0 (I bY.1) (by kernel_rfl) <| qe) (by kernel_rfl) (fun _ => ?_)
     refine dw (by kernel_rfl) rfl ?_
     obtain ⟨dN, qL, hm⟩ := ob hm
     refine ay [] 50 _ VF (by kernel_rfl) (KC (F := N0) (O := N0) _ _ _ _ _ _ _ _ _ _ _ _ _ _ _ _ _ _ (Ro.n0 (vw.cx iG)) rfl uk (Ro.n0 (mi.cx iG)) rfl mG (Cx.refl _) _ qL) ?_
     rintro e_ Jn ⟨rfl, je⟩
     have ku := iG.call je
     refine ⟨.u64 dN, rfl, ?_⟩
     refine ⟨ku, fun _ => ?_⟩
     refine dw (by kernel_rfl) rfl ?_
     obtain ⟨G, hG, oq⟩ := ku.openM 1 rfl
     obtain ⟨ja, vk, hm⟩ := ob hm
     obtain ⟨F1, O1, kin, hO, hre, hF, hb⟩ := oq.go (.r (.i (.r (.r .e))))
     refine ay [] 51 _ VE (by kernel_rfl) (Pv (F := F1) (O := O1) _ _ _ _ _ _ _ _ (ku.EH 1 rfl) kin _ vk) ?_
     rintro e_ JW ⟨rfl, jL⟩
     have mQ := hb JW _ _ jL (.c .n)
     refine ⟨.jc [], rfl, ?_⟩
     have oM := mQ.shutM hG 0 rfl
     refine ⟨(oM.bD (.s (.kk (.k .e)))), fun _ => ?_⟩
     refine dP <| gm ?_
     have oN := (((oM.pk (.t (.t .h))).pk (.t .h)).pk (.t (.t .h))).bD (.kk (.k .z))
     exact oJ ⟨ja, hm, rfl, oN⟩ (by kernel_rfl)
    rintro L_ BV ⟨b2, hm, rfl, ni⟩
    simp only [nR] at hm
    exact oJ ⟨b2, hm, rfl, ni⟩ (by kernel_rfl)
   rintro L_ Dv ⟨b1, hm, rfl, nY⟩
   simp only [pY] at hm
   refine bg [] (.n 30 (I (aI (aC + 1))) (.bH (.kk .z))) qe (by kernel_rfl) ?_
   exact jU (b1, aI (aC + 1)) (Option.some.inj hm).symm ⟨b1, aI (aC + 1), rfl, rfl, nY⟩ (by kernel_rfl)
 rw [if_neg hc1] at hm
 refine dY (bU (bU (iL ?_)))
 have hm := cO hm hr0
 refine ae <| af ?_
 have pM := gz.drew 1
 refine xQ bG (.q 0 0 (.q 6 0 (.q 7 0 (.q 1 1 (.q 2 1 (.q 3 1 (.q 4 0 (.q 5 0 (.op 8 .nil))))))))) [8] pM (.c (.k (.s (.k .e))) .l) (by kernel_rfl) (fun _ => ?_)
 refine dG 3 0 [] (.n 53 (sl A0 (Int.toNat aQ.1) (Int.toNat aQ.1)) (.n 60 (sl bZ bu.length b_) (.s (.bH .z)))) (fun x hx => qs g 0 <| qB hx 0 rfl 9 (sl bZ bu.length b_) (by kernel_rfl) <| qe) (by kernel_rfl) (fun _ => ?_)
 refine dG 3 1 [] (.n 54 (I aQ.1) (.n 56 (I (aI (2 * aQ.2.2))) .a)) (fun x hx => qe) (by kernel_rfl) (fun _ => ?_)
 obtain ⟨b3, H8, hm⟩ := ob hm
 have hs := iq H8
 have hl := nC H8
 have hn : b.length = Int.toNat aQ.1 := (pM.len 1 rfl)
 have hc3 : Int.toNat aQ.1 ≤ Int.toNat aQ.1 := (pM.EH 1 rfl)
 obtain ⟨A2, c1, e_, hc4, hA, hc5⟩ := YT A0 (Int.toNat (aI (aQ.1 - (aI (2 * aQ.2.2))))) (Int.toNat aQ.1) 1 (Int.toNat aQ.1 - Int.toNat (aI (aQ.1 - (aI (2 * aQ.2.2))))) b3.length (by omega) (by omega)
 refine dG 2 0 [] (.n 58 (sl A2 b3.length c1) (.nG .a)) (fun x hx => qp (0 ≤ aI (aQ.1 - (aI (2 * aQ.2.2))) ∧ aI (aQ.1 - (aI (2 * aQ.2.2))) ≤ ((Int.toNat aQ.1 : Nat) : Int)) (by omega) <| qo (.v (.slice A2 b3.length c1)) <| qp (Value.slice (zJ A0 (Int.toNat (aI (aQ.1 - (aI (2 * aQ.2.2))))) (Int.toNat aQ.1) 1) (Int.toNat aQ.1 - Int.toNat (aI (aQ.1 - (aI (2 * aQ.2.2))))) (Int.toNat aQ.1 - Int.toNat (aI (aQ.1 - (aI (2 * aQ.2.2))))) = .slice A2 b3.length c1) e_ <| qe) (by kernel_rfl) (fun _ => ?_)
 refine dw (by kernel_rfl) rfl <| UQ (E := e8) (dn := b3.length) (dc := c1) (v := sl bZ bu.length b_) (src := bu) (lo := Int.toNat (aI (aQ.1 - (aI (2 * aQ.2.2))))) (m' := Int.toNat aQ.1) dW [] 61 1 (by kernel_rfl) hA rfl (by omega) pM rfl (Src.sl (vw.cx pM) rfl (by rfl)) rfl (by have := pM.len 1 rfl; omega) ?_
 intro GG ve
 refine ⟨(ve.bD (.k (.s (.k .e)))), fun _ => ?_⟩
 refine dP <| ae <| af ?_
 have qH := ve.drew 1
 refine xQ bG (.q 0 0 (.q 5 0 (.q 6 0 (.q 1 1 (.q 2 1 (.q 3 0 (.q 4 0 (.op 7 .nil)))))))) [7] qH (.c (.k (.s (.k .e))) .l) (by kernel_rfl) (fun _ => ?_)
 refine dG 3 0 [] (.n 62 (sl A0 (Int.toNat aQ.1) (Int.toNat aQ.1)) (.n 68 (sl aU aA.length aV) (.kJ .a))) (fun x hx => qs g 0 <| qB hx 0 rfl 10 (sl aU aA.length aV) (by kernel_rfl) <| qe) (by kernel_rfl) (fun _ => ?_)
 refine dG 2 1 [] (.n 63 (I aQ.1) (.n 64 (I aQ.2.2) (.kk (.ss .a)))) (fun x hx => qe) (by kernel_rfl) (fun _ => ?_)
 obtain ⟨b4, Et, hm⟩ := ob hm
 have hs1 := iq Et
 have hl1 := nC Et
 have hn1 : (Ry b (Int.toNat (aI (aQ.1 - (aI (2 * aQ.2.2))))) b3.length bu).length = Int.toNat aQ.1 := (qH.len 1 rfl)
 have hc6 : Int.toNat aQ.1 ≤ Int.toNat aQ.1 := (qH.EH 1 rfl)
 obtain ⟨A3, c2, OU, Ol, hA1, hc8⟩ := YT A0 (Int.toNat (aI (aQ.1 - aQ.2.2))) (Int.toNat aQ.1) 1 (Int.toNat aQ.1 - Int.toNat (aI (aQ.1 - aQ.2.2))) b4.length (by omega) (by omega)
 refine dG 2 0 [] (.n 66 (sl A3 b4.length c2) (.nG .a)) (fun x hx => qp (0 ≤ aI (aQ.1 - aQ.2.2) ∧ aI (aQ.1 - aQ.2.2) ≤ ((Int.toNat aQ.1 : Nat) : Int)) (by omega) <| qo (.v (.slice A3 b4.length c2)) <| qp (Value.slice (zJ A0 (Int.toNat (aI (aQ.1 - aQ.2.2))) (Int.toNat aQ.1) 1) (Int.toNat aQ.1 - Int.toNat (aI (aQ.1 - aQ.2.2))) (Int.toNat aQ.1 - Int.toNat (aI (aQ.1 - aQ.2.2))) = .slice A3 b4.length c2) OU <| qe) (by kernel_rfl) (fun _ => ?_)
 refine dw (by kernel_rfl) rfl <| UQ (E := e8) (dn := b4.length) (dc := c2) (v := sl aU aA.length aV) (src := aA) (lo := Int.toNat (aI (aQ.1 - aQ.2.2))) (m' := Int.toNat aQ.1) dW [] 69 1 (by kernel_rfl) hA1 rfl (by omega) qH rfl (Src.sl (mi.cx qH) rfl (by rfl)) rfl (by have := qH.len 1 rfl; omega) ?_
 intro QN uq
 refine ⟨(uq.bD (.k (.s (.k .e)))), fun _ => ?_⟩
 refine dP <| ae <| af <| bg [] (.n 4 (sl A0 (Int.toNat aQ.1) (Int.toNat aQ.1)) (.n 5 (I 0) .z)) qe (by kernel_rfl) ?_
 refine ae <| aN ?_
 obtain rfl := Option.some.inj hm
 refine aO [sl A0 (Int.toNat aQ.1) (Int.toNat aQ.1), I 0] qe (by kernel_rfl) ?_
 have uu := uq.bD (.s (.k .z))
 exact ⟨A0, Int.toNat aQ.1, Int.toNat aQ.1, uu.len 0 rfl, rfl, uu⟩
theorem Lj {F O : Nat → Prop} {w : World} (k : Cx F O w w []) (r : (Vec UInt64 8)) (hm : zq = some r) :
    Calls Tryz.prog 173 (vals []) w (fun e w' => e = .returned (SV.val (.agg [.ar e64 r])) ∧ Cx F O w w' []) := by
 unfold zq at hm
 refine calls [] Tryz.func173 rfl (of_decide_eq_true (by kernel_rfl)) ?_
 refine af <| ax <| ai <| bJ [] 0 [.ar e64 (Vec.rep 8 (0 : UInt64))] (by kernel_rfl) k ?_
 intro g w_ k_
 refine ag <| ae <| af <| ax <| aW 1 [] (.n 1 (.agg [.ar e64 (⟨[(7640891576956012808 : UInt64), (13503953896175478587 : UInt64), (4354685564936845355 : UInt64), (11912009170470909681 : UInt64), (5840696475078001361 : UInt64), (11170449401992604703 : UInt64), (2270897969802886507 : UInt64), (6620516959819538809 : UInt64)], rfl⟩ : Vec UInt64 8)]) .a) qe (by kernel_rfl) ?_
 refine ai <| iQ [] 0 (.agg [.ar e64 (⟨[(7640891576956012808 : UInt64), (13503953896175478587 : UInt64), (4354685564936845355 : UInt64), (11912009170470909681 : UInt64), (5840696475078001361 : UInt64), (11170449401992604703 : UInt64), (2270897969802886507 : UInt64), (6620516959819538809 : UInt64)], rfl⟩ : Vec UInt64 8)]) [.ar e64 (⟨[(7640891576956012808 : UInt64), (13503953896175478587 : UInt64), (4354685564936845355 : UInt64), (11912009170470909681 : UInt64), (5840696475078001361 : UInt64), (11170449401992604703 : UInt64), (2270897969802886507 : UInt64), (6620516959819538809 : UInt64)], rfl⟩ : Vec UInt64 8)] (Pt.at g 0) k_ rfl .all (by kernel_rfl) (by kernel_rfl) ?_
 intro o9 dK
 refine ag <| ae <| aN ?_
 obtain rfl := Option.some.inj hm
 refine aO [.agg [.ar e64 (⟨[(7640891576956012808 : UInt64), (13503953896175478587 : UInt64), (4354685564936845355 : UInt64), (11912009170470909681 : UInt64), (5840696475078001361 : UInt64), (11170449401992604703 : UInt64), (2270897969802886507 : UInt64), (6620516959819538809 : UInt64)], rfl⟩ : Vec UInt64 8)]] (qo (.agg [.ar e64 (⟨[(7640891576956012808 : UInt64), (13503953896175478587 : UInt64), (4354685564936845355 : UInt64), (11912009170470909681 : UInt64), (5840696475078001361 : UInt64), (11170449401992604703 : UInt64), (2270897969802886507 : UInt64), (6620516959819538809 : UInt64)], rfl⟩ : Vec UInt64 8)]) <| qc (fun w => Rd w (some ⟨g, 0, none⟩) (SV.cl [.ar e64 (⟨[(7640891576956012808 : UInt64), (13503953896175478587 : UInt64), (4354685564936845355 : UInt64), (11912009170470909681 : UInt64), (5840696475078001361 : UInt64), (11170449401992604703 : UInt64), (2270897969802886507 : UInt64), (6620516959819538809 : UInt64)], rfl⟩ : Vec UInt64 8)])) (dK.F9 0 rfl) <| qe) (by kernel_rfl) ?_
 have fF := dK.bD .z
 exact ⟨rfl, fF⟩
theorem Hr {F O : Nat → Prop} {w : World} (b : List UInt8) (at_ : Int) (n : Int) (lN : Option Addr) (pX : Nat) (lZ : Nat) (sO : Ro F w lN (e8.all b)) (rO : b.length = pX) (uo : pX ≤ lZ) (k : Cx F O w w []) (r : (UInt64 × Int)) (hm : uf b at_ n = some r) :
    Calls Tryz.prog 183 (vals [sl lN pX lZ, I at_, I n]) w (fun e w' => e = .returned (SV.val (.jc [.u64 r.1, I r.2])) ∧ Cx F O w w' []) := by
 unfold uf at hm
 subst rO
 refine calls [sl lN b.length lZ, I at_, I n] Tryz.func183 rfl (of_decide_eq_true (by kernel_rfl)) ?_
 refine af <| bg [] .a qe (by kernel_rfl) ?_
 refine ae <| af <| af <| bg [] (.n 11 (.b (decide (at_ < 0))) .a) qe (by kernel_rfl) ?_
 refine ae <| aZ (at_ < 0) (by kernel_rfl) (fun hc => ?_) (fun hc => ?_)
 · rw [if_pos hc] at hm
   refine af <| bg [] (.n 6 (.u64 0) (.n 7 (I 1) .z)) qe (by kernel_rfl) ?_
   refine ae <| aN (bz ?_)
   obtain rfl := Option.some.inj hm
   refine aO [.u64 0, I 1] qe (by kernel_rfl) ?_
   exact ⟨rfl, k⟩
 rw [if_neg hc] at hm
 refine aS <| ae <| af <| af <| bg [] (.n 23 (.b ((decide (((b.length : Nat) : Int) < at_)) || (decide ((aI (((b.length : Nat) : Int) - at_)) < n)))) (.s .a)) qe (by kernel_rfl) ?_
 refine ae <| bC ((decide (((b.length : Nat) : Int) < at_)) || (decide ((aI (((b.length : Nat) : Int) - at_)) < n))) (by kernel_rfl) (fun hc1 => ?_) (fun hc1 => ?_)
 · rw [if_pos hc1] at hm
   refine af <| bg [] (.n 6 (.u64 0) (.n 7 (I 3) .z)) qe (by kernel_rfl) ?_
   refine ae <| aN (bz ?_)
   obtain rfl := Option.some.inj hm
   refine aO [.u64 0, I 3] qe (by kernel_rfl) ?_
   exact ⟨rfl, k⟩
 rw [if_neg (by rw [hc1]; decide)] at hm
 refine aS <| ae <| af <| bg [] (.n 8 (.u64 0) (.s .a)) qe (by kernel_rfl) ?_
 refine ae <| af <| af <| bg [] (.n 24 (I n) (.n 25 (I 0) (.Dl .z))) qe (by kernel_rfl) ?_
 refine ae <| aJ <| pg (uD b at_ n) (fun s L wr => ∃ (w_ : UInt64) (aC : Int), (w_, aC) = s ∧ L = [(0, sl lN b.length lZ), (1, I at_), (8, .u64 w_), (24, I n), (25, I aC)] ∧ Cx F O w wr []) ((0 : UInt64), (0 : Int)) r hm ⟨(0 : UInt64), (0 : Int), rfl, rfl, k⟩ (by kernel_rfl) ?_
 intro BU L_ o9 y0 hrel hstep hr0
 obtain ⟨w_, aC, rfl, rfl, k_⟩ := hrel
 have hm := hstep; simp only [uD] at hm
 clear hstep
 refine af <| bg [] (.n 26 (.b (decide (aC < n))) .a) qe (by kernel_rfl) ?_
 refine ae <| af <| aZ (aC < n) (by kernel_rfl) (fun hc2 => ?_) (fun hc2 => ?_)
 · rw [if_pos hc2] at hm
   refine aS <| ae <| af <| aJ <| af <| bg [] (.n 9 (I aC) (.s .a)) qe (by kernel_rfl) ?_
   refine ae ?_
   obtain ⟨bY, jk, hm⟩ := ob hm
   obtain ⟨u, Ap, hm⟩ := ob hm
   refine bg [] (.n 8 (.u64 (w_ ||| (o_ (UInt64.ofNat bY.toNat) (Int.toNat (aI (8 * aC)))))) (.s (.kk (.s .a)))) (qW (sO.cx k_) jk rfl (.u8 bY) rfl <| qp (0 ≤ aI (8 * aC)) (fK Ap) <| qe) (by kernel_rfl) ?_
   refine gm <| ae <| bg [] (.n 25 (I (aI (aC + 1))) (.bH .z)) qe (by kernel_rfl) ?_
   exact jU (w_ ||| (o_ (UInt64.ofNat bY.toNat) (Int.toNat (aI (8 * aC)))), aI (aC + 1)) (Option.some.inj hm).symm ⟨w_ ||| (o_ (UInt64.ofNat bY.toNat) (Int.toNat (aI (8 * aC)))), aI (aC + 1), rfl, rfl, k_⟩ (by kernel_rfl)
 rw [if_neg hc2] at hm
 refine dY (bU (bU (iL ?_)))
 have hm := cO hm hr0
 refine ae <| af <| bg [] (.n 6 (.u64 w_) (.n 7 (I 0) .z)) qe (by kernel_rfl) ?_
 refine ae <| aN ?_
 obtain rfl := Option.some.inj hm
 refine aO [.u64 w_, I 0] qe (by kernel_rfl) ?_
 exact ⟨rfl, k_⟩
theorem DU {F O : Nat → Prop} {w : World} (b : List UInt8) (at_ : Int) (lN : Option Addr) (pX : Nat) (lZ : Nat) (sO : Ro F w lN (e8.all b)) (rO : b.length = pX) (uo : pX ≤ lZ) (k : Cx F O w w []) (r : (UInt64 × Int)) (hm : mr b at_ = some r) :
    Calls Tryz.prog 174 (vals [sl lN pX lZ, I at_]) w (fun e w' => e = .returned (SV.val (.jc [.u64 r.1, I r.2])) ∧ Cx F O w w' []) := by
 unfold mr at hm
 subst rO
 refine calls [sl lN b.length lZ, I at_] Tryz.func174 rfl (of_decide_eq_true (by kernel_rfl)) ?_
 refine af <| bg [] .a qe (by kernel_rfl) ?_
 refine ae <| af <| ax <| aW 2 [] (.n 6 (sl lN b.length lZ) (.n 7 (I at_) .z)) qe (by kernel_rfl) ?_
 refine ai ?_
 obtain ⟨r_, dV, hm⟩ := ob hm
 refine ay [] 8 _ O8 (by kernel_rfl) (Hr (F := N0) (O := N0) _ _ _ _ _ _ (Ro.n0 (sO.cx k)) rfl uo (Cx.refl _) _ dV) ?_
 rintro e_ w_ ⟨rfl, k_⟩
 have dK := k.call k_
 refine ⟨.jc [.u64 r_.1, I r_.2], rfl, ?_⟩
 refine aW 4 [] (.n 4 (.u64 r_.1) (.n 5 (I r_.2) .z)) qe (by kernel_rfl) ?_
 refine ag <| ae <| aN ?_
 obtain rfl := Option.some.inj hm
 refine aO [.u64 r_.1, I r_.2] qe (by kernel_rfl) ?_
 exact ⟨rfl, dK⟩
theorem Nz {F O : Nat → Prop} {w : World} (block : List UInt8) (kD : Option Addr) (dh : Nat) (kE : Nat) (xO : Ro F w kD (e8.all block)) (yF : block.length = dh) (wZ : dh ≤ kE) (k : Cx F O w w []) (r : (Vec UInt64 8 × Int)) (hm : uF block = some r) :
    Calls Tryz.prog 162 (vals [sl kD dh kE]) w (fun e w' => e = .returned (SV.val (.jc [.agg [.ar e64 r.1], I r.2])) ∧ Cx F O w w' []) := by
 unfold uF at hm
 subst yF
 refine calls [sl kD block.length kE] Tryz.func162 rfl (of_decide_eq_true (by kernel_rfl)) ?_
 refine af <| ax <| ai <| bJ [] 2 [.ar e64 (Vec.rep 8 (0 : UInt64))] (by kernel_rfl) k ?_
 intro g w_ k_
 refine aW 1 [] .a qe (by kernel_rfl) ?_
 refine ag <| ae <| af <| af <| bg [] (.n 10 (.b (decide (((block.length : Nat) : Int) ≠ 64))) .a) qe (by kernel_rfl) ?_
 refine ae <| aZ (((block.length : Nat) : Int) ≠ 64) (by kernel_rfl) (fun hc => ?_) (fun hc => ?_)
 · rw [if_pos hc] at hm
   refine af <| ax <| aW 1 [] (.n 11 (.agg [.ar e64 (Vec.rep 8 ((0 : UInt64) : UInt64))]) (.s (.k .z))) qe (by kernel_rfl) ?_
   refine ai <| iQ [] 0 (.agg [.ar e64 (Vec.rep 8 ((0 : UInt64) : UInt64))]) [.ar e64 (Vec.rep 8 ((0 : UInt64) : UInt64))] (Pt.at g 0) k_ rfl .all (by kernel_rfl) (by kernel_rfl) ?_
   intro o9 dK
   refine aW 1 [] (.n 3 (I 1) (.s .a)) qe (by kernel_rfl) ?_
   refine ag <| ae <| aN (bz ?_)
   obtain rfl := Option.some.inj hm
   refine aO [.agg [.ar e64 (Vec.rep 8 ((0 : UInt64) : UInt64))], I 1] (qo (.agg [.ar e64 (Vec.rep 8 ((0 : UInt64) : UInt64))]) <| qc (fun w => Rd w (some ⟨g, 0, none⟩) (SV.cl [.ar e64 (Vec.rep 8 ((0 : UInt64) : UInt64))])) (dK.F9 0 rfl) <| qe) (by kernel_rfl) ?_
   have fF := dK.bD .z
   exact ⟨rfl, fF⟩
 rw [if_neg hc] at hm
 refine aS <| ae <| af <| ax <| ai ?_
 obtain ⟨r_, dV, hm⟩ := ob hm
 refine ay [] 12 _ O3 (by kernel_rfl) (Lj (F := N0) (O := N0)  (Cx.refl _) _ dV) ?_
 rintro e_ sZ ⟨rfl, fM⟩
 have g_ := k_.call fM
 refine ⟨.agg [.ar e64 r_], rfl, ?_⟩
 refine ai <| bJ [] 4 [.ar e64 (Vec.rep 8 (0 : UInt64))] (by kernel_rfl) g_ ?_
 intro g1 xk gX
 refine ai <| iQ [] 1 (.agg [.ar e64 r_]) [.ar e64 r_] (Pt.at g1 0) gX rfl .all (by kernel_rfl) (by kernel_rfl) ?_
 intro xB jb
 refine ag <| ae <| af <| af <| bg [] (.n 13 (I 0) (.k (.ss .a))) qe (by kernel_rfl) ?_
 refine ae <| aJ <| pg (rX block) (fun s L wr => ∃ (h : Vec UInt64 8) (aC : Int), (h, aC) = s ∧ L = [(0, sl kD block.length kE), (2, pt g 0), (4, pt g1 0), (13, I aC)] ∧ Cx F O w wr [Bx 205 g [.ar e64 (Vec.rep 8 (0 : UInt64))], Bx 205 g1 [.ar e64 h]]) (r_, (0 : Int)) r hm ⟨r_, (0 : Int), rfl, rfl, jb⟩ (by kernel_rfl) ?_
 intro BU L_ y5 y0 hrel hstep hr0
 obtain ⟨h, aC, rfl, rfl, jf⟩ := hrel
 have hm := hstep; simp only [rX] at hm
 clear hstep
 refine af <| bg [] (.n 14 (.b (decide (aC < 8))) .a) qe (by kernel_rfl) ?_
 refine ae <| af <| aZ (aC < 8) (by kernel_rfl) (fun hc1 => ?_) (fun hc1 => ?_)
 · rw [if_pos hc1] at hm
   refine aS <| ae <| af <| aJ <| af <| bg [] (.n 5 (I aC) (.s .a)) qe (by kernel_rfl) ?_
   refine ae <| af <| ax <| aW 3 [] (.n 17 (sl kD block.length kE) (.n 19 (I (aI (8 * aC))) .a)) qe (by kernel_rfl) ?_
   refine ai ?_
   obtain ⟨aQ, fG, hm⟩ := ob hm
   refine ay [] 20 _ O4 (by kernel_rfl) (DU (F := N0) (O := N0) _ _ _ _ _ (Ro.n0 (xO.cx jf)) rfl wZ (Cx.refl _) _ fG) ?_
   rintro e_ CW ⟨rfl, jQ⟩
   have jS := jf.call jQ
   refine ⟨.jc [.u64 aQ.1, I aQ.2], rfl, ?_⟩
   refine aW 5 [] (.n 6 (.u64 aQ.1) (.nG .a)) qe (by kernel_rfl) ?_
   refine ag <| ae <| ax ?_
   obtain ⟨bY, jk, hm⟩ := ob hm
   obtain ⟨iy, mf, hm⟩ := ob hm
   refine aW 6 [] (.n 27 (.u64 (bY ^^^ aQ.1)) (.n 28 (.v (.pointer (rD (some ⟨g1, 0, none⟩) aC 1))) (.ss .a))) (qV (jS.rP 1 rfl e64 h 0 (by kernel_rfl)) jk rfl (.u64 bY) rfl <| qI g1 0 mf <| qe) (by kernel_rfl) ?_
   refine ai ?_
   obtain ⟨v, Yd, hm⟩ := nm hm
   refine nO (E := e64) (kk := 0) [] 1 (.u64 (bY ^^^ aQ.1)) [.u64 (bY ^^^ aQ.1)] Yd mf (Pt.EU (Pt.at g1 0) aC 1) jS rfl .h rfl (by kernel_rfl) (by kernel_rfl) ?_
   intro Du dJ
   refine ag <| gm <| ae <| bg [] (.n 13 (I (aI (aC + 1))) (.ss (.Dl .z))) qe (by kernel_rfl) ?_
   exact jU (v, aI (aC + 1)) (Option.some.inj hm).symm ⟨v, aI (aC + 1), rfl, rfl, dJ⟩ (by kernel_rfl)
 rw [if_neg hc1] at hm
 refine dY (bU (bU (iL ?_)))
 have hm := cO hm hr0
 refine ae <| af <| ax <| aW 1 [] (.n 30 (.agg [.ar e64 h]) (.ss (.k .z))) (qT jf 1 rfl 0 8 [.ar e64 h] (by kernel_rfl) (by decide) <| qe) (by kernel_rfl) ?_
 refine ai <| iQ [] 0 (.agg [.ar e64 h]) [.ar e64 h] (Pt.at g 0) jf rfl .all (by kernel_rfl) (by kernel_rfl) ?_
 intro Jn dB
 have gz := dB.bD (.k .z)
 refine aW 1 [] (.n 3 (I 0) (.s .a)) qe (by kernel_rfl) ?_
 refine ag <| ae <| aN ?_
 obtain rfl := Option.some.inj hm
 refine aO [.agg [.ar e64 h], I 0] (qo (.agg [.ar e64 h]) <| qc (fun w => Rd w (some ⟨g, 0, none⟩) (SV.cl [.ar e64 h])) (gz.F9 0 rfl) <| qe) (by kernel_rfl) ?_
 have iI := gz.bD .z
 exact ⟨rfl, iI⟩
theorem FP {F O : Nat → Prop} {w : World} (b : List UInt8) (n : Int) (lN : Option Addr) (pX : Nat) (lZ : Nat) (sO : Ro F w lN (e8.all b)) (rO : b.length = pX) (uo : pX ≤ lZ) (k : Cx F O w w []) (r : Int) (hm : qU b n = some r) :
    Calls Tryz.prog 178 (vals [sl lN pX lZ, I n]) w (fun e w' => e = .returned (SV.val (I r)) ∧ Cx F O w w' []) := by
 unfold qU at hm
 subst rO
 refine calls [sl lN b.length lZ, I n] Tryz.func178 rfl (of_decide_eq_true (by kernel_rfl)) ?_
 refine af <| bg [] .a qe (by kernel_rfl) ?_
 refine ae <| af <| aJ <| af <| bg [] (.n 5 (.b (decide (((b.length : Nat) : Int) < n))) .a) qe (by kernel_rfl) ?_
 refine ae <| aZ (((b.length : Nat) : Int) < n) (by kernel_rfl) (fun hc => ?_) (fun hc => ?_)
 · rw [if_pos hc] at hm
   refine af <| bg [] (.n 4 (I 3) .z) qe (by kernel_rfl) ?_
   refine ae <| aN (fA (bz ?_))
   obtain rfl := Option.some.inj hm
   refine aO [I 3] qe (by kernel_rfl) ?_
   exact ⟨rfl, k⟩
 rw [if_neg hc] at hm
 refine af <| bg [] (.n 10 (.b (decide (n < ((b.length : Nat) : Int)))) .z) qe (by kernel_rfl) ?_
 refine ae <| aZ (n < ((b.length : Nat) : Int)) (by kernel_rfl) (fun hc1 => ?_) (fun hc1 => ?_)
 · rw [if_pos hc1] at hm
   refine af <| bg [] (.n 4 (I 2) .z) qe (by kernel_rfl) ?_
   refine ae <| aN (fA (bz ?_))
   obtain rfl := Option.some.inj hm
   refine aO [I 2] qe (by kernel_rfl) ?_
   exact ⟨rfl, k⟩
 rw [if_neg hc1] at hm
 refine aS <| gm <| ae <| af <| bg [] (.n 4 (I 0) .z) qe (by kernel_rfl) ?_
 refine ae <| aN ?_
 obtain rfl := Option.some.inj hm
 refine aO [I 0] qe (by kernel_rfl) ?_
 exact ⟨rfl, k⟩
theorem KD {F O : Nat → Prop} {w : World} (b : List UInt8) (at_ : Int) (lN : Option Addr) (pX : Nat) (lZ : Nat) (sO : Ro F w lN (e8.all b)) (rO : b.length = pX) (uo : pX ≤ lZ) (k : Cx F O w w []) (r : (UInt32 × Int)) (hm : pU b at_ = some r) :
    Calls Tryz.prog 186 (vals [sl lN pX lZ, I at_]) w (fun e w' => e = .returned (SV.val (.jc [.u32 r.1, I r.2])) ∧ Cx F O w w' []) := by
 unfold pU at hm
 subst rO
 refine calls [sl lN b.length lZ, I at_] Tryz.func186 rfl (of_decide_eq_true (by kernel_rfl)) ?_
 refine af <| bg [] .a qe (by kernel_rfl) ?_
 refine ae <| af <| ax <| aW 2 [] (.n 9 (sl lN b.length lZ) (.n 10 (I at_) .z)) qe (by kernel_rfl) ?_
 refine ai ?_
 obtain ⟨r_, dV, hm⟩ := ob hm
 refine ay [] 11 _ O8 (by kernel_rfl) (Hr (F := N0) (O := N0) _ _ _ _ _ _ (Ro.n0 (sO.cx k)) rfl uo (Cx.refl _) _ dV) ?_
 rintro e_ w_ ⟨rfl, k_⟩
 have dK := k.call k_
 refine ⟨.jc [.u64 r_.1, I r_.2], rfl, ?_⟩
 refine aW 5 [] (.n 6 (.u64 r_.1) (.n 7 (I r_.2) .z)) qe (by kernel_rfl) ?_
 refine ag <| ae <| af <| bg [] (.n 4 (.u32 (UInt32.ofNat r_.1.toNat)) (.n 5 (I r_.2) .z)) qe (by kernel_rfl) ?_
 refine ae <| aN ?_
 obtain rfl := Option.some.inj hm
 refine aO [.u32 (UInt32.ofNat r_.1.toNat), I r_.2] qe (by kernel_rfl) ?_
 exact ⟨rfl, dK⟩
theorem FQ {F O : Nat → Prop} {w : World} (m_ : List UInt32) (b : List UInt8) (NC : Option Addr) (Ye : Nat) (V8 : Nat) (G_m_ : XB) (lN : Option Addr) (pX : Nat) (lZ : Nat) (hc_m_ : Ye ≤ V8) (sO : Ro F w lN (e8.all b)) (rO : b.length = pX) (uo : pX ≤ lZ) (k : Cx F O w w [Mw e32 NC Ye m_ G_m_]) (r : (List UInt32)) (hm : qY m_ b = some r) :
    Calls Tryz.prog 179 (vals [sl NC Ye V8, sl lN pX lZ]) w (fun e w' => e = .returned (SV.val (.jc [])) ∧ Cx F O w w' [Mw e32 NC Ye r G_m_]) := by
 unfold qY at hm
 obtain rfl := k.Qv 0 rfl
 subst rO
 refine calls [sl NC m_.length V8, sl lN b.length lZ] Tryz.func179 rfl (of_decide_eq_true (by kernel_rfl)) ?_
 refine af <| bg [] (.n 6 (I ((m_.length : Nat) : Int)) (.n 7 (I 0) .a)) qe (by kernel_rfl) ?_
 refine ae <| aJ <| pg (pz m_ b) (fun s L wr => ∃ (vX : List UInt32) (aC : Int), (vX, aC) = s ∧ L = [(0, sl NC m_.length V8), (1, sl lN b.length lZ), (6, I ((m_.length : Nat) : Int)), (7, I aC)] ∧ Cx F O w wr [Mw e32 NC m_.length vX G_m_]) (m_, (0 : Int)) r hm ⟨m_, (0 : Int), rfl, rfl, k⟩ (by kernel_rfl) ?_
 intro BU L_ w_ y0 hrel hstep hr0
 obtain ⟨vX, aC, rfl, rfl, k_⟩ := hrel
 have hm := hstep; simp only [pz] at hm
 clear hstep
 refine af <| bg [] (.n 8 (.b (decide (aC < ((m_.length : Nat) : Int)))) .a) qe (by kernel_rfl) ?_
 refine ae <| af <| aZ (aC < ((m_.length : Nat) : Int)) (by kernel_rfl) (fun hc => ?_) (fun hc => ?_)
 · rw [if_pos hc] at hm
   refine aS <| ae <| af <| aJ <| af <| bg [] (.n 4 (I aC) (.s .a)) qe (by kernel_rfl) ?_
   refine ae <| ax <| aW 5 [] (.n 11 (sl NC m_.length V8) (.n 12 (I aC) (.n 13 (sl lN b.length lZ) (.n 15 (I (aI (4 * aC))) (.s .a))))) qe (by kernel_rfl) ?_
   refine ai ?_
   obtain ⟨r_, dV, hm⟩ := ob hm
   refine ay [] 16 _ VT (by kernel_rfl) (KD (F := N0) (O := N0) _ _ _ _ _ (Ro.n0 (sO.cx k_)) rfl uo (Cx.refl _) _ dV) ?_
   rintro e_ o9 ⟨rfl, dK⟩
   have fF := k_.call dK
   refine ⟨.jc [.u32 r_.1, I r_.2], rfl, ?_⟩
   obtain ⟨x_1, kQ, hm⟩ := ob hm
   refine aW 4 [] (.n 17 (.u32 r_.1) (.n 19 (.v (.pointer (rD NC aC 1))) (.kJ (.s .a)))) (qJ (fF.mrd 0 rfl) kQ (fF.Qv 0 rfl) <| qe) (by kernel_rfl) ?_
   refine ai <| UM (E := e32) (kk := 0) (sv := .u32 r_.1) (svs := [.u32 r_.1]) [] 0 r_.1 (by kernel_rfl) (Pt.Dk NC aC 1) fF rfl (dE kQ).2 (Hz (E := e32) (fF.mrd 0 rfl) (by decide) (nz kQ).1 (dE kQ).2) rfl (Nat.le_of_ble_eq_true (by kernel_rfl)) ?_
   intro sZ fM
   refine ag <| gm <| ae <| bg [] (.n 7 (I (aI (aC + 1))) (.ss (.Dl .z))) qe (by kernel_rfl) ?_
   exact jU (vX.set (Int.toNat aC) r_.1, aI (aC + 1)) (Option.some.inj hm).symm ⟨vX.set (Int.toNat aC) r_.1, aI (aC + 1), rfl, rfl, fM⟩ (by kernel_rfl)
 rw [if_neg hc] at hm
 refine dY (bU (bU (iL ?_)))
 have hm := cO hm hr0
 obtain rfl := Option.some.inj hm
 refine xY [] qe (by kernel_rfl) ?_
 exact ⟨rfl, k_⟩
theorem Ll {F O : Nat → Prop} {w : World} (k : Cx F O w w []) (r : (Vec UInt32 8)) (hm : zt = some r) :
    Calls Tryz.prog 180 (vals []) w (fun e w' => e = .returned (SV.val (.agg [.ar e32 r])) ∧ Cx F O w w' []) := by
 unfold zt at hm
 refine calls [] Tryz.func180 rfl (of_decide_eq_true (by kernel_rfl)) ?_
 refine af <| ax <| ai <| bJ [] 0 [.ar e32 (Vec.rep 8 (0 : UInt32))] (by kernel_rfl) k ?_
 intro g w_ k_
 refine ag <| ae <| af <| ax <| aW 1 [] (.n 1 (.agg [.ar e32 (⟨[(1779033703 : UInt32), (3144134277 : UInt32), (1013904242 : UInt32), (2773480762 : UInt32), (1359893119 : UInt32), (2600822924 : UInt32), (528734635 : UInt32), (1541459225 : UInt32)], rfl⟩ : Vec UInt32 8)]) .a) qe (by kernel_rfl) ?_
 refine ai <| iQ [] 0 (.agg [.ar e32 (⟨[(1779033703 : UInt32), (3144134277 : UInt32), (1013904242 : UInt32), (2773480762 : UInt32), (1359893119 : UInt32), (2600822924 : UInt32), (528734635 : UInt32), (1541459225 : UInt32)], rfl⟩ : Vec UInt32 8)]) [.ar e32 (⟨[(1779033703 : UInt32), (3144134277 : UInt32), (1013904242 : UInt32), (2773480762 : UInt32), (1359893119 : UInt32), (2600822924 : UInt32), (528734635 : UInt32), (1541459225 : UInt32)], rfl⟩ : Vec UInt32 8)] (Pt.at g 0) k_ rfl .all (by kernel_rfl) (by kernel_rfl) ?_
 intro o9 dK
 refine ag <| ae <| aN ?_
 obtain rfl := Option.some.inj hm
 refine aO [.agg [.ar e32 (⟨[(1779033703 : UInt32), (3144134277 : UInt32), (1013904242 : UInt32), (2773480762 : UInt32), (1359893119 : UInt32), (2600822924 : UInt32), (528734635 : UInt32), (1541459225 : UInt32)], rfl⟩ : Vec UInt32 8)]] (qo (.agg [.ar e32 (⟨[(1779033703 : UInt32), (3144134277 : UInt32), (1013904242 : UInt32), (2773480762 : UInt32), (1359893119 : UInt32), (2600822924 : UInt32), (528734635 : UInt32), (1541459225 : UInt32)], rfl⟩ : Vec UInt32 8)]) <| qc (fun w => Rd w (some ⟨g, 0, none⟩) (SV.cl [.ar e32 (⟨[(1779033703 : UInt32), (3144134277 : UInt32), (1013904242 : UInt32), (2773480762 : UInt32), (1359893119 : UInt32), (2600822924 : UInt32), (528734635 : UInt32), (1541459225 : UInt32)], rfl⟩ : Vec UInt32 8)])) (dK.F9 0 rfl) <| qe) (by kernel_rfl) ?_
 have fF := dK.bD .z
 exact ⟨rfl, fF⟩
theorem ND {F O : Nat → Prop} {w : World} (block : List UInt8) (kD : Option Addr) (dh : Nat) (kE : Nat) (xO : Ro F w kD (e8.all block)) (yF : block.length = dh) (wZ : dh ≤ kE) (k : Cx F O w w []) (r : (Vec UInt32 8 × Int)) (hm : uG block = some r) :
    Calls Tryz.prog 165 (vals [sl kD dh kE]) w (fun e w' => e = .returned (SV.val (.jc [.agg [.ar e32 r.1], I r.2])) ∧ Cx F O w w' []) := by
 unfold uG at hm
 subst yF
 refine calls [sl kD block.length kE] Tryz.func165 rfl (of_decide_eq_true (by kernel_rfl)) ?_
 refine af <| ax <| ai <| bJ [] 2 [.ar e32 (Vec.rep 8 (0 : UInt32))] (by kernel_rfl) k ?_
 intro g w_ k_
 refine aW 1 [] .a qe (by kernel_rfl) ?_
 refine ag <| ae <| af <| af <| ax <| aW 1 [] (.n 8 (sl kD block.length kE) .a) qe (by kernel_rfl) ?_
 refine ai ?_
 obtain ⟨r_, dV, hm⟩ := ob hm
 refine ay [] 9 _ O5 (by kernel_rfl) (FP (F := N0) (O := N0) _ _ _ _ _ (Ro.n0 (xO.cx k_)) rfl wZ (Cx.refl _) _ dV) ?_
 rintro e_ o9 ⟨rfl, dK⟩
 have fF := k_.call dK
 refine ⟨I r_, rfl, ?_⟩
 refine aW 1 [] (.n 4 (I r_) (.ss .a)) qe (by kernel_rfl) ?_
 refine ag <| ae <| af <| bg [] (.n 11 (.b (decide (r_ ≠ 0))) .a) qe (by kernel_rfl) ?_
 refine ae <| aZ (r_ ≠ 0) (by kernel_rfl) (fun hc => ?_) (fun hc => ?_)
 · rw [if_pos hc] at hm
   refine af <| ax <| aW 2 [] (.n 12 (.agg [.ar e32 (Vec.rep 8 ((0 : UInt32) : UInt32))]) (.n 13 (I r_) (.ss (.k .z)))) qe (by kernel_rfl) ?_
   refine ai <| iQ [] 0 (.agg [.ar e32 (Vec.rep 8 ((0 : UInt32) : UInt32))]) [.ar e32 (Vec.rep 8 ((0 : UInt32) : UInt32))] (Pt.at g 0) fF rfl .all (by kernel_rfl) (by kernel_rfl) ?_
   intro sZ fM
   refine aW 1 [] (.n 3 (I r_) (.ss .a)) qe (by kernel_rfl) ?_
   refine ag <| ae <| aN (bz ?_)
   obtain rfl := Option.some.inj hm
   refine aO [.agg [.ar e32 (Vec.rep 8 ((0 : UInt32) : UInt32))], I r_] (qo (.agg [.ar e32 (Vec.rep 8 ((0 : UInt32) : UInt32))]) <| qc (fun w => Rd w (some ⟨g, 0, none⟩) (SV.cl [.ar e32 (Vec.rep 8 ((0 : UInt32) : UInt32))])) (fM.F9 0 rfl) <| qe) (by kernel_rfl) ?_
   have g_ := fM.bD .z
   exact ⟨rfl, g_⟩
 rw [if_neg hc] at hm
 refine aS <| ae <| af <| ax <| ai <| bJ [] 5 [.ar e32 (Vec.rep 8 (0 : UInt32))] (by kernel_rfl) fF ?_
 intro g1 xk gX
 refine ag <| ae <| af <| ax <| aW 2 [] (.n 14 (sl (some ⟨g1, 0, none⟩) 8 8) (.n 15 (sl kD block.length kE) (.k (.ss (.k .z))))) (qo (.v (.slice (some ⟨g1, 0, none⟩) 8 8)) <| qp (((some ⟨g1, 0, none⟩) : Option Addr).isSome = true ∧ Value.slice (zJ (some ⟨g1, 0, none⟩) 0 8 1) (8 - 0) (8 - 0) = .slice (some ⟨g1, 0, none⟩) 8 8) ⟨rfl, D8 _ _ _ _ _ rfl⟩ <| qe) (by kernel_rfl) ?_
 refine ai ?_
 have jb := gX.YU [] [] 1 rfl
 obtain ⟨aQ, fG, hm⟩ := ob hm
 obtain ⟨F1, O1, kin, hO, hre, hF, hb⟩ := jb.go (.r (.i .e))
 refine ay [] 16 _ O6 (by kernel_rfl) (FQ (F := F1) (O := O1) _ _ _ _ _ _ _ _ _ (Nat.le_refl _) (Ro.I4 xO jb hF) rfl wZ kin _ fG) ?_
 rintro e_ xB ⟨rfl, jf⟩
 have jQ := hb xB _ _ jf (.c .n)
 refine ⟨.jc [], rfl, ?_⟩
 have jS := jQ.YV [] [] 0 rfl (Vec.of 8 aQ) (Vec.ZF (jQ.Qv 0 rfl))
 refine ag <| ae <| af <| ax <| ai ?_
 have dJ := jS.bD (.kk .e)
 obtain ⟨bI, kz, hm⟩ := ob hm
 refine ay [] 17 _ O7 (by kernel_rfl) (Ll (F := N0) (O := N0)  (Cx.refl _) _ kz) ?_
 rintro e_ y5 ⟨rfl, dB⟩
 have gz := dJ.call dB
 refine ⟨.agg [.ar e32 bI], rfl, ?_⟩
 refine ai <| bJ [] 6 [.ar e32 (Vec.rep 8 (0 : UInt32))] (by kernel_rfl) gz ?_
 intro g2 CW iI
 refine ai <| iQ [] 2 (.agg [.ar e32 bI]) [.ar e32 bI] (Pt.at g2 0) iI rfl .all (by kernel_rfl) (by kernel_rfl) ?_
 intro Du iJ
 refine ag <| ae <| af <| af <| bg [] (.n 18 (I 0) (.k (.kJ .a))) qe (by kernel_rfl) ?_
 refine ae <| aJ ?_
 have iG := ((iJ.pk (.t (.t .h))).pk (.t .h)).pk (.t (.t .h))
 refine pg (pF aQ) (fun s L wr => ∃ (h : Vec UInt32 8) (aC : Int), (h, aC) = s ∧ L = [(2, pt g 0), (5, pt g1 0), (6, pt g2 0), (18, I aC)] ∧ Cx F O w wr [Bx 209 g [.ar e32 (Vec.rep 8 (0 : UInt32))], Bx 209 g1 [.ar e32 (Vec.of 8 aQ)], Bx 209 g2 [.ar e32 h]]) (bI, (0 : Int)) r hm ⟨bI, (0 : Int), rfl, rfl, iG⟩ (by kernel_rfl) ?_
 intro BU L_ Jn y0 hrel hstep hr0
 obtain ⟨h, aC, rfl, rfl, iK⟩ := hrel
 have hm := hstep; simp only [pF] at hm
 clear hstep
 refine af <| bg [] (.n 19 (.b (decide (aC < 8))) .a) qe (by kernel_rfl) ?_
 refine ae <| af <| aZ (aC < 8) (by kernel_rfl) (fun hc1 => ?_) (fun hc1 => ?_)
 · rw [if_pos hc1] at hm
   refine aS <| ae <| af <| aJ <| af <| bg [] (.n 7 (I aC) (.s .a)) qe (by kernel_rfl) ?_
   refine ae ?_
   have je := iK.drew 1
   refine xQ bG (.q 0 0 (.q 1 0 (.q 2 0 (.q 3 0 (.q 4 0 (.q 5 0 (.q 6 0 (.q 7 0 (.op 8 .nil))))))))) [8] je (.c (.kk .z) .l) (by kernel_rfl) (fun _ => ?_)
   obtain ⟨bY, jk, hm⟩ := ob hm
   obtain ⟨iy, mf, hm⟩ := ob hm
   obtain ⟨iR, oW, hm⟩ := ob hm
   refine dG 8 0 [] (.n 27 (.u32 (bY ^^^ iy)) (.n 28 (.v (.pointer (rD (some ⟨g2, 0, none⟩) aC 1))) (.s .a))) (fun x hx => qV (hx.rP 2 rfl e32 h 0 (by kernel_rfl)) jk rfl (.u32 bY) rfl <| qV (hx.rP 1 rfl e32 (Vec.of 8 aQ) 0 (by kernel_rfl)) mf rfl (.u32 iy) rfl <| qI g2 0 oW <| qe) (by kernel_rfl) (fun _ => ?_)
   refine dw (by kernel_rfl) rfl ?_
   obtain ⟨v, Yd, hm⟩ := nm hm
   refine nO (E := e32) (kk := 0) [] 2 (.u32 (bY ^^^ iy)) [.u32 (bY ^^^ iy)] Yd oW (Pt.EU (Pt.at g2 0) aC 1) je rfl .h rfl (by kernel_rfl) (by kernel_rfl) ?_
   intro JW ku
   refine ⟨(ku.bD (.kk .z)), fun _ => ?_⟩
   refine dP <| gm <| ae <| bg [] (.n 18 (I (aI (aC + 1))) (.ss (.Dl .z))) qe (by kernel_rfl) ?_
   exact jU (v, aI (aC + 1)) (Option.some.inj hm).symm ⟨v, aI (aC + 1), rfl, rfl, ku⟩ (by kernel_rfl)
 rw [if_neg hc1] at hm
 refine dY (bU (bU (iL ?_)))
 have hm := cO hm hr0
 refine ae <| af <| ax <| aW 1 [] (.n 30 (.agg [.ar e32 h]) (.s (.k .z))) (qT iK 2 rfl 0 8 [.ar e32 h] (by kernel_rfl) (by decide) <| qe) (by kernel_rfl) ?_
 refine ai <| iQ [] 0 (.agg [.ar e32 h]) [.ar e32 h] (Pt.at g 0) iK rfl .all (by kernel_rfl) (by kernel_rfl) ?_
 intro BV oq
 have jL := oq.bD (.k .z)
 refine aW 1 [] (.n 3 (I 0) (.s .a)) qe (by kernel_rfl) ?_
 refine ag <| ae <| aN ?_
 obtain rfl := Option.some.inj hm
 refine aO [.agg [.ar e32 h], I 0] (qo (.agg [.ar e32 h]) <| qc (fun w => Rd w (some ⟨g, 0, none⟩) (SV.cl [.ar e32 h])) (jL.F9 0 rfl) <| qe) (by kernel_rfl) ?_
 have mQ := jL.bD .z
 exact ⟨rfl, mQ⟩
theorem NG {F O : Nat → Prop} {w : World} (k_ : Int) (block : List UInt8) (kD : Option Addr) (dh : Nat) (kE : Nat) (xO : Ro F w kD (e8.all block)) (yF : block.length = dh) (wZ : dh ≤ kE) (k : Cx F O w w []) (r : (Vec UInt64 8 × List UInt8) ⊕ (Vec UInt32 8 × List UInt8)) (hm : uH k_ block = some r) :
    Calls Tryz.prog 150 (vals [I k_, sl kD dh kE]) w (fun e w' => match r with | .inl r0 => ∃ g A n c, r0.2.length = n ∧ e = .returned (SV.val (.v (.iface 258 (SV.val (pt g 0))))) ∧ Cx F O w w' [Bx 264 g [.ar e64 r0.1, .u64 0, .u64 0, sl A n c, I 128, .v (.func (.func 163) ⟨SV.vals []⟩ ⟨SV.vals []⟩), .v (.func (.func 164) ⟨SV.vals []⟩ ⟨SV.vals []⟩)], Ow e8 A n c r0.2] | .inr r1 => ∃ g1 A1 n1 c1, r1.2.length = n1 ∧ e = .returned (SV.val (.v (.iface 267 (SV.val (pt g1 0))))) ∧ Cx F O w w' [Bx 271 g1 [.ar e32 r1.1, .u64 0, .u64 0, sl A1 n1 c1, I 64, .v (.func (.func 166) ⟨SV.vals []⟩ ⟨SV.vals []⟩), .v (.func (.func 167) ⟨SV.vals []⟩ ⟨SV.vals []⟩)], Ow e8 A1 n1 c1 r1.2]) := by
 unfold uH at hm
 subst yF
 refine calls [I k_, sl kD block.length kE] Tryz.func150 rfl (of_decide_eq_true (by kernel_rfl)) ?_
 refine af <| bg [] .a qe (by kernel_rfl) ?_
 refine ae <| af <| af <| bg [] (.n 10 (.b (decide (k_ = 1))) (.s .a)) qe (by kernel_rfl) ?_
 refine ae <| aZ (k_ = 1) (by kernel_rfl) (fun hc => ?_) (fun hc => ?_)
 · rw [if_pos hc] at hm
   refine af <| ax <| aW 1 [] (.n 12 (sl kD block.length kE) .z) qe (by kernel_rfl) ?_
   refine ai ?_
   obtain ⟨r_, dV, hm⟩ := ob hm
   refine ay [] 13 _ VI (by kernel_rfl) (Nz (F := N0) (O := N0) _ _ _ _ (Ro.n0 (xO.cx k)) rfl wZ (Cx.refl _) _ dV) ?_
   rintro e_ w_ ⟨rfl, dK⟩
   have fF := k.call dK
   refine ⟨.jc [.agg [.ar e64 r_.1], I r_.2], rfl, ?_⟩
   refine aW 3 [] (.n 14 (.agg [.ar e64 r_.1]) (.n 15 (I r_.2) .z)) qe (by kernel_rfl) ?_
   refine ai <| bJ [] 5 [.ar e64 (Vec.rep 8 (0 : UInt64))] (by kernel_rfl) fF ?_
   intro g0 o9 fM
   refine ai <| iQ [] 0 (.agg [.ar e64 r_.1]) [.ar e64 r_.1] (Pt.at g0 0) fM rfl .all (by kernel_rfl) (by kernel_rfl) ?_
   intro sZ g_
   refine aW 1 [] (.k .z) qe (by kernel_rfl) ?_
   refine ag <| ae <| af <| ax <| aW 2 [] (.n 17 (.agg [.ar e64 r_.1, .u64 0, .u64 0, sl none 0 0, I 128, .v (.func (.func 163) ⟨SV.vals []⟩ ⟨SV.vals []⟩), .v (.func (.func 164) ⟨SV.vals []⟩ ⟨SV.vals []⟩)]) .z) (qT g_ 0 rfl 0 8 [.ar e64 r_.1] (by kernel_rfl) (by decide) <| qe) (by kernel_rfl) ?_
   refine ai <| jT [] 18 (.agg [.ar e64 r_.1, .u64 0, .u64 0, sl none 0 0, I 128, .v (.func (.func 163) ⟨SV.vals []⟩ ⟨SV.vals []⟩), .v (.func (.func 164) ⟨SV.vals []⟩ ⟨SV.vals []⟩)]) [.ar e64 r_.1, .u64 0, .u64 0, sl none 0 0, I 128, .v (.func (.func 163) ⟨SV.vals []⟩ ⟨SV.vals []⟩), .v (.func (.func 164) ⟨SV.vals []⟩ ⟨SV.vals []⟩)] (by kernel_rfl) g_ ?_
   intro g2 xk gX
   refine aW 2 [] (.n 4 (.v (.iface 258 (SV.val (pt g2 0)))) .z) qe (by kernel_rfl) ?_
   refine ag <| ae <| aN (bz ?_)
   have jb := gX.nil e8
   obtain rfl := Option.some.inj hm
   refine aO [.v (.iface 258 (SV.val (pt g2 0)))] qe (by kernel_rfl) ?_
   have jf := jb.bD (.s (.kk .e))
   exact ⟨g2, none, 0, 0, jf.len 1 rfl, rfl, jf⟩
 rw [if_neg hc] at hm
 refine aS <| ae <| af <| ax <| aW 1 [] (.n 21 (sl kD block.length kE) .z) qe (by kernel_rfl) ?_
 refine ai ?_
 obtain ⟨aQ, fG, hm⟩ := ob hm
 refine ay [] 22 _ VK (by kernel_rfl) (ND (F := N0) (O := N0) _ _ _ _ (Ro.n0 (xO.cx k)) rfl wZ (Cx.refl _) _ fG) ?_
 rintro e_ xB ⟨rfl, jQ⟩
 have jS := k.call jQ
 refine ⟨.jc [.agg [.ar e32 aQ.1], I aQ.2], rfl, ?_⟩
 refine aW 3 [] (.n 23 (.agg [.ar e32 aQ.1]) (.n 24 (I aQ.2) .z)) qe (by kernel_rfl) ?_
 refine ai <| bJ [] 7 [.ar e32 (Vec.rep 8 (0 : UInt32))] (by kernel_rfl) jS ?_
 intro g3 y5 dJ
 refine ai <| iQ [] 0 (.agg [.ar e32 aQ.1]) [.ar e32 aQ.1] (Pt.at g3 0) dJ rfl .all (by kernel_rfl) (by kernel_rfl) ?_
 intro CW dB
 refine aW 1 [] (.k .z) qe (by kernel_rfl) ?_
 refine ag <| ae <| af <| ax <| aW 2 [] (.n 26 (.agg [.ar e32 aQ.1, .u64 0, .u64 0, sl none 0 0, I 64, .v (.func (.func 166) ⟨SV.vals []⟩ ⟨SV.vals []⟩), .v (.func (.func 167) ⟨SV.vals []⟩ ⟨SV.vals []⟩)]) .z) (qT dB 0 rfl 0 8 [.ar e32 aQ.1] (by kernel_rfl) (by decide) <| qe) (by kernel_rfl) ?_
 refine ai <| jT [] 27 (.agg [.ar e32 aQ.1, .u64 0, .u64 0, sl none 0 0, I 64, .v (.func (.func 166) ⟨SV.vals []⟩ ⟨SV.vals []⟩), .v (.func (.func 167) ⟨SV.vals []⟩ ⟨SV.vals []⟩)]) [.ar e32 aQ.1, .u64 0, .u64 0, sl none 0 0, I 64, .v (.func (.func 166) ⟨SV.vals []⟩ ⟨SV.vals []⟩), .v (.func (.func 167) ⟨SV.vals []⟩ ⟨SV.vals []⟩)] (by kernel_rfl) dB ?_
 intro g4 Du gz
 refine aW 2 [] (.n 4 (.v (.iface 267 (SV.val (pt g4 0)))) .z) qe (by kernel_rfl) ?_
 refine ag <| ae <| aN ?_
 have iI := gz.nil e8
 obtain rfl := Option.some.inj hm
 refine aO [.v (.iface 267 (SV.val (pt g4 0)))] qe (by kernel_rfl) ?_
 have iJ := iI.bD (.s (.kk .e))
 exact ⟨g4, none, 0, 0, iJ.len 1 rfl, rfl, iJ⟩
theorem vz {F O : Nat → Prop} {w : World} (k_ : Int) (k : Cx F O w w []) (r : Int) (hm : jA k_ = some r) :
    Calls Tryz.prog 120 (vals [I k_]) w (fun e w' => e = .returned (SV.val (I r)) ∧ Cx F O w w' []) := by
 unfold jA at hm
 refine calls [I k_] Tryz.func120 rfl (of_decide_eq_true (by kernel_rfl)) ?_
 refine af <| bg [] .a qe (by kernel_rfl) ?_
 refine ae <| af <| af <| bg [] (.n 4 (.b (decide (k_ = 1))) .z) qe (by kernel_rfl) ?_
 refine ae <| aZ (k_ = 1) (by kernel_rfl) (fun hc => ?_) (fun hc => ?_)
 · rw [if_pos hc] at hm
   refine af <| bg [] (.n 2 (I 128) .z) qe (by kernel_rfl) ?_
   refine ae <| aN (bz ?_)
   obtain rfl := Option.some.inj hm
   refine aO [I 128] qe (by kernel_rfl) ?_
   exact ⟨rfl, k⟩
 rw [if_neg hc] at hm
 refine aS <| ae <| af <| bg [] (.n 2 (I 64) .z) qe (by kernel_rfl) ?_
 refine ae <| aN ?_
 obtain rfl := Option.some.inj hm
 refine aO [I 64] qe (by kernel_rfl) ?_
 exact ⟨rfl, k⟩
theorem wu {F O : Nat → Prop} {w : World} (b : List UInt8) (n : Int) (lN : Option Addr) (pX : Nat) (lZ : Nat) (sO : Ro F w lN (e8.all b)) (rO : b.length = pX) (uo : pX ≤ lZ) (k : Cx F O w w []) (r : (List UInt8)) (hm : mD b n = some r) :
    Calls Tryz.prog 151 (vals [sl lN pX lZ, I n]) w (fun e w' => ∃ A n1 c, r.length = n1 ∧ e = .returned (SV.val (sl A n1 c)) ∧ Cx F O w w' [Ow e8 A n1 c r]) := by
 unfold mD at hm
 subst rO
 refine calls [sl lN b.length lZ, I n] Tryz.func151 rfl (of_decide_eq_true (by kernel_rfl)) ?_
 refine af <| bg [] .a qe (by kernel_rfl) ?_
 refine ae <| af <| ax <| aW 1 [] (.n 5 (I n) .a) qe (by kernel_rfl) ?_
 refine ai ?_
 obtain ⟨u, Ap, hm⟩ := ob hm
 refine ES dW e8 (0 : UInt8) rfl [] 6 (I 0) (I n) (0 : Int) n (by kernel_rfl) (fK Ap).1 (fK Ap).2.1 (fK Ap).2.2 k ?_
 intro A0 w_ k_
 refine aW 1 [] (.n 7 (sl lN b.length lZ) (.k (.s .a))) qe (by kernel_rfl) ?_
 refine ai ?_
 obtain ⟨b1, yD, hm⟩ := ob hm
 obtain ⟨hz, hl⟩ := fO yD
 refine dL (E := e8) (v := sl lN b.length lZ) (ys := b) dW [] 8 0 (by kernel_rfl) k_ rfl (Src.sl (sO.cx k_) rfl (by rfl)) rfl (by have := k_.len 0 rfl; have := hm; omega) ?_
 intro A1 c0 o9 dK
 rw [← hl] at dK
 refine aW 4 [] (.n 12 (I (aI (n - ((b.length : Nat) : Int)))) (.k .z)) qe (by kernel_rfl) ?_
 refine ai ?_
 obtain ⟨b2, Gy, hm⟩ := ob hm
 obtain ⟨h0, hz1, hl1⟩ := TC Gy
 refine Qw (E := e8) (kx := .i64) (ik := .i64) dW (0 : UInt8) [] 13 0 (aI (n - ((b.length : Nat) : Int))) (by kernel_rfl) rfl dK rfl h0 (by have := dK.len 0 rfl; omega) ?_
 intro A2 c1 sZ fF
 rw [← hl1] at fF
 refine aW 1 [] (.n 4 (sl A2 (Int.toNat (0 : Int) + b.length + Int.toNat (aI (n - ((b.length : Nat) : Int)))) c1) .z) qe (by kernel_rfl) ?_
 refine ag <| ae <| aN ?_
 obtain rfl := Option.some.inj hm
 refine aO [sl A2 (Int.toNat (0 : Int) + b.length + Int.toNat (aI (n - ((b.length : Nat) : Int)))) c1] qe (by kernel_rfl) ?_
 exact ⟨A2, Int.toNat (0 : Int) + b.length + Int.toNat (aI (n - ((b.length : Nat) : Int))), c1, fF.len 0 rfl, rfl, fF⟩
theorem vV {F O : Nat → Prop} {w : World} (um : UInt64) (vK : UInt64) (n : UInt64) (k : Cx F O w w []) (r : (UInt64 × UInt64 × Bool)) (hm : o5 um vK n = some r) :
    Calls Tryz.prog 218 (vals [.agg [.u64 um, .u64 vK], .u64 n]) w (fun e w' => e = .returned (SV.val (.jc [.agg [.u64 r.1, .u64 r.2.1], .b r.2.2])) ∧ Cx F O w w' []) := by
 unfold o5 at hm
 refine calls [.agg [.u64 um, .u64 vK], .u64 n] Tryz.func218 rfl (of_decide_eq_true (by kernel_rfl)) ?_
 refine af <| ax <| ai <| jT [] 2 (.agg [.u64 um, .u64 vK]) [.u64 um, .u64 vK] (by kernel_rfl) k ?_
 intro g w_ k_
 refine ai <| bJ [] 4 [.u64 0, .u64 0] (by kernel_rfl) k_ ?_
 intro g1 o9 dK
 refine aW 1 [] (.kk (.s .a)) qe (by kernel_rfl) ?_
 refine ag <| ae <| af <| ax <| aW 3 [] (.n 12 (.u64 um) (.n 13 (.u64 n) (.kk .z))) (qs g 0 <| qB dK 0 rfl 0 (.u64 um) (by kernel_rfl) <| qe) (by kernel_rfl) ?_
 refine ai ?_
 obtain ⟨r_, dV, hm⟩ := ob hm
 refine OC Lh [] 14 um n (0 : UInt64) (by kernel_rfl) dV ?_
 refine aW 5 [] (.n 6 (.u64 r_.1) (.n 7 (.u64 r_.2) (.nG .a))) qe (by kernel_rfl) ?_
 refine ag <| ae <| af <| ax <| aW 3 [] (.n 19 (.u64 vK) (.n 20 (.u64 r_.2) (.k (.s (.k .z))))) (qs g 0 <| qB dK 0 rfl 1 (.u64 vK) (by kernel_rfl) <| qe) (by kernel_rfl) ?_
 refine ai ?_
 obtain ⟨aQ, fG, hm⟩ := ob hm
 refine OC Lh [] 21 vK (0 : UInt64) r_.2 (by kernel_rfl) fG ?_
 refine aW 5 [] (.n 8 (.u64 aQ.1) (.n 9 (.u64 aQ.2) (.nG .a))) qe (by kernel_rfl) ?_
 refine ag <| ae <| af <| ax <| aW 5 [] (.n 26 (.agg [.u64 r_.1, .u64 aQ.1]) (.n 28 (.b (decide (aQ.2 = 1))) (.nG .a))) qe (by kernel_rfl) ?_
 refine ai ?_
 have fF := dK.bD (.kk .e)
 refine iQ [] 1 (.agg [.u64 r_.1, .u64 aQ.1]) [.u64 r_.1, .u64 aQ.1] (Pt.at g1 0) fF rfl .all (by kernel_rfl) (by kernel_rfl) ?_
 intro sZ fM
 have g_ := fM.bD (.s (.k .e))
 refine aW 1 [] (.n 5 (.b (decide (aQ.2 = 1))) (.ss .a)) qe (by kernel_rfl) ?_
 refine ag <| ae <| aN ?_
 obtain rfl := Option.some.inj hm
 refine aO [.agg [.u64 r_.1, .u64 aQ.1], .b (decide (aQ.2 = 1))] (qo (.agg [.u64 r_.1, .u64 aQ.1]) <| qc (fun w => Rd w (some ⟨g1, 0, none⟩) (SV.cl [.u64 r_.1, .u64 aQ.1])) (g_.F9 0 rfl) <| qe) (by kernel_rfl) ?_
 have gX := g_.bD .z
 exact ⟨rfl, gX⟩
theorem NH {F O : Nat → Prop} {w : World} (b : List UInt8) (lN : Option Addr) (pX : Nat) (lZ : Nat) (sO : Ro F w lN (e8.all b)) (rO : b.length = pX) (uo : pX ≤ lZ) (k : Cx F O w w []) (r : (Vec UInt64 16 × Int)) (hm : uI b = some r) :
    Calls Tryz.prog 175 (vals [sl lN pX lZ]) w (fun e w' => e = .returned (SV.val (.jc [.agg [.ar e64 r.1], I r.2])) ∧ Cx F O w w' []) := by
 unfold uI at hm
 subst rO
 refine calls [sl lN b.length lZ] Tryz.func175 rfl (of_decide_eq_true (by kernel_rfl)) ?_
 refine af <| ax <| ai <| bJ [] 2 [.ar e64 (Vec.rep 16 (0 : UInt64))] (by kernel_rfl) k ?_
 intro g w_ k_
 refine aW 1 [] .a qe (by kernel_rfl) ?_
 refine ag <| ae <| af <| ax <| ai <| bJ [] 4 [.ar e64 (Vec.rep 16 (0 : UInt64))] (by kernel_rfl) k_ ?_
 intro g1 o9 dK
 refine ag <| ae <| af <| af <| bg [] (.n 8 (.b (decide (((b.length : Nat) : Int) ≠ 128))) .a) qe (by kernel_rfl) ?_
 refine ae <| aZ (((b.length : Nat) : Int) ≠ 128) (by kernel_rfl) (fun hc => ?_) (fun hc => ?_)
 · rw [if_pos hc] at hm
   refine af <| ax <| aW 1 [] (.n 9 (.agg [.ar e64 (Vec.rep 16 (0 : UInt64))]) (.ss (.k .z))) (qT dK 1 rfl 0 16 [.ar e64 (Vec.rep 16 (0 : UInt64))] (by kernel_rfl) (by decide) <| qe) (by kernel_rfl) ?_
   refine ai <| iQ [] 0 (.agg [.ar e64 (Vec.rep 16 (0 : UInt64))]) [.ar e64 (Vec.rep 16 (0 : UInt64))] (Pt.at g 0) dK rfl .all (by kernel_rfl) (by kernel_rfl) ?_
   intro sZ fF
   have fM := fF.bD (.k .z)
   refine aW 1 [] (.n 3 (I 1) (.s .a)) qe (by kernel_rfl) ?_
   refine ag <| ae <| aN (bz ?_)
   obtain rfl := Option.some.inj hm
   refine aO [.agg [.ar e64 (Vec.rep 16 (0 : UInt64))], I 1] (qo (.agg [.ar e64 (Vec.rep 16 (0 : UInt64))]) <| qc (fun w => Rd w (some ⟨g, 0, none⟩) (SV.cl [.ar e64 (Vec.rep 16 (0 : UInt64))])) (fM.F9 0 rfl) <| qe) (by kernel_rfl) ?_
   have g_ := fM.bD .z
   exact ⟨rfl, g_⟩
 rw [if_neg hc] at hm
 refine aS <| ae <| af <| af <| bg [] (.n 10 (I 0) (.s .a)) qe (by kernel_rfl) ?_
 refine ae <| aJ <| pg (pG b) (fun s L wr => ∃ (m_ : Vec UInt64 16) (aC : Int), (m_, aC) = s ∧ L = [(0, sl lN b.length lZ), (2, pt g 0), (4, pt g1 0), (10, I aC)] ∧ Cx F O w wr [Bx 157 g [.ar e64 (Vec.rep 16 (0 : UInt64))], Bx 157 g1 [.ar e64 m_]]) ((Vec.rep 16 (0 : UInt64)), (0 : Int)) r hm ⟨(Vec.rep 16 (0 : UInt64)), (0 : Int), rfl, rfl, dK⟩ (by kernel_rfl) ?_
 intro BU L_ xk y0 hrel hstep hr0
 obtain ⟨m_, aC, rfl, rfl, gX⟩ := hrel
 have hm := hstep; simp only [pG] at hm
 clear hstep
 refine af <| bg [] (.n 11 (.b (decide (aC < 16))) .a) qe (by kernel_rfl) ?_
 refine ae <| af <| aZ (aC < 16) (by kernel_rfl) (fun hc1 => ?_) (fun hc1 => ?_)
 · rw [if_pos hc1] at hm
   refine aS <| ae <| af <| aJ <| af <| bg [] (.n 5 (I aC) (.s .a)) qe (by kernel_rfl) ?_
   refine ae <| ax <| aW 4 [] (.n 14 (I aC) (.n 15 (sl lN b.length lZ) (.n 17 (I (aI (8 * aC))) (.s .a)))) qe (by kernel_rfl) ?_
   refine ai ?_
   obtain ⟨r_, dV, hm⟩ := ob hm
   refine ay [] 18 _ O4 (by kernel_rfl) (DU (F := N0) (O := N0) _ _ _ _ _ (Ro.n0 (sO.cx gX)) rfl uo (Cx.refl _) _ dV) ?_
   rintro e_ xB ⟨rfl, jb⟩
   have jf := gX.call jb
   refine ⟨.jc [.u64 r_.1, I r_.2], rfl, ?_⟩
   obtain ⟨bY, jk, hm⟩ := ob hm
   refine aW 4 [] (.n 19 (.u64 r_.1) (.n 21 (.v (.pointer (rD (some ⟨g1, 0, none⟩) aC 1))) (.kJ .a))) (qI g1 0 jk <| qe) (by kernel_rfl) ?_
   refine ai ?_
   obtain ⟨v, Yd, hm⟩ := nm hm
   refine nO (E := e64) (kk := 0) [] 1 (.u64 r_.1) [.u64 r_.1] Yd jk (Pt.EU (Pt.at g1 0) aC 1) jf rfl .h rfl (by kernel_rfl) (by kernel_rfl) ?_
   intro y5 jQ
   refine ag <| gm <| ae <| bg [] (.n 10 (I (aI (aC + 1))) (.ss (.Dl .z))) qe (by kernel_rfl) ?_
   exact jU (v, aI (aC + 1)) (Option.some.inj hm).symm ⟨v, aI (aC + 1), rfl, rfl, jQ⟩ (by kernel_rfl)
 rw [if_neg hc1] at hm
 refine dY (bU (bU (iL ?_)))
 have hm := cO hm hr0
 refine ae <| af <| ax <| aW 1 [] (.n 23 (.agg [.ar e64 m_]) (.ss (.k .z))) (qT gX 1 rfl 0 16 [.ar e64 m_] (by kernel_rfl) (by decide) <| qe) (by kernel_rfl) ?_
 refine ai <| iQ [] 0 (.agg [.ar e64 m_]) [.ar e64 m_] (Pt.at g 0) gX rfl .all (by kernel_rfl) (by kernel_rfl) ?_
 intro CW jS
 have dJ := jS.bD (.k .z)
 refine aW 1 [] (.n 3 (I 0) (.s .a)) qe (by kernel_rfl) ?_
 refine ag <| ae <| aN ?_
 obtain rfl := Option.some.inj hm
 refine aO [.agg [.ar e64 m_], I 0] (qo (.agg [.ar e64 m_]) <| qc (fun w => Rd w (some ⟨g, 0, none⟩) (SV.cl [.ar e64 m_])) (dJ.F9 0 rfl) <| qe) (by kernel_rfl) ?_
 have dB := dJ.bD .z
 exact ⟨rfl, dB⟩
theorem Py {F O : Nat → Prop} {w : World} (h : Vec UInt64 8) (jB : UInt64) (jC : UInt64) (last : Bool) (node : Bool) (k : Cx F O w w []) (r : (Vec UInt64 16)) (hm : yN h jB jC last node = some r) :
    Calls Tryz.prog 184 (vals [.agg [.ar e64 h], .agg [.u64 jB, .u64 jC], .b last, .b node]) w (fun e w' => e = .returned (SV.val (.agg [.ar e64 r])) ∧ Cx F O w w' []) := by
 unfold yN at hm
 refine calls [.agg [.ar e64 h], .agg [.u64 jB, .u64 jC], .b last, .b node] Tryz.func184 rfl (of_decide_eq_true (by kernel_rfl)) ?_
 refine af <| ax <| ai <| jT [] 4 (.agg [.ar e64 h]) [.ar e64 h] (by kernel_rfl) k ?_
 intro g w_ k_
 refine ai <| jT [] 5 (.agg [.u64 jB, .u64 jC]) [.u64 jB, .u64 jC] (by kernel_rfl) k_ ?_
 intro g1 o9 dK
 refine ai <| bJ [] 8 [.ar e64 (Vec.rep 16 (0 : UInt64))] (by kernel_rfl) dK ?_
 intro g2 sZ fF
 refine ag <| ae <| af <| ax <| ai <| bJ [] 9 [.ar e64 (Vec.rep 16 (0 : UInt64))] (by kernel_rfl) fF ?_
 intro g3 xk fM
 refine ag <| ae <| af ?_
 have g_ := fM.drew 1
 refine xQ bG (.q 0 0 (.q 1 0 (.op 2 .nil))) [2] g_ (.c (.kk (.k .z)) .l) (by kernel_rfl) (fun _ => ?_)
 obtain ⟨b, sO, hm⟩ := ob hm
 have hs := iq sO
 have hl := nC sO
 have hn : ((Vec.rep 16 (0 : UInt64)).l).length = 16 := (Vec.rep 16 (0 : UInt64)).h
 have hc : 16 ≤ 16 := (Nat.le_refl _)
 have hc1 : b.length ≤ 16 := by omega
 refine dG 2 0 [] (.n 11 (sl (some ⟨g3, 0, none⟩) b.length 16) (.n 12 (sl (some ⟨g, 0, none⟩) 8 8) (.Dl (.nG .a)))) (fun x hx => qp (0 ≤ (8 : Int) ∧ (8 : Int) ≤ ((16 : Nat) : Int)) (by omega) <| qo (.v (.slice (some ⟨g3, 0, none⟩) b.length 16)) <| qp (((some ⟨g3, 0, none⟩) : Option Addr).isSome = true ∧ Value.slice (zJ (some ⟨g3, 0, none⟩) 0 16 1) (Int.toNat (8 : Int) - 0) (16 - 0) = .slice (some ⟨g3, 0, none⟩) b.length 16) ⟨rfl, D8 _ _ _ _ _ (by omega)⟩ <| qo (.v (.slice (some ⟨g, 0, none⟩) 8 8)) <| qp (((some ⟨g, 0, none⟩) : Option Addr).isSome = true ∧ Value.slice (zJ (some ⟨g, 0, none⟩) 0 8 1) (8 - 0) (8 - 0) = .slice (some ⟨g, 0, none⟩) 8 8) ⟨rfl, D8 _ _ _ _ _ rfl⟩ <| qe) (by kernel_rfl) (fun _ => ?_)
 refine dw (by kernel_rfl) rfl ?_
 have gX := g_.bD (.bH .e)
 refine ML (E := e64) (dn := b.length) (dc := 16) (v := sl (some ⟨g, 0, none⟩) 8 8) (src := h.l) (lo := 0) (m' := 16) O_ [] 13 3 [] [] (Vec.rep 16 (0 : UInt64)) (by kernel_rfl) (Bj _ _ _).symm gX rfl (Src.sl (Rd.vec (gX.F9 0 rfl) (c := Enc.all e64 h.l) (off := 0) (by kernel_rfl)) h.h (by rfl)) h.h (by have := (Vec.rep 16 (0 : UInt64)).h; omega) (by omega) (by omega) ?_
 intro xB jb
 refine ⟨(jb.bD (.kk (.k .z))), fun _ => ?_⟩
 refine dP <| ae <| af <| ax <| ai ?_
 obtain ⟨r_, dV, hm⟩ := ob hm
 refine ay [] 14 _ O3 (by kernel_rfl) (Lj (F := N0) (O := N0)  (Cx.refl _) _ dV) ?_
 rintro e_ y5 ⟨rfl, jf⟩
 have jQ := jb.call jf
 refine ⟨.agg [.ar e64 r_], rfl, ?_⟩
 have jS := jQ.bD (.s (.kk (.k .e)))
 refine ai <| bJ [] 10 [.ar e64 (Vec.rep 8 (0 : UInt64))] (by kernel_rfl) jS ?_
 intro g4 CW dJ
 refine ai <| iQ [] 3 (.agg [.ar e64 r_]) [.ar e64 r_] (Pt.at g4 0) dJ rfl .all (by kernel_rfl) (by kernel_rfl) ?_
 intro Du dB
 refine ag <| ae <| af ?_
 have gz := dB.drew 1
 refine xQ bG (.q 0 0 (.q 1 0 (.op 2 .nil))) [2] gz (.c (.kk (.s (.k .e))) .l) (by kernel_rfl) (fun _ => ?_)
 obtain ⟨b1, yD, hm⟩ := ob hm
 have hs1 := iq yD
 have hl1 := nC yD
 have hn1 : ((D9 (Vec.rep 16 (0 : UInt64)) 0 b.length h.l).l).length = 16 := (D9 (Vec.rep 16 (0 : UInt64)) 0 b.length h.l).h
 have hc2 : 16 ≤ 16 := (Nat.le_refl _)
 obtain ⟨A, c, e_, hc3, hA, hc4⟩ := YT (some ⟨g3, 0, none⟩) (Int.toNat (8 : Int)) 16 1 (16 - Int.toNat (8 : Int)) b1.length (by omega) (by omega)
 refine dG 2 0 [] (.n 15 (sl A b1.length c) (.n 16 (sl (some ⟨g4, 0, none⟩) 8 8) (.kJ (.s .a)))) (fun x hx => qp (0 ≤ (8 : Int) ∧ (8 : Int) ≤ ((16 : Nat) : Int)) (by omega) <| qo (.v (.slice A b1.length c)) <| qp (((some ⟨g3, 0, none⟩) : Option Addr).isSome = true ∧ Value.slice (zJ (some ⟨g3, 0, none⟩) (Int.toNat (8 : Int)) 16 1) (16 - Int.toNat (8 : Int)) (16 - Int.toNat (8 : Int)) = .slice A b1.length c) ⟨rfl, e_⟩ <| qo (.v (.slice (some ⟨g4, 0, none⟩) 8 8)) <| qp (((some ⟨g4, 0, none⟩) : Option Addr).isSome = true ∧ Value.slice (zJ (some ⟨g4, 0, none⟩) 0 8 1) (8 - 0) (8 - 0) = .slice (some ⟨g4, 0, none⟩) 8 8) ⟨rfl, D8 _ _ _ _ _ rfl⟩ <| qe) (by kernel_rfl) (fun _ => ?_)
 refine dw (by kernel_rfl) rfl ?_
 have iI := gz.bD (.bH .e)
 refine ML (E := e64) (dn := b1.length) (dc := c) (v := sl (some ⟨g4, 0, none⟩) 8 8) (src := r_.l) (lo := Int.toNat (8 : Int)) (m' := 16) O_ [] 17 2 [] [] (D9 (Vec.rep 16 (0 : UInt64)) 0 b.length h.l) (by kernel_rfl) hA iI rfl (Src.sl (Rd.vec (iI.F9 3 rfl) (c := Enc.all e64 r_.l) (off := 0) (by kernel_rfl)) r_.h (by rfl)) r_.h (by have := (D9 (Vec.rep 16 (0 : UInt64)) 0 b.length h.l).h; omega) (by omega) (by omega) ?_
 intro Jn iJ
 refine ⟨(iJ.bD (.kk (.s (.k .e)))), fun _ => ?_⟩
 refine dP <| ae <| af <| ax ?_
 obtain ⟨aC, yE, hm⟩ := ob hm
 obtain ⟨x_1, kQ, hm⟩ := ob hm
 refine aW 6 [] (.n 22 (.u64 (aC ^^^ jB)) (.n 23 (.v (.pointer (rD (some ⟨g3, 0, none⟩) (12 : Int) 1))) (.nG .a))) (qV (iJ.rP 2 rfl e64 (D9 (D9 (Vec.rep 16 (0 : UInt64)) 0 b.length h.l) (Int.toNat (8 : Int)) b1.length r_.l) 0 (by kernel_rfl)) yE rfl (.u64 aC) rfl <| qs g1 0 <| qB iJ 0 rfl 0 (.u64 jB) (by kernel_rfl) <| qI g3 0 kQ <| qe) (by kernel_rfl) ?_
 refine ai ?_
 obtain ⟨v, Yd, hm⟩ := nm hm
 refine nO (E := e64) (kk := 0) [] 2 (.u64 (aC ^^^ jB)) [.u64 (aC ^^^ jB)] Yd kQ (Pt.EU (Pt.at g3 0) (12 : Int) 1) iJ rfl .h rfl (by kernel_rfl) (by kernel_rfl) ?_
 intro JW iK
 refine ag <| ae <| af <| ax ?_
 obtain ⟨bY, jk, hm⟩ := ob hm
 obtain ⟨iy, mf, hm⟩ := ob hm
 refine aW 6 [] (.n 28 (.u64 (bY ^^^ jC)) (.n 29 (.v (.pointer (rD (some ⟨g3, 0, none⟩) (13 : Int) 1))) (.ss (.kk (.s .a))))) (qV (iK.rP 2 rfl e64 v 0 (by kernel_rfl)) jk rfl (.u64 bY) rfl <| qs g1 0 <| qB iK 0 rfl 1 (.u64 jC) (by kernel_rfl) <| qI g3 0 mf <| qe) (by kernel_rfl) ?_
 refine ai ?_
 obtain ⟨v1, Jt, hm⟩ := nm hm
 refine nO (E := e64) (kk := 0) [] 2 (.u64 (bY ^^^ jC)) [.u64 (bY ^^^ jC)] Jt mf (Pt.EU (Pt.at g3 0) (13 : Int) 1) iK rfl .h rfl (by kernel_rfl) (by kernel_rfl) ?_
 intro BV iG
 refine ag <| ae <| vG (fun L wr => ∃ (v2 : Vec UInt64 16), uK node v2 = some r ∧ L = [(3, .b node), (8, pt g2 0), (9, pt g3 0)] ∧ Cx F O w wr [Bx 157 g2 [.ar e64 (Vec.rep 16 (0 : UInt64))], Bx 157 g3 [.ar e64 v2]]) ?_ ?_
 ·
  refine af <| bg [] (.n 30 (.b last) (.ss (.kk (.s .a)))) qe (by kernel_rfl) ?_
  refine ae <| bC last (by kernel_rfl) (fun hc5 => ?_) (fun hc5 => ?_)
  · rw [if_pos hc5] at hm
    refine ax ?_
    obtain ⟨iR, oW, hm⟩ := ob hm
    obtain ⟨kK, xe, hm⟩ := ob hm
    refine aW 4 [] (.n 33 (.u64 (18446744073709551615 ^^^ iR)) (.n 34 (.v (.pointer (rD (some ⟨g3, 0, none⟩) (14 : Int) 1))) (.s .a))) (qV (iG.rP 2 rfl e64 v1 0 (by kernel_rfl)) oW rfl (.u64 iR) rfl <| qI g3 0 xe <| qe) (by kernel_rfl) ?_
    refine ai ?_
    obtain ⟨v3, QP, hm⟩ := nm hm
    refine nO (E := e64) (kk := 0) [] 2 (.u64 (18446744073709551615 ^^^ iR)) [.u64 (18446744073709551615 ^^^ iR)] QP xe (Pt.EU (Pt.at g3 0) (14 : Int) 1) iG rfl .h rfl (by kernel_rfl) (by kernel_rfl) ?_
    intro Dv je
    refine ag ?_
    have ku := je.bD (.s (.kk .z))
    exact oJ ⟨v3, hm, rfl, ku⟩ (by kernel_rfl)
  rw [if_neg (by rw [hc5]; decide)] at hm
  refine aS ?_
  have oq := iG.bD (.s (.kk .z))
  exact oJ ⟨v1, hm, rfl, oq⟩ (by kernel_rfl)
 rintro L_ GG ⟨v2, hm, rfl, jL⟩
 simp only [uK] at hm
 refine vG (fun L wr => ∃ (v4 : Vec UInt64 16), uJ v4 = some r ∧ L = [(8, pt g2 0), (9, pt g3 0)] ∧ Cx F O w wr [Bx 157 g2 [.ar e64 (Vec.rep 16 (0 : UInt64))], Bx 157 g3 [.ar e64 v4]]) ?_ ?_
 ·
  refine af <| bg [] (.n 35 (.b node) (.s .a)) qe (by kernel_rfl) ?_
  refine ae <| bC node (by kernel_rfl) (fun hc6 => ?_) (fun hc6 => ?_)
  · rw [if_pos hc6] at hm
    refine ax ?_
    obtain ⟨lh, yS, hm⟩ := ob hm
    obtain ⟨qj, AQ, hm⟩ := ob hm
    refine aW 4 [] (.n 38 (.u64 (18446744073709551615 ^^^ lh)) (.n 39 (.v (.pointer (rD (some ⟨g3, 0, none⟩) (15 : Int) 1))) (.s .a))) (qV (jL.rP 1 rfl e64 v2 0 (by kernel_rfl)) yS rfl (.u64 lh) rfl <| qI g3 0 AQ <| qe) (by kernel_rfl) ?_
    refine ai ?_
    obtain ⟨v5, QQ, hm⟩ := nm hm
    refine nO (E := e64) (kk := 0) [] 1 (.u64 (18446744073709551615 ^^^ lh)) [.u64 (18446744073709551615 ^^^ lh)] QQ AQ (Pt.EU (Pt.at g3 0) (15 : Int) 1) jL rfl .h rfl (by kernel_rfl) (by kernel_rfl) ?_
    intro QN mQ
    refine ag ?_
    exact oJ ⟨v5, hm, rfl, mQ⟩ (by kernel_rfl)
  rw [if_neg (by rw [hc6]; decide)] at hm
  refine aS ?_
  exact oJ ⟨v2, hm, rfl, jL⟩ (by kernel_rfl)
 rintro L_ Pj ⟨v4, hm, rfl, oM⟩
 simp only [uJ] at hm
 refine af <| ax <| aW 1 [] (.n 40 (.agg [.ar e64 v4]) (.k .z)) (qT oM 1 rfl 0 16 [.ar e64 v4] (by kernel_rfl) (by decide) <| qe) (by kernel_rfl) ?_
 refine ai <| iQ [] 0 (.agg [.ar e64 v4]) [.ar e64 v4] (Pt.at g2 0) oM rfl .all (by kernel_rfl) (by kernel_rfl) ?_
 intro TZ oN
 have ni := oN.bD (.k .z)
 refine ag <| ae <| aN ?_
 obtain rfl := Option.some.inj hm
 refine aO [.agg [.ar e64 v4]] (qo (.agg [.ar e64 v4]) <| qc (fun w => Rd w (some ⟨g2, 0, none⟩) (SV.cl [.ar e64 v4])) (ni.F9 0 rfl) <| qe) (by kernel_rfl) ?_
 have nY := ni.bD .z
 exact ⟨rfl, nY⟩
theorem FT {F O : Nat → Prop} {w : World} (round : Int) (k : Cx F O w w []) (r : (Vec Int 16)) (hm : uM round = some r) :
    Calls Tryz.prog 190 (vals [I round]) w (fun e w' => e = .returned (SV.val (.agg [.ar eI r])) ∧ Cx F O w w' []) := by
 unfold uM at hm
 refine calls [I round] Tryz.func190 rfl (of_decide_eq_true (by kernel_rfl)) ?_
 refine af <| ax <| ai <| bJ [] 2 [.ar eI (Vec.rep 16 (0 : Int))] (by kernel_rfl) k ?_
 intro g w_ k_
 refine ag <| ae <| af <| ax <| aW 11 [] (.n 14 (.agg [.ar (eV eI 16) (⟨[(⟨[(0 : Int), (1 : Int), (2 : Int), (3 : Int), (4 : Int), (5 : Int), (6 : Int), (7 : Int), (8 : Int), (9 : Int), (10 : Int), (11 : Int), (12 : Int), (13 : Int), (14 : Int), (15 : Int)], rfl⟩ : Vec Int 16), (⟨[(14 : Int), (10 : Int), (4 : Int), (8 : Int), (9 : Int), (15 : Int), (13 : Int), (6 : Int), (1 : Int), (12 : Int), (0 : Int), (2 : Int), (11 : Int), (7 : Int), (5 : Int), (3 : Int)], rfl⟩ : Vec Int 16), (⟨[(11 : Int), (8 : Int), (12 : Int), (0 : Int), (5 : Int), (2 : Int), (15 : Int), (13 : Int), (10 : Int), (14 : Int), (3 : Int), (6 : Int), (7 : Int), (1 : Int), (9 : Int), (4 : Int)], rfl⟩ : Vec Int 16), (⟨[(7 : Int), (9 : Int), (3 : Int), (1 : Int), (13 : Int), (12 : Int), (11 : Int), (14 : Int), (2 : Int), (6 : Int), (5 : Int), (10 : Int), (4 : Int), (0 : Int), (15 : Int), (8 : Int)], rfl⟩ : Vec Int 16), (⟨[(9 : Int), (0 : Int), (5 : Int), (7 : Int), (2 : Int), (4 : Int), (10 : Int), (15 : Int), (14 : Int), (1 : Int), (11 : Int), (12 : Int), (6 : Int), (8 : Int), (3 : Int), (13 : Int)], rfl⟩ : Vec Int 16), (⟨[(2 : Int), (12 : Int), (6 : Int), (10 : Int), (0 : Int), (11 : Int), (8 : Int), (3 : Int), (4 : Int), (13 : Int), (7 : Int), (5 : Int), (15 : Int), (14 : Int), (1 : Int), (9 : Int)], rfl⟩ : Vec Int 16), (⟨[(12 : Int), (5 : Int), (1 : Int), (15 : Int), (14 : Int), (13 : Int), (4 : Int), (10 : Int), (0 : Int), (7 : Int), (6 : Int), (3 : Int), (9 : Int), (2 : Int), (8 : Int), (11 : Int)], rfl⟩ : Vec Int 16), (⟨[(13 : Int), (11 : Int), (7 : Int), (14 : Int), (12 : Int), (1 : Int), (3 : Int), (9 : Int), (5 : Int), (0 : Int), (15 : Int), (4 : Int), (8 : Int), (6 : Int), (2 : Int), (10 : Int)], rfl⟩ : Vec Int 16), (⟨[(6 : Int), (15 : Int), (14 : Int), (9 : Int), (11 : Int), (3 : Int), (0 : Int), (8 : Int), (12 : Int), (2 : Int), (13 : Int), (7 : Int), (1 : Int), (4 : Int), (10 : Int), (5 : Int)], rfl⟩ : Vec Int 16), (⟨[(10 : Int), (2 : Int), (8 : Int), (4 : Int), (7 : Int), (6 : Int), (1 : Int), (5 : Int), (15 : Int), (11 : Int), (9 : Int), (14 : Int), (3 : Int), (12 : Int), (13 : Int), (0 : Int)], rfl⟩ : Vec Int 16)], rfl⟩ : Vec (Vec Int 16) 10)]) .a) qe (by kernel_rfl) ?_
 refine ai <| bJ [] 3 [.ar (eV eI 16) (Vec.rep 10 (Vec.rep 16 (0 : Int)))] (by kernel_rfl) k_ ?_
 intro g1 o9 dK
 refine ai <| iQ [] 1 (.agg [.ar (eV eI 16) (⟨[(⟨[(0 : Int), (1 : Int), (2 : Int), (3 : Int), (4 : Int), (5 : Int), (6 : Int), (7 : Int), (8 : Int), (9 : Int), (10 : Int), (11 : Int), (12 : Int), (13 : Int), (14 : Int), (15 : Int)], rfl⟩ : Vec Int 16), (⟨[(14 : Int), (10 : Int), (4 : Int), (8 : Int), (9 : Int), (15 : Int), (13 : Int), (6 : Int), (1 : Int), (12 : Int), (0 : Int), (2 : Int), (11 : Int), (7 : Int), (5 : Int), (3 : Int)], rfl⟩ : Vec Int 16), (⟨[(11 : Int), (8 : Int), (12 : Int), (0 : Int), (5 : Int), (2 : Int), (15 : Int), (13 : Int), (10 : Int), (14 : Int), (3 : Int), (6 : Int), (7 : Int), (1 : Int), (9 : Int), (4 : Int)], rfl⟩ : Vec Int 16), (⟨[(7 : Int), (9 : Int), (3 : Int), (1 : Int), (13 : Int), (12 : Int), (11 : Int), (14 : Int), (2 : Int), (6 : Int), (5 : Int), (10 : Int), (4 : Int), (0 : Int), (15 : Int), (8 : Int)], rfl⟩ : Vec Int 16), (⟨[(9 : Int), (0 : Int), (5 : Int), (7 : Int), (2 : Int), (4 : Int), (10 : Int), (15 : Int), (14 : Int), (1 : Int), (11 : Int), (12 : Int), (6 : Int), (8 : Int), (3 : Int), (13 : Int)], rfl⟩ : Vec Int 16), (⟨[(2 : Int), (12 : Int), (6 : Int), (10 : Int), (0 : Int), (11 : Int), (8 : Int), (3 : Int), (4 : Int), (13 : Int), (7 : Int), (5 : Int), (15 : Int), (14 : Int), (1 : Int), (9 : Int)], rfl⟩ : Vec Int 16), (⟨[(12 : Int), (5 : Int), (1 : Int), (15 : Int), (14 : Int), (13 : Int), (4 : Int), (10 : Int), (0 : Int), (7 : Int), (6 : Int), (3 : Int), (9 : Int), (2 : Int), (8 : Int), (11 : Int)], rfl⟩ : Vec Int 16), (⟨[(13 : Int), (11 : Int), (7 : Int), (14 : Int), (12 : Int), (1 : Int), (3 : Int), (9 : Int), (5 : Int), (0 : Int), (15 : Int), (4 : Int), (8 : Int), (6 : Int), (2 : Int), (10 : Int)], rfl⟩ : Vec Int 16), (⟨[(6 : Int), (15 : Int), (14 : Int), (9 : Int), (11 : Int), (3 : Int), (0 : Int), (8 : Int), (12 : Int), (2 : Int), (13 : Int), (7 : Int), (1 : Int), (4 : Int), (10 : Int), (5 : Int)], rfl⟩ : Vec Int 16), (⟨[(10 : Int), (2 : Int), (8 : Int), (4 : Int), (7 : Int), (6 : Int), (1 : Int), (5 : Int), (15 : Int), (11 : Int), (9 : Int), (14 : Int), (3 : Int), (12 : Int), (13 : Int), (0 : Int)], rfl⟩ : Vec Int 16)], rfl⟩ : Vec (Vec Int 16) 10)]) [.ar (eV eI 16) (⟨[(⟨[(0 : Int), (1 : Int), (2 : Int), (3 : Int), (4 : Int), (5 : Int), (6 : Int), (7 : Int), (8 : Int), (9 : Int), (10 : Int), (11 : Int), (12 : Int), (13 : Int), (14 : Int), (15 : Int)], rfl⟩ : Vec Int 16), (⟨[(14 : Int), (10 : Int), (4 : Int), (8 : Int), (9 : Int), (15 : Int), (13 : Int), (6 : Int), (1 : Int), (12 : Int), (0 : Int), (2 : Int), (11 : Int), (7 : Int), (5 : Int), (3 : Int)], rfl⟩ : Vec Int 16), (⟨[(11 : Int), (8 : Int), (12 : Int), (0 : Int), (5 : Int), (2 : Int), (15 : Int), (13 : Int), (10 : Int), (14 : Int), (3 : Int), (6 : Int), (7 : Int), (1 : Int), (9 : Int), (4 : Int)], rfl⟩ : Vec Int 16), (⟨[(7 : Int), (9 : Int), (3 : Int), (1 : Int), (13 : Int), (12 : Int), (11 : Int), (14 : Int), (2 : Int), (6 : Int), (5 : Int), (10 : Int), (4 : Int), (0 : Int), (15 : Int), (8 : Int)], rfl⟩ : Vec Int 16), (⟨[(9 : Int), (0 : Int), (5 : Int), (7 : Int), (2 : Int), (4 : Int), (10 : Int), (15 : Int), (14 : Int), (1 : Int), (11 : Int), (12 : Int), (6 : Int), (8 : Int), (3 : Int), (13 : Int)], rfl⟩ : Vec Int 16), (⟨[(2 : Int), (12 : Int), (6 : Int), (10 : Int), (0 : Int), (11 : Int), (8 : Int), (3 : Int), (4 : Int), (13 : Int), (7 : Int), (5 : Int), (15 : Int), (14 : Int), (1 : Int), (9 : Int)], rfl⟩ : Vec Int 16), (⟨[(12 : Int), (5 : Int), (1 : Int), (15 : Int), (14 : Int), (13 : Int), (4 : Int), (10 : Int), (0 : Int), (7 : Int), (6 : Int), (3 : Int), (9 : Int), (2 : Int), (8 : Int), (11 : Int)], rfl⟩ : Vec Int 16), (⟨[(13 : Int), (11 : Int), (7 : Int), (14 : Int), (12 : Int), (1 : Int), (3 : Int), (9 : Int), (5 : Int), (0 : Int), (15 : Int), (4 : Int), (8 : Int), (6 : Int), (2 : Int), (10 : Int)], rfl⟩ : Vec Int 16), (⟨[(6 : Int), (15 : Int), (14 : Int), (9 : Int), (11 : Int), (3 : Int), (0 : Int), (8 : Int), (12 : Int), (2 : Int), (13 : Int), (7 : Int), (1 : Int), (4 : Int), (10 : Int), (5 : Int)], rfl⟩ : Vec Int 16), (⟨[(10 : Int), (2 : Int), (8 : Int), (4 : Int), (7 : Int), (6 : Int), (1 : Int), (5 : Int), (15 : Int), (11 : Int), (9 : Int), (14 : Int), (3 : Int), (12 : Int), (13 : Int), (0 : Int)], rfl⟩ : Vec Int 16)], rfl⟩ : Vec (Vec Int 16) 10)] (Pt.at g1 0) dK rfl .all (by kernel_rfl) (by kernel_rfl) ?_
 intro sZ fF
 refine ag <| ae <| af <| ax ?_
 obtain ⟨aC, yE, hm⟩ := ob hm
 refine aW 6 [] (.n 20 (.agg [.ar eI aC]) (.ss (.k .z))) (qp ((10 : Int) ≠ (0 : Int)) (by omega) <| qp ((10 : Int) ≠ (0 : Int)) (by omega) <| qI g1 0 yE <| qR [.ar eI aC] (Rd.elV (fF.rP 1 rfl (eV eI 16) (⟨[(⟨[(0 : Int), (1 : Int), (2 : Int), (3 : Int), (4 : Int), (5 : Int), (6 : Int), (7 : Int), (8 : Int), (9 : Int), (10 : Int), (11 : Int), (12 : Int), (13 : Int), (14 : Int), (15 : Int)], rfl⟩ : Vec Int 16), (⟨[(14 : Int), (10 : Int), (4 : Int), (8 : Int), (9 : Int), (15 : Int), (13 : Int), (6 : Int), (1 : Int), (12 : Int), (0 : Int), (2 : Int), (11 : Int), (7 : Int), (5 : Int), (3 : Int)], rfl⟩ : Vec Int 16), (⟨[(11 : Int), (8 : Int), (12 : Int), (0 : Int), (5 : Int), (2 : Int), (15 : Int), (13 : Int), (10 : Int), (14 : Int), (3 : Int), (6 : Int), (7 : Int), (1 : Int), (9 : Int), (4 : Int)], rfl⟩ : Vec Int 16), (⟨[(7 : Int), (9 : Int), (3 : Int), (1 : Int), (13 : Int), (12 : Int), (11 : Int), (14 : Int), (2 : Int), (6 : Int), (5 : Int), (10 : Int), (4 : Int), (0 : Int), (15 : Int), (8 : Int)], rfl⟩ : Vec Int 16), (⟨[(9 : Int), (0 : Int), (5 : Int), (7 : Int), (2 : Int), (4 : Int), (10 : Int), (15 : Int), (14 : Int), (1 : Int), (11 : Int), (12 : Int), (6 : Int), (8 : Int), (3 : Int), (13 : Int)], rfl⟩ : Vec Int 16), (⟨[(2 : Int), (12 : Int), (6 : Int), (10 : Int), (0 : Int), (11 : Int), (8 : Int), (3 : Int), (4 : Int), (13 : Int), (7 : Int), (5 : Int), (15 : Int), (14 : Int), (1 : Int), (9 : Int)], rfl⟩ : Vec Int 16), (⟨[(12 : Int), (5 : Int), (1 : Int), (15 : Int), (14 : Int), (13 : Int), (4 : Int), (10 : Int), (0 : Int), (7 : Int), (6 : Int), (3 : Int), (9 : Int), (2 : Int), (8 : Int), (11 : Int)], rfl⟩ : Vec Int 16), (⟨[(13 : Int), (11 : Int), (7 : Int), (14 : Int), (12 : Int), (1 : Int), (3 : Int), (9 : Int), (5 : Int), (0 : Int), (15 : Int), (4 : Int), (8 : Int), (6 : Int), (2 : Int), (10 : Int)], rfl⟩ : Vec Int 16), (⟨[(6 : Int), (15 : Int), (14 : Int), (9 : Int), (11 : Int), (3 : Int), (0 : Int), (8 : Int), (12 : Int), (2 : Int), (13 : Int), (7 : Int), (1 : Int), (4 : Int), (10 : Int), (5 : Int)], rfl⟩ : Vec Int 16), (⟨[(10 : Int), (2 : Int), (8 : Int), (4 : Int), (7 : Int), (6 : Int), (1 : Int), (5 : Int), (15 : Int), (11 : Int), (9 : Int), (14 : Int), (3 : Int), (12 : Int), (13 : Int), (0 : Int)], rfl⟩ : Vec Int 16)], rfl⟩ : Vec (Vec Int 16) 10) 0 (by kernel_rfl)) yE (Pt.Dk (some ⟨g1, 0, none⟩) (Int.tmod (aI ((Int.tmod round 10) + 10)) 10) 16) (by decide)) <| qe) (by kernel_rfl) ?_
 refine ai <| iQ [] 0 (.agg [.ar eI aC]) [.ar eI aC] (Pt.at g 0) fF rfl .all (by kernel_rfl) (by kernel_rfl) ?_
 intro xk fM
 have g_ := fM.bD (.k .z)
 refine ag <| ae <| aN ?_
 obtain rfl := Option.some.inj hm
 refine aO [.agg [.ar eI aC]] (qo (.agg [.ar eI aC]) <| qc (fun w => Rd w (some ⟨g, 0, none⟩) (SV.cl [.ar eI aC])) (g_.F9 0 rfl) <| qe) (by kernel_rfl) ?_
 have gX := g_.bD .z
 exact ⟨rfl, gX⟩
theorem KE {F O : Nat → Prop} {w : World} (k : Cx F O w w []) (r : (Vec (Vec Int 4) 8)) (hm : vY = some r) :
    Calls Tryz.prog 191 (vals []) w (fun e w' => e = .returned (SV.val (.agg [.ar (eV eI 4) r])) ∧ Cx F O w w' []) := by
 unfold vY at hm
 refine calls [] Tryz.func191 rfl (of_decide_eq_true (by kernel_rfl)) ?_
 refine af <| ax <| ai <| bJ [] 0 [.ar (eV eI 4) (Vec.rep 8 (Vec.rep 4 (0 : Int)))] (by kernel_rfl) k ?_
 intro g w_ k_
 refine ag <| ae <| af <| ax <| aW 9 [] (.n 9 (.agg [.ar (eV eI 4) (⟨[(⟨[(0 : Int), (4 : Int), (8 : Int), (12 : Int)], rfl⟩ : Vec Int 4), (⟨[(1 : Int), (5 : Int), (9 : Int), (13 : Int)], rfl⟩ : Vec Int 4), (⟨[(2 : Int), (6 : Int), (10 : Int), (14 : Int)], rfl⟩ : Vec Int 4), (⟨[(3 : Int), (7 : Int), (11 : Int), (15 : Int)], rfl⟩ : Vec Int 4), (⟨[(0 : Int), (5 : Int), (10 : Int), (15 : Int)], rfl⟩ : Vec Int 4), (⟨[(1 : Int), (6 : Int), (11 : Int), (12 : Int)], rfl⟩ : Vec Int 4), (⟨[(2 : Int), (7 : Int), (8 : Int), (13 : Int)], rfl⟩ : Vec Int 4), (⟨[(3 : Int), (4 : Int), (9 : Int), (14 : Int)], rfl⟩ : Vec Int 4)], rfl⟩ : Vec (Vec Int 4) 8)]) .a) qe (by kernel_rfl) ?_
 refine ai <| iQ [] 0 (.agg [.ar (eV eI 4) (⟨[(⟨[(0 : Int), (4 : Int), (8 : Int), (12 : Int)], rfl⟩ : Vec Int 4), (⟨[(1 : Int), (5 : Int), (9 : Int), (13 : Int)], rfl⟩ : Vec Int 4), (⟨[(2 : Int), (6 : Int), (10 : Int), (14 : Int)], rfl⟩ : Vec Int 4), (⟨[(3 : Int), (7 : Int), (11 : Int), (15 : Int)], rfl⟩ : Vec Int 4), (⟨[(0 : Int), (5 : Int), (10 : Int), (15 : Int)], rfl⟩ : Vec Int 4), (⟨[(1 : Int), (6 : Int), (11 : Int), (12 : Int)], rfl⟩ : Vec Int 4), (⟨[(2 : Int), (7 : Int), (8 : Int), (13 : Int)], rfl⟩ : Vec Int 4), (⟨[(3 : Int), (4 : Int), (9 : Int), (14 : Int)], rfl⟩ : Vec Int 4)], rfl⟩ : Vec (Vec Int 4) 8)]) [.ar (eV eI 4) (⟨[(⟨[(0 : Int), (4 : Int), (8 : Int), (12 : Int)], rfl⟩ : Vec Int 4), (⟨[(1 : Int), (5 : Int), (9 : Int), (13 : Int)], rfl⟩ : Vec Int 4), (⟨[(2 : Int), (6 : Int), (10 : Int), (14 : Int)], rfl⟩ : Vec Int 4), (⟨[(3 : Int), (7 : Int), (11 : Int), (15 : Int)], rfl⟩ : Vec Int 4), (⟨[(0 : Int), (5 : Int), (10 : Int), (15 : Int)], rfl⟩ : Vec Int 4), (⟨[(1 : Int), (6 : Int), (11 : Int), (12 : Int)], rfl⟩ : Vec Int 4), (⟨[(2 : Int), (7 : Int), (8 : Int), (13 : Int)], rfl⟩ : Vec Int 4), (⟨[(3 : Int), (4 : Int), (9 : Int), (14 : Int)], rfl⟩ : Vec Int 4)], rfl⟩ : Vec (Vec Int 4) 8)] (Pt.at g 0) k_ rfl .all (by kernel_rfl) (by kernel_rfl) ?_
 intro o9 dK
 refine ag <| ae <| aN ?_
 obtain rfl := Option.some.inj hm
 refine aO [.agg [.ar (eV eI 4) (⟨[(⟨[(0 : Int), (4 : Int), (8 : Int), (12 : Int)], rfl⟩ : Vec Int 4), (⟨[(1 : Int), (5 : Int), (9 : Int), (13 : Int)], rfl⟩ : Vec Int 4), (⟨[(2 : Int), (6 : Int), (10 : Int), (14 : Int)], rfl⟩ : Vec Int 4), (⟨[(3 : Int), (7 : Int), (11 : Int), (15 : Int)], rfl⟩ : Vec Int 4), (⟨[(0 : Int), (5 : Int), (10 : Int), (15 : Int)], rfl⟩ : Vec Int 4), (⟨[(1 : Int), (6 : Int), (11 : Int), (12 : Int)], rfl⟩ : Vec Int 4), (⟨[(2 : Int), (7 : Int), (8 : Int), (13 : Int)], rfl⟩ : Vec Int 4), (⟨[(3 : Int), (4 : Int), (9 : Int), (14 : Int)], rfl⟩ : Vec Int 4)], rfl⟩ : Vec (Vec Int 4) 8)]] (qo (.agg [.ar (eV eI 4) (⟨[(⟨[(0 : Int), (4 : Int), (8 : Int), (12 : Int)], rfl⟩ : Vec Int 4), (⟨[(1 : Int), (5 : Int), (9 : Int), (13 : Int)], rfl⟩ : Vec Int 4), (⟨[(2 : Int), (6 : Int), (10 : Int), (14 : Int)], rfl⟩ : Vec Int 4), (⟨[(3 : Int), (7 : Int), (11 : Int), (15 : Int)], rfl⟩ : Vec Int 4), (⟨[(0 : Int), (5 : Int), (10 : Int), (15 : Int)], rfl⟩ : Vec Int 4), (⟨[(1 : Int), (6 : Int), (11 : Int), (12 : Int)], rfl⟩ : Vec Int 4), (⟨[(2 : Int), (7 : Int), (8 : Int), (13 : Int)], rfl⟩ : Vec Int 4), (⟨[(3 : Int), (4 : Int), (9 : Int), (14 : Int)], rfl⟩ : Vec Int 4)], rfl⟩ : Vec (Vec Int 4) 8)]) <| qc (fun w => Rd w (some ⟨g, 0, none⟩) (SV.cl [.ar (eV eI 4) (⟨[(⟨[(0 : Int), (4 : Int), (8 : Int), (12 : Int)], rfl⟩ : Vec Int 4), (⟨[(1 : Int), (5 : Int), (9 : Int), (13 : Int)], rfl⟩ : Vec Int 4), (⟨[(2 : Int), (6 : Int), (10 : Int), (14 : Int)], rfl⟩ : Vec Int 4), (⟨[(3 : Int), (7 : Int), (11 : Int), (15 : Int)], rfl⟩ : Vec Int 4), (⟨[(0 : Int), (5 : Int), (10 : Int), (15 : Int)], rfl⟩ : Vec Int 4), (⟨[(1 : Int), (6 : Int), (11 : Int), (12 : Int)], rfl⟩ : Vec Int 4), (⟨[(2 : Int), (7 : Int), (8 : Int), (13 : Int)], rfl⟩ : Vec Int 4), (⟨[(3 : Int), (4 : Int), (9 : Int), (14 : Int)], rfl⟩ : Vec Int 4)], rfl⟩ : Vec (Vec Int 4) 8)])) (dK.F9 0 rfl) <| qe) (by kernel_rfl) ?_
 have fF := dK.bD .z
 exact ⟨rfl, fF⟩
theorem oG {F O : Nat → Prop} {w : World} (x_ : UInt64) (k_ : Int) (k : Cx F O w w []) (r : UInt64) (hm : fC x_ k_ = some r) :
    Calls Tryz.prog 195 (vals [.u64 x_, I k_]) w (fun e w' => e = .returned (SV.val (.u64 r)) ∧ Cx F O w w' []) := by
 unfold fC at hm
 refine calls [.u64 x_, I k_] Tryz.func195 rfl (of_decide_eq_true (by kernel_rfl)) ?_
 refine af <| bg [] .a qe (by kernel_rfl) ?_
 refine ae <| af <| bg [] (.n 5 (.u64 ((UInt64.ofInt k_) &&& 63)) (.k .z)) qe (by kernel_rfl) ?_
 refine ae <| af <| bg [] (.n 4 (.u64 ((o_ x_ (((UInt64.ofInt k_) &&& 63).toNat)) ||| (jR x_ (((64 : UInt64) - ((UInt64.ofInt k_) &&& 63)).toNat)))) .z) qe (by kernel_rfl) ?_
 refine ae <| aN ?_
 obtain rfl := Option.some.inj hm
 refine aO [.u64 ((o_ x_ (((UInt64.ofInt k_) &&& 63).toNat)) ||| (jR x_ (((64 : UInt64) - ((UInt64.ofInt k_) &&& 63)).toNat)))] qe (by kernel_rfl) ?_
 exact ⟨rfl, k⟩
theorem Pz {F O : Nat → Prop} {w : World} (v : Vec UInt64 16) (p : Vec Int 4) (x_ : UInt64) (y_ : UInt64) (fH : Nat) (k : Cx F O w w [Bx 157 fH [.ar e64 v]]) (r : (Vec UInt64 16)) (hm : wH v p x_ y_ = some r) :
    Calls Tryz.prog 192 (vals [pt fH 0, .agg [.ar eI p], .u64 x_, .u64 y_]) w (fun e w' => e = .returned (SV.val (.jc [])) ∧ Cx F O w w' [Bx 157 fH [.ar e64 r]]) := by
 unfold wH at hm
 refine calls [pt fH 0, .agg [.ar eI p], .u64 x_, .u64 y_] Tryz.func192 rfl (of_decide_eq_true (by kernel_rfl)) ?_
 refine af <| ax <| ai <| jT [] 5 (.agg [.ar eI p]) [.ar eI p] (by kernel_rfl) k ?_
 intro g w_ k_
 refine ag <| ae <| af ?_
 obtain ⟨bY, jk, hm⟩ := ob hm
 obtain ⟨iy, mf, hm⟩ := ob hm
 obtain ⟨iR, oW, hm⟩ := ob hm
 obtain ⟨kK, xe, hm⟩ := ob hm
 refine W_d bG (by kernel_rfl) (.n 8 (I bY) (.n 9 (I iy) (.n 10 (I iR) (.n 11 (I kK) (.s (.k (.s .a))))))) (fun m => qV ((k_.drew m).rP 1 rfl eI p 0 (by kernel_rfl)) jk rfl (I bY) rfl <| qV ((k_.drew m).rP 1 rfl eI p 0 (by kernel_rfl)) mf rfl (I iy) rfl <| qV ((k_.drew m).rP 1 rfl eI p 0 (by kernel_rfl)) oW rfl (I iR) rfl <| qV ((k_.drew m).rP 1 rfl eI p 0 (by kernel_rfl)) xe rfl (I kK) rfl <| qe) (by kernel_rfl) (fun m_ => ?_)
 have dK := k_.drew m_
 refine ae <| af ?_
 have fF := dK.drew 1
 refine xQ bG (.q 0 0 (.q 1 0 (.q 2 0 (.q 3 0 (.q 4 0 (.q 5 0 (.q 6 0 (.q 7 0 (.q 8 0 (.q 9 0 (.q 10 0 (.q 11 0 (.q 12 0 (.q 13 0 (.q 14 0 (.op 15 .nil)))))))))))))))) [15] fF (.c (.s (.k .e)) .l) (by kernel_rfl) (fun _ => ?_)
 obtain ⟨lh, yS, hm⟩ := ob hm
 obtain ⟨qj, AQ, hm⟩ := ob hm
 obtain ⟨CO, Lm, hm⟩ := ob hm
 refine dG 15 0 [] (.n 32 (.u64 (lh + (qj + x_))) (.n 34 (.v (.pointer (rD (some ⟨fH, 0, none⟩) bY 1))) (.bH (.k (.s .a))))) (fun x hx => qs fH 0 <| qV (hx.rP 0 rfl e64 v 0 (by kernel_rfl)) yS rfl (.u64 lh) rfl <| qs fH 0 <| qV (hx.rP 0 rfl e64 v 0 (by kernel_rfl)) AQ rfl (.u64 qj) rfl <| qs fH 0 <| qI fH 0 Lm <| qe) (by kernel_rfl) (fun _ => ?_)
 refine dw (by kernel_rfl) rfl ?_
 obtain ⟨v1, Jt, hm⟩ := nm hm
 refine nO (E := e64) (kk := 0) [] 0 (.u64 (lh + (qj + x_))) [.u64 (lh + (qj + x_))] Jt Lm (Pt.EU (Pt.at fH 0) bY 1) fF rfl .h rfl (by kernel_rfl) (by kernel_rfl) ?_
 intro o9 fM
 refine ⟨(fM.bD (.s (.k .e))), fun _ => ?_⟩
 refine dP <| ae <| af ?_
 have g_ := fM.drew 1
 refine xQ bG (.q 0 1 (.q 1 1 (.q 2 1 (.q 3 1 (.q 4 1 (.q 5 1 (.q 6 0 (.q 7 1 (.q 8 1 (.q 9 1 (.q 10 1 (.q 11 0 (.q 12 0 (.q 14 1 (.op 13 (.q 15 1 (.op 16 .nil))))))))))))))))) [13, 16] g_ (.c (.kk .e) (.c (.s (.k .e)) .l)) (by kernel_rfl) (fun _ => ?_)
 obtain ⟨zK, Lp, hm⟩ := ob hm
 refine dG 6 1 [] (.n 35 (pt fH 0) (.n 36 (I kK) (.n 40 (.v (.pointer (rD (some ⟨fH, 0, none⟩) kK 1))) (.ss .a)))) (fun x hx => qs fH 0 <| qI fH 0 Lp <| qe) (by kernel_rfl) (fun _ => ?_)
 refine dG 1 0 [] (.n 41 (.u64 zK) (.kk (.s .a))) (fun x hx => qC (.u64 zK) (Rd.el (k := 0) (hx.rP 0 rfl e64 v1 0 (by kernel_rfl)) Lp (Pt.Dk (some ⟨fH, 0, none⟩) kK 1) rfl) <| qe) (by kernel_rfl) (fun _ => ?_)
 obtain ⟨qZ, Ey, hm⟩ := ob hm
 refine dG 4 1 [] (.n 45 (.v (.pointer (rD (some ⟨fH, 0, none⟩) bY 1))) .a) (fun x hx => qs fH 0 <| qI fH 0 Ey <| qe) (by kernel_rfl) (fun _ => ?_)
 refine dG 2 0 [] (.n 47 (.u64 (zK ^^^ qZ)) (.ss .a)) (fun x hx => qC (.u64 qZ) (Rd.el (k := 0) (hx.rP 0 rfl e64 v1 0 (by kernel_rfl)) Ey (Pt.Dk (some ⟨fH, 0, none⟩) bY 1) rfl) <| qe) (by kernel_rfl) (fun _ => ?_)
 refine dG 1 1 [] (.n 49 (pt fH 0) (.k (.s .a))) (fun x hx => qs fH 0 <| qe) (by kernel_rfl) (fun _ => ?_)
 refine dw (by kernel_rfl) rfl ?_
 obtain ⟨r_, dV, hm⟩ := ob hm
 refine ay [] 48 _ FH (by kernel_rfl) (oG (F := N0) (O := N0) _ _ (Cx.refl _) _ dV) ?_
 rintro e_ sZ ⟨rfl, gX⟩
 have jb := g_.call gX
 refine ⟨.u64 r_, rfl, ?_⟩
 refine ⟨jb, fun _ => ?_⟩
 obtain ⟨fZ, Ju, hm⟩ := ob hm
 refine dG 1 1 [] (.n 50 (.v (.pointer (rD (some ⟨fH, 0, none⟩) kK 1))) (.k (.nG .a))) (fun x hx => qI fH 0 Ju <| qe) (by kernel_rfl) (fun _ => ?_)
 refine dw (by kernel_rfl) rfl ?_
 obtain ⟨v2, h_v2, hm⟩ := nm hm
 refine nO (E := e64) (kk := 0) [] 0 (.u64 r_) [.u64 r_] h_v2 Ju (Pt.EU (Pt.at fH 0) kK 1) jb rfl .h rfl (by kernel_rfl) (by kernel_rfl) ?_
 intro xk jf
 refine ⟨(jf.bD (.s (.k .e))), fun _ => ?_⟩
 refine dP <| ae <| af ?_
 have jQ := jf.drew 1
 refine xQ bG (.q 0 0 (.q 1 0 (.q 2 0 (.q 3 0 (.q 4 0 (.q 5 0 (.q 6 0 (.q 7 0 (.q 8 0 (.q 9 0 (.q 10 0 (.q 11 0 (.q 12 0 (.op 13 .nil)))))))))))))) [13] jQ (.c (.s (.k .e)) .l) (by kernel_rfl) (fun _ => ?_)
 obtain ⟨Ea, NI, hm⟩ := ob hm
 obtain ⟨H5, NJ, hm⟩ := ob hm
 obtain ⟨J8, NK, hm⟩ := ob hm
 refine dG 13 0 [] (.n 61 (.u64 (Ea + H5)) (.n 63 (.v (.pointer (rD (some ⟨fH, 0, none⟩) iR 1))) (.ss .a))) (fun x hx => qs fH 0 <| qV (hx.rP 0 rfl e64 v2 0 (by kernel_rfl)) NI rfl (.u64 Ea) rfl <| qs fH 0 <| qV (hx.rP 0 rfl e64 v2 0 (by kernel_rfl)) NJ rfl (.u64 H5) rfl <| qs fH 0 <| qI fH 0 NK <| qe) (by kernel_rfl) (fun _ => ?_)
 refine dw (by kernel_rfl) rfl ?_
 have jS := jQ.bD (.kk .e)
 obtain ⟨v3, QP, hm⟩ := nm hm
 refine nO (E := e64) (kk := 0) [] 0 (.u64 (Ea + H5)) [.u64 (Ea + H5)] QP NK (Pt.EU (Pt.at fH 0) iR 1) jS rfl .h rfl (by kernel_rfl) (by kernel_rfl) ?_
 intro xB dJ
 refine ⟨(dJ.bD (.s (.k .e))), fun _ => ?_⟩
 refine dP <| ae <| af ?_
 have dB := dJ.drew 1
 refine xQ bG (.q 0 1 (.q 1 1 (.q 2 1 (.q 3 1 (.q 4 1 (.q 5 1 (.q 6 0 (.q 7 1 (.q 8 1 (.q 9 1 (.q 10 1 (.q 11 0 (.q 12 0 (.q 14 1 (.op 13 (.q 15 1 (.op 16 .nil))))))))))))))))) [13, 16] dB (.c (.kk .e) (.c (.s (.k .e)) .l)) (by kernel_rfl) (fun _ => ?_)
 obtain ⟨Dp, NL, hm⟩ := ob hm
 refine dG 6 1 [] (.n 64 (pt fH 0) (.n 65 (I iy) (.n 69 (.v (.pointer (rD (some ⟨fH, 0, none⟩) iy 1))) (.ss .a)))) (fun x hx => qs fH 0 <| qI fH 0 NL <| qe) (by kernel_rfl) (fun _ => ?_)
 refine dG 1 0 [] (.n 70 (.u64 Dp) (.kk (.s .a))) (fun x hx => qC (.u64 Dp) (Rd.el (k := 0) (hx.rP 0 rfl e64 v3 0 (by kernel_rfl)) NL (Pt.Dk (some ⟨fH, 0, none⟩) iy 1) rfl) <| qe) (by kernel_rfl) (fun _ => ?_)
 obtain ⟨J9, Jv, hm⟩ := ob hm
 refine dG 4 1 [] (.n 74 (.v (.pointer (rD (some ⟨fH, 0, none⟩) iR 1))) .a) (fun x hx => qs fH 0 <| qI fH 0 Jv <| qe) (by kernel_rfl) (fun _ => ?_)
 refine dG 2 0 [] (.n 76 (.u64 (Dp ^^^ J9)) (.ss .a)) (fun x hx => qC (.u64 J9) (Rd.el (k := 0) (hx.rP 0 rfl e64 v3 0 (by kernel_rfl)) Jv (Pt.Dk (some ⟨fH, 0, none⟩) iR 1) rfl) <| qe) (by kernel_rfl) (fun _ => ?_)
 refine dG 1 1 [] (.n 78 (pt fH 0) (.k (.s .a))) (fun x hx => qs fH 0 <| qe) (by kernel_rfl) (fun _ => ?_)
 refine dw (by kernel_rfl) rfl ?_
 obtain ⟨aQ, fG, hm⟩ := ob hm
 refine ay [] 77 _ FH (by kernel_rfl) (oG (F := N0) (O := N0) _ _ (Cx.refl _) _ fG) ?_
 rintro e_ y5 ⟨rfl, gz⟩
 have iI := dB.call gz
 refine ⟨.u64 aQ, rfl, ?_⟩
 refine ⟨iI, fun _ => ?_⟩
 obtain ⟨MQ, Jw, hm⟩ := ob hm
 refine dG 1 1 [] (.n 79 (.v (.pointer (rD (some ⟨fH, 0, none⟩) iy 1))) (.k (.nG .a))) (fun x hx => qI fH 0 Jw <| qe) (by kernel_rfl) (fun _ => ?_)
 refine dw (by kernel_rfl) rfl ?_
 obtain ⟨v4, h_v4, hm⟩ := nm hm
 refine nO (E := e64) (kk := 0) [] 0 (.u64 aQ) [.u64 aQ] h_v4 Jw (Pt.EU (Pt.at fH 0) iy 1) iI rfl .h rfl (by kernel_rfl) (by kernel_rfl) ?_
 intro CW iJ
 refine ⟨(iJ.bD (.s (.k .e))), fun _ => ?_⟩
 refine dP <| ae <| af ?_
 have iK := iJ.drew 1
 refine xQ bG (.q 0 0 (.q 1 0 (.q 2 0 (.q 3 0 (.q 4 0 (.q 5 0 (.q 6 0 (.q 7 0 (.q 8 0 (.q 9 0 (.q 10 0 (.q 11 0 (.q 12 0 (.q 13 0 (.q 14 0 (.op 15 .nil)))))))))))))))) [15] iK (.c (.s (.k .e)) .l) (by kernel_rfl) (fun _ => ?_)
 obtain ⟨Dq, NM, hm⟩ := ob hm
 obtain ⟨Fe, NP, hm⟩ := ob hm
 obtain ⟨Jc, NQ, hm⟩ := ob hm
 refine dG 15 0 [] (.n 92 (.u64 (Dq + (Fe + y_))) (.n 94 (.v (.pointer (rD (some ⟨fH, 0, none⟩) bY 1))) (.ss (.bH (.k .z))))) (fun x hx => qs fH 0 <| qV (hx.rP 0 rfl e64 v4 0 (by kernel_rfl)) NM rfl (.u64 Dq) rfl <| qs fH 0 <| qV (hx.rP 0 rfl e64 v4 0 (by kernel_rfl)) NP rfl (.u64 Fe) rfl <| qs fH 0 <| qI fH 0 NQ <| qe) (by kernel_rfl) (fun _ => ?_)
 refine dw (by kernel_rfl) rfl ?_
 obtain ⟨v5, QQ, hm⟩ := nm hm
 refine nO (E := e64) (kk := 0) [] 0 (.u64 (Dq + (Fe + y_))) [.u64 (Dq + (Fe + y_))] QQ NQ (Pt.EU (Pt.at fH 0) bY 1) iK rfl .h rfl (by kernel_rfl) (by kernel_rfl) ?_
 intro Du iG
 refine ⟨(iG.bD (.s (.k .e))), fun _ => ?_⟩
 refine dP <| ae <| af ?_
 have je := iG.drew 1
 refine xQ bG (.q 0 1 (.q 1 1 (.q 2 1 (.q 3 1 (.q 4 1 (.q 5 1 (.q 6 0 (.q 7 1 (.q 8 1 (.q 9 1 (.q 10 1 (.q 11 0 (.q 12 0 (.q 14 1 (.op 13 (.q 15 1 (.op 16 .nil))))))))))))))))) [13, 16] je (.c (.kk .e) (.c (.s (.k .e)) .l)) (by kernel_rfl) (fun _ => ?_)
 obtain ⟨Dt, NR, hm⟩ := ob hm
 refine dG 6 1 [] (.n 95 (pt fH 0) (.n 96 (I kK) (.n 100 (.v (.pointer (rD (some ⟨fH, 0, none⟩) kK 1))) (.ss .a)))) (fun x hx => qs fH 0 <| qI fH 0 NR <| qe) (by kernel_rfl) (fun _ => ?_)
 refine dG 1 0 [] (.n 101 (.u64 Dt) (.kk (.s .a))) (fun x hx => qC (.u64 Dt) (Rd.el (k := 0) (hx.rP 0 rfl e64 v5 0 (by kernel_rfl)) NR (Pt.Dk (some ⟨fH, 0, none⟩) kK 1) rfl) <| qe) (by kernel_rfl) (fun _ => ?_)
 obtain ⟨J_, Jy, hm⟩ := ob hm
 refine dG 4 1 [] (.n 105 (.v (.pointer (rD (some ⟨fH, 0, none⟩) bY 1))) (.Dl (.s .a))) (fun x hx => qs fH 0 <| qI fH 0 Jy <| qe) (by kernel_rfl) (fun _ => ?_)
 refine dG 2 0 [] (.n 107 (.u64 (Dt ^^^ J_)) (.ss .a)) (fun x hx => qC (.u64 J_) (Rd.el (k := 0) (hx.rP 0 rfl e64 v5 0 (by kernel_rfl)) Jy (Pt.Dk (some ⟨fH, 0, none⟩) bY 1) rfl) <| qe) (by kernel_rfl) (fun _ => ?_)
 refine dG 1 1 [] (.n 109 (pt fH 0) (.k (.s .a))) (fun x hx => qs fH 0 <| qe) (by kernel_rfl) (fun _ => ?_)
 refine dw (by kernel_rfl) rfl ?_
 have ku := je.bD (.kk .e)
 obtain ⟨bI, kz, hm⟩ := ob hm
 refine ay [] 108 _ FH (by kernel_rfl) (oG (F := N0) (O := N0) _ _ (Cx.refl _) _ kz) ?_
 rintro e_ Jn ⟨rfl, oq⟩
 have jL := ku.call oq
 refine ⟨.u64 bI, rfl, ?_⟩
 refine ⟨jL, fun _ => ?_⟩
 obtain ⟨MR, Jz, hm⟩ := ob hm
 refine dG 1 1 [] (.n 110 (.v (.pointer (rD (some ⟨fH, 0, none⟩) kK 1))) (.k (.nG .a))) (fun x hx => qI fH 0 Jz <| qe) (by kernel_rfl) (fun _ => ?_)
 refine dw (by kernel_rfl) rfl ?_
 obtain ⟨v6, h_v6, hm⟩ := nm hm
 refine nO (E := e64) (kk := 0) [] 0 (.u64 bI) [.u64 bI] h_v6 Jz (Pt.EU (Pt.at fH 0) kK 1) jL rfl .h rfl (by kernel_rfl) (by kernel_rfl) ?_
 intro JW mQ
 refine ⟨(mQ.bD (.s (.k .e))), fun _ => ?_⟩
 refine dP <| ae <| af ?_
 have oM := mQ.drew 1
 refine xQ bG (.q 0 0 (.q 1 0 (.q 2 0 (.q 3 0 (.q 4 0 (.q 5 0 (.q 6 0 (.q 7 0 (.q 8 0 (.q 9 0 (.q 10 0 (.q 11 0 (.q 12 0 (.op 13 .nil)))))))))))))) [13] oM (.c (.s (.k .e)) .l) (by kernel_rfl) (fun _ => ?_)
 obtain ⟨Ec, NS, hm⟩ := ob hm
 obtain ⟨H6, NT, hm⟩ := ob hm
 obtain ⟨ZV, V9, hm⟩ := ob hm
 refine dG 13 0 [] (.n 121 (.u64 (Ec + H6)) (.n 123 (.v (.pointer (rD (some ⟨fH, 0, none⟩) iR 1))) (.ss (.kk (.s .a))))) (fun x hx => qs fH 0 <| qV (hx.rP 0 rfl e64 v6 0 (by kernel_rfl)) NS rfl (.u64 Ec) rfl <| qs fH 0 <| qV (hx.rP 0 rfl e64 v6 0 (by kernel_rfl)) NT rfl (.u64 H6) rfl <| qs fH 0 <| qI fH 0 V9 <| qe) (by kernel_rfl) (fun _ => ?_)
 refine dw (by kernel_rfl) rfl ?_
 obtain ⟨v7, h_v7, hm⟩ := nm hm
 refine nO (E := e64) (kk := 0) [] 0 (.u64 (Ec + H6)) [.u64 (Ec + H6)] h_v7 V9 (Pt.EU (Pt.at fH 0) iR 1) oM rfl .h rfl (by kernel_rfl) (by kernel_rfl) ?_
 intro BV oN
 refine ⟨(oN.bD (.s (.k .e))), fun _ => ?_⟩
 refine dP <| ae ?_
 have ni := oN.drew 1
 refine xQ bG (.q 0 1 (.q 1 1 (.q 2 1 (.q 3 1 (.q 4 1 (.q 5 1 (.q 6 0 (.q 7 1 (.q 8 1 (.q 9 1 (.q 10 1 (.q 11 0 (.q 12 0 (.q 14 1 (.op 13 (.q 15 1 (.op 16 .nil))))))))))))))))) [13, 16] ni (.c (.kk .e) (.c (.s (.k .e)) .l)) (by kernel_rfl) (fun _ => ?_)
 obtain ⟨Vm, V_, hm⟩ := ob hm
 refine dG 6 1 [] (.n 124 (pt fH 0) (.n 125 (I iy) (.n 129 (.v (.pointer (rD (some ⟨fH, 0, none⟩) iy 1))) (.nG .a)))) (fun x hx => qs fH 0 <| qI fH 0 V_ <| qe) (by kernel_rfl) (fun _ => ?_)
 refine dG 1 0 [] (.n 130 (.u64 Vm) (.kk (.s .a))) (fun x hx => qC (.u64 Vm) (Rd.el (k := 0) (hx.rP 0 rfl e64 v7 0 (by kernel_rfl)) V_ (Pt.Dk (some ⟨fH, 0, none⟩) iy 1) rfl) <| qe) (by kernel_rfl) (fun _ => ?_)
 obtain ⟨XO, We, hm⟩ := ob hm
 refine dG 4 1 [] (.n 134 (.v (.pointer (rD (some ⟨fH, 0, none⟩) iR 1))) (.Dl .z)) (fun x hx => qs fH 0 <| qI fH 0 We <| qe) (by kernel_rfl) (fun _ => ?_)
 refine dG 2 0 [] (.n 136 (.u64 (Vm ^^^ XO)) (.ss .a)) (fun x hx => qC (.u64 XO) (Rd.el (k := 0) (hx.rP 0 rfl e64 v7 0 (by kernel_rfl)) We (Pt.Dk (some ⟨fH, 0, none⟩) iR 1) rfl) <| qe) (by kernel_rfl) (fun _ => ?_)
 refine dG 1 1 [] (.n 138 (pt fH 0) (.k (.s .a))) (fun x hx => qs fH 0 <| qe) (by kernel_rfl) (fun _ => ?_)
 refine dw (by kernel_rfl) rfl ?_
 obtain ⟨dN, qL, hm⟩ := ob hm
 refine ay [] 137 _ FH (by kernel_rfl) (oG (F := N0) (O := N0) _ _ (Cx.refl _) _ qL) ?_
 rintro e_ Dv ⟨rfl, nY⟩
 have pM := ni.call nY
 refine ⟨.u64 dN, rfl, ?_⟩
 refine ⟨pM, fun _ => ?_⟩
 obtain ⟨x_29, Wh, hm⟩ := ob hm
 refine dG 1 1 [] (.n 139 (.v (.pointer (rD (some ⟨fH, 0, none⟩) iy 1))) (.k .z)) (fun x hx => qI fH 0 Wh <| qe) (by kernel_rfl) (fun _ => ?_)
 refine dw (by kernel_rfl) rfl ?_
 have ve := pM.bD (.kk .e)
 obtain ⟨v8, h_v8, hm⟩ := nm hm
 refine nO (E := e64) (kk := 0) [] 0 (.u64 dN) [.u64 dN] h_v8 Wh (Pt.EU (Pt.at fH 0) iy 1) ve rfl .h rfl (by kernel_rfl) (by kernel_rfl) ?_
 intro GG qH
 refine ⟨(qH.bD (.s (.k .e))), fun _ => ?_⟩
 refine dP ?_
 obtain rfl := Option.some.inj hm
 refine xY [] qe (by kernel_rfl) ?_
 have uq := qH.bD (.k .z)
 exact ⟨rfl, uq⟩
theorem PD {F O : Nat → Prop} {w : World} (v : Vec UInt64 16) (m_ : Vec UInt64 16) (round : Int) (fH : Nat) (KF : Nat) (k : Cx F O w w [Bx 157 fH [.ar e64 v], Bx 157 KF [.ar e64 m_]]) (r : (Vec UInt64 16 × Vec UInt64 16)) (hm : wI v m_ round = some r) :
    Calls Tryz.prog 185 (vals [pt fH 0, pt KF 0, I round]) w (fun e w' => e = .returned (SV.val (.jc [])) ∧ Cx F O w w' [Bx 157 fH [.ar e64 r.1], Bx 157 KF [.ar e64 r.2]]) := by
 unfold wI at hm
 refine calls [pt fH 0, pt KF 0, I round] Tryz.func185 rfl (of_decide_eq_true (by kernel_rfl)) ?_
 refine af <| ax <| aW 1 [] (.n 9 (I round) (.kk .z)) qe (by kernel_rfl) ?_
 refine ai ?_
 obtain ⟨r_, dV, hm⟩ := ob hm
 refine ay [] 10 _ O9 (by kernel_rfl) (FT (F := N0) (O := N0) _ (Cx.refl _) _ dV) ?_
 rintro e_ w_ ⟨rfl, k_⟩
 have dK := k.call k_
 refine ⟨.agg [.ar eI r_], rfl, ?_⟩
 refine ai <| bJ [] 6 [.ar eI (Vec.rep 16 (0 : Int))] (by kernel_rfl) dK ?_
 intro g o9 fF
 refine ai <| iQ [] 2 (.agg [.ar eI r_]) [.ar eI r_] (Pt.at g 0) fF rfl .all (by kernel_rfl) (by kernel_rfl) ?_
 intro sZ fM
 refine ag <| ae <| af <| ax <| ai ?_
 obtain ⟨aQ, fG, hm⟩ := ob hm
 refine ay [] 11 _ VX (by kernel_rfl) (KE (F := N0) (O := N0)  (Cx.refl _) _ fG) ?_
 rintro e_ xk ⟨rfl, g_⟩
 have gX := fM.call g_
 refine ⟨.agg [.ar (eV eI 4) aQ], rfl, ?_⟩
 refine aW 1 [] (.n 12 (I 0) (.kk (.ss .a))) qe (by kernel_rfl) ?_
 refine ag <| ae <| aJ <| pg (uN m_ r_ aQ) (fun s L wr => ∃ (v1 : Vec UInt64 16) (aC : Int), (v1, aC) = s ∧ L = [(0, pt fH 0), (1, pt KF 0), (6, pt g 0), (11, .agg [.ar (eV eI 4) aQ]), (12, I aC)] ∧ Cx F O w wr [Bx 157 fH [.ar e64 v1], Bx 157 KF [.ar e64 m_], Bx 299 g [.ar eI r_]]) (v, (0 : Int)) r hm ⟨v, (0 : Int), rfl, rfl, gX⟩ (by kernel_rfl) ?_
 intro BU L_ xB y0 hrel hstep hr0
 obtain ⟨v1, aC, rfl, rfl, jb⟩ := hrel
 have hm := hstep; simp only [uN] at hm
 clear hstep
 refine af <| bg [] (.n 13 (.b (decide (aC < 8))) .a) qe (by kernel_rfl) ?_
 refine ae <| af <| aZ (aC < 8) (by kernel_rfl) (fun hc => ?_) (fun hc => ?_)
 · rw [if_pos hc] at hm
   refine aS <| ae <| af <| aJ <| af <| ax ?_
   obtain ⟨bY, jk, hm⟩ := ob hm
   refine aW 2 [] (.n 14 (I aC) (.n 15 (.agg [.ar eI bY]) (.s .a))) (qo (.agg [.ar eI bY]) <| qp ((0 ≤ aC ∧ aC < ((8 : Nat) : Int)) ∧ ((SV.cl [.ar (eV eI 4) aQ]).drop (Int.toNat aC * 4)).take 4 = SV.cl [.ar eI bY]) (UY (E := eI) jk) <| qe) (by kernel_rfl) ?_
   refine ai <| bJ [] 8 [.ar eI (Vec.rep 4 (0 : Int))] (by kernel_rfl) jb ?_
   intro g1 y5 jf
   refine aW 1 [] (.n 7 (I aC) (.k (.s .a))) qe (by kernel_rfl) ?_
   refine ai <| iQ [] 3 (.agg [.ar eI bY]) [.ar eI bY] (Pt.at g1 0) jf rfl .all (by kernel_rfl) (by kernel_rfl) ?_
   intro CW jQ
   refine ag <| ae ?_
   have jS := jQ.drew 1
   refine xQ bG (.q 0 0 (.q 1 0 (.q 2 1 (.q 3 1 (.q 4 1 (.q 5 1 (.q 6 1 (.q 7 1 (.q 8 0 (.q 9 0 (.q 10 1 (.q 11 1 (.q 12 1 (.q 13 1 (.q 14 1 (.q 15 1 (.q 16 1 (.q 17 0 (.q 18 0 (.op 19 .nil)))))))))))))))))))) [19] jS (.c (.s (.kk (.k .e))) .l) (by kernel_rfl) (fun _ => ?_)
   refine dG 2 0 [] (.n 16 (pt fH 0) (.n 17 (.agg [.ar eI bY]) (.k (.ss .a)))) (fun x hx => qT hx 3 rfl 0 4 [.ar eI bY] (by kernel_rfl) (by decide) <| qe) (by kernel_rfl) (fun _ => ?_)
   obtain ⟨iy, mf, hm⟩ := ob hm
   refine dG 6 1 [] (.n 22 (I iy) (.n 23 (pt KF 0) .a)) (fun x hx => qV (hx.rP 1 rfl eI r_ 0 (by kernel_rfl)) mf rfl (I iy) rfl <| qs KF 0 <| qe) (by kernel_rfl) (fun _ => ?_)
   obtain ⟨iR, oW, hm⟩ := ob hm
   refine dG 2 0 [] (.n 25 (.u64 iR) (.ss .a)) (fun x hx => qV (hx.rP 1 rfl e64 m_ 0 (by kernel_rfl)) oW rfl (.u64 iR) rfl <| qe) (by kernel_rfl) (fun _ => ?_)
   obtain ⟨kK, xe, hm⟩ := ob hm
   refine dG 7 1 [] (.n 31 (I kK) (.n 32 (pt KF 0) (.Dl (.s .a)))) (fun x hx => qV (hx.rP 1 rfl eI r_ 0 (by kernel_rfl)) xe rfl (I kK) rfl <| qs KF 0 <| qe) (by kernel_rfl) (fun _ => ?_)
   obtain ⟨lh, yS, hm⟩ := ob hm
   refine dG 2 0 [] (.n 34 (.u64 lh) (.ss .a)) (fun x hx => qV (hx.rP 1 rfl e64 m_ 0 (by kernel_rfl)) yS rfl (.u64 lh) rfl <| qe) (by kernel_rfl) (fun _ => ?_)
   refine dw (by kernel_rfl) rfl ?_
   obtain ⟨bI, kz, hm⟩ := ob hm
   obtain ⟨F1, O1, kin, hO, hre, hF, hb⟩ := jS.go (.i (.r (.r (.r .e))))
   refine ay [] 35 _ VY (by kernel_rfl) (Pz (F := F1) (O := O1) _ _ _ _ _ kin _ kz) ?_
   rintro e_ Du ⟨rfl, dJ⟩
   have dB := hb Du _ _ dJ (.c .n)
   refine ⟨.jc [], rfl, ?_⟩
   refine ⟨(dB.bD (.s (.kk (.k .e)))), fun _ => ?_⟩
   refine dP <| gm <| ae <| bg [] (.n 12 (I (aI (aC + 1))) (.kJ (.s (.bH .z)))) qe (by kernel_rfl) ?_
   have gz := dB.bD (.kk (.k .z))
   exact jU (bI, aI (aC + 1)) (Option.some.inj hm).symm ⟨bI, aI (aC + 1), rfl, rfl, gz⟩ (by kernel_rfl)
 rw [if_neg hc] at hm
 refine dY (bU (bU (iL ?_)))
 have hm := cO hm hr0
 obtain rfl := Option.some.inj hm
 refine xY [] qe (by kernel_rfl) ?_
 have iI := jb.bD (.kk .z)
 exact ⟨rfl, iI⟩
theorem Wi {F O : Nat → Prop} {w : World} (h : Vec UInt64 8) (m_ : Vec UInt64 16) (jB : UInt64) (jC : UInt64) (last : Bool) (node : Bool) (k : Cx F O w w []) (r : (Vec UInt64 8)) (hm : BA h m_ jB jC last node = some r) :
    Calls Tryz.prog 176 (vals [.agg [.ar e64 h], .agg [.ar e64 m_], .agg [.u64 jB, .u64 jC], .b last, .b node]) w (fun e w' => e = .returned (SV.val (.agg [.ar e64 r])) ∧ Cx F O w w' []) := by
 unfold BA at hm
 refine calls [.agg [.ar e64 h], .agg [.ar e64 m_], .agg [.u64 jB, .u64 jC], .b last, .b node] Tryz.func176 rfl (of_decide_eq_true (by kernel_rfl)) ?_
 refine af <| ax <| ai <| jT [] 5 (.agg [.ar e64 h]) [.ar e64 h] (by kernel_rfl) k ?_
 intro g w_ k_
 refine ai <| jT [] 6 (.agg [.ar e64 m_]) [.ar e64 m_] (by kernel_rfl) k_ ?_
 intro g1 o9 dK
 refine ai <| jT [] 7 (.agg [.u64 jB, .u64 jC]) [.u64 jB, .u64 jC] (by kernel_rfl) dK ?_
 intro g2 sZ fF
 refine ai <| bJ [] 10 [.ar e64 (Vec.rep 8 (0 : UInt64))] (by kernel_rfl) fF ?_
 intro g3 xk fM
 refine ag <| ae <| af <| ax <| aW 4 [] (.n 14 (.agg [.ar e64 h]) (.n 15 (.agg [.u64 jB, .u64 jC]) (.n 16 (.b last) (.n 17 (.b node) (.k (.s (.kk .z))))))) (qT fM 0 rfl 0 8 [.ar e64 h] (by kernel_rfl) (by decide) <| qT fM 2 rfl 0 2 [.u64 jB, .u64 jC] (by kernel_rfl) (by decide) <| qe) (by kernel_rfl) ?_
 refine ai ?_
 have g_ := fM.bD (.bH .e)
 obtain ⟨r_, dV, hm⟩ := ob hm
 refine ay [] 18 _ VR (by kernel_rfl) (Py (F := N0) (O := N0) _ _ _ _ _ (Cx.refl _) _ dV) ?_
 rintro e_ xB ⟨rfl, gX⟩
 have jb := g_.call gX
 refine ⟨.agg [.ar e64 r_], rfl, ?_⟩
 have jf := jb.bD (.kk (.s (.k .e)))
 refine ai <| bJ [] 11 [.ar e64 (Vec.rep 16 (0 : UInt64))] (by kernel_rfl) jf ?_
 intro g4 y5 jQ
 refine ai <| iQ [] 3 (.agg [.ar e64 r_]) [.ar e64 r_] (Pt.at g4 0) jQ rfl .all (by kernel_rfl) (by kernel_rfl) ?_
 intro CW jS
 refine ag <| ae <| af <| af <| bg [] (.n 19 (I 0) (.k (.kJ (.s .a)))) qe (by kernel_rfl) ?_
 refine ae <| aJ <| pg (wK h) (fun s L wr => ∃ (vX : Vec UInt64 16) (v : Vec UInt64 16) (aC : Int), (vX, v, aC) = s ∧ L = [(5, pt g 0), (6, pt g1 0), (10, pt g3 0), (11, pt g4 0), (19, I aC)] ∧ Cx F O w wr [Bx 205 g [.ar e64 h], Bx 157 g1 [.ar e64 vX], Bx 205 g3 [.ar e64 (Vec.rep 8 (0 : UInt64))], Bx 157 g4 [.ar e64 v]]) (m_, r_, (0 : Int)) r hm ⟨m_, r_, (0 : Int), rfl, rfl, jS⟩ (by kernel_rfl) ?_
 intro BU L_ Du y0 hrel hstep hr0
 obtain ⟨vX, v, aC, rfl, rfl, dJ⟩ := hrel
 have hm := hstep; simp only [wK] at hm
 clear hstep
 refine af <| bg [] (.n 20 (.b (decide (aC < 12))) .a) qe (by kernel_rfl) ?_
 refine ae <| af <| aZ (aC < 12) (by kernel_rfl) (fun hc => ?_) (fun hc => ?_)
 · rw [if_pos hc] at hm
   refine aS <| ae <| af <| aJ <| af <| bg [] (.n 12 (I aC) (.s .a)) qe (by kernel_rfl) ?_
   refine ae <| ax <| aW 1 [] (.n 22 (I aC) (.s .a)) qe (by kernel_rfl) ?_
   refine ai ?_
   obtain ⟨aQ, fG, hm⟩ := ob hm
   have dB := (((dJ.pk (.t (.t .h))).pk (.t .h)).pk (.t (.t .h))).pk (.t (.t (.t .h)))
   obtain ⟨F1, O1, kin, hO, hre, hF, hb⟩ := dB.go (.i (.i (.r (.r .e))))
   refine ay [] 23 _ VS (by kernel_rfl) (PD (F := F1) (O := O1) _ _ _ _ _ kin _ fG) ?_
   rintro e_ Jn ⟨rfl, gz⟩
   have iI := hb Jn _ _ gz (.c (.c .n))
   refine ⟨.jc [], rfl, ?_⟩
   refine ag <| gm <| ae <| bg [] (.n 19 (I (aI (aC + 1))) (.ss (.bH .z))) qe (by kernel_rfl) ?_
   have iJ := (((iI.pk .h).pk (.t (.t (.t .h)))).pk (.t (.t .h))).pk (.t (.t (.t .h)))
   exact jU (aQ.2, aQ.1, aI (aC + 1)) (Option.some.inj hm).symm ⟨aQ.2, aQ.1, aI (aC + 1), rfl, rfl, iJ⟩ (by kernel_rfl)
 rw [if_neg hc] at hm
 refine dY (bU (bU (iL ?_)))
 have hm := cO hm hr0
 refine ae <| af <| af <| bg [] (.n 25 (I 0) (.s (.k (.s (.kk .z))))) qe (by kernel_rfl) ?_
 refine ae <| aJ ?_
 have iG := dJ.bD (.k (.s (.kk .e)))
 refine pg (wJ v) (fun s L wr => ∃ (h1 : Vec UInt64 8) (x_1 : Int), (h1, x_1) = s ∧ L = [(5, pt g 0), (10, pt g3 0), (11, pt g4 0), (25, I x_1)] ∧ Cx F O w wr [Bx 205 g [.ar e64 h1], Bx 205 g3 [.ar e64 (Vec.rep 8 (0 : UInt64))], Bx 157 g4 [.ar e64 v]]) (h, (0 : Int)) r hm ⟨h, (0 : Int), rfl, rfl, iG⟩ (by kernel_rfl) ?_
 intro BU L_ JW y0 hrel hstep hr0
 obtain ⟨h1, x_1, rfl, rfl, iK⟩ := hrel
 have hm := hstep; simp only [wJ] at hm
 clear hstep
 refine af <| bg [] (.n 26 (.b (decide (x_1 < 8))) .a) qe (by kernel_rfl) ?_
 refine ae <| af <| aZ (x_1 < 8) (by kernel_rfl) (fun hc1 => ?_) (fun hc1 => ?_)
 · rw [if_pos hc1] at hm
   refine aS <| ae <| af <| aJ <| af <| bg [] (.n 13 (I x_1) (.s .a)) qe (by kernel_rfl) ?_
   refine ae ?_
   have je := iK.drew 1
   refine xQ bG (.q 0 0 (.q 1 0 (.q 2 0 (.q 3 0 (.q 4 0 (.q 5 0 (.q 6 0 (.q 7 0 (.q 8 0 (.q 9 0 (.q 10 0 (.q 11 0 (.q 12 0 (.op 13 .nil)))))))))))))) [13] je (.c (.s (.kk .e)) .l) (by kernel_rfl) (fun _ => ?_)
   obtain ⟨bY, jk, hm⟩ := ob hm
   obtain ⟨iy, mf, hm⟩ := ob hm
   obtain ⟨iR, oW, hm⟩ := ob hm
   obtain ⟨kK, xe, hm⟩ := ob hm
   refine dG 13 0 [] (.n 39 (.u64 (bY ^^^ (iy ^^^ iR))) (.n 40 (.v (.pointer (rD (some ⟨g, 0, none⟩) x_1 1))) (.s .a))) (fun x hx => qV (hx.rP 0 rfl e64 h1 0 (by kernel_rfl)) jk rfl (.u64 bY) rfl <| qV (hx.rP 2 rfl e64 v 0 (by kernel_rfl)) mf rfl (.u64 iy) rfl <| qV (hx.rP 2 rfl e64 v 0 (by kernel_rfl)) oW rfl (.u64 iR) rfl <| qI g 0 xe <| qe) (by kernel_rfl) (fun _ => ?_)
   refine dw (by kernel_rfl) rfl ?_
   obtain ⟨v1, Jt, hm⟩ := nm hm
   refine nO (E := e64) (kk := 0) [] 0 (.u64 (bY ^^^ (iy ^^^ iR))) [.u64 (bY ^^^ (iy ^^^ iR))] Jt xe (Pt.EU (Pt.at g 0) x_1 1) je rfl .h rfl (by kernel_rfl) (by kernel_rfl) ?_
   intro BV ku
   refine ⟨(ku.bD (.s (.kk .e))), fun _ => ?_⟩
   refine dP <| gm <| ae <| bg [] (.n 25 (I (aI (x_1 + 1))) (.ss (.Dl .z))) qe (by kernel_rfl) ?_
   exact jU (v1, aI (x_1 + 1)) (Option.some.inj hm).symm ⟨v1, aI (x_1 + 1), rfl, rfl, ku⟩ (by kernel_rfl)
 rw [if_neg hc1] at hm
 refine dY (bU (bU (iL ?_)))
 have hm := cO hm hr0
 refine ae <| af <| ax <| aW 1 [] (.n 42 (.agg [.ar e64 h1]) (.ss (.k .z))) (qT iK 0 rfl 0 8 [.ar e64 h1] (by kernel_rfl) (by decide) <| qe) (by kernel_rfl) ?_
 refine ai <| iQ [] 1 (.agg [.ar e64 h1]) [.ar e64 h1] (Pt.at g3 0) iK rfl .all (by kernel_rfl) (by kernel_rfl) ?_
 intro Dv oq
 have jL := oq.bD (.s (.k .z))
 refine ag <| ae <| aN ?_
 obtain rfl := Option.some.inj hm
 refine aO [.agg [.ar e64 h1]] (qo (.agg [.ar e64 h1]) <| qc (fun w => Rd w (some ⟨g3, 0, none⟩) (SV.cl [.ar e64 h1])) (jL.F9 0 rfl) <| qe) (by kernel_rfl) ?_
 have mQ := jL.bD .z
 exact ⟨rfl, mQ⟩
theorem DV {F O : Nat → Prop} {w : World} (h : Vec UInt64 8) (b : List UInt8) (um : UInt64) (vK : UInt64) (last : Bool) (node : Bool) (lN : Option Addr) (pX : Nat) (lZ : Nat) (sO : Ro F w lN (e8.all b)) (rO : b.length = pX) (uo : pX ≤ lZ) (k : Cx F O w w []) (r : (Vec UInt64 8)) (hm : pV h b um vK last node = some r) :
    Calls Tryz.prog 163 (vals [.agg [.ar e64 h], sl lN pX lZ, .agg [.u64 um, .u64 vK], .b last, .b node]) w (fun e w' => e = .returned (SV.val (.agg [.ar e64 r])) ∧ Cx F O w w' []) := by
 unfold pV at hm
 subst rO
 refine calls [.agg [.ar e64 h], sl lN b.length lZ, .agg [.u64 um, .u64 vK], .b last, .b node] Tryz.func163 rfl (of_decide_eq_true (by kernel_rfl)) ?_
 refine af <| ax <| ai <| jT [] 5 (.agg [.ar e64 h]) [.ar e64 h] (by kernel_rfl) k ?_
 intro g w_ k_
 refine ai <| jT [] 7 (.agg [.u64 um, .u64 vK]) [.u64 um, .u64 vK] (by kernel_rfl) k_ ?_
 intro g1 o9 dK
 refine ai <| bJ [] 10 [.ar e64 (Vec.rep 8 (0 : UInt64))] (by kernel_rfl) dK ?_
 intro g2 sZ fF
 refine ag <| ae <| af <| ax <| aW 1 [] (.n 14 (sl lN b.length lZ) (.Dl (.nG .a))) qe (by kernel_rfl) ?_
 refine ai ?_
 obtain ⟨r_, dV, hm⟩ := ob hm
 refine ay [] 15 _ VM (by kernel_rfl) (NH (F := N0) (O := N0) _ _ _ _ (Ro.n0 (sO.cx fF)) rfl uo (Cx.refl _) _ dV) ?_
 rintro e_ xk ⟨rfl, fM⟩
 have g_ := fF.call fM
 refine ⟨.jc [.agg [.ar e64 r_.1], I r_.2], rfl, ?_⟩
 refine aW 3 [] (.n 16 (.agg [.ar e64 r_.1]) (.n 17 (I r_.2) (.ss .a))) qe (by kernel_rfl) ?_
 refine ai ?_
 have gX := g_.bD (.kk (.k .e))
 refine bJ [] 11 [.ar e64 (Vec.rep 16 (0 : UInt64))] (by kernel_rfl) gX ?_
 intro g3 xB jb
 refine ai <| iQ [] 3 (.agg [.ar e64 r_.1]) [.ar e64 r_.1] (Pt.at g3 0) jb rfl .all (by kernel_rfl) (by kernel_rfl) ?_
 intro y5 jf
 refine aW 1 [] (.k (.ss .a)) qe (by kernel_rfl) ?_
 refine ag <| ae <| af <| ax <| aW 5 [] (.n 18 (.agg [.ar e64 h]) (.n 19 (.agg [.ar e64 r_.1]) (.n 20 (.agg [.u64 um, .u64 vK]) (.n 21 (.b last) (.n 22 (.b node) (.s (.k .z))))))) (qT jf 0 rfl 0 8 [.ar e64 h] (by kernel_rfl) (by decide) <| qT jf 3 rfl 0 16 [.ar e64 r_.1] (by kernel_rfl) (by decide) <| qT jf 1 rfl 0 2 [.u64 um, .u64 vK] (by kernel_rfl) (by decide) <| qe) (by kernel_rfl) ?_
 refine ai ?_
 obtain ⟨aQ, fG, hm⟩ := ob hm
 refine ay [] 23 _ VN (by kernel_rfl) (Wi (F := N0) (O := N0) _ _ _ _ _ _ (Cx.refl _) _ fG) ?_
 rintro e_ CW ⟨rfl, jQ⟩
 have jS := jf.call jQ
 refine ⟨.agg [.ar e64 aQ], rfl, ?_⟩
 have dJ := jS.bD (.ss (.k .z))
 refine ai <| iQ [] 0 (.agg [.ar e64 aQ]) [.ar e64 aQ] (Pt.at g2 0) dJ rfl .all (by kernel_rfl) (by kernel_rfl) ?_
 intro Du dB
 refine ag <| ae <| aN ?_
 obtain rfl := Option.some.inj hm
 refine aO [.agg [.ar e64 aQ]] (qo (.agg [.ar e64 aQ]) <| qc (fun w => Rd w (some ⟨g2, 0, none⟩) (SV.cl [.ar e64 aQ])) (dB.F9 0 rfl) <| qe) (by kernel_rfl) ?_
 have gz := dB.bD .z
 exact ⟨rfl, gz⟩
end Go.Sx
