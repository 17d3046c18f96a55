import Derived.Test.YtjddlmbpkkbkoaaGreatSyZ
import Derived.Test.YtjddlmbpkkbkoaaGreatMM
import Derived.Test.YtjddlmbpkkbkoaaGreatSyX
import Derived.Test.YtjddlmbpkkbkoaaGreatProg
namespace Go.Sx
open Go.RowKit Go.Proofs
set_option linter.unusedVariables false
set_option linter.unusedSimpArgs false
set_option maxRecDepth 20000
variable {F O : Nat → Prop} {w : World}
theorem mr_go4 : IsGo Tryz.prog 4 := ⟨⟨Tryz.f4, _, Tryz.func4, rfl, by kernel_rfl⟩⟩
theorem mr_go5 : IsGo Tryz.prog 5 := ⟨⟨Tryz.f5, _, Tryz.func5, rfl, by kernel_rfl⟩⟩
theorem mr_go6 : IsGo Tryz.prog 6 := ⟨⟨Tryz.f6, _, Tryz.func6, rfl, by kernel_rfl⟩⟩
theorem mr_go7 : IsGo Tryz.prog 7 := ⟨⟨Tryz.f7, _, Tryz.func7, rfl, by kernel_rfl⟩⟩
theorem mr_go8 : IsGo Tryz.prog 8 := ⟨⟨Tryz.f8, _, Tryz.func8, rfl, by kernel_rfl⟩⟩
theorem mr_go9 : IsGo Tryz.prog 9 := ⟨⟨Tryz.f9, _, Tryz.func9, rfl, by kernel_rfl⟩⟩
theorem mr_go10 : IsGo Tryz.prog 10 := ⟨⟨Tryz.f10, _, Tryz.func10, rfl, by kernel_rfl⟩⟩
theorem mr_go11 : IsGo Tryz.prog 11 := ⟨⟨Tryz.f11, _, Tryz.func11, rfl, by kernel_rfl⟩⟩
theorem mr_go12 : IsGo Tryz.prog 12 := ⟨⟨Tryz.f12, _, Tryz.func12, rfl, by kernel_rfl⟩⟩
theorem mr_go13 : IsGo Tryz.prog 13 := ⟨⟨Tryz.f13, _, Tryz.func13, rfl, by kernel_rfl⟩⟩
theorem mr_go14 : IsGo Tryz.prog 14 := ⟨⟨Tryz.f14, _, Tryz.func14, rfl, by kernel_rfl⟩⟩
theorem mr_go15 : IsGo Tryz.prog 15 := ⟨⟨Tryz.f15, _, Tryz.func15, rfl, by kernel_rfl⟩⟩
theorem mr_go16 : IsGo Tryz.prog 16 := ⟨⟨Tryz.f16, _, Tryz.func16, rfl, by kernel_rfl⟩⟩
theorem mr_go17 : IsGo Tryz.prog 17 := ⟨⟨Tryz.f17, _, Tryz.func17, rfl, by kernel_rfl⟩⟩
theorem mr_go18 : IsGo Tryz.prog 18 := ⟨⟨Tryz.f18, _, Tryz.func18, rfl, by kernel_rfl⟩⟩
theorem mr_go19 : IsGo Tryz.prog 19 := ⟨⟨Tryz.f19, _, Tryz.func19, rfl, by kernel_rfl⟩⟩
theorem mr_go20 : IsGo Tryz.prog 20 := ⟨⟨Tryz.f20, _, Tryz.func20, rfl, by kernel_rfl⟩⟩
theorem mr_go21 : IsGo Tryz.prog 21 := ⟨⟨Tryz.f21, _, Tryz.func21, rfl, by kernel_rfl⟩⟩
theorem mr_go22 : IsGo Tryz.prog 22 := ⟨⟨Tryz.f22, _, Tryz.func22, rfl, by kernel_rfl⟩⟩
theorem mr_go23 : IsGo Tryz.prog 23 := ⟨⟨Tryz.f23, _, Tryz.func23, rfl, by kernel_rfl⟩⟩
theorem mr_go24 : IsGo Tryz.prog 24 := ⟨⟨Tryz.f24, _, Tryz.func24, rfl, by kernel_rfl⟩⟩
theorem mr_go25 : IsGo Tryz.prog 25 := ⟨⟨Tryz.f25, _, Tryz.func25, rfl, by kernel_rfl⟩⟩
theorem mr_go26 : IsGo Tryz.prog 26 := ⟨⟨Tryz.f26, _, Tryz.func26, rfl, by kernel_rfl⟩⟩
theorem mr_go27 : IsGo Tryz.prog 27 := ⟨⟨Tryz.f27, _, Tryz.func27, rfl, by kernel_rfl⟩⟩
theorem mr_go28 : IsGo Tryz.prog 28 := ⟨⟨Tryz.f28, _, Tryz.func28, rfl, by kernel_rfl⟩⟩
theorem mr_go29 : IsGo Tryz.prog 29 := ⟨⟨Tryz.f29, _, Tryz.func29, rfl, by kernel_rfl⟩⟩
theorem mr_go30 : IsGo Tryz.prog 30 := ⟨⟨Tryz.f30, _, Tryz.func30, rfl, by kernel_rfl⟩⟩
theorem mr_go31 : IsGo Tryz.prog 31 := ⟨⟨Tryz.f31, _, Tryz.func31, rfl, by kernel_rfl⟩⟩
theorem mr_go32 : IsGo Tryz.prog 32 := ⟨⟨Tryz.f32, _, Tryz.func32, rfl, by kernel_rfl⟩⟩
theorem mr_go35 : IsGo Tryz.prog 35 := ⟨⟨Tryz.f35, _, Tryz.func35, rfl, by kernel_rfl⟩⟩
theorem mr_go36 : IsGo Tryz.prog 36 := ⟨⟨Tryz.f36, _, Tryz.func36, rfl, by kernel_rfl⟩⟩
theorem mr_go37 : IsGo Tryz.prog 37 := ⟨⟨Tryz.f37, _, Tryz.func37, rfl, by kernel_rfl⟩⟩
theorem mr_go38 : IsGo Tryz.prog 38 := ⟨⟨Tryz.f38, _, Tryz.func38, rfl, by kernel_rfl⟩⟩
theorem mr_go39 : IsGo Tryz.prog 39 := ⟨⟨Tryz.f39, _, Tryz.func39, rfl, by kernel_rfl⟩⟩
theorem mr_go40 : IsGo Tryz.prog 40 := ⟨⟨Tryz.f40, _, Tryz.func40, rfl, by kernel_rfl⟩⟩
theorem mr_go52 : IsGo Tryz.prog 52 := ⟨⟨Tryz.f52, _, Tryz.func52, rfl, by kernel_rfl⟩⟩
theorem mr_go53 : IsGo Tryz.prog 53 := ⟨⟨Tryz.f53, _, Tryz.func53, rfl, by kernel_rfl⟩⟩
theorem mr_go54 : IsGo Tryz.prog 54 := ⟨⟨Tryz.f54, _, Tryz.func54, rfl, by kernel_rfl⟩⟩
theorem mr_go55 : IsGo Tryz.prog 55 := ⟨⟨Tryz.f55, _, Tryz.func55, rfl, by kernel_rfl⟩⟩
theorem mr_go56 : IsGo Tryz.prog 56 := ⟨⟨Tryz.f56, _, Tryz.func56, rfl, by kernel_rfl⟩⟩
theorem mr_go57 : IsGo Tryz.prog 57 := ⟨⟨Tryz.f57, _, Tryz.func57, rfl, by kernel_rfl⟩⟩
theorem mr_go58 : IsGo Tryz.prog 58 := ⟨⟨Tryz.f58, _, Tryz.func58, rfl, by kernel_rfl⟩⟩
theorem mr_go65 : IsGo Tryz.prog 65 := ⟨⟨Tryz.f65, _, Tryz.func65, rfl, by kernel_rfl⟩⟩
theorem mr_go66 : IsGo Tryz.prog 66 := ⟨⟨Tryz.f66, _, Tryz.func66, rfl, by kernel_rfl⟩⟩
theorem mr_go67 : IsGo Tryz.prog 67 := ⟨⟨Tryz.f67, _, Tryz.func67, rfl, by kernel_rfl⟩⟩
theorem mr_go68 : IsGo Tryz.prog 68 := ⟨⟨Tryz.f68, _, Tryz.func68, rfl, by kernel_rfl⟩⟩
theorem mr_go69 : IsGo Tryz.prog 69 := ⟨⟨Tryz.f69, _, Tryz.func69, rfl, by kernel_rfl⟩⟩
theorem mr_go70 : IsGo Tryz.prog 70 := ⟨⟨Tryz.f70, _, Tryz.func70, rfl, by kernel_rfl⟩⟩
theorem mr_go71 : IsGo Tryz.prog 71 := ⟨⟨Tryz.f71, _, Tryz.func71, rfl, by kernel_rfl⟩⟩
theorem mr_go72 : IsGo Tryz.prog 72 := ⟨⟨Tryz.f72, _, Tryz.func72, rfl, by kernel_rfl⟩⟩
theorem mr_go73 : IsGo Tryz.prog 73 := ⟨⟨Tryz.f73, _, Tryz.func73, rfl, by kernel_rfl⟩⟩
theorem mr_go74 : IsGo Tryz.prog 74 := ⟨⟨Tryz.f74, _, Tryz.func74, rfl, by kernel_rfl⟩⟩
theorem mr_go75 : IsGo Tryz.prog 75 := ⟨⟨Tryz.f75, _, Tryz.func75, rfl, by kernel_rfl⟩⟩
theorem mr_go77 : IsGo Tryz.prog 77 := ⟨⟨Tryz.f77, _, Tryz.func77, rfl, by kernel_rfl⟩⟩
theorem mr_go78 : IsGo Tryz.prog 78 := ⟨⟨Tryz.f78, _, Tryz.func78, rfl, by kernel_rfl⟩⟩
theorem mr_go79 : IsGo Tryz.prog 79 := ⟨⟨Tryz.f79, _, Tryz.func79, rfl, by kernel_rfl⟩⟩
theorem mr_go80 : IsGo Tryz.prog 80 := ⟨⟨Tryz.f80, _, Tryz.func80, rfl, by kernel_rfl⟩⟩
theorem mr_go81 : IsGo Tryz.prog 81 := ⟨⟨Tryz.f81, _, Tryz.func81, rfl, by kernel_rfl⟩⟩
theorem mr_go82 : IsGo Tryz.prog 82 := ⟨⟨Tryz.f82, _, Tryz.func82, rfl, by kernel_rfl⟩⟩
theorem mr_go83 : IsGo Tryz.prog 83 := ⟨⟨Tryz.f83, _, Tryz.func83, rfl, by kernel_rfl⟩⟩
theorem mr_go84 : IsGo Tryz.prog 84 := ⟨⟨Tryz.f84, _, Tryz.func84, rfl, by kernel_rfl⟩⟩
theorem mr_go85 : IsGo Tryz.prog 85 := ⟨⟨Tryz.f85, _, Tryz.func85, rfl, by kernel_rfl⟩⟩
theorem mr_go86 : IsGo Tryz.prog 86 := ⟨⟨Tryz.f86, _, Tryz.func86, rfl, by kernel_rfl⟩⟩
theorem mr_go87 : IsGo Tryz.prog 87 := ⟨⟨Tryz.f87, _, Tryz.func87, rfl, by kernel_rfl⟩⟩
theorem mr_go88 : IsGo Tryz.prog 88 := ⟨⟨Tryz.f88, _, Tryz.func88, rfl, by kernel_rfl⟩⟩
theorem mr_go89 : IsGo Tryz.prog 89 := ⟨⟨Tryz.f89, _, Tryz.func89, rfl, by kernel_rfl⟩⟩
theorem mr_go90 : IsGo Tryz.prog 90 := ⟨⟨Tryz.f90, _, Tryz.func90, rfl, by kernel_rfl⟩⟩
theorem mr_go91 : IsGo Tryz.prog 91 := ⟨⟨Tryz.f91, _, Tryz.func91, rfl, by kernel_rfl⟩⟩
theorem mr_go92 : IsGo Tryz.prog 92 := ⟨⟨Tryz.f92, _, Tryz.func92, rfl, by kernel_rfl⟩⟩
theorem mr_go93 : IsGo Tryz.prog 93 := ⟨⟨Tryz.f93, _, Tryz.func93, rfl, by kernel_rfl⟩⟩
theorem mr_go94 : IsGo Tryz.prog 94 := ⟨⟨Tryz.f94, _, Tryz.func94, rfl, by kernel_rfl⟩⟩
theorem mr_go95 : IsGo Tryz.prog 95 := ⟨⟨Tryz.f95, _, Tryz.func95, rfl, by kernel_rfl⟩⟩
theorem mr_go96 : IsGo Tryz.prog 96 := ⟨⟨Tryz.f96, _, Tryz.func96, rfl, by kernel_rfl⟩⟩
theorem mr_go97 : IsGo Tryz.prog 97 := ⟨⟨Tryz.f97, _, Tryz.func97, rfl, by kernel_rfl⟩⟩
theorem mr_go98 : IsGo Tryz.prog 98 := ⟨⟨Tryz.f98, _, Tryz.func98, rfl, by kernel_rfl⟩⟩
theorem mr_go99 : IsGo Tryz.prog 99 := ⟨⟨Tryz.f99, _, Tryz.func99, rfl, by kernel_rfl⟩⟩
theorem mr_go100 : IsGo Tryz.prog 100 := ⟨⟨Tryz.f100, _, Tryz.func100, rfl, by kernel_rfl⟩⟩
theorem mr_go101 : IsGo Tryz.prog 101 := ⟨⟨Tryz.f101, _, Tryz.func101, rfl, by kernel_rfl⟩⟩
theorem mr_go102 : IsGo Tryz.prog 102 := ⟨⟨Tryz.f102, _, Tryz.func102, rfl, by kernel_rfl⟩⟩
theorem mr_go103 : IsGo Tryz.prog 103 := ⟨⟨Tryz.f103, _, Tryz.func103, rfl, by kernel_rfl⟩⟩
theorem mr_go104 : IsGo Tryz.prog 104 := ⟨⟨Tryz.f104, _, Tryz.func104, rfl, by kernel_rfl⟩⟩
theorem mr_go105 : IsGo Tryz.prog 105 := ⟨⟨Tryz.f105, _, Tryz.func105, rfl, by kernel_rfl⟩⟩
theorem mr_go106 : IsGo Tryz.prog 106 := ⟨⟨Tryz.f106, _, Tryz.func106, rfl, by kernel_rfl⟩⟩
theorem mr_go107 : IsGo Tryz.prog 107 := ⟨⟨Tryz.f107, _, Tryz.func107, rfl, by kernel_rfl⟩⟩
theorem mr_go108 : IsGo Tryz.prog 108 := ⟨⟨Tryz.f108, _, Tryz.func108, rfl, by kernel_rfl⟩⟩
theorem mr_go109 : IsGo Tryz.prog 109 := ⟨⟨Tryz.f109, _, Tryz.func109, rfl, by kernel_rfl⟩⟩
theorem mr_go110 : IsGo Tryz.prog 110 := ⟨⟨Tryz.f110, _, Tryz.func110, rfl, by kernel_rfl⟩⟩
theorem mr_go111 : IsGo Tryz.prog 111 := ⟨⟨Tryz.f111, _, Tryz.func111, rfl, by kernel_rfl⟩⟩
theorem mr_go112 : IsGo Tryz.prog 112 := ⟨⟨Tryz.f112, _, Tryz.func112, rfl, by kernel_rfl⟩⟩
theorem mr_go113 : IsGo Tryz.prog 113 := ⟨⟨Tryz.f113, _, Tryz.func113, rfl, by kernel_rfl⟩⟩
theorem mr_go114 : IsGo Tryz.prog 114 := ⟨⟨Tryz.f114, _, Tryz.func114, rfl, by kernel_rfl⟩⟩
theorem mr_go115 : IsGo Tryz.prog 115 := ⟨⟨Tryz.f115, _, Tryz.func115, rfl, by kernel_rfl⟩⟩
theorem mr_go116 : IsGo Tryz.prog 116 := ⟨⟨Tryz.f116, _, Tryz.func116, rfl, by kernel_rfl⟩⟩
theorem mr_go117 : IsGo Tryz.prog 117 := ⟨⟨Tryz.f117, _, Tryz.func117, rfl, by kernel_rfl⟩⟩
theorem mr_go118 : IsGo Tryz.prog 118 := ⟨⟨Tryz.f118, _, Tryz.func118, rfl, by kernel_rfl⟩⟩
theorem mr_go119 : IsGo Tryz.prog 119 := ⟨⟨Tryz.f119, _, Tryz.func119, rfl, by kernel_rfl⟩⟩
theorem mr_go120 : IsGo Tryz.prog 120 := ⟨⟨Tryz.f120, _, Tryz.func120, rfl, by kernel_rfl⟩⟩
theorem mr_go121 : IsGo Tryz.prog 121 := ⟨⟨Tryz.f121, _, Tryz.func121, rfl, by kernel_rfl⟩⟩
theorem mr_go122 : IsGo Tryz.prog 122 := ⟨⟨Tryz.f122, _, Tryz.func122, rfl, by kernel_rfl⟩⟩
theorem mr_go123 : IsGo Tryz.prog 123 := ⟨⟨Tryz.f123, _, Tryz.func123, rfl, by kernel_rfl⟩⟩
theorem mr_go124 : IsGo Tryz.prog 124 := ⟨⟨Tryz.f124, _, Tryz.func124, rfl, by kernel_rfl⟩⟩
theorem mr_go125 : IsGo Tryz.prog 125 := ⟨⟨Tryz.f125, _, Tryz.func125, rfl, by kernel_rfl⟩⟩
theorem mr_go126 : IsGo Tryz.prog 126 := ⟨⟨Tryz.f126, _, Tryz.func126, rfl, by kernel_rfl⟩⟩
theorem mr_go127 : IsGo Tryz.prog 127 := ⟨⟨Tryz.f127, _, Tryz.func127, rfl, by kernel_rfl⟩⟩
theorem mr_go128 : IsGo Tryz.prog 128 := ⟨⟨Tryz.f128, _, Tryz.func128, rfl, by kernel_rfl⟩⟩
theorem mr_go129 : IsGo Tryz.prog 129 := ⟨⟨Tryz.f129, _, Tryz.func129, rfl, by kernel_rfl⟩⟩
theorem mr_go130 : IsGo Tryz.prog 130 := ⟨⟨Tryz.f130, _, Tryz.func130, rfl, by kernel_rfl⟩⟩
theorem mr_go131 : IsGo Tryz.prog 131 := ⟨⟨Tryz.f131, _, Tryz.func131, rfl, by kernel_rfl⟩⟩
theorem mr_go132 : IsGo Tryz.prog 132 := ⟨⟨Tryz.f132, _, Tryz.func132, rfl, by kernel_rfl⟩⟩
theorem mr_go133 : IsGo Tryz.prog 133 := ⟨⟨Tryz.f133, _, Tryz.func133, rfl, by kernel_rfl⟩⟩
theorem mr_go134 : IsGo Tryz.prog 134 := ⟨⟨Tryz.f134, _, Tryz.func134, rfl, by kernel_rfl⟩⟩
theorem mr_go135 : IsGo Tryz.prog 135 := ⟨⟨Tryz.f135, _, Tryz.func135, rfl, by kernel_rfl⟩⟩
theorem mr_go136 : IsGo Tryz.prog 136 := ⟨⟨Tryz.f136, _, Tryz.func136, rfl, by kernel_rfl⟩⟩
theorem mr_go137 : IsGo Tryz.prog 137 := ⟨⟨Tryz.f137, _, Tryz.func137, rfl, by kernel_rfl⟩⟩
theorem mr_go138 : IsGo Tryz.prog 138 := ⟨⟨Tryz.f138, _, Tryz.func138, rfl, by kernel_rfl⟩⟩
theorem mr_go139 : IsGo Tryz.prog 139 := ⟨⟨Tryz.f139, _, Tryz.func139, rfl, by kernel_rfl⟩⟩
theorem mr_go140 : IsGo Tryz.prog 140 := ⟨⟨Tryz.f140, _, Tryz.func140, rfl, by kernel_rfl⟩⟩
theorem mr_go141 : IsGo Tryz.prog 141 := ⟨⟨Tryz.f141, _, Tryz.func141, rfl, by kernel_rfl⟩⟩
theorem mr_go142 : IsGo Tryz.prog 142 := ⟨⟨Tryz.f142, _, Tryz.func142, rfl, by kernel_rfl⟩⟩
theorem mr_go143 : IsGo Tryz.prog 143 := ⟨⟨Tryz.f143, _, Tryz.func143, rfl, by kernel_rfl⟩⟩
theorem mr_go144 : IsGo Tryz.prog 144 := ⟨⟨Tryz.f144, _, Tryz.func144, rfl, by kernel_rfl⟩⟩
theorem mr_go166 : IsGo Tryz.prog 166 := ⟨⟨Tryz.f166, _, Tryz.func166, rfl, by kernel_rfl⟩⟩
open Go.Shelf in
def mr_lays190_ren : Go.Shelf.Ren := ⟨fun | 190 => 27 | 125 => 34 | 258 => 33 | 128 => 50 | 129 => 51 | 302 => 41 | 303 => 42 | 304 => 43 | 305 => 44 | 306 => 45 | 307 => 46 | 308 => 47 | 309 => 48 | 310 => 49 | 333 => 59 | 329 => 60 | 330 => 61 | 334 => 62 | 335 => 63 | 336 => 64 | 344 => 76 | n => n, fun | 31 => 41 | 9 => 9 | 3 => 3 | 46 => 73 | 0 => 0 | 51 => 74 | 53 => 75 | 4 => 4 | 183 => 86 | 182 => 85 | 131 => 91 | 5 => 5 | 218 => 111 | 222 => 115 | 228 => 128 | 229 => 129 | n => n, fun | n => n⟩
open Go.Shelf in
theorem mr_lays190 : Go.Proofs.Lays.n190 Tryz.prog mr_lays190_ren := {
  mixed := by kernel_rfl
  f125 := Tryz.func34.trans (congrArg some (by kernel_rfl))
  f128 := Tryz.func50.trans (congrArg some (by kernel_rfl))
  f129 := Tryz.func51.trans (congrArg some (by kernel_rfl))
  f190 := Tryz.func27.trans (congrArg some (by kernel_rfl))
  f258 := Tryz.func33.trans (congrArg some (by kernel_rfl))
  f302 := Tryz.func41.trans (congrArg some (by kernel_rfl))
  f303 := Tryz.func42.trans (congrArg some (by kernel_rfl))
  f304 := Tryz.func43.trans (congrArg some (by kernel_rfl))
  f305 := Tryz.func44.trans (congrArg some (by kernel_rfl))
  f306 := Tryz.func45.trans (congrArg some (by kernel_rfl))
  f307 := Tryz.func46.trans (congrArg some (by kernel_rfl))
  f308 := Tryz.func47.trans (congrArg some (by kernel_rfl))
  f309 := Tryz.func48.trans (congrArg some (by kernel_rfl))
  f310 := Tryz.func49.trans (congrArg some (by kernel_rfl))
  f329 := Tryz.func60.trans (congrArg some (by kernel_rfl))
  f330 := Tryz.func61.trans (congrArg some (by kernel_rfl))
  f333 := Tryz.func59.trans (congrArg some (by kernel_rfl))
  f334 := Tryz.func62.trans (congrArg some (by kernel_rfl))
  f335 := Tryz.func63.trans (congrArg some (by kernel_rfl))
  f336 := Tryz.func64.trans (congrArg some (by kernel_rfl))
  f344 := Tryz.func76.trans (congrArg some (by kernel_rfl))
  t0 := Tryz.underlying0
  a0 := Tryz.isAgg0
  z0 := Tryz.sizeOf0
  v0 := Tryz.zeroValue0
  t3 := Tryz.underlying3
  a3 := Tryz.isAgg3
  z3 := Tryz.sizeOf3
  v3 := Tryz.zeroValue3
  t4 := Tryz.underlying4
  a4 := Tryz.isAgg4
  z4 := Tryz.sizeOf4
  v4 := Tryz.zeroValue4
  t5 := Tryz.underlying5
  a5 := Tryz.isAgg5
  z5 := Tryz.sizeOf5
  v5 := Tryz.zeroValue5
  t9 := Tryz.underlying9
  a9 := Tryz.isAgg9
  z9 := Tryz.sizeOf9
  v9 := Tryz.zeroValue9
  t31 := Tryz.underlying41
  a31 := Tryz.isAgg41
  z31 := Tryz.sizeOf41
  v31 := Tryz.zeroValue41
  t46 := Tryz.underlying73
  a46 := Tryz.isAgg73
  z46 := Tryz.sizeOf73
  v46 := Tryz.zeroValue73
  t51 := Tryz.underlying74
  a51 := Tryz.isAgg74
  z51 := Tryz.sizeOf74
  v51 := Tryz.zeroValue74
  t53 := Tryz.underlying75
  a53 := Tryz.isAgg75
  z53 := Tryz.sizeOf75
  v53 := Tryz.zeroValue75
  t131 := Tryz.underlying91
  a131 := Tryz.isAgg91
  z131 := Tryz.sizeOf91
  v131 := Tryz.zeroValue91
  t182 := Tryz.underlying85
  a182 := Tryz.isAgg85
  z182 := Tryz.sizeOf85
  v182 := Tryz.zeroValue85
  t183 := Tryz.underlying86
  a183 := Tryz.isAgg86
  z183 := Tryz.sizeOf86
  v183 := Tryz.zeroValue86
  t218 := Tryz.underlying111
  a218 := Tryz.isAgg111
  z218 := Tryz.sizeOf111
  v218 := Tryz.zeroValue111
  t222 := Tryz.underlying115
  a222 := Tryz.isAgg115
  z222 := Tryz.sizeOf115
  v222 := Tryz.zeroValue115
  t228 := Tryz.underlying128
  a228 := Tryz.isAgg128
  z228 := Tryz.sizeOf128
  v228 := Tryz.zeroValue128
  t229 := Tryz.underlying129
  a229 := Tryz.isAgg129
  z229 := Tryz.sizeOf129
  v229 := Tryz.zeroValue129 }
theorem mr_sort27 {F O : Nat → Prop} {w0 w : World} {hs : List HP} {i : Nat} {A : Option Addr} {n c : Nat} {xs : List (List UInt8)} (k : Cx F O w0 w hs) (hi : hs[i]? = some (Ow eS A n c xs)) (hsz : n < 4611686018427387904) : Calls Tryz.prog 27 (vals [sl A n c]) w (fun e w' => e = .returned (SV.val (.tup [])) ∧ Cx F O w0 w' (hs.set i (Ow eS A n c (srt xs)))) := c_sort mr_lays190 k hi hsz
theorem mr_add167 : IsAdd Tryz.prog 167 := ⟨⟨Tryz.f167, Tryz.func167, by kernel_rfl, by kernel_rfl, by kernel_rfl, by kernel_rfl⟩⟩
theorem mr_tf28 : TF Tryz.prog 28 65 [.string ⟨⟨[]⟩⟩, .slice none 0 0] 40 := ⟨by kernel_rfl, by kernel_rfl, by decide, by decide⟩
theorem mr_tf33 : TF Tryz.prog 33 5 [.int .u8 0] 1 := ⟨by kernel_rfl, by kernel_rfl, by decide, by decide⟩
theorem mr_tf41 : TF Tryz.prog 41 9 [.string ⟨⟨[]⟩⟩] 16 := ⟨by kernel_rfl, by kernel_rfl, by decide, by decide⟩
theorem mr_tf131 : TF Tryz.prog 131 134 [.int .i64 0, .int .i64 0, .int .i64 0, .string ⟨⟨[]⟩⟩, .int .i64 0] 48 := ⟨by kernel_rfl, by kernel_rfl, by decide, by decide⟩
theorem mr_tf179 : TF Tryz.prog 179 75 [.int .u64 0] 8 := ⟨by kernel_rfl, by kernel_rfl, by decide, by decide⟩
theorem mr_tf199 : TF Tryz.prog 199 74 [.int .u32 0] 4 := ⟨by kernel_rfl, by kernel_rfl, by decide, by decide⟩
theorem mr_tf216 : TF Tryz.prog 216 3 [.int .i64 0] 8 := ⟨by kernel_rfl, by kernel_rfl, by decide, by decide⟩
theorem mr_inv165_node_out : ∀ (v : Option Addr) (l : Array Value) (w : World), (callMethod (.iface 165 (.pointer v)) "quern/node.out" l).run Tryz.prog w = .ok (.enter 163 (#[.pointer v] ++ l)) w := by intro v l w; kernel_rfl
theorem mr_inv165_node_write : ∀ (v : Option Addr) (l : Array Value) (w : World), (callMethod (.iface 165 (.pointer v)) "quern/node.write" l).run Tryz.prog w = .ok (.enter 165 (#[.pointer v] ++ l)) w := by intro v l w; kernel_rfl
theorem mr_inv174_node_out : ∀ (v : Option Addr) (l : Array Value) (w : World), (callMethod (.iface 174 (.pointer v)) "quern/node.out" l).run Tryz.prog w = .ok (.enter 169 (#[.pointer v] ++ l)) w := by intro v l w; kernel_rfl
theorem mr_inv174_node_write : ∀ (v : Option Addr) (l : Array Value) (w : World), (callMethod (.iface 174 (.pointer v)) "quern/node.write" l).run Tryz.prog w = .ok (.enter 171 (#[.pointer v] ++ l)) w := by intro v l w; kernel_rfl
theorem mr_mixed : Tryz.prog.follows .mixedOrders = true := by kernel_rfl
theorem c_param_sizes (k_ : Int) (k : Cx F O w w []) (r : (Int × Int × Int)) (hm : m_param_sizes k_ = some r) :
    Calls Tryz.prog 40 (vals [I k_]) w (fun e w' => e = .returned (SV.val (.tup [I r.1, I r.2.1, I r.2.2])) ∧ Cx F O w w' []) := by
 unfold m_param_sizes at hm
 refine calz [I k_] Tryz.func40 rfl ?_
 refine Wz .a ?_
 refine W_seq <| Wz (.n 5 (I k_) .z) ?_
 refine W_block <| Wz (.n 6 (.b (decide (k_ = 1))) .a) ?_
 refine W_pz (k_ = 1) (fun hc => ?_) fun hc => ?_
 · rw [if_pos hc] at hm
   refine Wz (.n 2 (I 64) (.n 3 (I 64) (.n 4 (I 16) .z))) ?_
   refine W_ret (At_ir (At_tr ?_))
   obtain rfl := si hm
   refine At_rz [I 64, I 64, I 16] qe ?_
   exact ⟨rfl, k⟩
 rw [if_neg hc] at hm
 refine Wz (.n 8 (.b (decide (k_ = 2))) .z) ?_
 refine W_pz (k_ = 2) (fun hc1 => ?_) fun hc1 => ?_
 · rw [if_pos hc1] at hm
   refine Wz (.n 2 (I 32) (.n 3 (I 32) (.n 4 (I 8) .z))) ?_
   refine W_ret (At_ir (At_tr ?_))
   obtain rfl := si hm
   refine At_rz [I 32, I 32, I 8] qe ?_
   exact ⟨rfl, k⟩
 rw [if_neg hc1] at hm
 refine W_skip <| At_in <| At_go <| Wz (.n 2 (I 0) (.n 3 (I 0) (.n 4 (I 0) .z))) ?_
 refine W_ret ?_
 obtain rfl := si hm
 refine At_rz [I 0, I 0, I 0] qe ?_
 exact ⟨rfl, k⟩
theorem c_param_Most (k_ : Int) (k : Cx F O w w []) (r : (Int × Int)) (hm : m_param_Most k_ = some r) :
    Calls Tryz.prog 32 (vals [I k_]) w (fun e w' => e = .returned (SV.val (.tup [I r.1, I r.2])) ∧ Cx F O w w' []) := by
 unfold m_param_Most at hm
 refine calz [I k_] Tryz.func32 rfl ?_
 refine Wz .a ?_
 refine W_seq <| W_reg <| We 1 (.n 8 (I k_) .z) ?_
 refine WL_op ?_
 obtain ⟨r_, h_r_, hm⟩ := ob hm
 refine Op_cz 9 mr_go40 (c_param_sizes (F := N0) (O := N0) _ (Cx.refl _) _ h_r_) ?_
 rintro e_ w_ ⟨rfl, k_1⟩
 have k_2 := k.call k_1
 refine ⟨.tup [I r_.1, I r_.2.1, I r_.2.2], rfl, ?_⟩
 refine We 7 (.n 5 (I r_.2.1) .z) ?_
 refine Wn <| W_seq <| Wz (.n 14 (.b (decide (r_.2.1 = 0))) .a) ?_
 refine W_pz (r_.2.1 = 0) (fun hc => ?_) fun hc => ?_
 · rw [if_pos hc] at hm
   refine Wz (.n 2 (I 0) (.n 3 (I 1) .z)) ?_
   refine W_ret (At_tr ?_)
   obtain rfl := si hm
   refine At_rz [I 0, I 1] qe ?_
   exact ⟨rfl, k_2⟩
 rw [if_neg hc] at hm
 refine W_skip <| At_go <| Wz (.n 2 (I r_.2.1) (.n 3 (I 0) .z)) ?_
 refine W_ret ?_
 obtain rfl := si hm
 refine At_rz [I r_.2.1, I 0] qe ?_
 exact ⟨rfl, k_2⟩
theorem c_mac_most (k_ : Int) (k : Cx F O w w []) (r : Int) (hm : m_mac_most k_ = some r) :
    Calls Tryz.prog 20 (vals [I k_]) w (fun e w' => e = .returned (SV.val (I r)) ∧ Cx F O w w' []) := by
 unfold m_mac_most at hm
 refine calz [I k_] Tryz.func20 rfl ?_
 refine Wz .a ?_
 refine W_seq <| W_reg <| We 1 (.n 6 (I k_) .z) ?_
 refine WL_op ?_
 obtain ⟨r_, h_r_, hm⟩ := ob hm
 refine Op_cz 7 mr_go32 (c_param_Most (F := N0) (O := N0) _ (Cx.refl _) _ h_r_) ?_
 rintro e_ w_ ⟨rfl, k_1⟩
 have k_2 := k.call k_1
 refine ⟨.tup [I r_.1, I r_.2], rfl, ?_⟩
 refine We 5 (.n 3 (I r_.1) .z) ?_
 refine Wn <| Wz (.n 2 (I r_.1) .z) ?_
 refine W_ret ?_
 obtain rfl := si hm
 refine At_rz [I r_.1] qe ?_
 exact ⟨rfl, k_2⟩
theorem c_mac_NewRing (k_ : Int) (n : Int) (k : Cx F O w w []) (r : Int ⊕ (Int × Int × List (List UInt8) × List (List UInt8))) (hm : m_mac_NewRing k_ n = some r) :
    Calls Tryz.prog 4 (vals [I k_, I n]) w (fun e w' => match r with | .inl r0 => e = .returned (SV.val (.tup [.v (.pointer none), I r0])) ∧ Cx F O w w' [] | .inr r1 => ∃ g hd b, e = .returned (SV.val (.tup [pt g 0, I 0])) ∧ Cx F O w w' [Bx 58 g [I r1.1, I r1.2.1, .v (.map (some b))], MR e8 b r1.2.2.1 hd r1.2.2.2]) := by
 unfold m_mac_NewRing at hm
 refine calz [I k_, I n] Tryz.func4 rfl ?_
 refine Wz .a ?_
 refine W_seq <| W_reg <| We 1 (.n 7 (I k_) .a) ?_
 refine WL_op ?_
 obtain ⟨r_, h_r_, hm⟩ := ob hm
 refine Op_cz 8 mr_go20 (c_mac_most (F := N0) (O := N0) _ (Cx.refl _) _ h_r_) ?_
 rintro e_ w_ ⟨rfl, k_1⟩
 have k_2 := k.call k_1
 refine ⟨I r_, rfl, ?_⟩
 refine We 1 (.n 6 (I r_) (.ss .a)) ?_
 refine Wn <| W_seq <| W_block <| Wz (.n 9 (.b (decide (r_ = 0))) .a) ?_
 refine W_pz (r_ = 0) (fun hc => ?_) fun hc => ?_
 · rw [if_pos hc] at hm
   refine Wz (.n 4 (.v (.pointer none)) (.n 5 (I 1) .z)) ?_
   refine W_ret (At_ir (At_tr ?_))
   obtain rfl := si hm
   refine At_rz [.v (.pointer none), I 1] qe ?_
   exact ⟨rfl, k_2⟩
 rw [if_neg hc] at hm
 refine Wz (.n 12 (.b ((decide (n < 1)) || (decide (r_ < n)))) (.ss .a)) ?_
 refine W_cz ((decide (n < 1)) || (decide (r_ < n))) (fun hc1 => ?_) fun hc1 => ?_
 · rw [if_pos hc1] at hm
   refine Wz (.n 4 (.v (.pointer none)) (.n 5 (I 20) .z)) ?_
   refine W_ret (At_ir (At_tr ?_))
   obtain rfl := si hm
   refine At_rz [.v (.pointer none), I 20] qe ?_
   exact ⟨rfl, k_2⟩
 rw [if_neg (by rw [hc1]; decide)] at hm
 refine W_skip <| At_in <| At_go <| W_seq <| W_reg <| We 2 (.n 20 (I k_) (.n 21 (I n) .z)) ?_
 refine WL_op <| Op_mkmap [] 22 (by kernel_rfl) k_2 ?_
 intro b0 w_1 k_3
 have k_4 := k_3.mr_new e8
 refine We 1 (.n 23 (.agg [I k_, I n, .v (.map (some b0))]) .z) ?_
 refine WL_op <| Op_box [] 24 (.agg [I k_, I n, .v (.map (some b0))]) [I k_, I n, .v (.map (some b0))] (by kernel_rfl) k_4 ?_
 intro g0 w_2 k_5
 refine We 2 (.n 4 (pt g0 0) (.n 5 (I 0) .z)) ?_
 refine Wn <| W_ret ?_
 obtain rfl := si hm
 refine At_rz [pt g0 0, I 0] qe ?_
 have k_6 := (k_5.pk .h).pk (.t .h)
 exact ⟨g0, ([] : List Hd), b0, rfl, k_6⟩
theorem c_r02_Most (kind : Int) (k : Cx F O w w []) (r : Int) (hm : m_r02_Most kind = some r) :
    Calls Tryz.prog 21 (vals [I kind]) w (fun e w' => e = .returned (SV.val (I r)) ∧ Cx F O w w' []) := by
 unfold m_r02_Most at hm
 refine calz [I kind] Tryz.func21 rfl ?_
 refine Wz .a ?_
 refine W_seq <| Wz (.n 3 (I kind) .z) ?_
 refine W_block <| Wz (.n 4 (.b (decide (kind = 1))) .a) ?_
 refine W_pz (kind = 1) (fun hc => ?_) fun hc => ?_
 · rw [if_pos hc] at hm
   refine Wz (.n 2 (I 64) .z) ?_
   refine W_ret (At_ir (At_tr ?_))
   obtain rfl := si hm
   refine At_rz [I 64] qe ?_
   exact ⟨rfl, k⟩
 rw [if_neg hc] at hm
 refine Wz (.n 6 (.b (decide (kind = 2))) .z) ?_
 refine W_pz (kind = 2) (fun hc1 => ?_) fun hc1 => ?_
 · rw [if_pos hc1] at hm
   refine Wz (.n 2 (I 32) .z) ?_
   refine W_ret (At_ir (At_tr ?_))
   obtain rfl := si hm
   refine At_rz [I 32] qe ?_
   exact ⟨rfl, k⟩
 rw [if_neg hc1] at hm
 refine W_skip <| At_in <| At_go <| Wz (.n 2 (I 0) .z) ?_
 refine W_ret ?_
 obtain rfl := si hm
 refine At_rz [I 0] qe ?_
 exact ⟨rfl, k⟩
theorem c_r06_NewRing (kind : Int) (n : Int) (k : Cx F O w w []) (r : (Bool × Int × Int × (List (List UInt8 × List UInt8)) × Int)) (hm : m_r06_NewRing kind n = some r) :
    Calls Tryz.prog 5 (vals [I kind, I n]) w (fun e w' => ∃ A n1 c ys, r.2.2.2.1.length = n1 ∧ e = .returned (SV.val (.tup [.agg [.b r.1, I r.2.1, I r.2.2.1, sl A n1 c], I r.2.2.2.2])) ∧ Cx F O w w' [OG (eP eS eH) (SP SQ (SH e8)) A n1 c ys r.2.2.2.1]) := by
 unfold m_r06_NewRing at hm
 refine calz [I kind, I n] Tryz.func5 rfl ?_
 refine W_seq <| W_reg <| WL_op <| Op_alloc [] 4 [.b false, I 0, I 0, sl none 0 0] (by kernel_rfl) k ?_
 intro g w_ k_
 refine We 1 .a ?_
 refine Wn <| W_seq <| W_block <| W_seq <| W_reg <| We 1 (.n 7 (I kind) .a) ?_
 refine WL_op ?_
 obtain ⟨r_, h_r_, hm⟩ := ob hm
 refine Op_cz 8 mr_go21 (c_r02_Most (F := N0) (O := N0) _ (Cx.refl _) _ h_r_) ?_
 rintro e_ w_1 ⟨rfl, k_1⟩
 have k_2 := k_.call k_1
 refine ⟨I r_, rfl, ?_⟩
 refine We 2 (.n 6 (.b (decide (r_ = 0))) (.ss .a)) ?_
 refine Wn <| W_pz (r_ = 0) (fun hc => ?_) fun hc => ?_
 · rw [if_pos hc] at hm
   refine W_seq <| W_reg <| We 1 (.n 10 (.agg [.b false, I 0, I 0, sl none 0 0]) (.s (.k .z))) ?_
   refine WL_op <| Op_bz 0 (.agg [.b false, I 0, I 0, sl none 0 0]) [.b false, I 0, I 0, sl none 0 0] (Pt.at g 0) k_2 rfl .all ?_
   intro w_2 k_3
   refine We 1 (.n 5 (I 1) (.s .a)) ?_
   refine Wn <| W_ret (At_ir (At_tr ?_))
   have k_4 := k_3.ognil (eP eS eH) (SP SQ (SH e8))
   obtain rfl := si hm
   refine At_rz [.agg [.b false, I 0, I 0, sl none 0 0], I 1] (qo (.agg [.b false, I 0, I 0, sl none 0 0]) <| qc (fun w => Rd w (some ⟨g, 0, none⟩) (SV.cl [.b false, I 0, I 0, sl none 0 0])) (k_3.brd 0 rfl) <| qe) ?_
   have k_5 := k_4.sel (.k .z)
   exact ⟨none, 0, 0, ([] : List (List UInt8 × Hd)), k_5.oglen 0 rfl, rfl, k_5⟩
 rw [if_neg hc] at hm
 refine W_seq <| W_reg <| We 3 (.n 14 (.b (decide (n < 1))) (.s .a)) ?_
 refine WL_sp 14 (decide (n < 1)) (.s .a) (by kernel_rfl) (fun hg => ?_) (fun hg => ?_)
 · rw [if_pos (of_decide_eq_true hg)] at hm
   refine WLs 6 [14] (.n 11 (.b true) (.s .a)) qe (by kernel_rfl) ?_
   refine Wn <| W_cond true (by kernel_rfl) (fun _ => ?_) (fun h => by cases h)
   refine W_seq <| W_reg <| We 1 (.n 20 (.agg [.b false, I 0, I 0, sl none 0 0]) (.s (.k .z))) ?_
   refine WL_op <| Op_bz 0 (.agg [.b false, I 0, I 0, sl none 0 0]) [.b false, I 0, I 0, sl none 0 0] (Pt.at g 0) k_2 rfl .all ?_
   intro w_3 k_6
   refine We 1 (.n 5 (I 20) (.s .a)) ?_
   refine Wn <| W_ret (At_ir (At_tr ?_))
   have k_7 := k_6.ognil (eP eS eH) (SP SQ (SH e8))
   obtain rfl := si hm
   refine At_rz [.agg [.b false, I 0, I 0, sl none 0 0], I 20] (qo (.agg [.b false, I 0, I 0, sl none 0 0]) <| qc (fun w => Rd w (some ⟨g, 0, none⟩) (SV.cl [.b false, I 0, I 0, sl none 0 0])) (k_6.brd 0 rfl) <| qe) ?_
   have k_8 := k_7.sel (.k .z)
   exact ⟨none, 0, 0, ([] : List (List UInt8 × Hd)), k_8.oglen 0 rfl, rfl, k_8⟩
 · rw [if_neg (of_decide_eq_false hg)] at hm
   refine WLs 2 [14] (.n 15 (I n) (.n 16 (I kind) .a)) qe (by kernel_rfl) ?_
   refine WL_op ?_
   obtain ⟨r_1, h_r_1, hm⟩ := ob hm
   refine Op_call [14] 17 _ mr_go21 (by kernel_rfl) (c_r02_Most (F := N0) (O := N0) _ (Cx.refl _) _ h_r_1) ?_
   rintro e_ w_4 ⟨rfl, k_9⟩
   have k_10 := k_2.call k_9
   refine ⟨I r_1, rfl, ?_⟩
   refine WLs 3 [14] (.n 11 (.b (decide (r_1 < n))) (.ssss .a)) qe (by kernel_rfl) ?_
   refine Wn <| W_pz (r_1 < n) (fun hc1 => ?_) fun hc1 => ?_
   · rw [if_pos hc1] at hm
     refine W_seq <| W_reg <| We 1 (.n 20 (.agg [.b false, I 0, I 0, sl none 0 0]) (.s (.k .z))) ?_
     refine WL_op <| Op_bz 0 (.agg [.b false, I 0, I 0, sl none 0 0]) [.b false, I 0, I 0, sl none 0 0] (Pt.at g 0) k_10 rfl .all ?_
     intro w_5 k_11
     refine We 1 (.n 5 (I 20) (.s .a)) ?_
     refine Wn <| W_ret (At_ir (At_tr ?_))
     have k_12 := k_11.ognil (eP eS eH) (SP SQ (SH e8))
     obtain rfl := si hm
     refine At_rz [.agg [.b false, I 0, I 0, sl none 0 0], I 20] (qo (.agg [.b false, I 0, I 0, sl none 0 0]) <| qc (fun w => Rd w (some ⟨g, 0, none⟩) (SV.cl [.b false, I 0, I 0, sl none 0 0])) (k_11.brd 0 rfl) <| qe) ?_
     have k_13 := k_12.sel (.k .z)
     exact ⟨none, 0, 0, ([] : List (List UInt8 × Hd)), k_13.oglen 0 rfl, rfl, k_13⟩
   rw [if_neg hc1] at hm
   refine W_skip <| At_in <| At_go <| W_seq <| W_reg <| We 3 (.n 23 (.agg [.b true, I kind, I n, sl none 0 0]) (.s (.k .z))) ?_
   refine WL_op <| Op_bz 0 (.agg [.b true, I kind, I n, sl none 0 0]) [.b true, I kind, I n, sl none 0 0] (Pt.at g 0) k_10 rfl .all ?_
   intro w_6 k_14
   refine We 1 (.n 5 (I 0) (.s .a)) ?_
   refine Wn <| W_ret ?_
   have k_15 := k_14.ognil (eP eS eH) (SP SQ (SH e8))
   obtain rfl := si hm
   refine At_rz [.agg [.b true, I kind, I n, sl none 0 0], I 0] (qo (.agg [.b true, I kind, I n, sl none 0 0]) <| qc (fun w => Rd w (some ⟨g, 0, none⟩) (SV.cl [.b true, I kind, I n, sl none 0 0])) (k_14.brd 0 rfl) <| qe) ?_
   have k_16 := k_15.sel (.k .z)
   exact ⟨none, 0, 0, ([] : List (List UInt8 × Hd)), k_16.oglen 0 rfl, rfl, k_16⟩
theorem c_l06_wide (b : List UInt8) (A_b : Option Addr) (n_b : Nat) (c_b : Nat) (h_b : Ro F w A_b (e8.all b)) (hn_b : b.length = n_b) (hc_b : n_b ≤ c_b) (k : Cx F O w w []) (r : (List UInt8)) (hm : m_l06_wide b = some r) :
    Calls Tryz.prog 6 (vals [sl A_b n_b c_b]) w (fun e w' => ∃ A n c, r.length = n ∧ e = .returned (SV.val (sl A n c)) ∧ Cx F O w w' [Ow e8 A n c r]) := by
 unfold m_l06_wide at hm
 subst hn_b
 refine calz [sl A_b b.length c_b] Tryz.func6 rfl ?_
 refine Wz .a ?_
 refine Wz (.n 3 (sl none 0 0) .a) ?_
 refine W_seq <| W_reg <| We 2 (.n 5 (sl none 0 0) (.n 6 (sl A_b b.length c_b) (.k .z))) ?_
 refine WL_op ?_
 have k_ := k.nil e8
 obtain ⟨out, h_out, hm⟩ := ob hm
 obtain ⟨hz, hl⟩ := app_some h_out
 refine Op_append (E := e8) (v := sl A_b b.length c_b) (ys := b) mr_tf33 [] 7 0 (by kernel_rfl) k_ rfl (Src.sl (h_b.cx k_) rfl (by rfl)) rfl (by have := k_.len 0 rfl; have := hm; omega) ?_
 intro A0 c0 w_ k_1
 rw [← hl] at k_1
 refine We 1 (.n 3 (sl A0 (0 + b.length) c0) .z) ?_
 refine Wn <| W_seq <| Wz (.n 4 (I 0) .a) ?_
 refine W_block <| W_lp (m_l06_wide_l0) (fun s L wr => ∃ (out1 : List UInt8) (i : Int) (A1 : Option Addr) (n0 : Nat) (c1 : Nat), (out1, i) = s ∧ L = [(3, sl A1 n0 c1), (4, I i)] ∧ out1.length = n0 ∧ Cx F O w wr [Ow e8 A1 n0 c1 out1]) (out, (0 : Int)) r hm ⟨out, (0 : Int), A0, 0 + b.length, c0, rfl, rfl, k_1.len 0 rfl, k_1⟩ (by kernel_rfl) ?_
 intro s0_ L_ w_1 y0 hrel hstep hr0
 obtain ⟨out1, i, A1, _, c1, rfl, rfl, rfl, k_2⟩ := hrel
 have hm := hstep; simp only [m_l06_wide_l0] at hm
 clear hstep
 refine W_seq <| Wz (.n 9 (.b (decide (i < 70))) .a) ?_
 refine W_pz (i < 70) (fun hc => ?_) fun hc => ?_
 · rw [if_pos hc] at hm
   refine W_skip <| At_go <| W_seq <| W_block <| W_reg <| Wl 5 (.n 12 (sl A1 out1.length c1) (.n 16 (.u8 (UInt8.ofInt (w64 (200 + (Int.tmod i 7))))) (.s .a))) (qp ((7 : Int) ≠ (0 : Int)) (by omega) <| qe) ?_
   refine WL_op <| Op_mk mr_tf33 e8 [] 17 ([UInt8.ofInt (w64 (200 + (Int.tmod i 7)))] : List UInt8) [(0, .u8 (UInt8.ofInt (w64 (200 + (Int.tmod i 7)))))] [.u8 (UInt8.ofInt (w64 (200 + (Int.tmod i 7))))] (by kernel_rfl) (by kernel_rfl) (by kernel_rfl) k_2 ?_
   intro A2 w_2 k_3
   refine WL_op ?_
   obtain ⟨out2, h_out2, hm⟩ := ob hm
   obtain ⟨hz1, hl1⟩ := app_some h_out2
   refine Op_append (E := e8) (v := sl A2 1 1) (ys := ([UInt8.ofInt (w64 (200 + (Int.tmod i 7)))] : List UInt8)) mr_tf33 [] 18 0 (by kernel_rfl) k_3 rfl (Src.sl (k_3.rd 1 rfl) (k_3.len 1 rfl) (by rfl)) (k_3.len 1 rfl) (by have := k_3.len 0 rfl; have := (k_3.len 1 rfl); omega) ?_
   intro A3 c2 w_3 k_4
   rw [← hl1] at k_4
   have k_5 := k_4.sel (.k .z)
   refine We 1 (.n 3 (sl A3 (out1.length + 1) c2) (.ssss (.s .a))) ?_
   refine WL_nil <| At_in <| At_go <| W_q [] (.n 4 (I (w64 (i + 1))) (.k .z)) qe (by kernel_rfl) ?_
   exact At_rd (out2, w64 (i + 1)) (Option.some.inj hm).symm ⟨out2, w64 (i + 1), A3, out1.length + 1, c2, rfl, rfl, k_5.len 0 rfl, k_5⟩ (by kernel_rfl)
 rw [if_neg hc] at hm
 refine W_exit (At_te (At_te (At_ie ?_)))
 have hm := exit_of hm hr0
 refine At_go <| Wz (.n 2 (sl A1 out1.length c1) .z) ?_
 refine W_ret ?_
 obtain rfl := si hm
 refine At_rz [sl A1 out1.length c1] qe ?_
 exact ⟨A1, out1.length, c1, k_2.len 0 rfl, rfl, k_2⟩
theorem c_mac_Ring_none (k : Cx F O w w []) (r : Unit) (hm : m_mac_Ring_none = some r) :
    Calls Tryz.prog 22 (vals [.v (.pointer none)]) w (fun e w' => e = .returned (SV.val (.b true)) ∧ Cx F O w w' []) := by
 unfold m_mac_Ring_none at hm
 refine calz [.v (.pointer none)] Tryz.func22 rfl ?_
 refine Wz .a ?_
 refine W_seq <| W_q [5] (.n 2 (.b true) .z) qe (by kernel_rfl) ?_
 refine At_go <| W_ret ?_
 obtain rfl := si hm
 refine At_rz [.b true] qe ?_
 exact ⟨rfl, k⟩
theorem c_mac_Ring_Add (name : List UInt8) (key : List UInt8) (A_key : Option Addr) (n_key : Nat) (c_key : Nat) (h_key : Ro F w A_key (e8.all key)) (hn_key : key.length = n_key) (hc_key : n_key ≤ c_key) (k : Cx F O w w []) (r : Unit) (hm : m_mac_Ring_Add name key = some r) :
    Calls Tryz.prog 7 (vals [.v (.pointer none), .s name, sl A_key n_key c_key]) w (fun e w' => e = .returned (SV.val (I 7)) ∧ Cx F O w w' []) := by
 unfold m_mac_Ring_Add at hm
 subst hn_key
 refine calz [.v (.pointer none), .s name, sl A_key key.length c_key] Tryz.func7 rfl ?_
 refine Wz .a ?_
 refine W_seq <| W_seq <| W_reg <| We 1 (.n 9 (.v (.pointer none)) .a) ?_
 refine WL_op ?_
 obtain ⟨r_, h_r_, hm⟩ := ob hm
 refine Op_cz 10 mr_go22 (c_mac_Ring_none (F := N0) (O := N0)  (Cx.refl _) _ h_r_) ?_
 rintro e_ w_ ⟨rfl, k_⟩
 have k_1 := k.call k_
 refine ⟨.b true, rfl, ?_⟩
 refine Wn <| W_cond true (by kernel_rfl) (fun _ => ?_) (fun h => by cases h)
 refine Wz (.n 6 (I 7) .z) ?_
 refine W_ret (At_tr ?_)
 obtain rfl := si hm
 refine At_rz [I 7] qe ?_
 exact ⟨rfl, k_1⟩
theorem c_r06_Label (s_ : List UInt8) (k : Cx F O w w []) (r : Bool) (hm : m_r06_Label s_ = some r) :
    Calls Tryz.prog 25 (vals [.s s_]) w (fun e w' => e = .returned (SV.val (.b r)) ∧ Cx F O w w' []) := by
 unfold m_r06_Label at hm
 refine calz [.s s_] Tryz.func25 rfl ?_
 refine Wz .a ?_
 refine W_seq <| Wz (.n 11 (.b ((decide ((s_.length : Int) < 1)) || (decide (64 < (s_.length : Int))))) .a) ?_
 refine W_cz ((decide ((s_.length : Int) < 1)) || (decide (64 < (s_.length : Int)))) (fun hc => ?_) fun hc => ?_
 · rw [if_pos hc] at hm
   refine Wz (.n 2 (.b false) .z) ?_
   refine W_ret (At_tr ?_)
   obtain rfl := si hm
   refine At_rz [.b false] qe ?_
   exact ⟨rfl, k⟩
 rw [if_neg (by rw [hc]; decide)] at hm
 refine W_skip <| At_go <| W_seq <| Wz (.n 3 (I 0) (.s .a)) ?_
 refine W_block <| W_lp (m_r06_Label_l0 s_) (fun s L wr => ∃ (i : Int), i = s ∧ L = [(0, .s s_), (3, I i)] ∧ Cx F O w wr []) (0 : Int) r hm ⟨(0 : Int), rfl, rfl, k⟩ (by kernel_rfl) ?_
 intro s0_ L_ w_ y0 hrel hstep hr0
 obtain ⟨i, rfl, rfl, k_⟩ := hrel
 have hm := hstep; simp only [m_r06_Label_l0] at hm
 clear hstep
 refine W_seq <| Wz (.n 15 (.b (decide (i < (s_.length : Int)))) .a) ?_
 refine W_pz (i < (s_.length : Int)) (fun hc1 => ?_) fun hc1 => ?_
 · rw [if_pos hc1] at hm
   refine W_skip <| At_go <| W_seq <| W_block <| W_seq ?_
   obtain ⟨c, h_c, hm⟩ := ob hm
   obtain ⟨c1, h_c1, hm⟩ := ob hm
   refine Wa (.n 27 (.b ((decide (c < 33)) || (decide ((126 : UInt8) < c1)))) (.s .a)) (qX h_c <| qo (.u8 c1) <| qp ((decide (c < 33)) = false → 0 ≤ i ∧ s_[Int.toNat i]? = some c1) (fun hg0 => geti_some (gif_not h_c1 hg0)) <| qe) ?_
   refine W_cz ((decide (c < 33)) || (decide ((126 : UInt8) < c1))) (fun hc2 => ?_) fun hc2 => ?_
   · rw [if_pos hc2] at hm
     refine Wz (.n 2 (.b false) .z) ?_
     refine W_ret (At_ir (At_tr (At_tr (At_ir (At_tr ?_)))))
     have hm := exit_of hm hr0
     obtain rfl := si hm
     refine At_rz [.b false] qe ?_
     exact ⟨rfl, k_⟩
   rw [if_neg (by rw [hc2]; decide)] at hm
   refine W_skip <| At_in <| At_go <| W_q [] (.n 3 (I (w64 (i + 1))) (.s (.k .z))) qe (by kernel_rfl) ?_
   exact At_rd (w64 (i + 1)) (Option.some.inj hm).symm ⟨w64 (i + 1), rfl, rfl, k_⟩ (by kernel_rfl)
 rw [if_neg hc1] at hm
 refine W_exit (At_te (At_te (At_ie ?_)))
 have hm := exit_of hm hr0
 refine At_go <| Wz (.n 2 (.b true) .z) ?_
 refine W_ret ?_
 obtain rfl := si hm
 refine At_rz [.b true] qe ?_
 exact ⟨rfl, k_⟩
theorem c_r06_find (r_Made : Bool) (r_Kind : Int) (r_N : Int) (r_Keys : List (List UInt8 × List UInt8)) (name : List UInt8) (A_r_Keys : Option Addr) (n_r_Keys : Nat) (c_r_Keys : Nat) (ys_r_Keys : List (List UInt8 × Hd)) (h_r_Keys : RoG F w (eP eS eH) (RP RQ (RH F w e8)) A_r_Keys ys_r_Keys r_Keys) (hn_r_Keys : r_Keys.length = n_r_Keys) (hc_r_Keys : n_r_Keys ≤ c_r_Keys) (k : Cx F O w w []) (r : Int) (hm : m_r06_find r_Made r_Kind r_N r_Keys name = some r) :
    Calls Tryz.prog 26 (vals [.agg [.b r_Made, I r_Kind, I r_N, sl A_r_Keys n_r_Keys c_r_Keys], .s name]) w (fun e w' => e = .returned (SV.val (I r)) ∧ Cx F O w w' []) := by
 unfold m_r06_find at hm
 subst hn_r_Keys
 refine calz [.agg [.b r_Made, I r_Kind, I r_N, sl A_r_Keys r_Keys.length c_r_Keys], .s name] Tryz.func26 rfl ?_
 refine W_seq <| W_reg <| WL_op <| Op_box [] 2 (.agg [.b r_Made, I r_Kind, I r_N, sl A_r_Keys r_Keys.length c_r_Keys]) [.b r_Made, I r_Kind, I r_N, sl A_r_Keys r_Keys.length c_r_Keys] (by kernel_rfl) k ?_
 intro g w_ k_
 refine We 1 (.k (.s .a)) ?_
 refine Wn <| W_seq <| Wz (.n 5 (I 0) .a) ?_
 refine W_block <| W_lp (m_r06_find_l0 r_Keys name) (fun s L wr => ∃ (i : Int), i = s ∧ L = [(1, .s name), (2, pt g 0), (5, I i)] ∧ Cx F O w wr [Bx 30 g [.b r_Made, I r_Kind, I r_N, sl A_r_Keys r_Keys.length c_r_Keys]]) (0 : Int) r hm ⟨(0 : Int), rfl, rfl, k_⟩ (by kernel_rfl) ?_
 intro s0_ L_ w_1 y0 hrel hstep hr0
 obtain ⟨i, rfl, rfl, k_1⟩ := hrel
 have hm := hstep; simp only [m_r06_find_l0] at hm
 clear hstep
 refine W_seq <| W_seq <| Wa (.n 10 (.b (decide (i < (r_Keys.length : Int)))) .a) (qs g 0 <| qB k_1 0 rfl 3 (sl A_r_Keys r_Keys.length c_r_Keys) (by kernel_rfl) <| qe) ?_
 refine W_pz (i < (r_Keys.length : Int)) (fun hc => ?_) fun hc => ?_
 · rw [if_pos hc] at hm
   refine W_skip <| At_go <| W_seq <| W_block <| W_seq ?_
   obtain ⟨x_0, zh0, hm⟩ := ob hm
   obtain ⟨⟨q, ⟨B, n, c⟩⟩, hy, hg⟩ := h_r_Keys.at zh0
   simp only [RP, RQ, RH] at hg; obtain ⟨rfl, ⟨rfl, hle, hro⟩⟩ := hg
   refine Wa (.n 20 (.b (decide (x_0.1 = name))) (.s .a)) (qs g 0 <| qB k_1 0 rfl 3 (sl A_r_Keys r_Keys.length c_r_Keys) (by kernel_rfl) <| qJ (E := (eP eS eH)) (h_r_Keys.ro.cx k_1) hy h_r_Keys.len <| qS (A := ixA A_r_Keys i 2) (ixA_some _ _ (E_ix (E := (eP eS eH)) (h_r_Keys.ro.cx k_1) (by decide) (geti_lt hy).1 (geti_some hy).2)) <| qC (.s x_0.1) (Rd.el (k := 0) (h_r_Keys.ro.cx k_1) hy (Pt.fa2 (Pt.ix1 A_r_Keys i 2) 0) rfl) <| qe) ?_
   refine W_pz (x_0.1 = name) (fun hc1 => ?_) fun hc1 => ?_
   · rw [if_pos hc1] at hm
     refine Wz (.n 4 (I i) .z) ?_
     refine W_ret (At_ir (At_tr (At_tr (At_ir (At_tr ?_)))))
     have hm := exit_of hm hr0
     obtain rfl := si hm
     refine At_rz [I i] qe ?_
     have k_2 := k_1.sel .z
     exact ⟨rfl, k_2⟩
   rw [if_neg hc1] at hm
   refine W_skip <| At_in <| At_go <| W_q [] (.n 5 (I (w64 (i + 1))) (.s (.kk .z))) qe (by kernel_rfl) ?_
   exact At_rd (w64 (i + 1)) (Option.some.inj hm).symm ⟨w64 (i + 1), rfl, rfl, k_1⟩ (by kernel_rfl)
 rw [if_neg hc] at hm
 refine W_exit (At_te (At_te (At_ie ?_)))
 have hm := exit_of hm hr0
 refine At_go <| Wz (.n 4 (I (-1)) .z) ?_
 refine W_ret ?_
 obtain rfl := si hm
 refine At_rz [I (-1)] qe ?_
 have k_3 := k_1.sel .z
 exact ⟨rfl, k_3⟩
theorem c_r06_Add (r_Made : Bool) (r_Kind : Int) (r_N : Int) (r_Keys : List (List UInt8 × List UInt8)) (name : List UInt8) (key : List UInt8) (A_r_Keys : Option Addr) (n_r_Keys : Nat) (c_r_Keys : Nat) (ys_r_Keys : List (List UInt8 × Hd)) (A_key : Option Addr) (n_key : Nat) (c_key : Nat) (h_r_Keys1 : RoH F O w (eP eS eH) (SP SQ (SH e8)) A_r_Keys ys_r_Keys r_Keys) (hn_r_Keys : r_Keys.length = n_r_Keys) (hc_r_Keys : n_r_Keys ≤ c_r_Keys) (h_key : Ro F w A_key (e8.all key)) (hn_key : key.length = n_key) (hc_key : n_key ≤ c_key) (k : Cx F O w w []) (r : (Bool × Int × Int × Int) ⊕ (Bool × Int × Int × (List (List UInt8 × List UInt8)))) (hm : m_r06_Add r_Made r_Kind r_N r_Keys name key = some r) :
    Calls Tryz.prog 8 (vals [.agg [.b r_Made, I r_Kind, I r_N, sl A_r_Keys n_r_Keys c_r_Keys], .s name, sl A_key n_key c_key]) w (fun e w' => match r with | .inl r0 => e = .returned (SV.val (.tup [.agg [.b r0.1, I r0.2.1, I r0.2.2.1, sl A_r_Keys n_r_Keys c_r_Keys], I r0.2.2.2])) ∧ Cx F O w w' [] | .inr r1 => ∃ A n c ys, r1.2.2.2.length = n ∧ e = .returned (SV.val (.tup [.agg [.b r1.1, I r1.2.1, I r1.2.2.1, sl A n c], I 0])) ∧ Cx F O w w' [OG (eP eS eH) (SP SQ (SH e8)) A n c ys r1.2.2.2]) := by
 unfold m_r06_Add at hm
 have h_r_Keys : RoG F w (eP eS eH) (RP RQ (RH F w e8)) A_r_Keys ys_r_Keys r_Keys := h_r_Keys1.rog k.off (fun R_ y_ x_ hR_ q_ => ⟨(And.left q_), (SH.rh (And.right q_) hR_)⟩)
 subst hn_r_Keys
 subst hn_key
 refine calz [.agg [.b r_Made, I r_Kind, I r_N, sl A_r_Keys r_Keys.length c_r_Keys], .s name, sl A_key key.length c_key] Tryz.func8 rfl ?_
 refine W_seq <| W_reg <| WL_op <| Op_box [] 3 (.agg [.b r_Made, I r_Kind, I r_N, sl A_r_Keys r_Keys.length c_r_Keys]) [.b r_Made, I r_Kind, I r_N, sl A_r_Keys r_Keys.length c_r_Keys] (by kernel_rfl) k ?_
 intro g w_ k_
 refine WL_op <| Op_alloc [] 6 [.b false, I 0, I 0, sl none 0 0] (by kernel_rfl) k_ ?_
 intro g1 w_1 k_1
 refine We 1 (.kk (.s .a)) ?_
 refine Wn <| W_seq <| W_block <| W_seq <| Wa (.n 12 (.b (!r_Made)) .a) (qs g 0 <| qB k_1 0 rfl 0 (.b r_Made) (by kernel_rfl) <| qe) ?_
 refine W_cz (!r_Made) (fun hc => ?_) fun hc => ?_
 · rw [if_pos hc] at hm
   refine W_seq <| W_reg <| Wl 1 (.n 16 (.agg [.b r_Made, I r_Kind, I r_N, sl A_r_Keys r_Keys.length c_r_Keys]) (.s (.k .z))) (qT k_1 0 rfl 0 4 [.b r_Made, I r_Kind, I r_N, sl A_r_Keys r_Keys.length c_r_Keys] (by kernel_rfl) (by decide) <| qe) ?_
   refine WL_op <| Op_bz 1 (.agg [.b r_Made, I r_Kind, I r_N, sl A_r_Keys r_Keys.length c_r_Keys]) [.b r_Made, I r_Kind, I r_N, sl A_r_Keys r_Keys.length c_r_Keys] (Pt.at g1 0) k_1 rfl .all ?_
   intro w_2 k_2
   have k_3 := k_2.sel (.s (.k .e))
   refine We 1 (.n 7 (I 7) (.s .a)) ?_
   refine Wn <| W_ret (At_ir (At_tr ?_))
   obtain rfl := si hm
   refine At_rz [.agg [.b r_Made, I r_Kind, I r_N, sl A_r_Keys r_Keys.length c_r_Keys], I 7] (qo (.agg [.b r_Made, I r_Kind, I r_N, sl A_r_Keys r_Keys.length c_r_Keys]) <| qc (fun w => Rd w (some ⟨g1, 0, none⟩) (SV.cl [.b r_Made, I r_Kind, I r_N, sl A_r_Keys r_Keys.length c_r_Keys])) (k_3.brd 0 rfl) <| qe) ?_
   have k_4 := k_3.sel .z
   exact ⟨rfl, k_4⟩
 rw [if_neg (by rw [hc]; decide)] at hm
 refine W_seq <| W_reg <| We 1 (.n 18 (.s name) (.s .a)) ?_
 refine WL_op ?_
 obtain ⟨r_, h_r_, hm⟩ := ob hm
 refine Op_cz 19 mr_go25 (c_r06_Label (F := N0) (O := N0) _ (Cx.refl _) _ h_r_) ?_
 rintro e_ w_3 ⟨rfl, k_5⟩
 have k_6 := k_1.call k_5
 refine ⟨.b r_, rfl, ?_⟩
 refine We 2 (.n 17 (.b (!r_)) (.ss .a)) ?_
 refine Wn <| W_cz (!r_) (fun hc1 => ?_) fun hc1 => ?_
 · rw [if_pos hc1] at hm
   refine W_seq <| W_reg <| Wl 1 (.n 21 (.agg [.b r_Made, I r_Kind, I r_N, sl A_r_Keys r_Keys.length c_r_Keys]) (.s (.k .z))) (qT k_6 0 rfl 0 4 [.b r_Made, I r_Kind, I r_N, sl A_r_Keys r_Keys.length c_r_Keys] (by kernel_rfl) (by decide) <| qe) ?_
   refine WL_op <| Op_bz 1 (.agg [.b r_Made, I r_Kind, I r_N, sl A_r_Keys r_Keys.length c_r_Keys]) [.b r_Made, I r_Kind, I r_N, sl A_r_Keys r_Keys.length c_r_Keys] (Pt.at g1 0) k_6 rfl .all ?_
   intro w_4 k_7
   have k_8 := k_7.sel (.s (.k .e))
   refine We 1 (.n 7 (I 62) (.s .a)) ?_
   refine Wn <| W_ret (At_ir (At_tr ?_))
   obtain rfl := si hm
   refine At_rz [.agg [.b r_Made, I r_Kind, I r_N, sl A_r_Keys r_Keys.length c_r_Keys], I 62] (qo (.agg [.b r_Made, I r_Kind, I r_N, sl A_r_Keys r_Keys.length c_r_Keys]) <| qc (fun w => Rd w (some ⟨g1, 0, none⟩) (SV.cl [.b r_Made, I r_Kind, I r_N, sl A_r_Keys r_Keys.length c_r_Keys])) (k_8.brd 0 rfl) <| qe) ?_
   have k_9 := k_8.sel .z
   exact ⟨rfl, k_9⟩
 rw [if_neg (by rw [hc1]; decide)] at hm
 refine W_seq <| W_reg <| We 4 (.n 26 (.b (decide ((key.length : Int) < 1))) (.s .a)) ?_
 refine WL_sp 26 (decide ((key.length : Int) < 1)) (.s .a) (by kernel_rfl) (fun hg => ?_) (fun hg => ?_)
 · rw [if_pos (of_decide_eq_true hg)] at hm
   refine WLs 8 [26] (.n 22 (.b true) (.s .a)) qe (by kernel_rfl) ?_
   refine Wn <| W_cond true (by kernel_rfl) (fun _ => ?_) (fun h => by cases h)
   refine W_seq <| W_reg <| Wl 1 (.n 34 (.agg [.b r_Made, I r_Kind, I r_N, sl A_r_Keys r_Keys.length c_r_Keys]) (.s (.k .z))) (qT k_6 0 rfl 0 4 [.b r_Made, I r_Kind, I r_N, sl A_r_Keys r_Keys.length c_r_Keys] (by kernel_rfl) (by decide) <| qe) ?_
   refine WL_op <| Op_bz 1 (.agg [.b r_Made, I r_Kind, I r_N, sl A_r_Keys r_Keys.length c_r_Keys]) [.b r_Made, I r_Kind, I r_N, sl A_r_Keys r_Keys.length c_r_Keys] (Pt.at g1 0) k_6 rfl .all ?_
   intro w_5 k_10
   have k_11 := k_10.sel (.s (.k .e))
   refine We 1 (.n 7 (I 8) (.s .a)) ?_
   refine Wn <| W_ret (At_ir (At_tr ?_))
   obtain rfl := si hm
   refine At_rz [.agg [.b r_Made, I r_Kind, I r_N, sl A_r_Keys r_Keys.length c_r_Keys], I 8] (qo (.agg [.b r_Made, I r_Kind, I r_N, sl A_r_Keys r_Keys.length c_r_Keys]) <| qc (fun w => Rd w (some ⟨g1, 0, none⟩) (SV.cl [.b r_Made, I r_Kind, I r_N, sl A_r_Keys r_Keys.length c_r_Keys])) (k_11.brd 0 rfl) <| qe) ?_
   have k_12 := k_11.sel .z
   exact ⟨rfl, k_12⟩
 · rw [if_neg (of_decide_eq_false hg)] at hm
   refine WLs 4 [26] (.n 28 (I (key.length : Int)) (.n 30 (I r_Kind) .a)) (qs g 0 <| qB k_6 0 rfl 1 (I r_Kind) (by kernel_rfl) <| qe) (by kernel_rfl) ?_
   refine WL_op ?_
   obtain ⟨r_1, h_r_1, hm⟩ := ob hm
   refine Op_call [26] 31 _ mr_go21 (by kernel_rfl) (c_r02_Most (F := N0) (O := N0) _ (Cx.refl _) _ h_r_1) ?_
   rintro e_ w_6 ⟨rfl, k_13⟩
   have k_14 := k_6.call k_13
   refine ⟨I r_1, rfl, ?_⟩
   refine WLs 3 [26] (.n 22 (.b (decide (r_1 < (key.length : Int)))) (.ssss .a)) qe (by kernel_rfl) ?_
   refine Wn <| W_pz (r_1 < (key.length : Int)) (fun hc2 => ?_) fun hc2 => ?_
   · rw [if_pos hc2] at hm
     refine W_seq <| W_reg <| Wl 1 (.n 34 (.agg [.b r_Made, I r_Kind, I r_N, sl A_r_Keys r_Keys.length c_r_Keys]) (.s (.k .z))) (qT k_14 0 rfl 0 4 [.b r_Made, I r_Kind, I r_N, sl A_r_Keys r_Keys.length c_r_Keys] (by kernel_rfl) (by decide) <| qe) ?_
     refine WL_op ?_
     have k_15 := k_14.sel (.kk .e)
     refine Op_bz 1 (.agg [.b r_Made, I r_Kind, I r_N, sl A_r_Keys r_Keys.length c_r_Keys]) [.b r_Made, I r_Kind, I r_N, sl A_r_Keys r_Keys.length c_r_Keys] (Pt.at g1 0) k_15 rfl .all ?_
     intro w_7 k_16
     have k_17 := k_16.sel (.s (.k .e))
     refine We 1 (.n 7 (I 8) (.s .a)) ?_
     refine Wn <| W_ret (At_ir (At_tr ?_))
     obtain rfl := si hm
     refine At_rz [.agg [.b r_Made, I r_Kind, I r_N, sl A_r_Keys r_Keys.length c_r_Keys], I 8] (qo (.agg [.b r_Made, I r_Kind, I r_N, sl A_r_Keys r_Keys.length c_r_Keys]) <| qc (fun w => Rd w (some ⟨g1, 0, none⟩) (SV.cl [.b r_Made, I r_Kind, I r_N, sl A_r_Keys r_Keys.length c_r_Keys])) (k_17.brd 0 rfl) <| qe) ?_
     have k_18 := k_17.sel .z
     exact ⟨rfl, k_18⟩
   rw [if_neg hc2] at hm
   refine W_seq <| W_reg <| Wl 2 (.n 36 (.agg [.b r_Made, I r_Kind, I r_N, sl A_r_Keys r_Keys.length c_r_Keys]) (.n 37 (.s name) (.s .a))) (qT k_14 0 rfl 0 4 [.b r_Made, I r_Kind, I r_N, sl A_r_Keys r_Keys.length c_r_Keys] (by kernel_rfl) (by decide) <| qe) ?_
   refine WL_op ?_
   have k_19 := k_14.sel (.kk .e)
   obtain ⟨r_2, h_r_2, hm⟩ := ob hm
   refine Op_cz 38 mr_go26 (c_r06_find (F := N0) (O := N0) _ _ _ _ _ _ _ _ _ (RoG.mono h_r_Keys (fun q => Ro.n0 (q.cx k_19)) (fun y x q => ⟨(And.left q), (RH.cx (And.right q) k_19)⟩)) rfl hc_r_Keys (Cx.refl _) _ h_r_2) ?_
   rintro e_ w_8 ⟨rfl, k_20⟩
   have k_21 := k_19.call k_20
   refine ⟨I r_2, rfl, ?_⟩
   refine We 2 (.n 35 (.b (decide (0 ≤ r_2))) (.sss .a)) ?_
   refine Wn <| W_pz (0 ≤ r_2) (fun hc3 => ?_) fun hc3 => ?_
   · rw [if_pos hc3] at hm
     refine W_seq <| W_reg <| Wl 1 (.n 40 (.agg [.b r_Made, I r_Kind, I r_N, sl A_r_Keys r_Keys.length c_r_Keys]) (.s (.k .z))) (qT k_21 0 rfl 0 4 [.b r_Made, I r_Kind, I r_N, sl A_r_Keys r_Keys.length c_r_Keys] (by kernel_rfl) (by decide) <| qe) ?_
     refine WL_op <| Op_bz 1 (.agg [.b r_Made, I r_Kind, I r_N, sl A_r_Keys r_Keys.length c_r_Keys]) [.b r_Made, I r_Kind, I r_N, sl A_r_Keys r_Keys.length c_r_Keys] (Pt.at g1 0) k_21 rfl .all ?_
     intro w_9 k_22
     have k_23 := k_22.sel (.s (.k .e))
     refine We 1 (.n 7 (I 63) (.s .a)) ?_
     refine Wn <| W_ret (At_ir (At_tr ?_))
     obtain rfl := si hm
     refine At_rz [.agg [.b r_Made, I r_Kind, I r_N, sl A_r_Keys r_Keys.length c_r_Keys], I 63] (qo (.agg [.b r_Made, I r_Kind, I r_N, sl A_r_Keys r_Keys.length c_r_Keys]) <| qc (fun w => Rd w (some ⟨g1, 0, none⟩) (SV.cl [.b r_Made, I r_Kind, I r_N, sl A_r_Keys r_Keys.length c_r_Keys])) (k_23.brd 0 rfl) <| qe) ?_
     have k_24 := k_23.sel .z
     exact ⟨rfl, k_24⟩
   rw [if_neg hc3] at hm
   refine W_seq <| Wa (.n 41 (.b (decide (256 ≤ (r_Keys.length : Int)))) (.s .a)) (qs g 0 <| qB k_21 0 rfl 3 (sl A_r_Keys r_Keys.length c_r_Keys) (by kernel_rfl) <| qe) ?_
   refine W_pz (256 ≤ (r_Keys.length : Int)) (fun hc4 => ?_) fun hc4 => ?_
   · rw [if_pos hc4] at hm
     refine W_seq <| W_reg <| Wl 1 (.n 46 (.agg [.b r_Made, I r_Kind, I r_N, sl A_r_Keys r_Keys.length c_r_Keys]) (.s (.k .z))) (qT k_21 0 rfl 0 4 [.b r_Made, I r_Kind, I r_N, sl A_r_Keys r_Keys.length c_r_Keys] (by kernel_rfl) (by decide) <| qe) ?_
     refine WL_op <| Op_bz 1 (.agg [.b r_Made, I r_Kind, I r_N, sl A_r_Keys r_Keys.length c_r_Keys]) [.b r_Made, I r_Kind, I r_N, sl A_r_Keys r_Keys.length c_r_Keys] (Pt.at g1 0) k_21 rfl .all ?_
     intro w_10 k_25
     have k_26 := k_25.sel (.s (.k .e))
     refine We 1 (.n 7 (I 2) (.s .a)) ?_
     refine Wn <| W_ret (At_ir (At_tr ?_))
     obtain rfl := si hm
     refine At_rz [.agg [.b r_Made, I r_Kind, I r_N, sl A_r_Keys r_Keys.length c_r_Keys], I 2] (qo (.agg [.b r_Made, I r_Kind, I r_N, sl A_r_Keys r_Keys.length c_r_Keys]) <| qc (fun w => Rd w (some ⟨g1, 0, none⟩) (SV.cl [.b r_Made, I r_Kind, I r_N, sl A_r_Keys r_Keys.length c_r_Keys])) (k_26.brd 0 rfl) <| qe) ?_
     have k_27 := k_26.sel .z
     exact ⟨rfl, k_27⟩
   rw [if_neg hc4] at hm
   refine W_skip <| At_in <| At_go <| Wz (.n 8 (sl none 0 0) (.s .a)) ?_
   refine W_seq <| W_reg <| We 2 (.n 47 (sl none 0 0) (.n 48 (sl A_key key.length c_key) (.kkkk .z))) ?_
   refine WL_op ?_
   have k_28 := k_21.nil e8
   obtain ⟨own, h_own, hm⟩ := ob hm
   obtain ⟨hz, hl⟩ := app_some h_own
   refine Op_append (E := e8) (v := sl A_key key.length c_key) (ys := key) mr_tf33 [] 49 2 (by kernel_rfl) k_28 rfl (Src.sl (h_key.cx k_28) rfl (by rfl)) rfl (by have := k_28.len 2 rfl; have := hm; omega) ?_
   intro A0 c0 w_11 k_29
   rw [← hl] at k_29
   refine We 1 (.n 8 (sl A0 (0 + key.length) c0) (.ssss .a)) ?_
   refine Wn <| Wz (.n 9 (sl none 0 0) .a) ?_
   refine Wz (.n 10 (.b false) .a) ?_
   refine W_seq <| Wz (.n 11 (I 0) .a) ?_
   refine W_block ?_
   have k_31 := ((k_29.pk (.t .h)).pk (.t .h)).pk (.t (.t .h))
   have k_32 := k_31.share
   have k_33 := k_32.ognil (eP eS eH) (SP SQ (SH e8))
   have k_34 := (((k_33.pk .h).pk (.t .h)).pk (.t (.t (.t .h)))).pk (.t (.t (.t .h)))
   refine W_lp (m_r06_Add_l0 r_Made r_Kind r_N r_Keys name own) (fun s L wr => ∃ (out : List (List UInt8 × List UInt8)) (done : Bool) (i : Int) (A1 : Option Addr) (n0 : Nat) (c1 : Nat) (ys0 : List (List UInt8 × Hd)), (out, done, i) = s ∧ L = [(1, .s name), (3, pt g 0), (6, pt g1 0), (8, sl A0 (0 + key.length) c0), (9, sl A1 n0 c1), (10, .b done), (11, I i)] ∧ out.length = n0 ∧ Cx F O w wr [Bx 30 g [.b r_Made, I r_Kind, I r_N, sl A_r_Keys r_Keys.length c_r_Keys], Bx 30 g1 [.b false, I 0, I 0, sl none 0 0], Sh (SH e8) [(A0, 0 + key.length, c0)] [own], OG (eP eS eH) (SP SQ (SH e8)) A1 n0 c1 ys0 out]) (([] : List (List UInt8 × List UInt8)), false, (0 : Int)) r hm ⟨([] : List (List UInt8 × List UInt8)), false, (0 : Int), none, 0, 0, ([] : List (List UInt8 × Hd)), rfl, rfl, k_34.oglen 3 rfl, k_34⟩ (by kernel_rfl) ?_
   intro s0_ L_ w_12 y0 hrel hstep hr0
   obtain ⟨out, done, i, A1, _, c1, ys0, rfl, rfl, rfl, k_30⟩ := hrel
   have hm := hstep; simp only [m_r06_Add_l0] at hm
   clear hstep
   refine W_seq <| W_seq <| Wa (.n 54 (.b (decide (i < (r_Keys.length : Int)))) .a) (qs g 0 <| qB k_30 0 rfl 3 (sl A_r_Keys r_Keys.length c_r_Keys) (by kernel_rfl) <| qe) ?_
   refine W_pz (i < (r_Keys.length : Int)) (fun hc5 => ?_) fun hc5 => ?_
   · rw [if_pos hc5] at hm
     refine W_skip <| At_go <| W_cut (fun L wr => ∃ (out1 : List (List UInt8 × List UInt8)) (done1 : Bool) (A2 : Option Addr) (n1 : Nat) (c2 : Nat) (ys1 : List (List UInt8 × Hd)), m_r06_Add_j0 i out1 done1 = some y0 ∧ L = [(1, .s name), (3, pt g 0), (6, pt g1 0), (8, sl A0 (0 + key.length) c0), (9, sl A2 n1 c2), (10, .b done1), (11, I i)] ∧ out1.length = n1 ∧ Cx F O w wr [Bx 30 g [.b r_Made, I r_Kind, I r_N, sl A_r_Keys r_Keys.length c_r_Keys], Bx 30 g1 [.b false, I 0, I 0, sl none 0 0], Sh (SH e8) [(A0, 0 + key.length, c0)] [own], OG (eP eS eH) (SP SQ (SH e8)) A2 n1 c2 ys1 out1]) ?_ ?_
     ·
      refine W_block <| W_cut (fun L wr => ∃ (out2 : List (List UInt8 × List UInt8)) (done2 : Bool) (A3 : Option Addr) (n2 : Nat) (c3 : Nat) (ys2 : List (List UInt8 × Hd)), m_r06_Add_j1 r_Keys i out2 done2 = some y0 ∧ L = [(1, .s name), (3, pt g 0), (6, pt g1 0), (8, sl A0 (0 + key.length) c0), (9, sl A3 n2 c3), (10, .b done2), (11, I i)] ∧ out2.length = n2 ∧ Cx F O w wr [Bx 30 g [.b r_Made, I r_Kind, I r_N, sl A_r_Keys r_Keys.length c_r_Keys], Bx 30 g1 [.b false, I 0, I 0, sl none 0 0], Sh (SH e8) [(A0, 0 + key.length, c0)] [own], OG (eP eS eH) (SP SQ (SH e8)) A3 n2 c3 ys2 out2]) ?_ ?_
      ·
       refine W_seq ?_
       obtain ⟨x_0, zh0, hm⟩ := ob hm
       obtain ⟨H, hy⟩ : ∃ (H : Hd), (!done) = true → geti ys_r_Keys i = some (x_0.1, H) := by
         by_cases hg0 : (!done) = true
         · obtain ⟨⟨q, H⟩, hy_, hr_⟩ := h_r_Keys.at (gif_some zh0 hg0); simp only [RP, RQ] at hr_; obtain ⟨rfl, _⟩ := hr_; exact ⟨_, fun _ => hy_⟩
         · exact ⟨(none, 0, 0), fun h_ => absurd h_ hg0⟩
       refine Wa (.n 68 (.b ((!done) && (Op.bytesLess name x_0.1))) (.s .a)) (qp ((!done) = true → (some ⟨g, 0, none⟩ : Option Addr).isSome = true) (fun hg0 => rfl) <| qo (sl A_r_Keys r_Keys.length c_r_Keys) <| qc (fun w => (!done) = true → ∃ a, (some ⟨g, 3, none⟩ : Option Addr) = some a ∧ w.cell? a = some (SV.val (sl A_r_Keys r_Keys.length c_r_Keys))) (fun hg0 => k_30.bld 0 rfl 3 (sl A_r_Keys r_Keys.length c_r_Keys) (by kernel_rfl)) <| qp ((!done) = true → 0 ≤ i ∧ i < (r_Keys.length : Int) ∧ A_r_Keys.isSome = true) (fun hg0 => Rd.ix (E := (eP eS eH)) (h_r_Keys.ro.cx k_30) (hy hg0) h_r_Keys.len (by decide)) <| qp ((!done) = true → (ixA A_r_Keys i 2 : Option Addr).isSome = true) (fun hg0 => ixA_some _ _ (E_ix (E := (eP eS eH)) (h_r_Keys.ro.cx k_30) (by decide) (geti_lt (hy hg0)).1 (geti_some (hy hg0)).2)) <| qo (.s x_0.1) <| qc (fun w => (!done) = true → ∃ a, fa (ixA A_r_Keys i 2) 0 = some a ∧ w.cell? a = some (SV.val (.s x_0.1))) (fun hg0 => Rd.el (k := 0) (h_r_Keys.ro.cx k_30) (hy hg0) (Pt.fa2 (Pt.ix1 A_r_Keys i 2) 0) rfl) <| qe) ?_
       refine W_cz ((!done) && (Op.bytesLess name x_0.1)) (fun hc6 => ?_) fun hc6 => ?_
       · rw [if_pos hc6] at hm
         refine W_seq <| W_reg <| We 4 (.n 69 (sl A1 out.length c1) (.n 72 (.agg [.s name, sl A0 (0 + key.length) c0]) (.s (.kkkk (.k (.s .a)))))) ?_
         refine WL_op ?_
         have k_35 := k_30.shdup 2 rfl
         have k_36 := k_35.shq (name : List UInt8)
         have k_37 := k_36.shp
         refine Op_mk mr_tf28 (eP eS eH) [] 73 ([((name : List UInt8), (A0, 0 + key.length, c0))] : List (List UInt8 × Hd)) [(0, .agg [.s name, sl A0 (0 + key.length) c0])] [.s name, sl A0 (0 + key.length) c0] (by kernel_rfl) (by kernel_rfl) (by kernel_rfl) k_37 ?_
         intro A4 w_13 k_38
         have k_39 := (((((k_38.pk (.t (.t (.t (.t .h))))).pk (.t (.t (.t (.t .h))))).pk (.t (.t (.t (.t .h))))).pk (.t (.t (.t (.t .h))))).pk (.t (.t (.t (.t .h))))).pk (.t (.t (.t (.t (.t .h)))))
         have k_40 := k_39.og
         refine WL_op ?_
         have k_41 := ((((k_40.pk (.t (.t (.t .h)))).pk (.t (.t (.t .h)))).pk (.t (.t (.t .h)))).pk (.t (.t (.t .h)))).pk (.t (.t (.t (.t .h))))
         obtain ⟨out3, h_out3, hm⟩ := ob hm
         obtain ⟨hz1, hl1⟩ := app_some h_out3
         refine Op_appendG mr_tf28 [] 74 (by kernel_rfl) k_41 (by have := k_41.oglen 0 rfl; have := k_41.oglen 1 rfl; omega) ?_
         intro A5 c4 w_14 k_42
         rw [← hl1] at k_42
         refine We 1 (.n 9 (sl A5 (out.length + 1) c4) (.ssss (.kkkk (.s .a)))) ?_
         refine Wn <| W_q [] (.n 10 (.b true) .a) qe (by kernel_rfl) ?_
         have k_43 := (((k_42.pk .h).pk (.t (.t (.t .h)))).pk (.t (.t (.t .h)))).pk (.t (.t (.t .h)))
         exact At_cz ⟨out3, true, A5, out.length + 1, c4, ys0 ++ ([((name : List UInt8), (A0, 0 + key.length, c0))] : List (List UInt8 × Hd)), hm, rfl, k_43.oglen 3 rfl, k_43⟩
       rw [if_neg (by rw [hc6]; decide)] at hm
       refine W_skip ?_
       exact At_cz ⟨out, done, A1, out.length, c1, ys0, hm, rfl, k_30.oglen 3 rfl, k_30⟩
      rintro L_ w_15 ⟨out2, done2, A3, _, c3, ys2, hm, rfl, rfl, k_44⟩
      simp only [m_r06_Add_j1] at hm
      refine W_reg ?_
      obtain ⟨x_8, zh8, hm⟩ := ob hm
      obtain ⟨⟨q1, ⟨B, n3, c5⟩⟩, hy1, hg1⟩ := h_r_Keys1.at zh8
      simp only [SP, SQ, SH] at hg1; obtain ⟨rfl, ⟨rfl, hle, hrd, hO⟩⟩ := hg1
      have hro : Ro F w B (e8.all x_8.2) := ⟨hrd, fun hne_ a_ ha_ hf_ => k.off _ (hO hne_ a_ ha_) hf_⟩
      have hsx : (SH e8).r w O (B, x_8.2.length, c5) x_8.2 := ⟨rfl, hle, hrd, hO⟩
      refine Wl 6 (.n 75 (sl A3 out2.length c3) (.n 80 (.agg [.s x_8.1, sl B x_8.2.length c5]) .a)) (qs g 0 <| qB k_44 0 rfl 3 (sl A_r_Keys r_Keys.length c_r_Keys) (by kernel_rfl) <| qJ (E := (eP eS eH)) (h_r_Keys.ro.cx k_44) hy1 h_r_Keys.len <| qR [.s x_8.1, sl B x_8.2.length c5] (Rd.els (k := 0) (m := 2) (h_r_Keys.ro.cx k_44) hy1 (Pt.ix1 A_r_Keys i 2) rfl (by decide) (by decide)) <| qe) ?_
      refine WL_op ?_
      have k_45 := k_44.shold (SH e8) hsx
      have k_46 := k_45.shq (x_8.1 : List UInt8)
      have k_47 := k_46.shp
      refine Op_mk mr_tf28 (eP eS eH) [] 81 ([((x_8.1 : List UInt8), (B, x_8.2.length, c5))] : List (List UInt8 × Hd)) [(0, .agg [.s x_8.1, sl B x_8.2.length c5])] [.s x_8.1, sl B x_8.2.length c5] (by kernel_rfl) (by kernel_rfl) (by kernel_rfl) k_47 ?_
      intro A6 w_16 k_48
      have k_49 := (((((k_48.pk (.t (.t (.t (.t .h))))).pk (.t (.t (.t (.t .h))))).pk (.t (.t (.t (.t .h))))).pk (.t (.t (.t (.t .h))))).pk (.t (.t (.t (.t .h))))).pk (.t (.t (.t (.t (.t .h)))))
      have k_50 := k_49.og
      refine WL_op ?_
      have k_51 := ((((k_50.pk (.t (.t (.t .h)))).pk (.t (.t (.t .h)))).pk (.t (.t (.t .h)))).pk (.t (.t (.t .h)))).pk (.t (.t (.t (.t .h))))
      obtain ⟨out4, h_out4, hm⟩ := ob hm
      obtain ⟨hz2, hl2⟩ := app_some h_out4
      refine Op_appendG mr_tf28 [] 82 (by kernel_rfl) k_51 (by have := k_51.oglen 0 rfl; have := k_51.oglen 1 rfl; omega) ?_
      intro A7 c6 w_17 k_52
      rw [← hl2] at k_52
      refine We 1 (.n 9 (sl A7 (out2.length + 1) c6) (.ssss (.kkkk (.s .a)))) ?_
      refine WL_nil <| At_in ?_
      have k_53 := (((k_52.pk .h).pk (.t (.t (.t .h)))).pk (.t (.t (.t .h)))).pk (.t (.t (.t .h)))
      exact At_cz ⟨out4, done2, A7, out2.length + 1, c6, ys2 ++ ([((x_8.1 : List UInt8), (B, x_8.2.length, c5))] : List (List UInt8 × Hd)), hm, rfl, k_53.oglen 3 rfl, k_53⟩
     rintro L_ w_18 ⟨out1, done1, A2, _, c2, ys1, hm, rfl, rfl, k_54⟩
     simp only [m_r06_Add_j0] at hm
     refine W_q [] (.n 11 (I (w64 (i + 1))) (.kkkk (.kk .z))) qe (by kernel_rfl) ?_
     exact At_rd (out1, done1, w64 (i + 1)) (Option.some.inj hm).symm ⟨out1, done1, w64 (i + 1), A2, out1.length, c2, ys1, rfl, rfl, k_54.oglen 3 rfl, k_54⟩ (by kernel_rfl)
   rw [if_neg hc5] at hm
   refine W_exit (At_te (At_te (At_ie ?_)))
   have hm := exit_of hm hr0
   refine At_go <| W_cut (fun L wr => ∃ (out5 : List (List UInt8 × List UInt8)) (A8 : Option Addr) (n4 : Nat) (c7 : Nat) (ys3 : List (List UInt8 × Hd)), m_r06_Add_j2 r_Made r_Kind r_N out5 = some r ∧ L = [(3, pt g 0), (6, pt g1 0), (9, sl A8 n4 c7)] ∧ out5.length = n4 ∧ Cx F O w wr [Bx 30 g [.b r_Made, I r_Kind, I r_N, sl A_r_Keys r_Keys.length c_r_Keys], Bx 30 g1 [.b false, I 0, I 0, sl none 0 0], OG (eP eS eH) (SP SQ (SH e8)) A8 n4 c7 ys3 out5]) ?_ ?_
   ·
    refine Wz (.n 84 (.b (!done)) (.s (.kkkk (.k .z)))) ?_
    refine W_cz (!done) (fun hc7 => ?_) fun hc7 => ?_
    · rw [if_pos hc7] at hm
      refine W_reg <| We 4 (.n 85 (sl A1 out.length c1) (.n 88 (.agg [.s name, sl A0 (0 + key.length) c0]) (.ss (.kk (.s .a))))) ?_
      refine WL_op ?_
      have k_55 := k_30.shdup 2 rfl
      have k_56 := k_55.shq (name : List UInt8)
      have k_57 := k_56.shp
      refine Op_mk mr_tf28 (eP eS eH) [] 89 ([((name : List UInt8), (A0, 0 + key.length, c0))] : List (List UInt8 × Hd)) [(0, .agg [.s name, sl A0 (0 + key.length) c0])] [.s name, sl A0 (0 + key.length) c0] (by kernel_rfl) (by kernel_rfl) (by kernel_rfl) k_57 ?_
      intro A9 w_19 k_58
      have k_59 := (((((k_58.pk (.t (.t (.t (.t .h))))).pk (.t (.t (.t (.t .h))))).pk (.t (.t (.t (.t .h))))).pk (.t (.t (.t (.t .h))))).pk (.t (.t (.t (.t .h))))).pk (.t (.t (.t (.t (.t .h)))))
      have k_60 := k_59.og
      refine WL_op ?_
      have k_61 := ((((k_60.pk (.t (.t (.t .h)))).pk (.t (.t (.t .h)))).pk (.t (.t (.t .h)))).pk (.t (.t (.t .h)))).pk (.t (.t (.t (.t .h))))
      obtain ⟨out6, h_out6, hm⟩ := ob hm
      obtain ⟨hz3, hl3⟩ := app_some h_out6
      refine Op_appendG mr_tf28 [] 90 (by kernel_rfl) k_61 (by have := k_61.oglen 0 rfl; have := k_61.oglen 1 rfl; omega) ?_
      intro A10 c8 w_20 k_62
      rw [← hl3] at k_62
      have k_63 := k_62.sel (.kk (.k .z))
      refine We 1 (.n 9 (sl A10 (out.length + 1) c8) (.ssss (.kk .z))) ?_
      refine WL_nil ?_
      have k_64 := ((k_63.pk .h).pk (.t (.t .h))).pk (.t (.t .h))
      exact At_cz ⟨out6, A10, out.length + 1, c8, ys0 ++ ([((name : List UInt8), (A0, 0 + key.length, c0))] : List (List UInt8 × Hd)), hm, rfl, k_64.oglen 2 rfl, k_64⟩
    rw [if_neg (by rw [hc7]; decide)] at hm
    refine W_skip ?_
    have k_65 := k_30.sel (.kk (.s (.k .e)))
    exact At_cz ⟨out, A1, out.length, c1, ys0, hm, rfl, k_65.oglen 2 rfl, k_65⟩
   rintro L_ w_21 ⟨out5, A8, _, c7, ys3, hm, rfl, rfl, k_66⟩
   simp only [m_r06_Add_j2] at hm
   refine W_seq <| W_reg <| Wl 2 (.n 91 (sl A8 out5.length c7) (.n 92 (pt g 3) (.kk .z))) (qs g 0 <| qe) ?_
   refine WL_op <| Op_bz 0 (sl A8 out5.length c7) [sl A8 out5.length c7] (Pt.at g 3) k_66 rfl (.kk (.k .h)) ?_
   intro w_22 k_67
   refine Wn <| W_seq <| W_reg <| Wl 1 (.n 93 (.agg [.b r_Made, I r_Kind, I r_N, sl A8 out5.length c7]) (.sss .a)) (qT k_67 0 rfl 0 4 [.b r_Made, I r_Kind, I r_N, sl A8 out5.length c7] (by kernel_rfl) (by decide) <| qe) ?_
   refine WL_op <| Op_bz 1 (.agg [.b r_Made, I r_Kind, I r_N, sl A8 out5.length c7]) [.b r_Made, I r_Kind, I r_N, sl A8 out5.length c7] (Pt.at g1 0) k_67 rfl .all ?_
   intro w_23 k_68
   have k_69 := k_68.sel (.s (.kk .e))
   refine We 1 (.n 7 (I 0) (.s .a)) ?_
   refine Wn <| W_ret ?_
   obtain rfl := si hm
   refine At_rz [.agg [.b r_Made, I r_Kind, I r_N, sl A8 out5.length c7], I 0] (qo (.agg [.b r_Made, I r_Kind, I r_N, sl A8 out5.length c7]) <| qc (fun w => Rd w (some ⟨g1, 0, none⟩) (SV.cl [.b r_Made, I r_Kind, I r_N, sl A8 out5.length c7])) (k_69.brd 0 rfl) <| qe) ?_
   have k_70 := k_69.sel (.s (.k .e))
   exact ⟨A8, out5.length, c7, ys3, k_70.oglen 0 rfl, rfl, k_70⟩
theorem c_mac_Ring_Drop (name : List UInt8) (k : Cx F O w w []) (r : Unit) (hm : m_mac_Ring_Drop name = some r) :
    Calls Tryz.prog 9 (vals [.v (.pointer none), .s name]) w (fun e w' => e = .returned (SV.val (I 7)) ∧ Cx F O w w' []) := by
 unfold m_mac_Ring_Drop at hm
 refine calz [.v (.pointer none), .s name] Tryz.func9 rfl ?_
 refine Wz .a ?_
 refine W_seq <| W_seq <| W_reg <| We 1 (.n 7 (.v (.pointer none)) .a) ?_
 refine WL_op ?_
 obtain ⟨r_, h_r_, hm⟩ := ob hm
 refine Op_cz 8 mr_go22 (c_mac_Ring_none (F := N0) (O := N0)  (Cx.refl _) _ h_r_) ?_
 rintro e_ w_ ⟨rfl, k_⟩
 have k_1 := k.call k_
 refine ⟨.b true, rfl, ?_⟩
 refine Wn <| W_cond true (by kernel_rfl) (fun _ => ?_) (fun h => by cases h)
 refine Wz (.n 4 (I 7) .z) ?_
 refine W_ret (At_tr ?_)
 obtain rfl := si hm
 refine At_rz [I 7] qe ?_
 exact ⟨rfl, k_1⟩
theorem c_r06_Drop (r_Made : Bool) (r_Kind : Int) (r_N : Int) (r_Keys : List (List UInt8 × List UInt8)) (name : List UInt8) (A_r_Keys : Option Addr) (n_r_Keys : Nat) (c_r_Keys : Nat) (ys_r_Keys : List (List UInt8 × Hd)) (h_r_Keys1 : RoH F O w (eP eS eH) (SP SQ (SH e8)) A_r_Keys ys_r_Keys r_Keys) (hn_r_Keys : r_Keys.length = n_r_Keys) (hc_r_Keys : n_r_Keys ≤ c_r_Keys) (k : Cx F O w w []) (r : (Bool × Int × Int × Int) ⊕ (Bool × Int × Int × (List (List UInt8 × List UInt8)))) (hm : m_r06_Drop r_Made r_Kind r_N r_Keys name = some r) :
    Calls Tryz.prog 10 (vals [.agg [.b r_Made, I r_Kind, I r_N, sl A_r_Keys n_r_Keys c_r_Keys], .s name]) w (fun e w' => match r with | .inl r0 => e = .returned (SV.val (.tup [.agg [.b r0.1, I r0.2.1, I r0.2.2.1, sl A_r_Keys n_r_Keys c_r_Keys], I r0.2.2.2])) ∧ Cx F O w w' [] | .inr r1 => ∃ A n c ys, r1.2.2.2.length = n ∧ e = .returned (SV.val (.tup [.agg [.b r1.1, I r1.2.1, I r1.2.2.1, sl A n c], I 0])) ∧ Cx F O w w' [OG (eP eS eH) (SP SQ (SH e8)) A n c ys r1.2.2.2]) := by
 unfold m_r06_Drop at hm
 have h_r_Keys : RoG F w (eP eS eH) (RP RQ (RH F w e8)) A_r_Keys ys_r_Keys r_Keys := h_r_Keys1.rog k.off (fun R_ y_ x_ hR_ q_ => ⟨(And.left q_), (SH.rh (And.right q_) hR_)⟩)
 subst hn_r_Keys
 refine calz [.agg [.b r_Made, I r_Kind, I r_N, sl A_r_Keys r_Keys.length c_r_Keys], .s name] Tryz.func10 rfl ?_
 refine W_seq <| W_reg <| WL_op <| Op_box [] 2 (.agg [.b r_Made, I r_Kind, I r_N, sl A_r_Keys r_Keys.length c_r_Keys]) [.b r_Made, I r_Kind, I r_N, sl A_r_Keys r_Keys.length c_r_Keys] (by kernel_rfl) k ?_
 intro g w_ k_
 refine WL_op <| Op_alloc [] 4 [.b false, I 0, I 0, sl none 0 0] (by kernel_rfl) k_ ?_
 intro g1 w_1 k_1
 refine We 1 (.kk (.s .a)) ?_
 refine Wn <| W_seq <| W_seq <| Wa (.n 11 (.b (!r_Made)) .a) (qs g 0 <| qB k_1 0 rfl 0 (.b r_Made) (by kernel_rfl) <| qe) ?_
 refine W_cz (!r_Made) (fun hc => ?_) fun hc => ?_
 · rw [if_pos hc] at hm
   refine W_seq <| W_reg <| Wl 1 (.n 12 (.agg [.b r_Made, I r_Kind, I r_N, sl A_r_Keys r_Keys.length c_r_Keys]) (.s (.k .z))) (qT k_1 0 rfl 0 4 [.b r_Made, I r_Kind, I r_N, sl A_r_Keys r_Keys.length c_r_Keys] (by kernel_rfl) (by decide) <| qe) ?_
   refine WL_op <| Op_bz 1 (.agg [.b r_Made, I r_Kind, I r_N, sl A_r_Keys r_Keys.length c_r_Keys]) [.b r_Made, I r_Kind, I r_N, sl A_r_Keys r_Keys.length c_r_Keys] (Pt.at g1 0) k_1 rfl .all ?_
   intro w_2 k_2
   have k_3 := k_2.sel (.s (.k .e))
   refine We 1 (.n 5 (I 7) (.s .a)) ?_
   refine Wn <| W_ret (At_tr ?_)
   obtain rfl := si hm
   refine At_rz [.agg [.b r_Made, I r_Kind, I r_N, sl A_r_Keys r_Keys.length c_r_Keys], I 7] (qo (.agg [.b r_Made, I r_Kind, I r_N, sl A_r_Keys r_Keys.length c_r_Keys]) <| qc (fun w => Rd w (some ⟨g1, 0, none⟩) (SV.cl [.b r_Made, I r_Kind, I r_N, sl A_r_Keys r_Keys.length c_r_Keys])) (k_3.brd 0 rfl) <| qe) ?_
   have k_4 := k_3.sel .z
   exact ⟨rfl, k_4⟩
 rw [if_neg (by rw [hc]; decide)] at hm
 refine W_skip <| At_go <| W_seq <| W_reg <| Wl 2 (.n 13 (.agg [.b r_Made, I r_Kind, I r_N, sl A_r_Keys r_Keys.length c_r_Keys]) (.n 14 (.s name) (.s (.kk .z)))) (qT k_1 0 rfl 0 4 [.b r_Made, I r_Kind, I r_N, sl A_r_Keys r_Keys.length c_r_Keys] (by kernel_rfl) (by decide) <| qe) ?_
 refine WL_op ?_
 obtain ⟨r_, h_r_, hm⟩ := ob hm
 refine Op_cz 15 mr_go26 (c_r06_find (F := N0) (O := N0) _ _ _ _ _ _ _ _ _ (RoG.mono h_r_Keys (fun q => Ro.n0 (q.cx k_1)) (fun y x q => ⟨(And.left q), (RH.cx (And.right q) k_1)⟩)) rfl hc_r_Keys (Cx.refl _) _ h_r_) ?_
 rintro e_ w_3 ⟨rfl, k_5⟩
 have k_6 := k_1.call k_5
 refine ⟨I r_, rfl, ?_⟩
 refine We 1 (.n 6 (I r_) (.sss .a)) ?_
 refine Wn <| W_seq <| Wz (.n 17 (.b (decide (r_ < 0))) .a) ?_
 refine W_pz (r_ < 0) (fun hc1 => ?_) fun hc1 => ?_
 · rw [if_pos hc1] at hm
   refine W_seq <| W_reg <| Wl 1 (.n 18 (.agg [.b r_Made, I r_Kind, I r_N, sl A_r_Keys r_Keys.length c_r_Keys]) (.ss (.k .z))) (qT k_6 0 rfl 0 4 [.b r_Made, I r_Kind, I r_N, sl A_r_Keys r_Keys.length c_r_Keys] (by kernel_rfl) (by decide) <| qe) ?_
   refine WL_op <| Op_bz 1 (.agg [.b r_Made, I r_Kind, I r_N, sl A_r_Keys r_Keys.length c_r_Keys]) [.b r_Made, I r_Kind, I r_N, sl A_r_Keys r_Keys.length c_r_Keys] (Pt.at g1 0) k_6 rfl .all ?_
   intro w_4 k_7
   have k_8 := k_7.sel (.s (.k .e))
   refine We 1 (.n 5 (I 6) (.s .a)) ?_
   refine Wn <| W_ret (At_tr ?_)
   obtain rfl := si hm
   refine At_rz [.agg [.b r_Made, I r_Kind, I r_N, sl A_r_Keys r_Keys.length c_r_Keys], I 6] (qo (.agg [.b r_Made, I r_Kind, I r_N, sl A_r_Keys r_Keys.length c_r_Keys]) <| qc (fun w => Rd w (some ⟨g1, 0, none⟩) (SV.cl [.b r_Made, I r_Kind, I r_N, sl A_r_Keys r_Keys.length c_r_Keys])) (k_8.brd 0 rfl) <| qe) ?_
   have k_9 := k_8.sel .z
   exact ⟨rfl, k_9⟩
 rw [if_neg hc1] at hm
 refine W_skip <| At_go <| Wz (.n 7 (sl none 0 0) (.s .a)) ?_
 refine W_seq <| Wz (.n 8 (I 0) .a) ?_
 refine W_block ?_
 have k_11 := k_6.ognil (eP eS eH) (SP SQ (SH e8))
 have k_12 := ((k_11.pk .h).pk (.t (.t .h))).pk (.t (.t .h))
 refine W_lp (m_r06_Drop_l0 r_Made r_Kind r_N r_Keys r_) (fun s L wr => ∃ (out : List (List UInt8 × List UInt8)) (i : Int) (A0 : Option Addr) (n0 : Nat) (c0 : Nat) (ys0 : List (List UInt8 × Hd)), (out, i) = s ∧ L = [(2, pt g 0), (4, pt g1 0), (6, I r_), (7, sl A0 n0 c0), (8, I i)] ∧ out.length = n0 ∧ Cx F O w wr [Bx 30 g [.b r_Made, I r_Kind, I r_N, sl A_r_Keys r_Keys.length c_r_Keys], Bx 30 g1 [.b false, I 0, I 0, sl none 0 0], OG (eP eS eH) (SP SQ (SH e8)) A0 n0 c0 ys0 out]) (([] : List (List UInt8 × List UInt8)), (0 : Int)) r hm ⟨([] : List (List UInt8 × List UInt8)), (0 : Int), none, 0, 0, ([] : List (List UInt8 × Hd)), rfl, rfl, k_12.oglen 2 rfl, k_12⟩ (by kernel_rfl) ?_
 intro s0_ L_ w_5 y0 hrel hstep hr0
 obtain ⟨out, i, A0, _, c0, ys0, rfl, rfl, rfl, k_10⟩ := hrel
 have hm := hstep; simp only [m_r06_Drop_l0] at hm
 clear hstep
 refine W_seq <| W_seq <| Wa (.n 23 (.b (decide (i < (r_Keys.length : Int)))) .a) (qs g 0 <| qB k_10 0 rfl 3 (sl A_r_Keys r_Keys.length c_r_Keys) (by kernel_rfl) <| qe) ?_
 refine W_pz (i < (r_Keys.length : Int)) (fun hc2 => ?_) fun hc2 => ?_
 · rw [if_pos hc2] at hm
   refine W_skip <| At_go <| W_cut (fun L wr => ∃ (out1 : List (List UInt8 × List UInt8)) (A1 : Option Addr) (n1 : Nat) (c1 : Nat) (ys1 : List (List UInt8 × Hd)), m_r06_Drop_j0 i out1 = some y0 ∧ L = [(2, pt g 0), (4, pt g1 0), (6, I r_), (7, sl A1 n1 c1), (8, I i)] ∧ out1.length = n1 ∧ Cx F O w wr [Bx 30 g [.b r_Made, I r_Kind, I r_N, sl A_r_Keys r_Keys.length c_r_Keys], Bx 30 g1 [.b false, I 0, I 0, sl none 0 0], OG (eP eS eH) (SP SQ (SH e8)) A1 n1 c1 ys1 out1]) ?_ ?_
   ·
    refine W_block <| Wz (.n 28 (.b (decide (i ≠ r_))) (.s .a)) ?_
    refine W_pz (i ≠ r_) (fun hc3 => ?_) fun hc3 => ?_
    · rw [if_pos hc3] at hm
      refine W_reg ?_
      obtain ⟨x_0, zh0, hm⟩ := ob hm
      obtain ⟨⟨q, ⟨B, n2, c2⟩⟩, hy, hg⟩ := h_r_Keys1.at zh0
      simp only [SP, SQ, SH] at hg; obtain ⟨rfl, ⟨rfl, hle, hrd, hO⟩⟩ := hg
      have hro : Ro F w B (e8.all x_0.2) := ⟨hrd, fun hne_ a_ ha_ hf_ => k.off _ (hO hne_ a_ ha_) hf_⟩
      have hsx : (SH e8).r w O (B, x_0.2.length, c2) x_0.2 := ⟨rfl, hle, hrd, hO⟩
      refine Wl 6 (.n 29 (sl A0 out.length c0) (.n 34 (.agg [.s x_0.1, sl B x_0.2.length c2]) (.s .a))) (qs g 0 <| qB k_10 0 rfl 3 (sl A_r_Keys r_Keys.length c_r_Keys) (by kernel_rfl) <| qJ (E := (eP eS eH)) (h_r_Keys.ro.cx k_10) hy h_r_Keys.len <| qR [.s x_0.1, sl B x_0.2.length c2] (Rd.els (k := 0) (m := 2) (h_r_Keys.ro.cx k_10) hy (Pt.ix1 A_r_Keys i 2) rfl (by decide) (by decide)) <| qe) ?_
      refine WL_op ?_
      have k_13 := k_10.shold (SH e8) hsx
      have k_14 := k_13.shq (x_0.1 : List UInt8)
      have k_15 := k_14.shp
      refine Op_mk mr_tf28 (eP eS eH) [] 35 ([((x_0.1 : List UInt8), (B, x_0.2.length, c2))] : List (List UInt8 × Hd)) [(0, .agg [.s x_0.1, sl B x_0.2.length c2])] [.s x_0.1, sl B x_0.2.length c2] (by kernel_rfl) (by kernel_rfl) (by kernel_rfl) k_15 ?_
      intro A2 w_6 k_16
      have k_17 := ((((k_16.pk (.t (.t (.t .h)))).pk (.t (.t (.t .h)))).pk (.t (.t (.t .h)))).pk (.t (.t (.t .h)))).pk (.t (.t (.t (.t .h))))
      have k_18 := k_17.og
      refine WL_op ?_
      have k_19 := (((k_18.pk (.t (.t .h))).pk (.t (.t .h))).pk (.t (.t .h))).pk (.t (.t (.t .h)))
      obtain ⟨out2, h_out2, hm⟩ := ob hm
      obtain ⟨hz, hl⟩ := app_some h_out2
      refine Op_appendG mr_tf28 [] 36 (by kernel_rfl) k_19 (by have := k_19.oglen 0 rfl; have := k_19.oglen 1 rfl; omega) ?_
      intro A3 c3 w_7 k_20
      rw [← hl] at k_20
      refine We 1 (.n 7 (sl A3 (out.length + 1) c3) (.ssss (.kkk (.s .a)))) ?_
      refine WL_nil <| At_in ?_
      have k_21 := ((k_20.pk .h).pk (.t (.t .h))).pk (.t (.t .h))
      exact At_cz ⟨out2, A3, out.length + 1, c3, ys0 ++ ([((x_0.1 : List UInt8), (B, x_0.2.length, c2))] : List (List UInt8 × Hd)), hm, rfl, k_21.oglen 2 rfl, k_21⟩
    rw [if_neg hc3] at hm
    refine W_skip <| At_in ?_
    exact At_cz ⟨out, A0, out.length, c0, ys0, hm, rfl, k_10.oglen 2 rfl, k_10⟩
   rintro L_ w_8 ⟨out1, A1, _, c1, ys1, hm, rfl, rfl, k_22⟩
   simp only [m_r06_Drop_j0] at hm
   refine W_q [] (.n 8 (I (w64 (i + 1))) (.kkkk .z)) qe (by kernel_rfl) ?_
   exact At_rd (out1, w64 (i + 1)) (Option.some.inj hm).symm ⟨out1, w64 (i + 1), A1, out1.length, c1, ys1, rfl, rfl, k_22.oglen 2 rfl, k_22⟩ (by kernel_rfl)
 rw [if_neg hc2] at hm
 refine W_exit (At_te (At_te (At_ie ?_)))
 have hm := exit_of hm hr0
 refine At_go <| W_seq <| W_reg <| Wl 2 (.n 37 (sl A0 out.length c0) (.n 38 (pt g 3) (.s (.kk .z)))) (qs g 0 <| qe) ?_
 refine WL_op <| Op_bz 0 (sl A0 out.length c0) [sl A0 out.length c0] (Pt.at g 3) k_10 rfl (.kk (.k .h)) ?_
 intro w_9 k_23
 refine Wn <| W_seq <| W_reg <| Wl 1 (.n 39 (.agg [.b r_Made, I r_Kind, I r_N, sl A0 out.length c0]) (.sss .a)) (qT k_23 0 rfl 0 4 [.b r_Made, I r_Kind, I r_N, sl A0 out.length c0] (by kernel_rfl) (by decide) <| qe) ?_
 refine WL_op <| Op_bz 1 (.agg [.b r_Made, I r_Kind, I r_N, sl A0 out.length c0]) [.b r_Made, I r_Kind, I r_N, sl A0 out.length c0] (Pt.at g1 0) k_23 rfl .all ?_
 intro w_10 k_24
 have k_25 := k_24.sel (.s (.kk .e))
 refine We 1 (.n 5 (I 0) (.s .a)) ?_
 refine Wn <| W_ret ?_
 obtain rfl := si hm
 refine At_rz [.agg [.b r_Made, I r_Kind, I r_N, sl A0 out.length c0], I 0] (qo (.agg [.b r_Made, I r_Kind, I r_N, sl A0 out.length c0]) <| qc (fun w => Rd w (some ⟨g1, 0, none⟩) (SV.cl [.b r_Made, I r_Kind, I r_N, sl A0 out.length c0])) (k_25.brd 0 rfl) <| qe) ?_
 have k_26 := k_25.sel (.s (.k .e))
 exact ⟨A0, out.length, c0, ys0, k_26.oglen 0 rfl, rfl, k_26⟩
theorem c_mac_Ring_Names (k : Cx F O w w []) (r : (List (List UInt8))) (hm : m_mac_Ring_Names = some r) :
    Calls Tryz.prog 11 (vals [.v (.pointer none)]) w (fun e w' => ∃ A n c, r.length = n ∧ e = .returned (SV.val (sl A n c)) ∧ Cx F O w w' [Ow eS A n c r]) := by
 unfold m_mac_Ring_Names at hm
 refine calz [.v (.pointer none)] Tryz.func11 rfl ?_
 refine Wz .a ?_
 refine W_seq <| W_seq <| W_reg <| We 1 (.n 5 (.v (.pointer none)) .a) ?_
 refine WL_op ?_
 obtain ⟨r_, h_r_, hm⟩ := ob hm
 refine Op_cz 6 mr_go22 (c_mac_Ring_none (F := N0) (O := N0)  (Cx.refl _) _ h_r_) ?_
 rintro e_ w_ ⟨rfl, k_⟩
 have k_1 := k.call k_
 refine ⟨.b true, rfl, ?_⟩
 refine Wn <| W_cond true (by kernel_rfl) (fun _ => ?_) (fun h => by cases h)
 refine Wz (.n 2 (sl none 0 0) .z) ?_
 refine W_ret (At_tr ?_)
 have k_2 := k_1.nil eS
 obtain rfl := si hm
 refine At_rz [sl none 0 0] qe ?_
 exact ⟨none, 0, 0, k_2.len 0 rfl, rfl, k_2⟩
theorem c_r06_Names (r_Made : Bool) (r_Kind : Int) (r_N : Int) (r_Keys : List (List UInt8 × List UInt8)) (A_r_Keys : Option Addr) (n_r_Keys : Nat) (c_r_Keys : Nat) (ys_r_Keys : List (List UInt8 × Hd)) (h_r_Keys : RoG F w (eP eS eH) (RP RQ (RH F w e8)) A_r_Keys ys_r_Keys r_Keys) (hn_r_Keys : r_Keys.length = n_r_Keys) (hc_r_Keys : n_r_Keys ≤ c_r_Keys) (k : Cx F O w w []) (r : (List (List UInt8))) (hm : m_r06_Names r_Made r_Kind r_N r_Keys = some r) :
    Calls Tryz.prog 12 (vals [.agg [.b r_Made, I r_Kind, I r_N, sl A_r_Keys n_r_Keys c_r_Keys]]) w (fun e w' => ∃ A n c, r.length = n ∧ e = .returned (SV.val (sl A n c)) ∧ Cx F O w w' [Ow eS A n c r]) := by
 unfold m_r06_Names at hm
 subst hn_r_Keys
 refine calz [.agg [.b r_Made, I r_Kind, I r_N, sl A_r_Keys r_Keys.length c_r_Keys]] Tryz.func12 rfl ?_
 refine W_seq <| W_reg <| WL_op <| Op_box [] 1 (.agg [.b r_Made, I r_Kind, I r_N, sl A_r_Keys r_Keys.length c_r_Keys]) [.b r_Made, I r_Kind, I r_N, sl A_r_Keys r_Keys.length c_r_Keys] (by kernel_rfl) k ?_
 intro g w_ k_
 refine We 1 (.k .z) ?_
 refine Wn <| Wz (.n 3 (sl none 0 0) .a) ?_
 refine W_seq <| Wz (.n 4 (I 0) .a) ?_
 refine W_block ?_
 have k_2 := k_.nil eS
 refine W_lp (m_r06_Names_l0 r_Keys) (fun s L wr => ∃ (out : List (List UInt8)) (i : Int) (A0 : Option Addr) (n0 : Nat) (c0 : Nat), (out, i) = s ∧ L = [(1, pt g 0), (3, sl A0 n0 c0), (4, I i)] ∧ out.length = n0 ∧ Cx F O w wr [Bx 30 g [.b r_Made, I r_Kind, I r_N, sl A_r_Keys r_Keys.length c_r_Keys], Ow eS A0 n0 c0 out]) (([] : List (List UInt8)), (0 : Int)) r hm ⟨([] : List (List UInt8)), (0 : Int), none, 0, 0, rfl, rfl, k_2.len 1 rfl, k_2⟩ (by kernel_rfl) ?_
 intro s0_ L_ w_1 y0 hrel hstep hr0
 obtain ⟨out, i, A0, _, c0, rfl, rfl, rfl, k_1⟩ := hrel
 have hm := hstep; simp only [m_r06_Names_l0] at hm
 clear hstep
 refine W_seq <| W_seq <| Wa (.n 9 (.b (decide (i < (r_Keys.length : Int)))) .a) (qs g 0 <| qB k_1 0 rfl 3 (sl A_r_Keys r_Keys.length c_r_Keys) (by kernel_rfl) <| qe) ?_
 refine W_pz (i < (r_Keys.length : Int)) (fun hc => ?_) fun hc => ?_
 · rw [if_pos hc] at hm
   refine W_skip <| At_go <| W_seq <| W_block <| W_reg ?_
   obtain ⟨x_0, zh0, hm⟩ := ob hm
   obtain ⟨⟨q, ⟨B, n1, c1⟩⟩, hy, hg⟩ := h_r_Keys.at zh0
   simp only [RP, RQ, RH] at hg; obtain ⟨rfl, ⟨rfl, hle, hro⟩⟩ := hg
   refine Wl 7 (.n 12 (sl A0 out.length c0) (.n 18 (.s x_0.1) (.s .a))) (qs g 0 <| qB k_1 0 rfl 3 (sl A_r_Keys r_Keys.length c_r_Keys) (by kernel_rfl) <| qJ (E := (eP eS eH)) (h_r_Keys.ro.cx k_1) hy h_r_Keys.len <| qS (A := ixA A_r_Keys i 2) (ixA_some _ _ (E_ix (E := (eP eS eH)) (h_r_Keys.ro.cx k_1) (by decide) (geti_lt hy).1 (geti_some hy).2)) <| qC (.s x_0.1) (Rd.el (k := 0) (h_r_Keys.ro.cx k_1) hy (Pt.fa2 (Pt.ix1 A_r_Keys i 2) 0) rfl) <| qe) ?_
   refine WL_op <| Op_mk mr_tf41 eS [] 19 ([x_0.1] : List (List UInt8)) [(0, .s x_0.1)] [.s x_0.1] (by kernel_rfl) (by kernel_rfl) (by kernel_rfl) k_1 ?_
   intro A1 w_2 k_3
   refine WL_op ?_
   obtain ⟨out1, h_out1, hm⟩ := ob hm
   obtain ⟨hz, hl⟩ := app_some h_out1
   refine Op_append (E := eS) (v := sl A1 1 1) (ys := ([x_0.1] : List (List UInt8))) mr_tf41 [] 20 1 (by kernel_rfl) k_3 rfl (Src.sl (k_3.rd 2 rfl) (k_3.len 2 rfl) (by rfl)) (k_3.len 2 rfl) (by have := k_3.len 1 rfl; have := (k_3.len 2 rfl); omega) ?_
   intro A2 c2 w_3 k_4
   rw [← hl] at k_4
   have k_5 := k_4.sel (.kk .z)
   refine We 1 (.n 3 (sl A2 (out.length + 1) c2) (.ssss (.k (.s .a)))) ?_
   refine WL_nil <| At_in <| At_go <| W_q [] (.n 4 (I (w64 (i + 1))) (.kk .z)) qe (by kernel_rfl) ?_
   exact At_rd (out1, w64 (i + 1)) (Option.some.inj hm).symm ⟨out1, w64 (i + 1), A2, out.length + 1, c2, rfl, rfl, k_5.len 1 rfl, k_5⟩ (by kernel_rfl)
 rw [if_neg hc] at hm
 refine W_exit (At_te (At_te (At_ie ?_)))
 have hm := exit_of hm hr0
 refine At_go <| Wz (.n 2 (sl A0 out.length c0) .z) ?_
 refine W_ret ?_
 obtain rfl := si hm
 refine At_rz [sl A0 out.length c0] qe ?_
 have k_6 := k_1.sel (.s (.k .e))
 exact ⟨A0, out.length, c0, k_6.len 0 rfl, rfl, k_6⟩
theorem c_mac_Ring_Tag (name : List UInt8) (data : List UInt8) (A_data : Option Addr) (n_data : Nat) (c_data : Nat) (h_data : Ro F w A_data (e8.all data)) (hn_data : data.length = n_data) (hc_data : n_data ≤ c_data) (k : Cx F O w w []) (r : (List UInt8)) (hm : m_mac_Ring_Tag name data = some r) :
    Calls Tryz.prog 13 (vals [.v (.pointer none), .s name, sl A_data n_data c_data]) w (fun e w' => ∃ A n c, r.length = n ∧ e = .returned (SV.val (.tup [sl A n c, I 7])) ∧ Cx F O w w' [Ow e8 A n c r]) := by
 unfold m_mac_Ring_Tag at hm
 subst hn_data
 refine calz [.v (.pointer none), .s name, sl A_data data.length c_data] Tryz.func13 rfl ?_
 refine Wz .a ?_
 refine W_seq <| W_seq <| W_reg <| We 1 (.n 10 (.v (.pointer none)) .a) ?_
 refine WL_op ?_
 obtain ⟨r_, h_r_, hm⟩ := ob hm
 refine Op_cz 11 mr_go22 (c_mac_Ring_none (F := N0) (O := N0)  (Cx.refl _) _ h_r_) ?_
 rintro e_ w_ ⟨rfl, k_⟩
 have k_1 := k.call k_
 refine ⟨.b true, rfl, ?_⟩
 refine Wn <| W_cond true (by kernel_rfl) (fun _ => ?_) (fun h => by cases h)
 refine Wz (.n 6 (sl none 0 0) (.n 7 (I 7) .z)) ?_
 refine W_ret (At_tr ?_)
 have k_2 := k_1.nil e8
 obtain rfl := si hm
 refine At_rz [sl none 0 0, I 7] qe ?_
 exact ⟨none, 0, 0, k_2.len 0 rfl, rfl, k_2⟩
theorem c_r02_Check (kind : Int) (p_Digest : Int) (p_Key : Int) (p_Fanout : Int) (p_Depth : Int) (p_Leaf : UInt32) (p_Offset : UInt64) (p_Xof : UInt32) (p_NodeDepth : Int) (p_Inner : Int) (p_Salt : List UInt8) (p_Personal : List UInt8) (A_p_Salt : Option Addr) (n_p_Salt : Nat) (c_p_Salt : Nat) (A_p_Personal : Option Addr) (n_p_Personal : Nat) (c_p_Personal : Nat) (h_p_Salt : Ro F w A_p_Salt (e8.all p_Salt)) (hn_p_Salt : p_Salt.length = n_p_Salt) (hc_p_Salt : n_p_Salt ≤ c_p_Salt) (h_p_Personal : Ro F w A_p_Personal (e8.all p_Personal)) (hn_p_Personal : p_Personal.length = n_p_Personal) (hc_p_Personal : n_p_Personal ≤ c_p_Personal) (k : Cx F O w w []) (r : Int) (hm : m_r02_Check kind p_Digest p_Key p_Fanout p_Depth p_Leaf p_Offset p_Xof p_NodeDepth p_Inner p_Salt p_Personal = some r) :
    Calls Tryz.prog 38 (vals [I kind, .agg [I p_Digest, I p_Key, I p_Fanout, I p_Depth, .u32 p_Leaf, .u64 p_Offset, .u32 p_Xof, I p_NodeDepth, I p_Inner, sl A_p_Salt n_p_Salt c_p_Salt, sl A_p_Personal n_p_Personal c_p_Personal]]) w (fun e w' => e = .returned (SV.val (I r)) ∧ Cx F O w w' []) := by
 unfold m_r02_Check at hm
 subst hn_p_Salt
 subst hn_p_Personal
 refine calz [I kind, .agg [I p_Digest, I p_Key, I p_Fanout, I p_Depth, .u32 p_Leaf, .u64 p_Offset, .u32 p_Xof, I p_NodeDepth, I p_Inner, sl A_p_Salt p_Salt.length c_p_Salt, sl A_p_Personal p_Personal.length c_p_Personal]] Tryz.func38 rfl ?_
 refine W_seq <| W_reg <| WL_op <| Op_box [] 3 (.agg [I p_Digest, I p_Key, I p_Fanout, I p_Depth, .u32 p_Leaf, .u64 p_Offset, .u32 p_Xof, I p_NodeDepth, I p_Inner, sl A_p_Salt p_Salt.length c_p_Salt, sl A_p_Personal p_Personal.length c_p_Personal]) [I p_Digest, I p_Key, I p_Fanout, I p_Depth, .u32 p_Leaf, .u64 p_Offset, .u32 p_Xof, I p_NodeDepth, I p_Inner, sl A_p_Salt p_Salt.length c_p_Salt, sl A_p_Personal p_Personal.length c_p_Personal] (by kernel_rfl) k ?_
 intro g w_ k_
 refine We 1 (.kk .z) ?_
 refine Wn <| W_seq <| W_reg <| We 1 (.n 6 (I kind) .a) ?_
 refine WL_op ?_
 obtain ⟨r_, h_r_, hm⟩ := ob hm
 refine Op_cz 7 mr_go21 (c_r02_Most (F := N0) (O := N0) _ (Cx.refl _) _ h_r_) ?_
 rintro e_ w_1 ⟨rfl, k_1⟩
 have k_2 := k_.call k_1
 refine ⟨I r_, rfl, ?_⟩
 refine We 1 (.n 5 (I r_) (.ss .a)) ?_
 refine Wn <| W_seq <| W_block <| Wz (.n 8 (.b (decide (r_ = 0))) .a) ?_
 refine W_pz (r_ = 0) (fun hc => ?_) fun hc => ?_
 · rw [if_pos hc] at hm
   refine Wz (.n 4 (I 1) .z) ?_
   refine W_ret (At_ir (At_tr ?_))
   obtain rfl := si hm
   refine At_rz [I 1] qe ?_
   have k_3 := k_2.sel .z
   exact ⟨rfl, k_3⟩
 rw [if_neg hc] at hm
 refine W_seq <| Wa (.n 11 (.b ((decide (p_Digest < 1)) || (decide (r_ < p_Digest)))) (.s .a)) (qs g 0 <| qB k_2 0 rfl 0 (I p_Digest) (by kernel_rfl) <| qp ((decide (p_Digest < 1)) = false → (some ⟨g, 0, none⟩ : Option Addr).isSome = true) (fun hg0 => rfl) <| qo (I p_Digest) <| qc (fun w => (decide (p_Digest < 1)) = false → ∃ a, (some ⟨g, 0, none⟩ : Option Addr) = some a ∧ w.cell? a = some (SV.val (I p_Digest))) (fun hg0 => k_2.bld 0 rfl 0 (I p_Digest) (by kernel_rfl)) <| qe) ?_
 refine W_cz ((decide (p_Digest < 1)) || (decide (r_ < p_Digest))) (fun hc1 => ?_) fun hc1 => ?_
 · rw [if_pos hc1] at hm
   refine Wz (.n 4 (I 20) .z) ?_
   refine W_ret (At_ir (At_tr ?_))
   obtain rfl := si hm
   refine At_rz [I 20] qe ?_
   have k_4 := k_2.sel .z
   exact ⟨rfl, k_4⟩
 rw [if_neg (by rw [hc1]; decide)] at hm
 refine W_seq <| Wa (.n 21 (.b ((decide (p_Key < 0)) || (decide (r_ < p_Key)))) (.s .a)) (qs g 0 <| qB k_2 0 rfl 1 (I p_Key) (by kernel_rfl) <| qp ((decide (p_Key < 0)) = false → (some ⟨g, 0, none⟩ : Option Addr).isSome = true) (fun hg0 => rfl) <| qo (I p_Key) <| qc (fun w => (decide (p_Key < 0)) = false → ∃ a, (some ⟨g, 1, none⟩ : Option Addr) = some a ∧ w.cell? a = some (SV.val (I p_Key))) (fun hg0 => k_2.bld 0 rfl 1 (I p_Key) (by kernel_rfl)) <| qe) ?_
 refine W_cz ((decide (p_Key < 0)) || (decide (r_ < p_Key))) (fun hc2 => ?_) fun hc2 => ?_
 · rw [if_pos hc2] at hm
   refine Wz (.n 4 (I 8) .z) ?_
   refine W_ret (At_ir (At_tr ?_))
   obtain rfl := si hm
   refine At_rz [I 8] qe ?_
   have k_5 := k_2.sel .z
   exact ⟨rfl, k_5⟩
 rw [if_neg (by rw [hc2]; decide)] at hm
 refine W_seq <| Wa (.n 31 (.b ((decide (p_Fanout < 0)) || (decide (255 < p_Fanout)))) (.s .a)) (qs g 0 <| qB k_2 0 rfl 2 (I p_Fanout) (by kernel_rfl) <| qp ((decide (p_Fanout < 0)) = false → (some ⟨g, 0, none⟩ : Option Addr).isSome = true) (fun hg0 => rfl) <| qo (I p_Fanout) <| qc (fun w => (decide (p_Fanout < 0)) = false → ∃ a, (some ⟨g, 2, none⟩ : Option Addr) = some a ∧ w.cell? a = some (SV.val (I p_Fanout))) (fun hg0 => k_2.bld 0 rfl 2 (I p_Fanout) (by kernel_rfl)) <| qe) ?_
 refine W_cz ((decide (p_Fanout < 0)) || (decide (255 < p_Fanout))) (fun hc3 => ?_) fun hc3 => ?_
 · rw [if_pos hc3] at hm
   refine Wz (.n 4 (I 21) .z) ?_
   refine W_ret (At_ir (At_tr ?_))
   obtain rfl := si hm
   refine At_rz [I 21] qe ?_
   have k_6 := k_2.sel .z
   exact ⟨rfl, k_6⟩
 rw [if_neg (by rw [hc3]; decide)] at hm
 refine W_seq <| Wa (.n 40 (.b (((decide (p_Depth < 0)) || (decide (255 < p_Depth))) || ((decide (p_Depth = 0)) && (decide (p_Xof = 0))))) (.s .a)) (qs g 0 <| qB k_2 0 rfl 3 (I p_Depth) (by kernel_rfl) <| qp ((decide (p_Depth < 0)) = false → (some ⟨g, 0, none⟩ : Option Addr).isSome = true) (fun hg0 => rfl) <| qo (I p_Depth) <| qc (fun w => (decide (p_Depth < 0)) = false → ∃ a, (some ⟨g, 3, none⟩ : Option Addr) = some a ∧ w.cell? a = some (SV.val (I p_Depth))) (fun hg0 => k_2.bld 0 rfl 3 (I p_Depth) (by kernel_rfl)) <| qp (((decide (p_Depth < 0)) || (decide (255 < p_Depth))) = false → (some ⟨g, 0, none⟩ : Option Addr).isSome = true) (fun hg0 => rfl) <| qo (I p_Depth) <| qc (fun w => ((decide (p_Depth < 0)) || (decide (255 < p_Depth))) = false → ∃ a, (some ⟨g, 3, none⟩ : Option Addr) = some a ∧ w.cell? a = some (SV.val (I p_Depth))) (fun hg0 => k_2.bld 0 rfl 3 (I p_Depth) (by kernel_rfl)) <| qp (((decide (p_Depth < 0)) || (decide (255 < p_Depth))) = false → (decide (p_Depth = 0)) = true → (some ⟨g, 0, none⟩ : Option Addr).isSome = true) (fun hg1 => fun hg0 => rfl) <| qo (.u32 p_Xof) <| qc (fun w => ((decide (p_Depth < 0)) || (decide (255 < p_Depth))) = false → (decide (p_Depth = 0)) = true → ∃ a, (some ⟨g, 6, none⟩ : Option Addr) = some a ∧ w.cell? a = some (SV.val (.u32 p_Xof))) (fun hg1 => fun hg0 => k_2.bld 0 rfl 6 (.u32 p_Xof) (by kernel_rfl)) <| qe) ?_
 refine W_cz (((decide (p_Depth < 0)) || (decide (255 < p_Depth))) || ((decide (p_Depth = 0)) && (decide (p_Xof = 0)))) (fun hc4 => ?_) fun hc4 => ?_
 · rw [if_pos hc4] at hm
   refine Wz (.n 4 (I 22) .z) ?_
   refine W_ret (At_ir (At_tr ?_))
   obtain rfl := si hm
   refine At_rz [I 22] qe ?_
   have k_7 := k_2.sel .z
   exact ⟨rfl, k_7⟩
 rw [if_neg (by rw [hc4]; decide)] at hm
 refine W_seq <| Wa (.n 59 (.b (((decide (p_Xof ≠ 0)) && (decide ((4294967295 : UInt64) < p_Offset))) || (((decide (p_Xof = 0)) && (decide (kind = 2))) && (decide ((281474976710655 : UInt64) < p_Offset))))) (.s .a)) (qs g 0 <| qB k_2 0 rfl 6 (.u32 p_Xof) (by kernel_rfl) <| qp ((decide (p_Xof ≠ 0)) = true → (some ⟨g, 0, none⟩ : Option Addr).isSome = true) (fun hg0 => rfl) <| qo (.u64 p_Offset) <| qc (fun w => (decide (p_Xof ≠ 0)) = true → ∃ a, (some ⟨g, 5, none⟩ : Option Addr) = some a ∧ w.cell? a = some (SV.val (.u64 p_Offset))) (fun hg0 => k_2.bld 0 rfl 5 (.u64 p_Offset) (by kernel_rfl)) <| qp (((decide (p_Xof ≠ 0)) && (decide ((4294967295 : UInt64) < p_Offset))) = false → (some ⟨g, 0, none⟩ : Option Addr).isSome = true) (fun hg0 => rfl) <| qo (.u32 p_Xof) <| qc (fun w => ((decide (p_Xof ≠ 0)) && (decide ((4294967295 : UInt64) < p_Offset))) = false → ∃ a, (some ⟨g, 6, none⟩ : Option Addr) = some a ∧ w.cell? a = some (SV.val (.u32 p_Xof))) (fun hg0 => k_2.bld 0 rfl 6 (.u32 p_Xof) (by kernel_rfl)) <| qp (((decide (p_Xof ≠ 0)) && (decide ((4294967295 : UInt64) < p_Offset))) = false → ((decide (p_Xof = 0)) && (decide (kind = 2))) = true → (some ⟨g, 0, none⟩ : Option Addr).isSome = true) (fun hg1 => fun hg0 => rfl) <| qo (.u64 p_Offset) <| qc (fun w => ((decide (p_Xof ≠ 0)) && (decide ((4294967295 : UInt64) < p_Offset))) = false → ((decide (p_Xof = 0)) && (decide (kind = 2))) = true → ∃ a, (some ⟨g, 5, none⟩ : Option Addr) = some a ∧ w.cell? a = some (SV.val (.u64 p_Offset))) (fun hg1 => fun hg0 => k_2.bld 0 rfl 5 (.u64 p_Offset) (by kernel_rfl)) <| qe) ?_
 refine W_cz (((decide (p_Xof ≠ 0)) && (decide ((4294967295 : UInt64) < p_Offset))) || (((decide (p_Xof = 0)) && (decide (kind = 2))) && (decide ((281474976710655 : UInt64) < p_Offset)))) (fun hc5 => ?_) fun hc5 => ?_
 · rw [if_pos hc5] at hm
   refine Wz (.n 4 (I 23) .z) ?_
   refine W_ret (At_ir (At_tr ?_))
   obtain rfl := si hm
   refine At_rz [I 23] qe ?_
   have k_8 := k_2.sel .z
   exact ⟨rfl, k_8⟩
 rw [if_neg (by rw [hc5]; decide)] at hm
 refine W_seq <| Wa (.n 82 (.b ((decide (kind = 2)) && (decide ((65535 : UInt32) < p_Xof)))) (.s (.kk .z))) (qp ((decide (kind = 2)) = true → (some ⟨g, 0, none⟩ : Option Addr).isSome = true) (fun hg0 => rfl) <| qo (.u32 p_Xof) <| qc (fun w => (decide (kind = 2)) = true → ∃ a, (some ⟨g, 6, none⟩ : Option Addr) = some a ∧ w.cell? a = some (SV.val (.u32 p_Xof))) (fun hg0 => k_2.bld 0 rfl 6 (.u32 p_Xof) (by kernel_rfl)) <| qe) ?_
 refine W_cz ((decide (kind = 2)) && (decide ((65535 : UInt32) < p_Xof))) (fun hc6 => ?_) fun hc6 => ?_
 · rw [if_pos hc6] at hm
   refine Wz (.n 4 (I 24) .z) ?_
   refine W_ret (At_ir (At_tr ?_))
   obtain rfl := si hm
   refine At_rz [I 24] qe ?_
   have k_9 := k_2.sel .z
   exact ⟨rfl, k_9⟩
 rw [if_neg (by rw [hc6]; decide)] at hm
 refine W_seq <| Wa (.n 90 (.b ((decide (p_NodeDepth < 0)) || (decide (255 < p_NodeDepth)))) (.s .a)) (qs g 0 <| qB k_2 0 rfl 7 (I p_NodeDepth) (by kernel_rfl) <| qp ((decide (p_NodeDepth < 0)) = false → (some ⟨g, 0, none⟩ : Option Addr).isSome = true) (fun hg0 => rfl) <| qo (I p_NodeDepth) <| qc (fun w => (decide (p_NodeDepth < 0)) = false → ∃ a, (some ⟨g, 7, none⟩ : Option Addr) = some a ∧ w.cell? a = some (SV.val (I p_NodeDepth))) (fun hg0 => k_2.bld 0 rfl 7 (I p_NodeDepth) (by kernel_rfl)) <| qe) ?_
 refine W_cz ((decide (p_NodeDepth < 0)) || (decide (255 < p_NodeDepth))) (fun hc7 => ?_) fun hc7 => ?_
 · rw [if_pos hc7] at hm
   refine Wz (.n 4 (I 25) .z) ?_
   refine W_ret (At_ir (At_tr ?_))
   obtain rfl := si hm
   refine At_rz [I 25] qe ?_
   have k_10 := k_2.sel .z
   exact ⟨rfl, k_10⟩
 rw [if_neg (by rw [hc7]; decide)] at hm
 refine W_seq <| Wa (.n 99 (.b ((decide (p_Inner < 0)) || (decide (r_ < p_Inner)))) (.s .a)) (qs g 0 <| qB k_2 0 rfl 8 (I p_Inner) (by kernel_rfl) <| qp ((decide (p_Inner < 0)) = false → (some ⟨g, 0, none⟩ : Option Addr).isSome = true) (fun hg0 => rfl) <| qo (I p_Inner) <| qc (fun w => (decide (p_Inner < 0)) = false → ∃ a, (some ⟨g, 8, none⟩ : Option Addr) = some a ∧ w.cell? a = some (SV.val (I p_Inner))) (fun hg0 => k_2.bld 0 rfl 8 (I p_Inner) (by kernel_rfl)) <| qe) ?_
 refine W_cz ((decide (p_Inner < 0)) || (decide (r_ < p_Inner))) (fun hc8 => ?_) fun hc8 => ?_
 · rw [if_pos hc8] at hm
   refine Wz (.n 4 (I 26) .z) ?_
   refine W_ret (At_ir (At_tr ?_))
   obtain rfl := si hm
   refine At_rz [I 26] qe ?_
   have k_11 := k_2.sel .z
   exact ⟨rfl, k_11⟩
 rw [if_neg (by rw [hc8]; decide)] at hm
 refine W_seq <| Wa (.n 109 (.b (decide ((w64 (Int.tdiv r_ 4)) < (p_Salt.length : Int)))) (.s .a)) (qs g 0 <| qB k_2 0 rfl 9 (sl A_p_Salt p_Salt.length c_p_Salt) (by kernel_rfl) <| qp ((4 : Int) ≠ (0 : Int)) (by omega) <| qe) ?_
 refine W_pz ((w64 (Int.tdiv r_ 4)) < (p_Salt.length : Int)) (fun hc9 => ?_) fun hc9 => ?_
 · rw [if_pos hc9] at hm
   refine Wz (.n 4 (I 27) .z) ?_
   refine W_ret (At_ir (At_tr ?_))
   obtain rfl := si hm
   refine At_rz [I 27] qe ?_
   have k_12 := k_2.sel .z
   exact ⟨rfl, k_12⟩
 rw [if_neg hc9] at hm
 refine W_seq <| Wa (.n 116 (.b (decide ((w64 (Int.tdiv r_ 4)) < (p_Personal.length : Int)))) .z) (qs g 0 <| qB k_2 0 rfl 10 (sl A_p_Personal p_Personal.length c_p_Personal) (by kernel_rfl) <| qp ((4 : Int) ≠ (0 : Int)) (by omega) <| qe) ?_
 refine W_pz ((w64 (Int.tdiv r_ 4)) < (p_Personal.length : Int)) (fun hc10 => ?_) fun hc10 => ?_
 · rw [if_pos hc10] at hm
   refine Wz (.n 4 (I 28) .z) ?_
   refine W_ret (At_ir (At_tr ?_))
   obtain rfl := si hm
   refine At_rz [I 28] qe ?_
   have k_13 := k_2.sel .z
   exact ⟨rfl, k_13⟩
 rw [if_neg hc10] at hm
 refine W_skip <| At_in <| At_go <| Wz (.n 4 (I 0) .z) ?_
 refine W_ret ?_
 obtain rfl := si hm
 refine At_rz [I 0] qe ?_
 have k_14 := k_2.sel .z
 exact ⟨rfl, k_14⟩
theorem c_r05_Block (kind : Int) (k : Cx F O w w []) (r : Int) (hm : m_r05_Block kind = some r) :
    Calls Tryz.prog 75 (vals [I kind]) w (fun e w' => e = .returned (SV.val (I r)) ∧ Cx F O w w' []) := by
 unfold m_r05_Block at hm
 refine calz [I kind] Tryz.func75 rfl ?_
 refine Wz .a ?_
 refine W_seq <| Wz (.n 4 (.b (decide (kind = 1))) .z) ?_
 refine W_pz (kind = 1) (fun hc => ?_) fun hc => ?_
 · rw [if_pos hc] at hm
   refine Wz (.n 2 (I 128) .z) ?_
   refine W_ret (At_tr ?_)
   obtain rfl := si hm
   refine At_rz [I 128] qe ?_
   exact ⟨rfl, k⟩
 rw [if_neg hc] at hm
 refine W_skip <| At_go <| Wz (.n 2 (I 64) .z) ?_
 refine W_ret ?_
 obtain rfl := si hm
 refine At_rz [I 64] qe ?_
 exact ⟨rfl, k⟩
theorem c_r05_keyed (kind : Int) (key : List UInt8) (A_key : Option Addr) (n_key : Nat) (c_key : Nat) (h_key : Ro F w A_key (e8.all key)) (hn_key : key.length = n_key) (hc_key : n_key ≤ c_key) (k : Cx F O w w []) (r : (List UInt8)) (hm : m_r05_keyed kind key = some r) :
    Calls Tryz.prog 69 (vals [I kind, sl A_key n_key c_key]) w (fun e w' => ∃ A n c, r.length = n ∧ e = .returned (SV.val (sl A n c)) ∧ Cx F O w w' [Ow e8 A n c r]) := by
 unfold m_r05_keyed at hm
 subst hn_key
 refine calz [I kind, sl A_key key.length c_key] Tryz.func69 rfl ?_
 refine Wz .a ?_
 refine Wz (.n 5 (sl none 0 0) .a) ?_
 refine W_seq <| Wz (.n 10 (.b (decide ((key.length : Int) = 0))) .a) ?_
 refine W_pz ((key.length : Int) = 0) (fun hc => ?_) fun hc => ?_
 · rw [if_pos hc] at hm
   refine Wz (.n 4 (sl none 0 0) .z) ?_
   refine W_ret (At_tr ?_)
   have k_ := k.nil e8
   obtain rfl := si hm
   refine At_rz [sl none 0 0] qe ?_
   exact ⟨none, 0, 0, k_.len 0 rfl, rfl, k_⟩
 rw [if_neg hc] at hm
 refine W_skip <| At_go <| W_seq <| Wz (.n 6 (I 0) (.s .a)) ?_
 refine W_block ?_
 have k_2 := k.nil e8
 refine W_lp (m_r05_keyed_l0 kind key) (fun s L wr => ∃ (b : List UInt8) (i : Int) (A0 : Option Addr) (n0 : Nat) (c0 : Nat), (b, i) = s ∧ L = [(0, I kind), (1, sl A_key key.length c_key), (5, sl A0 n0 c0), (6, I i)] ∧ b.length = n0 ∧ Cx F O w wr [Ow e8 A0 n0 c0 b]) (([] : List UInt8), (0 : Int)) r hm ⟨([] : List UInt8), (0 : Int), none, 0, 0, rfl, rfl, k_2.len 0 rfl, k_2⟩ (by kernel_rfl) ?_
 intro s0_ L_ w_ y0 hrel hstep hr0
 obtain ⟨b, i, A0, _, c0, rfl, rfl, rfl, k_1⟩ := hrel
 have hm := hstep; simp only [m_r05_keyed_l0] at hm
 clear hstep
 refine W_seq <| W_seq <| W_reg <| We 2 (.n 11 (I i) (.n 12 (I kind) .a)) ?_
 refine WL_op ?_
 obtain ⟨r_, h_r_, hm⟩ := ob hm
 refine Op_cz 13 mr_go75 (c_r05_Block (F := N0) (O := N0) _ (Cx.refl _) _ h_r_) ?_
 rintro e_ w_1 ⟨rfl, k_3⟩
 have k_4 := k_1.call k_3
 refine ⟨I r_, rfl, ?_⟩
 refine We 1 (.n 14 (.b (decide (i < r_))) (.sss .a)) ?_
 refine Wn <| W_pz (i < r_) (fun hc1 => ?_) fun hc1 => ?_
 · rw [if_pos hc1] at hm
   refine W_skip <| At_go <| W_cut (fun L wr => ∃ (b1 : List UInt8) (A1 : Option Addr) (n1 : Nat) (c1 : Nat), m_r05_keyed_j0 i b1 = some y0 ∧ L = [(0, I kind), (1, sl A_key key.length c_key), (5, sl A1 n1 c1), (6, I i)] ∧ b1.length = n1 ∧ Cx F O w wr [Ow e8 A1 n1 c1 b1]) ?_ ?_
   ·
    refine W_block <| Wz (.n 7 (.u8 0) (.s .a)) ?_
    refine W_cut (fun L wr => ∃ (c2 : UInt8), m_r05_keyed_j1 b i c2 = some y0 ∧ L = [(0, I kind), (1, sl A_key key.length c_key), (5, sl A0 b.length c0), (6, I i), (7, .u8 c2)] ∧ Cx F O w wr [Ow e8 A0 b.length c0 b]) ?_ ?_
    ·
     refine Wz (.n 20 (.b (decide (i < (key.length : Int)))) .a) ?_
     refine W_pz (i < (key.length : Int)) (fun hc2 => ?_) fun hc2 => ?_
     · rw [if_pos hc2] at hm
       obtain ⟨x_0, zh0, hm⟩ := ob hm
       refine W_q [] (.n 7 (.u8 x_0) (.ss .a)) (qW (h_key.cx k_4) zh0 rfl (.u8 x_0) rfl <| qe) (by kernel_rfl) ?_
       exact At_cz ⟨x_0, hm, rfl, k_4⟩
     rw [if_neg hc2] at hm
     refine W_skip ?_
     exact At_cz ⟨(0 : UInt8), hm, rfl, k_4⟩
    rintro L_ w_2 ⟨c2, hm, rfl, k_5⟩
    simp only [m_r05_keyed_j1] at hm
    refine W_reg <| We 2 (.n 25 (sl A0 b.length c0) (.n 26 (.u8 c2) (.kkkk .z))) ?_
    refine WL_op <| Op_mk mr_tf33 e8 [] 27 ([c2] : List UInt8) [(0, .u8 c2)] [.u8 c2] (by kernel_rfl) (by kernel_rfl) (by kernel_rfl) k_5 ?_
    intro A2 w_3 k_6
    refine WL_op ?_
    obtain ⟨b2, h_b2, hm⟩ := ob hm
    obtain ⟨hz, hl⟩ := app_some h_b2
    refine Op_append (E := e8) (v := sl A2 1 1) (ys := ([c2] : List UInt8)) mr_tf33 [] 28 0 (by kernel_rfl) k_6 rfl (Src.sl (k_6.rd 1 rfl) (k_6.len 1 rfl) (by rfl)) (k_6.len 1 rfl) (by have := k_6.len 0 rfl; have := (k_6.len 1 rfl); omega) ?_
    intro A3 c3 w_4 k_7
    rw [← hl] at k_7
    have k_8 := k_7.sel (.k .z)
    refine We 1 (.n 5 (sl A3 (b.length + 1) c3) (.ssss (.kk (.s .a)))) ?_
    refine WL_nil <| At_in ?_
    exact At_cz ⟨b2, A3, b.length + 1, c3, hm, rfl, k_8.len 0 rfl, k_8⟩
   rintro L_ w_5 ⟨b1, A1, _, c1, hm, rfl, rfl, k_9⟩
   simp only [m_r05_keyed_j0] at hm
   refine W_q [] (.n 6 (I (w64 (i + 1))) (.kkk .z)) qe (by kernel_rfl) ?_
   exact At_rd (b1, w64 (i + 1)) (Option.some.inj hm).symm ⟨b1, w64 (i + 1), A1, b1.length, c1, rfl, rfl, k_9.len 0 rfl, k_9⟩ (by kernel_rfl)
 rw [if_neg hc1] at hm
 refine W_exit (At_te (At_te (At_ie ?_)))
 have hm := exit_of hm hr0
 refine At_go <| Wz (.n 4 (sl A0 b.length c0) .z) ?_
 refine W_ret ?_
 obtain rfl := si hm
 refine At_rz [sl A0 b.length c0] qe ?_
 exact ⟨A0, b.length, c0, k_4.len 0 rfl, rfl, k_4⟩
theorem c_r05_New (kind : Int) (p_Digest : Int) (p_Key : Int) (p_Fanout : Int) (p_Depth : Int) (p_Leaf : UInt32) (p_Offset : UInt64) (p_Xof : UInt32) (p_NodeDepth : Int) (p_Inner : Int) (p_Salt : List UInt8) (p_Personal : List UInt8) (key : List UInt8) (A_p_Salt : Option Addr) (n_p_Salt : Nat) (c_p_Salt : Nat) (A_p_Personal : Option Addr) (n_p_Personal : Nat) (c_p_Personal : Nat) (A_key : Option Addr) (n_key : Nat) (c_key : Nat) (h_p_Salt : Ro F w A_p_Salt (e8.all p_Salt)) (hn_p_Salt : p_Salt.length = n_p_Salt) (hc_p_Salt : n_p_Salt ≤ c_p_Salt) (h_p_Personal : Ro F w A_p_Personal (e8.all p_Personal)) (hn_p_Personal : p_Personal.length = n_p_Personal) (hc_p_Personal : n_p_Personal ≤ c_p_Personal) (h_key : Ro F w A_key (e8.all key)) (hn_key : key.length = n_key) (hc_key : n_key ≤ c_key) (k : Cx F O w w []) (r : Int ⊕ (Int × Int × Int × Int × Int × UInt32 × UInt64 × UInt32 × Int × Int × Vec UInt64 16 × List UInt8)) (hm : m_r05_New kind p_Digest p_Key p_Fanout p_Depth p_Leaf p_Offset p_Xof p_NodeDepth p_Inner p_Salt p_Personal key = some r) :
    Calls Tryz.prog 55 (vals [I kind, .agg [I p_Digest, I p_Key, I p_Fanout, I p_Depth, .u32 p_Leaf, .u64 p_Offset, .u32 p_Xof, I p_NodeDepth, I p_Inner, sl A_p_Salt n_p_Salt c_p_Salt, sl A_p_Personal n_p_Personal c_p_Personal], sl A_key n_key c_key]) w (fun e w' => match r with | .inl r0 => e = .returned (SV.val (.tup [.v (.pointer none), I r0])) ∧ Cx F O w w' [] | .inr r1 => ∃ g A n c, r1.2.2.2.2.2.2.2.2.2.2.2.length = n ∧ e = .returned (SV.val (.tup [pt g 0, I 0])) ∧ Cx F O w w' [Bx 109 g [I r1.1, I r1.2.1, I r1.2.2.1, I r1.2.2.2.1, I r1.2.2.2.2.1, .u32 r1.2.2.2.2.2.1, .u64 r1.2.2.2.2.2.2.1, .u32 r1.2.2.2.2.2.2.2.1, I r1.2.2.2.2.2.2.2.2.1, I r1.2.2.2.2.2.2.2.2.2.1, sl A_p_Salt n_p_Salt c_p_Salt, sl A_p_Personal n_p_Personal c_p_Personal, sl A_key n_key c_key, .b false, .ar e64 r1.2.2.2.2.2.2.2.2.2.2.1, .b false, .u64 0, .u64 0, sl A n c, .u64 0], Ow e8 A n c r1.2.2.2.2.2.2.2.2.2.2.2]) := by
 unfold m_r05_New at hm
 subst hn_p_Salt
 subst hn_p_Personal
 subst hn_key
 refine calz [I kind, .agg [I p_Digest, I p_Key, I p_Fanout, I p_Depth, .u32 p_Leaf, .u64 p_Offset, .u32 p_Xof, I p_NodeDepth, I p_Inner, sl A_p_Salt p_Salt.length c_p_Salt, sl A_p_Personal p_Personal.length c_p_Personal], sl A_key key.length c_key] Tryz.func55 rfl ?_
 refine W_seq <| W_reg <| WL_op <| Op_box [] 4 (.agg [I p_Digest, I p_Key, I p_Fanout, I p_Depth, .u32 p_Leaf, .u64 p_Offset, .u32 p_Xof, I p_NodeDepth, I p_Inner, sl A_p_Salt p_Salt.length c_p_Salt, sl A_p_Personal p_Personal.length c_p_Personal]) [I p_Digest, I p_Key, I p_Fanout, I p_Depth, .u32 p_Leaf, .u64 p_Offset, .u32 p_Xof, I p_NodeDepth, I p_Inner, sl A_p_Salt p_Salt.length c_p_Salt, sl A_p_Personal p_Personal.length c_p_Personal] (by kernel_rfl) k ?_
 intro g0 w_ k_
 refine We 2 (.kk (.s .a)) ?_
 refine Wn <| W_seq <| W_reg <| Wl 2 (.n 10 (I kind) (.n 11 (.agg [I p_Digest, I p_Key, I p_Fanout, I p_Depth, .u32 p_Leaf, .u64 p_Offset, .u32 p_Xof, I p_NodeDepth, I p_Inner, sl A_p_Salt p_Salt.length c_p_Salt, sl A_p_Personal p_Personal.length c_p_Personal]) .a)) (qT k_ 0 rfl 0 11 [I p_Digest, I p_Key, I p_Fanout, I p_Depth, .u32 p_Leaf, .u64 p_Offset, .u32 p_Xof, I p_NodeDepth, I p_Inner, sl A_p_Salt p_Salt.length c_p_Salt, sl A_p_Personal p_Personal.length c_p_Personal] (by kernel_rfl) (by decide) <| qe) ?_
 refine WL_op ?_
 obtain ⟨r_, h_r_, hm⟩ := ob hm
 refine Op_cz 12 mr_go38 (c_r02_Check (F := N0) (O := N0) _ _ _ _ _ _ _ _ _ _ _ _ _ _ _ _ _ _ (Ro.n0 (h_p_Salt.cx k_)) rfl hc_p_Salt (Ro.n0 (h_p_Personal.cx k_)) rfl hc_p_Personal (Cx.refl _) _ h_r_) ?_
 rintro e_ w_1 ⟨rfl, k_1⟩
 have k_2 := k_.call k_1
 refine ⟨I r_, rfl, ?_⟩
 refine We 1 (.n 8 (I r_) (.sss .a)) ?_
 refine Wn <| W_seq <| Wz (.n 14 (.b (decide (r_ ≠ 0))) .a) ?_
 refine W_pz (r_ ≠ 0) (fun hc => ?_) fun hc => ?_
 · rw [if_pos hc] at hm
   refine Wz (.n 6 (.v (.pointer none)) (.n 7 (I r_) .z)) ?_
   refine W_ret (At_tr ?_)
   obtain rfl := si hm
   refine At_rz [.v (.pointer none), I r_] qe ?_
   have k_3 := k_2.sel .z
   exact ⟨rfl, k_3⟩
 rw [if_neg hc] at hm
 refine W_skip <| At_go <| W_seq <| W_seq <| Wa (.n 25 (.b ((decide ((key.length : Int) ≠ 0)) && (decide ((key.length : Int) ≠ p_Key)))) (.ss .a)) (qp ((decide ((key.length : Int) ≠ 0)) = true → (some ⟨g0, 0, none⟩ : Option Addr).isSome = true) (fun hg0 => rfl) <| qo (I p_Key) <| qc (fun w => (decide ((key.length : Int) ≠ 0)) = true → ∃ a, (some ⟨g0, 1, none⟩ : Option Addr) = some a ∧ w.cell? a = some (SV.val (I p_Key))) (fun hg0 => k_2.bld 0 rfl 1 (I p_Key) (by kernel_rfl)) <| qe) ?_
 refine W_cz ((decide ((key.length : Int) ≠ 0)) && (decide ((key.length : Int) ≠ p_Key))) (fun hc1 => ?_) fun hc1 => ?_
 · rw [if_pos hc1] at hm
   refine Wz (.n 6 (.v (.pointer none)) (.n 7 (I 8) .z)) ?_
   refine W_ret (At_tr ?_)
   obtain rfl := si hm
   refine At_rz [.v (.pointer none), I 8] qe ?_
   have k_4 := k_2.sel .z
   exact ⟨rfl, k_4⟩
 rw [if_neg (by rw [hc1]; decide)] at hm
 refine W_skip <| At_go <| W_seq <| W_reg <| Wl 4 (.n 29 (.agg [I kind, I p_Digest, I p_Key, I p_Fanout, I p_Depth, .u32 p_Leaf, .u64 p_Offset, .u32 p_Xof, I p_NodeDepth, I p_Inner, sl A_p_Salt p_Salt.length c_p_Salt, sl A_p_Personal p_Personal.length c_p_Personal, sl A_key key.length c_key, .b false, .ar e64 (Vec.rep 16 (0 : UInt64)), .b false, .u64 0, .u64 0, sl none 0 0, .u64 0]) (.ss .a)) (qT k_2 0 rfl 0 11 [I p_Digest, I p_Key, I p_Fanout, I p_Depth, .u32 p_Leaf, .u64 p_Offset, .u32 p_Xof, I p_NodeDepth, I p_Inner, sl A_p_Salt p_Salt.length c_p_Salt, sl A_p_Personal p_Personal.length c_p_Personal] (by kernel_rfl) (by decide) <| qe) ?_
 refine WL_op <| Op_box [] 30 (.agg [I kind, I p_Digest, I p_Key, I p_Fanout, I p_Depth, .u32 p_Leaf, .u64 p_Offset, .u32 p_Xof, I p_NodeDepth, I p_Inner, sl A_p_Salt p_Salt.length c_p_Salt, sl A_p_Personal p_Personal.length c_p_Personal, sl A_key key.length c_key, .b false, .ar e64 (Vec.rep 16 (0 : UInt64)), .b false, .u64 0, .u64 0, sl none 0 0, .u64 0]) [I kind, I p_Digest, I p_Key, I p_Fanout, I p_Depth, .u32 p_Leaf, .u64 p_Offset, .u32 p_Xof, I p_NodeDepth, I p_Inner, sl A_p_Salt p_Salt.length c_p_Salt, sl A_p_Personal p_Personal.length c_p_Personal, sl A_key key.length c_key, .b false, .ar e64 (Vec.rep 16 (0 : UInt64)), .b false, .u64 0, .u64 0, sl none 0 0, .u64 0] (by kernel_rfl) k_2 ?_
 intro g1 w_2 k_5
 refine We 1 (.n 9 (pt g1 0) (.ss .a)) ?_
 refine Wn <| W_seq <| W_reg <| We 3 (.n 31 (pt g1 0) (.n 32 (I kind) (.n 33 (sl A_key key.length c_key) (.k .z)))) ?_
 refine WL_op ?_
 obtain ⟨r_1, h_r_1, hm⟩ := ob hm
 refine Op_cz 34 mr_go69 (c_r05_keyed (F := N0) (O := N0) _ _ _ _ _ (Ro.n0 (h_key.cx k_5)) rfl hc_key (Cx.refl _) _ h_r_1) ?_
 rintro e_ w_3 ⟨A0, _, c0, rfl, rfl, k_6⟩
 have k_7 := k_5.call k_6
 refine ⟨sl A0 r_1.length c0, rfl, ?_⟩
 have k_8 := k_7.sel (.s (.kk .e))
 refine Wl 2 (.n 36 (pt g1 33) (.k (.sss .a))) (qs g1 0 <| qs g1 0 <| qe) ?_
 refine WL_op ?_
 have k_9 := k_8.sel (.kk .e)
 refine Op_bz 0 (sl A0 r_1.length c0) [sl A0 r_1.length c0] (Pt.at g1 33) k_9 rfl (.kkkk (.kkkk (.kkkk (.kkkk (.kk .h))))) ?_
 intro w_4 k_10
 refine Wn <| Wz (.n 6 (pt g1 0) (.n 7 (I 0) .z)) ?_
 refine W_ret ?_
 obtain rfl := si hm
 refine At_rz [pt g1 0, I 0] qe ?_
 exact ⟨g1, A0, r_1.length, c0, k_10.len 1 rfl, rfl, k_10⟩
theorem c_r05_Full (kind : Int) (k : Cx F O w w []) (r : Int) (hm : m_r05_Full kind = some r) :
    Calls Tryz.prog 56 (vals [I kind]) w (fun e w' => e = .returned (SV.val (I r)) ∧ Cx F O w w' []) := by
 unfold m_r05_Full at hm
 refine calz [I kind] Tryz.func56 rfl ?_
 refine Wz .a ?_
 refine W_seq <| Wz (.n 4 (.b (decide (kind = 1))) .z) ?_
 refine W_pz (kind = 1) (fun hc => ?_) fun hc => ?_
 · rw [if_pos hc] at hm
   refine Wz (.n 2 (I 64) .z) ?_
   refine W_ret (At_tr ?_)
   obtain rfl := si hm
   refine At_rz [I 64] qe ?_
   exact ⟨rfl, k⟩
 rw [if_neg hc] at hm
 refine W_skip <| At_go <| Wz (.n 2 (I 32) .z) ?_
 refine W_ret ?_
 obtain rfl := si hm
 refine At_rz [I 32] qe ?_
 exact ⟨rfl, k⟩
theorem c_r05_Node_Write (n_Kind : Int) (n_P_Digest : Int) (n_P_Key : Int) (n_P_Fanout : Int) (n_P_Depth : Int) (n_P_Leaf : UInt32) (n_P_Offset : UInt64) (n_P_Xof : UInt32) (n_P_NodeDepth : Int) (n_P_Inner : Int) (n_P_Salt : List UInt8) (n_P_Personal : List UInt8) (n_Key : List UInt8) (n_Last : Bool) (n_From : Vec UInt64 16) (n_Old : Bool) (n_Lo : UInt64) (n_Hi : UInt64) (n_Msg : List UInt8) (n_Count : UInt64) (b : List UInt8) (g_n : Nat) (A_n_P_Salt : Option Addr) (n_n_P_Salt : Nat) (c_n_P_Salt : Nat) (A_n_P_Personal : Option Addr) (n_n_P_Personal : Nat) (c_n_P_Personal : Nat) (A_n_Key : Option Addr) (n_n_Key : Nat) (c_n_Key : Nat) (A_n_Msg : Option Addr) (n_n_Msg : Nat) (c_n_Msg : Nat) (A_b : Option Addr) (n_b : Nat) (c_b : Nat) (h_n_P_Salt : Ro F w A_n_P_Salt (e8.all n_P_Salt)) (hn_n_P_Salt : n_P_Salt.length = n_n_P_Salt) (hc_n_P_Salt : n_n_P_Salt ≤ c_n_P_Salt) (h_n_P_Personal : Ro F w A_n_P_Personal (e8.all n_P_Personal)) (hn_n_P_Personal : n_P_Personal.length = n_n_P_Personal) (hc_n_P_Personal : n_n_P_Personal ≤ c_n_P_Personal) (h_n_Key : Ro F w A_n_Key (e8.all n_Key)) (hn_n_Key : n_Key.length = n_n_Key) (hc_n_Key : n_n_Key ≤ c_n_Key) (h_b : Ro F w A_b (e8.all b)) (hn_b : b.length = n_b) (hc_b : n_b ≤ c_b) (k : Cx F O w w [Bx 109 g_n [I n_Kind, I n_P_Digest, I n_P_Key, I n_P_Fanout, I n_P_Depth, .u32 n_P_Leaf, .u64 n_P_Offset, .u32 n_P_Xof, I n_P_NodeDepth, I n_P_Inner, sl A_n_P_Salt n_n_P_Salt c_n_P_Salt, sl A_n_P_Personal n_n_P_Personal c_n_P_Personal, sl A_n_Key n_n_Key c_n_Key, .b n_Last, .ar e64 n_From, .b n_Old, .u64 n_Lo, .u64 n_Hi, sl A_n_Msg n_n_Msg c_n_Msg, .u64 n_Count], Ow e8 A_n_Msg n_n_Msg c_n_Msg n_Msg]) (r : (Int × Int × Int × Int × Int × UInt32 × UInt64 × UInt32 × Int × Int × Bool × Vec UInt64 16 × Bool × UInt64 × UInt64 × List UInt8 × UInt64)) (hm : m_r05_Node_Write n_Kind n_P_Digest n_P_Key n_P_Fanout n_P_Depth n_P_Leaf n_P_Offset n_P_Xof n_P_NodeDepth n_P_Inner n_P_Salt n_P_Personal n_Key n_Last n_From n_Old n_Lo n_Hi n_Msg n_Count b = some r) :
    Calls Tryz.prog 57 (vals [pt g_n 0, sl A_b n_b c_b]) w (fun e w' => ∃ A n c, r.2.2.2.2.2.2.2.2.2.2.2.2.2.2.2.1.length = n ∧ e = .returned (SV.val (.tup [])) ∧ Cx F O w w' [Bx 109 g_n [I r.1, I r.2.1, I r.2.2.1, I r.2.2.2.1, I r.2.2.2.2.1, .u32 r.2.2.2.2.2.1, .u64 r.2.2.2.2.2.2.1, .u32 r.2.2.2.2.2.2.2.1, I r.2.2.2.2.2.2.2.2.1, I r.2.2.2.2.2.2.2.2.2.1, sl A_n_P_Salt n_n_P_Salt c_n_P_Salt, sl A_n_P_Personal n_n_P_Personal c_n_P_Personal, sl A_n_Key n_n_Key c_n_Key, .b r.2.2.2.2.2.2.2.2.2.2.1, .ar e64 r.2.2.2.2.2.2.2.2.2.2.2.1, .b r.2.2.2.2.2.2.2.2.2.2.2.2.1, .u64 r.2.2.2.2.2.2.2.2.2.2.2.2.2.1, .u64 r.2.2.2.2.2.2.2.2.2.2.2.2.2.2.1, sl A n c, .u64 r.2.2.2.2.2.2.2.2.2.2.2.2.2.2.2.2], Ow e8 A n c r.2.2.2.2.2.2.2.2.2.2.2.2.2.2.2.1]) := by
 unfold m_r05_Node_Write at hm
 subst hn_n_P_Salt
 subst hn_n_P_Personal
 subst hn_n_Key
 obtain rfl := k.len 1 rfl
 subst hn_b
 refine calz [pt g_n 0, sl A_b b.length c_b] Tryz.func57 rfl ?_
 refine W_seq <| Wz (.n 4 (I 0) .a) ?_
 refine W_block <| W_lp (m_r05_Node_Write_l0 n_Kind n_P_Digest n_P_Key n_P_Fanout n_P_Depth n_P_Leaf n_P_Offset n_P_Xof n_P_NodeDepth n_P_Inner n_Last n_From n_Old n_Lo n_Hi n_Count b) (fun s L wr => ∃ (n0 : List UInt8) (i : Int) (A0 : Option Addr) (n1 : Nat) (c0 : Nat), (n0, i) = s ∧ L = [(0, pt g_n 0), (1, sl A_b b.length c_b), (4, I i)] ∧ n0.length = n1 ∧ Cx F O w wr [Bx 109 g_n [I n_Kind, I n_P_Digest, I n_P_Key, I n_P_Fanout, I n_P_Depth, .u32 n_P_Leaf, .u64 n_P_Offset, .u32 n_P_Xof, I n_P_NodeDepth, I n_P_Inner, sl A_n_P_Salt n_P_Salt.length c_n_P_Salt, sl A_n_P_Personal n_P_Personal.length c_n_P_Personal, sl A_n_Key n_Key.length c_n_Key, .b n_Last, .ar e64 n_From, .b n_Old, .u64 n_Lo, .u64 n_Hi, sl A0 n1 c0, .u64 n_Count], Ow e8 A0 n1 c0 n0]) (n_Msg, (0 : Int)) r hm ⟨n_Msg, (0 : Int), A_n_Msg, n_Msg.length, c_n_Msg, rfl, rfl, k.len 1 rfl, k⟩ (by kernel_rfl) ?_
 intro s0_ L_ w_ y0 hrel hstep hr0
 obtain ⟨n0, i, A0, _, c0, rfl, rfl, rfl, k_⟩ := hrel
 have hm := hstep; simp only [m_r05_Node_Write_l0] at hm
 clear hstep
 refine W_seq <| Wz (.n 8 (.b (decide (i < (b.length : Int)))) .a) ?_
 refine W_pz (i < (b.length : Int)) (fun hc => ?_) fun hc => ?_
 · rw [if_pos hc] at hm
   refine W_skip <| At_go <| W_seq <| W_block ?_
   have k_1 := k_.drew 1
   refine W_m mr_mixed (.q 0 2 (.q 1 2 (.q 2 2 (.q 3 2 (.q 4 1 (.q 5 2 (.q 6 2 (.q 7 2 (.q 8 1 (.op 9 (.op 10 (.q 11 3 (.q 12 2 (.op 13 .nil)))))))))))))) [9, 10, 13] k_1 (.c (.kk .e) (.c (.k .z) (.c (.z) .l))) (by kernel_rfl) (fun _ => ?_)
   refine MXz 4 2 (.n 11 (pt g_n 0) (.n 14 (pt g_n 33) (.s .a))) (fun x hx => qs g_n 0 <| qs g_n 0 <| qe) fun _ => ?_
   refine MXz 1 1 (.n 15 (sl A0 n0.length c0) (.k (.s .a))) (fun x hx => qB hx 0 rfl 33 (sl A0 n0.length c0) (by kernel_rfl) <| qe) fun _ => ?_
   obtain ⟨x_0, zh0, hm⟩ := ob hm
   refine MXz 3 2 (.n 18 (.v (.pointer (ixA A_b i 1))) .a) (fun x hx => qJ (h_b.cx hx) zh0 rfl <| qe) fun _ => ?_
   refine MXz 1 1 (.n 19 (.u8 x_0) (.s .a)) (fun x hx => qC (.u8 x_0) (Rd.el (k := 0) (h_b.cx hx) zh0 (Pt.ix1 A_b i 1) rfl) <| qe) fun _ => ?_
   refine MX_op (by kernel_rfl) rfl <| Op_mk mr_tf33 e8 [] 20 ([x_0] : List UInt8) [(0, .u8 x_0)] [.u8 x_0] (by kernel_rfl) (by kernel_rfl) (by kernel_rfl) k_1 ?_
   intro A1 w_1 k_2
   refine ⟨(k_2.sel (.kk .z)), fun _ => ?_⟩
   refine MX_op (by kernel_rfl) rfl ?_
   obtain ⟨b1, h_b1, hm⟩ := ob hm
   obtain ⟨hz, hl⟩ := app_some h_b1
   refine Op_append (E := e8) (v := sl A1 1 1) (ys := ([x_0] : List UInt8)) mr_tf33 [] 21 1 (by kernel_rfl) k_2 rfl (Src.sl (k_2.rd 2 rfl) (k_2.len 2 rfl) (by rfl)) (k_2.len 2 rfl) (by have := k_2.len 1 rfl; have := (k_2.len 2 rfl); omega) ?_
   intro A2 c1 w_2 k_3
   rw [← hl] at k_3
   have k_4 := k_3.sel (.kk .z)
   refine ⟨(k_4.sel (.k .z)), fun _ => ?_⟩
   refine MXz 1 3 (.n 22 (pt g_n 0) (.k (.ssss .a))) (fun x hx => qs g_n 0 <| qe) fun _ => ?_
   refine MXz 1 2 (.n 23 (pt g_n 33) (.s .a)) (fun x hx => qs g_n 0 <| qe) fun _ => ?_
   refine MX_op (by kernel_rfl) rfl <| Op_bz 0 (sl A2 (n0.length + 1) c1) [sl A2 (n0.length + 1) c1] (Pt.at g_n 33) k_4 rfl (.kkkk (.kkkk (.kkkk (.kkkk (.kk .h))))) ?_
   intro w_3 k_5
   refine ⟨(k_5.sel .z), fun _ => ?_⟩
   refine MX_nil <| At_in <| At_go <| W_q [] (.n 4 (I (w64 (i + 1))) (.ss (.kk .z))) qe (by kernel_rfl) ?_
   exact At_rd (b1, w64 (i + 1)) (Option.some.inj hm).symm ⟨b1, w64 (i + 1), A2, n0.length + 1, c1, rfl, rfl, k_5.len 1 rfl, k_5⟩ (by kernel_rfl)
 rw [if_neg hc] at hm
 refine W_exit (At_te (At_te (At_ie ?_)))
 have hm := exit_of hm hr0
 refine At_go <| W_reg <| Wl 11 (.n 32 (.u64 (n_Count + (UInt64.ofInt (b.length : Int)))) (.n 34 (pt g_n 34) .z)) (qs g_n 0 <| qs g_n 0 <| qB k_ 0 rfl 34 (.u64 n_Count) (by kernel_rfl) <| qs g_n 0 <| qs g_n 0 <| qe) ?_
 refine WL_op <| Op_bz 0 (.u64 (n_Count + (UInt64.ofInt (b.length : Int)))) [.u64 (n_Count + (UInt64.ofInt (b.length : Int)))] (Pt.at g_n 34) k_ rfl (.kkkk (.kkkk (.kkkk (.kkkk (.kk (.k .h)))))) ?_
 intro w_4 k_6
 refine WL_nil ?_
 obtain rfl := si hm
 refine At_en [] qe (by kernel_rfl) ?_
 exact ⟨A0, n0.length, c0, k_6.len 1 rfl, rfl, k_6⟩
theorem c_r02_Size (kind : Int) (k : Cx F O w w []) (r : Int) (hm : m_r02_Size kind = some r) :
    Calls Tryz.prog 105 (vals [I kind]) w (fun e w' => e = .returned (SV.val (I r)) ∧ Cx F O w w' []) := by
 unfold m_r02_Size at hm
 refine calz [I kind] Tryz.func105 rfl ?_
 refine Wz .a ?_
 refine W_seq <| W_reg <| We 1 (.n 3 (I kind) .z) ?_
 refine WL_op ?_
 obtain ⟨r_, h_r_, hm⟩ := ob hm
 refine Op_cz 4 mr_go21 (c_r02_Most (F := N0) (O := N0) _ (Cx.refl _) _ h_r_) ?_
 rintro e_ w_ ⟨rfl, k_⟩
 have k_1 := k.call k_
 refine ⟨I r_, rfl, ?_⟩
 refine We 1 (.n 2 (I r_) .z) ?_
 refine Wn <| W_ret ?_
 obtain rfl := si hm
 refine At_rz [I r_] qe ?_
 exact ⟨rfl, k_1⟩
theorem c_r02_place (kind : Int) (field : Int) (k : Cx F O w w []) (r : (Int × Int)) (hm : m_r02_place kind field = some r) :
    Calls Tryz.prog 106 (vals [I kind, I field]) w (fun e w' => e = .returned (SV.val (.tup [I r.1, I r.2])) ∧ Cx F O w w' []) := by
 unfold m_r02_place at hm
 refine calz [I kind, I field] Tryz.func106 rfl ?_
 refine Wz .a ?_
 refine Wz (.n 6 (.b (decide (kind = 1))) (.s .a)) ?_
 refine W_seq <| W_block <| Wz (.n 9 (.b ((decide (1 ≤ field)) && (decide (field ≤ 4)))) .a) ?_
 refine W_cz ((decide (1 ≤ field)) && (decide (field ≤ 4))) (fun hc => ?_) fun hc => ?_
 · rw [if_pos hc] at hm
   refine Wz (.n 4 (I (w64 (field - 1))) (.n 5 (I 1) .z)) ?_
   refine W_ret (At_ir (At_tr ?_))
   obtain rfl := si hm
   refine At_rz [I (w64 (field - 1)), I 1] qe ?_
   exact ⟨rfl, k⟩
 rw [if_neg (by rw [hc]; decide)] at hm
 refine Wz (.n 18 (.b (decide (field = 5))) (.s .a)) ?_
 refine W_pz (field = 5) (fun hc1 => ?_) fun hc1 => ?_
 · rw [if_pos hc1] at hm
   refine Wz (.n 4 (I 4) (.n 5 (I 4) .z)) ?_
   refine W_ret (At_ir (At_tr ?_))
   obtain rfl := si hm
   refine At_rz [I 4, I 4] qe ?_
   exact ⟨rfl, k⟩
 rw [if_neg hc1] at hm
 refine Wz (.n 21 (.b ((decide (field = 6)) && (decide (kind = 1)))) (.s .a)) ?_
 refine W_cz ((decide (field = 6)) && (decide (kind = 1))) (fun hc2 => ?_) fun hc2 => ?_
 · rw [if_pos hc2] at hm
   refine Wz (.n 4 (I 8) (.n 5 (I 8) .z)) ?_
   refine W_ret (At_ir (At_tr ?_))
   obtain rfl := si hm
   refine At_rz [I 8, I 8] qe ?_
   exact ⟨rfl, k⟩
 rw [if_neg (by rw [hc2]; decide)] at hm
 refine Wz (.n 27 (.b (decide (field = 6))) (.s .a)) ?_
 refine W_pz (field = 6) (fun hc3 => ?_) fun hc3 => ?_
 · rw [if_pos hc3] at hm
   refine Wz (.n 4 (I 8) (.n 5 (I 6) .z)) ?_
   refine W_ret (At_ir (At_tr ?_))
   obtain rfl := si hm
   refine At_rz [I 8, I 6] qe ?_
   exact ⟨rfl, k⟩
 rw [if_neg hc3] at hm
 refine Wz (.n 30 (.b ((decide (field = 7)) && (decide (kind = 1)))) (.s .a)) ?_
 refine W_cz ((decide (field = 7)) && (decide (kind = 1))) (fun hc4 => ?_) fun hc4 => ?_
 · rw [if_pos hc4] at hm
   refine Wz (.n 4 (I 12) (.n 5 (I 4) .z)) ?_
   refine W_ret (At_ir (At_tr ?_))
   obtain rfl := si hm
   refine At_rz [I 12, I 4] qe ?_
   exact ⟨rfl, k⟩
 rw [if_neg (by rw [hc4]; decide)] at hm
 refine Wz (.n 36 (.b (decide (field = 7))) (.s .a)) ?_
 refine W_pz (field = 7) (fun hc5 => ?_) fun hc5 => ?_
 · rw [if_pos hc5] at hm
   refine Wz (.n 4 (I 12) (.n 5 (I 2) .z)) ?_
   refine W_ret (At_ir (At_tr ?_))
   obtain rfl := si hm
   refine At_rz [I 12, I 2] qe ?_
   exact ⟨rfl, k⟩
 rw [if_neg hc5] at hm
 refine Wz (.n 39 (.b ((decide (field = 8)) && (decide (kind = 1)))) (.s .a)) ?_
 refine W_cz ((decide (field = 8)) && (decide (kind = 1))) (fun hc6 => ?_) fun hc6 => ?_
 · rw [if_pos hc6] at hm
   refine Wz (.n 4 (I 16) (.n 5 (I 1) .z)) ?_
   refine W_ret (At_ir (At_tr ?_))
   obtain rfl := si hm
   refine At_rz [I 16, I 1] qe ?_
   exact ⟨rfl, k⟩
 rw [if_neg (by rw [hc6]; decide)] at hm
 refine Wz (.n 45 (.b (decide (field = 8))) (.s .a)) ?_
 refine W_pz (field = 8) (fun hc7 => ?_) fun hc7 => ?_
 · rw [if_pos hc7] at hm
   refine Wz (.n 4 (I 14) (.n 5 (I 1) .z)) ?_
   refine W_ret (At_ir (At_tr ?_))
   obtain rfl := si hm
   refine At_rz [I 14, I 1] qe ?_
   exact ⟨rfl, k⟩
 rw [if_neg hc7] at hm
 refine Wz (.n 48 (.b ((decide (field = 9)) && (decide (kind = 1)))) (.ss .a)) ?_
 refine W_cz ((decide (field = 9)) && (decide (kind = 1))) (fun hc8 => ?_) fun hc8 => ?_
 · rw [if_pos hc8] at hm
   refine Wz (.n 4 (I 17) (.n 5 (I 1) .z)) ?_
   refine W_ret (At_ir (At_tr ?_))
   obtain rfl := si hm
   refine At_rz [I 17, I 1] qe ?_
   exact ⟨rfl, k⟩
 rw [if_neg (by rw [hc8]; decide)] at hm
 refine Wz (.n 54 (.b (decide (field = 9))) .z) ?_
 refine W_pz (field = 9) (fun hc9 => ?_) fun hc9 => ?_
 · rw [if_pos hc9] at hm
   refine Wz (.n 4 (I 15) (.n 5 (I 1) .z)) ?_
   refine W_ret (At_ir (At_tr ?_))
   obtain rfl := si hm
   refine At_rz [I 15, I 1] qe ?_
   exact ⟨rfl, k⟩
 rw [if_neg hc9] at hm
 refine W_skip <| At_in <| At_go <| Wz (.n 4 (I 0) (.n 5 (I 0) .z)) ?_
 refine W_ret ?_
 obtain rfl := si hm
 refine At_rz [I 0, I 0] qe ?_
 exact ⟨rfl, k⟩
theorem c_r02_lay (b : List UInt8) (at_ : Int) (n : Int) (v : UInt64) (A_b : Option Addr) (n_b : Nat) (c_b : Nat) (G_b : Win) (hc_b : n_b ≤ c_b) (k : Cx F O w w [Mw e8 A_b n_b b G_b]) (r : (List UInt8)) (hm : m_r02_lay b at_ n v = some r) :
    Calls Tryz.prog 107 (vals [sl A_b n_b c_b, I at_, I n, .u64 v]) w (fun e w' => e = .returned (SV.val (.tup [])) ∧ Cx F O w w' [Mw e8 A_b n_b r G_b]) := by
 unfold m_r02_lay at hm
 obtain rfl := k.mlen 0 rfl
 refine calz [sl A_b b.length c_b, I at_, I n, .u64 v] Tryz.func107 rfl ?_
 refine Wz (.n 8 (I 0) .a) ?_
 refine W_block <| W_lp (m_r02_lay_l0 at_ n v) (fun s L wr => ∃ (b1 : List UInt8) (i : Int), (b1, i) = s ∧ L = [(0, sl A_b b.length c_b), (1, I at_), (2, I n), (3, .u64 v), (8, I i)] ∧ Cx F O w wr [Mw e8 A_b b.length b1 G_b]) (b, (0 : Int)) r hm ⟨b, (0 : Int), rfl, rfl, k⟩ (by kernel_rfl) ?_
 intro s0_ L_ w_ y0 hrel hstep hr0
 obtain ⟨b1, i, rfl, rfl, k_⟩ := hrel
 have hm := hstep; simp only [m_r02_lay_l0] at hm
 clear hstep
 refine W_seq <| Wz (.n 11 (.b (decide (i < n))) .a) ?_
 refine W_pz (i < n) (fun hc => ?_) fun hc => ?_
 · rw [if_pos hc] at hm
   refine W_skip <| At_go <| W_seq <| W_block <| W_reg ?_
   obtain ⟨x_0, zh0, hm⟩ := ob hm
   refine Wl 11 (.n 23 (.u8 (UInt8.ofNat (shr64 v (((8 : UInt64) * (UInt64.ofInt i)).toNat)).toNat)) (.n 24 (.v (.pointer (ixA A_b (w64 (at_ + i)) 1))) (.s .a))) (qJ (k_.mrd 0 rfl) zh0 (k_.mlen 0 rfl) <| qe) ?_
   refine WL_op <| Op_mst (E := e8) (kk := 0) (sv := .u8 (UInt8.ofNat (shr64 v (((8 : UInt64) * (UInt64.ofInt i)).toNat)).toNat)) (svs := [.u8 (UInt8.ofNat (shr64 v (((8 : UInt64) * (UInt64.ofInt i)).toNat)).toNat)]) [] 0 (UInt8.ofNat (shr64 v (((8 : UInt64) * (UInt64.ofInt i)).toNat)).toNat) (by kernel_rfl) (Pt.ix1 A_b (w64 (at_ + i)) 1) k_ rfl (geti_some zh0).2 (E_ix (E := e8) (k_.mrd 0 rfl) (by decide) (geti_lt zh0).1 (geti_some zh0).2) rfl (Nat.le_of_ble_eq_true (by kernel_rfl)) ?_
   intro w_1 k_1
   refine WL_nil <| At_in <| At_go <| W_q [] (.n 8 (I (w64 (i + 1))) (.ss (.kkkk .z))) qe (by kernel_rfl) ?_
   exact At_rd (b1.set (Int.toNat (w64 (at_ + i))) (UInt8.ofNat (shr64 v (((8 : UInt64) * (UInt64.ofInt i)).toNat)).toNat), w64 (i + 1)) (Option.some.inj hm).symm ⟨b1.set (Int.toNat (w64 (at_ + i))) (UInt8.ofNat (shr64 v (((8 : UInt64) * (UInt64.ofInt i)).toNat)).toNat), w64 (i + 1), rfl, rfl, k_1⟩ (by kernel_rfl)
 rw [if_neg hc] at hm
 refine W_exit (At_te (At_te (At_ie ?_)))
 have hm := exit_of hm hr0
 obtain rfl := si hm
 refine At_en [] qe (by kernel_rfl) ?_
 exact ⟨rfl, k_⟩
theorem c_r02_Encode (kind : Int) (p_Digest : Int) (p_Key : Int) (p_Fanout : Int) (p_Depth : Int) (p_Leaf : UInt32) (p_Offset : UInt64) (p_Xof : UInt32) (p_NodeDepth : Int) (p_Inner : Int) (p_Salt : List UInt8) (p_Personal : List UInt8) (A_p_Salt : Option Addr) (n_p_Salt : Nat) (c_p_Salt : Nat) (A_p_Personal : Option Addr) (n_p_Personal : Nat) (c_p_Personal : Nat) (h_p_Salt : Ro F w A_p_Salt (e8.all p_Salt)) (hn_p_Salt : p_Salt.length = n_p_Salt) (hc_p_Salt : n_p_Salt ≤ c_p_Salt) (h_p_Personal : Ro F w A_p_Personal (e8.all p_Personal)) (hn_p_Personal : p_Personal.length = n_p_Personal) (hc_p_Personal : n_p_Personal ≤ c_p_Personal) (k : Cx F O w w []) (r : (List UInt8 × Int)) (hm : m_r02_Encode kind p_Digest p_Key p_Fanout p_Depth p_Leaf p_Offset p_Xof p_NodeDepth p_Inner p_Salt p_Personal = some r) :
    Calls Tryz.prog 89 (vals [I kind, .agg [I p_Digest, I p_Key, I p_Fanout, I p_Depth, .u32 p_Leaf, .u64 p_Offset, .u32 p_Xof, I p_NodeDepth, I p_Inner, sl A_p_Salt n_p_Salt c_p_Salt, sl A_p_Personal n_p_Personal c_p_Personal]]) w (fun e w' => ∃ A n c, r.1.length = n ∧ e = .returned (SV.val (.tup [sl A n c, I r.2])) ∧ Cx F O w w' [Ow e8 A n c r.1]) := by
 unfold m_r02_Encode at hm
 subst hn_p_Salt
 subst hn_p_Personal
 refine calz [I kind, .agg [I p_Digest, I p_Key, I p_Fanout, I p_Depth, .u32 p_Leaf, .u64 p_Offset, .u32 p_Xof, I p_NodeDepth, I p_Inner, sl A_p_Salt p_Salt.length c_p_Salt, sl A_p_Personal p_Personal.length c_p_Personal]] Tryz.func89 rfl ?_
 refine W_seq <| W_reg <| WL_op <| Op_box [] 3 (.agg [I p_Digest, I p_Key, I p_Fanout, I p_Depth, .u32 p_Leaf, .u64 p_Offset, .u32 p_Xof, I p_NodeDepth, I p_Inner, sl A_p_Salt p_Salt.length c_p_Salt, sl A_p_Personal p_Personal.length c_p_Personal]) [I p_Digest, I p_Key, I p_Fanout, I p_Depth, .u32 p_Leaf, .u64 p_Offset, .u32 p_Xof, I p_NodeDepth, I p_Inner, sl A_p_Salt p_Salt.length c_p_Salt, sl A_p_Personal p_Personal.length c_p_Personal] (by kernel_rfl) k ?_
 intro g w_ k_
 refine We 2 (.kk .z) ?_
 refine Wn <| W_seq <| W_reg <| Wl 2 (.n 15 (I kind) (.n 16 (.agg [I p_Digest, I p_Key, I p_Fanout, I p_Depth, .u32 p_Leaf, .u64 p_Offset, .u32 p_Xof, I p_NodeDepth, I p_Inner, sl A_p_Salt p_Salt.length c_p_Salt, sl A_p_Personal p_Personal.length c_p_Personal]) .a)) (qT k_ 0 rfl 0 11 [I p_Digest, I p_Key, I p_Fanout, I p_Depth, .u32 p_Leaf, .u64 p_Offset, .u32 p_Xof, I p_NodeDepth, I p_Inner, sl A_p_Salt p_Salt.length c_p_Salt, sl A_p_Personal p_Personal.length c_p_Personal] (by kernel_rfl) (by decide) <| qe) ?_
 refine WL_op ?_
 obtain ⟨r_, h_r_, hm⟩ := ob hm
 refine Op_cz 17 mr_go38 (c_r02_Check (F := N0) (O := N0) _ _ _ _ _ _ _ _ _ _ _ _ _ _ _ _ _ _ (Ro.n0 (h_p_Salt.cx k_)) rfl hc_p_Salt (Ro.n0 (h_p_Personal.cx k_)) rfl hc_p_Personal (Cx.refl _) _ h_r_) ?_
 rintro e_ w_1 ⟨rfl, k_1⟩
 have k_2 := k_.call k_1
 refine ⟨I r_, rfl, ?_⟩
 refine We 1 (.n 6 (I r_) (.sss .a)) ?_
 refine Wn <| W_seq <| Wz (.n 19 (.b (decide (r_ ≠ 0))) .a) ?_
 refine W_pz (r_ ≠ 0) (fun hc => ?_) fun hc => ?_
 · rw [if_pos hc] at hm
   refine Wz (.n 4 (sl none 0 0) (.n 5 (I r_) .z)) ?_
   refine W_ret (At_tr ?_)
   have k_3 := k_2.nil e8
   obtain rfl := si hm
   refine At_rz [sl none 0 0, I r_] qe ?_
   have k_4 := k_3.sel (.s (.k .e))
   exact ⟨none, 0, 0, k_4.len 0 rfl, rfl, k_4⟩
 rw [if_neg hc] at hm
 refine W_skip <| At_go <| W_seq <| W_reg <| We 1 (.n 21 (I kind) (.ss .a)) ?_
 refine WL_op ?_
 obtain ⟨r_1, h_r_1, hm⟩ := ob hm
 refine Op_cz 22 mr_go105 (c_r02_Size (F := N0) (O := N0) _ (Cx.refl _) _ h_r_1) ?_
 rintro e_ w_2 ⟨rfl, k_5⟩
 have k_6 := k_2.call k_5
 refine ⟨I r_1, rfl, ?_⟩
 refine WL_op ?_
 obtain ⟨u, h_u, hm⟩ := ob hm
 refine Op_make mr_tf33 e8 (0 : UInt8) rfl [] 23 (I r_1) (I r_1) r_1 r_1 (by kernel_rfl) (need_some h_u).1 (need_some h_u).2.1 (need_some h_u).2.2 k_6 ?_
 intro A0 w_3 k_7
 refine We 1 (.n 7 (sl A0 (Int.toNat r_1) (Int.toNat r_1)) (.sss .a)) ?_
 refine Wn <| W_seq <| W_reg <| Wl 26 (.n 26 (.u64 (UInt64.ofInt p_Digest)) (.n 29 (.u64 (UInt64.ofInt p_Key)) (.n 32 (.u64 (UInt64.ofInt p_Fanout)) (.n 35 (.u64 (UInt64.ofInt p_Depth)) (.n 38 (.u64 (UInt64.ofNat p_Leaf.toNat)) (.n 40 (.u64 p_Offset) (.n 43 (.u64 (UInt64.ofNat p_Xof.toNat)) (.n 46 (.u64 (UInt64.ofInt p_NodeDepth)) (.n 49 (.u64 (UInt64.ofInt p_Inner)) .a))))))))) (qs g 0 <| qB k_7 0 rfl 0 (I p_Digest) (by kernel_rfl) <| qs g 0 <| qB k_7 0 rfl 1 (I p_Key) (by kernel_rfl) <| qs g 0 <| qB k_7 0 rfl 2 (I p_Fanout) (by kernel_rfl) <| qs g 0 <| qB k_7 0 rfl 3 (I p_Depth) (by kernel_rfl) <| qs g 0 <| qB k_7 0 rfl 4 (.u32 p_Leaf) (by kernel_rfl) <| qs g 0 <| qB k_7 0 rfl 5 (.u64 p_Offset) (by kernel_rfl) <| qs g 0 <| qB k_7 0 rfl 6 (.u32 p_Xof) (by kernel_rfl) <| qs g 0 <| qB k_7 0 rfl 7 (I p_NodeDepth) (by kernel_rfl) <| qs g 0 <| qB k_7 0 rfl 8 (I p_Inner) (by kernel_rfl) <| qe) ?_
 refine WL_op ?_
 have k_8 := k_7.sel (.kk .e)
 refine Op_mk mr_tf179 e64 [] 50 ([UInt64.ofInt p_Digest, UInt64.ofInt p_Key, UInt64.ofInt p_Fanout, UInt64.ofInt p_Depth, UInt64.ofNat p_Leaf.toNat, p_Offset, UInt64.ofNat p_Xof.toNat, UInt64.ofInt p_NodeDepth, UInt64.ofInt p_Inner] : List UInt64) [(0, .u64 (UInt64.ofInt p_Digest)), (1, .u64 (UInt64.ofInt p_Key)), (2, .u64 (UInt64.ofInt p_Fanout)), (3, .u64 (UInt64.ofInt p_Depth)), (4, .u64 (UInt64.ofNat p_Leaf.toNat)), (5, .u64 p_Offset), (6, .u64 (UInt64.ofNat p_Xof.toNat)), (7, .u64 (UInt64.ofInt p_NodeDepth)), (8, .u64 (UInt64.ofInt p_Inner))] [.u64 (UInt64.ofInt p_Digest), .u64 (UInt64.ofInt p_Key), .u64 (UInt64.ofInt p_Fanout), .u64 (UInt64.ofInt p_Depth), .u64 (UInt64.ofNat p_Leaf.toNat), .u64 p_Offset, .u64 (UInt64.ofNat p_Xof.toNat), .u64 (UInt64.ofInt p_NodeDepth), .u64 (UInt64.ofInt p_Inner)] (by kernel_rfl) (by kernel_rfl) (by kernel_rfl) k_8 ?_
 intro A1 w_4 k_9
 refine We 1 (.n 8 (sl A1 9 9) (.ssss (.ssss (.ss .a)))) ?_
 refine Wn <| W_seq <| Wz (.n 9 (I 1) .a) ?_
 refine W_block <| W_lp (m_r02_Encode_l0 kind p_Digest p_Key p_Fanout p_Depth p_Leaf p_Offset p_Xof p_NodeDepth p_Inner p_Salt p_Personal) (fun s L wr => ∃ (b : List UInt8) (f : Int), (b, f) = s ∧ L = [(0, I kind), (3, pt g 0), (7, sl A0 (Int.toNat r_1) (Int.toNat r_1)), (8, sl A1 9 9), (9, I f)] ∧ Cx F O w wr [Bx 77 g [I p_Digest, I p_Key, I p_Fanout, I p_Depth, .u32 p_Leaf, .u64 p_Offset, .u32 p_Xof, I p_NodeDepth, I p_Inner, sl A_p_Salt p_Salt.length c_p_Salt, sl A_p_Personal p_Personal.length c_p_Personal], Ow e8 A0 (Int.toNat r_1) (Int.toNat r_1) b, Ow e64 A1 9 9 ([UInt64.ofInt p_Digest, UInt64.ofInt p_Key, UInt64.ofInt p_Fanout, UInt64.ofInt p_Depth, UInt64.ofNat p_Leaf.toNat, p_Offset, UInt64.ofNat p_Xof.toNat, UInt64.ofInt p_NodeDepth, UInt64.ofInt p_Inner] : List UInt64)]) (List.replicate (Int.toNat r_1) (0 : UInt8), (1 : Int)) r hm ⟨List.replicate (Int.toNat r_1) (0 : UInt8), (1 : Int), rfl, rfl, k_9⟩ (by kernel_rfl) ?_
 intro s0_ L_ w_5 y0 hrel hstep hr0
 obtain ⟨b, f, rfl, rfl, k_10⟩ := hrel
 have hm := hstep; simp only [m_r02_Encode_l0] at hm
 clear hstep
 refine W_seq <| Wz (.n 52 (.b (decide (f ≤ 9))) .a) ?_
 refine W_pz (f ≤ 9) (fun hc1 => ?_) fun hc1 => ?_
 · rw [if_pos hc1] at hm
   refine W_skip <| At_go <| W_cut (fun L wr => ∃ (b1 : List UInt8), m_r02_Encode_j0 f b1 = some y0 ∧ L = [(0, I kind), (3, pt g 0), (7, sl A0 (Int.toNat r_1) (Int.toNat r_1)), (8, sl A1 9 9), (9, I f)] ∧ Cx F O w wr [Bx 77 g [I p_Digest, I p_Key, I p_Fanout, I p_Depth, .u32 p_Leaf, .u64 p_Offset, .u32 p_Xof, I p_NodeDepth, I p_Inner, sl A_p_Salt p_Salt.length c_p_Salt, sl A_p_Personal p_Personal.length c_p_Personal], Ow e8 A0 (Int.toNat r_1) (Int.toNat r_1) b1, Ow e64 A1 9 9 ([UInt64.ofInt p_Digest, UInt64.ofInt p_Key, UInt64.ofInt p_Fanout, UInt64.ofInt p_Depth, UInt64.ofNat p_Leaf.toNat, p_Offset, UInt64.ofNat p_Xof.toNat, UInt64.ofInt p_NodeDepth, UInt64.ofInt p_Inner] : List UInt64)]) ?_ ?_
   ·
    refine W_cutb (fun L wr => ∃ (b2 : List UInt8), m_r02_Encode_j1 f b2 = some y0 ∧ L = [(0, I kind), (3, pt g 0), (7, sl A0 (Int.toNat r_1) (Int.toNat r_1)), (8, sl A1 9 9), (9, I f)] ∧ Cx F O w wr [Bx 77 g [I p_Digest, I p_Key, I p_Fanout, I p_Depth, .u32 p_Leaf, .u64 p_Offset, .u32 p_Xof, I p_NodeDepth, I p_Inner, sl A_p_Salt p_Salt.length c_p_Salt, sl A_p_Personal p_Personal.length c_p_Personal], Ow e8 A0 (Int.toNat r_1) (Int.toNat r_1) b2, Ow e64 A1 9 9 ([UInt64.ofInt p_Digest, UInt64.ofInt p_Key, UInt64.ofInt p_Fanout, UInt64.ofInt p_Depth, UInt64.ofNat p_Leaf.toNat, p_Offset, UInt64.ofNat p_Xof.toNat, UInt64.ofInt p_NodeDepth, UInt64.ofInt p_Inner] : List UInt64)]) ?_ ?_
    ·
     refine W_seq <| W_seq <| Wa (.n 61 (.b ((decide (f = 7)) && (decide (p_Xof = 0)))) (.s .a)) (qp ((decide (f = 7)) = true → (some ⟨g, 0, none⟩ : Option Addr).isSome = true) (fun hg0 => rfl) <| qo (.u32 p_Xof) <| qc (fun w => (decide (f = 7)) = true → ∃ a, (some ⟨g, 6, none⟩ : Option Addr) = some a ∧ w.cell? a = some (SV.val (.u32 p_Xof))) (fun hg0 => k_10.bld 0 rfl 6 (.u32 p_Xof) (by kernel_rfl)) <| qe) ?_
     refine W_cz ((decide (f = 7)) && (decide (p_Xof = 0))) (fun hc2 => ?_) fun hc2 => ?_
     · rw [if_pos hc2] at hm
       refine W_exit (At_te (At_ie ?_))
       exact At_cz ⟨b, hm, rfl, k_10⟩
     rw [if_neg (by rw [hc2]; decide)] at hm
     refine W_skip <| At_go <| W_seq <| W_reg <| We 2 (.n 63 (I kind) (.n 64 (I f) (.s .a))) ?_
     refine WL_op ?_
     obtain ⟨r_2, h_r_2, hm⟩ := ob hm
     refine Op_cz 65 mr_go106 (c_r02_place (F := N0) (O := N0) _ _ (Cx.refl _) _ h_r_2) ?_
     rintro e_ w_6 ⟨rfl, k_11⟩
     have k_12 := k_10.call k_11
     refine ⟨.tup [I r_2.1, I r_2.2], rfl, ?_⟩
     refine We 5 (.n 10 (I r_2.1) (.n 11 (I r_2.2) (.sss .a))) ?_
     refine Wn <| W_reg ?_
     obtain ⟨x_0, zh0, hm⟩ := ob hm
     refine Wl 8 (.n 68 (sl A0 (Int.toNat r_1) (Int.toNat r_1)) (.n 69 (I r_2.1) (.n 70 (I r_2.2) (.n 75 (.u64 x_0) (.ss .a))))) (qW (k_12.rd 2 rfl) zh0 (k_12.len 2 rfl) (.u64 x_0) rfl <| qe) ?_
     refine WL_op ?_
     obtain ⟨G, hG, k_13⟩ := k_12.openM 1 rfl
     obtain ⟨r_3, h_r_3, hm⟩ := ob hm
     obtain ⟨F1, O1, kin, hO, hre, hF, hb⟩ := k_13.go (.r (.i (.r .e)))
     refine Op_cz 76 mr_go107 (c_r02_lay (F := F1) (O := O1) _ _ _ _ _ _ _ _ (k_12.lec 1 rfl) kin _ h_r_3) ?_
     rintro e_ w_7 ⟨rfl, k_14⟩
     have k_15 := hb w_7 _ _ k_14 (.c .n)
     refine ⟨.tup [], rfl, ?_⟩
     have k_16 := k_15.shutM hG 0 rfl
     refine WL_nil <| At_in ?_
     have k_17 := ((k_16.pk (.t (.t .h))).pk (.t .h)).pk (.t (.t .h))
     exact At_cz ⟨r_3, hm, rfl, k_17⟩
    rintro L_ w_8 ⟨b2, hm, rfl, k_18⟩
    simp only [m_r02_Encode_j1] at hm
    exact At_cz ⟨b2, hm, rfl, k_18⟩
   rintro L_ w_9 ⟨b1, hm, rfl, k_19⟩
   simp only [m_r02_Encode_j0] at hm
   refine W_q [] (.n 9 (I (w64 (f + 1))) (.kkkk .z)) qe (by kernel_rfl) ?_
   exact At_rd (b1, w64 (f + 1)) (Option.some.inj hm).symm ⟨b1, w64 (f + 1), rfl, rfl, k_19⟩ (by kernel_rfl)
 rw [if_neg hc1] at hm
 refine W_exit (At_te (At_te (At_ie ?_)))
 have hm := exit_of hm hr0
 refine At_go <| W_seq <| W_reg <| We 1 (.n 77 (I kind) (.ss (.kk .z))) ?_
 refine WL_op ?_
 obtain ⟨r_4, h_r_4, hm⟩ := ob hm
 refine Op_cz 78 mr_go21 (c_r02_Most (F := N0) (O := N0) _ (Cx.refl _) _ h_r_4) ?_
 rintro e_ w_10 ⟨rfl, k_20⟩
 have k_21 := k_10.call k_20
 refine ⟨I r_4, rfl, ?_⟩
 have k_22 := k_21.sel (.kk .z)
 refine Wl 2 (.n 12 (I (w64 (Int.tdiv r_4 4))) (.ss .a)) (qp ((4 : Int) ≠ (0 : Int)) (by omega) <| qe) ?_
 refine Wn <| W_seq <| Wz (.n 13 (I 0) .a) ?_
 refine W_block <| W_lp (m_r02_Encode_l1 p_Salt p_Personal r_4) (fun s L wr => ∃ (b3 : List UInt8) (i : Int), (b3, i) = s ∧ L = [(3, pt g 0), (7, sl A0 (Int.toNat r_1) (Int.toNat r_1)), (12, I (w64 (Int.tdiv r_4 4))), (13, I i)] ∧ Cx F O w wr [Bx 77 g [I p_Digest, I p_Key, I p_Fanout, I p_Depth, .u32 p_Leaf, .u64 p_Offset, .u32 p_Xof, I p_NodeDepth, I p_Inner, sl A_p_Salt p_Salt.length c_p_Salt, sl A_p_Personal p_Personal.length c_p_Personal], Ow e8 A0 (Int.toNat r_1) (Int.toNat r_1) b3]) (b, (0 : Int)) r hm ⟨b, (0 : Int), rfl, rfl, k_22⟩ (by kernel_rfl) ?_
 intro s0_ L_ w_11 y0 hrel hstep hr0
 obtain ⟨b3, i, rfl, rfl, k_23⟩ := hrel
 have hm := hstep; simp only [m_r02_Encode_l1] at hm
 clear hstep
 refine W_seq <| W_seq <| Wa (.n 84 (.b (decide (i < (p_Salt.length : Int)))) .a) (qs g 0 <| qB k_23 0 rfl 9 (sl A_p_Salt p_Salt.length c_p_Salt) (by kernel_rfl) <| qe) ?_
 refine W_pz (i < (p_Salt.length : Int)) (fun hc3 => ?_) fun hc3 => ?_
 · rw [if_pos hc3] at hm
   refine W_skip <| At_go <| W_seq <| W_block <| W_reg ?_
   obtain ⟨x_2, zh2, hm⟩ := ob hm
   obtain ⟨x_3, zh3, hm⟩ := ob hm
   refine Wl 11 (.n 96 (.u8 x_2) (.n 97 (.v (.pointer (ixA A0 (w64 ((w64 (2 * (w64 (Int.tdiv r_4 4)))) + i)) 1))) (.s .a))) (qs g 0 <| qB k_23 0 rfl 9 (sl A_p_Salt p_Salt.length c_p_Salt) (by kernel_rfl) <| qW (h_p_Salt.cx k_23) zh2 rfl (.u8 x_2) rfl <| qJ (k_23.rd 1 rfl) zh3 (k_23.len 1 rfl) <| qe) ?_
   refine WL_op <| Op_ost (E := e8) (kk := 0) (sv := .u8 x_2) (svs := [.u8 x_2]) [] 1 x_2 (by kernel_rfl) (Pt.ix1 A0 (w64 ((w64 (2 * (w64 (Int.tdiv r_4 4)))) + i)) 1) k_23 rfl (geti_some zh3).2 (E_ix (E := e8) (k_23.rd 1 rfl) (by decide) (geti_lt zh3).1 (geti_some zh3).2) rfl (Nat.le_of_ble_eq_true (by kernel_rfl)) ?_
   intro w_12 k_24
   refine WL_nil <| At_in <| At_go <| W_q [] (.n 13 (I (w64 (i + 1))) (.ss (.kkk .z))) qe (by kernel_rfl) ?_
   exact At_rd (b3.set (Int.toNat (w64 ((w64 (2 * (w64 (Int.tdiv r_4 4)))) + i))) x_2, w64 (i + 1)) (Option.some.inj hm).symm ⟨b3.set (Int.toNat (w64 ((w64 (2 * (w64 (Int.tdiv r_4 4)))) + i))) x_2, w64 (i + 1), rfl, rfl, k_24⟩ (by kernel_rfl)
 rw [if_neg hc3] at hm
 refine W_exit (At_te (At_te (At_ie ?_)))
 have hm := exit_of hm hr0
 refine At_go <| W_seq <| Wz (.n 14 (I 0) (.s (.kkk .z))) ?_
 refine W_block <| W_lp (m_r02_Encode_l2 p_Personal r_4) (fun s L wr => ∃ (b4 : List UInt8) (i1 : Int), (b4, i1) = s ∧ L = [(3, pt g 0), (7, sl A0 (Int.toNat r_1) (Int.toNat r_1)), (12, I (w64 (Int.tdiv r_4 4))), (14, I i1)] ∧ Cx F O w wr [Bx 77 g [I p_Digest, I p_Key, I p_Fanout, I p_Depth, .u32 p_Leaf, .u64 p_Offset, .u32 p_Xof, I p_NodeDepth, I p_Inner, sl A_p_Salt p_Salt.length c_p_Salt, sl A_p_Personal p_Personal.length c_p_Personal], Ow e8 A0 (Int.toNat r_1) (Int.toNat r_1) b4]) (b3, (0 : Int)) r hm ⟨b3, (0 : Int), rfl, rfl, k_23⟩ (by kernel_rfl) ?_
 intro s0_ L_ w_13 y0 hrel hstep hr0
 obtain ⟨b4, i1, rfl, rfl, k_25⟩ := hrel
 have hm := hstep; simp only [m_r02_Encode_l2] at hm
 clear hstep
 refine W_seq <| W_seq <| Wa (.n 102 (.b (decide (i1 < (p_Personal.length : Int)))) .a) (qs g 0 <| qB k_25 0 rfl 10 (sl A_p_Personal p_Personal.length c_p_Personal) (by kernel_rfl) <| qe) ?_
 refine W_pz (i1 < (p_Personal.length : Int)) (fun hc4 => ?_) fun hc4 => ?_
 · rw [if_pos hc4] at hm
   refine W_skip <| At_go <| W_seq <| W_block <| W_reg ?_
   obtain ⟨x_4, zh4, hm⟩ := ob hm
   obtain ⟨x_5, zh5, hm⟩ := ob hm
   refine Wl 11 (.n 114 (.u8 x_4) (.n 115 (.v (.pointer (ixA A0 (w64 ((w64 (3 * (w64 (Int.tdiv r_4 4)))) + i1)) 1))) (.s .a))) (qs g 0 <| qB k_25 0 rfl 10 (sl A_p_Personal p_Personal.length c_p_Personal) (by kernel_rfl) <| qW (h_p_Personal.cx k_25) zh4 rfl (.u8 x_4) rfl <| qJ (k_25.rd 1 rfl) zh5 (k_25.len 1 rfl) <| qe) ?_
   refine WL_op <| Op_ost (E := e8) (kk := 0) (sv := .u8 x_4) (svs := [.u8 x_4]) [] 1 x_4 (by kernel_rfl) (Pt.ix1 A0 (w64 ((w64 (3 * (w64 (Int.tdiv r_4 4)))) + i1)) 1) k_25 rfl (geti_some zh5).2 (E_ix (E := e8) (k_25.rd 1 rfl) (by decide) (geti_lt zh5).1 (geti_some zh5).2) rfl (Nat.le_of_ble_eq_true (by kernel_rfl)) ?_
   intro w_14 k_26
   refine WL_nil <| At_in <| At_go <| W_q [] (.n 14 (I (w64 (i1 + 1))) (.ss (.kkk .z))) qe (by kernel_rfl) ?_
   exact At_rd (b4.set (Int.toNat (w64 ((w64 (3 * (w64 (Int.tdiv r_4 4)))) + i1))) x_4, w64 (i1 + 1)) (Option.some.inj hm).symm ⟨b4.set (Int.toNat (w64 ((w64 (3 * (w64 (Int.tdiv r_4 4)))) + i1))) x_4, w64 (i1 + 1), rfl, rfl, k_26⟩ (by kernel_rfl)
 rw [if_neg hc4] at hm
 refine W_exit (At_te (At_te (At_ie ?_)))
 have hm := exit_of hm hr0
 refine At_go <| Wz (.n 4 (sl A0 (Int.toNat r_1) (Int.toNat r_1)) (.n 5 (I 0) .z)) ?_
 refine W_ret ?_
 obtain rfl := si hm
 refine At_rz [sl A0 (Int.toNat r_1) (Int.toNat r_1), I 0] qe ?_
 have k_27 := k_25.sel (.s (.k .e))
 exact ⟨A0, Int.toNat r_1, Int.toNat r_1, k_27.len 0 rfl, rfl, k_27⟩
theorem c_r01_Load (b : List UInt8) (at_ : Int) (n : Int) (A_b : Option Addr) (n_b : Nat) (c_b : Nat) (h_b : Ro F w A_b (e8.all b)) (hn_b : b.length = n_b) (hc_b : n_b ≤ c_b) (k : Cx F O w w []) (r : (UInt64 × Int)) (hm : m_r01_Load b at_ n = some r) :
    Calls Tryz.prog 92 (vals [sl A_b n_b c_b, I at_, I n]) w (fun e w' => e = .returned (SV.val (.tup [.u64 r.1, I r.2])) ∧ Cx F O w w' []) := by
 unfold m_r01_Load at hm
 subst hn_b
 refine calz [sl A_b b.length c_b, I at_, I n] Tryz.func92 rfl ?_
 refine Wz .a ?_
 refine W_seq <| Wz (.n 11 (.b (decide (at_ < 0))) .a) ?_
 refine W_pz (at_ < 0) (fun hc => ?_) fun hc => ?_
 · rw [if_pos hc] at hm
   refine Wz (.n 6 (.u64 0) (.n 7 (I 1) .z)) ?_
   refine W_ret (At_tr ?_)
   obtain rfl := si hm
   refine At_rz [.u64 0, I 1] qe ?_
   exact ⟨rfl, k⟩
 rw [if_neg hc] at hm
 refine W_skip <| At_go <| W_seq <| Wz (.n 23 (.b ((decide ((b.length : Int) < at_)) || (decide ((w64 ((b.length : Int) - at_)) < n)))) (.s .a)) ?_
 refine W_cz ((decide ((b.length : Int) < at_)) || (decide ((w64 ((b.length : Int) - at_)) < n))) (fun hc1 => ?_) fun hc1 => ?_
 · rw [if_pos hc1] at hm
   refine Wz (.n 6 (.u64 0) (.n 7 (I 3) .z)) ?_
   refine W_ret (At_tr ?_)
   obtain rfl := si hm
   refine At_rz [.u64 0, I 3] qe ?_
   exact ⟨rfl, k⟩
 rw [if_neg (by rw [hc1]; decide)] at hm
 refine W_skip <| At_go <| Wz (.n 8 (.u64 0) (.s .a)) ?_
 refine W_seq <| Wz (.n 9 (I (w64 (n - 1))) (.kkk .z)) ?_
 refine W_block <| W_lp (m_r01_Load_l0 b at_) (fun s L wr => ∃ (w_ : UInt64) (i : Int), (w_, i) = s ∧ L = [(0, sl A_b b.length c_b), (1, I at_), (8, .u64 w_), (9, I i)] ∧ Cx F O w wr []) ((0 : UInt64), w64 (n - 1)) r hm ⟨(0 : UInt64), w64 (n - 1), rfl, rfl, k⟩ (by kernel_rfl) ?_
 intro s0_ L_ w_1 y0 hrel hstep hr0
 obtain ⟨w_, i, rfl, rfl, k_⟩ := hrel
 have hm := hstep; simp only [m_r01_Load_l0] at hm
 clear hstep
 refine W_seq <| Wz (.n 27 (.b (decide (0 ≤ i))) .a) ?_
 refine W_pz (0 ≤ i) (fun hc2 => ?_) fun hc2 => ?_
 · rw [if_pos hc2] at hm
   refine W_skip <| At_go <| W_seq <| W_block ?_
   obtain ⟨x_0, zh0, hm⟩ := ob hm
   refine W_q [] (.n 8 (.u64 ((w_ * 256) + (UInt64.ofNat x_0.toNat))) (.s (.kk (.s .a)))) (qW (h_b.cx k_) zh0 rfl (.u8 x_0) rfl <| qe) (by kernel_rfl) ?_
   refine At_in <| At_go <| W_q [] (.n 9 (I (w64 (i - 1))) (.kkk .z)) qe (by kernel_rfl) ?_
   exact At_rd ((w_ * 256) + (UInt64.ofNat x_0.toNat), w64 (i - 1)) (Option.some.inj hm).symm ⟨(w_ * 256) + (UInt64.ofNat x_0.toNat), w64 (i - 1), rfl, rfl, k_⟩ (by kernel_rfl)
 rw [if_neg hc2] at hm
 refine W_exit (At_te (At_te (At_ie ?_)))
 have hm := exit_of hm hr0
 refine At_go <| Wz (.n 6 (.u64 w_) (.n 7 (I 0) .z)) ?_
 refine W_ret ?_
 obtain rfl := si hm
 refine At_rz [.u64 w_, I 0] qe ?_
 exact ⟨rfl, k_⟩
theorem c_r03_IV (i : Int) (k : Cx F O w w []) (r : UInt64) (hm : m_r03_IV i = some r) :
    Calls Tryz.prog 108 (vals [I i]) w (fun e w' => e = .returned (SV.val (.u64 r)) ∧ Cx F O w w' []) := by
 unfold m_r03_IV at hm
 refine calz [I i] Tryz.func108 rfl ?_
 refine Wz .a ?_
 refine W_seq <| W_reg <| We 1 (.n 4 (.agg [.ar e64 (⟨[(7640891576956012808 : UInt64), (13503953896175478587 : UInt64), (4354685564936845355 : UInt64), (11912009170470909681 : UInt64), (5840696475078001361 : UInt64), (11170449401992604703 : UInt64), (2270897969802886507 : UInt64), (6620516959819538809 : UInt64)], rfl⟩ : Vec UInt64 8)]) .a) ?_
 refine WL_op <| Op_alloc [] 3 [.ar e64 (Vec.rep 8 (0 : UInt64))] (by kernel_rfl) k ?_
 intro g w_ k_
 refine WL_op <| Op_bz 0 (.agg [.ar e64 (⟨[(7640891576956012808 : UInt64), (13503953896175478587 : UInt64), (4354685564936845355 : UInt64), (11912009170470909681 : UInt64), (5840696475078001361 : UInt64), (11170449401992604703 : UInt64), (2270897969802886507 : UInt64), (6620516959819538809 : UInt64)], rfl⟩ : Vec UInt64 8)]) [.ar e64 (⟨[(7640891576956012808 : UInt64), (13503953896175478587 : UInt64), (4354685564936845355 : UInt64), (11912009170470909681 : UInt64), (5840696475078001361 : UInt64), (11170449401992604703 : UInt64), (2270897969802886507 : UInt64), (6620516959819538809 : UInt64)], rfl⟩ : Vec UInt64 8)] (Pt.at g 0) k_ rfl .all ?_
 intro w_1 k_1
 refine Wn <| W_seq ?_
 obtain ⟨x_0, zh0, hm⟩ := ob hm
 refine Wa (.n 2 (.u64 x_0) .z) (qp ((8 : Int) ≠ (0 : Int)) (by omega) <| qV (k_1.vrd 0 rfl e64 (⟨[(7640891576956012808 : UInt64), (13503953896175478587 : UInt64), (4354685564936845355 : UInt64), (11912009170470909681 : UInt64), (5840696475078001361 : UInt64), (11170449401992604703 : UInt64), (2270897969802886507 : UInt64), (6620516959819538809 : UInt64)], rfl⟩ : Vec UInt64 8) 0 (by kernel_rfl)) zh0 rfl (.u64 x_0) rfl <| qe) ?_
 refine W_ret ?_
 obtain rfl := si hm
 refine At_rz [.u64 x_0] qe ?_
 have k_2 := k_1.sel .z
 exact ⟨rfl, k_2⟩
theorem c_r03_Start (block : List UInt8) (A_block : Option Addr) (n_block : Nat) (c_block : Nat) (h_block : Ro F w A_block (e8.all block)) (hn_block : block.length = n_block) (hc_block : n_block ≤ c_block) (k : Cx F O w w []) (r : (Vec UInt64 8 × Int)) (hm : m_r03_Start block = some r) :
    Calls Tryz.prog 90 (vals [sl A_block n_block c_block]) w (fun e w' => e = .returned (SV.val (.tup [.agg [.ar e64 r.1], I r.2])) ∧ Cx F O w w' []) := by
 unfold m_r03_Start at hm
 subst hn_block
 refine calz [sl A_block block.length c_block] Tryz.func90 rfl ?_
 refine W_seq <| W_reg <| WL_op <| Op_alloc [] 2 [.ar e64 (Vec.rep 8 (0 : UInt64))] (by kernel_rfl) k ?_
 intro g w_ k_
 refine We 1 .a ?_
 refine Wn <| W_seq <| W_reg <| WL_op <| Op_alloc [] 4 [.ar e64 (Vec.rep 8 (0 : UInt64))] (by kernel_rfl) k_ ?_
 intro g1 w_1 k_1
 refine Wn <| W_seq <| Wz (.n 10 (.b (decide ((block.length : Int) ≠ 64))) .a) ?_
 refine W_pz ((block.length : Int) ≠ 64) (fun hc => ?_) fun hc => ?_
 · rw [if_pos hc] at hm
   refine W_seq <| W_reg <| Wl 1 (.n 11 (.agg [.ar e64 (Vec.rep 8 (0 : UInt64))]) (.ss (.k .z))) (qT k_1 1 rfl 0 8 [.ar e64 (Vec.rep 8 (0 : UInt64))] (by kernel_rfl) (by decide) <| qe) ?_
   refine WL_op <| Op_bz 0 (.agg [.ar e64 (Vec.rep 8 (0 : UInt64))]) [.ar e64 (Vec.rep 8 (0 : UInt64))] (Pt.at g 0) k_1 rfl .all ?_
   intro w_2 k_2
   have k_3 := k_2.sel (.k .z)
   refine We 1 (.n 3 (I 1) (.s .a)) ?_
   refine Wn <| W_ret (At_tr ?_)
   obtain rfl := si hm
   refine At_rz [.agg [.ar e64 (Vec.rep 8 (0 : UInt64))], I 1] (qo (.agg [.ar e64 (Vec.rep 8 (0 : UInt64))]) <| qc (fun w => Rd w (some ⟨g, 0, none⟩) (SV.cl [.ar e64 (Vec.rep 8 (0 : UInt64))])) (k_3.brd 0 rfl) <| qe) ?_
   have k_4 := k_3.sel .z
   exact ⟨rfl, k_4⟩
 rw [if_neg hc] at hm
 refine W_skip <| At_go <| W_seq <| Wz (.n 5 (I 0) (.s .a)) ?_
 refine W_block <| W_lp (m_r03_Start_l0 block) (fun s L wr => ∃ (h : Vec UInt64 8) (i : Int), (h, i) = s ∧ L = [(0, sl A_block block.length c_block), (2, pt g 0), (4, pt g1 0), (5, I i)] ∧ Cx F O w wr [Bx 139 g [.ar e64 (Vec.rep 8 (0 : UInt64))], Bx 139 g1 [.ar e64 h]]) ((Vec.rep 8 (0 : UInt64)), (0 : Int)) r hm ⟨(Vec.rep 8 (0 : UInt64)), (0 : Int), rfl, rfl, k_1⟩ (by kernel_rfl) ?_
 intro s0_ L_ w_3 y0 hrel hstep hr0
 obtain ⟨h, i, rfl, rfl, k_5⟩ := hrel
 have hm := hstep; simp only [m_r03_Start_l0] at hm
 clear hstep
 refine W_seq <| Wz (.n 13 (.b (decide (i < 8))) .a) ?_
 refine W_pz (i < 8) (fun hc1 => ?_) fun hc1 => ?_
 · rw [if_pos hc1] at hm
   refine W_skip <| At_go <| W_seq <| W_block <| W_seq <| W_reg <| We 3 (.n 17 (sl A_block block.length c_block) (.n 19 (I (w64 (8 * i))) (.s .a))) ?_
   refine WL_op ?_
   obtain ⟨r_, h_r_, hm⟩ := ob hm
   refine Op_cz 20 mr_go92 (c_r01_Load (F := N0) (O := N0) _ _ _ _ _ _ (Ro.n0 (h_block.cx k_5)) rfl hc_block (Cx.refl _) _ h_r_) ?_
   rintro e_ w_4 ⟨rfl, k_6⟩
   have k_7 := k_5.call k_6
   refine ⟨.tup [.u64 r_.1, I r_.2], rfl, ?_⟩
   refine We 5 (.n 6 (.u64 r_.1) (.sss .a)) ?_
   refine Wn <| W_reg <| We 2 (.n 23 (I i) (.n 24 (I i) .a)) ?_
   refine WL_op ?_
   obtain ⟨r_1, h_r_1, hm⟩ := ob hm
   refine Op_cz 25 mr_go108 (c_r03_IV (F := N0) (O := N0) _ (Cx.refl _) _ h_r_1) ?_
   rintro e_ w_5 ⟨rfl, k_8⟩
   have k_9 := k_7.call k_8
   refine ⟨.u64 r_1, rfl, ?_⟩
   obtain ⟨x_0, zh0, hm⟩ := ob hm
   refine Wl 3 (.n 27 (.u64 (r_1 ^^^ r_.1)) (.n 28 (.v (.pointer (ixA (some ⟨g1, 0, none⟩) i 1))) (.ssss .a))) (qI g1 0 zh0 <| qe) ?_
   refine WL_op ?_
   obtain ⟨v, h_v, hm⟩ := nm hm
   refine Op_vz 1 (.u64 (r_1 ^^^ r_.1)) [.u64 (r_1 ^^^ r_.1)] h_v zh0 (Pt.ix0 (Pt.at g1 0) i 1) k_9 rfl .h rfl ?_
   intro w_6 k_10
   refine WL_nil <| At_in <| At_go <| W_q [] (.n 5 (I (w64 (i + 1))) (.ss (.kkk .z))) qe (by kernel_rfl) ?_
   exact At_rd (v, w64 (i + 1)) (Option.some.inj hm).symm ⟨v, w64 (i + 1), rfl, rfl, k_10⟩ (by kernel_rfl)
 rw [if_neg hc1] at hm
 refine W_exit (At_te (At_te (At_ie ?_)))
 have hm := exit_of hm hr0
 refine At_go <| W_seq <| W_reg <| Wl 1 (.n 29 (.agg [.ar e64 h]) (.ss (.k .z))) (qT k_5 1 rfl 0 8 [.ar e64 h] (by kernel_rfl) (by decide) <| qe) ?_
 refine WL_op <| Op_bz 0 (.agg [.ar e64 h]) [.ar e64 h] (Pt.at g 0) k_5 rfl .all ?_
 intro w_7 k_11
 have k_12 := k_11.sel (.k .z)
 refine We 1 (.n 3 (I 0) (.s .a)) ?_
 refine Wn <| W_ret ?_
 obtain rfl := si hm
 refine At_rz [.agg [.ar e64 h], I 0] (qo (.agg [.ar e64 h]) <| qc (fun w => Rd w (some ⟨g, 0, none⟩) (SV.cl [.ar e64 h])) (k_12.brd 0 rfl) <| qe) ?_
 have k_13 := k_12.sel .z
 exact ⟨rfl, k_13⟩
theorem c_r04_IV (k : Cx F O w w []) (r : (Vec UInt32 8)) (hm : m_r04_IV = some r) :
    Calls Tryz.prog 109 (vals []) w (fun e w' => e = .returned (SV.val (.agg [.ar e32 r])) ∧ Cx F O w w' []) := by
 unfold m_r04_IV at hm
 refine calz [] Tryz.func109 rfl ?_
 refine W_seq <| W_reg <| WL_op <| Op_alloc [] 0 [.ar e32 (Vec.rep 8 (0 : UInt32))] (by kernel_rfl) k ?_
 intro g w_ k_
 refine Wn <| W_seq <| W_reg <| We 1 (.n 1 (.agg [.ar e32 (⟨[(1779033703 : UInt32), (3144134277 : UInt32), (1013904242 : UInt32), (2773480762 : UInt32), (1359893119 : UInt32), (2600822924 : UInt32), (528734635 : UInt32), (1541459225 : UInt32)], rfl⟩ : Vec UInt32 8)]) .a) ?_
 refine WL_op <| Op_bz 0 (.agg [.ar e32 (⟨[(1779033703 : UInt32), (3144134277 : UInt32), (1013904242 : UInt32), (2773480762 : UInt32), (1359893119 : UInt32), (2600822924 : UInt32), (528734635 : UInt32), (1541459225 : UInt32)], rfl⟩ : Vec UInt32 8)]) [.ar e32 (⟨[(1779033703 : UInt32), (3144134277 : UInt32), (1013904242 : UInt32), (2773480762 : UInt32), (1359893119 : UInt32), (2600822924 : UInt32), (528734635 : UInt32), (1541459225 : UInt32)], rfl⟩ : Vec UInt32 8)] (Pt.at g 0) k_ rfl .all ?_
 intro w_1 k_1
 refine Wn <| W_ret ?_
 obtain rfl := si hm
 refine At_rz [.agg [.ar e32 (⟨[(1779033703 : UInt32), (3144134277 : UInt32), (1013904242 : UInt32), (2773480762 : UInt32), (1359893119 : UInt32), (2600822924 : UInt32), (528734635 : UInt32), (1541459225 : UInt32)], rfl⟩ : Vec UInt32 8)]] (qo (.agg [.ar e32 (⟨[(1779033703 : UInt32), (3144134277 : UInt32), (1013904242 : UInt32), (2773480762 : UInt32), (1359893119 : UInt32), (2600822924 : UInt32), (528734635 : UInt32), (1541459225 : UInt32)], rfl⟩ : Vec UInt32 8)]) <| qc (fun w => Rd w (some ⟨g, 0, none⟩) (SV.cl [.ar e32 (⟨[(1779033703 : UInt32), (3144134277 : UInt32), (1013904242 : UInt32), (2773480762 : UInt32), (1359893119 : UInt32), (2600822924 : UInt32), (528734635 : UInt32), (1541459225 : UInt32)], rfl⟩ : Vec UInt32 8)])) (k_1.brd 0 rfl) <| qe) ?_
 have k_2 := k_1.sel .z
 exact ⟨rfl, k_2⟩
theorem c_r04_load (b : List UInt8) (at_ : Int) (A_b : Option Addr) (n_b : Nat) (c_b : Nat) (h_b : Ro F w A_b (e8.all b)) (hn_b : b.length = n_b) (hc_b : n_b ≤ c_b) (k : Cx F O w w []) (r : UInt32) (hm : m_r04_load b at_ = some r) :
    Calls Tryz.prog 95 (vals [sl A_b n_b c_b, I at_]) w (fun e w' => e = .returned (SV.val (.u32 r)) ∧ Cx F O w w' []) := by
 unfold m_r04_load at hm
 subst hn_b
 refine calz [sl A_b b.length c_b, I at_] Tryz.func95 rfl ?_
 refine Wz .a ?_
 refine W_seq ?_
 obtain ⟨x_0, zh0, hm⟩ := ob hm
 obtain ⟨x_1, zh1, hm⟩ := ob hm
 obtain ⟨x_2, zh2, hm⟩ := ob hm
 obtain ⟨x_3, zh3, hm⟩ := ob hm
 refine W_d mr_mixed (by kernel_rfl) (.n 4 (.u32 ((((UInt32.ofNat x_0.toNat) + (shl32 (UInt32.ofNat x_1.toNat) ((8 : UInt64).toNat))) + (shl32 (UInt32.ofNat x_2.toNat) ((16 : UInt64).toNat))) + (shl32 (UInt32.ofNat x_3.toNat) ((24 : UInt64).toNat)))) .z) (fun m => qW (h_b.cx (k.drew m)) zh0 rfl (.u8 x_0) rfl <| qW (h_b.cx (k.drew m)) zh1 rfl (.u8 x_1) rfl <| qW (h_b.cx (k.drew m)) zh2 rfl (.u8 x_2) rfl <| qW (h_b.cx (k.drew m)) zh3 rfl (.u8 x_3) rfl <| qe) (by kernel_rfl) (fun m_ => ?_)
 have k_ := k.drew m_
 refine At_go <| W_ret ?_
 obtain rfl := si hm
 refine At_rz [.u32 ((((UInt32.ofNat x_0.toNat) + (shl32 (UInt32.ofNat x_1.toNat) ((8 : UInt64).toNat))) + (shl32 (UInt32.ofNat x_2.toNat) ((16 : UInt64).toNat))) + (shl32 (UInt32.ofNat x_3.toNat) ((24 : UInt64).toNat)))] qe ?_
 exact ⟨rfl, k_⟩
theorem c_r04_Start (block : List UInt8) (A_block : Option Addr) (n_block : Nat) (c_block : Nat) (h_block : Ro F w A_block (e8.all block)) (hn_block : block.length = n_block) (hc_block : n_block ≤ c_block) (k : Cx F O w w []) (r : (Vec UInt32 8 × Int)) (hm : m_r04_Start block = some r) :
    Calls Tryz.prog 91 (vals [sl A_block n_block c_block]) w (fun e w' => e = .returned (SV.val (.tup [.agg [.ar e32 r.1], I r.2])) ∧ Cx F O w w' []) := by
 unfold m_r04_Start at hm
 subst hn_block
 refine calz [sl A_block block.length c_block] Tryz.func91 rfl ?_
 refine W_seq <| W_reg <| WL_op <| Op_alloc [] 2 [.ar e32 (Vec.rep 8 (0 : UInt32))] (by kernel_rfl) k ?_
 intro g w_ k_
 refine We 1 .a ?_
 refine Wn <| W_seq <| W_reg <| WL_op <| Op_alloc [] 4 [.ar e32 (Vec.rep 8 (0 : UInt32))] (by kernel_rfl) k_ ?_
 intro g1 w_1 k_1
 refine Wn <| W_seq <| W_block <| Wz (.n 6 (.b (decide ((block.length : Int) < 32))) .a) ?_
 refine W_pz ((block.length : Int) < 32) (fun hc => ?_) fun hc => ?_
 · rw [if_pos hc] at hm
   refine W_seq <| W_reg <| Wl 1 (.n 10 (.agg [.ar e32 (Vec.rep 8 (0 : UInt32))]) (.ss (.k .z))) (qT k_1 1 rfl 0 8 [.ar e32 (Vec.rep 8 (0 : UInt32))] (by kernel_rfl) (by decide) <| qe) ?_
   refine WL_op <| Op_bz 0 (.agg [.ar e32 (Vec.rep 8 (0 : UInt32))]) [.ar e32 (Vec.rep 8 (0 : UInt32))] (Pt.at g 0) k_1 rfl .all ?_
   intro w_2 k_2
   have k_3 := k_2.sel (.k .z)
   refine We 1 (.n 3 (I 3) (.s .a)) ?_
   refine Wn <| W_ret (At_ir (At_tr ?_))
   obtain rfl := si hm
   refine At_rz [.agg [.ar e32 (Vec.rep 8 (0 : UInt32))], I 3] (qo (.agg [.ar e32 (Vec.rep 8 (0 : UInt32))]) <| qc (fun w => Rd w (some ⟨g, 0, none⟩) (SV.cl [.ar e32 (Vec.rep 8 (0 : UInt32))])) (k_3.brd 0 rfl) <| qe) ?_
   have k_4 := k_3.sel .z
   exact ⟨rfl, k_4⟩
 rw [if_neg hc] at hm
 refine Wz (.n 11 (.b (decide (32 < (block.length : Int)))) (.s .a)) ?_
 refine W_pz (32 < (block.length : Int)) (fun hc1 => ?_) fun hc1 => ?_
 · rw [if_pos hc1] at hm
   refine W_seq <| W_reg <| Wl 1 (.n 15 (.agg [.ar e32 (Vec.rep 8 (0 : UInt32))]) (.ss (.k .z))) (qT k_1 1 rfl 0 8 [.ar e32 (Vec.rep 8 (0 : UInt32))] (by kernel_rfl) (by decide) <| qe) ?_
   refine WL_op <| Op_bz 0 (.agg [.ar e32 (Vec.rep 8 (0 : UInt32))]) [.ar e32 (Vec.rep 8 (0 : UInt32))] (Pt.at g 0) k_1 rfl .all ?_
   intro w_3 k_5
   have k_6 := k_5.sel (.k .z)
   refine We 1 (.n 3 (I 2) (.s .a)) ?_
   refine Wn <| W_ret (At_ir (At_tr ?_))
   obtain rfl := si hm
   refine At_rz [.agg [.ar e32 (Vec.rep 8 (0 : UInt32))], I 2] (qo (.agg [.ar e32 (Vec.rep 8 (0 : UInt32))]) <| qc (fun w => Rd w (some ⟨g, 0, none⟩) (SV.cl [.ar e32 (Vec.rep 8 (0 : UInt32))])) (k_6.brd 0 rfl) <| qe) ?_
   have k_7 := k_6.sel .z
   exact ⟨rfl, k_7⟩
 rw [if_neg hc1] at hm
 refine W_skip <| At_in <| At_go <| W_seq <| W_reg <| WL_op ?_
 obtain ⟨r_, h_r_, hm⟩ := ob hm
 refine Op_cz 16 mr_go109 (c_r04_IV (F := N0) (O := N0)  (Cx.refl _) _ h_r_) ?_
 rintro e_ w_4 ⟨rfl, k_8⟩
 have k_9 := k_1.call k_8
 refine ⟨.agg [.ar e32 r_], rfl, ?_⟩
 refine WL_op <| Op_bz 1 (.agg [.ar e32 r_]) [.ar e32 r_] (Pt.at g1 0) k_9 rfl .all ?_
 intro w_5 k_10
 refine Wn <| W_seq <| Wz (.n 5 (I 0) (.ss .a)) ?_
 refine W_block <| W_lp (m_r04_Start_l0 block) (fun s L wr => ∃ (h : Vec UInt32 8) (i : Int), (h, i) = s ∧ L = [(0, sl A_block block.length c_block), (2, pt g 0), (4, pt g1 0), (5, I i)] ∧ Cx F O w wr [Bx 143 g [.ar e32 (Vec.rep 8 (0 : UInt32))], Bx 143 g1 [.ar e32 h]]) (r_, (0 : Int)) r hm ⟨r_, (0 : Int), rfl, rfl, k_10⟩ (by kernel_rfl) ?_
 intro s0_ L_ w_6 y0 hrel hstep hr0
 obtain ⟨h, i, rfl, rfl, k_11⟩ := hrel
 have hm := hstep; simp only [m_r04_Start_l0] at hm
 clear hstep
 refine W_seq <| Wz (.n 18 (.b (decide (i < 8))) .a) ?_
 refine W_pz (i < 8) (fun hc2 => ?_) fun hc2 => ?_
 · rw [if_pos hc2] at hm
   refine W_skip <| At_go <| W_seq <| W_block ?_
   have k_12 := k_11.drew 1
   refine W_m mr_mixed (.q 4 0 (.q 0 1 (.q 1 1 (.q 2 1 (.q 3 1 (.q 5 1 (.q 6 0 (.op 7 (.q 8 1 (.q 9 1 (.op 10 .nil))))))))))) [7, 10] k_12 (.c (.kk .e) (.c (.k .z) .l)) (by kernel_rfl) (fun _ => ?_)
   refine MXz 1 0 (.n 25 (sl A_block block.length c_block) (.s .a)) (fun x hx => qe) fun _ => ?_
   obtain ⟨x_0, zh0, hm⟩ := ob hm
   refine MXz 5 1 (.n 21 (I i) (.n 24 (.u32 x_0) (.n 26 (I i) .a))) (fun x hx => qV (hx.vrd 1 rfl e32 h 0 (by kernel_rfl)) zh0 rfl (.u32 x_0) rfl <| qe) fun _ => ?_
   refine MXz 1 0 (.n 27 (I (w64 (4 * i))) (.kk (.s .a))) (fun x hx => qe) fun _ => ?_
   refine MX_op (by kernel_rfl) rfl ?_
   obtain ⟨r_1, h_r_1, hm⟩ := ob hm
   refine Op_cz 28 mr_go95 (c_r04_load (F := N0) (O := N0) _ _ _ _ _ (Ro.n0 (h_block.cx k_12)) rfl hc_block (Cx.refl _) _ h_r_1) ?_
   rintro e_ w_7 ⟨rfl, k_13⟩
   have k_14 := k_12.call k_13
   refine ⟨.u32 r_1, rfl, ?_⟩
   refine ⟨k_14, fun _ => ?_⟩
   obtain ⟨x_2, zh2, hm⟩ := ob hm
   refine MXz 2 1 (.n 29 (.u32 (x_0 ^^^ r_1)) (.n 30 (.v (.pointer (ixA (some ⟨g1, 0, none⟩) i 1))) (.ssss (.s .a)))) (fun x hx => qI g1 0 zh2 <| qe) fun _ => ?_
   refine MX_op (by kernel_rfl) rfl ?_
   obtain ⟨v, h_v, hm⟩ := nm hm
   refine Op_vz 1 (.u32 (x_0 ^^^ r_1)) [.u32 (x_0 ^^^ r_1)] h_v zh2 (Pt.ix0 (Pt.at g1 0) i 1) k_14 rfl .h rfl ?_
   intro w_8 k_15
   refine ⟨(k_15.sel (.k .z)), fun _ => ?_⟩
   refine MX_nil <| At_in <| At_go <| W_q [] (.n 5 (I (w64 (i + 1))) (.ss (.kkk .z))) qe (by kernel_rfl) ?_
   exact At_rd (v, w64 (i + 1)) (Option.some.inj hm).symm ⟨v, w64 (i + 1), rfl, rfl, k_15⟩ (by kernel_rfl)
 rw [if_neg hc2] at hm
 refine W_exit (At_te (At_te (At_ie ?_)))
 have hm := exit_of hm hr0
 refine At_go <| W_seq <| W_reg <| Wl 1 (.n 31 (.agg [.ar e32 h]) (.ss (.k .z))) (qT k_11 1 rfl 0 8 [.ar e32 h] (by kernel_rfl) (by decide) <| qe) ?_
 refine WL_op <| Op_bz 0 (.agg [.ar e32 h]) [.ar e32 h] (Pt.at g 0) k_11 rfl .all ?_
 intro w_9 k_16
 have k_17 := k_16.sel (.k .z)
 refine We 1 (.n 3 (I 0) (.s .a)) ?_
 refine Wn <| W_ret ?_
 obtain rfl := si hm
 refine At_rz [.agg [.ar e32 h], I 0] (qo (.agg [.ar e32 h]) <| qc (fun w => Rd w (some ⟨g, 0, none⟩) (SV.cl [.ar e32 h])) (k_17.brd 0 rfl) <| qe) ?_
 have k_18 := k_17.sel .z
 exact ⟨rfl, k_18⟩
theorem c_r05_Node_first (n_Kind : Int) (n_P_Digest : Int) (n_P_Key : Int) (n_P_Fanout : Int) (n_P_Depth : Int) (n_P_Leaf : UInt32) (n_P_Offset : UInt64) (n_P_Xof : UInt32) (n_P_NodeDepth : Int) (n_P_Inner : Int) (n_P_Salt : List UInt8) (n_P_Personal : List UInt8) (n_Key : List UInt8) (n_Last : Bool) (n_From : Vec UInt64 16) (n_Old : Bool) (n_Lo : UInt64) (n_Hi : UInt64) (n_Msg : List UInt8) (n_Count : UInt64) (g_n : Nat) (A_n_P_Salt : Option Addr) (n_n_P_Salt : Nat) (c_n_P_Salt : Nat) (A_n_P_Personal : Option Addr) (n_n_P_Personal : Nat) (c_n_P_Personal : Nat) (A_n_Key : Option Addr) (n_n_Key : Nat) (c_n_Key : Nat) (A_n_Msg : Option Addr) (n_n_Msg : Nat) (c_n_Msg : Nat) (h_n_P_Salt : Ro F w A_n_P_Salt (e8.all n_P_Salt)) (hn_n_P_Salt : n_P_Salt.length = n_n_P_Salt) (hc_n_P_Salt : n_n_P_Salt ≤ c_n_P_Salt) (h_n_P_Personal : Ro F w A_n_P_Personal (e8.all n_P_Personal)) (hn_n_P_Personal : n_P_Personal.length = n_n_P_Personal) (hc_n_P_Personal : n_n_P_Personal ≤ c_n_P_Personal) (h_n_Key : Ro F w A_n_Key (e8.all n_Key)) (hn_n_Key : n_Key.length = n_n_Key) (hc_n_Key : n_n_Key ≤ c_n_Key) (k : Cx F O w w [Bx 109 g_n [I n_Kind, I n_P_Digest, I n_P_Key, I n_P_Fanout, I n_P_Depth, .u32 n_P_Leaf, .u64 n_P_Offset, .u32 n_P_Xof, I n_P_NodeDepth, I n_P_Inner, sl A_n_P_Salt n_n_P_Salt c_n_P_Salt, sl A_n_P_Personal n_n_P_Personal c_n_P_Personal, sl A_n_Key n_n_Key c_n_Key, .b n_Last, .ar e64 n_From, .b n_Old, .u64 n_Lo, .u64 n_Hi, sl A_n_Msg n_n_Msg c_n_Msg, .u64 n_Count], Ow e8 A_n_Msg n_n_Msg c_n_Msg n_Msg]) (r : (Vec UInt64 16 × Int × Int × Int × Int × Int × UInt32 × UInt64 × UInt32 × Int × Int × Bool × Vec UInt64 16 × Bool × UInt64 × UInt64 × List UInt8 × UInt64)) (hm : m_r05_Node_first n_Kind n_P_Digest n_P_Key n_P_Fanout n_P_Depth n_P_Leaf n_P_Offset n_P_Xof n_P_NodeDepth n_P_Inner n_P_Salt n_P_Personal n_Key n_Last n_From n_Old n_Lo n_Hi n_Msg n_Count = some r) :
    Calls Tryz.prog 81 (vals [pt g_n 0]) w (fun e w' => ∃ A n c, r.2.2.2.2.2.2.2.2.2.2.2.2.2.2.2.2.1.length = n ∧ e = .returned (SV.val (.agg [.ar e64 r.1])) ∧ Cx F O w w' [Bx 109 g_n [I r.2.1, I r.2.2.1, I r.2.2.2.1, I r.2.2.2.2.1, I r.2.2.2.2.2.1, .u32 r.2.2.2.2.2.2.1, .u64 r.2.2.2.2.2.2.2.1, .u32 r.2.2.2.2.2.2.2.2.1, I r.2.2.2.2.2.2.2.2.2.1, I r.2.2.2.2.2.2.2.2.2.2.1, sl A_n_P_Salt n_n_P_Salt c_n_P_Salt, sl A_n_P_Personal n_n_P_Personal c_n_P_Personal, sl A_n_Key n_n_Key c_n_Key, .b r.2.2.2.2.2.2.2.2.2.2.2.1, .ar e64 r.2.2.2.2.2.2.2.2.2.2.2.2.1, .b r.2.2.2.2.2.2.2.2.2.2.2.2.2.1, .u64 r.2.2.2.2.2.2.2.2.2.2.2.2.2.2.1, .u64 r.2.2.2.2.2.2.2.2.2.2.2.2.2.2.2.1, sl A n c, .u64 r.2.2.2.2.2.2.2.2.2.2.2.2.2.2.2.2.2], Ow e8 A n c r.2.2.2.2.2.2.2.2.2.2.2.2.2.2.2.2.1]) := by
 unfold m_r05_Node_first at hm
 subst hn_n_P_Salt
 subst hn_n_P_Personal
 subst hn_n_Key
 obtain rfl := k.len 1 rfl
 refine calz [pt g_n 0] Tryz.func81 rfl ?_
 refine W_seq <| W_reg <| WL_op <| Op_alloc [] 2 [.ar e64 (Vec.rep 16 (0 : UInt64))] (by kernel_rfl) k ?_
 intro g w_ k_
 refine Wn <| W_seq <| W_reg <| WL_op <| Op_alloc [] 3 [.ar e64 (Vec.rep 16 (0 : UInt64))] (by kernel_rfl) k_ ?_
 intro g1 w_1 k_1
 refine Wn <| W_seq <| W_seq <| Wa (.n 15 (.b n_Old) .a) (qs g_n 0 <| qs g_n 0 <| qB k_1 0 rfl 30 (.b n_Old) (by kernel_rfl) <| qe) ?_
 refine W_cz n_Old (fun hc => ?_) fun hc => ?_
 · rw [if_pos hc] at hm
   refine W_seq <| W_reg <| Wl 4 (.n 19 (.agg [.ar e64 n_From]) (.ss (.k .z))) (qs g_n 0 <| qs g_n 0 <| qT k_1 0 rfl 14 16 [.ar e64 n_From] (by kernel_rfl) (by decide) <| qe) ?_
   refine WL_op <| Op_bz 2 (.agg [.ar e64 n_From]) [.ar e64 n_From] (Pt.at g 0) k_1 rfl .all ?_
   intro w_2 k_2
   have k_3 := k_2.sel (.kk (.k .z))
   refine Wn <| W_ret (At_tr ?_)
   obtain rfl := si hm
   refine At_rz [.agg [.ar e64 n_From]] (qo (.agg [.ar e64 n_From]) <| qc (fun w => Rd w (some ⟨g, 0, none⟩) (SV.cl [.ar e64 n_From])) (k_3.brd 2 rfl) <| qe) ?_
   have k_4 := k_3.sel (.kk .z)
   exact ⟨A_n_Msg, n_Msg.length, c_n_Msg, k_4.len 1 rfl, rfl, k_4⟩
 rw [if_neg (by rw [hc]; decide)] at hm
 refine W_skip <| At_go <| W_seq ?_
 have k_5 := k_1.drew 1
 refine W_m mr_mixed (.q 0 1 (.q 1 1 (.q 2 1 (.q 3 0 (.q 4 1 (.q 5 1 (.q 6 1 (.q 7 0 (.op 8 (.q 9 1 (.q 10 1 (.q 11 1 (.q 12 1 (.q 13 1 .nil)))))))))))))) [8] k_5 (.c (.kkkk .e) .l) (by kernel_rfl) (fun _ => ?_)
 refine MXz 3 1 (.n 23 (pt g_n 0) (.s .a)) (fun x hx => qs g_n 0 <| qs g_n 0 <| qe) fun _ => ?_
 refine MXz 1 0 (.n 24 (I n_Kind) (.s .a)) (fun x hx => qB hx 0 rfl 0 (I n_Kind) (by kernel_rfl) <| qe) fun _ => ?_
 refine MXz 3 1 (.n 27 (pt g_n 1) .a) (fun x hx => qs g_n 0 <| qs g_n 0 <| qe) fun _ => ?_
 refine MXz 1 0 (.n 28 (.agg [I n_P_Digest, I n_P_Key, I n_P_Fanout, I n_P_Depth, .u32 n_P_Leaf, .u64 n_P_Offset, .u32 n_P_Xof, I n_P_NodeDepth, I n_P_Inner, sl A_n_P_Salt n_P_Salt.length c_n_P_Salt, sl A_n_P_Personal n_P_Personal.length c_n_P_Personal]) (.s .a)) (fun x hx => qT hx 0 rfl 1 11 [I n_P_Digest, I n_P_Key, I n_P_Fanout, I n_P_Depth, .u32 n_P_Leaf, .u64 n_P_Offset, .u32 n_P_Xof, I n_P_NodeDepth, I n_P_Inner, sl A_n_P_Salt n_P_Salt.length c_n_P_Salt, sl A_n_P_Personal n_P_Personal.length c_n_P_Personal] (by kernel_rfl) (by decide) <| qe) fun _ => ?_
 refine MX_op (by kernel_rfl) rfl ?_
 obtain ⟨r_, h_r_, hm⟩ := ob hm
 refine Op_cz 29 mr_go89 (c_r02_Encode (F := N0) (O := N0) _ _ _ _ _ _ _ _ _ _ _ _ _ _ _ _ _ _ (Ro.n0 (h_n_P_Salt.cx k_5)) rfl hc_n_P_Salt (Ro.n0 (h_n_P_Personal.cx k_5)) rfl hc_n_P_Personal (Cx.refl _) _ h_r_) ?_
 rintro e_ w_3 ⟨A0, _, c0, rfl, rfl, k_6⟩
 have k_7 := k_5.call k_6
 refine ⟨.tup [sl A0 r_.1.length c0, I r_.2], rfl, ?_⟩
 refine ⟨(k_7.sel (.kkkk .z)), fun _ => ?_⟩
 refine MXz 5 1 (.n 4 (sl A0 r_.1.length c0) (.sss .a)) (fun x hx => qe) fun _ => ?_
 refine MX_nil <| At_go <| W_seq <| W_seq <| Wa (.n 36 (.b (decide (n_Kind = 1))) (.kkk .z)) (qs g_n 0 <| qs g_n 0 <| qB k_7 0 rfl 0 (I n_Kind) (by kernel_rfl) <| qe) ?_
 refine W_pz (n_Kind = 1) (fun hc1 => ?_) fun hc1 => ?_
 · rw [if_pos hc1] at hm
   refine W_seq <| W_reg <| We 1 (.n 38 (sl A0 r_.1.length c0) (.ss .a)) ?_
   refine WL_op ?_
   obtain ⟨r_1, h_r_1, hm⟩ := ob hm
   refine Op_cz 39 mr_go90 (c_r03_Start (F := N0) (O := N0) _ _ _ _ (Ro.n0 (k_7.rd 4 rfl)) (k_7.len 4 rfl) (k_7.lec 4 rfl) (Cx.refl _) _ h_r_1) ?_
   rintro e_ w_4 ⟨rfl, k_8⟩
   have k_9 := k_7.call k_8
   refine ⟨.tup [.agg [.ar e64 r_1.1], I r_1.2], rfl, ?_⟩
   have k_10 := k_9.sel (.kkkk .z)
   refine We 3 (.n 40 (.agg [.ar e64 r_1.1]) (.n 41 (I r_1.2) (.ss .a))) ?_
   refine WL_op ?_
   have k_11 := k_10.sel (.kkkk .e)
   refine Op_alloc [] 6 [.ar e64 (Vec.rep 8 (0 : UInt64))] (by kernel_rfl) k_11 ?_
   intro g2 w_5 k_12
   refine WL_op <| Op_bz 4 (.agg [.ar e64 r_1.1]) [.ar e64 r_1.1] (Pt.at g2 0) k_12 rfl .all ?_
   intro w_6 k_13
   refine We 1 (.k (.ss .a)) ?_
   refine Wn <| W_seq <| Wz (.n 8 (I 0) .a) ?_
   refine W_block ?_
   have k_15 := ((((k_13.pk (.t .h)).pk (.t .h)).pk (.t (.t (.t (.t .h))))).pk (.t (.t (.t (.t .h))))).pk (.t (.t (.t (.t .h))))
   refine W_lp (m_r05_Node_first_l0 n_Kind n_P_Digest n_P_Key n_P_Fanout n_P_Depth n_P_Leaf n_P_Offset n_P_Xof n_P_NodeDepth n_P_Inner n_Last n_From n_Old n_Lo n_Hi n_Msg n_Count r_1) (fun s L wr => ∃ (h : Vec UInt64 16) (i : Int), (h, i) = s ∧ L = [(2, pt g 0), (3, pt g1 0), (6, pt g2 0), (8, I i)] ∧ Cx F O w wr [Bx 107 g [.ar e64 (Vec.rep 16 (0 : UInt64))], Bx 107 g1 [.ar e64 h], Bx 139 g2 [.ar e64 r_1.1], Bx 109 g_n [I n_Kind, I n_P_Digest, I n_P_Key, I n_P_Fanout, I n_P_Depth, .u32 n_P_Leaf, .u64 n_P_Offset, .u32 n_P_Xof, I n_P_NodeDepth, I n_P_Inner, sl A_n_P_Salt n_P_Salt.length c_n_P_Salt, sl A_n_P_Personal n_P_Personal.length c_n_P_Personal, sl A_n_Key n_Key.length c_n_Key, .b n_Last, .ar e64 n_From, .b n_Old, .u64 n_Lo, .u64 n_Hi, sl A_n_Msg n_Msg.length c_n_Msg, .u64 n_Count], Ow e8 A_n_Msg n_Msg.length c_n_Msg n_Msg]) ((Vec.rep 16 (0 : UInt64)), (0 : Int)) r hm ⟨(Vec.rep 16 (0 : UInt64)), (0 : Int), rfl, rfl, k_15⟩ (by kernel_rfl) ?_
   intro s0_ L_ w_7 y0 hrel hstep hr0
   obtain ⟨h, i, rfl, rfl, k_14⟩ := hrel
   have hm := hstep; simp only [m_r05_Node_first_l0] at hm
   clear hstep
   refine W_seq <| Wz (.n 43 (.b (decide (i < 8))) .a) ?_
   refine W_pz (i < 8) (fun hc2 => ?_) fun hc2 => ?_
   · rw [if_pos hc2] at hm
     refine W_skip <| At_go <| W_seq <| W_block <| W_reg ?_
     obtain ⟨x_0, zh0, hm⟩ := ob hm
     obtain ⟨x_18, zh18, hm⟩ := ob hm
     refine Wl 5 (.n 49 (.u64 x_0) (.n 50 (.v (.pointer (ixA (some ⟨g1, 0, none⟩) i 1))) (.s .a))) (qV (k_14.vrd 2 rfl e64 r_1.1 0 (by kernel_rfl)) zh0 rfl (.u64 x_0) rfl <| qI g1 0 zh18 <| qe) ?_
     refine WL_op ?_
     obtain ⟨v, h_v, hm⟩ := nm hm
     refine Op_vz 1 (.u64 x_0) [.u64 x_0] h_v zh18 (Pt.ix0 (Pt.at g1 0) i 1) k_14 rfl .h rfl ?_
     intro w_8 k_16
     refine WL_nil <| At_in <| At_go <| W_q [] (.n 8 (I (w64 (i + 1))) (.ss (.kkk .z))) qe (by kernel_rfl) ?_
     exact At_rd (v, w64 (i + 1)) (Option.some.inj hm).symm ⟨v, w64 (i + 1), rfl, rfl, k_16⟩ (by kernel_rfl)
   rw [if_neg hc2] at hm
   refine W_exit (At_te (At_te (At_ie ?_)))
   have hm := exit_of hm hr0
   refine At_go <| W_seq <| W_reg <| Wl 1 (.n 51 (.agg [.ar e64 h]) (.s (.k .z))) (qT k_14 1 rfl 0 16 [.ar e64 h] (by kernel_rfl) (by decide) <| qe) ?_
   refine WL_op <| Op_bz 0 (.agg [.ar e64 h]) [.ar e64 h] (Pt.at g 0) k_14 rfl .all ?_
   intro w_9 k_17
   have k_18 := k_17.sel (.k (.ss (.kk .e)))
   refine Wn <| W_ret (At_tr ?_)
   obtain rfl := si hm
   refine At_rz [.agg [.ar e64 h]] (qo (.agg [.ar e64 h]) <| qc (fun w => Rd w (some ⟨g, 0, none⟩) (SV.cl [.ar e64 h])) (k_18.brd 0 rfl) <| qe) ?_
   have k_19 := k_18.sel (.s (.kk .e))
   exact ⟨A_n_Msg, n_Msg.length, c_n_Msg, k_19.len 1 rfl, rfl, k_19⟩
 rw [if_neg hc1] at hm
 refine W_skip <| At_go <| W_seq <| W_reg <| We 1 (.n 53 (sl A0 r_.1.length c0) (.ss .a)) ?_
 refine WL_op ?_
 obtain ⟨r_2, h_r_2, hm⟩ := ob hm
 refine Op_cz 54 mr_go91 (c_r04_Start (F := N0) (O := N0) _ _ _ _ (Ro.n0 (k_7.rd 4 rfl)) (k_7.len 4 rfl) (k_7.lec 4 rfl) (Cx.refl _) _ h_r_2) ?_
 rintro e_ w_10 ⟨rfl, k_20⟩
 have k_21 := k_7.call k_20
 refine ⟨.tup [.agg [.ar e32 r_2.1], I r_2.2], rfl, ?_⟩
 have k_22 := k_21.sel (.kkkk .z)
 refine We 3 (.n 55 (.agg [.ar e32 r_2.1]) (.n 56 (I r_2.2) (.ss .a))) ?_
 refine WL_op ?_
 have k_23 := k_22.sel (.kkkk .e)
 refine Op_alloc [] 9 [.ar e32 (Vec.rep 8 (0 : UInt32))] (by kernel_rfl) k_23 ?_
 intro g3 w_11 k_24
 refine WL_op <| Op_bz 4 (.agg [.ar e32 r_2.1]) [.ar e32 r_2.1] (Pt.at g3 0) k_24 rfl .all ?_
 intro w_12 k_25
 refine We 1 (.k (.ss .a)) ?_
 refine Wn <| W_seq <| Wz (.n 11 (I 0) .a) ?_
 refine W_block ?_
 have k_27 := ((((k_25.pk (.t .h)).pk (.t .h)).pk (.t (.t (.t (.t .h))))).pk (.t (.t (.t (.t .h))))).pk (.t (.t (.t (.t .h))))
 refine W_lp (m_r05_Node_first_l1 n_Kind n_P_Digest n_P_Key n_P_Fanout n_P_Depth n_P_Leaf n_P_Offset n_P_Xof n_P_NodeDepth n_P_Inner n_Last n_From n_Old n_Lo n_Hi n_Msg n_Count r_2) (fun s L wr => ∃ (h1 : Vec UInt64 16) (i1 : Int), (h1, i1) = s ∧ L = [(2, pt g 0), (3, pt g1 0), (9, pt g3 0), (11, I i1)] ∧ Cx F O w wr [Bx 107 g [.ar e64 (Vec.rep 16 (0 : UInt64))], Bx 107 g1 [.ar e64 h1], Bx 143 g3 [.ar e32 r_2.1], Bx 109 g_n [I n_Kind, I n_P_Digest, I n_P_Key, I n_P_Fanout, I n_P_Depth, .u32 n_P_Leaf, .u64 n_P_Offset, .u32 n_P_Xof, I n_P_NodeDepth, I n_P_Inner, sl A_n_P_Salt n_P_Salt.length c_n_P_Salt, sl A_n_P_Personal n_P_Personal.length c_n_P_Personal, sl A_n_Key n_Key.length c_n_Key, .b n_Last, .ar e64 n_From, .b n_Old, .u64 n_Lo, .u64 n_Hi, sl A_n_Msg n_Msg.length c_n_Msg, .u64 n_Count], Ow e8 A_n_Msg n_Msg.length c_n_Msg n_Msg]) ((Vec.rep 16 (0 : UInt64)), (0 : Int)) r hm ⟨(Vec.rep 16 (0 : UInt64)), (0 : Int), rfl, rfl, k_27⟩ (by kernel_rfl) ?_
 intro s0_ L_ w_13 y0 hrel hstep hr0
 obtain ⟨h1, i1, rfl, rfl, k_26⟩ := hrel
 have hm := hstep; simp only [m_r05_Node_first_l1] at hm
 clear hstep
 refine W_seq <| Wz (.n 58 (.b (decide (i1 < 8))) .a) ?_
 refine W_pz (i1 < 8) (fun hc3 => ?_) fun hc3 => ?_
 · rw [if_pos hc3] at hm
   refine W_skip <| At_go <| W_seq <| W_block <| W_reg ?_
   obtain ⟨x_19, zh19, hm⟩ := ob hm
   obtain ⟨x_20, zh20, hm⟩ := ob hm
   refine Wl 6 (.n 65 (.u64 (UInt64.ofNat x_19.toNat)) (.n 66 (.v (.pointer (ixA (some ⟨g1, 0, none⟩) i1 1))) (.s .a))) (qV (k_26.vrd 2 rfl e32 r_2.1 0 (by kernel_rfl)) zh19 rfl (.u32 x_19) rfl <| qI g1 0 zh20 <| qe) ?_
   refine WL_op ?_
   obtain ⟨v1, h_v1, hm⟩ := nm hm
   refine Op_vz 1 (.u64 (UInt64.ofNat x_19.toNat)) [.u64 (UInt64.ofNat x_19.toNat)] h_v1 zh20 (Pt.ix0 (Pt.at g1 0) i1 1) k_26 rfl .h rfl ?_
   intro w_14 k_28
   refine WL_nil <| At_in <| At_go <| W_q [] (.n 11 (I (w64 (i1 + 1))) (.ss (.kkk .z))) qe (by kernel_rfl) ?_
   exact At_rd (v1, w64 (i1 + 1)) (Option.some.inj hm).symm ⟨v1, w64 (i1 + 1), rfl, rfl, k_28⟩ (by kernel_rfl)
 rw [if_neg hc3] at hm
 refine W_exit (At_te (At_te (At_ie ?_)))
 have hm := exit_of hm hr0
 refine At_go <| W_seq <| W_reg <| Wl 1 (.n 67 (.agg [.ar e64 h1]) (.s (.k .z))) (qT k_26 1 rfl 0 16 [.ar e64 h1] (by kernel_rfl) (by decide) <| qe) ?_
 refine WL_op <| Op_bz 0 (.agg [.ar e64 h1]) [.ar e64 h1] (Pt.at g 0) k_26 rfl .all ?_
 intro w_15 k_29
 have k_30 := k_29.sel (.k (.ss (.kk .e)))
 refine Wn <| W_ret ?_
 obtain rfl := si hm
 refine At_rz [.agg [.ar e64 h1]] (qo (.agg [.ar e64 h1]) <| qc (fun w => Rd w (some ⟨g, 0, none⟩) (SV.cl [.ar e64 h1])) (k_30.brd 0 rfl) <| qe) ?_
 have k_31 := k_30.sel (.s (.kk .e))
 exact ⟨A_n_Msg, n_Msg.length, c_n_Msg, k_31.len 1 rfl, rfl, k_31⟩
theorem c_r01_Add (lo : UInt64) (hi : UInt64) (n : UInt64) (k : Cx F O w w []) (r : (UInt64 × UInt64 × Bool)) (hm : m_r01_Add lo hi n = some r) :
    Calls Tryz.prog 71 (vals [.u64 lo, .u64 hi, .u64 n]) w (fun e w' => e = .returned (SV.val (.tup [.u64 r.1, .u64 r.2.1, .b r.2.2])) ∧ Cx F O w w' []) := by
 unfold m_r01_Add at hm
 refine calz [.u64 lo, .u64 hi, .u64 n] Tryz.func71 rfl ?_
 refine Wz .a ?_
 refine Wz (.n 9 (.u64 (lo + n)) (.kk .z)) ?_
 refine W_seq <| Wz (.n 15 (.b (decide (lo ≤ (lo + n)))) (.k (.s .a))) ?_
 refine W_pz (lo ≤ (lo + n)) (fun hc => ?_) fun hc => ?_
 · rw [if_pos hc] at hm
   refine Wz (.n 6 (.u64 (lo + n)) (.n 7 (.u64 hi) (.n 8 (.b false) .z))) ?_
   refine W_ret (At_tr ?_)
   obtain rfl := si hm
   refine At_rz [.u64 (lo + n), .u64 hi, .b false] qe ?_
   exact ⟨rfl, k⟩
 rw [if_neg hc] at hm
 refine W_skip <| At_go <| Wz (.n 6 (.u64 (lo + n)) (.n 7 (.u64 (hi + 1)) (.n 8 (.b (decide ((hi + 1) = 0))) .z))) ?_
 refine W_ret ?_
 obtain rfl := si hm
 refine At_rz [.u64 (lo + n), .u64 (hi + 1), .b (decide ((hi + 1) = 0))] qe ?_
 exact ⟨rfl, k⟩
theorem c_r05_cut (b : List UInt8) (at_ : Int) (size : Int) (A_b : Option Addr) (n_b : Nat) (c_b : Nat) (h_b : Ro F w A_b (e8.all b)) (hn_b : b.length = n_b) (hc_b : n_b ≤ c_b) (k : Cx F O w w []) (r : (List UInt8)) (hm : m_r05_cut b at_ size = some r) :
    Calls Tryz.prog 74 (vals [sl A_b n_b c_b, I at_, I size]) w (fun e w' => ∃ A n c, r.length = n ∧ e = .returned (SV.val (sl A n c)) ∧ Cx F O w w' [Ow e8 A n c r]) := by
 unfold m_r05_cut at hm
 subst hn_b
 refine calz [sl A_b b.length c_b, I at_, I size] Tryz.func74 rfl ?_
 refine Wz .a ?_
 refine Wz (.n 7 (sl none 0 0) .a) ?_
 refine W_seq <| Wz (.n 8 (I 0) .a) ?_
 refine W_block ?_
 have k_1 := k.nil e8
 refine W_lp (m_r05_cut_l0 b at_ size) (fun s L wr => ∃ (out : List UInt8) (i : Int) (A0 : Option Addr) (n0 : Nat) (c0 : Nat), (out, i) = s ∧ L = [(0, sl A_b b.length c_b), (1, I at_), (2, I size), (7, sl A0 n0 c0), (8, I i)] ∧ out.length = n0 ∧ Cx F O w wr [Ow e8 A0 n0 c0 out]) (([] : List UInt8), (0 : Int)) r hm ⟨([] : List UInt8), (0 : Int), none, 0, 0, rfl, rfl, k_1.len 0 rfl, k_1⟩ (by kernel_rfl) ?_
 intro s0_ L_ w_ y0 hrel hstep hr0
 obtain ⟨out, i, A0, _, c0, rfl, rfl, rfl, k_⟩ := hrel
 have hm := hstep; simp only [m_r05_cut_l0] at hm
 clear hstep
 refine W_seq <| Wz (.n 12 (.b (decide (i < size))) .a) ?_
 refine W_pz (i < size) (fun hc => ?_) fun hc => ?_
 · rw [if_pos hc] at hm
   refine W_skip <| At_go <| W_cut (fun L wr => ∃ (out1 : List UInt8) (A1 : Option Addr) (n1 : Nat) (c1 : Nat), m_r05_cut_j0 i out1 = some y0 ∧ L = [(0, sl A_b b.length c_b), (1, I at_), (2, I size), (7, sl A1 n1 c1), (8, I i)] ∧ out1.length = n1 ∧ Cx F O w wr [Ow e8 A1 n1 c1 out1]) ?_ ?_
   ·
    refine W_block <| Wz (.n 9 (.u8 0) (.s .a)) ?_
    refine W_cut (fun L wr => ∃ (c2 : UInt8), m_r05_cut_j1 out i c2 = some y0 ∧ L = [(0, sl A_b b.length c_b), (1, I at_), (2, I size), (7, sl A0 out.length c0), (8, I i), (9, .u8 c2)] ∧ Cx F O w wr [Ow e8 A0 out.length c0 out]) ?_ ?_
    ·
     refine Wz (.n 20 (.b (decide ((w64 (at_ + i)) < (b.length : Int)))) .a) ?_
     refine W_pz ((w64 (at_ + i)) < (b.length : Int)) (fun hc1 => ?_) fun hc1 => ?_
     · rw [if_pos hc1] at hm
       obtain ⟨x_0, zh0, hm⟩ := ob hm
       refine W_q [] (.n 9 (.u8 x_0) (.ss .a)) (qW (h_b.cx k_) zh0 rfl (.u8 x_0) rfl <| qe) (by kernel_rfl) ?_
       exact At_cz ⟨x_0, hm, rfl, k_⟩
     rw [if_neg hc1] at hm
     refine W_skip ?_
     exact At_cz ⟨(0 : UInt8), hm, rfl, k_⟩
    rintro L_ w_1 ⟨c2, hm, rfl, k_2⟩
    simp only [m_r05_cut_j1] at hm
    refine W_reg <| We 2 (.n 27 (sl A0 out.length c0) (.n 28 (.u8 c2) (.kkkk (.k .z)))) ?_
    refine WL_op <| Op_mk mr_tf33 e8 [] 29 ([c2] : List UInt8) [(0, .u8 c2)] [.u8 c2] (by kernel_rfl) (by kernel_rfl) (by kernel_rfl) k_2 ?_
    intro A2 w_2 k_3
    refine WL_op ?_
    obtain ⟨out2, h_out2, hm⟩ := ob hm
    obtain ⟨hz, hl⟩ := app_some h_out2
    refine Op_append (E := e8) (v := sl A2 1 1) (ys := ([c2] : List UInt8)) mr_tf33 [] 30 0 (by kernel_rfl) k_3 rfl (Src.sl (k_3.rd 1 rfl) (k_3.len 1 rfl) (by rfl)) (k_3.len 1 rfl) (by have := k_3.len 0 rfl; have := (k_3.len 1 rfl); omega) ?_
    intro A3 c3 w_3 k_4
    rw [← hl] at k_4
    have k_5 := k_4.sel (.k .z)
    refine We 1 (.n 7 (sl A3 (out.length + 1) c3) (.ssss (.kkk (.s .a)))) ?_
    refine WL_nil <| At_in ?_
    exact At_cz ⟨out2, A3, out.length + 1, c3, hm, rfl, k_5.len 0 rfl, k_5⟩
   rintro L_ w_4 ⟨out1, A1, _, c1, hm, rfl, rfl, k_6⟩
   simp only [m_r05_cut_j0] at hm
   refine W_q [] (.n 8 (I (w64 (i + 1))) (.kkkk .z)) qe (by kernel_rfl) ?_
   exact At_rd (out1, w64 (i + 1)) (Option.some.inj hm).symm ⟨out1, w64 (i + 1), A1, out1.length, c1, rfl, rfl, k_6.len 0 rfl, k_6⟩ (by kernel_rfl)
 rw [if_neg hc] at hm
 refine W_exit (At_te (At_te (At_ie ?_)))
 have hm := exit_of hm hr0
 refine At_go <| Wz (.n 6 (sl A0 out.length c0) .z) ?_
 refine W_ret ?_
 obtain rfl := si hm
 refine At_rz [sl A0 out.length c0] qe ?_
 exact ⟨A0, out.length, c0, k_.len 0 rfl, rfl, k_⟩
theorem c_r03_Words (b : List UInt8) (A_b : Option Addr) (n_b : Nat) (c_b : Nat) (h_b : Ro F w A_b (e8.all b)) (hn_b : b.length = n_b) (hc_b : n_b ≤ c_b) (k : Cx F O w w []) (r : (Vec UInt64 16 × Int)) (hm : m_r03_Words b = some r) :
    Calls Tryz.prog 83 (vals [sl A_b n_b c_b]) w (fun e w' => e = .returned (SV.val (.tup [.agg [.ar e64 r.1], I r.2])) ∧ Cx F O w w' []) := by
 unfold m_r03_Words at hm
 subst hn_b
 refine calz [sl A_b b.length c_b] Tryz.func83 rfl ?_
 refine W_seq <| W_reg <| WL_op <| Op_alloc [] 2 [.ar e64 (Vec.rep 16 (0 : UInt64))] (by kernel_rfl) k ?_
 intro g w_ k_
 refine We 1 .a ?_
 refine Wn <| W_seq <| W_reg <| WL_op <| Op_alloc [] 4 [.ar e64 (Vec.rep 16 (0 : UInt64))] (by kernel_rfl) k_ ?_
 intro g1 w_1 k_1
 refine Wn <| W_seq <| Wz (.n 8 (.b (decide ((b.length : Int) ≠ 128))) .a) ?_
 refine W_pz ((b.length : Int) ≠ 128) (fun hc => ?_) fun hc => ?_
 · rw [if_pos hc] at hm
   refine W_seq <| W_reg <| Wl 1 (.n 9 (.agg [.ar e64 (Vec.rep 16 (0 : UInt64))]) (.ss (.k .z))) (qT k_1 1 rfl 0 16 [.ar e64 (Vec.rep 16 (0 : UInt64))] (by kernel_rfl) (by decide) <| qe) ?_
   refine WL_op <| Op_bz 0 (.agg [.ar e64 (Vec.rep 16 (0 : UInt64))]) [.ar e64 (Vec.rep 16 (0 : UInt64))] (Pt.at g 0) k_1 rfl .all ?_
   intro w_2 k_2
   have k_3 := k_2.sel (.k .z)
   refine We 1 (.n 3 (I 1) (.s .a)) ?_
   refine Wn <| W_ret (At_tr ?_)
   obtain rfl := si hm
   refine At_rz [.agg [.ar e64 (Vec.rep 16 (0 : UInt64))], I 1] (qo (.agg [.ar e64 (Vec.rep 16 (0 : UInt64))]) <| qc (fun w => Rd w (some ⟨g, 0, none⟩) (SV.cl [.ar e64 (Vec.rep 16 (0 : UInt64))])) (k_3.brd 0 rfl) <| qe) ?_
   have k_4 := k_3.sel .z
   exact ⟨rfl, k_4⟩
 rw [if_neg hc] at hm
 refine W_skip <| At_go <| W_seq <| Wz (.n 5 (I 0) (.s .a)) ?_
 refine W_block <| W_lp (m_r03_Words_l0 b) (fun s L wr => ∃ (m_ : Vec UInt64 16) (i : Int), (m_, i) = s ∧ L = [(0, sl A_b b.length c_b), (2, pt g 0), (4, pt g1 0), (5, I i)] ∧ Cx F O w wr [Bx 107 g [.ar e64 (Vec.rep 16 (0 : UInt64))], Bx 107 g1 [.ar e64 m_]]) ((Vec.rep 16 (0 : UInt64)), (0 : Int)) r hm ⟨(Vec.rep 16 (0 : UInt64)), (0 : Int), rfl, rfl, k_1⟩ (by kernel_rfl) ?_
 intro s0_ L_ w_3 y0 hrel hstep hr0
 obtain ⟨m_, i, rfl, rfl, k_5⟩ := hrel
 have hm := hstep; simp only [m_r03_Words_l0] at hm
 clear hstep
 refine W_seq <| Wz (.n 11 (.b (decide (i < 16))) .a) ?_
 refine W_pz (i < 16) (fun hc1 => ?_) fun hc1 => ?_
 · rw [if_pos hc1] at hm
   refine W_skip <| At_go <| W_seq <| W_block <| W_reg <| We 4 (.n 15 (I i) (.n 16 (sl A_b b.length c_b) (.n 18 (I (w64 (8 * i))) (.s .a)))) ?_
   refine WL_op ?_
   obtain ⟨r_, h_r_, hm⟩ := ob hm
   refine Op_cz 19 mr_go92 (c_r01_Load (F := N0) (O := N0) _ _ _ _ _ _ (Ro.n0 (h_b.cx k_5)) rfl hc_b (Cx.refl _) _ h_r_) ?_
   rintro e_ w_4 ⟨rfl, k_6⟩
   have k_7 := k_5.call k_6
   refine ⟨.tup [.u64 r_.1, I r_.2], rfl, ?_⟩
   obtain ⟨x_0, zh0, hm⟩ := ob hm
   refine Wl 4 (.n 20 (.u64 r_.1) (.n 22 (.v (.pointer (ixA (some ⟨g1, 0, none⟩) i 1))) (.ssss .a))) (qI g1 0 zh0 <| qe) ?_
   refine WL_op ?_
   obtain ⟨v, h_v, hm⟩ := nm hm
   refine Op_vz 1 (.u64 r_.1) [.u64 r_.1] h_v zh0 (Pt.ix0 (Pt.at g1 0) i 1) k_7 rfl .h rfl ?_
   intro w_5 k_8
   refine WL_nil <| At_in <| At_go <| W_q [] (.n 5 (I (w64 (i + 1))) (.ss (.kkk .z))) qe (by kernel_rfl) ?_
   exact At_rd (v, w64 (i + 1)) (Option.some.inj hm).symm ⟨v, w64 (i + 1), rfl, rfl, k_8⟩ (by kernel_rfl)
 rw [if_neg hc1] at hm
 refine W_exit (At_te (At_te (At_ie ?_)))
 have hm := exit_of hm hr0
 refine At_go <| W_seq <| W_reg <| Wl 1 (.n 23 (.agg [.ar e64 m_]) (.ss (.k .z))) (qT k_5 1 rfl 0 16 [.ar e64 m_] (by kernel_rfl) (by decide) <| qe) ?_
 refine WL_op <| Op_bz 0 (.agg [.ar e64 m_]) [.ar e64 m_] (Pt.at g 0) k_5 rfl .all ?_
 intro w_6 k_9
 have k_10 := k_9.sel (.k .z)
 refine We 1 (.n 3 (I 0) (.s .a)) ?_
 refine Wn <| W_ret ?_
 obtain rfl := si hm
 refine At_rz [.agg [.ar e64 m_], I 0] (qo (.agg [.ar e64 m_]) <| qc (fun w => Rd w (some ⟨g, 0, none⟩) (SV.cl [.ar e64 m_])) (k_10.brd 0 rfl) <| qe) ?_
 have k_11 := k_10.sel .z
 exact ⟨rfl, k_11⟩
theorem c_r03_Init (h : Vec UInt64 8) (lo : UInt64) (hi : UInt64) (last : Bool) (node : Bool) (k : Cx F O w w []) (r : (Vec UInt64 16)) (hm : m_r03_Init h lo hi last node = some r) :
    Calls Tryz.prog 93 (vals [.agg [.ar e64 h], .u64 lo, .u64 hi, .b last, .b node]) w (fun e w' => e = .returned (SV.val (.agg [.ar e64 r])) ∧ Cx F O w w' []) := by
 unfold m_r03_Init at hm
 refine calz [.agg [.ar e64 h], .u64 lo, .u64 hi, .b last, .b node] Tryz.func93 rfl ?_
 refine W_seq <| W_reg <| WL_op <| Op_box [] 5 (.agg [.ar e64 h]) [.ar e64 h] (by kernel_rfl) k ?_
 intro g w_ k_
 refine WL_op <| Op_alloc [] 10 [.ar e64 (Vec.rep 16 (0 : UInt64))] (by kernel_rfl) k_ ?_
 intro g1 w_1 k_1
 refine Wn <| W_seq <| W_reg <| WL_op <| Op_alloc [] 11 [.ar e64 (Vec.rep 16 (0 : UInt64))] (by kernel_rfl) k_1 ?_
 intro g2 w_2 k_2
 refine Wn <| W_seq <| Wz (.n 12 (I 0) (.kkk (.s .a))) ?_
 refine W_block <| W_lp (m_r03_Init_l0 h lo hi last node) (fun s L wr => ∃ (v : Vec UInt64 16) (i : Int), (v, i) = s ∧ L = [(1, .u64 lo), (2, .u64 hi), (3, .b last), (4, .b node), (5, pt g 0), (10, pt g1 0), (11, pt g2 0), (12, I i)] ∧ Cx F O w wr [Bx 139 g [.ar e64 h], Bx 107 g1 [.ar e64 (Vec.rep 16 (0 : UInt64))], Bx 107 g2 [.ar e64 v]]) ((Vec.rep 16 (0 : UInt64)), (0 : Int)) r hm ⟨(Vec.rep 16 (0 : UInt64)), (0 : Int), rfl, rfl, k_2⟩ (by kernel_rfl) ?_
 intro s0_ L_ w_3 y0 hrel hstep hr0
 obtain ⟨v, i, rfl, rfl, k_3⟩ := hrel
 have hm := hstep; simp only [m_r03_Init_l0] at hm
 clear hstep
 refine W_seq <| Wz (.n 14 (.b (decide (i < 8))) .a) ?_
 refine W_pz (i < 8) (fun hc => ?_) fun hc => ?_
 · rw [if_pos hc] at hm
   refine W_skip <| At_go <| W_seq <| W_block <| W_seq <| W_reg ?_
   obtain ⟨x_0, zh0, hm⟩ := ob hm
   obtain ⟨x_1, zh1, hm⟩ := ob hm
   refine Wl 5 (.n 20 (.u64 x_0) (.n 21 (.v (.pointer (ixA (some ⟨g2, 0, none⟩) i 1))) (.s .a))) (qV (k_3.vrd 0 rfl e64 h 0 (by kernel_rfl)) zh0 rfl (.u64 x_0) rfl <| qI g2 0 zh1 <| qe) ?_
   refine WL_op ?_
   obtain ⟨v1, h_v1, hm⟩ := nm hm
   refine Op_vz 2 (.u64 x_0) [.u64 x_0] h_v1 zh1 (Pt.ix0 (Pt.at g2 0) i 1) k_3 rfl .h rfl ?_
   intro w_4 k_4
   refine Wn <| W_reg <| We 3 (.n 23 (I (w64 (i + 8))) (.n 24 (I i) (.ss .a))) ?_
   refine WL_op ?_
   obtain ⟨r_, h_r_, hm⟩ := ob hm
   refine Op_cz 25 mr_go108 (c_r03_IV (F := N0) (O := N0) _ (Cx.refl _) _ h_r_) ?_
   rintro e_ w_5 ⟨rfl, k_5⟩
   have k_6 := k_4.call k_5
   refine ⟨.u64 r_, rfl, ?_⟩
   obtain ⟨x_2, zh2, hm⟩ := ob hm
   refine Wl 1 (.n 26 (.v (.pointer (ixA (some ⟨g2, 0, none⟩) (w64 (i + 8)) 1))) (.k (.ss .a))) (qI g2 0 zh2 <| qe) ?_
   refine WL_op ?_
   obtain ⟨v2, h_v2, hm⟩ := nm hm
   refine Op_vz 2 (.u64 r_) [.u64 r_] h_v2 zh2 (Pt.ix0 (Pt.at g2 0) (w64 (i + 8)) 1) k_6 rfl .h rfl ?_
   intro w_6 k_7
   refine WL_nil <| At_in <| At_go <| W_q [] (.n 12 (I (w64 (i + 1))) (.ss (.kkkk (.kkk .z)))) qe (by kernel_rfl) ?_
   exact At_rd (v2, w64 (i + 1)) (Option.some.inj hm).symm ⟨v2, w64 (i + 1), rfl, rfl, k_7⟩ (by kernel_rfl)
 rw [if_neg hc] at hm
 refine W_exit (At_te (At_te (At_ie ?_)))
 have hm := exit_of hm hr0
 refine At_go <| W_seq <| W_reg ?_
 obtain ⟨x_3, zh3, hm⟩ := ob hm
 obtain ⟨x_4, zh4, hm⟩ := ob hm
 refine Wl 5 (.n 30 (.u64 (x_3 ^^^ lo)) (.n 31 (.v (.pointer (ixA (some ⟨g2, 0, none⟩) (12 : Int) 1))) (.ss (.kkk (.s (.kk .z)))))) (qV (k_3.vrd 2 rfl e64 v 0 (by kernel_rfl)) zh3 rfl (.u64 x_3) rfl <| qI g2 0 zh4 <| qe) ?_
 refine WL_op ?_
 obtain ⟨v3, h_v3, hm⟩ := nm hm
 refine Op_vz 2 (.u64 (x_3 ^^^ lo)) [.u64 (x_3 ^^^ lo)] h_v3 zh4 (Pt.ix0 (Pt.at g2 0) (12 : Int) 1) k_3 rfl .h rfl ?_
 intro w_7 k_8
 refine Wn <| W_seq <| W_reg ?_
 obtain ⟨x_5, zh5, hm⟩ := ob hm
 obtain ⟨x_6, zh6, hm⟩ := ob hm
 refine Wl 5 (.n 35 (.u64 (x_5 ^^^ hi)) (.n 36 (.v (.pointer (ixA (some ⟨g2, 0, none⟩) (13 : Int) 1))) (.sss .a))) (qV (k_8.vrd 2 rfl e64 v3 0 (by kernel_rfl)) zh5 rfl (.u64 x_5) rfl <| qI g2 0 zh6 <| qe) ?_
 refine WL_op ?_
 obtain ⟨v4, h_v4, hm⟩ := nm hm
 refine Op_vz 2 (.u64 (x_5 ^^^ hi)) [.u64 (x_5 ^^^ hi)] h_v4 zh6 (Pt.ix0 (Pt.at g2 0) (13 : Int) 1) k_8 rfl .h rfl ?_
 intro w_8 k_9
 refine Wn <| W_cut (fun L wr => ∃ (v5 : Vec UInt64 16), m_r03_Init_j0 node v5 = some r ∧ L = [(4, .b node), (10, pt g1 0), (11, pt g2 0)] ∧ Cx F O w wr [Bx 107 g1 [.ar e64 (Vec.rep 16 (0 : UInt64))], Bx 107 g2 [.ar e64 v5]]) ?_ ?_
 ·
  refine Wz (.n 37 (.b last) (.sss .a)) ?_
  refine W_cz last (fun hc1 => ?_) fun hc1 => ?_
  · rw [if_pos hc1] at hm
    refine W_reg ?_
    obtain ⟨x_7, zh7, hm⟩ := ob hm
    obtain ⟨x_8, zh8, hm⟩ := ob hm
    refine Wl 4 (.n 40 (.u64 (18446744073709551615 ^^^ x_7)) (.n 41 (.v (.pointer (ixA (some ⟨g2, 0, none⟩) (14 : Int) 1))) (.s .a))) (qV (k_9.vrd 2 rfl e64 v4 0 (by kernel_rfl)) zh7 rfl (.u64 x_7) rfl <| qI g2 0 zh8 <| qe) ?_
    refine WL_op ?_
    obtain ⟨v6, h_v6, hm⟩ := nm hm
    refine Op_vz 2 (.u64 (18446744073709551615 ^^^ x_7)) [.u64 (18446744073709551615 ^^^ x_7)] h_v6 zh8 (Pt.ix0 (Pt.at g2 0) (14 : Int) 1) k_9 rfl .h rfl ?_
    intro w_9 k_10
    refine WL_nil ?_
    have k_11 := k_10.sel (.s (.kk .e))
    exact At_cz ⟨v6, hm, rfl, k_11⟩
  rw [if_neg (by rw [hc1]; decide)] at hm
  refine W_skip ?_
  have k_12 := k_9.sel (.s (.kk .e))
  exact At_cz ⟨v4, hm, rfl, k_12⟩
 rintro L_ w_10 ⟨v5, hm, rfl, k_13⟩
 simp only [m_r03_Init_j0] at hm
 refine W_cut (fun L wr => ∃ (v7 : Vec UInt64 16), m_r03_Init_j1 v7 = some r ∧ L = [(10, pt g1 0), (11, pt g2 0)] ∧ Cx F O w wr [Bx 107 g1 [.ar e64 (Vec.rep 16 (0 : UInt64))], Bx 107 g2 [.ar e64 v7]]) ?_ ?_
 ·
  refine Wz (.n 42 (.b node) (.s .a)) ?_
  refine W_cz node (fun hc2 => ?_) fun hc2 => ?_
  · rw [if_pos hc2] at hm
    refine W_reg ?_
    obtain ⟨x_9, zh9, hm⟩ := ob hm
    obtain ⟨x_10, zh10, hm⟩ := ob hm
    refine Wl 4 (.n 45 (.u64 (18446744073709551615 ^^^ x_9)) (.n 46 (.v (.pointer (ixA (some ⟨g2, 0, none⟩) (15 : Int) 1))) (.s .a))) (qV (k_13.vrd 1 rfl e64 v5 0 (by kernel_rfl)) zh9 rfl (.u64 x_9) rfl <| qI g2 0 zh10 <| qe) ?_
    refine WL_op ?_
    obtain ⟨v8, h_v8, hm⟩ := nm hm
    refine Op_vz 1 (.u64 (18446744073709551615 ^^^ x_9)) [.u64 (18446744073709551615 ^^^ x_9)] h_v8 zh10 (Pt.ix0 (Pt.at g2 0) (15 : Int) 1) k_13 rfl .h rfl ?_
    intro w_11 k_14
    refine WL_nil ?_
    exact At_cz ⟨v8, hm, rfl, k_14⟩
  rw [if_neg (by rw [hc2]; decide)] at hm
  refine W_skip ?_
  exact At_cz ⟨v5, hm, rfl, k_13⟩
 rintro L_ w_12 ⟨v7, hm, rfl, k_15⟩
 simp only [m_r03_Init_j1] at hm
 refine W_seq <| W_reg <| Wl 1 (.n 47 (.agg [.ar e64 v7]) (.k .z)) (qT k_15 1 rfl 0 16 [.ar e64 v7] (by kernel_rfl) (by decide) <| qe) ?_
 refine WL_op <| Op_bz 0 (.agg [.ar e64 v7]) [.ar e64 v7] (Pt.at g1 0) k_15 rfl .all ?_
 intro w_13 k_16
 have k_17 := k_16.sel (.k .z)
 refine Wn <| W_ret ?_
 obtain rfl := si hm
 refine At_rz [.agg [.ar e64 v7]] (qo (.agg [.ar e64 v7]) <| qc (fun w => Rd w (some ⟨g1, 0, none⟩) (SV.cl [.ar e64 v7])) (k_17.brd 0 rfl) <| qe) ?_
 have k_18 := k_17.sel .z
 exact ⟨rfl, k_18⟩
theorem c_r03_Places (i : Int) (k : Cx F O w w []) (r : (Vec Int 4)) (hm : m_r03_Places i = some r) :
    Calls Tryz.prog 110 (vals [I i]) w (fun e w' => e = .returned (SV.val (.agg [.ar eI r])) ∧ Cx F O w w' []) := by
 unfold m_r03_Places at hm
 refine calz [I i] Tryz.func110 rfl ?_
 refine W_seq <| W_reg <| WL_op <| Op_alloc [] 2 [.ar eI (Vec.rep 4 (0 : Int))] (by kernel_rfl) k ?_
 intro g w_ k_
 refine Wn <| W_seq <| W_reg <| We 9 (.n 12 (.agg [.ar (eV eI 4) (⟨[(⟨[(0 : Int), (4 : Int), (8 : Int), (12 : Int)], rfl⟩ : Vec Int 4), (⟨[(1 : Int), (5 : Int), (9 : Int), (13 : Int)], rfl⟩ : Vec Int 4), (⟨[(2 : Int), (6 : Int), (10 : Int), (14 : Int)], rfl⟩ : Vec Int 4), (⟨[(3 : Int), (7 : Int), (11 : Int), (15 : Int)], rfl⟩ : Vec Int 4), (⟨[(0 : Int), (5 : Int), (10 : Int), (15 : Int)], rfl⟩ : Vec Int 4), (⟨[(1 : Int), (6 : Int), (11 : Int), (12 : Int)], rfl⟩ : Vec Int 4), (⟨[(2 : Int), (7 : Int), (8 : Int), (13 : Int)], rfl⟩ : Vec Int 4), (⟨[(3 : Int), (4 : Int), (9 : Int), (14 : Int)], rfl⟩ : Vec Int 4)], rfl⟩ : Vec (Vec Int 4) 8)]) .a) ?_
 refine WL_op <| Op_alloc [] 3 [.ar (eV eI 4) (Vec.rep 8 (Vec.rep 4 (0 : Int)))] (by kernel_rfl) k_ ?_
 intro g1 w_1 k_1
 refine WL_op <| Op_bz 1 (.agg [.ar (eV eI 4) (⟨[(⟨[(0 : Int), (4 : Int), (8 : Int), (12 : Int)], rfl⟩ : Vec Int 4), (⟨[(1 : Int), (5 : Int), (9 : Int), (13 : Int)], rfl⟩ : Vec Int 4), (⟨[(2 : Int), (6 : Int), (10 : Int), (14 : Int)], rfl⟩ : Vec Int 4), (⟨[(3 : Int), (7 : Int), (11 : Int), (15 : Int)], rfl⟩ : Vec Int 4), (⟨[(0 : Int), (5 : Int), (10 : Int), (15 : Int)], rfl⟩ : Vec Int 4), (⟨[(1 : Int), (6 : Int), (11 : Int), (12 : Int)], rfl⟩ : Vec Int 4), (⟨[(2 : Int), (7 : Int), (8 : Int), (13 : Int)], rfl⟩ : Vec Int 4), (⟨[(3 : Int), (4 : Int), (9 : Int), (14 : Int)], rfl⟩ : Vec Int 4)], rfl⟩ : Vec (Vec Int 4) 8)]) [.ar (eV eI 4) (⟨[(⟨[(0 : Int), (4 : Int), (8 : Int), (12 : Int)], rfl⟩ : Vec Int 4), (⟨[(1 : Int), (5 : Int), (9 : Int), (13 : Int)], rfl⟩ : Vec Int 4), (⟨[(2 : Int), (6 : Int), (10 : Int), (14 : Int)], rfl⟩ : Vec Int 4), (⟨[(3 : Int), (7 : Int), (11 : Int), (15 : Int)], rfl⟩ : Vec Int 4), (⟨[(0 : Int), (5 : Int), (10 : Int), (15 : Int)], rfl⟩ : Vec Int 4), (⟨[(1 : Int), (6 : Int), (11 : Int), (12 : Int)], rfl⟩ : Vec Int 4), (⟨[(2 : Int), (7 : Int), (8 : Int), (13 : Int)], rfl⟩ : Vec Int 4), (⟨[(3 : Int), (4 : Int), (9 : Int), (14 : Int)], rfl⟩ : Vec Int 4)], rfl⟩ : Vec (Vec Int 4) 8)] (Pt.at g1 0) k_1 rfl .all ?_
 intro w_2 k_2
 refine Wn <| W_seq <| W_reg ?_
 obtain ⟨x_0, zh0, hm⟩ := ob hm
 refine Wl 4 (.n 16 (.agg [.ar eI x_0]) (.ss (.k .z))) (qp ((8 : Int) ≠ (0 : Int)) (by omega) <| qI g1 0 zh0 <| qR [.ar eI x_0] (Rd.elV (k_2.vrd 1 rfl (eV eI 4) (⟨[(⟨[(0 : Int), (4 : Int), (8 : Int), (12 : Int)], rfl⟩ : Vec Int 4), (⟨[(1 : Int), (5 : Int), (9 : Int), (13 : Int)], rfl⟩ : Vec Int 4), (⟨[(2 : Int), (6 : Int), (10 : Int), (14 : Int)], rfl⟩ : Vec Int 4), (⟨[(3 : Int), (7 : Int), (11 : Int), (15 : Int)], rfl⟩ : Vec Int 4), (⟨[(0 : Int), (5 : Int), (10 : Int), (15 : Int)], rfl⟩ : Vec Int 4), (⟨[(1 : Int), (6 : Int), (11 : Int), (12 : Int)], rfl⟩ : Vec Int 4), (⟨[(2 : Int), (7 : Int), (8 : Int), (13 : Int)], rfl⟩ : Vec Int 4), (⟨[(3 : Int), (4 : Int), (9 : Int), (14 : Int)], rfl⟩ : Vec Int 4)], rfl⟩ : Vec (Vec Int 4) 8) 0 (by kernel_rfl)) zh0 (Pt.ix1 (some ⟨g1, 0, none⟩) (Int.tmod i 8) 4) (by decide)) <| qe) ?_
 refine WL_op <| Op_bz 0 (.agg [.ar eI x_0]) [.ar eI x_0] (Pt.at g 0) k_2 rfl .all ?_
 intro w_3 k_3
 have k_4 := k_3.sel (.k .z)
 refine Wn <| W_ret ?_
 obtain rfl := si hm
 refine At_rz [.agg [.ar eI x_0]] (qo (.agg [.ar eI x_0]) <| qc (fun w => Rd w (some ⟨g, 0, none⟩) (SV.cl [.ar eI x_0])) (k_4.brd 0 rfl) <| qe) ?_
 have k_5 := k_4.sel .z
 exact ⟨rfl, k_5⟩
theorem c_r01_Rest (n : Int) (m_ : Int) (k : Cx F O w w []) (r : Int) (hm : m_r01_Rest n m_ = some r) :
    Calls Tryz.prog 128 (vals [I n, I m_]) w (fun e w' => e = .returned (SV.val (I r)) ∧ Cx F O w w' []) := by
 unfold m_r01_Rest at hm
 refine calz [I n, I m_] Tryz.func128 rfl ?_
 refine Wz .a ?_
 refine W_seq ?_
 obtain ⟨u, h_u, hm⟩ := ob hm
 refine Wa (.n 5 (I (Int.tmod n m_)) (.s .a)) (qp (m_ ≠ 0) (need_some h_u) <| qe) ?_
 refine W_cut (fun L wr => ∃ (r_ : Int), m_r01_Rest_j0 r_ = some r ∧ L = [(5, I r_)] ∧ Cx F O w wr []) ?_ ?_
 ·
  refine Wz (.n 10 (.b (decide ((Int.tmod n m_) < 0))) .a) ?_
  refine W_pz ((Int.tmod n m_) < 0) (fun hc => ?_) fun hc => ?_
  · rw [if_pos hc] at hm
    refine W_q [] (.n 5 (I (w64 ((Int.tmod n m_) + m_))) .z) qe (by kernel_rfl) ?_
    exact At_cz ⟨w64 ((Int.tmod n m_) + m_), hm, rfl, k⟩
  rw [if_neg hc] at hm
  refine W_skip ?_
  exact At_cz ⟨Int.tmod n m_, hm, rfl, k⟩
 rintro L_ w_ ⟨r_, hm, rfl, k_⟩
 simp only [m_r01_Rest_j0] at hm
 refine Wz (.n 4 (I r_) .z) ?_
 refine W_ret ?_
 obtain rfl := si hm
 refine At_rz [I r_] qe ?_
 exact ⟨rfl, k_⟩
theorem c_r01_Digit (c : UInt8) (k : Cx F O w w []) (r : Int) (hm : m_r01_Digit c = some r) :
    Calls Tryz.prog 127 (vals [.u8 c]) w (fun e w' => e = .returned (SV.val (I r)) ∧ Cx F O w w' []) := by
 unfold m_r01_Digit at hm
 refine calz [.u8 c] Tryz.func127 rfl ?_
 refine Wz .a ?_
 refine W_seq <| W_block <| Wz (.n 3 (.b ((decide ((48 : UInt8) ≤ c)) && (decide (c ≤ 57)))) .a) ?_
 refine W_cz ((decide ((48 : UInt8) ≤ c)) && (decide (c ≤ 57))) (fun hc => ?_) fun hc => ?_
 · rw [if_pos hc] at hm
   refine Wz (.n 2 (I ((c - 48).toNat : Int)) .z) ?_
   refine W_ret (At_ir (At_tr ?_))
   obtain rfl := si hm
   refine At_rz [I ((c - 48).toNat : Int)] qe ?_
   exact ⟨rfl, k⟩
 rw [if_neg (by rw [hc]; decide)] at hm
 refine Wz (.n 13 (.b ((decide ((97 : UInt8) ≤ c)) && (decide (c ≤ 102)))) (.s .a)) ?_
 refine W_cz ((decide ((97 : UInt8) ≤ c)) && (decide (c ≤ 102))) (fun hc1 => ?_) fun hc1 => ?_
 · rw [if_pos hc1] at hm
   refine Wz (.n 2 (I (w64 (((c - 97).toNat : Int) + 10))) .z) ?_
   refine W_ret (At_ir (At_tr ?_))
   obtain rfl := si hm
   refine At_rz [I (w64 (((c - 97).toNat : Int) + 10))] qe ?_
   exact ⟨rfl, k⟩
 rw [if_neg (by rw [hc1]; decide)] at hm
 refine Wz (.n 24 (.b ((decide ((65 : UInt8) ≤ c)) && (decide (c ≤ 70)))) (.s .a)) ?_
 refine W_cz ((decide ((65 : UInt8) ≤ c)) && (decide (c ≤ 70))) (fun hc2 => ?_) fun hc2 => ?_
 · rw [if_pos hc2] at hm
   refine Wz (.n 2 (I (w64 (((c - 65).toNat : Int) + 10))) .z) ?_
   refine W_ret (At_ir (At_tr ?_))
   obtain rfl := si hm
   refine At_rz [I (w64 (((c - 65).toNat : Int) + 10))] qe ?_
   exact ⟨rfl, k⟩
 rw [if_neg (by rw [hc2]; decide)] at hm
 refine W_skip <| At_in <| At_go <| Wz (.n 2 (I (-1)) .z) ?_
 refine W_ret ?_
 obtain rfl := si hm
 refine At_rz [I (-1)] qe ?_
 exact ⟨rfl, k⟩
theorem c_r03_Sigma (round : Int) (i : Int) (k : Cx F O w w []) (r : Int) (hm : m_r03_Sigma round i = some r) :
    Calls Tryz.prog 112 (vals [I round, I i]) w (fun e w' => e = .returned (SV.val (I r)) ∧ Cx F O w w' []) := by
 unfold m_r03_Sigma at hm
 refine calz [I round, I i] Tryz.func112 rfl ?_
 refine Wz .a ?_
 refine W_seq <| W_reg <| We 1 (.n 5 (I round) (.s .a)) ?_
 refine WL_op ?_
 obtain ⟨r_, h_r_, hm⟩ := ob hm
 refine Op_cz 6 mr_go128 (c_r01_Rest (F := N0) (O := N0) _ _ (Cx.refl _) _ h_r_) ?_
 rintro e_ w_ ⟨rfl, k_⟩
 have k_1 := k.call k_
 refine ⟨I r_, rfl, ?_⟩
 obtain ⟨c, h_c, hm⟩ := ob hm
 refine Wl 4 (.n 10 (.u8 c) .z) (qX h_c <| qe) ?_
 refine WL_op ?_
 obtain ⟨r_1, h_r_1, hm⟩ := ob hm
 refine Op_cz 11 mr_go127 (c_r01_Digit (F := N0) (O := N0) _ (Cx.refl _) _ h_r_1) ?_
 rintro e_ w_1 ⟨rfl, k_2⟩
 have k_3 := k_1.call k_2
 refine ⟨I r_1, rfl, ?_⟩
 refine We 1 (.n 4 (I r_1) .z) ?_
 refine Wn <| W_ret ?_
 obtain rfl := si hm
 refine At_rz [I r_1] qe ?_
 exact ⟨rfl, k_3⟩
theorem c_r03_place (a_ : Int) (k : Cx F O w w []) (r : Bool) (hm : m_r03_place a_ = some r) :
    Calls Tryz.prog 125 (vals [I a_]) w (fun e w' => e = .returned (SV.val (.b r)) ∧ Cx F O w w' []) := by
 unfold m_r03_place at hm
 refine calz [I a_] Tryz.func125 rfl ?_
 refine Wz .a ?_
 refine Wz (.n 2 (.b ((decide (0 ≤ a_)) && (decide (a_ ≤ 15)))) .z) ?_
 refine W_ret ?_
 obtain rfl := si hm
 refine At_rz [.b ((decide (0 ≤ a_)) && (decide (a_ ≤ 15)))] qe ?_
 exact ⟨rfl, k⟩
theorem c_r01_Turn64 (w_ : UInt64) (n : Int) (k : Cx F O w w []) (r : UInt64) (hm : m_r01_Turn64 w_ n = some r) :
    Calls Tryz.prog 126 (vals [.u64 w_, I n]) w (fun e w' => e = .returned (SV.val (.u64 r)) ∧ Cx F O w w' []) := by
 unfold m_r01_Turn64 at hm
 refine calz [.u64 w_, I n] Tryz.func126 rfl ?_
 refine Wz .a ?_
 refine W_seq <| W_reg <| We 1 (.n 6 (I n) (.k .z)) ?_
 refine WL_op ?_
 obtain ⟨r_, h_r_, hm⟩ := ob hm
 refine Op_cz 7 mr_go128 (c_r01_Rest (F := N0) (O := N0) _ _ (Cx.refl _) _ h_r_) ?_
 rintro e_ w_1 ⟨rfl, k_⟩
 have k_1 := k.call k_
 refine ⟨I r_, rfl, ?_⟩
 refine We 1 (.n 5 (I r_) (.ss .a)) ?_
 refine Wn <| W_seq <| Wz (.n 9 (.b (decide (r_ = 0))) .a) ?_
 refine W_pz (r_ = 0) (fun hc => ?_) fun hc => ?_
 · rw [if_pos hc] at hm
   refine Wz (.n 4 (.u64 w_) .z) ?_
   refine W_ret (At_tr ?_)
   obtain rfl := si hm
   refine At_rz [.u64 w_] qe ?_
   exact ⟨rfl, k_1⟩
 rw [if_neg hc] at hm
 refine W_skip <| At_go <| W_seq ?_
 obtain ⟨u, h_u, hm⟩ := ob hm
 obtain ⟨u1, h_u1, hm⟩ := ob hm
 refine W_d mr_mixed (by kernel_rfl) (.n 4 (.u64 ((shr64 w_ (Int.toNat r_)) ||| (shl64 w_ (Int.toNat (w64 (64 - r_)))))) .z) (fun m => qp (0 ≤ r_) (need_some h_u) <| qp (0 ≤ w64 (64 - r_)) (need_some h_u1) <| qe) (by kernel_rfl) (fun m_ => ?_)
 have k_2 := k_1.drew m_
 refine At_go <| W_ret ?_
 obtain rfl := si hm
 refine At_rz [.u64 ((shr64 w_ (Int.toNat r_)) ||| (shl64 w_ (Int.toNat (w64 (64 - r_)))))] qe ?_
 exact ⟨rfl, k_2⟩
theorem c_r03_G (v : Vec UInt64 16) (a_ : Int) (b : Int) (c : Int) (d : Int) (x_ : UInt64) (y_ : UInt64) (k : Cx F O w w []) (r : (Vec UInt64 16 × Int)) (hm : m_r03_G v a_ b c d x_ y_ = some r) :
    Calls Tryz.prog 111 (vals [.agg [.ar e64 v], I a_, I b, I c, I d, .u64 x_, .u64 y_]) w (fun e w' => e = .returned (SV.val (.tup [.agg [.ar e64 r.1], I r.2])) ∧ Cx F O w w' []) := by
 unfold m_r03_G at hm
 refine calz [.agg [.ar e64 v], I a_, I b, I c, I d, .u64 x_, .u64 y_] Tryz.func111 rfl ?_
 refine W_seq <| W_reg <| WL_op <| Op_box [] 7 (.agg [.ar e64 v]) [.ar e64 v] (by kernel_rfl) k ?_
 intro g w_ k_
 refine WL_op <| Op_alloc [] 14 [.ar e64 (Vec.rep 16 (0 : UInt64))] (by kernel_rfl) k_ ?_
 intro g1 w_1 k_1
 refine We 1 (.kk (.s .a)) ?_
 refine Wn <| W_seq <| W_seq <| W_reg <| We 1 (.n 16 (I a_) .a) ?_
 refine WL_op ?_
 obtain ⟨r_, h_r_, hm⟩ := ob hm
 refine Op_cz 17 mr_go125 (c_r03_place (F := N0) (O := N0) _ (Cx.refl _) _ h_r_) ?_
 rintro e_ w_2 ⟨rfl, k_2⟩
 have k_3 := k_1.call k_2
 refine ⟨.b r_, rfl, ?_⟩
 refine We 2 (.n 19 (.b (!r_)) (.ss .a)) ?_
 refine WL_sp 19 (!r_) (.s .a) (by kernel_rfl) (fun hg => ?_) (fun hg => ?_)
 · rw [if_pos hg] at hm
   refine WLs 5 [19] (.n 24 (.b true) (.s .a)) qe (by kernel_rfl) ?_
   refine WLs 5 [24] (.n 29 (.b true) (.s .a)) qe (by kernel_rfl) ?_
   refine WLs 34 [29, 34, 39, 44, 49, 54, 59] (.n 63 (.b true) (.s .a)) qe (by kernel_rfl) ?_
   refine Wn <| W_cond true (by kernel_rfl) (fun _ => ?_) (fun h => by cases h)
   refine W_seq <| W_reg <| We 1 (.n 64 (.agg [.ar e64 (Vec.rep 16 ((0 : UInt64) : UInt64))]) (.s (.k .z))) ?_
   refine WL_op <| Op_bz 1 (.agg [.ar e64 (Vec.rep 16 ((0 : UInt64) : UInt64))]) [.ar e64 (Vec.rep 16 ((0 : UInt64) : UInt64))] (Pt.at g1 0) k_3 rfl .all ?_
   intro w_3 k_4
   have k_5 := k_4.sel (.s (.k .e))
   refine We 1 (.n 15 (I 1) (.s .a)) ?_
   refine Wn <| W_ret (At_tr ?_)
   obtain rfl := si hm
   refine At_rz [.agg [.ar e64 (Vec.rep 16 ((0 : UInt64) : UInt64))], I 1] (qo (.agg [.ar e64 (Vec.rep 16 ((0 : UInt64) : UInt64))]) <| qc (fun w => Rd w (some ⟨g1, 0, none⟩) (SV.cl [.ar e64 (Vec.rep 16 ((0 : UInt64) : UInt64))])) (k_5.brd 0 rfl) <| qe) ?_
   have k_6 := k_5.sel .z
   exact ⟨rfl, k_6⟩
 · rw [if_neg (by rw [hg]; decide)] at hm
   refine WLs 1 [19] (.n 20 (I b) .a) qe (by kernel_rfl) ?_
   refine WL_op ?_
   obtain ⟨r_1, h_r_1, hm⟩ := ob hm
   refine Op_call [19] 21 _ mr_go125 (by kernel_rfl) (c_r03_place (F := N0) (O := N0) _ (Cx.refl _) _ h_r_1) ?_
   rintro e_ w_4 ⟨rfl, k_7⟩
   have k_8 := k_3.call k_7
   refine ⟨.b r_1, rfl, ?_⟩
   refine WLs 3 [19] (.n 24 (.b (!r_1)) (.sss .a)) qe (by kernel_rfl) ?_
   refine WL_sp 24 (!r_1) (.s .a) (by kernel_rfl) (fun hg1 => ?_) (fun hg1 => ?_)
   · rw [if_pos hg1] at hm
     refine WLs 5 [24] (.n 29 (.b true) (.s .a)) qe (by kernel_rfl) ?_
     refine WLs 34 [29, 34, 39, 44, 49, 54, 59] (.n 63 (.b true) (.s .a)) qe (by kernel_rfl) ?_
     refine Wn <| W_cond true (by kernel_rfl) (fun _ => ?_) (fun h => by cases h)
     refine W_seq <| W_reg <| We 1 (.n 64 (.agg [.ar e64 (Vec.rep 16 ((0 : UInt64) : UInt64))]) (.s (.k .z))) ?_
     refine WL_op ?_
     have k_9 := k_8.sel (.kk .e)
     refine Op_bz 1 (.agg [.ar e64 (Vec.rep 16 ((0 : UInt64) : UInt64))]) [.ar e64 (Vec.rep 16 ((0 : UInt64) : UInt64))] (Pt.at g1 0) k_9 rfl .all ?_
     intro w_5 k_10
     have k_11 := k_10.sel (.s (.k .e))
     refine We 1 (.n 15 (I 1) (.s .a)) ?_
     refine Wn <| W_ret (At_tr ?_)
     obtain rfl := si hm
     refine At_rz [.agg [.ar e64 (Vec.rep 16 ((0 : UInt64) : UInt64))], I 1] (qo (.agg [.ar e64 (Vec.rep 16 ((0 : UInt64) : UInt64))]) <| qc (fun w => Rd w (some ⟨g1, 0, none⟩) (SV.cl [.ar e64 (Vec.rep 16 ((0 : UInt64) : UInt64))])) (k_11.brd 0 rfl) <| qe) ?_
     have k_12 := k_11.sel .z
     exact ⟨rfl, k_12⟩
   · rw [if_neg (by rw [hg1]; decide)] at hm
     refine WLs 1 [24] (.n 25 (I c) .a) qe (by kernel_rfl) ?_
     refine WL_op ?_
     have k_13 := k_8.sel (.kk .e)
     obtain ⟨r_2, h_r_2, hm⟩ := ob hm
     refine Op_call [24] 26 _ mr_go125 (by kernel_rfl) (c_r03_place (F := N0) (O := N0) _ (Cx.refl _) _ h_r_2) ?_
     rintro e_ w_6 ⟨rfl, k_14⟩
     have k_15 := k_13.call k_14
     refine ⟨.b r_2, rfl, ?_⟩
     refine WLs 3 [24] (.n 29 (.b (!r_2)) (.sss .a)) qe (by kernel_rfl) ?_
     refine WL_sp 29 (!r_2) (.s .a) (by kernel_rfl) (fun hg2 => ?_) (fun hg2 => ?_)
     · rw [if_pos hg2] at hm
       refine WLs 34 [29, 34, 39, 44, 49, 54, 59] (.n 63 (.b true) (.s .a)) qe (by kernel_rfl) ?_
       refine Wn <| W_cond true (by kernel_rfl) (fun _ => ?_) (fun h => by cases h)
       refine W_seq <| W_reg <| We 1 (.n 64 (.agg [.ar e64 (Vec.rep 16 ((0 : UInt64) : UInt64))]) (.s (.k .z))) ?_
       refine WL_op <| Op_bz 1 (.agg [.ar e64 (Vec.rep 16 ((0 : UInt64) : UInt64))]) [.ar e64 (Vec.rep 16 ((0 : UInt64) : UInt64))] (Pt.at g1 0) k_15 rfl .all ?_
       intro w_7 k_16
       have k_17 := k_16.sel (.s (.k .e))
       refine We 1 (.n 15 (I 1) (.s .a)) ?_
       refine Wn <| W_ret (At_tr ?_)
       obtain rfl := si hm
       refine At_rz [.agg [.ar e64 (Vec.rep 16 ((0 : UInt64) : UInt64))], I 1] (qo (.agg [.ar e64 (Vec.rep 16 ((0 : UInt64) : UInt64))]) <| qc (fun w => Rd w (some ⟨g1, 0, none⟩) (SV.cl [.ar e64 (Vec.rep 16 ((0 : UInt64) : UInt64))])) (k_17.brd 0 rfl) <| qe) ?_
       have k_18 := k_17.sel .z
       exact ⟨rfl, k_18⟩
     · rw [if_neg (by rw [hg2]; decide)] at hm
       refine WLs 1 [29] (.n 30 (I d) .a) qe (by kernel_rfl) ?_
       refine WL_op ?_
       obtain ⟨r_3, h_r_3, hm⟩ := ob hm
       refine Op_call [29] 31 _ mr_go125 (by kernel_rfl) (c_r03_place (F := N0) (O := N0) _ (Cx.refl _) _ h_r_3) ?_
       rintro e_ w_8 ⟨rfl, k_19⟩
       have k_20 := k_15.call k_19
       refine ⟨.b r_3, rfl, ?_⟩
       refine WLs 32 [29] (.n 63 (.b (((((((!r_3) || (decide (a_ = b))) || (decide (a_ = c))) || (decide (a_ = d))) || (decide (b = c))) || (decide (b = d))) || (decide (c = d)))) (.sss .a)) qe (by kernel_rfl) ?_
       refine Wn <| W_cz (((((((!r_3) || (decide (a_ = b))) || (decide (a_ = c))) || (decide (a_ = d))) || (decide (b = c))) || (decide (b = d))) || (decide (c = d))) (fun hc => ?_) fun hc => ?_
       · rw [if_pos hc] at hm
         refine W_seq <| W_reg <| We 1 (.n 64 (.agg [.ar e64 (Vec.rep 16 ((0 : UInt64) : UInt64))]) (.s (.k .z))) ?_
         refine WL_op <| Op_bz 1 (.agg [.ar e64 (Vec.rep 16 ((0 : UInt64) : UInt64))]) [.ar e64 (Vec.rep 16 ((0 : UInt64) : UInt64))] (Pt.at g1 0) k_20 rfl .all ?_
         intro w_9 k_21
         have k_22 := k_21.sel (.s (.k .e))
         refine We 1 (.n 15 (I 1) (.s .a)) ?_
         refine Wn <| W_ret (At_tr ?_)
         obtain rfl := si hm
         refine At_rz [.agg [.ar e64 (Vec.rep 16 ((0 : UInt64) : UInt64))], I 1] (qo (.agg [.ar e64 (Vec.rep 16 ((0 : UInt64) : UInt64))]) <| qc (fun w => Rd w (some ⟨g1, 0, none⟩) (SV.cl [.ar e64 (Vec.rep 16 ((0 : UInt64) : UInt64))])) (k_22.brd 0 rfl) <| qe) ?_
         have k_23 := k_22.sel .z
         exact ⟨rfl, k_23⟩
       rw [if_neg (by rw [hc]; decide)] at hm
       refine W_skip <| At_go <| W_seq ?_
       have k_24 := k_20.drew 1
       refine W_m mr_mixed (.q 0 0 (.q 1 0 (.q 2 0 (.q 3 0 (.q 4 0 (.q 5 0 (.q 6 0 (.q 7 0 (.q 8 0 (.q 9 0 (.q 10 0 (.op 11 .nil)))))))))))) [11] k_24 (.c (.s (.k .e)) .l) (by kernel_rfl) (fun _ => ?_)
       obtain ⟨x_3, zh3, hm⟩ := ob hm
       obtain ⟨x_4, zh4, hm⟩ := ob hm
       obtain ⟨x_5, zh5, hm⟩ := ob hm
       refine MXz 11 0 (.n 74 (.u64 ((x_3 + x_4) + x_)) (.n 75 (.v (.pointer (ixA (some ⟨g, 0, none⟩) a_ 1))) (.s (.kkkk (.kk (.s .a)))))) (fun x hx => qV (hx.vrd 0 rfl e64 v 0 (by kernel_rfl)) zh3 rfl (.u64 x_3) rfl <| qV (hx.vrd 0 rfl e64 v 0 (by kernel_rfl)) zh4 rfl (.u64 x_4) rfl <| qI g 0 zh5 <| qe) fun _ => ?_
       refine MX_op (by kernel_rfl) rfl ?_
       obtain ⟨v1, h_v1, hm⟩ := nm hm
       refine Op_vz 0 (.u64 ((x_3 + x_4) + x_)) [.u64 ((x_3 + x_4) + x_)] h_v1 zh5 (Pt.ix0 (Pt.at g 0) a_ 1) k_24 rfl .h rfl ?_
       intro w_10 k_25
       refine ⟨(k_25.sel (.s (.k .e))), fun _ => ?_⟩
       refine MX_nil <| At_go <| W_seq ?_
       have k_26 := k_25.drew 1
       refine W_m mr_mixed (.q 0 1 (.q 1 1 (.q 2 1 (.q 3 1 (.q 4 1 (.q 5 1 (.q 6 1 (.q 7 0 (.op 8 (.q 9 1 (.op 10 .nil))))))))))) [8, 10] k_26 (.c (.kk .e) (.c (.s (.k .e)) .l)) (by kernel_rfl) (fun _ => ?_)
       obtain ⟨x_6, zh6, hm⟩ := ob hm
       obtain ⟨x_7, zh7, hm⟩ := ob hm
       refine MXz 7 1 (.n 76 (I d) (.n 79 (.u64 x_6) (.n 82 (.u64 x_7) (.ss .a)))) (fun x hx => qV (hx.vrd 0 rfl e64 v1 0 (by kernel_rfl)) zh6 rfl (.u64 x_6) rfl <| qV (hx.vrd 0 rfl e64 v1 0 (by kernel_rfl)) zh7 rfl (.u64 x_7) rfl <| qe) fun _ => ?_
       refine MXz 1 0 (.n 83 (.u64 (x_6 ^^^ x_7)) (.k (.ss .a))) (fun x hx => qe) fun _ => ?_
       refine MX_op (by kernel_rfl) rfl ?_
       obtain ⟨r_4, h_r_4, hm⟩ := ob hm
       refine Op_cz 84 mr_go126 (c_r01_Turn64 (F := N0) (O := N0) _ _ (Cx.refl _) _ h_r_4) ?_
       rintro e_ w_11 ⟨rfl, k_27⟩
       have k_28 := k_26.call k_27
       refine ⟨.u64 r_4, rfl, ?_⟩
       refine ⟨k_28, fun _ => ?_⟩
       obtain ⟨x_8, zh8, hm⟩ := ob hm
       refine MXz 1 1 (.n 85 (.v (.pointer (ixA (some ⟨g, 0, none⟩) d 1))) (.k (.ss .a))) (fun x hx => qI g 0 zh8 <| qe) fun _ => ?_
       refine MX_op (by kernel_rfl) rfl ?_
       have k_29 := k_28.sel (.kk .e)
       obtain ⟨v2, h_v2, hm⟩ := nm hm
       refine Op_vz 0 (.u64 r_4) [.u64 r_4] h_v2 zh8 (Pt.ix0 (Pt.at g 0) d 1) k_29 rfl .h rfl ?_
       intro w_12 k_30
       refine ⟨(k_30.sel (.s (.k .e))), fun _ => ?_⟩
       refine MX_nil <| At_go <| W_seq ?_
       have k_31 := k_30.drew 1
       refine W_m mr_mixed (.q 0 0 (.q 1 0 (.q 2 0 (.q 3 0 (.q 4 0 (.q 5 0 (.q 6 0 (.q 7 0 (.q 8 0 (.op 9 .nil)))))))))) [9] k_31 (.c (.s (.k .e)) .l) (by kernel_rfl) (fun _ => ?_)
       obtain ⟨x_9, zh9, hm⟩ := ob hm
       obtain ⟨x_10, zh10, hm⟩ := ob hm
       obtain ⟨x_11, zh11, hm⟩ := ob hm
       refine MXz 9 0 (.n 93 (.u64 (x_9 + x_10)) (.n 94 (.v (.pointer (ixA (some ⟨g, 0, none⟩) c 1))) (.ss .a))) (fun x hx => qV (hx.vrd 0 rfl e64 v2 0 (by kernel_rfl)) zh9 rfl (.u64 x_9) rfl <| qV (hx.vrd 0 rfl e64 v2 0 (by kernel_rfl)) zh10 rfl (.u64 x_10) rfl <| qI g 0 zh11 <| qe) fun _ => ?_
       refine MX_op (by kernel_rfl) rfl ?_
       obtain ⟨v3, h_v3, hm⟩ := nm hm
       refine Op_vz 0 (.u64 (x_9 + x_10)) [.u64 (x_9 + x_10)] h_v3 zh11 (Pt.ix0 (Pt.at g 0) c 1) k_31 rfl .h rfl ?_
       intro w_13 k_32
       refine ⟨(k_32.sel (.s (.k .e))), fun _ => ?_⟩
       refine MX_nil <| At_go <| W_seq ?_
       have k_33 := k_32.drew 1
       refine W_m mr_mixed (.q 0 1 (.q 1 1 (.q 2 1 (.q 3 1 (.q 4 1 (.q 5 1 (.q 6 1 (.q 7 0 (.op 8 (.q 9 1 (.op 10 .nil))))))))))) [8, 10] k_33 (.c (.kk .e) (.c (.s (.k .e)) .l)) (by kernel_rfl) (fun _ => ?_)
       obtain ⟨x_12, zh12, hm⟩ := ob hm
       obtain ⟨x_13, zh13, hm⟩ := ob hm
       refine MXz 7 1 (.n 95 (I b) (.n 98 (.u64 x_12) (.n 101 (.u64 x_13) (.ss .a)))) (fun x hx => qV (hx.vrd 0 rfl e64 v3 0 (by kernel_rfl)) zh12 rfl (.u64 x_12) rfl <| qV (hx.vrd 0 rfl e64 v3 0 (by kernel_rfl)) zh13 rfl (.u64 x_13) rfl <| qe) fun _ => ?_
       refine MXz 1 0 (.n 102 (.u64 (x_12 ^^^ x_13)) (.k (.ss .a))) (fun x hx => qe) fun _ => ?_
       refine MX_op (by kernel_rfl) rfl ?_
       obtain ⟨r_5, h_r_5, hm⟩ := ob hm
       refine Op_cz 103 mr_go126 (c_r01_Turn64 (F := N0) (O := N0) _ _ (Cx.refl _) _ h_r_5) ?_
       rintro e_ w_14 ⟨rfl, k_34⟩
       have k_35 := k_33.call k_34
       refine ⟨.u64 r_5, rfl, ?_⟩
       refine ⟨k_35, fun _ => ?_⟩
       obtain ⟨x_14, zh14, hm⟩ := ob hm
       refine MXz 1 1 (.n 104 (.v (.pointer (ixA (some ⟨g, 0, none⟩) b 1))) (.k (.ss .a))) (fun x hx => qI g 0 zh14 <| qe) fun _ => ?_
       refine MX_op (by kernel_rfl) rfl ?_
       obtain ⟨v4, h_v4, hm⟩ := nm hm
       refine Op_vz 0 (.u64 r_5) [.u64 r_5] h_v4 zh14 (Pt.ix0 (Pt.at g 0) b 1) k_35 rfl .h rfl ?_
       intro w_15 k_36
       refine ⟨(k_36.sel (.s (.k .e))), fun _ => ?_⟩
       refine MX_nil <| At_go <| W_seq ?_
       have k_37 := k_36.drew 1
       refine W_m mr_mixed (.q 0 0 (.q 1 0 (.q 2 0 (.q 3 0 (.q 4 0 (.q 5 0 (.q 6 0 (.q 7 0 (.q 8 0 (.q 9 0 (.q 10 0 (.op 11 .nil)))))))))))) [11] k_37 (.c (.s (.k .e)) .l) (by kernel_rfl) (fun _ => ?_)
       obtain ⟨x_15, zh15, hm⟩ := ob hm
       obtain ⟨x_16, zh16, hm⟩ := ob hm
       obtain ⟨x_17, zh17, hm⟩ := ob hm
       refine MXz 11 0 (.n 114 (.u64 ((x_15 + x_16) + y_)) (.n 115 (.v (.pointer (ixA (some ⟨g, 0, none⟩) a_ 1))) (.ss (.kkkk (.kk .z))))) (fun x hx => qV (hx.vrd 0 rfl e64 v4 0 (by kernel_rfl)) zh15 rfl (.u64 x_15) rfl <| qV (hx.vrd 0 rfl e64 v4 0 (by kernel_rfl)) zh16 rfl (.u64 x_16) rfl <| qI g 0 zh17 <| qe) fun _ => ?_
       refine MX_op (by kernel_rfl) rfl ?_
       have k_38 := k_37.sel (.kk .e)
       obtain ⟨v5, h_v5, hm⟩ := nm hm
       refine Op_vz 0 (.u64 ((x_15 + x_16) + y_)) [.u64 ((x_15 + x_16) + y_)] h_v5 zh17 (Pt.ix0 (Pt.at g 0) a_ 1) k_38 rfl .h rfl ?_
       intro w_16 k_39
       refine ⟨(k_39.sel (.s (.k .e))), fun _ => ?_⟩
       refine MX_nil <| At_go <| W_seq ?_
       have k_40 := k_39.drew 1
       refine W_m mr_mixed (.q 0 1 (.q 1 1 (.q 2 1 (.q 3 1 (.q 4 1 (.q 5 1 (.q 6 1 (.q 7 0 (.op 8 (.q 9 1 (.op 10 .nil))))))))))) [8, 10] k_40 (.c (.kk .e) (.c (.s (.k .e)) .l)) (by kernel_rfl) (fun _ => ?_)
       obtain ⟨x_18, zh18, hm⟩ := ob hm
       obtain ⟨x_19, zh19, hm⟩ := ob hm
       refine MXz 7 1 (.n 116 (I d) (.n 119 (.u64 x_18) (.n 122 (.u64 x_19) (.ss (.kk (.s .a)))))) (fun x hx => qV (hx.vrd 0 rfl e64 v5 0 (by kernel_rfl)) zh18 rfl (.u64 x_18) rfl <| qV (hx.vrd 0 rfl e64 v5 0 (by kernel_rfl)) zh19 rfl (.u64 x_19) rfl <| qe) fun _ => ?_
       refine MXz 1 0 (.n 123 (.u64 (x_18 ^^^ x_19)) (.k (.ss .a))) (fun x hx => qe) fun _ => ?_
       refine MX_op (by kernel_rfl) rfl ?_
       obtain ⟨r_6, h_r_6, hm⟩ := ob hm
       refine Op_cz 124 mr_go126 (c_r01_Turn64 (F := N0) (O := N0) _ _ (Cx.refl _) _ h_r_6) ?_
       rintro e_ w_17 ⟨rfl, k_41⟩
       have k_42 := k_40.call k_41
       refine ⟨.u64 r_6, rfl, ?_⟩
       refine ⟨k_42, fun _ => ?_⟩
       obtain ⟨x_20, zh20, hm⟩ := ob hm
       refine MXz 1 1 (.n 125 (.v (.pointer (ixA (some ⟨g, 0, none⟩) d 1))) (.k (.ss .a))) (fun x hx => qI g 0 zh20 <| qe) fun _ => ?_
       refine MX_op (by kernel_rfl) rfl ?_
       obtain ⟨v6, h_v6, hm⟩ := nm hm
       refine Op_vz 0 (.u64 r_6) [.u64 r_6] h_v6 zh20 (Pt.ix0 (Pt.at g 0) d 1) k_42 rfl .h rfl ?_
       intro w_18 k_43
       refine ⟨(k_43.sel (.s (.k .e))), fun _ => ?_⟩
       refine MX_nil <| At_go <| W_seq ?_
       have k_44 := k_43.drew 1
       refine W_m mr_mixed (.q 0 0 (.q 1 0 (.q 2 0 (.q 3 0 (.q 4 0 (.q 5 0 (.q 6 0 (.q 7 0 (.q 8 0 (.op 9 .nil)))))))))) [9] k_44 (.c (.s (.k .e)) .l) (by kernel_rfl) (fun _ => ?_)
       obtain ⟨x_21, zh21, hm⟩ := ob hm
       obtain ⟨x_22, zh22, hm⟩ := ob hm
       obtain ⟨x_23, zh23, hm⟩ := ob hm
       refine MXz 9 0 (.n 133 (.u64 (x_21 + x_22)) (.n 134 (.v (.pointer (ixA (some ⟨g, 0, none⟩) c 1))) (.ss (.kkkk .z)))) (fun x hx => qV (hx.vrd 0 rfl e64 v6 0 (by kernel_rfl)) zh21 rfl (.u64 x_21) rfl <| qV (hx.vrd 0 rfl e64 v6 0 (by kernel_rfl)) zh22 rfl (.u64 x_22) rfl <| qI g 0 zh23 <| qe) fun _ => ?_
       refine MX_op (by kernel_rfl) rfl ?_
       obtain ⟨v7, h_v7, hm⟩ := nm hm
       refine Op_vz 0 (.u64 (x_21 + x_22)) [.u64 (x_21 + x_22)] h_v7 zh23 (Pt.ix0 (Pt.at g 0) c 1) k_44 rfl .h rfl ?_
       intro w_19 k_45
       refine ⟨(k_45.sel (.s (.k .e))), fun _ => ?_⟩
       refine MX_nil <| At_go <| W_seq ?_
       have k_46 := k_45.drew 1
       refine W_m mr_mixed (.q 0 1 (.q 1 1 (.q 2 1 (.q 3 1 (.q 4 1 (.q 5 1 (.q 6 1 (.q 7 0 (.op 8 (.q 9 1 (.op 10 .nil))))))))))) [8, 10] k_46 (.c (.kk .e) (.c (.s (.k .e)) .l)) (by kernel_rfl) (fun _ => ?_)
       obtain ⟨x_24, zh24, hm⟩ := ob hm
       obtain ⟨x_25, zh25, hm⟩ := ob hm
       refine MXz 7 1 (.n 135 (I b) (.n 138 (.u64 x_24) (.n 141 (.u64 x_25) (.ss (.kk .z))))) (fun x hx => qV (hx.vrd 0 rfl e64 v7 0 (by kernel_rfl)) zh24 rfl (.u64 x_24) rfl <| qV (hx.vrd 0 rfl e64 v7 0 (by kernel_rfl)) zh25 rfl (.u64 x_25) rfl <| qe) fun _ => ?_
       refine MXz 1 0 (.n 142 (.u64 (x_24 ^^^ x_25)) (.k (.ss .a))) (fun x hx => qe) fun _ => ?_
       refine MX_op (by kernel_rfl) rfl ?_
       have k_47 := k_46.sel (.kk .e)
       obtain ⟨r_7, h_r_7, hm⟩ := ob hm
       refine Op_cz 143 mr_go126 (c_r01_Turn64 (F := N0) (O := N0) _ _ (Cx.refl _) _ h_r_7) ?_
       rintro e_ w_20 ⟨rfl, k_48⟩
       have k_49 := k_47.call k_48
       refine ⟨.u64 r_7, rfl, ?_⟩
       refine ⟨k_49, fun _ => ?_⟩
       obtain ⟨x_26, zh26, hm⟩ := ob hm
       refine MXz 1 1 (.n 144 (.v (.pointer (ixA (some ⟨g, 0, none⟩) b 1))) (.k (.ss .a))) (fun x hx => qI g 0 zh26 <| qe) fun _ => ?_
       refine MX_op (by kernel_rfl) rfl ?_
       obtain ⟨v8, h_v8, hm⟩ := nm hm
       refine Op_vz 0 (.u64 r_7) [.u64 r_7] h_v8 zh26 (Pt.ix0 (Pt.at g 0) b 1) k_49 rfl .h rfl ?_
       intro w_21 k_50
       refine ⟨(k_50.sel (.s (.k .e))), fun _ => ?_⟩
       refine MX_nil <| At_go <| W_seq <| W_reg <| Wl 1 (.n 145 (.agg [.ar e64 v8]) (.ss (.k .z))) (qT k_50 0 rfl 0 16 [.ar e64 v8] (by kernel_rfl) (by decide) <| qe) ?_
       refine WL_op <| Op_bz 1 (.agg [.ar e64 v8]) [.ar e64 v8] (Pt.at g1 0) k_50 rfl .all ?_
       intro w_22 k_51
       have k_52 := k_51.sel (.s (.k .e))
       refine We 1 (.n 15 (I 0) (.s .a)) ?_
       refine Wn <| W_ret ?_
       obtain rfl := si hm
       refine At_rz [.agg [.ar e64 v8], I 0] (qo (.agg [.ar e64 v8]) <| qc (fun w => Rd w (some ⟨g1, 0, none⟩) (SV.cl [.ar e64 v8])) (k_52.brd 0 rfl) <| qe) ?_
       have k_53 := k_52.sel .z
       exact ⟨rfl, k_53⟩
theorem c_r03_Round (v : Vec UInt64 16) (m_ : Vec UInt64 16) (round : Int) (k : Cx F O w w []) (r : (Vec UInt64 16 × Int)) (hm : m_r03_Round v m_ round = some r) :
    Calls Tryz.prog 94 (vals [.agg [.ar e64 v], .agg [.ar e64 m_], I round]) w (fun e w' => e = .returned (SV.val (.tup [.agg [.ar e64 r.1], I r.2])) ∧ Cx F O w w' []) := by
 unfold m_r03_Round at hm
 refine calz [.agg [.ar e64 v], .agg [.ar e64 m_], I round] Tryz.func94 rfl ?_
 refine W_seq <| W_reg <| WL_op <| Op_box [] 3 (.agg [.ar e64 v]) [.ar e64 v] (by kernel_rfl) k ?_
 intro g w_ k_
 refine WL_op <| Op_box [] 4 (.agg [.ar e64 m_]) [.ar e64 m_] (by kernel_rfl) k_ ?_
 intro g1 w_1 k_1
 refine WL_op <| Op_alloc [] 6 [.ar e64 (Vec.rep 16 (0 : UInt64))] (by kernel_rfl) k_1 ?_
 intro g2 w_2 k_2
 refine We 1 (.kkk (.ss .a)) ?_
 refine Wn <| W_seq <| Wz (.n 15 (.b ((decide (round < 0)) || (decide (11 < round)))) .a) ?_
 refine W_cz ((decide (round < 0)) || (decide (11 < round))) (fun hc => ?_) fun hc => ?_
 · rw [if_pos hc] at hm
   refine W_seq <| W_reg <| We 1 (.n 16 (.agg [.ar e64 (Vec.rep 16 ((0 : UInt64) : UInt64))]) (.s (.k .z))) ?_
   refine WL_op <| Op_bz 2 (.agg [.ar e64 (Vec.rep 16 ((0 : UInt64) : UInt64))]) [.ar e64 (Vec.rep 16 ((0 : UInt64) : UInt64))] (Pt.at g2 0) k_2 rfl .all ?_
   intro w_3 k_3
   have k_4 := k_3.sel (.ss (.k .e))
   refine We 1 (.n 7 (I 1) (.s .a)) ?_
   refine Wn <| W_ret (At_tr ?_)
   obtain rfl := si hm
   refine At_rz [.agg [.ar e64 (Vec.rep 16 ((0 : UInt64) : UInt64))], I 1] (qo (.agg [.ar e64 (Vec.rep 16 ((0 : UInt64) : UInt64))]) <| qc (fun w => Rd w (some ⟨g2, 0, none⟩) (SV.cl [.ar e64 (Vec.rep 16 ((0 : UInt64) : UInt64))])) (k_4.brd 0 rfl) <| qe) ?_
   have k_5 := k_4.sel .z
   exact ⟨rfl, k_5⟩
 rw [if_neg (by rw [hc]; decide)] at hm
 refine W_skip <| At_go <| W_seq <| Wz (.n 8 (I 0) (.s .a)) ?_
 refine W_block <| W_lp (m_r03_Round_l0 m_ round) (fun s L wr => ∃ (v1 : Vec UInt64 16) (i : Int), (v1, i) = s ∧ L = [(2, I round), (3, pt g 0), (4, pt g1 0), (6, pt g2 0), (8, I i)] ∧ Cx F O w wr [Bx 107 g [.ar e64 v1], Bx 107 g1 [.ar e64 m_], Bx 107 g2 [.ar e64 (Vec.rep 16 (0 : UInt64))]]) (v, (0 : Int)) r hm ⟨v, (0 : Int), rfl, rfl, k_2⟩ (by kernel_rfl) ?_
 intro s0_ L_ w_4 y0 hrel hstep hr0
 obtain ⟨v1, i, rfl, rfl, k_6⟩ := hrel
 have hm := hstep; simp only [m_r03_Round_l0] at hm
 clear hstep
 refine W_seq <| Wz (.n 18 (.b (decide (i < 8))) .a) ?_
 refine W_pz (i < 8) (fun hc1 => ?_) fun hc1 => ?_
 · rw [if_pos hc1] at hm
   refine W_skip <| At_go <| W_seq <| W_block <| W_seq <| W_reg <| We 1 (.n 21 (I i) (.s .a)) ?_
   refine WL_op ?_
   obtain ⟨r_, h_r_, hm⟩ := ob hm
   refine Op_cz 22 mr_go110 (c_r03_Places (F := N0) (O := N0) _ (Cx.refl _) _ h_r_) ?_
   rintro e_ w_5 ⟨rfl, k_7⟩
   have k_8 := k_6.call k_7
   refine ⟨.agg [.ar eI r_], rfl, ?_⟩
   refine WL_op <| Op_alloc [] 9 [.ar eI (Vec.rep 4 (0 : Int))] (by kernel_rfl) k_8 ?_
   intro g3 w_6 k_9
   refine WL_op <| Op_bz 3 (.agg [.ar eI r_]) [.ar eI r_] (Pt.at g3 0) k_9 rfl .all ?_
   intro w_7 k_10
   refine WL_nil <| At_go ?_
   have k_11 := k_10.drew 1
   refine W_m mr_mixed (.q 0 2 (.q 9 2 (.q 15 2 (.q 1 3 (.q 2 2 (.q 3 3 (.q 4 2 (.q 5 3 (.q 6 2 (.q 7 3 (.q 8 2 (.q 10 3 (.q 11 2 (.q 16 3 (.q 17 3 (.q 18 2 (.op 12 (.q 13 3 (.q 14 2 (.op 19 (.q 20 3 (.q 21 2 (.op 22 (.q 23 3 (.q 24 3 (.q 25 4 (.op 26 .nil))))))))))))))))))))))))))) [12, 19, 22, 26] k_11 (.c (.kkkk .e) (.c (.kkkk .e) (.c (.kkkk .e) (.c (.s (.kk (.k .e))) .l)))) (by kernel_rfl) (fun _ => ?_)
   refine MXz 3 2 (.n 24 (.agg [.ar e64 v1]) (.n 33 (I round) (.n 39 (I round) (.k (.ss .a))))) (fun x hx => qT hx 0 rfl 0 16 [.ar e64 v1] (by kernel_rfl) (by decide) <| qe) fun _ => ?_
   obtain ⟨x_0, zh0, hm⟩ := ob hm
   refine MXz 1 3 (.n 25 (.v (.pointer (ixA (some ⟨g3, 0, none⟩) (0 : Int) 1))) .a) (fun x hx => qI g3 0 zh0 <| qe) fun _ => ?_
   refine MXz 1 2 (.n 26 (I x_0) (.s .a)) (fun x hx => qC (I x_0) (Rd.el (k := 0) (hx.vrd 3 rfl eI r_ 0 (by kernel_rfl)) zh0 (Pt.ix1 (some ⟨g3, 0, none⟩) (0 : Int) 1) rfl) <| qe) fun _ => ?_
   obtain ⟨x_2, zh2, hm⟩ := ob hm
   refine MXz 1 3 (.n 27 (.v (.pointer (ixA (some ⟨g3, 0, none⟩) (1 : Int) 1))) .a) (fun x hx => qI g3 0 zh2 <| qe) fun _ => ?_
   refine MXz 1 2 (.n 28 (I x_2) (.s .a)) (fun x hx => qC (I x_2) (Rd.el (k := 0) (hx.vrd 3 rfl eI r_ 0 (by kernel_rfl)) zh2 (Pt.ix1 (some ⟨g3, 0, none⟩) (1 : Int) 1) rfl) <| qe) fun _ => ?_
   obtain ⟨x_3, zh3, hm⟩ := ob hm
   refine MXz 1 3 (.n 29 (.v (.pointer (ixA (some ⟨g3, 0, none⟩) (2 : Int) 1))) .a) (fun x hx => qI g3 0 zh3 <| qe) fun _ => ?_
   refine MXz 1 2 (.n 30 (I x_3) (.s .a)) (fun x hx => qC (I x_3) (Rd.el (k := 0) (hx.vrd 3 rfl eI r_ 0 (by kernel_rfl)) zh3 (Pt.ix1 (some ⟨g3, 0, none⟩) (2 : Int) 1) rfl) <| qe) fun _ => ?_
   obtain ⟨x_4, zh4, hm⟩ := ob hm
   refine MXz 1 3 (.n 31 (.v (.pointer (ixA (some ⟨g3, 0, none⟩) (3 : Int) 1))) (.kkkk (.kk (.s .a)))) (fun x hx => qI g3 0 zh4 <| qe) fun _ => ?_
   refine MXz 1 2 (.n 32 (I x_4) (.s .a)) (fun x hx => qC (I x_4) (Rd.el (k := 0) (hx.vrd 3 rfl eI r_ 0 (by kernel_rfl)) zh4 (Pt.ix1 (some ⟨g3, 0, none⟩) (3 : Int) 1) rfl) <| qe) fun _ => ?_
   refine MXz 1 3 (.n 34 (I i) .a) (fun x hx => qe) fun _ => ?_
   refine MXz 1 2 (.n 35 (I (w64 (2 * i))) (.s .a)) (fun x hx => qe) fun _ => ?_
   refine MXz 2 3 (.n 41 (I (w64 (2 * i))) .a) (fun x hx => qe) fun _ => ?_
   refine MXz 1 2 (.n 42 (I (w64 ((w64 (2 * i)) + 1))) (.s .a)) (fun x hx => qe) fun _ => ?_
   refine MX_op (by kernel_rfl) rfl ?_
   obtain ⟨r_1, h_r_1, hm⟩ := ob hm
   refine Op_cz 36 mr_go112 (c_r03_Sigma (F := N0) (O := N0) _ _ (Cx.refl _) _ h_r_1) ?_
   rintro e_ w_8 ⟨rfl, k_12⟩
   have k_13 := k_11.call k_12
   refine ⟨I r_1, rfl, ?_⟩
   refine ⟨k_13, fun _ => ?_⟩
   obtain ⟨x_5, zh5, hm⟩ := ob hm
   refine MXz 1 3 (.n 37 (.v (.pointer (ixA (some ⟨g1, 0, none⟩) r_1 1))) (.s (.k (.s (.kkkk (.k (.s .a))))))) (fun x hx => qI g1 0 zh5 <| qe) fun _ => ?_
   refine MXz 1 2 (.n 38 (.u64 x_5) (.s .a)) (fun x hx => qC (.u64 x_5) (Rd.el (k := 0) (hx.vrd 1 rfl e64 m_ 0 (by kernel_rfl)) zh5 (Pt.ix1 (some ⟨g1, 0, none⟩) r_1 1) rfl) <| qe) fun _ => ?_
   refine MX_op (by kernel_rfl) rfl ?_
   have k_14 := k_13.sel (.kkkk .e)
   obtain ⟨r_2, h_r_2, hm⟩ := ob hm
   refine Op_cz 43 mr_go112 (c_r03_Sigma (F := N0) (O := N0) _ _ (Cx.refl _) _ h_r_2) ?_
   rintro e_ w_9 ⟨rfl, k_15⟩
   have k_16 := k_14.call k_15
   refine ⟨I r_2, rfl, ?_⟩
   refine ⟨k_16, fun _ => ?_⟩
   obtain ⟨x_6, zh6, hm⟩ := ob hm
   refine MXz 1 3 (.n 44 (.v (.pointer (ixA (some ⟨g1, 0, none⟩) r_2 1))) (.s (.k (.s (.kkkk (.k (.s .a))))))) (fun x hx => qI g1 0 zh6 <| qe) fun _ => ?_
   refine MXz 1 2 (.n 45 (.u64 x_6) (.s .a)) (fun x hx => qC (.u64 x_6) (Rd.el (k := 0) (hx.vrd 1 rfl e64 m_ 0 (by kernel_rfl)) zh6 (Pt.ix1 (some ⟨g1, 0, none⟩) r_2 1) rfl) <| qe) fun _ => ?_
   refine MX_op (by kernel_rfl) rfl ?_
   obtain ⟨r_3, h_r_3, hm⟩ := ob hm
   refine Op_cz 46 mr_go111 (c_r03_G (F := N0) (O := N0) _ _ _ _ _ _ _ (Cx.refl _) _ h_r_3) ?_
   rintro e_ w_10 ⟨rfl, k_17⟩
   have k_18 := k_16.call k_17
   refine ⟨.tup [.agg [.ar e64 r_3.1], I r_3.2], rfl, ?_⟩
   refine ⟨k_18, fun _ => ?_⟩
   refine MXz 2 3 (.n 23 (.tup [.agg [.ar e64 r_3.1], I r_3.2]) (.n 47 (.agg [.ar e64 r_3.1]) (.ssss (.ssss .a)))) (fun x hx => qe) fun _ => ?_
   refine MXz 1 4 (.s .a) (fun x hx => qe) fun _ => ?_
   refine MX_op (by kernel_rfl) rfl <| Op_bz 0 (.agg [.ar e64 r_3.1]) [.ar e64 r_3.1] (Pt.at g 0) k_18 rfl .all ?_
   intro w_11 k_19
   refine ⟨(k_19.sel (.s (.kk (.k .e)))), fun _ => ?_⟩
   refine MX_nil <| At_in <| At_go <| W_q [] (.n 8 (I (w64 (i + 1))) (.s (.kkkk .z))) qe (by kernel_rfl) ?_
   have k_20 := k_19.sel (.kk (.k .z))
   exact At_rd (r_3.1, w64 (i + 1)) (Option.some.inj hm).symm ⟨r_3.1, w64 (i + 1), rfl, rfl, k_20⟩ (by kernel_rfl)
 rw [if_neg hc1] at hm
 refine W_exit (At_te (At_te (At_ie ?_)))
 have hm := exit_of hm hr0
 refine At_go <| W_seq <| W_reg <| Wl 1 (.n 49 (.agg [.ar e64 v1]) (.ssss (.k .z))) (qT k_6 0 rfl 0 16 [.ar e64 v1] (by kernel_rfl) (by decide) <| qe) ?_
 refine WL_op <| Op_bz 2 (.agg [.ar e64 v1]) [.ar e64 v1] (Pt.at g2 0) k_6 rfl .all ?_
 intro w_12 k_21
 have k_22 := k_21.sel (.ss (.k .e))
 refine We 1 (.n 7 (I 0) (.s .a)) ?_
 refine Wn <| W_ret ?_
 obtain rfl := si hm
 refine At_rz [.agg [.ar e64 v1], I 0] (qo (.agg [.ar e64 v1]) <| qc (fun w => Rd w (some ⟨g2, 0, none⟩) (SV.cl [.ar e64 v1])) (k_22.brd 0 rfl) <| qe) ?_
 have k_23 := k_22.sel .z
 exact ⟨rfl, k_23⟩
end Go.Sx

