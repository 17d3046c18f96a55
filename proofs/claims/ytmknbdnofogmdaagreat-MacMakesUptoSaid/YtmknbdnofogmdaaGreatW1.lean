import Derived.Test.YtmknbdnofogmdaaGreatSyO
import Derived.Test.YtmknbdnofogmdaaGreatProg
namespace Go.Sx
open Go.RowKit Go.Proofs
set_option linter.unusedVariables false
set_option linter.unusedSimpArgs false
set_option maxRecDepth 20000
theorem yz_go8 : IsGo Tryz.prog 8 := ⟨⟨Tryz.f8, _, Tryz.func8, rfl, by kernel_rfl⟩⟩
theorem yz_go9 : IsGo Tryz.prog 9 := ⟨⟨Tryz.f9, _, Tryz.func9, rfl, by kernel_rfl⟩⟩
theorem yz_go10 : IsGo Tryz.prog 10 := ⟨⟨Tryz.f10, _, Tryz.func10, rfl, by kernel_rfl⟩⟩
theorem yz_go11 : IsGo Tryz.prog 11 := ⟨⟨Tryz.f11, _, Tryz.func11, rfl, by kernel_rfl⟩⟩
theorem yz_go12 : IsGo Tryz.prog 12 := ⟨⟨Tryz.f12, _, Tryz.func12, rfl, by kernel_rfl⟩⟩
theorem yz_go41 : IsGo Tryz.prog 41 := ⟨⟨Tryz.f41, _, Tryz.func41, rfl, by kernel_rfl⟩⟩
theorem yz_go42 : IsGo Tryz.prog 42 := ⟨⟨Tryz.f42, _, Tryz.func42, rfl, by kernel_rfl⟩⟩
theorem yz_go43 : IsGo Tryz.prog 43 := ⟨⟨Tryz.f43, _, Tryz.func43, rfl, by kernel_rfl⟩⟩
theorem yz_go45 : IsGo Tryz.prog 45 := ⟨⟨Tryz.f45, _, Tryz.func45, rfl, by kernel_rfl⟩⟩
theorem yz_go47 : IsGo Tryz.prog 47 := ⟨⟨Tryz.f47, _, Tryz.func47, rfl, by kernel_rfl⟩⟩
theorem yz_go48 : IsGo Tryz.prog 48 := ⟨⟨Tryz.f48, _, Tryz.func48, rfl, by kernel_rfl⟩⟩
theorem yz_go56 : IsGo Tryz.prog 56 := ⟨⟨Tryz.f56, _, Tryz.func56, rfl, by kernel_rfl⟩⟩
theorem yz_go57 : IsGo Tryz.prog 57 := ⟨⟨Tryz.f57, _, Tryz.func57, rfl, by kernel_rfl⟩⟩
theorem yz_go58 : IsGo Tryz.prog 58 := ⟨⟨Tryz.f58, _, Tryz.func58, rfl, by kernel_rfl⟩⟩
theorem yz_go59 : IsGo Tryz.prog 59 := ⟨⟨Tryz.f59, _, Tryz.func59, rfl, by kernel_rfl⟩⟩
theorem yz_go60 : IsGo Tryz.prog 60 := ⟨⟨Tryz.f60, _, Tryz.func60, rfl, by kernel_rfl⟩⟩
theorem yz_go61 : IsGo Tryz.prog 61 := ⟨⟨Tryz.f61, _, Tryz.func61, rfl, by kernel_rfl⟩⟩
theorem yz_go62 : IsGo Tryz.prog 62 := ⟨⟨Tryz.f62, _, Tryz.func62, rfl, by kernel_rfl⟩⟩
theorem yz_go67 : IsGo Tryz.prog 67 := ⟨⟨Tryz.f67, _, Tryz.func67, rfl, by kernel_rfl⟩⟩
theorem yz_go68 : IsGo Tryz.prog 68 := ⟨⟨Tryz.f68, _, Tryz.func68, rfl, by kernel_rfl⟩⟩
theorem yz_go69 : IsGo Tryz.prog 69 := ⟨⟨Tryz.f69, _, Tryz.func69, rfl, by kernel_rfl⟩⟩
theorem yz_go70 : IsGo Tryz.prog 70 := ⟨⟨Tryz.f70, _, Tryz.func70, rfl, by kernel_rfl⟩⟩
theorem yz_go71 : IsGo Tryz.prog 71 := ⟨⟨Tryz.f71, _, Tryz.func71, rfl, by kernel_rfl⟩⟩
theorem yz_go72 : IsGo Tryz.prog 72 := ⟨⟨Tryz.f72, _, Tryz.func72, rfl, by kernel_rfl⟩⟩
theorem yz_go73 : IsGo Tryz.prog 73 := ⟨⟨Tryz.f73, _, Tryz.func73, rfl, by kernel_rfl⟩⟩
theorem yz_go74 : IsGo Tryz.prog 74 := ⟨⟨Tryz.f74, _, Tryz.func74, rfl, by kernel_rfl⟩⟩
theorem yz_go75 : IsGo Tryz.prog 75 := ⟨⟨Tryz.f75, _, Tryz.func75, rfl, by kernel_rfl⟩⟩
theorem yz_go76 : IsGo Tryz.prog 76 := ⟨⟨Tryz.f76, _, Tryz.func76, rfl, by kernel_rfl⟩⟩
theorem yz_go77 : IsGo Tryz.prog 77 := ⟨⟨Tryz.f77, _, Tryz.func77, rfl, by kernel_rfl⟩⟩
theorem yz_go89 : IsGo Tryz.prog 89 := ⟨⟨Tryz.f89, _, Tryz.func89, rfl, by kernel_rfl⟩⟩
theorem yz_go90 : IsGo Tryz.prog 90 := ⟨⟨Tryz.f90, _, Tryz.func90, rfl, by kernel_rfl⟩⟩
theorem yz_go91 : IsGo Tryz.prog 91 := ⟨⟨Tryz.f91, _, Tryz.func91, rfl, by kernel_rfl⟩⟩
theorem yz_go92 : IsGo Tryz.prog 92 := ⟨⟨Tryz.f92, _, Tryz.func92, rfl, by kernel_rfl⟩⟩
theorem yz_go93 : IsGo Tryz.prog 93 := ⟨⟨Tryz.f93, _, Tryz.func93, rfl, by kernel_rfl⟩⟩
theorem yz_go94 : IsGo Tryz.prog 94 := ⟨⟨Tryz.f94, _, Tryz.func94, rfl, by kernel_rfl⟩⟩
theorem yz_go95 : IsGo Tryz.prog 95 := ⟨⟨Tryz.f95, _, Tryz.func95, rfl, by kernel_rfl⟩⟩
theorem yz_go96 : IsGo Tryz.prog 96 := ⟨⟨Tryz.f96, _, Tryz.func96, rfl, by kernel_rfl⟩⟩
theorem yz_go97 : IsGo Tryz.prog 97 := ⟨⟨Tryz.f97, _, Tryz.func97, rfl, by kernel_rfl⟩⟩
theorem yz_go104 : IsGo Tryz.prog 104 := ⟨⟨Tryz.f104, _, Tryz.func104, rfl, by kernel_rfl⟩⟩
theorem yz_go105 : IsGo Tryz.prog 105 := ⟨⟨Tryz.f105, _, Tryz.func105, rfl, by kernel_rfl⟩⟩
theorem yz_go106 : IsGo Tryz.prog 106 := ⟨⟨Tryz.f106, _, Tryz.func106, rfl, by kernel_rfl⟩⟩
theorem yz_go107 : IsGo Tryz.prog 107 := ⟨⟨Tryz.f107, _, Tryz.func107, rfl, by kernel_rfl⟩⟩
theorem yz_go108 : IsGo Tryz.prog 108 := ⟨⟨Tryz.f108, _, Tryz.func108, rfl, by kernel_rfl⟩⟩
theorem yz_go109 : IsGo Tryz.prog 109 := ⟨⟨Tryz.f109, _, Tryz.func109, rfl, by kernel_rfl⟩⟩
theorem yz_go110 : IsGo Tryz.prog 110 := ⟨⟨Tryz.f110, _, Tryz.func110, rfl, by kernel_rfl⟩⟩
theorem yz_go111 : IsGo Tryz.prog 111 := ⟨⟨Tryz.f111, _, Tryz.func111, rfl, by kernel_rfl⟩⟩
theorem yz_go112 : IsGo Tryz.prog 112 := ⟨⟨Tryz.f112, _, Tryz.func112, rfl, by kernel_rfl⟩⟩
theorem yz_go113 : IsGo Tryz.prog 113 := ⟨⟨Tryz.f113, _, Tryz.func113, rfl, by kernel_rfl⟩⟩
theorem yz_go114 : IsGo Tryz.prog 114 := ⟨⟨Tryz.f114, _, Tryz.func114, rfl, by kernel_rfl⟩⟩
theorem yz_go115 : IsGo Tryz.prog 115 := ⟨⟨Tryz.f115, _, Tryz.func115, rfl, by kernel_rfl⟩⟩
theorem yz_go116 : IsGo Tryz.prog 116 := ⟨⟨Tryz.f116, _, Tryz.func116, rfl, by kernel_rfl⟩⟩
theorem yz_go117 : IsGo Tryz.prog 117 := ⟨⟨Tryz.f117, _, Tryz.func117, rfl, by kernel_rfl⟩⟩
theorem yz_go119 : IsGo Tryz.prog 119 := ⟨⟨Tryz.f119, _, Tryz.func119, rfl, by kernel_rfl⟩⟩
theorem yz_go120 : IsGo Tryz.prog 120 := ⟨⟨Tryz.f120, _, Tryz.func120, rfl, by kernel_rfl⟩⟩
theorem yz_go121 : IsGo Tryz.prog 121 := ⟨⟨Tryz.f121, _, Tryz.func121, rfl, by kernel_rfl⟩⟩
theorem yz_go122 : IsGo Tryz.prog 122 := ⟨⟨Tryz.f122, _, Tryz.func122, rfl, by kernel_rfl⟩⟩
theorem yz_go123 : IsGo Tryz.prog 123 := ⟨⟨Tryz.f123, _, Tryz.func123, rfl, by kernel_rfl⟩⟩
theorem yz_go124 : IsGo Tryz.prog 124 := ⟨⟨Tryz.f124, _, Tryz.func124, rfl, by kernel_rfl⟩⟩
theorem yz_go125 : IsGo Tryz.prog 125 := ⟨⟨Tryz.f125, _, Tryz.func125, rfl, by kernel_rfl⟩⟩
theorem yz_go126 : IsGo Tryz.prog 126 := ⟨⟨Tryz.f126, _, Tryz.func126, rfl, by kernel_rfl⟩⟩
theorem yz_go127 : IsGo Tryz.prog 127 := ⟨⟨Tryz.f127, _, Tryz.func127, rfl, by kernel_rfl⟩⟩
theorem yz_go128 : IsGo Tryz.prog 128 := ⟨⟨Tryz.f128, _, Tryz.func128, rfl, by kernel_rfl⟩⟩
theorem yz_go129 : IsGo Tryz.prog 129 := ⟨⟨Tryz.f129, _, Tryz.func129, rfl, by kernel_rfl⟩⟩
theorem yz_go130 : IsGo Tryz.prog 130 := ⟨⟨Tryz.f130, _, Tryz.func130, rfl, by kernel_rfl⟩⟩
theorem yz_go131 : IsGo Tryz.prog 131 := ⟨⟨Tryz.f131, _, Tryz.func131, rfl, by kernel_rfl⟩⟩
theorem yz_go132 : IsGo Tryz.prog 132 := ⟨⟨Tryz.f132, _, Tryz.func132, rfl, by kernel_rfl⟩⟩
theorem yz_go133 : IsGo Tryz.prog 133 := ⟨⟨Tryz.f133, _, Tryz.func133, rfl, by kernel_rfl⟩⟩
theorem yz_go134 : IsGo Tryz.prog 134 := ⟨⟨Tryz.f134, _, Tryz.func134, rfl, by kernel_rfl⟩⟩
theorem yz_go135 : IsGo Tryz.prog 135 := ⟨⟨Tryz.f135, _, Tryz.func135, rfl, by kernel_rfl⟩⟩
theorem yz_go136 : IsGo Tryz.prog 136 := ⟨⟨Tryz.f136, _, Tryz.func136, rfl, by kernel_rfl⟩⟩
theorem yz_go137 : IsGo Tryz.prog 137 := ⟨⟨Tryz.f137, _, Tryz.func137, rfl, by kernel_rfl⟩⟩
theorem yz_go138 : IsGo Tryz.prog 138 := ⟨⟨Tryz.f138, _, Tryz.func138, rfl, by kernel_rfl⟩⟩
theorem yz_go139 : IsGo Tryz.prog 139 := ⟨⟨Tryz.f139, _, Tryz.func139, rfl, by kernel_rfl⟩⟩
theorem yz_go140 : IsGo Tryz.prog 140 := ⟨⟨Tryz.f140, _, Tryz.func140, rfl, by kernel_rfl⟩⟩
theorem yz_go141 : IsGo Tryz.prog 141 := ⟨⟨Tryz.f141, _, Tryz.func141, rfl, by kernel_rfl⟩⟩
theorem yz_go142 : IsGo Tryz.prog 142 := ⟨⟨Tryz.f142, _, Tryz.func142, rfl, by kernel_rfl⟩⟩
theorem yz_go143 : IsGo Tryz.prog 143 := ⟨⟨Tryz.f143, _, Tryz.func143, rfl, by kernel_rfl⟩⟩
theorem yz_go144 : IsGo Tryz.prog 144 := ⟨⟨Tryz.f144, _, Tryz.func144, rfl, by kernel_rfl⟩⟩
theorem yz_go145 : IsGo Tryz.prog 145 := ⟨⟨Tryz.f145, _, Tryz.func145, rfl, by kernel_rfl⟩⟩
theorem yz_go146 : IsGo Tryz.prog 146 := ⟨⟨Tryz.f146, _, Tryz.func146, rfl, by kernel_rfl⟩⟩
theorem yz_go147 : IsGo Tryz.prog 147 := ⟨⟨Tryz.f147, _, Tryz.func147, rfl, by kernel_rfl⟩⟩
theorem yz_go148 : IsGo Tryz.prog 148 := ⟨⟨Tryz.f148, _, Tryz.func148, rfl, by kernel_rfl⟩⟩
theorem yz_go149 : IsGo Tryz.prog 149 := ⟨⟨Tryz.f149, _, Tryz.func149, rfl, by kernel_rfl⟩⟩
theorem yz_go150 : IsGo Tryz.prog 150 := ⟨⟨Tryz.f150, _, Tryz.func150, rfl, by kernel_rfl⟩⟩
theorem yz_go151 : IsGo Tryz.prog 151 := ⟨⟨Tryz.f151, _, Tryz.func151, rfl, by kernel_rfl⟩⟩
theorem yz_go152 : IsGo Tryz.prog 152 := ⟨⟨Tryz.f152, _, Tryz.func152, rfl, by kernel_rfl⟩⟩
theorem yz_go153 : IsGo Tryz.prog 153 := ⟨⟨Tryz.f153, _, Tryz.func153, rfl, by kernel_rfl⟩⟩
theorem yz_go154 : IsGo Tryz.prog 154 := ⟨⟨Tryz.f154, _, Tryz.func154, rfl, by kernel_rfl⟩⟩
theorem yz_go155 : IsGo Tryz.prog 155 := ⟨⟨Tryz.f155, _, Tryz.func155, rfl, by kernel_rfl⟩⟩
theorem yz_go156 : IsGo Tryz.prog 156 := ⟨⟨Tryz.f156, _, Tryz.func156, rfl, by kernel_rfl⟩⟩
theorem yz_go157 : IsGo Tryz.prog 157 := ⟨⟨Tryz.f157, _, Tryz.func157, rfl, by kernel_rfl⟩⟩
theorem yz_go158 : IsGo Tryz.prog 158 := ⟨⟨Tryz.f158, _, Tryz.func158, rfl, by kernel_rfl⟩⟩
theorem yz_go159 : IsGo Tryz.prog 159 := ⟨⟨Tryz.f159, _, Tryz.func159, rfl, by kernel_rfl⟩⟩
theorem yz_go160 : IsGo Tryz.prog 160 := ⟨⟨Tryz.f160, _, Tryz.func160, rfl, by kernel_rfl⟩⟩
theorem yz_go161 : IsGo Tryz.prog 161 := ⟨⟨Tryz.f161, _, Tryz.func161, rfl, by kernel_rfl⟩⟩
theorem yz_go162 : IsGo Tryz.prog 162 := ⟨⟨Tryz.f162, _, Tryz.func162, rfl, by kernel_rfl⟩⟩
theorem yz_go163 : IsGo Tryz.prog 163 := ⟨⟨Tryz.f163, _, Tryz.func163, rfl, by kernel_rfl⟩⟩
theorem yz_go164 : IsGo Tryz.prog 164 := ⟨⟨Tryz.f164, _, Tryz.func164, rfl, by kernel_rfl⟩⟩
theorem yz_go165 : IsGo Tryz.prog 165 := ⟨⟨Tryz.f165, _, Tryz.func165, rfl, by kernel_rfl⟩⟩
theorem yz_go184 : IsGo Tryz.prog 184 := ⟨⟨Tryz.f184, _, Tryz.func184, rfl, by kernel_rfl⟩⟩
theorem yz_go186 : IsGo Tryz.prog 186 := ⟨⟨Tryz.f186, _, Tryz.func186, rfl, by kernel_rfl⟩⟩
theorem yz_go187 : IsGo Tryz.prog 187 := ⟨⟨Tryz.f187, _, Tryz.func187, rfl, by kernel_rfl⟩⟩
theorem yz_go190 : IsGo Tryz.prog 190 := ⟨⟨Tryz.f190, _, Tryz.func190, rfl, by kernel_rfl⟩⟩
theorem yz_go192 : IsGo Tryz.prog 192 := ⟨⟨Tryz.f192, _, Tryz.func192, rfl, by kernel_rfl⟩⟩
theorem yz_add188 : IsAdd Tryz.prog 188 := ⟨⟨Tryz.f188, Tryz.func188, by kernel_rfl, by kernel_rfl, by kernel_rfl, by kernel_rfl⟩⟩
theorem yz_tf22 : TF Tryz.prog 22 5 [.int .u8 0] 1 := ⟨by kernel_rfl, by kernel_rfl, by decide, by decide⟩
theorem yz_tf39 : TF Tryz.prog 39 42 [.int .u64 0] 8 := ⟨by kernel_rfl, by kernel_rfl, by decide, by decide⟩
theorem yz_tf165 : TF Tryz.prog 165 168 [.int .i64 0, .int .i64 0, .int .i64 0, .string ⟨⟨[]⟩⟩, .int .i64 0] 48 := ⟨by kernel_rfl, by kernel_rfl, by decide, by decide⟩
theorem yz_tf228 : TF Tryz.prog 228 81 [.int .u32 0] 4 := ⟨by kernel_rfl, by kernel_rfl, by decide, by decide⟩
theorem yz_tf231 : TF Tryz.prog 231 3 [.int .i64 0] 8 := ⟨by kernel_rfl, by kernel_rfl, by decide, by decide⟩
theorem yz_inv200_node_out : ∀ (v : Option Addr) (l : Array Value) (w : World), (callMethod (.iface 200 (.pointer v)) "quern/node.out" l).run Tryz.prog w = .ok (.enter 184 (#[.pointer v] ++ l)) w := by intro v l w; kernel_rfl
theorem yz_inv200_node_write : ∀ (v : Option Addr) (l : Array Value) (w : World), (callMethod (.iface 200 (.pointer v)) "quern/node.write" l).run Tryz.prog w = .ok (.enter 186 (#[.pointer v] ++ l)) w := by intro v l w; kernel_rfl
theorem yz_inv209_node_out : ∀ (v : Option Addr) (l : Array Value) (w : World), (callMethod (.iface 209 (.pointer v)) "quern/node.out" l).run Tryz.prog w = .ok (.enter 190 (#[.pointer v] ++ l)) w := by intro v l w; kernel_rfl
theorem yz_inv209_node_write : ∀ (v : Option Addr) (l : Array Value) (w : World), (callMethod (.iface 209 (.pointer v)) "quern/node.write" l).run Tryz.prog w = .ok (.enter 192 (#[.pointer v] ++ l)) w := by intro v l w; kernel_rfl
theorem yz_mixed : Tryz.prog.follows .mixedOrders = true := by kernel_rfl

-- quern/param.sizes
noncomputable def m_param_sizes (k_ : Int) : Option (Int × Int × Int) :=
  if k_ = 1 then (some ((64 : Int), (64 : Int), (16 : Int))) else (if k_ = 2 then (some ((32 : Int), (32 : Int), (8 : Int))) else (some ((0 : Int), (0 : Int), (0 : Int))))
theorem c_param_sizes {F O : Nat → Prop} {w : World} (k_ : Int) (k : Cx F O w w []) (r : (Int × Int × Int)) (hm : m_param_sizes k_ = some r) :
    Calls Tryz.prog 67 (vals [I k_]) w (fun e w' => e = .returned (SV.val (.tup [I r.1, I r.2.1, I r.2.2])) ∧ Cx F O w w' []) := by
 unfold m_param_sizes at hm
 refine calls [I k_] Tryz.func67 rfl (of_decide_eq_true (by kernel_rfl)) ?_
 refine W_seq <| W_q [] .a qe (by kernel_rfl) ?_
 refine At_go <| W_seq <| W_seq <| W_q [] (.n 5 (I k_) .z) qe (by kernel_rfl) ?_
 refine At_go <| W_block <| W_seq <| W_q [] (.n 6 (.b (decide (k_ = 1))) .a) qe (by kernel_rfl) ?_
 refine At_go <| W_condp (k_ = 1) (by kernel_rfl) (fun hc => ?_) (fun hc => ?_)
 · rw [if_pos hc] at hm
   refine W_seq <| W_q [] (.n 2 (I 64) (.n 3 (I 64) (.n 4 (I 16) .z))) qe (by kernel_rfl) ?_
   refine At_go <| W_ret (At_ir (At_tr ?_))
   obtain rfl := Option.some.inj hm
   refine At_rt [I 64, I 64, I 16] qe (by kernel_rfl) ?_
   exact ⟨rfl, k⟩
 rw [if_neg hc] at hm
 refine W_seq <| W_q [] (.n 8 (.b (decide (k_ = 2))) .z) qe (by kernel_rfl) ?_
 refine At_go <| W_condp (k_ = 2) (by kernel_rfl) (fun hc1 => ?_) (fun hc1 => ?_)
 · rw [if_pos hc1] at hm
   refine W_seq <| W_q [] (.n 2 (I 32) (.n 3 (I 32) (.n 4 (I 8) .z))) qe (by kernel_rfl) ?_
   refine At_go <| W_ret (At_ir (At_tr ?_))
   obtain rfl := Option.some.inj hm
   refine At_rt [I 32, I 32, I 8] qe (by kernel_rfl) ?_
   exact ⟨rfl, k⟩
 rw [if_neg hc1] at hm
 refine W_skip <| At_in <| At_go <| W_seq <| W_q [] (.n 2 (I 0) (.n 3 (I 0) (.n 4 (I 0) .z))) qe (by kernel_rfl) ?_
 refine At_go <| W_ret ?_
 obtain rfl := Option.some.inj hm
 refine At_rt [I 0, I 0, I 0] qe (by kernel_rfl) ?_
 exact ⟨rfl, k⟩

-- quern/param.Size
noncomputable def m_param_Size (k_ : Int) : Option (Int × Int) :=
  (m_param_sizes k_).bind fun r_ => if r_.1 = 0 then (some ((0 : Int), (1 : Int))) else (some (r_.1, (0 : Int)))
theorem c_param_Size {F O : Nat → Prop} {w : World} (k_ : Int) (k : Cx F O w w []) (r : (Int × Int)) (hm : m_param_Size k_ = some r) :
    Calls Tryz.prog 56 (vals [I k_]) w (fun e w' => e = .returned (SV.val (.tup [I r.1, I r.2])) ∧ Cx F O w w' []) := by
 unfold m_param_Size at hm
 refine calls [I k_] Tryz.func56 rfl (of_decide_eq_true (by kernel_rfl)) ?_
 refine W_seq <| W_q [] .a qe (by kernel_rfl) ?_
 refine At_go <| W_seq <| W_reg <| WLs 1 [] (.n 8 (I k_) .z) qe (by kernel_rfl) ?_
 refine WL_op ?_
 obtain ⟨r_, h_r_, hm⟩ := ob hm
 refine Op_call [] 9 _ yz_go67 (by kernel_rfl) (c_param_sizes (F := N0) (O := N0) _ (Cx.refl _) _ h_r_) ?_
 rintro e_ w_ ⟨rfl, k_1⟩
 have k_2 := k.call k_1
 refine ⟨.tup [I r_.1, I r_.2.1, I r_.2.2], rfl, ?_⟩
 refine WLs 7 [] (.n 4 (I r_.1) .z) qe (by kernel_rfl) ?_
 refine WL_nil <| At_go <| W_seq <| W_seq <| W_q [] (.n 14 (.b (decide (r_.1 = 0))) .a) qe (by kernel_rfl) ?_
 refine At_go <| W_condp (r_.1 = 0) (by kernel_rfl) (fun hc => ?_) (fun hc => ?_)
 · rw [if_pos hc] at hm
   refine W_seq <| W_q [] (.n 2 (I 0) (.n 3 (I 1) .z)) qe (by kernel_rfl) ?_
   refine At_go <| W_ret (At_tr ?_)
   obtain rfl := Option.some.inj hm
   refine At_rt [I 0, I 1] qe (by kernel_rfl) ?_
   exact ⟨rfl, k_2⟩
 rw [if_neg hc] at hm
 refine W_skip <| At_go <| W_seq <| W_q [] (.n 2 (I r_.1) (.n 3 (I 0) .z)) qe (by kernel_rfl) ?_
 refine At_go <| W_ret ?_
 obtain rfl := Option.some.inj hm
 refine At_rt [I r_.1, I 0] qe (by kernel_rfl) ?_
 exact ⟨rfl, k_2⟩

-- quern/param.within
noncomputable def m_param_within (n : Int) (lo : Int) (hi : Int) : Option Bool :=
  some ((decide (lo ≤ n)) && (decide (n ≤ hi)))
theorem c_param_within {F O : Nat → Prop} {w : World} (n : Int) (lo : Int) (hi : Int) (k : Cx F O w w []) (r : Bool) (hm : m_param_within n lo hi = some r) :
    Calls Tryz.prog 68 (vals [I n, I lo, I hi]) w (fun e w' => e = .returned (SV.val (.b r)) ∧ Cx F O w w' []) := by
 unfold m_param_within at hm
 refine calls [I n, I lo, I hi] Tryz.func68 rfl (of_decide_eq_true (by kernel_rfl)) ?_
 refine W_seq <| W_q [] .a qe (by kernel_rfl) ?_
 refine At_go <| W_seq <| W_q [] (.n 6 (.b ((decide (lo ≤ n)) && (decide (n ≤ hi)))) .z) qe (by kernel_rfl) ?_
 refine At_go <| W_ret ?_
 obtain rfl := Option.some.inj hm
 refine At_rt [.b ((decide (lo ≤ n)) && (decide (n ≤ hi)))] qe (by kernel_rfl) ?_
 exact ⟨rfl, k⟩

-- quern/param.Check
noncomputable def m_param_Check_j1  : Option Int :=
  some (0 : Int)
noncomputable def m_param_Check_j2 (k_ : Int) (p_Xof : UInt32) (p_NodeDepth : Int) (p_Inner : Int) (p_Salt : List UInt8) (p_Personal : List UInt8) (r_ : (Int × Int × Int)) (x_0 : Bool) : Option Int :=
  if x_0 = true then (some (23 : Int)) else (if ((decide (k_ = 2)) && (decide ((65535 : UInt32) < p_Xof))) = true then (some (24 : Int)) else ((m_param_within p_NodeDepth (0 : Int) (255 : Int)).bind fun r_5 => if (!r_5) = true then (some (25 : Int)) else ((m_param_within p_Inner (0 : Int) r_.2.1).bind fun r_6 => if (!r_6) = true then (some (26 : Int)) else (if r_.2.2 < ((p_Salt.length : Nat) : Int) then (some (27 : Int)) else (if r_.2.2 < ((p_Personal.length : Nat) : Int) then (some (28 : Int)) else (m_param_Check_j1))))))
noncomputable def m_param_Check_j0 (k_ : Int) (p_Digest : Int) (p_Key : Int) (p_Fanout : Int) (p_Depth : Int) (p_Offset : UInt64) (p_Xof : UInt32) (p_NodeDepth : Int) (p_Inner : Int) (p_Salt : List UInt8) (p_Personal : List UInt8) (r_ : (Int × Int × Int)) (least : Int) : Option Int :=
  (m_param_within p_Digest (1 : Int) r_.2.1).bind fun r_1 => if (!r_1) = true then (some (20 : Int)) else ((m_param_within p_Key (0 : Int) r_.2.1).bind fun r_2 => if (!r_2) = true then (some (8 : Int)) else ((m_param_within p_Fanout (0 : Int) (255 : Int)).bind fun r_3 => if (!r_3) = true then (some (21 : Int)) else ((m_param_within p_Depth least (255 : Int)).bind fun r_4 => if (!r_4) = true then (some (22 : Int)) else (if ((decide (p_Xof ≠ 0)) && (decide ((4294967296 : UInt64) ≤ p_Offset))) = true then (m_param_Check_j2 k_ p_Xof p_NodeDepth p_Inner p_Salt p_Personal r_ ((decide (p_Xof ≠ 0)) && (decide ((4294967296 : UInt64) ≤ p_Offset)))) else (m_param_Check_j2 k_ p_Xof p_NodeDepth p_Inner p_Salt p_Personal r_ (((decide (p_Xof = 0)) && (decide (k_ = 2))) && (decide ((281474976710656 : UInt64) ≤ p_Offset))))))))
noncomputable def m_param_Check (k_ : Int) (p_Digest : Int) (p_Key : Int) (p_Fanout : Int) (p_Depth : Int) (p_Leaf : UInt32) (p_Offset : UInt64) (p_Xof : UInt32) (p_NodeDepth : Int) (p_Inner : Int) (p_Salt : List UInt8) (p_Personal : List UInt8) : Option Int :=
  (m_param_sizes k_).bind fun r_ => if r_.2.1 = 0 then (some (1 : Int)) else (if p_Xof ≠ 0 then (m_param_Check_j0 k_ p_Digest p_Key p_Fanout p_Depth p_Offset p_Xof p_NodeDepth p_Inner p_Salt p_Personal r_ (0 : Int)) else (m_param_Check_j0 k_ p_Digest p_Key p_Fanout p_Depth p_Offset p_Xof p_NodeDepth p_Inner p_Salt p_Personal r_ (1 : Int)))
theorem c_param_Check {F O : Nat → Prop} {w : World} (k_ : Int) (p_Digest : Int) (p_Key : Int) (p_Fanout : Int) (p_Depth : Int) (p_Leaf : UInt32) (p_Offset : UInt64) (p_Xof : UInt32) (p_NodeDepth : Int) (p_Inner : Int) (p_Salt : List UInt8) (p_Personal : List UInt8) (A_p_Salt : Option Addr) (n_p_Salt : Nat) (c_p_Salt : Nat) (A_p_Personal : Option Addr) (n_p_Personal : Nat) (c_p_Personal : Nat) (h_p_Salt : Ro F w A_p_Salt (e8.all p_Salt)) (hn_p_Salt : p_Salt.length = n_p_Salt) (hc_p_Salt : n_p_Salt ≤ c_p_Salt) (h_p_Personal : Ro F w A_p_Personal (e8.all p_Personal)) (hn_p_Personal : p_Personal.length = n_p_Personal) (hc_p_Personal : n_p_Personal ≤ c_p_Personal) (k : Cx F O w w []) (r : Int) (hm : m_param_Check k_ p_Digest p_Key p_Fanout p_Depth p_Leaf p_Offset p_Xof p_NodeDepth p_Inner p_Salt p_Personal = some r) :
    Calls Tryz.prog 57 (vals [I k_, .agg [I p_Digest, I p_Key, I p_Fanout, I p_Depth, .u32 p_Leaf, .u64 p_Offset, .u32 p_Xof, I p_NodeDepth, I p_Inner, sl A_p_Salt n_p_Salt c_p_Salt, sl A_p_Personal n_p_Personal c_p_Personal]]) w (fun e w' => e = .returned (SV.val (I r)) ∧ Cx F O w w' []) := by
 unfold m_param_Check at hm
 subst hn_p_Salt
 subst hn_p_Personal
 refine calls [I k_, .agg [I p_Digest, I p_Key, I p_Fanout, I p_Depth, .u32 p_Leaf, .u64 p_Offset, .u32 p_Xof, I p_NodeDepth, I p_Inner, sl A_p_Salt p_Salt.length c_p_Salt, sl A_p_Personal p_Personal.length c_p_Personal]] Tryz.func57 rfl (of_decide_eq_true (by kernel_rfl)) ?_
 refine W_seq <| W_reg <| WL_op <| Op_box [] 3 (.agg [I p_Digest, I p_Key, I p_Fanout, I p_Depth, .u32 p_Leaf, .u64 p_Offset, .u32 p_Xof, I p_NodeDepth, I p_Inner, sl A_p_Salt p_Salt.length c_p_Salt, sl A_p_Personal p_Personal.length c_p_Personal]) [I p_Digest, I p_Key, I p_Fanout, I p_Depth, .u32 p_Leaf, .u64 p_Offset, .u32 p_Xof, I p_NodeDepth, I p_Inner, sl A_p_Salt p_Salt.length c_p_Salt, sl A_p_Personal p_Personal.length c_p_Personal] (by kernel_rfl) k ?_
 intro g w_ k_1
 refine WLs 1 [] (.kk .z) qe (by kernel_rfl) ?_
 refine WL_nil <| At_go <| W_seq <| W_reg <| WLs 1 [] (.n 10 (I k_) .a) qe (by kernel_rfl) ?_
 refine WL_op ?_
 obtain ⟨r_, h_r_, hm⟩ := ob hm
 refine Op_call [] 11 _ yz_go67 (by kernel_rfl) (c_param_sizes (F := N0) (O := N0) _ (Cx.refl _) _ h_r_) ?_
 rintro e_ w_1 ⟨rfl, k_2⟩
 have k_3 := k_1.call k_2
 refine ⟨.tup [I r_.1, I r_.2.1, I r_.2.2], rfl, ?_⟩
 refine WLs 7 [] (.n 6 (I r_.2.1) (.n 7 (I r_.2.2) (.ss .a))) qe (by kernel_rfl) ?_
 refine WL_nil <| At_go <| W_seq <| W_seq <| W_q [] (.n 16 (.b (decide (r_.2.1 = 0))) .a) qe (by kernel_rfl) ?_
 refine At_go <| W_condp (r_.2.1 = 0) (by kernel_rfl) (fun hc => ?_) (fun hc => ?_)
 · rw [if_pos hc] at hm
   refine W_seq <| W_q [] (.n 4 (I 1) .z) qe (by kernel_rfl) ?_
   refine At_go <| W_ret (At_tr ?_)
   obtain rfl := Option.some.inj hm
   refine At_rt [I 1] qe (by kernel_rfl) ?_
   have k_4 := k_3.sel .z
   exact ⟨rfl, k_4⟩
 rw [if_neg hc] at hm
 refine W_skip <| At_go <| W_seq <| W_q [] (.n 8 (I 1) (.s .a)) qe (by kernel_rfl) ?_
 refine At_go <| W_cut (fun L wr => ∃ (least : Int), m_param_Check_j0 k_ p_Digest p_Key p_Fanout p_Depth p_Offset p_Xof p_NodeDepth p_Inner p_Salt p_Personal r_ least = some r ∧ L = [(0, I k_), (3, pt g 0), (6, I r_.2.1), (7, I r_.2.2), (8, I least)] ∧ Cx F O w wr [Bx 83 g [I p_Digest, I p_Key, I p_Fanout, I p_Depth, .u32 p_Leaf, .u64 p_Offset, .u32 p_Xof, I p_NodeDepth, I p_Inner, sl A_p_Salt p_Salt.length c_p_Salt, sl A_p_Personal p_Personal.length c_p_Personal]]) ?_ ?_
 ·
  refine W_seq <| W_q [] (.n 19 (.b (decide (p_Xof ≠ 0))) .a) (qs g 0 <| qB k_3 0 rfl 6 (.u32 p_Xof) (by kernel_rfl) <| qe) (by kernel_rfl) ?_
  refine At_go <| W_condp (p_Xof ≠ 0) (by kernel_rfl) (fun hc1 => ?_) (fun hc1 => ?_)
  · rw [if_pos hc1] at hm
    refine W_q [] (.n 8 (I 0) (.ss .a)) qe (by kernel_rfl) ?_
    exact At_c ⟨(0 : Int), hm, rfl, k_3⟩ (by kernel_rfl)
  rw [if_neg hc1] at hm
  refine W_skip ?_
  exact At_c ⟨(1 : Int), hm, rfl, k_3⟩ (by kernel_rfl)
 rintro L_ w_2 ⟨least, hm, rfl, k_5⟩
 simp only [m_param_Check_j0] at hm
 refine W_cut (fun L wr => m_param_Check_j1  = some r ∧ L = [] ∧ Cx F O w wr []) ?_ ?_
 ·
  refine W_block <| W_seq <| W_reg <| WLs 3 [] (.n 22 (I p_Digest) (.n 23 (I r_.2.1) .a)) (qs g 0 <| qB k_5 0 rfl 0 (I p_Digest) (by kernel_rfl) <| qe) (by kernel_rfl) ?_
  refine WL_op ?_
  obtain ⟨r_1, h_r_1, hm⟩ := ob hm
  refine Op_call [] 24 _ yz_go68 (by kernel_rfl) (c_param_within (F := N0) (O := N0) _ _ _ (Cx.refl _) _ h_r_1) ?_
  rintro e_ w_3 ⟨rfl, k_6⟩
  have k_7 := k_5.call k_6
  refine ⟨.b r_1, rfl, ?_⟩
  refine WLs 2 [] (.n 20 (.b (!r_1)) (.sss .a)) qe (by kernel_rfl) ?_
  refine WL_nil <| At_go <| W_cond (!r_1) (by kernel_rfl) (fun hc2 => ?_) (fun hc2 => ?_)
  · rw [if_pos hc2] at hm
    refine W_seq <| W_q [] (.n 4 (I 20) .z) qe (by kernel_rfl) ?_
    refine At_go <| W_ret (At_ir (At_tr ?_))
    obtain rfl := Option.some.inj hm
    refine At_rt [I 20] qe (by kernel_rfl) ?_
    have k_8 := k_7.sel .z
    exact ⟨rfl, k_8⟩
  rw [if_neg (by rw [hc2]; decide)] at hm
  refine W_seq <| W_reg <| WLs 3 [] (.n 28 (I p_Key) (.n 29 (I r_.2.1) (.s .a))) (qs g 0 <| qB k_7 0 rfl 1 (I p_Key) (by kernel_rfl) <| qe) (by kernel_rfl) ?_
  refine WL_op ?_
  obtain ⟨r_2, h_r_2, hm⟩ := ob hm
  refine Op_call [] 30 _ yz_go68 (by kernel_rfl) (c_param_within (F := N0) (O := N0) _ _ _ (Cx.refl _) _ h_r_2) ?_
  rintro e_ w_4 ⟨rfl, k_9⟩
  have k_10 := k_7.call k_9
  refine ⟨.b r_2, rfl, ?_⟩
  refine WLs 2 [] (.n 26 (.b (!r_2)) (.sss .a)) qe (by kernel_rfl) ?_
  refine WL_nil <| At_go <| W_cond (!r_2) (by kernel_rfl) (fun hc3 => ?_) (fun hc3 => ?_)
  · rw [if_pos hc3] at hm
    refine W_seq <| W_q [] (.n 4 (I 8) .z) qe (by kernel_rfl) ?_
    refine At_go <| W_ret (At_ir (At_tr ?_))
    obtain rfl := Option.some.inj hm
    refine At_rt [I 8] qe (by kernel_rfl) ?_
    have k_11 := k_10.sel .z
    exact ⟨rfl, k_11⟩
  rw [if_neg (by rw [hc3]; decide)] at hm
  refine W_seq <| W_reg <| WLs 2 [] (.n 34 (I p_Fanout) (.s .a)) (qs g 0 <| qB k_10 0 rfl 2 (I p_Fanout) (by kernel_rfl) <| qe) (by kernel_rfl) ?_
  refine WL_op ?_
  obtain ⟨r_3, h_r_3, hm⟩ := ob hm
  refine Op_call [] 35 _ yz_go68 (by kernel_rfl) (c_param_within (F := N0) (O := N0) _ _ _ (Cx.refl _) _ h_r_3) ?_
  rintro e_ w_5 ⟨rfl, k_12⟩
  have k_13 := k_10.call k_12
  refine ⟨.b r_3, rfl, ?_⟩
  refine WLs 2 [] (.n 32 (.b (!r_3)) (.ss .a)) qe (by kernel_rfl) ?_
  refine WL_nil <| At_go <| W_cond (!r_3) (by kernel_rfl) (fun hc4 => ?_) (fun hc4 => ?_)
  · rw [if_pos hc4] at hm
    refine W_seq <| W_q [] (.n 4 (I 21) .z) qe (by kernel_rfl) ?_
    refine At_go <| W_ret (At_ir (At_tr ?_))
    obtain rfl := Option.some.inj hm
    refine At_rt [I 21] qe (by kernel_rfl) ?_
    have k_14 := k_13.sel .z
    exact ⟨rfl, k_14⟩
  rw [if_neg (by rw [hc4]; decide)] at hm
  refine W_seq <| W_reg <| WLs 3 [] (.n 39 (I p_Depth) (.n 40 (I least) (.s (.kkkk .z)))) (qs g 0 <| qB k_13 0 rfl 3 (I p_Depth) (by kernel_rfl) <| qe) (by kernel_rfl) ?_
  refine WL_op ?_
  obtain ⟨r_4, h_r_4, hm⟩ := ob hm
  refine Op_call [] 41 _ yz_go68 (by kernel_rfl) (c_param_within (F := N0) (O := N0) _ _ _ (Cx.refl _) _ h_r_4) ?_
  rintro e_ w_6 ⟨rfl, k_15⟩
  have k_16 := k_13.call k_15
  refine ⟨.b r_4, rfl, ?_⟩
  refine WLs 2 [] (.n 37 (.b (!r_4)) (.sss .a)) qe (by kernel_rfl) ?_
  refine WL_nil <| At_go <| W_cond (!r_4) (by kernel_rfl) (fun hc5 => ?_) (fun hc5 => ?_)
  · rw [if_pos hc5] at hm
    refine W_seq <| W_q [] (.n 4 (I 22) .z) qe (by kernel_rfl) ?_
    refine At_go <| W_ret (At_ir (At_tr ?_))
    obtain rfl := Option.some.inj hm
    refine At_rt [I 22] qe (by kernel_rfl) ?_
    have k_17 := k_16.sel .z
    exact ⟨rfl, k_17⟩
  rw [if_neg (by rw [hc5]; decide)] at hm
  refine W_cut (fun L wr => ∃ (x_0 : Bool), m_param_Check_j2 k_ p_Xof p_NodeDepth p_Inner p_Salt p_Personal r_ x_0 = some r ∧ L = [(0, I k_), (3, pt g 0), (6, I r_.2.1), (7, I r_.2.2), (43, .b x_0)] ∧ Cx F O w wr [Bx 83 g [I p_Digest, I p_Key, I p_Fanout, I p_Depth, .u32 p_Leaf, .u64 p_Offset, .u32 p_Xof, I p_NodeDepth, I p_Inner, sl A_p_Salt p_Salt.length c_p_Salt, sl A_p_Personal p_Personal.length c_p_Personal]]) ?_ ?_
  ·
   refine W_seq <| W_q [] (.n 43 (.b ((decide (p_Xof ≠ 0)) && (decide ((4294967296 : UInt64) ≤ p_Offset)))) (.s .a)) (qs g 0 <| qB k_16 0 rfl 6 (.u32 p_Xof) (by kernel_rfl) <| qp ((decide (p_Xof ≠ 0)) = true → (some ⟨g, 0, none⟩ : Option Addr).isSome = true) (fun hg0 => rfl) <| qo (.u64 p_Offset) <| qc (fun w => (decide (p_Xof ≠ 0)) = true → ∃ a, (some ⟨g, 5, none⟩ : Option Addr) = some a ∧ w.cell? a = some (SV.val (.u64 p_Offset))) (fun hg0 => k_16.bld 0 rfl 5 (.u64 p_Offset) (by kernel_rfl)) <| qe) (by kernel_rfl) ?_
   refine At_go <| W_cond ((decide (p_Xof ≠ 0)) && (decide ((4294967296 : UInt64) ≤ p_Offset))) (by kernel_rfl) (fun hc6 => ?_) (fun hc6 => ?_)
   · rw [if_pos hc6] at hm
     refine W_skip ?_
     exact At_c ⟨(decide (p_Xof ≠ 0)) && (decide ((4294967296 : UInt64) ≤ p_Offset)), hm, rfl, k_16⟩ (by kernel_rfl)
   rw [if_neg (by rw [hc6]; decide)] at hm
   refine W_q [] (.n 43 (.b (((decide (p_Xof = 0)) && (decide (k_ = 2))) && (decide ((281474976710656 : UInt64) ≤ p_Offset)))) (.s .a)) (qs g 0 <| qB k_16 0 rfl 6 (.u32 p_Xof) (by kernel_rfl) <| qp (((decide (p_Xof = 0)) && (decide (k_ = 2))) = true → (some ⟨g, 0, none⟩ : Option Addr).isSome = true) (fun hg0 => rfl) <| qo (.u64 p_Offset) <| qc (fun w => ((decide (p_Xof = 0)) && (decide (k_ = 2))) = true → ∃ a, (some ⟨g, 5, none⟩ : Option Addr) = some a ∧ w.cell? a = some (SV.val (.u64 p_Offset))) (fun hg0 => k_16.bld 0 rfl 5 (.u64 p_Offset) (by kernel_rfl)) <| qe) (by kernel_rfl) ?_
   exact At_c ⟨((decide (p_Xof = 0)) && (decide (k_ = 2))) && (decide ((281474976710656 : UInt64) ≤ p_Offset)), hm, rfl, k_16⟩ (by kernel_rfl)
  rintro L_ w_7 ⟨x_0, hm, rfl, k_18⟩
  simp only [m_param_Check_j2] at hm
  refine W_cond x_0 (by kernel_rfl) (fun hc7 => ?_) (fun hc7 => ?_)
  · rw [if_pos hc7] at hm
    refine W_seq <| W_q [] (.n 4 (I 23) .z) qe (by kernel_rfl) ?_
    refine At_go <| W_ret (At_ir (At_tr ?_))
    obtain rfl := Option.some.inj hm
    refine At_rt [I 23] qe (by kernel_rfl) ?_
    have k_19 := k_18.sel .z
    exact ⟨rfl, k_19⟩
  rw [if_neg (by rw [hc7]; decide)] at hm
  refine W_seq <| W_q [] (.n 64 (.b ((decide (k_ = 2)) && (decide ((65535 : UInt32) < p_Xof)))) (.s (.kkk .z))) (qp ((decide (k_ = 2)) = true → (some ⟨g, 0, none⟩ : Option Addr).isSome = true) (fun hg0 => rfl) <| qo (.u32 p_Xof) <| qc (fun w => (decide (k_ = 2)) = true → ∃ a, (some ⟨g, 6, none⟩ : Option Addr) = some a ∧ w.cell? a = some (SV.val (.u32 p_Xof))) (fun hg0 => k_18.bld 0 rfl 6 (.u32 p_Xof) (by kernel_rfl)) <| qe) (by kernel_rfl) ?_
  refine At_go <| W_cond ((decide (k_ = 2)) && (decide ((65535 : UInt32) < p_Xof))) (by kernel_rfl) (fun hc8 => ?_) (fun hc8 => ?_)
  · rw [if_pos hc8] at hm
    refine W_seq <| W_q [] (.n 4 (I 24) .z) qe (by kernel_rfl) ?_
    refine At_go <| W_ret (At_ir (At_tr ?_))
    obtain rfl := Option.some.inj hm
    refine At_rt [I 24] qe (by kernel_rfl) ?_
    have k_20 := k_18.sel .z
    exact ⟨rfl, k_20⟩
  rw [if_neg (by rw [hc8]; decide)] at hm
  refine W_seq <| W_reg <| WLs 2 [] (.n 74 (I p_NodeDepth) (.s .a)) (qs g 0 <| qB k_18 0 rfl 7 (I p_NodeDepth) (by kernel_rfl) <| qe) (by kernel_rfl) ?_
  refine WL_op ?_
  obtain ⟨r_5, h_r_5, hm⟩ := ob hm
  refine Op_call [] 75 _ yz_go68 (by kernel_rfl) (c_param_within (F := N0) (O := N0) _ _ _ (Cx.refl _) _ h_r_5) ?_
  rintro e_ w_8 ⟨rfl, k_21⟩
  have k_22 := k_18.call k_21
  refine ⟨.b r_5, rfl, ?_⟩
  refine WLs 2 [] (.n 72 (.b (!r_5)) (.ss .a)) qe (by kernel_rfl) ?_
  refine WL_nil <| At_go <| W_cond (!r_5) (by kernel_rfl) (fun hc9 => ?_) (fun hc9 => ?_)
  · rw [if_pos hc9] at hm
    refine W_seq <| W_q [] (.n 4 (I 25) .z) qe (by kernel_rfl) ?_
    refine At_go <| W_ret (At_ir (At_tr ?_))
    obtain rfl := Option.some.inj hm
    refine At_rt [I 25] qe (by kernel_rfl) ?_
    have k_23 := k_22.sel .z
    exact ⟨rfl, k_23⟩
  rw [if_neg (by rw [hc9]; decide)] at hm
  refine W_seq <| W_reg <| WLs 3 [] (.n 79 (I p_Inner) (.n 80 (I r_.2.1) (.s (.k (.s .a))))) (qs g 0 <| qB k_22 0 rfl 8 (I p_Inner) (by kernel_rfl) <| qe) (by kernel_rfl) ?_
  refine WL_op ?_
  obtain ⟨r_6, h_r_6, hm⟩ := ob hm
  refine Op_call [] 81 _ yz_go68 (by kernel_rfl) (c_param_within (F := N0) (O := N0) _ _ _ (Cx.refl _) _ h_r_6) ?_
  rintro e_ w_9 ⟨rfl, k_24⟩
  have k_25 := k_22.call k_24
  refine ⟨.b r_6, rfl, ?_⟩
  refine WLs 2 [] (.n 77 (.b (!r_6)) (.sss .a)) qe (by kernel_rfl) ?_
  refine WL_nil <| At_go <| W_cond (!r_6) (by kernel_rfl) (fun hc10 => ?_) (fun hc10 => ?_)
  · rw [if_pos hc10] at hm
    refine W_seq <| W_q [] (.n 4 (I 26) .z) qe (by kernel_rfl) ?_
    refine At_go <| W_ret (At_ir (At_tr ?_))
    obtain rfl := Option.some.inj hm
    refine At_rt [I 26] qe (by kernel_rfl) ?_
    have k_26 := k_25.sel .z
    exact ⟨rfl, k_26⟩
  rw [if_neg (by rw [hc10]; decide)] at hm
  refine W_seq <| W_q [] (.n 83 (.b (decide (r_.2.2 < ((p_Salt.length : Nat) : Int)))) (.s .a)) (qs g 0 <| qB k_25 0 rfl 9 (sl A_p_Salt p_Salt.length c_p_Salt) (by kernel_rfl) <| qe) (by kernel_rfl) ?_
  refine At_go <| W_condp (r_.2.2 < ((p_Salt.length : Nat) : Int)) (by kernel_rfl) (fun hc11 => ?_) (fun hc11 => ?_)
  · rw [if_pos hc11] at hm
    refine W_seq <| W_q [] (.n 4 (I 27) .z) qe (by kernel_rfl) ?_
    refine At_go <| W_ret (At_ir (At_tr ?_))
    obtain rfl := Option.some.inj hm
    refine At_rt [I 27] qe (by kernel_rfl) ?_
    have k_27 := k_25.sel .z
    exact ⟨rfl, k_27⟩
  rw [if_neg hc11] at hm
  refine W_seq <| W_q [] (.n 89 (.b (decide (r_.2.2 < ((p_Personal.length : Nat) : Int)))) .z) (qs g 0 <| qB k_25 0 rfl 10 (sl A_p_Personal p_Personal.length c_p_Personal) (by kernel_rfl) <| qe) (by kernel_rfl) ?_
  refine At_go <| W_condp (r_.2.2 < ((p_Personal.length : Nat) : Int)) (by kernel_rfl) (fun hc12 => ?_) (fun hc12 => ?_)
  · rw [if_pos hc12] at hm
    refine W_seq <| W_q [] (.n 4 (I 28) .z) qe (by kernel_rfl) ?_
    refine At_go <| W_ret (At_ir (At_tr ?_))
    obtain rfl := Option.some.inj hm
    refine At_rt [I 28] qe (by kernel_rfl) ?_
    have k_28 := k_25.sel .z
    exact ⟨rfl, k_28⟩
  rw [if_neg hc12] at hm
  refine W_skip <| At_in ?_
  have k_29 := k_25.sel .z
  exact At_c ⟨hm, rfl, k_29⟩ (by kernel_rfl)
 rintro L_ w_10 ⟨hm, rfl, k_30⟩
 simp only [m_param_Check_j1] at hm
 refine W_seq <| W_q [] (.n 4 (I 0) .a) qe (by kernel_rfl) ?_
 refine At_go <| W_ret ?_
 obtain rfl := Option.some.inj hm
 refine At_rt [I 0] qe (by kernel_rfl) ?_
 exact ⟨rfl, k_30⟩

-- quern/param.rows
noncomputable def m_param_rows (k_ : Int) : Option (List (Int × Int × Int × List UInt8 × Int)) :=
  if k_ = 1 then (some ([((1 : Int), (0 : Int), (1 : Int), ([100, 105, 103, 101, 115, 116] : List UInt8), (20 : Int)), ((2 : Int), (1 : Int), (1 : Int), ([107, 101, 121] : List UInt8), (8 : Int)), ((3 : Int), (2 : Int), (1 : Int), ([102, 97, 110, 111, 117, 116] : List UInt8), (21 : Int)), ((4 : Int), (3 : Int), (1 : Int), ([100, 101, 112, 116, 104] : List UInt8), (22 : Int)), ((5 : Int), (4 : Int), (4 : Int), ([108, 101, 97, 102] : List UInt8), (1 : Int)), ((6 : Int), (8 : Int), (8 : Int), ([111, 102, 102, 115, 101, 116] : List UInt8), (23 : Int)), ((7 : Int), (12 : Int), (4 : Int), ([120, 111, 102] : List UInt8), (24 : Int)), ((8 : Int), (16 : Int), (1 : Int), ([110, 111, 100, 101] : List UInt8), (25 : Int)), ((9 : Int), (17 : Int), (1 : Int), ([105, 110, 110, 101, 114] : List UInt8), (26 : Int))] : List (Int × Int × Int × List UInt8 × Int))) else ((geti ([((1 : Int), (0 : Int), (1 : Int), ([100, 105, 103, 101, 115, 116] : List UInt8), (20 : Int)), ((2 : Int), (1 : Int), (1 : Int), ([107, 101, 121] : List UInt8), (8 : Int)), ((3 : Int), (2 : Int), (1 : Int), ([102, 97, 110, 111, 117, 116] : List UInt8), (21 : Int)), ((4 : Int), (3 : Int), (1 : Int), ([100, 101, 112, 116, 104] : List UInt8), (22 : Int)), ((5 : Int), (4 : Int), (4 : Int), ([108, 101, 97, 102] : List UInt8), (1 : Int)), ((6 : Int), (8 : Int), (8 : Int), ([111, 102, 102, 115, 101, 116] : List UInt8), (23 : Int)), ((7 : Int), (12 : Int), (4 : Int), ([120, 111, 102] : List UInt8), (24 : Int)), ((8 : Int), (16 : Int), (1 : Int), ([110, 111, 100, 101] : List UInt8), (25 : Int)), ((9 : Int), (17 : Int), (1 : Int), ([105, 110, 110, 101, 114] : List UInt8), (26 : Int))] : List (Int × Int × Int × List UInt8 × Int)) (5 : Int)).bind fun x_0 => (geti (([((1 : Int), (0 : Int), (1 : Int), ([100, 105, 103, 101, 115, 116] : List UInt8), (20 : Int)), ((2 : Int), (1 : Int), (1 : Int), ([107, 101, 121] : List UInt8), (8 : Int)), ((3 : Int), (2 : Int), (1 : Int), ([102, 97, 110, 111, 117, 116] : List UInt8), (21 : Int)), ((4 : Int), (3 : Int), (1 : Int), ([100, 101, 112, 116, 104] : List UInt8), (22 : Int)), ((5 : Int), (4 : Int), (4 : Int), ([108, 101, 97, 102] : List UInt8), (1 : Int)), ((6 : Int), (8 : Int), (8 : Int), ([111, 102, 102, 115, 101, 116] : List UInt8), (23 : Int)), ((7 : Int), (12 : Int), (4 : Int), ([120, 111, 102] : List UInt8), (24 : Int)), ((8 : Int), (16 : Int), (1 : Int), ([110, 111, 100, 101] : List UInt8), (25 : Int)), ((9 : Int), (17 : Int), (1 : Int), ([105, 110, 110, 101, 114] : List UInt8), (26 : Int))] : List (Int × Int × Int × List UInt8 × Int)).set (Int.toNat (5 : Int)) (x_0.1, x_0.2.1, (6 : Int), x_0.2.2.2.1, x_0.2.2.2.2)) (6 : Int)).bind fun x_1 => (geti ((([((1 : Int), (0 : Int), (1 : Int), ([100, 105, 103, 101, 115, 116] : List UInt8), (20 : Int)), ((2 : Int), (1 : Int), (1 : Int), ([107, 101, 121] : List UInt8), (8 : Int)), ((3 : Int), (2 : Int), (1 : Int), ([102, 97, 110, 111, 117, 116] : List UInt8), (21 : Int)), ((4 : Int), (3 : Int), (1 : Int), ([100, 101, 112, 116, 104] : List UInt8), (22 : Int)), ((5 : Int), (4 : Int), (4 : Int), ([108, 101, 97, 102] : List UInt8), (1 : Int)), ((6 : Int), (8 : Int), (8 : Int), ([111, 102, 102, 115, 101, 116] : List UInt8), (23 : Int)), ((7 : Int), (12 : Int), (4 : Int), ([120, 111, 102] : List UInt8), (24 : Int)), ((8 : Int), (16 : Int), (1 : Int), ([110, 111, 100, 101] : List UInt8), (25 : Int)), ((9 : Int), (17 : Int), (1 : Int), ([105, 110, 110, 101, 114] : List UInt8), (26 : Int))] : List (Int × Int × Int × List UInt8 × Int)).set (Int.toNat (5 : Int)) (x_0.1, x_0.2.1, (6 : Int), x_0.2.2.2.1, x_0.2.2.2.2)).set (Int.toNat (6 : Int)) (x_1.1, x_1.2.1, (2 : Int), x_1.2.2.2.1, x_1.2.2.2.2)) (7 : Int)).bind fun x_2 => (geti (((([((1 : Int), (0 : Int), (1 : Int), ([100, 105, 103, 101, 115, 116] : List UInt8), (20 : Int)), ((2 : Int), (1 : Int), (1 : Int), ([107, 101, 121] : List UInt8), (8 : Int)), ((3 : Int), (2 : Int), (1 : Int), ([102, 97, 110, 111, 117, 116] : List UInt8), (21 : Int)), ((4 : Int), (3 : Int), (1 : Int), ([100, 101, 112, 116, 104] : List UInt8), (22 : Int)), ((5 : Int), (4 : Int), (4 : Int), ([108, 101, 97, 102] : List UInt8), (1 : Int)), ((6 : Int), (8 : Int), (8 : Int), ([111, 102, 102, 115, 101, 116] : List UInt8), (23 : Int)), ((7 : Int), (12 : Int), (4 : Int), ([120, 111, 102] : List UInt8), (24 : Int)), ((8 : Int), (16 : Int), (1 : Int), ([110, 111, 100, 101] : List UInt8), (25 : Int)), ((9 : Int), (17 : Int), (1 : Int), ([105, 110, 110, 101, 114] : List UInt8), (26 : Int))] : List (Int × Int × Int × List UInt8 × Int)).set (Int.toNat (5 : Int)) (x_0.1, x_0.2.1, (6 : Int), x_0.2.2.2.1, x_0.2.2.2.2)).set (Int.toNat (6 : Int)) (x_1.1, x_1.2.1, (2 : Int), x_1.2.2.2.1, x_1.2.2.2.2)).set (Int.toNat (7 : Int)) (x_2.1, (14 : Int), x_2.2.2.1, x_2.2.2.2.1, x_2.2.2.2.2)) (8 : Int)).bind fun x_3 => some ((((([((1 : Int), (0 : Int), (1 : Int), ([100, 105, 103, 101, 115, 116] : List UInt8), (20 : Int)), ((2 : Int), (1 : Int), (1 : Int), ([107, 101, 121] : List UInt8), (8 : Int)), ((3 : Int), (2 : Int), (1 : Int), ([102, 97, 110, 111, 117, 116] : List UInt8), (21 : Int)), ((4 : Int), (3 : Int), (1 : Int), ([100, 101, 112, 116, 104] : List UInt8), (22 : Int)), ((5 : Int), (4 : Int), (4 : Int), ([108, 101, 97, 102] : List UInt8), (1 : Int)), ((6 : Int), (8 : Int), (8 : Int), ([111, 102, 102, 115, 101, 116] : List UInt8), (23 : Int)), ((7 : Int), (12 : Int), (4 : Int), ([120, 111, 102] : List UInt8), (24 : Int)), ((8 : Int), (16 : Int), (1 : Int), ([110, 111, 100, 101] : List UInt8), (25 : Int)), ((9 : Int), (17 : Int), (1 : Int), ([105, 110, 110, 101, 114] : List UInt8), (26 : Int))] : List (Int × Int × Int × List UInt8 × Int)).set (Int.toNat (5 : Int)) (x_0.1, x_0.2.1, (6 : Int), x_0.2.2.2.1, x_0.2.2.2.2)).set (Int.toNat (6 : Int)) (x_1.1, x_1.2.1, (2 : Int), x_1.2.2.2.1, x_1.2.2.2.2)).set (Int.toNat (7 : Int)) (x_2.1, (14 : Int), x_2.2.2.1, x_2.2.2.2.1, x_2.2.2.2.2)).set (Int.toNat (8 : Int)) (x_3.1, (15 : Int), x_3.2.2.1, x_3.2.2.2.1, x_3.2.2.2.2)))
theorem c_param_rows {F O : Nat → Prop} {w : World} (k_ : Int) (k : Cx F O w w []) (r : (List (Int × Int × Int × List UInt8 × Int))) (hm : m_param_rows k_ = some r) :
    Calls Tryz.prog 104 (vals [I k_]) w (fun e w' => ∃ A n c, r.length = n ∧ e = .returned (SV.val (sl A n c)) ∧ Cx F O w w' [Ow (eP eI (eP eI (eP eI (eP eS eI)))) A n c r]) := by
 unfold m_param_rows at hm
 refine calls [I k_] Tryz.func104 rfl (of_decide_eq_true (by kernel_rfl)) ?_
 refine W_seq <| W_q [] .a qe (by kernel_rfl) ?_
 refine At_go <| W_seq <| W_reg <| WLs 9 [] (.n 5 (.agg [I 1, I 0, I 1, .s ([100, 105, 103, 101, 115, 116] : List UInt8), I 20]) (.n 6 (.agg [I 2, I 1, I 1, .s ([107, 101, 121] : List UInt8), I 8]) (.n 7 (.agg [I 3, I 2, I 1, .s ([102, 97, 110, 111, 117, 116] : List UInt8), I 21]) (.n 8 (.agg [I 4, I 3, I 1, .s ([100, 101, 112, 116, 104] : List UInt8), I 22]) (.n 9 (.agg [I 5, I 4, I 4, .s ([108, 101, 97, 102] : List UInt8), I 1]) (.n 10 (.agg [I 6, I 8, I 8, .s ([111, 102, 102, 115, 101, 116] : List UInt8), I 23]) (.n 11 (.agg [I 7, I 12, I 4, .s ([120, 111, 102] : List UInt8), I 24]) (.n 12 (.agg [I 8, I 16, I 1, .s ([110, 111, 100, 101] : List UInt8), I 25]) (.n 13 (.agg [I 9, I 17, I 1, .s ([105, 110, 110, 101, 114] : List UInt8), I 26]) .a))))))))) qe (by kernel_rfl) ?_
 refine WL_op <| Op_mk yz_tf165 (eP eI (eP eI (eP eI (eP eS eI)))) [] 14 ([((1 : Int), (0 : Int), (1 : Int), ([100, 105, 103, 101, 115, 116] : List UInt8), (20 : Int)), ((2 : Int), (1 : Int), (1 : Int), ([107, 101, 121] : List UInt8), (8 : Int)), ((3 : Int), (2 : Int), (1 : Int), ([102, 97, 110, 111, 117, 116] : List UInt8), (21 : Int)), ((4 : Int), (3 : Int), (1 : Int), ([100, 101, 112, 116, 104] : List UInt8), (22 : Int)), ((5 : Int), (4 : Int), (4 : Int), ([108, 101, 97, 102] : List UInt8), (1 : Int)), ((6 : Int), (8 : Int), (8 : Int), ([111, 102, 102, 115, 101, 116] : List UInt8), (23 : Int)), ((7 : Int), (12 : Int), (4 : Int), ([120, 111, 102] : List UInt8), (24 : Int)), ((8 : Int), (16 : Int), (1 : Int), ([110, 111, 100, 101] : List UInt8), (25 : Int)), ((9 : Int), (17 : Int), (1 : Int), ([105, 110, 110, 101, 114] : List UInt8), (26 : Int))] : List (Int × Int × Int × List UInt8 × Int)) [(0, .agg [I 1, I 0, I 1, .s ([100, 105, 103, 101, 115, 116] : List UInt8), I 20]), (1, .agg [I 2, I 1, I 1, .s ([107, 101, 121] : List UInt8), I 8]), (2, .agg [I 3, I 2, I 1, .s ([102, 97, 110, 111, 117, 116] : List UInt8), I 21]), (3, .agg [I 4, I 3, I 1, .s ([100, 101, 112, 116, 104] : List UInt8), I 22]), (4, .agg [I 5, I 4, I 4, .s ([108, 101, 97, 102] : List UInt8), I 1]), (5, .agg [I 6, I 8, I 8, .s ([111, 102, 102, 115, 101, 116] : List UInt8), I 23]), (6, .agg [I 7, I 12, I 4, .s ([120, 111, 102] : List UInt8), I 24]), (7, .agg [I 8, I 16, I 1, .s ([110, 111, 100, 101] : List UInt8), I 25]), (8, .agg [I 9, I 17, I 1, .s ([105, 110, 110, 101, 114] : List UInt8), I 26])] [I 1, I 0, I 1, .s ([100, 105, 103, 101, 115, 116] : List UInt8), I 20, I 2, I 1, I 1, .s ([107, 101, 121] : List UInt8), I 8, I 3, I 2, I 1, .s ([102, 97, 110, 111, 117, 116] : List UInt8), I 21, I 4, I 3, I 1, .s ([100, 101, 112, 116, 104] : List UInt8), I 22, I 5, I 4, I 4, .s ([108, 101, 97, 102] : List UInt8), I 1, I 6, I 8, I 8, .s ([111, 102, 102, 115, 101, 116] : List UInt8), I 23, I 7, I 12, I 4, .s ([120, 111, 102] : List UInt8), I 24, I 8, I 16, I 1, .s ([110, 111, 100, 101] : List UInt8), I 25, I 9, I 17, I 1, .s ([105, 110, 110, 101, 114] : List UInt8), I 26] (by kernel_rfl) (by kernel_rfl) (by kernel_rfl) k ?_
 intro A0 w_ k_1
 refine WLs 1 [] (.n 3 (sl A0 9 9) (.ssss (.ssss (.ss .a)))) qe (by kernel_rfl) ?_
 refine WL_nil <| At_go <| W_seq <| W_seq <| W_q [] (.n 16 (.b (decide (k_ = 1))) (.k .z)) qe (by kernel_rfl) ?_
 refine At_go <| W_condp (k_ = 1) (by kernel_rfl) (fun hc => ?_) (fun hc => ?_)
 · rw [if_pos hc] at hm
   refine W_seq <| W_q [] (.n 2 (sl A0 9 9) .z) qe (by kernel_rfl) ?_
   refine At_go <| W_ret (At_tr ?_)
   obtain rfl := Option.some.inj hm
   refine At_rt [sl A0 9 9] qe (by kernel_rfl) ?_
   exact ⟨A0, 9, 9, k_1.len 0 rfl, rfl, k_1⟩
 rw [if_neg hc] at hm
 refine W_skip <| At_go <| W_seq <| W_q [] (.n 4 (sl A0 9 9) .z) qe (by kernel_rfl) ?_
 refine At_go <| W_seq <| W_reg ?_
 obtain ⟨x_0, h_x_0, hm⟩ := ob hm
 refine WLs 4 [] (.n 20 (sl A0 9 9) (.n 22 (.v (.pointer (fa (ixA A0 (5 : Int) 5) 2))) .a)) (qJ (k_1.rd 0 rfl) h_x_0 (k_1.len 0 rfl) <| qS (A := ixA A0 (5 : Int) 5) (ixA_some _ _ (E_ix (E := (eP eI (eP eI (eP eI (eP eS eI))))) (k_1.rd 0 rfl) (by decide) (geti_lt h_x_0).1 (geti_some h_x_0).2)) <| qe) (by kernel_rfl) ?_
 refine WL_op <| Op_ost (E := (eP eI (eP eI (eP eI (eP eS eI))))) (kk := 2) (sv := I 6) (svs := [I 6]) [] 0 (x_0.1, x_0.2.1, (6 : Int), x_0.2.2.2.1, x_0.2.2.2.2) (by kernel_rfl) (Pt.fa2 (Pt.ix1 A0 (5 : Int) 5) 2) k_1 rfl (geti_some h_x_0).2 (E_ix (E := (eP eI (eP eI (eP eI (eP eS eI))))) (k_1.rd 0 rfl) (by decide) (geti_lt h_x_0).1 (geti_some h_x_0).2) rfl (Nat.le_of_ble_eq_true (by kernel_rfl)) ?_
 intro w_1 k_2
 obtain ⟨x_1, h_x_1, hm⟩ := ob hm
 refine WLs 2 [] (.n 24 (.v (.pointer (fa (ixA A0 (6 : Int) 5) 2))) (.ss .a)) (qJ (k_2.rd 0 rfl) h_x_1 (k_2.len 0 rfl) <| qS (A := ixA A0 (6 : Int) 5) (ixA_some _ _ (E_ix (E := (eP eI (eP eI (eP eI (eP eS eI))))) (k_2.rd 0 rfl) (by decide) (geti_lt h_x_1).1 (geti_some h_x_1).2)) <| qe) (by kernel_rfl) ?_
 refine WL_op <| Op_ost (E := (eP eI (eP eI (eP eI (eP eS eI))))) (kk := 2) (sv := I 2) (svs := [I 2]) [] 0 (x_1.1, x_1.2.1, (2 : Int), x_1.2.2.2.1, x_1.2.2.2.2) (by kernel_rfl) (Pt.fa2 (Pt.ix1 A0 (6 : Int) 5) 2) k_2 rfl (geti_some h_x_1).2 (E_ix (E := (eP eI (eP eI (eP eI (eP eS eI))))) (k_2.rd 0 rfl) (by decide) (geti_lt h_x_1).1 (geti_some h_x_1).2) rfl (Nat.le_of_ble_eq_true (by kernel_rfl)) ?_
 intro w_2 k_3
 refine WL_nil <| At_go <| W_seq <| W_reg ?_
 obtain ⟨x_2, h_x_2, hm⟩ := ob hm
 refine WLs 4 [] (.n 26 (sl A0 9 9) (.n 28 (.v (.pointer (fa (ixA A0 (7 : Int) 5) 1))) (.s .a))) (qJ (k_3.rd 0 rfl) h_x_2 (k_3.len 0 rfl) <| qS (A := ixA A0 (7 : Int) 5) (ixA_some _ _ (E_ix (E := (eP eI (eP eI (eP eI (eP eS eI))))) (k_3.rd 0 rfl) (by decide) (geti_lt h_x_2).1 (geti_some h_x_2).2)) <| qe) (by kernel_rfl) ?_
 refine WL_op <| Op_ost (E := (eP eI (eP eI (eP eI (eP eS eI))))) (kk := 1) (sv := I 14) (svs := [I 14]) [] 0 (x_2.1, (14 : Int), x_2.2.2.1, x_2.2.2.2.1, x_2.2.2.2.2) (by kernel_rfl) (Pt.fa2 (Pt.ix1 A0 (7 : Int) 5) 1) k_3 rfl (geti_some h_x_2).2 (E_ix (E := (eP eI (eP eI (eP eI (eP eS eI))))) (k_3.rd 0 rfl) (by decide) (geti_lt h_x_2).1 (geti_some h_x_2).2) rfl (Nat.le_of_ble_eq_true (by kernel_rfl)) ?_
 intro w_3 k_4
 obtain ⟨x_3, h_x_3, hm⟩ := ob hm
 refine WLs 2 [] (.n 30 (.v (.pointer (fa (ixA A0 (8 : Int) 5) 1))) (.ss .a)) (qJ (k_4.rd 0 rfl) h_x_3 (k_4.len 0 rfl) <| qS (A := ixA A0 (8 : Int) 5) (ixA_some _ _ (E_ix (E := (eP eI (eP eI (eP eI (eP eS eI))))) (k_4.rd 0 rfl) (by decide) (geti_lt h_x_3).1 (geti_some h_x_3).2)) <| qe) (by kernel_rfl) ?_
 refine WL_op ?_
 have k_5 := k_4.sel (.k .e)
 refine Op_ost (E := (eP eI (eP eI (eP eI (eP eS eI))))) (kk := 1) (sv := I 15) (svs := [I 15]) [] 0 (x_3.1, (15 : Int), x_3.2.2.1, x_3.2.2.2.1, x_3.2.2.2.2) (by kernel_rfl) (Pt.fa2 (Pt.ix1 A0 (8 : Int) 5) 1) k_5 rfl (geti_some h_x_3).2 (E_ix (E := (eP eI (eP eI (eP eI (eP eS eI))))) (k_5.rd 0 rfl) (by decide) (geti_lt h_x_3).1 (geti_some h_x_3).2) rfl (Nat.le_of_ble_eq_true (by kernel_rfl)) ?_
 intro w_4 k_6
 refine WL_nil <| At_go <| W_seq <| W_q [] (.n 2 (sl A0 9 9) .z) qe (by kernel_rfl) ?_
 refine At_go <| W_ret ?_
 obtain rfl := Option.some.inj hm
 refine At_rt [sl A0 9 9] qe (by kernel_rfl) ?_
 exact ⟨A0, 9, 9, k_6.len 0 rfl, rfl, k_6⟩

-- quern/param.value
noncomputable def m_param_value (p_Digest : Int) (p_Key : Int) (p_Fanout : Int) (p_Depth : Int) (p_Leaf : UInt32) (p_Offset : UInt64) (p_Xof : UInt32) (p_NodeDepth : Int) (p_Inner : Int) (p_Salt : List UInt8) (p_Personal : List UInt8) (field : Int) : Option UInt64 :=
  if field = 1 then (some (UInt64.ofInt p_Digest)) else (if field = 2 then (some (UInt64.ofInt p_Key)) else (if field = 3 then (some (UInt64.ofInt p_Fanout)) else (if field = 4 then (some (UInt64.ofInt p_Depth)) else (if field = 5 then (some (UInt64.ofNat p_Leaf.toNat)) else (if field = 6 then (some p_Offset) else (if field = 7 then (some (UInt64.ofNat p_Xof.toNat)) else (if field = 8 then (some (UInt64.ofInt p_NodeDepth)) else (some (UInt64.ofInt p_Inner)))))))))
theorem c_param_value {F O : Nat → Prop} {w : World} (p_Digest : Int) (p_Key : Int) (p_Fanout : Int) (p_Depth : Int) (p_Leaf : UInt32) (p_Offset : UInt64) (p_Xof : UInt32) (p_NodeDepth : Int) (p_Inner : Int) (p_Salt : List UInt8) (p_Personal : List UInt8) (field : Int) (A_p_Salt : Option Addr) (n_p_Salt : Nat) (c_p_Salt : Nat) (A_p_Personal : Option Addr) (n_p_Personal : Nat) (c_p_Personal : Nat) (h_p_Salt : Ro F w A_p_Salt (e8.all p_Salt)) (hn_p_Salt : p_Salt.length = n_p_Salt) (hc_p_Salt : n_p_Salt ≤ c_p_Salt) (h_p_Personal : Ro F w A_p_Personal (e8.all p_Personal)) (hn_p_Personal : p_Personal.length = n_p_Personal) (hc_p_Personal : n_p_Personal ≤ c_p_Personal) (k : Cx F O w w []) (r : UInt64) (hm : m_param_value p_Digest p_Key p_Fanout p_Depth p_Leaf p_Offset p_Xof p_NodeDepth p_Inner p_Salt p_Personal field = some r) :
    Calls Tryz.prog 106 (vals [.agg [I p_Digest, I p_Key, I p_Fanout, I p_Depth, .u32 p_Leaf, .u64 p_Offset, .u32 p_Xof, I p_NodeDepth, I p_Inner, sl A_p_Salt n_p_Salt c_p_Salt, sl A_p_Personal n_p_Personal c_p_Personal], I field]) w (fun e w' => e = .returned (SV.val (.u64 r)) ∧ Cx F O w w' []) := by
 unfold m_param_value at hm
 subst hn_p_Salt
 subst hn_p_Personal
 refine calls [.agg [I p_Digest, I p_Key, I p_Fanout, I p_Depth, .u32 p_Leaf, .u64 p_Offset, .u32 p_Xof, I p_NodeDepth, I p_Inner, sl A_p_Salt p_Salt.length c_p_Salt, sl A_p_Personal p_Personal.length c_p_Personal], I field] Tryz.func106 rfl (of_decide_eq_true (by kernel_rfl)) ?_
 refine W_seq <| W_reg <| WL_op <| Op_box [] 2 (.agg [I p_Digest, I p_Key, I p_Fanout, I p_Depth, .u32 p_Leaf, .u64 p_Offset, .u32 p_Xof, I p_NodeDepth, I p_Inner, sl A_p_Salt p_Salt.length c_p_Salt, sl A_p_Personal p_Personal.length c_p_Personal]) [I p_Digest, I p_Key, I p_Fanout, I p_Depth, .u32 p_Leaf, .u64 p_Offset, .u32 p_Xof, I p_NodeDepth, I p_Inner, sl A_p_Salt p_Salt.length c_p_Salt, sl A_p_Personal p_Personal.length c_p_Personal] (by kernel_rfl) k ?_
 intro g w_ k_
 refine WLs 1 [] (.k (.s .a)) qe (by kernel_rfl) ?_
 refine WL_nil <| At_go <| W_seq <| W_seq <| W_q [] (.n 5 (I field) (.k .z)) qe (by kernel_rfl) ?_
 refine At_go <| W_block <| W_seq <| W_q [] (.n 6 (.b (decide (field = 1))) .a) qe (by kernel_rfl) ?_
 refine At_go <| W_condp (field = 1) (by kernel_rfl) (fun hc => ?_) (fun hc => ?_)
 · rw [if_pos hc] at hm
   refine W_seq <| W_q [] (.n 4 (.u64 (UInt64.ofInt p_Digest)) .z) (qs g 0 <| qB k_ 0 rfl 0 (I p_Digest) (by kernel_rfl) <| qe) (by kernel_rfl) ?_
   refine At_go <| W_ret (At_ir (At_tr ?_))
   obtain rfl := Option.some.inj hm
   refine At_rt [.u64 (UInt64.ofInt p_Digest)] qe (by kernel_rfl) ?_
   have k_1 := k_.sel .z
   exact ⟨rfl, k_1⟩
 rw [if_neg hc] at hm
 refine W_seq <| W_q [] (.n 11 (.b (decide (field = 2))) (.s .a)) qe (by kernel_rfl) ?_
 refine At_go <| W_condp (field = 2) (by kernel_rfl) (fun hc1 => ?_) (fun hc1 => ?_)
 · rw [if_pos hc1] at hm
   refine W_seq <| W_q [] (.n 4 (.u64 (UInt64.ofInt p_Key)) .z) (qs g 0 <| qB k_ 0 rfl 1 (I p_Key) (by kernel_rfl) <| qe) (by kernel_rfl) ?_
   refine At_go <| W_ret (At_ir (At_tr ?_))
   obtain rfl := Option.some.inj hm
   refine At_rt [.u64 (UInt64.ofInt p_Key)] qe (by kernel_rfl) ?_
   have k_2 := k_.sel .z
   exact ⟨rfl, k_2⟩
 rw [if_neg hc1] at hm
 refine W_seq <| W_q [] (.n 16 (.b (decide (field = 3))) (.s .a)) qe (by kernel_rfl) ?_
 refine At_go <| W_condp (field = 3) (by kernel_rfl) (fun hc2 => ?_) (fun hc2 => ?_)
 · rw [if_pos hc2] at hm
   refine W_seq <| W_q [] (.n 4 (.u64 (UInt64.ofInt p_Fanout)) .z) (qs g 0 <| qB k_ 0 rfl 2 (I p_Fanout) (by kernel_rfl) <| qe) (by kernel_rfl) ?_
   refine At_go <| W_ret (At_ir (At_tr ?_))
   obtain rfl := Option.some.inj hm
   refine At_rt [.u64 (UInt64.ofInt p_Fanout)] qe (by kernel_rfl) ?_
   have k_3 := k_.sel .z
   exact ⟨rfl, k_3⟩
 rw [if_neg hc2] at hm
 refine W_seq <| W_q [] (.n 21 (.b (decide (field = 4))) (.s .a)) qe (by kernel_rfl) ?_
 refine At_go <| W_condp (field = 4) (by kernel_rfl) (fun hc3 => ?_) (fun hc3 => ?_)
 · rw [if_pos hc3] at hm
   refine W_seq <| W_q [] (.n 4 (.u64 (UInt64.ofInt p_Depth)) .z) (qs g 0 <| qB k_ 0 rfl 3 (I p_Depth) (by kernel_rfl) <| qe) (by kernel_rfl) ?_
   refine At_go <| W_ret (At_ir (At_tr ?_))
   obtain rfl := Option.some.inj hm
   refine At_rt [.u64 (UInt64.ofInt p_Depth)] qe (by kernel_rfl) ?_
   have k_4 := k_.sel .z
   exact ⟨rfl, k_4⟩
 rw [if_neg hc3] at hm
 refine W_seq <| W_q [] (.n 26 (.b (decide (field = 5))) (.s .a)) qe (by kernel_rfl) ?_
 refine At_go <| W_condp (field = 5) (by kernel_rfl) (fun hc4 => ?_) (fun hc4 => ?_)
 · rw [if_pos hc4] at hm
   refine W_seq <| W_q [] (.n 4 (.u64 (UInt64.ofNat p_Leaf.toNat)) .z) (qs g 0 <| qB k_ 0 rfl 4 (.u32 p_Leaf) (by kernel_rfl) <| qe) (by kernel_rfl) ?_
   refine At_go <| W_ret (At_ir (At_tr ?_))
   obtain rfl := Option.some.inj hm
   refine At_rt [.u64 (UInt64.ofNat p_Leaf.toNat)] qe (by kernel_rfl) ?_
   have k_5 := k_.sel .z
   exact ⟨rfl, k_5⟩
 rw [if_neg hc4] at hm
 refine W_seq <| W_q [] (.n 31 (.b (decide (field = 6))) (.s .a)) qe (by kernel_rfl) ?_
 refine At_go <| W_condp (field = 6) (by kernel_rfl) (fun hc5 => ?_) (fun hc5 => ?_)
 · rw [if_pos hc5] at hm
   refine W_seq <| W_q [] (.n 4 (.u64 p_Offset) .z) (qs g 0 <| qB k_ 0 rfl 5 (.u64 p_Offset) (by kernel_rfl) <| qe) (by kernel_rfl) ?_
   refine At_go <| W_ret (At_ir (At_tr ?_))
   obtain rfl := Option.some.inj hm
   refine At_rt [.u64 p_Offset] qe (by kernel_rfl) ?_
   have k_6 := k_.sel .z
   exact ⟨rfl, k_6⟩
 rw [if_neg hc5] at hm
 refine W_seq <| W_q [] (.n 35 (.b (decide (field = 7))) (.s .a)) qe (by kernel_rfl) ?_
 refine At_go <| W_condp (field = 7) (by kernel_rfl) (fun hc6 => ?_) (fun hc6 => ?_)
 · rw [if_pos hc6] at hm
   refine W_seq <| W_q [] (.n 4 (.u64 (UInt64.ofNat p_Xof.toNat)) .z) (qs g 0 <| qB k_ 0 rfl 6 (.u32 p_Xof) (by kernel_rfl) <| qe) (by kernel_rfl) ?_
   refine At_go <| W_ret (At_ir (At_tr ?_))
   obtain rfl := Option.some.inj hm
   refine At_rt [.u64 (UInt64.ofNat p_Xof.toNat)] qe (by kernel_rfl) ?_
   have k_7 := k_.sel .z
   exact ⟨rfl, k_7⟩
 rw [if_neg hc6] at hm
 refine W_seq <| W_q [] (.n 40 (.b (decide (field = 8))) (.ss .a)) qe (by kernel_rfl) ?_
 refine At_go <| W_condp (field = 8) (by kernel_rfl) (fun hc7 => ?_) (fun hc7 => ?_)
 · rw [if_pos hc7] at hm
   refine W_seq <| W_q [] (.n 4 (.u64 (UInt64.ofInt p_NodeDepth)) .z) (qs g 0 <| qB k_ 0 rfl 7 (I p_NodeDepth) (by kernel_rfl) <| qe) (by kernel_rfl) ?_
   refine At_go <| W_ret (At_ir (At_tr ?_))
   obtain rfl := Option.some.inj hm
   refine At_rt [.u64 (UInt64.ofInt p_NodeDepth)] qe (by kernel_rfl) ?_
   have k_8 := k_.sel .z
   exact ⟨rfl, k_8⟩
 rw [if_neg hc7] at hm
 refine W_skip <| At_in <| At_go <| W_seq <| W_q [] (.n 4 (.u64 (UInt64.ofInt p_Inner)) .z) (qs g 0 <| qB k_ 0 rfl 8 (I p_Inner) (by kernel_rfl) <| qe) (by kernel_rfl) ?_
 refine At_go <| W_ret ?_
 obtain rfl := Option.some.inj hm
 refine At_rt [.u64 (UInt64.ofInt p_Inner)] qe (by kernel_rfl) ?_
 have k_9 := k_.sel .z
 exact ⟨rfl, k_9⟩

-- quern/param.put
noncomputable def m_param_put_l0 (at_ : Int) (size : Int) (v : UInt64) : (List UInt8 × Int) → Option ((List UInt8 × Int) ⊕ (List UInt8))
  | (b1, x_0) => if x_0 < size then ((need (0 ≤ w64 (8 * x_0))).bind fun u => (geti b1 (w64 (at_ + x_0))).bind fun x_1 => some (.inl (b1.set (Int.toNat (w64 (at_ + x_0))) (UInt8.ofNat (shr64 v (Int.toNat (w64 (8 * x_0)))).toNat), w64 (x_0 + 1)))) else (Option.map Sum.inr (some b1))
noncomputable def m_param_put (b : List UInt8) (at_ : Int) (size : Int) (v : UInt64) : Option (List UInt8) :=
  whileO (m_param_put_l0 at_ size v) (b, (0 : Int))
theorem c_param_put {F O : Nat → Prop} {w : World} (b : List UInt8) (at_ : Int) (size : Int) (v : UInt64) (A_b : Option Addr) (n_b : Nat) (c_b : Nat) (G_b : Win) (hc_b : n_b ≤ c_b) (k : Cx F O w w [Mw e8 A_b n_b b G_b]) (r : (List UInt8)) (hm : m_param_put b at_ size v = some r) :
    Calls Tryz.prog 105 (vals [sl A_b n_b c_b, I at_, I size, .u64 v]) w (fun e w' => e = .returned (SV.val (.tup [])) ∧ Cx F O w w' [Mw e8 A_b n_b r G_b]) := by
 unfold m_param_put at hm
 obtain rfl := k.mlen 0 rfl
 refine calls [sl A_b b.length c_b, I at_, I size, .u64 v] Tryz.func105 rfl (of_decide_eq_true (by kernel_rfl)) ?_
 refine W_seq <| W_q [] (.n 9 (I size) (.n 10 (I 0) (.kk (.s .a)))) qe (by kernel_rfl) ?_
 refine At_go <| W_block <| W_lp (m_param_put_l0 at_ size v) (fun s L wr => ∃ (b1 : List UInt8) (x_0 : Int), (b1, x_0) = s ∧ L = [(0, sl A_b b.length c_b), (1, I at_), (3, .u64 v), (9, I size), (10, I x_0)] ∧ Cx F O w wr [Mw e8 A_b b.length b1 G_b]) (b, (0 : Int)) r hm ⟨b, (0 : Int), rfl, rfl, k⟩ (by kernel_rfl) ?_
 intro s0_ L_ w_ y0 hrel hstep hr0
 obtain ⟨b1, x_0, rfl, rfl, k_⟩ := hrel
 have hm := hstep; simp only [m_param_put_l0] at hm
 clear hstep
 refine W_seq <| W_q [] (.n 11 (.b (decide (x_0 < size))) .a) qe (by kernel_rfl) ?_
 refine At_go <| W_seq <| W_condp (x_0 < size) (by kernel_rfl) (fun hc => ?_) (fun hc => ?_)
 · rw [if_pos hc] at hm
   refine W_skip <| At_go <| W_seq <| W_block <| W_seq <| W_q [] (.n 8 (I x_0) (.s .a)) qe (by kernel_rfl) ?_
   refine At_go <| W_reg ?_
   obtain ⟨u, h_u, hm⟩ := ob hm
   obtain ⟨x_1, h_x_1, hm⟩ := ob hm
   refine WLs 10 [] (.n 21 (.u8 (UInt8.ofNat (shr64 v (Int.toNat (w64 (8 * x_0)))).toNat)) (.n 22 (.v (.pointer (ixA A_b (w64 (at_ + x_0)) 1))) (.s .a))) (qp (0 ≤ w64 (8 * x_0)) (need_some h_u) <| qJ (k_.mrd 0 rfl) h_x_1 (k_.mlen 0 rfl) <| qe) (by kernel_rfl) ?_
   refine WL_op <| Op_mst (E := e8) (kk := 0) (sv := .u8 (UInt8.ofNat (shr64 v (Int.toNat (w64 (8 * x_0)))).toNat)) (svs := [.u8 (UInt8.ofNat (shr64 v (Int.toNat (w64 (8 * x_0)))).toNat)]) [] 0 (UInt8.ofNat (shr64 v (Int.toNat (w64 (8 * x_0)))).toNat) (by kernel_rfl) (Pt.ix1 A_b (w64 (at_ + x_0)) 1) k_ rfl (geti_some h_x_1).2 (E_ix (E := e8) (k_.mrd 0 rfl) (by decide) (geti_lt h_x_1).1 (geti_some h_x_1).2) rfl (Nat.le_of_ble_eq_true (by kernel_rfl)) ?_
   intro w_1 k_1
   refine WL_nil <| At_in <| At_go <| W_q [] (.n 10 (I (w64 (x_0 + 1))) (.ss (.kkkk .z))) qe (by kernel_rfl) ?_
   exact At_rd (b1.set (Int.toNat (w64 (at_ + x_0))) (UInt8.ofNat (shr64 v (Int.toNat (w64 (8 * x_0)))).toNat), w64 (x_0 + 1)) (Option.some.inj hm).symm ⟨b1.set (Int.toNat (w64 (at_ + x_0))) (UInt8.ofNat (shr64 v (Int.toNat (w64 (8 * x_0)))).toNat), w64 (x_0 + 1), rfl, rfl, k_1⟩ (by kernel_rfl)
 rw [if_neg hc] at hm
 refine W_exit (At_te (At_te (At_ie ?_)))
 have hm := exit_of hm hr0
 obtain rfl := Option.some.inj hm
 refine At_en [] qe (by kernel_rfl) ?_
 exact ⟨rfl, k_⟩
end Go.Sx
