import Derived.Test.YtlekdnlojpnlmaaSyZ
import Derived.Test.YtlekdnlojpnlmaaMM
import Derived.Test.YtlekdnlojpnlmaaSyY
import Derived.Test.YtlekdnlojpnlmaaProg
namespace Go.Sx
open Go.RowKit Go.Proofs
set_option linter.unusedVariables false
set_option linter.unusedSimpArgs false
set_option maxRecDepth 20000
variable {F O : Nat → Prop} {w : World}
theorem ws_go4 : IsGo Try.prog 4 := ⟨⟨Try.f4, _, Try.func4, rfl, by kernel_rfl⟩⟩
theorem ws_go5 : IsGo Try.prog 5 := ⟨⟨Try.f5, _, Try.func5, rfl, by kernel_rfl⟩⟩
theorem ws_go6 : IsGo Try.prog 6 := ⟨⟨Try.f6, _, Try.func6, rfl, by kernel_rfl⟩⟩
theorem ws_go7 : IsGo Try.prog 7 := ⟨⟨Try.f7, _, Try.func7, rfl, by kernel_rfl⟩⟩
theorem ws_go8 : IsGo Try.prog 8 := ⟨⟨Try.f8, _, Try.func8, rfl, by kernel_rfl⟩⟩
theorem ws_go9 : IsGo Try.prog 9 := ⟨⟨Try.f9, _, Try.func9, rfl, by kernel_rfl⟩⟩
theorem ws_go10 : IsGo Try.prog 10 := ⟨⟨Try.f10, _, Try.func10, rfl, by kernel_rfl⟩⟩
theorem ws_go11 : IsGo Try.prog 11 := ⟨⟨Try.f11, _, Try.func11, rfl, by kernel_rfl⟩⟩
theorem ws_go12 : IsGo Try.prog 12 := ⟨⟨Try.f12, _, Try.func12, rfl, by kernel_rfl⟩⟩
theorem ws_go13 : IsGo Try.prog 13 := ⟨⟨Try.f13, _, Try.func13, rfl, by kernel_rfl⟩⟩
theorem ws_go14 : IsGo Try.prog 14 := ⟨⟨Try.f14, _, Try.func14, rfl, by kernel_rfl⟩⟩
theorem ws_go15 : IsGo Try.prog 15 := ⟨⟨Try.f15, _, Try.func15, rfl, by kernel_rfl⟩⟩
theorem ws_go16 : IsGo Try.prog 16 := ⟨⟨Try.f16, _, Try.func16, rfl, by kernel_rfl⟩⟩
theorem ws_go17 : IsGo Try.prog 17 := ⟨⟨Try.f17, _, Try.func17, rfl, by kernel_rfl⟩⟩
theorem ws_go18 : IsGo Try.prog 18 := ⟨⟨Try.f18, _, Try.func18, rfl, by kernel_rfl⟩⟩
theorem ws_go19 : IsGo Try.prog 19 := ⟨⟨Try.f19, _, Try.func19, rfl, by kernel_rfl⟩⟩
theorem ws_go20 : IsGo Try.prog 20 := ⟨⟨Try.f20, _, Try.func20, rfl, by kernel_rfl⟩⟩
theorem ws_go23 : IsGo Try.prog 23 := ⟨⟨Try.f23, _, Try.func23, rfl, by kernel_rfl⟩⟩
theorem ws_go24 : IsGo Try.prog 24 := ⟨⟨Try.f24, _, Try.func24, rfl, by kernel_rfl⟩⟩
theorem ws_go25 : IsGo Try.prog 25 := ⟨⟨Try.f25, _, Try.func25, rfl, by kernel_rfl⟩⟩
theorem ws_go26 : IsGo Try.prog 26 := ⟨⟨Try.f26, _, Try.func26, rfl, by kernel_rfl⟩⟩
theorem ws_go27 : IsGo Try.prog 27 := ⟨⟨Try.f27, _, Try.func27, rfl, by kernel_rfl⟩⟩
theorem ws_go28 : IsGo Try.prog 28 := ⟨⟨Try.f28, _, Try.func28, rfl, by kernel_rfl⟩⟩
theorem ws_go29 : IsGo Try.prog 29 := ⟨⟨Try.f29, _, Try.func29, rfl, by kernel_rfl⟩⟩
theorem ws_go31 : IsGo Try.prog 31 := ⟨⟨Try.f31, _, Try.func31, rfl, by kernel_rfl⟩⟩
theorem ws_go34 : IsGo Try.prog 34 := ⟨⟨Try.f34, _, Try.func34, rfl, by kernel_rfl⟩⟩
theorem ws_go35 : IsGo Try.prog 35 := ⟨⟨Try.f35, _, Try.func35, rfl, by kernel_rfl⟩⟩
theorem ws_go36 : IsGo Try.prog 36 := ⟨⟨Try.f36, _, Try.func36, rfl, by kernel_rfl⟩⟩
theorem ws_go37 : IsGo Try.prog 37 := ⟨⟨Try.f37, _, Try.func37, rfl, by kernel_rfl⟩⟩
theorem ws_go38 : IsGo Try.prog 38 := ⟨⟨Try.f38, _, Try.func38, rfl, by kernel_rfl⟩⟩
theorem ws_go39 : IsGo Try.prog 39 := ⟨⟨Try.f39, _, Try.func39, rfl, by kernel_rfl⟩⟩
theorem ws_go40 : IsGo Try.prog 40 := ⟨⟨Try.f40, _, Try.func40, rfl, by kernel_rfl⟩⟩
theorem ws_go45 : IsGo Try.prog 45 := ⟨⟨Try.f45, _, Try.func45, rfl, by kernel_rfl⟩⟩
theorem ws_go46 : IsGo Try.prog 46 := ⟨⟨Try.f46, _, Try.func46, rfl, by kernel_rfl⟩⟩
theorem ws_go47 : IsGo Try.prog 47 := ⟨⟨Try.f47, _, Try.func47, rfl, by kernel_rfl⟩⟩
theorem ws_go48 : IsGo Try.prog 48 := ⟨⟨Try.f48, _, Try.func48, rfl, by kernel_rfl⟩⟩
theorem ws_go55 : IsGo Try.prog 55 := ⟨⟨Try.f55, _, Try.func55, rfl, by kernel_rfl⟩⟩
theorem ws_go56 : IsGo Try.prog 56 := ⟨⟨Try.f56, _, Try.func56, rfl, by kernel_rfl⟩⟩
theorem ws_go61 : IsGo Try.prog 61 := ⟨⟨Try.f61, _, Try.func61, rfl, by kernel_rfl⟩⟩
theorem ws_go62 : IsGo Try.prog 62 := ⟨⟨Try.f62, _, Try.func62, rfl, by kernel_rfl⟩⟩
theorem ws_go63 : IsGo Try.prog 63 := ⟨⟨Try.f63, _, Try.func63, rfl, by kernel_rfl⟩⟩
theorem ws_go64 : IsGo Try.prog 64 := ⟨⟨Try.f64, _, Try.func64, rfl, by kernel_rfl⟩⟩
theorem ws_go65 : IsGo Try.prog 65 := ⟨⟨Try.f65, _, Try.func65, rfl, by kernel_rfl⟩⟩
theorem ws_go66 : IsGo Try.prog 66 := ⟨⟨Try.f66, _, Try.func66, rfl, by kernel_rfl⟩⟩
theorem ws_go68 : IsGo Try.prog 68 := ⟨⟨Try.f68, _, Try.func68, rfl, by kernel_rfl⟩⟩
theorem ws_go69 : IsGo Try.prog 69 := ⟨⟨Try.f69, _, Try.func69, rfl, by kernel_rfl⟩⟩
theorem ws_go70 : IsGo Try.prog 70 := ⟨⟨Try.f70, _, Try.func70, rfl, by kernel_rfl⟩⟩
theorem ws_go71 : IsGo Try.prog 71 := ⟨⟨Try.f71, _, Try.func71, rfl, by kernel_rfl⟩⟩
theorem ws_go72 : IsGo Try.prog 72 := ⟨⟨Try.f72, _, Try.func72, rfl, by kernel_rfl⟩⟩
theorem ws_go73 : IsGo Try.prog 73 := ⟨⟨Try.f73, _, Try.func73, rfl, by kernel_rfl⟩⟩
theorem ws_go74 : IsGo Try.prog 74 := ⟨⟨Try.f74, _, Try.func74, rfl, by kernel_rfl⟩⟩
theorem ws_go75 : IsGo Try.prog 75 := ⟨⟨Try.f75, _, Try.func75, rfl, by kernel_rfl⟩⟩
theorem ws_go76 : IsGo Try.prog 76 := ⟨⟨Try.f76, _, Try.func76, rfl, by kernel_rfl⟩⟩
theorem ws_go77 : IsGo Try.prog 77 := ⟨⟨Try.f77, _, Try.func77, rfl, by kernel_rfl⟩⟩
theorem ws_go78 : IsGo Try.prog 78 := ⟨⟨Try.f78, _, Try.func78, rfl, by kernel_rfl⟩⟩
theorem ws_go79 : IsGo Try.prog 79 := ⟨⟨Try.f79, _, Try.func79, rfl, by kernel_rfl⟩⟩
theorem ws_go80 : IsGo Try.prog 80 := ⟨⟨Try.f80, _, Try.func80, rfl, by kernel_rfl⟩⟩
theorem ws_go81 : IsGo Try.prog 81 := ⟨⟨Try.f81, _, Try.func81, rfl, by kernel_rfl⟩⟩
theorem ws_go82 : IsGo Try.prog 82 := ⟨⟨Try.f82, _, Try.func82, rfl, by kernel_rfl⟩⟩
theorem ws_go83 : IsGo Try.prog 83 := ⟨⟨Try.f83, _, Try.func83, rfl, by kernel_rfl⟩⟩
theorem ws_go84 : IsGo Try.prog 84 := ⟨⟨Try.f84, _, Try.func84, rfl, by kernel_rfl⟩⟩
theorem ws_go85 : IsGo Try.prog 85 := ⟨⟨Try.f85, _, Try.func85, rfl, by kernel_rfl⟩⟩
theorem ws_go86 : IsGo Try.prog 86 := ⟨⟨Try.f86, _, Try.func86, rfl, by kernel_rfl⟩⟩
theorem ws_go87 : IsGo Try.prog 87 := ⟨⟨Try.f87, _, Try.func87, rfl, by kernel_rfl⟩⟩
theorem ws_go88 : IsGo Try.prog 88 := ⟨⟨Try.f88, _, Try.func88, rfl, by kernel_rfl⟩⟩
theorem ws_go89 : IsGo Try.prog 89 := ⟨⟨Try.f89, _, Try.func89, rfl, by kernel_rfl⟩⟩
theorem ws_go90 : IsGo Try.prog 90 := ⟨⟨Try.f90, _, Try.func90, rfl, by kernel_rfl⟩⟩
theorem ws_go91 : IsGo Try.prog 91 := ⟨⟨Try.f91, _, Try.func91, rfl, by kernel_rfl⟩⟩
theorem ws_go113 : IsGo Try.prog 113 := ⟨⟨Try.f113, _, Try.func113, rfl, by kernel_rfl⟩⟩
theorem ws_add114 : IsAdd Try.prog 114 := ⟨⟨Try.f114, Try.func114, by kernel_rfl, by kernel_rfl, by kernel_rfl, by kernel_rfl⟩⟩
theorem ws_tf23 : TF Try.prog 23 5 [.int .u8 0] 1 := ⟨by kernel_rfl, by kernel_rfl, by decide, by decide⟩
theorem ws_tf38 : TF Try.prog 38 42 [.string ⟨⟨[]⟩⟩, .int .i64 0, .int .i64 0, .int .i64 0, .nilFunc] 48 := ⟨by kernel_rfl, by kernel_rfl, by decide, by decide⟩
theorem ws_tf84 : TF Try.prog 84 87 [.int .i64 0, .int .i64 0, .int .i64 0, .string ⟨⟨[]⟩⟩, .int .i64 0] 48 := ⟨by kernel_rfl, by kernel_rfl, by decide, by decide⟩
theorem ws_tf139 : TF Try.prog 139 43 [.int .u32 0] 4 := ⟨by kernel_rfl, by kernel_rfl, by decide, by decide⟩
theorem ws_tf155 : TF Try.prog 155 35 [.int .u64 0] 8 := ⟨by kernel_rfl, by kernel_rfl, by decide, by decide⟩
theorem ws_inv114_node_out : ∀ (v : Option Addr) (l : Array Value) (w : World), (callMethod (.iface 114 (.pointer v)) "quern/node.out" l).run Try.prog w = .ok (.enter 110 (#[.pointer v] ++ l)) w := by intro v l w; kernel_rfl
theorem ws_inv114_node_write : ∀ (v : Option Addr) (l : Array Value) (w : World), (callMethod (.iface 114 (.pointer v)) "quern/node.write" l).run Try.prog w = .ok (.enter 112 (#[.pointer v] ++ l)) w := by intro v l w; kernel_rfl
theorem ws_inv124_node_out : ∀ (v : Option Addr) (l : Array Value) (w : World), (callMethod (.iface 124 (.pointer v)) "quern/node.out" l).run Try.prog w = .ok (.enter 116 (#[.pointer v] ++ l)) w := by intro v l w; kernel_rfl
theorem ws_inv124_node_write : ∀ (v : Option Addr) (l : Array Value) (w : World), (callMethod (.iface 124 (.pointer v)) "quern/node.write" l).run Try.prog w = .ok (.enter 118 (#[.pointer v] ++ l)) w := by intro v l w; kernel_rfl
theorem ws_mixed : Try.prog.follows .mixedOrders = true := by kernel_rfl
theorem c_crew_variants (k : Cx F O w w []) (r : Unit) (hm : m_crew_variants = some r) :
    Calls Try.prog 12 (vals []) w (fun e w' => ∃ g, e = .returned (SV.val (.v (.slice (some ⟨g, 0, none⟩) 6 6))) ∧ Cx F O w w' [Bx 42 g [.s ([98, 108, 97, 107, 101, 50, 98] : List UInt8), I 1, I 64, I 64, .v (.func (.func 21) ⟨SV.vals []⟩ ⟨SV.vals []⟩), .s ([98, 108, 97, 107, 101, 50, 115] : List UInt8), I 2, I 32, I 32, .v (.func (.func 21) ⟨SV.vals []⟩ ⟨SV.vals []⟩), .s ([98, 108, 97, 107, 101, 50, 98, 112] : List UInt8), I 1, I 64, I 64, .v (.func (.func 22) ⟨SV.vals []⟩ ⟨SV.vals []⟩), .s ([98, 108, 97, 107, 101, 50, 115, 112] : List UInt8), I 2, I 32, I 32, .v (.func (.func 22) ⟨SV.vals []⟩ ⟨SV.vals []⟩), .s ([98, 108, 97, 107, 101, 50, 120, 98] : List UInt8), I 1, I 65536, I 64, .v (.func (.func 23) ⟨SV.vals []⟩ ⟨SV.vals []⟩), .s ([98, 108, 97, 107, 101, 50, 120, 115] : List UInt8), I 2, I 65534, I 32, .v (.func (.func 23) ⟨SV.vals []⟩ ⟨SV.vals []⟩)]]) := by
 unfold m_crew_variants at hm
 refine calz [] Try.func12 rfl ?_
 refine W_seq <| Wq .a ?_
 refine W_seq <| W_reg <| We 6 (.n 1 (.agg [.s ([98, 108, 97, 107, 101, 50, 98] : List UInt8), I 1, I 64, I 64, .v (.func (.func 21) ⟨SV.vals []⟩ ⟨SV.vals []⟩)]) (.n 2 (.agg [.s ([98, 108, 97, 107, 101, 50, 115] : List UInt8), I 2, I 32, I 32, .v (.func (.func 21) ⟨SV.vals []⟩ ⟨SV.vals []⟩)]) (.n 3 (.agg [.s ([98, 108, 97, 107, 101, 50, 98, 112] : List UInt8), I 1, I 64, I 64, .v (.func (.func 22) ⟨SV.vals []⟩ ⟨SV.vals []⟩)]) (.n 4 (.agg [.s ([98, 108, 97, 107, 101, 50, 115, 112] : List UInt8), I 2, I 32, I 32, .v (.func (.func 22) ⟨SV.vals []⟩ ⟨SV.vals []⟩)]) (.n 5 (.agg [.s ([98, 108, 97, 107, 101, 50, 120, 98] : List UInt8), I 1, I 65536, I 64, .v (.func (.func 23) ⟨SV.vals []⟩ ⟨SV.vals []⟩)]) (.n 6 (.agg [.s ([98, 108, 97, 107, 101, 50, 120, 115] : List UInt8), I 2, I 65534, I 32, .v (.func (.func 23) ⟨SV.vals []⟩ ⟨SV.vals []⟩)]) .a)))))) ?_
 refine WL_op <| Op_mkB ws_tf38 [] 7 [(0, .agg [.s ([98, 108, 97, 107, 101, 50, 98] : List UInt8), I 1, I 64, I 64, .v (.func (.func 21) ⟨SV.vals []⟩ ⟨SV.vals []⟩)]), (1, .agg [.s ([98, 108, 97, 107, 101, 50, 115] : List UInt8), I 2, I 32, I 32, .v (.func (.func 21) ⟨SV.vals []⟩ ⟨SV.vals []⟩)]), (2, .agg [.s ([98, 108, 97, 107, 101, 50, 98, 112] : List UInt8), I 1, I 64, I 64, .v (.func (.func 22) ⟨SV.vals []⟩ ⟨SV.vals []⟩)]), (3, .agg [.s ([98, 108, 97, 107, 101, 50, 115, 112] : List UInt8), I 2, I 32, I 32, .v (.func (.func 22) ⟨SV.vals []⟩ ⟨SV.vals []⟩)]), (4, .agg [.s ([98, 108, 97, 107, 101, 50, 120, 98] : List UInt8), I 1, I 65536, I 64, .v (.func (.func 23) ⟨SV.vals []⟩ ⟨SV.vals []⟩)]), (5, .agg [.s ([98, 108, 97, 107, 101, 50, 120, 115] : List UInt8), I 2, I 65534, I 32, .v (.func (.func 23) ⟨SV.vals []⟩ ⟨SV.vals []⟩)])] [.s ([98, 108, 97, 107, 101, 50, 98] : List UInt8), I 1, I 64, I 64, .v (.func (.func 21) ⟨SV.vals []⟩ ⟨SV.vals []⟩), .s ([98, 108, 97, 107, 101, 50, 115] : List UInt8), I 2, I 32, I 32, .v (.func (.func 21) ⟨SV.vals []⟩ ⟨SV.vals []⟩), .s ([98, 108, 97, 107, 101, 50, 98, 112] : List UInt8), I 1, I 64, I 64, .v (.func (.func 22) ⟨SV.vals []⟩ ⟨SV.vals []⟩), .s ([98, 108, 97, 107, 101, 50, 115, 112] : List UInt8), I 2, I 32, I 32, .v (.func (.func 22) ⟨SV.vals []⟩ ⟨SV.vals []⟩), .s ([98, 108, 97, 107, 101, 50, 120, 98] : List UInt8), I 1, I 65536, I 64, .v (.func (.func 23) ⟨SV.vals []⟩ ⟨SV.vals []⟩), .s ([98, 108, 97, 107, 101, 50, 120, 115] : List UInt8), I 2, I 65534, I 32, .v (.func (.func 23) ⟨SV.vals []⟩ ⟨SV.vals []⟩)] (by kernel_rfl) (by kernel_rfl) (by decide) k ?_
 intro g0 w_ k_
 refine We 1 (.n 0 (.v (.slice (some ⟨g0, 0, none⟩) 6 6)) .z) ?_
 refine Wn <| W_ret ?_
 obtain rfl := si hm
 refine At_rz [.v (.slice (some ⟨g0, 0, none⟩) 6 6)] qe ?_
 exact ⟨g0, rfl, k_⟩
theorem c_xof_shaped (k_ : Int) (length : Int) (k : Cx F O w w []) (r : (Int × Int × UInt32 × UInt64 × Bool × Bool)) (hm : m_xof_shaped k_ length = some r) :
    Calls Try.prog 24 (vals [I k_, I length]) w (fun e w' => e = .returned (SV.val (.tup [.agg [I r.1, I r.2.1, .u32 r.2.2.1, .u64 r.2.2.2.1, .b r.2.2.2.2.1], .b r.2.2.2.2.2])) ∧ Cx F O w w' []) := by
 unfold m_xof_shaped at hm
 refine calz [I k_, I length] Try.func24 rfl ?_
 refine W_seq <| W_reg <| WL_op <| Op_alloc [] 4 [I 0, I 0, .u32 0, .u64 0, .b false] (by kernel_rfl) k ?_
 intro g w_ k_1
 refine We 1 .a ?_
 refine Wn <| W_seq <| W_reg <| We 4 (.n 11 (.agg [I k_, I 0, .u32 0, .u64 0, .b (decide (length ≠ (-1)))]) .a) ?_
 refine WL_op <| Op_alloc [] 6 [I 0, I 0, .u32 0, .u64 0, .b false] (by kernel_rfl) k_1 ?_
 intro g1 w_1 k_2
 refine WL_op <| Op_bz 1 (.agg [I k_, I 0, .u32 0, .u64 0, .b (decide (length ≠ (-1)))]) [I k_, I 0, .u32 0, .u64 0, .b (decide (length ≠ (-1)))] (Pt.at g1 0) k_2 rfl .all ?_
 intro w_2 k_3
 refine Wn <| W_seq <| Wq (.k (.s .a)) ?_
 refine W_cut (fun L wr => ∃ (s_ : Int) (most : Int), m_xof_shaped_j0 k_ length s_ most = some r ∧ L = [(1, I length), (4, pt g 0), (6, pt g1 0), (7, I most)] ∧ Cx F O w wr [Bx 45 g [I 0, I 0, .u32 0, .u64 0, .b false], Bx 45 g1 [I k_, I s_, .u32 0, .u64 0, .b (decide (length ≠ (-1)))]]) ?_ ?_
 ·
  refine W_seq <| Wq (.n 12 (I k_) (.kk (.s .a))) ?_
  refine W_block <| W_seq <| Wq (.n 14 (.b (decide (k_ = 1))) .a) ?_
  refine W_pz (k_ = 1) (fun hc => ?_) fun hc => ?_
  · rw [if_pos hc] at hm
    refine W_reg <| Wl 1 (.n 16 (pt g1 1) (.ss .a)) (qs g1 0 <| qe) ?_
    refine WL_op <| Op_bz 1 (I 64) [I 64] (Pt.at g1 1) k_3 rfl (.k .h) ?_
    intro w_3 k_4
    refine We 1 (.n 7 (I 4294967294) (.s .a)) ?_
    refine WL_nil <| At_in ?_
    exact At_cz ⟨(64 : Int), (4294967294 : Int), hm, rfl, k_4⟩
  rw [if_neg hc] at hm
  refine W_seq <| Wq (.n 17 (.b (decide (k_ = 2))) (.ss .a)) ?_
  refine W_pz (k_ = 2) (fun hc1 => ?_) fun hc1 => ?_
  · rw [if_pos hc1] at hm
    refine W_reg <| Wl 1 (.n 19 (pt g1 1) (.s .a)) (qs g1 0 <| qe) ?_
    refine WL_op <| Op_bz 1 (I 32) [I 32] (Pt.at g1 1) k_3 rfl (.k .h) ?_
    intro w_4 k_5
    refine We 1 (.n 7 (I 65534) (.s .a)) ?_
    refine WL_nil <| At_in ?_
    exact At_cz ⟨(32 : Int), (65534 : Int), hm, rfl, k_5⟩
  rw [if_neg hc1] at hm
  refine W_seq <| W_reg <| Wl 1 (.n 13 (.agg [I k_, I 0, .u32 0, .u64 0, .b (decide (length ≠ (-1)))]) (.ss (.k .z))) (qT k_3 1 rfl 0 5 [I k_, I 0, .u32 0, .u64 0, .b (decide (length ≠ (-1)))] (by kernel_rfl) (by decide) <| qe) ?_
  refine WL_op <| Op_bz 0 (.agg [I k_, I 0, .u32 0, .u64 0, .b (decide (length ≠ (-1)))]) [I k_, I 0, .u32 0, .u64 0, .b (decide (length ≠ (-1)))] (Pt.at g 0) k_3 rfl .all ?_
  intro w_5 k_6
  have k_7 := k_6.sel (.k .z)
  refine We 1 (.n 5 (.b false) (.s .a)) ?_
  refine Wn <| W_ret (At_ir (At_tr ?_))
  obtain rfl := si hm
  refine At_rz [.agg [I k_, I 0, .u32 0, .u64 0, .b (decide (length ≠ (-1)))], .b false] (qo (.agg [I k_, I 0, .u32 0, .u64 0, .b (decide (length ≠ (-1)))]) <| qc (fun w => Rd w (some ⟨g, 0, none⟩) (SV.cl [I k_, I 0, .u32 0, .u64 0, .b (decide (length ≠ (-1)))])) (k_7.brd 0 rfl) <| qe) ?_
  have k_8 := k_7.sel .z
  exact ⟨rfl, k_8⟩
 rintro L_ w_6 ⟨s_, most, hm, rfl, k_9⟩
 simp only [m_xof_shaped_j0] at hm
 refine W_seq <| W_seq <| Wa (.n 22 (.b (!(decide (length ≠ (-1))))) .a) (qs g1 0 <| qB k_9 1 rfl 4 (.b (decide (length ≠ (-1)))) (by kernel_rfl) <| qe) ?_
 refine W_cz (!(decide (length ≠ (-1)))) (fun hc2 => ?_) fun hc2 => ?_
 · rw [if_pos hc2] at hm
   refine W_seq <| W_reg <| Wl 8 (.n 25 (.u32 (UInt32.ofInt (w64 (most + 1)))) (.n 29 (.u64 (shl64 (UInt64.ofInt s_) ((32 : UInt64).toNat))) (.n 30 (pt g1 2) (.ss (.kk .z))))) (qs g1 0 <| qB k_9 1 rfl 1 (I s_) (by kernel_rfl) <| qs g1 0 <| qe) ?_
   refine WL_op <| Op_bz 1 (.u32 (UInt32.ofInt (w64 (most + 1)))) [.u32 (UInt32.ofInt (w64 (most + 1)))] (Pt.at g1 2) k_9 rfl (.kk .h) ?_
   intro w_7 k_10
   refine Wl 1 (.n 31 (pt g1 3) (.s (.k (.s .a)))) (qs g1 0 <| qe) ?_
   refine WL_op <| Op_bz 1 (.u64 (shl64 (UInt64.ofInt s_) ((32 : UInt64).toNat))) [.u64 (shl64 (UInt64.ofInt s_) ((32 : UInt64).toNat))] (Pt.at g1 3) k_10 rfl (.kk (.k .h)) ?_
   intro w_8 k_11
   refine Wn <| W_seq <| W_reg <| Wl 1 (.n 32 (.agg [I k_, I s_, .u32 (UInt32.ofInt (w64 (most + 1))), .u64 (shl64 (UInt64.ofInt s_) ((32 : UInt64).toNat)), .b (decide (length ≠ (-1)))]) (.ss (.k .z))) (qT k_11 1 rfl 0 5 [I k_, I s_, .u32 (UInt32.ofInt (w64 (most + 1))), .u64 (shl64 (UInt64.ofInt s_) ((32 : UInt64).toNat)), .b (decide (length ≠ (-1)))] (by kernel_rfl) (by decide) <| qe) ?_
   refine WL_op <| Op_bz 0 (.agg [I k_, I s_, .u32 (UInt32.ofInt (w64 (most + 1))), .u64 (shl64 (UInt64.ofInt s_) ((32 : UInt64).toNat)), .b (decide (length ≠ (-1)))]) [I k_, I s_, .u32 (UInt32.ofInt (w64 (most + 1))), .u64 (shl64 (UInt64.ofInt s_) ((32 : UInt64).toNat)), .b (decide (length ≠ (-1)))] (Pt.at g 0) k_11 rfl .all ?_
   intro w_9 k_12
   have k_13 := k_12.sel (.k .z)
   refine We 1 (.n 5 (.b true) (.s .a)) ?_
   refine Wn <| W_ret (At_tr ?_)
   obtain rfl := si hm
   refine At_rz [.agg [I k_, I s_, .u32 (UInt32.ofInt (w64 (most + 1))), .u64 (shl64 (UInt64.ofInt s_) ((32 : UInt64).toNat)), .b (decide (length ≠ (-1)))], .b true] (qo (.agg [I k_, I s_, .u32 (UInt32.ofInt (w64 (most + 1))), .u64 (shl64 (UInt64.ofInt s_) ((32 : UInt64).toNat)), .b (decide (length ≠ (-1)))]) <| qc (fun w => Rd w (some ⟨g, 0, none⟩) (SV.cl [I k_, I s_, .u32 (UInt32.ofInt (w64 (most + 1))), .u64 (shl64 (UInt64.ofInt s_) ((32 : UInt64).toNat)), .b (decide (length ≠ (-1)))])) (k_13.brd 0 rfl) <| qe) ?_
   have k_14 := k_13.sel .z
   exact ⟨rfl, k_14⟩
 rw [if_neg (by rw [hc2]; decide)] at hm
 refine W_skip <| At_go <| W_seq <| W_reg <| Wl 5 (.n 34 (.u32 (UInt32.ofInt length)) (.n 36 (.u64 (UInt64.ofInt length)) (.n 37 (pt g1 2) (.s .a)))) (qs g1 0 <| qe) ?_
 refine WL_op <| Op_bz 1 (.u32 (UInt32.ofInt length)) [.u32 (UInt32.ofInt length)] (Pt.at g1 2) k_9 rfl (.kk .h) ?_
 intro w_10 k_15
 refine Wl 1 (.n 38 (pt g1 3) (.s (.k (.s .a)))) (qs g1 0 <| qe) ?_
 refine WL_op <| Op_bz 1 (.u64 (UInt64.ofInt length)) [.u64 (UInt64.ofInt length)] (Pt.at g1 3) k_15 rfl (.kk (.k .h)) ?_
 intro w_11 k_16
 refine Wn <| W_seq <| W_reg <| Wl 8 (.n 39 (.agg [I k_, I s_, .u32 (UInt32.ofInt length), .u64 (UInt64.ofInt length), .b (decide (length ≠ (-1)))]) (.n 46 (.b ((decide (1 ≤ length)) && (decide (length ≤ most)))) (.sss (.k .z)))) (qT k_16 1 rfl 0 5 [I k_, I s_, .u32 (UInt32.ofInt length), .u64 (UInt64.ofInt length), .b (decide (length ≠ (-1)))] (by kernel_rfl) (by decide) <| qe) ?_
 refine WL_op <| Op_bz 0 (.agg [I k_, I s_, .u32 (UInt32.ofInt length), .u64 (UInt64.ofInt length), .b (decide (length ≠ (-1)))]) [I k_, I s_, .u32 (UInt32.ofInt length), .u64 (UInt64.ofInt length), .b (decide (length ≠ (-1)))] (Pt.at g 0) k_16 rfl .all ?_
 intro w_12 k_17
 have k_18 := k_17.sel (.k .z)
 refine We 1 (.n 5 (.b ((decide (1 ≤ length)) && (decide (length ≤ most)))) (.ss .a)) ?_
 refine Wn <| W_ret ?_
 obtain rfl := si hm
 refine At_rz [.agg [I k_, I s_, .u32 (UInt32.ofInt length), .u64 (UInt64.ofInt length), .b (decide (length ≠ (-1)))], .b ((decide (1 ≤ length)) && (decide (length ≤ most)))] (qo (.agg [I k_, I s_, .u32 (UInt32.ofInt length), .u64 (UInt64.ofInt length), .b (decide (length ≠ (-1)))]) <| qc (fun w => Rd w (some ⟨g, 0, none⟩) (SV.cl [I k_, I s_, .u32 (UInt32.ofInt length), .u64 (UInt64.ofInt length), .b (decide (length ≠ (-1)))])) (k_18.brd 0 rfl) <| qe) ?_
 have k_19 := k_18.sel .z
 exact ⟨rfl, k_19⟩
theorem c_xof_shape_pars (s_kind : Int) (s_full : Int) (s_code : UInt32) (s_total : UInt64) (s_known : Bool) (key : List UInt8) (salt : List UInt8) (personal : List UInt8) (A_key : Option Addr) (n_key : Nat) (c_key : Nat) (A_salt : Option Addr) (n_salt : Nat) (c_salt : Nat) (A_personal : Option Addr) (n_personal : Nat) (c_personal : Nat) (h_key : Ro F w A_key (e8.all key)) (hn_key : key.length = n_key) (hc_key : n_key ≤ c_key) (h_salt : Ro F w A_salt (e8.all salt)) (hn_salt : salt.length = n_salt) (hc_salt : n_salt ≤ c_salt) (h_personal : Ro F w A_personal (e8.all personal)) (hn_personal : personal.length = n_personal) (hc_personal : n_personal ≤ c_personal) (k : Cx F O w w []) (r : (Int × Int × UInt32)) (hm : m_xof_shape_pars s_kind s_full s_code s_total s_known key salt personal = some r) :
    Calls Try.prog 26 (vals [.agg [I s_kind, I s_full, .u32 s_code, .u64 s_total, .b s_known], sl A_key n_key c_key, sl A_salt n_salt c_salt, sl A_personal n_personal c_personal]) w (fun e w' => e = .returned (SV.val (.agg [I r.1, I r.2.1, I 1, I 1, .u32 0, .u64 0, .u32 r.2.2, I 0, I 0, sl A_salt n_salt c_salt, sl A_personal n_personal c_personal])) ∧ Cx F O w w' []) := by
 unfold m_xof_shape_pars at hm
 subst hn_key
 subst hn_salt
 subst hn_personal
 refine calz [.agg [I s_kind, I s_full, .u32 s_code, .u64 s_total, .b s_known], sl A_key key.length c_key, sl A_salt salt.length c_salt, sl A_personal personal.length c_personal] Try.func26 rfl ?_
 refine W_seq <| W_reg <| WL_op <| Op_box [] 4 (.agg [I s_kind, I s_full, .u32 s_code, .u64 s_total, .b s_known]) [I s_kind, I s_full, .u32 s_code, .u64 s_total, .b s_known] (by kernel_rfl) k ?_
 intro g w_ k_
 refine WL_op <| Op_alloc [] 8 [I 0, I 0, I 0, I 0, .u32 0, .u64 0, .u32 0, I 0, I 0, sl none 0 0, sl none 0 0] (by kernel_rfl) k_ ?_
 intro g1 w_1 k_1
 refine Wn <| W_seq <| W_reg <| Wl 9 (.n 17 (.agg [I s_full, I (key.length : Int), I 1, I 1, .u32 0, .u64 0, .u32 s_code, I 0, I 0, sl A_salt salt.length c_salt, sl A_personal personal.length c_personal]) (.k .z)) (qs g 0 <| qB k_1 0 rfl 1 (I s_full) (by kernel_rfl) <| qs g 0 <| qB k_1 0 rfl 2 (.u32 s_code) (by kernel_rfl) <| qe) ?_
 refine WL_op <| Op_bz 1 (.agg [I s_full, I (key.length : Int), I 1, I 1, .u32 0, .u64 0, .u32 s_code, I 0, I 0, sl A_salt salt.length c_salt, sl A_personal personal.length c_personal]) [I s_full, I (key.length : Int), I 1, I 1, .u32 0, .u64 0, .u32 s_code, I 0, I 0, sl A_salt salt.length c_salt, sl A_personal personal.length c_personal] (Pt.at g1 0) k_1 rfl .all ?_
 intro w_2 k_2
 have k_3 := k_2.sel (.s (.k .e))
 refine Wn <| W_ret ?_
 obtain rfl := si hm
 refine At_rz [.agg [I s_full, I (key.length : Int), I 1, I 1, .u32 0, .u64 0, .u32 s_code, I 0, I 0, sl A_salt salt.length c_salt, sl A_personal personal.length c_personal]] (qo (.agg [I s_full, I (key.length : Int), I 1, I 1, .u32 0, .u64 0, .u32 s_code, I 0, I 0, sl A_salt salt.length c_salt, sl A_personal personal.length c_personal]) <| qc (fun w => Rd w (some ⟨g1, 0, none⟩) (SV.cl [I s_full, I (key.length : Int), I 1, I 1, .u32 0, .u64 0, .u32 s_code, I 0, I 0, sl A_salt salt.length c_salt, sl A_personal personal.length c_personal])) (k_3.brd 0 rfl) <| qe) ?_
 have k_4 := k_3.sel .z
 exact ⟨rfl, k_4⟩
theorem c_param_sizes (k_ : Int) (k : Cx F O w w []) (r : (Int × Int × Int)) (hm : m_param_sizes k_ = some r) :
    Calls Try.prog 34 (vals [I k_]) w (fun e w' => e = .returned (SV.val (.tup [I r.1, I r.2.1, I r.2.2])) ∧ Cx F O w w' []) := by
 unfold m_param_sizes at hm
 refine calz [I k_] Try.func34 rfl ?_
 refine W_seq <| Wq .a ?_
 refine W_seq <| W_seq <| Wq (.n 5 (I k_) .z) ?_
 refine W_block <| W_seq <| Wq (.n 6 (.b (decide (k_ = 1))) .a) ?_
 refine W_pz (k_ = 1) (fun hc => ?_) fun hc => ?_
 · rw [if_pos hc] at hm
   refine W_seq <| Wq (.n 2 (I 64) (.n 3 (I 64) (.n 4 (I 16) .z))) ?_
   refine W_ret (At_ir (At_tr ?_))
   obtain rfl := si hm
   refine At_rz [I 64, I 64, I 16] qe ?_
   exact ⟨rfl, k⟩
 rw [if_neg hc] at hm
 refine W_seq <| Wq (.n 8 (.b (decide (k_ = 2))) .z) ?_
 refine W_pz (k_ = 2) (fun hc1 => ?_) fun hc1 => ?_
 · rw [if_pos hc1] at hm
   refine W_seq <| Wq (.n 2 (I 32) (.n 3 (I 32) (.n 4 (I 8) .z))) ?_
   refine W_ret (At_ir (At_tr ?_))
   obtain rfl := si hm
   refine At_rz [I 32, I 32, I 8] qe ?_
   exact ⟨rfl, k⟩
 rw [if_neg hc1] at hm
 refine W_skip <| At_in <| At_go <| W_seq <| Wq (.n 2 (I 0) (.n 3 (I 0) (.n 4 (I 0) .z))) ?_
 refine W_ret ?_
 obtain rfl := si hm
 refine At_rz [I 0, I 0, I 0] qe ?_
 exact ⟨rfl, k⟩
theorem c_param_within (n : Int) (lo : Int) (hi : Int) (k : Cx F O w w []) (r : Bool) (hm : m_param_within n lo hi = some r) :
    Calls Try.prog 35 (vals [I n, I lo, I hi]) w (fun e w' => e = .returned (SV.val (.b r)) ∧ Cx F O w w' []) := by
 unfold m_param_within at hm
 refine calz [I n, I lo, I hi] Try.func35 rfl ?_
 refine W_seq <| Wq .a ?_
 refine W_seq <| Wq (.n 6 (.b ((decide (lo ≤ n)) && (decide (n ≤ hi)))) .z) ?_
 refine W_ret ?_
 obtain rfl := si hm
 refine At_rz [.b ((decide (lo ≤ n)) && (decide (n ≤ hi)))] qe ?_
 exact ⟨rfl, k⟩
theorem c_param_Check (k_ : Int) (p_Digest : Int) (p_Key : Int) (p_Fanout : Int) (p_Depth : Int) (p_Leaf : UInt32) (p_Offset : UInt64) (p_Xof : UInt32) (p_NodeDepth : Int) (p_Inner : Int) (p_Salt : List UInt8) (p_Personal : List UInt8) (A_p_Salt : Option Addr) (n_p_Salt : Nat) (c_p_Salt : Nat) (A_p_Personal : Option Addr) (n_p_Personal : Nat) (c_p_Personal : Nat) (h_p_Salt : Ro F w A_p_Salt (e8.all p_Salt)) (hn_p_Salt : p_Salt.length = n_p_Salt) (hc_p_Salt : n_p_Salt ≤ c_p_Salt) (h_p_Personal : Ro F w A_p_Personal (e8.all p_Personal)) (hn_p_Personal : p_Personal.length = n_p_Personal) (hc_p_Personal : n_p_Personal ≤ c_p_Personal) (k : Cx F O w w []) (r : Int) (hm : m_param_Check k_ p_Digest p_Key p_Fanout p_Depth p_Leaf p_Offset p_Xof p_NodeDepth p_Inner p_Salt p_Personal = some r) :
    Calls Try.prog 25 (vals [I k_, .agg [I p_Digest, I p_Key, I p_Fanout, I p_Depth, .u32 p_Leaf, .u64 p_Offset, .u32 p_Xof, I p_NodeDepth, I p_Inner, sl A_p_Salt n_p_Salt c_p_Salt, sl A_p_Personal n_p_Personal c_p_Personal]]) w (fun e w' => e = .returned (SV.val (I r)) ∧ Cx F O w w' []) := by
 unfold m_param_Check at hm
 subst hn_p_Salt
 subst hn_p_Personal
 refine calz [I k_, .agg [I p_Digest, I p_Key, I p_Fanout, I p_Depth, .u32 p_Leaf, .u64 p_Offset, .u32 p_Xof, I p_NodeDepth, I p_Inner, sl A_p_Salt p_Salt.length c_p_Salt, sl A_p_Personal p_Personal.length c_p_Personal]] Try.func25 rfl ?_
 refine W_seq <| W_reg <| WL_op <| Op_box [] 3 (.agg [I p_Digest, I p_Key, I p_Fanout, I p_Depth, .u32 p_Leaf, .u64 p_Offset, .u32 p_Xof, I p_NodeDepth, I p_Inner, sl A_p_Salt p_Salt.length c_p_Salt, sl A_p_Personal p_Personal.length c_p_Personal]) [I p_Digest, I p_Key, I p_Fanout, I p_Depth, .u32 p_Leaf, .u64 p_Offset, .u32 p_Xof, I p_NodeDepth, I p_Inner, sl A_p_Salt p_Salt.length c_p_Salt, sl A_p_Personal p_Personal.length c_p_Personal] (by kernel_rfl) k ?_
 intro g w_ k_1
 refine We 1 (.kk .z) ?_
 refine Wn <| W_seq <| W_reg <| We 1 (.n 10 (I k_) .a) ?_
 refine WL_op ?_
 obtain ⟨r_, h_r_, hm⟩ := ob hm
 refine Op_cz 11 ws_go34 (c_param_sizes (F := N0) (O := N0) _ (Cx.refl _) _ h_r_) ?_
 rintro e_ w_1 ⟨rfl, k_2⟩
 have k_3 := k_1.call k_2
 refine ⟨.tup [I r_.1, I r_.2.1, I r_.2.2], rfl, ?_⟩
 refine We 7 (.n 6 (I r_.2.1) (.n 7 (I r_.2.2) (.ss .a))) ?_
 refine Wn <| W_seq <| W_seq <| Wq (.n 16 (.b (decide (r_.2.1 = 0))) .a) ?_
 refine W_pz (r_.2.1 = 0) (fun hc => ?_) fun hc => ?_
 · rw [if_pos hc] at hm
   refine W_seq <| Wq (.n 4 (I 1) .z) ?_
   refine W_ret (At_tr ?_)
   obtain rfl := si hm
   refine At_rz [I 1] qe ?_
   have k_4 := k_3.sel .z
   exact ⟨rfl, k_4⟩
 rw [if_neg hc] at hm
 refine W_skip <| At_go <| W_seq <| Wq (.n 8 (I 1) (.s .a)) ?_
 refine W_cut (fun L wr => ∃ (least : Int), m_param_Check_j0 k_ p_Digest p_Key p_Fanout p_Depth p_Offset p_Xof p_NodeDepth p_Inner p_Salt p_Personal r_ least = some r ∧ L = [(0, I k_), (3, pt g 0), (6, I r_.2.1), (7, I r_.2.2), (8, I least)] ∧ Cx F O w wr [Bx 61 g [I p_Digest, I p_Key, I p_Fanout, I p_Depth, .u32 p_Leaf, .u64 p_Offset, .u32 p_Xof, I p_NodeDepth, I p_Inner, sl A_p_Salt p_Salt.length c_p_Salt, sl A_p_Personal p_Personal.length c_p_Personal]]) ?_ ?_
 ·
  refine W_seq <| Wa (.n 19 (.b (decide (p_Xof ≠ 0))) .a) (qs g 0 <| qB k_3 0 rfl 6 (.u32 p_Xof) (by kernel_rfl) <| qe) ?_
  refine W_pz (p_Xof ≠ 0) (fun hc1 => ?_) fun hc1 => ?_
  · rw [if_pos hc1] at hm
    refine W_q [] (.n 8 (I 0) (.ss .a)) qe (by kernel_rfl) ?_
    exact At_cz ⟨(0 : Int), hm, rfl, k_3⟩
  rw [if_neg hc1] at hm
  refine W_skip ?_
  exact At_cz ⟨(1 : Int), hm, rfl, k_3⟩
 rintro L_ w_2 ⟨least, hm, rfl, k_5⟩
 simp only [m_param_Check_j0] at hm
 refine W_cut (fun L wr => m_param_Check_j1  = some r ∧ L = [] ∧ Cx F O w wr []) ?_ ?_
 ·
  refine W_block <| W_seq <| W_reg <| Wl 3 (.n 22 (I p_Digest) (.n 23 (I r_.2.1) .a)) (qs g 0 <| qB k_5 0 rfl 0 (I p_Digest) (by kernel_rfl) <| qe) ?_
  refine WL_op ?_
  obtain ⟨r_1, h_r_1, hm⟩ := ob hm
  refine Op_cz 24 ws_go35 (c_param_within (F := N0) (O := N0) _ _ _ (Cx.refl _) _ h_r_1) ?_
  rintro e_ w_3 ⟨rfl, k_6⟩
  have k_7 := k_5.call k_6
  refine ⟨.b r_1, rfl, ?_⟩
  refine We 2 (.n 20 (.b (!r_1)) (.sss .a)) ?_
  refine Wn <| W_cz (!r_1) (fun hc2 => ?_) fun hc2 => ?_
  · rw [if_pos hc2] at hm
    refine W_seq <| Wq (.n 4 (I 20) .z) ?_
    refine W_ret (At_ir (At_tr ?_))
    obtain rfl := si hm
    refine At_rz [I 20] qe ?_
    have k_8 := k_7.sel .z
    exact ⟨rfl, k_8⟩
  rw [if_neg (by rw [hc2]; decide)] at hm
  refine W_seq <| W_reg <| Wl 3 (.n 28 (I p_Key) (.n 29 (I r_.2.1) (.s .a))) (qs g 0 <| qB k_7 0 rfl 1 (I p_Key) (by kernel_rfl) <| qe) ?_
  refine WL_op ?_
  obtain ⟨r_2, h_r_2, hm⟩ := ob hm
  refine Op_cz 30 ws_go35 (c_param_within (F := N0) (O := N0) _ _ _ (Cx.refl _) _ h_r_2) ?_
  rintro e_ w_4 ⟨rfl, k_9⟩
  have k_10 := k_7.call k_9
  refine ⟨.b r_2, rfl, ?_⟩
  refine We 2 (.n 26 (.b (!r_2)) (.sss .a)) ?_
  refine Wn <| W_cz (!r_2) (fun hc3 => ?_) fun hc3 => ?_
  · rw [if_pos hc3] at hm
    refine W_seq <| Wq (.n 4 (I 8) .z) ?_
    refine W_ret (At_ir (At_tr ?_))
    obtain rfl := si hm
    refine At_rz [I 8] qe ?_
    have k_11 := k_10.sel .z
    exact ⟨rfl, k_11⟩
  rw [if_neg (by rw [hc3]; decide)] at hm
  refine W_seq <| W_reg <| Wl 2 (.n 34 (I p_Fanout) (.s .a)) (qs g 0 <| qB k_10 0 rfl 2 (I p_Fanout) (by kernel_rfl) <| qe) ?_
  refine WL_op ?_
  obtain ⟨r_3, h_r_3, hm⟩ := ob hm
  refine Op_cz 35 ws_go35 (c_param_within (F := N0) (O := N0) _ _ _ (Cx.refl _) _ h_r_3) ?_
  rintro e_ w_5 ⟨rfl, k_12⟩
  have k_13 := k_10.call k_12
  refine ⟨.b r_3, rfl, ?_⟩
  refine We 2 (.n 32 (.b (!r_3)) (.ss .a)) ?_
  refine Wn <| W_cz (!r_3) (fun hc4 => ?_) fun hc4 => ?_
  · rw [if_pos hc4] at hm
    refine W_seq <| Wq (.n 4 (I 21) .z) ?_
    refine W_ret (At_ir (At_tr ?_))
    obtain rfl := si hm
    refine At_rz [I 21] qe ?_
    have k_14 := k_13.sel .z
    exact ⟨rfl, k_14⟩
  rw [if_neg (by rw [hc4]; decide)] at hm
  refine W_seq <| W_reg <| Wl 3 (.n 39 (I p_Depth) (.n 40 (I least) (.s (.kkkk .z)))) (qs g 0 <| qB k_13 0 rfl 3 (I p_Depth) (by kernel_rfl) <| qe) ?_
  refine WL_op ?_
  obtain ⟨r_4, h_r_4, hm⟩ := ob hm
  refine Op_cz 41 ws_go35 (c_param_within (F := N0) (O := N0) _ _ _ (Cx.refl _) _ h_r_4) ?_
  rintro e_ w_6 ⟨rfl, k_15⟩
  have k_16 := k_13.call k_15
  refine ⟨.b r_4, rfl, ?_⟩
  refine We 2 (.n 37 (.b (!r_4)) (.sss .a)) ?_
  refine Wn <| W_cz (!r_4) (fun hc5 => ?_) fun hc5 => ?_
  · rw [if_pos hc5] at hm
    refine W_seq <| Wq (.n 4 (I 22) .z) ?_
    refine W_ret (At_ir (At_tr ?_))
    obtain rfl := si hm
    refine At_rz [I 22] qe ?_
    have k_17 := k_16.sel .z
    exact ⟨rfl, k_17⟩
  rw [if_neg (by rw [hc5]; decide)] at hm
  refine W_cut (fun L wr => ∃ (x_0 : Bool), m_param_Check_j2 k_ p_Xof p_NodeDepth p_Inner p_Salt p_Personal r_ x_0 = some r ∧ L = [(0, I k_), (3, pt g 0), (6, I r_.2.1), (7, I r_.2.2), (43, .b x_0)] ∧ Cx F O w wr [Bx 61 g [I p_Digest, I p_Key, I p_Fanout, I p_Depth, .u32 p_Leaf, .u64 p_Offset, .u32 p_Xof, I p_NodeDepth, I p_Inner, sl A_p_Salt p_Salt.length c_p_Salt, sl A_p_Personal p_Personal.length c_p_Personal]]) ?_ ?_
  ·
   refine W_seq <| Wa (.n 43 (.b ((decide (p_Xof ≠ 0)) && (decide ((4294967296 : UInt64) ≤ p_Offset)))) (.s .a)) (qs g 0 <| qB k_16 0 rfl 6 (.u32 p_Xof) (by kernel_rfl) <| qp ((decide (p_Xof ≠ 0)) = true → (some ⟨g, 0, none⟩ : Option Addr).isSome = true) (fun hg0 => rfl) <| qo (.u64 p_Offset) <| qc (fun w => (decide (p_Xof ≠ 0)) = true → ∃ a, (some ⟨g, 5, none⟩ : Option Addr) = some a ∧ w.cell? a = some (SV.val (.u64 p_Offset))) (fun hg0 => k_16.bld 0 rfl 5 (.u64 p_Offset) (by kernel_rfl)) <| qe) ?_
   refine W_cz ((decide (p_Xof ≠ 0)) && (decide ((4294967296 : UInt64) ≤ p_Offset))) (fun hc6 => ?_) fun hc6 => ?_
   · rw [if_pos hc6] at hm
     refine W_skip ?_
     exact At_cz ⟨(decide (p_Xof ≠ 0)) && (decide ((4294967296 : UInt64) ≤ p_Offset)), hm, rfl, k_16⟩
   rw [if_neg (by rw [hc6]; decide)] at hm
   refine W_q [] (.n 43 (.b (((decide (p_Xof = 0)) && (decide (k_ = 2))) && (decide ((281474976710656 : UInt64) ≤ p_Offset)))) (.s .a)) (qs g 0 <| qB k_16 0 rfl 6 (.u32 p_Xof) (by kernel_rfl) <| qp (((decide (p_Xof = 0)) && (decide (k_ = 2))) = true → (some ⟨g, 0, none⟩ : Option Addr).isSome = true) (fun hg0 => rfl) <| qo (.u64 p_Offset) <| qc (fun w => ((decide (p_Xof = 0)) && (decide (k_ = 2))) = true → ∃ a, (some ⟨g, 5, none⟩ : Option Addr) = some a ∧ w.cell? a = some (SV.val (.u64 p_Offset))) (fun hg0 => k_16.bld 0 rfl 5 (.u64 p_Offset) (by kernel_rfl)) <| qe) (by kernel_rfl) ?_
   exact At_cz ⟨((decide (p_Xof = 0)) && (decide (k_ = 2))) && (decide ((281474976710656 : UInt64) ≤ p_Offset)), hm, rfl, k_16⟩
  rintro L_ w_7 ⟨x_0, hm, rfl, k_18⟩
  simp only [m_param_Check_j2] at hm
  refine W_cz x_0 (fun hc7 => ?_) fun hc7 => ?_
  · rw [if_pos hc7] at hm
    refine W_seq <| Wq (.n 4 (I 23) .z) ?_
    refine W_ret (At_ir (At_tr ?_))
    obtain rfl := si hm
    refine At_rz [I 23] qe ?_
    have k_19 := k_18.sel .z
    exact ⟨rfl, k_19⟩
  rw [if_neg (by rw [hc7]; decide)] at hm
  refine W_seq <| Wa (.n 64 (.b ((decide (k_ = 2)) && (decide ((65535 : UInt32) < p_Xof)))) (.s (.kkk .z))) (qp ((decide (k_ = 2)) = true → (some ⟨g, 0, none⟩ : Option Addr).isSome = true) (fun hg0 => rfl) <| qo (.u32 p_Xof) <| qc (fun w => (decide (k_ = 2)) = true → ∃ a, (some ⟨g, 6, none⟩ : Option Addr) = some a ∧ w.cell? a = some (SV.val (.u32 p_Xof))) (fun hg0 => k_18.bld 0 rfl 6 (.u32 p_Xof) (by kernel_rfl)) <| qe) ?_
  refine W_cz ((decide (k_ = 2)) && (decide ((65535 : UInt32) < p_Xof))) (fun hc8 => ?_) fun hc8 => ?_
  · rw [if_pos hc8] at hm
    refine W_seq <| Wq (.n 4 (I 24) .z) ?_
    refine W_ret (At_ir (At_tr ?_))
    obtain rfl := si hm
    refine At_rz [I 24] qe ?_
    have k_20 := k_18.sel .z
    exact ⟨rfl, k_20⟩
  rw [if_neg (by rw [hc8]; decide)] at hm
  refine W_seq <| W_reg <| Wl 2 (.n 74 (I p_NodeDepth) (.s .a)) (qs g 0 <| qB k_18 0 rfl 7 (I p_NodeDepth) (by kernel_rfl) <| qe) ?_
  refine WL_op ?_
  obtain ⟨r_5, h_r_5, hm⟩ := ob hm
  refine Op_cz 75 ws_go35 (c_param_within (F := N0) (O := N0) _ _ _ (Cx.refl _) _ h_r_5) ?_
  rintro e_ w_8 ⟨rfl, k_21⟩
  have k_22 := k_18.call k_21
  refine ⟨.b r_5, rfl, ?_⟩
  refine We 2 (.n 72 (.b (!r_5)) (.ss .a)) ?_
  refine Wn <| W_cz (!r_5) (fun hc9 => ?_) fun hc9 => ?_
  · rw [if_pos hc9] at hm
    refine W_seq <| Wq (.n 4 (I 25) .z) ?_
    refine W_ret (At_ir (At_tr ?_))
    obtain rfl := si hm
    refine At_rz [I 25] qe ?_
    have k_23 := k_22.sel .z
    exact ⟨rfl, k_23⟩
  rw [if_neg (by rw [hc9]; decide)] at hm
  refine W_seq <| W_reg <| Wl 3 (.n 79 (I p_Inner) (.n 80 (I r_.2.1) (.s (.k (.s .a))))) (qs g 0 <| qB k_22 0 rfl 8 (I p_Inner) (by kernel_rfl) <| qe) ?_
  refine WL_op ?_
  obtain ⟨r_6, h_r_6, hm⟩ := ob hm
  refine Op_cz 81 ws_go35 (c_param_within (F := N0) (O := N0) _ _ _ (Cx.refl _) _ h_r_6) ?_
  rintro e_ w_9 ⟨rfl, k_24⟩
  have k_25 := k_22.call k_24
  refine ⟨.b r_6, rfl, ?_⟩
  refine We 2 (.n 77 (.b (!r_6)) (.sss .a)) ?_
  refine Wn <| W_cz (!r_6) (fun hc10 => ?_) fun hc10 => ?_
  · rw [if_pos hc10] at hm
    refine W_seq <| Wq (.n 4 (I 26) .z) ?_
    refine W_ret (At_ir (At_tr ?_))
    obtain rfl := si hm
    refine At_rz [I 26] qe ?_
    have k_26 := k_25.sel .z
    exact ⟨rfl, k_26⟩
  rw [if_neg (by rw [hc10]; decide)] at hm
  refine W_seq <| Wa (.n 83 (.b (decide (r_.2.2 < (p_Salt.length : Int)))) (.s .a)) (qs g 0 <| qB k_25 0 rfl 9 (sl A_p_Salt p_Salt.length c_p_Salt) (by kernel_rfl) <| qe) ?_
  refine W_pz (r_.2.2 < (p_Salt.length : Int)) (fun hc11 => ?_) fun hc11 => ?_
  · rw [if_pos hc11] at hm
    refine W_seq <| Wq (.n 4 (I 27) .z) ?_
    refine W_ret (At_ir (At_tr ?_))
    obtain rfl := si hm
    refine At_rz [I 27] qe ?_
    have k_27 := k_25.sel .z
    exact ⟨rfl, k_27⟩
  rw [if_neg hc11] at hm
  refine W_seq <| Wa (.n 89 (.b (decide (r_.2.2 < (p_Personal.length : Int)))) .z) (qs g 0 <| qB k_25 0 rfl 10 (sl A_p_Personal p_Personal.length c_p_Personal) (by kernel_rfl) <| qe) ?_
  refine W_pz (r_.2.2 < (p_Personal.length : Int)) (fun hc12 => ?_) fun hc12 => ?_
  · rw [if_pos hc12] at hm
    refine W_seq <| Wq (.n 4 (I 28) .z) ?_
    refine W_ret (At_ir (At_tr ?_))
    obtain rfl := si hm
    refine At_rz [I 28] qe ?_
    have k_28 := k_25.sel .z
    exact ⟨rfl, k_28⟩
  rw [if_neg hc12] at hm
  refine W_skip <| At_in ?_
  have k_29 := k_25.sel .z
  exact At_cz ⟨hm, rfl, k_29⟩
 rintro L_ w_10 ⟨hm, rfl, k_30⟩
 simp only [m_param_Check_j1] at hm
 refine W_seq <| Wq (.n 4 (I 0) .a) ?_
 refine W_ret ?_
 obtain rfl := si hm
 refine At_rz [I 0] qe ?_
 exact ⟨rfl, k_30⟩
theorem c_xof_valid (k_ : Int) (length : Int) (key : List UInt8) (salt : List UInt8) (personal : List UInt8) (A_key : Option Addr) (n_key : Nat) (c_key : Nat) (A_salt : Option Addr) (n_salt : Nat) (c_salt : Nat) (A_personal : Option Addr) (n_personal : Nat) (c_personal : Nat) (h_key : Ro F w A_key (e8.all key)) (hn_key : key.length = n_key) (hc_key : n_key ≤ c_key) (h_salt : Ro F w A_salt (e8.all salt)) (hn_salt : salt.length = n_salt) (hc_salt : n_salt ≤ c_salt) (h_personal : Ro F w A_personal (e8.all personal)) (hn_personal : personal.length = n_personal) (hc_personal : n_personal ≤ c_personal) (k : Cx F O w w []) (r : (Int × Int × UInt32 × UInt64 × Bool × Int)) (hm : m_xof_valid k_ length key salt personal = some r) :
    Calls Try.prog 13 (vals [I k_, I length, sl A_key n_key c_key, sl A_salt n_salt c_salt, sl A_personal n_personal c_personal]) w (fun e w' => e = .returned (SV.val (.tup [.agg [I r.1, I r.2.1, .u32 r.2.2.1, .u64 r.2.2.2.1, .b r.2.2.2.2.1], I r.2.2.2.2.2])) ∧ Cx F O w w' []) := by
 unfold m_xof_valid at hm
 subst hn_key
 subst hn_salt
 subst hn_personal
 refine calz [I k_, I length, sl A_key key.length c_key, sl A_salt salt.length c_salt, sl A_personal personal.length c_personal] Try.func13 rfl ?_
 refine W_seq <| W_reg <| WL_op <| Op_alloc [] 10 [I 0, I 0, .u32 0, .u64 0, .b false] (by kernel_rfl) k ?_
 intro g w_ k_1
 refine We 1 .a ?_
 refine Wn <| W_seq <| W_reg <| We 2 (.n 15 (I k_) (.n 16 (I length) (.kk (.s .a)))) ?_
 refine WL_op ?_
 obtain ⟨r_, h_r_, hm⟩ := ob hm
 refine Op_cz 17 ws_go24 (c_xof_shaped (F := N0) (O := N0) _ _ (Cx.refl _) _ h_r_) ?_
 rintro e_ w_1 ⟨rfl, k_2⟩
 have k_3 := k_1.call k_2
 refine ⟨.tup [.agg [I r_.1, I r_.2.1, .u32 r_.2.2.1, .u64 r_.2.2.2.1, .b r_.2.2.2.2.1], .b r_.2.2.2.2.2], rfl, ?_⟩
 refine We 3 (.n 18 (.agg [I r_.1, I r_.2.1, .u32 r_.2.2.1, .u64 r_.2.2.2.1, .b r_.2.2.2.2.1]) (.n 19 (.b r_.2.2.2.2.2) (.sss .a))) ?_
 refine WL_op <| Op_alloc [] 12 [I 0, I 0, .u32 0, .u64 0, .b false] (by kernel_rfl) k_3 ?_
 intro g1 w_2 k_4
 refine WL_op <| Op_bz 1 (.agg [I r_.1, I r_.2.1, .u32 r_.2.2.1, .u64 r_.2.2.2.1, .b r_.2.2.2.2.1]) [I r_.1, I r_.2.1, .u32 r_.2.2.1, .u64 r_.2.2.2.1, .b r_.2.2.2.2.1] (Pt.at g1 0) k_4 rfl .all ?_
 intro w_3 k_5
 refine We 1 (.n 13 (.b r_.2.2.2.2.2) (.k (.ss .a))) ?_
 refine Wn <| W_seq <| W_seq <| Wq (.n 21 (.b (!r_.2.2.2.2.2)) (.s .a)) ?_
 refine W_cz (!r_.2.2.2.2.2) (fun hc => ?_) fun hc => ?_
 · rw [if_pos hc] at hm
   refine W_seq <| W_reg <| Wl 1 (.n 22 (.agg [I r_.1, I r_.2.1, .u32 r_.2.2.1, .u64 r_.2.2.2.1, .b r_.2.2.2.2.1]) (.ss (.k .z))) (qT k_5 1 rfl 0 5 [I r_.1, I r_.2.1, .u32 r_.2.2.1, .u64 r_.2.2.2.1, .b r_.2.2.2.2.1] (by kernel_rfl) (by decide) <| qe) ?_
   refine WL_op ?_
   have k_6 := k_5.sel (.kk .e)
   refine Op_bz 0 (.agg [I r_.1, I r_.2.1, .u32 r_.2.2.1, .u64 r_.2.2.2.1, .b r_.2.2.2.2.1]) [I r_.1, I r_.2.1, .u32 r_.2.2.1, .u64 r_.2.2.2.1, .b r_.2.2.2.2.1] (Pt.at g 0) k_6 rfl .all ?_
   intro w_4 k_7
   have k_8 := k_7.sel (.k .z)
   refine We 1 (.n 11 (I 1) (.s .a)) ?_
   refine Wn <| W_ret (At_tr ?_)
   obtain rfl := si hm
   refine At_rz [.agg [I r_.1, I r_.2.1, .u32 r_.2.2.1, .u64 r_.2.2.2.1, .b r_.2.2.2.2.1], I 1] (qo (.agg [I r_.1, I r_.2.1, .u32 r_.2.2.1, .u64 r_.2.2.2.1, .b r_.2.2.2.2.1]) <| qc (fun w => Rd w (some ⟨g, 0, none⟩) (SV.cl [I r_.1, I r_.2.1, .u32 r_.2.2.1, .u64 r_.2.2.2.1, .b r_.2.2.2.2.1])) (k_8.brd 0 rfl) <| qe) ?_
   have k_9 := k_8.sel .z
   exact ⟨rfl, k_9⟩
 rw [if_neg (by rw [hc]; decide)] at hm
 refine W_skip <| At_go <| W_seq <| W_seq <| Wa (.n 27 (.b (decide (r_.2.1 < (key.length : Int)))) (.s .a)) (qs g1 0 <| qB k_5 1 rfl 1 (I r_.2.1) (by kernel_rfl) <| qe) ?_
 refine W_pz (r_.2.1 < (key.length : Int)) (fun hc1 => ?_) fun hc1 => ?_
 · rw [if_pos hc1] at hm
   refine W_seq <| W_reg <| Wl 1 (.n 28 (.agg [I r_.1, I r_.2.1, .u32 r_.2.2.1, .u64 r_.2.2.2.1, .b r_.2.2.2.2.1]) (.ss (.k .z))) (qT k_5 1 rfl 0 5 [I r_.1, I r_.2.1, .u32 r_.2.2.1, .u64 r_.2.2.2.1, .b r_.2.2.2.2.1] (by kernel_rfl) (by decide) <| qe) ?_
   refine WL_op ?_
   have k_10 := k_5.sel (.kk .e)
   refine Op_bz 0 (.agg [I r_.1, I r_.2.1, .u32 r_.2.2.1, .u64 r_.2.2.2.1, .b r_.2.2.2.2.1]) [I r_.1, I r_.2.1, .u32 r_.2.2.1, .u64 r_.2.2.2.1, .b r_.2.2.2.2.1] (Pt.at g 0) k_10 rfl .all ?_
   intro w_5 k_11
   have k_12 := k_11.sel (.k .z)
   refine We 1 (.n 11 (I 8) (.s .a)) ?_
   refine Wn <| W_ret (At_tr ?_)
   obtain rfl := si hm
   refine At_rz [.agg [I r_.1, I r_.2.1, .u32 r_.2.2.1, .u64 r_.2.2.2.1, .b r_.2.2.2.2.1], I 8] (qo (.agg [I r_.1, I r_.2.1, .u32 r_.2.2.1, .u64 r_.2.2.2.1, .b r_.2.2.2.2.1]) <| qc (fun w => Rd w (some ⟨g, 0, none⟩) (SV.cl [I r_.1, I r_.2.1, .u32 r_.2.2.1, .u64 r_.2.2.2.1, .b r_.2.2.2.2.1])) (k_12.brd 0 rfl) <| qe) ?_
   have k_13 := k_12.sel .z
   exact ⟨rfl, k_13⟩
 rw [if_neg hc1] at hm
 refine W_skip <| At_go <| W_seq ?_
 have k_14 := k_5.drew 1
 refine W_m ws_mixed (.q 1 1 (.q 2 1 (.q 3 1 (.q 4 1 (.q 5 1 (.q 0 2 (.op 6 (.op 7 (.op 8 (.q 9 3 .nil)))))))))) [6, 7, 8] k_14 (.c (.kk .e) (.c (.kk .e) (.c (.s (.k .e)) .l))) (by kernel_rfl) (fun _ => ?_)
 refine MXz 5 1 (.n 30 (I k_) (.n 31 (.agg [I r_.1, I r_.2.1, .u32 r_.2.2.1, .u64 r_.2.2.2.1, .b r_.2.2.2.2.1]) (.n 32 (sl A_key key.length c_key) (.n 33 (sl A_salt salt.length c_salt) (.n 34 (sl A_personal personal.length c_personal) (.s (.kk .z))))))) (fun x hx => qT hx 1 rfl 0 5 [I r_.1, I r_.2.1, .u32 r_.2.2.1, .u64 r_.2.2.2.1, .b r_.2.2.2.2.1] (by kernel_rfl) (by decide) <| qe) fun _ => ?_
 refine MXz 1 2 (.n 29 (.agg [I r_.1, I r_.2.1, .u32 r_.2.2.1, .u64 r_.2.2.2.1, .b r_.2.2.2.2.1]) (.kkkk (.k (.s .a)))) (fun x hx => qT hx 1 rfl 0 5 [I r_.1, I r_.2.1, .u32 r_.2.2.1, .u64 r_.2.2.2.1, .b r_.2.2.2.2.1] (by kernel_rfl) (by decide) <| qe) fun _ => ?_
 refine MX_op (by kernel_rfl) rfl ?_
 have k_15 := k_14.sel (.kk .e)
 obtain ⟨r_1, h_r_1, hm⟩ := ob hm
 refine Op_cz 35 ws_go26 (c_xof_shape_pars (F := N0) (O := N0) _ _ _ _ _ _ _ _ _ _ _ _ _ _ _ _ _ (Ro.n0 (h_key.cx k_15)) rfl hc_key (Ro.n0 (h_salt.cx k_15)) rfl hc_salt (Ro.n0 (h_personal.cx k_15)) rfl hc_personal (Cx.refl _) _ h_r_1) ?_
 rintro e_ w_6 ⟨rfl, k_16⟩
 have k_17 := k_15.call k_16
 refine ⟨.agg [I r_1.1, I r_1.2.1, I 1, I 1, .u32 0, .u64 0, .u32 r_1.2.2, I 0, I 0, sl A_salt salt.length c_salt, sl A_personal personal.length c_personal], rfl, ?_⟩
 refine ⟨k_17, fun _ => ?_⟩
 refine MX_op (by kernel_rfl) rfl ?_
 obtain ⟨r_2, h_r_2, hm⟩ := ob hm
 refine Op_cz 36 ws_go25 (c_param_Check (F := N0) (O := N0) _ _ _ _ _ _ _ _ _ _ _ _ _ _ _ _ _ _ (Ro.n0 (h_salt.cx k_17)) rfl hc_salt (Ro.n0 (h_personal.cx k_17)) rfl hc_personal (Cx.refl _) _ h_r_2) ?_
 rintro e_ w_7 ⟨rfl, k_18⟩
 have k_19 := k_17.call k_18
 refine ⟨I r_2, rfl, ?_⟩
 refine ⟨k_19, fun _ => ?_⟩
 refine MX_op (by kernel_rfl) rfl <| Op_bz 0 (.agg [I r_.1, I r_.2.1, .u32 r_.2.2.1, .u64 r_.2.2.2.1, .b r_.2.2.2.2.1]) [I r_.1, I r_.2.1, .u32 r_.2.2.1, .u64 r_.2.2.2.1, .b r_.2.2.2.2.1] (Pt.at g 0) k_19 rfl .all ?_
 intro w_8 k_20
 refine ⟨(k_20.sel (.s (.k .e))), fun _ => ?_⟩
 refine MXz 1 3 (.n 11 (I r_2) (.ssss (.ssss .a))) (fun x hx => qe) fun _ => ?_
 refine MX_nil <| At_go <| W_ret ?_
 obtain rfl := si hm
 refine At_rz [.agg [I r_.1, I r_.2.1, .u32 r_.2.2.1, .u64 r_.2.2.2.1, .b r_.2.2.2.2.1], I r_2] (qo (.agg [I r_.1, I r_.2.1, .u32 r_.2.2.1, .u64 r_.2.2.2.1, .b r_.2.2.2.2.1]) <| qc (fun w => Rd w (some ⟨g, 0, none⟩) (SV.cl [I r_.1, I r_.2.1, .u32 r_.2.2.1, .u64 r_.2.2.2.1, .b r_.2.2.2.2.1])) (k_20.brd 0 rfl) <| qe) ?_
 have k_21 := k_20.sel .z
 exact ⟨rfl, k_21⟩
theorem c_xof_own (b : List UInt8) (A_b : Option Addr) (n_b : Nat) (c_b : Nat) (h_b : Ro F w A_b (e8.all b)) (hn_b : b.length = n_b) (hc_b : n_b ≤ c_b) (k : Cx F O w w []) (r : (List UInt8)) (hm : m_xof_own b = some r) :
    Calls Try.prog 14 (vals [sl A_b n_b c_b]) w (fun e w' => ∃ A n c, r.length = n ∧ e = .returned (SV.val (sl A n c)) ∧ Cx F O w w' [Ow e8 A n c r]) := by
 unfold m_xof_own at hm
 subst hn_b
 refine calz [sl A_b b.length c_b] Try.func14 rfl ?_
 refine W_seq <| Wq .a ?_
 refine W_seq <| W_reg <| We 1 (.n 3 (sl A_b b.length c_b) .z) ?_
 refine WL_op ?_
 have k_ := k.nil e8
 obtain ⟨b1, h_b1, hm⟩ := ob hm
 obtain ⟨hz, hl⟩ := app_some h_b1
 refine Op_append (E := e8) (v := sl A_b b.length c_b) (ys := b) ws_tf23 [] 4 0 (by kernel_rfl) k_ rfl (Src.sl (h_b.cx k_) rfl (by rfl)) rfl (by have := k_.len 0 rfl; have := hm; omega) ?_
 intro A0 c0 w_ k_1
 rw [← hl] at k_1
 refine We 1 (.n 2 (sl A0 (0 + b.length) c0) .z) ?_
 refine Wn <| W_ret ?_
 obtain rfl := si hm
 refine At_rz [sl A0 (0 + b.length) c0] qe ?_
 exact ⟨A0, 0 + b.length, c0, k_1.len 0 rfl, rfl, k_1⟩
theorem c_param_rows (k_ : Int) (k : Cx F O w w []) (r : (List (Int × Int × Int × List UInt8 × Int))) (hm : m_param_rows k_ = some r) :
    Calls Try.prog 45 (vals [I k_]) w (fun e w' => ∃ A n c, r.length = n ∧ e = .returned (SV.val (sl A n c)) ∧ Cx F O w w' [Ow (eP eI (eP eI (eP eI (eP eS eI)))) A n c r]) := by
 unfold m_param_rows at hm
 refine calz [I k_] Try.func45 rfl ?_
 refine W_seq <| Wq .a ?_
 refine W_seq <| W_reg <| We 9 (.n 5 (.agg [I 1, I 0, I 1, .s ([100, 105, 103, 101, 115, 116] : List UInt8), I 20]) (.n 6 (.agg [I 2, I 1, I 1, .s ([107, 101, 121] : List UInt8), I 8]) (.n 7 (.agg [I 3, I 2, I 1, .s ([102, 97, 110, 111, 117, 116] : List UInt8), I 21]) (.n 8 (.agg [I 4, I 3, I 1, .s ([100, 101, 112, 116, 104] : List UInt8), I 22]) (.n 9 (.agg [I 5, I 4, I 4, .s ([108, 101, 97, 102] : List UInt8), I 1]) (.n 10 (.agg [I 6, I 8, I 8, .s ([111, 102, 102, 115, 101, 116] : List UInt8), I 23]) (.n 11 (.agg [I 7, I 12, I 4, .s ([120, 111, 102] : List UInt8), I 24]) (.n 12 (.agg [I 8, I 16, I 1, .s ([110, 111, 100, 101] : List UInt8), I 25]) (.n 13 (.agg [I 9, I 17, I 1, .s ([105, 110, 110, 101, 114] : List UInt8), I 26]) .a))))))))) ?_
 refine WL_op <| Op_mk ws_tf84 (eP eI (eP eI (eP eI (eP eS eI)))) [] 14 ([((1 : Int), (0 : Int), (1 : Int), ([100, 105, 103, 101, 115, 116] : List UInt8), (20 : Int)), ((2 : Int), (1 : Int), (1 : Int), ([107, 101, 121] : List UInt8), (8 : Int)), ((3 : Int), (2 : Int), (1 : Int), ([102, 97, 110, 111, 117, 116] : List UInt8), (21 : Int)), ((4 : Int), (3 : Int), (1 : Int), ([100, 101, 112, 116, 104] : List UInt8), (22 : Int)), ((5 : Int), (4 : Int), (4 : Int), ([108, 101, 97, 102] : List UInt8), (1 : Int)), ((6 : Int), (8 : Int), (8 : Int), ([111, 102, 102, 115, 101, 116] : List UInt8), (23 : Int)), ((7 : Int), (12 : Int), (4 : Int), ([120, 111, 102] : List UInt8), (24 : Int)), ((8 : Int), (16 : Int), (1 : Int), ([110, 111, 100, 101] : List UInt8), (25 : Int)), ((9 : Int), (17 : Int), (1 : Int), ([105, 110, 110, 101, 114] : List UInt8), (26 : Int))] : List (Int × Int × Int × List UInt8 × Int)) [(0, .agg [I 1, I 0, I 1, .s ([100, 105, 103, 101, 115, 116] : List UInt8), I 20]), (1, .agg [I 2, I 1, I 1, .s ([107, 101, 121] : List UInt8), I 8]), (2, .agg [I 3, I 2, I 1, .s ([102, 97, 110, 111, 117, 116] : List UInt8), I 21]), (3, .agg [I 4, I 3, I 1, .s ([100, 101, 112, 116, 104] : List UInt8), I 22]), (4, .agg [I 5, I 4, I 4, .s ([108, 101, 97, 102] : List UInt8), I 1]), (5, .agg [I 6, I 8, I 8, .s ([111, 102, 102, 115, 101, 116] : List UInt8), I 23]), (6, .agg [I 7, I 12, I 4, .s ([120, 111, 102] : List UInt8), I 24]), (7, .agg [I 8, I 16, I 1, .s ([110, 111, 100, 101] : List UInt8), I 25]), (8, .agg [I 9, I 17, I 1, .s ([105, 110, 110, 101, 114] : List UInt8), I 26])] [I 1, I 0, I 1, .s ([100, 105, 103, 101, 115, 116] : List UInt8), I 20, I 2, I 1, I 1, .s ([107, 101, 121] : List UInt8), I 8, I 3, I 2, I 1, .s ([102, 97, 110, 111, 117, 116] : List UInt8), I 21, I 4, I 3, I 1, .s ([100, 101, 112, 116, 104] : List UInt8), I 22, I 5, I 4, I 4, .s ([108, 101, 97, 102] : List UInt8), I 1, I 6, I 8, I 8, .s ([111, 102, 102, 115, 101, 116] : List UInt8), I 23, I 7, I 12, I 4, .s ([120, 111, 102] : List UInt8), I 24, I 8, I 16, I 1, .s ([110, 111, 100, 101] : List UInt8), I 25, I 9, I 17, I 1, .s ([105, 110, 110, 101, 114] : List UInt8), I 26] (by kernel_rfl) (by kernel_rfl) (by kernel_rfl) k ?_
 intro A0 w_ k_1
 refine We 1 (.n 3 (sl A0 9 9) (.ssss (.ssss (.ss .a)))) ?_
 refine Wn <| W_seq <| W_seq <| Wq (.n 16 (.b (decide (k_ = 1))) (.k .z)) ?_
 refine W_pz (k_ = 1) (fun hc => ?_) fun hc => ?_
 · rw [if_pos hc] at hm
   refine W_seq <| Wq (.n 2 (sl A0 9 9) .z) ?_
   refine W_ret (At_tr ?_)
   obtain rfl := si hm
   refine At_rz [sl A0 9 9] qe ?_
   exact ⟨A0, 9, 9, k_1.len 0 rfl, rfl, k_1⟩
 rw [if_neg hc] at hm
 refine W_skip <| At_go <| W_seq <| Wq (.n 4 (sl A0 9 9) .z) ?_
 refine W_seq <| W_reg ?_
 obtain ⟨x_0, zh0, hm⟩ := ob hm
 refine Wl 4 (.n 20 (sl A0 9 9) (.n 22 (.v (.pointer (fa (ixA A0 (5 : Int) 5) 2))) .a)) (qJ (k_1.rd 0 rfl) zh0 (k_1.len 0 rfl) <| qS (A := ixA A0 (5 : Int) 5) (ixA_some _ _ (E_ix (E := (eP eI (eP eI (eP eI (eP eS eI))))) (k_1.rd 0 rfl) (by decide) (geti_lt zh0).1 (geti_some zh0).2)) <| qe) ?_
 refine WL_op <| Op_ost (E := (eP eI (eP eI (eP eI (eP eS eI))))) (kk := 2) (sv := I 6) (svs := [I 6]) [] 0 (x_0.1, x_0.2.1, (6 : Int), x_0.2.2.2.1, x_0.2.2.2.2) (by kernel_rfl) (Pt.fa2 (Pt.ix1 A0 (5 : Int) 5) 2) k_1 rfl (geti_some zh0).2 (E_ix (E := (eP eI (eP eI (eP eI (eP eS eI))))) (k_1.rd 0 rfl) (by decide) (geti_lt zh0).1 (geti_some zh0).2) rfl (Nat.le_of_ble_eq_true (by kernel_rfl)) ?_
 intro w_1 k_2
 obtain ⟨x_1, zh1, hm⟩ := ob hm
 refine Wl 2 (.n 24 (.v (.pointer (fa (ixA A0 (6 : Int) 5) 2))) (.ss .a)) (qJ (k_2.rd 0 rfl) zh1 (k_2.len 0 rfl) <| qS (A := ixA A0 (6 : Int) 5) (ixA_some _ _ (E_ix (E := (eP eI (eP eI (eP eI (eP eS eI))))) (k_2.rd 0 rfl) (by decide) (geti_lt zh1).1 (geti_some zh1).2)) <| qe) ?_
 refine WL_op <| Op_ost (E := (eP eI (eP eI (eP eI (eP eS eI))))) (kk := 2) (sv := I 2) (svs := [I 2]) [] 0 (x_1.1, x_1.2.1, (2 : Int), x_1.2.2.2.1, x_1.2.2.2.2) (by kernel_rfl) (Pt.fa2 (Pt.ix1 A0 (6 : Int) 5) 2) k_2 rfl (geti_some zh1).2 (E_ix (E := (eP eI (eP eI (eP eI (eP eS eI))))) (k_2.rd 0 rfl) (by decide) (geti_lt zh1).1 (geti_some zh1).2) rfl (Nat.le_of_ble_eq_true (by kernel_rfl)) ?_
 intro w_2 k_3
 refine Wn <| W_seq <| W_reg ?_
 obtain ⟨x_2, zh2, hm⟩ := ob hm
 refine Wl 4 (.n 26 (sl A0 9 9) (.n 28 (.v (.pointer (fa (ixA A0 (7 : Int) 5) 1))) (.s .a))) (qJ (k_3.rd 0 rfl) zh2 (k_3.len 0 rfl) <| qS (A := ixA A0 (7 : Int) 5) (ixA_some _ _ (E_ix (E := (eP eI (eP eI (eP eI (eP eS eI))))) (k_3.rd 0 rfl) (by decide) (geti_lt zh2).1 (geti_some zh2).2)) <| qe) ?_
 refine WL_op <| Op_ost (E := (eP eI (eP eI (eP eI (eP eS eI))))) (kk := 1) (sv := I 14) (svs := [I 14]) [] 0 (x_2.1, (14 : Int), x_2.2.2.1, x_2.2.2.2.1, x_2.2.2.2.2) (by kernel_rfl) (Pt.fa2 (Pt.ix1 A0 (7 : Int) 5) 1) k_3 rfl (geti_some zh2).2 (E_ix (E := (eP eI (eP eI (eP eI (eP eS eI))))) (k_3.rd 0 rfl) (by decide) (geti_lt zh2).1 (geti_some zh2).2) rfl (Nat.le_of_ble_eq_true (by kernel_rfl)) ?_
 intro w_3 k_4
 obtain ⟨x_3, zh3, hm⟩ := ob hm
 refine Wl 2 (.n 30 (.v (.pointer (fa (ixA A0 (8 : Int) 5) 1))) (.ss .a)) (qJ (k_4.rd 0 rfl) zh3 (k_4.len 0 rfl) <| qS (A := ixA A0 (8 : Int) 5) (ixA_some _ _ (E_ix (E := (eP eI (eP eI (eP eI (eP eS eI))))) (k_4.rd 0 rfl) (by decide) (geti_lt zh3).1 (geti_some zh3).2)) <| qe) ?_
 refine WL_op ?_
 have k_5 := k_4.sel (.k .e)
 refine Op_ost (E := (eP eI (eP eI (eP eI (eP eS eI))))) (kk := 1) (sv := I 15) (svs := [I 15]) [] 0 (x_3.1, (15 : Int), x_3.2.2.1, x_3.2.2.2.1, x_3.2.2.2.2) (by kernel_rfl) (Pt.fa2 (Pt.ix1 A0 (8 : Int) 5) 1) k_5 rfl (geti_some zh3).2 (E_ix (E := (eP eI (eP eI (eP eI (eP eS eI))))) (k_5.rd 0 rfl) (by decide) (geti_lt zh3).1 (geti_some zh3).2) rfl (Nat.le_of_ble_eq_true (by kernel_rfl)) ?_
 intro w_4 k_6
 refine Wn <| W_seq <| Wq (.n 2 (sl A0 9 9) .z) ?_
 refine W_ret ?_
 obtain rfl := si hm
 refine At_rz [sl A0 9 9] qe ?_
 exact ⟨A0, 9, 9, k_6.len 0 rfl, rfl, k_6⟩
theorem c_param_value (p_Digest : Int) (p_Key : Int) (p_Fanout : Int) (p_Depth : Int) (p_Leaf : UInt32) (p_Offset : UInt64) (p_Xof : UInt32) (p_NodeDepth : Int) (p_Inner : Int) (p_Salt : List UInt8) (p_Personal : List UInt8) (field : Int) (A_p_Salt : Option Addr) (n_p_Salt : Nat) (c_p_Salt : Nat) (A_p_Personal : Option Addr) (n_p_Personal : Nat) (c_p_Personal : Nat) (h_p_Salt : Ro F w A_p_Salt (e8.all p_Salt)) (hn_p_Salt : p_Salt.length = n_p_Salt) (hc_p_Salt : n_p_Salt ≤ c_p_Salt) (h_p_Personal : Ro F w A_p_Personal (e8.all p_Personal)) (hn_p_Personal : p_Personal.length = n_p_Personal) (hc_p_Personal : n_p_Personal ≤ c_p_Personal) (k : Cx F O w w []) (r : UInt64) (hm : m_param_value p_Digest p_Key p_Fanout p_Depth p_Leaf p_Offset p_Xof p_NodeDepth p_Inner p_Salt p_Personal field = some r) :
    Calls Try.prog 47 (vals [.agg [I p_Digest, I p_Key, I p_Fanout, I p_Depth, .u32 p_Leaf, .u64 p_Offset, .u32 p_Xof, I p_NodeDepth, I p_Inner, sl A_p_Salt n_p_Salt c_p_Salt, sl A_p_Personal n_p_Personal c_p_Personal], I field]) w (fun e w' => e = .returned (SV.val (.u64 r)) ∧ Cx F O w w' []) := by
 unfold m_param_value at hm
 subst hn_p_Salt
 subst hn_p_Personal
 refine calz [.agg [I p_Digest, I p_Key, I p_Fanout, I p_Depth, .u32 p_Leaf, .u64 p_Offset, .u32 p_Xof, I p_NodeDepth, I p_Inner, sl A_p_Salt p_Salt.length c_p_Salt, sl A_p_Personal p_Personal.length c_p_Personal], I field] Try.func47 rfl ?_
 refine W_seq <| W_reg <| WL_op <| Op_box [] 2 (.agg [I p_Digest, I p_Key, I p_Fanout, I p_Depth, .u32 p_Leaf, .u64 p_Offset, .u32 p_Xof, I p_NodeDepth, I p_Inner, sl A_p_Salt p_Salt.length c_p_Salt, sl A_p_Personal p_Personal.length c_p_Personal]) [I p_Digest, I p_Key, I p_Fanout, I p_Depth, .u32 p_Leaf, .u64 p_Offset, .u32 p_Xof, I p_NodeDepth, I p_Inner, sl A_p_Salt p_Salt.length c_p_Salt, sl A_p_Personal p_Personal.length c_p_Personal] (by kernel_rfl) k ?_
 intro g w_ k_
 refine We 1 (.k (.s .a)) ?_
 refine Wn <| W_seq <| W_seq <| Wq (.n 5 (I field) (.k .z)) ?_
 refine W_block <| W_seq <| Wq (.n 6 (.b (decide (field = 1))) .a) ?_
 refine W_pz (field = 1) (fun hc => ?_) fun hc => ?_
 · rw [if_pos hc] at hm
   refine W_seq <| Wa (.n 4 (.u64 (UInt64.ofInt p_Digest)) .z) (qs g 0 <| qB k_ 0 rfl 0 (I p_Digest) (by kernel_rfl) <| qe) ?_
   refine W_ret (At_ir (At_tr ?_))
   obtain rfl := si hm
   refine At_rz [.u64 (UInt64.ofInt p_Digest)] qe ?_
   have k_1 := k_.sel .z
   exact ⟨rfl, k_1⟩
 rw [if_neg hc] at hm
 refine W_seq <| Wq (.n 11 (.b (decide (field = 2))) (.s .a)) ?_
 refine W_pz (field = 2) (fun hc1 => ?_) fun hc1 => ?_
 · rw [if_pos hc1] at hm
   refine W_seq <| Wa (.n 4 (.u64 (UInt64.ofInt p_Key)) .z) (qs g 0 <| qB k_ 0 rfl 1 (I p_Key) (by kernel_rfl) <| qe) ?_
   refine W_ret (At_ir (At_tr ?_))
   obtain rfl := si hm
   refine At_rz [.u64 (UInt64.ofInt p_Key)] qe ?_
   have k_2 := k_.sel .z
   exact ⟨rfl, k_2⟩
 rw [if_neg hc1] at hm
 refine W_seq <| Wq (.n 16 (.b (decide (field = 3))) (.s .a)) ?_
 refine W_pz (field = 3) (fun hc2 => ?_) fun hc2 => ?_
 · rw [if_pos hc2] at hm
   refine W_seq <| Wa (.n 4 (.u64 (UInt64.ofInt p_Fanout)) .z) (qs g 0 <| qB k_ 0 rfl 2 (I p_Fanout) (by kernel_rfl) <| qe) ?_
   refine W_ret (At_ir (At_tr ?_))
   obtain rfl := si hm
   refine At_rz [.u64 (UInt64.ofInt p_Fanout)] qe ?_
   have k_3 := k_.sel .z
   exact ⟨rfl, k_3⟩
 rw [if_neg hc2] at hm
 refine W_seq <| Wq (.n 21 (.b (decide (field = 4))) (.s .a)) ?_
 refine W_pz (field = 4) (fun hc3 => ?_) fun hc3 => ?_
 · rw [if_pos hc3] at hm
   refine W_seq <| Wa (.n 4 (.u64 (UInt64.ofInt p_Depth)) .z) (qs g 0 <| qB k_ 0 rfl 3 (I p_Depth) (by kernel_rfl) <| qe) ?_
   refine W_ret (At_ir (At_tr ?_))
   obtain rfl := si hm
   refine At_rz [.u64 (UInt64.ofInt p_Depth)] qe ?_
   have k_4 := k_.sel .z
   exact ⟨rfl, k_4⟩
 rw [if_neg hc3] at hm
 refine W_seq <| Wq (.n 26 (.b (decide (field = 5))) (.s .a)) ?_
 refine W_pz (field = 5) (fun hc4 => ?_) fun hc4 => ?_
 · rw [if_pos hc4] at hm
   refine W_seq <| Wa (.n 4 (.u64 (UInt64.ofNat p_Leaf.toNat)) .z) (qs g 0 <| qB k_ 0 rfl 4 (.u32 p_Leaf) (by kernel_rfl) <| qe) ?_
   refine W_ret (At_ir (At_tr ?_))
   obtain rfl := si hm
   refine At_rz [.u64 (UInt64.ofNat p_Leaf.toNat)] qe ?_
   have k_5 := k_.sel .z
   exact ⟨rfl, k_5⟩
 rw [if_neg hc4] at hm
 refine W_seq <| Wq (.n 31 (.b (decide (field = 6))) (.s .a)) ?_
 refine W_pz (field = 6) (fun hc5 => ?_) fun hc5 => ?_
 · rw [if_pos hc5] at hm
   refine W_seq <| Wa (.n 4 (.u64 p_Offset) .z) (qs g 0 <| qB k_ 0 rfl 5 (.u64 p_Offset) (by kernel_rfl) <| qe) ?_
   refine W_ret (At_ir (At_tr ?_))
   obtain rfl := si hm
   refine At_rz [.u64 p_Offset] qe ?_
   have k_6 := k_.sel .z
   exact ⟨rfl, k_6⟩
 rw [if_neg hc5] at hm
 refine W_seq <| Wq (.n 35 (.b (decide (field = 7))) (.s .a)) ?_
 refine W_pz (field = 7) (fun hc6 => ?_) fun hc6 => ?_
 · rw [if_pos hc6] at hm
   refine W_seq <| Wa (.n 4 (.u64 (UInt64.ofNat p_Xof.toNat)) .z) (qs g 0 <| qB k_ 0 rfl 6 (.u32 p_Xof) (by kernel_rfl) <| qe) ?_
   refine W_ret (At_ir (At_tr ?_))
   obtain rfl := si hm
   refine At_rz [.u64 (UInt64.ofNat p_Xof.toNat)] qe ?_
   have k_7 := k_.sel .z
   exact ⟨rfl, k_7⟩
 rw [if_neg hc6] at hm
 refine W_seq <| Wq (.n 40 (.b (decide (field = 8))) (.ss .a)) ?_
 refine W_pz (field = 8) (fun hc7 => ?_) fun hc7 => ?_
 · rw [if_pos hc7] at hm
   refine W_seq <| Wa (.n 4 (.u64 (UInt64.ofInt p_NodeDepth)) .z) (qs g 0 <| qB k_ 0 rfl 7 (I p_NodeDepth) (by kernel_rfl) <| qe) ?_
   refine W_ret (At_ir (At_tr ?_))
   obtain rfl := si hm
   refine At_rz [.u64 (UInt64.ofInt p_NodeDepth)] qe ?_
   have k_8 := k_.sel .z
   exact ⟨rfl, k_8⟩
 rw [if_neg hc7] at hm
 refine W_skip <| At_in <| At_go <| W_seq <| Wa (.n 4 (.u64 (UInt64.ofInt p_Inner)) .z) (qs g 0 <| qB k_ 0 rfl 8 (I p_Inner) (by kernel_rfl) <| qe) ?_
 refine W_ret ?_
 obtain rfl := si hm
 refine At_rz [.u64 (UInt64.ofInt p_Inner)] qe ?_
 have k_9 := k_.sel .z
 exact ⟨rfl, k_9⟩
theorem c_param_put (b : List UInt8) (at_ : Int) (size : Int) (v : UInt64) (A_b : Option Addr) (n_b : Nat) (c_b : Nat) (G_b : Win) (hc_b : n_b ≤ c_b) (k : Cx F O w w [Mw e8 A_b n_b b G_b]) (r : (List UInt8)) (hm : m_param_put b at_ size v = some r) :
    Calls Try.prog 46 (vals [sl A_b n_b c_b, I at_, I size, .u64 v]) w (fun e w' => e = .returned (SV.val (.tup [])) ∧ Cx F O w w' [Mw e8 A_b n_b r G_b]) := by
 unfold m_param_put at hm
 obtain rfl := k.mlen 0 rfl
 refine calz [sl A_b b.length c_b, I at_, I size, .u64 v] Try.func46 rfl ?_
 refine W_seq <| Wq (.n 9 (I size) (.n 10 (I 0) (.kk (.s .a)))) ?_
 refine W_block <| W_lp (m_param_put_l0 at_ size v) (fun s L wr => ∃ (b1 : List UInt8) (x_0 : Int), (b1, x_0) = s ∧ L = [(0, sl A_b b.length c_b), (1, I at_), (3, .u64 v), (9, I size), (10, I x_0)] ∧ Cx F O w wr [Mw e8 A_b b.length b1 G_b]) (b, (0 : Int)) r hm ⟨b, (0 : Int), rfl, rfl, k⟩ (by kernel_rfl) ?_
 intro s0_ L_ w_ y0 hrel hstep hr0
 obtain ⟨b1, x_0, rfl, rfl, k_⟩ := hrel
 have hm := hstep; simp only [m_param_put_l0] at hm
 clear hstep
 refine W_seq <| Wq (.n 11 (.b (decide (x_0 < size))) .a) ?_
 refine W_seq <| W_pz (x_0 < size) (fun hc => ?_) fun hc => ?_
 · rw [if_pos hc] at hm
   refine W_skip <| At_go <| W_seq <| W_block <| W_seq <| Wq (.n 8 (I x_0) (.s .a)) ?_
   refine W_reg ?_
   obtain ⟨u, h_u, hm⟩ := ob hm
   obtain ⟨x_1, zh1, hm⟩ := ob hm
   refine Wl 10 (.n 21 (.u8 (UInt8.ofNat (shr64 v (Int.toNat (w64 (8 * x_0)))).toNat)) (.n 22 (.v (.pointer (ixA A_b (w64 (at_ + x_0)) 1))) (.s .a))) (qp (0 ≤ w64 (8 * x_0)) (need_some h_u) <| qJ (k_.mrd 0 rfl) zh1 (k_.mlen 0 rfl) <| qe) ?_
   refine WL_op <| Op_mst (E := e8) (kk := 0) (sv := .u8 (UInt8.ofNat (shr64 v (Int.toNat (w64 (8 * x_0)))).toNat)) (svs := [.u8 (UInt8.ofNat (shr64 v (Int.toNat (w64 (8 * x_0)))).toNat)]) [] 0 (UInt8.ofNat (shr64 v (Int.toNat (w64 (8 * x_0)))).toNat) (by kernel_rfl) (Pt.ix1 A_b (w64 (at_ + x_0)) 1) k_ rfl (geti_some zh1).2 (E_ix (E := e8) (k_.mrd 0 rfl) (by decide) (geti_lt zh1).1 (geti_some zh1).2) rfl (Nat.le_of_ble_eq_true (by kernel_rfl)) ?_
   intro w_1 k_1
   refine WL_nil <| At_in <| At_go <| W_q [] (.n 10 (I (w64 (x_0 + 1))) (.ss (.kkkk .z))) qe (by kernel_rfl) ?_
   exact At_rd (b1.set (Int.toNat (w64 (at_ + x_0))) (UInt8.ofNat (shr64 v (Int.toNat (w64 (8 * x_0)))).toNat), w64 (x_0 + 1)) (Option.some.inj hm).symm ⟨b1.set (Int.toNat (w64 (at_ + x_0))) (UInt8.ofNat (shr64 v (Int.toNat (w64 (8 * x_0)))).toNat), w64 (x_0 + 1), rfl, rfl, k_1⟩ (by kernel_rfl)
 rw [if_neg hc] at hm
 refine W_exit (At_te (At_te (At_ie ?_)))
 have hm := exit_of hm hr0
 obtain rfl := si hm
 refine At_en [] qe (by kernel_rfl) ?_
 exact ⟨rfl, k_⟩
theorem c_param_Encode (k_ : Int) (p_Digest : Int) (p_Key : Int) (p_Fanout : Int) (p_Depth : Int) (p_Leaf : UInt32) (p_Offset : UInt64) (p_Xof : UInt32) (p_NodeDepth : Int) (p_Inner : Int) (p_Salt : List UInt8) (p_Personal : List UInt8) (A_p_Salt : Option Addr) (n_p_Salt : Nat) (c_p_Salt : Nat) (A_p_Personal : Option Addr) (n_p_Personal : Nat) (c_p_Personal : Nat) (h_p_Salt : Ro F w A_p_Salt (e8.all p_Salt)) (hn_p_Salt : p_Salt.length = n_p_Salt) (hc_p_Salt : n_p_Salt ≤ c_p_Salt) (h_p_Personal : Ro F w A_p_Personal (e8.all p_Personal)) (hn_p_Personal : p_Personal.length = n_p_Personal) (hc_p_Personal : n_p_Personal ≤ c_p_Personal) (k : Cx F O w w []) (r : (List UInt8 × Int)) (hm : m_param_Encode k_ p_Digest p_Key p_Fanout p_Depth p_Leaf p_Offset p_Xof p_NodeDepth p_Inner p_Salt p_Personal = some r) :
    Calls Try.prog 36 (vals [I k_, .agg [I p_Digest, I p_Key, I p_Fanout, I p_Depth, .u32 p_Leaf, .u64 p_Offset, .u32 p_Xof, I p_NodeDepth, I p_Inner, sl A_p_Salt n_p_Salt c_p_Salt, sl A_p_Personal n_p_Personal c_p_Personal]]) w (fun e w' => ∃ A n c, r.1.length = n ∧ e = .returned (SV.val (.tup [sl A n c, I r.2])) ∧ Cx F O w w' [Ow e8 A n c r.1]) := by
 unfold m_param_Encode at hm
 subst hn_p_Salt
 subst hn_p_Personal
 refine calz [I k_, .agg [I p_Digest, I p_Key, I p_Fanout, I p_Depth, .u32 p_Leaf, .u64 p_Offset, .u32 p_Xof, I p_NodeDepth, I p_Inner, sl A_p_Salt p_Salt.length c_p_Salt, sl A_p_Personal p_Personal.length c_p_Personal]] Try.func36 rfl ?_
 refine W_seq <| W_reg <| WL_op <| Op_box [] 3 (.agg [I p_Digest, I p_Key, I p_Fanout, I p_Depth, .u32 p_Leaf, .u64 p_Offset, .u32 p_Xof, I p_NodeDepth, I p_Inner, sl A_p_Salt p_Salt.length c_p_Salt, sl A_p_Personal p_Personal.length c_p_Personal]) [I p_Digest, I p_Key, I p_Fanout, I p_Depth, .u32 p_Leaf, .u64 p_Offset, .u32 p_Xof, I p_NodeDepth, I p_Inner, sl A_p_Salt p_Salt.length c_p_Salt, sl A_p_Personal p_Personal.length c_p_Personal] (by kernel_rfl) k ?_
 intro g w_ k_1
 refine We 2 (.kk .z) ?_
 refine Wn <| W_seq <| W_seq <| W_reg <| Wl 2 (.n 13 (I k_) (.n 14 (.agg [I p_Digest, I p_Key, I p_Fanout, I p_Depth, .u32 p_Leaf, .u64 p_Offset, .u32 p_Xof, I p_NodeDepth, I p_Inner, sl A_p_Salt p_Salt.length c_p_Salt, sl A_p_Personal p_Personal.length c_p_Personal]) .a)) (qT k_1 0 rfl 0 11 [I p_Digest, I p_Key, I p_Fanout, I p_Depth, .u32 p_Leaf, .u64 p_Offset, .u32 p_Xof, I p_NodeDepth, I p_Inner, sl A_p_Salt p_Salt.length c_p_Salt, sl A_p_Personal p_Personal.length c_p_Personal] (by kernel_rfl) (by decide) <| qe) ?_
 refine WL_op ?_
 obtain ⟨r_, h_r_, hm⟩ := ob hm
 refine Op_cz 15 ws_go25 (c_param_Check (F := N0) (O := N0) _ _ _ _ _ _ _ _ _ _ _ _ _ _ _ _ _ _ (Ro.n0 (h_p_Salt.cx k_1)) rfl hc_p_Salt (Ro.n0 (h_p_Personal.cx k_1)) rfl hc_p_Personal (Cx.refl _) _ h_r_) ?_
 rintro e_ w_1 ⟨rfl, k_2⟩
 have k_3 := k_1.call k_2
 refine ⟨I r_, rfl, ?_⟩
 refine We 1 (.n 6 (I r_) (.sss .a)) ?_
 refine Wn <| W_seq <| Wq (.n 17 (.b (decide (r_ ≠ 0))) .a) ?_
 refine W_pz (r_ ≠ 0) (fun hc => ?_) fun hc => ?_
 · rw [if_pos hc] at hm
   refine W_seq <| Wq (.n 4 (sl none 0 0) (.n 5 (I r_) .z)) ?_
   refine W_ret (At_tr ?_)
   have k_4 := k_3.nil e8
   obtain rfl := si hm
   refine At_rz [sl none 0 0, I r_] qe ?_
   have k_5 := k_4.sel (.s (.k .e))
   exact ⟨none, 0, 0, k_5.len 0 rfl, rfl, k_5⟩
 rw [if_neg hc] at hm
 refine W_skip <| At_go <| W_seq <| W_reg <| We 1 (.n 20 (I k_) (.ss .a)) ?_
 refine WL_op ?_
 obtain ⟨r_1, h_r_1, hm⟩ := ob hm
 refine Op_cz 21 ws_go34 (c_param_sizes (F := N0) (O := N0) _ (Cx.refl _) _ h_r_1) ?_
 rintro e_ w_2 ⟨rfl, k_6⟩
 have k_7 := k_3.call k_6
 refine ⟨.tup [I r_1.1, I r_1.2.1, I r_1.2.2], rfl, ?_⟩
 refine We 7 (.n 7 (I r_1.1) (.n 9 (I r_1.2.2) (.ss .a))) ?_
 refine Wn <| W_seq <| W_reg <| We 1 (.n 25 (I r_1.1) .a) ?_
 refine WL_op ?_
 obtain ⟨u, h_u, hm⟩ := ob hm
 refine Op_make ws_tf23 e8 (0 : UInt8) rfl [] 26 (I r_1.1) (I r_1.1) r_1.1 r_1.1 (by kernel_rfl) (need_some h_u).1 (need_some h_u).2.1 (need_some h_u).2.2 k_7 ?_
 intro A0 w_3 k_8
 refine We 1 (.n 10 (sl A0 (Int.toNat r_1.1) (Int.toNat r_1.1)) (.ss .a)) ?_
 refine Wn <| W_seq <| W_seq <| W_reg <| We 1 (.n 27 (I k_) (.kkkk .z)) ?_
 refine WL_op ?_
 have k_9 := k_8.sel (.kk .e)
 obtain ⟨r_2, h_r_2, hm⟩ := ob hm
 refine Op_cz 28 ws_go45 (c_param_rows (F := N0) (O := N0) _ (Cx.refl _) _ h_r_2) ?_
 rintro e_ w_4 ⟨A1, _, c0, rfl, rfl, k_10⟩
 have k_11 := k_9.call k_10
 refine ⟨sl A1 r_2.length c0, rfl, ?_⟩
 refine We 2 (.n 29 (I (r_2.length : Int)) (.n 30 (I 0) (.k (.s .a)))) ?_
 refine Wn <| W_block <| W_lp (m_param_Encode_l0 p_Digest p_Key p_Fanout p_Depth p_Leaf p_Offset p_Xof p_NodeDepth p_Inner p_Salt p_Personal r_1 r_2) (fun s L wr => ∃ (b : List UInt8) (x_0 : Int), (b, x_0) = s ∧ L = [(3, pt g 0), (7, I r_1.1), (9, I r_1.2.2), (10, sl A0 (Int.toNat r_1.1) (Int.toNat r_1.1)), (28, sl A1 r_2.length c0), (29, I (r_2.length : Int)), (30, I x_0)] ∧ Cx F O w wr [Bx 61 g [I p_Digest, I p_Key, I p_Fanout, I p_Depth, .u32 p_Leaf, .u64 p_Offset, .u32 p_Xof, I p_NodeDepth, I p_Inner, sl A_p_Salt p_Salt.length c_p_Salt, sl A_p_Personal p_Personal.length c_p_Personal], Ow e8 A0 (Int.toNat r_1.1) (Int.toNat r_1.1) b, Ow (eP eI (eP eI (eP eI (eP eS eI)))) A1 r_2.length c0 r_2]) (List.replicate (Int.toNat r_1.1) (0 : UInt8), (0 : Int)) r hm ⟨List.replicate (Int.toNat r_1.1) (0 : UInt8), (0 : Int), rfl, rfl, k_11⟩ (by kernel_rfl) ?_
 intro s0_ L_ w_5 y0 hrel hstep hr0
 obtain ⟨b, x_0, rfl, rfl, k_12⟩ := hrel
 have hm := hstep; simp only [m_param_Encode_l0] at hm
 clear hstep
 refine W_seq <| Wq (.n 31 (.b (decide (x_0 < (r_2.length : Int)))) .a) ?_
 refine W_seq <| W_pz (x_0 < (r_2.length : Int)) (fun hc1 => ?_) fun hc1 => ?_
 · rw [if_pos hc1] at hm
   refine W_skip <| At_go <| W_cut (fun L wr => ∃ (b1 : List UInt8), m_param_Encode_j0 x_0 b1 = some y0 ∧ L = [(3, pt g 0), (7, I r_1.1), (9, I r_1.2.2), (10, sl A0 (Int.toNat r_1.1) (Int.toNat r_1.1)), (28, sl A1 r_2.length c0), (29, I (r_2.length : Int)), (30, I x_0)] ∧ Cx F O w wr [Bx 61 g [I p_Digest, I p_Key, I p_Fanout, I p_Depth, .u32 p_Leaf, .u64 p_Offset, .u32 p_Xof, I p_NodeDepth, I p_Inner, sl A_p_Salt p_Salt.length c_p_Salt, sl A_p_Personal p_Personal.length c_p_Personal], Ow e8 A0 (Int.toNat r_1.1) (Int.toNat r_1.1) b1, Ow (eP eI (eP eI (eP eI (eP eS eI)))) A1 r_2.length c0 r_2]) ?_ ?_
   ·
    refine W_cutb (fun L wr => ∃ (b2 : List UInt8), m_param_Encode_j1 x_0 b2 = some y0 ∧ L = [(3, pt g 0), (7, I r_1.1), (9, I r_1.2.2), (10, sl A0 (Int.toNat r_1.1) (Int.toNat r_1.1)), (28, sl A1 r_2.length c0), (29, I (r_2.length : Int)), (30, I x_0)] ∧ Cx F O w wr [Bx 61 g [I p_Digest, I p_Key, I p_Fanout, I p_Depth, .u32 p_Leaf, .u64 p_Offset, .u32 p_Xof, I p_NodeDepth, I p_Inner, sl A_p_Salt p_Salt.length c_p_Salt, sl A_p_Personal p_Personal.length c_p_Personal], Ow e8 A0 (Int.toNat r_1.1) (Int.toNat r_1.1) b2, Ow (eP eI (eP eI (eP eI (eP eS eI)))) A1 r_2.length c0 r_2]) ?_ ?_
    ·
     refine W_seq <| W_reg ?_
     obtain ⟨x_2, zh2, hm⟩ := ob hm
     refine Wl 2 (.n 33 (.agg [I x_2.1, I x_2.2.1, I x_2.2.2.1, .s x_2.2.2.2.1, I x_2.2.2.2.2]) (.s .a)) (qJ (k_12.rd 2 rfl) zh2 (k_12.len 2 rfl) <| qR [I x_2.1, I x_2.2.1, I x_2.2.2.1, .s x_2.2.2.2.1, I x_2.2.2.2.2] (Rd.els (k := 0) (m := 5) (k_12.rd 2 rfl) zh2 (Pt.ix1 A1 x_0 5) rfl (by decide) (by decide)) <| qe) ?_
     refine WL_op <| Op_alloc [] 12 [I 0, I 0, I 0, .s ([] : List UInt8), I 0] (by kernel_rfl) k_12 ?_
     intro g1 w_6 k_13
     refine WL_op <| Op_bz 3 (.agg [I x_2.1, I x_2.2.1, I x_2.2.2.1, .s x_2.2.2.2.1, I x_2.2.2.2.2]) [I x_2.1, I x_2.2.1, I x_2.2.2.1, .s x_2.2.2.2.1, I x_2.2.2.2.2] (Pt.at g1 0) k_13 rfl .all ?_
     intro w_7 k_14
     refine Wn <| W_seq <| W_seq <| Wa (.n 41 (.b ((decide (x_2.1 = 7)) && (decide (p_Xof = 0)))) (.k (.s .a))) (qs g1 0 <| qB k_14 3 rfl 0 (I x_2.1) (by kernel_rfl) <| qp ((decide (x_2.1 = 7)) = true → (some ⟨g, 0, none⟩ : Option Addr).isSome = true) (fun hg0 => rfl) <| qo (.u32 p_Xof) <| qc (fun w => (decide (x_2.1 = 7)) = true → ∃ a, (some ⟨g, 6, none⟩ : Option Addr) = some a ∧ w.cell? a = some (SV.val (.u32 p_Xof))) (fun hg0 => k_14.bld 0 rfl 6 (.u32 p_Xof) (by kernel_rfl)) <| qe) ?_
     refine W_cz ((decide (x_2.1 = 7)) && (decide (p_Xof = 0))) (fun hc2 => ?_) fun hc2 => ?_
     · rw [if_pos hc2] at hm
       refine W_exit (At_te (At_ie ?_))
       have k_15 := k_14.sel (.kk (.k .z))
       exact At_cz ⟨b, hm, rfl, k_15⟩
     rw [if_neg (by rw [hc2]; decide)] at hm
     refine W_skip <| At_go ?_
     have k_16 := k_14.drew 1
     refine W_m ws_mixed (.q 5 0 (.q 0 1 (.q 1 1 (.q 2 1 (.q 3 1 (.q 4 1 (.q 6 1 (.q 7 0 (.op 8 (.op 9 .nil)))))))))) [8, 9] k_16 (.c (.kkkk .e) (.c (.k (.s (.kk .e))) .l)) (by kernel_rfl) (fun _ => ?_)
     refine MXz 1 0 (.n 47 (.agg [I p_Digest, I p_Key, I p_Fanout, I p_Depth, .u32 p_Leaf, .u64 p_Offset, .u32 p_Xof, I p_NodeDepth, I p_Inner, sl A_p_Salt p_Salt.length c_p_Salt, sl A_p_Personal p_Personal.length c_p_Personal]) (.s .a)) (fun x hx => qT hx 0 rfl 0 11 [I p_Digest, I p_Key, I p_Fanout, I p_Depth, .u32 p_Leaf, .u64 p_Offset, .u32 p_Xof, I p_NodeDepth, I p_Inner, sl A_p_Salt p_Salt.length c_p_Salt, sl A_p_Personal p_Personal.length c_p_Personal] (by kernel_rfl) (by decide) <| qe) fun _ => ?_
     refine MXz 6 1 (.n 42 (sl A0 (Int.toNat r_1.1) (Int.toNat r_1.1)) (.n 44 (I x_2.2.1) (.n 46 (I x_2.2.2.1) (.n 48 (pt g1 0) (.k (.s .a)))))) (fun x hx => qs g1 0 <| qB hx 3 rfl 1 (I x_2.2.1) (by kernel_rfl) <| qs g1 0 <| qB hx 3 rfl 2 (I x_2.2.2.1) (by kernel_rfl) <| qs g1 0 <| qe) fun _ => ?_
     refine MXz 1 0 (.n 49 (I x_2.1) (.kkk (.s .a))) (fun x hx => qB hx 3 rfl 0 (I x_2.1) (by kernel_rfl) <| qe) fun _ => ?_
     refine MX_op (by kernel_rfl) rfl ?_
     obtain ⟨r_3, h_r_3, hm⟩ := ob hm
     refine Op_cz 50 ws_go47 (c_param_value (F := N0) (O := N0) _ _ _ _ _ _ _ _ _ _ _ _ _ _ _ _ _ _ (Ro.n0 (h_p_Salt.cx k_16)) rfl hc_p_Salt (Ro.n0 (h_p_Personal.cx k_16)) rfl hc_p_Personal (Cx.refl _) _ h_r_3) ?_
     rintro e_ w_8 ⟨rfl, k_17⟩
     have k_18 := k_16.call k_17
     refine ⟨.u64 r_3, rfl, ?_⟩
     refine ⟨k_18, fun _ => ?_⟩
     refine MX_op (by kernel_rfl) rfl ?_
     obtain ⟨G, hG, k_19⟩ := k_18.openM 1 rfl
     obtain ⟨r_4, h_r_4, hm⟩ := ob hm
     obtain ⟨F1, O1, kin, hO, hre, hF, hb⟩ := k_19.go (.r (.i (.r (.r .e))))
     refine Op_cz 51 ws_go46 (c_param_put (F := F1) (O := O1) _ _ _ _ _ _ _ _ (k_18.lec 1 rfl) kin _ h_r_4) ?_
     rintro e_ w_9 ⟨rfl, k_20⟩
     have k_21 := hb w_9 _ _ k_20 (.c .n)
     refine ⟨.tup [], rfl, ?_⟩
     have k_22 := k_21.shutM hG 0 rfl
     refine ⟨(k_22.sel (.s (.kk (.k .e)))), fun _ => ?_⟩
     refine MX_nil <| At_in ?_
     have k_23 := (((k_22.pk (.t (.t .h))).pk (.t .h)).pk (.t (.t .h))).sel (.kk (.k .z))
     exact At_cz ⟨r_4, hm, rfl, k_23⟩
    rintro L_ w_10 ⟨b2, hm, rfl, k_24⟩
    simp only [m_param_Encode_j1] at hm
    exact At_cz ⟨b2, hm, rfl, k_24⟩
   rintro L_ w_11 ⟨b1, hm, rfl, k_25⟩
   simp only [m_param_Encode_j0] at hm
   refine W_q [] (.n 30 (I (w64 (x_0 + 1))) (.kkkk (.kk .z))) qe (by kernel_rfl) ?_
   exact At_rd (b1, w64 (x_0 + 1)) (Option.some.inj hm).symm ⟨b1, w64 (x_0 + 1), rfl, rfl, k_25⟩ (by kernel_rfl)
 rw [if_neg hc1] at hm
 refine W_exit (At_te (At_te (At_ie ?_)))
 have hm := exit_of hm hr0
 refine At_go <| W_seq ?_
 have k_26 := k_12.drew 1
 refine W_m ws_mixed (.q 0 0 (.q 6 0 (.q 7 0 (.q 1 1 (.q 2 1 (.q 3 1 (.q 4 0 (.q 5 0 (.op 8 .nil))))))))) [8] k_26 (.c (.k (.s (.k .e))) .l) (by kernel_rfl) (fun _ => ?_)
 refine MXz 3 0 (.n 53 (sl A0 (Int.toNat r_1.1) (Int.toNat r_1.1)) (.n 60 (sl A_p_Salt p_Salt.length c_p_Salt) (.s (.kkkk .z)))) (fun x hx => qs g 0 <| qB hx 0 rfl 9 (sl A_p_Salt p_Salt.length c_p_Salt) (by kernel_rfl) <| qe) fun _ => ?_
 refine MXz 3 1 (.n 54 (I r_1.1) (.n 56 (I (w64 (2 * r_1.2.2))) .a)) (fun x hx => qe) fun _ => ?_
 obtain ⟨b3, h_b3, hm⟩ := ob hm
 have hs := slc_some h_b3
 have hl := slc_len h_b3
 have hn : b.length = Int.toNat r_1.1 := (k_26.len 1 rfl)
 have hc3 : Int.toNat r_1.1 ≤ Int.toNat r_1.1 := (k_26.lec 1 rfl)
 obtain ⟨A2, c1, e_, hc4, hA, hc5⟩ := slx A0 (Int.toNat (w64 (r_1.1 - (w64 (2 * r_1.2.2))))) (Int.toNat r_1.1) 1 (Int.toNat r_1.1 - Int.toNat (w64 (r_1.1 - (w64 (2 * r_1.2.2))))) b3.length (by omega) (by omega)
 refine MXz 2 0 (.n 58 (sl A2 b3.length c1) (.sss .a)) (fun x hx => qp (0 ≤ w64 (r_1.1 - (w64 (2 * r_1.2.2))) ∧ w64 (r_1.1 - (w64 (2 * r_1.2.2))) ≤ ((Int.toNat r_1.1 : Nat) : Int)) (by omega) <| qo (.v (.slice A2 b3.length c1)) <| qp (Value.slice (slA A0 (Int.toNat (w64 (r_1.1 - (w64 (2 * r_1.2.2))))) (Int.toNat r_1.1) 1) (Int.toNat r_1.1 - Int.toNat (w64 (r_1.1 - (w64 (2 * r_1.2.2))))) (Int.toNat r_1.1 - Int.toNat (w64 (r_1.1 - (w64 (2 * r_1.2.2))))) = .slice A2 b3.length c1) e_ <| qe) fun _ => ?_
 refine MX_op (by kernel_rfl) rfl <| Op_ocp (E := e8) (dn := b3.length) (dc := c1) (v := sl A_p_Salt p_Salt.length c_p_Salt) (src := p_Salt) (lo := Int.toNat (w64 (r_1.1 - (w64 (2 * r_1.2.2))))) (m' := Int.toNat r_1.1) ws_tf23 [] 61 1 (by kernel_rfl) hA rfl (by omega) k_26 rfl (Src.sl (h_p_Salt.cx k_26) rfl (by rfl)) rfl (by have := k_26.len 1 rfl; omega) ?_
 intro w_12 k_27
 refine ⟨(k_27.sel (.k (.s (.k .e)))), fun _ => ?_⟩
 refine MX_nil <| At_go <| W_seq ?_
 have k_28 := k_27.drew 1
 refine W_m ws_mixed (.q 0 0 (.q 5 0 (.q 6 0 (.q 1 1 (.q 2 1 (.q 3 0 (.q 4 0 (.op 7 .nil)))))))) [7] k_28 (.c (.k (.s (.k .e))) .l) (by kernel_rfl) (fun _ => ?_)
 refine MXz 3 0 (.n 62 (sl A0 (Int.toNat r_1.1) (Int.toNat r_1.1)) (.n 68 (sl A_p_Personal p_Personal.length c_p_Personal) (.ssss .a))) (fun x hx => qs g 0 <| qB hx 0 rfl 10 (sl A_p_Personal p_Personal.length c_p_Personal) (by kernel_rfl) <| qe) fun _ => ?_
 refine MXz 2 1 (.n 63 (I r_1.1) (.n 64 (I r_1.2.2) (.kk (.ss .a)))) (fun x hx => qe) fun _ => ?_
 obtain ⟨b4, h_b4, hm⟩ := ob hm
 have hs1 := slc_some h_b4
 have hl1 := slc_len h_b4
 have hn1 : (lcp b (Int.toNat (w64 (r_1.1 - (w64 (2 * r_1.2.2))))) b3.length p_Salt).length = Int.toNat r_1.1 := (k_28.len 1 rfl)
 have hc6 : Int.toNat r_1.1 ≤ Int.toNat r_1.1 := (k_28.lec 1 rfl)
 obtain ⟨A3, c2, e_1, hc7, hA1, hc8⟩ := slx A0 (Int.toNat (w64 (r_1.1 - r_1.2.2))) (Int.toNat r_1.1) 1 (Int.toNat r_1.1 - Int.toNat (w64 (r_1.1 - r_1.2.2))) b4.length (by omega) (by omega)
 refine MXz 2 0 (.n 66 (sl A3 b4.length c2) (.sss .a)) (fun x hx => qp (0 ≤ w64 (r_1.1 - r_1.2.2) ∧ w64 (r_1.1 - r_1.2.2) ≤ ((Int.toNat r_1.1 : Nat) : Int)) (by omega) <| qo (.v (.slice A3 b4.length c2)) <| qp (Value.slice (slA A0 (Int.toNat (w64 (r_1.1 - r_1.2.2))) (Int.toNat r_1.1) 1) (Int.toNat r_1.1 - Int.toNat (w64 (r_1.1 - r_1.2.2))) (Int.toNat r_1.1 - Int.toNat (w64 (r_1.1 - r_1.2.2))) = .slice A3 b4.length c2) e_1 <| qe) fun _ => ?_
 refine MX_op (by kernel_rfl) rfl <| Op_ocp (E := e8) (dn := b4.length) (dc := c2) (v := sl A_p_Personal p_Personal.length c_p_Personal) (src := p_Personal) (lo := Int.toNat (w64 (r_1.1 - r_1.2.2))) (m' := Int.toNat r_1.1) ws_tf23 [] 69 1 (by kernel_rfl) hA1 rfl (by omega) k_28 rfl (Src.sl (h_p_Personal.cx k_28) rfl (by rfl)) rfl (by have := k_28.len 1 rfl; omega) ?_
 intro w_13 k_29
 refine ⟨(k_29.sel (.k (.s (.k .e)))), fun _ => ?_⟩
 refine MX_nil <| At_go <| W_seq <| Wq (.n 4 (sl A0 (Int.toNat r_1.1) (Int.toNat r_1.1)) (.n 5 (I 0) .z)) ?_
 refine W_ret ?_
 obtain rfl := si hm
 refine At_rz [sl A0 (Int.toNat r_1.1) (Int.toNat r_1.1), I 0] qe ?_
 have k_30 := k_29.sel (.s (.k .z))
 exact ⟨A0, Int.toNat r_1.1, Int.toNat r_1.1, k_30.len 0 rfl, rfl, k_30⟩
theorem c_mixb_IV (k : Cx F O w w []) (r : (Vec UInt64 8)) (hm : m_mixb_IV = some r) :
    Calls Try.prog 68 (vals []) w (fun e w' => e = .returned (SV.val (.agg [.ar e64 r])) ∧ Cx F O w w' []) := by
 unfold m_mixb_IV at hm
 refine calz [] Try.func68 rfl ?_
 refine W_seq <| W_reg <| WL_op <| Op_alloc [] 0 [.ar e64 (Vec.rep 8 (0 : UInt64))] (by kernel_rfl) k ?_
 intro g w_ k_
 refine Wn <| W_seq <| W_reg <| We 1 (.n 1 (.agg [.ar e64 (⟨[(7640891576956012808 : UInt64), (13503953896175478587 : UInt64), (4354685564936845355 : UInt64), (11912009170470909681 : UInt64), (5840696475078001361 : UInt64), (11170449401992604703 : UInt64), (2270897969802886507 : UInt64), (6620516959819538809 : UInt64)], rfl⟩ : Vec UInt64 8)]) .a) ?_
 refine WL_op <| Op_bz 0 (.agg [.ar e64 (⟨[(7640891576956012808 : UInt64), (13503953896175478587 : UInt64), (4354685564936845355 : UInt64), (11912009170470909681 : UInt64), (5840696475078001361 : UInt64), (11170449401992604703 : UInt64), (2270897969802886507 : UInt64), (6620516959819538809 : UInt64)], rfl⟩ : Vec UInt64 8)]) [.ar e64 (⟨[(7640891576956012808 : UInt64), (13503953896175478587 : UInt64), (4354685564936845355 : UInt64), (11912009170470909681 : UInt64), (5840696475078001361 : UInt64), (11170449401992604703 : UInt64), (2270897969802886507 : UInt64), (6620516959819538809 : UInt64)], rfl⟩ : Vec UInt64 8)] (Pt.at g 0) k_ rfl .all ?_
 intro w_1 k_1
 refine Wn <| W_ret ?_
 obtain rfl := si hm
 refine At_rz [.agg [.ar e64 (⟨[(7640891576956012808 : UInt64), (13503953896175478587 : UInt64), (4354685564936845355 : UInt64), (11912009170470909681 : UInt64), (5840696475078001361 : UInt64), (11170449401992604703 : UInt64), (2270897969802886507 : UInt64), (6620516959819538809 : UInt64)], rfl⟩ : Vec UInt64 8)]] (qo (.agg [.ar e64 (⟨[(7640891576956012808 : UInt64), (13503953896175478587 : UInt64), (4354685564936845355 : UInt64), (11912009170470909681 : UInt64), (5840696475078001361 : UInt64), (11170449401992604703 : UInt64), (2270897969802886507 : UInt64), (6620516959819538809 : UInt64)], rfl⟩ : Vec UInt64 8)]) <| qc (fun w => Rd w (some ⟨g, 0, none⟩) (SV.cl [.ar e64 (⟨[(7640891576956012808 : UInt64), (13503953896175478587 : UInt64), (4354685564936845355 : UInt64), (11912009170470909681 : UInt64), (5840696475078001361 : UInt64), (11170449401992604703 : UInt64), (2270897969802886507 : UInt64), (6620516959819538809 : UInt64)], rfl⟩ : Vec UInt64 8)])) (k_1.brd 0 rfl) <| qe) ?_
 have k_2 := k_1.sel .z
 exact ⟨rfl, k_2⟩
theorem c_word_load (b : List UInt8) (at_ : Int) (n : Int) (A_b : Option Addr) (n_b : Nat) (c_b : Nat) (h_b : Ro F w A_b (e8.all b)) (hn_b : b.length = n_b) (hc_b : n_b ≤ c_b) (k : Cx F O w w []) (r : (UInt64 × Int)) (hm : m_word_load b at_ n = some r) :
    Calls Try.prog 78 (vals [sl A_b n_b c_b, I at_, I n]) w (fun e w' => e = .returned (SV.val (.tup [.u64 r.1, I r.2])) ∧ Cx F O w w' []) := by
 unfold m_word_load at hm
 subst hn_b
 refine calz [sl A_b b.length c_b, I at_, I n] Try.func78 rfl ?_
 refine W_seq <| Wq .a ?_
 refine W_seq <| W_seq <| Wq (.n 11 (.b (decide (at_ < 0))) .a) ?_
 refine W_pz (at_ < 0) (fun hc => ?_) fun hc => ?_
 · rw [if_pos hc] at hm
   refine W_seq <| Wq (.n 6 (.u64 0) (.n 7 (I 1) .z)) ?_
   refine W_ret (At_tr ?_)
   obtain rfl := si hm
   refine At_rz [.u64 0, I 1] qe ?_
   exact ⟨rfl, k⟩
 rw [if_neg hc] at hm
 refine W_skip <| At_go <| W_seq <| W_seq <| Wq (.n 23 (.b ((decide ((b.length : Int) < at_)) || (decide ((w64 ((b.length : Int) - at_)) < n)))) (.s .a)) ?_
 refine W_cz ((decide ((b.length : Int) < at_)) || (decide ((w64 ((b.length : Int) - at_)) < n))) (fun hc1 => ?_) fun hc1 => ?_
 · rw [if_pos hc1] at hm
   refine W_seq <| Wq (.n 6 (.u64 0) (.n 7 (I 3) .z)) ?_
   refine W_ret (At_tr ?_)
   obtain rfl := si hm
   refine At_rz [.u64 0, I 3] qe ?_
   exact ⟨rfl, k⟩
 rw [if_neg (by rw [hc1]; decide)] at hm
 refine W_skip <| At_go <| W_seq <| Wq (.n 8 (.u64 0) (.s .a)) ?_
 refine W_seq <| W_seq <| Wq (.n 24 (I n) (.n 25 (I 0) (.kkk .z))) ?_
 refine W_block <| W_lp (m_word_load_l0 b at_ n) (fun s L wr => ∃ (w_ : UInt64) (x_0 : Int), (w_, x_0) = s ∧ L = [(0, sl A_b b.length c_b), (1, I at_), (8, .u64 w_), (24, I n), (25, I x_0)] ∧ Cx F O w wr []) ((0 : UInt64), (0 : Int)) r hm ⟨(0 : UInt64), (0 : Int), rfl, rfl, k⟩ (by kernel_rfl) ?_
 intro s0_ L_ w_1 y0 hrel hstep hr0
 obtain ⟨w_, x_0, rfl, rfl, k_⟩ := hrel
 have hm := hstep; simp only [m_word_load_l0] at hm
 clear hstep
 refine W_seq <| Wq (.n 26 (.b (decide (x_0 < n))) .a) ?_
 refine W_seq <| W_pz (x_0 < n) (fun hc2 => ?_) fun hc2 => ?_
 · rw [if_pos hc2] at hm
   refine W_skip <| At_go <| W_seq <| W_block <| W_seq <| W_q [] (.n 9 (I x_0) (.s .a)) qe (by kernel_rfl) ?_
   refine At_go ?_
   obtain ⟨x_2, zh2, hm⟩ := ob hm
   obtain ⟨u, h_u, hm⟩ := ob hm
   refine W_q [] (.n 8 (.u64 (w_ ||| (shl64 (UInt64.ofNat x_2.toNat) (Int.toNat (w64 (8 * x_0)))))) (.s (.kk (.s .a)))) (qW (h_b.cx k_) zh2 rfl (.u8 x_2) rfl <| qp (0 ≤ w64 (8 * x_0)) (need_some h_u) <| qe) (by kernel_rfl) ?_
   refine At_in <| At_go <| W_q [] (.n 25 (I (w64 (x_0 + 1))) (.kkkk .z)) qe (by kernel_rfl) ?_
   exact At_rd (w_ ||| (shl64 (UInt64.ofNat x_2.toNat) (Int.toNat (w64 (8 * x_0)))), w64 (x_0 + 1)) (Option.some.inj hm).symm ⟨w_ ||| (shl64 (UInt64.ofNat x_2.toNat) (Int.toNat (w64 (8 * x_0)))), w64 (x_0 + 1), rfl, rfl, k_⟩ (by kernel_rfl)
 rw [if_neg hc2] at hm
 refine W_exit (At_te (At_te (At_ie ?_)))
 have hm := exit_of hm hr0
 refine At_go <| W_seq <| Wq (.n 6 (.u64 w_) (.n 7 (I 0) .z)) ?_
 refine W_ret ?_
 obtain rfl := si hm
 refine At_rz [.u64 w_, I 0] qe ?_
 exact ⟨rfl, k_⟩
theorem c_word_Load64 (b : List UInt8) (at_ : Int) (A_b : Option Addr) (n_b : Nat) (c_b : Nat) (h_b : Ro F w A_b (e8.all b)) (hn_b : b.length = n_b) (hc_b : n_b ≤ c_b) (k : Cx F O w w []) (r : (UInt64 × Int)) (hm : m_word_Load64 b at_ = some r) :
    Calls Try.prog 69 (vals [sl A_b n_b c_b, I at_]) w (fun e w' => e = .returned (SV.val (.tup [.u64 r.1, I r.2])) ∧ Cx F O w w' []) := by
 unfold m_word_Load64 at hm
 subst hn_b
 refine calz [sl A_b b.length c_b, I at_] Try.func69 rfl ?_
 refine W_seq <| Wq .a ?_
 refine W_seq <| W_reg <| We 2 (.n 6 (sl A_b b.length c_b) (.n 7 (I at_) .z)) ?_
 refine WL_op ?_
 obtain ⟨r_, h_r_, hm⟩ := ob hm
 refine Op_cz 8 ws_go78 (c_word_load (F := N0) (O := N0) _ _ _ _ _ _ (Ro.n0 (h_b.cx k)) rfl hc_b (Cx.refl _) _ h_r_) ?_
 rintro e_ w_ ⟨rfl, k_⟩
 have k_1 := k.call k_
 refine ⟨.tup [.u64 r_.1, I r_.2], rfl, ?_⟩
 refine We 4 (.n 4 (.u64 r_.1) (.n 5 (I r_.2) .z)) ?_
 refine Wn <| W_ret ?_
 obtain rfl := si hm
 refine At_rz [.u64 r_.1, I r_.2] qe ?_
 exact ⟨rfl, k_1⟩
theorem c_mixb_Start (block : List UInt8) (A_block : Option Addr) (n_block : Nat) (c_block : Nat) (h_block : Ro F w A_block (e8.all block)) (hn_block : block.length = n_block) (hc_block : n_block ≤ c_block) (k : Cx F O w w []) (r : (Vec UInt64 8 × Int)) (hm : m_mixb_Start block = some r) :
    Calls Try.prog 61 (vals [sl A_block n_block c_block]) w (fun e w' => e = .returned (SV.val (.tup [.agg [.ar e64 r.1], I r.2])) ∧ Cx F O w w' []) := by
 unfold m_mixb_Start at hm
 subst hn_block
 refine calz [sl A_block block.length c_block] Try.func61 rfl ?_
 refine W_seq <| W_reg <| WL_op <| Op_alloc [] 2 [.ar e64 (Vec.rep 8 (0 : UInt64))] (by kernel_rfl) k ?_
 intro g w_ k_
 refine We 1 .a ?_
 refine Wn <| W_seq <| W_seq <| Wq (.n 10 (.b (decide ((block.length : Int) ≠ 64))) .a) ?_
 refine W_pz ((block.length : Int) ≠ 64) (fun hc => ?_) fun hc => ?_
 · rw [if_pos hc] at hm
   refine W_seq <| W_reg <| We 1 (.n 11 (.agg [.ar e64 (Vec.rep 8 ((0 : UInt64) : UInt64))]) (.s (.k .z))) ?_
   refine WL_op <| Op_bz 0 (.agg [.ar e64 (Vec.rep 8 ((0 : UInt64) : UInt64))]) [.ar e64 (Vec.rep 8 ((0 : UInt64) : UInt64))] (Pt.at g 0) k_ rfl .all ?_
   intro w_1 k_1
   refine We 1 (.n 3 (I 1) (.s .a)) ?_
   refine Wn <| W_ret (At_tr ?_)
   obtain rfl := si hm
   refine At_rz [.agg [.ar e64 (Vec.rep 8 ((0 : UInt64) : UInt64))], I 1] (qo (.agg [.ar e64 (Vec.rep 8 ((0 : UInt64) : UInt64))]) <| qc (fun w => Rd w (some ⟨g, 0, none⟩) (SV.cl [.ar e64 (Vec.rep 8 ((0 : UInt64) : UInt64))])) (k_1.brd 0 rfl) <| qe) ?_
   have k_2 := k_1.sel .z
   exact ⟨rfl, k_2⟩
 rw [if_neg hc] at hm
 refine W_skip <| At_go <| W_seq <| W_reg <| WL_op ?_
 obtain ⟨r_, h_r_, hm⟩ := ob hm
 refine Op_cz 12 ws_go68 (c_mixb_IV (F := N0) (O := N0)  (Cx.refl _) _ h_r_) ?_
 rintro e_ w_2 ⟨rfl, k_3⟩
 have k_4 := k_.call k_3
 refine ⟨.agg [.ar e64 r_], rfl, ?_⟩
 refine WL_op <| Op_alloc [] 4 [.ar e64 (Vec.rep 8 (0 : UInt64))] (by kernel_rfl) k_4 ?_
 intro g1 w_3 k_5
 refine WL_op <| Op_bz 1 (.agg [.ar e64 r_]) [.ar e64 r_] (Pt.at g1 0) k_5 rfl .all ?_
 intro w_4 k_6
 refine Wn <| W_seq <| W_seq <| Wq (.n 13 (I 0) (.k (.ss .a))) ?_
 refine W_block <| W_lp (m_mixb_Start_l0 block) (fun s L wr => ∃ (h : Vec UInt64 8) (x_0 : Int), (h, x_0) = s ∧ L = [(0, sl A_block block.length c_block), (2, pt g 0), (4, pt g1 0), (13, I x_0)] ∧ Cx F O w wr [Bx 111 g [.ar e64 (Vec.rep 8 (0 : UInt64))], Bx 111 g1 [.ar e64 h]]) (r_, (0 : Int)) r hm ⟨r_, (0 : Int), rfl, rfl, k_6⟩ (by kernel_rfl) ?_
 intro s0_ L_ w_5 y0 hrel hstep hr0
 obtain ⟨h, x_0, rfl, rfl, k_7⟩ := hrel
 have hm := hstep; simp only [m_mixb_Start_l0] at hm
 clear hstep
 refine W_seq <| Wq (.n 14 (.b (decide (x_0 < 8))) .a) ?_
 refine W_seq <| W_pz (x_0 < 8) (fun hc1 => ?_) fun hc1 => ?_
 · rw [if_pos hc1] at hm
   refine W_skip <| At_go <| W_seq <| W_block <| W_seq <| Wq (.n 5 (I x_0) (.s .a)) ?_
   refine W_seq <| W_reg <| We 3 (.n 17 (sl A_block block.length c_block) (.n 19 (I (w64 (8 * x_0))) .a)) ?_
   refine WL_op ?_
   obtain ⟨r_1, h_r_1, hm⟩ := ob hm
   refine Op_cz 20 ws_go69 (c_word_Load64 (F := N0) (O := N0) _ _ _ _ _ (Ro.n0 (h_block.cx k_7)) rfl hc_block (Cx.refl _) _ h_r_1) ?_
   rintro e_ w_6 ⟨rfl, k_8⟩
   have k_9 := k_7.call k_8
   refine ⟨.tup [.u64 r_1.1, I r_1.2], rfl, ?_⟩
   refine We 5 (.n 6 (.u64 r_1.1) (.sss .a)) ?_
   refine Wn <| W_reg ?_
   obtain ⟨x_2, zh2, hm⟩ := ob hm
   obtain ⟨x_3, zh3, hm⟩ := ob hm
   refine Wl 6 (.n 27 (.u64 (x_2 ^^^ r_1.1)) (.n 28 (.v (.pointer (ixA (some ⟨g1, 0, none⟩) x_0 1))) (.ss .a))) (qV (k_9.vrd 1 rfl e64 h 0 (by kernel_rfl)) zh2 rfl (.u64 x_2) rfl <| qI g1 0 zh3 <| qe) ?_
   refine WL_op ?_
   obtain ⟨v, h_v, hm⟩ := nm hm
   refine Op_vz 1 (.u64 (x_2 ^^^ r_1.1)) [.u64 (x_2 ^^^ r_1.1)] h_v zh3 (Pt.ix0 (Pt.at g1 0) x_0 1) k_9 rfl .h rfl ?_
   intro w_7 k_10
   refine WL_nil <| At_in <| At_go <| W_q [] (.n 13 (I (w64 (x_0 + 1))) (.ss (.kkk .z))) qe (by kernel_rfl) ?_
   exact At_rd (v, w64 (x_0 + 1)) (Option.some.inj hm).symm ⟨v, w64 (x_0 + 1), rfl, rfl, k_10⟩ (by kernel_rfl)
 rw [if_neg hc1] at hm
 refine W_exit (At_te (At_te (At_ie ?_)))
 have hm := exit_of hm hr0
 refine At_go <| W_seq <| W_reg <| Wl 1 (.n 30 (.agg [.ar e64 h]) (.ss (.k .z))) (qT k_7 1 rfl 0 8 [.ar e64 h] (by kernel_rfl) (by decide) <| qe) ?_
 refine WL_op <| Op_bz 0 (.agg [.ar e64 h]) [.ar e64 h] (Pt.at g 0) k_7 rfl .all ?_
 intro w_8 k_11
 have k_12 := k_11.sel (.k .z)
 refine We 1 (.n 3 (I 0) (.s .a)) ?_
 refine Wn <| W_ret ?_
 obtain rfl := si hm
 refine At_rz [.agg [.ar e64 h], I 0] (qo (.agg [.ar e64 h]) <| qc (fun w => Rd w (some ⟨g, 0, none⟩) (SV.cl [.ar e64 h])) (k_12.brd 0 rfl) <| qe) ?_
 have k_13 := k_12.sel .z
 exact ⟨rfl, k_13⟩
theorem c_mixs_right (b : List UInt8) (n : Int) (A_b : Option Addr) (n_b : Nat) (c_b : Nat) (h_b : Ro F w A_b (e8.all b)) (hn_b : b.length = n_b) (hc_b : n_b ≤ c_b) (k : Cx F O w w []) (r : Int) (hm : m_mixs_right b n = some r) :
    Calls Try.prog 73 (vals [sl A_b n_b c_b, I n]) w (fun e w' => e = .returned (SV.val (I r)) ∧ Cx F O w w' []) := by
 unfold m_mixs_right at hm
 subst hn_b
 refine calz [sl A_b b.length c_b, I n] Try.func73 rfl ?_
 refine W_seq <| Wq .a ?_
 refine W_seq <| W_block <| W_seq <| Wq (.n 5 (.b (decide ((b.length : Int) < n))) .a) ?_
 refine W_pz ((b.length : Int) < n) (fun hc => ?_) fun hc => ?_
 · rw [if_pos hc] at hm
   refine W_seq <| Wq (.n 4 (I 3) .z) ?_
   refine W_ret (At_ir (At_tr ?_))
   obtain rfl := si hm
   refine At_rz [I 3] qe ?_
   exact ⟨rfl, k⟩
 rw [if_neg hc] at hm
 refine W_seq <| Wq (.n 10 (.b (decide (n < (b.length : Int)))) .z) ?_
 refine W_pz (n < (b.length : Int)) (fun hc1 => ?_) fun hc1 => ?_
 · rw [if_pos hc1] at hm
   refine W_seq <| Wq (.n 4 (I 2) .z) ?_
   refine W_ret (At_ir (At_tr ?_))
   obtain rfl := si hm
   refine At_rz [I 2] qe ?_
   exact ⟨rfl, k⟩
 rw [if_neg hc1] at hm
 refine W_skip <| At_in <| At_go <| W_seq <| Wq (.n 4 (I 0) .z) ?_
 refine W_ret ?_
 obtain rfl := si hm
 refine At_rz [I 0] qe ?_
 exact ⟨rfl, k⟩
theorem c_word_Load32 (b : List UInt8) (at_ : Int) (A_b : Option Addr) (n_b : Nat) (c_b : Nat) (h_b : Ro F w A_b (e8.all b)) (hn_b : b.length = n_b) (hc_b : n_b ≤ c_b) (k : Cx F O w w []) (r : (UInt32 × Int)) (hm : m_word_Load32 b at_ = some r) :
    Calls Try.prog 81 (vals [sl A_b n_b c_b, I at_]) w (fun e w' => e = .returned (SV.val (.tup [.u32 r.1, I r.2])) ∧ Cx F O w w' []) := by
 unfold m_word_Load32 at hm
 subst hn_b
 refine calz [sl A_b b.length c_b, I at_] Try.func81 rfl ?_
 refine W_seq <| Wq .a ?_
 refine W_seq <| W_reg <| We 2 (.n 9 (sl A_b b.length c_b) (.n 10 (I at_) .z)) ?_
 refine WL_op ?_
 obtain ⟨r_, h_r_, hm⟩ := ob hm
 refine Op_cz 11 ws_go78 (c_word_load (F := N0) (O := N0) _ _ _ _ _ _ (Ro.n0 (h_b.cx k)) rfl hc_b (Cx.refl _) _ h_r_) ?_
 rintro e_ w_ ⟨rfl, k_⟩
 have k_1 := k.call k_
 refine ⟨.tup [.u64 r_.1, I r_.2], rfl, ?_⟩
 refine We 5 (.n 6 (.u64 r_.1) (.n 7 (I r_.2) .z)) ?_
 refine Wn <| W_seq <| Wq (.n 4 (.u32 (UInt32.ofNat r_.1.toNat)) (.n 5 (I r_.2) .z)) ?_
 refine W_ret ?_
 obtain rfl := si hm
 refine At_rz [.u32 (UInt32.ofNat r_.1.toNat), I r_.2] qe ?_
 exact ⟨rfl, k_1⟩
theorem c_mixs_words (m_ : List UInt32) (b : List UInt8) (A_m_ : Option Addr) (n_m_ : Nat) (c_m_ : Nat) (G_m_ : Win) (A_b : Option Addr) (n_b : Nat) (c_b : Nat) (hc_m_ : n_m_ ≤ c_m_) (h_b : Ro F w A_b (e8.all b)) (hn_b : b.length = n_b) (hc_b : n_b ≤ c_b) (k : Cx F O w w [Mw e32 A_m_ n_m_ m_ G_m_]) (r : (List UInt32)) (hm : m_mixs_words m_ b = some r) :
    Calls Try.prog 74 (vals [sl A_m_ n_m_ c_m_, sl A_b n_b c_b]) w (fun e w' => e = .returned (SV.val (.tup [])) ∧ Cx F O w w' [Mw e32 A_m_ n_m_ r G_m_]) := by
 unfold m_mixs_words at hm
 obtain rfl := k.mlen 0 rfl
 subst hn_b
 refine calz [sl A_m_ m_.length c_m_, sl A_b b.length c_b] Try.func74 rfl ?_
 refine W_seq <| Wq (.n 6 (I (m_.length : Int)) (.n 7 (I 0) .a)) ?_
 refine W_block <| W_lp (m_mixs_words_l0 m_ b) (fun s L wr => ∃ (m_1 : List UInt32) (x_0 : Int), (m_1, x_0) = s ∧ L = [(0, sl A_m_ m_.length c_m_), (1, sl A_b b.length c_b), (6, I (m_.length : Int)), (7, I x_0)] ∧ Cx F O w wr [Mw e32 A_m_ m_.length m_1 G_m_]) (m_, (0 : Int)) r hm ⟨m_, (0 : Int), rfl, rfl, k⟩ (by kernel_rfl) ?_
 intro s0_ L_ w_ y0 hrel hstep hr0
 obtain ⟨m_1, x_0, rfl, rfl, k_⟩ := hrel
 have hm := hstep; simp only [m_mixs_words_l0] at hm
 clear hstep
 refine W_seq <| Wq (.n 8 (.b (decide (x_0 < (m_.length : Int)))) .a) ?_
 refine W_seq <| W_pz (x_0 < (m_.length : Int)) (fun hc => ?_) fun hc => ?_
 · rw [if_pos hc] at hm
   refine W_skip <| At_go <| W_seq <| W_block <| W_seq <| Wq (.n 4 (I x_0) (.s .a)) ?_
   refine W_reg <| We 5 (.n 11 (sl A_m_ m_.length c_m_) (.n 12 (I x_0) (.n 13 (sl A_b b.length c_b) (.n 15 (I (w64 (4 * x_0))) (.s .a))))) ?_
   refine WL_op ?_
   obtain ⟨r_, h_r_, hm⟩ := ob hm
   refine Op_cz 16 ws_go81 (c_word_Load32 (F := N0) (O := N0) _ _ _ _ _ (Ro.n0 (h_b.cx k_)) rfl hc_b (Cx.refl _) _ h_r_) ?_
   rintro e_ w_1 ⟨rfl, k_1⟩
   have k_2 := k_.call k_1
   refine ⟨.tup [.u32 r_.1, I r_.2], rfl, ?_⟩
   obtain ⟨x_1, zh1, hm⟩ := ob hm
   refine Wl 4 (.n 17 (.u32 r_.1) (.n 19 (.v (.pointer (ixA A_m_ x_0 1))) (.ssss (.s .a)))) (qJ (k_2.mrd 0 rfl) zh1 (k_2.mlen 0 rfl) <| qe) ?_
   refine WL_op <| Op_mst (E := e32) (kk := 0) (sv := .u32 r_.1) (svs := [.u32 r_.1]) [] 0 r_.1 (by kernel_rfl) (Pt.ix1 A_m_ x_0 1) k_2 rfl (geti_some zh1).2 (E_ix (E := e32) (k_2.mrd 0 rfl) (by decide) (geti_lt zh1).1 (geti_some zh1).2) rfl (Nat.le_of_ble_eq_true (by kernel_rfl)) ?_
   intro w_2 k_3
   refine WL_nil <| At_in <| At_go <| W_q [] (.n 7 (I (w64 (x_0 + 1))) (.ss (.kkk .z))) qe (by kernel_rfl) ?_
   exact At_rd (m_1.set (Int.toNat x_0) r_.1, w64 (x_0 + 1)) (Option.some.inj hm).symm ⟨m_1.set (Int.toNat x_0) r_.1, w64 (x_0 + 1), rfl, rfl, k_3⟩ (by kernel_rfl)
 rw [if_neg hc] at hm
 refine W_exit (At_te (At_te (At_ie ?_)))
 have hm := exit_of hm hr0
 obtain rfl := si hm
 refine At_en [] qe (by kernel_rfl) ?_
 exact ⟨rfl, k_⟩
theorem c_mixs_IV (k : Cx F O w w []) (r : (Vec UInt32 8)) (hm : m_mixs_IV = some r) :
    Calls Try.prog 75 (vals []) w (fun e w' => e = .returned (SV.val (.agg [.ar e32 r])) ∧ Cx F O w w' []) := by
 unfold m_mixs_IV at hm
 refine calz [] Try.func75 rfl ?_
 refine W_seq <| W_reg <| WL_op <| Op_alloc [] 0 [.ar e32 (Vec.rep 8 (0 : UInt32))] (by kernel_rfl) k ?_
 intro g w_ k_
 refine Wn <| W_seq <| W_reg <| We 1 (.n 1 (.agg [.ar e32 (⟨[(1779033703 : UInt32), (3144134277 : UInt32), (1013904242 : UInt32), (2773480762 : UInt32), (1359893119 : UInt32), (2600822924 : UInt32), (528734635 : UInt32), (1541459225 : UInt32)], rfl⟩ : Vec UInt32 8)]) .a) ?_
 refine WL_op <| Op_bz 0 (.agg [.ar e32 (⟨[(1779033703 : UInt32), (3144134277 : UInt32), (1013904242 : UInt32), (2773480762 : UInt32), (1359893119 : UInt32), (2600822924 : UInt32), (528734635 : UInt32), (1541459225 : UInt32)], rfl⟩ : Vec UInt32 8)]) [.ar e32 (⟨[(1779033703 : UInt32), (3144134277 : UInt32), (1013904242 : UInt32), (2773480762 : UInt32), (1359893119 : UInt32), (2600822924 : UInt32), (528734635 : UInt32), (1541459225 : UInt32)], rfl⟩ : Vec UInt32 8)] (Pt.at g 0) k_ rfl .all ?_
 intro w_1 k_1
 refine Wn <| W_ret ?_
 obtain rfl := si hm
 refine At_rz [.agg [.ar e32 (⟨[(1779033703 : UInt32), (3144134277 : UInt32), (1013904242 : UInt32), (2773480762 : UInt32), (1359893119 : UInt32), (2600822924 : UInt32), (528734635 : UInt32), (1541459225 : UInt32)], rfl⟩ : Vec UInt32 8)]] (qo (.agg [.ar e32 (⟨[(1779033703 : UInt32), (3144134277 : UInt32), (1013904242 : UInt32), (2773480762 : UInt32), (1359893119 : UInt32), (2600822924 : UInt32), (528734635 : UInt32), (1541459225 : UInt32)], rfl⟩ : Vec UInt32 8)]) <| qc (fun w => Rd w (some ⟨g, 0, none⟩) (SV.cl [.ar e32 (⟨[(1779033703 : UInt32), (3144134277 : UInt32), (1013904242 : UInt32), (2773480762 : UInt32), (1359893119 : UInt32), (2600822924 : UInt32), (528734635 : UInt32), (1541459225 : UInt32)], rfl⟩ : Vec UInt32 8)])) (k_1.brd 0 rfl) <| qe) ?_
 have k_2 := k_1.sel .z
 exact ⟨rfl, k_2⟩
theorem c_mixs_Start (block : List UInt8) (A_block : Option Addr) (n_block : Nat) (c_block : Nat) (h_block : Ro F w A_block (e8.all block)) (hn_block : block.length = n_block) (hc_block : n_block ≤ c_block) (k : Cx F O w w []) (r : (Vec UInt32 8 × Int)) (hm : m_mixs_Start block = some r) :
    Calls Try.prog 64 (vals [sl A_block n_block c_block]) w (fun e w' => e = .returned (SV.val (.tup [.agg [.ar e32 r.1], I r.2])) ∧ Cx F O w w' []) := by
 unfold m_mixs_Start at hm
 subst hn_block
 refine calz [sl A_block block.length c_block] Try.func64 rfl ?_
 refine W_seq <| W_reg <| WL_op <| Op_alloc [] 2 [.ar e32 (Vec.rep 8 (0 : UInt32))] (by kernel_rfl) k ?_
 intro g w_ k_
 refine We 1 .a ?_
 refine Wn <| W_seq <| W_seq <| W_reg <| We 1 (.n 8 (sl A_block block.length c_block) .a) ?_
 refine WL_op ?_
 obtain ⟨r_, h_r_, hm⟩ := ob hm
 refine Op_cz 9 ws_go73 (c_mixs_right (F := N0) (O := N0) _ _ _ _ _ (Ro.n0 (h_block.cx k_)) rfl hc_block (Cx.refl _) _ h_r_) ?_
 rintro e_ w_1 ⟨rfl, k_1⟩
 have k_2 := k_.call k_1
 refine ⟨I r_, rfl, ?_⟩
 refine We 1 (.n 4 (I r_) (.ss .a)) ?_
 refine Wn <| W_seq <| Wq (.n 11 (.b (decide (r_ ≠ 0))) .a) ?_
 refine W_pz (r_ ≠ 0) (fun hc => ?_) fun hc => ?_
 · rw [if_pos hc] at hm
   refine W_seq <| W_reg <| We 2 (.n 12 (.agg [.ar e32 (Vec.rep 8 ((0 : UInt32) : UInt32))]) (.n 13 (I r_) (.ss (.k .z)))) ?_
   refine WL_op <| Op_bz 0 (.agg [.ar e32 (Vec.rep 8 ((0 : UInt32) : UInt32))]) [.ar e32 (Vec.rep 8 ((0 : UInt32) : UInt32))] (Pt.at g 0) k_2 rfl .all ?_
   intro w_2 k_3
   refine We 1 (.n 3 (I r_) (.ss .a)) ?_
   refine Wn <| W_ret (At_tr ?_)
   obtain rfl := si hm
   refine At_rz [.agg [.ar e32 (Vec.rep 8 ((0 : UInt32) : UInt32))], I r_] (qo (.agg [.ar e32 (Vec.rep 8 ((0 : UInt32) : UInt32))]) <| qc (fun w => Rd w (some ⟨g, 0, none⟩) (SV.cl [.ar e32 (Vec.rep 8 ((0 : UInt32) : UInt32))])) (k_3.brd 0 rfl) <| qe) ?_
   have k_4 := k_3.sel .z
   exact ⟨rfl, k_4⟩
 rw [if_neg hc] at hm
 refine W_skip <| At_go <| W_seq <| W_reg <| WL_op <| Op_alloc [] 5 [.ar e32 (Vec.rep 8 (0 : UInt32))] (by kernel_rfl) k_2 ?_
 intro g1 w_3 k_5
 refine Wn <| W_seq <| W_reg <| Wl 2 (.n 14 (sl (some ⟨g1, 0, none⟩) 8 8) (.n 15 (sl A_block block.length c_block) (.k (.ss (.k .z))))) (qo (.v (.slice (some ⟨g1, 0, none⟩) 8 8)) <| qp (((some ⟨g1, 0, none⟩) : Option Addr).isSome = true ∧ Value.slice (slA (some ⟨g1, 0, none⟩) 0 8 1) (8 - 0) (8 - 0) = .slice (some ⟨g1, 0, none⟩) 8 8) ⟨rfl, slx0 _ _ _ _ _ rfl⟩ <| qe) ?_
 refine WL_op ?_
 have k_6 := k_5.openV [] [] 1 rfl
 obtain ⟨r_1, h_r_1, hm⟩ := ob hm
 obtain ⟨F1, O1, kin, hO, hre, hF, hb⟩ := k_6.go (.r (.i .e))
 refine Op_cz 16 ws_go74 (c_mixs_words (F := F1) (O := O1) _ _ _ _ _ _ _ _ _ (Nat.le_refl _) (Ro.of_old h_block k_6 hF) rfl hc_block kin _ h_r_1) ?_
 rintro e_ w_4 ⟨rfl, k_7⟩
 have k_8 := hb w_4 _ _ k_7 (.c .n)
 refine ⟨.tup [], rfl, ?_⟩
 have k_9 := k_8.shutV [] [] 0 rfl (Vec.of 8 r_1) (Vec.of_l (k_8.mlen 0 rfl))
 refine Wn <| W_seq <| W_reg <| WL_op ?_
 have k_10 := k_9.sel (.kk .e)
 obtain ⟨r_2, h_r_2, hm⟩ := ob hm
 refine Op_cz 17 ws_go75 (c_mixs_IV (F := N0) (O := N0)  (Cx.refl _) _ h_r_2) ?_
 rintro e_ w_5 ⟨rfl, k_11⟩
 have k_12 := k_10.call k_11
 refine ⟨.agg [.ar e32 r_2], rfl, ?_⟩
 refine WL_op <| Op_alloc [] 6 [.ar e32 (Vec.rep 8 (0 : UInt32))] (by kernel_rfl) k_12 ?_
 intro g2 w_6 k_13
 refine WL_op <| Op_bz 2 (.agg [.ar e32 r_2]) [.ar e32 r_2] (Pt.at g2 0) k_13 rfl .all ?_
 intro w_7 k_14
 refine Wn <| W_seq <| W_seq <| Wq (.n 18 (I 0) (.k (.ssss .a))) ?_
 refine W_block ?_
 have k_16 := ((k_14.pk (.t (.t .h))).pk (.t .h)).pk (.t (.t .h))
 refine W_lp (m_mixs_Start_l0 r_1) (fun s L wr => ∃ (h : Vec UInt32 8) (x_0 : Int), (h, x_0) = s ∧ L = [(2, pt g 0), (5, pt g1 0), (6, pt g2 0), (18, I x_0)] ∧ Cx F O w wr [Bx 121 g [.ar e32 (Vec.rep 8 (0 : UInt32))], Bx 121 g1 [.ar e32 (Vec.of 8 r_1)], Bx 121 g2 [.ar e32 h]]) (r_2, (0 : Int)) r hm ⟨r_2, (0 : Int), rfl, rfl, k_16⟩ (by kernel_rfl) ?_
 intro s0_ L_ w_8 y0 hrel hstep hr0
 obtain ⟨h, x_0, rfl, rfl, k_15⟩ := hrel
 have hm := hstep; simp only [m_mixs_Start_l0] at hm
 clear hstep
 refine W_seq <| Wq (.n 19 (.b (decide (x_0 < 8))) .a) ?_
 refine W_seq <| W_pz (x_0 < 8) (fun hc1 => ?_) fun hc1 => ?_
 · rw [if_pos hc1] at hm
   refine W_skip <| At_go <| W_seq <| W_block <| W_seq <| W_q [] (.n 7 (I x_0) (.s .a)) qe (by kernel_rfl) ?_
   refine At_go ?_
   have k_17 := k_15.drew 1
   refine W_m ws_mixed (.q 0 0 (.q 1 0 (.q 2 0 (.q 3 0 (.q 4 0 (.q 5 0 (.q 6 0 (.q 7 0 (.op 8 .nil))))))))) [8] k_17 (.c (.kk .z) .l) (by kernel_rfl) (fun _ => ?_)
   obtain ⟨x_2, zh2, hm⟩ := ob hm
   obtain ⟨x_3, zh3, hm⟩ := ob hm
   obtain ⟨x_4, zh4, hm⟩ := ob hm
   refine MXz 8 0 (.n 27 (.u32 (x_2 ^^^ x_3)) (.n 28 (.v (.pointer (ixA (some ⟨g2, 0, none⟩) x_0 1))) (.s .a))) (fun x hx => qV (hx.vrd 2 rfl e32 h 0 (by kernel_rfl)) zh2 rfl (.u32 x_2) rfl <| qV (hx.vrd 1 rfl e32 (Vec.of 8 r_1) 0 (by kernel_rfl)) zh3 rfl (.u32 x_3) rfl <| qI g2 0 zh4 <| qe) fun _ => ?_
   refine MX_op (by kernel_rfl) rfl ?_
   obtain ⟨v, h_v, hm⟩ := nm hm
   refine Op_vz 2 (.u32 (x_2 ^^^ x_3)) [.u32 (x_2 ^^^ x_3)] h_v zh4 (Pt.ix0 (Pt.at g2 0) x_0 1) k_17 rfl .h rfl ?_
   intro w_9 k_18
   refine ⟨(k_18.sel (.kk .z)), fun _ => ?_⟩
   refine MX_nil <| At_in <| At_go <| W_q [] (.n 18 (I (w64 (x_0 + 1))) (.ss (.kkk .z))) qe (by kernel_rfl) ?_
   exact At_rd (v, w64 (x_0 + 1)) (Option.some.inj hm).symm ⟨v, w64 (x_0 + 1), rfl, rfl, k_18⟩ (by kernel_rfl)
 rw [if_neg hc1] at hm
 refine W_exit (At_te (At_te (At_ie ?_)))
 have hm := exit_of hm hr0
 refine At_go <| W_seq <| W_reg <| Wl 1 (.n 30 (.agg [.ar e32 h]) (.s (.k .z))) (qT k_15 2 rfl 0 8 [.ar e32 h] (by kernel_rfl) (by decide) <| qe) ?_
 refine WL_op <| Op_bz 0 (.agg [.ar e32 h]) [.ar e32 h] (Pt.at g 0) k_15 rfl .all ?_
 intro w_10 k_19
 have k_20 := k_19.sel (.k .z)
 refine We 1 (.n 3 (I 0) (.s .a)) ?_
 refine Wn <| W_ret ?_
 obtain rfl := si hm
 refine At_rz [.agg [.ar e32 h], I 0] (qo (.agg [.ar e32 h]) <| qc (fun w => Rd w (some ⟨g, 0, none⟩) (SV.cl [.ar e32 h])) (k_20.brd 0 rfl) <| qe) ?_
 have k_21 := k_20.sel .z
 exact ⟨rfl, k_21⟩
theorem c_node_begun (k_ : Int) (block : List UInt8) (A_block : Option Addr) (n_block : Nat) (c_block : Nat) (h_block : Ro F w A_block (e8.all block)) (hn_block : block.length = n_block) (hc_block : n_block ≤ c_block) (k : Cx F O w w []) (r : (Vec UInt64 8 × List UInt8) ⊕ (Vec UInt32 8 × List UInt8)) (hm : m_node_begun k_ block = some r) :
    Calls Try.prog 55 (vals [I k_, sl A_block n_block c_block]) w (fun e w' => match r with | .inl r0 => ∃ g A n c, r0.2.length = n ∧ e = .returned (SV.val (.v (.iface 114 (SV.val (pt g 0))))) ∧ Cx F O w w' [Bx 120 g [.ar e64 r0.1, .u64 0, .u64 0, sl A n c, I 128, .v (.func (.func 62) ⟨SV.vals []⟩ ⟨SV.vals []⟩), .v (.func (.func 63) ⟨SV.vals []⟩ ⟨SV.vals []⟩)], Ow e8 A n c r0.2] | .inr r1 => ∃ g1 A1 n1 c1, r1.2.length = n1 ∧ e = .returned (SV.val (.v (.iface 124 (SV.val (pt g1 0))))) ∧ Cx F O w w' [Bx 128 g1 [.ar e32 r1.1, .u64 0, .u64 0, sl A1 n1 c1, I 64, .v (.func (.func 65) ⟨SV.vals []⟩ ⟨SV.vals []⟩), .v (.func (.func 66) ⟨SV.vals []⟩ ⟨SV.vals []⟩)], Ow e8 A1 n1 c1 r1.2]) := by
 unfold m_node_begun at hm
 subst hn_block
 refine calz [I k_, sl A_block block.length c_block] Try.func55 rfl ?_
 refine W_seq <| Wq .a ?_
 refine W_seq <| W_seq <| Wq (.n 10 (.b (decide (k_ = 1))) (.s .a)) ?_
 refine W_pz (k_ = 1) (fun hc => ?_) fun hc => ?_
 · rw [if_pos hc] at hm
   refine W_seq <| W_reg <| We 1 (.n 12 (sl A_block block.length c_block) .z) ?_
   refine WL_op ?_
   obtain ⟨r_, h_r_, hm⟩ := ob hm
   refine Op_cz 13 ws_go61 (c_mixb_Start (F := N0) (O := N0) _ _ _ _ (Ro.n0 (h_block.cx k)) rfl hc_block (Cx.refl _) _ h_r_) ?_
   rintro e_ w_ ⟨rfl, k_1⟩
   have k_2 := k.call k_1
   refine ⟨.tup [.agg [.ar e64 r_.1], I r_.2], rfl, ?_⟩
   refine We 3 (.n 14 (.agg [.ar e64 r_.1]) (.n 15 (I r_.2) .z)) ?_
   refine WL_op <| Op_alloc [] 5 [.ar e64 (Vec.rep 8 (0 : UInt64))] (by kernel_rfl) k_2 ?_
   intro g0 w_1 k_3
   refine WL_op <| Op_bz 0 (.agg [.ar e64 r_.1]) [.ar e64 r_.1] (Pt.at g0 0) k_3 rfl .all ?_
   intro w_2 k_4
   refine We 1 (.k .z) ?_
   refine Wn <| W_seq <| W_reg <| Wl 2 (.n 17 (.agg [.ar e64 r_.1, .u64 0, .u64 0, sl none 0 0, I 128, .v (.func (.func 62) ⟨SV.vals []⟩ ⟨SV.vals []⟩), .v (.func (.func 63) ⟨SV.vals []⟩ ⟨SV.vals []⟩)]) .z) (qT k_4 0 rfl 0 8 [.ar e64 r_.1] (by kernel_rfl) (by decide) <| qe) ?_
   refine WL_op <| Op_box [] 18 (.agg [.ar e64 r_.1, .u64 0, .u64 0, sl none 0 0, I 128, .v (.func (.func 62) ⟨SV.vals []⟩ ⟨SV.vals []⟩), .v (.func (.func 63) ⟨SV.vals []⟩ ⟨SV.vals []⟩)]) [.ar e64 r_.1, .u64 0, .u64 0, sl none 0 0, I 128, .v (.func (.func 62) ⟨SV.vals []⟩ ⟨SV.vals []⟩), .v (.func (.func 63) ⟨SV.vals []⟩ ⟨SV.vals []⟩)] (by kernel_rfl) k_4 ?_
   intro g2 w_3 k_5
   refine We 2 (.n 4 (.v (.iface 114 (SV.val (pt g2 0)))) .z) ?_
   refine Wn <| W_ret (At_tr ?_)
   have k_6 := k_5.nil e8
   obtain rfl := si hm
   refine At_rz [.v (.iface 114 (SV.val (pt g2 0)))] qe ?_
   have k_7 := k_6.sel (.s (.kk .e))
   exact ⟨g2, none, 0, 0, k_7.len 1 rfl, rfl, k_7⟩
 rw [if_neg hc] at hm
 refine W_skip <| At_go <| W_seq <| W_reg <| We 1 (.n 21 (sl A_block block.length c_block) .z) ?_
 refine WL_op ?_
 obtain ⟨r_1, h_r_1, hm⟩ := ob hm
 refine Op_cz 22 ws_go64 (c_mixs_Start (F := N0) (O := N0) _ _ _ _ (Ro.n0 (h_block.cx k)) rfl hc_block (Cx.refl _) _ h_r_1) ?_
 rintro e_ w_4 ⟨rfl, k_8⟩
 have k_9 := k.call k_8
 refine ⟨.tup [.agg [.ar e32 r_1.1], I r_1.2], rfl, ?_⟩
 refine We 3 (.n 23 (.agg [.ar e32 r_1.1]) (.n 24 (I r_1.2) .z)) ?_
 refine WL_op <| Op_alloc [] 7 [.ar e32 (Vec.rep 8 (0 : UInt32))] (by kernel_rfl) k_9 ?_
 intro g3 w_5 k_10
 refine WL_op <| Op_bz 0 (.agg [.ar e32 r_1.1]) [.ar e32 r_1.1] (Pt.at g3 0) k_10 rfl .all ?_
 intro w_6 k_11
 refine We 1 (.k .z) ?_
 refine Wn <| W_seq <| W_reg <| Wl 2 (.n 26 (.agg [.ar e32 r_1.1, .u64 0, .u64 0, sl none 0 0, I 64, .v (.func (.func 65) ⟨SV.vals []⟩ ⟨SV.vals []⟩), .v (.func (.func 66) ⟨SV.vals []⟩ ⟨SV.vals []⟩)]) .z) (qT k_11 0 rfl 0 8 [.ar e32 r_1.1] (by kernel_rfl) (by decide) <| qe) ?_
 refine WL_op <| Op_box [] 27 (.agg [.ar e32 r_1.1, .u64 0, .u64 0, sl none 0 0, I 64, .v (.func (.func 65) ⟨SV.vals []⟩ ⟨SV.vals []⟩), .v (.func (.func 66) ⟨SV.vals []⟩ ⟨SV.vals []⟩)]) [.ar e32 r_1.1, .u64 0, .u64 0, sl none 0 0, I 64, .v (.func (.func 65) ⟨SV.vals []⟩ ⟨SV.vals []⟩), .v (.func (.func 66) ⟨SV.vals []⟩ ⟨SV.vals []⟩)] (by kernel_rfl) k_11 ?_
 intro g4 w_7 k_12
 refine We 2 (.n 4 (.v (.iface 124 (SV.val (pt g4 0)))) .z) ?_
 refine Wn <| W_ret ?_
 have k_13 := k_12.nil e8
 obtain rfl := si hm
 refine At_rz [.v (.iface 124 (SV.val (pt g4 0)))] qe ?_
 have k_14 := k_13.sel (.s (.kk .e))
 exact ⟨g4, none, 0, 0, k_14.len 1 rfl, rfl, k_14⟩
theorem c_node_blockOf (k_ : Int) (k : Cx F O w w []) (r : Int) (hm : m_node_blockOf k_ = some r) :
    Calls Try.prog 40 (vals [I k_]) w (fun e w' => e = .returned (SV.val (I r)) ∧ Cx F O w w' []) := by
 unfold m_node_blockOf at hm
 refine calz [I k_] Try.func40 rfl ?_
 refine W_seq <| Wq .a ?_
 refine W_seq <| W_seq <| Wq (.n 4 (.b (decide (k_ = 1))) .z) ?_
 refine W_pz (k_ = 1) (fun hc => ?_) fun hc => ?_
 · rw [if_pos hc] at hm
   refine W_seq <| Wq (.n 2 (I 128) .z) ?_
   refine W_ret (At_tr ?_)
   obtain rfl := si hm
   refine At_rz [I 128] qe ?_
   exact ⟨rfl, k⟩
 rw [if_neg hc] at hm
 refine W_skip <| At_go <| W_seq <| Wq (.n 2 (I 64) .z) ?_
 refine W_ret ?_
 obtain rfl := si hm
 refine At_rz [I 64] qe ?_
 exact ⟨rfl, k⟩
theorem c_node_padded (b : List UInt8) (n : Int) (A_b : Option Addr) (n_b : Nat) (c_b : Nat) (h_b : Ro F w A_b (e8.all b)) (hn_b : b.length = n_b) (hc_b : n_b ≤ c_b) (k : Cx F O w w []) (r : (List UInt8)) (hm : m_node_padded b n = some r) :
    Calls Try.prog 56 (vals [sl A_b n_b c_b, I n]) w (fun e w' => ∃ A n1 c, r.length = n1 ∧ e = .returned (SV.val (sl A n1 c)) ∧ Cx F O w w' [Ow e8 A n1 c r]) := by
 unfold m_node_padded at hm
 subst hn_b
 refine calz [sl A_b b.length c_b, I n] Try.func56 rfl ?_
 refine W_seq <| Wq .a ?_
 refine W_seq <| W_reg <| We 1 (.n 5 (I n) .a) ?_
 refine WL_op ?_
 obtain ⟨u, h_u, hm⟩ := ob hm
 refine Op_make ws_tf23 e8 (0 : UInt8) rfl [] 6 (I 0) (I n) (0 : Int) n (by kernel_rfl) (need_some h_u).1 (need_some h_u).2.1 (need_some h_u).2.2 k ?_
 intro A0 w_ k_
 refine We 1 (.n 7 (sl A_b b.length c_b) (.k (.s .a))) ?_
 refine WL_op ?_
 obtain ⟨b1, h_b1, hm⟩ := ob hm
 obtain ⟨hz, hl⟩ := app_some h_b1
 refine Op_append (E := e8) (v := sl A_b b.length c_b) (ys := b) ws_tf23 [] 8 0 (by kernel_rfl) k_ rfl (Src.sl (h_b.cx k_) rfl (by rfl)) rfl (by have := k_.len 0 rfl; have := hm; omega) ?_
 intro A1 c0 w_1 k_1
 rw [← hl] at k_1
 refine We 4 (.n 12 (I (w64 (n - (b.length : Int)))) (.k .z)) ?_
 refine WL_op ?_
 obtain ⟨b2, h_b2, hm⟩ := ob hm
 obtain ⟨h0, hz1, hl1⟩ := appz_some h_b2
 refine Op_appendZ (E := e8) (kx := .i64) (ik := .i64) ws_tf23 (0 : UInt8) [] 13 0 (w64 (n - (b.length : Int))) (by kernel_rfl) rfl k_1 rfl h0 (by have := k_1.len 0 rfl; omega) ?_
 intro A2 c1 w_2 k_2
 rw [← hl1] at k_2
 refine We 1 (.n 4 (sl A2 (Int.toNat (0 : Int) + b.length + Int.toNat (w64 (n - (b.length : Int)))) c1) .z) ?_
 refine Wn <| W_ret ?_
 obtain rfl := si hm
 refine At_rz [sl A2 (Int.toNat (0 : Int) + b.length + Int.toNat (w64 (n - (b.length : Int)))) c1] qe ?_
 exact ⟨A2, Int.toNat (0 : Int) + b.length + Int.toNat (w64 (n - (b.length : Int))), c1, k_2.len 0 rfl, rfl, k_2⟩
theorem c_word_Add (c_Lo : UInt64) (c_Hi : UInt64) (n : UInt64) (k : Cx F O w w []) (r : (UInt64 × UInt64 × Bool)) (hm : m_word_Add c_Lo c_Hi n = some r) :
    Calls Try.prog 113 (vals [.agg [.u64 c_Lo, .u64 c_Hi], .u64 n]) w (fun e w' => e = .returned (SV.val (.tup [.agg [.u64 r.1, .u64 r.2.1], .b r.2.2])) ∧ Cx F O w w' []) := by
 unfold m_word_Add at hm
 refine calz [.agg [.u64 c_Lo, .u64 c_Hi], .u64 n] Try.func113 rfl ?_
 refine W_seq <| W_reg <| WL_op <| Op_box [] 2 (.agg [.u64 c_Lo, .u64 c_Hi]) [.u64 c_Lo, .u64 c_Hi] (by kernel_rfl) k ?_
 intro g w_ k_
 refine WL_op <| Op_alloc [] 4 [.u64 0, .u64 0] (by kernel_rfl) k_ ?_
 intro g1 w_1 k_1
 refine We 1 (.kk (.s .a)) ?_
 refine Wn <| W_seq <| W_reg <| Wl 3 (.n 12 (.u64 c_Lo) (.n 13 (.u64 n) (.kk .z))) (qs g 0 <| qB k_1 0 rfl 0 (.u64 c_Lo) (by kernel_rfl) <| qe) ?_
 refine WL_op ?_
 obtain ⟨r_, h_r_, hm⟩ := ob hm
 refine Op_add64 ws_add114 [] 14 c_Lo n (0 : UInt64) (by kernel_rfl) h_r_ ?_
 refine We 5 (.n 6 (.u64 r_.1) (.n 7 (.u64 r_.2) (.sss .a))) ?_
 refine Wn <| W_seq <| W_reg <| Wl 3 (.n 19 (.u64 c_Hi) (.n 20 (.u64 r_.2) (.k (.s (.k .z))))) (qs g 0 <| qB k_1 0 rfl 1 (.u64 c_Hi) (by kernel_rfl) <| qe) ?_
 refine WL_op ?_
 obtain ⟨r_1, h_r_1, hm⟩ := ob hm
 refine Op_add64 ws_add114 [] 21 c_Hi (0 : UInt64) r_.2 (by kernel_rfl) h_r_1 ?_
 refine We 5 (.n 8 (.u64 r_1.1) (.n 9 (.u64 r_1.2) (.sss .a))) ?_
 refine Wn <| W_seq <| W_reg <| We 5 (.n 26 (.agg [.u64 r_.1, .u64 r_1.1]) (.n 28 (.b (decide (r_1.2 = 1))) (.sss .a))) ?_
 refine WL_op ?_
 have k_2 := k_1.sel (.kk .e)
 refine Op_bz 1 (.agg [.u64 r_.1, .u64 r_1.1]) [.u64 r_.1, .u64 r_1.1] (Pt.at g1 0) k_2 rfl .all ?_
 intro w_2 k_3
 have k_4 := k_3.sel (.s (.k .e))
 refine We 1 (.n 5 (.b (decide (r_1.2 = 1))) (.ss .a)) ?_
 refine Wn <| W_ret ?_
 obtain rfl := si hm
 refine At_rz [.agg [.u64 r_.1, .u64 r_1.1], .b (decide (r_1.2 = 1))] (qo (.agg [.u64 r_.1, .u64 r_1.1]) <| qc (fun w => Rd w (some ⟨g1, 0, none⟩) (SV.cl [.u64 r_.1, .u64 r_1.1])) (k_4.brd 0 rfl) <| qe) ?_
 have k_5 := k_4.sel .z
 exact ⟨rfl, k_5⟩
theorem c_mixb_Words (b : List UInt8) (A_b : Option Addr) (n_b : Nat) (c_b : Nat) (h_b : Ro F w A_b (e8.all b)) (hn_b : b.length = n_b) (hc_b : n_b ≤ c_b) (k : Cx F O w w []) (r : (Vec UInt64 16 × Int)) (hm : m_mixb_Words b = some r) :
    Calls Try.prog 70 (vals [sl A_b n_b c_b]) w (fun e w' => e = .returned (SV.val (.tup [.agg [.ar e64 r.1], I r.2])) ∧ Cx F O w w' []) := by
 unfold m_mixb_Words at hm
 subst hn_b
 refine calz [sl A_b b.length c_b] Try.func70 rfl ?_
 refine W_seq <| W_reg <| WL_op <| Op_alloc [] 2 [.ar e64 (Vec.rep 16 (0 : UInt64))] (by kernel_rfl) k ?_
 intro g w_ k_
 refine We 1 .a ?_
 refine Wn <| W_seq <| W_reg <| WL_op <| Op_alloc [] 4 [.ar e64 (Vec.rep 16 (0 : UInt64))] (by kernel_rfl) k_ ?_
 intro g1 w_1 k_1
 refine Wn <| W_seq <| W_seq <| Wq (.n 8 (.b (decide ((b.length : Int) ≠ 128))) .a) ?_
 refine W_pz ((b.length : Int) ≠ 128) (fun hc => ?_) fun hc => ?_
 · rw [if_pos hc] at hm
   refine W_seq <| W_reg <| Wl 1 (.n 9 (.agg [.ar e64 (Vec.rep 16 (0 : UInt64))]) (.ss (.k .z))) (qT k_1 1 rfl 0 16 [.ar e64 (Vec.rep 16 (0 : UInt64))] (by kernel_rfl) (by decide) <| qe) ?_
   refine WL_op <| Op_bz 0 (.agg [.ar e64 (Vec.rep 16 (0 : UInt64))]) [.ar e64 (Vec.rep 16 (0 : UInt64))] (Pt.at g 0) k_1 rfl .all ?_
   intro w_2 k_2
   have k_3 := k_2.sel (.k .z)
   refine We 1 (.n 3 (I 1) (.s .a)) ?_
   refine Wn <| W_ret (At_tr ?_)
   obtain rfl := si hm
   refine At_rz [.agg [.ar e64 (Vec.rep 16 (0 : UInt64))], I 1] (qo (.agg [.ar e64 (Vec.rep 16 (0 : UInt64))]) <| qc (fun w => Rd w (some ⟨g, 0, none⟩) (SV.cl [.ar e64 (Vec.rep 16 (0 : UInt64))])) (k_3.brd 0 rfl) <| qe) ?_
   have k_4 := k_3.sel .z
   exact ⟨rfl, k_4⟩
 rw [if_neg hc] at hm
 refine W_skip <| At_go <| W_seq <| W_seq <| Wq (.n 10 (I 0) (.s .a)) ?_
 refine W_block <| W_lp (m_mixb_Words_l0 b) (fun s L wr => ∃ (m_ : Vec UInt64 16) (x_0 : Int), (m_, x_0) = s ∧ L = [(0, sl A_b b.length c_b), (2, pt g 0), (4, pt g1 0), (10, I x_0)] ∧ Cx F O w wr [Bx 132 g [.ar e64 (Vec.rep 16 (0 : UInt64))], Bx 132 g1 [.ar e64 m_]]) ((Vec.rep 16 (0 : UInt64)), (0 : Int)) r hm ⟨(Vec.rep 16 (0 : UInt64)), (0 : Int), rfl, rfl, k_1⟩ (by kernel_rfl) ?_
 intro s0_ L_ w_3 y0 hrel hstep hr0
 obtain ⟨m_, x_0, rfl, rfl, k_5⟩ := hrel
 have hm := hstep; simp only [m_mixb_Words_l0] at hm
 clear hstep
 refine W_seq <| Wq (.n 11 (.b (decide (x_0 < 16))) .a) ?_
 refine W_seq <| W_pz (x_0 < 16) (fun hc1 => ?_) fun hc1 => ?_
 · rw [if_pos hc1] at hm
   refine W_skip <| At_go <| W_seq <| W_block <| W_seq <| Wq (.n 5 (I x_0) (.s .a)) ?_
   refine W_reg <| We 4 (.n 14 (I x_0) (.n 15 (sl A_b b.length c_b) (.n 17 (I (w64 (8 * x_0))) (.s .a)))) ?_
   refine WL_op ?_
   obtain ⟨r_, h_r_, hm⟩ := ob hm
   refine Op_cz 18 ws_go69 (c_word_Load64 (F := N0) (O := N0) _ _ _ _ _ (Ro.n0 (h_b.cx k_5)) rfl hc_b (Cx.refl _) _ h_r_) ?_
   rintro e_ w_4 ⟨rfl, k_6⟩
   have k_7 := k_5.call k_6
   refine ⟨.tup [.u64 r_.1, I r_.2], rfl, ?_⟩
   obtain ⟨x_2, zh2, hm⟩ := ob hm
   refine Wl 4 (.n 19 (.u64 r_.1) (.n 21 (.v (.pointer (ixA (some ⟨g1, 0, none⟩) x_0 1))) (.ssss .a))) (qI g1 0 zh2 <| qe) ?_
   refine WL_op ?_
   obtain ⟨v, h_v, hm⟩ := nm hm
   refine Op_vz 1 (.u64 r_.1) [.u64 r_.1] h_v zh2 (Pt.ix0 (Pt.at g1 0) x_0 1) k_7 rfl .h rfl ?_
   intro w_5 k_8
   refine WL_nil <| At_in <| At_go <| W_q [] (.n 10 (I (w64 (x_0 + 1))) (.ss (.kkk .z))) qe (by kernel_rfl) ?_
   exact At_rd (v, w64 (x_0 + 1)) (Option.some.inj hm).symm ⟨v, w64 (x_0 + 1), rfl, rfl, k_8⟩ (by kernel_rfl)
 rw [if_neg hc1] at hm
 refine W_exit (At_te (At_te (At_ie ?_)))
 have hm := exit_of hm hr0
 refine At_go <| W_seq <| W_reg <| Wl 1 (.n 23 (.agg [.ar e64 m_]) (.ss (.k .z))) (qT k_5 1 rfl 0 16 [.ar e64 m_] (by kernel_rfl) (by decide) <| qe) ?_
 refine WL_op <| Op_bz 0 (.agg [.ar e64 m_]) [.ar e64 m_] (Pt.at g 0) k_5 rfl .all ?_
 intro w_6 k_9
 have k_10 := k_9.sel (.k .z)
 refine We 1 (.n 3 (I 0) (.s .a)) ?_
 refine Wn <| W_ret ?_
 obtain rfl := si hm
 refine At_rz [.agg [.ar e64 m_], I 0] (qo (.agg [.ar e64 m_]) <| qc (fun w => Rd w (some ⟨g, 0, none⟩) (SV.cl [.ar e64 m_])) (k_10.brd 0 rfl) <| qe) ?_
 have k_11 := k_10.sel .z
 exact ⟨rfl, k_11⟩
theorem c_mixb_Init (h : Vec UInt64 8) (count_Lo : UInt64) (count_Hi : UInt64) (last : Bool) (node : Bool) (k : Cx F O w w []) (r : (Vec UInt64 16)) (hm : m_mixb_Init h count_Lo count_Hi last node = some r) :
    Calls Try.prog 79 (vals [.agg [.ar e64 h], .agg [.u64 count_Lo, .u64 count_Hi], .b last, .b node]) w (fun e w' => e = .returned (SV.val (.agg [.ar e64 r])) ∧ Cx F O w w' []) := by
 unfold m_mixb_Init at hm
 refine calz [.agg [.ar e64 h], .agg [.u64 count_Lo, .u64 count_Hi], .b last, .b node] Try.func79 rfl ?_
 refine W_seq <| W_reg <| WL_op <| Op_box [] 4 (.agg [.ar e64 h]) [.ar e64 h] (by kernel_rfl) k ?_
 intro g w_ k_
 refine WL_op <| Op_box [] 5 (.agg [.u64 count_Lo, .u64 count_Hi]) [.u64 count_Lo, .u64 count_Hi] (by kernel_rfl) k_ ?_
 intro g1 w_1 k_1
 refine WL_op <| Op_alloc [] 8 [.ar e64 (Vec.rep 16 (0 : UInt64))] (by kernel_rfl) k_1 ?_
 intro g2 w_2 k_2
 refine Wn <| W_seq <| W_reg <| WL_op <| Op_alloc [] 9 [.ar e64 (Vec.rep 16 (0 : UInt64))] (by kernel_rfl) k_2 ?_
 intro g3 w_3 k_3
 refine Wn <| W_seq ?_
 have k_4 := k_3.drew 1
 refine W_m ws_mixed (.q 0 0 (.q 1 0 (.op 2 .nil))) [2] k_4 (.c (.kk (.k .z)) .l) (by kernel_rfl) (fun _ => ?_)
 obtain ⟨b, h_b, hm⟩ := ob hm
 have hs := slc_some h_b
 have hl := slc_len h_b
 have hn : ((Vec.rep 16 (0 : UInt64)).l).length = 16 := (Vec.rep 16 (0 : UInt64)).h
 have hc : 16 ≤ 16 := (Nat.le_refl _)
 have hc1 : b.length ≤ 16 := by omega
 refine MXz 2 0 (.n 11 (sl (some ⟨g3, 0, none⟩) b.length 16) (.n 12 (sl (some ⟨g, 0, none⟩) 8 8) (.kkk (.sss .a)))) (fun x hx => qp (0 ≤ (8 : Int) ∧ (8 : Int) ≤ ((16 : Nat) : Int)) (by omega) <| qo (.v (.slice (some ⟨g3, 0, none⟩) b.length 16)) <| qp (((some ⟨g3, 0, none⟩) : Option Addr).isSome = true ∧ Value.slice (slA (some ⟨g3, 0, none⟩) 0 16 1) (Int.toNat (8 : Int) - 0) (16 - 0) = .slice (some ⟨g3, 0, none⟩) b.length 16) ⟨rfl, slx0 _ _ _ _ _ (by omega)⟩ <| qo (.v (.slice (some ⟨g, 0, none⟩) 8 8)) <| qp (((some ⟨g, 0, none⟩) : Option Addr).isSome = true ∧ Value.slice (slA (some ⟨g, 0, none⟩) 0 8 1) (8 - 0) (8 - 0) = .slice (some ⟨g, 0, none⟩) 8 8) ⟨rfl, slx0 _ _ _ _ _ rfl⟩ <| qe) fun _ => ?_
 refine MX_op (by kernel_rfl) rfl ?_
 have k_5 := k_4.sel (.kkkk .e)
 refine Op_vcp (E := e64) (dn := b.length) (dc := 16) (v := sl (some ⟨g, 0, none⟩) 8 8) (src := h.l) (lo := 0) (m' := 16) ws_tf155 [] 13 3 [] [] (Vec.rep 16 (0 : UInt64)) (by kernel_rfl) (slA_zero _ _ _).symm k_5 rfl (Src.sl (Rd.vec (k_5.brd 0 rfl) (c := Enc.all e64 h.l) (off := 0) (by kernel_rfl)) h.h (by rfl)) h.h (by have := (Vec.rep 16 (0 : UInt64)).h; omega) (by omega) (by omega) ?_
 intro w_4 k_6
 refine ⟨(k_6.sel (.kk (.k .z))), fun _ => ?_⟩
 refine MX_nil <| At_go <| W_seq <| W_reg <| WL_op ?_
 obtain ⟨r_, h_r_, hm⟩ := ob hm
 refine Op_cz 14 ws_go68 (c_mixb_IV (F := N0) (O := N0)  (Cx.refl _) _ h_r_) ?_
 rintro e_ w_5 ⟨rfl, k_7⟩
 have k_8 := k_6.call k_7
 refine ⟨.agg [.ar e64 r_], rfl, ?_⟩
 have k_9 := k_8.sel (.s (.kk (.k .e)))
 refine WL_op <| Op_alloc [] 10 [.ar e64 (Vec.rep 8 (0 : UInt64))] (by kernel_rfl) k_9 ?_
 intro g4 w_6 k_10
 refine WL_op <| Op_bz 3 (.agg [.ar e64 r_]) [.ar e64 r_] (Pt.at g4 0) k_10 rfl .all ?_
 intro w_7 k_11
 refine Wn <| W_seq ?_
 have k_12 := k_11.drew 1
 refine W_m ws_mixed (.q 0 0 (.q 1 0 (.op 2 .nil))) [2] k_12 (.c (.kk (.s (.k .e))) .l) (by kernel_rfl) (fun _ => ?_)
 obtain ⟨b1, h_b1, hm⟩ := ob hm
 have hs1 := slc_some h_b1
 have hl1 := slc_len h_b1
 have hn1 : ((vcp (Vec.rep 16 (0 : UInt64)) 0 b.length h.l).l).length = 16 := (vcp (Vec.rep 16 (0 : UInt64)) 0 b.length h.l).h
 have hc2 : 16 ≤ 16 := (Nat.le_refl _)
 obtain ⟨A, c, e_, hc3, hA, hc4⟩ := slx (some ⟨g3, 0, none⟩) (Int.toNat (8 : Int)) 16 1 (16 - Int.toNat (8 : Int)) b1.length (by omega) (by omega)
 refine MXz 2 0 (.n 15 (sl A b1.length c) (.n 16 (sl (some ⟨g4, 0, none⟩) 8 8) (.ssss (.s .a)))) (fun x hx => qp (0 ≤ (8 : Int) ∧ (8 : Int) ≤ ((16 : Nat) : Int)) (by omega) <| qo (.v (.slice A b1.length c)) <| qp (((some ⟨g3, 0, none⟩) : Option Addr).isSome = true ∧ Value.slice (slA (some ⟨g3, 0, none⟩) (Int.toNat (8 : Int)) 16 1) (16 - Int.toNat (8 : Int)) (16 - Int.toNat (8 : Int)) = .slice A b1.length c) ⟨rfl, e_⟩ <| qo (.v (.slice (some ⟨g4, 0, none⟩) 8 8)) <| qp (((some ⟨g4, 0, none⟩) : Option Addr).isSome = true ∧ Value.slice (slA (some ⟨g4, 0, none⟩) 0 8 1) (8 - 0) (8 - 0) = .slice (some ⟨g4, 0, none⟩) 8 8) ⟨rfl, slx0 _ _ _ _ _ rfl⟩ <| qe) fun _ => ?_
 refine MX_op (by kernel_rfl) rfl ?_
 have k_13 := k_12.sel (.kkkk .e)
 refine Op_vcp (E := e64) (dn := b1.length) (dc := c) (v := sl (some ⟨g4, 0, none⟩) 8 8) (src := r_.l) (lo := Int.toNat (8 : Int)) (m' := 16) ws_tf155 [] 17 2 [] [] (vcp (Vec.rep 16 (0 : UInt64)) 0 b.length h.l) (by kernel_rfl) hA k_13 rfl (Src.sl (Rd.vec (k_13.brd 3 rfl) (c := Enc.all e64 r_.l) (off := 0) (by kernel_rfl)) r_.h (by rfl)) r_.h (by have := (vcp (Vec.rep 16 (0 : UInt64)) 0 b.length h.l).h; omega) (by omega) (by omega) ?_
 intro w_8 k_14
 refine ⟨(k_14.sel (.kk (.s (.k .e)))), fun _ => ?_⟩
 refine MX_nil <| At_go <| W_seq <| W_reg ?_
 obtain ⟨x_0, zh0, hm⟩ := ob hm
 obtain ⟨x_1, zh1, hm⟩ := ob hm
 refine Wl 6 (.n 22 (.u64 (x_0 ^^^ count_Lo)) (.n 23 (.v (.pointer (ixA (some ⟨g3, 0, none⟩) (12 : Int) 1))) (.sss .a))) (qV (k_14.vrd 2 rfl e64 (vcp (vcp (Vec.rep 16 (0 : UInt64)) 0 b.length h.l) (Int.toNat (8 : Int)) b1.length r_.l) 0 (by kernel_rfl)) zh0 rfl (.u64 x_0) rfl <| qs g1 0 <| qB k_14 0 rfl 0 (.u64 count_Lo) (by kernel_rfl) <| qI g3 0 zh1 <| qe) ?_
 refine WL_op ?_
 obtain ⟨v, h_v, hm⟩ := nm hm
 refine Op_vz 2 (.u64 (x_0 ^^^ count_Lo)) [.u64 (x_0 ^^^ count_Lo)] h_v zh1 (Pt.ix0 (Pt.at g3 0) (12 : Int) 1) k_14 rfl .h rfl ?_
 intro w_9 k_15
 refine Wn <| W_seq <| W_reg ?_
 obtain ⟨x_2, zh2, hm⟩ := ob hm
 obtain ⟨x_3, zh3, hm⟩ := ob hm
 refine Wl 6 (.n 28 (.u64 (x_2 ^^^ count_Hi)) (.n 29 (.v (.pointer (ixA (some ⟨g3, 0, none⟩) (13 : Int) 1))) (.ss (.kk (.s .a))))) (qV (k_15.vrd 2 rfl e64 v 0 (by kernel_rfl)) zh2 rfl (.u64 x_2) rfl <| qs g1 0 <| qB k_15 0 rfl 1 (.u64 count_Hi) (by kernel_rfl) <| qI g3 0 zh3 <| qe) ?_
 refine WL_op ?_
 obtain ⟨v1, h_v1, hm⟩ := nm hm
 refine Op_vz 2 (.u64 (x_2 ^^^ count_Hi)) [.u64 (x_2 ^^^ count_Hi)] h_v1 zh3 (Pt.ix0 (Pt.at g3 0) (13 : Int) 1) k_15 rfl .h rfl ?_
 intro w_10 k_16
 refine Wn <| W_cut (fun L wr => ∃ (v2 : Vec UInt64 16), m_mixb_Init_j0 node v2 = some r ∧ L = [(3, .b node), (8, pt g2 0), (9, pt g3 0)] ∧ Cx F O w wr [Bx 132 g2 [.ar e64 (Vec.rep 16 (0 : UInt64))], Bx 132 g3 [.ar e64 v2]]) ?_ ?_
 ·
  refine W_seq <| Wq (.n 30 (.b last) (.ss (.kk (.s .a)))) ?_
  refine W_cz last (fun hc5 => ?_) fun hc5 => ?_
  · rw [if_pos hc5] at hm
    refine W_reg ?_
    obtain ⟨x_4, zh4, hm⟩ := ob hm
    obtain ⟨x_5, zh5, hm⟩ := ob hm
    refine Wl 4 (.n 33 (.u64 (18446744073709551615 ^^^ x_4)) (.n 34 (.v (.pointer (ixA (some ⟨g3, 0, none⟩) (14 : Int) 1))) (.s .a))) (qV (k_16.vrd 2 rfl e64 v1 0 (by kernel_rfl)) zh4 rfl (.u64 x_4) rfl <| qI g3 0 zh5 <| qe) ?_
    refine WL_op ?_
    obtain ⟨v3, h_v3, hm⟩ := nm hm
    refine Op_vz 2 (.u64 (18446744073709551615 ^^^ x_4)) [.u64 (18446744073709551615 ^^^ x_4)] h_v3 zh5 (Pt.ix0 (Pt.at g3 0) (14 : Int) 1) k_16 rfl .h rfl ?_
    intro w_11 k_17
    refine WL_nil ?_
    have k_18 := k_17.sel (.s (.kk .z))
    exact At_cz ⟨v3, hm, rfl, k_18⟩
  rw [if_neg (by rw [hc5]; decide)] at hm
  refine W_skip ?_
  have k_19 := k_16.sel (.s (.kk .z))
  exact At_cz ⟨v1, hm, rfl, k_19⟩
 rintro L_ w_12 ⟨v2, hm, rfl, k_20⟩
 simp only [m_mixb_Init_j0] at hm
 refine W_cut (fun L wr => ∃ (v4 : Vec UInt64 16), m_mixb_Init_j1 v4 = some r ∧ L = [(8, pt g2 0), (9, pt g3 0)] ∧ Cx F O w wr [Bx 132 g2 [.ar e64 (Vec.rep 16 (0 : UInt64))], Bx 132 g3 [.ar e64 v4]]) ?_ ?_
 ·
  refine W_seq <| Wq (.n 35 (.b node) (.s .a)) ?_
  refine W_cz node (fun hc6 => ?_) fun hc6 => ?_
  · rw [if_pos hc6] at hm
    refine W_reg ?_
    obtain ⟨x_6, zh6, hm⟩ := ob hm
    obtain ⟨x_7, zh7, hm⟩ := ob hm
    refine Wl 4 (.n 38 (.u64 (18446744073709551615 ^^^ x_6)) (.n 39 (.v (.pointer (ixA (some ⟨g3, 0, none⟩) (15 : Int) 1))) (.s .a))) (qV (k_20.vrd 1 rfl e64 v2 0 (by kernel_rfl)) zh6 rfl (.u64 x_6) rfl <| qI g3 0 zh7 <| qe) ?_
    refine WL_op ?_
    obtain ⟨v5, h_v5, hm⟩ := nm hm
    refine Op_vz 1 (.u64 (18446744073709551615 ^^^ x_6)) [.u64 (18446744073709551615 ^^^ x_6)] h_v5 zh7 (Pt.ix0 (Pt.at g3 0) (15 : Int) 1) k_20 rfl .h rfl ?_
    intro w_13 k_21
    refine WL_nil ?_
    exact At_cz ⟨v5, hm, rfl, k_21⟩
  rw [if_neg (by rw [hc6]; decide)] at hm
  refine W_skip ?_
  exact At_cz ⟨v2, hm, rfl, k_20⟩
 rintro L_ w_14 ⟨v4, hm, rfl, k_22⟩
 simp only [m_mixb_Init_j1] at hm
 refine W_seq <| W_reg <| Wl 1 (.n 40 (.agg [.ar e64 v4]) (.k .z)) (qT k_22 1 rfl 0 16 [.ar e64 v4] (by kernel_rfl) (by decide) <| qe) ?_
 refine WL_op <| Op_bz 0 (.agg [.ar e64 v4]) [.ar e64 v4] (Pt.at g2 0) k_22 rfl .all ?_
 intro w_15 k_23
 have k_24 := k_23.sel (.k .z)
 refine Wn <| W_ret ?_
 obtain rfl := si hm
 refine At_rz [.agg [.ar e64 v4]] (qo (.agg [.ar e64 v4]) <| qc (fun w => Rd w (some ⟨g2, 0, none⟩) (SV.cl [.ar e64 v4])) (k_24.brd 0 rfl) <| qe) ?_
 have k_25 := k_24.sel .z
 exact ⟨rfl, k_25⟩
theorem c_mixb_Sigma (round : Int) (k : Cx F O w w []) (r : (Vec Int 16)) (hm : m_mixb_Sigma round = some r) :
    Calls Try.prog 85 (vals [I round]) w (fun e w' => e = .returned (SV.val (.agg [.ar eI r])) ∧ Cx F O w w' []) := by
 unfold m_mixb_Sigma at hm
 refine calz [I round] Try.func85 rfl ?_
 refine W_seq <| W_reg <| WL_op <| Op_alloc [] 2 [.ar eI (Vec.rep 16 (0 : Int))] (by kernel_rfl) k ?_
 intro g w_ k_
 refine Wn <| W_seq <| W_reg <| We 11 (.n 14 (.agg [.ar (eV eI 16) (⟨[(⟨[(0 : Int), (1 : Int), (2 : Int), (3 : Int), (4 : Int), (5 : Int), (6 : Int), (7 : Int), (8 : Int), (9 : Int), (10 : Int), (11 : Int), (12 : Int), (13 : Int), (14 : Int), (15 : Int)], rfl⟩ : Vec Int 16), (⟨[(14 : Int), (10 : Int), (4 : Int), (8 : Int), (9 : Int), (15 : Int), (13 : Int), (6 : Int), (1 : Int), (12 : Int), (0 : Int), (2 : Int), (11 : Int), (7 : Int), (5 : Int), (3 : Int)], rfl⟩ : Vec Int 16), (⟨[(11 : Int), (8 : Int), (12 : Int), (0 : Int), (5 : Int), (2 : Int), (15 : Int), (13 : Int), (10 : Int), (14 : Int), (3 : Int), (6 : Int), (7 : Int), (1 : Int), (9 : Int), (4 : Int)], rfl⟩ : Vec Int 16), (⟨[(7 : Int), (9 : Int), (3 : Int), (1 : Int), (13 : Int), (12 : Int), (11 : Int), (14 : Int), (2 : Int), (6 : Int), (5 : Int), (10 : Int), (4 : Int), (0 : Int), (15 : Int), (8 : Int)], rfl⟩ : Vec Int 16), (⟨[(9 : Int), (0 : Int), (5 : Int), (7 : Int), (2 : Int), (4 : Int), (10 : Int), (15 : Int), (14 : Int), (1 : Int), (11 : Int), (12 : Int), (6 : Int), (8 : Int), (3 : Int), (13 : Int)], rfl⟩ : Vec Int 16), (⟨[(2 : Int), (12 : Int), (6 : Int), (10 : Int), (0 : Int), (11 : Int), (8 : Int), (3 : Int), (4 : Int), (13 : Int), (7 : Int), (5 : Int), (15 : Int), (14 : Int), (1 : Int), (9 : Int)], rfl⟩ : Vec Int 16), (⟨[(12 : Int), (5 : Int), (1 : Int), (15 : Int), (14 : Int), (13 : Int), (4 : Int), (10 : Int), (0 : Int), (7 : Int), (6 : Int), (3 : Int), (9 : Int), (2 : Int), (8 : Int), (11 : Int)], rfl⟩ : Vec Int 16), (⟨[(13 : Int), (11 : Int), (7 : Int), (14 : Int), (12 : Int), (1 : Int), (3 : Int), (9 : Int), (5 : Int), (0 : Int), (15 : Int), (4 : Int), (8 : Int), (6 : Int), (2 : Int), (10 : Int)], rfl⟩ : Vec Int 16), (⟨[(6 : Int), (15 : Int), (14 : Int), (9 : Int), (11 : Int), (3 : Int), (0 : Int), (8 : Int), (12 : Int), (2 : Int), (13 : Int), (7 : Int), (1 : Int), (4 : Int), (10 : Int), (5 : Int)], rfl⟩ : Vec Int 16), (⟨[(10 : Int), (2 : Int), (8 : Int), (4 : Int), (7 : Int), (6 : Int), (1 : Int), (5 : Int), (15 : Int), (11 : Int), (9 : Int), (14 : Int), (3 : Int), (12 : Int), (13 : Int), (0 : Int)], rfl⟩ : Vec Int 16)], rfl⟩ : Vec (Vec Int 16) 10)]) .a) ?_
 refine WL_op <| Op_alloc [] 3 [.ar (eV eI 16) (Vec.rep 10 (Vec.rep 16 (0 : Int)))] (by kernel_rfl) k_ ?_
 intro g1 w_1 k_1
 refine WL_op <| Op_bz 1 (.agg [.ar (eV eI 16) (⟨[(⟨[(0 : Int), (1 : Int), (2 : Int), (3 : Int), (4 : Int), (5 : Int), (6 : Int), (7 : Int), (8 : Int), (9 : Int), (10 : Int), (11 : Int), (12 : Int), (13 : Int), (14 : Int), (15 : Int)], rfl⟩ : Vec Int 16), (⟨[(14 : Int), (10 : Int), (4 : Int), (8 : Int), (9 : Int), (15 : Int), (13 : Int), (6 : Int), (1 : Int), (12 : Int), (0 : Int), (2 : Int), (11 : Int), (7 : Int), (5 : Int), (3 : Int)], rfl⟩ : Vec Int 16), (⟨[(11 : Int), (8 : Int), (12 : Int), (0 : Int), (5 : Int), (2 : Int), (15 : Int), (13 : Int), (10 : Int), (14 : Int), (3 : Int), (6 : Int), (7 : Int), (1 : Int), (9 : Int), (4 : Int)], rfl⟩ : Vec Int 16), (⟨[(7 : Int), (9 : Int), (3 : Int), (1 : Int), (13 : Int), (12 : Int), (11 : Int), (14 : Int), (2 : Int), (6 : Int), (5 : Int), (10 : Int), (4 : Int), (0 : Int), (15 : Int), (8 : Int)], rfl⟩ : Vec Int 16), (⟨[(9 : Int), (0 : Int), (5 : Int), (7 : Int), (2 : Int), (4 : Int), (10 : Int), (15 : Int), (14 : Int), (1 : Int), (11 : Int), (12 : Int), (6 : Int), (8 : Int), (3 : Int), (13 : Int)], rfl⟩ : Vec Int 16), (⟨[(2 : Int), (12 : Int), (6 : Int), (10 : Int), (0 : Int), (11 : Int), (8 : Int), (3 : Int), (4 : Int), (13 : Int), (7 : Int), (5 : Int), (15 : Int), (14 : Int), (1 : Int), (9 : Int)], rfl⟩ : Vec Int 16), (⟨[(12 : Int), (5 : Int), (1 : Int), (15 : Int), (14 : Int), (13 : Int), (4 : Int), (10 : Int), (0 : Int), (7 : Int), (6 : Int), (3 : Int), (9 : Int), (2 : Int), (8 : Int), (11 : Int)], rfl⟩ : Vec Int 16), (⟨[(13 : Int), (11 : Int), (7 : Int), (14 : Int), (12 : Int), (1 : Int), (3 : Int), (9 : Int), (5 : Int), (0 : Int), (15 : Int), (4 : Int), (8 : Int), (6 : Int), (2 : Int), (10 : Int)], rfl⟩ : Vec Int 16), (⟨[(6 : Int), (15 : Int), (14 : Int), (9 : Int), (11 : Int), (3 : Int), (0 : Int), (8 : Int), (12 : Int), (2 : Int), (13 : Int), (7 : Int), (1 : Int), (4 : Int), (10 : Int), (5 : Int)], rfl⟩ : Vec Int 16), (⟨[(10 : Int), (2 : Int), (8 : Int), (4 : Int), (7 : Int), (6 : Int), (1 : Int), (5 : Int), (15 : Int), (11 : Int), (9 : Int), (14 : Int), (3 : Int), (12 : Int), (13 : Int), (0 : Int)], rfl⟩ : Vec Int 16)], rfl⟩ : Vec (Vec Int 16) 10)]) [.ar (eV eI 16) (⟨[(⟨[(0 : Int), (1 : Int), (2 : Int), (3 : Int), (4 : Int), (5 : Int), (6 : Int), (7 : Int), (8 : Int), (9 : Int), (10 : Int), (11 : Int), (12 : Int), (13 : Int), (14 : Int), (15 : Int)], rfl⟩ : Vec Int 16), (⟨[(14 : Int), (10 : Int), (4 : Int), (8 : Int), (9 : Int), (15 : Int), (13 : Int), (6 : Int), (1 : Int), (12 : Int), (0 : Int), (2 : Int), (11 : Int), (7 : Int), (5 : Int), (3 : Int)], rfl⟩ : Vec Int 16), (⟨[(11 : Int), (8 : Int), (12 : Int), (0 : Int), (5 : Int), (2 : Int), (15 : Int), (13 : Int), (10 : Int), (14 : Int), (3 : Int), (6 : Int), (7 : Int), (1 : Int), (9 : Int), (4 : Int)], rfl⟩ : Vec Int 16), (⟨[(7 : Int), (9 : Int), (3 : Int), (1 : Int), (13 : Int), (12 : Int), (11 : Int), (14 : Int), (2 : Int), (6 : Int), (5 : Int), (10 : Int), (4 : Int), (0 : Int), (15 : Int), (8 : Int)], rfl⟩ : Vec Int 16), (⟨[(9 : Int), (0 : Int), (5 : Int), (7 : Int), (2 : Int), (4 : Int), (10 : Int), (15 : Int), (14 : Int), (1 : Int), (11 : Int), (12 : Int), (6 : Int), (8 : Int), (3 : Int), (13 : Int)], rfl⟩ : Vec Int 16), (⟨[(2 : Int), (12 : Int), (6 : Int), (10 : Int), (0 : Int), (11 : Int), (8 : Int), (3 : Int), (4 : Int), (13 : Int), (7 : Int), (5 : Int), (15 : Int), (14 : Int), (1 : Int), (9 : Int)], rfl⟩ : Vec Int 16), (⟨[(12 : Int), (5 : Int), (1 : Int), (15 : Int), (14 : Int), (13 : Int), (4 : Int), (10 : Int), (0 : Int), (7 : Int), (6 : Int), (3 : Int), (9 : Int), (2 : Int), (8 : Int), (11 : Int)], rfl⟩ : Vec Int 16), (⟨[(13 : Int), (11 : Int), (7 : Int), (14 : Int), (12 : Int), (1 : Int), (3 : Int), (9 : Int), (5 : Int), (0 : Int), (15 : Int), (4 : Int), (8 : Int), (6 : Int), (2 : Int), (10 : Int)], rfl⟩ : Vec Int 16), (⟨[(6 : Int), (15 : Int), (14 : Int), (9 : Int), (11 : Int), (3 : Int), (0 : Int), (8 : Int), (12 : Int), (2 : Int), (13 : Int), (7 : Int), (1 : Int), (4 : Int), (10 : Int), (5 : Int)], rfl⟩ : Vec Int 16), (⟨[(10 : Int), (2 : Int), (8 : Int), (4 : Int), (7 : Int), (6 : Int), (1 : Int), (5 : Int), (15 : Int), (11 : Int), (9 : Int), (14 : Int), (3 : Int), (12 : Int), (13 : Int), (0 : Int)], rfl⟩ : Vec Int 16)], rfl⟩ : Vec (Vec Int 16) 10)] (Pt.at g1 0) k_1 rfl .all ?_
 intro w_2 k_2
 refine Wn <| W_seq <| W_reg ?_
 obtain ⟨x_0, zh0, hm⟩ := ob hm
 refine Wl 6 (.n 20 (.agg [.ar eI x_0]) (.ss (.k .z))) (qp ((10 : Int) ≠ (0 : Int)) (by omega) <| qp ((10 : Int) ≠ (0 : Int)) (by omega) <| qI g1 0 zh0 <| qR [.ar eI x_0] (Rd.elV (k_2.vrd 1 rfl (eV eI 16) (⟨[(⟨[(0 : Int), (1 : Int), (2 : Int), (3 : Int), (4 : Int), (5 : Int), (6 : Int), (7 : Int), (8 : Int), (9 : Int), (10 : Int), (11 : Int), (12 : Int), (13 : Int), (14 : Int), (15 : Int)], rfl⟩ : Vec Int 16), (⟨[(14 : Int), (10 : Int), (4 : Int), (8 : Int), (9 : Int), (15 : Int), (13 : Int), (6 : Int), (1 : Int), (12 : Int), (0 : Int), (2 : Int), (11 : Int), (7 : Int), (5 : Int), (3 : Int)], rfl⟩ : Vec Int 16), (⟨[(11 : Int), (8 : Int), (12 : Int), (0 : Int), (5 : Int), (2 : Int), (15 : Int), (13 : Int), (10 : Int), (14 : Int), (3 : Int), (6 : Int), (7 : Int), (1 : Int), (9 : Int), (4 : Int)], rfl⟩ : Vec Int 16), (⟨[(7 : Int), (9 : Int), (3 : Int), (1 : Int), (13 : Int), (12 : Int), (11 : Int), (14 : Int), (2 : Int), (6 : Int), (5 : Int), (10 : Int), (4 : Int), (0 : Int), (15 : Int), (8 : Int)], rfl⟩ : Vec Int 16), (⟨[(9 : Int), (0 : Int), (5 : Int), (7 : Int), (2 : Int), (4 : Int), (10 : Int), (15 : Int), (14 : Int), (1 : Int), (11 : Int), (12 : Int), (6 : Int), (8 : Int), (3 : Int), (13 : Int)], rfl⟩ : Vec Int 16), (⟨[(2 : Int), (12 : Int), (6 : Int), (10 : Int), (0 : Int), (11 : Int), (8 : Int), (3 : Int), (4 : Int), (13 : Int), (7 : Int), (5 : Int), (15 : Int), (14 : Int), (1 : Int), (9 : Int)], rfl⟩ : Vec Int 16), (⟨[(12 : Int), (5 : Int), (1 : Int), (15 : Int), (14 : Int), (13 : Int), (4 : Int), (10 : Int), (0 : Int), (7 : Int), (6 : Int), (3 : Int), (9 : Int), (2 : Int), (8 : Int), (11 : Int)], rfl⟩ : Vec Int 16), (⟨[(13 : Int), (11 : Int), (7 : Int), (14 : Int), (12 : Int), (1 : Int), (3 : Int), (9 : Int), (5 : Int), (0 : Int), (15 : Int), (4 : Int), (8 : Int), (6 : Int), (2 : Int), (10 : Int)], rfl⟩ : Vec Int 16), (⟨[(6 : Int), (15 : Int), (14 : Int), (9 : Int), (11 : Int), (3 : Int), (0 : Int), (8 : Int), (12 : Int), (2 : Int), (13 : Int), (7 : Int), (1 : Int), (4 : Int), (10 : Int), (5 : Int)], rfl⟩ : Vec Int 16), (⟨[(10 : Int), (2 : Int), (8 : Int), (4 : Int), (7 : Int), (6 : Int), (1 : Int), (5 : Int), (15 : Int), (11 : Int), (9 : Int), (14 : Int), (3 : Int), (12 : Int), (13 : Int), (0 : Int)], rfl⟩ : Vec Int 16)], rfl⟩ : Vec (Vec Int 16) 10) 0 (by kernel_rfl)) zh0 (Pt.ix1 (some ⟨g1, 0, none⟩) (Int.tmod (w64 ((Int.tmod round 10) + 10)) 10) 16) (by decide)) <| qe) ?_
 refine WL_op <| Op_bz 0 (.agg [.ar eI x_0]) [.ar eI x_0] (Pt.at g 0) k_2 rfl .all ?_
 intro w_3 k_3
 have k_4 := k_3.sel (.k .z)
 refine Wn <| W_ret ?_
 obtain rfl := si hm
 refine At_rz [.agg [.ar eI x_0]] (qo (.agg [.ar eI x_0]) <| qc (fun w => Rd w (some ⟨g, 0, none⟩) (SV.cl [.ar eI x_0])) (k_4.brd 0 rfl) <| qe) ?_
 have k_5 := k_4.sel .z
 exact ⟨rfl, k_5⟩
theorem c_mixb_places (k : Cx F O w w []) (r : (Vec (Vec Int 4) 8)) (hm : m_mixb_places = some r) :
    Calls Try.prog 86 (vals []) w (fun e w' => e = .returned (SV.val (.agg [.ar (eV eI 4) r])) ∧ Cx F O w w' []) := by
 unfold m_mixb_places at hm
 refine calz [] Try.func86 rfl ?_
 refine W_seq <| W_reg <| WL_op <| Op_alloc [] 0 [.ar (eV eI 4) (Vec.rep 8 (Vec.rep 4 (0 : Int)))] (by kernel_rfl) k ?_
 intro g w_ k_
 refine Wn <| W_seq <| W_reg <| We 9 (.n 9 (.agg [.ar (eV eI 4) (⟨[(⟨[(0 : Int), (4 : Int), (8 : Int), (12 : Int)], rfl⟩ : Vec Int 4), (⟨[(1 : Int), (5 : Int), (9 : Int), (13 : Int)], rfl⟩ : Vec Int 4), (⟨[(2 : Int), (6 : Int), (10 : Int), (14 : Int)], rfl⟩ : Vec Int 4), (⟨[(3 : Int), (7 : Int), (11 : Int), (15 : Int)], rfl⟩ : Vec Int 4), (⟨[(0 : Int), (5 : Int), (10 : Int), (15 : Int)], rfl⟩ : Vec Int 4), (⟨[(1 : Int), (6 : Int), (11 : Int), (12 : Int)], rfl⟩ : Vec Int 4), (⟨[(2 : Int), (7 : Int), (8 : Int), (13 : Int)], rfl⟩ : Vec Int 4), (⟨[(3 : Int), (4 : Int), (9 : Int), (14 : Int)], rfl⟩ : Vec Int 4)], rfl⟩ : Vec (Vec Int 4) 8)]) .a) ?_
 refine WL_op <| Op_bz 0 (.agg [.ar (eV eI 4) (⟨[(⟨[(0 : Int), (4 : Int), (8 : Int), (12 : Int)], rfl⟩ : Vec Int 4), (⟨[(1 : Int), (5 : Int), (9 : Int), (13 : Int)], rfl⟩ : Vec Int 4), (⟨[(2 : Int), (6 : Int), (10 : Int), (14 : Int)], rfl⟩ : Vec Int 4), (⟨[(3 : Int), (7 : Int), (11 : Int), (15 : Int)], rfl⟩ : Vec Int 4), (⟨[(0 : Int), (5 : Int), (10 : Int), (15 : Int)], rfl⟩ : Vec Int 4), (⟨[(1 : Int), (6 : Int), (11 : Int), (12 : Int)], rfl⟩ : Vec Int 4), (⟨[(2 : Int), (7 : Int), (8 : Int), (13 : Int)], rfl⟩ : Vec Int 4), (⟨[(3 : Int), (4 : Int), (9 : Int), (14 : Int)], rfl⟩ : Vec Int 4)], rfl⟩ : Vec (Vec Int 4) 8)]) [.ar (eV eI 4) (⟨[(⟨[(0 : Int), (4 : Int), (8 : Int), (12 : Int)], rfl⟩ : Vec Int 4), (⟨[(1 : Int), (5 : Int), (9 : Int), (13 : Int)], rfl⟩ : Vec Int 4), (⟨[(2 : Int), (6 : Int), (10 : Int), (14 : Int)], rfl⟩ : Vec Int 4), (⟨[(3 : Int), (7 : Int), (11 : Int), (15 : Int)], rfl⟩ : Vec Int 4), (⟨[(0 : Int), (5 : Int), (10 : Int), (15 : Int)], rfl⟩ : Vec Int 4), (⟨[(1 : Int), (6 : Int), (11 : Int), (12 : Int)], rfl⟩ : Vec Int 4), (⟨[(2 : Int), (7 : Int), (8 : Int), (13 : Int)], rfl⟩ : Vec Int 4), (⟨[(3 : Int), (4 : Int), (9 : Int), (14 : Int)], rfl⟩ : Vec Int 4)], rfl⟩ : Vec (Vec Int 4) 8)] (Pt.at g 0) k_ rfl .all ?_
 intro w_1 k_1
 refine Wn <| W_ret ?_
 obtain rfl := si hm
 refine At_rz [.agg [.ar (eV eI 4) (⟨[(⟨[(0 : Int), (4 : Int), (8 : Int), (12 : Int)], rfl⟩ : Vec Int 4), (⟨[(1 : Int), (5 : Int), (9 : Int), (13 : Int)], rfl⟩ : Vec Int 4), (⟨[(2 : Int), (6 : Int), (10 : Int), (14 : Int)], rfl⟩ : Vec Int 4), (⟨[(3 : Int), (7 : Int), (11 : Int), (15 : Int)], rfl⟩ : Vec Int 4), (⟨[(0 : Int), (5 : Int), (10 : Int), (15 : Int)], rfl⟩ : Vec Int 4), (⟨[(1 : Int), (6 : Int), (11 : Int), (12 : Int)], rfl⟩ : Vec Int 4), (⟨[(2 : Int), (7 : Int), (8 : Int), (13 : Int)], rfl⟩ : Vec Int 4), (⟨[(3 : Int), (4 : Int), (9 : Int), (14 : Int)], rfl⟩ : Vec Int 4)], rfl⟩ : Vec (Vec Int 4) 8)]] (qo (.agg [.ar (eV eI 4) (⟨[(⟨[(0 : Int), (4 : Int), (8 : Int), (12 : Int)], rfl⟩ : Vec Int 4), (⟨[(1 : Int), (5 : Int), (9 : Int), (13 : Int)], rfl⟩ : Vec Int 4), (⟨[(2 : Int), (6 : Int), (10 : Int), (14 : Int)], rfl⟩ : Vec Int 4), (⟨[(3 : Int), (7 : Int), (11 : Int), (15 : Int)], rfl⟩ : Vec Int 4), (⟨[(0 : Int), (5 : Int), (10 : Int), (15 : Int)], rfl⟩ : Vec Int 4), (⟨[(1 : Int), (6 : Int), (11 : Int), (12 : Int)], rfl⟩ : Vec Int 4), (⟨[(2 : Int), (7 : Int), (8 : Int), (13 : Int)], rfl⟩ : Vec Int 4), (⟨[(3 : Int), (4 : Int), (9 : Int), (14 : Int)], rfl⟩ : Vec Int 4)], rfl⟩ : Vec (Vec Int 4) 8)]) <| qc (fun w => Rd w (some ⟨g, 0, none⟩) (SV.cl [.ar (eV eI 4) (⟨[(⟨[(0 : Int), (4 : Int), (8 : Int), (12 : Int)], rfl⟩ : Vec Int 4), (⟨[(1 : Int), (5 : Int), (9 : Int), (13 : Int)], rfl⟩ : Vec Int 4), (⟨[(2 : Int), (6 : Int), (10 : Int), (14 : Int)], rfl⟩ : Vec Int 4), (⟨[(3 : Int), (7 : Int), (11 : Int), (15 : Int)], rfl⟩ : Vec Int 4), (⟨[(0 : Int), (5 : Int), (10 : Int), (15 : Int)], rfl⟩ : Vec Int 4), (⟨[(1 : Int), (6 : Int), (11 : Int), (12 : Int)], rfl⟩ : Vec Int 4), (⟨[(2 : Int), (7 : Int), (8 : Int), (13 : Int)], rfl⟩ : Vec Int 4), (⟨[(3 : Int), (4 : Int), (9 : Int), (14 : Int)], rfl⟩ : Vec Int 4)], rfl⟩ : Vec (Vec Int 4) 8)])) (k_1.brd 0 rfl) <| qe) ?_
 have k_2 := k_1.sel .z
 exact ⟨rfl, k_2⟩
theorem c_bits_RotateLeft64 (x_ : UInt64) (k_ : Int) (k : Cx F O w w []) (r : UInt64) (hm : m_bits_RotateLeft64 x_ k_ = some r) :
    Calls Try.prog 90 (vals [.u64 x_, I k_]) w (fun e w' => e = .returned (SV.val (.u64 r)) ∧ Cx F O w w' []) := by
 unfold m_bits_RotateLeft64 at hm
 refine calz [.u64 x_, I k_] Try.func90 rfl ?_
 refine W_seq <| Wq .a ?_
 refine W_seq <| Wq (.n 5 (.u64 ((UInt64.ofInt k_) &&& 63)) (.k .z)) ?_
 refine W_seq <| Wq (.n 4 (.u64 ((shl64 x_ (((UInt64.ofInt k_) &&& 63).toNat)) ||| (shr64 x_ (((64 : UInt64) - ((UInt64.ofInt k_) &&& 63)).toNat)))) .z) ?_
 refine W_ret ?_
 obtain rfl := si hm
 refine At_rz [.u64 ((shl64 x_ (((UInt64.ofInt k_) &&& 63).toNat)) ||| (shr64 x_ (((64 : UInt64) - ((UInt64.ofInt k_) &&& 63)).toNat)))] qe ?_
 exact ⟨rfl, k⟩
theorem c_mixb_step (v : Vec UInt64 16) (p : Vec Int 4) (x_ : UInt64) (y_ : UInt64) (g_v : Nat) (k : Cx F O w w [Bx 132 g_v [.ar e64 v]]) (r : (Vec UInt64 16)) (hm : m_mixb_step v p x_ y_ = some r) :
    Calls Try.prog 87 (vals [pt g_v 0, .agg [.ar eI p], .u64 x_, .u64 y_]) w (fun e w' => e = .returned (SV.val (.tup [])) ∧ Cx F O w w' [Bx 132 g_v [.ar e64 r]]) := by
 unfold m_mixb_step at hm
 refine calz [pt g_v 0, .agg [.ar eI p], .u64 x_, .u64 y_] Try.func87 rfl ?_
 refine W_seq <| W_reg <| WL_op <| Op_box [] 5 (.agg [.ar eI p]) [.ar eI p] (by kernel_rfl) k ?_
 intro g w_ k_
 refine Wn <| W_seq ?_
 obtain ⟨x_2, zh2, hm⟩ := ob hm
 obtain ⟨x_3, zh3, hm⟩ := ob hm
 obtain ⟨x_4, zh4, hm⟩ := ob hm
 obtain ⟨x_5, zh5, hm⟩ := ob hm
 refine W_d ws_mixed (by kernel_rfl) (.n 8 (I x_2) (.n 9 (I x_3) (.n 10 (I x_4) (.n 11 (I x_5) (.s (.k (.s .a))))))) (fun m => qV ((k_.drew m).vrd 1 rfl eI p 0 (by kernel_rfl)) zh2 rfl (I x_2) rfl <| qV ((k_.drew m).vrd 1 rfl eI p 0 (by kernel_rfl)) zh3 rfl (I x_3) rfl <| qV ((k_.drew m).vrd 1 rfl eI p 0 (by kernel_rfl)) zh4 rfl (I x_4) rfl <| qV ((k_.drew m).vrd 1 rfl eI p 0 (by kernel_rfl)) zh5 rfl (I x_5) rfl <| qe) (by kernel_rfl) (fun m_ => ?_)
 have k_1 := k_.drew m_
 refine At_go <| W_seq ?_
 have k_2 := k_1.drew 1
 refine W_m ws_mixed (.q 0 0 (.q 1 0 (.q 2 0 (.q 3 0 (.q 4 0 (.q 5 0 (.q 6 0 (.q 7 0 (.q 8 0 (.q 9 0 (.q 10 0 (.q 11 0 (.q 12 0 (.q 13 0 (.q 14 0 (.op 15 .nil)))))))))))))))) [15] k_2 (.c (.s (.k .e)) .l) (by kernel_rfl) (fun _ => ?_)
 obtain ⟨x_6, zh6, hm⟩ := ob hm
 obtain ⟨x_7, zh7, hm⟩ := ob hm
 obtain ⟨x_8, zh8, hm⟩ := ob hm
 refine MXz 15 0 (.n 32 (.u64 (x_6 + (x_7 + x_))) (.n 34 (.v (.pointer (ixA (some ⟨g_v, 0, none⟩) x_2 1))) (.kkkk (.k (.s .a))))) (fun x hx => qs g_v 0 <| qV (hx.vrd 0 rfl e64 v 0 (by kernel_rfl)) zh6 rfl (.u64 x_6) rfl <| qs g_v 0 <| qV (hx.vrd 0 rfl e64 v 0 (by kernel_rfl)) zh7 rfl (.u64 x_7) rfl <| qs g_v 0 <| qI g_v 0 zh8 <| qe) fun _ => ?_
 refine MX_op (by kernel_rfl) rfl ?_
 obtain ⟨v1, h_v1, hm⟩ := nm hm
 refine Op_vz 0 (.u64 (x_6 + (x_7 + x_))) [.u64 (x_6 + (x_7 + x_))] h_v1 zh8 (Pt.ix0 (Pt.at g_v 0) x_2 1) k_2 rfl .h rfl ?_
 intro w_1 k_3
 refine ⟨(k_3.sel (.s (.k .e))), fun _ => ?_⟩
 refine MX_nil <| At_go <| W_seq ?_
 have k_4 := k_3.drew 1
 refine W_m ws_mixed (.q 0 1 (.q 1 1 (.q 2 1 (.q 3 1 (.q 4 1 (.q 5 1 (.q 6 0 (.q 7 1 (.q 8 1 (.q 9 1 (.q 10 1 (.q 11 0 (.q 12 0 (.q 14 1 (.op 13 (.q 15 1 (.op 16 .nil))))))))))))))))) [13, 16] k_4 (.c (.kk .e) (.c (.s (.k .e)) .l)) (by kernel_rfl) (fun _ => ?_)
 obtain ⟨x_9, zh9, hm⟩ := ob hm
 refine MXz 6 1 (.n 35 (pt g_v 0) (.n 36 (I x_5) (.n 40 (.v (.pointer (ixA (some ⟨g_v, 0, none⟩) x_5 1))) (.ss .a)))) (fun x hx => qs g_v 0 <| qI g_v 0 zh9 <| qe) fun _ => ?_
 refine MXz 1 0 (.n 41 (.u64 x_9) (.kk (.s .a))) (fun x hx => qC (.u64 x_9) (Rd.el (k := 0) (hx.vrd 0 rfl e64 v1 0 (by kernel_rfl)) zh9 (Pt.ix1 (some ⟨g_v, 0, none⟩) x_5 1) rfl) <| qe) fun _ => ?_
 obtain ⟨x_10, zh10, hm⟩ := ob hm
 refine MXz 4 1 (.n 45 (.v (.pointer (ixA (some ⟨g_v, 0, none⟩) x_2 1))) .a) (fun x hx => qs g_v 0 <| qI g_v 0 zh10 <| qe) fun _ => ?_
 refine MXz 2 0 (.n 47 (.u64 (x_9 ^^^ x_10)) (.ss .a)) (fun x hx => qC (.u64 x_10) (Rd.el (k := 0) (hx.vrd 0 rfl e64 v1 0 (by kernel_rfl)) zh10 (Pt.ix1 (some ⟨g_v, 0, none⟩) x_2 1) rfl) <| qe) fun _ => ?_
 refine MXz 1 1 (.n 49 (pt g_v 0) (.k (.s .a))) (fun x hx => qs g_v 0 <| qe) fun _ => ?_
 refine MX_op (by kernel_rfl) rfl ?_
 obtain ⟨r_, h_r_, hm⟩ := ob hm
 refine Op_cz 48 ws_go90 (c_bits_RotateLeft64 (F := N0) (O := N0) _ _ (Cx.refl _) _ h_r_) ?_
 rintro e_ w_2 ⟨rfl, k_5⟩
 have k_6 := k_4.call k_5
 refine ⟨.u64 r_, rfl, ?_⟩
 refine ⟨k_6, fun _ => ?_⟩
 obtain ⟨x_11, zh11, hm⟩ := ob hm
 refine MXz 1 1 (.n 50 (.v (.pointer (ixA (some ⟨g_v, 0, none⟩) x_5 1))) (.k (.sss .a))) (fun x hx => qI g_v 0 zh11 <| qe) fun _ => ?_
 refine MX_op (by kernel_rfl) rfl ?_
 obtain ⟨v2, h_v2, hm⟩ := nm hm
 refine Op_vz 0 (.u64 r_) [.u64 r_] h_v2 zh11 (Pt.ix0 (Pt.at g_v 0) x_5 1) k_6 rfl .h rfl ?_
 intro w_3 k_7
 refine ⟨(k_7.sel (.s (.k .e))), fun _ => ?_⟩
 refine MX_nil <| At_go <| W_seq ?_
 have k_8 := k_7.drew 1
 refine W_m ws_mixed (.q 0 0 (.q 1 0 (.q 2 0 (.q 3 0 (.q 4 0 (.q 5 0 (.q 6 0 (.q 7 0 (.q 8 0 (.q 9 0 (.q 10 0 (.q 11 0 (.q 12 0 (.op 13 .nil)))))))))))))) [13] k_8 (.c (.s (.k .e)) .l) (by kernel_rfl) (fun _ => ?_)
 obtain ⟨x_12, zh12, hm⟩ := ob hm
 obtain ⟨x_13, zh13, hm⟩ := ob hm
 obtain ⟨x_14, zh14, hm⟩ := ob hm
 refine MXz 13 0 (.n 61 (.u64 (x_12 + x_13)) (.n 63 (.v (.pointer (ixA (some ⟨g_v, 0, none⟩) x_4 1))) (.ss .a))) (fun x hx => qs g_v 0 <| qV (hx.vrd 0 rfl e64 v2 0 (by kernel_rfl)) zh12 rfl (.u64 x_12) rfl <| qs g_v 0 <| qV (hx.vrd 0 rfl e64 v2 0 (by kernel_rfl)) zh13 rfl (.u64 x_13) rfl <| qs g_v 0 <| qI g_v 0 zh14 <| qe) fun _ => ?_
 refine MX_op (by kernel_rfl) rfl ?_
 have k_9 := k_8.sel (.kk .e)
 obtain ⟨v3, h_v3, hm⟩ := nm hm
 refine Op_vz 0 (.u64 (x_12 + x_13)) [.u64 (x_12 + x_13)] h_v3 zh14 (Pt.ix0 (Pt.at g_v 0) x_4 1) k_9 rfl .h rfl ?_
 intro w_4 k_10
 refine ⟨(k_10.sel (.s (.k .e))), fun _ => ?_⟩
 refine MX_nil <| At_go <| W_seq ?_
 have k_11 := k_10.drew 1
 refine W_m ws_mixed (.q 0 1 (.q 1 1 (.q 2 1 (.q 3 1 (.q 4 1 (.q 5 1 (.q 6 0 (.q 7 1 (.q 8 1 (.q 9 1 (.q 10 1 (.q 11 0 (.q 12 0 (.q 14 1 (.op 13 (.q 15 1 (.op 16 .nil))))))))))))))))) [13, 16] k_11 (.c (.kk .e) (.c (.s (.k .e)) .l)) (by kernel_rfl) (fun _ => ?_)
 obtain ⟨x_15, zh15, hm⟩ := ob hm
 refine MXz 6 1 (.n 64 (pt g_v 0) (.n 65 (I x_3) (.n 69 (.v (.pointer (ixA (some ⟨g_v, 0, none⟩) x_3 1))) (.ss .a)))) (fun x hx => qs g_v 0 <| qI g_v 0 zh15 <| qe) fun _ => ?_
 refine MXz 1 0 (.n 70 (.u64 x_15) (.kk (.s .a))) (fun x hx => qC (.u64 x_15) (Rd.el (k := 0) (hx.vrd 0 rfl e64 v3 0 (by kernel_rfl)) zh15 (Pt.ix1 (some ⟨g_v, 0, none⟩) x_3 1) rfl) <| qe) fun _ => ?_
 obtain ⟨x_16, zh16, hm⟩ := ob hm
 refine MXz 4 1 (.n 74 (.v (.pointer (ixA (some ⟨g_v, 0, none⟩) x_4 1))) .a) (fun x hx => qs g_v 0 <| qI g_v 0 zh16 <| qe) fun _ => ?_
 refine MXz 2 0 (.n 76 (.u64 (x_15 ^^^ x_16)) (.ss .a)) (fun x hx => qC (.u64 x_16) (Rd.el (k := 0) (hx.vrd 0 rfl e64 v3 0 (by kernel_rfl)) zh16 (Pt.ix1 (some ⟨g_v, 0, none⟩) x_4 1) rfl) <| qe) fun _ => ?_
 refine MXz 1 1 (.n 78 (pt g_v 0) (.k (.s .a))) (fun x hx => qs g_v 0 <| qe) fun _ => ?_
 refine MX_op (by kernel_rfl) rfl ?_
 obtain ⟨r_1, h_r_1, hm⟩ := ob hm
 refine Op_cz 77 ws_go90 (c_bits_RotateLeft64 (F := N0) (O := N0) _ _ (Cx.refl _) _ h_r_1) ?_
 rintro e_ w_5 ⟨rfl, k_12⟩
 have k_13 := k_11.call k_12
 refine ⟨.u64 r_1, rfl, ?_⟩
 refine ⟨k_13, fun _ => ?_⟩
 obtain ⟨x_17, zh17, hm⟩ := ob hm
 refine MXz 1 1 (.n 79 (.v (.pointer (ixA (some ⟨g_v, 0, none⟩) x_3 1))) (.k (.sss .a))) (fun x hx => qI g_v 0 zh17 <| qe) fun _ => ?_
 refine MX_op (by kernel_rfl) rfl ?_
 obtain ⟨v4, h_v4, hm⟩ := nm hm
 refine Op_vz 0 (.u64 r_1) [.u64 r_1] h_v4 zh17 (Pt.ix0 (Pt.at g_v 0) x_3 1) k_13 rfl .h rfl ?_
 intro w_6 k_14
 refine ⟨(k_14.sel (.s (.k .e))), fun _ => ?_⟩
 refine MX_nil <| At_go <| W_seq ?_
 have k_15 := k_14.drew 1
 refine W_m ws_mixed (.q 0 0 (.q 1 0 (.q 2 0 (.q 3 0 (.q 4 0 (.q 5 0 (.q 6 0 (.q 7 0 (.q 8 0 (.q 9 0 (.q 10 0 (.q 11 0 (.q 12 0 (.q 13 0 (.q 14 0 (.op 15 .nil)))))))))))))))) [15] k_15 (.c (.s (.k .e)) .l) (by kernel_rfl) (fun _ => ?_)
 obtain ⟨x_18, zh18, hm⟩ := ob hm
 obtain ⟨x_19, zh19, hm⟩ := ob hm
 obtain ⟨x_20, zh20, hm⟩ := ob hm
 refine MXz 15 0 (.n 92 (.u64 (x_18 + (x_19 + y_))) (.n 94 (.v (.pointer (ixA (some ⟨g_v, 0, none⟩) x_2 1))) (.ss (.kkkk (.k .z))))) (fun x hx => qs g_v 0 <| qV (hx.vrd 0 rfl e64 v4 0 (by kernel_rfl)) zh18 rfl (.u64 x_18) rfl <| qs g_v 0 <| qV (hx.vrd 0 rfl e64 v4 0 (by kernel_rfl)) zh19 rfl (.u64 x_19) rfl <| qs g_v 0 <| qI g_v 0 zh20 <| qe) fun _ => ?_
 refine MX_op (by kernel_rfl) rfl ?_
 obtain ⟨v5, h_v5, hm⟩ := nm hm
 refine Op_vz 0 (.u64 (x_18 + (x_19 + y_))) [.u64 (x_18 + (x_19 + y_))] h_v5 zh20 (Pt.ix0 (Pt.at g_v 0) x_2 1) k_15 rfl .h rfl ?_
 intro w_7 k_16
 refine ⟨(k_16.sel (.s (.k .e))), fun _ => ?_⟩
 refine MX_nil <| At_go <| W_seq ?_
 have k_17 := k_16.drew 1
 refine W_m ws_mixed (.q 0 1 (.q 1 1 (.q 2 1 (.q 3 1 (.q 4 1 (.q 5 1 (.q 6 0 (.q 7 1 (.q 8 1 (.q 9 1 (.q 10 1 (.q 11 0 (.q 12 0 (.q 14 1 (.op 13 (.q 15 1 (.op 16 .nil))))))))))))))))) [13, 16] k_17 (.c (.kk .e) (.c (.s (.k .e)) .l)) (by kernel_rfl) (fun _ => ?_)
 obtain ⟨x_21, zh21, hm⟩ := ob hm
 refine MXz 6 1 (.n 95 (pt g_v 0) (.n 96 (I x_5) (.n 100 (.v (.pointer (ixA (some ⟨g_v, 0, none⟩) x_5 1))) (.ss .a)))) (fun x hx => qs g_v 0 <| qI g_v 0 zh21 <| qe) fun _ => ?_
 refine MXz 1 0 (.n 101 (.u64 x_21) (.kk (.s .a))) (fun x hx => qC (.u64 x_21) (Rd.el (k := 0) (hx.vrd 0 rfl e64 v5 0 (by kernel_rfl)) zh21 (Pt.ix1 (some ⟨g_v, 0, none⟩) x_5 1) rfl) <| qe) fun _ => ?_
 obtain ⟨x_22, zh22, hm⟩ := ob hm
 refine MXz 4 1 (.n 105 (.v (.pointer (ixA (some ⟨g_v, 0, none⟩) x_2 1))) (.kkk (.s .a))) (fun x hx => qs g_v 0 <| qI g_v 0 zh22 <| qe) fun _ => ?_
 refine MXz 2 0 (.n 107 (.u64 (x_21 ^^^ x_22)) (.ss .a)) (fun x hx => qC (.u64 x_22) (Rd.el (k := 0) (hx.vrd 0 rfl e64 v5 0 (by kernel_rfl)) zh22 (Pt.ix1 (some ⟨g_v, 0, none⟩) x_2 1) rfl) <| qe) fun _ => ?_
 refine MXz 1 1 (.n 109 (pt g_v 0) (.k (.s .a))) (fun x hx => qs g_v 0 <| qe) fun _ => ?_
 refine MX_op (by kernel_rfl) rfl ?_
 have k_18 := k_17.sel (.kk .e)
 obtain ⟨r_2, h_r_2, hm⟩ := ob hm
 refine Op_cz 108 ws_go90 (c_bits_RotateLeft64 (F := N0) (O := N0) _ _ (Cx.refl _) _ h_r_2) ?_
 rintro e_ w_8 ⟨rfl, k_19⟩
 have k_20 := k_18.call k_19
 refine ⟨.u64 r_2, rfl, ?_⟩
 refine ⟨k_20, fun _ => ?_⟩
 obtain ⟨x_23, zh23, hm⟩ := ob hm
 refine MXz 1 1 (.n 110 (.v (.pointer (ixA (some ⟨g_v, 0, none⟩) x_5 1))) (.k (.sss .a))) (fun x hx => qI g_v 0 zh23 <| qe) fun _ => ?_
 refine MX_op (by kernel_rfl) rfl ?_
 obtain ⟨v6, h_v6, hm⟩ := nm hm
 refine Op_vz 0 (.u64 r_2) [.u64 r_2] h_v6 zh23 (Pt.ix0 (Pt.at g_v 0) x_5 1) k_20 rfl .h rfl ?_
 intro w_9 k_21
 refine ⟨(k_21.sel (.s (.k .e))), fun _ => ?_⟩
 refine MX_nil <| At_go <| W_seq ?_
 have k_22 := k_21.drew 1
 refine W_m ws_mixed (.q 0 0 (.q 1 0 (.q 2 0 (.q 3 0 (.q 4 0 (.q 5 0 (.q 6 0 (.q 7 0 (.q 8 0 (.q 9 0 (.q 10 0 (.q 11 0 (.q 12 0 (.op 13 .nil)))))))))))))) [13] k_22 (.c (.s (.k .e)) .l) (by kernel_rfl) (fun _ => ?_)
 obtain ⟨x_24, zh24, hm⟩ := ob hm
 obtain ⟨x_25, zh25, hm⟩ := ob hm
 obtain ⟨x_26, zh26, hm⟩ := ob hm
 refine MXz 13 0 (.n 121 (.u64 (x_24 + x_25)) (.n 123 (.v (.pointer (ixA (some ⟨g_v, 0, none⟩) x_4 1))) (.ss (.kk (.s .a))))) (fun x hx => qs g_v 0 <| qV (hx.vrd 0 rfl e64 v6 0 (by kernel_rfl)) zh24 rfl (.u64 x_24) rfl <| qs g_v 0 <| qV (hx.vrd 0 rfl e64 v6 0 (by kernel_rfl)) zh25 rfl (.u64 x_25) rfl <| qs g_v 0 <| qI g_v 0 zh26 <| qe) fun _ => ?_
 refine MX_op (by kernel_rfl) rfl ?_
 obtain ⟨v7, h_v7, hm⟩ := nm hm
 refine Op_vz 0 (.u64 (x_24 + x_25)) [.u64 (x_24 + x_25)] h_v7 zh26 (Pt.ix0 (Pt.at g_v 0) x_4 1) k_22 rfl .h rfl ?_
 intro w_10 k_23
 refine ⟨(k_23.sel (.s (.k .e))), fun _ => ?_⟩
 refine MX_nil <| At_go ?_
 have k_24 := k_23.drew 1
 refine W_m ws_mixed (.q 0 1 (.q 1 1 (.q 2 1 (.q 3 1 (.q 4 1 (.q 5 1 (.q 6 0 (.q 7 1 (.q 8 1 (.q 9 1 (.q 10 1 (.q 11 0 (.q 12 0 (.q 14 1 (.op 13 (.q 15 1 (.op 16 .nil))))))))))))))))) [13, 16] k_24 (.c (.kk .e) (.c (.s (.k .e)) .l)) (by kernel_rfl) (fun _ => ?_)
 obtain ⟨x_27, zh27, hm⟩ := ob hm
 refine MXz 6 1 (.n 124 (pt g_v 0) (.n 125 (I x_3) (.n 129 (.v (.pointer (ixA (some ⟨g_v, 0, none⟩) x_3 1))) (.sss .a)))) (fun x hx => qs g_v 0 <| qI g_v 0 zh27 <| qe) fun _ => ?_
 refine MXz 1 0 (.n 130 (.u64 x_27) (.kk (.s .a))) (fun x hx => qC (.u64 x_27) (Rd.el (k := 0) (hx.vrd 0 rfl e64 v7 0 (by kernel_rfl)) zh27 (Pt.ix1 (some ⟨g_v, 0, none⟩) x_3 1) rfl) <| qe) fun _ => ?_
 obtain ⟨x_28, zh28, hm⟩ := ob hm
 refine MXz 4 1 (.n 134 (.v (.pointer (ixA (some ⟨g_v, 0, none⟩) x_4 1))) (.kkk .z)) (fun x hx => qs g_v 0 <| qI g_v 0 zh28 <| qe) fun _ => ?_
 refine MXz 2 0 (.n 136 (.u64 (x_27 ^^^ x_28)) (.ss .a)) (fun x hx => qC (.u64 x_28) (Rd.el (k := 0) (hx.vrd 0 rfl e64 v7 0 (by kernel_rfl)) zh28 (Pt.ix1 (some ⟨g_v, 0, none⟩) x_4 1) rfl) <| qe) fun _ => ?_
 refine MXz 1 1 (.n 138 (pt g_v 0) (.k (.s .a))) (fun x hx => qs g_v 0 <| qe) fun _ => ?_
 refine MX_op (by kernel_rfl) rfl ?_
 obtain ⟨r_3, h_r_3, hm⟩ := ob hm
 refine Op_cz 137 ws_go90 (c_bits_RotateLeft64 (F := N0) (O := N0) _ _ (Cx.refl _) _ h_r_3) ?_
 rintro e_ w_11 ⟨rfl, k_25⟩
 have k_26 := k_24.call k_25
 refine ⟨.u64 r_3, rfl, ?_⟩
 refine ⟨k_26, fun _ => ?_⟩
 obtain ⟨x_29, zh29, hm⟩ := ob hm
 refine MXz 1 1 (.n 139 (.v (.pointer (ixA (some ⟨g_v, 0, none⟩) x_3 1))) (.k .z)) (fun x hx => qI g_v 0 zh29 <| qe) fun _ => ?_
 refine MX_op (by kernel_rfl) rfl ?_
 have k_27 := k_26.sel (.kk .e)
 obtain ⟨v8, h_v8, hm⟩ := nm hm
 refine Op_vz 0 (.u64 r_3) [.u64 r_3] h_v8 zh29 (Pt.ix0 (Pt.at g_v 0) x_3 1) k_27 rfl .h rfl ?_
 intro w_12 k_28
 refine ⟨(k_28.sel (.s (.k .e))), fun _ => ?_⟩
 refine MX_nil ?_
 obtain rfl := si hm
 refine At_en [] qe (by kernel_rfl) ?_
 have k_29 := k_28.sel (.k .z)
 exact ⟨rfl, k_29⟩
theorem c_mixb_turn (v : Vec UInt64 16) (m_ : Vec UInt64 16) (round : Int) (g_v : Nat) (g_m : Nat) (k : Cx F O w w [Bx 132 g_v [.ar e64 v], Bx 132 g_m [.ar e64 m_]]) (r : (Vec UInt64 16 × Vec UInt64 16)) (hm : m_mixb_turn v m_ round = some r) :
    Calls Try.prog 80 (vals [pt g_v 0, pt g_m 0, I round]) w (fun e w' => e = .returned (SV.val (.tup [])) ∧ Cx F O w w' [Bx 132 g_v [.ar e64 r.1], Bx 132 g_m [.ar e64 r.2]]) := by
 unfold m_mixb_turn at hm
 refine calz [pt g_v 0, pt g_m 0, I round] Try.func80 rfl ?_
 refine W_seq <| W_reg <| We 1 (.n 9 (I round) (.kk .z)) ?_
 refine WL_op ?_
 obtain ⟨r_, h_r_, hm⟩ := ob hm
 refine Op_cz 10 ws_go85 (c_mixb_Sigma (F := N0) (O := N0) _ (Cx.refl _) _ h_r_) ?_
 rintro e_ w_ ⟨rfl, k_⟩
 have k_1 := k.call k_
 refine ⟨.agg [.ar eI r_], rfl, ?_⟩
 refine WL_op <| Op_alloc [] 6 [.ar eI (Vec.rep 16 (0 : Int))] (by kernel_rfl) k_1 ?_
 intro g w_1 k_2
 refine WL_op <| Op_bz 2 (.agg [.ar eI r_]) [.ar eI r_] (Pt.at g 0) k_2 rfl .all ?_
 intro w_2 k_3
 refine Wn <| W_seq <| W_reg <| WL_op ?_
 obtain ⟨r_1, h_r_1, hm⟩ := ob hm
 refine Op_cz 11 ws_go86 (c_mixb_places (F := N0) (O := N0)  (Cx.refl _) _ h_r_1) ?_
 rintro e_ w_3 ⟨rfl, k_4⟩
 have k_5 := k_3.call k_4
 refine ⟨.agg [.ar (eV eI 4) r_1], rfl, ?_⟩
 refine We 1 (.n 12 (I 0) (.kk (.ss .a))) ?_
 refine Wn <| W_block <| W_lp (m_mixb_turn_l0 m_ r_ r_1) (fun s L wr => ∃ (v1 : Vec UInt64 16) (x_0 : Int), (v1, x_0) = s ∧ L = [(0, pt g_v 0), (1, pt g_m 0), (6, pt g 0), (11, .agg [.ar (eV eI 4) r_1]), (12, I x_0)] ∧ Cx F O w wr [Bx 132 g_v [.ar e64 v1], Bx 132 g_m [.ar e64 m_], Bx 156 g [.ar eI r_]]) (v, (0 : Int)) r hm ⟨v, (0 : Int), rfl, rfl, k_5⟩ (by kernel_rfl) ?_
 intro s0_ L_ w_4 y0 hrel hstep hr0
 obtain ⟨v1, x_0, rfl, rfl, k_6⟩ := hrel
 have hm := hstep; simp only [m_mixb_turn_l0] at hm
 clear hstep
 refine W_seq <| Wq (.n 13 (.b (decide (x_0 < 8))) .a) ?_
 refine W_seq <| W_pz (x_0 < 8) (fun hc => ?_) fun hc => ?_
 · rw [if_pos hc] at hm
   refine W_skip <| At_go <| W_seq <| W_block <| W_seq <| W_reg ?_
   obtain ⟨x_2, zh2, hm⟩ := ob hm
   refine Wl 2 (.n 14 (I x_0) (.n 15 (.agg [.ar eI x_2]) (.s .a))) (qo (.agg [.ar eI x_2]) <| qp ((0 ≤ x_0 ∧ x_0 < ((8 : Nat) : Int)) ∧ ((SV.cl [.ar (eV eI 4) r_1]).drop (Int.toNat x_0 * 4)).take 4 = SV.cl [.ar eI x_2]) (ar_ixV (E := eI) zh2) <| qe) ?_
   refine WL_op <| Op_alloc [] 8 [.ar eI (Vec.rep 4 (0 : Int))] (by kernel_rfl) k_6 ?_
   intro g1 w_5 k_7
   refine We 1 (.n 7 (I x_0) (.k (.s .a))) ?_
   refine WL_op <| Op_bz 3 (.agg [.ar eI x_2]) [.ar eI x_2] (Pt.at g1 0) k_7 rfl .all ?_
   intro w_6 k_8
   refine WL_nil <| At_go ?_
   have k_9 := k_8.drew 1
   refine W_m ws_mixed (.q 0 0 (.q 1 0 (.q 2 1 (.q 3 1 (.q 4 1 (.q 5 1 (.q 6 1 (.q 7 1 (.q 8 0 (.q 9 0 (.q 10 1 (.q 11 1 (.q 12 1 (.q 13 1 (.q 14 1 (.q 15 1 (.q 16 1 (.q 17 0 (.q 18 0 (.op 19 .nil)))))))))))))))))))) [19] k_9 (.c (.s (.kk (.k .e))) .l) (by kernel_rfl) (fun _ => ?_)
   refine MXz 2 0 (.n 16 (pt g_v 0) (.n 17 (.agg [.ar eI x_2]) (.k (.ss .a)))) (fun x hx => qT hx 3 rfl 0 4 [.ar eI x_2] (by kernel_rfl) (by decide) <| qe) fun _ => ?_
   obtain ⟨x_3, zh3, hm⟩ := ob hm
   refine MXz 6 1 (.n 22 (I x_3) (.n 23 (pt g_m 0) .a)) (fun x hx => qV (hx.vrd 1 rfl eI r_ 0 (by kernel_rfl)) zh3 rfl (I x_3) rfl <| qs g_m 0 <| qe) fun _ => ?_
   obtain ⟨x_4, zh4, hm⟩ := ob hm
   refine MXz 2 0 (.n 25 (.u64 x_4) (.ss .a)) (fun x hx => qV (hx.vrd 1 rfl e64 m_ 0 (by kernel_rfl)) zh4 rfl (.u64 x_4) rfl <| qe) fun _ => ?_
   obtain ⟨x_5, zh5, hm⟩ := ob hm
   refine MXz 7 1 (.n 31 (I x_5) (.n 32 (pt g_m 0) (.kkk (.s .a)))) (fun x hx => qV (hx.vrd 1 rfl eI r_ 0 (by kernel_rfl)) zh5 rfl (I x_5) rfl <| qs g_m 0 <| qe) fun _ => ?_
   obtain ⟨x_6, zh6, hm⟩ := ob hm
   refine MXz 2 0 (.n 34 (.u64 x_6) (.ss .a)) (fun x hx => qV (hx.vrd 1 rfl e64 m_ 0 (by kernel_rfl)) zh6 rfl (.u64 x_6) rfl <| qe) fun _ => ?_
   refine MX_op (by kernel_rfl) rfl ?_
   obtain ⟨r_2, h_r_2, hm⟩ := ob hm
   obtain ⟨F1, O1, kin, hO, hre, hF, hb⟩ := k_9.go (.i (.r (.r (.r .e))))
   refine Op_cz 35 ws_go87 (c_mixb_step (F := F1) (O := O1) _ _ _ _ _ kin _ h_r_2) ?_
   rintro e_ w_7 ⟨rfl, k_10⟩
   have k_11 := hb w_7 _ _ k_10 (.c .n)
   refine ⟨.tup [], rfl, ?_⟩
   refine ⟨(k_11.sel (.s (.kk (.k .e)))), fun _ => ?_⟩
   refine MX_nil <| At_in <| At_go <| W_q [] (.n 12 (I (w64 (x_0 + 1))) (.ssss (.s (.kkkk .z)))) qe (by kernel_rfl) ?_
   have k_12 := k_11.sel (.kk (.k .z))
   exact At_rd (r_2, w64 (x_0 + 1)) (Option.some.inj hm).symm ⟨r_2, w64 (x_0 + 1), rfl, rfl, k_12⟩ (by kernel_rfl)
 rw [if_neg hc] at hm
 refine W_exit (At_te (At_te (At_ie ?_)))
 have hm := exit_of hm hr0
 obtain rfl := si hm
 refine At_en [] qe (by kernel_rfl) ?_
 have k_13 := k_6.sel (.kk .z)
 exact ⟨rfl, k_13⟩
theorem c_mixb_F (h : Vec UInt64 8) (m_ : Vec UInt64 16) (count_Lo : UInt64) (count_Hi : UInt64) (last : Bool) (node : Bool) (k : Cx F O w w []) (r : (Vec UInt64 8)) (hm : m_mixb_F h m_ count_Lo count_Hi last node = some r) :
    Calls Try.prog 71 (vals [.agg [.ar e64 h], .agg [.ar e64 m_], .agg [.u64 count_Lo, .u64 count_Hi], .b last, .b node]) w (fun e w' => e = .returned (SV.val (.agg [.ar e64 r])) ∧ Cx F O w w' []) := by
 unfold m_mixb_F at hm
 refine calz [.agg [.ar e64 h], .agg [.ar e64 m_], .agg [.u64 count_Lo, .u64 count_Hi], .b last, .b node] Try.func71 rfl ?_
 refine W_seq <| W_reg <| WL_op <| Op_box [] 5 (.agg [.ar e64 h]) [.ar e64 h] (by kernel_rfl) k ?_
 intro g w_ k_
 refine WL_op <| Op_box [] 6 (.agg [.ar e64 m_]) [.ar e64 m_] (by kernel_rfl) k_ ?_
 intro g1 w_1 k_1
 refine WL_op <| Op_box [] 7 (.agg [.u64 count_Lo, .u64 count_Hi]) [.u64 count_Lo, .u64 count_Hi] (by kernel_rfl) k_1 ?_
 intro g2 w_2 k_2
 refine WL_op <| Op_alloc [] 10 [.ar e64 (Vec.rep 8 (0 : UInt64))] (by kernel_rfl) k_2 ?_
 intro g3 w_3 k_3
 refine Wn <| W_seq <| W_reg <| Wl 4 (.n 14 (.agg [.ar e64 h]) (.n 15 (.agg [.u64 count_Lo, .u64 count_Hi]) (.n 16 (.b last) (.n 17 (.b node) (.k (.s (.kk .z))))))) (qT k_3 0 rfl 0 8 [.ar e64 h] (by kernel_rfl) (by decide) <| qT k_3 2 rfl 0 2 [.u64 count_Lo, .u64 count_Hi] (by kernel_rfl) (by decide) <| qe) ?_
 refine WL_op ?_
 have k_4 := k_3.sel (.kkkk .e)
 obtain ⟨r_, h_r_, hm⟩ := ob hm
 refine Op_cz 18 ws_go79 (c_mixb_Init (F := N0) (O := N0) _ _ _ _ _ (Cx.refl _) _ h_r_) ?_
 rintro e_ w_4 ⟨rfl, k_5⟩
 have k_6 := k_4.call k_5
 refine ⟨.agg [.ar e64 r_], rfl, ?_⟩
 have k_7 := k_6.sel (.kk (.s (.k .e)))
 refine WL_op <| Op_alloc [] 11 [.ar e64 (Vec.rep 16 (0 : UInt64))] (by kernel_rfl) k_7 ?_
 intro g4 w_5 k_8
 refine WL_op <| Op_bz 3 (.agg [.ar e64 r_]) [.ar e64 r_] (Pt.at g4 0) k_8 rfl .all ?_
 intro w_6 k_9
 refine Wn <| W_seq <| W_seq <| Wq (.n 19 (I 0) (.k (.ssss (.s .a)))) ?_
 refine W_block <| W_lp (m_mixb_F_l0 h) (fun s L wr => ∃ (m_1 : Vec UInt64 16) (v : Vec UInt64 16) (x_0 : Int), (m_1, v, x_0) = s ∧ L = [(5, pt g 0), (6, pt g1 0), (10, pt g3 0), (11, pt g4 0), (19, I x_0)] ∧ Cx F O w wr [Bx 111 g [.ar e64 h], Bx 132 g1 [.ar e64 m_1], Bx 111 g3 [.ar e64 (Vec.rep 8 (0 : UInt64))], Bx 132 g4 [.ar e64 v]]) (m_, r_, (0 : Int)) r hm ⟨m_, r_, (0 : Int), rfl, rfl, k_9⟩ (by kernel_rfl) ?_
 intro s0_ L_ w_7 y0 hrel hstep hr0
 obtain ⟨m_1, v, x_0, rfl, rfl, k_10⟩ := hrel
 have hm := hstep; simp only [m_mixb_F_l0] at hm
 clear hstep
 refine W_seq <| Wq (.n 20 (.b (decide (x_0 < 12))) .a) ?_
 refine W_seq <| W_pz (x_0 < 12) (fun hc => ?_) fun hc => ?_
 · rw [if_pos hc] at hm
   refine W_skip <| At_go <| W_seq <| W_block <| W_seq <| Wq (.n 12 (I x_0) (.s .a)) ?_
   refine W_reg <| We 1 (.n 22 (I x_0) (.s .a)) ?_
   refine WL_op ?_
   obtain ⟨r_1, h_r_1, hm⟩ := ob hm
   have k_11 := (((k_10.pk (.t (.t .h))).pk (.t .h)).pk (.t (.t .h))).pk (.t (.t (.t .h)))
   obtain ⟨F1, O1, kin, hO, hre, hF, hb⟩ := k_11.go (.i (.i (.r (.r .e))))
   refine Op_cz 23 ws_go80 (c_mixb_turn (F := F1) (O := O1) _ _ _ _ _ kin _ h_r_1) ?_
   rintro e_ w_8 ⟨rfl, k_12⟩
   have k_13 := hb w_8 _ _ k_12 (.c (.c .n))
   refine ⟨.tup [], rfl, ?_⟩
   refine WL_nil <| At_in <| At_go <| W_q [] (.n 19 (I (w64 (x_0 + 1))) (.ss (.kkkk .z))) qe (by kernel_rfl) ?_
   have k_14 := (((k_13.pk .h).pk (.t (.t (.t .h)))).pk (.t (.t .h))).pk (.t (.t (.t .h)))
   exact At_rd (r_1.2, r_1.1, w64 (x_0 + 1)) (Option.some.inj hm).symm ⟨r_1.2, r_1.1, w64 (x_0 + 1), rfl, rfl, k_14⟩ (by kernel_rfl)
 rw [if_neg hc] at hm
 refine W_exit (At_te (At_te (At_ie ?_)))
 have hm := exit_of hm hr0
 refine At_go <| W_seq <| W_seq <| Wq (.n 25 (I 0) (.s (.k (.s (.kk .z))))) ?_
 refine W_block ?_
 have k_16 := k_10.sel (.k (.s (.kk .e)))
 refine W_lp (m_mixb_F_l1 v) (fun s L wr => ∃ (h1 : Vec UInt64 8) (x_1 : Int), (h1, x_1) = s ∧ L = [(5, pt g 0), (10, pt g3 0), (11, pt g4 0), (25, I x_1)] ∧ Cx F O w wr [Bx 111 g [.ar e64 h1], Bx 111 g3 [.ar e64 (Vec.rep 8 (0 : UInt64))], Bx 132 g4 [.ar e64 v]]) (h, (0 : Int)) r hm ⟨h, (0 : Int), rfl, rfl, k_16⟩ (by kernel_rfl) ?_
 intro s0_ L_ w_9 y0 hrel hstep hr0
 obtain ⟨h1, x_1, rfl, rfl, k_15⟩ := hrel
 have hm := hstep; simp only [m_mixb_F_l1] at hm
 clear hstep
 refine W_seq <| Wq (.n 26 (.b (decide (x_1 < 8))) .a) ?_
 refine W_seq <| W_pz (x_1 < 8) (fun hc1 => ?_) fun hc1 => ?_
 · rw [if_pos hc1] at hm
   refine W_skip <| At_go <| W_seq <| W_block <| W_seq <| W_q [] (.n 13 (I x_1) (.s .a)) qe (by kernel_rfl) ?_
   refine At_go ?_
   have k_17 := k_15.drew 1
   refine W_m ws_mixed (.q 0 0 (.q 1 0 (.q 2 0 (.q 3 0 (.q 4 0 (.q 5 0 (.q 6 0 (.q 7 0 (.q 8 0 (.q 9 0 (.q 10 0 (.q 11 0 (.q 12 0 (.op 13 .nil)))))))))))))) [13] k_17 (.c (.s (.kk .e)) .l) (by kernel_rfl) (fun _ => ?_)
   obtain ⟨x_2, zh2, hm⟩ := ob hm
   obtain ⟨x_3, zh3, hm⟩ := ob hm
   obtain ⟨x_4, zh4, hm⟩ := ob hm
   obtain ⟨x_5, zh5, hm⟩ := ob hm
   refine MXz 13 0 (.n 39 (.u64 (x_2 ^^^ (x_3 ^^^ x_4))) (.n 40 (.v (.pointer (ixA (some ⟨g, 0, none⟩) x_1 1))) (.s .a))) (fun x hx => qV (hx.vrd 0 rfl e64 h1 0 (by kernel_rfl)) zh2 rfl (.u64 x_2) rfl <| qV (hx.vrd 2 rfl e64 v 0 (by kernel_rfl)) zh3 rfl (.u64 x_3) rfl <| qV (hx.vrd 2 rfl e64 v 0 (by kernel_rfl)) zh4 rfl (.u64 x_4) rfl <| qI g 0 zh5 <| qe) fun _ => ?_
   refine MX_op (by kernel_rfl) rfl ?_
   obtain ⟨v1, h_v1, hm⟩ := nm hm
   refine Op_vz 0 (.u64 (x_2 ^^^ (x_3 ^^^ x_4))) [.u64 (x_2 ^^^ (x_3 ^^^ x_4))] h_v1 zh5 (Pt.ix0 (Pt.at g 0) x_1 1) k_17 rfl .h rfl ?_
   intro w_10 k_18
   refine ⟨(k_18.sel (.s (.kk .e))), fun _ => ?_⟩
   refine MX_nil <| At_in <| At_go <| W_q [] (.n 25 (I (w64 (x_1 + 1))) (.ss (.kkk .z))) qe (by kernel_rfl) ?_
   exact At_rd (v1, w64 (x_1 + 1)) (Option.some.inj hm).symm ⟨v1, w64 (x_1 + 1), rfl, rfl, k_18⟩ (by kernel_rfl)
 rw [if_neg hc1] at hm
 refine W_exit (At_te (At_te (At_ie ?_)))
 have hm := exit_of hm hr0
 refine At_go <| W_seq <| W_reg <| Wl 1 (.n 42 (.agg [.ar e64 h1]) (.ss (.k .z))) (qT k_15 0 rfl 0 8 [.ar e64 h1] (by kernel_rfl) (by decide) <| qe) ?_
 refine WL_op <| Op_bz 1 (.agg [.ar e64 h1]) [.ar e64 h1] (Pt.at g3 0) k_15 rfl .all ?_
 intro w_11 k_19
 have k_20 := k_19.sel (.s (.k .z))
 refine Wn <| W_ret ?_
 obtain rfl := si hm
 refine At_rz [.agg [.ar e64 h1]] (qo (.agg [.ar e64 h1]) <| qc (fun w => Rd w (some ⟨g3, 0, none⟩) (SV.cl [.ar e64 h1])) (k_20.brd 0 rfl) <| qe) ?_
 have k_21 := k_20.sel .z
 exact ⟨rfl, k_21⟩
theorem c_node_mixBig (h : Vec UInt64 8) (b : List UInt8) (c_Lo : UInt64) (c_Hi : UInt64) (last : Bool) (node : Bool) (A_b : Option Addr) (n_b : Nat) (c_b : Nat) (h_b : Ro F w A_b (e8.all b)) (hn_b : b.length = n_b) (hc_b : n_b ≤ c_b) (k : Cx F O w w []) (r : (Vec UInt64 8)) (hm : m_node_mixBig h b c_Lo c_Hi last node = some r) :
    Calls Try.prog 62 (vals [.agg [.ar e64 h], sl A_b n_b c_b, .agg [.u64 c_Lo, .u64 c_Hi], .b last, .b node]) w (fun e w' => e = .returned (SV.val (.agg [.ar e64 r])) ∧ Cx F O w w' []) := by
 unfold m_node_mixBig at hm
 subst hn_b
 refine calz [.agg [.ar e64 h], sl A_b b.length c_b, .agg [.u64 c_Lo, .u64 c_Hi], .b last, .b node] Try.func62 rfl ?_
 refine W_seq <| W_reg <| WL_op <| Op_box [] 5 (.agg [.ar e64 h]) [.ar e64 h] (by kernel_rfl) k ?_
 intro g w_ k_
 refine WL_op <| Op_box [] 7 (.agg [.u64 c_Lo, .u64 c_Hi]) [.u64 c_Lo, .u64 c_Hi] (by kernel_rfl) k_ ?_
 intro g1 w_1 k_1
 refine WL_op <| Op_alloc [] 10 [.ar e64 (Vec.rep 8 (0 : UInt64))] (by kernel_rfl) k_1 ?_
 intro g2 w_2 k_2
 refine Wn <| W_seq <| W_reg <| We 1 (.n 14 (sl A_b b.length c_b) (.kkk (.sss .a))) ?_
 refine WL_op ?_
 obtain ⟨r_, h_r_, hm⟩ := ob hm
 refine Op_cz 15 ws_go70 (c_mixb_Words (F := N0) (O := N0) _ _ _ _ (Ro.n0 (h_b.cx k_2)) rfl hc_b (Cx.refl _) _ h_r_) ?_
 rintro e_ w_3 ⟨rfl, k_3⟩
 have k_4 := k_2.call k_3
 refine ⟨.tup [.agg [.ar e64 r_.1], I r_.2], rfl, ?_⟩
 refine We 3 (.n 16 (.agg [.ar e64 r_.1]) (.n 17 (I r_.2) (.ss .a))) ?_
 refine WL_op ?_
 have k_5 := k_4.sel (.kk (.k .e))
 refine Op_alloc [] 11 [.ar e64 (Vec.rep 16 (0 : UInt64))] (by kernel_rfl) k_5 ?_
 intro g3 w_4 k_6
 refine WL_op <| Op_bz 3 (.agg [.ar e64 r_.1]) [.ar e64 r_.1] (Pt.at g3 0) k_6 rfl .all ?_
 intro w_5 k_7
 refine We 1 (.k (.ss .a)) ?_
 refine Wn <| W_seq <| W_reg <| Wl 5 (.n 18 (.agg [.ar e64 h]) (.n 19 (.agg [.ar e64 r_.1]) (.n 20 (.agg [.u64 c_Lo, .u64 c_Hi]) (.n 21 (.b last) (.n 22 (.b node) (.s (.k .z))))))) (qT k_7 0 rfl 0 8 [.ar e64 h] (by kernel_rfl) (by decide) <| qT k_7 3 rfl 0 16 [.ar e64 r_.1] (by kernel_rfl) (by decide) <| qT k_7 1 rfl 0 2 [.u64 c_Lo, .u64 c_Hi] (by kernel_rfl) (by decide) <| qe) ?_
 refine WL_op ?_
 obtain ⟨r_1, h_r_1, hm⟩ := ob hm
 refine Op_cz 23 ws_go71 (c_mixb_F (F := N0) (O := N0) _ _ _ _ _ _ (Cx.refl _) _ h_r_1) ?_
 rintro e_ w_6 ⟨rfl, k_8⟩
 have k_9 := k_7.call k_8
 refine ⟨.agg [.ar e64 r_1], rfl, ?_⟩
 have k_10 := k_9.sel (.ss (.k .z))
 refine WL_op <| Op_bz 0 (.agg [.ar e64 r_1]) [.ar e64 r_1] (Pt.at g2 0) k_10 rfl .all ?_
 intro w_7 k_11
 refine Wn <| W_ret ?_
 obtain rfl := si hm
 refine At_rz [.agg [.ar e64 r_1]] (qo (.agg [.ar e64 r_1]) <| qc (fun w => Rd w (some ⟨g2, 0, none⟩) (SV.cl [.ar e64 r_1])) (k_11.brd 0 rfl) <| qe) ?_
 have k_12 := k_11.sel .z
 exact ⟨rfl, k_12⟩
theorem c_node_half_uint64_write (x_h : Vec UInt64 8) (x_count_Lo : UInt64) (x_count_Hi : UInt64) (x_held : List UInt8) (x_block : Int) (b : List UInt8) (g_x : Nat) (A_x_held : Option Addr) (n_x_held : Nat) (c_x_held : Nat) (A_b : Option Addr) (n_b : Nat) (c_b : Nat) (h_b : Ro F w A_b (e8.all b)) (hn_b : b.length = n_b) (hc_b : n_b ≤ c_b) (k : Cx F O w w [Bx 120 g_x [.ar e64 x_h, .u64 x_count_Lo, .u64 x_count_Hi, sl A_x_held n_x_held c_x_held, I x_block, .v (.func (.func 62) ⟨SV.vals []⟩ ⟨SV.vals []⟩), .v (.func (.func 63) ⟨SV.vals []⟩ ⟨SV.vals []⟩)], Ow e8 A_x_held n_x_held c_x_held x_held]) (r : (Vec UInt64 8 × UInt64 × UInt64 × List UInt8 × Int)) (hm : m_node_half_uint64_write x_h x_count_Lo x_count_Hi x_held x_block b = some r) :
    Calls Try.prog 112 (vals [pt g_x 0, sl A_b n_b c_b]) w (fun e w' => ∃ A n c, r.2.2.2.1.length = n ∧ e = .returned (SV.val (.tup [])) ∧ Cx F O w w' [Bx 120 g_x [.ar e64 r.1, .u64 r.2.1, .u64 r.2.2.1, sl A n c, I r.2.2.2.2, .v (.func (.func 62) ⟨SV.vals []⟩ ⟨SV.vals []⟩), .v (.func (.func 63) ⟨SV.vals []⟩ ⟨SV.vals []⟩)], Ow e8 A n c r.2.2.2.1]) := by
 unfold m_node_half_uint64_write at hm
 obtain rfl := k.len 1 rfl
 subst hn_b
 refine calz [pt g_x 0, sl A_b b.length c_b] Try.func112 rfl ?_
 refine W_block <| W_lp (m_node_half_uint64_write_l0 x_block) (fun s L wr => ∃ (x_0 : Vec UInt64 8) (x_5 : UInt64) (x_6 : UInt64) (x_7 : List UInt8) (b1 : List UInt8) (A0 : Option Addr) (n0 : Nat) (c0 : Nat) (A1 : Option Addr) (c1 : Nat), (x_0, x_5, x_6, x_7, b1) = s ∧ L = [(0, pt g_x 0), (1, sl A1 b1.length c1)] ∧ x_7.length = n0 ∧ Ro F w A1 (e8.all b1) ∧ b1.length ≤ c1 ∧ Cx F O w wr [Bx 120 g_x [.ar e64 x_0, .u64 x_5, .u64 x_6, sl A0 n0 c0, I x_block, .v (.func (.func 62) ⟨SV.vals []⟩ ⟨SV.vals []⟩), .v (.func (.func 63) ⟨SV.vals []⟩ ⟨SV.vals []⟩)], Ow e8 A0 n0 c0 x_7]) (x_h, x_count_Lo, x_count_Hi, x_held, b) r hm ⟨x_h, x_count_Lo, x_count_Hi, x_held, b, A_x_held, x_held.length, c_x_held, A_b, c_b, rfl, rfl, k.len 1 rfl, h_b, hc_b, k⟩ (by kernel_rfl) ?_
 intro s0_ L_ w_ y0 hrel hstep hr0
 obtain ⟨x_0, x_5, x_6, x_7, b1, A0, _, c0, A1, c1, rfl, rfl, rfl, h, hc, k_⟩ := hrel
 have hm := hstep; simp only [m_node_half_uint64_write_l0] at hm
 clear hstep
 refine W_seq <| W_seq <| Wq (.n 7 (.b (decide (0 < (b1.length : Int)))) .a) ?_
 refine W_pz (0 < (b1.length : Int)) (fun hc1 => ?_) fun hc1 => ?_
 · rw [if_pos hc1] at hm
   refine W_skip <| At_go <| W_block <| W_cut (fun L wr => ∃ (x_8 : Vec UInt64 8) (x_9 : UInt64) (x_10 : UInt64) (x_11 : List UInt8) (A2 : Option Addr) (n1 : Nat) (c2 : Nat), m_node_half_uint64_write_j0 x_block b1 x_8 x_9 x_10 x_11 = some y0 ∧ L = [(0, pt g_x 0), (1, sl A1 b1.length c1)] ∧ x_11.length = n1 ∧ Cx F O w wr [Bx 120 g_x [.ar e64 x_8, .u64 x_9, .u64 x_10, sl A2 n1 c2, I x_block, .v (.func (.func 62) ⟨SV.vals []⟩ ⟨SV.vals []⟩), .v (.func (.func 63) ⟨SV.vals []⟩ ⟨SV.vals []⟩)], Ow e8 A2 n1 c2 x_11]) ?_ ?_
   ·
    refine W_seq <| W_d ws_mixed (by kernel_rfl) (.n 17 (.b (decide ((x_7.length : Int) = x_block))) (.s .a)) (fun m => qs g_x 0 <| qs g_x 0 <| qB (k_.drew m) 0 rfl 10 (sl A0 x_7.length c0) (by kernel_rfl) <| qs g_x 0 <| qs g_x 0 <| qB (k_.drew m) 0 rfl 11 (I x_block) (by kernel_rfl) <| qe) (by kernel_rfl) (fun m_ => ?_)
    have k_1 := k_.drew m_
    refine At_go <| W_pz ((x_7.length : Int) = x_block) (fun hc2 => ?_) fun hc2 => ?_
    · rw [if_pos hc2] at hm
      refine W_seq ?_
      have k_2 := k_1.drew 1
      refine W_m ws_mixed (.q 0 1 (.q 1 1 (.q 2 1 (.q 3 0 (.q 4 0 (.q 5 1 (.q 6 1 (.q 7 1 (.q 8 0 (.q 9 0 (.op 10 (.q 11 1 (.q 12 1 (.q 14 1 (.q 15 1 (.q 13 2 (.op 16 .nil))))))))))))))))) [10, 16] k_2 (.c (.kk .e) (.c (.s (.k .e)) .l)) (by kernel_rfl) (fun _ => ?_)
      refine MXz 3 1 (.n 19 (pt g_x 0) (.n 21 (pt g_x 0) (.s .a))) (fun x hx => qs g_x 0 <| qe) fun _ => ?_
      refine MXz 2 0 (.n 23 (.agg [.u64 x_5, .u64 x_6]) (.k (.s .a))) (fun x hx => qs g_x 0 <| qT hx 0 rfl 8 2 [.u64 x_5, .u64 x_6] (by kernel_rfl) (by decide) <| qe) fun _ => ?_
      refine MXz 3 1 (.n 26 (pt g_x 11) .a) (fun x hx => qs g_x 0 <| qs g_x 0 <| qe) fun _ => ?_
      refine MXz 2 0 (.n 28 (.u64 (UInt64.ofInt x_block)) (.s .a)) (fun x hx => qB hx 0 rfl 11 (I x_block) (by kernel_rfl) <| qe) fun _ => ?_
      refine MX_op (by kernel_rfl) rfl ?_
      obtain ⟨r_, h_r_, hm⟩ := ob hm
      refine Op_cz 29 ws_go113 (c_word_Add (F := N0) (O := N0) _ _ _ (Cx.refl _) _ h_r_) ?_
      rintro e_ w_1 ⟨rfl, k_3⟩
      have k_4 := k_2.call k_3
      refine ⟨.tup [.agg [.u64 r_.1, .u64 r_.2.1], .b r_.2.2], rfl, ?_⟩
      refine ⟨k_4, fun _ => ?_⟩
      refine MXz 4 1 (.n 18 (.tup [.agg [.u64 r_.1, .u64 r_.2.1], .b r_.2.2]) (.n 30 (.agg [.u64 r_.1, .u64 r_.2.1]) (.n 33 (pt g_x 8) (.ssss .a)))) (fun x hx => qs g_x 0 <| qs g_x 0 <| qe) fun _ => ?_
      refine MXz 1 2 (.s .a) (fun x hx => qe) fun _ => ?_
      refine MX_op (by kernel_rfl) rfl <| Op_bz 0 (.agg [.u64 r_.1, .u64 r_.2.1]) [.u64 r_.1, .u64 r_.2.1] (Pt.at g_x 8) k_4 rfl (.k .h2) ?_
      intro w_2 k_5
      refine ⟨(k_5.sel (.s (.k .e))), fun _ => ?_⟩
      refine MX_nil <| At_go <| W_seq ?_
      have k_6 := k_5.drew 1
      refine W_m ws_mixed (.q 0 1 (.q 1 1 (.q 2 1 (.q 3 0 (.q 4 0 (.q 5 1 (.q 6 1 (.q 7 0 (.q 8 0 (.q 9 1 (.q 10 1 (.q 11 0 (.q 12 0 (.q 13 1 (.q 14 1 (.q 15 0 (.q 16 0 (.op 17 (.q 18 1 (.q 19 1 (.op 20 .nil))))))))))))))))))))) [17, 20] k_6 (.c (.kk .e) (.c (.s (.k .e)) .l)) (by kernel_rfl) (fun _ => ?_)
      refine MXz 3 1 (.n 34 (pt g_x 0) (.n 36 (pt g_x 0) (.ss .a))) (fun x hx => qs g_x 0 <| qe) fun _ => ?_
      refine MXz 2 0 (.n 38 (.v (.func (.func 62) ⟨SV.vals []⟩ ⟨SV.vals []⟩)) (.k (.s .a))) (fun x hx => qs g_x 0 <| qB hx 0 rfl 12 (.v (.func (.func 62) ⟨SV.vals []⟩ ⟨SV.vals []⟩)) (by kernel_rfl) <| qe) fun _ => ?_
      refine MXz 2 1 (.n 40 (pt g_x 0) .a) (fun x hx => qs g_x 0 <| qe) fun _ => ?_
      refine MXz 2 0 (.n 42 (.agg [.ar e64 x_0]) (.s .a)) (fun x hx => qs g_x 0 <| qT hx 0 rfl 0 8 [.ar e64 x_0] (by kernel_rfl) (by decide) <| qe) fun _ => ?_
      refine MXz 2 1 (.n 44 (pt g_x 0) .a) (fun x hx => qs g_x 0 <| qe) fun _ => ?_
      refine MXz 2 0 (.n 46 (sl A0 x_7.length c0) (.s .a)) (fun x hx => qs g_x 0 <| qB hx 0 rfl 10 (sl A0 x_7.length c0) (by kernel_rfl) <| qe) fun _ => ?_
      refine MXz 2 1 (.n 48 (pt g_x 0) .a) (fun x hx => qs g_x 0 <| qe) fun _ => ?_
      refine MXz 2 0 (.n 50 (.agg [.u64 r_.1, .u64 r_.2.1]) (.s .a)) (fun x hx => qs g_x 0 <| qT hx 0 rfl 8 2 [.u64 r_.1, .u64 r_.2.1] (by kernel_rfl) (by decide) <| qe) fun _ => ?_
      refine MX_op (by kernel_rfl) rfl ?_
      obtain ⟨r_1, h_r_1, hm⟩ := ob hm
      refine Op_callv [] 51 [] [.agg [.ar e64 x_0], sl A0 x_7.length c0, .agg [.u64 r_.1, .u64 r_.2.1], .b false, .b false] [] ws_go62 (by kernel_rfl) (c_node_mixBig (F := N0) (O := N0) _ _ _ _ _ _ _ _ _ (Ro.n0 (k_6.rd 1 rfl)) (k_6.len 1 rfl) (k_6.lec 1 rfl) (Cx.refl _) _ h_r_1) ?_
      rintro e_ w_3 ⟨rfl, k_7⟩
      have k_8 := k_6.call k_7
      refine ⟨.agg [.ar e64 r_1], rfl, ?_⟩
      refine ⟨k_8, fun _ => ?_⟩
      refine MXz 2 1 (.n 53 (pt g_x 0) (.k (.ssss (.s .a)))) (fun x hx => qs g_x 0 <| qs g_x 0 <| qe) fun _ => ?_
      refine MX_op (by kernel_rfl) rfl <| Op_bz 0 (.agg [.ar e64 r_1]) [.ar e64 r_1] (Pt.at g_x 0) k_8 rfl .h ?_
      intro w_4 k_9
      refine ⟨(k_9.sel (.s (.k .e))), fun _ => ?_⟩
      refine MX_nil <| At_go <| W_reg ?_
      obtain ⟨b2, h_b2, hm⟩ := ob hm
      have hs := slc_some h_b2
      have hl := slc_len h_b2
      have hn : x_7.length = x_7.length := (k_9.len 1 rfl)
      have hc3 : x_7.length ≤ c0 := (k_9.lec 1 rfl)
      have hc4 : b2.length ≤ c0 := by omega
      refine Wl 8 (.n 59 (sl A0 b2.length c0) (.n 61 (pt g_x 10) (.ss .a))) (qs g_x 0 <| qs g_x 0 <| qB k_9 0 rfl 10 (sl A0 x_7.length c0) (by kernel_rfl) <| qp (0 ≤ (0 : Int) ∧ (0 : Int) ≤ (c0 : Int)) (by omega) <| qo (.v (.slice A0 b2.length c0)) <| qp (Value.slice (slA A0 0 c0 1) (Int.toNat (0 : Int) - 0) (c0 - 0) = .slice A0 b2.length c0) (slx0 _ _ _ _ _ (by omega)) <| qs g_x 0 <| qs g_x 0 <| qe) ?_
      refine WL_op ?_
      have k_10 := k_9.sel (.kk .e)
      refine Op_bz 0 (sl A0 b2.length c0) [sl A0 b2.length c0] (Pt.at g_x 10) k_10 rfl (.kk (.k .h)) ?_
      intro w_5 k_11
      refine WL_nil ?_
      have k_12 := k_11.pre 1 rfl b2.length c0 b2 (by omega) (by omega) (by omega) (slc_pre h_b2 rfl)
      exact At_cz ⟨r_1, r_.1, r_.2.1, b2, A0, b2.length, c0, hm, rfl, k_12.len 1 rfl, k_12⟩
    rw [if_neg hc2] at hm
    refine W_skip ?_
    exact At_cz ⟨x_0, x_5, x_6, x_7, A0, x_7.length, c0, hm, rfl, k_1.len 1 rfl, k_1⟩
   rintro L_ w_6 ⟨x_8, x_9, x_10, x_11, A2, _, c2, hm, rfl, rfl, k_13⟩
   simp only [m_node_half_uint64_write_j0] at hm
   refine W_seq <| W_d ws_mixed (by kernel_rfl) (.n 4 (I (if w64 (x_block - (x_11.length : Int)) < (b1.length : Int) then w64 (x_block - (x_11.length : Int)) else (b1.length : Int))) .a) (fun m => qs g_x 0 <| qs g_x 0 <| qB (k_13.drew m) 0 rfl 11 (I x_block) (by kernel_rfl) <| qs g_x 0 <| qs g_x 0 <| qB (k_13.drew m) 0 rfl 10 (sl A2 x_11.length c2) (by kernel_rfl) <| qe) (by kernel_rfl) (fun m_1 => ?_)
   have k_14 := k_13.drew m_1
   refine At_go <| W_seq ?_
   have k_15 := k_14.drew 1
   refine W_m ws_mixed (.q 5 0 (.q 6 0 (.q 7 0 (.q 0 1 (.q 1 1 (.q 2 1 (.q 3 0 (.q 4 0 (.op 8 (.q 9 1 (.q 10 1 (.op 11 .nil)))))))))))) [8, 11] k_15 (.c (.k .z) (.c (.z) .l)) (by kernel_rfl) (fun _ => ?_)
   obtain ⟨b3, h_b3, hm⟩ := ob hm
   have hs1 := slc_some h_b3
   have hl1 := slc_len h_b3
   have hn1 : b1.length = b1.length := rfl
   have hc5 : b1.length ≤ c1 := hc
   have hc6 : b3.length ≤ c1 := by omega
   refine MXz 3 0 (.n 82 (sl A1 b3.length c1) .a) (fun x hx => qp (0 ≤ (if w64 (x_block - (x_11.length : Int)) < (b1.length : Int) then w64 (x_block - (x_11.length : Int)) else (b1.length : Int)) ∧ (if w64 (x_block - (x_11.length : Int)) < (b1.length : Int) then w64 (x_block - (x_11.length : Int)) else (b1.length : Int)) ≤ (c1 : Int)) (by omega) <| qo (.v (.slice A1 b3.length c1)) <| qp (Value.slice (slA A1 0 c1 1) (Int.toNat (if w64 (x_block - (x_11.length : Int)) < (b1.length : Int) then w64 (x_block - (x_11.length : Int)) else (b1.length : Int)) - 0) (c1 - 0) = .slice A1 b3.length c1) (slx0 _ _ _ _ _ (by omega)) <| qe) fun _ => ?_
   refine MXz 3 1 (.n 75 (pt g_x 0) (.n 77 (pt g_x 0) .a)) (fun x hx => qs g_x 0 <| qe) fun _ => ?_
   refine MXz 2 0 (.n 79 (sl A2 x_11.length c2) (.k (.s .a))) (fun x hx => qs g_x 0 <| qB hx 0 rfl 10 (sl A2 x_11.length c2) (by kernel_rfl) <| qe) fun _ => ?_
   refine MX_op (by kernel_rfl) rfl ?_
   obtain ⟨b4, h_b4, hm⟩ := ob hm
   obtain ⟨hz, hl2⟩ := app_some h_b4
   refine Op_append (E := e8) (v := sl A1 b3.length c1) (ys := b3) ws_tf23 [] 83 1 (by kernel_rfl) k_15 rfl (Src.sl (Rd.pre (h.cx k_15) h_b3 rfl) rfl (by rfl)) rfl (by have := k_15.len 1 rfl; have := hm; omega) ?_
   intro A3 c3 w_7 k_16
   rw [← hl2] at k_16
   refine ⟨(k_16.sel (.k .z)), fun _ => ?_⟩
   refine MXz 2 1 (.n 85 (pt g_x 10) (.k (.sss .a))) (fun x hx => qs g_x 0 <| qs g_x 0 <| qe) fun _ => ?_
   refine MX_op (by kernel_rfl) rfl <| Op_bz 0 (sl A3 (x_11.length + b3.length) c3) [sl A3 (x_11.length + b3.length) c3] (Pt.at g_x 10) k_16 rfl (.kk (.k .h)) ?_
   intro w_8 k_17
   refine ⟨(k_17.sel .z), fun _ => ?_⟩
   refine MX_nil <| At_go ?_
   obtain ⟨b5, h_b5, hm⟩ := ob hm
   have hs2 := slc_some h_b5
   have hl3 := slc_len h_b5
   have hn2 : b1.length = b1.length := rfl
   have hc7 : b1.length ≤ c1 := hc
   obtain ⟨A4, c4, e_, hc8, hA, hc9⟩ := slx A1 (Int.toNat (if w64 (x_block - (x_11.length : Int)) < (b1.length : Int) then w64 (x_block - (x_11.length : Int)) else (b1.length : Int))) c1 1 (b1.length - Int.toNat (if w64 (x_block - (x_11.length : Int)) < (b1.length : Int) then w64 (x_block - (x_11.length : Int)) else (b1.length : Int))) b5.length (by omega) (by omega)
   refine W_q [] (.n 1 (sl A4 b5.length c4) (.sss (.k .z))) (qp (0 ≤ (if w64 (x_block - (x_11.length : Int)) < (b1.length : Int) then w64 (x_block - (x_11.length : Int)) else (b1.length : Int)) ∧ (if w64 (x_block - (x_11.length : Int)) < (b1.length : Int) then w64 (x_block - (x_11.length : Int)) else (b1.length : Int)) ≤ (b1.length : Int)) (by omega) <| qo (.v (.slice A4 b5.length c4)) <| qp (Value.slice (slA A1 (Int.toNat (if w64 (x_block - (x_11.length : Int)) < (b1.length : Int) then w64 (x_block - (x_11.length : Int)) else (b1.length : Int))) c1 1) (b1.length - Int.toNat (if w64 (x_block - (x_11.length : Int)) < (b1.length : Int) then w64 (x_block - (x_11.length : Int)) else (b1.length : Int))) (c1 - Int.toNat (if w64 (x_block - (x_11.length : Int)) < (b1.length : Int) then w64 (x_block - (x_11.length : Int)) else (b1.length : Int))) = .slice A4 b5.length c4) e_ <| qe) (by kernel_rfl) ?_
   refine At_in ?_
   exact At_rd (x_8, x_9, x_10, b4, b5) (Option.some.inj hm).symm ⟨x_8, x_9, x_10, b4, b5, A3, x_11.length + b3.length, c3, A4, c4, rfl, rfl, k_17.len 1 rfl, (Ro.cut h h_b5 rfl (by rfl) hA (by omega)), hc8, k_17⟩ (by kernel_rfl)
 rw [if_neg hc1] at hm
 refine W_exit (At_te (At_te (At_ie ?_)))
 have hm := exit_of hm hr0
 obtain rfl := si hm
 refine At_en [] qe (by kernel_rfl) ?_
 exact ⟨A0, x_7.length, c0, k_.len 1 rfl, rfl, k_⟩
theorem c_mixs_Words (b : List UInt8) (A_b : Option Addr) (n_b : Nat) (c_b : Nat) (h_b : Ro F w A_b (e8.all b)) (hn_b : b.length = n_b) (hc_b : n_b ≤ c_b) (k : Cx F O w w []) (r : (Vec UInt32 16 × Int)) (hm : m_mixs_Words b = some r) :
    Calls Try.prog 76 (vals [sl A_b n_b c_b]) w (fun e w' => e = .returned (SV.val (.tup [.agg [.ar e32 r.1], I r.2])) ∧ Cx F O w w' []) := by
 unfold m_mixs_Words at hm
 subst hn_b
 refine calz [sl A_b b.length c_b] Try.func76 rfl ?_
 refine W_seq <| W_reg <| WL_op <| Op_alloc [] 2 [.ar e32 (Vec.rep 16 (0 : UInt32))] (by kernel_rfl) k ?_
 intro g w_ k_
 refine We 1 .a ?_
 refine Wn <| W_seq <| W_reg <| WL_op <| Op_alloc [] 4 [.ar e32 (Vec.rep 16 (0 : UInt32))] (by kernel_rfl) k_ ?_
 intro g1 w_1 k_1
 refine Wn <| W_seq <| W_seq <| W_reg <| We 1 (.n 6 (sl A_b b.length c_b) .a) ?_
 refine WL_op ?_
 obtain ⟨r_, h_r_, hm⟩ := ob hm
 refine Op_cz 7 ws_go73 (c_mixs_right (F := N0) (O := N0) _ _ _ _ _ (Ro.n0 (h_b.cx k_1)) rfl hc_b (Cx.refl _) _ h_r_) ?_
 rintro e_ w_2 ⟨rfl, k_2⟩
 have k_3 := k_1.call k_2
 refine ⟨I r_, rfl, ?_⟩
 refine We 1 (.n 5 (I r_) (.ss .a)) ?_
 refine Wn <| W_seq <| Wq (.n 9 (.b (decide (r_ ≠ 0))) .a) ?_
 refine W_pz (r_ ≠ 0) (fun hc => ?_) fun hc => ?_
 · rw [if_pos hc] at hm
   refine W_seq <| W_reg <| Wl 2 (.n 10 (.agg [.ar e32 (Vec.rep 16 (0 : UInt32))]) (.n 11 (I r_) (.sss (.k .z)))) (qT k_3 1 rfl 0 16 [.ar e32 (Vec.rep 16 (0 : UInt32))] (by kernel_rfl) (by decide) <| qe) ?_
   refine WL_op <| Op_bz 0 (.agg [.ar e32 (Vec.rep 16 (0 : UInt32))]) [.ar e32 (Vec.rep 16 (0 : UInt32))] (Pt.at g 0) k_3 rfl .all ?_
   intro w_3 k_4
   have k_5 := k_4.sel (.k .z)
   refine We 1 (.n 3 (I r_) (.ss .a)) ?_
   refine Wn <| W_ret (At_tr ?_)
   obtain rfl := si hm
   refine At_rz [.agg [.ar e32 (Vec.rep 16 (0 : UInt32))], I r_] (qo (.agg [.ar e32 (Vec.rep 16 (0 : UInt32))]) <| qc (fun w => Rd w (some ⟨g, 0, none⟩) (SV.cl [.ar e32 (Vec.rep 16 (0 : UInt32))])) (k_5.brd 0 rfl) <| qe) ?_
   have k_6 := k_5.sel .z
   exact ⟨rfl, k_6⟩
 rw [if_neg hc] at hm
 refine W_skip <| At_go <| W_seq <| W_reg <| Wl 2 (.n 12 (sl (some ⟨g1, 0, none⟩) 16 16) (.n 13 (sl A_b b.length c_b) (.ss (.kk .z)))) (qo (.v (.slice (some ⟨g1, 0, none⟩) 16 16)) <| qp (((some ⟨g1, 0, none⟩) : Option Addr).isSome = true ∧ Value.slice (slA (some ⟨g1, 0, none⟩) 0 16 1) (16 - 0) (16 - 0) = .slice (some ⟨g1, 0, none⟩) 16 16) ⟨rfl, slx0 _ _ _ _ _ rfl⟩ <| qe) ?_
 refine WL_op ?_
 have k_7 := k_3.openV [] [] 1 rfl
 obtain ⟨r_1, h_r_1, hm⟩ := ob hm
 obtain ⟨F1, O1, kin, hO, hre, hF, hb⟩ := k_7.go (.r (.i .e))
 refine Op_cz 14 ws_go74 (c_mixs_words (F := F1) (O := O1) _ _ _ _ _ _ _ _ _ (Nat.le_refl _) (Ro.of_old h_b k_7 hF) rfl hc_b kin _ h_r_1) ?_
 rintro e_ w_4 ⟨rfl, k_8⟩
 have k_9 := hb w_4 _ _ k_8 (.c .n)
 refine ⟨.tup [], rfl, ?_⟩
 have k_10 := k_9.shutV [] [] 0 rfl (Vec.of 16 r_1) (Vec.of_l (k_9.mlen 0 rfl))
 refine Wn <| W_seq <| W_reg <| Wl 1 (.n 15 (.agg [.ar e32 (Vec.of 16 r_1)]) (.ssss .a)) (qT k_10 0 rfl 0 16 [.ar e32 (Vec.of 16 r_1)] (by kernel_rfl) (by decide) <| qe) ?_
 refine WL_op ?_
 have k_11 := k_10.sel (.kk .e)
 refine Op_bz 1 (.agg [.ar e32 (Vec.of 16 r_1)]) [.ar e32 (Vec.of 16 r_1)] (Pt.at g 0) k_11 rfl .all ?_
 intro w_5 k_12
 have k_13 := k_12.sel (.s (.k .e))
 refine We 1 (.n 3 (I 0) (.s .a)) ?_
 refine Wn <| W_ret ?_
 obtain rfl := si hm
 refine At_rz [.agg [.ar e32 (Vec.of 16 r_1)], I 0] (qo (.agg [.ar e32 (Vec.of 16 r_1)]) <| qc (fun w => Rd w (some ⟨g, 0, none⟩) (SV.cl [.ar e32 (Vec.of 16 r_1)])) (k_13.brd 0 rfl) <| qe) ?_
 have k_14 := k_13.sel .z
 exact ⟨rfl, k_14⟩
theorem c_mixs_Begin (h : Vec UInt32 8) (count : UInt64) (last : Bool) (node : Bool) (k : Cx F O w w []) (r : (Vec UInt32 16)) (hm : m_mixs_Begin h count last node = some r) :
    Calls Try.prog 82 (vals [.agg [.ar e32 h], .u64 count, .b last, .b node]) w (fun e w' => e = .returned (SV.val (.agg [.ar e32 r])) ∧ Cx F O w w' []) := by
 unfold m_mixs_Begin at hm
 refine calz [.agg [.ar e32 h], .u64 count, .b last, .b node] Try.func82 rfl ?_
 refine W_seq <| W_reg <| WL_op <| Op_box [] 4 (.agg [.ar e32 h]) [.ar e32 h] (by kernel_rfl) k ?_
 intro g w_ k_
 refine WL_op <| Op_alloc [] 8 [.ar e32 (Vec.rep 16 (0 : UInt32))] (by kernel_rfl) k_ ?_
 intro g1 w_1 k_1
 refine Wn <| W_seq <| W_reg <| WL_op <| Op_alloc [] 9 [.ar e32 (Vec.rep 16 (0 : UInt32))] (by kernel_rfl) k_1 ?_
 intro g2 w_2 k_2
 refine Wn <| W_seq <| W_reg <| WL_op ?_
 obtain ⟨r_, h_r_, hm⟩ := ob hm
 refine Op_cz 11 ws_go75 (c_mixs_IV (F := N0) (O := N0)  (Cx.refl _) _ h_r_) ?_
 rintro e_ w_3 ⟨rfl, k_3⟩
 have k_4 := k_2.call k_3
 refine ⟨.agg [.ar e32 r_], rfl, ?_⟩
 refine WL_op ?_
 have k_5 := k_4.sel (.kk (.k .e))
 refine Op_alloc [] 10 [.ar e32 (Vec.rep 8 (0 : UInt32))] (by kernel_rfl) k_5 ?_
 intro g3 w_4 k_6
 refine WL_op <| Op_bz 3 (.agg [.ar e32 r_]) [.ar e32 r_] (Pt.at g3 0) k_6 rfl .all ?_
 intro w_5 k_7
 refine Wn <| W_seq ?_
 have k_8 := k_7.drew 1
 refine W_m ws_mixed (.q 0 0 (.q 1 0 (.op 2 .nil))) [2] k_8 (.c (.kk (.s (.k .e))) .l) (by kernel_rfl) (fun _ => ?_)
 obtain ⟨b, h_b, hm⟩ := ob hm
 have hs := slc_some h_b
 have hl := slc_len h_b
 have hn : ((Vec.rep 16 (0 : UInt32)).l).length = 16 := (Vec.rep 16 (0 : UInt32)).h
 have hc : 16 ≤ 16 := (Nat.le_refl _)
 have hc1 : b.length ≤ 16 := by omega
 refine MXz 2 0 (.n 12 (sl (some ⟨g2, 0, none⟩) b.length 16) (.n 13 (sl (some ⟨g, 0, none⟩) 8 8) (.k (.s (.kk (.ss .a)))))) (fun x hx => qp (0 ≤ (8 : Int) ∧ (8 : Int) ≤ ((16 : Nat) : Int)) (by omega) <| qo (.v (.slice (some ⟨g2, 0, none⟩) b.length 16)) <| qp (((some ⟨g2, 0, none⟩) : Option Addr).isSome = true ∧ Value.slice (slA (some ⟨g2, 0, none⟩) 0 16 1) (Int.toNat (8 : Int) - 0) (16 - 0) = .slice (some ⟨g2, 0, none⟩) b.length 16) ⟨rfl, slx0 _ _ _ _ _ (by omega)⟩ <| qo (.v (.slice (some ⟨g, 0, none⟩) 8 8)) <| qp (((some ⟨g, 0, none⟩) : Option Addr).isSome = true ∧ Value.slice (slA (some ⟨g, 0, none⟩) 0 8 1) (8 - 0) (8 - 0) = .slice (some ⟨g, 0, none⟩) 8 8) ⟨rfl, slx0 _ _ _ _ _ rfl⟩ <| qe) fun _ => ?_
 refine MX_op (by kernel_rfl) rfl <| Op_vcp (E := e32) (dn := b.length) (dc := 16) (v := sl (some ⟨g, 0, none⟩) 8 8) (src := h.l) (lo := 0) (m' := 16) ws_tf139 [] 14 2 [] [] (Vec.rep 16 (0 : UInt32)) (by kernel_rfl) (slA_zero _ _ _).symm k_8 rfl (Src.sl (Rd.vec (k_8.brd 0 rfl) (c := Enc.all e32 h.l) (off := 0) (by kernel_rfl)) h.h (by rfl)) h.h (by have := (Vec.rep 16 (0 : UInt32)).h; omega) (by omega) (by omega) ?_
 intro w_6 k_9
 refine ⟨(k_9.sel (.kk (.s (.k .e)))), fun _ => ?_⟩
 refine MX_nil <| At_go <| W_seq ?_
 have k_10 := k_9.drew 1
 refine W_m ws_mixed (.q 0 0 (.q 1 0 (.op 2 .nil))) [2] k_10 (.c (.kk (.s (.k .e))) .l) (by kernel_rfl) (fun _ => ?_)
 obtain ⟨b1, h_b1, hm⟩ := ob hm
 have hs1 := slc_some h_b1
 have hl1 := slc_len h_b1
 have hn1 : ((vcp (Vec.rep 16 (0 : UInt32)) 0 b.length h.l).l).length = 16 := (vcp (Vec.rep 16 (0 : UInt32)) 0 b.length h.l).h
 have hc2 : 16 ≤ 16 := (Nat.le_refl _)
 obtain ⟨A, c, e_, hc3, hA, hc4⟩ := slx (some ⟨g2, 0, none⟩) (Int.toNat (8 : Int)) 16 1 (16 - Int.toNat (8 : Int)) b1.length (by omega) (by omega)
 refine MXz 2 0 (.n 15 (sl A b1.length c) (.n 16 (sl (some ⟨g3, 0, none⟩) 8 8) (.ssss .a))) (fun x hx => qp (0 ≤ (8 : Int) ∧ (8 : Int) ≤ ((16 : Nat) : Int)) (by omega) <| qo (.v (.slice A b1.length c)) <| qp (((some ⟨g2, 0, none⟩) : Option Addr).isSome = true ∧ Value.slice (slA (some ⟨g2, 0, none⟩) (Int.toNat (8 : Int)) 16 1) (16 - Int.toNat (8 : Int)) (16 - Int.toNat (8 : Int)) = .slice A b1.length c) ⟨rfl, e_⟩ <| qo (.v (.slice (some ⟨g3, 0, none⟩) 8 8)) <| qp (((some ⟨g3, 0, none⟩) : Option Addr).isSome = true ∧ Value.slice (slA (some ⟨g3, 0, none⟩) 0 8 1) (8 - 0) (8 - 0) = .slice (some ⟨g3, 0, none⟩) 8 8) ⟨rfl, slx0 _ _ _ _ _ rfl⟩ <| qe) fun _ => ?_
 refine MX_op (by kernel_rfl) rfl <| Op_vcp (E := e32) (dn := b1.length) (dc := c) (v := sl (some ⟨g3, 0, none⟩) 8 8) (src := r_.l) (lo := Int.toNat (8 : Int)) (m' := 16) ws_tf139 [] 17 2 [] [] (vcp (Vec.rep 16 (0 : UInt32)) 0 b.length h.l) (by kernel_rfl) hA k_10 rfl (Src.sl (Rd.vec (k_10.brd 3 rfl) (c := Enc.all e32 r_.l) (off := 0) (by kernel_rfl)) r_.h (by rfl)) r_.h (by have := (vcp (Vec.rep 16 (0 : UInt32)) 0 b.length h.l).h; omega) (by omega) (by omega) ?_
 intro w_7 k_11
 refine ⟨(k_11.sel (.kk (.s (.k .e)))), fun _ => ?_⟩
 refine MX_nil <| At_go <| W_seq <| W_reg ?_
 obtain ⟨x_0, zh0, hm⟩ := ob hm
 obtain ⟨x_1, zh1, hm⟩ := ob hm
 refine Wl 6 (.n 22 (.u32 (x_0 ^^^ (UInt32.ofNat count.toNat))) (.n 23 (.v (.pointer (ixA (some ⟨g2, 0, none⟩) (12 : Int) 1))) (.sss .a))) (qV (k_11.vrd 2 rfl e32 (vcp (vcp (Vec.rep 16 (0 : UInt32)) 0 b.length h.l) (Int.toNat (8 : Int)) b1.length r_.l) 0 (by kernel_rfl)) zh0 rfl (.u32 x_0) rfl <| qI g2 0 zh1 <| qe) ?_
 refine WL_op ?_
 have k_12 := k_11.sel (.kkkk .e)
 obtain ⟨v, h_v, hm⟩ := nm hm
 refine Op_vz 2 (.u32 (x_0 ^^^ (UInt32.ofNat count.toNat))) [.u32 (x_0 ^^^ (UInt32.ofNat count.toNat))] h_v zh1 (Pt.ix0 (Pt.at g2 0) (12 : Int) 1) k_12 rfl .h rfl ?_
 intro w_8 k_13
 refine Wn <| W_seq <| W_reg ?_
 obtain ⟨x_2, zh2, hm⟩ := ob hm
 obtain ⟨x_3, zh3, hm⟩ := ob hm
 refine Wl 7 (.n 29 (.u32 (x_2 ^^^ (UInt32.ofNat (shr64 count ((32 : UInt64).toNat)).toNat))) (.n 30 (.v (.pointer (ixA (some ⟨g2, 0, none⟩) (13 : Int) 1))) (.ss (.kk (.s .a))))) (qV (k_13.vrd 2 rfl e32 v 0 (by kernel_rfl)) zh2 rfl (.u32 x_2) rfl <| qI g2 0 zh3 <| qe) ?_
 refine WL_op ?_
 obtain ⟨v1, h_v1, hm⟩ := nm hm
 refine Op_vz 2 (.u32 (x_2 ^^^ (UInt32.ofNat (shr64 count ((32 : UInt64).toNat)).toNat))) [.u32 (x_2 ^^^ (UInt32.ofNat (shr64 count ((32 : UInt64).toNat)).toNat))] h_v1 zh3 (Pt.ix0 (Pt.at g2 0) (13 : Int) 1) k_13 rfl .h rfl ?_
 intro w_9 k_14
 refine Wn <| W_cut (fun L wr => ∃ (v2 : Vec UInt32 16), m_mixs_Begin_j0 node v2 = some r ∧ L = [(3, .b node), (8, pt g1 0), (9, pt g2 0)] ∧ Cx F O w wr [Bx 141 g1 [.ar e32 (Vec.rep 16 (0 : UInt32))], Bx 141 g2 [.ar e32 v2]]) ?_ ?_
 ·
  refine W_seq <| Wq (.n 31 (.b last) (.ss (.kk (.s .a)))) ?_
  refine W_cz last (fun hc5 => ?_) fun hc5 => ?_
  · rw [if_pos hc5] at hm
    refine W_reg ?_
    obtain ⟨x_4, zh4, hm⟩ := ob hm
    obtain ⟨x_5, zh5, hm⟩ := ob hm
    refine Wl 4 (.n 34 (.u32 (4294967295 ^^^ x_4)) (.n 35 (.v (.pointer (ixA (some ⟨g2, 0, none⟩) (14 : Int) 1))) (.s .a))) (qV (k_14.vrd 2 rfl e32 v1 0 (by kernel_rfl)) zh4 rfl (.u32 x_4) rfl <| qI g2 0 zh5 <| qe) ?_
    refine WL_op ?_
    obtain ⟨v3, h_v3, hm⟩ := nm hm
    refine Op_vz 2 (.u32 (4294967295 ^^^ x_4)) [.u32 (4294967295 ^^^ x_4)] h_v3 zh5 (Pt.ix0 (Pt.at g2 0) (14 : Int) 1) k_14 rfl .h rfl ?_
    intro w_10 k_15
    refine WL_nil ?_
    have k_16 := k_15.sel (.s (.kk .z))
    exact At_cz ⟨v3, hm, rfl, k_16⟩
  rw [if_neg (by rw [hc5]; decide)] at hm
  refine W_skip ?_
  have k_17 := k_14.sel (.s (.kk .z))
  exact At_cz ⟨v1, hm, rfl, k_17⟩
 rintro L_ w_11 ⟨v2, hm, rfl, k_18⟩
 simp only [m_mixs_Begin_j0] at hm
 refine W_cut (fun L wr => ∃ (v4 : Vec UInt32 16), m_mixs_Begin_j1 v4 = some r ∧ L = [(8, pt g1 0), (9, pt g2 0)] ∧ Cx F O w wr [Bx 141 g1 [.ar e32 (Vec.rep 16 (0 : UInt32))], Bx 141 g2 [.ar e32 v4]]) ?_ ?_
 ·
  refine W_seq <| Wq (.n 36 (.b node) (.s .a)) ?_
  refine W_cz node (fun hc6 => ?_) fun hc6 => ?_
  · rw [if_pos hc6] at hm
    refine W_reg ?_
    obtain ⟨x_6, zh6, hm⟩ := ob hm
    obtain ⟨x_7, zh7, hm⟩ := ob hm
    refine Wl 4 (.n 39 (.u32 (4294967295 ^^^ x_6)) (.n 40 (.v (.pointer (ixA (some ⟨g2, 0, none⟩) (15 : Int) 1))) (.s .a))) (qV (k_18.vrd 1 rfl e32 v2 0 (by kernel_rfl)) zh6 rfl (.u32 x_6) rfl <| qI g2 0 zh7 <| qe) ?_
    refine WL_op ?_
    obtain ⟨v5, h_v5, hm⟩ := nm hm
    refine Op_vz 1 (.u32 (4294967295 ^^^ x_6)) [.u32 (4294967295 ^^^ x_6)] h_v5 zh7 (Pt.ix0 (Pt.at g2 0) (15 : Int) 1) k_18 rfl .h rfl ?_
    intro w_12 k_19
    refine WL_nil ?_
    exact At_cz ⟨v5, hm, rfl, k_19⟩
  rw [if_neg (by rw [hc6]; decide)] at hm
  refine W_skip ?_
  exact At_cz ⟨v2, hm, rfl, k_18⟩
 rintro L_ w_13 ⟨v4, hm, rfl, k_20⟩
 simp only [m_mixs_Begin_j1] at hm
 refine W_seq <| W_reg <| Wl 1 (.n 41 (.agg [.ar e32 v4]) (.k .z)) (qT k_20 1 rfl 0 16 [.ar e32 v4] (by kernel_rfl) (by decide) <| qe) ?_
 refine WL_op <| Op_bz 0 (.agg [.ar e32 v4]) [.ar e32 v4] (Pt.at g1 0) k_20 rfl .all ?_
 intro w_14 k_21
 have k_22 := k_21.sel (.k .z)
 refine Wn <| W_ret ?_
 obtain rfl := si hm
 refine At_rz [.agg [.ar e32 v4]] (qo (.agg [.ar e32 v4]) <| qc (fun w => Rd w (some ⟨g1, 0, none⟩) (SV.cl [.ar e32 v4])) (k_22.brd 0 rfl) <| qe) ?_
 have k_23 := k_22.sel .z
 exact ⟨rfl, k_23⟩
theorem c_mixs_places (k : Cx F O w w []) (r : (Vec (Vec Int 4) 8)) (hm : m_mixs_places = some r) :
    Calls Try.prog 88 (vals []) w (fun e w' => e = .returned (SV.val (.agg [.ar (eV eI 4) r])) ∧ Cx F O w w' []) := by
 unfold m_mixs_places at hm
 refine calz [] Try.func88 rfl ?_
 refine W_seq <| W_reg <| WL_op <| Op_alloc [] 0 [.ar (eV eI 4) (Vec.rep 8 (Vec.rep 4 (0 : Int)))] (by kernel_rfl) k ?_
 intro g w_ k_
 refine Wn <| W_seq <| W_reg <| We 9 (.n 9 (.agg [.ar (eV eI 4) (⟨[(⟨[(0 : Int), (4 : Int), (8 : Int), (12 : Int)], rfl⟩ : Vec Int 4), (⟨[(1 : Int), (5 : Int), (9 : Int), (13 : Int)], rfl⟩ : Vec Int 4), (⟨[(2 : Int), (6 : Int), (10 : Int), (14 : Int)], rfl⟩ : Vec Int 4), (⟨[(3 : Int), (7 : Int), (11 : Int), (15 : Int)], rfl⟩ : Vec Int 4), (⟨[(0 : Int), (5 : Int), (10 : Int), (15 : Int)], rfl⟩ : Vec Int 4), (⟨[(1 : Int), (6 : Int), (11 : Int), (12 : Int)], rfl⟩ : Vec Int 4), (⟨[(2 : Int), (7 : Int), (8 : Int), (13 : Int)], rfl⟩ : Vec Int 4), (⟨[(3 : Int), (4 : Int), (9 : Int), (14 : Int)], rfl⟩ : Vec Int 4)], rfl⟩ : Vec (Vec Int 4) 8)]) .a) ?_
 refine WL_op <| Op_bz 0 (.agg [.ar (eV eI 4) (⟨[(⟨[(0 : Int), (4 : Int), (8 : Int), (12 : Int)], rfl⟩ : Vec Int 4), (⟨[(1 : Int), (5 : Int), (9 : Int), (13 : Int)], rfl⟩ : Vec Int 4), (⟨[(2 : Int), (6 : Int), (10 : Int), (14 : Int)], rfl⟩ : Vec Int 4), (⟨[(3 : Int), (7 : Int), (11 : Int), (15 : Int)], rfl⟩ : Vec Int 4), (⟨[(0 : Int), (5 : Int), (10 : Int), (15 : Int)], rfl⟩ : Vec Int 4), (⟨[(1 : Int), (6 : Int), (11 : Int), (12 : Int)], rfl⟩ : Vec Int 4), (⟨[(2 : Int), (7 : Int), (8 : Int), (13 : Int)], rfl⟩ : Vec Int 4), (⟨[(3 : Int), (4 : Int), (9 : Int), (14 : Int)], rfl⟩ : Vec Int 4)], rfl⟩ : Vec (Vec Int 4) 8)]) [.ar (eV eI 4) (⟨[(⟨[(0 : Int), (4 : Int), (8 : Int), (12 : Int)], rfl⟩ : Vec Int 4), (⟨[(1 : Int), (5 : Int), (9 : Int), (13 : Int)], rfl⟩ : Vec Int 4), (⟨[(2 : Int), (6 : Int), (10 : Int), (14 : Int)], rfl⟩ : Vec Int 4), (⟨[(3 : Int), (7 : Int), (11 : Int), (15 : Int)], rfl⟩ : Vec Int 4), (⟨[(0 : Int), (5 : Int), (10 : Int), (15 : Int)], rfl⟩ : Vec Int 4), (⟨[(1 : Int), (6 : Int), (11 : Int), (12 : Int)], rfl⟩ : Vec Int 4), (⟨[(2 : Int), (7 : Int), (8 : Int), (13 : Int)], rfl⟩ : Vec Int 4), (⟨[(3 : Int), (4 : Int), (9 : Int), (14 : Int)], rfl⟩ : Vec Int 4)], rfl⟩ : Vec (Vec Int 4) 8)] (Pt.at g 0) k_ rfl .all ?_
 intro w_1 k_1
 refine Wn <| W_ret ?_
 obtain rfl := si hm
 refine At_rz [.agg [.ar (eV eI 4) (⟨[(⟨[(0 : Int), (4 : Int), (8 : Int), (12 : Int)], rfl⟩ : Vec Int 4), (⟨[(1 : Int), (5 : Int), (9 : Int), (13 : Int)], rfl⟩ : Vec Int 4), (⟨[(2 : Int), (6 : Int), (10 : Int), (14 : Int)], rfl⟩ : Vec Int 4), (⟨[(3 : Int), (7 : Int), (11 : Int), (15 : Int)], rfl⟩ : Vec Int 4), (⟨[(0 : Int), (5 : Int), (10 : Int), (15 : Int)], rfl⟩ : Vec Int 4), (⟨[(1 : Int), (6 : Int), (11 : Int), (12 : Int)], rfl⟩ : Vec Int 4), (⟨[(2 : Int), (7 : Int), (8 : Int), (13 : Int)], rfl⟩ : Vec Int 4), (⟨[(3 : Int), (4 : Int), (9 : Int), (14 : Int)], rfl⟩ : Vec Int 4)], rfl⟩ : Vec (Vec Int 4) 8)]] (qo (.agg [.ar (eV eI 4) (⟨[(⟨[(0 : Int), (4 : Int), (8 : Int), (12 : Int)], rfl⟩ : Vec Int 4), (⟨[(1 : Int), (5 : Int), (9 : Int), (13 : Int)], rfl⟩ : Vec Int 4), (⟨[(2 : Int), (6 : Int), (10 : Int), (14 : Int)], rfl⟩ : Vec Int 4), (⟨[(3 : Int), (7 : Int), (11 : Int), (15 : Int)], rfl⟩ : Vec Int 4), (⟨[(0 : Int), (5 : Int), (10 : Int), (15 : Int)], rfl⟩ : Vec Int 4), (⟨[(1 : Int), (6 : Int), (11 : Int), (12 : Int)], rfl⟩ : Vec Int 4), (⟨[(2 : Int), (7 : Int), (8 : Int), (13 : Int)], rfl⟩ : Vec Int 4), (⟨[(3 : Int), (4 : Int), (9 : Int), (14 : Int)], rfl⟩ : Vec Int 4)], rfl⟩ : Vec (Vec Int 4) 8)]) <| qc (fun w => Rd w (some ⟨g, 0, none⟩) (SV.cl [.ar (eV eI 4) (⟨[(⟨[(0 : Int), (4 : Int), (8 : Int), (12 : Int)], rfl⟩ : Vec Int 4), (⟨[(1 : Int), (5 : Int), (9 : Int), (13 : Int)], rfl⟩ : Vec Int 4), (⟨[(2 : Int), (6 : Int), (10 : Int), (14 : Int)], rfl⟩ : Vec Int 4), (⟨[(3 : Int), (7 : Int), (11 : Int), (15 : Int)], rfl⟩ : Vec Int 4), (⟨[(0 : Int), (5 : Int), (10 : Int), (15 : Int)], rfl⟩ : Vec Int 4), (⟨[(1 : Int), (6 : Int), (11 : Int), (12 : Int)], rfl⟩ : Vec Int 4), (⟨[(2 : Int), (7 : Int), (8 : Int), (13 : Int)], rfl⟩ : Vec Int 4), (⟨[(3 : Int), (4 : Int), (9 : Int), (14 : Int)], rfl⟩ : Vec Int 4)], rfl⟩ : Vec (Vec Int 4) 8)])) (k_1.brd 0 rfl) <| qe) ?_
 have k_2 := k_1.sel .z
 exact ⟨rfl, k_2⟩
theorem c_bits_RotateLeft32 (x_ : UInt32) (k_ : Int) (k : Cx F O w w []) (r : UInt32) (hm : m_bits_RotateLeft32 x_ k_ = some r) :
    Calls Try.prog 91 (vals [.u32 x_, I k_]) w (fun e w' => e = .returned (SV.val (.u32 r)) ∧ Cx F O w w' []) := by
 unfold m_bits_RotateLeft32 at hm
 refine calz [.u32 x_, I k_] Try.func91 rfl ?_
 refine W_seq <| Wq .a ?_
 refine W_seq <| Wq (.n 5 (.u64 ((UInt64.ofInt k_) &&& 31)) (.k .z)) ?_
 refine W_seq <| Wq (.n 4 (.u32 ((shl32 x_ (((UInt64.ofInt k_) &&& 31).toNat)) ||| (shr32 x_ (((32 : UInt64) - ((UInt64.ofInt k_) &&& 31)).toNat)))) .z) ?_
 refine W_ret ?_
 obtain rfl := si hm
 refine At_rz [.u32 ((shl32 x_ (((UInt64.ofInt k_) &&& 31).toNat)) ||| (shr32 x_ (((32 : UInt64) - ((UInt64.ofInt k_) &&& 31)).toNat)))] qe ?_
 exact ⟨rfl, k⟩
theorem c_mixs_mix (v : Vec UInt32 16) (a_ : Int) (b : Int) (c : Int) (d : Int) (x_ : UInt32) (y_ : UInt32) (g_v : Nat) (k : Cx F O w w [Bx 141 g_v [.ar e32 v]]) (r : (Vec UInt32 16)) (hm : m_mixs_mix v a_ b c d x_ y_ = some r) :
    Calls Try.prog 89 (vals [pt g_v 0, I a_, I b, I c, I d, .u32 x_, .u32 y_]) w (fun e w' => e = .returned (SV.val (.tup [])) ∧ Cx F O w w' [Bx 141 g_v [.ar e32 r]]) := by
 unfold m_mixs_mix at hm
 refine calz [pt g_v 0, I a_, I b, I c, I d, .u32 x_, .u32 y_] Try.func89 rfl ?_
 refine W_seq ?_
 have k_ := k.drew 1
 refine W_m ws_mixed (.q 0 0 (.q 1 0 (.q 2 0 (.q 3 0 (.q 4 0 (.q 5 0 (.q 6 0 (.q 7 0 (.q 8 0 (.q 9 0 (.q 10 0 (.q 11 0 (.q 12 0 (.q 13 0 (.q 14 0 (.op 15 .nil)))))))))))))))) [15] k_ (.c (.z) .l) (by kernel_rfl) (fun _ => ?_)
 obtain ⟨x_2, zh2, hm⟩ := ob hm
 obtain ⟨x_3, zh3, hm⟩ := ob hm
 obtain ⟨x_4, zh4, hm⟩ := ob hm
 refine MXz 15 0 (.n 26 (.u32 (x_2 + (x_3 + x_))) (.n 28 (.v (.pointer (ixA (some ⟨g_v, 0, none⟩) a_ 1))) (.kkkk (.k (.s .a))))) (fun x hx => qs g_v 0 <| qV (hx.vrd 0 rfl e32 v 0 (by kernel_rfl)) zh2 rfl (.u32 x_2) rfl <| qs g_v 0 <| qV (hx.vrd 0 rfl e32 v 0 (by kernel_rfl)) zh3 rfl (.u32 x_3) rfl <| qs g_v 0 <| qI g_v 0 zh4 <| qe) fun _ => ?_
 refine MX_op (by kernel_rfl) rfl ?_
 obtain ⟨v1, h_v1, hm⟩ := nm hm
 refine Op_vz 0 (.u32 (x_2 + (x_3 + x_))) [.u32 (x_2 + (x_3 + x_))] h_v1 zh4 (Pt.ix0 (Pt.at g_v 0) a_ 1) k_ rfl .h rfl ?_
 intro w_ k_1
 refine ⟨(k_1.sel .z), fun _ => ?_⟩
 refine MX_nil <| At_go <| W_seq ?_
 have k_2 := k_1.drew 1
 refine W_m ws_mixed (.q 0 1 (.q 1 1 (.q 2 1 (.q 3 1 (.q 4 1 (.q 5 1 (.q 6 0 (.q 7 1 (.q 8 1 (.q 9 1 (.q 10 1 (.q 11 0 (.q 12 0 (.q 14 1 (.op 13 (.q 15 1 (.op 16 .nil))))))))))))))))) [13, 16] k_2 (.c (.k .e) (.c (.z) .l)) (by kernel_rfl) (fun _ => ?_)
 obtain ⟨x_5, zh5, hm⟩ := ob hm
 refine MXz 6 1 (.n 29 (pt g_v 0) (.n 30 (I d) (.n 34 (.v (.pointer (ixA (some ⟨g_v, 0, none⟩) d 1))) (.ss .a)))) (fun x hx => qs g_v 0 <| qI g_v 0 zh5 <| qe) fun _ => ?_
 refine MXz 1 0 (.n 35 (.u32 x_5) (.kk (.s .a))) (fun x hx => qC (.u32 x_5) (Rd.el (k := 0) (hx.vrd 0 rfl e32 v1 0 (by kernel_rfl)) zh5 (Pt.ix1 (some ⟨g_v, 0, none⟩) d 1) rfl) <| qe) fun _ => ?_
 obtain ⟨x_6, zh6, hm⟩ := ob hm
 refine MXz 4 1 (.n 39 (.v (.pointer (ixA (some ⟨g_v, 0, none⟩) a_ 1))) .a) (fun x hx => qs g_v 0 <| qI g_v 0 zh6 <| qe) fun _ => ?_
 refine MXz 2 0 (.n 41 (.u32 (x_5 ^^^ x_6)) (.ss .a)) (fun x hx => qC (.u32 x_6) (Rd.el (k := 0) (hx.vrd 0 rfl e32 v1 0 (by kernel_rfl)) zh6 (Pt.ix1 (some ⟨g_v, 0, none⟩) a_ 1) rfl) <| qe) fun _ => ?_
 refine MXz 1 1 (.n 43 (pt g_v 0) (.k (.s .a))) (fun x hx => qs g_v 0 <| qe) fun _ => ?_
 refine MX_op (by kernel_rfl) rfl ?_
 obtain ⟨r_, h_r_, hm⟩ := ob hm
 refine Op_cz 42 ws_go91 (c_bits_RotateLeft32 (F := N0) (O := N0) _ _ (Cx.refl _) _ h_r_) ?_
 rintro e_ w_1 ⟨rfl, k_3⟩
 have k_4 := k_2.call k_3
 refine ⟨.u32 r_, rfl, ?_⟩
 refine ⟨k_4, fun _ => ?_⟩
 obtain ⟨x_7, zh7, hm⟩ := ob hm
 refine MXz 1 1 (.n 44 (.v (.pointer (ixA (some ⟨g_v, 0, none⟩) d 1))) (.k (.sss .a))) (fun x hx => qI g_v 0 zh7 <| qe) fun _ => ?_
 refine MX_op (by kernel_rfl) rfl ?_
 obtain ⟨v2, h_v2, hm⟩ := nm hm
 refine Op_vz 0 (.u32 r_) [.u32 r_] h_v2 zh7 (Pt.ix0 (Pt.at g_v 0) d 1) k_4 rfl .h rfl ?_
 intro w_2 k_5
 refine ⟨(k_5.sel .z), fun _ => ?_⟩
 refine MX_nil <| At_go <| W_seq ?_
 have k_6 := k_5.drew 1
 refine W_m ws_mixed (.q 0 0 (.q 1 0 (.q 2 0 (.q 3 0 (.q 4 0 (.q 5 0 (.q 6 0 (.q 7 0 (.q 8 0 (.q 9 0 (.q 10 0 (.q 11 0 (.q 12 0 (.op 13 .nil)))))))))))))) [13] k_6 (.c (.z) .l) (by kernel_rfl) (fun _ => ?_)
 obtain ⟨x_8, zh8, hm⟩ := ob hm
 obtain ⟨x_9, zh9, hm⟩ := ob hm
 obtain ⟨x_10, zh10, hm⟩ := ob hm
 refine MXz 13 0 (.n 55 (.u32 (x_8 + x_9)) (.n 57 (.v (.pointer (ixA (some ⟨g_v, 0, none⟩) c 1))) (.ss .a))) (fun x hx => qs g_v 0 <| qV (hx.vrd 0 rfl e32 v2 0 (by kernel_rfl)) zh8 rfl (.u32 x_8) rfl <| qs g_v 0 <| qV (hx.vrd 0 rfl e32 v2 0 (by kernel_rfl)) zh9 rfl (.u32 x_9) rfl <| qs g_v 0 <| qI g_v 0 zh10 <| qe) fun _ => ?_
 refine MX_op (by kernel_rfl) rfl ?_
 obtain ⟨v3, h_v3, hm⟩ := nm hm
 refine Op_vz 0 (.u32 (x_8 + x_9)) [.u32 (x_8 + x_9)] h_v3 zh10 (Pt.ix0 (Pt.at g_v 0) c 1) k_6 rfl .h rfl ?_
 intro w_3 k_7
 refine ⟨(k_7.sel .z), fun _ => ?_⟩
 refine MX_nil <| At_go <| W_seq ?_
 have k_8 := k_7.drew 1
 refine W_m ws_mixed (.q 0 1 (.q 1 1 (.q 2 1 (.q 3 1 (.q 4 1 (.q 5 1 (.q 6 0 (.q 7 1 (.q 8 1 (.q 9 1 (.q 10 1 (.q 11 0 (.q 12 0 (.q 14 1 (.op 13 (.q 15 1 (.op 16 .nil))))))))))))))))) [13, 16] k_8 (.c (.k .e) (.c (.z) .l)) (by kernel_rfl) (fun _ => ?_)
 obtain ⟨x_11, zh11, hm⟩ := ob hm
 refine MXz 6 1 (.n 58 (pt g_v 0) (.n 59 (I b) (.n 63 (.v (.pointer (ixA (some ⟨g_v, 0, none⟩) b 1))) (.ss .a)))) (fun x hx => qs g_v 0 <| qI g_v 0 zh11 <| qe) fun _ => ?_
 refine MXz 1 0 (.n 64 (.u32 x_11) (.kk (.s .a))) (fun x hx => qC (.u32 x_11) (Rd.el (k := 0) (hx.vrd 0 rfl e32 v3 0 (by kernel_rfl)) zh11 (Pt.ix1 (some ⟨g_v, 0, none⟩) b 1) rfl) <| qe) fun _ => ?_
 obtain ⟨x_12, zh12, hm⟩ := ob hm
 refine MXz 4 1 (.n 68 (.v (.pointer (ixA (some ⟨g_v, 0, none⟩) c 1))) .a) (fun x hx => qs g_v 0 <| qI g_v 0 zh12 <| qe) fun _ => ?_
 refine MXz 2 0 (.n 70 (.u32 (x_11 ^^^ x_12)) (.ss .a)) (fun x hx => qC (.u32 x_12) (Rd.el (k := 0) (hx.vrd 0 rfl e32 v3 0 (by kernel_rfl)) zh12 (Pt.ix1 (some ⟨g_v, 0, none⟩) c 1) rfl) <| qe) fun _ => ?_
 refine MXz 1 1 (.n 72 (pt g_v 0) (.k (.s .a))) (fun x hx => qs g_v 0 <| qe) fun _ => ?_
 refine MX_op (by kernel_rfl) rfl ?_
 have k_9 := k_8.sel (.k .e)
 obtain ⟨r_1, h_r_1, hm⟩ := ob hm
 refine Op_cz 71 ws_go91 (c_bits_RotateLeft32 (F := N0) (O := N0) _ _ (Cx.refl _) _ h_r_1) ?_
 rintro e_ w_4 ⟨rfl, k_10⟩
 have k_11 := k_9.call k_10
 refine ⟨.u32 r_1, rfl, ?_⟩
 refine ⟨k_11, fun _ => ?_⟩
 obtain ⟨x_13, zh13, hm⟩ := ob hm
 refine MXz 1 1 (.n 73 (.v (.pointer (ixA (some ⟨g_v, 0, none⟩) b 1))) (.k (.sss .a))) (fun x hx => qI g_v 0 zh13 <| qe) fun _ => ?_
 refine MX_op (by kernel_rfl) rfl ?_
 obtain ⟨v4, h_v4, hm⟩ := nm hm
 refine Op_vz 0 (.u32 r_1) [.u32 r_1] h_v4 zh13 (Pt.ix0 (Pt.at g_v 0) b 1) k_11 rfl .h rfl ?_
 intro w_5 k_12
 refine ⟨(k_12.sel .z), fun _ => ?_⟩
 refine MX_nil <| At_go <| W_seq ?_
 have k_13 := k_12.drew 1
 refine W_m ws_mixed (.q 0 0 (.q 1 0 (.q 2 0 (.q 3 0 (.q 4 0 (.q 5 0 (.q 6 0 (.q 7 0 (.q 8 0 (.q 9 0 (.q 10 0 (.q 11 0 (.q 12 0 (.q 13 0 (.q 14 0 (.op 15 .nil)))))))))))))))) [15] k_13 (.c (.z) .l) (by kernel_rfl) (fun _ => ?_)
 obtain ⟨x_14, zh14, hm⟩ := ob hm
 obtain ⟨x_15, zh15, hm⟩ := ob hm
 obtain ⟨x_16, zh16, hm⟩ := ob hm
 refine MXz 15 0 (.n 86 (.u32 (x_14 + (x_15 + y_))) (.n 88 (.v (.pointer (ixA (some ⟨g_v, 0, none⟩) a_ 1))) (.ss (.kkkk (.k .z))))) (fun x hx => qs g_v 0 <| qV (hx.vrd 0 rfl e32 v4 0 (by kernel_rfl)) zh14 rfl (.u32 x_14) rfl <| qs g_v 0 <| qV (hx.vrd 0 rfl e32 v4 0 (by kernel_rfl)) zh15 rfl (.u32 x_15) rfl <| qs g_v 0 <| qI g_v 0 zh16 <| qe) fun _ => ?_
 refine MX_op (by kernel_rfl) rfl ?_
 obtain ⟨v5, h_v5, hm⟩ := nm hm
 refine Op_vz 0 (.u32 (x_14 + (x_15 + y_))) [.u32 (x_14 + (x_15 + y_))] h_v5 zh16 (Pt.ix0 (Pt.at g_v 0) a_ 1) k_13 rfl .h rfl ?_
 intro w_6 k_14
 refine ⟨(k_14.sel .z), fun _ => ?_⟩
 refine MX_nil <| At_go <| W_seq ?_
 have k_15 := k_14.drew 1
 refine W_m ws_mixed (.q 0 1 (.q 1 1 (.q 2 1 (.q 3 1 (.q 4 1 (.q 5 1 (.q 6 0 (.q 7 1 (.q 8 1 (.q 9 1 (.q 10 1 (.q 11 0 (.q 12 0 (.q 14 1 (.op 13 (.q 15 1 (.op 16 .nil))))))))))))))))) [13, 16] k_15 (.c (.k .e) (.c (.z) .l)) (by kernel_rfl) (fun _ => ?_)
 obtain ⟨x_17, zh17, hm⟩ := ob hm
 refine MXz 6 1 (.n 89 (pt g_v 0) (.n 90 (I d) (.n 94 (.v (.pointer (ixA (some ⟨g_v, 0, none⟩) d 1))) (.ss .a)))) (fun x hx => qs g_v 0 <| qI g_v 0 zh17 <| qe) fun _ => ?_
 refine MXz 1 0 (.n 95 (.u32 x_17) (.kk (.s .a))) (fun x hx => qC (.u32 x_17) (Rd.el (k := 0) (hx.vrd 0 rfl e32 v5 0 (by kernel_rfl)) zh17 (Pt.ix1 (some ⟨g_v, 0, none⟩) d 1) rfl) <| qe) fun _ => ?_
 obtain ⟨x_18, zh18, hm⟩ := ob hm
 refine MXz 4 1 (.n 99 (.v (.pointer (ixA (some ⟨g_v, 0, none⟩) a_ 1))) (.kkkk (.s .a))) (fun x hx => qs g_v 0 <| qI g_v 0 zh18 <| qe) fun _ => ?_
 refine MXz 2 0 (.n 101 (.u32 (x_17 ^^^ x_18)) (.ss .a)) (fun x hx => qC (.u32 x_18) (Rd.el (k := 0) (hx.vrd 0 rfl e32 v5 0 (by kernel_rfl)) zh18 (Pt.ix1 (some ⟨g_v, 0, none⟩) a_ 1) rfl) <| qe) fun _ => ?_
 refine MXz 1 1 (.n 103 (pt g_v 0) (.k (.s .a))) (fun x hx => qs g_v 0 <| qe) fun _ => ?_
 refine MX_op (by kernel_rfl) rfl ?_
 obtain ⟨r_2, h_r_2, hm⟩ := ob hm
 refine Op_cz 102 ws_go91 (c_bits_RotateLeft32 (F := N0) (O := N0) _ _ (Cx.refl _) _ h_r_2) ?_
 rintro e_ w_7 ⟨rfl, k_16⟩
 have k_17 := k_15.call k_16
 refine ⟨.u32 r_2, rfl, ?_⟩
 refine ⟨k_17, fun _ => ?_⟩
 obtain ⟨x_19, zh19, hm⟩ := ob hm
 refine MXz 1 1 (.n 104 (.v (.pointer (ixA (some ⟨g_v, 0, none⟩) d 1))) (.k (.sss .a))) (fun x hx => qI g_v 0 zh19 <| qe) fun _ => ?_
 refine MX_op (by kernel_rfl) rfl ?_
 have k_18 := k_17.sel (.k .e)
 obtain ⟨v6, h_v6, hm⟩ := nm hm
 refine Op_vz 0 (.u32 r_2) [.u32 r_2] h_v6 zh19 (Pt.ix0 (Pt.at g_v 0) d 1) k_18 rfl .h rfl ?_
 intro w_8 k_19
 refine ⟨(k_19.sel .z), fun _ => ?_⟩
 refine MX_nil <| At_go <| W_seq ?_
 have k_20 := k_19.drew 1
 refine W_m ws_mixed (.q 0 0 (.q 1 0 (.q 2 0 (.q 3 0 (.q 4 0 (.q 5 0 (.q 6 0 (.q 7 0 (.q 8 0 (.q 9 0 (.q 10 0 (.q 11 0 (.q 12 0 (.op 13 .nil)))))))))))))) [13] k_20 (.c (.z) .l) (by kernel_rfl) (fun _ => ?_)
 obtain ⟨x_20, zh20, hm⟩ := ob hm
 obtain ⟨x_21, zh21, hm⟩ := ob hm
 obtain ⟨x_22, zh22, hm⟩ := ob hm
 refine MXz 13 0 (.n 115 (.u32 (x_20 + x_21)) (.n 117 (.v (.pointer (ixA (some ⟨g_v, 0, none⟩) c 1))) (.ss (.kkk .z)))) (fun x hx => qs g_v 0 <| qV (hx.vrd 0 rfl e32 v6 0 (by kernel_rfl)) zh20 rfl (.u32 x_20) rfl <| qs g_v 0 <| qV (hx.vrd 0 rfl e32 v6 0 (by kernel_rfl)) zh21 rfl (.u32 x_21) rfl <| qs g_v 0 <| qI g_v 0 zh22 <| qe) fun _ => ?_
 refine MX_op (by kernel_rfl) rfl ?_
 obtain ⟨v7, h_v7, hm⟩ := nm hm
 refine Op_vz 0 (.u32 (x_20 + x_21)) [.u32 (x_20 + x_21)] h_v7 zh22 (Pt.ix0 (Pt.at g_v 0) c 1) k_20 rfl .h rfl ?_
 intro w_9 k_21
 refine ⟨(k_21.sel .z), fun _ => ?_⟩
 refine MX_nil <| At_go ?_
 have k_22 := k_21.drew 1
 refine W_m ws_mixed (.q 0 1 (.q 1 1 (.q 2 1 (.q 3 1 (.q 4 1 (.q 5 1 (.q 6 0 (.q 7 1 (.q 8 1 (.q 9 1 (.q 10 1 (.q 11 0 (.q 12 0 (.q 14 1 (.op 13 (.q 15 1 (.op 16 .nil))))))))))))))))) [13, 16] k_22 (.c (.k .e) (.c (.z) .l)) (by kernel_rfl) (fun _ => ?_)
 obtain ⟨x_23, zh23, hm⟩ := ob hm
 refine MXz 6 1 (.n 118 (pt g_v 0) (.n 119 (I b) (.n 123 (.v (.pointer (ixA (some ⟨g_v, 0, none⟩) b 1))) (.ss (.k (.s .a)))))) (fun x hx => qs g_v 0 <| qI g_v 0 zh23 <| qe) fun _ => ?_
 refine MXz 1 0 (.n 124 (.u32 x_23) (.kk (.s .a))) (fun x hx => qC (.u32 x_23) (Rd.el (k := 0) (hx.vrd 0 rfl e32 v7 0 (by kernel_rfl)) zh23 (Pt.ix1 (some ⟨g_v, 0, none⟩) b 1) rfl) <| qe) fun _ => ?_
 obtain ⟨x_24, zh24, hm⟩ := ob hm
 refine MXz 4 1 (.n 128 (.v (.pointer (ixA (some ⟨g_v, 0, none⟩) c 1))) (.kkk .z)) (fun x hx => qs g_v 0 <| qI g_v 0 zh24 <| qe) fun _ => ?_
 refine MXz 2 0 (.n 130 (.u32 (x_23 ^^^ x_24)) (.ss .a)) (fun x hx => qC (.u32 x_24) (Rd.el (k := 0) (hx.vrd 0 rfl e32 v7 0 (by kernel_rfl)) zh24 (Pt.ix1 (some ⟨g_v, 0, none⟩) c 1) rfl) <| qe) fun _ => ?_
 refine MXz 1 1 (.n 132 (pt g_v 0) (.k (.s .a))) (fun x hx => qs g_v 0 <| qe) fun _ => ?_
 refine MX_op (by kernel_rfl) rfl ?_
 obtain ⟨r_3, h_r_3, hm⟩ := ob hm
 refine Op_cz 131 ws_go91 (c_bits_RotateLeft32 (F := N0) (O := N0) _ _ (Cx.refl _) _ h_r_3) ?_
 rintro e_ w_10 ⟨rfl, k_23⟩
 have k_24 := k_22.call k_23
 refine ⟨.u32 r_3, rfl, ?_⟩
 refine ⟨k_24, fun _ => ?_⟩
 obtain ⟨x_25, zh25, hm⟩ := ob hm
 refine MXz 1 1 (.n 133 (.v (.pointer (ixA (some ⟨g_v, 0, none⟩) b 1))) (.k .z)) (fun x hx => qI g_v 0 zh25 <| qe) fun _ => ?_
 refine MX_op (by kernel_rfl) rfl ?_
 obtain ⟨v8, h_v8, hm⟩ := nm hm
 refine Op_vz 0 (.u32 r_3) [.u32 r_3] h_v8 zh25 (Pt.ix0 (Pt.at g_v 0) b 1) k_24 rfl .h rfl ?_
 intro w_11 k_25
 refine ⟨(k_25.sel .z), fun _ => ?_⟩
 refine MX_nil ?_
 obtain rfl := si hm
 refine At_en [] qe (by kernel_rfl) ?_
 exact ⟨rfl, k_25⟩
theorem c_mixs_round (v : Vec UInt32 16) (m_ : Vec UInt32 16) (r_ : Int) (g_v : Nat) (g_m : Nat) (k : Cx F O w w [Bx 141 g_v [.ar e32 v], Bx 141 g_m [.ar e32 m_]]) (r : (Vec UInt32 16 × Vec UInt32 16)) (hm : m_mixs_round v m_ r_ = some r) :
    Calls Try.prog 83 (vals [pt g_v 0, pt g_m 0, I r_]) w (fun e w' => e = .returned (SV.val (.tup [])) ∧ Cx F O w w' [Bx 141 g_v [.ar e32 r.1], Bx 141 g_m [.ar e32 r.2]]) := by
 unfold m_mixs_round at hm
 refine calz [pt g_v 0, pt g_m 0, I r_] Try.func83 rfl ?_
 refine W_seq <| W_reg <| We 1 (.n 9 (I r_) (.kk .z)) ?_
 refine WL_op ?_
 obtain ⟨r_1, h_r_1, hm⟩ := ob hm
 refine Op_cz 10 ws_go85 (c_mixb_Sigma (F := N0) (O := N0) _ (Cx.refl _) _ h_r_1) ?_
 rintro e_ w_ ⟨rfl, k_⟩
 have k_1 := k.call k_
 refine ⟨.agg [.ar eI r_1], rfl, ?_⟩
 refine WL_op <| Op_alloc [] 6 [.ar eI (Vec.rep 16 (0 : Int))] (by kernel_rfl) k_1 ?_
 intro g w_1 k_2
 refine WL_op <| Op_bz 2 (.agg [.ar eI r_1]) [.ar eI r_1] (Pt.at g 0) k_2 rfl .all ?_
 intro w_2 k_3
 refine Wn <| W_seq <| W_reg <| WL_op ?_
 obtain ⟨r_2, h_r_2, hm⟩ := ob hm
 refine Op_cz 11 ws_go88 (c_mixs_places (F := N0) (O := N0)  (Cx.refl _) _ h_r_2) ?_
 rintro e_ w_3 ⟨rfl, k_4⟩
 have k_5 := k_3.call k_4
 refine ⟨.agg [.ar (eV eI 4) r_2], rfl, ?_⟩
 refine We 1 (.n 12 (I 0) (.kk (.ss .a))) ?_
 refine Wn <| W_block <| W_lp (m_mixs_round_l0 m_ r_1 r_2) (fun s L wr => ∃ (v1 : Vec UInt32 16) (x_0 : Int), (v1, x_0) = s ∧ L = [(0, pt g_v 0), (1, pt g_m 0), (6, pt g 0), (11, .agg [.ar (eV eI 4) r_2]), (12, I x_0)] ∧ Cx F O w wr [Bx 141 g_v [.ar e32 v1], Bx 141 g_m [.ar e32 m_], Bx 156 g [.ar eI r_1]]) (v, (0 : Int)) r hm ⟨v, (0 : Int), rfl, rfl, k_5⟩ (by kernel_rfl) ?_
 intro s0_ L_ w_4 y0 hrel hstep hr0
 obtain ⟨v1, x_0, rfl, rfl, k_6⟩ := hrel
 have hm := hstep; simp only [m_mixs_round_l0] at hm
 clear hstep
 refine W_seq <| Wq (.n 13 (.b (decide (x_0 < 8))) .a) ?_
 refine W_seq <| W_pz (x_0 < 8) (fun hc => ?_) fun hc => ?_
 · rw [if_pos hc] at hm
   refine W_skip <| At_go <| W_seq <| W_block <| W_seq <| W_reg ?_
   obtain ⟨x_2, zh2, hm⟩ := ob hm
   refine Wl 2 (.n 14 (I x_0) (.n 15 (.agg [.ar eI x_2]) (.s .a))) (qo (.agg [.ar eI x_2]) <| qp ((0 ≤ x_0 ∧ x_0 < ((8 : Nat) : Int)) ∧ ((SV.cl [.ar (eV eI 4) r_2]).drop (Int.toNat x_0 * 4)).take 4 = SV.cl [.ar eI x_2]) (ar_ixV (E := eI) zh2) <| qe) ?_
   refine WL_op <| Op_alloc [] 8 [.ar eI (Vec.rep 4 (0 : Int))] (by kernel_rfl) k_6 ?_
   intro g1 w_5 k_7
   refine We 1 (.n 7 (I x_0) (.k (.s .a))) ?_
   refine WL_op <| Op_bz 3 (.agg [.ar eI x_2]) [.ar eI x_2] (Pt.at g1 0) k_7 rfl .all ?_
   intro w_6 k_8
   refine WL_nil <| At_go ?_
   have k_9 := k_8.drew 1
   refine W_m ws_mixed (.q 0 0 (.q 1 0 (.q 2 0 (.q 3 0 (.q 4 0 (.q 5 0 (.q 6 0 (.q 7 0 (.q 8 0 (.q 9 1 (.q 10 1 (.q 11 1 (.q 12 1 (.q 13 1 (.q 14 1 (.q 15 0 (.q 16 0 (.q 17 1 (.q 18 1 (.q 19 1 (.q 20 1 (.q 21 1 (.q 22 1 (.q 23 1 (.q 24 0 (.q 25 0 (.op 26 .nil))))))))))))))))))))))))))) [26] k_9 (.c (.s (.kk (.k .e))) .l) (by kernel_rfl) (fun _ => ?_)
   obtain ⟨x_3, zh3, hm⟩ := ob hm
   obtain ⟨x_4, zh4, hm⟩ := ob hm
   obtain ⟨x_5, zh5, hm⟩ := ob hm
   obtain ⟨x_6, zh6, hm⟩ := ob hm
   refine MXz 9 0 (.n 16 (pt g_v 0) (.n 18 (I x_3) (.n 20 (I x_4) (.n 22 (I x_5) (.n 24 (I x_6) (.k (.ss .a))))))) (fun x hx => qV (hx.vrd 3 rfl eI x_2 0 (by kernel_rfl)) zh3 rfl (I x_3) rfl <| qV (hx.vrd 3 rfl eI x_2 0 (by kernel_rfl)) zh4 rfl (I x_4) rfl <| qV (hx.vrd 3 rfl eI x_2 0 (by kernel_rfl)) zh5 rfl (I x_5) rfl <| qV (hx.vrd 3 rfl eI x_2 0 (by kernel_rfl)) zh6 rfl (I x_6) rfl <| qe) fun _ => ?_
   obtain ⟨x_7, zh7, hm⟩ := ob hm
   refine MXz 6 1 (.n 29 (I x_7) (.n 30 (pt g_m 0) .a)) (fun x hx => qV (hx.vrd 1 rfl eI r_1 0 (by kernel_rfl)) zh7 rfl (I x_7) rfl <| qs g_m 0 <| qe) fun _ => ?_
   obtain ⟨x_8, zh8, hm⟩ := ob hm
   refine MXz 2 0 (.n 32 (.u32 x_8) (.ss .a)) (fun x hx => qV (hx.vrd 1 rfl e32 m_ 0 (by kernel_rfl)) zh8 rfl (.u32 x_8) rfl <| qe) fun _ => ?_
   obtain ⟨x_9, zh9, hm⟩ := ob hm
   refine MXz 7 1 (.n 38 (I x_9) (.n 39 (pt g_m 0) (.kkkk (.kk (.s .a))))) (fun x hx => qV (hx.vrd 1 rfl eI r_1 0 (by kernel_rfl)) zh9 rfl (I x_9) rfl <| qs g_m 0 <| qe) fun _ => ?_
   obtain ⟨x_10, zh10, hm⟩ := ob hm
   refine MXz 2 0 (.n 41 (.u32 x_10) (.ss .a)) (fun x hx => qV (hx.vrd 1 rfl e32 m_ 0 (by kernel_rfl)) zh10 rfl (.u32 x_10) rfl <| qe) fun _ => ?_
   refine MX_op (by kernel_rfl) rfl ?_
   obtain ⟨r_3, h_r_3, hm⟩ := ob hm
   obtain ⟨F1, O1, kin, hO, hre, hF, hb⟩ := k_9.go (.i (.r (.r (.r .e))))
   refine Op_cz 42 ws_go89 (c_mixs_mix (F := F1) (O := O1) _ _ _ _ _ _ _ _ kin _ h_r_3) ?_
   rintro e_ w_7 ⟨rfl, k_10⟩
   have k_11 := hb w_7 _ _ k_10 (.c .n)
   refine ⟨.tup [], rfl, ?_⟩
   refine ⟨(k_11.sel (.s (.kk (.k .e)))), fun _ => ?_⟩
   refine MX_nil <| At_in <| At_go <| W_q [] (.n 12 (I (w64 (x_0 + 1))) (.ssss (.ssss (.kkkk .z)))) qe (by kernel_rfl) ?_
   have k_12 := k_11.sel (.kk (.k .z))
   exact At_rd (r_3, w64 (x_0 + 1)) (Option.some.inj hm).symm ⟨r_3, w64 (x_0 + 1), rfl, rfl, k_12⟩ (by kernel_rfl)
 rw [if_neg hc] at hm
 refine W_exit (At_te (At_te (At_ie ?_)))
 have hm := exit_of hm hr0
 obtain rfl := si hm
 refine At_en [] qe (by kernel_rfl) ?_
 have k_13 := k_6.sel (.kk .z)
 exact ⟨rfl, k_13⟩
theorem c_mixs_End (h : Vec UInt32 8) (v : Vec UInt32 16) (k : Cx F O w w []) (r : (Vec UInt32 8)) (hm : m_mixs_End h v = some r) :
    Calls Try.prog 84 (vals [.agg [.ar e32 h], .agg [.ar e32 v]]) w (fun e w' => e = .returned (SV.val (.agg [.ar e32 r])) ∧ Cx F O w w' []) := by
 unfold m_mixs_End at hm
 refine calz [.agg [.ar e32 h], .agg [.ar e32 v]] Try.func84 rfl ?_
 refine W_seq <| W_reg <| WL_op <| Op_box [] 2 (.agg [.ar e32 h]) [.ar e32 h] (by kernel_rfl) k ?_
 intro g w_ k_
 refine WL_op <| Op_box [] 3 (.agg [.ar e32 v]) [.ar e32 v] (by kernel_rfl) k_ ?_
 intro g1 w_1 k_1
 refine WL_op <| Op_alloc [] 4 [.ar e32 (Vec.rep 8 (0 : UInt32))] (by kernel_rfl) k_1 ?_
 intro g2 w_2 k_2
 refine Wn <| W_seq <| W_seq <| Wq (.n 6 (I 0) (.kkk .z)) ?_
 refine W_block <| W_lp (m_mixs_End_l0 v) (fun s L wr => ∃ (h1 : Vec UInt32 8) (x_0 : Int), (h1, x_0) = s ∧ L = [(2, pt g 0), (3, pt g1 0), (4, pt g2 0), (6, I x_0)] ∧ Cx F O w wr [Bx 121 g [.ar e32 h1], Bx 141 g1 [.ar e32 v], Bx 121 g2 [.ar e32 (Vec.rep 8 (0 : UInt32))]]) (h, (0 : Int)) r hm ⟨h, (0 : Int), rfl, rfl, k_2⟩ (by kernel_rfl) ?_
 intro s0_ L_ w_3 y0 hrel hstep hr0
 obtain ⟨h1, x_0, rfl, rfl, k_3⟩ := hrel
 have hm := hstep; simp only [m_mixs_End_l0] at hm
 clear hstep
 refine W_seq <| Wq (.n 7 (.b (decide (x_0 < 8))) .a) ?_
 refine W_seq <| W_pz (x_0 < 8) (fun hc => ?_) fun hc => ?_
 · rw [if_pos hc] at hm
   refine W_skip <| At_go <| W_seq <| W_block <| W_seq <| W_q [] (.n 5 (I x_0) (.s .a)) qe (by kernel_rfl) ?_
   refine At_go ?_
   have k_4 := k_3.drew 1
   refine W_m ws_mixed (.q 0 0 (.q 1 0 (.q 2 0 (.q 3 0 (.q 4 0 (.q 5 0 (.q 6 0 (.q 7 0 (.q 8 0 (.q 9 0 (.q 10 0 (.q 11 0 (.q 12 0 (.op 13 .nil)))))))))))))) [13] k_4 (.c (.s (.kk .e)) .l) (by kernel_rfl) (fun _ => ?_)
   obtain ⟨x_1, zh1, hm⟩ := ob hm
   obtain ⟨x_2, zh2, hm⟩ := ob hm
   obtain ⟨x_3, zh3, hm⟩ := ob hm
   obtain ⟨x_4, zh4, hm⟩ := ob hm
   refine MXz 13 0 (.n 20 (.u32 (x_1 ^^^ (x_2 ^^^ x_3))) (.n 21 (.v (.pointer (ixA (some ⟨g, 0, none⟩) x_0 1))) (.s .a))) (fun x hx => qV (hx.vrd 0 rfl e32 h1 0 (by kernel_rfl)) zh1 rfl (.u32 x_1) rfl <| qV (hx.vrd 1 rfl e32 v 0 (by kernel_rfl)) zh2 rfl (.u32 x_2) rfl <| qV (hx.vrd 1 rfl e32 v 0 (by kernel_rfl)) zh3 rfl (.u32 x_3) rfl <| qI g 0 zh4 <| qe) fun _ => ?_
   refine MX_op (by kernel_rfl) rfl ?_
   obtain ⟨v1, h_v1, hm⟩ := nm hm
   refine Op_vz 0 (.u32 (x_1 ^^^ (x_2 ^^^ x_3))) [.u32 (x_1 ^^^ (x_2 ^^^ x_3))] h_v1 zh4 (Pt.ix0 (Pt.at g 0) x_0 1) k_4 rfl .h rfl ?_
   intro w_4 k_5
   refine ⟨(k_5.sel (.s (.kk .e))), fun _ => ?_⟩
   refine MX_nil <| At_in <| At_go <| W_q [] (.n 6 (I (w64 (x_0 + 1))) (.ss (.kkk .z))) qe (by kernel_rfl) ?_
   exact At_rd (v1, w64 (x_0 + 1)) (Option.some.inj hm).symm ⟨v1, w64 (x_0 + 1), rfl, rfl, k_5⟩ (by kernel_rfl)
 rw [if_neg hc] at hm
 refine W_exit (At_te (At_te (At_ie ?_)))
 have hm := exit_of hm hr0
 refine At_go <| W_seq <| W_reg <| Wl 1 (.n 23 (.agg [.ar e32 h1]) (.sss (.k .z))) (qT k_3 0 rfl 0 8 [.ar e32 h1] (by kernel_rfl) (by decide) <| qe) ?_
 refine WL_op <| Op_bz 2 (.agg [.ar e32 h1]) [.ar e32 h1] (Pt.at g2 0) k_3 rfl .all ?_
 intro w_5 k_6
 have k_7 := k_6.sel (.ss (.k .e))
 refine Wn <| W_ret ?_
 obtain rfl := si hm
 refine At_rz [.agg [.ar e32 h1]] (qo (.agg [.ar e32 h1]) <| qc (fun w => Rd w (some ⟨g2, 0, none⟩) (SV.cl [.ar e32 h1])) (k_7.brd 0 rfl) <| qe) ?_
 have k_8 := k_7.sel .z
 exact ⟨rfl, k_8⟩
theorem c_mixs_F (h : Vec UInt32 8) (m_ : Vec UInt32 16) (count : UInt64) (last : Bool) (node : Bool) (k : Cx F O w w []) (r : (Vec UInt32 8)) (hm : m_mixs_F h m_ count last node = some r) :
    Calls Try.prog 77 (vals [.agg [.ar e32 h], .agg [.ar e32 m_], .u64 count, .b last, .b node]) w (fun e w' => e = .returned (SV.val (.agg [.ar e32 r])) ∧ Cx F O w w' []) := by
 unfold m_mixs_F at hm
 refine calz [.agg [.ar e32 h], .agg [.ar e32 m_], .u64 count, .b last, .b node] Try.func77 rfl ?_
 refine W_seq <| W_reg <| WL_op <| Op_box [] 5 (.agg [.ar e32 h]) [.ar e32 h] (by kernel_rfl) k ?_
 intro g w_ k_
 refine WL_op <| Op_box [] 6 (.agg [.ar e32 m_]) [.ar e32 m_] (by kernel_rfl) k_ ?_
 intro g1 w_1 k_1
 refine WL_op <| Op_alloc [] 10 [.ar e32 (Vec.rep 8 (0 : UInt32))] (by kernel_rfl) k_1 ?_
 intro g2 w_2 k_2
 refine Wn <| W_seq <| W_reg <| Wl 4 (.n 13 (.agg [.ar e32 h]) (.n 14 (.u64 count) (.n 15 (.b last) (.n 16 (.b node) (.kkk .z))))) (qT k_2 0 rfl 0 8 [.ar e32 h] (by kernel_rfl) (by decide) <| qe) ?_
 refine WL_op ?_
 obtain ⟨r_, h_r_, hm⟩ := ob hm
 refine Op_cz 17 ws_go82 (c_mixs_Begin (F := N0) (O := N0) _ _ _ _ (Cx.refl _) _ h_r_) ?_
 rintro e_ w_3 ⟨rfl, k_3⟩
 have k_4 := k_2.call k_3
 refine ⟨.agg [.ar e32 r_], rfl, ?_⟩
 refine WL_op ?_
 have k_5 := k_4.sel (.kk (.k .e))
 refine Op_alloc [] 11 [.ar e32 (Vec.rep 16 (0 : UInt32))] (by kernel_rfl) k_5 ?_
 intro g3 w_4 k_6
 refine WL_op <| Op_bz 3 (.agg [.ar e32 r_]) [.ar e32 r_] (Pt.at g3 0) k_6 rfl .all ?_
 intro w_5 k_7
 refine Wn <| W_seq <| W_seq <| Wq (.n 18 (I 0) (.k (.ssss (.s .a)))) ?_
 refine W_block <| W_lp (m_mixs_F_l0 h) (fun s L wr => ∃ (m_1 : Vec UInt32 16) (v : Vec UInt32 16) (x_0 : Int), (m_1, v, x_0) = s ∧ L = [(5, pt g 0), (6, pt g1 0), (10, pt g2 0), (11, pt g3 0), (18, I x_0)] ∧ Cx F O w wr [Bx 121 g [.ar e32 h], Bx 141 g1 [.ar e32 m_1], Bx 121 g2 [.ar e32 (Vec.rep 8 (0 : UInt32))], Bx 141 g3 [.ar e32 v]]) (m_, r_, (0 : Int)) r hm ⟨m_, r_, (0 : Int), rfl, rfl, k_7⟩ (by kernel_rfl) ?_
 intro s0_ L_ w_6 y0 hrel hstep hr0
 obtain ⟨m_1, v, x_0, rfl, rfl, k_8⟩ := hrel
 have hm := hstep; simp only [m_mixs_F_l0] at hm
 clear hstep
 refine W_seq <| Wq (.n 19 (.b (decide (x_0 < 10))) .a) ?_
 refine W_seq <| W_pz (x_0 < 10) (fun hc => ?_) fun hc => ?_
 · rw [if_pos hc] at hm
   refine W_skip <| At_go <| W_seq <| W_block <| W_seq <| Wq (.n 12 (I x_0) (.s .a)) ?_
   refine W_reg <| We 1 (.n 21 (I x_0) (.s .a)) ?_
   refine WL_op ?_
   obtain ⟨r_1, h_r_1, hm⟩ := ob hm
   have k_9 := (((k_8.pk (.t (.t .h))).pk (.t .h)).pk (.t (.t .h))).pk (.t (.t (.t .h)))
   obtain ⟨F1, O1, kin, hO, hre, hF, hb⟩ := k_9.go (.i (.i (.r (.r .e))))
   refine Op_cz 22 ws_go83 (c_mixs_round (F := F1) (O := O1) _ _ _ _ _ kin _ h_r_1) ?_
   rintro e_ w_7 ⟨rfl, k_10⟩
   have k_11 := hb w_7 _ _ k_10 (.c (.c .n))
   refine ⟨.tup [], rfl, ?_⟩
   refine WL_nil <| At_in <| At_go <| W_q [] (.n 18 (I (w64 (x_0 + 1))) (.ss (.kkkk .z))) qe (by kernel_rfl) ?_
   have k_12 := (((k_11.pk .h).pk (.t (.t (.t .h)))).pk (.t (.t .h))).pk (.t (.t (.t .h)))
   exact At_rd (r_1.2, r_1.1, w64 (x_0 + 1)) (Option.some.inj hm).symm ⟨r_1.2, r_1.1, w64 (x_0 + 1), rfl, rfl, k_12⟩ (by kernel_rfl)
 rw [if_neg hc] at hm
 refine W_exit (At_te (At_te (At_ie ?_)))
 have hm := exit_of hm hr0
 refine At_go <| W_seq <| W_reg <| Wl 2 (.n 24 (.agg [.ar e32 h]) (.n 25 (.agg [.ar e32 v]) (.sss (.k .z)))) (qT k_8 0 rfl 0 8 [.ar e32 h] (by kernel_rfl) (by decide) <| qT k_8 3 rfl 0 16 [.ar e32 v] (by kernel_rfl) (by decide) <| qe) ?_
 refine WL_op ?_
 obtain ⟨r_2, h_r_2, hm⟩ := ob hm
 refine Op_cz 26 ws_go84 (c_mixs_End (F := N0) (O := N0) _ _ (Cx.refl _) _ h_r_2) ?_
 rintro e_ w_8 ⟨rfl, k_13⟩
 have k_14 := k_8.call k_13
 refine ⟨.agg [.ar e32 r_2], rfl, ?_⟩
 have k_15 := k_14.sel (.ss (.k .z))
 refine WL_op <| Op_bz 0 (.agg [.ar e32 r_2]) [.ar e32 r_2] (Pt.at g2 0) k_15 rfl .all ?_
 intro w_9 k_16
 refine Wn <| W_ret ?_
 obtain rfl := si hm
 refine At_rz [.agg [.ar e32 r_2]] (qo (.agg [.ar e32 r_2]) <| qc (fun w => Rd w (some ⟨g2, 0, none⟩) (SV.cl [.ar e32 r_2])) (k_16.brd 0 rfl) <| qe) ?_
 have k_17 := k_16.sel .z
 exact ⟨rfl, k_17⟩
theorem c_node_mixSmall (h : Vec UInt32 8) (b : List UInt8) (c_Lo : UInt64) (c_Hi : UInt64) (last : Bool) (node : Bool) (A_b : Option Addr) (n_b : Nat) (c_b : Nat) (h_b : Ro F w A_b (e8.all b)) (hn_b : b.length = n_b) (hc_b : n_b ≤ c_b) (k : Cx F O w w []) (r : (Vec UInt32 8)) (hm : m_node_mixSmall h b c_Lo c_Hi last node = some r) :
    Calls Try.prog 65 (vals [.agg [.ar e32 h], sl A_b n_b c_b, .agg [.u64 c_Lo, .u64 c_Hi], .b last, .b node]) w (fun e w' => e = .returned (SV.val (.agg [.ar e32 r])) ∧ Cx F O w w' []) := by
 unfold m_node_mixSmall at hm
 subst hn_b
 refine calz [.agg [.ar e32 h], sl A_b b.length c_b, .agg [.u64 c_Lo, .u64 c_Hi], .b last, .b node] Try.func65 rfl ?_
 refine W_seq <| W_reg <| WL_op <| Op_box [] 5 (.agg [.ar e32 h]) [.ar e32 h] (by kernel_rfl) k ?_
 intro g w_ k_
 refine WL_op <| Op_box [] 7 (.agg [.u64 c_Lo, .u64 c_Hi]) [.u64 c_Lo, .u64 c_Hi] (by kernel_rfl) k_ ?_
 intro g1 w_1 k_1
 refine WL_op <| Op_alloc [] 10 [.ar e32 (Vec.rep 8 (0 : UInt32))] (by kernel_rfl) k_1 ?_
 intro g2 w_2 k_2
 refine Wn <| W_seq <| W_reg <| We 1 (.n 14 (sl A_b b.length c_b) (.kkk (.sss .a))) ?_
 refine WL_op ?_
 obtain ⟨r_, h_r_, hm⟩ := ob hm
 refine Op_cz 15 ws_go76 (c_mixs_Words (F := N0) (O := N0) _ _ _ _ (Ro.n0 (h_b.cx k_2)) rfl hc_b (Cx.refl _) _ h_r_) ?_
 rintro e_ w_3 ⟨rfl, k_3⟩
 have k_4 := k_2.call k_3
 refine ⟨.tup [.agg [.ar e32 r_.1], I r_.2], rfl, ?_⟩
 refine We 3 (.n 16 (.agg [.ar e32 r_.1]) (.n 17 (I r_.2) (.ss .a))) ?_
 refine WL_op ?_
 have k_5 := k_4.sel (.kk (.k .e))
 refine Op_alloc [] 11 [.ar e32 (Vec.rep 16 (0 : UInt32))] (by kernel_rfl) k_5 ?_
 intro g3 w_4 k_6
 refine WL_op <| Op_bz 3 (.agg [.ar e32 r_.1]) [.ar e32 r_.1] (Pt.at g3 0) k_6 rfl .all ?_
 intro w_5 k_7
 refine We 1 (.k (.ss .a)) ?_
 refine Wn <| W_seq <| W_reg <| Wl 6 (.n 18 (.agg [.ar e32 h]) (.n 19 (.agg [.ar e32 r_.1]) (.n 21 (.u64 c_Lo) (.n 22 (.b last) (.n 23 (.b node) (.s (.k .z))))))) (qT k_7 0 rfl 0 8 [.ar e32 h] (by kernel_rfl) (by decide) <| qT k_7 3 rfl 0 16 [.ar e32 r_.1] (by kernel_rfl) (by decide) <| qs g1 0 <| qB k_7 1 rfl 0 (.u64 c_Lo) (by kernel_rfl) <| qe) ?_
 refine WL_op ?_
 obtain ⟨r_1, h_r_1, hm⟩ := ob hm
 refine Op_cz 24 ws_go77 (c_mixs_F (F := N0) (O := N0) _ _ _ _ _ (Cx.refl _) _ h_r_1) ?_
 rintro e_ w_6 ⟨rfl, k_8⟩
 have k_9 := k_7.call k_8
 refine ⟨.agg [.ar e32 r_1], rfl, ?_⟩
 have k_10 := k_9.sel (.ss (.k .z))
 refine WL_op <| Op_bz 0 (.agg [.ar e32 r_1]) [.ar e32 r_1] (Pt.at g2 0) k_10 rfl .all ?_
 intro w_7 k_11
 refine Wn <| W_ret ?_
 obtain rfl := si hm
 refine At_rz [.agg [.ar e32 r_1]] (qo (.agg [.ar e32 r_1]) <| qc (fun w => Rd w (some ⟨g2, 0, none⟩) (SV.cl [.ar e32 r_1])) (k_11.brd 0 rfl) <| qe) ?_
 have k_12 := k_11.sel .z
 exact ⟨rfl, k_12⟩
end Go.Sx

