import Derived.Test.YtcpbhpebeoopkaaProg
import Derived.Test.YtcpbhpebeoopkaaK3
namespace Go.Sx
open Go.RowKit Go.Proofs
set_option linter.unusedVariables false
set_option linter.unusedSimpArgs false
set_option maxRecDepth 20000
theorem Hy : cP Try.prog 4 := ⟨⟨Try.f4, _, Try.func4, rfl, by kernel_rfl⟩⟩
theorem Hz : cP Try.prog 5 := ⟨⟨Try.f5, _, Try.func5, rfl, by kernel_rfl⟩⟩
theorem HA : cP Try.prog 6 := ⟨⟨Try.f6, _, Try.func6, rfl, by kernel_rfl⟩⟩
theorem CE : cP Try.prog 7 := ⟨⟨Try.f7, _, Try.func7, rfl, by kernel_rfl⟩⟩
theorem HB : cP Try.prog 8 := ⟨⟨Try.f8, _, Try.func8, rfl, by kernel_rfl⟩⟩
theorem CF : cP Try.prog 9 := ⟨⟨Try.f9, _, Try.func9, rfl, by kernel_rfl⟩⟩
theorem Ex : cP Try.prog 10 := ⟨⟨Try.f10, _, Try.func10, rfl, by kernel_rfl⟩⟩
theorem zN : cP Try.prog 11 := ⟨⟨Try.f11, _, Try.func11, rfl, by kernel_rfl⟩⟩
theorem Ey : cP Try.prog 12 := ⟨⟨Try.f12, _, Try.func12, rfl, by kernel_rfl⟩⟩
theorem Ez : cP Try.prog 13 := ⟨⟨Try.f13, _, Try.func13, rfl, by kernel_rfl⟩⟩
theorem sf : cP Try.prog 14 := ⟨⟨Try.f14, _, Try.func14, rfl, by kernel_rfl⟩⟩
theorem vY : cP Try.prog 15 := ⟨⟨Try.f15, _, Try.func15, rfl, by kernel_rfl⟩⟩
theorem EA : cP Try.prog 16 := ⟨⟨Try.f16, _, Try.func16, rfl, by kernel_rfl⟩⟩
theorem EB : cP Try.prog 17 := ⟨⟨Try.f17, _, Try.func17, rfl, by kernel_rfl⟩⟩
theorem EC : cP Try.prog 18 := ⟨⟨Try.f18, _, Try.func18, rfl, by kernel_rfl⟩⟩
theorem ED : cP Try.prog 19 := ⟨⟨Try.f19, _, Try.func19, rfl, by kernel_rfl⟩⟩
theorem EE : cP Try.prog 20 := ⟨⟨Try.f20, _, Try.func20, rfl, by kernel_rfl⟩⟩
theorem EF : cP Try.prog 21 := ⟨⟨Try.f21, _, Try.func21, rfl, by kernel_rfl⟩⟩
theorem vZ : cP Try.prog 22 := ⟨⟨Try.f22, _, Try.func22, rfl, by kernel_rfl⟩⟩
theorem EG : cP Try.prog 23 := ⟨⟨Try.f23, _, Try.func23, rfl, by kernel_rfl⟩⟩
theorem zO : cP Try.prog 24 := ⟨⟨Try.f24, _, Try.func24, rfl, by kernel_rfl⟩⟩
theorem EH : cP Try.prog 27 := ⟨⟨Try.f27, _, Try.func27, rfl, by kernel_rfl⟩⟩
theorem EI : cP Try.prog 28 := ⟨⟨Try.f28, _, Try.func28, rfl, by kernel_rfl⟩⟩
theorem zP : cP Try.prog 29 := ⟨⟨Try.f29, _, Try.func29, rfl, by kernel_rfl⟩⟩
theorem si : cP Try.prog 30 := ⟨⟨Try.f30, _, Try.func30, rfl, by kernel_rfl⟩⟩
theorem EJ : cP Try.prog 42 := ⟨⟨Try.f42, _, Try.func42, rfl, by kernel_rfl⟩⟩
theorem zQ : cP Try.prog 43 := ⟨⟨Try.f43, _, Try.func43, rfl, by kernel_rfl⟩⟩
theorem EK : cP Try.prog 44 := ⟨⟨Try.f44, _, Try.func44, rfl, by kernel_rfl⟩⟩
theorem EL : cP Try.prog 45 := ⟨⟨Try.f45, _, Try.func45, rfl, by kernel_rfl⟩⟩
theorem EM : cP Try.prog 46 := ⟨⟨Try.f46, _, Try.func46, rfl, by kernel_rfl⟩⟩
theorem EN : cP Try.prog 47 := ⟨⟨Try.f47, _, Try.func47, rfl, by kernel_rfl⟩⟩
theorem oG : cP Try.prog 54 := ⟨⟨Try.f54, _, Try.func54, rfl, by kernel_rfl⟩⟩
theorem EO : cP Try.prog 55 := ⟨⟨Try.f55, _, Try.func55, rfl, by kernel_rfl⟩⟩
theorem sj : cP Try.prog 56 := ⟨⟨Try.f56, _, Try.func56, rfl, by kernel_rfl⟩⟩
theorem EP : cP Try.prog 58 := ⟨⟨Try.f58, _, Try.func58, rfl, by kernel_rfl⟩⟩
theorem zR : cP Try.prog 59 := ⟨⟨Try.f59, _, Try.func59, rfl, by kernel_rfl⟩⟩
theorem ER : cP Try.prog 60 := ⟨⟨Try.f60, _, Try.func60, rfl, by kernel_rfl⟩⟩
theorem ES : cP Try.prog 61 := ⟨⟨Try.f61, _, Try.func61, rfl, by kernel_rfl⟩⟩
theorem zS : cP Try.prog 62 := ⟨⟨Try.f62, _, Try.func62, rfl, by kernel_rfl⟩⟩
theorem ET : cP Try.prog 63 := ⟨⟨Try.f63, _, Try.func63, rfl, by kernel_rfl⟩⟩
theorem zT : cP Try.prog 64 := ⟨⟨Try.f64, _, Try.func64, rfl, by kernel_rfl⟩⟩
theorem zU : cP Try.prog 65 := ⟨⟨Try.f65, _, Try.func65, rfl, by kernel_rfl⟩⟩
theorem EU : cP Try.prog 66 := ⟨⟨Try.f66, _, Try.func66, rfl, by kernel_rfl⟩⟩
theorem EV : cP Try.prog 67 := ⟨⟨Try.f67, _, Try.func67, rfl, by kernel_rfl⟩⟩
theorem EW : cP Try.prog 68 := ⟨⟨Try.f68, _, Try.func68, rfl, by kernel_rfl⟩⟩
theorem zV : cP Try.prog 69 := ⟨⟨Try.f69, _, Try.func69, rfl, by kernel_rfl⟩⟩
theorem zW : cP Try.prog 70 := ⟨⟨Try.f70, _, Try.func70, rfl, by kernel_rfl⟩⟩
theorem zX : cP Try.prog 71 := ⟨⟨Try.f71, _, Try.func71, rfl, by kernel_rfl⟩⟩
theorem EX : cP Try.prog 72 := ⟨⟨Try.f72, _, Try.func72, rfl, by kernel_rfl⟩⟩
theorem EY : cP Try.prog 73 := ⟨⟨Try.f73, _, Try.func73, rfl, by kernel_rfl⟩⟩
theorem zY : cP Try.prog 74 := ⟨⟨Try.f74, _, Try.func74, rfl, by kernel_rfl⟩⟩
theorem EZ : cP Try.prog 75 := ⟨⟨Try.f75, _, Try.func75, rfl, by kernel_rfl⟩⟩
theorem E0 : cP Try.prog 76 := ⟨⟨Try.f76, _, Try.func76, rfl, by kernel_rfl⟩⟩
theorem E1 : cP Try.prog 77 := ⟨⟨Try.f77, _, Try.func77, rfl, by kernel_rfl⟩⟩
theorem E2 : cP Try.prog 78 := ⟨⟨Try.f78, _, Try.func78, rfl, by kernel_rfl⟩⟩
theorem E3 : cP Try.prog 79 := ⟨⟨Try.f79, _, Try.func79, rfl, by kernel_rfl⟩⟩
theorem E4 : cP Try.prog 80 := ⟨⟨Try.f80, _, Try.func80, rfl, by kernel_rfl⟩⟩
theorem zZ : cP Try.prog 81 := ⟨⟨Try.f81, _, Try.func81, rfl, by kernel_rfl⟩⟩
theorem E5 : cP Try.prog 82 := ⟨⟨Try.f82, _, Try.func82, rfl, by kernel_rfl⟩⟩
theorem E6 : cP Try.prog 83 := ⟨⟨Try.f83, _, Try.func83, rfl, by kernel_rfl⟩⟩
theorem E7 : cP Try.prog 84 := ⟨⟨Try.f84, _, Try.func84, rfl, by kernel_rfl⟩⟩
theorem E8 : cP Try.prog 85 := ⟨⟨Try.f85, _, Try.func85, rfl, by kernel_rfl⟩⟩
theorem sk : cP Try.prog 86 := ⟨⟨Try.f86, _, Try.func86, rfl, by kernel_rfl⟩⟩
theorem so : cP Try.prog 87 := ⟨⟨Try.f87, _, Try.func87, rfl, by kernel_rfl⟩⟩
theorem mF : cP Try.prog 109 := ⟨⟨Try.f109, _, Try.func109, rfl, by kernel_rfl⟩⟩
open Go.Shelf in
def tj : Go.Shelf.Ren := ⟨fun | 190 => 22 | 125 => 26 | 258 => 25 | 128 => 40 | 129 => 41 | 302 => 31 | 303 => 32 | 304 => 33 | 305 => 34 | 306 => 35 | 307 => 36 | 308 => 37 | 309 => 38 | 310 => 39 | 333 => 48 | 329 => 49 | 330 => 50 | 334 => 51 | 335 => 52 | 336 => 53 | 344 => 57 | n => n, fun | 31 => 33 | 9 => 9 | 3 => 3 | 46 => 69 | 0 => 0 | 51 => 73 | 53 => 68 | 4 => 4 | 183 => 94 | 182 => 93 | 131 => 60 | 5 => 5 | 218 => 111 | 222 => 115 | 228 => 120 | 229 => 121 | n => n, fun | n => n⟩
open Go.Shelf in
theorem yV : Go.Proofs.Lays.n190 Try.prog tj := {
  mixed := by kernel_rfl
  f125 := Try.func26.trans (congrArg some (by kernel_rfl))
  f128 := Try.func40.trans (congrArg some (by kernel_rfl))
  f129 := Try.func41.trans (congrArg some (by kernel_rfl))
  f190 := Try.func22.trans (congrArg some (by kernel_rfl))
  f258 := Try.func25.trans (congrArg some (by kernel_rfl))
  f302 := Try.func31.trans (congrArg some (by kernel_rfl))
  f303 := Try.func32.trans (congrArg some (by kernel_rfl))
  f304 := Try.func33.trans (congrArg some (by kernel_rfl))
  f305 := Try.func34.trans (congrArg some (by kernel_rfl))
  f306 := Try.func35.trans (congrArg some (by kernel_rfl))
  f307 := Try.func36.trans (congrArg some (by kernel_rfl))
  f308 := Try.func37.trans (congrArg some (by kernel_rfl))
  f309 := Try.func38.trans (congrArg some (by kernel_rfl))
  f310 := Try.func39.trans (congrArg some (by kernel_rfl))
  f329 := Try.func49.trans (congrArg some (by kernel_rfl))
  f330 := Try.func50.trans (congrArg some (by kernel_rfl))
  f333 := Try.func48.trans (congrArg some (by kernel_rfl))
  f334 := Try.func51.trans (congrArg some (by kernel_rfl))
  f335 := Try.func52.trans (congrArg some (by kernel_rfl))
  f336 := Try.func53.trans (congrArg some (by kernel_rfl))
  f344 := Try.func57.trans (congrArg some (by kernel_rfl))
  t0 := Try.underlying0
  a0 := Try.isAgg0
  z0 := Try.sizeOf0
  v0 := Try.zeroValue0
  t3 := Try.underlying3
  a3 := Try.isAgg3
  z3 := Try.sizeOf3
  v3 := Try.zeroValue3
  t4 := Try.underlying4
  a4 := Try.isAgg4
  z4 := Try.sizeOf4
  v4 := Try.zeroValue4
  t5 := Try.underlying5
  a5 := Try.isAgg5
  z5 := Try.sizeOf5
  v5 := Try.zeroValue5
  t9 := Try.underlying9
  a9 := Try.isAgg9
  z9 := Try.sizeOf9
  v9 := Try.zeroValue9
  t31 := Try.underlying33
  a31 := Try.isAgg33
  z31 := Try.sizeOf33
  v31 := Try.zeroValue33
  t46 := Try.underlying69
  a46 := Try.isAgg69
  z46 := Try.sizeOf69
  v46 := Try.zeroValue69
  t51 := Try.underlying73
  a51 := Try.isAgg73
  z51 := Try.sizeOf73
  v51 := Try.zeroValue73
  t53 := Try.underlying68
  a53 := Try.isAgg68
  z53 := Try.sizeOf68
  v53 := Try.zeroValue68
  t131 := Try.underlying60
  a131 := Try.isAgg60
  z131 := Try.sizeOf60
  v131 := Try.zeroValue60
  t182 := Try.underlying93
  a182 := Try.isAgg93
  z182 := Try.sizeOf93
  v182 := Try.zeroValue93
  t183 := Try.underlying94
  a183 := Try.isAgg94
  z183 := Try.sizeOf94
  v183 := Try.zeroValue94
  t218 := Try.underlying111
  a218 := Try.isAgg111
  z218 := Try.sizeOf111
  v218 := Try.zeroValue111
  t222 := Try.underlying115
  a222 := Try.isAgg115
  z222 := Try.sizeOf115
  v222 := Try.zeroValue115
  t228 := Try.underlying120
  a228 := Try.isAgg120
  z228 := Try.sizeOf120
  v228 := Try.zeroValue120
  t229 := Try.underlying121
  a229 := Try.isAgg121
  z229 := Try.sizeOf121
  v229 := Try.zeroValue121 }
theorem re {F O : Nat → Prop} {w0 w : World} {hs : List HP} {i : Nat} {A : Option Addr} {n c : Nat} {xs : List (List UInt8)} (k : Cx F O w0 w hs) (hi : hs[i]? = some (Ow eS A n c xs)) (lK : n < 4611686018427387904) : Calls Try.prog 22 (ak [sl A n c]) w (fun e w' => e = .returned (SV.val (.dB [])) ∧ Cx F O w0 w' (hs.set i (Ow eS A n c (qN xs)))) := Hk yV k hi lK
theorem uK : F4 Try.prog 110 := ⟨⟨Try.f110, Try.func110, by kernel_rfl, by kernel_rfl, by kernel_rfl, by kernel_rfl⟩⟩
theorem z6 : TF Try.prog 28 54 [.string ⟨⟨[]⟩⟩, .slice none 0 0] 40 := ⟨by kernel_rfl, by kernel_rfl, by decide, by decide⟩
theorem z7 : TF Try.prog 29 55 [.string ⟨⟨[]⟩⟩, .slice none 0 0] 40 := ⟨by kernel_rfl, by kernel_rfl, by decide, by decide⟩
theorem iP : TF Try.prog 33 9 [.string ⟨⟨[]⟩⟩] 16 := ⟨by kernel_rfl, by kernel_rfl, by decide, by decide⟩
theorem z8 : TF Try.prog 42 45 [.slice none 0 0] 24 := ⟨by kernel_rfl, by kernel_rfl, by decide, by decide⟩
theorem er : TF Try.prog 45 5 [.int .u8 0] 1 := ⟨by kernel_rfl, by kernel_rfl, by decide, by decide⟩
theorem CG : TF Try.prog 105 108 [.int .i64 0, .int .i64 0, .int .i64 0, .string ⟨⟨[]⟩⟩, .int .i64 0] 48 := ⟨by kernel_rfl, by kernel_rfl, by decide, by decide⟩
theorem xD : TF Try.prog 151 73 [.int .u32 0] 4 := ⟨by kernel_rfl, by kernel_rfl, by decide, by decide⟩
theorem xE : TF Try.prog 167 68 [.int .u64 0] 8 := ⟨by kernel_rfl, by kernel_rfl, by decide, by decide⟩
theorem pD : ∀ (v : Option Addr) (l : Array Value) (w : World), (callMethod (.iface 126 (.pointer v)) "quern/node.out" l).run Try.prog w = .ok (.enter 106 (#[.pointer v] ++ l)) w := by intro v l w; kernel_rfl
theorem ku : ∀ (v : Option Addr) (l : Array Value) (w : World), (callMethod (.iface 126 (.pointer v)) "quern/node.write" l).run Try.prog w = .ok (.enter 108 (#[.pointer v] ++ l)) w := by intro v l w; kernel_rfl
theorem pE : ∀ (v : Option Addr) (l : Array Value) (w : World), (callMethod (.iface 136 (.pointer v)) "quern/node.out" l).run Try.prog w = .ok (.enter 112 (#[.pointer v] ++ l)) w := by intro v l w; kernel_rfl
theorem kv : ∀ (v : Option Addr) (l : Array Value) (w : World), (callMethod (.iface 136 (.pointer v)) "quern/node.write" l).run Try.prog w = .ok (.enter 114 (#[.pointer v] ++ l)) w := by intro v l w; kernel_rfl
theorem aT : Try.prog.follows .mixedOrders = true := by kernel_rfl
theorem oe {F O : Nat → Prop} {w : World} (data : List UInt8) (gz : Option Addr) (pF : Nat) (fM : Nat) (tk : Ro F w gz (e8.all data)) (v_ : data.length = pF) (sq : pF ≤ fM) (k : Cx F O w w []) (r : (List (List UInt8) × Int)) (hm : fY data = some r) :
    Calls Try.prog 11 (ak [sl gz pF fM]) w (fun e w' => ∃ A n c hd, r.1.length = n ∧ e = .returned (SV.val (.dB [sl A n c, I r.2])) ∧ Cx F O w w' [O2 e8 A n c hd r.1]) := by
 unfold fY at hm
 subst v_
 refine calls [sl gz data.length fM] Try.func11 rfl (of_decide_eq_true (by kernel_rfl)) ?_
 refine ab <| aV [] .a qe (by kernel_rfl) ?_
 refine aa <| ab <| ab <| aV [] (.n 12 (.b (decide (1048576 < ((data.length : Nat) : Int)))) .a) qe (by kernel_rfl) ?_
 refine aa <| aN (1048576 < ((data.length : Nat) : Int)) (by kernel_rfl) (fun hc => ?_) (fun hc => ?_)
 · rw [if_pos hc] at hm
   refine ab <| aV [] (.n 2 (sl none 0 0) (.n 3 (I 2) .z)) qe (by kernel_rfl) ?_
   refine aa <| aG (aZ ?_)
   have k_ := k.J1 e8
   obtain rfl := Option.some.inj hm
   refine aH [sl none 0 0, I 2] qe (by kernel_rfl) ?_
   exact ⟨none, 0, 0, ([] : List Hd), k_.xn 0 rfl, rfl, k_⟩
 rw [if_neg hc] at hm
 refine aL <| aa <| ab <| aV [] (.n 4 (sl none 0 0) (.s .a)) qe (by kernel_rfl) ?_
 refine aa <| ab <| aV [] (.n 5 (I 0) (.n 6 (.u64 0) .a)) qe (by kernel_rfl) ?_
 refine aa <| ab <| ab <| aV [] (.n 13 (sl gz data.length fM) (.n 14 (I ((data.length : Nat) : Int)) (.n 15 (I 0) .a))) qe (by kernel_rfl) ?_
 refine aa <| aI ?_
 have cG := k.J1 e8
 refine jQ (dM data) (fun s L wr => ∃ (l : List (List UInt8)) (from_ : Int) (sum : UInt64) (av : Int) (A0 : Option Addr) (n0 : Nat) (c0 : Nat) (Jg : List Hd), (l, from_, sum, av) = s ∧ L = [(0, sl gz data.length fM), (4, sl A0 n0 c0), (5, I from_), (6, .u64 sum), (13, sl gz data.length fM), (14, I ((data.length : Nat) : Int)), (15, I av)] ∧ l.length = n0 ∧ Cx F O w wr [O2 e8 A0 n0 c0 Jg l]) (([] : List (List UInt8)), (0 : Int), (0 : UInt64), (0 : Int)) r hm ⟨([] : List (List UInt8)), (0 : Int), (0 : UInt64), (0 : Int), none, 0, 0, ([] : List Hd), rfl, rfl, cG.xn 0 rfl, cG⟩ (by kernel_rfl) ?_
 intro rW L_ w_ y0 ef bj jH
 obtain ⟨l, from_, sum, av, A0, _, c0, Jg, rfl, rfl, rfl, bN⟩ := ef
 have hm := bj; simp only [dM] at hm
 clear bj
 refine ab <| aV [] (.n 16 (.b (decide (av < ((data.length : Nat) : Int)))) .a) qe (by kernel_rfl) ?_
 refine aa <| ab <| aN (av < ((data.length : Nat) : Int)) (by kernel_rfl) (fun fZ => ?_) (fun fZ => ?_)
 · rw [if_pos fZ] at hm
   refine aL <| aa <| k7 (fun L wr => ∃ (l1 : List (List UInt8)) (pC : Int) (yU : UInt64) (A1 : Option Addr) (n1 : Nat) (c1 : Nat) (MM : List Hd), eG av l1 pC yU = some y0 ∧ L = [(0, sl gz data.length fM), (4, sl A1 n1 c1), (5, I pC), (6, .u64 yU), (13, sl gz data.length fM), (14, I ((data.length : Nat) : Int)), (15, I av)] ∧ l1.length = n1 ∧ Cx F O w wr [O2 e8 A1 n1 c1 MM l1]) ?_ ?_
   ·
    refine aI <| ab ?_
    obtain ⟨bk, dA, hm⟩ := ob hm
    refine aV [] (.n 7 (I av) (.n 8 (.u8 bk) (.s .a))) (qW (tk.cx bN) dA rfl (.u8 bk) rfl <| qe) (by kernel_rfl) ?_
    refine aa <| ab <| aV [] (.n 6 (.u64 ((gl sum ((1 : UInt64).toNat)) + (((UInt64.ofNat bk.toNat) + 1) * 11400714819323198485))) (.k (.s (.nJ (.s .a))))) qe (by kernel_rfl) ?_
    refine aa <| ab <| aV [] (.n 9 (I (aA ((aA (av + 1)) - from_))) .a) qe (by kernel_rfl) ?_
    refine aa <| ab <| aV [] (.n 48 (.b (((decide ((aA ((aA (av + 1)) - from_)) = 1024)) || ((decide (64 ≤ (aA ((aA (av + 1)) - from_)))) && (decide ((dz ((gl sum ((1 : UInt64).toNat)) + (((UInt64.ofNat bk.toNat) + 1) * 11400714819323198485)) ((58 : UInt64).toNat)) = 0)))) || (decide (av = (aA (((data.length : Nat) : Int) - 1)))))) (.s .a)) qe (by kernel_rfl) ?_
    refine aa <| bf (((decide ((aA ((aA (av + 1)) - from_)) = 1024)) || ((decide (64 ≤ (aA ((aA (av + 1)) - from_)))) && (decide ((dz ((gl sum ((1 : UInt64).toNat)) + (((UInt64.ofNat bk.toNat) + 1) * 11400714819323198485)) ((58 : UInt64).toNat)) = 0)))) || (decide (av = (aA (((data.length : Nat) : Int) - 1))))) (by kernel_rfl) (fun jJ => ?_) (fun jJ => ?_)
    · rw [if_pos jJ] at hm
      refine ab <| aj ?_
      obtain ⟨b, j3, hm⟩ := ob hm
      have hs := dE j3
      have hl := fQ j3
      have hn : data.length = data.length := rfl
      have rX : data.length ≤ fM := sq
      obtain ⟨A2, c2, e_, t_, hA, rf⟩ := G6 gz (Int.toNat from_) fM 1 (Int.toNat (aA (av + 1)) - Int.toNat from_) b.length (by omega) (by omega)
      refine aQ 6 [] (.n 49 (sl A0 l.length c0) (.n 54 (sl A2 b.length c2) (.ss (.nJ (.s .a))))) (qp (0 ≤ aA (av + 1) ∧ aA (av + 1) ≤ ((fM : Nat) : Int)) (by omega) <| qp (0 ≤ from_ ∧ from_ ≤ ((Int.toNat (aA (av + 1)) : Nat) : Int)) (by omega) <| qo (.v (.slice A2 b.length c2)) <| qp (Value.slice (nj gz (Int.toNat from_) fM 1) (Int.toNat (aA (av + 1)) - Int.toNat from_) (fM - Int.toNat from_) = .slice A2 b.length c2) e_ <| qe) (by kernel_rfl) ?_
      refine ae ?_
      have cD := bN.nil e8
      obtain ⟨b1, na, hm⟩ := ob hm
      obtain ⟨hz, yu⟩ := fh na
      refine dq (E := e8) (v := sl A2 b.length c2) (ys := b) er [] 55 1 (by kernel_rfl) cD rfl (Src.sl (Rd.cut (tk.cx cD) j3 rfl (by rfl) hA (by omega)) rfl (by rfl)) rfl (by have := cD.len 1 rfl; have := hm; omega) ?_
      intro A3 c3 jh dm
      rw [← yu] at dm
      refine ae ?_
      have dx := (dm.pk .h).pk (.t .h)
      refine He (rest := [O2 e8 A0 l.length c0 Jg l]) z8 e8 [] 56 ([(A3, 0 + b.length, c3)] : List Hd) ([b1] : List (List UInt8)) [(0, sl A3 (0 + b.length) c3)] [sl A3 (0 + b.length) c3] (by kernel_rfl) (by kernel_rfl) (by kernel_rfl) rfl dx ?_
      intro A4 kI dV
      refine ae ?_
      have ed := (dV.pk .h).pk (.t .h)
      obtain ⟨l2, HC, hm⟩ := ob hm
      obtain ⟨DI, sG⟩ := fh HC
      refine yO z8 [] 57 (by kernel_rfl) ed (by have := ed.xn 0 rfl; have := ed.xn 1 rfl; omega) ?_
      intro A5 c4 mb eo
      rw [← sG] at eo
      refine aQ 1 [] (.n 4 (sl A5 (l.length + 1) c4) (.fi (.s (.kk (.s .a))))) qe (by kernel_rfl) ?_
      refine ad <| aa <| aV [] (.n 5 (I (aA (av + 1))) (.n 6 (.u64 0) (.k (.s .a)))) qe (by kernel_rfl) ?_
      refine cu ?_
      exact gK ⟨l2, aA (av + 1), (0 : UInt64), A5, l.length + 1, c4, Jg ++ ([(A3, 0 + b.length, c3)] : List Hd), hm, rfl, eo.xn 0 rfl, eo⟩ (by kernel_rfl)
    rw [if_neg (by rw [jJ]; decide)] at hm
    refine aL <| cu ?_
    exact gK ⟨l, from_, (gl sum ((1 : UInt64).toNat)) + (((UInt64.ofNat bk.toNat) + 1) * 11400714819323198485), A0, l.length, c0, Jg, hm, rfl, bN.xn 0 rfl, bN⟩ (by kernel_rfl)
   rintro L_ mc ⟨l1, pC, yU, A1, _, c1, MM, hm, rfl, rfl, eU⟩
   simp only [eG] at hm
   refine aV [] (.n 15 (I (aA (av + 1))) (.bb (.kk .z))) qe (by kernel_rfl) ?_
   exact fO (l1, pC, yU, aA (av + 1)) (Option.some.inj hm).symm ⟨l1, pC, yU, aA (av + 1), A1, l1.length, c1, MM, rfl, rfl, eU.xn 0 rfl, eU⟩ (by kernel_rfl)
 rw [if_neg fZ] at hm
 refine cA (bu (bu (dZ ?_)))
 have hm := bT hm jH
 refine aa <| ab <| aV [] (.n 2 (sl A0 l.length c0) (.n 3 (I 0) .z)) qe (by kernel_rfl) ?_
 refine aa <| aG ?_
 obtain rfl := Option.some.inj hm
 refine aH [sl A0 l.length c0, I 0] qe (by kernel_rfl) ?_
 exact ⟨A0, l.length, c0, Jg, bN.xn 0 rfl, rfl, bN⟩
theorem yW {F O : Nat → Prop} {w : World} (a_ : List UInt8) (b : List UInt8) (wa : Option Addr) (yX : Nat) (wb : Nat) (fm : Option Addr) (ig : Nat) (fw : Nat) (HD : Ro F w wa (e8.all a_)) (CH : a_.length = yX) (Gg : yX ≤ wb) (j3 : Ro F w fm (e8.all b)) (iV : b.length = ig) (jK : ig ≤ fw) (k : Cx F O w w []) (r : Bool) (hm : lB a_ b = some r) :
    Calls Try.prog 20 (ak [sl wa yX wb, sl fm ig fw]) w (fun e w' => e = .returned (SV.val (.b r)) ∧ Cx F O w w' []) := by
 unfold lB at hm
 subst CH
 subst iV
 refine calls [sl wa a_.length wb, sl fm b.length fw] Try.func20 rfl (of_decide_eq_true (by kernel_rfl)) ?_
 refine ab <| aV [] .a qe (by kernel_rfl) ?_
 refine aa <| ab <| ab <| aV [] (.n 10 (.b (decide (((a_.length : Nat) : Int) ≠ ((b.length : Nat) : Int)))) .a) qe (by kernel_rfl) ?_
 refine aa <| aN (((a_.length : Nat) : Int) ≠ ((b.length : Nat) : Int)) (by kernel_rfl) (fun hc => ?_) (fun hc => ?_)
 · rw [if_pos hc] at hm
   refine ab <| aV [] (.n 4 (.b false) .z) qe (by kernel_rfl) ?_
   refine aa <| aG (aZ ?_)
   obtain rfl := Option.some.inj hm
   refine aH [.b false] qe (by kernel_rfl) ?_
   exact ⟨rfl, k⟩
 rw [if_neg hc] at hm
 refine aL <| aa <| ab <| ab <| aV [] (.n 5 (I 0) (.s .a)) qe (by kernel_rfl) ?_
 refine aa <| aI <| jQ (j1 a_ b) (fun s L wr => ∃ (i : Int), i = s ∧ L = [(0, sl wa a_.length wb), (1, sl fm b.length fw), (5, I i)] ∧ Cx F O w wr []) (0 : Int) r hm ⟨(0 : Int), rfl, rfl, k⟩ (by kernel_rfl) ?_
 intro rW L_ w_ y0 ef bj jH
 obtain ⟨i, rfl, rfl, k_⟩ := ef
 have hm := bj; simp only [j1] at hm
 clear bj
 refine ab <| ab <| aV [] (.n 14 (.b (decide (i < ((a_.length : Nat) : Int)))) .a) qe (by kernel_rfl) ?_
 refine aa <| aN (i < ((a_.length : Nat) : Int)) (by kernel_rfl) (fun fZ => ?_) (fun fZ => ?_)
 · rw [if_pos fZ] at hm
   refine aL <| aa <| ab <| aI <| ab ?_
   obtain ⟨av, lD, hm⟩ := ob hm
   obtain ⟨ew, eA, hm⟩ := ob hm
   refine I_ aT (by kernel_rfl) (.n 25 (.b (decide (av ≠ ew))) (.s .a)) (fun m => qW (HD.cx (k_.drew m)) lD rfl (.u8 av) rfl <| qW (j3.cx (k_.drew m)) eA rfl (.u8 ew) rfl <| qe) (by kernel_rfl) (fun m_ => ?_)
   have bN := k_.drew m_
   refine aa <| aN (av ≠ ew) (by kernel_rfl) (fun jJ => ?_) (fun jJ => ?_)
   · rw [if_pos jJ] at hm
     refine ab <| aV [] (.n 4 (.b false) .z) qe (by kernel_rfl) ?_
     refine aa <| aG (cH (aZ (aZ (cH (aZ ?_)))))
     have hm := bT hm jH
     obtain rfl := Option.some.inj hm
     refine aH [.b false] qe (by kernel_rfl) ?_
     exact ⟨rfl, bN⟩
   rw [if_neg jJ] at hm
   refine aL <| cu <| aa <| aV [] (.n 5 (I (aA (i + 1))) (.s (.kk .z))) qe (by kernel_rfl) ?_
   exact fO (aA (i + 1)) (Option.some.inj hm).symm ⟨aA (i + 1), rfl, rfl, bN⟩ (by kernel_rfl)
 rw [if_neg fZ] at hm
 refine cA (bu (bu (dZ ?_)))
 have hm := bT hm jH
 refine aa <| ab <| aV [] (.n 4 (.b true) .z) qe (by kernel_rfl) ?_
 refine aa <| aG ?_
 obtain rfl := Option.some.inj hm
 refine aH [.b true] qe (by kernel_rfl) ?_
 exact ⟨rfl, k_⟩
theorem yY {F O : Nat → Prop} {w : World} (a_ : List UInt8) (b : List UInt8) (wa : Option Addr) (yX : Nat) (wb : Nat) (fm : Option Addr) (ig : Nat) (fw : Nat) (HD : Ro F w wa (e8.all a_)) (CH : a_.length = yX) (Gg : yX ≤ wb) (j3 : Ro F w fm (e8.all b)) (iV : b.length = ig) (jK : ig ≤ fw) (k : Cx F O w w []) (r : Bool) (hm : lC a_ b = some r) :
    Calls Try.prog 12 (ak [sl wa yX wb, sl fm ig fw]) w (fun e w' => e = .returned (SV.val (.b r)) ∧ Cx F O w w' []) := by
 unfold lC at hm
 subst CH
 subst iV
 refine calls [sl wa a_.length wb, sl fm b.length fw] Try.func12 rfl (of_decide_eq_true (by kernel_rfl)) ?_
 refine ab <| aV [] .a qe (by kernel_rfl) ?_
 refine aa <| ab <| aj <| aQ 2 [] (.n 5 (sl wa a_.length wb) (.n 6 (sl fm b.length fw) .z)) qe (by kernel_rfl) ?_
 refine ae ?_
 obtain ⟨r_, cc, hm⟩ := ob hm
 refine ax [] 7 _ EE (by kernel_rfl) (yW (F := N0) (O := N0) _ _ _ _ _ _ _ _ (Ro.n0 (HD.cx k)) rfl Gg (Ro.n0 (j3.cx k)) rfl jK (Cx.refl _) _ cc) ?_
 rintro e_ w_ ⟨rfl, k_⟩
 have bN := k.call k_
 refine ⟨.b r_, rfl, ?_⟩
 refine aQ 1 [] (.n 4 (.b r_) .z) qe (by kernel_rfl) ?_
 refine ad <| aa <| aG ?_
 obtain rfl := Option.some.inj hm
 refine aH [.b r_] qe (by kernel_rfl) ?_
 exact ⟨rfl, bN⟩
theorem xF {F O : Nat → Prop} {w : World} (k : Cx F O w w []) (r : Bool) (hm : kp = some r) :
    Calls Try.prog 4 (ak []) w (fun e w' => e = .returned (SV.val (.b r)) ∧ Cx F O w w' []) := by
 unfold kp at hm
 refine calls [] Try.func4 rfl (of_decide_eq_true (by kernel_rfl)) ?_
 refine ab <| aV [] .a qe (by kernel_rfl) ?_
 refine aa <| ab <| aj <| ae <| lQ er e8 [] 4 ([(97 : UInt8), (98 : UInt8), (99 : UInt8)] : List UInt8) [(0, .u8 97), (1, .u8 98), (2, .u8 99)] [.u8 97, .u8 98, .u8 99] (by kernel_rfl) (by kernel_rfl) (by kernel_rfl) k ?_
 intro A w_ k_
 refine ae <| F_ 5 [] 5 0 (by kernel_rfl) k_ rfl (by omega) ?_
 intro jh bN
 refine ae ?_
 obtain ⟨r_, cc, hm⟩ := ob hm
 refine ax [] 6 _ zN (by kernel_rfl) (oe (F := N0) (O := N0) _ _ _ _ (Ro.n0 (bN.rd 0 rfl)) (bN.len 0 rfl) (bN.tU 0 rfl) (Cx.refl _) _ cc) ?_
 rintro e_ kI ⟨A1, _, c, hd, rfl, rfl, cG⟩
 have cD := bN.call cG
 refine ⟨.dB [sl A1 r_.1.length c, I r_.2], rfl, ?_⟩
 have dm := cD.ba (.s (.k .e))
 refine aQ 5 [] (.n 1 (sl A1 r_.1.length c) (.n 2 (I r_.2) .z)) qe (by kernel_rfl) ?_
 refine ad <| aa <| ab <| aj <| aQ 8 [] (.n 16 (.b ((decide (r_.2 = 0)) && (decide (((r_.1.length : Nat) : Int) = 1)))) (.k .z)) qe (by kernel_rfl) ?_
 refine uB 16 ((decide (r_.2 = 0)) && (decide (((r_.1.length : Nat) : Int) = 1))) (.s .a) (by kernel_rfl) (fun hg => ?_) (fun hg => ?_)
 · rw [if_pos hg] at hm
   obtain ⟨b, j3, hm⟩ := ob hm
   obtain ⟨fm, fw, hh, hle⟩ := dm.QL 0 rfl j3
   refine aQ 3 [16] (.n 19 (sl fm b.length fw) (.k .z)) (qJ (dm.uD 0 rfl) hh (dm.rJ 0 rfl) <| qC (sl fm b.length fw) (Rd.el (k := 0) (dm.uD 0 rfl) hh (Pt.oZ A1 (0 : Int) 1) rfl) <| qe) (by kernel_rfl) ?_
   refine ae <| lQ er e8 [16] 20 ([(97 : UInt8), (98 : UInt8), (99 : UInt8)] : List UInt8) [(0, .u8 97), (1, .u8 98), (2, .u8 99)] [.u8 97, .u8 98, .u8 99] (by kernel_rfl) (by kernel_rfl) (by kernel_rfl) dm ?_
   intro A2 mb dx
   refine ae ?_
   have dV := dx.ba (.kk .e)
   refine F_ 5 [16] 21 1 (by kernel_rfl) dV rfl (by omega) ?_
   intro mc ed
   refine ae ?_
   obtain ⟨aE, cB, hm⟩ := ob hm
   refine ax [16] 22 _ Ey (by kernel_rfl) (yY (F := N0) (O := N0) _ _ _ _ _ _ _ _ (Ro.n0 (ed.QM 0 rfl j3 hh)) rfl hle (Ro.n0 (ed.rd 1 rfl)) (ed.len 1 rfl) (ed.tU 1 rfl) (Cx.refl _) _ cB) ?_
   rintro e_ oH ⟨rfl, eo⟩
   have eU := ed.call eo
   refine ⟨.b aE, rfl, ?_⟩
   have bH := eU.ba .z
   refine aQ 2 [16] (.n 0 (.b aE) .z) qe (by kernel_rfl) ?_
   refine ad <| aa <| aG ?_
   obtain rfl := Option.some.inj hm
   refine aH [.b aE] qe (by kernel_rfl) ?_
   exact ⟨rfl, bH⟩
 · rw [if_neg (by rw [hg]; decide)] at hm
   refine aQ 8 [16] (.n 0 (.b false) .z) qe (by kernel_rfl) ?_
   refine ad <| aa <| aG ?_
   obtain rfl := Option.some.inj hm
   refine aH [.b false] qe (by kernel_rfl) ?_
   have bD := dm.ba .z
   exact ⟨rfl, bD⟩
theorem xG {F O : Nat → Prop} {w : World} (size : Int) (k : Cx F O w w []) (r : Unit ⊕ (Int × Mp (List UInt8) × (Mp (Mp (Int × List UInt8))))) (hm : kq size = some r) :
    Calls Try.prog 5 (ak [I size]) w (fun e w' => match r with | .inl r0 => e = .returned (SV.val (.dB [.v (.pointer none), I 1])) ∧ Cx F O w w' [] | .inr r1 => ∃ g b b1, e = .returned (SV.val (.dB [pt g 0, I 0])) ∧ Cx F O w w' [Bx 50 g [I r1.1, .v (.map (some b)), .v (.map (some b1))], MS (vH e8) b r1.2.1, MS (vM (vS (eP eI eS) (bL bJ bK))) b1 r1.2.2]) := by
 unfold kq at hm
 refine calls [I size] Try.func5 rfl (of_decide_eq_true (by kernel_rfl)) ?_
 refine ab <| aV [] .a qe (by kernel_rfl) ?_
 refine aa <| ab <| ab <| aV [] (.n 9 (.b ((decide (size < 1)) || (decide (64 < size)))) .a) qe (by kernel_rfl) ?_
 refine aa <| bf ((decide (size < 1)) || (decide (64 < size))) (by kernel_rfl) (fun hc => ?_) (fun hc => ?_)
 · rw [if_pos hc] at hm
   refine ab <| aV [] (.n 2 (.v (.pointer none)) (.n 3 (I 1) .z)) qe (by kernel_rfl) ?_
   refine aa <| aG (aZ ?_)
   obtain rfl := Option.some.inj hm
   refine aH [.v (.pointer none), I 1] qe (by kernel_rfl) ?_
   exact ⟨rfl, k⟩
 rw [if_neg (by rw [hc]; decide)] at hm
 refine aL <| aa <| ab <| aj <| aQ 1 [] (.n 10 (I size) .z) qe (by kernel_rfl) ?_
 refine ae <| mq [] 11 (by kernel_rfl) k ?_
 intro b0 w_ k_
 have bN := k_.qP (v := (vH e8))
 refine ae <| mq [] 12 (by kernel_rfl) bN ?_
 intro b2 jh cG
 have cD := cG.qP (v := (vM (vS (eP eI eS) (bL bJ bK))))
 refine aQ 1 [] (.n 13 (.agg [I size, .v (.map (some b0)), .v (.map (some b2))]) .z) qe (by kernel_rfl) ?_
 refine ae <| eg [] 14 (.agg [I size, .v (.map (some b0)), .v (.map (some b2))]) [I size, .v (.map (some b0)), .v (.map (some b2))] (by kernel_rfl) cD ?_
 intro g0 kI dm
 refine aQ 2 [] (.n 2 (pt g0 0) (.n 3 (I 0) .z)) qe (by kernel_rfl) ?_
 refine ad <| aa <| aG ?_
 obtain rfl := Option.some.inj hm
 refine aH [pt g0 0, I 0] qe (by kernel_rfl) ?_
 have dx := ((dm.pk .h).pk (.t .h)).pk (.t (.t .h))
 exact ⟨g0, b0, b2, rfl, dx⟩
theorem wc {F O : Nat → Prop} {w : World} (b : List UInt8) (fm : Option Addr) (ig : Nat) (fw : Nat) (j3 : Ro F w fm (e8.all b)) (iV : b.length = ig) (jK : ig ≤ fw) (k : Cx F O w w []) (r : (List UInt8)) (hm : jB b = some r) :
    Calls Try.prog 13 (ak [sl fm ig fw]) w (fun e w' => ∃ A n c, r.length = n ∧ e = .returned (SV.val (sl A n c)) ∧ Cx F O w w' [Ow e8 A n c r]) := by
 unfold jB at hm
 subst iV
 refine calls [sl fm b.length fw] Try.func13 rfl (of_decide_eq_true (by kernel_rfl)) ?_
 refine ab <| aV [] .a qe (by kernel_rfl) ?_
 refine aa <| ab <| aj <| ae <| lQ er e8 [] 3 ([] : List UInt8) [] [] (by kernel_rfl) (by kernel_rfl) (by kernel_rfl) k ?_
 intro A0 w_ k_
 refine aQ 1 [] (.n 4 (sl fm b.length fw) (.k .z)) qe (by kernel_rfl) ?_
 refine ae ?_
 obtain ⟨b1, na, hm⟩ := ob hm
 obtain ⟨hz, hl⟩ := fh na
 refine dq (E := e8) (v := sl fm b.length fw) (ys := b) er [] 5 0 (by kernel_rfl) k_ rfl (Src.sl (j3.cx k_) rfl (by rfl)) rfl (by have := k_.len 0 rfl; have := hm; omega) ?_
 intro A1 c0 jh bN
 rw [← hl] at bN
 refine aQ 1 [] (.n 2 (sl A1 (0 + b.length) c0) .z) qe (by kernel_rfl) ?_
 refine ad <| aa <| aG ?_
 obtain rfl := Option.some.inj hm
 refine aH [sl A1 (0 + b.length) c0] qe (by kernel_rfl) ?_
 exact ⟨A1, 0 + b.length, c0, bN.len 0 rfl, rfl, bN⟩
theorem xH {F O : Nat → Prop} {w : World} (l : List (List UInt8 × List UInt8)) (AQ : Option Addr) (HE : Nat) (DN : Nat) (CI : List (List UInt8 × Hd)) (CJ : yP F O w (eP eS eH) (SP SQ (SH e8)) AQ CI l) (HF : l.length = HE) (Kh : HE ≤ DN) (k : Cx F O w w []) (r : ((List (List UInt8 × List UInt8)) × (List (List UInt8 × List UInt8)))) (hm : kr l = some r) :
    Calls Try.prog 6 (ak [sl AQ HE DN]) w (fun e w' => ∃ A n c ys A1 n1 c1 PH, r.1.length = n ∧ r.2.length = n1 ∧ e = .returned (SV.val (.dB [sl A n c, sl A1 n1 c1])) ∧ Cx F O w w' [OG (eP eS eH) (SP SQ (SH e8)) A n c ys r.1, OG (eP eS eH) (SP SQ (SH e8)) A1 n1 c1 PH r.2]) := by
 unfold kr at hm
 have Lz : xq F w (eP eS eH) (RP RQ (RH F w e8)) AQ CI l := CJ.MA k.off (fun R_ y_ x_ HG q_ => ⟨(And.left q_), (SH.rh (And.right q_) HG)⟩)
 subst HF
 refine calls [sl AQ l.length DN] Try.func6 rfl (of_decide_eq_true (by kernel_rfl)) ?_
 refine ab <| aV [] .a qe (by kernel_rfl) ?_
 refine aa <| ab <| aV [] (.n 4 (sl none 0 0) .a) qe (by kernel_rfl) ?_
 refine aa <| ab <| aV [] (.n 5 (sl none 0 0) .a) qe (by kernel_rfl) ?_
 refine aa <| ab <| ab <| aV [] (.n 8 (sl AQ l.length DN) (.n 9 (I ((l.length : Nat) : Int)) (.n 10 (I 0) (.kk .z)))) qe (by kernel_rfl) ?_
 refine aa <| aI ?_
 have bN := k.Ga (eP eS eH) (SP SQ (SH e8))
 have cG := bN.Ga (eP eS eH) (SP SQ (SH e8))
 have cD := (cG.pk .h).pk (.t .h)
 refine jQ (gQ l) (fun s L wr => ∃ (a_ : List (List UInt8 × List UInt8)) (b : List (List UInt8 × List UInt8)) (av : Int) (A0 : Option Addr) (n0 : Nat) (c0 : Nat) (LA : List (List UInt8 × Hd)) (A2 : Option Addr) (n2 : Nat) (c2 : Nat) (BA : List (List UInt8 × Hd)), (a_, b, av) = s ∧ L = [(4, sl A0 n0 c0), (5, sl A2 n2 c2), (8, sl AQ l.length DN), (9, I ((l.length : Nat) : Int)), (10, I av)] ∧ a_.length = n0 ∧ b.length = n2 ∧ Cx F O w wr [OG (eP eS eH) (SP SQ (SH e8)) A0 n0 c0 LA a_, OG (eP eS eH) (SP SQ (SH e8)) A2 n2 c2 BA b]) (([] : List (List UInt8 × List UInt8)), ([] : List (List UInt8 × List UInt8)), (0 : Int)) r hm ⟨([] : List (List UInt8 × List UInt8)), ([] : List (List UInt8 × List UInt8)), (0 : Int), none, 0, 0, ([] : List (List UInt8 × Hd)), none, 0, 0, ([] : List (List UInt8 × Hd)), rfl, rfl, cD.np 0 rfl, cD.np 1 rfl, cD⟩ (by kernel_rfl) ?_
 intro rW L_ w_ y0 ef bj jH
 obtain ⟨a_, b, av, A0, _, c0, LA, A2, _, c2, BA, rfl, rfl, rfl, rfl, k_⟩ := ef
 have hm := bj; simp only [gQ] at hm
 clear bj
 refine ab <| aV [] (.n 11 (.b (decide (av < ((l.length : Nat) : Int)))) .a) qe (by kernel_rfl) ?_
 refine aa <| ab <| aN (av < ((l.length : Nat) : Int)) (by kernel_rfl) (fun hc => ?_) (fun hc => ?_)
 · rw [if_pos hc] at hm
   refine aL <| aa <| ab <| aI <| ab <| aj ?_
   obtain ⟨bk, dA, hm⟩ := ob hm
   obtain ⟨⟨q, ⟨B, n3, c3⟩⟩, hy, hg⟩ := CJ.at dA
   simp only [SP, SQ, SH] at hg; obtain ⟨rfl, ⟨rfl, hle, Jb, hO⟩⟩ := hg
   have PI : Ro F w B (e8.all bk.2) := ⟨Jb, fun MN a_ Q3 Q4 => k.off _ (hO MN a_ Q3) Q4⟩
   have Q5 : (SH e8).r w O (B, bk.2.length, c3) bk.2 := ⟨rfl, hle, Jb, hO⟩
   refine aQ 2 [] (.n 13 (.agg [.s bk.1, sl B bk.2.length c3]) (.s .a)) (qJ (E := (eP eS eH)) (Lz.ro.cx k_) hy Lz.len <| qR [.s bk.1, sl B bk.2.length c3] (Rd.JN (k := 0) (m := 2) (Lz.ro.cx k_) hy (Pt.oZ AQ av 2) rfl (by decide) (by decide)) <| qe) (by kernel_rfl) ?_
   refine ae <| aU [] 7 [.s ([] : List UInt8), sl none 0 0] (by kernel_rfl) k_ ?_
   intro g jh dm
   refine ae <| cE [] 2 (.agg [.s bk.1, sl B bk.2.length c3]) [.s bk.1, sl B bk.2.length c3] (Pt.at g 0) dm rfl .all (by kernel_rfl) (by kernel_rfl) ?_
   intro kI dx
   refine ad <| aa <| ab ?_
   have dV := dx.drew 1
   refine lJ aT (.q 0 2 (.q 3 2 (.q 4 1 (.q 1 3 (.q 2 2 (.op 5 (.q 6 1 (.op 7 (.op 8 (.q 9 3 .nil)))))))))) [5, 7, 8] dV (.c (.kk (.k .e)) (.c (.kk (.k .e)) (.c (.s (.kk .e)) .l))) (by kernel_rfl) (fun _ => ?_)
   refine bo 2 2 [] (.n 14 (sl A0 a_.length c0) (.n 17 (pt g 1) (.k (.s .a)))) (fun x hx => qs g 0 <| qe) (by kernel_rfl) (fun _ => ?_)
   refine bo 1 1 [] (.n 18 (sl B bk.2.length c3) (.k (.s .a))) (fun x hx => qB hx 2 rfl 1 (sl B bk.2.length c3) (by kernel_rfl) <| qe) (by kernel_rfl) (fun _ => ?_)
   refine bo 1 3 [] (.n 15 (pt g 0) .a) (fun x hx => qs g 0 <| qe) (by kernel_rfl) (fun _ => ?_)
   refine bo 1 2 [] (.n 16 (.s bk.1) (.s .a)) (fun x hx => qB hx 2 rfl 0 (.s bk.1) (by kernel_rfl) <| qe) (by kernel_rfl) (fun _ => ?_)
   refine bl (by kernel_rfl) rfl ?_
   obtain ⟨r_, cc, hm⟩ := ob hm
   refine ax [] 19 _ Ez (by kernel_rfl) (wc (F := N0) (O := N0) _ _ _ _ (Ro.n0 (PI.cx dV)) rfl hle (Cx.refl _) _ cc) ?_
   rintro e_ mb ⟨A3, _, c4, rfl, rfl, ed⟩
   have eo := dV.call ed
   refine ⟨sl A3 r_.length c4, rfl, ?_⟩
   refine ⟨(eo.ba (.kk (.k .z))), fun _ => ?_⟩
   refine bo 1 1 [] (.n 20 (.agg [.s bk.1, sl A3 r_.length c4]) (.ib .a)) (fun x hx => qe) (by kernel_rfl) (fun _ => ?_)
   refine bl (by kernel_rfl) rfl ?_
   have eU := (((eo.pk (.t (.t .h))).pk (.t (.t .h))).pk (.t (.t .h))).pk (.t (.t (.t .h)))
   have bH := eU.share
   have bD := bH.gL 0 rfl
   have cS := bD.Mz (bk.1 : List UInt8)
   have dk := cS.PA
   refine lQ z6 (eP eS eH) [] 21 ([((bk.1 : List UInt8), (A3, r_.length, c4))] : List (List UInt8 × Hd)) [(0, .agg [.s bk.1, sl A3 r_.length c4])] [.s bk.1, sl A3 r_.length c4] (by kernel_rfl) (by kernel_rfl) (by kernel_rfl) dk ?_
   intro A4 mc dD
   have et := (((((dD.pk (.t (.t (.t (.t .h))))).pk (.t (.t (.t (.t .h))))).pk (.t (.t (.t (.t .h))))).pk (.t (.t (.t (.t .h))))).pk (.t (.t (.t (.t .h))))).pk (.t (.t (.t (.t (.t .h)))))
   have eC := et.og
   refine ⟨(eC.ba (.ss (.kk (.k .e)))), fun _ => ?_⟩
   refine bl (by kernel_rfl) rfl ?_
   have eW := eC.ba (.bb (.k .e))
   have fN := ((((eW.pk (.t (.t (.t (.t .h))))).pk (.t (.t (.t (.t .h))))).pk (.t (.t (.t .h)))).pk (.t (.t (.t .h)))).pk (.t (.t (.t (.t .h))))
   obtain ⟨Lw, Ki, hm⟩ := ob hm
   obtain ⟨hz, hl⟩ := fh Ki
   refine sY z6 [] 22 (by kernel_rfl) fN (by have := fN.np 0 rfl; have := fN.np 1 rfl; omega) ?_
   intro A5 c5 oH iW
   rw [← hl] at iW
   have fH := iW.ba (.k (.s (.kk .e)))
   refine ⟨(fH.ba (.s (.kk .e))), fun _ => ?_⟩
   refine bo 1 3 [] (.n 4 (sl A5 (a_.length + 1) c5) (.fi (.k (.s .a)))) (fun x hx => qe) (by kernel_rfl) (fun _ => ?_)
   refine bC <| aa <| aj <| aQ 6 [] (.n 23 (sl A2 b.length c2) (.n 28 (.agg [.s bk.1, sl B bk.2.length c3]) (.k (.s .a)))) (qs g 0 <| qB fH 2 rfl 0 (.s bk.1) (by kernel_rfl) <| qs g 0 <| qB fH 2 rfl 1 (sl B bk.2.length c3) (by kernel_rfl) <| qe) (by kernel_rfl) ?_
   refine ae ?_
   have gA := fH.J5 (SH e8) Q5
   have iA := gA.Mz (bk.1 : List UInt8)
   have jL := iA.PA
   refine lQ z7 (eP eS eH) [] 29 ([((bk.1 : List UInt8), (B, bk.2.length, c3))] : List (List UInt8 × Hd)) [(0, .agg [.s bk.1, sl B bk.2.length c3])] [.s bk.1, sl B bk.2.length c3] (by kernel_rfl) (by kernel_rfl) (by kernel_rfl) jL ?_
   intro A6 qD iv
   have iX := ((((iv.pk (.t (.t (.t .h)))).pk (.t (.t (.t .h)))).pk (.t (.t (.t .h)))).pk (.t (.t (.t .h)))).pk (.t (.t (.t (.t .h))))
   have jM := iX.og
   refine ae ?_
   have lM := (((jM.pk (.t (.t (.t .h)))).pk (.t (.t .h))).pk (.t (.t .h))).pk (.t (.t (.t .h)))
   obtain ⟨b1, na, hm⟩ := ob hm
   obtain ⟨DI, yu⟩ := fh na
   refine sY z7 [] 30 (by kernel_rfl) lM (by have := lM.np 0 rfl; have := lM.np 1 rfl; omega) ?_
   intro A7 c6 rL je
   rw [← yu] at je
   have l8 := je.ba (.kk .z)
   refine aQ 1 [] (.n 5 (sl A7 (b.length + 1) c6) (.fi (.k (.s .a)))) qe (by kernel_rfl) ?_
   refine ad <| cu <| aa <| aV [] (.n 10 (I (aA (av + 1))) (.bb .z)) qe (by kernel_rfl) ?_
   have lE := (l8.pk .h).pk (.t .h)
   exact fO (Lw, b1, aA (av + 1)) (Option.some.inj hm).symm ⟨Lw, b1, aA (av + 1), A5, a_.length + 1, c5, LA ++ ([((bk.1 : List UInt8), (A3, r_.length, c4))] : List (List UInt8 × Hd)), A7, b.length + 1, c6, BA ++ ([((bk.1 : List UInt8), (B, bk.2.length, c3))] : List (List UInt8 × Hd)), rfl, rfl, lE.np 0 rfl, lE.np 1 rfl, lE⟩ (by kernel_rfl)
 rw [if_neg hc] at hm
 refine cA (bu (bu (dZ ?_)))
 have hm := bT hm jH
 refine aa <| ab <| aV [] (.n 2 (sl A0 a_.length c0) (.n 3 (sl A2 b.length c2) .z)) qe (by kernel_rfl) ?_
 refine aa <| aG ?_
 obtain rfl := Option.some.inj hm
 refine aH [sl A0 a_.length c0, sl A2 b.length c2] qe (by kernel_rfl) ?_
 exact ⟨A0, a_.length, c0, LA, A2, b.length, c2, BA, k_.np 0 rfl, k_.np 1 rfl, rfl, k_⟩
theorem gk {F O : Nat → Prop} {w : World} (cJ : Int) (af : Mp (List UInt8)) (al : Mp (Mp (Int × List UInt8))) (fg : Nat) (aq : Nat) (aw : Nat) (k : Cx F O w w [Bx 50 fg [I cJ, .v (.map (some aq)), .v (.map (some aw))], MS (vH e8) aq af, MS (vM (vS (eP eI eS) (bL bJ bK))) aw al]) (r : Int) (hm : bR cJ af al = some r) :
    Calls Try.prog 14 (ak [pt fg 0]) w (fun e w' => e = .returned (SV.val (.b false)) ∧ Cx F O w w' [Bx 50 fg [I r, .v (.map (some aq)), .v (.map (some aw))], MS (vH e8) aq af, MS (vM (vS (eP eI eS) (bL bJ bK))) aw al]) := by
 unfold bR at hm
 refine calls [pt fg 0] Try.func14 rfl (of_decide_eq_true (by kernel_rfl)) ?_
 refine ab <| aV [] .a qe (by kernel_rfl) ?_
 refine aa <| ab <| aV [5] (.n 2 (.b false) .z) (qs fg 0 <| qs fg 0 <| qB k 0 rfl 1 (.v (.map (some aq))) (by kernel_rfl) <| qe) (by kernel_rfl) ?_
 refine aa <| aG ?_
 obtain rfl := Option.some.inj hm
 refine aH [.b false] qe (by kernel_rfl) ?_
 exact ⟨rfl, k⟩
theorem l9 {F O : Nat → Prop} {w : World} (s_ : List UInt8) (k : Cx F O w w []) (r : Bool) (hm : fL s_ = some r) :
    Calls Try.prog 15 (ak [.s s_]) w (fun e w' => e = .returned (SV.val (.b r)) ∧ Cx F O w w' []) := by
 unfold fL at hm
 refine calls [.s s_] Try.func15 rfl (of_decide_eq_true (by kernel_rfl)) ?_
 refine ab <| aV [] .a qe (by kernel_rfl) ?_
 refine aa <| ab <| ab <| aV [] (.n 11 (.b ((decide ((s_.length : Int) < 1)) || (decide (64 < (s_.length : Int))))) .a) qe (by kernel_rfl) ?_
 refine aa <| bf ((decide ((s_.length : Int) < 1)) || (decide (64 < (s_.length : Int)))) (by kernel_rfl) (fun hc => ?_) (fun hc => ?_)
 · rw [if_pos hc] at hm
   refine ab <| aV [] (.n 2 (.b false) .z) qe (by kernel_rfl) ?_
   refine aa <| aG (aZ ?_)
   obtain rfl := Option.some.inj hm
   refine aH [.b false] qe (by kernel_rfl) ?_
   exact ⟨rfl, k⟩
 rw [if_neg (by rw [hc]; decide)] at hm
 refine aL <| aa <| ab <| ab <| aV [] (.n 13 (I (s_.length : Int)) (.n 14 (I 0) (.s .a))) qe (by kernel_rfl) ?_
 refine aa <| aI <| jQ (ff s_) (fun s L wr => ∃ (av : Int), av = s ∧ L = [(0, .s s_), (13, I (s_.length : Int)), (14, I av)] ∧ Cx F O w wr []) (0 : Int) r hm ⟨(0 : Int), rfl, rfl, k⟩ (by kernel_rfl) ?_
 intro rW L_ w_ y0 ef bj jH
 obtain ⟨av, rfl, rfl, k_⟩ := ef
 have hm := bj; simp only [ff] at hm
 clear bj
 refine ab <| aV [] (.n 15 (.b (decide (av < (s_.length : Int)))) .a) qe (by kernel_rfl) ?_
 refine aa <| ab <| aN (av < (s_.length : Int)) (by kernel_rfl) (fun fZ => ?_) (fun fZ => ?_)
 · rw [if_pos fZ] at hm
   refine aL <| aa <| ab <| aI <| ab <| aV [] (.n 3 (I av) (.s .a)) qe (by kernel_rfl) ?_
   refine aa <| ab ?_
   obtain ⟨c, h_c, hm⟩ := ob hm
   obtain ⟨c1, MO, hm⟩ := ob hm
   refine aV [] (.n 26 (.b ((decide (c < 33)) || (decide ((126 : UInt8) < c1)))) (.s .a)) (qX h_c <| qo (.u8 c1) <| qp ((decide (c < 33)) = false → 0 ≤ av ∧ s_[Int.toNat av]? = some c1) (fun rY => bn (D5 MO rY)) <| qe) (by kernel_rfl) ?_
   refine aa <| bf ((decide (c < 33)) || (decide ((126 : UInt8) < c1))) (by kernel_rfl) (fun jJ => ?_) (fun jJ => ?_)
   · rw [if_pos jJ] at hm
     refine ab <| aV [] (.n 2 (.b false) .z) qe (by kernel_rfl) ?_
     refine aa <| aG (cH (aZ (aZ (cH (aZ ?_)))))
     have hm := bT hm jH
     obtain rfl := Option.some.inj hm
     refine aH [.b false] qe (by kernel_rfl) ?_
     exact ⟨rfl, k_⟩
   rw [if_neg (by rw [jJ]; decide)] at hm
   refine aL <| cu <| aa <| aV [] (.n 14 (I (aA (av + 1))) (.s (.kk .z))) qe (by kernel_rfl) ?_
   exact fO (aA (av + 1)) (Option.some.inj hm).symm ⟨aA (av + 1), rfl, rfl, k_⟩ (by kernel_rfl)
 rw [if_neg fZ] at hm
 refine cA (bu (bu (dZ ?_)))
 have hm := bT hm jH
 refine aa <| ab <| aV [] (.n 2 (.b true) .z) qe (by kernel_rfl) ?_
 refine aa <| aG ?_
 obtain rfl := Option.some.inj hm
 refine aH [.b true] qe (by kernel_rfl) ?_
 exact ⟨rfl, k_⟩
theorem o6 {F O : Nat → Prop} {w : World} (k_ : Int) (k : Cx F O w w []) (r : (Int × Int × Int)) (hm : gw k_ = some r) :
    Calls Try.prog 43 (ak [I k_]) w (fun e w' => e = .returned (SV.val (.dB [I r.1, I r.2.1, I r.2.2])) ∧ Cx F O w w' []) := by
 unfold gw at hm
 refine calls [I k_] Try.func43 rfl (of_decide_eq_true (by kernel_rfl)) ?_
 refine ab <| aV [] .a qe (by kernel_rfl) ?_
 refine aa <| ab <| ab <| aV [] (.n 5 (I k_) .z) qe (by kernel_rfl) ?_
 refine aa <| aI <| ab <| aV [] (.n 6 (.b (decide (k_ = 1))) .a) qe (by kernel_rfl) ?_
 refine aa <| aN (k_ = 1) (by kernel_rfl) (fun hc => ?_) (fun hc => ?_)
 · rw [if_pos hc] at hm
   refine ab <| aV [] (.n 2 (I 64) (.n 3 (I 64) (.n 4 (I 16) .z))) qe (by kernel_rfl) ?_
   refine aa <| aG (cH (aZ ?_))
   obtain rfl := Option.some.inj hm
   refine aH [I 64, I 64, I 16] qe (by kernel_rfl) ?_
   exact ⟨rfl, k⟩
 rw [if_neg hc] at hm
 refine ab <| aV [] (.n 8 (.b (decide (k_ = 2))) .z) qe (by kernel_rfl) ?_
 refine aa <| aN (k_ = 2) (by kernel_rfl) (fun fZ => ?_) (fun fZ => ?_)
 · rw [if_pos fZ] at hm
   refine ab <| aV [] (.n 2 (I 32) (.n 3 (I 32) (.n 4 (I 8) .z))) qe (by kernel_rfl) ?_
   refine aa <| aG (cH (aZ ?_))
   obtain rfl := Option.some.inj hm
   refine aH [I 32, I 32, I 8] qe (by kernel_rfl) ?_
   exact ⟨rfl, k⟩
 rw [if_neg fZ] at hm
 refine aL <| cu <| aa <| ab <| aV [] (.n 2 (I 0) (.n 3 (I 0) (.n 4 (I 0) .z))) qe (by kernel_rfl) ?_
 refine aa <| aG ?_
 obtain rfl := Option.some.inj hm
 refine aH [I 0, I 0, I 0] qe (by kernel_rfl) ?_
 exact ⟨rfl, k⟩
theorem ga {F O : Nat → Prop} {w : World} (n : Int) (lo : Int) (hi : Int) (k : Cx F O w w []) (r : Bool) (hm : dH n lo hi = some r) :
    Calls Try.prog 54 (ak [I n, I lo, I hi]) w (fun e w' => e = .returned (SV.val (.b r)) ∧ Cx F O w w' []) := by
 unfold dH at hm
 refine calls [I n, I lo, I hi] Try.func54 rfl (of_decide_eq_true (by kernel_rfl)) ?_
 refine ab <| aV [] .a qe (by kernel_rfl) ?_
 refine aa <| ab <| aV [] (.n 6 (.b ((decide (lo ≤ n)) && (decide (n ≤ hi)))) .z) qe (by kernel_rfl) ?_
 refine aa <| aG ?_
 obtain rfl := Option.some.inj hm
 refine aH [.b ((decide (lo ≤ n)) && (decide (n ≤ hi)))] qe (by kernel_rfl) ?_
 exact ⟨rfl, k⟩
theorem ua {F O : Nat → Prop} {w : World} (k_ : Int) (ay : Int) (bg : Int) (aB : Int) (aJ : Int) (a8 : UInt32) (au : UInt64) (aS : UInt32) (ai : Int) (aF : Int) (aM : List UInt8) (ah : List UInt8) (a6 : Option Addr) (dN : Nat) (a7 : Nat) (aC : Option Addr) (bI : Nat) (aD : Nat) (jC : Ro F w a6 (e8.all aM)) (ia : aM.length = dN) (jc : dN ≤ a7) (eX : Ro F w aC (e8.all ah)) (eu : ah.length = bI) (e9 : bI ≤ aD) (k : Cx F O w w []) (r : Int) (hm : fK k_ ay bg aB aJ a8 au aS ai aF aM ah = some r) :
    Calls Try.prog 42 (ak [I k_, .agg [I ay, I bg, I aB, I aJ, .u32 a8, .u64 au, .u32 aS, I ai, I aF, sl a6 dN a7, sl aC bI aD]]) w (fun e w' => e = .returned (SV.val (I r)) ∧ Cx F O w w' []) := by
 unfold fK at hm
 subst ia
 subst eu
 refine calls [I k_, .agg [I ay, I bg, I aB, I aJ, .u32 a8, .u64 au, .u32 aS, I ai, I aF, sl a6 aM.length a7, sl aC ah.length aD]] Try.func42 rfl (of_decide_eq_true (by kernel_rfl)) ?_
 refine ab <| aj <| ae <| eg [] 3 (.agg [I ay, I bg, I aB, I aJ, .u32 a8, .u64 au, .u32 aS, I ai, I aF, sl a6 aM.length a7, sl aC ah.length aD]) [I ay, I bg, I aB, I aJ, .u32 a8, .u64 au, .u32 aS, I ai, I aF, sl a6 aM.length a7, sl aC ah.length aD] (by kernel_rfl) k ?_
 intro g w_ bN
 refine aQ 1 [] (.kk .z) qe (by kernel_rfl) ?_
 refine ad <| aa <| ab <| aj <| aQ 1 [] (.n 10 (I k_) .a) qe (by kernel_rfl) ?_
 refine ae ?_
 obtain ⟨r_, cc, hm⟩ := ob hm
 refine ax [] 11 _ zQ (by kernel_rfl) (o6 (F := N0) (O := N0) _ (Cx.refl _) _ cc) ?_
 rintro e_ jh ⟨rfl, cG⟩
 have cD := bN.call cG
 refine ⟨.dB [I r_.1, I r_.2.1, I r_.2.2], rfl, ?_⟩
 refine aQ 7 [] (.n 6 (I r_.2.1) (.n 7 (I r_.2.2) (.ss .a))) qe (by kernel_rfl) ?_
 refine ad <| aa <| ab <| ab <| aV [] (.n 16 (.b (decide (r_.2.1 = 0))) .a) qe (by kernel_rfl) ?_
 refine aa <| aN (r_.2.1 = 0) (by kernel_rfl) (fun hc => ?_) (fun hc => ?_)
 · rw [if_pos hc] at hm
   refine ab <| aV [] (.n 4 (I 1) .z) qe (by kernel_rfl) ?_
   refine aa <| aG (aZ ?_)
   obtain rfl := Option.some.inj hm
   refine aH [I 1] qe (by kernel_rfl) ?_
   have dm := cD.ba .z
   exact ⟨rfl, dm⟩
 rw [if_neg hc] at hm
 refine aL <| aa <| ab <| aV [] (.n 8 (I 1) (.s .a)) qe (by kernel_rfl) ?_
 refine aa <| k7 (fun L wr => ∃ (least : Int), fc k_ ay bg aB aJ au aS ai aF aM ah r_ least = some r ∧ L = [(0, I k_), (3, pt g 0), (6, I r_.2.1), (7, I r_.2.2), (8, I least)] ∧ Cx F O w wr [Bx 75 g [I ay, I bg, I aB, I aJ, .u32 a8, .u64 au, .u32 aS, I ai, I aF, sl a6 aM.length a7, sl aC ah.length aD]]) ?_ ?_
 ·
  refine ab <| aV [] (.n 19 (.b (decide (aS ≠ 0))) .a) (qs g 0 <| qB cD 0 rfl 6 (.u32 aS) (by kernel_rfl) <| qe) (by kernel_rfl) ?_
  refine aa <| aN (aS ≠ 0) (by kernel_rfl) (fun fZ => ?_) (fun fZ => ?_)
  · rw [if_pos fZ] at hm
    refine aV [] (.n 8 (I 0) (.ss .a)) qe (by kernel_rfl) ?_
    exact gK ⟨(0 : Int), hm, rfl, cD⟩ (by kernel_rfl)
  rw [if_neg fZ] at hm
  refine aL ?_
  exact gK ⟨(1 : Int), hm, rfl, cD⟩ (by kernel_rfl)
 rintro L_ kI ⟨least, hm, rfl, dx⟩
 simp only [fc] at hm
 refine k7 (fun L wr => g_  = some r ∧ L = [] ∧ Cx F O w wr []) ?_ ?_
 ·
  refine aI <| ab <| aj <| aQ 3 [] (.n 22 (I ay) (.n 23 (I r_.2.1) .a)) (qs g 0 <| qB dx 0 rfl 0 (I ay) (by kernel_rfl) <| qe) (by kernel_rfl) ?_
  refine ae ?_
  obtain ⟨aE, cB, hm⟩ := ob hm
  refine ax [] 24 _ oG (by kernel_rfl) (ga (F := N0) (O := N0) _ _ _ (Cx.refl _) _ cB) ?_
  rintro e_ mb ⟨rfl, dV⟩
  have ed := dx.call dV
  refine ⟨.b aE, rfl, ?_⟩
  refine aQ 2 [] (.n 20 (.b (!aE)) (.ib .a)) qe (by kernel_rfl) ?_
  refine ad <| aa <| bf (!aE) (by kernel_rfl) (fun jJ => ?_) (fun jJ => ?_)
  · rw [if_pos jJ] at hm
    refine ab <| aV [] (.n 4 (I 20) .z) qe (by kernel_rfl) ?_
    refine aa <| aG (cH (aZ ?_))
    obtain rfl := Option.some.inj hm
    refine aH [I 20] qe (by kernel_rfl) ?_
    have eo := ed.ba .z
    exact ⟨rfl, eo⟩
  rw [if_neg (by rw [jJ]; decide)] at hm
  refine ab <| aj <| aQ 3 [] (.n 28 (I bg) (.n 29 (I r_.2.1) (.s .a))) (qs g 0 <| qB ed 0 rfl 1 (I bg) (by kernel_rfl) <| qe) (by kernel_rfl) ?_
  refine ae ?_
  obtain ⟨bz, gu, hm⟩ := ob hm
  refine ax [] 30 _ oG (by kernel_rfl) (ga (F := N0) (O := N0) _ _ _ (Cx.refl _) _ gu) ?_
  rintro e_ mc ⟨rfl, eU⟩
  have bH := ed.call eU
  refine ⟨.b bz, rfl, ?_⟩
  refine aQ 2 [] (.n 26 (.b (!bz)) (.ib .a)) qe (by kernel_rfl) ?_
  refine ad <| aa <| bf (!bz) (by kernel_rfl) (fun rX => ?_) (fun rX => ?_)
  · rw [if_pos rX] at hm
    refine ab <| aV [] (.n 4 (I 8) .z) qe (by kernel_rfl) ?_
    refine aa <| aG (cH (aZ ?_))
    obtain rfl := Option.some.inj hm
    refine aH [I 8] qe (by kernel_rfl) ?_
    have bD := bH.ba .z
    exact ⟨rfl, bD⟩
  rw [if_neg (by rw [rX]; decide)] at hm
  refine ab <| aj <| aQ 2 [] (.n 34 (I aB) (.s .a)) (qs g 0 <| qB bH 0 rfl 2 (I aB) (by kernel_rfl) <| qe) (by kernel_rfl) ?_
  refine ae ?_
  obtain ⟨dy, kz, hm⟩ := ob hm
  refine ax [] 35 _ oG (by kernel_rfl) (ga (F := N0) (O := N0) _ _ _ (Cx.refl _) _ kz) ?_
  rintro e_ oH ⟨rfl, cS⟩
  have dk := bH.call cS
  refine ⟨.b dy, rfl, ?_⟩
  refine aQ 2 [] (.n 32 (.b (!dy)) (.ss .a)) qe (by kernel_rfl) ?_
  refine ad <| aa <| bf (!dy) (by kernel_rfl) (fun t_ => ?_) (fun t_ => ?_)
  · rw [if_pos t_] at hm
    refine ab <| aV [] (.n 4 (I 21) .z) qe (by kernel_rfl) ?_
    refine aa <| aG (cH (aZ ?_))
    obtain rfl := Option.some.inj hm
    refine aH [I 21] qe (by kernel_rfl) ?_
    have dD := dk.ba .z
    exact ⟨rfl, dD⟩
  rw [if_neg (by rw [t_]; decide)] at hm
  refine ab <| aj <| aQ 3 [] (.n 39 (I aJ) (.n 40 (I least) (.s (.bb .z)))) (qs g 0 <| qB dk 0 rfl 3 (I aJ) (by kernel_rfl) <| qe) (by kernel_rfl) ?_
  refine ae ?_
  obtain ⟨fu, oh, hm⟩ := ob hm
  refine ax [] 41 _ oG (by kernel_rfl) (ga (F := N0) (O := N0) _ _ _ (Cx.refl _) _ oh) ?_
  rintro e_ qD ⟨rfl, et⟩
  have eC := dk.call et
  refine ⟨.b fu, rfl, ?_⟩
  refine aQ 2 [] (.n 37 (.b (!fu)) (.ib .a)) qe (by kernel_rfl) ?_
  refine ad <| aa <| bf (!fu) (by kernel_rfl) (fun rf => ?_) (fun rf => ?_)
  · rw [if_pos rf] at hm
    refine ab <| aV [] (.n 4 (I 22) .z) qe (by kernel_rfl) ?_
    refine aa <| aG (cH (aZ ?_))
    obtain rfl := Option.some.inj hm
    refine aH [I 22] qe (by kernel_rfl) ?_
    have eW := eC.ba .z
    exact ⟨rfl, eW⟩
  rw [if_neg (by rw [rf]; decide)] at hm
  refine k7 (fun L wr => ∃ (av : Bool), fX k_ aS ai aF aM ah r_ av = some r ∧ L = [(0, I k_), (3, pt g 0), (6, I r_.2.1), (7, I r_.2.2), (43, .b av)] ∧ Cx F O w wr [Bx 75 g [I ay, I bg, I aB, I aJ, .u32 a8, .u64 au, .u32 aS, I ai, I aF, sl a6 aM.length a7, sl aC ah.length aD]]) ?_ ?_
  ·
   refine ab <| aV [] (.n 43 (.b ((decide (aS ≠ 0)) && (decide ((4294967296 : UInt64) ≤ au)))) (.s .a)) (qs g 0 <| qB eC 0 rfl 6 (.u32 aS) (by kernel_rfl) <| qp ((decide (aS ≠ 0)) = true → (some ⟨g, 0, none⟩ : Option Addr).isSome = true) (fun rY => rfl) <| qo (.u64 au) <| qc (fun w => (decide (aS ≠ 0)) = true → ∃ a, (some ⟨g, 5, none⟩ : Option Addr) = some a ∧ w.cell? a = some (SV.val (.u64 au))) (fun rY => eC.Bz 0 rfl 5 (.u64 au) (by kernel_rfl)) <| qe) (by kernel_rfl) ?_
   refine aa <| bf ((decide (aS ≠ 0)) && (decide ((4294967296 : UInt64) ≤ au))) (by kernel_rfl) (fun tQ => ?_) (fun tQ => ?_)
   · rw [if_pos tQ] at hm
     refine aL ?_
     exact gK ⟨(decide (aS ≠ 0)) && (decide ((4294967296 : UInt64) ≤ au)), hm, rfl, eC⟩ (by kernel_rfl)
   rw [if_neg (by rw [tQ]; decide)] at hm
   refine aV [] (.n 43 (.b (((decide (aS = 0)) && (decide (k_ = 2))) && (decide ((281474976710656 : UInt64) ≤ au)))) (.s .a)) (qs g 0 <| qB eC 0 rfl 6 (.u32 aS) (by kernel_rfl) <| qp (((decide (aS = 0)) && (decide (k_ = 2))) = true → (some ⟨g, 0, none⟩ : Option Addr).isSome = true) (fun rY => rfl) <| qo (.u64 au) <| qc (fun w => ((decide (aS = 0)) && (decide (k_ = 2))) = true → ∃ a, (some ⟨g, 5, none⟩ : Option Addr) = some a ∧ w.cell? a = some (SV.val (.u64 au))) (fun rY => eC.Bz 0 rfl 5 (.u64 au) (by kernel_rfl)) <| qe) (by kernel_rfl) ?_
   exact gK ⟨((decide (aS = 0)) && (decide (k_ = 2))) && (decide ((281474976710656 : UInt64) ≤ au)), hm, rfl, eC⟩ (by kernel_rfl)
  rintro L_ rL ⟨av, hm, rfl, fN⟩
  simp only [fX] at hm
  refine bf av (by kernel_rfl) (fun Aa => ?_) (fun Aa => ?_)
  · rw [if_pos Aa] at hm
    refine ab <| aV [] (.n 4 (I 23) .z) qe (by kernel_rfl) ?_
    refine aa <| aG (cH (aZ ?_))
    obtain rfl := Option.some.inj hm
    refine aH [I 23] qe (by kernel_rfl) ?_
    have iW := fN.ba .z
    exact ⟨rfl, iW⟩
  rw [if_neg (by rw [Aa]; decide)] at hm
  refine ab <| aV [] (.n 64 (.b ((decide (k_ = 2)) && (decide ((65535 : UInt32) < aS)))) (.s (.nJ .z))) (qp ((decide (k_ = 2)) = true → (some ⟨g, 0, none⟩ : Option Addr).isSome = true) (fun rY => rfl) <| qo (.u32 aS) <| qc (fun w => (decide (k_ = 2)) = true → ∃ a, (some ⟨g, 6, none⟩ : Option Addr) = some a ∧ w.cell? a = some (SV.val (.u32 aS))) (fun rY => fN.Bz 0 rfl 6 (.u32 aS) (by kernel_rfl)) <| qe) (by kernel_rfl) ?_
  refine aa <| bf ((decide (k_ = 2)) && (decide ((65535 : UInt32) < aS))) (by kernel_rfl) (fun BC => ?_) (fun BC => ?_)
  · rw [if_pos BC] at hm
    refine ab <| aV [] (.n 4 (I 24) .z) qe (by kernel_rfl) ?_
    refine aa <| aG (cH (aZ ?_))
    obtain rfl := Option.some.inj hm
    refine aH [I 24] qe (by kernel_rfl) ?_
    have fH := fN.ba .z
    exact ⟨rfl, fH⟩
  rw [if_neg (by rw [BC]; decide)] at hm
  refine ab <| aj <| aQ 2 [] (.n 74 (I ai) (.s .a)) (qs g 0 <| qB fN 0 rfl 7 (I ai) (by kernel_rfl) <| qe) (by kernel_rfl) ?_
  refine ae ?_
  obtain ⟨dj, oo, hm⟩ := ob hm
  refine ax [] 75 _ oG (by kernel_rfl) (ga (F := N0) (O := N0) _ _ _ (Cx.refl _) _ oo) ?_
  rintro e_ uL ⟨rfl, gA⟩
  have iA := fN.call gA
  refine ⟨.b dj, rfl, ?_⟩
  refine aQ 2 [] (.n 72 (.b (!dj)) (.ss .a)) qe (by kernel_rfl) ?_
  refine ad <| aa <| bf (!dj) (by kernel_rfl) (fun E9 => ?_) (fun E9 => ?_)
  · rw [if_pos E9] at hm
    refine ab <| aV [] (.n 4 (I 25) .z) qe (by kernel_rfl) ?_
    refine aa <| aG (cH (aZ ?_))
    obtain rfl := Option.some.inj hm
    refine aH [I 25] qe (by kernel_rfl) ?_
    have jL := iA.ba .z
    exact ⟨rfl, jL⟩
  rw [if_neg (by rw [E9]; decide)] at hm
  refine ab <| aj <| aQ 3 [] (.n 79 (I aF) (.n 80 (I r_.2.1) (.s (.k (.s .a))))) (qs g 0 <| qB iA 0 rfl 8 (I aF) (by kernel_rfl) <| qe) (by kernel_rfl) ?_
  refine ae ?_
  obtain ⟨gH, qj, hm⟩ := ob hm
  refine ax [] 81 _ oG (by kernel_rfl) (ga (F := N0) (O := N0) _ _ _ (Cx.refl _) _ qj) ?_
  rintro e_ xI ⟨rfl, iv⟩
  have iX := iA.call iv
  refine ⟨.b gH, rfl, ?_⟩
  refine aQ 2 [] (.n 77 (.b (!gH)) (.ib .a)) qe (by kernel_rfl) ?_
  refine ad <| aa <| bf (!gH) (by kernel_rfl) (fun HH => ?_) (fun HH => ?_)
  · rw [if_pos HH] at hm
    refine ab <| aV [] (.n 4 (I 26) .z) qe (by kernel_rfl) ?_
    refine aa <| aG (cH (aZ ?_))
    obtain rfl := Option.some.inj hm
    refine aH [I 26] qe (by kernel_rfl) ?_
    have jM := iX.ba .z
    exact ⟨rfl, jM⟩
  rw [if_neg (by rw [HH]; decide)] at hm
  refine ab <| aV [] (.n 83 (.b (decide (r_.2.2 < ((aM.length : Nat) : Int)))) (.s .a)) (qs g 0 <| qB iX 0 rfl 9 (sl a6 aM.length a7) (by kernel_rfl) <| qe) (by kernel_rfl) ?_
  refine aa <| aN (r_.2.2 < ((aM.length : Nat) : Int)) (by kernel_rfl) (fun HI => ?_) (fun HI => ?_)
  · rw [if_pos HI] at hm
    refine ab <| aV [] (.n 4 (I 27) .z) qe (by kernel_rfl) ?_
    refine aa <| aG (cH (aZ ?_))
    obtain rfl := Option.some.inj hm
    refine aH [I 27] qe (by kernel_rfl) ?_
    have lM := iX.ba .z
    exact ⟨rfl, lM⟩
  rw [if_neg HI] at hm
  refine ab <| aV [] (.n 89 (.b (decide (r_.2.2 < ((ah.length : Nat) : Int)))) .z) (qs g 0 <| qB iX 0 rfl 10 (sl aC ah.length aD) (by kernel_rfl) <| qe) (by kernel_rfl) ?_
  refine aa <| aN (r_.2.2 < ((ah.length : Nat) : Int)) (by kernel_rfl) (fun HJ => ?_) (fun HJ => ?_)
  · rw [if_pos HJ] at hm
    refine ab <| aV [] (.n 4 (I 28) .z) qe (by kernel_rfl) ?_
    refine aa <| aG (cH (aZ ?_))
    obtain rfl := Option.some.inj hm
    refine aH [I 28] qe (by kernel_rfl) ?_
    have je := iX.ba .z
    exact ⟨rfl, je⟩
  rw [if_neg HJ] at hm
  refine aL <| cu ?_
  have l8 := iX.ba .z
  exact gK ⟨hm, rfl, l8⟩ (by kernel_rfl)
 rintro L_ rk ⟨hm, rfl, lE⟩
 simp only [g_] at hm
 refine ab <| aV [] (.n 4 (I 0) .a) qe (by kernel_rfl) ?_
 refine aa <| aG ?_
 obtain rfl := Option.some.inj hm
 refine aH [I 0] qe (by kernel_rfl) ?_
 exact ⟨rfl, lE⟩
theorem we {F O : Nat → Prop} {w : World} (k_ : Int) (k : Cx F O w w []) (r : (List (Int × Int × Int × List UInt8 × Int))) (hm : gg k_ = some r) :
    Calls Try.prog 44 (ak [I k_]) w (fun e w' => ∃ A n c, r.length = n ∧ e = .returned (SV.val (sl A n c)) ∧ Cx F O w w' [Ow (eP eI (eP eI (eP eI (eP eS eI)))) A n c r]) := by
 unfold gg at hm
 refine calls [I k_] Try.func44 rfl (of_decide_eq_true (by kernel_rfl)) ?_
 refine ab <| aV [] .a qe (by kernel_rfl) ?_
 refine aa <| ab <| aj <| aQ 9 [] (.n 5 (.agg [I 1, I 0, I 1, .s ([100, 105, 103, 101, 115, 116] : List UInt8), I 20]) (.n 6 (.agg [I 2, I 1, I 1, .s ([107, 101, 121] : List UInt8), I 8]) (.n 7 (.agg [I 3, I 2, I 1, .s ([102, 97, 110, 111, 117, 116] : List UInt8), I 21]) (.n 8 (.agg [I 4, I 3, I 1, .s ([100, 101, 112, 116, 104] : List UInt8), I 22]) (.n 9 (.agg [I 5, I 4, I 4, .s ([108, 101, 97, 102] : List UInt8), I 1]) (.n 10 (.agg [I 6, I 8, I 8, .s ([111, 102, 102, 115, 101, 116] : List UInt8), I 23]) (.n 11 (.agg [I 7, I 12, I 4, .s ([120, 111, 102] : List UInt8), I 24]) (.n 12 (.agg [I 8, I 16, I 1, .s ([110, 111, 100, 101] : List UInt8), I 25]) (.n 13 (.agg [I 9, I 17, I 1, .s ([105, 110, 110, 101, 114] : List UInt8), I 26]) .a))))))))) qe (by kernel_rfl) ?_
 refine ae <| lQ CG (eP eI (eP eI (eP eI (eP eS eI)))) [] 14 ([((1 : Int), (0 : Int), (1 : Int), ([100, 105, 103, 101, 115, 116] : List UInt8), (20 : Int)), ((2 : Int), (1 : Int), (1 : Int), ([107, 101, 121] : List UInt8), (8 : Int)), ((3 : Int), (2 : Int), (1 : Int), ([102, 97, 110, 111, 117, 116] : List UInt8), (21 : Int)), ((4 : Int), (3 : Int), (1 : Int), ([100, 101, 112, 116, 104] : List UInt8), (22 : Int)), ((5 : Int), (4 : Int), (4 : Int), ([108, 101, 97, 102] : List UInt8), (1 : Int)), ((6 : Int), (8 : Int), (8 : Int), ([111, 102, 102, 115, 101, 116] : List UInt8), (23 : Int)), ((7 : Int), (12 : Int), (4 : Int), ([120, 111, 102] : List UInt8), (24 : Int)), ((8 : Int), (16 : Int), (1 : Int), ([110, 111, 100, 101] : List UInt8), (25 : Int)), ((9 : Int), (17 : Int), (1 : Int), ([105, 110, 110, 101, 114] : List UInt8), (26 : Int))] : List (Int × Int × Int × List UInt8 × Int)) [(0, .agg [I 1, I 0, I 1, .s ([100, 105, 103, 101, 115, 116] : List UInt8), I 20]), (1, .agg [I 2, I 1, I 1, .s ([107, 101, 121] : List UInt8), I 8]), (2, .agg [I 3, I 2, I 1, .s ([102, 97, 110, 111, 117, 116] : List UInt8), I 21]), (3, .agg [I 4, I 3, I 1, .s ([100, 101, 112, 116, 104] : List UInt8), I 22]), (4, .agg [I 5, I 4, I 4, .s ([108, 101, 97, 102] : List UInt8), I 1]), (5, .agg [I 6, I 8, I 8, .s ([111, 102, 102, 115, 101, 116] : List UInt8), I 23]), (6, .agg [I 7, I 12, I 4, .s ([120, 111, 102] : List UInt8), I 24]), (7, .agg [I 8, I 16, I 1, .s ([110, 111, 100, 101] : List UInt8), I 25]), (8, .agg [I 9, I 17, I 1, .s ([105, 110, 110, 101, 114] : List UInt8), I 26])] [I 1, I 0, I 1, .s ([100, 105, 103, 101, 115, 116] : List UInt8), I 20, I 2, I 1, I 1, .s ([107, 101, 121] : List UInt8), I 8, I 3, I 2, I 1, .s ([102, 97, 110, 111, 117, 116] : List UInt8), I 21, I 4, I 3, I 1, .s ([100, 101, 112, 116, 104] : List UInt8), I 22, I 5, I 4, I 4, .s ([108, 101, 97, 102] : List UInt8), I 1, I 6, I 8, I 8, .s ([111, 102, 102, 115, 101, 116] : List UInt8), I 23, I 7, I 12, I 4, .s ([120, 111, 102] : List UInt8), I 24, I 8, I 16, I 1, .s ([110, 111, 100, 101] : List UInt8), I 25, I 9, I 17, I 1, .s ([105, 110, 110, 101, 114] : List UInt8), I 26] (by kernel_rfl) (by kernel_rfl) (by kernel_rfl) k ?_
 intro A0 w_ bN
 refine aQ 1 [] (.n 3 (sl A0 9 9) (.fi (.fi (.ss .a)))) qe (by kernel_rfl) ?_
 refine ad <| aa <| ab <| ab <| aV [] (.n 16 (.b (decide (k_ = 1))) (.k .z)) qe (by kernel_rfl) ?_
 refine aa <| aN (k_ = 1) (by kernel_rfl) (fun hc => ?_) (fun hc => ?_)
 · rw [if_pos hc] at hm
   refine ab <| aV [] (.n 2 (sl A0 9 9) .z) qe (by kernel_rfl) ?_
   refine aa <| aG (aZ ?_)
   obtain rfl := Option.some.inj hm
   refine aH [sl A0 9 9] qe (by kernel_rfl) ?_
   exact ⟨A0, 9, 9, bN.len 0 rfl, rfl, bN⟩
 rw [if_neg hc] at hm
 refine aL <| aa <| ab <| aV [] (.n 4 (sl A0 9 9) .z) qe (by kernel_rfl) ?_
 refine aa <| ab <| aj ?_
 obtain ⟨av, lD, hm⟩ := ob hm
 refine aQ 4 [] (.n 20 (sl A0 9 9) (.n 22 (.v (.pointer (fa (il A0 (5 : Int) 5) 2))) .a)) (qJ (bN.rd 0 rfl) lD (bN.len 0 rfl) <| qS (A := il A0 (5 : Int) 5) (pZ _ _ (rS (E := (eP eI (eP eI (eP eI (eP eS eI))))) (bN.rd 0 rfl) (by decide) (fp lD).1 (bn lD).2)) <| qe) (by kernel_rfl) ?_
 refine ae <| sN (E := (eP eI (eP eI (eP eI (eP eS eI))))) (kk := 2) (sv := I 6) (svs := [I 6]) [] 0 (av.1, av.2.1, (6 : Int), av.2.2.2.1, av.2.2.2.2) (by kernel_rfl) (Pt.Lm (Pt.oZ A0 (5 : Int) 5) 2) bN rfl (bn lD).2 (rS (E := (eP eI (eP eI (eP eI (eP eS eI))))) (bN.rd 0 rfl) (by decide) (fp lD).1 (bn lD).2) rfl (Nat.le_of_ble_eq_true (by kernel_rfl)) ?_
 intro jh cG
 obtain ⟨ew, eA, hm⟩ := ob hm
 refine aQ 2 [] (.n 24 (.v (.pointer (fa (il A0 (6 : Int) 5) 2))) (.ss .a)) (qJ (cG.rd 0 rfl) eA (cG.len 0 rfl) <| qS (A := il A0 (6 : Int) 5) (pZ _ _ (rS (E := (eP eI (eP eI (eP eI (eP eS eI))))) (cG.rd 0 rfl) (by decide) (fp eA).1 (bn eA).2)) <| qe) (by kernel_rfl) ?_
 refine ae <| sN (E := (eP eI (eP eI (eP eI (eP eS eI))))) (kk := 2) (sv := I 2) (svs := [I 2]) [] 0 (ew.1, ew.2.1, (2 : Int), ew.2.2.2.1, ew.2.2.2.2) (by kernel_rfl) (Pt.Lm (Pt.oZ A0 (6 : Int) 5) 2) cG rfl (bn eA).2 (rS (E := (eP eI (eP eI (eP eI (eP eS eI))))) (cG.rd 0 rfl) (by decide) (fp eA).1 (bn eA).2) rfl (Nat.le_of_ble_eq_true (by kernel_rfl)) ?_
 intro kI cD
 refine ad <| aa <| ab <| aj ?_
 obtain ⟨bk, dA, hm⟩ := ob hm
 refine aQ 4 [] (.n 26 (sl A0 9 9) (.n 28 (.v (.pointer (fa (il A0 (7 : Int) 5) 1))) (.s .a))) (qJ (cD.rd 0 rfl) dA (cD.len 0 rfl) <| qS (A := il A0 (7 : Int) 5) (pZ _ _ (rS (E := (eP eI (eP eI (eP eI (eP eS eI))))) (cD.rd 0 rfl) (by decide) (fp dA).1 (bn dA).2)) <| qe) (by kernel_rfl) ?_
 refine ae <| sN (E := (eP eI (eP eI (eP eI (eP eS eI))))) (kk := 1) (sv := I 14) (svs := [I 14]) [] 0 (bk.1, (14 : Int), bk.2.2.1, bk.2.2.2.1, bk.2.2.2.2) (by kernel_rfl) (Pt.Lm (Pt.oZ A0 (7 : Int) 5) 1) cD rfl (bn dA).2 (rS (E := (eP eI (eP eI (eP eI (eP eS eI))))) (cD.rd 0 rfl) (by decide) (fp dA).1 (bn dA).2) rfl (Nat.le_of_ble_eq_true (by kernel_rfl)) ?_
 intro mb dm
 obtain ⟨dQ, fI, hm⟩ := ob hm
 refine aQ 2 [] (.n 30 (.v (.pointer (fa (il A0 (8 : Int) 5) 1))) (.ss .a)) (qJ (dm.rd 0 rfl) fI (dm.len 0 rfl) <| qS (A := il A0 (8 : Int) 5) (pZ _ _ (rS (E := (eP eI (eP eI (eP eI (eP eS eI))))) (dm.rd 0 rfl) (by decide) (fp fI).1 (bn fI).2)) <| qe) (by kernel_rfl) ?_
 refine ae ?_
 have dx := dm.ba (.k .e)
 refine sN (E := (eP eI (eP eI (eP eI (eP eS eI))))) (kk := 1) (sv := I 15) (svs := [I 15]) [] 0 (dQ.1, (15 : Int), dQ.2.2.1, dQ.2.2.2.1, dQ.2.2.2.2) (by kernel_rfl) (Pt.Lm (Pt.oZ A0 (8 : Int) 5) 1) dx rfl (bn fI).2 (rS (E := (eP eI (eP eI (eP eI (eP eS eI))))) (dx.rd 0 rfl) (by decide) (fp fI).1 (bn fI).2) rfl (Nat.le_of_ble_eq_true (by kernel_rfl)) ?_
 intro mc dV
 refine ad <| aa <| ab <| aV [] (.n 2 (sl A0 9 9) .z) qe (by kernel_rfl) ?_
 refine aa <| aG ?_
 obtain rfl := Option.some.inj hm
 refine aH [sl A0 9 9] qe (by kernel_rfl) ?_
 exact ⟨A0, 9, 9, dV.len 0 rfl, rfl, dV⟩
theorem ub {F O : Nat → Prop} {w : World} (ay : Int) (bg : Int) (aB : Int) (aJ : Int) (a8 : UInt32) (au : UInt64) (aS : UInt32) (ai : Int) (aF : Int) (aM : List UInt8) (ah : List UInt8) (field : Int) (a6 : Option Addr) (dN : Nat) (a7 : Nat) (aC : Option Addr) (bI : Nat) (aD : Nat) (jC : Ro F w a6 (e8.all aM)) (ia : aM.length = dN) (jc : dN ≤ a7) (eX : Ro F w aC (e8.all ah)) (eu : ah.length = bI) (e9 : bI ≤ aD) (k : Cx F O w w []) (r : UInt64) (hm : jX ay bg aB aJ a8 au aS ai aF aM ah field = some r) :
    Calls Try.prog 46 (ak [.agg [I ay, I bg, I aB, I aJ, .u32 a8, .u64 au, .u32 aS, I ai, I aF, sl a6 dN a7, sl aC bI aD], I field]) w (fun e w' => e = .returned (SV.val (.u64 r)) ∧ Cx F O w w' []) := by
 unfold jX at hm
 subst ia
 subst eu
 refine calls [.agg [I ay, I bg, I aB, I aJ, .u32 a8, .u64 au, .u32 aS, I ai, I aF, sl a6 aM.length a7, sl aC ah.length aD], I field] Try.func46 rfl (of_decide_eq_true (by kernel_rfl)) ?_
 refine ab <| aj <| ae <| eg [] 2 (.agg [I ay, I bg, I aB, I aJ, .u32 a8, .u64 au, .u32 aS, I ai, I aF, sl a6 aM.length a7, sl aC ah.length aD]) [I ay, I bg, I aB, I aJ, .u32 a8, .u64 au, .u32 aS, I ai, I aF, sl a6 aM.length a7, sl aC ah.length aD] (by kernel_rfl) k ?_
 intro g w_ k_
 refine aQ 1 [] (.k (.s .a)) qe (by kernel_rfl) ?_
 refine ad <| aa <| ab <| ab <| aV [] (.n 5 (I field) (.k .z)) qe (by kernel_rfl) ?_
 refine aa <| aI <| ab <| aV [] (.n 6 (.b (decide (field = 1))) .a) qe (by kernel_rfl) ?_
 refine aa <| aN (field = 1) (by kernel_rfl) (fun hc => ?_) (fun hc => ?_)
 · rw [if_pos hc] at hm
   refine ab <| aV [] (.n 4 (.u64 (UInt64.ofInt ay)) .z) (qs g 0 <| qB k_ 0 rfl 0 (I ay) (by kernel_rfl) <| qe) (by kernel_rfl) ?_
   refine aa <| aG (cH (aZ ?_))
   obtain rfl := Option.some.inj hm
   refine aH [.u64 (UInt64.ofInt ay)] qe (by kernel_rfl) ?_
   have bN := k_.ba .z
   exact ⟨rfl, bN⟩
 rw [if_neg hc] at hm
 refine ab <| aV [] (.n 11 (.b (decide (field = 2))) (.s .a)) qe (by kernel_rfl) ?_
 refine aa <| aN (field = 2) (by kernel_rfl) (fun fZ => ?_) (fun fZ => ?_)
 · rw [if_pos fZ] at hm
   refine ab <| aV [] (.n 4 (.u64 (UInt64.ofInt bg)) .z) (qs g 0 <| qB k_ 0 rfl 1 (I bg) (by kernel_rfl) <| qe) (by kernel_rfl) ?_
   refine aa <| aG (cH (aZ ?_))
   obtain rfl := Option.some.inj hm
   refine aH [.u64 (UInt64.ofInt bg)] qe (by kernel_rfl) ?_
   have cG := k_.ba .z
   exact ⟨rfl, cG⟩
 rw [if_neg fZ] at hm
 refine ab <| aV [] (.n 16 (.b (decide (field = 3))) (.s .a)) qe (by kernel_rfl) ?_
 refine aa <| aN (field = 3) (by kernel_rfl) (fun jJ => ?_) (fun jJ => ?_)
 · rw [if_pos jJ] at hm
   refine ab <| aV [] (.n 4 (.u64 (UInt64.ofInt aB)) .z) (qs g 0 <| qB k_ 0 rfl 2 (I aB) (by kernel_rfl) <| qe) (by kernel_rfl) ?_
   refine aa <| aG (cH (aZ ?_))
   obtain rfl := Option.some.inj hm
   refine aH [.u64 (UInt64.ofInt aB)] qe (by kernel_rfl) ?_
   have cD := k_.ba .z
   exact ⟨rfl, cD⟩
 rw [if_neg jJ] at hm
 refine ab <| aV [] (.n 21 (.b (decide (field = 4))) (.s .a)) qe (by kernel_rfl) ?_
 refine aa <| aN (field = 4) (by kernel_rfl) (fun rX => ?_) (fun rX => ?_)
 · rw [if_pos rX] at hm
   refine ab <| aV [] (.n 4 (.u64 (UInt64.ofInt aJ)) .z) (qs g 0 <| qB k_ 0 rfl 3 (I aJ) (by kernel_rfl) <| qe) (by kernel_rfl) ?_
   refine aa <| aG (cH (aZ ?_))
   obtain rfl := Option.some.inj hm
   refine aH [.u64 (UInt64.ofInt aJ)] qe (by kernel_rfl) ?_
   have dm := k_.ba .z
   exact ⟨rfl, dm⟩
 rw [if_neg rX] at hm
 refine ab <| aV [] (.n 26 (.b (decide (field = 5))) (.s .a)) qe (by kernel_rfl) ?_
 refine aa <| aN (field = 5) (by kernel_rfl) (fun t_ => ?_) (fun t_ => ?_)
 · rw [if_pos t_] at hm
   refine ab <| aV [] (.n 4 (.u64 (UInt64.ofNat a8.toNat)) .z) (qs g 0 <| qB k_ 0 rfl 4 (.u32 a8) (by kernel_rfl) <| qe) (by kernel_rfl) ?_
   refine aa <| aG (cH (aZ ?_))
   obtain rfl := Option.some.inj hm
   refine aH [.u64 (UInt64.ofNat a8.toNat)] qe (by kernel_rfl) ?_
   have dx := k_.ba .z
   exact ⟨rfl, dx⟩
 rw [if_neg t_] at hm
 refine ab <| aV [] (.n 31 (.b (decide (field = 6))) (.s .a)) qe (by kernel_rfl) ?_
 refine aa <| aN (field = 6) (by kernel_rfl) (fun rf => ?_) (fun rf => ?_)
 · rw [if_pos rf] at hm
   refine ab <| aV [] (.n 4 (.u64 au) .z) (qs g 0 <| qB k_ 0 rfl 5 (.u64 au) (by kernel_rfl) <| qe) (by kernel_rfl) ?_
   refine aa <| aG (cH (aZ ?_))
   obtain rfl := Option.some.inj hm
   refine aH [.u64 au] qe (by kernel_rfl) ?_
   have dV := k_.ba .z
   exact ⟨rfl, dV⟩
 rw [if_neg rf] at hm
 refine ab <| aV [] (.n 35 (.b (decide (field = 7))) (.s .a)) qe (by kernel_rfl) ?_
 refine aa <| aN (field = 7) (by kernel_rfl) (fun tQ => ?_) (fun tQ => ?_)
 · rw [if_pos tQ] at hm
   refine ab <| aV [] (.n 4 (.u64 (UInt64.ofNat aS.toNat)) .z) (qs g 0 <| qB k_ 0 rfl 6 (.u32 aS) (by kernel_rfl) <| qe) (by kernel_rfl) ?_
   refine aa <| aG (cH (aZ ?_))
   obtain rfl := Option.some.inj hm
   refine aH [.u64 (UInt64.ofNat aS.toNat)] qe (by kernel_rfl) ?_
   have ed := k_.ba .z
   exact ⟨rfl, ed⟩
 rw [if_neg tQ] at hm
 refine ab <| aV [] (.n 40 (.b (decide (field = 8))) (.ss .a)) qe (by kernel_rfl) ?_
 refine aa <| aN (field = 8) (by kernel_rfl) (fun Aa => ?_) (fun Aa => ?_)
 · rw [if_pos Aa] at hm
   refine ab <| aV [] (.n 4 (.u64 (UInt64.ofInt ai)) .z) (qs g 0 <| qB k_ 0 rfl 7 (I ai) (by kernel_rfl) <| qe) (by kernel_rfl) ?_
   refine aa <| aG (cH (aZ ?_))
   obtain rfl := Option.some.inj hm
   refine aH [.u64 (UInt64.ofInt ai)] qe (by kernel_rfl) ?_
   have eo := k_.ba .z
   exact ⟨rfl, eo⟩
 rw [if_neg Aa] at hm
 refine aL <| cu <| aa <| ab <| aV [] (.n 4 (.u64 (UInt64.ofInt aF)) .z) (qs g 0 <| qB k_ 0 rfl 8 (I aF) (by kernel_rfl) <| qe) (by kernel_rfl) ?_
 refine aa <| aG ?_
 obtain rfl := Option.some.inj hm
 refine aH [.u64 (UInt64.ofInt aF)] qe (by kernel_rfl) ?_
 have eU := k_.ba .z
 exact ⟨rfl, eU⟩
theorem xJ {F O : Nat → Prop} {w : World} (b : List UInt8) (at_ : Int) (size : Int) (v : UInt64) (fm : Option Addr) (ig : Nat) (fw : Nat) (MP : DZ) (jK : ig ≤ fw) (k : Cx F O w w [Mw e8 fm ig b MP]) (r : (List UInt8)) (hm : j9 b at_ size v = some r) :
    Calls Try.prog 45 (ak [sl fm ig fw, I at_, I size, .u64 v]) w (fun e w' => e = .returned (SV.val (.dB [])) ∧ Cx F O w w' [Mw e8 fm ig r MP]) := by
 unfold j9 at hm
 obtain rfl := k.yM 0 rfl
 refine calls [sl fm b.length fw, I at_, I size, .u64 v] Try.func45 rfl (of_decide_eq_true (by kernel_rfl)) ?_
 refine ab <| aV [] (.n 9 (I size) (.n 10 (I 0) (.kk (.s .a)))) qe (by kernel_rfl) ?_
 refine aa <| aI <| jQ (gM at_ size v) (fun s L wr => ∃ (b1 : List UInt8) (av : Int), (b1, av) = s ∧ L = [(0, sl fm b.length fw), (1, I at_), (3, .u64 v), (9, I size), (10, I av)] ∧ Cx F O w wr [Mw e8 fm b.length b1 MP]) (b, (0 : Int)) r hm ⟨b, (0 : Int), rfl, rfl, k⟩ (by kernel_rfl) ?_
 intro rW L_ w_ y0 ef bj jH
 obtain ⟨b1, av, rfl, rfl, k_⟩ := ef
 have hm := bj; simp only [gM] at hm
 clear bj
 refine ab <| aV [] (.n 11 (.b (decide (av < size))) .a) qe (by kernel_rfl) ?_
 refine aa <| ab <| aN (av < size) (by kernel_rfl) (fun hc => ?_) (fun hc => ?_)
 · rw [if_pos hc] at hm
   refine aL <| aa <| ab <| aI <| ab <| aV [] (.n 8 (I av) (.s .a)) qe (by kernel_rfl) ?_
   refine aa <| aj ?_
   obtain ⟨u, pK, hm⟩ := ob hm
   obtain ⟨ew, eA, hm⟩ := ob hm
   refine aQ 10 [] (.n 21 (.u8 (UInt8.ofNat (dz v (Int.toNat (aA (8 * av)))).toNat)) (.n 22 (.v (.pointer (il fm (aA (at_ + av)) 1))) (.s .a))) (qp (0 ≤ aA (8 * av)) (ck pK) <| qJ (k_.Lg 0 rfl) eA (k_.yM 0 rfl) <| qe) (by kernel_rfl) ?_
   refine ae <| BZ (E := e8) (kk := 0) (sv := .u8 (UInt8.ofNat (dz v (Int.toNat (aA (8 * av)))).toNat)) (svs := [.u8 (UInt8.ofNat (dz v (Int.toNat (aA (8 * av)))).toNat)]) [] 0 (UInt8.ofNat (dz v (Int.toNat (aA (8 * av)))).toNat) (by kernel_rfl) (Pt.oZ fm (aA (at_ + av)) 1) k_ rfl (bn eA).2 (rS (E := e8) (k_.Lg 0 rfl) (by decide) (fp eA).1 (bn eA).2) rfl (Nat.le_of_ble_eq_true (by kernel_rfl)) ?_
   intro jh bN
   refine ad <| cu <| aa <| aV [] (.n 10 (I (aA (av + 1))) (.ss (.bb .z))) qe (by kernel_rfl) ?_
   exact fO (b1.set (Int.toNat (aA (at_ + av))) (UInt8.ofNat (dz v (Int.toNat (aA (8 * av)))).toNat), aA (av + 1)) (Option.some.inj hm).symm ⟨b1.set (Int.toNat (aA (at_ + av))) (UInt8.ofNat (dz v (Int.toNat (aA (8 * av)))).toNat), aA (av + 1), rfl, rfl, bN⟩ (by kernel_rfl)
 rw [if_neg hc] at hm
 refine cA (bu (bu (dZ ?_)))
 have hm := bT hm jH
 obtain rfl := Option.some.inj hm
 refine nk [] qe (by kernel_rfl) ?_
 exact ⟨rfl, k_⟩
theorem tm {F O : Nat → Prop} {w : World} (k_ : Int) (ay : Int) (bg : Int) (aB : Int) (aJ : Int) (a8 : UInt32) (au : UInt64) (aS : UInt32) (ai : Int) (aF : Int) (aM : List UInt8) (ah : List UInt8) (a6 : Option Addr) (dN : Nat) (a7 : Nat) (aC : Option Addr) (bI : Nat) (aD : Nat) (jC : Ro F w a6 (e8.all aM)) (ia : aM.length = dN) (jc : dN ≤ a7) (eX : Ro F w aC (e8.all ah)) (eu : ah.length = bI) (e9 : bI ≤ aD) (k : Cx F O w w []) (r : (List UInt8 × Int)) (hm : ey k_ ay bg aB aJ a8 au aS ai aF aM ah = some r) :
    Calls Try.prog 27 (ak [I k_, .agg [I ay, I bg, I aB, I aJ, .u32 a8, .u64 au, .u32 aS, I ai, I aF, sl a6 dN a7, sl aC bI aD]]) w (fun e w' => ∃ A n c, r.1.length = n ∧ e = .returned (SV.val (.dB [sl A n c, I r.2])) ∧ Cx F O w w' [Ow e8 A n c r.1]) := by
 unfold ey at hm
 subst ia
 subst eu
 refine calls [I k_, .agg [I ay, I bg, I aB, I aJ, .u32 a8, .u64 au, .u32 aS, I ai, I aF, sl a6 aM.length a7, sl aC ah.length aD]] Try.func27 rfl (of_decide_eq_true (by kernel_rfl)) ?_
 refine ab <| aj <| ae <| eg [] 3 (.agg [I ay, I bg, I aB, I aJ, .u32 a8, .u64 au, .u32 aS, I ai, I aF, sl a6 aM.length a7, sl aC ah.length aD]) [I ay, I bg, I aB, I aJ, .u32 a8, .u64 au, .u32 aS, I ai, I aF, sl a6 aM.length a7, sl aC ah.length aD] (by kernel_rfl) k ?_
 intro g w_ bN
 refine aQ 2 [] (.kk .z) qe (by kernel_rfl) ?_
 refine ad <| aa <| ab <| ab <| aj <| aQ 2 [] (.n 13 (I k_) (.n 14 (.agg [I ay, I bg, I aB, I aJ, .u32 a8, .u64 au, .u32 aS, I ai, I aF, sl a6 aM.length a7, sl aC ah.length aD]) .a)) (qT bN 0 rfl 0 11 [I ay, I bg, I aB, I aJ, .u32 a8, .u64 au, .u32 aS, I ai, I aF, sl a6 aM.length a7, sl aC ah.length aD] (by kernel_rfl) (by decide) <| qe) (by kernel_rfl) ?_
 refine ae ?_
 obtain ⟨r_, cc, hm⟩ := ob hm
 refine ax [] 15 _ EJ (by kernel_rfl) (ua (F := N0) (O := N0) _ _ _ _ _ _ _ _ _ _ _ _ _ _ _ _ _ _ (Ro.n0 (jC.cx bN)) rfl jc (Ro.n0 (eX.cx bN)) rfl e9 (Cx.refl _) _ cc) ?_
 rintro e_ jh ⟨rfl, cG⟩
 have cD := bN.call cG
 refine ⟨I r_, rfl, ?_⟩
 refine aQ 1 [] (.n 6 (I r_) (.ib .a)) qe (by kernel_rfl) ?_
 refine ad <| aa <| ab <| aV [] (.n 17 (.b (decide (r_ ≠ 0))) .a) qe (by kernel_rfl) ?_
 refine aa <| aN (r_ ≠ 0) (by kernel_rfl) (fun hc => ?_) (fun hc => ?_)
 · rw [if_pos hc] at hm
   refine ab <| aV [] (.n 4 (sl none 0 0) (.n 5 (I r_) .z)) qe (by kernel_rfl) ?_
   refine aa <| aG (aZ ?_)
   have dm := cD.nil e8
   obtain rfl := Option.some.inj hm
   refine aH [sl none 0 0, I r_] qe (by kernel_rfl) ?_
   have dx := dm.ba (.s (.k .e))
   exact ⟨none, 0, 0, dx.len 0 rfl, rfl, dx⟩
 rw [if_neg hc] at hm
 refine aL <| aa <| ab <| aj <| aQ 1 [] (.n 20 (I k_) (.ss .a)) qe (by kernel_rfl) ?_
 refine ae ?_
 obtain ⟨aE, cB, hm⟩ := ob hm
 refine ax [] 21 _ zQ (by kernel_rfl) (o6 (F := N0) (O := N0) _ (Cx.refl _) _ cB) ?_
 rintro e_ kI ⟨rfl, dV⟩
 have ed := cD.call dV
 refine ⟨.dB [I aE.1, I aE.2.1, I aE.2.2], rfl, ?_⟩
 refine aQ 7 [] (.n 7 (I aE.1) (.n 9 (I aE.2.2) (.ss .a))) qe (by kernel_rfl) ?_
 refine ad <| aa <| ab <| aj <| aQ 1 [] (.n 25 (I aE.1) .a) qe (by kernel_rfl) ?_
 refine ae ?_
 obtain ⟨u, pK, hm⟩ := ob hm
 refine pW er e8 (0 : UInt8) rfl [] 26 (I aE.1) (I aE.1) aE.1 aE.1 (by kernel_rfl) (ck pK).1 (ck pK).2.1 (ck pK).2.2 ed ?_
 intro A0 mb eo
 refine aQ 1 [] (.n 10 (sl A0 (Int.toNat aE.1) (Int.toNat aE.1)) (.ss .a)) qe (by kernel_rfl) ?_
 refine ad <| aa <| ab <| ab <| aj <| aQ 1 [] (.n 27 (I k_) (.bb .z)) qe (by kernel_rfl) ?_
 refine ae ?_
 have eU := eo.ba (.kk .e)
 obtain ⟨bz, gu, hm⟩ := ob hm
 refine ax [] 28 _ EK (by kernel_rfl) (we (F := N0) (O := N0) _ (Cx.refl _) _ gu) ?_
 rintro e_ mc ⟨A1, _, c0, rfl, rfl, bH⟩
 have bD := eU.call bH
 refine ⟨sl A1 bz.length c0, rfl, ?_⟩
 refine aQ 2 [] (.n 29 (I ((bz.length : Nat) : Int)) (.n 30 (I 0) (.k (.s .a)))) qe (by kernel_rfl) ?_
 refine ad <| aa <| aI <| jQ (eE ay bg aB aJ a8 au aS ai aF aM ah aE bz) (fun s L wr => ∃ (b : List UInt8) (av : Int), (b, av) = s ∧ L = [(3, pt g 0), (7, I aE.1), (9, I aE.2.2), (10, sl A0 (Int.toNat aE.1) (Int.toNat aE.1)), (28, sl A1 bz.length c0), (29, I ((bz.length : Nat) : Int)), (30, I av)] ∧ Cx F O w wr [Bx 75 g [I ay, I bg, I aB, I aJ, .u32 a8, .u64 au, .u32 aS, I ai, I aF, sl a6 aM.length a7, sl aC ah.length aD], Ow e8 A0 (Int.toNat aE.1) (Int.toNat aE.1) b, Ow (eP eI (eP eI (eP eI (eP eS eI)))) A1 bz.length c0 bz]) (List.replicate (Int.toNat aE.1) (0 : UInt8), (0 : Int)) r hm ⟨List.replicate (Int.toNat aE.1) (0 : UInt8), (0 : Int), rfl, rfl, bD⟩ (by kernel_rfl) ?_
 intro rW L_ oH y0 ef bj jH
 obtain ⟨b, av, rfl, rfl, cS⟩ := ef
 have hm := bj; simp only [eE] at hm
 clear bj
 refine ab <| aV [] (.n 31 (.b (decide (av < ((bz.length : Nat) : Int)))) .a) qe (by kernel_rfl) ?_
 refine aa <| ab <| aN (av < ((bz.length : Nat) : Int)) (by kernel_rfl) (fun fZ => ?_) (fun fZ => ?_)
 · rw [if_pos fZ] at hm
   refine aL <| aa <| k7 (fun L wr => ∃ (b1 : List UInt8), gB av b1 = some y0 ∧ L = [(3, pt g 0), (7, I aE.1), (9, I aE.2.2), (10, sl A0 (Int.toNat aE.1) (Int.toNat aE.1)), (28, sl A1 bz.length c0), (29, I ((bz.length : Nat) : Int)), (30, I av)] ∧ Cx F O w wr [Bx 75 g [I ay, I bg, I aB, I aJ, .u32 a8, .u64 au, .u32 aS, I ai, I aF, sl a6 aM.length a7, sl aC ah.length aD], Ow e8 A0 (Int.toNat aE.1) (Int.toNat aE.1) b1, Ow (eP eI (eP eI (eP eI (eP eS eI)))) A1 bz.length c0 bz]) ?_ ?_
   ·
    refine GR (fun L wr => ∃ (b2 : List UInt8), fD av b2 = some y0 ∧ L = [(3, pt g 0), (7, I aE.1), (9, I aE.2.2), (10, sl A0 (Int.toNat aE.1) (Int.toNat aE.1)), (28, sl A1 bz.length c0), (29, I ((bz.length : Nat) : Int)), (30, I av)] ∧ Cx F O w wr [Bx 75 g [I ay, I bg, I aB, I aJ, .u32 a8, .u64 au, .u32 aS, I ai, I aF, sl a6 aM.length a7, sl aC ah.length aD], Ow e8 A0 (Int.toNat aE.1) (Int.toNat aE.1) b2, Ow (eP eI (eP eI (eP eI (eP eS eI)))) A1 bz.length c0 bz]) ?_ ?_
    ·
     refine ab <| aj ?_
     obtain ⟨bk, dA, hm⟩ := ob hm
     refine aQ 2 [] (.n 33 (.agg [I bk.1, I bk.2.1, I bk.2.2.1, .s bk.2.2.2.1, I bk.2.2.2.2]) (.s .a)) (qJ (cS.rd 2 rfl) dA (cS.len 2 rfl) <| qR [I bk.1, I bk.2.1, I bk.2.2.1, .s bk.2.2.2.1, I bk.2.2.2.2] (Rd.JN (k := 0) (m := 5) (cS.rd 2 rfl) dA (Pt.oZ A1 av 5) rfl (by decide) (by decide)) <| qe) (by kernel_rfl) ?_
     refine ae <| aU [] 12 [I 0, I 0, I 0, .s ([] : List UInt8), I 0] (by kernel_rfl) cS ?_
     intro g1 qD dk
     refine ae <| cE [] 3 (.agg [I bk.1, I bk.2.1, I bk.2.2.1, .s bk.2.2.2.1, I bk.2.2.2.2]) [I bk.1, I bk.2.1, I bk.2.2.1, .s bk.2.2.2.1, I bk.2.2.2.2] (Pt.at g1 0) dk rfl .all (by kernel_rfl) (by kernel_rfl) ?_
     intro rL dD
     refine ad <| aa <| ab <| ab <| aV [] (.n 41 (.b ((decide (bk.1 = 7)) && (decide (aS = 0)))) (.k (.s .a))) (qs g1 0 <| qB dD 3 rfl 0 (I bk.1) (by kernel_rfl) <| qp ((decide (bk.1 = 7)) = true → (some ⟨g, 0, none⟩ : Option Addr).isSome = true) (fun rY => rfl) <| qo (.u32 aS) <| qc (fun w => (decide (bk.1 = 7)) = true → ∃ a, (some ⟨g, 6, none⟩ : Option Addr) = some a ∧ w.cell? a = some (SV.val (.u32 aS))) (fun rY => dD.Bz 0 rfl 6 (.u32 aS) (by kernel_rfl)) <| qe) (by kernel_rfl) ?_
     refine aa <| bf ((decide (bk.1 = 7)) && (decide (aS = 0))) (by kernel_rfl) (fun jJ => ?_) (fun jJ => ?_)
     · rw [if_pos jJ] at hm
       refine cA (bu (dZ ?_))
       have et := dD.ba (.kk (.k .z))
       exact gK ⟨b, hm, rfl, et⟩ (by kernel_rfl)
     rw [if_neg (by rw [jJ]; decide)] at hm
     refine aL <| aa ?_
     have eC := dD.drew 1
     refine lJ aT (.q 5 0 (.q 0 1 (.q 1 1 (.q 2 1 (.q 3 1 (.q 4 1 (.q 6 1 (.q 7 0 (.op 8 (.op 9 .nil)))))))))) [8, 9] eC (.c (.bb .e) (.c (.k (.s (.kk .e))) .l)) (by kernel_rfl) (fun _ => ?_)
     refine bo 1 0 [] (.n 47 (.agg [I ay, I bg, I aB, I aJ, .u32 a8, .u64 au, .u32 aS, I ai, I aF, sl a6 aM.length a7, sl aC ah.length aD]) (.s .a)) (fun x hx => qT hx 0 rfl 0 11 [I ay, I bg, I aB, I aJ, .u32 a8, .u64 au, .u32 aS, I ai, I aF, sl a6 aM.length a7, sl aC ah.length aD] (by kernel_rfl) (by decide) <| qe) (by kernel_rfl) (fun _ => ?_)
     refine bo 6 1 [] (.n 42 (sl A0 (Int.toNat aE.1) (Int.toNat aE.1)) (.n 44 (I bk.2.1) (.n 46 (I bk.2.2.1) (.n 48 (pt g1 0) (.k (.s .a)))))) (fun x hx => qs g1 0 <| qB hx 3 rfl 1 (I bk.2.1) (by kernel_rfl) <| qs g1 0 <| qB hx 3 rfl 2 (I bk.2.2.1) (by kernel_rfl) <| qs g1 0 <| qe) (by kernel_rfl) (fun _ => ?_)
     refine bo 1 0 [] (.n 49 (I bk.1) (.nJ (.s .a))) (fun x hx => qB hx 3 rfl 0 (I bk.1) (by kernel_rfl) <| qe) (by kernel_rfl) (fun _ => ?_)
     refine bl (by kernel_rfl) rfl ?_
     obtain ⟨dy, kz, hm⟩ := ob hm
     refine ax [] 50 _ EM (by kernel_rfl) (ub (F := N0) (O := N0) _ _ _ _ _ _ _ _ _ _ _ _ _ _ _ _ _ _ (Ro.n0 (jC.cx eC)) rfl jc (Ro.n0 (eX.cx eC)) rfl e9 (Cx.refl _) _ kz) ?_
     rintro e_ uL ⟨rfl, eW⟩
     have fN := eC.call eW
     refine ⟨.u64 dy, rfl, ?_⟩
     refine ⟨fN, fun _ => ?_⟩
     refine bl (by kernel_rfl) rfl ?_
     obtain ⟨G, hG, iW⟩ := fN.JP 1 rfl
     obtain ⟨fu, oh, hm⟩ := ob hm
     obtain ⟨F1, O1, oV, hO, xK, hF, hb⟩ := iW.go (.r (.i (.r (.r .e))))
     refine ax [] 51 _ EL (by kernel_rfl) (xJ (F := F1) (O := O1) _ _ _ _ _ _ _ _ (fN.tU 1 rfl) oV _ oh) ?_
     rintro e_ xI ⟨rfl, fH⟩
     have gA := hb xI _ _ fH (.c .n)
     refine ⟨.dB [], rfl, ?_⟩
     have iA := gA.JQ hG 0 rfl
     refine ⟨(iA.ba (.s (.kk (.k .e)))), fun _ => ?_⟩
     refine bC <| cu ?_
     have jL := (((iA.pk (.t (.t .h))).pk (.t .h)).pk (.t (.t .h))).ba (.kk (.k .z))
     exact gK ⟨fu, hm, rfl, jL⟩ (by kernel_rfl)
    rintro L_ rk ⟨b2, hm, rfl, iv⟩
    simp only [fD] at hm
    exact gK ⟨b2, hm, rfl, iv⟩ (by kernel_rfl)
   rintro L_ uc ⟨b1, hm, rfl, iX⟩
   simp only [gB] at hm
   refine aV [] (.n 30 (I (aA (av + 1))) (.bb (.kk .z))) qe (by kernel_rfl) ?_
   exact fO (b1, aA (av + 1)) (Option.some.inj hm).symm ⟨b1, aA (av + 1), rfl, rfl, iX⟩ (by kernel_rfl)
 rw [if_neg fZ] at hm
 refine cA (bu (bu (dZ ?_)))
 have hm := bT hm jH
 refine aa <| ab ?_
 have jM := cS.drew 1
 refine lJ aT (.q 0 0 (.q 6 0 (.q 7 0 (.q 1 1 (.q 2 1 (.q 3 1 (.q 4 0 (.q 5 0 (.op 8 .nil))))))))) [8] jM (.c (.k (.s (.k .e))) .l) (by kernel_rfl) (fun _ => ?_)
 refine bo 3 0 [] (.n 53 (sl A0 (Int.toNat aE.1) (Int.toNat aE.1)) (.n 60 (sl a6 aM.length a7) (.s (.bb .z)))) (fun x hx => qs g 0 <| qB hx 0 rfl 9 (sl a6 aM.length a7) (by kernel_rfl) <| qe) (by kernel_rfl) (fun _ => ?_)
 refine bo 3 1 [] (.n 54 (I aE.1) (.n 56 (I (aA (2 * aE.2.2))) .a)) (fun x hx => qe) (by kernel_rfl) (fun _ => ?_)
 obtain ⟨b3, ud, hm⟩ := ob hm
 have hs := dE ud
 have hl := fQ ud
 have hn : b.length = Int.toNat aE.1 := (jM.len 1 rfl)
 have rX : Int.toNat aE.1 ≤ Int.toNat aE.1 := (jM.tU 1 rfl)
 obtain ⟨A2, c1, e_, t_, hA, rf⟩ := G6 A0 (Int.toNat (aA (aE.1 - (aA (2 * aE.2.2))))) (Int.toNat aE.1) 1 (Int.toNat aE.1 - Int.toNat (aA (aE.1 - (aA (2 * aE.2.2))))) b3.length (by omega) (by omega)
 refine bo 2 0 [] (.n 58 (sl A2 b3.length c1) (.ib .a)) (fun x hx => qp (0 ≤ aA (aE.1 - (aA (2 * aE.2.2))) ∧ aA (aE.1 - (aA (2 * aE.2.2))) ≤ ((Int.toNat aE.1 : Nat) : Int)) (by omega) <| qo (.v (.slice A2 b3.length c1)) <| qp (Value.slice (nj A0 (Int.toNat (aA (aE.1 - (aA (2 * aE.2.2))))) (Int.toNat aE.1) 1) (Int.toNat aE.1 - Int.toNat (aA (aE.1 - (aA (2 * aE.2.2))))) (Int.toNat aE.1 - Int.toNat (aA (aE.1 - (aA (2 * aE.2.2))))) = .slice A2 b3.length c1) e_ <| qe) (by kernel_rfl) (fun _ => ?_)
 refine bl (by kernel_rfl) rfl <| B3 (E := e8) (dn := b3.length) (dc := c1) (v := sl a6 aM.length a7) (src := aM) (lo := Int.toNat (aA (aE.1 - (aA (2 * aE.2.2))))) (m' := Int.toNat aE.1) er [] 61 1 (by kernel_rfl) hA rfl (by omega) jM rfl (Src.sl (jC.cx jM) rfl (by rfl)) rfl (by have := jM.len 1 rfl; omega) ?_
 intro wg lM
 refine ⟨(lM.ba (.k (.s (.k .e)))), fun _ => ?_⟩
 refine bC <| aa <| ab ?_
 have je := lM.drew 1
 refine lJ aT (.q 0 0 (.q 5 0 (.q 6 0 (.q 1 1 (.q 2 1 (.q 3 0 (.q 4 0 (.op 7 .nil)))))))) [7] je (.c (.k (.s (.k .e))) .l) (by kernel_rfl) (fun _ => ?_)
 refine bo 3 0 [] (.n 62 (sl A0 (Int.toNat aE.1) (Int.toNat aE.1)) (.n 68 (sl aC ah.length aD) (.fi .a))) (fun x hx => qs g 0 <| qB hx 0 rfl 10 (sl aC ah.length aD) (by kernel_rfl) <| qe) (by kernel_rfl) (fun _ => ?_)
 refine bo 2 1 [] (.n 63 (I aE.1) (.n 64 (I aE.2.2) (.kk (.ss .a)))) (fun x hx => qe) (by kernel_rfl) (fun _ => ?_)
 obtain ⟨b4, rl, hm⟩ := ob hm
 have LB := dE rl
 have yu := fQ rl
 have LC : (zF b (Int.toNat (aA (aE.1 - (aA (2 * aE.2.2))))) b3.length aM).length = Int.toNat aE.1 := (je.len 1 rfl)
 have tQ : Int.toNat aE.1 ≤ Int.toNat aE.1 := (je.tU 1 rfl)
 obtain ⟨A3, c2, yt, Aa, Q6, BC⟩ := G6 A0 (Int.toNat (aA (aE.1 - aE.2.2))) (Int.toNat aE.1) 1 (Int.toNat aE.1 - Int.toNat (aA (aE.1 - aE.2.2))) b4.length (by omega) (by omega)
 refine bo 2 0 [] (.n 66 (sl A3 b4.length c2) (.ib .a)) (fun x hx => qp (0 ≤ aA (aE.1 - aE.2.2) ∧ aA (aE.1 - aE.2.2) ≤ ((Int.toNat aE.1 : Nat) : Int)) (by omega) <| qo (.v (.slice A3 b4.length c2)) <| qp (Value.slice (nj A0 (Int.toNat (aA (aE.1 - aE.2.2))) (Int.toNat aE.1) 1) (Int.toNat aE.1 - Int.toNat (aA (aE.1 - aE.2.2))) (Int.toNat aE.1 - Int.toNat (aA (aE.1 - aE.2.2))) = .slice A3 b4.length c2) yt <| qe) (by kernel_rfl) (fun _ => ?_)
 refine bl (by kernel_rfl) rfl <| B3 (E := e8) (dn := b4.length) (dc := c2) (v := sl aC ah.length aD) (src := ah) (lo := Int.toNat (aA (aE.1 - aE.2.2))) (m' := Int.toNat aE.1) er [] 69 1 (by kernel_rfl) Q6 rfl (by omega) je rfl (Src.sl (eX.cx je) rfl (by rfl)) rfl (by have := je.len 1 rfl; omega) ?_
 intro yZ l8
 refine ⟨(l8.ba (.k (.s (.k .e)))), fun _ => ?_⟩
 refine bC <| aa <| ab <| aV [] (.n 4 (sl A0 (Int.toNat aE.1) (Int.toNat aE.1)) (.n 5 (I 0) .z)) qe (by kernel_rfl) ?_
 refine aa <| aG ?_
 obtain rfl := Option.some.inj hm
 refine aH [sl A0 (Int.toNat aE.1) (Int.toNat aE.1), I 0] qe (by kernel_rfl) ?_
 have lE := l8.ba (.s (.k .z))
 exact ⟨A0, Int.toNat aE.1, Int.toNat aE.1, lE.len 0 rfl, rfl, lE⟩
theorem uM {F O : Nat → Prop} {w : World} (k : Cx F O w w []) (r : (ag UInt64 8)) (hm : mw = some r) :
    Calls Try.prog 64 (ak []) w (fun e w' => e = .returned (SV.val (.agg [.ar bw r])) ∧ Cx F O w w' []) := by
 unfold mw at hm
 refine calls [] Try.func64 rfl (of_decide_eq_true (by kernel_rfl)) ?_
 refine ab <| aj <| ae <| aU [] 0 [.ar bw (ag.rep 8 (0 : UInt64))] (by kernel_rfl) k ?_
 intro g w_ k_
 refine ad <| aa <| ab <| aj <| aQ 1 [] (.n 1 (.agg [.ar bw (⟨[(7640891576956012808 : UInt64), (13503953896175478587 : UInt64), (4354685564936845355 : UInt64), (11912009170470909681 : UInt64), (5840696475078001361 : UInt64), (11170449401992604703 : UInt64), (2270897969802886507 : UInt64), (6620516959819538809 : UInt64)], rfl⟩ : ag UInt64 8)]) .a) qe (by kernel_rfl) ?_
 refine ae <| cE [] 0 (.agg [.ar bw (⟨[(7640891576956012808 : UInt64), (13503953896175478587 : UInt64), (4354685564936845355 : UInt64), (11912009170470909681 : UInt64), (5840696475078001361 : UInt64), (11170449401992604703 : UInt64), (2270897969802886507 : UInt64), (6620516959819538809 : UInt64)], rfl⟩ : ag UInt64 8)]) [.ar bw (⟨[(7640891576956012808 : UInt64), (13503953896175478587 : UInt64), (4354685564936845355 : UInt64), (11912009170470909681 : UInt64), (5840696475078001361 : UInt64), (11170449401992604703 : UInt64), (2270897969802886507 : UInt64), (6620516959819538809 : UInt64)], rfl⟩ : ag UInt64 8)] (Pt.at g 0) k_ rfl .all (by kernel_rfl) (by kernel_rfl) ?_
 intro jh bN
 refine ad <| aa <| aG ?_
 obtain rfl := Option.some.inj hm
 refine aH [.agg [.ar bw (⟨[(7640891576956012808 : UInt64), (13503953896175478587 : UInt64), (4354685564936845355 : UInt64), (11912009170470909681 : UInt64), (5840696475078001361 : UInt64), (11170449401992604703 : UInt64), (2270897969802886507 : UInt64), (6620516959819538809 : UInt64)], rfl⟩ : ag UInt64 8)]] (qo (.agg [.ar bw (⟨[(7640891576956012808 : UInt64), (13503953896175478587 : UInt64), (4354685564936845355 : UInt64), (11912009170470909681 : UInt64), (5840696475078001361 : UInt64), (11170449401992604703 : UInt64), (2270897969802886507 : UInt64), (6620516959819538809 : UInt64)], rfl⟩ : ag UInt64 8)]) <| qc (fun w => Rd w (some ⟨g, 0, none⟩) (SV.cl [.ar bw (⟨[(7640891576956012808 : UInt64), (13503953896175478587 : UInt64), (4354685564936845355 : UInt64), (11912009170470909681 : UInt64), (5840696475078001361 : UInt64), (11170449401992604703 : UInt64), (2270897969802886507 : UInt64), (6620516959819538809 : UInt64)], rfl⟩ : ag UInt64 8)])) (bN.pV 0 rfl) <| qe) (by kernel_rfl) ?_
 have cG := bN.ba .z
 exact ⟨rfl, cG⟩
theorem rM {F O : Nat → Prop} {w : World} (b : List UInt8) (at_ : Int) (n : Int) (fm : Option Addr) (ig : Nat) (fw : Nat) (j3 : Ro F w fm (e8.all b)) (iV : b.length = ig) (jK : ig ≤ fw) (k : Cx F O w w []) (r : (UInt64 × Int)) (hm : i_ b at_ n = some r) :
    Calls Try.prog 74 (ak [sl fm ig fw, I at_, I n]) w (fun e w' => e = .returned (SV.val (.dB [.u64 r.1, I r.2])) ∧ Cx F O w w' []) := by
 unfold i_ at hm
 subst iV
 refine calls [sl fm b.length fw, I at_, I n] Try.func74 rfl (of_decide_eq_true (by kernel_rfl)) ?_
 refine ab <| aV [] .a qe (by kernel_rfl) ?_
 refine aa <| ab <| ab <| aV [] (.n 11 (.b (decide (at_ < 0))) .a) qe (by kernel_rfl) ?_
 refine aa <| aN (at_ < 0) (by kernel_rfl) (fun hc => ?_) (fun hc => ?_)
 · rw [if_pos hc] at hm
   refine ab <| aV [] (.n 6 (.u64 0) (.n 7 (I 1) .z)) qe (by kernel_rfl) ?_
   refine aa <| aG (aZ ?_)
   obtain rfl := Option.some.inj hm
   refine aH [.u64 0, I 1] qe (by kernel_rfl) ?_
   exact ⟨rfl, k⟩
 rw [if_neg hc] at hm
 refine aL <| aa <| ab <| ab <| aV [] (.n 23 (.b ((decide (((b.length : Nat) : Int) < at_)) || (decide ((aA (((b.length : Nat) : Int) - at_)) < n)))) (.s .a)) qe (by kernel_rfl) ?_
 refine aa <| bf ((decide (((b.length : Nat) : Int) < at_)) || (decide ((aA (((b.length : Nat) : Int) - at_)) < n))) (by kernel_rfl) (fun fZ => ?_) (fun fZ => ?_)
 · rw [if_pos fZ] at hm
   refine ab <| aV [] (.n 6 (.u64 0) (.n 7 (I 3) .z)) qe (by kernel_rfl) ?_
   refine aa <| aG (aZ ?_)
   obtain rfl := Option.some.inj hm
   refine aH [.u64 0, I 3] qe (by kernel_rfl) ?_
   exact ⟨rfl, k⟩
 rw [if_neg (by rw [fZ]; decide)] at hm
 refine aL <| aa <| ab <| aV [] (.n 8 (.u64 0) (.s .a)) qe (by kernel_rfl) ?_
 refine aa <| ab <| ab <| aV [] (.n 24 (I n) (.n 25 (I 0) (.nJ .z))) qe (by kernel_rfl) ?_
 refine aa <| aI <| jQ (jk b at_ n) (fun s L wr => ∃ (w_ : UInt64) (av : Int), (w_, av) = s ∧ L = [(0, sl fm b.length fw), (1, I at_), (8, .u64 w_), (24, I n), (25, I av)] ∧ Cx F O w wr []) ((0 : UInt64), (0 : Int)) r hm ⟨(0 : UInt64), (0 : Int), rfl, rfl, k⟩ (by kernel_rfl) ?_
 intro rW L_ jh y0 ef bj jH
 obtain ⟨w_, av, rfl, rfl, k_⟩ := ef
 have hm := bj; simp only [jk] at hm
 clear bj
 refine ab <| aV [] (.n 26 (.b (decide (av < n))) .a) qe (by kernel_rfl) ?_
 refine aa <| ab <| aN (av < n) (by kernel_rfl) (fun jJ => ?_) (fun jJ => ?_)
 · rw [if_pos jJ] at hm
   refine aL <| aa <| ab <| aI <| ab <| aV [] (.n 9 (I av) (.s .a)) qe (by kernel_rfl) ?_
   refine aa ?_
   obtain ⟨bk, dA, hm⟩ := ob hm
   obtain ⟨u, pK, hm⟩ := ob hm
   refine aV [] (.n 8 (.u64 (w_ ||| (gl (UInt64.ofNat bk.toNat) (Int.toNat (aA (8 * av)))))) (.s (.kk (.s .a)))) (qW (j3.cx k_) dA rfl (.u8 bk) rfl <| qp (0 ≤ aA (8 * av)) (ck pK) <| qe) (by kernel_rfl) ?_
   refine cu <| aa <| aV [] (.n 25 (I (aA (av + 1))) (.bb .z)) qe (by kernel_rfl) ?_
   exact fO (w_ ||| (gl (UInt64.ofNat bk.toNat) (Int.toNat (aA (8 * av)))), aA (av + 1)) (Option.some.inj hm).symm ⟨w_ ||| (gl (UInt64.ofNat bk.toNat) (Int.toNat (aA (8 * av)))), aA (av + 1), rfl, rfl, k_⟩ (by kernel_rfl)
 rw [if_neg jJ] at hm
 refine cA (bu (bu (dZ ?_)))
 have hm := bT hm jH
 refine aa <| ab <| aV [] (.n 6 (.u64 w_) (.n 7 (I 0) .z)) qe (by kernel_rfl) ?_
 refine aa <| aG ?_
 obtain rfl := Option.some.inj hm
 refine aH [.u64 w_, I 0] qe (by kernel_rfl) ?_
 exact ⟨rfl, k_⟩
theorem o7 {F O : Nat → Prop} {w : World} (b : List UInt8) (at_ : Int) (fm : Option Addr) (ig : Nat) (fw : Nat) (j3 : Ro F w fm (e8.all b)) (iV : b.length = ig) (jK : ig ≤ fw) (k : Cx F O w w []) (r : (UInt64 × Int)) (hm : eY b at_ = some r) :
    Calls Try.prog 65 (ak [sl fm ig fw, I at_]) w (fun e w' => e = .returned (SV.val (.dB [.u64 r.1, I r.2])) ∧ Cx F O w w' []) := by
 unfold eY at hm
 subst iV
 refine calls [sl fm b.length fw, I at_] Try.func65 rfl (of_decide_eq_true (by kernel_rfl)) ?_
 refine ab <| aV [] .a qe (by kernel_rfl) ?_
 refine aa <| ab <| aj <| aQ 2 [] (.n 6 (sl fm b.length fw) (.n 7 (I at_) .z)) qe (by kernel_rfl) ?_
 refine ae ?_
 obtain ⟨r_, cc, hm⟩ := ob hm
 refine ax [] 8 _ zY (by kernel_rfl) (rM (F := N0) (O := N0) _ _ _ _ _ _ (Ro.n0 (j3.cx k)) rfl jK (Cx.refl _) _ cc) ?_
 rintro e_ w_ ⟨rfl, k_⟩
 have bN := k.call k_
 refine ⟨.dB [.u64 r_.1, I r_.2], rfl, ?_⟩
 refine aQ 4 [] (.n 4 (.u64 r_.1) (.n 5 (I r_.2) .z)) qe (by kernel_rfl) ?_
 refine ad <| aa <| aG ?_
 obtain rfl := Option.some.inj hm
 refine aH [.u64 r_.1, I r_.2] qe (by kernel_rfl) ?_
 exact ⟨rfl, bN⟩
theorem wh {F O : Nat → Prop} {w : World} (block : List UInt8) (dO : Option Addr) (bd : Nat) (dP : Nat) (kU : Ro F w dO (e8.all block)) (lF : block.length = bd) (kA : bd ≤ dP) (k : Cx F O w w []) (r : (ag UInt64 8 × Int)) (hm : jl block = some r) :
    Calls Try.prog 58 (ak [sl dO bd dP]) w (fun e w' => e = .returned (SV.val (.dB [.agg [.ar bw r.1], I r.2])) ∧ Cx F O w w' []) := by
 unfold jl at hm
 subst lF
 refine calls [sl dO block.length dP] Try.func58 rfl (of_decide_eq_true (by kernel_rfl)) ?_
 refine ab <| aj <| ae <| aU [] 2 [.ar bw (ag.rep 8 (0 : UInt64))] (by kernel_rfl) k ?_
 intro g w_ k_
 refine aQ 1 [] .a qe (by kernel_rfl) ?_
 refine ad <| aa <| ab <| ab <| aV [] (.n 10 (.b (decide (((block.length : Nat) : Int) ≠ 64))) .a) qe (by kernel_rfl) ?_
 refine aa <| aN (((block.length : Nat) : Int) ≠ 64) (by kernel_rfl) (fun hc => ?_) (fun hc => ?_)
 · rw [if_pos hc] at hm
   refine ab <| aj <| aQ 1 [] (.n 11 (.agg [.ar bw (ag.rep 8 ((0 : UInt64) : UInt64))]) (.s (.k .z))) qe (by kernel_rfl) ?_
   refine ae <| cE [] 0 (.agg [.ar bw (ag.rep 8 ((0 : UInt64) : UInt64))]) [.ar bw (ag.rep 8 ((0 : UInt64) : UInt64))] (Pt.at g 0) k_ rfl .all (by kernel_rfl) (by kernel_rfl) ?_
   intro jh bN
   refine aQ 1 [] (.n 3 (I 1) (.s .a)) qe (by kernel_rfl) ?_
   refine ad <| aa <| aG (aZ ?_)
   obtain rfl := Option.some.inj hm
   refine aH [.agg [.ar bw (ag.rep 8 ((0 : UInt64) : UInt64))], I 1] (qo (.agg [.ar bw (ag.rep 8 ((0 : UInt64) : UInt64))]) <| qc (fun w => Rd w (some ⟨g, 0, none⟩) (SV.cl [.ar bw (ag.rep 8 ((0 : UInt64) : UInt64))])) (bN.pV 0 rfl) <| qe) (by kernel_rfl) ?_
   have cG := bN.ba .z
   exact ⟨rfl, cG⟩
 rw [if_neg hc] at hm
 refine aL <| aa <| ab <| aj <| ae ?_
 obtain ⟨r_, cc, hm⟩ := ob hm
 refine ax [] 12 _ zT (by kernel_rfl) (uM (F := N0) (O := N0)  (Cx.refl _) _ cc) ?_
 rintro e_ kI ⟨rfl, cD⟩
 have dm := k_.call cD
 refine ⟨.agg [.ar bw r_], rfl, ?_⟩
 refine ae <| aU [] 4 [.ar bw (ag.rep 8 (0 : UInt64))] (by kernel_rfl) dm ?_
 intro g1 mb dx
 refine ae <| cE [] 1 (.agg [.ar bw r_]) [.ar bw r_] (Pt.at g1 0) dx rfl .all (by kernel_rfl) (by kernel_rfl) ?_
 intro mc dV
 refine ad <| aa <| ab <| ab <| aV [] (.n 13 (I 0) (.k (.ss .a))) qe (by kernel_rfl) ?_
 refine aa <| aI <| jQ (iF block) (fun s L wr => ∃ (h : ag UInt64 8) (av : Int), (h, av) = s ∧ L = [(0, sl dO block.length dP), (2, pt g 0), (4, pt g1 0), (13, I av)] ∧ Cx F O w wr [Bx 123 g [.ar bw (ag.rep 8 (0 : UInt64))], Bx 123 g1 [.ar bw h]]) (r_, (0 : Int)) r hm ⟨r_, (0 : Int), rfl, rfl, dV⟩ (by kernel_rfl) ?_
 intro rW L_ oH y0 ef bj jH
 obtain ⟨h, av, rfl, rfl, ed⟩ := ef
 have hm := bj; simp only [iF] at hm
 clear bj
 refine ab <| aV [] (.n 14 (.b (decide (av < 8))) .a) qe (by kernel_rfl) ?_
 refine aa <| ab <| aN (av < 8) (by kernel_rfl) (fun fZ => ?_) (fun fZ => ?_)
 · rw [if_pos fZ] at hm
   refine aL <| aa <| ab <| aI <| ab <| aV [] (.n 5 (I av) (.s .a)) qe (by kernel_rfl) ?_
   refine aa <| ab <| aj <| aQ 3 [] (.n 17 (sl dO block.length dP) (.n 19 (I (aA (8 * av))) .a)) qe (by kernel_rfl) ?_
   refine ae ?_
   obtain ⟨aE, cB, hm⟩ := ob hm
   refine ax [] 20 _ zU (by kernel_rfl) (o7 (F := N0) (O := N0) _ _ _ _ _ (Ro.n0 (kU.cx ed)) rfl kA (Cx.refl _) _ cB) ?_
   rintro e_ qD ⟨rfl, eo⟩
   have eU := ed.call eo
   refine ⟨.dB [.u64 aE.1, I aE.2], rfl, ?_⟩
   refine aQ 5 [] (.n 6 (.u64 aE.1) (.ib .a)) qe (by kernel_rfl) ?_
   refine ad <| aa <| aj ?_
   obtain ⟨bk, dA, hm⟩ := ob hm
   obtain ⟨dQ, fI, hm⟩ := ob hm
   refine aQ 6 [] (.n 27 (.u64 (bk ^^^ aE.1)) (.n 28 (.v (.pointer (il (some ⟨g1, 0, none⟩) av 1))) (.ss .a))) (qV (eU.iw 1 rfl bw h 0 (by kernel_rfl)) dA rfl (.u64 bk) rfl <| qI g1 0 fI <| qe) (by kernel_rfl) ?_
   refine ae ?_
   obtain ⟨v, E_, hm⟩ := nm hm
   refine fC (E := bw) (kk := 0) [] 1 (.u64 (bk ^^^ aE.1)) [.u64 (bk ^^^ aE.1)] E_ fI (Pt.p5 (Pt.at g1 0) av 1) eU rfl .h rfl (by kernel_rfl) (by kernel_rfl) ?_
   intro rL bH
   refine ad <| cu <| aa <| aV [] (.n 13 (I (aA (av + 1))) (.ss (.nJ .z))) qe (by kernel_rfl) ?_
   exact fO (v, aA (av + 1)) (Option.some.inj hm).symm ⟨v, aA (av + 1), rfl, rfl, bH⟩ (by kernel_rfl)
 rw [if_neg fZ] at hm
 refine cA (bu (bu (dZ ?_)))
 have hm := bT hm jH
 refine aa <| ab <| aj <| aQ 1 [] (.n 30 (.agg [.ar bw h]) (.ss (.k .z))) (qT ed 1 rfl 0 8 [.ar bw h] (by kernel_rfl) (by decide) <| qe) (by kernel_rfl) ?_
 refine ae <| cE [] 0 (.agg [.ar bw h]) [.ar bw h] (Pt.at g 0) ed rfl .all (by kernel_rfl) (by kernel_rfl) ?_
 intro uL bD
 have cS := bD.ba (.k .z)
 refine aQ 1 [] (.n 3 (I 0) (.s .a)) qe (by kernel_rfl) ?_
 refine ad <| aa <| aG ?_
 obtain rfl := Option.some.inj hm
 refine aH [.agg [.ar bw h], I 0] (qo (.agg [.ar bw h]) <| qc (fun w => Rd w (some ⟨g, 0, none⟩) (SV.cl [.ar bw h])) (cS.pV 0 rfl) <| qe) (by kernel_rfl) ?_
 have dk := cS.ba .z
 exact ⟨rfl, dk⟩
theorem qk {F O : Nat → Prop} {w : World} (b : List UInt8) (n : Int) (fm : Option Addr) (ig : Nat) (fw : Nat) (j3 : Ro F w fm (e8.all b)) (iV : b.length = ig) (jK : ig ≤ fw) (k : Cx F O w w []) (r : Int) (hm : hN b n = some r) :
    Calls Try.prog 69 (ak [sl fm ig fw, I n]) w (fun e w' => e = .returned (SV.val (I r)) ∧ Cx F O w w' []) := by
 unfold hN at hm
 subst iV
 refine calls [sl fm b.length fw, I n] Try.func69 rfl (of_decide_eq_true (by kernel_rfl)) ?_
 refine ab <| aV [] .a qe (by kernel_rfl) ?_
 refine aa <| ab <| aI <| ab <| aV [] (.n 5 (.b (decide (((b.length : Nat) : Int) < n))) .a) qe (by kernel_rfl) ?_
 refine aa <| aN (((b.length : Nat) : Int) < n) (by kernel_rfl) (fun hc => ?_) (fun hc => ?_)
 · rw [if_pos hc] at hm
   refine ab <| aV [] (.n 4 (I 3) .z) qe (by kernel_rfl) ?_
   refine aa <| aG (cH (aZ ?_))
   obtain rfl := Option.some.inj hm
   refine aH [I 3] qe (by kernel_rfl) ?_
   exact ⟨rfl, k⟩
 rw [if_neg hc] at hm
 refine ab <| aV [] (.n 10 (.b (decide (n < ((b.length : Nat) : Int)))) .z) qe (by kernel_rfl) ?_
 refine aa <| aN (n < ((b.length : Nat) : Int)) (by kernel_rfl) (fun fZ => ?_) (fun fZ => ?_)
 · rw [if_pos fZ] at hm
   refine ab <| aV [] (.n 4 (I 2) .z) qe (by kernel_rfl) ?_
   refine aa <| aG (cH (aZ ?_))
   obtain rfl := Option.some.inj hm
   refine aH [I 2] qe (by kernel_rfl) ?_
   exact ⟨rfl, k⟩
 rw [if_neg fZ] at hm
 refine aL <| cu <| aa <| ab <| aV [] (.n 4 (I 0) .z) qe (by kernel_rfl) ?_
 refine aa <| aG ?_
 obtain rfl := Option.some.inj hm
 refine aH [I 0] qe (by kernel_rfl) ?_
 exact ⟨rfl, k⟩
theorem ue {F O : Nat → Prop} {w : World} (b : List UInt8) (at_ : Int) (fm : Option Addr) (ig : Nat) (fw : Nat) (j3 : Ro F w fm (e8.all b)) (iV : b.length = ig) (jK : ig ≤ fw) (k : Cx F O w w []) (r : (UInt32 × Int)) (hm : gx b at_ = some r) :
    Calls Try.prog 77 (ak [sl fm ig fw, I at_]) w (fun e w' => e = .returned (SV.val (.dB [.u32 r.1, I r.2])) ∧ Cx F O w w' []) := by
 unfold gx at hm
 subst iV
 refine calls [sl fm b.length fw, I at_] Try.func77 rfl (of_decide_eq_true (by kernel_rfl)) ?_
 refine ab <| aV [] .a qe (by kernel_rfl) ?_
 refine aa <| ab <| aj <| aQ 2 [] (.n 9 (sl fm b.length fw) (.n 10 (I at_) .z)) qe (by kernel_rfl) ?_
 refine ae ?_
 obtain ⟨r_, cc, hm⟩ := ob hm
 refine ax [] 11 _ zY (by kernel_rfl) (rM (F := N0) (O := N0) _ _ _ _ _ _ (Ro.n0 (j3.cx k)) rfl jK (Cx.refl _) _ cc) ?_
 rintro e_ w_ ⟨rfl, k_⟩
 have bN := k.call k_
 refine ⟨.dB [.u64 r_.1, I r_.2], rfl, ?_⟩
 refine aQ 5 [] (.n 6 (.u64 r_.1) (.n 7 (I r_.2) .z)) qe (by kernel_rfl) ?_
 refine ad <| aa <| ab <| aV [] (.n 4 (.u32 (UInt32.ofNat r_.1.toNat)) (.n 5 (I r_.2) .z)) qe (by kernel_rfl) ?_
 refine aa <| aG ?_
 obtain rfl := Option.some.inj hm
 refine aH [.u32 (UInt32.ofNat r_.1.toNat), I r_.2] qe (by kernel_rfl) ?_
 exact ⟨rfl, bN⟩
theorem ql {F O : Nat → Prop} {w : World} (m_ : List UInt32) (b : List UInt8) (wi : Option Addr) (Fa : Nat) (CK : Nat) (HK : DZ) (fm : Option Addr) (ig : Nat) (fw : Nat) (PJ : Fa ≤ CK) (j3 : Ro F w fm (e8.all b)) (iV : b.length = ig) (jK : ig ≤ fw) (k : Cx F O w w [Mw bm wi Fa m_ HK]) (r : (List UInt32)) (hm : hP m_ b = some r) :
    Calls Try.prog 70 (ak [sl wi Fa CK, sl fm ig fw]) w (fun e w' => e = .returned (SV.val (.dB [])) ∧ Cx F O w w' [Mw bm wi Fa r HK]) := by
 unfold hP at hm
 obtain rfl := k.yM 0 rfl
 subst iV
 refine calls [sl wi m_.length CK, sl fm b.length fw] Try.func70 rfl (of_decide_eq_true (by kernel_rfl)) ?_
 refine ab <| aV [] (.n 6 (I ((m_.length : Nat) : Int)) (.n 7 (I 0) .a)) qe (by kernel_rfl) ?_
 refine aa <| aI <| jQ (gm m_ b) (fun s L wr => ∃ (nq : List UInt32) (av : Int), (nq, av) = s ∧ L = [(0, sl wi m_.length CK), (1, sl fm b.length fw), (6, I ((m_.length : Nat) : Int)), (7, I av)] ∧ Cx F O w wr [Mw bm wi m_.length nq HK]) (m_, (0 : Int)) r hm ⟨m_, (0 : Int), rfl, rfl, k⟩ (by kernel_rfl) ?_
 intro rW L_ w_ y0 ef bj jH
 obtain ⟨nq, av, rfl, rfl, k_⟩ := ef
 have hm := bj; simp only [gm] at hm
 clear bj
 refine ab <| aV [] (.n 8 (.b (decide (av < ((m_.length : Nat) : Int)))) .a) qe (by kernel_rfl) ?_
 refine aa <| ab <| aN (av < ((m_.length : Nat) : Int)) (by kernel_rfl) (fun hc => ?_) (fun hc => ?_)
 · rw [if_pos hc] at hm
   refine aL <| aa <| ab <| aI <| ab <| aV [] (.n 4 (I av) (.s .a)) qe (by kernel_rfl) ?_
   refine aa <| aj <| aQ 5 [] (.n 11 (sl wi m_.length CK) (.n 12 (I av) (.n 13 (sl fm b.length fw) (.n 15 (I (aA (4 * av))) (.s .a))))) qe (by kernel_rfl) ?_
   refine ae ?_
   obtain ⟨r_, cc, hm⟩ := ob hm
   refine ax [] 16 _ E1 (by kernel_rfl) (ue (F := N0) (O := N0) _ _ _ _ _ (Ro.n0 (j3.cx k_)) rfl jK (Cx.refl _) _ cc) ?_
   rintro e_ jh ⟨rfl, bN⟩
   have cG := k_.call bN
   refine ⟨.dB [.u32 r_.1, I r_.2], rfl, ?_⟩
   obtain ⟨ew, eA, hm⟩ := ob hm
   refine aQ 4 [] (.n 17 (.u32 r_.1) (.n 19 (.v (.pointer (il wi av 1))) (.fi (.s .a)))) (qJ (cG.Lg 0 rfl) eA (cG.yM 0 rfl) <| qe) (by kernel_rfl) ?_
   refine ae <| BZ (E := bm) (kk := 0) (sv := .u32 r_.1) (svs := [.u32 r_.1]) [] 0 r_.1 (by kernel_rfl) (Pt.oZ wi av 1) cG rfl (bn eA).2 (rS (E := bm) (cG.Lg 0 rfl) (by decide) (fp eA).1 (bn eA).2) rfl (Nat.le_of_ble_eq_true (by kernel_rfl)) ?_
   intro kI cD
   refine ad <| cu <| aa <| aV [] (.n 7 (I (aA (av + 1))) (.ss (.nJ .z))) qe (by kernel_rfl) ?_
   exact fO (nq.set (Int.toNat av) r_.1, aA (av + 1)) (Option.some.inj hm).symm ⟨nq.set (Int.toNat av) r_.1, aA (av + 1), rfl, rfl, cD⟩ (by kernel_rfl)
 rw [if_neg hc] at hm
 refine cA (bu (bu (dZ ?_)))
 have hm := bT hm jH
 obtain rfl := Option.some.inj hm
 refine nk [] qe (by kernel_rfl) ?_
 exact ⟨rfl, k_⟩
theorem uN {F O : Nat → Prop} {w : World} (k : Cx F O w w []) (r : (ag UInt32 8)) (hm : my = some r) :
    Calls Try.prog 71 (ak []) w (fun e w' => e = .returned (SV.val (.agg [.ar bm r])) ∧ Cx F O w w' []) := by
 unfold my at hm
 refine calls [] Try.func71 rfl (of_decide_eq_true (by kernel_rfl)) ?_
 refine ab <| aj <| ae <| aU [] 0 [.ar bm (ag.rep 8 (0 : UInt32))] (by kernel_rfl) k ?_
 intro g w_ k_
 refine ad <| aa <| ab <| aj <| aQ 1 [] (.n 1 (.agg [.ar bm (⟨[(1779033703 : UInt32), (3144134277 : UInt32), (1013904242 : UInt32), (2773480762 : UInt32), (1359893119 : UInt32), (2600822924 : UInt32), (528734635 : UInt32), (1541459225 : UInt32)], rfl⟩ : ag UInt32 8)]) .a) qe (by kernel_rfl) ?_
 refine ae <| cE [] 0 (.agg [.ar bm (⟨[(1779033703 : UInt32), (3144134277 : UInt32), (1013904242 : UInt32), (2773480762 : UInt32), (1359893119 : UInt32), (2600822924 : UInt32), (528734635 : UInt32), (1541459225 : UInt32)], rfl⟩ : ag UInt32 8)]) [.ar bm (⟨[(1779033703 : UInt32), (3144134277 : UInt32), (1013904242 : UInt32), (2773480762 : UInt32), (1359893119 : UInt32), (2600822924 : UInt32), (528734635 : UInt32), (1541459225 : UInt32)], rfl⟩ : ag UInt32 8)] (Pt.at g 0) k_ rfl .all (by kernel_rfl) (by kernel_rfl) ?_
 intro jh bN
 refine ad <| aa <| aG ?_
 obtain rfl := Option.some.inj hm
 refine aH [.agg [.ar bm (⟨[(1779033703 : UInt32), (3144134277 : UInt32), (1013904242 : UInt32), (2773480762 : UInt32), (1359893119 : UInt32), (2600822924 : UInt32), (528734635 : UInt32), (1541459225 : UInt32)], rfl⟩ : ag UInt32 8)]] (qo (.agg [.ar bm (⟨[(1779033703 : UInt32), (3144134277 : UInt32), (1013904242 : UInt32), (2773480762 : UInt32), (1359893119 : UInt32), (2600822924 : UInt32), (528734635 : UInt32), (1541459225 : UInt32)], rfl⟩ : ag UInt32 8)]) <| qc (fun w => Rd w (some ⟨g, 0, none⟩) (SV.cl [.ar bm (⟨[(1779033703 : UInt32), (3144134277 : UInt32), (1013904242 : UInt32), (2773480762 : UInt32), (1359893119 : UInt32), (2600822924 : UInt32), (528734635 : UInt32), (1541459225 : UInt32)], rfl⟩ : ag UInt32 8)])) (bN.pV 0 rfl) <| qe) (by kernel_rfl) ?_
 have cG := bN.ba .z
 exact ⟨rfl, cG⟩
theorem wj {F O : Nat → Prop} {w : World} (block : List UInt8) (dO : Option Addr) (bd : Nat) (dP : Nat) (kU : Ro F w dO (e8.all block)) (lF : block.length = bd) (kA : bd ≤ dP) (k : Cx F O w w []) (r : (ag UInt32 8 × Int)) (hm : jm block = some r) :
    Calls Try.prog 61 (ak [sl dO bd dP]) w (fun e w' => e = .returned (SV.val (.dB [.agg [.ar bm r.1], I r.2])) ∧ Cx F O w w' []) := by
 unfold jm at hm
 subst lF
 refine calls [sl dO block.length dP] Try.func61 rfl (of_decide_eq_true (by kernel_rfl)) ?_
 refine ab <| aj <| ae <| aU [] 2 [.ar bm (ag.rep 8 (0 : UInt32))] (by kernel_rfl) k ?_
 intro g w_ k_
 refine aQ 1 [] .a qe (by kernel_rfl) ?_
 refine ad <| aa <| ab <| ab <| aj <| aQ 1 [] (.n 8 (sl dO block.length dP) .a) qe (by kernel_rfl) ?_
 refine ae ?_
 obtain ⟨r_, cc, hm⟩ := ob hm
 refine ax [] 9 _ zV (by kernel_rfl) (qk (F := N0) (O := N0) _ _ _ _ _ (Ro.n0 (kU.cx k_)) rfl kA (Cx.refl _) _ cc) ?_
 rintro e_ jh ⟨rfl, bN⟩
 have cG := k_.call bN
 refine ⟨I r_, rfl, ?_⟩
 refine aQ 1 [] (.n 4 (I r_) (.ss .a)) qe (by kernel_rfl) ?_
 refine ad <| aa <| ab <| aV [] (.n 11 (.b (decide (r_ ≠ 0))) .a) qe (by kernel_rfl) ?_
 refine aa <| aN (r_ ≠ 0) (by kernel_rfl) (fun hc => ?_) (fun hc => ?_)
 · rw [if_pos hc] at hm
   refine ab <| aj <| aQ 2 [] (.n 12 (.agg [.ar bm (ag.rep 8 ((0 : UInt32) : UInt32))]) (.n 13 (I r_) (.ss (.k .z)))) qe (by kernel_rfl) ?_
   refine ae <| cE [] 0 (.agg [.ar bm (ag.rep 8 ((0 : UInt32) : UInt32))]) [.ar bm (ag.rep 8 ((0 : UInt32) : UInt32))] (Pt.at g 0) cG rfl .all (by kernel_rfl) (by kernel_rfl) ?_
   intro kI cD
   refine aQ 1 [] (.n 3 (I r_) (.ss .a)) qe (by kernel_rfl) ?_
   refine ad <| aa <| aG (aZ ?_)
   obtain rfl := Option.some.inj hm
   refine aH [.agg [.ar bm (ag.rep 8 ((0 : UInt32) : UInt32))], I r_] (qo (.agg [.ar bm (ag.rep 8 ((0 : UInt32) : UInt32))]) <| qc (fun w => Rd w (some ⟨g, 0, none⟩) (SV.cl [.ar bm (ag.rep 8 ((0 : UInt32) : UInt32))])) (cD.pV 0 rfl) <| qe) (by kernel_rfl) ?_
   have dm := cD.ba .z
   exact ⟨rfl, dm⟩
 rw [if_neg hc] at hm
 refine aL <| aa <| ab <| aj <| ae <| aU [] 5 [.ar bm (ag.rep 8 (0 : UInt32))] (by kernel_rfl) cG ?_
 intro g1 mb dx
 refine ad <| aa <| ab <| aj <| aQ 2 [] (.n 14 (sl (some ⟨g1, 0, none⟩) 8 8) (.n 15 (sl dO block.length dP) (.k (.ss (.k .z))))) (qo (.v (.slice (some ⟨g1, 0, none⟩) 8 8)) <| qp (((some ⟨g1, 0, none⟩) : Option Addr).isSome = true ∧ Value.slice (nj (some ⟨g1, 0, none⟩) 0 8 1) (8 - 0) (8 - 0) = .slice (some ⟨g1, 0, none⟩) 8 8) ⟨rfl, pY _ _ _ _ _ rfl⟩ <| qe) (by kernel_rfl) ?_
 refine ae ?_
 have dV := dx.F2 [] [] 1 rfl
 obtain ⟨aE, cB, hm⟩ := ob hm
 obtain ⟨F1, O1, oV, hO, xK, hF, hb⟩ := dV.go (.r (.i .e))
 refine ax [] 16 _ zW (by kernel_rfl) (ql (F := F1) (O := O1) _ _ _ _ _ _ _ _ _ (Nat.le_refl _) (Ro.sR kU dV hF) rfl kA oV _ cB) ?_
 rintro e_ mc ⟨rfl, ed⟩
 have eo := hb mc _ _ ed (.c .n)
 refine ⟨.dB [], rfl, ?_⟩
 have eU := eo.F3 [] [] 0 rfl (ag.of 8 aE) (ag.G_ (eo.yM 0 rfl))
 refine ad <| aa <| ab <| aj <| ae ?_
 have bH := eU.ba (.kk .e)
 obtain ⟨bz, gu, hm⟩ := ob hm
 refine ax [] 17 _ zX (by kernel_rfl) (uN (F := N0) (O := N0)  (Cx.refl _) _ gu) ?_
 rintro e_ oH ⟨rfl, bD⟩
 have cS := bH.call bD
 refine ⟨.agg [.ar bm bz], rfl, ?_⟩
 refine ae <| aU [] 6 [.ar bm (ag.rep 8 (0 : UInt32))] (by kernel_rfl) cS ?_
 intro g2 qD dk
 refine ae <| cE [] 2 (.agg [.ar bm bz]) [.ar bm bz] (Pt.at g2 0) dk rfl .all (by kernel_rfl) (by kernel_rfl) ?_
 intro rL dD
 refine ad <| aa <| ab <| ab <| aV [] (.n 18 (I 0) (.k (.fi .a))) qe (by kernel_rfl) ?_
 refine aa <| aI ?_
 have eC := ((dD.pk (.t (.t .h))).pk (.t .h)).pk (.t (.t .h))
 refine jQ (gn aE) (fun s L wr => ∃ (h : ag UInt32 8) (av : Int), (h, av) = s ∧ L = [(2, pt g 0), (5, pt g1 0), (6, pt g2 0), (18, I av)] ∧ Cx F O w wr [Bx 133 g [.ar bm (ag.rep 8 (0 : UInt32))], Bx 133 g1 [.ar bm (ag.of 8 aE)], Bx 133 g2 [.ar bm h]]) (bz, (0 : Int)) r hm ⟨bz, (0 : Int), rfl, rfl, eC⟩ (by kernel_rfl) ?_
 intro rW L_ uL y0 ef bj jH
 obtain ⟨h, av, rfl, rfl, et⟩ := ef
 have hm := bj; simp only [gn] at hm
 clear bj
 refine ab <| aV [] (.n 19 (.b (decide (av < 8))) .a) qe (by kernel_rfl) ?_
 refine aa <| ab <| aN (av < 8) (by kernel_rfl) (fun fZ => ?_) (fun fZ => ?_)
 · rw [if_pos fZ] at hm
   refine aL <| aa <| ab <| aI <| ab <| aV [] (.n 7 (I av) (.s .a)) qe (by kernel_rfl) ?_
   refine aa ?_
   have eW := et.drew 1
   refine lJ aT (.q 0 0 (.q 1 0 (.q 2 0 (.q 3 0 (.q 4 0 (.q 5 0 (.q 6 0 (.q 7 0 (.op 8 .nil))))))))) [8] eW (.c (.kk .z) .l) (by kernel_rfl) (fun _ => ?_)
   obtain ⟨bk, dA, hm⟩ := ob hm
   obtain ⟨dQ, fI, hm⟩ := ob hm
   obtain ⟨cY, ij, hm⟩ := ob hm
   refine bo 8 0 [] (.n 27 (.u32 (bk ^^^ dQ)) (.n 28 (.v (.pointer (il (some ⟨g2, 0, none⟩) av 1))) (.s .a))) (fun x hx => qV (hx.iw 2 rfl bm h 0 (by kernel_rfl)) dA rfl (.u32 bk) rfl <| qV (hx.iw 1 rfl bm (ag.of 8 aE) 0 (by kernel_rfl)) fI rfl (.u32 dQ) rfl <| qI g2 0 ij <| qe) (by kernel_rfl) (fun _ => ?_)
   refine bl (by kernel_rfl) rfl ?_
   obtain ⟨v, E_, hm⟩ := nm hm
   refine fC (E := bm) (kk := 0) [] 2 (.u32 (bk ^^^ dQ)) [.u32 (bk ^^^ dQ)] E_ ij (Pt.p5 (Pt.at g2 0) av 1) eW rfl .h rfl (by kernel_rfl) (by kernel_rfl) ?_
   intro xI fN
   refine ⟨(fN.ba (.kk .z)), fun _ => ?_⟩
   refine bC <| cu <| aa <| aV [] (.n 18 (I (aA (av + 1))) (.ss (.nJ .z))) qe (by kernel_rfl) ?_
   exact fO (v, aA (av + 1)) (Option.some.inj hm).symm ⟨v, aA (av + 1), rfl, rfl, fN⟩ (by kernel_rfl)
 rw [if_neg fZ] at hm
 refine cA (bu (bu (dZ ?_)))
 have hm := bT hm jH
 refine aa <| ab <| aj <| aQ 1 [] (.n 30 (.agg [.ar bm h]) (.s (.k .z))) (qT et 2 rfl 0 8 [.ar bm h] (by kernel_rfl) (by decide) <| qe) (by kernel_rfl) ?_
 refine ae <| cE [] 0 (.agg [.ar bm h]) [.ar bm h] (Pt.at g 0) et rfl .all (by kernel_rfl) (by kernel_rfl) ?_
 intro rk iW
 have fH := iW.ba (.k .z)
 refine aQ 1 [] (.n 3 (I 0) (.s .a)) qe (by kernel_rfl) ?_
 refine ad <| aa <| aG ?_
 obtain rfl := Option.some.inj hm
 refine aH [.agg [.ar bm h], I 0] (qo (.agg [.ar bm h]) <| qc (fun w => Rd w (some ⟨g, 0, none⟩) (SV.cl [.ar bm h])) (fH.pV 0 rfl) <| qe) (by kernel_rfl) ?_
 have gA := fH.ba .z
 exact ⟨rfl, gA⟩
theorem wk {F O : Nat → Prop} {w : World} (k_ : Int) (block : List UInt8) (dO : Option Addr) (bd : Nat) (dP : Nat) (kU : Ro F w dO (e8.all block)) (lF : block.length = bd) (kA : bd ≤ dP) (k : Cx F O w w []) (r : (ag UInt64 8 × List UInt8) ⊕ (ag UInt32 8 × List UInt8)) (hm : jn k_ block = some r) :
    Calls Try.prog 55 (ak [I k_, sl dO bd dP]) w (fun e w' => match r with | .inl r0 => ∃ g A n c, r0.2.length = n ∧ e = .returned (SV.val (.v (.iface 126 (SV.val (pt g 0))))) ∧ Cx F O w w' [Bx 132 g [.ar bw r0.1, .u64 0, .u64 0, sl A n c, I 128, .v (.func (.func 59) ⟨SV.ak []⟩ ⟨SV.ak []⟩), .v (.func (.func 60) ⟨SV.ak []⟩ ⟨SV.ak []⟩)], Ow e8 A n c r0.2] | .inr r1 => ∃ g1 A1 n1 c1, r1.2.length = n1 ∧ e = .returned (SV.val (.v (.iface 136 (SV.val (pt g1 0))))) ∧ Cx F O w w' [Bx 140 g1 [.ar bm r1.1, .u64 0, .u64 0, sl A1 n1 c1, I 64, .v (.func (.func 62) ⟨SV.ak []⟩ ⟨SV.ak []⟩), .v (.func (.func 63) ⟨SV.ak []⟩ ⟨SV.ak []⟩)], Ow e8 A1 n1 c1 r1.2]) := by
 unfold jn at hm
 subst lF
 refine calls [I k_, sl dO block.length dP] Try.func55 rfl (of_decide_eq_true (by kernel_rfl)) ?_
 refine ab <| aV [] .a qe (by kernel_rfl) ?_
 refine aa <| ab <| ab <| aV [] (.n 10 (.b (decide (k_ = 1))) (.s .a)) qe (by kernel_rfl) ?_
 refine aa <| aN (k_ = 1) (by kernel_rfl) (fun hc => ?_) (fun hc => ?_)
 · rw [if_pos hc] at hm
   refine ab <| aj <| aQ 1 [] (.n 12 (sl dO block.length dP) .z) qe (by kernel_rfl) ?_
   refine ae ?_
   obtain ⟨r_, cc, hm⟩ := ob hm
   refine ax [] 13 _ EP (by kernel_rfl) (wh (F := N0) (O := N0) _ _ _ _ (Ro.n0 (kU.cx k)) rfl kA (Cx.refl _) _ cc) ?_
   rintro e_ w_ ⟨rfl, bN⟩
   have cG := k.call bN
   refine ⟨.dB [.agg [.ar bw r_.1], I r_.2], rfl, ?_⟩
   refine aQ 3 [] (.n 14 (.agg [.ar bw r_.1]) (.n 15 (I r_.2) .z)) qe (by kernel_rfl) ?_
   refine ae <| aU [] 5 [.ar bw (ag.rep 8 (0 : UInt64))] (by kernel_rfl) cG ?_
   intro g0 jh cD
   refine ae <| cE [] 0 (.agg [.ar bw r_.1]) [.ar bw r_.1] (Pt.at g0 0) cD rfl .all (by kernel_rfl) (by kernel_rfl) ?_
   intro kI dm
   refine aQ 1 [] (.k .z) qe (by kernel_rfl) ?_
   refine ad <| aa <| ab <| aj <| aQ 2 [] (.n 17 (.agg [.ar bw r_.1, .u64 0, .u64 0, sl none 0 0, I 128, .v (.func (.func 59) ⟨SV.ak []⟩ ⟨SV.ak []⟩), .v (.func (.func 60) ⟨SV.ak []⟩ ⟨SV.ak []⟩)]) .z) (qT dm 0 rfl 0 8 [.ar bw r_.1] (by kernel_rfl) (by decide) <| qe) (by kernel_rfl) ?_
   refine ae <| eg [] 18 (.agg [.ar bw r_.1, .u64 0, .u64 0, sl none 0 0, I 128, .v (.func (.func 59) ⟨SV.ak []⟩ ⟨SV.ak []⟩), .v (.func (.func 60) ⟨SV.ak []⟩ ⟨SV.ak []⟩)]) [.ar bw r_.1, .u64 0, .u64 0, sl none 0 0, I 128, .v (.func (.func 59) ⟨SV.ak []⟩ ⟨SV.ak []⟩), .v (.func (.func 60) ⟨SV.ak []⟩ ⟨SV.ak []⟩)] (by kernel_rfl) dm ?_
   intro g2 mb dx
   refine aQ 2 [] (.n 4 (.v (.iface 126 (SV.val (pt g2 0)))) .z) qe (by kernel_rfl) ?_
   refine ad <| aa <| aG (aZ ?_)
   have dV := dx.nil e8
   obtain rfl := Option.some.inj hm
   refine aH [.v (.iface 126 (SV.val (pt g2 0)))] qe (by kernel_rfl) ?_
   have ed := dV.ba (.s (.kk .e))
   exact ⟨g2, none, 0, 0, ed.len 1 rfl, rfl, ed⟩
 rw [if_neg hc] at hm
 refine aL <| aa <| ab <| aj <| aQ 1 [] (.n 21 (sl dO block.length dP) .z) qe (by kernel_rfl) ?_
 refine ae ?_
 obtain ⟨aE, cB, hm⟩ := ob hm
 refine ax [] 22 _ ES (by kernel_rfl) (wj (F := N0) (O := N0) _ _ _ _ (Ro.n0 (kU.cx k)) rfl kA (Cx.refl _) _ cB) ?_
 rintro e_ mc ⟨rfl, eo⟩
 have eU := k.call eo
 refine ⟨.dB [.agg [.ar bm aE.1], I aE.2], rfl, ?_⟩
 refine aQ 3 [] (.n 23 (.agg [.ar bm aE.1]) (.n 24 (I aE.2) .z)) qe (by kernel_rfl) ?_
 refine ae <| aU [] 7 [.ar bm (ag.rep 8 (0 : UInt32))] (by kernel_rfl) eU ?_
 intro g3 oH bH
 refine ae <| cE [] 0 (.agg [.ar bm aE.1]) [.ar bm aE.1] (Pt.at g3 0) bH rfl .all (by kernel_rfl) (by kernel_rfl) ?_
 intro qD bD
 refine aQ 1 [] (.k .z) qe (by kernel_rfl) ?_
 refine ad <| aa <| ab <| aj <| aQ 2 [] (.n 26 (.agg [.ar bm aE.1, .u64 0, .u64 0, sl none 0 0, I 64, .v (.func (.func 62) ⟨SV.ak []⟩ ⟨SV.ak []⟩), .v (.func (.func 63) ⟨SV.ak []⟩ ⟨SV.ak []⟩)]) .z) (qT bD 0 rfl 0 8 [.ar bm aE.1] (by kernel_rfl) (by decide) <| qe) (by kernel_rfl) ?_
 refine ae <| eg [] 27 (.agg [.ar bm aE.1, .u64 0, .u64 0, sl none 0 0, I 64, .v (.func (.func 62) ⟨SV.ak []⟩ ⟨SV.ak []⟩), .v (.func (.func 63) ⟨SV.ak []⟩ ⟨SV.ak []⟩)]) [.ar bm aE.1, .u64 0, .u64 0, sl none 0 0, I 64, .v (.func (.func 62) ⟨SV.ak []⟩ ⟨SV.ak []⟩), .v (.func (.func 63) ⟨SV.ak []⟩ ⟨SV.ak []⟩)] (by kernel_rfl) bD ?_
 intro g4 rL cS
 refine aQ 2 [] (.n 4 (.v (.iface 136 (SV.val (pt g4 0)))) .z) qe (by kernel_rfl) ?_
 refine ad <| aa <| aG ?_
 have dk := cS.nil e8
 obtain rfl := Option.some.inj hm
 refine aH [.v (.iface 136 (SV.val (pt g4 0)))] qe (by kernel_rfl) ?_
 have dD := dk.ba (.s (.kk .e))
 exact ⟨g4, none, 0, 0, dD.len 1 rfl, rfl, dD⟩
theorem jD {F O : Nat → Prop} {w : World} (k_ : Int) (k : Cx F O w w []) (r : Int) (hm : db k_ = some r) :
    Calls Try.prog 30 (ak [I k_]) w (fun e w' => e = .returned (SV.val (I r)) ∧ Cx F O w w' []) := by
 unfold db at hm
 refine calls [I k_] Try.func30 rfl (of_decide_eq_true (by kernel_rfl)) ?_
 refine ab <| aV [] .a qe (by kernel_rfl) ?_
 refine aa <| ab <| ab <| aV [] (.n 4 (.b (decide (k_ = 1))) .z) qe (by kernel_rfl) ?_
 refine aa <| aN (k_ = 1) (by kernel_rfl) (fun hc => ?_) (fun hc => ?_)
 · rw [if_pos hc] at hm
   refine ab <| aV [] (.n 2 (I 128) .z) qe (by kernel_rfl) ?_
   refine aa <| aG (aZ ?_)
   obtain rfl := Option.some.inj hm
   refine aH [I 128] qe (by kernel_rfl) ?_
   exact ⟨rfl, k⟩
 rw [if_neg hc] at hm
 refine aL <| aa <| ab <| aV [] (.n 2 (I 64) .z) qe (by kernel_rfl) ?_
 refine aa <| aG ?_
 obtain rfl := Option.some.inj hm
 refine aH [I 64] qe (by kernel_rfl) ?_
 exact ⟨rfl, k⟩
theorem j4 {F O : Nat → Prop} {w : World} (b : List UInt8) (n : Int) (fm : Option Addr) (ig : Nat) (fw : Nat) (j3 : Ro F w fm (e8.all b)) (iV : b.length = ig) (jK : ig ≤ fw) (k : Cx F O w w []) (r : (List UInt8)) (hm : eZ b n = some r) :
    Calls Try.prog 56 (ak [sl fm ig fw, I n]) w (fun e w' => ∃ A n1 c, r.length = n1 ∧ e = .returned (SV.val (sl A n1 c)) ∧ Cx F O w w' [Ow e8 A n1 c r]) := by
 unfold eZ at hm
 subst iV
 refine calls [sl fm b.length fw, I n] Try.func56 rfl (of_decide_eq_true (by kernel_rfl)) ?_
 refine ab <| aV [] .a qe (by kernel_rfl) ?_
 refine aa <| ab <| aj <| aQ 1 [] (.n 5 (I n) .a) qe (by kernel_rfl) ?_
 refine ae ?_
 obtain ⟨u, pK, hm⟩ := ob hm
 refine pW er e8 (0 : UInt8) rfl [] 6 (I 0) (I n) (0 : Int) n (by kernel_rfl) (ck pK).1 (ck pK).2.1 (ck pK).2.2 k ?_
 intro A0 w_ k_
 refine aQ 1 [] (.n 7 (sl fm b.length fw) (.k (.s .a))) qe (by kernel_rfl) ?_
 refine ae ?_
 obtain ⟨b1, na, hm⟩ := ob hm
 obtain ⟨hz, hl⟩ := fh na
 refine dq (E := e8) (v := sl fm b.length fw) (ys := b) er [] 8 0 (by kernel_rfl) k_ rfl (Src.sl (j3.cx k_) rfl (by rfl)) rfl (by have := k_.len 0 rfl; have := hm; omega) ?_
 intro A1 c0 jh bN
 rw [← hl] at bN
 refine aQ 4 [] (.n 12 (I (aA (n - ((b.length : Nat) : Int)))) (.k .z)) qe (by kernel_rfl) ?_
 refine ae ?_
 obtain ⟨b2, wm, hm⟩ := ob hm
 obtain ⟨h0, DI, yu⟩ := AF wm
 refine yN (E := e8) (kx := .i64) (ik := .i64) er (0 : UInt8) [] 13 0 (aA (n - ((b.length : Nat) : Int))) (by kernel_rfl) rfl bN rfl h0 (by have := bN.len 0 rfl; omega) ?_
 intro A2 c1 kI cG
 rw [← yu] at cG
 refine aQ 1 [] (.n 4 (sl A2 (Int.toNat (0 : Int) + b.length + Int.toNat (aA (n - ((b.length : Nat) : Int)))) c1) .z) qe (by kernel_rfl) ?_
 refine ad <| aa <| aG ?_
 obtain rfl := Option.some.inj hm
 refine aH [sl A2 (Int.toNat (0 : Int) + b.length + Int.toNat (aA (n - ((b.length : Nat) : Int)))) c1] qe (by kernel_rfl) ?_
 exact ⟨A2, Int.toNat (0 : Int) + b.length + Int.toNat (aA (n - ((b.length : Nat) : Int))), c1, cG.len 0 rfl, rfl, cG⟩
theorem jV {F O : Nat → Prop} {w : World} (jd : UInt64) (jS : UInt64) (n : UInt64) (k : Cx F O w w []) (r : (UInt64 × UInt64 × Bool)) (hm : gh jd jS n = some r) :
    Calls Try.prog 109 (ak [.agg [.u64 jd, .u64 jS], .u64 n]) w (fun e w' => e = .returned (SV.val (.dB [.agg [.u64 r.1, .u64 r.2.1], .b r.2.2])) ∧ Cx F O w w' []) := by
 unfold gh at hm
 refine calls [.agg [.u64 jd, .u64 jS], .u64 n] Try.func109 rfl (of_decide_eq_true (by kernel_rfl)) ?_
 refine ab <| aj <| ae <| eg [] 2 (.agg [.u64 jd, .u64 jS]) [.u64 jd, .u64 jS] (by kernel_rfl) k ?_
 intro g w_ k_
 refine ae <| aU [] 4 [.u64 0, .u64 0] (by kernel_rfl) k_ ?_
 intro g1 jh bN
 refine aQ 1 [] (.kk (.s .a)) qe (by kernel_rfl) ?_
 refine ad <| aa <| ab <| aj <| aQ 3 [] (.n 12 (.u64 jd) (.n 13 (.u64 n) (.kk .z))) (qs g 0 <| qB bN 0 rfl 0 (.u64 jd) (by kernel_rfl) <| qe) (by kernel_rfl) ?_
 refine ae ?_
 obtain ⟨r_, cc, hm⟩ := ob hm
 refine xj uK [] 14 jd n (0 : UInt64) (by kernel_rfl) cc ?_
 refine aQ 5 [] (.n 6 (.u64 r_.1) (.n 7 (.u64 r_.2) (.ib .a))) qe (by kernel_rfl) ?_
 refine ad <| aa <| ab <| aj <| aQ 3 [] (.n 19 (.u64 jS) (.n 20 (.u64 r_.2) (.k (.s (.k .z))))) (qs g 0 <| qB bN 0 rfl 1 (.u64 jS) (by kernel_rfl) <| qe) (by kernel_rfl) ?_
 refine ae ?_
 obtain ⟨aE, cB, hm⟩ := ob hm
 refine xj uK [] 21 jS (0 : UInt64) r_.2 (by kernel_rfl) cB ?_
 refine aQ 5 [] (.n 8 (.u64 aE.1) (.n 9 (.u64 aE.2) (.ib .a))) qe (by kernel_rfl) ?_
 refine ad <| aa <| ab <| aj <| aQ 5 [] (.n 26 (.agg [.u64 r_.1, .u64 aE.1]) (.n 28 (.b (decide (aE.2 = 1))) (.ib .a))) qe (by kernel_rfl) ?_
 refine ae ?_
 have cG := bN.ba (.kk .e)
 refine cE [] 1 (.agg [.u64 r_.1, .u64 aE.1]) [.u64 r_.1, .u64 aE.1] (Pt.at g1 0) cG rfl .all (by kernel_rfl) (by kernel_rfl) ?_
 intro kI cD
 have dm := cD.ba (.s (.k .e))
 refine aQ 1 [] (.n 5 (.b (decide (aE.2 = 1))) (.ss .a)) qe (by kernel_rfl) ?_
 refine ad <| aa <| aG ?_
 obtain rfl := Option.some.inj hm
 refine aH [.agg [.u64 r_.1, .u64 aE.1], .b (decide (aE.2 = 1))] (qo (.agg [.u64 r_.1, .u64 aE.1]) <| qc (fun w => Rd w (some ⟨g1, 0, none⟩) (SV.cl [.u64 r_.1, .u64 aE.1])) (dm.pV 0 rfl) <| qe) (by kernel_rfl) ?_
 have dx := dm.ba .z
 exact ⟨rfl, dx⟩
theorem wo {F O : Nat → Prop} {w : World} (b : List UInt8) (fm : Option Addr) (ig : Nat) (fw : Nat) (j3 : Ro F w fm (e8.all b)) (iV : b.length = ig) (jK : ig ≤ fw) (k : Cx F O w w []) (r : (ag UInt64 16 × Int)) (hm : jo b = some r) :
    Calls Try.prog 66 (ak [sl fm ig fw]) w (fun e w' => e = .returned (SV.val (.dB [.agg [.ar bw r.1], I r.2])) ∧ Cx F O w w' []) := by
 unfold jo at hm
 subst iV
 refine calls [sl fm b.length fw] Try.func66 rfl (of_decide_eq_true (by kernel_rfl)) ?_
 refine ab <| aj <| ae <| aU [] 2 [.ar bw (ag.rep 16 (0 : UInt64))] (by kernel_rfl) k ?_
 intro g w_ k_
 refine aQ 1 [] .a qe (by kernel_rfl) ?_
 refine ad <| aa <| ab <| aj <| ae <| aU [] 4 [.ar bw (ag.rep 16 (0 : UInt64))] (by kernel_rfl) k_ ?_
 intro g1 jh bN
 refine ad <| aa <| ab <| ab <| aV [] (.n 8 (.b (decide (((b.length : Nat) : Int) ≠ 128))) .a) qe (by kernel_rfl) ?_
 refine aa <| aN (((b.length : Nat) : Int) ≠ 128) (by kernel_rfl) (fun hc => ?_) (fun hc => ?_)
 · rw [if_pos hc] at hm
   refine ab <| aj <| aQ 1 [] (.n 9 (.agg [.ar bw (ag.rep 16 (0 : UInt64))]) (.ss (.k .z))) (qT bN 1 rfl 0 16 [.ar bw (ag.rep 16 (0 : UInt64))] (by kernel_rfl) (by decide) <| qe) (by kernel_rfl) ?_
   refine ae <| cE [] 0 (.agg [.ar bw (ag.rep 16 (0 : UInt64))]) [.ar bw (ag.rep 16 (0 : UInt64))] (Pt.at g 0) bN rfl .all (by kernel_rfl) (by kernel_rfl) ?_
   intro kI cG
   have cD := cG.ba (.k .z)
   refine aQ 1 [] (.n 3 (I 1) (.s .a)) qe (by kernel_rfl) ?_
   refine ad <| aa <| aG (aZ ?_)
   obtain rfl := Option.some.inj hm
   refine aH [.agg [.ar bw (ag.rep 16 (0 : UInt64))], I 1] (qo (.agg [.ar bw (ag.rep 16 (0 : UInt64))]) <| qc (fun w => Rd w (some ⟨g, 0, none⟩) (SV.cl [.ar bw (ag.rep 16 (0 : UInt64))])) (cD.pV 0 rfl) <| qe) (by kernel_rfl) ?_
   have dm := cD.ba .z
   exact ⟨rfl, dm⟩
 rw [if_neg hc] at hm
 refine aL <| aa <| ab <| ab <| aV [] (.n 10 (I 0) (.s .a)) qe (by kernel_rfl) ?_
 refine aa <| aI <| jQ (gp b) (fun s L wr => ∃ (m_ : ag UInt64 16) (av : Int), (m_, av) = s ∧ L = [(0, sl fm b.length fw), (2, pt g 0), (4, pt g1 0), (10, I av)] ∧ Cx F O w wr [Bx 144 g [.ar bw (ag.rep 16 (0 : UInt64))], Bx 144 g1 [.ar bw m_]]) ((ag.rep 16 (0 : UInt64)), (0 : Int)) r hm ⟨(ag.rep 16 (0 : UInt64)), (0 : Int), rfl, rfl, bN⟩ (by kernel_rfl) ?_
 intro rW L_ mb y0 ef bj jH
 obtain ⟨m_, av, rfl, rfl, dx⟩ := ef
 have hm := bj; simp only [gp] at hm
 clear bj
 refine ab <| aV [] (.n 11 (.b (decide (av < 16))) .a) qe (by kernel_rfl) ?_
 refine aa <| ab <| aN (av < 16) (by kernel_rfl) (fun fZ => ?_) (fun fZ => ?_)
 · rw [if_pos fZ] at hm
   refine aL <| aa <| ab <| aI <| ab <| aV [] (.n 5 (I av) (.s .a)) qe (by kernel_rfl) ?_
   refine aa <| aj <| aQ 4 [] (.n 14 (I av) (.n 15 (sl fm b.length fw) (.n 17 (I (aA (8 * av))) (.s .a)))) qe (by kernel_rfl) ?_
   refine ae ?_
   obtain ⟨r_, cc, hm⟩ := ob hm
   refine ax [] 18 _ zU (by kernel_rfl) (o7 (F := N0) (O := N0) _ _ _ _ _ (Ro.n0 (j3.cx dx)) rfl jK (Cx.refl _) _ cc) ?_
   rintro e_ mc ⟨rfl, dV⟩
   have ed := dx.call dV
   refine ⟨.dB [.u64 r_.1, I r_.2], rfl, ?_⟩
   obtain ⟨bk, dA, hm⟩ := ob hm
   refine aQ 4 [] (.n 19 (.u64 r_.1) (.n 21 (.v (.pointer (il (some ⟨g1, 0, none⟩) av 1))) (.fi .a))) (qI g1 0 dA <| qe) (by kernel_rfl) ?_
   refine ae ?_
   obtain ⟨v, E_, hm⟩ := nm hm
   refine fC (E := bw) (kk := 0) [] 1 (.u64 r_.1) [.u64 r_.1] E_ dA (Pt.p5 (Pt.at g1 0) av 1) ed rfl .h rfl (by kernel_rfl) (by kernel_rfl) ?_
   intro oH eo
   refine ad <| cu <| aa <| aV [] (.n 10 (I (aA (av + 1))) (.ss (.nJ .z))) qe (by kernel_rfl) ?_
   exact fO (v, aA (av + 1)) (Option.some.inj hm).symm ⟨v, aA (av + 1), rfl, rfl, eo⟩ (by kernel_rfl)
 rw [if_neg fZ] at hm
 refine cA (bu (bu (dZ ?_)))
 have hm := bT hm jH
 refine aa <| ab <| aj <| aQ 1 [] (.n 23 (.agg [.ar bw m_]) (.ss (.k .z))) (qT dx 1 rfl 0 16 [.ar bw m_] (by kernel_rfl) (by decide) <| qe) (by kernel_rfl) ?_
 refine ae <| cE [] 0 (.agg [.ar bw m_]) [.ar bw m_] (Pt.at g 0) dx rfl .all (by kernel_rfl) (by kernel_rfl) ?_
 intro qD eU
 have bH := eU.ba (.k .z)
 refine aQ 1 [] (.n 3 (I 0) (.s .a)) qe (by kernel_rfl) ?_
 refine ad <| aa <| aG ?_
 obtain rfl := Option.some.inj hm
 refine aH [.agg [.ar bw m_], I 0] (qo (.agg [.ar bw m_]) <| qc (fun w => Rd w (some ⟨g, 0, none⟩) (SV.cl [.ar bw m_])) (bH.pV 0 rfl) <| qe) (by kernel_rfl) ?_
 have bD := bH.ba .z
 exact ⟨rfl, bD⟩
theorem xL {F O : Nat → Prop} {w : World} (h : ag UInt64 8) (dd : UInt64) (de : UInt64) (last : Bool) (node : Bool) (k : Cx F O w w []) (r : (ag UInt64 16)) (hm : lT h dd de last node = some r) :
    Calls Try.prog 75 (ak [.agg [.ar bw h], .agg [.u64 dd, .u64 de], .b last, .b node]) w (fun e w' => e = .returned (SV.val (.agg [.ar bw r])) ∧ Cx F O w w' []) := by
 unfold lT at hm
 refine calls [.agg [.ar bw h], .agg [.u64 dd, .u64 de], .b last, .b node] Try.func75 rfl (of_decide_eq_true (by kernel_rfl)) ?_
 refine ab <| aj <| ae <| eg [] 4 (.agg [.ar bw h]) [.ar bw h] (by kernel_rfl) k ?_
 intro g w_ k_
 refine ae <| eg [] 5 (.agg [.u64 dd, .u64 de]) [.u64 dd, .u64 de] (by kernel_rfl) k_ ?_
 intro g1 jh bN
 refine ae <| aU [] 8 [.ar bw (ag.rep 16 (0 : UInt64))] (by kernel_rfl) bN ?_
 intro g2 kI cG
 refine ad <| aa <| ab <| aj <| ae <| aU [] 9 [.ar bw (ag.rep 16 (0 : UInt64))] (by kernel_rfl) cG ?_
 intro g3 mb cD
 refine ad <| aa <| ab ?_
 have dm := cD.drew 1
 refine lJ aT (.q 0 0 (.q 1 0 (.op 2 .nil))) [2] dm (.c (.kk (.k .z)) .l) (by kernel_rfl) (fun _ => ?_)
 obtain ⟨b, j3, hm⟩ := ob hm
 have hs := dE j3
 have hl := fQ j3
 have hn : ((ag.rep 16 (0 : UInt64)).l).length = 16 := (ag.rep 16 (0 : UInt64)).h
 have hc : 16 ≤ 16 := (Nat.le_refl _)
 have fZ : b.length ≤ 16 := by omega
 refine bo 2 0 [] (.n 11 (sl (some ⟨g3, 0, none⟩) b.length 16) (.n 12 (sl (some ⟨g, 0, none⟩) 8 8) (.nJ (.ib .a)))) (fun x hx => qp (0 ≤ (8 : Int) ∧ (8 : Int) ≤ ((16 : Nat) : Int)) (by omega) <| qo (.v (.slice (some ⟨g3, 0, none⟩) b.length 16)) <| qp (((some ⟨g3, 0, none⟩) : Option Addr).isSome = true ∧ Value.slice (nj (some ⟨g3, 0, none⟩) 0 16 1) (Int.toNat (8 : Int) - 0) (16 - 0) = .slice (some ⟨g3, 0, none⟩) b.length 16) ⟨rfl, pY _ _ _ _ _ (by omega)⟩ <| qo (.v (.slice (some ⟨g, 0, none⟩) 8 8)) <| qp (((some ⟨g, 0, none⟩) : Option Addr).isSome = true ∧ Value.slice (nj (some ⟨g, 0, none⟩) 0 8 1) (8 - 0) (8 - 0) = .slice (some ⟨g, 0, none⟩) 8 8) ⟨rfl, pY _ _ _ _ _ rfl⟩ <| qe) (by kernel_rfl) (fun _ => ?_)
 refine bl (by kernel_rfl) rfl ?_
 have dx := dm.ba (.bb .e)
 refine vG (E := bw) (dn := b.length) (dc := 16) (v := sl (some ⟨g, 0, none⟩) 8 8) (src := h.l) (lo := 0) (m' := 16) xE [] 13 3 [] [] (ag.rep 16 (0 : UInt64)) (by kernel_rfl) (pX _ _ _).symm dx rfl (Src.sl (Rd.vec (dx.pV 0 rfl) (c := bx.all bw h.l) (off := 0) (by kernel_rfl)) h.h (by rfl)) h.h (by have := (ag.rep 16 (0 : UInt64)).h; omega) (by omega) (by omega) ?_
 intro mc dV
 refine ⟨(dV.ba (.kk (.k .z))), fun _ => ?_⟩
 refine bC <| aa <| ab <| aj <| ae ?_
 obtain ⟨r_, cc, hm⟩ := ob hm
 refine ax [] 14 _ zT (by kernel_rfl) (uM (F := N0) (O := N0)  (Cx.refl _) _ cc) ?_
 rintro e_ oH ⟨rfl, ed⟩
 have eo := dV.call ed
 refine ⟨.agg [.ar bw r_], rfl, ?_⟩
 have eU := eo.ba (.s (.kk (.k .e)))
 refine ae <| aU [] 10 [.ar bw (ag.rep 8 (0 : UInt64))] (by kernel_rfl) eU ?_
 intro g4 qD bH
 refine ae <| cE [] 3 (.agg [.ar bw r_]) [.ar bw r_] (Pt.at g4 0) bH rfl .all (by kernel_rfl) (by kernel_rfl) ?_
 intro rL bD
 refine ad <| aa <| ab ?_
 have cS := bD.drew 1
 refine lJ aT (.q 0 0 (.q 1 0 (.op 2 .nil))) [2] cS (.c (.kk (.s (.k .e))) .l) (by kernel_rfl) (fun _ => ?_)
 obtain ⟨b1, na, hm⟩ := ob hm
 have LB := dE na
 have yu := fQ na
 have LC : ((pj (ag.rep 16 (0 : UInt64)) 0 b.length h.l).l).length = 16 := (pj (ag.rep 16 (0 : UInt64)) 0 b.length h.l).h
 have jJ : 16 ≤ 16 := (Nat.le_refl _)
 obtain ⟨A, c, e_, rX, hA, t_⟩ := G6 (some ⟨g3, 0, none⟩) (Int.toNat (8 : Int)) 16 1 (16 - Int.toNat (8 : Int)) b1.length (by omega) (by omega)
 refine bo 2 0 [] (.n 15 (sl A b1.length c) (.n 16 (sl (some ⟨g4, 0, none⟩) 8 8) (.fi (.s .a)))) (fun x hx => qp (0 ≤ (8 : Int) ∧ (8 : Int) ≤ ((16 : Nat) : Int)) (by omega) <| qo (.v (.slice A b1.length c)) <| qp (((some ⟨g3, 0, none⟩) : Option Addr).isSome = true ∧ Value.slice (nj (some ⟨g3, 0, none⟩) (Int.toNat (8 : Int)) 16 1) (16 - Int.toNat (8 : Int)) (16 - Int.toNat (8 : Int)) = .slice A b1.length c) ⟨rfl, e_⟩ <| qo (.v (.slice (some ⟨g4, 0, none⟩) 8 8)) <| qp (((some ⟨g4, 0, none⟩) : Option Addr).isSome = true ∧ Value.slice (nj (some ⟨g4, 0, none⟩) 0 8 1) (8 - 0) (8 - 0) = .slice (some ⟨g4, 0, none⟩) 8 8) ⟨rfl, pY _ _ _ _ _ rfl⟩ <| qe) (by kernel_rfl) (fun _ => ?_)
 refine bl (by kernel_rfl) rfl ?_
 have dk := cS.ba (.bb .e)
 refine vG (E := bw) (dn := b1.length) (dc := c) (v := sl (some ⟨g4, 0, none⟩) 8 8) (src := r_.l) (lo := Int.toNat (8 : Int)) (m' := 16) xE [] 17 2 [] [] (pj (ag.rep 16 (0 : UInt64)) 0 b.length h.l) (by kernel_rfl) hA dk rfl (Src.sl (Rd.vec (dk.pV 3 rfl) (c := bx.all bw r_.l) (off := 0) (by kernel_rfl)) r_.h (by rfl)) r_.h (by have := (pj (ag.rep 16 (0 : UInt64)) 0 b.length h.l).h; omega) (by omega) (by omega) ?_
 intro uL dD
 refine ⟨(dD.ba (.kk (.s (.k .e)))), fun _ => ?_⟩
 refine bC <| aa <| ab <| aj ?_
 obtain ⟨av, lD, hm⟩ := ob hm
 obtain ⟨ew, eA, hm⟩ := ob hm
 refine aQ 6 [] (.n 22 (.u64 (av ^^^ dd)) (.n 23 (.v (.pointer (il (some ⟨g3, 0, none⟩) (12 : Int) 1))) (.ib .a))) (qV (dD.iw 2 rfl bw (pj (pj (ag.rep 16 (0 : UInt64)) 0 b.length h.l) (Int.toNat (8 : Int)) b1.length r_.l) 0 (by kernel_rfl)) lD rfl (.u64 av) rfl <| qs g1 0 <| qB dD 0 rfl 0 (.u64 dd) (by kernel_rfl) <| qI g3 0 eA <| qe) (by kernel_rfl) ?_
 refine ae ?_
 obtain ⟨v, E_, hm⟩ := nm hm
 refine fC (E := bw) (kk := 0) [] 2 (.u64 (av ^^^ dd)) [.u64 (av ^^^ dd)] E_ eA (Pt.p5 (Pt.at g3 0) (12 : Int) 1) dD rfl .h rfl (by kernel_rfl) (by kernel_rfl) ?_
 intro xI et
 refine ad <| aa <| ab <| aj ?_
 obtain ⟨bk, dA, hm⟩ := ob hm
 obtain ⟨dQ, fI, hm⟩ := ob hm
 refine aQ 6 [] (.n 28 (.u64 (bk ^^^ de)) (.n 29 (.v (.pointer (il (some ⟨g3, 0, none⟩) (13 : Int) 1))) (.ss (.kk (.s .a))))) (qV (et.iw 2 rfl bw v 0 (by kernel_rfl)) dA rfl (.u64 bk) rfl <| qs g1 0 <| qB et 0 rfl 1 (.u64 de) (by kernel_rfl) <| qI g3 0 fI <| qe) (by kernel_rfl) ?_
 refine ae ?_
 obtain ⟨v1, tn, hm⟩ := nm hm
 refine fC (E := bw) (kk := 0) [] 2 (.u64 (bk ^^^ de)) [.u64 (bk ^^^ de)] tn fI (Pt.p5 (Pt.at g3 0) (13 : Int) 1) et rfl .h rfl (by kernel_rfl) (by kernel_rfl) ?_
 intro rk eC
 refine ad <| aa <| k7 (fun L wr => ∃ (v2 : ag UInt64 16), jr node v2 = some r ∧ L = [(3, .b node), (8, pt g2 0), (9, pt g3 0)] ∧ Cx F O w wr [Bx 144 g2 [.ar bw (ag.rep 16 (0 : UInt64))], Bx 144 g3 [.ar bw v2]]) ?_ ?_
 ·
  refine ab <| aV [] (.n 30 (.b last) (.ss (.kk (.s .a)))) qe (by kernel_rfl) ?_
  refine aa <| bf last (by kernel_rfl) (fun rf => ?_) (fun rf => ?_)
  · rw [if_pos rf] at hm
    refine aj ?_
    obtain ⟨cY, ij, hm⟩ := ob hm
    obtain ⟨cC, jE, hm⟩ := ob hm
    refine aQ 4 [] (.n 33 (.u64 (18446744073709551615 ^^^ cY)) (.n 34 (.v (.pointer (il (some ⟨g3, 0, none⟩) (14 : Int) 1))) (.s .a))) (qV (eC.iw 2 rfl bw v1 0 (by kernel_rfl)) ij rfl (.u64 cY) rfl <| qI g3 0 jE <| qe) (by kernel_rfl) ?_
    refine ae ?_
    obtain ⟨v3, y3, hm⟩ := nm hm
    refine fC (E := bw) (kk := 0) [] 2 (.u64 (18446744073709551615 ^^^ cY)) [.u64 (18446744073709551615 ^^^ cY)] y3 jE (Pt.p5 (Pt.at g3 0) (14 : Int) 1) eC rfl .h rfl (by kernel_rfl) (by kernel_rfl) ?_
    intro uc eW
    refine ad ?_
    have fN := eW.ba (.s (.kk .z))
    exact gK ⟨v3, hm, rfl, fN⟩ (by kernel_rfl)
  rw [if_neg (by rw [rf]; decide)] at hm
  refine aL ?_
  have iW := eC.ba (.s (.kk .z))
  exact gK ⟨v1, hm, rfl, iW⟩ (by kernel_rfl)
 rintro L_ wg ⟨v2, hm, rfl, fH⟩
 simp only [jr] at hm
 refine k7 (fun L wr => ∃ (v4 : ag UInt64 16), jq v4 = some r ∧ L = [(8, pt g2 0), (9, pt g3 0)] ∧ Cx F O w wr [Bx 144 g2 [.ar bw (ag.rep 16 (0 : UInt64))], Bx 144 g3 [.ar bw v4]]) ?_ ?_
 ·
  refine ab <| aV [] (.n 35 (.b node) (.s .a)) qe (by kernel_rfl) ?_
  refine aa <| bf node (by kernel_rfl) (fun tQ => ?_) (fun tQ => ?_)
  · rw [if_pos tQ] at hm
    refine aj ?_
    obtain ⟨gq, nt, hm⟩ := ob hm
    obtain ⟨gd, nu, hm⟩ := ob hm
    refine aQ 4 [] (.n 38 (.u64 (18446744073709551615 ^^^ gq)) (.n 39 (.v (.pointer (il (some ⟨g3, 0, none⟩) (15 : Int) 1))) (.s .a))) (qV (fH.iw 1 rfl bw v2 0 (by kernel_rfl)) nt rfl (.u64 gq) rfl <| qI g3 0 nu <| qe) (by kernel_rfl) ?_
    refine ae ?_
    obtain ⟨v5, y4, hm⟩ := nm hm
    refine fC (E := bw) (kk := 0) [] 1 (.u64 (18446744073709551615 ^^^ gq)) [.u64 (18446744073709551615 ^^^ gq)] y4 nu (Pt.p5 (Pt.at g3 0) (15 : Int) 1) fH rfl .h rfl (by kernel_rfl) (by kernel_rfl) ?_
    intro yZ gA
    refine ad ?_
    exact gK ⟨v5, hm, rfl, gA⟩ (by kernel_rfl)
  rw [if_neg (by rw [tQ]; decide)] at hm
  refine aL ?_
  exact gK ⟨v2, hm, rfl, fH⟩ (by kernel_rfl)
 rintro L_ CL ⟨v4, hm, rfl, iA⟩
 simp only [jq] at hm
 refine ab <| aj <| aQ 1 [] (.n 40 (.agg [.ar bw v4]) (.k .z)) (qT iA 1 rfl 0 16 [.ar bw v4] (by kernel_rfl) (by decide) <| qe) (by kernel_rfl) ?_
 refine ae <| cE [] 0 (.agg [.ar bw v4]) [.ar bw v4] (Pt.at g2 0) iA rfl .all (by kernel_rfl) (by kernel_rfl) ?_
 intro CM jL
 have iv := jL.ba (.k .z)
 refine ad <| aa <| aG ?_
 obtain rfl := Option.some.inj hm
 refine aH [.agg [.ar bw v4]] (qo (.agg [.ar bw v4]) <| qc (fun w => Rd w (some ⟨g2, 0, none⟩) (SV.cl [.ar bw v4])) (iv.pV 0 rfl) <| qe) (by kernel_rfl) ?_
 have iX := iv.ba .z
 exact ⟨rfl, iX⟩
theorem qm {F O : Nat → Prop} {w : World} (round : Int) (k : Cx F O w w []) (r : (ag Int 16)) (hm : js round = some r) :
    Calls Try.prog 81 (ak [I round]) w (fun e w' => e = .returned (SV.val (.agg [.ar eI r])) ∧ Cx F O w w' []) := by
 unfold js at hm
 refine calls [I round] Try.func81 rfl (of_decide_eq_true (by kernel_rfl)) ?_
 refine ab <| aj <| ae <| aU [] 2 [.ar eI (ag.rep 16 (0 : Int))] (by kernel_rfl) k ?_
 intro g w_ k_
 refine ad <| aa <| ab <| aj <| aQ 11 [] (.n 14 (.agg [.ar (eV eI 16) (⟨[(⟨[(0 : Int), (1 : Int), (2 : Int), (3 : Int), (4 : Int), (5 : Int), (6 : Int), (7 : Int), (8 : Int), (9 : Int), (10 : Int), (11 : Int), (12 : Int), (13 : Int), (14 : Int), (15 : Int)], rfl⟩ : ag Int 16), (⟨[(14 : Int), (10 : Int), (4 : Int), (8 : Int), (9 : Int), (15 : Int), (13 : Int), (6 : Int), (1 : Int), (12 : Int), (0 : Int), (2 : Int), (11 : Int), (7 : Int), (5 : Int), (3 : Int)], rfl⟩ : ag Int 16), (⟨[(11 : Int), (8 : Int), (12 : Int), (0 : Int), (5 : Int), (2 : Int), (15 : Int), (13 : Int), (10 : Int), (14 : Int), (3 : Int), (6 : Int), (7 : Int), (1 : Int), (9 : Int), (4 : Int)], rfl⟩ : ag Int 16), (⟨[(7 : Int), (9 : Int), (3 : Int), (1 : Int), (13 : Int), (12 : Int), (11 : Int), (14 : Int), (2 : Int), (6 : Int), (5 : Int), (10 : Int), (4 : Int), (0 : Int), (15 : Int), (8 : Int)], rfl⟩ : ag Int 16), (⟨[(9 : Int), (0 : Int), (5 : Int), (7 : Int), (2 : Int), (4 : Int), (10 : Int), (15 : Int), (14 : Int), (1 : Int), (11 : Int), (12 : Int), (6 : Int), (8 : Int), (3 : Int), (13 : Int)], rfl⟩ : ag Int 16), (⟨[(2 : Int), (12 : Int), (6 : Int), (10 : Int), (0 : Int), (11 : Int), (8 : Int), (3 : Int), (4 : Int), (13 : Int), (7 : Int), (5 : Int), (15 : Int), (14 : Int), (1 : Int), (9 : Int)], rfl⟩ : ag Int 16), (⟨[(12 : Int), (5 : Int), (1 : Int), (15 : Int), (14 : Int), (13 : Int), (4 : Int), (10 : Int), (0 : Int), (7 : Int), (6 : Int), (3 : Int), (9 : Int), (2 : Int), (8 : Int), (11 : Int)], rfl⟩ : ag Int 16), (⟨[(13 : Int), (11 : Int), (7 : Int), (14 : Int), (12 : Int), (1 : Int), (3 : Int), (9 : Int), (5 : Int), (0 : Int), (15 : Int), (4 : Int), (8 : Int), (6 : Int), (2 : Int), (10 : Int)], rfl⟩ : ag Int 16), (⟨[(6 : Int), (15 : Int), (14 : Int), (9 : Int), (11 : Int), (3 : Int), (0 : Int), (8 : Int), (12 : Int), (2 : Int), (13 : Int), (7 : Int), (1 : Int), (4 : Int), (10 : Int), (5 : Int)], rfl⟩ : ag Int 16), (⟨[(10 : Int), (2 : Int), (8 : Int), (4 : Int), (7 : Int), (6 : Int), (1 : Int), (5 : Int), (15 : Int), (11 : Int), (9 : Int), (14 : Int), (3 : Int), (12 : Int), (13 : Int), (0 : Int)], rfl⟩ : ag Int 16)], rfl⟩ : ag (ag Int 16) 10)]) .a) qe (by kernel_rfl) ?_
 refine ae <| aU [] 3 [.ar (eV eI 16) (ag.rep 10 (ag.rep 16 (0 : Int)))] (by kernel_rfl) k_ ?_
 intro g1 jh bN
 refine ae <| cE [] 1 (.agg [.ar (eV eI 16) (⟨[(⟨[(0 : Int), (1 : Int), (2 : Int), (3 : Int), (4 : Int), (5 : Int), (6 : Int), (7 : Int), (8 : Int), (9 : Int), (10 : Int), (11 : Int), (12 : Int), (13 : Int), (14 : Int), (15 : Int)], rfl⟩ : ag Int 16), (⟨[(14 : Int), (10 : Int), (4 : Int), (8 : Int), (9 : Int), (15 : Int), (13 : Int), (6 : Int), (1 : Int), (12 : Int), (0 : Int), (2 : Int), (11 : Int), (7 : Int), (5 : Int), (3 : Int)], rfl⟩ : ag Int 16), (⟨[(11 : Int), (8 : Int), (12 : Int), (0 : Int), (5 : Int), (2 : Int), (15 : Int), (13 : Int), (10 : Int), (14 : Int), (3 : Int), (6 : Int), (7 : Int), (1 : Int), (9 : Int), (4 : Int)], rfl⟩ : ag Int 16), (⟨[(7 : Int), (9 : Int), (3 : Int), (1 : Int), (13 : Int), (12 : Int), (11 : Int), (14 : Int), (2 : Int), (6 : Int), (5 : Int), (10 : Int), (4 : Int), (0 : Int), (15 : Int), (8 : Int)], rfl⟩ : ag Int 16), (⟨[(9 : Int), (0 : Int), (5 : Int), (7 : Int), (2 : Int), (4 : Int), (10 : Int), (15 : Int), (14 : Int), (1 : Int), (11 : Int), (12 : Int), (6 : Int), (8 : Int), (3 : Int), (13 : Int)], rfl⟩ : ag Int 16), (⟨[(2 : Int), (12 : Int), (6 : Int), (10 : Int), (0 : Int), (11 : Int), (8 : Int), (3 : Int), (4 : Int), (13 : Int), (7 : Int), (5 : Int), (15 : Int), (14 : Int), (1 : Int), (9 : Int)], rfl⟩ : ag Int 16), (⟨[(12 : Int), (5 : Int), (1 : Int), (15 : Int), (14 : Int), (13 : Int), (4 : Int), (10 : Int), (0 : Int), (7 : Int), (6 : Int), (3 : Int), (9 : Int), (2 : Int), (8 : Int), (11 : Int)], rfl⟩ : ag Int 16), (⟨[(13 : Int), (11 : Int), (7 : Int), (14 : Int), (12 : Int), (1 : Int), (3 : Int), (9 : Int), (5 : Int), (0 : Int), (15 : Int), (4 : Int), (8 : Int), (6 : Int), (2 : Int), (10 : Int)], rfl⟩ : ag Int 16), (⟨[(6 : Int), (15 : Int), (14 : Int), (9 : Int), (11 : Int), (3 : Int), (0 : Int), (8 : Int), (12 : Int), (2 : Int), (13 : Int), (7 : Int), (1 : Int), (4 : Int), (10 : Int), (5 : Int)], rfl⟩ : ag Int 16), (⟨[(10 : Int), (2 : Int), (8 : Int), (4 : Int), (7 : Int), (6 : Int), (1 : Int), (5 : Int), (15 : Int), (11 : Int), (9 : Int), (14 : Int), (3 : Int), (12 : Int), (13 : Int), (0 : Int)], rfl⟩ : ag Int 16)], rfl⟩ : ag (ag Int 16) 10)]) [.ar (eV eI 16) (⟨[(⟨[(0 : Int), (1 : Int), (2 : Int), (3 : Int), (4 : Int), (5 : Int), (6 : Int), (7 : Int), (8 : Int), (9 : Int), (10 : Int), (11 : Int), (12 : Int), (13 : Int), (14 : Int), (15 : Int)], rfl⟩ : ag Int 16), (⟨[(14 : Int), (10 : Int), (4 : Int), (8 : Int), (9 : Int), (15 : Int), (13 : Int), (6 : Int), (1 : Int), (12 : Int), (0 : Int), (2 : Int), (11 : Int), (7 : Int), (5 : Int), (3 : Int)], rfl⟩ : ag Int 16), (⟨[(11 : Int), (8 : Int), (12 : Int), (0 : Int), (5 : Int), (2 : Int), (15 : Int), (13 : Int), (10 : Int), (14 : Int), (3 : Int), (6 : Int), (7 : Int), (1 : Int), (9 : Int), (4 : Int)], rfl⟩ : ag Int 16), (⟨[(7 : Int), (9 : Int), (3 : Int), (1 : Int), (13 : Int), (12 : Int), (11 : Int), (14 : Int), (2 : Int), (6 : Int), (5 : Int), (10 : Int), (4 : Int), (0 : Int), (15 : Int), (8 : Int)], rfl⟩ : ag Int 16), (⟨[(9 : Int), (0 : Int), (5 : Int), (7 : Int), (2 : Int), (4 : Int), (10 : Int), (15 : Int), (14 : Int), (1 : Int), (11 : Int), (12 : Int), (6 : Int), (8 : Int), (3 : Int), (13 : Int)], rfl⟩ : ag Int 16), (⟨[(2 : Int), (12 : Int), (6 : Int), (10 : Int), (0 : Int), (11 : Int), (8 : Int), (3 : Int), (4 : Int), (13 : Int), (7 : Int), (5 : Int), (15 : Int), (14 : Int), (1 : Int), (9 : Int)], rfl⟩ : ag Int 16), (⟨[(12 : Int), (5 : Int), (1 : Int), (15 : Int), (14 : Int), (13 : Int), (4 : Int), (10 : Int), (0 : Int), (7 : Int), (6 : Int), (3 : Int), (9 : Int), (2 : Int), (8 : Int), (11 : Int)], rfl⟩ : ag Int 16), (⟨[(13 : Int), (11 : Int), (7 : Int), (14 : Int), (12 : Int), (1 : Int), (3 : Int), (9 : Int), (5 : Int), (0 : Int), (15 : Int), (4 : Int), (8 : Int), (6 : Int), (2 : Int), (10 : Int)], rfl⟩ : ag Int 16), (⟨[(6 : Int), (15 : Int), (14 : Int), (9 : Int), (11 : Int), (3 : Int), (0 : Int), (8 : Int), (12 : Int), (2 : Int), (13 : Int), (7 : Int), (1 : Int), (4 : Int), (10 : Int), (5 : Int)], rfl⟩ : ag Int 16), (⟨[(10 : Int), (2 : Int), (8 : Int), (4 : Int), (7 : Int), (6 : Int), (1 : Int), (5 : Int), (15 : Int), (11 : Int), (9 : Int), (14 : Int), (3 : Int), (12 : Int), (13 : Int), (0 : Int)], rfl⟩ : ag Int 16)], rfl⟩ : ag (ag Int 16) 10)] (Pt.at g1 0) bN rfl .all (by kernel_rfl) (by kernel_rfl) ?_
 intro kI cG
 refine ad <| aa <| ab <| aj ?_
 obtain ⟨av, lD, hm⟩ := ob hm
 refine aQ 6 [] (.n 20 (.agg [.ar eI av]) (.ss (.k .z))) (qp ((10 : Int) ≠ (0 : Int)) (by omega) <| qp ((10 : Int) ≠ (0 : Int)) (by omega) <| qI g1 0 lD <| qR [.ar eI av] (Rd.QK (cG.iw 1 rfl (eV eI 16) (⟨[(⟨[(0 : Int), (1 : Int), (2 : Int), (3 : Int), (4 : Int), (5 : Int), (6 : Int), (7 : Int), (8 : Int), (9 : Int), (10 : Int), (11 : Int), (12 : Int), (13 : Int), (14 : Int), (15 : Int)], rfl⟩ : ag Int 16), (⟨[(14 : Int), (10 : Int), (4 : Int), (8 : Int), (9 : Int), (15 : Int), (13 : Int), (6 : Int), (1 : Int), (12 : Int), (0 : Int), (2 : Int), (11 : Int), (7 : Int), (5 : Int), (3 : Int)], rfl⟩ : ag Int 16), (⟨[(11 : Int), (8 : Int), (12 : Int), (0 : Int), (5 : Int), (2 : Int), (15 : Int), (13 : Int), (10 : Int), (14 : Int), (3 : Int), (6 : Int), (7 : Int), (1 : Int), (9 : Int), (4 : Int)], rfl⟩ : ag Int 16), (⟨[(7 : Int), (9 : Int), (3 : Int), (1 : Int), (13 : Int), (12 : Int), (11 : Int), (14 : Int), (2 : Int), (6 : Int), (5 : Int), (10 : Int), (4 : Int), (0 : Int), (15 : Int), (8 : Int)], rfl⟩ : ag Int 16), (⟨[(9 : Int), (0 : Int), (5 : Int), (7 : Int), (2 : Int), (4 : Int), (10 : Int), (15 : Int), (14 : Int), (1 : Int), (11 : Int), (12 : Int), (6 : Int), (8 : Int), (3 : Int), (13 : Int)], rfl⟩ : ag Int 16), (⟨[(2 : Int), (12 : Int), (6 : Int), (10 : Int), (0 : Int), (11 : Int), (8 : Int), (3 : Int), (4 : Int), (13 : Int), (7 : Int), (5 : Int), (15 : Int), (14 : Int), (1 : Int), (9 : Int)], rfl⟩ : ag Int 16), (⟨[(12 : Int), (5 : Int), (1 : Int), (15 : Int), (14 : Int), (13 : Int), (4 : Int), (10 : Int), (0 : Int), (7 : Int), (6 : Int), (3 : Int), (9 : Int), (2 : Int), (8 : Int), (11 : Int)], rfl⟩ : ag Int 16), (⟨[(13 : Int), (11 : Int), (7 : Int), (14 : Int), (12 : Int), (1 : Int), (3 : Int), (9 : Int), (5 : Int), (0 : Int), (15 : Int), (4 : Int), (8 : Int), (6 : Int), (2 : Int), (10 : Int)], rfl⟩ : ag Int 16), (⟨[(6 : Int), (15 : Int), (14 : Int), (9 : Int), (11 : Int), (3 : Int), (0 : Int), (8 : Int), (12 : Int), (2 : Int), (13 : Int), (7 : Int), (1 : Int), (4 : Int), (10 : Int), (5 : Int)], rfl⟩ : ag Int 16), (⟨[(10 : Int), (2 : Int), (8 : Int), (4 : Int), (7 : Int), (6 : Int), (1 : Int), (5 : Int), (15 : Int), (11 : Int), (9 : Int), (14 : Int), (3 : Int), (12 : Int), (13 : Int), (0 : Int)], rfl⟩ : ag Int 16)], rfl⟩ : ag (ag Int 16) 10) 0 (by kernel_rfl)) lD (Pt.oZ (some ⟨g1, 0, none⟩) (Int.tmod (aA ((Int.tmod round 10) + 10)) 10) 16) (by decide)) <| qe) (by kernel_rfl) ?_
 refine ae <| cE [] 0 (.agg [.ar eI av]) [.ar eI av] (Pt.at g 0) cG rfl .all (by kernel_rfl) (by kernel_rfl) ?_
 intro mb cD
 have dm := cD.ba (.k .z)
 refine ad <| aa <| aG ?_
 obtain rfl := Option.some.inj hm
 refine aH [.agg [.ar eI av]] (qo (.agg [.ar eI av]) <| qc (fun w => Rd w (some ⟨g, 0, none⟩) (SV.cl [.ar eI av])) (dm.pV 0 rfl) <| qe) (by kernel_rfl) ?_
 have dx := dm.ba .z
 exact ⟨rfl, dx⟩
theorem uf {F O : Nat → Prop} {w : World} (k : Cx F O w w []) (r : (ag (ag Int 4) 8)) (hm : jY = some r) :
    Calls Try.prog 82 (ak []) w (fun e w' => e = .returned (SV.val (.agg [.ar (eV eI 4) r])) ∧ Cx F O w w' []) := by
 unfold jY at hm
 refine calls [] Try.func82 rfl (of_decide_eq_true (by kernel_rfl)) ?_
 refine ab <| aj <| ae <| aU [] 0 [.ar (eV eI 4) (ag.rep 8 (ag.rep 4 (0 : Int)))] (by kernel_rfl) k ?_
 intro g w_ k_
 refine ad <| aa <| ab <| aj <| aQ 9 [] (.n 9 (.agg [.ar (eV eI 4) (⟨[(⟨[(0 : Int), (4 : Int), (8 : Int), (12 : Int)], rfl⟩ : ag Int 4), (⟨[(1 : Int), (5 : Int), (9 : Int), (13 : Int)], rfl⟩ : ag Int 4), (⟨[(2 : Int), (6 : Int), (10 : Int), (14 : Int)], rfl⟩ : ag Int 4), (⟨[(3 : Int), (7 : Int), (11 : Int), (15 : Int)], rfl⟩ : ag Int 4), (⟨[(0 : Int), (5 : Int), (10 : Int), (15 : Int)], rfl⟩ : ag Int 4), (⟨[(1 : Int), (6 : Int), (11 : Int), (12 : Int)], rfl⟩ : ag Int 4), (⟨[(2 : Int), (7 : Int), (8 : Int), (13 : Int)], rfl⟩ : ag Int 4), (⟨[(3 : Int), (4 : Int), (9 : Int), (14 : Int)], rfl⟩ : ag Int 4)], rfl⟩ : ag (ag Int 4) 8)]) .a) qe (by kernel_rfl) ?_
 refine ae <| cE [] 0 (.agg [.ar (eV eI 4) (⟨[(⟨[(0 : Int), (4 : Int), (8 : Int), (12 : Int)], rfl⟩ : ag Int 4), (⟨[(1 : Int), (5 : Int), (9 : Int), (13 : Int)], rfl⟩ : ag Int 4), (⟨[(2 : Int), (6 : Int), (10 : Int), (14 : Int)], rfl⟩ : ag Int 4), (⟨[(3 : Int), (7 : Int), (11 : Int), (15 : Int)], rfl⟩ : ag Int 4), (⟨[(0 : Int), (5 : Int), (10 : Int), (15 : Int)], rfl⟩ : ag Int 4), (⟨[(1 : Int), (6 : Int), (11 : Int), (12 : Int)], rfl⟩ : ag Int 4), (⟨[(2 : Int), (7 : Int), (8 : Int), (13 : Int)], rfl⟩ : ag Int 4), (⟨[(3 : Int), (4 : Int), (9 : Int), (14 : Int)], rfl⟩ : ag Int 4)], rfl⟩ : ag (ag Int 4) 8)]) [.ar (eV eI 4) (⟨[(⟨[(0 : Int), (4 : Int), (8 : Int), (12 : Int)], rfl⟩ : ag Int 4), (⟨[(1 : Int), (5 : Int), (9 : Int), (13 : Int)], rfl⟩ : ag Int 4), (⟨[(2 : Int), (6 : Int), (10 : Int), (14 : Int)], rfl⟩ : ag Int 4), (⟨[(3 : Int), (7 : Int), (11 : Int), (15 : Int)], rfl⟩ : ag Int 4), (⟨[(0 : Int), (5 : Int), (10 : Int), (15 : Int)], rfl⟩ : ag Int 4), (⟨[(1 : Int), (6 : Int), (11 : Int), (12 : Int)], rfl⟩ : ag Int 4), (⟨[(2 : Int), (7 : Int), (8 : Int), (13 : Int)], rfl⟩ : ag Int 4), (⟨[(3 : Int), (4 : Int), (9 : Int), (14 : Int)], rfl⟩ : ag Int 4)], rfl⟩ : ag (ag Int 4) 8)] (Pt.at g 0) k_ rfl .all (by kernel_rfl) (by kernel_rfl) ?_
 intro jh bN
 refine ad <| aa <| aG ?_
 obtain rfl := Option.some.inj hm
 refine aH [.agg [.ar (eV eI 4) (⟨[(⟨[(0 : Int), (4 : Int), (8 : Int), (12 : Int)], rfl⟩ : ag Int 4), (⟨[(1 : Int), (5 : Int), (9 : Int), (13 : Int)], rfl⟩ : ag Int 4), (⟨[(2 : Int), (6 : Int), (10 : Int), (14 : Int)], rfl⟩ : ag Int 4), (⟨[(3 : Int), (7 : Int), (11 : Int), (15 : Int)], rfl⟩ : ag Int 4), (⟨[(0 : Int), (5 : Int), (10 : Int), (15 : Int)], rfl⟩ : ag Int 4), (⟨[(1 : Int), (6 : Int), (11 : Int), (12 : Int)], rfl⟩ : ag Int 4), (⟨[(2 : Int), (7 : Int), (8 : Int), (13 : Int)], rfl⟩ : ag Int 4), (⟨[(3 : Int), (4 : Int), (9 : Int), (14 : Int)], rfl⟩ : ag Int 4)], rfl⟩ : ag (ag Int 4) 8)]] (qo (.agg [.ar (eV eI 4) (⟨[(⟨[(0 : Int), (4 : Int), (8 : Int), (12 : Int)], rfl⟩ : ag Int 4), (⟨[(1 : Int), (5 : Int), (9 : Int), (13 : Int)], rfl⟩ : ag Int 4), (⟨[(2 : Int), (6 : Int), (10 : Int), (14 : Int)], rfl⟩ : ag Int 4), (⟨[(3 : Int), (7 : Int), (11 : Int), (15 : Int)], rfl⟩ : ag Int 4), (⟨[(0 : Int), (5 : Int), (10 : Int), (15 : Int)], rfl⟩ : ag Int 4), (⟨[(1 : Int), (6 : Int), (11 : Int), (12 : Int)], rfl⟩ : ag Int 4), (⟨[(2 : Int), (7 : Int), (8 : Int), (13 : Int)], rfl⟩ : ag Int 4), (⟨[(3 : Int), (4 : Int), (9 : Int), (14 : Int)], rfl⟩ : ag Int 4)], rfl⟩ : ag (ag Int 4) 8)]) <| qc (fun w => Rd w (some ⟨g, 0, none⟩) (SV.cl [.ar (eV eI 4) (⟨[(⟨[(0 : Int), (4 : Int), (8 : Int), (12 : Int)], rfl⟩ : ag Int 4), (⟨[(1 : Int), (5 : Int), (9 : Int), (13 : Int)], rfl⟩ : ag Int 4), (⟨[(2 : Int), (6 : Int), (10 : Int), (14 : Int)], rfl⟩ : ag Int 4), (⟨[(3 : Int), (7 : Int), (11 : Int), (15 : Int)], rfl⟩ : ag Int 4), (⟨[(0 : Int), (5 : Int), (10 : Int), (15 : Int)], rfl⟩ : ag Int 4), (⟨[(1 : Int), (6 : Int), (11 : Int), (12 : Int)], rfl⟩ : ag Int 4), (⟨[(2 : Int), (7 : Int), (8 : Int), (13 : Int)], rfl⟩ : ag Int 4), (⟨[(3 : Int), (4 : Int), (9 : Int), (14 : Int)], rfl⟩ : ag Int 4)], rfl⟩ : ag (ag Int 4) 8)])) (bN.pV 0 rfl) <| qe) (by kernel_rfl) ?_
 have cG := bN.ba .z
 exact ⟨rfl, cG⟩
theorem fV {F O : Nat → Prop} {w : World} (x_ : UInt64) (k_ : Int) (k : Cx F O w w []) (r : UInt64) (hm : bO x_ k_ = some r) :
    Calls Try.prog 86 (ak [.u64 x_, I k_]) w (fun e w' => e = .returned (SV.val (.u64 r)) ∧ Cx F O w w' []) := by
 unfold bO at hm
 refine calls [.u64 x_, I k_] Try.func86 rfl (of_decide_eq_true (by kernel_rfl)) ?_
 refine ab <| aV [] .a qe (by kernel_rfl) ?_
 refine aa <| ab <| aV [] (.n 5 (.u64 ((UInt64.ofInt k_) &&& 63)) (.k .z)) qe (by kernel_rfl) ?_
 refine aa <| ab <| aV [] (.n 4 (.u64 ((gl x_ (((UInt64.ofInt k_) &&& 63).toNat)) ||| (dz x_ (((64 : UInt64) - ((UInt64.ofInt k_) &&& 63)).toNat)))) .z) qe (by kernel_rfl) ?_
 refine aa <| aG ?_
 obtain rfl := Option.some.inj hm
 refine aH [.u64 ((gl x_ (((UInt64.ofInt k_) &&& 63).toNat)) ||| (dz x_ (((64 : UInt64) - ((UInt64.ofInt k_) &&& 63)).toNat)))] qe (by kernel_rfl) ?_
 exact ⟨rfl, k⟩
theorem xM {F O : Nat → Prop} {w : World} (v : ag UInt64 16) (p : ag Int 4) (x_ : UInt64) (y_ : UInt64) (bS : Nat) (k : Cx F O w w [Bx 144 bS [.ar bw v]]) (r : (ag UInt64 16)) (hm : j_ v p x_ y_ = some r) :
    Calls Try.prog 83 (ak [pt bS 0, .agg [.ar eI p], .u64 x_, .u64 y_]) w (fun e w' => e = .returned (SV.val (.dB [])) ∧ Cx F O w w' [Bx 144 bS [.ar bw r]]) := by
 unfold j_ at hm
 refine calls [pt bS 0, .agg [.ar eI p], .u64 x_, .u64 y_] Try.func83 rfl (of_decide_eq_true (by kernel_rfl)) ?_
 refine ab <| aj <| ae <| eg [] 5 (.agg [.ar eI p]) [.ar eI p] (by kernel_rfl) k ?_
 intro g w_ k_
 refine ad <| aa <| ab ?_
 obtain ⟨bk, dA, hm⟩ := ob hm
 obtain ⟨dQ, fI, hm⟩ := ob hm
 obtain ⟨cY, ij, hm⟩ := ob hm
 obtain ⟨cC, jE, hm⟩ := ob hm
 refine I_ aT (by kernel_rfl) (.n 8 (I bk) (.n 9 (I dQ) (.n 10 (I cY) (.n 11 (I cC) (.s (.k (.s .a))))))) (fun m => qV ((k_.drew m).iw 1 rfl eI p 0 (by kernel_rfl)) dA rfl (I bk) rfl <| qV ((k_.drew m).iw 1 rfl eI p 0 (by kernel_rfl)) fI rfl (I dQ) rfl <| qV ((k_.drew m).iw 1 rfl eI p 0 (by kernel_rfl)) ij rfl (I cY) rfl <| qV ((k_.drew m).iw 1 rfl eI p 0 (by kernel_rfl)) jE rfl (I cC) rfl <| qe) (by kernel_rfl) (fun m_ => ?_)
 have bN := k_.drew m_
 refine aa <| ab ?_
 have cG := bN.drew 1
 refine lJ aT (.q 0 0 (.q 1 0 (.q 2 0 (.q 3 0 (.q 4 0 (.q 5 0 (.q 6 0 (.q 7 0 (.q 8 0 (.q 9 0 (.q 10 0 (.q 11 0 (.q 12 0 (.q 13 0 (.q 14 0 (.op 15 .nil)))))))))))))))) [15] cG (.c (.s (.k .e)) .l) (by kernel_rfl) (fun _ => ?_)
 obtain ⟨gq, nt, hm⟩ := ob hm
 obtain ⟨gd, nu, hm⟩ := ob hm
 obtain ⟨kF, uO, hm⟩ := ob hm
 refine bo 15 0 [] (.n 32 (.u64 (gq + (gd + x_))) (.n 34 (.v (.pointer (il (some ⟨bS, 0, none⟩) bk 1))) (.bb (.k (.s .a))))) (fun x hx => qs bS 0 <| qV (hx.iw 0 rfl bw v 0 (by kernel_rfl)) nt rfl (.u64 gq) rfl <| qs bS 0 <| qV (hx.iw 0 rfl bw v 0 (by kernel_rfl)) nu rfl (.u64 gd) rfl <| qs bS 0 <| qI bS 0 uO <| qe) (by kernel_rfl) (fun _ => ?_)
 refine bl (by kernel_rfl) rfl ?_
 obtain ⟨v1, tn, hm⟩ := nm hm
 refine fC (E := bw) (kk := 0) [] 0 (.u64 (gq + (gd + x_))) [.u64 (gq + (gd + x_))] tn uO (Pt.p5 (Pt.at bS 0) bk 1) cG rfl .h rfl (by kernel_rfl) (by kernel_rfl) ?_
 intro jh cD
 refine ⟨(cD.ba (.s (.k .e))), fun _ => ?_⟩
 refine bC <| aa <| ab ?_
 have dm := cD.drew 1
 refine lJ aT (.q 0 1 (.q 1 1 (.q 2 1 (.q 3 1 (.q 4 1 (.q 5 1 (.q 6 0 (.q 7 1 (.q 8 1 (.q 9 1 (.q 10 1 (.q 11 0 (.q 12 0 (.q 14 1 (.op 13 (.q 15 1 (.op 16 .nil))))))))))))))))) [13, 16] dm (.c (.kk .e) (.c (.s (.k .e)) .l)) (by kernel_rfl) (fun _ => ?_)
 obtain ⟨lb, rN, hm⟩ := ob hm
 refine bo 6 1 [] (.n 35 (pt bS 0) (.n 36 (I cC) (.n 40 (.v (.pointer (il (some ⟨bS, 0, none⟩) cC 1))) (.ss .a)))) (fun x hx => qs bS 0 <| qI bS 0 rN <| qe) (by kernel_rfl) (fun _ => ?_)
 refine bo 1 0 [] (.n 41 (.u64 lb) (.kk (.s .a))) (fun x hx => qC (.u64 lb) (Rd.el (k := 0) (hx.iw 0 rfl bw v1 0 (by kernel_rfl)) rN (Pt.oZ (some ⟨bS, 0, none⟩) cC 1) rfl) <| qe) (by kernel_rfl) (fun _ => ?_)
 obtain ⟨eM, pG, hm⟩ := ob hm
 refine bo 4 1 [] (.n 45 (.v (.pointer (il (some ⟨bS, 0, none⟩) bk 1))) .a) (fun x hx => qs bS 0 <| qI bS 0 pG <| qe) (by kernel_rfl) (fun _ => ?_)
 refine bo 2 0 [] (.n 47 (.u64 (lb ^^^ eM)) (.ss .a)) (fun x hx => qC (.u64 eM) (Rd.el (k := 0) (hx.iw 0 rfl bw v1 0 (by kernel_rfl)) pG (Pt.oZ (some ⟨bS, 0, none⟩) bk 1) rfl) <| qe) (by kernel_rfl) (fun _ => ?_)
 refine bo 1 1 [] (.n 49 (pt bS 0) (.k (.s .a))) (fun x hx => qs bS 0 <| qe) (by kernel_rfl) (fun _ => ?_)
 refine bl (by kernel_rfl) rfl ?_
 obtain ⟨r_, cc, hm⟩ := ob hm
 refine ax [] 48 _ sk (by kernel_rfl) (fV (F := N0) (O := N0) _ _ (Cx.refl _) _ cc) ?_
 rintro e_ kI ⟨rfl, dx⟩
 have dV := dm.call dx
 refine ⟨.u64 r_, rfl, ?_⟩
 refine ⟨dV, fun _ => ?_⟩
 obtain ⟨bX, tp, hm⟩ := ob hm
 refine bo 1 1 [] (.n 50 (.v (.pointer (il (some ⟨bS, 0, none⟩) cC 1))) (.k (.ib .a))) (fun x hx => qI bS 0 tp <| qe) (by kernel_rfl) (fun _ => ?_)
 refine bl (by kernel_rfl) rfl ?_
 obtain ⟨v2, HL, hm⟩ := nm hm
 refine fC (E := bw) (kk := 0) [] 0 (.u64 r_) [.u64 r_] HL tp (Pt.p5 (Pt.at bS 0) cC 1) dV rfl .h rfl (by kernel_rfl) (by kernel_rfl) ?_
 intro mb ed
 refine ⟨(ed.ba (.s (.k .e))), fun _ => ?_⟩
 refine bC <| aa <| ab ?_
 have eo := ed.drew 1
 refine lJ aT (.q 0 0 (.q 1 0 (.q 2 0 (.q 3 0 (.q 4 0 (.q 5 0 (.q 6 0 (.q 7 0 (.q 8 0 (.q 9 0 (.q 10 0 (.q 11 0 (.q 12 0 (.op 13 .nil)))))))))))))) [13] eo (.c (.s (.k .e)) .l) (by kernel_rfl) (fun _ => ?_)
 obtain ⟨pr, wq, hm⟩ := ob hm
 obtain ⟨rU, wu, hm⟩ := ob hm
 obtain ⟨tX, wv, hm⟩ := ob hm
 refine bo 13 0 [] (.n 61 (.u64 (pr + rU)) (.n 63 (.v (.pointer (il (some ⟨bS, 0, none⟩) cY 1))) (.ss .a))) (fun x hx => qs bS 0 <| qV (hx.iw 0 rfl bw v2 0 (by kernel_rfl)) wq rfl (.u64 pr) rfl <| qs bS 0 <| qV (hx.iw 0 rfl bw v2 0 (by kernel_rfl)) wu rfl (.u64 rU) rfl <| qs bS 0 <| qI bS 0 wv <| qe) (by kernel_rfl) (fun _ => ?_)
 refine bl (by kernel_rfl) rfl ?_
 have eU := eo.ba (.kk .e)
 obtain ⟨v3, y3, hm⟩ := nm hm
 refine fC (E := bw) (kk := 0) [] 0 (.u64 (pr + rU)) [.u64 (pr + rU)] y3 wv (Pt.p5 (Pt.at bS 0) cY 1) eU rfl .h rfl (by kernel_rfl) (by kernel_rfl) ?_
 intro mc bH
 refine ⟨(bH.ba (.s (.k .e))), fun _ => ?_⟩
 refine bC <| aa <| ab ?_
 have bD := bH.drew 1
 refine lJ aT (.q 0 1 (.q 1 1 (.q 2 1 (.q 3 1 (.q 4 1 (.q 5 1 (.q 6 0 (.q 7 1 (.q 8 1 (.q 9 1 (.q 10 1 (.q 11 0 (.q 12 0 (.q 14 1 (.op 13 (.q 15 1 (.op 16 .nil))))))))))))))))) [13, 16] bD (.c (.kk .e) (.c (.s (.k .e)) .l)) (by kernel_rfl) (fun _ => ?_)
 obtain ⟨oS, wx, hm⟩ := ob hm
 refine bo 6 1 [] (.n 64 (pt bS 0) (.n 65 (I dQ) (.n 69 (.v (.pointer (il (some ⟨bS, 0, none⟩) dQ 1))) (.ss .a)))) (fun x hx => qs bS 0 <| qI bS 0 wx <| qe) (by kernel_rfl) (fun _ => ?_)
 refine bo 1 0 [] (.n 70 (.u64 oS) (.kk (.s .a))) (fun x hx => qC (.u64 oS) (Rd.el (k := 0) (hx.iw 0 rfl bw v3 0 (by kernel_rfl)) wx (Pt.oZ (some ⟨bS, 0, none⟩) dQ 1) rfl) <| qe) (by kernel_rfl) (fun _ => ?_)
 obtain ⟨tY, tq, hm⟩ := ob hm
 refine bo 4 1 [] (.n 74 (.v (.pointer (il (some ⟨bS, 0, none⟩) cY 1))) .a) (fun x hx => qs bS 0 <| qI bS 0 tq <| qe) (by kernel_rfl) (fun _ => ?_)
 refine bo 2 0 [] (.n 76 (.u64 (oS ^^^ tY)) (.ss .a)) (fun x hx => qC (.u64 tY) (Rd.el (k := 0) (hx.iw 0 rfl bw v3 0 (by kernel_rfl)) tq (Pt.oZ (some ⟨bS, 0, none⟩) cY 1) rfl) <| qe) (by kernel_rfl) (fun _ => ?_)
 refine bo 1 1 [] (.n 78 (pt bS 0) (.k (.s .a))) (fun x hx => qs bS 0 <| qe) (by kernel_rfl) (fun _ => ?_)
 refine bl (by kernel_rfl) rfl ?_
 obtain ⟨aE, cB, hm⟩ := ob hm
 refine ax [] 77 _ sk (by kernel_rfl) (fV (F := N0) (O := N0) _ _ (Cx.refl _) _ cB) ?_
 rintro e_ oH ⟨rfl, cS⟩
 have dk := bD.call cS
 refine ⟨.u64 aE, rfl, ?_⟩
 refine ⟨dk, fun _ => ?_⟩
 obtain ⟨vQ, tr, hm⟩ := ob hm
 refine bo 1 1 [] (.n 79 (.v (.pointer (il (some ⟨bS, 0, none⟩) dQ 1))) (.k (.ib .a))) (fun x hx => qI bS 0 tr <| qe) (by kernel_rfl) (fun _ => ?_)
 refine bl (by kernel_rfl) rfl ?_
 obtain ⟨v4, HM, hm⟩ := nm hm
 refine fC (E := bw) (kk := 0) [] 0 (.u64 aE) [.u64 aE] HM tr (Pt.p5 (Pt.at bS 0) dQ 1) dk rfl .h rfl (by kernel_rfl) (by kernel_rfl) ?_
 intro qD dD
 refine ⟨(dD.ba (.s (.k .e))), fun _ => ?_⟩
 refine bC <| aa <| ab ?_
 have et := dD.drew 1
 refine lJ aT (.q 0 0 (.q 1 0 (.q 2 0 (.q 3 0 (.q 4 0 (.q 5 0 (.q 6 0 (.q 7 0 (.q 8 0 (.q 9 0 (.q 10 0 (.q 11 0 (.q 12 0 (.q 13 0 (.q 14 0 (.op 15 .nil)))))))))))))))) [15] et (.c (.s (.k .e)) .l) (by kernel_rfl) (fun _ => ?_)
 obtain ⟨oT, wy, hm⟩ := ob hm
 obtain ⟨qa, wz, hm⟩ := ob hm
 obtain ⟨tc, wA, hm⟩ := ob hm
 refine bo 15 0 [] (.n 92 (.u64 (oT + (qa + y_))) (.n 94 (.v (.pointer (il (some ⟨bS, 0, none⟩) bk 1))) (.ss (.bb (.k .z))))) (fun x hx => qs bS 0 <| qV (hx.iw 0 rfl bw v4 0 (by kernel_rfl)) wy rfl (.u64 oT) rfl <| qs bS 0 <| qV (hx.iw 0 rfl bw v4 0 (by kernel_rfl)) wz rfl (.u64 qa) rfl <| qs bS 0 <| qI bS 0 wA <| qe) (by kernel_rfl) (fun _ => ?_)
 refine bl (by kernel_rfl) rfl ?_
 obtain ⟨v5, y4, hm⟩ := nm hm
 refine fC (E := bw) (kk := 0) [] 0 (.u64 (oT + (qa + y_))) [.u64 (oT + (qa + y_))] y4 wA (Pt.p5 (Pt.at bS 0) bk 1) et rfl .h rfl (by kernel_rfl) (by kernel_rfl) ?_
 intro rL eC
 refine ⟨(eC.ba (.s (.k .e))), fun _ => ?_⟩
 refine bC <| aa <| ab ?_
 have eW := eC.drew 1
 refine lJ aT (.q 0 1 (.q 1 1 (.q 2 1 (.q 3 1 (.q 4 1 (.q 5 1 (.q 6 0 (.q 7 1 (.q 8 1 (.q 9 1 (.q 10 1 (.q 11 0 (.q 12 0 (.q 14 1 (.op 13 (.q 15 1 (.op 16 .nil))))))))))))))))) [13, 16] eW (.c (.kk .e) (.c (.s (.k .e)) .l)) (by kernel_rfl) (fun _ => ?_)
 obtain ⟨oU, wB, hm⟩ := ob hm
 refine bo 6 1 [] (.n 95 (pt bS 0) (.n 96 (I cC) (.n 100 (.v (.pointer (il (some ⟨bS, 0, none⟩) cC 1))) (.ss .a)))) (fun x hx => qs bS 0 <| qI bS 0 wB <| qe) (by kernel_rfl) (fun _ => ?_)
 refine bo 1 0 [] (.n 101 (.u64 oU) (.kk (.s .a))) (fun x hx => qC (.u64 oU) (Rd.el (k := 0) (hx.iw 0 rfl bw v5 0 (by kernel_rfl)) wB (Pt.oZ (some ⟨bS, 0, none⟩) cC 1) rfl) <| qe) (by kernel_rfl) (fun _ => ?_)
 obtain ⟨tZ, ts, hm⟩ := ob hm
 refine bo 4 1 [] (.n 105 (.v (.pointer (il (some ⟨bS, 0, none⟩) bk 1))) (.nJ (.s .a))) (fun x hx => qs bS 0 <| qI bS 0 ts <| qe) (by kernel_rfl) (fun _ => ?_)
 refine bo 2 0 [] (.n 107 (.u64 (oU ^^^ tZ)) (.ss .a)) (fun x hx => qC (.u64 tZ) (Rd.el (k := 0) (hx.iw 0 rfl bw v5 0 (by kernel_rfl)) ts (Pt.oZ (some ⟨bS, 0, none⟩) bk 1) rfl) <| qe) (by kernel_rfl) (fun _ => ?_)
 refine bo 1 1 [] (.n 109 (pt bS 0) (.k (.s .a))) (fun x hx => qs bS 0 <| qe) (by kernel_rfl) (fun _ => ?_)
 refine bl (by kernel_rfl) rfl ?_
 have fN := eW.ba (.kk .e)
 obtain ⟨bz, gu, hm⟩ := ob hm
 refine ax [] 108 _ sk (by kernel_rfl) (fV (F := N0) (O := N0) _ _ (Cx.refl _) _ gu) ?_
 rintro e_ uL ⟨rfl, iW⟩
 have fH := fN.call iW
 refine ⟨.u64 bz, rfl, ?_⟩
 refine ⟨fH, fun _ => ?_⟩
 obtain ⟨vR, tt, hm⟩ := ob hm
 refine bo 1 1 [] (.n 110 (.v (.pointer (il (some ⟨bS, 0, none⟩) cC 1))) (.k (.ib .a))) (fun x hx => qI bS 0 tt <| qe) (by kernel_rfl) (fun _ => ?_)
 refine bl (by kernel_rfl) rfl ?_
 obtain ⟨v6, HN, hm⟩ := nm hm
 refine fC (E := bw) (kk := 0) [] 0 (.u64 bz) [.u64 bz] HN tt (Pt.p5 (Pt.at bS 0) cC 1) fH rfl .h rfl (by kernel_rfl) (by kernel_rfl) ?_
 intro xI gA
 refine ⟨(gA.ba (.s (.k .e))), fun _ => ?_⟩
 refine bC <| aa <| ab ?_
 have iA := gA.drew 1
 refine lJ aT (.q 0 0 (.q 1 0 (.q 2 0 (.q 3 0 (.q 4 0 (.q 5 0 (.q 6 0 (.q 7 0 (.q 8 0 (.q 9 0 (.q 10 0 (.q 11 0 (.q 12 0 (.op 13 .nil)))))))))))))) [13] iA (.c (.s (.k .e)) .l) (by kernel_rfl) (fun _ => ?_)
 obtain ⟨pv, wC, hm⟩ := ob hm
 obtain ⟨rV, wD, hm⟩ := ob hm
 obtain ⟨Hu, CN, hm⟩ := ob hm
 refine bo 13 0 [] (.n 121 (.u64 (pv + rV)) (.n 123 (.v (.pointer (il (some ⟨bS, 0, none⟩) cY 1))) (.ss (.kk (.s .a))))) (fun x hx => qs bS 0 <| qV (hx.iw 0 rfl bw v6 0 (by kernel_rfl)) wC rfl (.u64 pv) rfl <| qs bS 0 <| qV (hx.iw 0 rfl bw v6 0 (by kernel_rfl)) wD rfl (.u64 rV) rfl <| qs bS 0 <| qI bS 0 CN <| qe) (by kernel_rfl) (fun _ => ?_)
 refine bl (by kernel_rfl) rfl ?_
 obtain ⟨v7, HO, hm⟩ := nm hm
 refine fC (E := bw) (kk := 0) [] 0 (.u64 (pv + rV)) [.u64 (pv + rV)] HO CN (Pt.p5 (Pt.at bS 0) cY 1) iA rfl .h rfl (by kernel_rfl) (by kernel_rfl) ?_
 intro rk jL
 refine ⟨(jL.ba (.s (.k .e))), fun _ => ?_⟩
 refine bC <| aa ?_
 have iv := jL.drew 1
 refine lJ aT (.q 0 1 (.q 1 1 (.q 2 1 (.q 3 1 (.q 4 1 (.q 5 1 (.q 6 0 (.q 7 1 (.q 8 1 (.q 9 1 (.q 10 1 (.q 11 0 (.q 12 0 (.q 14 1 (.op 13 (.q 15 1 (.op 16 .nil))))))))))))))))) [13, 16] iv (.c (.kk .e) (.c (.s (.k .e)) .l)) (by kernel_rfl) (fun _ => ?_)
 obtain ⟨CB, CO, hm⟩ := ob hm
 refine bo 6 1 [] (.n 124 (pt bS 0) (.n 125 (I dQ) (.n 129 (.v (.pointer (il (some ⟨bS, 0, none⟩) dQ 1))) (.ib .a)))) (fun x hx => qs bS 0 <| qI bS 0 CO <| qe) (by kernel_rfl) (fun _ => ?_)
 refine bo 1 0 [] (.n 130 (.u64 CB) (.kk (.s .a))) (fun x hx => qC (.u64 CB) (Rd.el (k := 0) (hx.iw 0 rfl bw v7 0 (by kernel_rfl)) CO (Pt.oZ (some ⟨bS, 0, none⟩) dQ 1) rfl) <| qe) (by kernel_rfl) (fun _ => ?_)
 obtain ⟨Ew, CP, hm⟩ := ob hm
 refine bo 4 1 [] (.n 134 (.v (.pointer (il (some ⟨bS, 0, none⟩) cY 1))) (.nJ .z)) (fun x hx => qs bS 0 <| qI bS 0 CP <| qe) (by kernel_rfl) (fun _ => ?_)
 refine bo 2 0 [] (.n 136 (.u64 (CB ^^^ Ew)) (.ss .a)) (fun x hx => qC (.u64 Ew) (Rd.el (k := 0) (hx.iw 0 rfl bw v7 0 (by kernel_rfl)) CP (Pt.oZ (some ⟨bS, 0, none⟩) cY 1) rfl) <| qe) (by kernel_rfl) (fun _ => ?_)
 refine bo 1 1 [] (.n 138 (pt bS 0) (.k (.s .a))) (fun x hx => qs bS 0 <| qe) (by kernel_rfl) (fun _ => ?_)
 refine bl (by kernel_rfl) rfl ?_
 obtain ⟨dy, kz, hm⟩ := ob hm
 refine ax [] 137 _ sk (by kernel_rfl) (fV (F := N0) (O := N0) _ _ (Cx.refl _) _ kz) ?_
 rintro e_ uc ⟨rfl, iX⟩
 have jM := iv.call iX
 refine ⟨.u64 dy, rfl, ?_⟩
 refine ⟨jM, fun _ => ?_⟩
 obtain ⟨MJ, CQ, hm⟩ := ob hm
 refine bo 1 1 [] (.n 139 (.v (.pointer (il (some ⟨bS, 0, none⟩) dQ 1))) (.k .z)) (fun x hx => qI bS 0 CQ <| qe) (by kernel_rfl) (fun _ => ?_)
 refine bl (by kernel_rfl) rfl ?_
 have lM := jM.ba (.kk .e)
 obtain ⟨v8, HQ, hm⟩ := nm hm
 refine fC (E := bw) (kk := 0) [] 0 (.u64 dy) [.u64 dy] HQ CQ (Pt.p5 (Pt.at bS 0) dQ 1) lM rfl .h rfl (by kernel_rfl) (by kernel_rfl) ?_
 intro wg je
 refine ⟨(je.ba (.s (.k .e))), fun _ => ?_⟩
 refine bC ?_
 obtain rfl := Option.some.inj hm
 refine nk [] qe (by kernel_rfl) ?_
 have l8 := je.ba (.k .z)
 exact ⟨rfl, l8⟩
theorem xN {F O : Nat → Prop} {w : World} (v : ag UInt64 16) (m_ : ag UInt64 16) (round : Int) (bS : Nat) (ug : Nat) (k : Cx F O w w [Bx 144 bS [.ar bw v], Bx 144 ug [.ar bw m_]]) (r : (ag UInt64 16 × ag UInt64 16)) (hm : ka v m_ round = some r) :
    Calls Try.prog 76 (ak [pt bS 0, pt ug 0, I round]) w (fun e w' => e = .returned (SV.val (.dB [])) ∧ Cx F O w w' [Bx 144 bS [.ar bw r.1], Bx 144 ug [.ar bw r.2]]) := by
 unfold ka at hm
 refine calls [pt bS 0, pt ug 0, I round] Try.func76 rfl (of_decide_eq_true (by kernel_rfl)) ?_
 refine ab <| aj <| aQ 1 [] (.n 9 (I round) (.kk .z)) qe (by kernel_rfl) ?_
 refine ae ?_
 obtain ⟨r_, cc, hm⟩ := ob hm
 refine ax [] 10 _ zZ (by kernel_rfl) (qm (F := N0) (O := N0) _ (Cx.refl _) _ cc) ?_
 rintro e_ w_ ⟨rfl, k_⟩
 have bN := k.call k_
 refine ⟨.agg [.ar eI r_], rfl, ?_⟩
 refine ae <| aU [] 6 [.ar eI (ag.rep 16 (0 : Int))] (by kernel_rfl) bN ?_
 intro g jh cG
 refine ae <| cE [] 2 (.agg [.ar eI r_]) [.ar eI r_] (Pt.at g 0) cG rfl .all (by kernel_rfl) (by kernel_rfl) ?_
 intro kI cD
 refine ad <| aa <| ab <| aj <| ae ?_
 obtain ⟨aE, cB, hm⟩ := ob hm
 refine ax [] 11 _ E5 (by kernel_rfl) (uf (F := N0) (O := N0)  (Cx.refl _) _ cB) ?_
 rintro e_ mb ⟨rfl, dm⟩
 have dx := cD.call dm
 refine ⟨.agg [.ar (eV eI 4) aE], rfl, ?_⟩
 refine aQ 1 [] (.n 12 (I 0) (.kk (.ss .a))) qe (by kernel_rfl) ?_
 refine ad <| aa <| aI <| jQ (jt m_ r_ aE) (fun s L wr => ∃ (v1 : ag UInt64 16) (av : Int), (v1, av) = s ∧ L = [(0, pt bS 0), (1, pt ug 0), (6, pt g 0), (11, .agg [.ar (eV eI 4) aE]), (12, I av)] ∧ Cx F O w wr [Bx 144 bS [.ar bw v1], Bx 144 ug [.ar bw m_], Bx 168 g [.ar eI r_]]) (v, (0 : Int)) r hm ⟨v, (0 : Int), rfl, rfl, dx⟩ (by kernel_rfl) ?_
 intro rW L_ mc y0 ef bj jH
 obtain ⟨v1, av, rfl, rfl, dV⟩ := ef
 have hm := bj; simp only [jt] at hm
 clear bj
 refine ab <| aV [] (.n 13 (.b (decide (av < 8))) .a) qe (by kernel_rfl) ?_
 refine aa <| ab <| aN (av < 8) (by kernel_rfl) (fun hc => ?_) (fun hc => ?_)
 · rw [if_pos hc] at hm
   refine aL <| aa <| ab <| aI <| ab <| aj ?_
   obtain ⟨bk, dA, hm⟩ := ob hm
   refine aQ 2 [] (.n 14 (I av) (.n 15 (.agg [.ar eI bk]) (.s .a))) (qo (.agg [.ar eI bk]) <| qp ((0 ≤ av ∧ av < ((8 : Nat) : Int)) ∧ ((SV.cl [.ar (eV eI 4) aE]).drop (Int.toNat av * 4)).take 4 = SV.cl [.ar eI bk]) (B9 (E := eI) dA) <| qe) (by kernel_rfl) ?_
   refine ae <| aU [] 8 [.ar eI (ag.rep 4 (0 : Int))] (by kernel_rfl) dV ?_
   intro g1 oH ed
   refine aQ 1 [] (.n 7 (I av) (.k (.s .a))) qe (by kernel_rfl) ?_
   refine ae <| cE [] 3 (.agg [.ar eI bk]) [.ar eI bk] (Pt.at g1 0) ed rfl .all (by kernel_rfl) (by kernel_rfl) ?_
   intro qD eo
   refine ad <| aa ?_
   have eU := eo.drew 1
   refine lJ aT (.q 0 0 (.q 1 0 (.q 2 1 (.q 3 1 (.q 4 1 (.q 5 1 (.q 6 1 (.q 7 1 (.q 8 0 (.q 9 0 (.q 10 1 (.q 11 1 (.q 12 1 (.q 13 1 (.q 14 1 (.q 15 1 (.q 16 1 (.q 17 0 (.q 18 0 (.op 19 .nil)))))))))))))))))))) [19] eU (.c (.s (.kk (.k .e))) .l) (by kernel_rfl) (fun _ => ?_)
   refine bo 2 0 [] (.n 16 (pt bS 0) (.n 17 (.agg [.ar eI bk]) (.k (.ss .a)))) (fun x hx => qT hx 3 rfl 0 4 [.ar eI bk] (by kernel_rfl) (by decide) <| qe) (by kernel_rfl) (fun _ => ?_)
   obtain ⟨dQ, fI, hm⟩ := ob hm
   refine bo 6 1 [] (.n 22 (I dQ) (.n 23 (pt ug 0) .a)) (fun x hx => qV (hx.iw 1 rfl eI r_ 0 (by kernel_rfl)) fI rfl (I dQ) rfl <| qs ug 0 <| qe) (by kernel_rfl) (fun _ => ?_)
   obtain ⟨cY, ij, hm⟩ := ob hm
   refine bo 2 0 [] (.n 25 (.u64 cY) (.ss .a)) (fun x hx => qV (hx.iw 1 rfl bw m_ 0 (by kernel_rfl)) ij rfl (.u64 cY) rfl <| qe) (by kernel_rfl) (fun _ => ?_)
   obtain ⟨cC, jE, hm⟩ := ob hm
   refine bo 7 1 [] (.n 31 (I cC) (.n 32 (pt ug 0) (.nJ (.s .a)))) (fun x hx => qV (hx.iw 1 rfl eI r_ 0 (by kernel_rfl)) jE rfl (I cC) rfl <| qs ug 0 <| qe) (by kernel_rfl) (fun _ => ?_)
   obtain ⟨gq, nt, hm⟩ := ob hm
   refine bo 2 0 [] (.n 34 (.u64 gq) (.ss .a)) (fun x hx => qV (hx.iw 1 rfl bw m_ 0 (by kernel_rfl)) nt rfl (.u64 gq) rfl <| qe) (by kernel_rfl) (fun _ => ?_)
   refine bl (by kernel_rfl) rfl ?_
   obtain ⟨bz, gu, hm⟩ := ob hm
   obtain ⟨F1, O1, oV, hO, xK, hF, hb⟩ := eU.go (.i (.r (.r (.r .e))))
   refine ax [] 35 _ E6 (by kernel_rfl) (xM (F := F1) (O := O1) _ _ _ _ _ oV _ gu) ?_
   rintro e_ rL ⟨rfl, bH⟩
   have bD := hb rL _ _ bH (.c .n)
   refine ⟨.dB [], rfl, ?_⟩
   refine ⟨(bD.ba (.s (.kk (.k .e)))), fun _ => ?_⟩
   refine bC <| cu <| aa <| aV [] (.n 12 (I (aA (av + 1))) (.fi (.s (.bb .z)))) qe (by kernel_rfl) ?_
   have cS := bD.ba (.kk (.k .z))
   exact fO (bz, aA (av + 1)) (Option.some.inj hm).symm ⟨bz, aA (av + 1), rfl, rfl, cS⟩ (by kernel_rfl)
 rw [if_neg hc] at hm
 refine cA (bu (bu (dZ ?_)))
 have hm := bT hm jH
 obtain rfl := Option.some.inj hm
 refine nk [] qe (by kernel_rfl) ?_
 have dk := dV.ba (.kk .z)
 exact ⟨rfl, dk⟩
theorem CR {F O : Nat → Prop} {w : World} (h : ag UInt64 8) (m_ : ag UInt64 16) (dd : UInt64) (de : UInt64) (last : Bool) (node : Bool) (k : Cx F O w w []) (r : (ag UInt64 8)) (hm : nN h m_ dd de last node = some r) :
    Calls Try.prog 67 (ak [.agg [.ar bw h], .agg [.ar bw m_], .agg [.u64 dd, .u64 de], .b last, .b node]) w (fun e w' => e = .returned (SV.val (.agg [.ar bw r])) ∧ Cx F O w w' []) := by
 unfold nN at hm
 refine calls [.agg [.ar bw h], .agg [.ar bw m_], .agg [.u64 dd, .u64 de], .b last, .b node] Try.func67 rfl (of_decide_eq_true (by kernel_rfl)) ?_
 refine ab <| aj <| ae <| eg [] 5 (.agg [.ar bw h]) [.ar bw h] (by kernel_rfl) k ?_
 intro g w_ k_
 refine ae <| eg [] 6 (.agg [.ar bw m_]) [.ar bw m_] (by kernel_rfl) k_ ?_
 intro g1 jh bN
 refine ae <| eg [] 7 (.agg [.u64 dd, .u64 de]) [.u64 dd, .u64 de] (by kernel_rfl) bN ?_
 intro g2 kI cG
 refine ae <| aU [] 10 [.ar bw (ag.rep 8 (0 : UInt64))] (by kernel_rfl) cG ?_
 intro g3 mb cD
 refine ad <| aa <| ab <| aj <| aQ 4 [] (.n 14 (.agg [.ar bw h]) (.n 15 (.agg [.u64 dd, .u64 de]) (.n 16 (.b last) (.n 17 (.b node) (.k (.s (.kk .z))))))) (qT cD 0 rfl 0 8 [.ar bw h] (by kernel_rfl) (by decide) <| qT cD 2 rfl 0 2 [.u64 dd, .u64 de] (by kernel_rfl) (by decide) <| qe) (by kernel_rfl) ?_
 refine ae ?_
 have dm := cD.ba (.bb .e)
 obtain ⟨r_, cc, hm⟩ := ob hm
 refine ax [] 18 _ EZ (by kernel_rfl) (xL (F := N0) (O := N0) _ _ _ _ _ (Cx.refl _) _ cc) ?_
 rintro e_ mc ⟨rfl, dx⟩
 have dV := dm.call dx
 refine ⟨.agg [.ar bw r_], rfl, ?_⟩
 have ed := dV.ba (.kk (.s (.k .e)))
 refine ae <| aU [] 11 [.ar bw (ag.rep 16 (0 : UInt64))] (by kernel_rfl) ed ?_
 intro g4 oH eo
 refine ae <| cE [] 3 (.agg [.ar bw r_]) [.ar bw r_] (Pt.at g4 0) eo rfl .all (by kernel_rfl) (by kernel_rfl) ?_
 intro qD eU
 refine ad <| aa <| ab <| ab <| aV [] (.n 19 (I 0) (.k (.fi (.s .a)))) qe (by kernel_rfl) ?_
 refine aa <| aI <| jQ (ke h) (fun s L wr => ∃ (nq : ag UInt64 16) (v : ag UInt64 16) (av : Int), (nq, v, av) = s ∧ L = [(5, pt g 0), (6, pt g1 0), (10, pt g3 0), (11, pt g4 0), (19, I av)] ∧ Cx F O w wr [Bx 123 g [.ar bw h], Bx 144 g1 [.ar bw nq], Bx 123 g3 [.ar bw (ag.rep 8 (0 : UInt64))], Bx 144 g4 [.ar bw v]]) (m_, r_, (0 : Int)) r hm ⟨m_, r_, (0 : Int), rfl, rfl, eU⟩ (by kernel_rfl) ?_
 intro rW L_ rL y0 ef bj jH
 obtain ⟨nq, v, av, rfl, rfl, bH⟩ := ef
 have hm := bj; simp only [ke] at hm
 clear bj
 refine ab <| aV [] (.n 20 (.b (decide (av < 12))) .a) qe (by kernel_rfl) ?_
 refine aa <| ab <| aN (av < 12) (by kernel_rfl) (fun hc => ?_) (fun hc => ?_)
 · rw [if_pos hc] at hm
   refine aL <| aa <| ab <| aI <| ab <| aV [] (.n 12 (I av) (.s .a)) qe (by kernel_rfl) ?_
   refine aa <| aj <| aQ 1 [] (.n 22 (I av) (.s .a)) qe (by kernel_rfl) ?_
   refine ae ?_
   obtain ⟨aE, cB, hm⟩ := ob hm
   have bD := (((bH.pk (.t (.t .h))).pk (.t .h)).pk (.t (.t .h))).pk (.t (.t (.t .h)))
   obtain ⟨F1, O1, oV, hO, xK, hF, hb⟩ := bD.go (.i (.i (.r (.r .e))))
   refine ax [] 23 _ E0 (by kernel_rfl) (xN (F := F1) (O := O1) _ _ _ _ _ oV _ cB) ?_
   rintro e_ uL ⟨rfl, cS⟩
   have dk := hb uL _ _ cS (.c (.c .n))
   refine ⟨.dB [], rfl, ?_⟩
   refine ad <| cu <| aa <| aV [] (.n 19 (I (aA (av + 1))) (.ss (.bb .z))) qe (by kernel_rfl) ?_
   have dD := (((dk.pk .h).pk (.t (.t (.t .h)))).pk (.t (.t .h))).pk (.t (.t (.t .h)))
   exact fO (aE.2, aE.1, aA (av + 1)) (Option.some.inj hm).symm ⟨aE.2, aE.1, aA (av + 1), rfl, rfl, dD⟩ (by kernel_rfl)
 rw [if_neg hc] at hm
 refine cA (bu (bu (dZ ?_)))
 have hm := bT hm jH
 refine aa <| ab <| ab <| aV [] (.n 25 (I 0) (.s (.k (.s (.kk .z))))) qe (by kernel_rfl) ?_
 refine aa <| aI ?_
 have eC := bH.ba (.k (.s (.kk .e)))
 refine jQ (kd v) (fun s L wr => ∃ (h1 : ag UInt64 8) (ew : Int), (h1, ew) = s ∧ L = [(5, pt g 0), (10, pt g3 0), (11, pt g4 0), (25, I ew)] ∧ Cx F O w wr [Bx 123 g [.ar bw h1], Bx 123 g3 [.ar bw (ag.rep 8 (0 : UInt64))], Bx 144 g4 [.ar bw v]]) (h, (0 : Int)) r hm ⟨h, (0 : Int), rfl, rfl, eC⟩ (by kernel_rfl) ?_
 intro rW L_ xI y0 ef bj jH
 obtain ⟨h1, ew, rfl, rfl, et⟩ := ef
 have hm := bj; simp only [kd] at hm
 clear bj
 refine ab <| aV [] (.n 26 (.b (decide (ew < 8))) .a) qe (by kernel_rfl) ?_
 refine aa <| ab <| aN (ew < 8) (by kernel_rfl) (fun fZ => ?_) (fun fZ => ?_)
 · rw [if_pos fZ] at hm
   refine aL <| aa <| ab <| aI <| ab <| aV [] (.n 13 (I ew) (.s .a)) qe (by kernel_rfl) ?_
   refine aa ?_
   have eW := et.drew 1
   refine lJ aT (.q 0 0 (.q 1 0 (.q 2 0 (.q 3 0 (.q 4 0 (.q 5 0 (.q 6 0 (.q 7 0 (.q 8 0 (.q 9 0 (.q 10 0 (.q 11 0 (.q 12 0 (.op 13 .nil)))))))))))))) [13] eW (.c (.s (.kk .e)) .l) (by kernel_rfl) (fun _ => ?_)
   obtain ⟨bk, dA, hm⟩ := ob hm
   obtain ⟨dQ, fI, hm⟩ := ob hm
   obtain ⟨cY, ij, hm⟩ := ob hm
   obtain ⟨cC, jE, hm⟩ := ob hm
   refine bo 13 0 [] (.n 39 (.u64 (bk ^^^ (dQ ^^^ cY))) (.n 40 (.v (.pointer (il (some ⟨g, 0, none⟩) ew 1))) (.s .a))) (fun x hx => qV (hx.iw 0 rfl bw h1 0 (by kernel_rfl)) dA rfl (.u64 bk) rfl <| qV (hx.iw 2 rfl bw v 0 (by kernel_rfl)) fI rfl (.u64 dQ) rfl <| qV (hx.iw 2 rfl bw v 0 (by kernel_rfl)) ij rfl (.u64 cY) rfl <| qI g 0 jE <| qe) (by kernel_rfl) (fun _ => ?_)
   refine bl (by kernel_rfl) rfl ?_
   obtain ⟨v1, tn, hm⟩ := nm hm
   refine fC (E := bw) (kk := 0) [] 0 (.u64 (bk ^^^ (dQ ^^^ cY))) [.u64 (bk ^^^ (dQ ^^^ cY))] tn jE (Pt.p5 (Pt.at g 0) ew 1) eW rfl .h rfl (by kernel_rfl) (by kernel_rfl) ?_
   intro rk fN
   refine ⟨(fN.ba (.s (.kk .e))), fun _ => ?_⟩
   refine bC <| cu <| aa <| aV [] (.n 25 (I (aA (ew + 1))) (.ss (.nJ .z))) qe (by kernel_rfl) ?_
   exact fO (v1, aA (ew + 1)) (Option.some.inj hm).symm ⟨v1, aA (ew + 1), rfl, rfl, fN⟩ (by kernel_rfl)
 rw [if_neg fZ] at hm
 refine cA (bu (bu (dZ ?_)))
 have hm := bT hm jH
 refine aa <| ab <| aj <| aQ 1 [] (.n 42 (.agg [.ar bw h1]) (.ss (.k .z))) (qT et 0 rfl 0 8 [.ar bw h1] (by kernel_rfl) (by decide) <| qe) (by kernel_rfl) ?_
 refine ae <| cE [] 1 (.agg [.ar bw h1]) [.ar bw h1] (Pt.at g3 0) et rfl .all (by kernel_rfl) (by kernel_rfl) ?_
 intro uc iW
 have fH := iW.ba (.s (.k .z))
 refine ad <| aa <| aG ?_
 obtain rfl := Option.some.inj hm
 refine aH [.agg [.ar bw h1]] (qo (.agg [.ar bw h1]) <| qc (fun w => Rd w (some ⟨g3, 0, none⟩) (SV.cl [.ar bw h1])) (fH.pV 0 rfl) <| qe) (by kernel_rfl) ?_
 have gA := fH.ba .z
 exact ⟨rfl, gA⟩
theorem o8 {F O : Nat → Prop} {w : World} (h : ag UInt64 8) (b : List UInt8) (jd : UInt64) (jS : UInt64) (last : Bool) (node : Bool) (fm : Option Addr) (ig : Nat) (fw : Nat) (j3 : Ro F w fm (e8.all b)) (iV : b.length = ig) (jK : ig ≤ fw) (k : Cx F O w w []) (r : (ag UInt64 8)) (hm : gy h b jd jS last node = some r) :
    Calls Try.prog 59 (ak [.agg [.ar bw h], sl fm ig fw, .agg [.u64 jd, .u64 jS], .b last, .b node]) w (fun e w' => e = .returned (SV.val (.agg [.ar bw r])) ∧ Cx F O w w' []) := by
 unfold gy at hm
 subst iV
 refine calls [.agg [.ar bw h], sl fm b.length fw, .agg [.u64 jd, .u64 jS], .b last, .b node] Try.func59 rfl (of_decide_eq_true (by kernel_rfl)) ?_
 refine ab <| aj <| ae <| eg [] 5 (.agg [.ar bw h]) [.ar bw h] (by kernel_rfl) k ?_
 intro g w_ k_
 refine ae <| eg [] 7 (.agg [.u64 jd, .u64 jS]) [.u64 jd, .u64 jS] (by kernel_rfl) k_ ?_
 intro g1 jh bN
 refine ae <| aU [] 10 [.ar bw (ag.rep 8 (0 : UInt64))] (by kernel_rfl) bN ?_
 intro g2 kI cG
 refine ad <| aa <| ab <| aj <| aQ 1 [] (.n 14 (sl fm b.length fw) (.nJ (.ib .a))) qe (by kernel_rfl) ?_
 refine ae ?_
 obtain ⟨r_, cc, hm⟩ := ob hm
 refine ax [] 15 _ EU (by kernel_rfl) (wo (F := N0) (O := N0) _ _ _ _ (Ro.n0 (j3.cx cG)) rfl jK (Cx.refl _) _ cc) ?_
 rintro e_ mb ⟨rfl, cD⟩
 have dm := cG.call cD
 refine ⟨.dB [.agg [.ar bw r_.1], I r_.2], rfl, ?_⟩
 refine aQ 3 [] (.n 16 (.agg [.ar bw r_.1]) (.n 17 (I r_.2) (.ss .a))) qe (by kernel_rfl) ?_
 refine ae ?_
 have dx := dm.ba (.kk (.k .e))
 refine aU [] 11 [.ar bw (ag.rep 16 (0 : UInt64))] (by kernel_rfl) dx ?_
 intro g3 mc dV
 refine ae <| cE [] 3 (.agg [.ar bw r_.1]) [.ar bw r_.1] (Pt.at g3 0) dV rfl .all (by kernel_rfl) (by kernel_rfl) ?_
 intro oH ed
 refine aQ 1 [] (.k (.ss .a)) qe (by kernel_rfl) ?_
 refine ad <| aa <| ab <| aj <| aQ 5 [] (.n 18 (.agg [.ar bw h]) (.n 19 (.agg [.ar bw r_.1]) (.n 20 (.agg [.u64 jd, .u64 jS]) (.n 21 (.b last) (.n 22 (.b node) (.s (.k .z))))))) (qT ed 0 rfl 0 8 [.ar bw h] (by kernel_rfl) (by decide) <| qT ed 3 rfl 0 16 [.ar bw r_.1] (by kernel_rfl) (by decide) <| qT ed 1 rfl 0 2 [.u64 jd, .u64 jS] (by kernel_rfl) (by decide) <| qe) (by kernel_rfl) ?_
 refine ae ?_
 obtain ⟨aE, cB, hm⟩ := ob hm
 refine ax [] 23 _ EV (by kernel_rfl) (CR (F := N0) (O := N0) _ _ _ _ _ _ (Cx.refl _) _ cB) ?_
 rintro e_ qD ⟨rfl, eo⟩
 have eU := ed.call eo
 refine ⟨.agg [.ar bw aE], rfl, ?_⟩
 have bH := eU.ba (.ss (.k .z))
 refine ae <| cE [] 0 (.agg [.ar bw aE]) [.ar bw aE] (Pt.at g2 0) bH rfl .all (by kernel_rfl) (by kernel_rfl) ?_
 intro rL bD
 refine ad <| aa <| aG ?_
 obtain rfl := Option.some.inj hm
 refine aH [.agg [.ar bw aE]] (qo (.agg [.ar bw aE]) <| qc (fun w => Rd w (some ⟨g2, 0, none⟩) (SV.cl [.ar bw aE])) (bD.pV 0 rfl) <| qe) (by kernel_rfl) ?_
 have cS := bD.ba .z
 exact ⟨rfl, cS⟩
theorem iB {F O : Nat → Prop} {w : World} (mT : ag UInt64 8) (aW : UInt64) (aX : UInt64) (bB : List UInt8) (ao : Int) (b : List UInt8) (bW : Nat) (cd : Option Addr) (gS : Nat) (cf : Nat) (fm : Option Addr) (ig : Nat) (fw : Nat) (j3 : Ro F w fm (e8.all b)) (iV : b.length = ig) (jK : ig ≤ fw) (k : Cx F O w w [Bx 132 bW [.ar bw mT, .u64 aW, .u64 aX, sl cd gS cf, I ao, .v (.func (.func 59) ⟨SV.ak []⟩ ⟨SV.ak []⟩), .v (.func (.func 60) ⟨SV.ak []⟩ ⟨SV.ak []⟩)], Ow e8 cd gS cf bB]) (r : (ag UInt64 8 × UInt64 × UInt64 × List UInt8 × Int)) (hm : cy mT aW aX bB ao b = some r) :
    Calls Try.prog 108 (ak [pt bW 0, sl fm ig fw]) w (fun e w' => ∃ A n c, r.2.2.2.1.length = n ∧ e = .returned (SV.val (.dB [])) ∧ Cx F O w w' [Bx 132 bW [.ar bw r.1, .u64 r.2.1, .u64 r.2.2.1, sl A n c, I r.2.2.2.2, .v (.func (.func 59) ⟨SV.ak []⟩ ⟨SV.ak []⟩), .v (.func (.func 60) ⟨SV.ak []⟩ ⟨SV.ak []⟩)], Ow e8 A n c r.2.2.2.1]) := by
 unfold cy at hm
 obtain rfl := k.len 1 rfl
 subst iV
 refine calls [pt bW 0, sl fm b.length fw] Try.func108 rfl (of_decide_eq_true (by kernel_rfl)) ?_
 refine aI <| jQ (dv ao) (fun s L wr => ∃ (av : ag UInt64 8) (cC : UInt64) (gq : UInt64) (gd : List UInt8) (b1 : List UInt8) (A0 : Option Addr) (n0 : Nat) (c0 : Nat) (A1 : Option Addr) (c1 : Nat), (av, cC, gq, gd, b1) = s ∧ L = [(0, pt bW 0), (1, sl A1 b1.length c1)] ∧ gd.length = n0 ∧ Ro F w A1 (e8.all b1) ∧ b1.length ≤ c1 ∧ Cx F O w wr [Bx 132 bW [.ar bw av, .u64 cC, .u64 gq, sl A0 n0 c0, I ao, .v (.func (.func 59) ⟨SV.ak []⟩ ⟨SV.ak []⟩), .v (.func (.func 60) ⟨SV.ak []⟩ ⟨SV.ak []⟩)], Ow e8 A0 n0 c0 gd]) (mT, aW, aX, bB, b) r hm ⟨mT, aW, aX, bB, b, cd, bB.length, cf, fm, fw, rfl, rfl, k.len 1 rfl, j3, jK, k⟩ (by kernel_rfl) ?_
 intro rW L_ w_ y0 ef bj jH
 obtain ⟨av, cC, gq, gd, b1, A0, _, c0, A1, c1, rfl, rfl, rfl, h, hc, k_⟩ := ef
 have hm := bj; simp only [dv] at hm
 clear bj
 refine ab <| ab <| aV [] (.n 7 (.b (decide (0 < ((b1.length : Nat) : Int)))) .a) qe (by kernel_rfl) ?_
 refine aa <| aN (0 < ((b1.length : Nat) : Int)) (by kernel_rfl) (fun fZ => ?_) (fun fZ => ?_)
 · rw [if_pos fZ] at hm
   refine aL <| aa <| aI <| k7 (fun L wr => ∃ (kF : ag UInt64 8) (lb : UInt64) (eM : UInt64) (bX : List UInt8) (A2 : Option Addr) (n1 : Nat) (c2 : Nat), b6 ao b1 kF lb eM bX = some y0 ∧ L = [(0, pt bW 0), (1, sl A1 b1.length c1)] ∧ bX.length = n1 ∧ Cx F O w wr [Bx 132 bW [.ar bw kF, .u64 lb, .u64 eM, sl A2 n1 c2, I ao, .v (.func (.func 59) ⟨SV.ak []⟩ ⟨SV.ak []⟩), .v (.func (.func 60) ⟨SV.ak []⟩ ⟨SV.ak []⟩)], Ow e8 A2 n1 c2 bX]) ?_ ?_
   ·
    refine ab <| I_ aT (by kernel_rfl) (.n 17 (.b (decide (((gd.length : Nat) : Int) = ao))) (.s .a)) (fun m => qs bW 0 <| qs bW 0 <| qB (k_.drew m) 0 rfl 10 (sl A0 gd.length c0) (by kernel_rfl) <| qs bW 0 <| qs bW 0 <| qB (k_.drew m) 0 rfl 11 (I ao) (by kernel_rfl) <| qe) (by kernel_rfl) (fun m_ => ?_)
    have bN := k_.drew m_
    refine aa <| aN (((gd.length : Nat) : Int) = ao) (by kernel_rfl) (fun jJ => ?_) (fun jJ => ?_)
    · rw [if_pos jJ] at hm
      refine ab ?_
      have cG := bN.drew 1
      refine lJ aT (.q 0 1 (.q 1 1 (.q 2 1 (.q 3 0 (.q 4 0 (.q 5 1 (.q 6 1 (.q 7 1 (.q 8 0 (.q 9 0 (.op 10 (.q 11 1 (.q 12 1 (.q 14 1 (.q 15 1 (.q 13 2 (.op 16 .nil))))))))))))))))) [10, 16] cG (.c (.kk .e) (.c (.s (.k .e)) .l)) (by kernel_rfl) (fun _ => ?_)
      refine bo 3 1 [] (.n 19 (pt bW 0) (.n 21 (pt bW 0) (.s .a))) (fun x hx => qs bW 0 <| qe) (by kernel_rfl) (fun _ => ?_)
      refine bo 2 0 [] (.n 23 (.agg [.u64 cC, .u64 gq]) (.k (.s .a))) (fun x hx => qs bW 0 <| qT hx 0 rfl 8 2 [.u64 cC, .u64 gq] (by kernel_rfl) (by decide) <| qe) (by kernel_rfl) (fun _ => ?_)
      refine bo 3 1 [] (.n 26 (pt bW 11) .a) (fun x hx => qs bW 0 <| qs bW 0 <| qe) (by kernel_rfl) (fun _ => ?_)
      refine bo 2 0 [] (.n 28 (.u64 (UInt64.ofInt ao)) (.s .a)) (fun x hx => qB hx 0 rfl 11 (I ao) (by kernel_rfl) <| qe) (by kernel_rfl) (fun _ => ?_)
      refine bl (by kernel_rfl) rfl ?_
      obtain ⟨r_, cc, hm⟩ := ob hm
      refine ax [] 29 _ mF (by kernel_rfl) (jV (F := N0) (O := N0) _ _ _ (Cx.refl _) _ cc) ?_
      rintro e_ jh ⟨rfl, cD⟩
      have dm := cG.call cD
      refine ⟨.dB [.agg [.u64 r_.1, .u64 r_.2.1], .b r_.2.2], rfl, ?_⟩
      refine ⟨dm, fun _ => ?_⟩
      refine bo 4 1 [] (.n 18 (.dB [.agg [.u64 r_.1, .u64 r_.2.1], .b r_.2.2]) (.n 30 (.agg [.u64 r_.1, .u64 r_.2.1]) (.n 33 (pt bW 8) (.fi .a)))) (fun x hx => qs bW 0 <| qs bW 0 <| qe) (by kernel_rfl) (fun _ => ?_)
      refine bo 1 2 [] (.s .a) (fun x hx => qe) (by kernel_rfl) (fun _ => ?_)
      refine bl (by kernel_rfl) rfl <| cE [] 0 (.agg [.u64 r_.1, .u64 r_.2.1]) [.u64 r_.1, .u64 r_.2.1] (Pt.at bW 8) dm rfl (.k .h2) (by kernel_rfl) (by kernel_rfl) ?_
      intro kI dx
      refine ⟨(dx.ba (.s (.k .e))), fun _ => ?_⟩
      refine bC <| aa <| ab ?_
      have dV := dx.drew 1
      refine lJ aT (.q 0 1 (.q 1 1 (.q 2 1 (.q 3 0 (.q 4 0 (.q 5 1 (.q 6 1 (.q 7 0 (.q 8 0 (.q 9 1 (.q 10 1 (.q 11 0 (.q 12 0 (.q 13 1 (.q 14 1 (.q 15 0 (.q 16 0 (.op 17 (.q 18 1 (.q 19 1 (.op 20 .nil))))))))))))))))))))) [17, 20] dV (.c (.kk .e) (.c (.s (.k .e)) .l)) (by kernel_rfl) (fun _ => ?_)
      refine bo 3 1 [] (.n 34 (pt bW 0) (.n 36 (pt bW 0) (.ss .a))) (fun x hx => qs bW 0 <| qe) (by kernel_rfl) (fun _ => ?_)
      refine bo 2 0 [] (.n 38 (.v (.func (.func 59) ⟨SV.ak []⟩ ⟨SV.ak []⟩)) (.k (.s .a))) (fun x hx => qs bW 0 <| qB hx 0 rfl 12 (.v (.func (.func 59) ⟨SV.ak []⟩ ⟨SV.ak []⟩)) (by kernel_rfl) <| qe) (by kernel_rfl) (fun _ => ?_)
      refine bo 2 1 [] (.n 40 (pt bW 0) .a) (fun x hx => qs bW 0 <| qe) (by kernel_rfl) (fun _ => ?_)
      refine bo 2 0 [] (.n 42 (.agg [.ar bw av]) (.s .a)) (fun x hx => qs bW 0 <| qT hx 0 rfl 0 8 [.ar bw av] (by kernel_rfl) (by decide) <| qe) (by kernel_rfl) (fun _ => ?_)
      refine bo 2 1 [] (.n 44 (pt bW 0) .a) (fun x hx => qs bW 0 <| qe) (by kernel_rfl) (fun _ => ?_)
      refine bo 2 0 [] (.n 46 (sl A0 gd.length c0) (.s .a)) (fun x hx => qs bW 0 <| qB hx 0 rfl 10 (sl A0 gd.length c0) (by kernel_rfl) <| qe) (by kernel_rfl) (fun _ => ?_)
      refine bo 2 1 [] (.n 48 (pt bW 0) .a) (fun x hx => qs bW 0 <| qe) (by kernel_rfl) (fun _ => ?_)
      refine bo 2 0 [] (.n 50 (.agg [.u64 r_.1, .u64 r_.2.1]) (.s .a)) (fun x hx => qs bW 0 <| qT hx 0 rfl 8 2 [.u64 r_.1, .u64 r_.2.1] (by kernel_rfl) (by decide) <| qe) (by kernel_rfl) (fun _ => ?_)
      refine bl (by kernel_rfl) rfl ?_
      obtain ⟨aE, cB, hm⟩ := ob hm
      refine mm [] 51 [] [.agg [.ar bw av], sl A0 gd.length c0, .agg [.u64 r_.1, .u64 r_.2.1], .b false, .b false] [] zR (by kernel_rfl) (o8 (F := N0) (O := N0) _ _ _ _ _ _ _ _ _ (Ro.n0 (dV.rd 1 rfl)) (dV.len 1 rfl) (dV.tU 1 rfl) (Cx.refl _) _ cB) ?_
      rintro e_ mb ⟨rfl, ed⟩
      have eo := dV.call ed
      refine ⟨.agg [.ar bw aE], rfl, ?_⟩
      refine ⟨eo, fun _ => ?_⟩
      refine bo 2 1 [] (.n 53 (pt bW 0) (.k (.fi (.s .a)))) (fun x hx => qs bW 0 <| qs bW 0 <| qe) (by kernel_rfl) (fun _ => ?_)
      refine bl (by kernel_rfl) rfl <| cE [] 0 (.agg [.ar bw aE]) [.ar bw aE] (Pt.at bW 0) eo rfl .h (by kernel_rfl) (by kernel_rfl) ?_
      intro mc eU
      refine ⟨(eU.ba (.s (.k .e))), fun _ => ?_⟩
      refine bC <| aa <| aj ?_
      obtain ⟨b2, wm, hm⟩ := ob hm
      have hs := dE wm
      have hl := fQ wm
      have hn : gd.length = gd.length := (eU.len 1 rfl)
      have rX : gd.length ≤ c0 := (eU.tU 1 rfl)
      have t_ : b2.length ≤ c0 := by omega
      refine aQ 8 [] (.n 59 (sl A0 b2.length c0) (.n 61 (pt bW 10) (.ss .a))) (qs bW 0 <| qs bW 0 <| qB eU 0 rfl 10 (sl A0 gd.length c0) (by kernel_rfl) <| qp (0 ≤ (0 : Int) ∧ (0 : Int) ≤ ((c0 : Nat) : Int)) (by omega) <| qo (.v (.slice A0 b2.length c0)) <| qp (Value.slice (nj A0 0 c0 1) (Int.toNat (0 : Int) - 0) (c0 - 0) = .slice A0 b2.length c0) (pY _ _ _ _ _ (by omega)) <| qs bW 0 <| qs bW 0 <| qe) (by kernel_rfl) ?_
      refine ae ?_
      have bH := eU.ba (.kk .e)
      refine cE [] 0 (sl A0 b2.length c0) [sl A0 b2.length c0] (Pt.at bW 10) bH rfl (.kk (.k .h)) (by kernel_rfl) (by kernel_rfl) ?_
      intro oH bD
      refine ad ?_
      have cS := bD.pre 1 rfl b2.length c0 b2 (by omega) (by omega) (by omega) (sd wm rfl)
      exact gK ⟨aE, r_.1, r_.2.1, b2, A0, b2.length, c0, hm, rfl, cS.len 1 rfl, cS⟩ (by kernel_rfl)
    rw [if_neg jJ] at hm
    refine aL ?_
    exact gK ⟨av, cC, gq, gd, A0, gd.length, c0, hm, rfl, bN.len 1 rfl, bN⟩ (by kernel_rfl)
   rintro L_ qD ⟨kF, lb, eM, bX, A2, _, c2, hm, rfl, rfl, dk⟩
   simp only [b6] at hm
   refine ab <| I_ aT (by kernel_rfl) (.n 4 (I (if aA (ao - ((bX.length : Nat) : Int)) < ((b1.length : Nat) : Int) then aA (ao - ((bX.length : Nat) : Int)) else ((b1.length : Nat) : Int))) .a) (fun m => qs bW 0 <| qs bW 0 <| qB (dk.drew m) 0 rfl 11 (I ao) (by kernel_rfl) <| qs bW 0 <| qs bW 0 <| qB (dk.drew m) 0 rfl 10 (sl A2 bX.length c2) (by kernel_rfl) <| qe) (by kernel_rfl) (fun nq => ?_)
   have dD := dk.drew nq
   refine aa <| ab ?_
   have et := dD.drew 1
   refine lJ aT (.q 5 0 (.q 6 0 (.q 7 0 (.q 0 1 (.q 1 1 (.q 2 1 (.q 3 0 (.q 4 0 (.op 8 (.q 9 1 (.q 10 1 (.op 11 .nil)))))))))))) [8, 11] et (.c (.k .z) (.c (.z) .l)) (by kernel_rfl) (fun _ => ?_)
   obtain ⟨b3, ud, hm⟩ := ob hm
   have LB := dE ud
   have yu := fQ ud
   have LC : b1.length = b1.length := rfl
   have rf : b1.length ≤ c1 := hc
   have tQ : b3.length ≤ c1 := by omega
   refine bo 3 0 [] (.n 82 (sl A1 b3.length c1) .a) (fun x hx => qp (0 ≤ (if aA (ao - ((bX.length : Nat) : Int)) < ((b1.length : Nat) : Int) then aA (ao - ((bX.length : Nat) : Int)) else ((b1.length : Nat) : Int)) ∧ (if aA (ao - ((bX.length : Nat) : Int)) < ((b1.length : Nat) : Int) then aA (ao - ((bX.length : Nat) : Int)) else ((b1.length : Nat) : Int)) ≤ ((c1 : Nat) : Int)) (by omega) <| qo (.v (.slice A1 b3.length c1)) <| qp (Value.slice (nj A1 0 c1 1) (Int.toNat (if aA (ao - ((bX.length : Nat) : Int)) < ((b1.length : Nat) : Int) then aA (ao - ((bX.length : Nat) : Int)) else ((b1.length : Nat) : Int)) - 0) (c1 - 0) = .slice A1 b3.length c1) (pY _ _ _ _ _ (by omega)) <| qe) (by kernel_rfl) (fun _ => ?_)
   refine bo 3 1 [] (.n 75 (pt bW 0) (.n 77 (pt bW 0) .a)) (fun x hx => qs bW 0 <| qe) (by kernel_rfl) (fun _ => ?_)
   refine bo 2 0 [] (.n 79 (sl A2 bX.length c2) (.k (.s .a))) (fun x hx => qs bW 0 <| qB hx 0 rfl 10 (sl A2 bX.length c2) (by kernel_rfl) <| qe) (by kernel_rfl) (fun _ => ?_)
   refine bl (by kernel_rfl) rfl ?_
   obtain ⟨b4, rl, hm⟩ := ob hm
   obtain ⟨hz, sG⟩ := fh rl
   refine dq (E := e8) (v := sl A1 b3.length c1) (ys := b3) er [] 83 1 (by kernel_rfl) et rfl (Src.sl (Rd.pre (h.cx et) ud rfl) rfl (by rfl)) rfl (by have := et.len 1 rfl; have := hm; omega) ?_
   intro A3 c3 rL eC
   rw [← sG] at eC
   refine ⟨(eC.ba (.k .z)), fun _ => ?_⟩
   refine bo 2 1 [] (.n 85 (pt bW 10) (.k (.ib .a))) (fun x hx => qs bW 0 <| qs bW 0 <| qe) (by kernel_rfl) (fun _ => ?_)
   refine bl (by kernel_rfl) rfl <| cE [] 0 (sl A3 (bX.length + b3.length) c3) [sl A3 (bX.length + b3.length) c3] (Pt.at bW 10) eC rfl (.kk (.k .h)) (by kernel_rfl) (by kernel_rfl) ?_
   intro uL eW
   refine ⟨(eW.ba .z), fun _ => ?_⟩
   refine bC <| aa ?_
   obtain ⟨b5, y5, hm⟩ := ob hm
   have MQ := dE y5
   have MR := fQ y5
   have Q7 : b1.length = b1.length := rfl
   have Aa : b1.length ≤ c1 := hc
   obtain ⟨A4, c4, e_, BC, hA, E9⟩ := G6 A1 (Int.toNat (if aA (ao - ((bX.length : Nat) : Int)) < ((b1.length : Nat) : Int) then aA (ao - ((bX.length : Nat) : Int)) else ((b1.length : Nat) : Int))) c1 1 (b1.length - Int.toNat (if aA (ao - ((bX.length : Nat) : Int)) < ((b1.length : Nat) : Int) then aA (ao - ((bX.length : Nat) : Int)) else ((b1.length : Nat) : Int))) b5.length (by omega) (by omega)
   refine aV [] (.n 1 (sl A4 b5.length c4) (.ib (.k .z))) (qp (0 ≤ (if aA (ao - ((bX.length : Nat) : Int)) < ((b1.length : Nat) : Int) then aA (ao - ((bX.length : Nat) : Int)) else ((b1.length : Nat) : Int)) ∧ (if aA (ao - ((bX.length : Nat) : Int)) < ((b1.length : Nat) : Int) then aA (ao - ((bX.length : Nat) : Int)) else ((b1.length : Nat) : Int)) ≤ ((b1.length : Nat) : Int)) (by omega) <| qo (.v (.slice A4 b5.length c4)) <| qp (Value.slice (nj A1 (Int.toNat (if aA (ao - ((bX.length : Nat) : Int)) < ((b1.length : Nat) : Int) then aA (ao - ((bX.length : Nat) : Int)) else ((b1.length : Nat) : Int))) c1 1) (b1.length - Int.toNat (if aA (ao - ((bX.length : Nat) : Int)) < ((b1.length : Nat) : Int) then aA (ao - ((bX.length : Nat) : Int)) else ((b1.length : Nat) : Int))) (c1 - Int.toNat (if aA (ao - ((bX.length : Nat) : Int)) < ((b1.length : Nat) : Int) then aA (ao - ((bX.length : Nat) : Int)) else ((b1.length : Nat) : Int))) = .slice A4 b5.length c4) e_ <| qe) (by kernel_rfl) ?_
   refine cu ?_
   exact fO (kF, lb, eM, b4, b5) (Option.some.inj hm).symm ⟨kF, lb, eM, b4, b5, A3, bX.length + b3.length, c3, A4, c4, rfl, rfl, eW.len 1 rfl, (Ro.cut h y5 rfl (by rfl) hA (by omega)), BC, eW⟩ (by kernel_rfl)
 rw [if_neg fZ] at hm
 refine cA (bu (bu (dZ ?_)))
 have hm := bT hm jH
 obtain rfl := Option.some.inj hm
 refine nk [] qe (by kernel_rfl) ?_
 exact ⟨A0, gd.length, c0, k_.len 1 rfl, rfl, k_⟩
theorem wE {F O : Nat → Prop} {w : World} (b : List UInt8) (fm : Option Addr) (ig : Nat) (fw : Nat) (j3 : Ro F w fm (e8.all b)) (iV : b.length = ig) (jK : ig ≤ fw) (k : Cx F O w w []) (r : (ag UInt32 16 × Int)) (hm : ju b = some r) :
    Calls Try.prog 72 (ak [sl fm ig fw]) w (fun e w' => e = .returned (SV.val (.dB [.agg [.ar bm r.1], I r.2])) ∧ Cx F O w w' []) := by
 unfold ju at hm
 subst iV
 refine calls [sl fm b.length fw] Try.func72 rfl (of_decide_eq_true (by kernel_rfl)) ?_
 refine ab <| aj <| ae <| aU [] 2 [.ar bm (ag.rep 16 (0 : UInt32))] (by kernel_rfl) k ?_
 intro g w_ k_
 refine aQ 1 [] .a qe (by kernel_rfl) ?_
 refine ad <| aa <| ab <| aj <| ae <| aU [] 4 [.ar bm (ag.rep 16 (0 : UInt32))] (by kernel_rfl) k_ ?_
 intro g1 jh bN
 refine ad <| aa <| ab <| ab <| aj <| aQ 1 [] (.n 6 (sl fm b.length fw) .a) qe (by kernel_rfl) ?_
 refine ae ?_
 obtain ⟨r_, cc, hm⟩ := ob hm
 refine ax [] 7 _ zV (by kernel_rfl) (qk (F := N0) (O := N0) _ _ _ _ _ (Ro.n0 (j3.cx bN)) rfl jK (Cx.refl _) _ cc) ?_
 rintro e_ kI ⟨rfl, cG⟩
 have cD := bN.call cG
 refine ⟨I r_, rfl, ?_⟩
 refine aQ 1 [] (.n 5 (I r_) (.ss .a)) qe (by kernel_rfl) ?_
 refine ad <| aa <| ab <| aV [] (.n 9 (.b (decide (r_ ≠ 0))) .a) qe (by kernel_rfl) ?_
 refine aa <| aN (r_ ≠ 0) (by kernel_rfl) (fun hc => ?_) (fun hc => ?_)
 · rw [if_pos hc] at hm
   refine ab <| aj <| aQ 2 [] (.n 10 (.agg [.ar bm (ag.rep 16 (0 : UInt32))]) (.n 11 (I r_) (.ib (.k .z)))) (qT cD 1 rfl 0 16 [.ar bm (ag.rep 16 (0 : UInt32))] (by kernel_rfl) (by decide) <| qe) (by kernel_rfl) ?_
   refine ae <| cE [] 0 (.agg [.ar bm (ag.rep 16 (0 : UInt32))]) [.ar bm (ag.rep 16 (0 : UInt32))] (Pt.at g 0) cD rfl .all (by kernel_rfl) (by kernel_rfl) ?_
   intro mb dm
   have dx := dm.ba (.k .z)
   refine aQ 1 [] (.n 3 (I r_) (.ss .a)) qe (by kernel_rfl) ?_
   refine ad <| aa <| aG (aZ ?_)
   obtain rfl := Option.some.inj hm
   refine aH [.agg [.ar bm (ag.rep 16 (0 : UInt32))], I r_] (qo (.agg [.ar bm (ag.rep 16 (0 : UInt32))]) <| qc (fun w => Rd w (some ⟨g, 0, none⟩) (SV.cl [.ar bm (ag.rep 16 (0 : UInt32))])) (dx.pV 0 rfl) <| qe) (by kernel_rfl) ?_
   have dV := dx.ba .z
   exact ⟨rfl, dV⟩
 rw [if_neg hc] at hm
 refine aL <| aa <| ab <| aj <| aQ 2 [] (.n 12 (sl (some ⟨g1, 0, none⟩) 16 16) (.n 13 (sl fm b.length fw) (.ss (.kk .z)))) (qo (.v (.slice (some ⟨g1, 0, none⟩) 16 16)) <| qp (((some ⟨g1, 0, none⟩) : Option Addr).isSome = true ∧ Value.slice (nj (some ⟨g1, 0, none⟩) 0 16 1) (16 - 0) (16 - 0) = .slice (some ⟨g1, 0, none⟩) 16 16) ⟨rfl, pY _ _ _ _ _ rfl⟩ <| qe) (by kernel_rfl) ?_
 refine ae ?_
 have ed := cD.F2 [] [] 1 rfl
 obtain ⟨aE, cB, hm⟩ := ob hm
 obtain ⟨F1, O1, oV, hO, xK, hF, hb⟩ := ed.go (.r (.i .e))
 refine ax [] 14 _ zW (by kernel_rfl) (ql (F := F1) (O := O1) _ _ _ _ _ _ _ _ _ (Nat.le_refl _) (Ro.sR j3 ed hF) rfl jK oV _ cB) ?_
 rintro e_ mc ⟨rfl, eo⟩
 have eU := hb mc _ _ eo (.c .n)
 refine ⟨.dB [], rfl, ?_⟩
 have bH := eU.F3 [] [] 0 rfl (ag.of 16 aE) (ag.G_ (eU.yM 0 rfl))
 refine ad <| aa <| ab <| aj <| aQ 1 [] (.n 15 (.agg [.ar bm (ag.of 16 aE)]) (.fi .a)) (qT bH 0 rfl 0 16 [.ar bm (ag.of 16 aE)] (by kernel_rfl) (by decide) <| qe) (by kernel_rfl) ?_
 refine ae ?_
 have bD := bH.ba (.kk .e)
 refine cE [] 1 (.agg [.ar bm (ag.of 16 aE)]) [.ar bm (ag.of 16 aE)] (Pt.at g 0) bD rfl .all (by kernel_rfl) (by kernel_rfl) ?_
 intro oH cS
 have dk := cS.ba (.s (.k .e))
 refine aQ 1 [] (.n 3 (I 0) (.s .a)) qe (by kernel_rfl) ?_
 refine ad <| aa <| aG ?_
 obtain rfl := Option.some.inj hm
 refine aH [.agg [.ar bm (ag.of 16 aE)], I 0] (qo (.agg [.ar bm (ag.of 16 aE)]) <| qc (fun w => Rd w (some ⟨g, 0, none⟩) (SV.cl [.ar bm (ag.of 16 aE)])) (dk.pV 0 rfl) <| qe) (by kernel_rfl) ?_
 have dD := dk.ba .z
 exact ⟨rfl, dD⟩
theorem wG {F O : Nat → Prop} {w : World} (h : ag UInt32 8) (count : UInt64) (last : Bool) (node : Bool) (k : Cx F O w w []) (r : (ag UInt32 16)) (hm : kS h count last node = some r) :
    Calls Try.prog 78 (ak [.agg [.ar bm h], .u64 count, .b last, .b node]) w (fun e w' => e = .returned (SV.val (.agg [.ar bm r])) ∧ Cx F O w w' []) := by
 unfold kS at hm
 refine calls [.agg [.ar bm h], .u64 count, .b last, .b node] Try.func78 rfl (of_decide_eq_true (by kernel_rfl)) ?_
 refine ab <| aj <| ae <| eg [] 4 (.agg [.ar bm h]) [.ar bm h] (by kernel_rfl) k ?_
 intro g w_ k_
 refine ae <| aU [] 8 [.ar bm (ag.rep 16 (0 : UInt32))] (by kernel_rfl) k_ ?_
 intro g1 jh bN
 refine ad <| aa <| ab <| aj <| ae <| aU [] 9 [.ar bm (ag.rep 16 (0 : UInt32))] (by kernel_rfl) bN ?_
 intro g2 kI cG
 refine ad <| aa <| ab <| aj <| ae ?_
 obtain ⟨r_, cc, hm⟩ := ob hm
 refine ax [] 11 _ zX (by kernel_rfl) (uN (F := N0) (O := N0)  (Cx.refl _) _ cc) ?_
 rintro e_ mb ⟨rfl, cD⟩
 have dm := cG.call cD
 refine ⟨.agg [.ar bm r_], rfl, ?_⟩
 refine ae ?_
 have dx := dm.ba (.kk (.k .e))
 refine aU [] 10 [.ar bm (ag.rep 8 (0 : UInt32))] (by kernel_rfl) dx ?_
 intro g3 mc dV
 refine ae <| cE [] 3 (.agg [.ar bm r_]) [.ar bm r_] (Pt.at g3 0) dV rfl .all (by kernel_rfl) (by kernel_rfl) ?_
 intro oH ed
 refine ad <| aa <| ab ?_
 have eo := ed.drew 1
 refine lJ aT (.q 0 0 (.q 1 0 (.op 2 .nil))) [2] eo (.c (.kk (.s (.k .e))) .l) (by kernel_rfl) (fun _ => ?_)
 obtain ⟨b, j3, hm⟩ := ob hm
 have hs := dE j3
 have hl := fQ j3
 have hn : ((ag.rep 16 (0 : UInt32)).l).length = 16 := (ag.rep 16 (0 : UInt32)).h
 have hc : 16 ≤ 16 := (Nat.le_refl _)
 have fZ : b.length ≤ 16 := by omega
 refine bo 2 0 [] (.n 12 (sl (some ⟨g2, 0, none⟩) b.length 16) (.n 13 (sl (some ⟨g, 0, none⟩) 8 8) (.k (.s (.kk (.ss .a)))))) (fun x hx => qp (0 ≤ (8 : Int) ∧ (8 : Int) ≤ ((16 : Nat) : Int)) (by omega) <| qo (.v (.slice (some ⟨g2, 0, none⟩) b.length 16)) <| qp (((some ⟨g2, 0, none⟩) : Option Addr).isSome = true ∧ Value.slice (nj (some ⟨g2, 0, none⟩) 0 16 1) (Int.toNat (8 : Int) - 0) (16 - 0) = .slice (some ⟨g2, 0, none⟩) b.length 16) ⟨rfl, pY _ _ _ _ _ (by omega)⟩ <| qo (.v (.slice (some ⟨g, 0, none⟩) 8 8)) <| qp (((some ⟨g, 0, none⟩) : Option Addr).isSome = true ∧ Value.slice (nj (some ⟨g, 0, none⟩) 0 8 1) (8 - 0) (8 - 0) = .slice (some ⟨g, 0, none⟩) 8 8) ⟨rfl, pY _ _ _ _ _ rfl⟩ <| qe) (by kernel_rfl) (fun _ => ?_)
 refine bl (by kernel_rfl) rfl <| vG (E := bm) (dn := b.length) (dc := 16) (v := sl (some ⟨g, 0, none⟩) 8 8) (src := h.l) (lo := 0) (m' := 16) xD [] 14 2 [] [] (ag.rep 16 (0 : UInt32)) (by kernel_rfl) (pX _ _ _).symm eo rfl (Src.sl (Rd.vec (eo.pV 0 rfl) (c := bx.all bm h.l) (off := 0) (by kernel_rfl)) h.h (by rfl)) h.h (by have := (ag.rep 16 (0 : UInt32)).h; omega) (by omega) (by omega) ?_
 intro qD eU
 refine ⟨(eU.ba (.kk (.s (.k .e)))), fun _ => ?_⟩
 refine bC <| aa <| ab ?_
 have bH := eU.drew 1
 refine lJ aT (.q 0 0 (.q 1 0 (.op 2 .nil))) [2] bH (.c (.kk (.s (.k .e))) .l) (by kernel_rfl) (fun _ => ?_)
 obtain ⟨b1, na, hm⟩ := ob hm
 have LB := dE na
 have yu := fQ na
 have LC : ((pj (ag.rep 16 (0 : UInt32)) 0 b.length h.l).l).length = 16 := (pj (ag.rep 16 (0 : UInt32)) 0 b.length h.l).h
 have jJ : 16 ≤ 16 := (Nat.le_refl _)
 obtain ⟨A, c, e_, rX, hA, t_⟩ := G6 (some ⟨g2, 0, none⟩) (Int.toNat (8 : Int)) 16 1 (16 - Int.toNat (8 : Int)) b1.length (by omega) (by omega)
 refine bo 2 0 [] (.n 15 (sl A b1.length c) (.n 16 (sl (some ⟨g3, 0, none⟩) 8 8) (.fi .a))) (fun x hx => qp (0 ≤ (8 : Int) ∧ (8 : Int) ≤ ((16 : Nat) : Int)) (by omega) <| qo (.v (.slice A b1.length c)) <| qp (((some ⟨g2, 0, none⟩) : Option Addr).isSome = true ∧ Value.slice (nj (some ⟨g2, 0, none⟩) (Int.toNat (8 : Int)) 16 1) (16 - Int.toNat (8 : Int)) (16 - Int.toNat (8 : Int)) = .slice A b1.length c) ⟨rfl, e_⟩ <| qo (.v (.slice (some ⟨g3, 0, none⟩) 8 8)) <| qp (((some ⟨g3, 0, none⟩) : Option Addr).isSome = true ∧ Value.slice (nj (some ⟨g3, 0, none⟩) 0 8 1) (8 - 0) (8 - 0) = .slice (some ⟨g3, 0, none⟩) 8 8) ⟨rfl, pY _ _ _ _ _ rfl⟩ <| qe) (by kernel_rfl) (fun _ => ?_)
 refine bl (by kernel_rfl) rfl <| vG (E := bm) (dn := b1.length) (dc := c) (v := sl (some ⟨g3, 0, none⟩) 8 8) (src := r_.l) (lo := Int.toNat (8 : Int)) (m' := 16) xD [] 17 2 [] [] (pj (ag.rep 16 (0 : UInt32)) 0 b.length h.l) (by kernel_rfl) hA bH rfl (Src.sl (Rd.vec (bH.pV 3 rfl) (c := bx.all bm r_.l) (off := 0) (by kernel_rfl)) r_.h (by rfl)) r_.h (by have := (pj (ag.rep 16 (0 : UInt32)) 0 b.length h.l).h; omega) (by omega) (by omega) ?_
 intro rL bD
 refine ⟨(bD.ba (.kk (.s (.k .e)))), fun _ => ?_⟩
 refine bC <| aa <| ab <| aj ?_
 obtain ⟨av, lD, hm⟩ := ob hm
 obtain ⟨ew, eA, hm⟩ := ob hm
 refine aQ 6 [] (.n 22 (.u32 (av ^^^ (UInt32.ofNat count.toNat))) (.n 23 (.v (.pointer (il (some ⟨g2, 0, none⟩) (12 : Int) 1))) (.ib .a))) (qV (bD.iw 2 rfl bm (pj (pj (ag.rep 16 (0 : UInt32)) 0 b.length h.l) (Int.toNat (8 : Int)) b1.length r_.l) 0 (by kernel_rfl)) lD rfl (.u32 av) rfl <| qI g2 0 eA <| qe) (by kernel_rfl) ?_
 refine ae ?_
 have cS := bD.ba (.bb .e)
 obtain ⟨v, E_, hm⟩ := nm hm
 refine fC (E := bm) (kk := 0) [] 2 (.u32 (av ^^^ (UInt32.ofNat count.toNat))) [.u32 (av ^^^ (UInt32.ofNat count.toNat))] E_ eA (Pt.p5 (Pt.at g2 0) (12 : Int) 1) cS rfl .h rfl (by kernel_rfl) (by kernel_rfl) ?_
 intro uL dk
 refine ad <| aa <| ab <| aj ?_
 obtain ⟨bk, dA, hm⟩ := ob hm
 obtain ⟨dQ, fI, hm⟩ := ob hm
 refine aQ 7 [] (.n 29 (.u32 (bk ^^^ (UInt32.ofNat (dz count ((32 : UInt64).toNat)).toNat))) (.n 30 (.v (.pointer (il (some ⟨g2, 0, none⟩) (13 : Int) 1))) (.ss (.kk (.s .a))))) (qV (dk.iw 2 rfl bm v 0 (by kernel_rfl)) dA rfl (.u32 bk) rfl <| qI g2 0 fI <| qe) (by kernel_rfl) ?_
 refine ae ?_
 obtain ⟨v1, tn, hm⟩ := nm hm
 refine fC (E := bm) (kk := 0) [] 2 (.u32 (bk ^^^ (UInt32.ofNat (dz count ((32 : UInt64).toNat)).toNat))) [.u32 (bk ^^^ (UInt32.ofNat (dz count ((32 : UInt64).toNat)).toNat))] tn fI (Pt.p5 (Pt.at g2 0) (13 : Int) 1) dk rfl .h rfl (by kernel_rfl) (by kernel_rfl) ?_
 intro xI dD
 refine ad <| aa <| k7 (fun L wr => ∃ (v2 : ag UInt32 16), iH node v2 = some r ∧ L = [(3, .b node), (8, pt g1 0), (9, pt g2 0)] ∧ Cx F O w wr [Bx 153 g1 [.ar bm (ag.rep 16 (0 : UInt32))], Bx 153 g2 [.ar bm v2]]) ?_ ?_
 ·
  refine ab <| aV [] (.n 31 (.b last) (.ss (.kk (.s .a)))) qe (by kernel_rfl) ?_
  refine aa <| bf last (by kernel_rfl) (fun rf => ?_) (fun rf => ?_)
  · rw [if_pos rf] at hm
    refine aj ?_
    obtain ⟨cY, ij, hm⟩ := ob hm
    obtain ⟨cC, jE, hm⟩ := ob hm
    refine aQ 4 [] (.n 34 (.u32 (4294967295 ^^^ cY)) (.n 35 (.v (.pointer (il (some ⟨g2, 0, none⟩) (14 : Int) 1))) (.s .a))) (qV (dD.iw 2 rfl bm v1 0 (by kernel_rfl)) ij rfl (.u32 cY) rfl <| qI g2 0 jE <| qe) (by kernel_rfl) ?_
    refine ae ?_
    obtain ⟨v3, y3, hm⟩ := nm hm
    refine fC (E := bm) (kk := 0) [] 2 (.u32 (4294967295 ^^^ cY)) [.u32 (4294967295 ^^^ cY)] y3 jE (Pt.p5 (Pt.at g2 0) (14 : Int) 1) dD rfl .h rfl (by kernel_rfl) (by kernel_rfl) ?_
    intro rk et
    refine ad ?_
    have eC := et.ba (.s (.kk .z))
    exact gK ⟨v3, hm, rfl, eC⟩ (by kernel_rfl)
  rw [if_neg (by rw [rf]; decide)] at hm
  refine aL ?_
  have eW := dD.ba (.s (.kk .z))
  exact gK ⟨v1, hm, rfl, eW⟩ (by kernel_rfl)
 rintro L_ uc ⟨v2, hm, rfl, fN⟩
 simp only [iH] at hm
 refine k7 (fun L wr => ∃ (v4 : ag UInt32 16), iG v4 = some r ∧ L = [(8, pt g1 0), (9, pt g2 0)] ∧ Cx F O w wr [Bx 153 g1 [.ar bm (ag.rep 16 (0 : UInt32))], Bx 153 g2 [.ar bm v4]]) ?_ ?_
 ·
  refine ab <| aV [] (.n 36 (.b node) (.s .a)) qe (by kernel_rfl) ?_
  refine aa <| bf node (by kernel_rfl) (fun tQ => ?_) (fun tQ => ?_)
  · rw [if_pos tQ] at hm
    refine aj ?_
    obtain ⟨gq, nt, hm⟩ := ob hm
    obtain ⟨gd, nu, hm⟩ := ob hm
    refine aQ 4 [] (.n 39 (.u32 (4294967295 ^^^ gq)) (.n 40 (.v (.pointer (il (some ⟨g2, 0, none⟩) (15 : Int) 1))) (.s .a))) (qV (fN.iw 1 rfl bm v2 0 (by kernel_rfl)) nt rfl (.u32 gq) rfl <| qI g2 0 nu <| qe) (by kernel_rfl) ?_
    refine ae ?_
    obtain ⟨v5, y4, hm⟩ := nm hm
    refine fC (E := bm) (kk := 0) [] 1 (.u32 (4294967295 ^^^ gq)) [.u32 (4294967295 ^^^ gq)] y4 nu (Pt.p5 (Pt.at g2 0) (15 : Int) 1) fN rfl .h rfl (by kernel_rfl) (by kernel_rfl) ?_
    intro wg iW
    refine ad ?_
    exact gK ⟨v5, hm, rfl, iW⟩ (by kernel_rfl)
  rw [if_neg (by rw [tQ]; decide)] at hm
  refine aL ?_
  exact gK ⟨v2, hm, rfl, fN⟩ (by kernel_rfl)
 rintro L_ yZ ⟨v4, hm, rfl, fH⟩
 simp only [iG] at hm
 refine ab <| aj <| aQ 1 [] (.n 41 (.agg [.ar bm v4]) (.k .z)) (qT fH 1 rfl 0 16 [.ar bm v4] (by kernel_rfl) (by decide) <| qe) (by kernel_rfl) ?_
 refine ae <| cE [] 0 (.agg [.ar bm v4]) [.ar bm v4] (Pt.at g1 0) fH rfl .all (by kernel_rfl) (by kernel_rfl) ?_
 intro CL gA
 have iA := gA.ba (.k .z)
 refine ad <| aa <| aG ?_
 obtain rfl := Option.some.inj hm
 refine aH [.agg [.ar bm v4]] (qo (.agg [.ar bm v4]) <| qc (fun w => Rd w (some ⟨g1, 0, none⟩) (SV.cl [.ar bm v4])) (iA.pV 0 rfl) <| qe) (by kernel_rfl) ?_
 have jL := iA.ba .z
 exact ⟨rfl, jL⟩
theorem uh {F O : Nat → Prop} {w : World} (k : Cx F O w w []) (r : (ag (ag Int 4) 8)) (hm : jZ = some r) :
    Calls Try.prog 84 (ak []) w (fun e w' => e = .returned (SV.val (.agg [.ar (eV eI 4) r])) ∧ Cx F O w w' []) := by
 unfold jZ at hm
 refine calls [] Try.func84 rfl (of_decide_eq_true (by kernel_rfl)) ?_
 refine ab <| aj <| ae <| aU [] 0 [.ar (eV eI 4) (ag.rep 8 (ag.rep 4 (0 : Int)))] (by kernel_rfl) k ?_
 intro g w_ k_
 refine ad <| aa <| ab <| aj <| aQ 9 [] (.n 9 (.agg [.ar (eV eI 4) (⟨[(⟨[(0 : Int), (4 : Int), (8 : Int), (12 : Int)], rfl⟩ : ag Int 4), (⟨[(1 : Int), (5 : Int), (9 : Int), (13 : Int)], rfl⟩ : ag Int 4), (⟨[(2 : Int), (6 : Int), (10 : Int), (14 : Int)], rfl⟩ : ag Int 4), (⟨[(3 : Int), (7 : Int), (11 : Int), (15 : Int)], rfl⟩ : ag Int 4), (⟨[(0 : Int), (5 : Int), (10 : Int), (15 : Int)], rfl⟩ : ag Int 4), (⟨[(1 : Int), (6 : Int), (11 : Int), (12 : Int)], rfl⟩ : ag Int 4), (⟨[(2 : Int), (7 : Int), (8 : Int), (13 : Int)], rfl⟩ : ag Int 4), (⟨[(3 : Int), (4 : Int), (9 : Int), (14 : Int)], rfl⟩ : ag Int 4)], rfl⟩ : ag (ag Int 4) 8)]) .a) qe (by kernel_rfl) ?_
 refine ae <| cE [] 0 (.agg [.ar (eV eI 4) (⟨[(⟨[(0 : Int), (4 : Int), (8 : Int), (12 : Int)], rfl⟩ : ag Int 4), (⟨[(1 : Int), (5 : Int), (9 : Int), (13 : Int)], rfl⟩ : ag Int 4), (⟨[(2 : Int), (6 : Int), (10 : Int), (14 : Int)], rfl⟩ : ag Int 4), (⟨[(3 : Int), (7 : Int), (11 : Int), (15 : Int)], rfl⟩ : ag Int 4), (⟨[(0 : Int), (5 : Int), (10 : Int), (15 : Int)], rfl⟩ : ag Int 4), (⟨[(1 : Int), (6 : Int), (11 : Int), (12 : Int)], rfl⟩ : ag Int 4), (⟨[(2 : Int), (7 : Int), (8 : Int), (13 : Int)], rfl⟩ : ag Int 4), (⟨[(3 : Int), (4 : Int), (9 : Int), (14 : Int)], rfl⟩ : ag Int 4)], rfl⟩ : ag (ag Int 4) 8)]) [.ar (eV eI 4) (⟨[(⟨[(0 : Int), (4 : Int), (8 : Int), (12 : Int)], rfl⟩ : ag Int 4), (⟨[(1 : Int), (5 : Int), (9 : Int), (13 : Int)], rfl⟩ : ag Int 4), (⟨[(2 : Int), (6 : Int), (10 : Int), (14 : Int)], rfl⟩ : ag Int 4), (⟨[(3 : Int), (7 : Int), (11 : Int), (15 : Int)], rfl⟩ : ag Int 4), (⟨[(0 : Int), (5 : Int), (10 : Int), (15 : Int)], rfl⟩ : ag Int 4), (⟨[(1 : Int), (6 : Int), (11 : Int), (12 : Int)], rfl⟩ : ag Int 4), (⟨[(2 : Int), (7 : Int), (8 : Int), (13 : Int)], rfl⟩ : ag Int 4), (⟨[(3 : Int), (4 : Int), (9 : Int), (14 : Int)], rfl⟩ : ag Int 4)], rfl⟩ : ag (ag Int 4) 8)] (Pt.at g 0) k_ rfl .all (by kernel_rfl) (by kernel_rfl) ?_
 intro jh bN
 refine ad <| aa <| aG ?_
 obtain rfl := Option.some.inj hm
 refine aH [.agg [.ar (eV eI 4) (⟨[(⟨[(0 : Int), (4 : Int), (8 : Int), (12 : Int)], rfl⟩ : ag Int 4), (⟨[(1 : Int), (5 : Int), (9 : Int), (13 : Int)], rfl⟩ : ag Int 4), (⟨[(2 : Int), (6 : Int), (10 : Int), (14 : Int)], rfl⟩ : ag Int 4), (⟨[(3 : Int), (7 : Int), (11 : Int), (15 : Int)], rfl⟩ : ag Int 4), (⟨[(0 : Int), (5 : Int), (10 : Int), (15 : Int)], rfl⟩ : ag Int 4), (⟨[(1 : Int), (6 : Int), (11 : Int), (12 : Int)], rfl⟩ : ag Int 4), (⟨[(2 : Int), (7 : Int), (8 : Int), (13 : Int)], rfl⟩ : ag Int 4), (⟨[(3 : Int), (4 : Int), (9 : Int), (14 : Int)], rfl⟩ : ag Int 4)], rfl⟩ : ag (ag Int 4) 8)]] (qo (.agg [.ar (eV eI 4) (⟨[(⟨[(0 : Int), (4 : Int), (8 : Int), (12 : Int)], rfl⟩ : ag Int 4), (⟨[(1 : Int), (5 : Int), (9 : Int), (13 : Int)], rfl⟩ : ag Int 4), (⟨[(2 : Int), (6 : Int), (10 : Int), (14 : Int)], rfl⟩ : ag Int 4), (⟨[(3 : Int), (7 : Int), (11 : Int), (15 : Int)], rfl⟩ : ag Int 4), (⟨[(0 : Int), (5 : Int), (10 : Int), (15 : Int)], rfl⟩ : ag Int 4), (⟨[(1 : Int), (6 : Int), (11 : Int), (12 : Int)], rfl⟩ : ag Int 4), (⟨[(2 : Int), (7 : Int), (8 : Int), (13 : Int)], rfl⟩ : ag Int 4), (⟨[(3 : Int), (4 : Int), (9 : Int), (14 : Int)], rfl⟩ : ag Int 4)], rfl⟩ : ag (ag Int 4) 8)]) <| qc (fun w => Rd w (some ⟨g, 0, none⟩) (SV.cl [.ar (eV eI 4) (⟨[(⟨[(0 : Int), (4 : Int), (8 : Int), (12 : Int)], rfl⟩ : ag Int 4), (⟨[(1 : Int), (5 : Int), (9 : Int), (13 : Int)], rfl⟩ : ag Int 4), (⟨[(2 : Int), (6 : Int), (10 : Int), (14 : Int)], rfl⟩ : ag Int 4), (⟨[(3 : Int), (7 : Int), (11 : Int), (15 : Int)], rfl⟩ : ag Int 4), (⟨[(0 : Int), (5 : Int), (10 : Int), (15 : Int)], rfl⟩ : ag Int 4), (⟨[(1 : Int), (6 : Int), (11 : Int), (12 : Int)], rfl⟩ : ag Int 4), (⟨[(2 : Int), (7 : Int), (8 : Int), (13 : Int)], rfl⟩ : ag Int 4), (⟨[(3 : Int), (4 : Int), (9 : Int), (14 : Int)], rfl⟩ : ag Int 4)], rfl⟩ : ag (ag Int 4) 8)])) (bN.pV 0 rfl) <| qe) (by kernel_rfl) ?_
 have cG := bN.ba .z
 exact ⟨rfl, cG⟩
theorem fW {F O : Nat → Prop} {w : World} (x_ : UInt32) (k_ : Int) (k : Cx F O w w []) (r : UInt32) (hm : bP x_ k_ = some r) :
    Calls Try.prog 87 (ak [.u32 x_, I k_]) w (fun e w' => e = .returned (SV.val (.u32 r)) ∧ Cx F O w w' []) := by
 unfold bP at hm
 refine calls [.u32 x_, I k_] Try.func87 rfl (of_decide_eq_true (by kernel_rfl)) ?_
 refine ab <| aV [] .a qe (by kernel_rfl) ?_
 refine aa <| ab <| aV [] (.n 5 (.u64 ((UInt64.ofInt k_) &&& 31)) (.k .z)) qe (by kernel_rfl) ?_
 refine aa <| ab <| aV [] (.n 4 (.u32 ((kJ x_ (((UInt64.ofInt k_) &&& 31).toNat)) ||| (eD x_ (((32 : UInt64) - ((UInt64.ofInt k_) &&& 31)).toNat)))) .z) qe (by kernel_rfl) ?_
 refine aa <| aG ?_
 obtain rfl := Option.some.inj hm
 refine aH [.u32 ((kJ x_ (((UInt64.ofInt k_) &&& 31).toNat)) ||| (eD x_ (((32 : UInt64) - ((UInt64.ofInt k_) &&& 31)).toNat)))] qe (by kernel_rfl) ?_
 exact ⟨rfl, k⟩
theorem y6 {F O : Nat → Prop} {w : World} (v : ag UInt32 16) (a_ : Int) (b : Int) (c : Int) (d : Int) (x_ : UInt32) (y_ : UInt32) (bS : Nat) (k : Cx F O w w [Bx 153 bS [.ar bm v]]) (r : (ag UInt32 16)) (hm : ld v a_ b c d x_ y_ = some r) :
    Calls Try.prog 85 (ak [pt bS 0, I a_, I b, I c, I d, .u32 x_, .u32 y_]) w (fun e w' => e = .returned (SV.val (.dB [])) ∧ Cx F O w w' [Bx 153 bS [.ar bm r]]) := by
 unfold ld at hm
 refine calls [pt bS 0, I a_, I b, I c, I d, .u32 x_, .u32 y_] Try.func85 rfl (of_decide_eq_true (by kernel_rfl)) ?_
 refine ab ?_
 have k_ := k.drew 1
 refine lJ aT (.q 0 0 (.q 1 0 (.q 2 0 (.q 3 0 (.q 4 0 (.q 5 0 (.q 6 0 (.q 7 0 (.q 8 0 (.q 9 0 (.q 10 0 (.q 11 0 (.q 12 0 (.q 13 0 (.q 14 0 (.op 15 .nil)))))))))))))))) [15] k_ (.c (.z) .l) (by kernel_rfl) (fun _ => ?_)
 obtain ⟨bk, dA, hm⟩ := ob hm
 obtain ⟨dQ, fI, hm⟩ := ob hm
 obtain ⟨cY, ij, hm⟩ := ob hm
 refine bo 15 0 [] (.n 26 (.u32 (bk + (dQ + x_))) (.n 28 (.v (.pointer (il (some ⟨bS, 0, none⟩) a_ 1))) (.bb (.k (.s .a))))) (fun x hx => qs bS 0 <| qV (hx.iw 0 rfl bm v 0 (by kernel_rfl)) dA rfl (.u32 bk) rfl <| qs bS 0 <| qV (hx.iw 0 rfl bm v 0 (by kernel_rfl)) fI rfl (.u32 dQ) rfl <| qs bS 0 <| qI bS 0 ij <| qe) (by kernel_rfl) (fun _ => ?_)
 refine bl (by kernel_rfl) rfl ?_
 obtain ⟨v1, tn, hm⟩ := nm hm
 refine fC (E := bm) (kk := 0) [] 0 (.u32 (bk + (dQ + x_))) [.u32 (bk + (dQ + x_))] tn ij (Pt.p5 (Pt.at bS 0) a_ 1) k_ rfl .h rfl (by kernel_rfl) (by kernel_rfl) ?_
 intro w_ bN
 refine ⟨(bN.ba .z), fun _ => ?_⟩
 refine bC <| aa <| ab ?_
 have cG := bN.drew 1
 refine lJ aT (.q 0 1 (.q 1 1 (.q 2 1 (.q 3 1 (.q 4 1 (.q 5 1 (.q 6 0 (.q 7 1 (.q 8 1 (.q 9 1 (.q 10 1 (.q 11 0 (.q 12 0 (.q 14 1 (.op 13 (.q 15 1 (.op 16 .nil))))))))))))))))) [13, 16] cG (.c (.k .e) (.c (.z) .l)) (by kernel_rfl) (fun _ => ?_)
 obtain ⟨cC, jE, hm⟩ := ob hm
 refine bo 6 1 [] (.n 29 (pt bS 0) (.n 30 (I d) (.n 34 (.v (.pointer (il (some ⟨bS, 0, none⟩) d 1))) (.ss .a)))) (fun x hx => qs bS 0 <| qI bS 0 jE <| qe) (by kernel_rfl) (fun _ => ?_)
 refine bo 1 0 [] (.n 35 (.u32 cC) (.kk (.s .a))) (fun x hx => qC (.u32 cC) (Rd.el (k := 0) (hx.iw 0 rfl bm v1 0 (by kernel_rfl)) jE (Pt.oZ (some ⟨bS, 0, none⟩) d 1) rfl) <| qe) (by kernel_rfl) (fun _ => ?_)
 obtain ⟨gq, nt, hm⟩ := ob hm
 refine bo 4 1 [] (.n 39 (.v (.pointer (il (some ⟨bS, 0, none⟩) a_ 1))) .a) (fun x hx => qs bS 0 <| qI bS 0 nt <| qe) (by kernel_rfl) (fun _ => ?_)
 refine bo 2 0 [] (.n 41 (.u32 (cC ^^^ gq)) (.ss .a)) (fun x hx => qC (.u32 gq) (Rd.el (k := 0) (hx.iw 0 rfl bm v1 0 (by kernel_rfl)) nt (Pt.oZ (some ⟨bS, 0, none⟩) a_ 1) rfl) <| qe) (by kernel_rfl) (fun _ => ?_)
 refine bo 1 1 [] (.n 43 (pt bS 0) (.k (.s .a))) (fun x hx => qs bS 0 <| qe) (by kernel_rfl) (fun _ => ?_)
 refine bl (by kernel_rfl) rfl ?_
 obtain ⟨r_, cc, hm⟩ := ob hm
 refine ax [] 42 _ so (by kernel_rfl) (fW (F := N0) (O := N0) _ _ (Cx.refl _) _ cc) ?_
 rintro e_ jh ⟨rfl, cD⟩
 have dm := cG.call cD
 refine ⟨.u32 r_, rfl, ?_⟩
 refine ⟨dm, fun _ => ?_⟩
 obtain ⟨gd, nu, hm⟩ := ob hm
 refine bo 1 1 [] (.n 44 (.v (.pointer (il (some ⟨bS, 0, none⟩) d 1))) (.k (.ib .a))) (fun x hx => qI bS 0 nu <| qe) (by kernel_rfl) (fun _ => ?_)
 refine bl (by kernel_rfl) rfl ?_
 obtain ⟨v2, HL, hm⟩ := nm hm
 refine fC (E := bm) (kk := 0) [] 0 (.u32 r_) [.u32 r_] HL nu (Pt.p5 (Pt.at bS 0) d 1) dm rfl .h rfl (by kernel_rfl) (by kernel_rfl) ?_
 intro kI dx
 refine ⟨(dx.ba .z), fun _ => ?_⟩
 refine bC <| aa <| ab ?_
 have dV := dx.drew 1
 refine lJ aT (.q 0 0 (.q 1 0 (.q 2 0 (.q 3 0 (.q 4 0 (.q 5 0 (.q 6 0 (.q 7 0 (.q 8 0 (.q 9 0 (.q 10 0 (.q 11 0 (.q 12 0 (.op 13 .nil)))))))))))))) [13] dV (.c (.z) .l) (by kernel_rfl) (fun _ => ?_)
 obtain ⟨kF, uO, hm⟩ := ob hm
 obtain ⟨lb, rN, hm⟩ := ob hm
 obtain ⟨eM, pG, hm⟩ := ob hm
 refine bo 13 0 [] (.n 55 (.u32 (kF + lb)) (.n 57 (.v (.pointer (il (some ⟨bS, 0, none⟩) c 1))) (.ss .a))) (fun x hx => qs bS 0 <| qV (hx.iw 0 rfl bm v2 0 (by kernel_rfl)) uO rfl (.u32 kF) rfl <| qs bS 0 <| qV (hx.iw 0 rfl bm v2 0 (by kernel_rfl)) rN rfl (.u32 lb) rfl <| qs bS 0 <| qI bS 0 pG <| qe) (by kernel_rfl) (fun _ => ?_)
 refine bl (by kernel_rfl) rfl ?_
 obtain ⟨v3, y3, hm⟩ := nm hm
 refine fC (E := bm) (kk := 0) [] 0 (.u32 (kF + lb)) [.u32 (kF + lb)] y3 pG (Pt.p5 (Pt.at bS 0) c 1) dV rfl .h rfl (by kernel_rfl) (by kernel_rfl) ?_
 intro mb ed
 refine ⟨(ed.ba .z), fun _ => ?_⟩
 refine bC <| aa <| ab ?_
 have eo := ed.drew 1
 refine lJ aT (.q 0 1 (.q 1 1 (.q 2 1 (.q 3 1 (.q 4 1 (.q 5 1 (.q 6 0 (.q 7 1 (.q 8 1 (.q 9 1 (.q 10 1 (.q 11 0 (.q 12 0 (.q 14 1 (.op 13 (.q 15 1 (.op 16 .nil))))))))))))))))) [13, 16] eo (.c (.k .e) (.c (.z) .l)) (by kernel_rfl) (fun _ => ?_)
 obtain ⟨bX, tp, hm⟩ := ob hm
 refine bo 6 1 [] (.n 58 (pt bS 0) (.n 59 (I b) (.n 63 (.v (.pointer (il (some ⟨bS, 0, none⟩) b 1))) (.ss .a)))) (fun x hx => qs bS 0 <| qI bS 0 tp <| qe) (by kernel_rfl) (fun _ => ?_)
 refine bo 1 0 [] (.n 64 (.u32 bX) (.kk (.s .a))) (fun x hx => qC (.u32 bX) (Rd.el (k := 0) (hx.iw 0 rfl bm v3 0 (by kernel_rfl)) tp (Pt.oZ (some ⟨bS, 0, none⟩) b 1) rfl) <| qe) (by kernel_rfl) (fun _ => ?_)
 obtain ⟨pr, wq, hm⟩ := ob hm
 refine bo 4 1 [] (.n 68 (.v (.pointer (il (some ⟨bS, 0, none⟩) c 1))) .a) (fun x hx => qs bS 0 <| qI bS 0 wq <| qe) (by kernel_rfl) (fun _ => ?_)
 refine bo 2 0 [] (.n 70 (.u32 (bX ^^^ pr)) (.ss .a)) (fun x hx => qC (.u32 pr) (Rd.el (k := 0) (hx.iw 0 rfl bm v3 0 (by kernel_rfl)) wq (Pt.oZ (some ⟨bS, 0, none⟩) c 1) rfl) <| qe) (by kernel_rfl) (fun _ => ?_)
 refine bo 1 1 [] (.n 72 (pt bS 0) (.k (.s .a))) (fun x hx => qs bS 0 <| qe) (by kernel_rfl) (fun _ => ?_)
 refine bl (by kernel_rfl) rfl ?_
 have eU := eo.ba (.k .e)
 obtain ⟨aE, cB, hm⟩ := ob hm
 refine ax [] 71 _ so (by kernel_rfl) (fW (F := N0) (O := N0) _ _ (Cx.refl _) _ cB) ?_
 rintro e_ mc ⟨rfl, bH⟩
 have bD := eU.call bH
 refine ⟨.u32 aE, rfl, ?_⟩
 refine ⟨bD, fun _ => ?_⟩
 obtain ⟨rU, wu, hm⟩ := ob hm
 refine bo 1 1 [] (.n 73 (.v (.pointer (il (some ⟨bS, 0, none⟩) b 1))) (.k (.ib .a))) (fun x hx => qI bS 0 wu <| qe) (by kernel_rfl) (fun _ => ?_)
 refine bl (by kernel_rfl) rfl ?_
 obtain ⟨v4, HM, hm⟩ := nm hm
 refine fC (E := bm) (kk := 0) [] 0 (.u32 aE) [.u32 aE] HM wu (Pt.p5 (Pt.at bS 0) b 1) bD rfl .h rfl (by kernel_rfl) (by kernel_rfl) ?_
 intro oH cS
 refine ⟨(cS.ba .z), fun _ => ?_⟩
 refine bC <| aa <| ab ?_
 have dk := cS.drew 1
 refine lJ aT (.q 0 0 (.q 1 0 (.q 2 0 (.q 3 0 (.q 4 0 (.q 5 0 (.q 6 0 (.q 7 0 (.q 8 0 (.q 9 0 (.q 10 0 (.q 11 0 (.q 12 0 (.q 13 0 (.q 14 0 (.op 15 .nil)))))))))))))))) [15] dk (.c (.z) .l) (by kernel_rfl) (fun _ => ?_)
 obtain ⟨tX, wv, hm⟩ := ob hm
 obtain ⟨oS, wx, hm⟩ := ob hm
 obtain ⟨tY, tq, hm⟩ := ob hm
 refine bo 15 0 [] (.n 86 (.u32 (tX + (oS + y_))) (.n 88 (.v (.pointer (il (some ⟨bS, 0, none⟩) a_ 1))) (.ss (.bb (.k .z))))) (fun x hx => qs bS 0 <| qV (hx.iw 0 rfl bm v4 0 (by kernel_rfl)) wv rfl (.u32 tX) rfl <| qs bS 0 <| qV (hx.iw 0 rfl bm v4 0 (by kernel_rfl)) wx rfl (.u32 oS) rfl <| qs bS 0 <| qI bS 0 tq <| qe) (by kernel_rfl) (fun _ => ?_)
 refine bl (by kernel_rfl) rfl ?_
 obtain ⟨v5, y4, hm⟩ := nm hm
 refine fC (E := bm) (kk := 0) [] 0 (.u32 (tX + (oS + y_))) [.u32 (tX + (oS + y_))] y4 tq (Pt.p5 (Pt.at bS 0) a_ 1) dk rfl .h rfl (by kernel_rfl) (by kernel_rfl) ?_
 intro qD dD
 refine ⟨(dD.ba .z), fun _ => ?_⟩
 refine bC <| aa <| ab ?_
 have et := dD.drew 1
 refine lJ aT (.q 0 1 (.q 1 1 (.q 2 1 (.q 3 1 (.q 4 1 (.q 5 1 (.q 6 0 (.q 7 1 (.q 8 1 (.q 9 1 (.q 10 1 (.q 11 0 (.q 12 0 (.q 14 1 (.op 13 (.q 15 1 (.op 16 .nil))))))))))))))))) [13, 16] et (.c (.k .e) (.c (.z) .l)) (by kernel_rfl) (fun _ => ?_)
 obtain ⟨vQ, tr, hm⟩ := ob hm
 refine bo 6 1 [] (.n 89 (pt bS 0) (.n 90 (I d) (.n 94 (.v (.pointer (il (some ⟨bS, 0, none⟩) d 1))) (.ss .a)))) (fun x hx => qs bS 0 <| qI bS 0 tr <| qe) (by kernel_rfl) (fun _ => ?_)
 refine bo 1 0 [] (.n 95 (.u32 vQ) (.kk (.s .a))) (fun x hx => qC (.u32 vQ) (Rd.el (k := 0) (hx.iw 0 rfl bm v5 0 (by kernel_rfl)) tr (Pt.oZ (some ⟨bS, 0, none⟩) d 1) rfl) <| qe) (by kernel_rfl) (fun _ => ?_)
 obtain ⟨oT, wy, hm⟩ := ob hm
 refine bo 4 1 [] (.n 99 (.v (.pointer (il (some ⟨bS, 0, none⟩) a_ 1))) (.bb (.s .a))) (fun x hx => qs bS 0 <| qI bS 0 wy <| qe) (by kernel_rfl) (fun _ => ?_)
 refine bo 2 0 [] (.n 101 (.u32 (vQ ^^^ oT)) (.ss .a)) (fun x hx => qC (.u32 oT) (Rd.el (k := 0) (hx.iw 0 rfl bm v5 0 (by kernel_rfl)) wy (Pt.oZ (some ⟨bS, 0, none⟩) a_ 1) rfl) <| qe) (by kernel_rfl) (fun _ => ?_)
 refine bo 1 1 [] (.n 103 (pt bS 0) (.k (.s .a))) (fun x hx => qs bS 0 <| qe) (by kernel_rfl) (fun _ => ?_)
 refine bl (by kernel_rfl) rfl ?_
 obtain ⟨bz, gu, hm⟩ := ob hm
 refine ax [] 102 _ so (by kernel_rfl) (fW (F := N0) (O := N0) _ _ (Cx.refl _) _ gu) ?_
 rintro e_ rL ⟨rfl, eC⟩
 have eW := et.call eC
 refine ⟨.u32 bz, rfl, ?_⟩
 refine ⟨eW, fun _ => ?_⟩
 obtain ⟨qa, wz, hm⟩ := ob hm
 refine bo 1 1 [] (.n 104 (.v (.pointer (il (some ⟨bS, 0, none⟩) d 1))) (.k (.ib .a))) (fun x hx => qI bS 0 wz <| qe) (by kernel_rfl) (fun _ => ?_)
 refine bl (by kernel_rfl) rfl ?_
 have fN := eW.ba (.k .e)
 obtain ⟨v6, HN, hm⟩ := nm hm
 refine fC (E := bm) (kk := 0) [] 0 (.u32 bz) [.u32 bz] HN wz (Pt.p5 (Pt.at bS 0) d 1) fN rfl .h rfl (by kernel_rfl) (by kernel_rfl) ?_
 intro uL iW
 refine ⟨(iW.ba .z), fun _ => ?_⟩
 refine bC <| aa <| ab ?_
 have fH := iW.drew 1
 refine lJ aT (.q 0 0 (.q 1 0 (.q 2 0 (.q 3 0 (.q 4 0 (.q 5 0 (.q 6 0 (.q 7 0 (.q 8 0 (.q 9 0 (.q 10 0 (.q 11 0 (.q 12 0 (.op 13 .nil)))))))))))))) [13] fH (.c (.z) .l) (by kernel_rfl) (fun _ => ?_)
 obtain ⟨tc, wA, hm⟩ := ob hm
 obtain ⟨oU, wB, hm⟩ := ob hm
 obtain ⟨tZ, ts, hm⟩ := ob hm
 refine bo 13 0 [] (.n 115 (.u32 (tc + oU)) (.n 117 (.v (.pointer (il (some ⟨bS, 0, none⟩) c 1))) (.ss (.nJ .z)))) (fun x hx => qs bS 0 <| qV (hx.iw 0 rfl bm v6 0 (by kernel_rfl)) wA rfl (.u32 tc) rfl <| qs bS 0 <| qV (hx.iw 0 rfl bm v6 0 (by kernel_rfl)) wB rfl (.u32 oU) rfl <| qs bS 0 <| qI bS 0 ts <| qe) (by kernel_rfl) (fun _ => ?_)
 refine bl (by kernel_rfl) rfl ?_
 obtain ⟨v7, HO, hm⟩ := nm hm
 refine fC (E := bm) (kk := 0) [] 0 (.u32 (tc + oU)) [.u32 (tc + oU)] HO ts (Pt.p5 (Pt.at bS 0) c 1) fH rfl .h rfl (by kernel_rfl) (by kernel_rfl) ?_
 intro xI gA
 refine ⟨(gA.ba .z), fun _ => ?_⟩
 refine bC <| aa ?_
 have iA := gA.drew 1
 refine lJ aT (.q 0 1 (.q 1 1 (.q 2 1 (.q 3 1 (.q 4 1 (.q 5 1 (.q 6 0 (.q 7 1 (.q 8 1 (.q 9 1 (.q 10 1 (.q 11 0 (.q 12 0 (.q 14 1 (.op 13 (.q 15 1 (.op 16 .nil))))))))))))))))) [13, 16] iA (.c (.k .e) (.c (.z) .l)) (by kernel_rfl) (fun _ => ?_)
 obtain ⟨vR, tt, hm⟩ := ob hm
 refine bo 6 1 [] (.n 118 (pt bS 0) (.n 119 (I b) (.n 123 (.v (.pointer (il (some ⟨bS, 0, none⟩) b 1))) (.ss (.k (.s .a)))))) (fun x hx => qs bS 0 <| qI bS 0 tt <| qe) (by kernel_rfl) (fun _ => ?_)
 refine bo 1 0 [] (.n 124 (.u32 vR) (.kk (.s .a))) (fun x hx => qC (.u32 vR) (Rd.el (k := 0) (hx.iw 0 rfl bm v7 0 (by kernel_rfl)) tt (Pt.oZ (some ⟨bS, 0, none⟩) b 1) rfl) <| qe) (by kernel_rfl) (fun _ => ?_)
 obtain ⟨pv, wC, hm⟩ := ob hm
 refine bo 4 1 [] (.n 128 (.v (.pointer (il (some ⟨bS, 0, none⟩) c 1))) (.nJ .z)) (fun x hx => qs bS 0 <| qI bS 0 wC <| qe) (by kernel_rfl) (fun _ => ?_)
 refine bo 2 0 [] (.n 130 (.u32 (vR ^^^ pv)) (.ss .a)) (fun x hx => qC (.u32 pv) (Rd.el (k := 0) (hx.iw 0 rfl bm v7 0 (by kernel_rfl)) wC (Pt.oZ (some ⟨bS, 0, none⟩) c 1) rfl) <| qe) (by kernel_rfl) (fun _ => ?_)
 refine bo 1 1 [] (.n 132 (pt bS 0) (.k (.s .a))) (fun x hx => qs bS 0 <| qe) (by kernel_rfl) (fun _ => ?_)
 refine bl (by kernel_rfl) rfl ?_
 obtain ⟨dy, kz, hm⟩ := ob hm
 refine ax [] 131 _ so (by kernel_rfl) (fW (F := N0) (O := N0) _ _ (Cx.refl _) _ kz) ?_
 rintro e_ rk ⟨rfl, jL⟩
 have iv := iA.call jL
 refine ⟨.u32 dy, rfl, ?_⟩
 refine ⟨iv, fun _ => ?_⟩
 obtain ⟨rV, wD, hm⟩ := ob hm
 refine bo 1 1 [] (.n 133 (.v (.pointer (il (some ⟨bS, 0, none⟩) b 1))) (.k .z)) (fun x hx => qI bS 0 wD <| qe) (by kernel_rfl) (fun _ => ?_)
 refine bl (by kernel_rfl) rfl ?_
 obtain ⟨v8, HQ, hm⟩ := nm hm
 refine fC (E := bm) (kk := 0) [] 0 (.u32 dy) [.u32 dy] HQ wD (Pt.p5 (Pt.at bS 0) b 1) iv rfl .h rfl (by kernel_rfl) (by kernel_rfl) ?_
 intro uc iX
 refine ⟨(iX.ba .z), fun _ => ?_⟩
 refine bC ?_
 obtain rfl := Option.some.inj hm
 refine nk [] qe (by kernel_rfl) ?_
 exact ⟨rfl, iX⟩
theorem wH {F O : Nat → Prop} {w : World} (v : ag UInt32 16) (m_ : ag UInt32 16) (r_ : Int) (bS : Nat) (ug : Nat) (k : Cx F O w w [Bx 153 bS [.ar bm v], Bx 153 ug [.ar bm m_]]) (r : (ag UInt32 16 × ag UInt32 16)) (hm : jv v m_ r_ = some r) :
    Calls Try.prog 79 (ak [pt bS 0, pt ug 0, I r_]) w (fun e w' => e = .returned (SV.val (.dB [])) ∧ Cx F O w w' [Bx 153 bS [.ar bm r.1], Bx 153 ug [.ar bm r.2]]) := by
 unfold jv at hm
 refine calls [pt bS 0, pt ug 0, I r_] Try.func79 rfl (of_decide_eq_true (by kernel_rfl)) ?_
 refine ab <| aj <| aQ 1 [] (.n 9 (I r_) (.kk .z)) qe (by kernel_rfl) ?_
 refine ae ?_
 obtain ⟨aE, cB, hm⟩ := ob hm
 refine ax [] 10 _ zZ (by kernel_rfl) (qm (F := N0) (O := N0) _ (Cx.refl _) _ cB) ?_
 rintro e_ w_ ⟨rfl, k_⟩
 have bN := k.call k_
 refine ⟨.agg [.ar eI aE], rfl, ?_⟩
 refine ae <| aU [] 6 [.ar eI (ag.rep 16 (0 : Int))] (by kernel_rfl) bN ?_
 intro g jh cG
 refine ae <| cE [] 2 (.agg [.ar eI aE]) [.ar eI aE] (Pt.at g 0) cG rfl .all (by kernel_rfl) (by kernel_rfl) ?_
 intro kI cD
 refine ad <| aa <| ab <| aj <| ae ?_
 obtain ⟨bz, gu, hm⟩ := ob hm
 refine ax [] 11 _ E7 (by kernel_rfl) (uh (F := N0) (O := N0)  (Cx.refl _) _ gu) ?_
 rintro e_ mb ⟨rfl, dm⟩
 have dx := cD.call dm
 refine ⟨.agg [.ar (eV eI 4) bz], rfl, ?_⟩
 refine aQ 1 [] (.n 12 (I 0) (.kk (.ss .a))) qe (by kernel_rfl) ?_
 refine ad <| aa <| aI <| jQ (iI m_ aE bz) (fun s L wr => ∃ (v1 : ag UInt32 16) (av : Int), (v1, av) = s ∧ L = [(0, pt bS 0), (1, pt ug 0), (6, pt g 0), (11, .agg [.ar (eV eI 4) bz]), (12, I av)] ∧ Cx F O w wr [Bx 153 bS [.ar bm v1], Bx 153 ug [.ar bm m_], Bx 168 g [.ar eI aE]]) (v, (0 : Int)) r hm ⟨v, (0 : Int), rfl, rfl, dx⟩ (by kernel_rfl) ?_
 intro rW L_ mc y0 ef bj jH
 obtain ⟨v1, av, rfl, rfl, dV⟩ := ef
 have hm := bj; simp only [iI] at hm
 clear bj
 refine ab <| aV [] (.n 13 (.b (decide (av < 8))) .a) qe (by kernel_rfl) ?_
 refine aa <| ab <| aN (av < 8) (by kernel_rfl) (fun hc => ?_) (fun hc => ?_)
 · rw [if_pos hc] at hm
   refine aL <| aa <| ab <| aI <| ab <| aj ?_
   obtain ⟨bk, dA, hm⟩ := ob hm
   refine aQ 2 [] (.n 14 (I av) (.n 15 (.agg [.ar eI bk]) (.s .a))) (qo (.agg [.ar eI bk]) <| qp ((0 ≤ av ∧ av < ((8 : Nat) : Int)) ∧ ((SV.cl [.ar (eV eI 4) bz]).drop (Int.toNat av * 4)).take 4 = SV.cl [.ar eI bk]) (B9 (E := eI) dA) <| qe) (by kernel_rfl) ?_
   refine ae <| aU [] 8 [.ar eI (ag.rep 4 (0 : Int))] (by kernel_rfl) dV ?_
   intro g1 oH ed
   refine aQ 1 [] (.n 7 (I av) (.k (.s .a))) qe (by kernel_rfl) ?_
   refine ae <| cE [] 3 (.agg [.ar eI bk]) [.ar eI bk] (Pt.at g1 0) ed rfl .all (by kernel_rfl) (by kernel_rfl) ?_
   intro qD eo
   refine ad <| aa ?_
   have eU := eo.drew 1
   refine lJ aT (.q 0 0 (.q 1 0 (.q 2 0 (.q 3 0 (.q 4 0 (.q 5 0 (.q 6 0 (.q 7 0 (.q 8 0 (.q 9 1 (.q 10 1 (.q 11 1 (.q 12 1 (.q 13 1 (.q 14 1 (.q 15 0 (.q 16 0 (.q 17 1 (.q 18 1 (.q 19 1 (.q 20 1 (.q 21 1 (.q 22 1 (.q 23 1 (.q 24 0 (.q 25 0 (.op 26 .nil))))))))))))))))))))))))))) [26] eU (.c (.s (.kk (.k .e))) .l) (by kernel_rfl) (fun _ => ?_)
   obtain ⟨dQ, fI, hm⟩ := ob hm
   obtain ⟨cY, ij, hm⟩ := ob hm
   obtain ⟨cC, jE, hm⟩ := ob hm
   obtain ⟨gq, nt, hm⟩ := ob hm
   refine bo 9 0 [] (.n 16 (pt bS 0) (.n 18 (I dQ) (.n 20 (I cY) (.n 22 (I cC) (.n 24 (I gq) (.k (.ss .a))))))) (fun x hx => qV (hx.iw 3 rfl eI bk 0 (by kernel_rfl)) fI rfl (I dQ) rfl <| qV (hx.iw 3 rfl eI bk 0 (by kernel_rfl)) ij rfl (I cY) rfl <| qV (hx.iw 3 rfl eI bk 0 (by kernel_rfl)) jE rfl (I cC) rfl <| qV (hx.iw 3 rfl eI bk 0 (by kernel_rfl)) nt rfl (I gq) rfl <| qe) (by kernel_rfl) (fun _ => ?_)
   obtain ⟨gd, nu, hm⟩ := ob hm
   refine bo 6 1 [] (.n 29 (I gd) (.n 30 (pt ug 0) .a)) (fun x hx => qV (hx.iw 1 rfl eI aE 0 (by kernel_rfl)) nu rfl (I gd) rfl <| qs ug 0 <| qe) (by kernel_rfl) (fun _ => ?_)
   obtain ⟨kF, uO, hm⟩ := ob hm
   refine bo 2 0 [] (.n 32 (.u32 kF) (.ss .a)) (fun x hx => qV (hx.iw 1 rfl bm m_ 0 (by kernel_rfl)) uO rfl (.u32 kF) rfl <| qe) (by kernel_rfl) (fun _ => ?_)
   obtain ⟨lb, rN, hm⟩ := ob hm
   refine bo 7 1 [] (.n 38 (I lb) (.n 39 (pt ug 0) (.bb (.kk (.s .a))))) (fun x hx => qV (hx.iw 1 rfl eI aE 0 (by kernel_rfl)) rN rfl (I lb) rfl <| qs ug 0 <| qe) (by kernel_rfl) (fun _ => ?_)
   obtain ⟨eM, pG, hm⟩ := ob hm
   refine bo 2 0 [] (.n 41 (.u32 eM) (.ss .a)) (fun x hx => qV (hx.iw 1 rfl bm m_ 0 (by kernel_rfl)) pG rfl (.u32 eM) rfl <| qe) (by kernel_rfl) (fun _ => ?_)
   refine bl (by kernel_rfl) rfl ?_
   obtain ⟨dy, kz, hm⟩ := ob hm
   obtain ⟨F1, O1, oV, hO, xK, hF, hb⟩ := eU.go (.i (.r (.r (.r .e))))
   refine ax [] 42 _ E8 (by kernel_rfl) (y6 (F := F1) (O := O1) _ _ _ _ _ _ _ _ oV _ kz) ?_
   rintro e_ rL ⟨rfl, bH⟩
   have bD := hb rL _ _ bH (.c .n)
   refine ⟨.dB [], rfl, ?_⟩
   refine ⟨(bD.ba (.s (.kk (.k .e)))), fun _ => ?_⟩
   refine bC <| cu <| aa <| aV [] (.n 12 (I (aA (av + 1))) (.fi (.fi (.bb .z)))) qe (by kernel_rfl) ?_
   have cS := bD.ba (.kk (.k .z))
   exact fO (dy, aA (av + 1)) (Option.some.inj hm).symm ⟨dy, aA (av + 1), rfl, rfl, cS⟩ (by kernel_rfl)
 rw [if_neg hc] at hm
 refine cA (bu (bu (dZ ?_)))
 have hm := bT hm jH
 obtain rfl := Option.some.inj hm
 refine nk [] qe (by kernel_rfl) ?_
 have dk := dV.ba (.kk .z)
 exact ⟨rfl, dk⟩
end Go.Sx
