/- XS file US UT OL 'GH of UT row 'VJ/On.Li: UT Go function returns true, and UT input reads as it ZH. Oo: none. -/
import Derived.Test.YtoedpdamhabkoaaRows
import Derived.WalkKit
import Derived.ProofKit
import Derived.OpenShut
import Derived.ShutString
import Derived.ChangeOld
import Derived.Below
import Derived.JoinedCond
import Derived.Test.YtoedpdamhabkoaaK6
namespace Go.Proofs.Ytoedpdamhabkoaa.diceWeights
open Go.ChangeShapes Go.WideShapes Go.ChangeAt Go.RowKit Go.Sx
open Go.ChangeMaps (open_string shut_string)
set_option linter.unusedVariables false
set_option linter.unusedSimpArgs false

theorem own : ownKnob Try.prog.godebug = none := by kernel_rfl
theorem laidOut : laidOutB Try.prog = true := by kernel_rfl
set_option maxRecDepth 100000 in
theorem I4 (H : Type) (enc : TypeId × Value → H) (W : World) (base : Nat) (args : Array Value) (ds gs : List (DataW H)) (before : List MemPlace)
    (L3 : ∀ (j : Nat) t v, Try.f4.params[j]? = some t → args[j]? = some v → Value.okWide Try.prog W .any base t v)
    (hW : DataW.Whole enc Try.prog Try.f4.params.toList Rows.diceWeightsSpec.vars false W args.toList ds gs before) :
    Calls Try.prog 4 args W fun e W' => ∃ v, e = .returned v ∧ Rows.diceWeightsSpec.post enc Try.prog Try.f4 false true false false W args v W' := by
  have I5 : ∀ (j : Nat) t v, Try.f4.params[j]? = some t → args[j]? = some v → Value.okWide Try.prog W .any base t v := L3
  have VK := hW
  obtain ⟨p, q, VL, hV, rfl, ZI, ZJ⟩ := hW
  have hA : DataW.TrodAll enc Try.prog W 0 (fun _ => true) true Try.f4.params.toList args.toList ds p := VL
  rw [Try.params4] at hA I5
  obtain ⟨v0, ZK, d0, ZL, p0, q0, yN, rfl, rfl, h0, r0⟩ := trodAll_cons hA
  obtain ⟨v1, ZM, d1, ZN, p1, q1, rfl, rfl, rfl, h1, r1⟩ := trodAll_cons r0
  obtain ⟨rfl, rfl, rfl⟩ := trodAll_nil r1
  obtain rfl : args = #[v0, v1] := by cases args; simp_all
  obtain ⟨rfl, rfl⟩ := trodVars_none hV
  have k0 := h0
  have XT : ∀ x ∈ p0, x.block < W.heap.size := by obtain ⟨m, hm⟩ := k0; exact DataW.trod_lt m _ _ _ hm
  obtain ⟨Mf, rfl⟩ := Ee Try.underlying33 (I5 0 33 v0 rfl rfl)
  obtain ⟨VM, VN⟩ := h0
  obtain ⟨Mf⟩ := Mf
  simp only [Value.cells] at VN
  obtain ⟨x2, e3⟩ := Hs Try.underlying33 Try.underlying5 (by kernel_rfl) (by kernel_rfl) VN
  subst e3
  have k1 := h1
  have XU : ∀ x ∈ p1, x.block < W.heap.size := by obtain ⟨m, hm⟩ := k1; exact DataW.trod_lt m _ _ _ hm
  obtain ⟨ZO, ZP, ZQ, rfl⟩ := okWide_slice Try.underlying34 (I5 1 34 v1 rfl rfl)
  obtain ⟨VO, VP⟩ := h1
  simp only [Value.cells] at VP
  obtain ⟨A4, UU, UW, x7, Ev, XV, UX, UY, XW⟩ := Gi Try.underlying34 Try.underlying40 (by kernel_rfl) VP
  simp only [List.cons.injEq, and_true] at Ev
  have Ql := Ev
  rw [Ql] at k1 VK ⊢
  clear VL L3
  have hm := xT x2 x7
  refine Calls.mono (vY (F := N0) (O := N0) x2 x7 A4 UU UW XV UX UY (Cx.refl _) true hm) fun e W' h => ?_
  obtain ⟨he, cx⟩ := h
  have UZ := cx.below
  subst he
  exact ⟨_, rfl, _, _, _, [], _, [], VK, (trodAll_cons_mk (shut_bool Try.underlying4 _) trodAll_mk0), (trodAll_cons_mk (Below.trod laidOut (by kernel_rfl) (of_decide_eq_true (by kernel_rfl)) k0 UZ XT) (trodAll_cons_mk (Below.trod laidOut (by kernel_rfl) (of_decide_eq_true (by kernel_rfl)) k1 UZ XU) trodAll_mk0)), rfl, UZ.frame _, fun h => by cases h⟩

set_option maxRecDepth 100000 in
theorem lifted (os : Os) (started : os.Started) (H : Type) (enc : TypeId × Value → H) :
    ReturnsInHanded {} Try.checked os 4 .any (Rows.diceWeightsSpec.pre6 enc Try.prog Try.f4 Rows.diceWeightsRow.domain false) (Rows.diceWeightsSpec.post enc Try.prog Try.f4 false true false false) := by
  refine returnsInHanded_of_change (C := Try.checked) own started (by kernel_rfl) Try.func4
    (ChangeSpec.witness6 (enc := enc) (C := Try.checked) false ⟨#[], #[.agg #[.int .u8 0, .int .u8 0, .int .u8 0, .int .u8 0, .int .u8 0, .int .u8 0, .int .u8 0, .int .u8 0], .slice none 0 0], []⟩ 8 (by kernel_rfl) (by kernel_rfl) (by kernel_rfl) (by kernel_rfl)) ?_
  intro W base args ds gs before I5 hW _ _
  exact I4 H enc W base args ds gs before I5 hW

theorem U0 : Rows.diceWeightsRow.holds Try.pinned (OpenSpec.ofChange Rows.diceWeightsSpec) :=
  OpenClaim.holds_of_wide 4 Try.f4 rfl rfl rfl rfl rfl rfl rfl ⟨rfl, rfl, rfl, rfl, rfl⟩ rfl rfl rfl rfl rfl (by kernel_rfl) Try.func4 (by kernel_rfl)
    (of_decide_eq_true (by kernel_rfl)) (by unfold Func.isWrapper; first | (rw [if_pos (by decide +kernel)]; kernel_rfl) | (rw [if_neg (by decide +kernel)]; exact ⟨rfl, rfl⟩))
    (fun os started H enc _ => lifted os started H enc)

theorem proved : Rows.DiceWeightsSaid := U0
#print axioms proved
end Go.Proofs.Ytoedpdamhabkoaa.diceWeights

