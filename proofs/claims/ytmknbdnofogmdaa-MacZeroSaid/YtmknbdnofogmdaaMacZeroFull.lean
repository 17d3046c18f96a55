/- This file proves the statement 'MacZeroSaid' of the row 'quern/quernlaw06.MacZero': the Go function returns true, and the input reads as it did. Conditions: none. -/
import Derived.Test.YtmknbdnofogmdaaRows
import Derived.WalkKit
import Derived.ProofKit
import Derived.OpenShut
import Derived.ShutString
import Derived.ChangeOld
import Derived.Below
import Derived.JoinedCond
import Derived.Test.YtmknbdnofogmdaaSyR
import Derived.Test.YtmknbdnofogmdaaWZ
import Derived.Test.YtmknbdnofogmdaaPZs
namespace Go.Proofs.Ytmknbdnofogmdaa.macZero
open Go.ChangeShapes Go.WideShapes Go.ChangeAt Go.RowKit Go.Sx
open Go.ChangeMaps (open_string shut_string)
set_option linter.unusedVariables false
set_option linter.unusedSimpArgs false

theorem own : ownKnob Try.prog.godebug = none := by kernel_rfl
theorem laidOut : laidOutB Try.prog = true := by kernel_rfl
set_option maxRecDepth 100000 in
theorem contract (H : Type) (enc : TypeId × Value → H) (W : World) (base : Nat) (args : Array Value) (ds gs : List (DataW H)) (before : List MemPlace)
    (hval0 : ∀ (j : Nat) t v, Try.f8.params[j]? = some t → args[j]? = some v → Value.okWide Try.prog W .any base t v)
    (hW : DataW.Whole enc Try.prog Try.f8.params.toList Rows.macZeroSpec.vars false W args.toList ds gs before) :
    Calls Try.prog 8 args W fun e W' => ∃ v, e = .returned v ∧ Rows.macZeroSpec.post enc Try.prog Try.f8 false true false false W args v W' := by
  have hval : ∀ (j : Nat) t v, Try.f8.params[j]? = some t → args[j]? = some v → Value.okWide Try.prog W .any base t v := hval0
  have hW' := hW
  obtain ⟨p, q, hA0, hV, rfl, hfz, hnd⟩ := hW
  have hA : DataW.TrodAll enc Try.prog W 0 (fun _ => true) true Try.f8.params.toList args.toList ds p := hA0
  rw [Try.params8] at hA hval
  obtain ⟨v0, vs0, d0, ds0, p0, q0, hargs, rfl, rfl, h0, r0⟩ := trodAll_cons hA
  obtain ⟨rfl, rfl, rfl⟩ := trodAll_nil r0
  obtain rfl : args = #[v0] := by cases args; simp_all
  obtain ⟨rfl, rfl⟩ := trodVars_none hV
  have k0 := h0
  have lt0 : ∀ x ∈ p0, x.block < W.heap.size := by obtain ⟨m, hm⟩ := k0; exact DataW.trod_lt m _ _ _ hm
  obtain ⟨cs1, rfl, hs2⟩ := okWide_struct Try.underlying56 (hval 0 56 v0 rfl rfl)
  obtain ⟨fuel0, hf0⟩ := h0
  obtain ⟨cs1⟩ := cs1
  simp only [Value.cells] at hf0
  obtain ⟨xs3, n4, hx5, hl6, hf7⟩ := open_fld Try.underlying56 hf0
  try dsimp only at hx5
  obtain ⟨y8, hm9, hy10⟩ := hf7 0 _ 3 0 1 rfl rfl rfl (by kernel_rfl)
  obtain ⟨m12, hc13, _, w14⟩ := DataW.trod_int Try.underlying3 hy10
  have r15 := wf_i64 w14
  obtain ⟨y16, hm17, hy18⟩ := hf7 1 _ 9 1 1 rfl rfl rfl (by kernel_rfl)
  obtain ⟨m20, hc21, hx22, w23⟩ := DataW.trod_string Try.underlying9 hy18
  obtain ⟨x24, e25, ln26⟩ := get_str m20
  rw [e25] at hc21
  obtain ⟨y28, hm29, hy30⟩ := hf7 2 _ 22 2 1 rfl rfl rfl (by kernel_rfl)
  obtain ⟨A32, len33, cap34, z35, hc36, w37, hb38⟩ := open_row Try.underlying22 Try.underlying5 (by kernel_rfl) hy30
  obtain ⟨x39, rd40, ln41, lc42⟩ := row_u8 w37
  obtain ⟨y44, hm45, hy46⟩ := hf7 3 _ 22 3 1 rfl rfl rfl (by kernel_rfl)
  obtain ⟨A48, len49, cap50, z51, hc52, w53, hb54⟩ := open_row Try.underlying22 Try.underlying5 (by kernel_rfl) hy46
  obtain ⟨x55, rd56, ln57, lc58⟩ := row_u8 w53
  have E60 := cut_at (cs1) 0 1 1 rfl
  rw [hc13] at E60
  rw [cut_at (cs1) 1 1 2 rfl, hc21] at E60
  rw [cut_at (cs1) 2 1 3 rfl, hc36] at E60
  rw [cut_at (cs1) 3 1 4 rfl, hc52] at E60
  rw [cut_end (cs1) _ 4 hl6 (by kernel_rfl)] at E60
  simp only [List.drop_zero, List.cons_append, List.nil_append, List.append_nil] at E60
  subst E60
  clear hA0 hval0
  have hm := p_l06_MacZero m12 r15 x24 x39 x55
  refine Calls.mono (c_l06_MacZero (F := N0) (O := N0) m12 x24 x39 x55 A32 len33 cap34 A48 len49 cap50 (Ro.n0 ((e8_all x39).symm ▸ rd40)) ln41 lc42 (Ro.n0 ((e8_all x55).symm ▸ rd56)) ln57 lc58 (Cx.refl _) true hm) fun e W' h => ?_
  obtain ⟨he, cx⟩ := h
  have bel := cx.below
  subst he
  exact ⟨_, rfl, _, _, _, [], _, [], hW', (trodAll_cons_mk (shut_bool Try.underlying4 _) trodAll_mk0), (trodAll_cons_mk (Below.trod laidOut (by kernel_rfl) (of_decide_eq_true (by kernel_rfl)) k0 bel lt0) trodAll_mk0), rfl, bel.frame _, fun h => by cases h⟩

set_option maxRecDepth 100000 in
theorem lifted (os : Os) (started : os.Started) (H : Type) (enc : TypeId × Value → H) :
    ReturnsInHanded {} Try.checked os 8 .any (Rows.macZeroSpec.pre6 enc Try.prog Try.f8 Rows.macZeroRow.domain false) (Rows.macZeroSpec.post enc Try.prog Try.f8 false true false false) := by
  refine returnsInHanded_of_change (C := Try.checked) own started (by kernel_rfl) Try.func8
    (ChangeSpec.witness6 (enc := enc) (C := Try.checked) false ⟨#[], #[.agg #[.int .i64 0, .string ByteArray.empty, .slice none 0 0, .slice none 0 0]], []⟩ 8 (by kernel_rfl) (by kernel_rfl) (by kernel_rfl) (by kernel_rfl)) ?_
  intro W base args ds gs before hval hW _ _
  exact contract H enc W base args ds gs before hval hW

theorem over : Rows.macZeroRow.holds Try.pinned (OpenSpec.ofChange Rows.macZeroSpec) :=
  OpenClaim.holds_of_wide 8 Try.f8 rfl rfl rfl rfl rfl rfl rfl ⟨rfl, rfl, rfl, rfl, rfl⟩ rfl rfl rfl rfl rfl (by kernel_rfl) Try.func8 (by kernel_rfl)
    (of_decide_eq_true (by kernel_rfl)) (by unfold Func.isWrapper; first | (rw [if_pos (by decide +kernel)]; kernel_rfl) | (rw [if_neg (by decide +kernel)]; exact ⟨rfl, rfl⟩))
    (fun os started H enc _ => lifted os started H enc)

theorem proved : Rows.MacZeroSaid := over
#print axioms proved
end Go.Proofs.Ytmknbdnofogmdaa.macZero
