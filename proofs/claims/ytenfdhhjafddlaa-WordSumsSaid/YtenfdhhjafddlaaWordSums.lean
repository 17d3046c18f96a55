/- This file proves the statement 'WordSumsSaid' of the row 'quern/quernlaw01.WordSums': the Go function returns true, and the input reads as it did. Conditions: none. -/
import Derived.Test.YtenfdhhjafddlaaRows
import Derived.WalkKit
import Derived.ProofKit
import Derived.OpenShut
import Derived.ShutString
import Derived.ChangeOld
import Derived.Below
import Derived.JoinedCond
import Derived.Test.YtenfdhhjafddlaaPS
namespace Go.Proofs.Ytenfdhhjafddlaa.wordSums
open Go.ChangeShapes Go.WideShapes Go.ChangeAt Go.RowKit Go.Sx
open Go.ChangeMaps (open_string shut_string)
set_option linter.unusedVariables false
set_option linter.unusedSimpArgs false

theorem own : ownKnob Try.prog.godebug = none := by kernel_rfl
theorem laidOut : laidOutB Try.prog = true := by kernel_rfl
theorem contract (H : Type) (enc : TypeId × Value → H) (W : World) (base : Nat) (args : Array Value) (ds gs : List (DataW H)) (before : List MemPlace)
    (hval0 : ∀ (j : Nat) t v, Try.f5.params[j]? = some t → args[j]? = some v → Value.okWide Try.prog W .any base t v)
    (hW : DataW.Whole enc Try.prog Try.f5.params.toList Rows.wordSumsSpec.vars false W args.toList ds gs before) :
    Calls Try.prog 5 args W fun e W' => ∃ v, e = .returned v ∧ Rows.wordSumsSpec.post enc Try.prog Try.f5 false true false false W args v W' := by
  have hval : ∀ (j : Nat) t v, Try.f5.params[j]? = some t → args[j]? = some v → Value.okWide Try.prog W .any base t v := hval0
  have hW' := hW
  obtain ⟨p, q, hA0, hV, rfl, hfz, hnd⟩ := hW
  have hA : DataW.TrodAll enc Try.prog W 0 (fun _ => true) true Try.f5.params.toList args.toList ds p := hA0
  rw [Try.params5] at hA hval
  obtain ⟨v0, vs0, d0, ds0, p0, q0, hargs, rfl, rfl, h0, r0⟩ := trodAll_cons hA
  obtain ⟨v1, vs1, d1, ds1, p1, q1, rfl, rfl, rfl, h1, r1⟩ := trodAll_cons r0
  obtain ⟨v2, vs2, d2, ds2, p2, q2, rfl, rfl, rfl, h2, r2⟩ := trodAll_cons r1
  obtain ⟨rfl, rfl, rfl⟩ := trodAll_nil r2
  obtain rfl : args = #[v0, v1, v2] := by cases args; simp_all
  obtain ⟨rfl, rfl⟩ := trodVars_none hV
  have k0 := h0
  have lt0 : ∀ x ∈ p0, x.block < W.heap.size := by obtain ⟨m, hm⟩ := k0; exact DataW.trod_lt m _ _ _ hm
  obtain ⟨cs1, rfl, hs2⟩ := okWide_struct Try.underlying33 (hval 0 33 v0 rfl rfl)
  obtain ⟨fuel0, hf0⟩ := h0
  obtain ⟨cs1⟩ := cs1
  simp only [Value.cells] at hf0
  obtain ⟨xs3, n4, hx5, hl6, hf7⟩ := open_fld Try.underlying33 hf0
  obtain ⟨y8, hm9, hy10⟩ := hf7 0 _ 27 0 1 rfl rfl rfl (by kernel_rfl)
  obtain ⟨m12, hc13, _, w14⟩ := DataW.trod_int Try.underlying27 hy10
  obtain ⟨x15, e16⟩ := get_u64 w14
  rw [e16] at hc13
  obtain ⟨y17, hm18, hy19⟩ := hf7 1 _ 27 1 1 rfl rfl rfl (by kernel_rfl)
  obtain ⟨m21, hc22, _, w23⟩ := DataW.trod_int Try.underlying27 hy19
  obtain ⟨x24, e25⟩ := get_u64 w23
  rw [e25] at hc22
  have E26 := cut_at (cs1) 0 1 1 rfl
  rw [hc13] at E26
  rw [cut_at (cs1) 1 1 2 rfl, hc22] at E26
  rw [cut_end (cs1) _ 2 hl6 (by kernel_rfl)] at E26
  simp only [List.drop_zero, List.cons_append, List.nil_append, List.append_nil] at E26
  subst E26
  have k1 := h1
  have lt1 : ∀ x ∈ p1, x.block < W.heap.size := by obtain ⟨m, hm⟩ := k1; exact DataW.trod_lt m _ _ _ hm
  obtain ⟨a1_, rfl⟩ := okWide_int Try.underlying27 (hval 1 27 v1 rfl rfl)
  obtain ⟨fuel1, hf1⟩ := h1
  simp only [Value.cells] at hf1
  obtain ⟨m27, hc28, _, w29⟩ := DataW.trod_int Try.underlying27 hf1
  obtain ⟨x30, e31⟩ := get_u64 w29
  rw [e31] at hc28
  simp only [List.cons.injEq, and_true] at hc28
  have he1 := hc28
  rw [he1] at k1 hW' ⊢
  have k2 := h2
  have lt2 : ∀ x ∈ p2, x.block < W.heap.size := by obtain ⟨m, hm⟩ := k2; exact DataW.trod_lt m _ _ _ hm
  obtain ⟨a2_, rfl⟩ := okWide_int Try.underlying27 (hval 2 27 v2 rfl rfl)
  obtain ⟨fuel2, hf2⟩ := h2
  simp only [Value.cells] at hf2
  obtain ⟨m32, hc33, _, w34⟩ := DataW.trod_int Try.underlying27 hf2
  obtain ⟨x35, e36⟩ := get_u64 w34
  rw [e36] at hc33
  simp only [List.cons.injEq, and_true] at hc33
  have he2 := hc33
  rw [he2] at k2 hW' ⊢
  clear hA0 hval0
  have hm := p_l01_WordSums x15 x24 x30 x35
  refine Calls.mono (c_l01_WordSums x15 x24 x30 x35 true hm) fun e W' h => ?_
  obtain ⟨he, cx⟩ := h
  have bel := cx.below
  subst he
  exact ⟨_, rfl, _, _, _, [], _, [], hW', (trodAll_cons_mk (shut_bool Try.underlying4 _) trodAll_mk0), (trodAll_cons_mk (Below.trod laidOut (by kernel_rfl) (of_decide_eq_true (by kernel_rfl)) k0 bel lt0) (trodAll_cons_mk (Below.trod laidOut (by kernel_rfl) (of_decide_eq_true (by kernel_rfl)) k1 bel lt1) (trodAll_cons_mk (Below.trod laidOut (by kernel_rfl) (of_decide_eq_true (by kernel_rfl)) k2 bel lt2) trodAll_mk0))), rfl, bel.frame _, fun h => by cases h⟩

set_option maxRecDepth 100000 in
theorem lifted (os : Os) (started : os.Started) (H : Type) (enc : TypeId × Value → H) :
    ReturnsInHanded {} Try.checked os 5 .any (Rows.wordSumsSpec.pre6 enc Try.prog Try.f5 Rows.wordSumsRow.domain false) (Rows.wordSumsSpec.post enc Try.prog Try.f5 false true false false) := by
  refine returnsInHanded_of_change (C := Try.checked) own started (by kernel_rfl) Try.func5
    (ChangeSpec.witness6 (enc := enc) (C := Try.checked) false ⟨#[], #[.agg #[.int .u64 0, .int .u64 0], .int .u64 0, .int .u64 0], []⟩ 8 (by kernel_rfl) (by kernel_rfl) (by kernel_rfl) (by kernel_rfl)) ?_
  intro W base args ds gs before hval hW _ _
  exact contract H enc W base args ds gs before hval hW

theorem over : Rows.wordSumsRow.holds Try.pinned (OpenSpec.ofChange Rows.wordSumsSpec) :=
  OpenClaim.holds_of_wide 5 Try.f5 rfl rfl rfl rfl rfl rfl rfl ⟨rfl, rfl, rfl, rfl, rfl⟩ rfl rfl rfl rfl rfl (by kernel_rfl) Try.func5 (by kernel_rfl)
    (of_decide_eq_true (by kernel_rfl)) (by unfold Func.isWrapper; first | (rw [if_pos (by decide +kernel)]; kernel_rfl) | (rw [if_neg (by decide +kernel)]; exact ⟨rfl, rfl⟩))
    (fun os started H enc _ => lifted os started H enc)

theorem proved : Rows.WordSumsSaid := over
#print axioms proved
end Go.Proofs.Ytenfdhhjafddlaa.wordSums
