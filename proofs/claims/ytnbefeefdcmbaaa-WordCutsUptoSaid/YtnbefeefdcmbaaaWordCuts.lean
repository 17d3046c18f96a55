/- This file proves the statement 'oz of the row 'y8/uY.vw: the Go function returns true, and the input reads as it did. uZ: the arguments are together of zI at most 1048576. -/
import Derived.Test.YtnbefeefdcmbaaaRows
import Derived.WalkKit
import Derived.ProofKit
import Derived.OpenShut
import Derived.ShutString
import Derived.ChangeOld
import Derived.Below
import Derived.JoinedCond
import Derived.Test.YtnbefeefdcmbaaaK2
namespace Go.Proofs.Ytnbefeefdcmbaaa.wordCuts
open Go.ChangeShapes Go.WideShapes Go.ChangeAt Go.RowKit Go.Sx
open Go.ChangeMaps (open_string shut_string)
set_option linter.unusedVariables false
set_option linter.unusedSimpArgs false

theorem own : ownKnob Try.prog.godebug = none := by kernel_rfl
theorem laidOut : laidOutB Try.prog = true := by kernel_rfl
theorem j_ {H : Type} (d : DataW H) (r : List (DataW H)) : Rows.uptoBulkAll (d :: r) = Rows.uptoBulk d + Rows.uptoBulkAll r := rfl
theorem l_ {H : Type} : Rows.uptoBulkAll ([] : List (DataW H)) = 0 := rfl
theorem xE {H : Type} (l : List (DataW H)) : Rows.uptoBulk (.agg l) = Rows.uptoBulkAll l + 1 := rfl
theorem tJ {H : Type} (l : List UInt8) : Rows.uptoBulk (DataW.lit (H := H) (.string l)) = l.length + 1 := rfl
theorem mf {H : Type} (d : DataW H) : 0 + 1 ≤ Rows.uptoBulk d := by
  cases d with
  | lit l => cases l <;> simp [Rows.uptoBulk]
  | _ => simp [Rows.uptoBulk]
theorem rE {H : Type} (l : List (DataW H)) : l.length ≤ Rows.uptoBulkAll l := by
  induction l with
  | nil => simp [Rows.uptoBulkAll]
  | cons x r ih => have := mf x; simp only [Rows.uptoBulkAll, List.length_cons]; omega
theorem vz {H : Type} {d : DataW H} {l : List (DataW H)} (h : d ∈ l) : Rows.uptoBulk d ≤ Rows.uptoBulkAll l := by
  induction l with
  | nil => cases h
  | cons x r ih =>
    simp only [Rows.uptoBulkAll]
    cases List.mem_cons.1 h with
    | inl e => subst e; omega
    | inr e => have := ih e; omega
theorem jC {H : Type} (k : IntKind) (zs : List Int) (l : Nat) (h : l ≤ zs.length) : l + 1 ≤ Rows.uptoBulk (.slice (lits (H := H) k (zs.take l)) (lits k (zs.drop l))) := by
  have h1 := rE (lits (H := H) k (zs.take l))
  simp only [lits, List.length_map, List.length_take] at h1
  simp only [Rows.uptoBulk]
  simp only [lits] at *
  omega
theorem rF {H : Type} : ∀ (ds : List (DataW H)) (xs : List (List UInt8)), yU ds xs → Tot xs ≤ Rows.uptoBulkAll ds
  | [], [], _ => Nat.le_refl _
  | [], _ :: _, h => h.elim
  | _ :: _, [], h => h.elim
  | d :: ds, x :: xs, ⟨h, hr⟩ => by
    have h1 := rF ds xs hr
    have h2 : x.length + 1 ≤ Rows.uptoBulk d := by
      rcases h with h0 | ⟨zs, h3, h4⟩
      · subst h0; exact mf d
      · rw [h3]; exact jC .u8 zs x.length h4
    simp only [Tot, Rows.uptoBulkAll]
    omega
theorem nP {H : Type} {l : List (DataW H)} (hk : Rows.uptoSmall H l = true) : Rows.uptoBulkAll l ≤ 1048576 := by
  simpa [Rows.uptoSmall] using hk

set_option maxRecDepth 100000 in
theorem contract (H : Type) (enc : TypeId × Value → H) (W : World) (base : Nat) (args : Array Value) (ds gs : List (DataW H)) (before : List MemPlace)
    (hval0 : ∀ (j : Nat) t v, Try.f3.params[j]? = some t → args[j]? = some v → Value.okWide Try.prog W .any base t v)
    (hW : DataW.Whole enc Try.prog Try.f3.params.toList Rows.wordCutsSpec.vars false W args.toList ds gs before)
    (hk : Rows.uptoSmall H (ds ++ gs) = true) :
    Calls Try.prog 3 args W fun e W' => ∃ v, e = .returned v ∧ Rows.wordCutsSpec.post enc Try.prog Try.f3 false true false false W args v W' := by
  have hval : ∀ (j : Nat) t v, Try.f3.params[j]? = some t → args[j]? = some v → Value.okWide Try.prog W .any base t v := hval0
  have hW' := hW
  obtain ⟨p, q, hA0, hV, rfl, hfz, hnd⟩ := hW
  have hA : DataW.TrodAll enc Try.prog W 0 (fun _ => true) true Try.f3.params.toList args.toList ds p := hA0
  rw [Try.params3] at hA hval
  obtain ⟨v0, zU, d0, ds0, p0, q0, hargs, rfl, rfl, h0, r0⟩ := trodAll_cons hA
  obtain ⟨v1, vs1, d1, ds1, p1, q1, rfl, rfl, rfl, h1, r1⟩ := trodAll_cons r0
  obtain ⟨rfl, rfl, rfl⟩ := trodAll_nil r1
  obtain rfl : args = #[v0, v1] := by cases args; simp_all
  obtain ⟨rfl, rfl⟩ := trodVars_none hV
  have hk1 := nP hk
  have k0 := h0
  have zJ : ∀ x ∈ p0, x.block < W.heap.size := by obtain ⟨m, hm⟩ := k0; exact DataW.trod_lt m _ _ _ hm
  have xG : Rows.uptoBulk d0 ≤ 1048576 := by simp only [List.nil_append, List.append_nil, List.cons_append, j_, l_] at hk1; omega
  obtain ⟨zV, zW, zX, rfl⟩ := okWide_slice Try.underlying22 (hval 0 22 v0 rfl rfl)
  obtain ⟨fuel0, hf0⟩ := h0
  simp only [Value.cells] at hf0
  obtain ⟨A1, jr, cap3, z4, hc5, w6, hb7⟩ := Go.Sx.open_row Try.underlying22 Try.underlying5 (by kernel_rfl) hf0
  obtain ⟨x8, zK, yP, yQ⟩ := uz w6
  have b12 : x8.length ≤ 1048576 := by
    rcases hb7 with h0 | ⟨h0, h1⟩
    · omega
    · have hq := jC (H := H) .u8 z4 jr h1
      rw [← h0] at hq; have hp := xG; try dsimp only at hq hp
      omega
  simp only [List.cons.injEq, and_true] at hc5
  have he0 := hc5
  rw [he0] at k0 hW' ⊢
  have k1 := h1
  have zL : ∀ x ∈ p1, x.block < W.heap.size := by obtain ⟨m, hm⟩ := k1; exact DataW.trod_lt m _ _ _ hm
  have y9 : Rows.uptoBulk d1 ≤ 1048576 := by simp only [List.nil_append, List.append_nil, List.cons_append, j_, l_] at hk1; omega
  obtain ⟨zY, rfl⟩ := okWide_int Try.underlying3 (hval 1 3 v1 rfl rfl)
  obtain ⟨fuel1, hf1⟩ := h1
  simp only [Value.cells] at hf1
  obtain ⟨m13, xH, _, zM⟩ := DataW.trod_int Try.underlying3 hf1
  have r16 := wf_i64 zM
  simp only [List.cons.injEq, and_true] at xH
  have he1 := xH
  rw [he1] at k1 hW' ⊢
  clear hA0 hval0
  have hm := jB x8 b12 m13 r16
  refine Calls.mono (jw (F := N0) (O := N0) x8 m13 A1 jr cap3 (Ro.n0 ((iF x8).symm ▸ zK)) yP yQ (Cx.refl _) true hm) fun e W' h => ?_
  obtain ⟨he, cx⟩ := h
  have bel := cx.below
  subst he
  exact ⟨_, rfl, _, _, _, [], _, [], hW', (trodAll_cons_mk (shut_bool Try.underlying4 _) trodAll_mk0), (trodAll_cons_mk (Below.trod laidOut (by kernel_rfl) (of_decide_eq_true (by kernel_rfl)) k0 bel zJ) (trodAll_cons_mk (Below.trod laidOut (by kernel_rfl) (of_decide_eq_true (by kernel_rfl)) k1 bel zL) trodAll_mk0)), rfl, bel.frame _, fun h => by cases h⟩

set_option maxRecDepth 100000 in
theorem lifted (os : Os) (started : os.Started) (H : Type) (enc : TypeId × Value → H) (F : Stop.Interp) :
    ReturnsInHanded {} Try.checked os 3 .any ((Rows.OpenSpec.upto Rows.wordCutsSpec).pre6 enc Try.prog Try.f3 Rows.wordCutsUptoRow.domain false) (((Rows.OpenSpec.upto Rows.wordCutsSpec).at F).post enc Try.prog Try.f3 false true false false) := by
  refine returnsInHanded_of_cond (C := Try.checked) (s := Rows.OpenSpec.upto Rows.wordCutsSpec) (k := Rows.uptoSmall) rfl own started (by kernel_rfl) Try.func3
    (OpenSpec.witness (enc := enc) (C := Try.checked) (s := Rows.OpenSpec.upto Rows.wordCutsSpec) (k := Rows.uptoSmall) rfl false ⟨#[], #[.slice none 0 0, .int .i64 0], []⟩ 8 (by kernel_rfl) (by kernel_rfl) (by kernel_rfl)
      (x := ([.nil, .lit (.int .i64 0)], [], [])) (by kernel_rfl) rfl (by kernel_rfl)) ?_
  intro W base args ds gs before hval hW _ hk _
  exact contract H enc W base args ds gs before hval hW hk

theorem over : Rows.wordCutsUptoRow.holds Try.pinned (Rows.OpenSpec.upto Rows.wordCutsSpec) :=
  OpenClaim.holds_of_cond 3 Try.f3 rfl rfl rfl rfl rfl rfl rfl ⟨rfl, rfl, rfl, rfl, rfl⟩ rfl rfl rfl rfl rfl (by kernel_rfl) Try.func3 (by kernel_rfl)
    (of_decide_eq_true (by kernel_rfl)) (by unfold Func.isWrapper; first | (rw [if_pos (by decide +kernel)]; kernel_rfl) | (rw [if_neg (by decide +kernel)]; exact ⟨rfl, rfl⟩))
    (fun os started H enc _ F => lifted os started H enc F)

theorem proved : Rows.WordCutsUptoSaid := over
#print axioms proved
end Go.Proofs.Ytnbefeefdcmbaaa.wordCuts

