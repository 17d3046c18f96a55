/- This file proves the statement 'WholeStreamsUptoSaid' of the row 'quern/querntop.WholeStreams': the Go function returns true, and the input reads as it did. Conditions: the arguments are together of bulk at most 1048576. -/
import Derived.Test.YtlekdnlojpnlmaaRows
import Derived.WalkKit
import Derived.ProofKit
import Derived.OpenShut
import Derived.ShutString
import Derived.ChangeOld
import Derived.Below
import Derived.JoinedCond
import Derived.Test.YtlekdnlojpnlmaaSyY
import Derived.Test.YtlekdnlojpnlmaaW4
import Derived.Test.YtlekdnlojpnlmaaE5
namespace Go.Proofs.Ytlekdnlojpnlmaa.wholeStreams
open Go.ChangeShapes Go.WideShapes Go.ChangeAt Go.RowKit Go.Sx
open Go.ChangeMaps (open_string shut_string)
set_option linter.unusedVariables false
set_option linter.unusedSimpArgs false

theorem own : ownKnob Try.prog.godebug = none := by kernel_rfl
theorem laidOut : laidOutB Try.prog = true := by kernel_rfl
theorem bulk_cons {H : Type} (d : DataW H) (r : List (DataW H)) : Rows.uptoBulkAll (d :: r) = Rows.uptoBulk d + Rows.uptoBulkAll r := rfl
theorem bulk_nil {H : Type} : Rows.uptoBulkAll ([] : List (DataW H)) = 0 := rfl
theorem bulk_agg {H : Type} (l : List (DataW H)) : Rows.uptoBulk (.agg l) = Rows.uptoBulkAll l + 1 := rfl
theorem bulk_string {H : Type} (l : List UInt8) : Rows.uptoBulk (DataW.lit (H := H) (.string l)) = l.length + 1 := rfl
theorem bulk_one {H : Type} (d : DataW H) : 0 + 1 ≤ Rows.uptoBulk d := by
  cases d with
  | lit l => cases l <;> simp [Rows.uptoBulk]
  | _ => simp [Rows.uptoBulk]
theorem bulk_len {H : Type} (l : List (DataW H)) : l.length ≤ Rows.uptoBulkAll l := by
  induction l with
  | nil => simp [Rows.uptoBulkAll]
  | cons x r ih => have := bulk_one x; simp only [Rows.uptoBulkAll, List.length_cons]; omega
theorem bulk_part {H : Type} {d : DataW H} {l : List (DataW H)} (h : d ∈ l) : Rows.uptoBulk d ≤ Rows.uptoBulkAll l := by
  induction l with
  | nil => cases h
  | cons x r ih =>
    simp only [Rows.uptoBulkAll]
    cases List.mem_cons.1 h with
    | inl e => subst e; omega
    | inr e => have := ih e; omega
theorem bulk_slice {H : Type} (k : IntKind) (zs : List Int) (l : Nat) (h : l ≤ zs.length) : l + 1 ≤ Rows.uptoBulk (.slice (lits (H := H) k (zs.take l)) (lits k (zs.drop l))) := by
  have h1 := bulk_len (lits (H := H) k (zs.take l))
  simp only [lits, List.length_map, List.length_take] at h1
  simp only [Rows.uptoBulk]
  simp only [lits] at *
  omega
theorem bulk_fam {H : Type} : ∀ (ds : List (DataW H)) (xs : List (List UInt8)), Fam ds xs → Tot xs ≤ Rows.uptoBulkAll ds
  | [], [], _ => Nat.le_refl _
  | [], _ :: _, h => h.elim
  | _ :: _, [], h => h.elim
  | d :: ds, x :: xs, ⟨h, hr⟩ => by
    have h1 := bulk_fam ds xs hr
    have h2 : x.length + 1 ≤ Rows.uptoBulk d := by
      rcases h with h0 | ⟨zs, h3, h4⟩
      · subst h0; exact bulk_one d
      · rw [h3]; exact bulk_slice .u8 zs x.length h4
    simp only [Tot, Rows.uptoBulkAll]
    omega
theorem bulk_bound {H : Type} {l : List (DataW H)} (hk : Rows.uptoSmall H l = true) : Rows.uptoBulkAll l ≤ 1048576 := by
  simpa [Rows.uptoSmall] using hk

set_option maxRecDepth 100000 in
theorem contract (H : Type) (enc : TypeId × Value → H) (W : World) (base : Nat) (args : Array Value) (ds gs : List (DataW H)) (before : List MemPlace)
    (hval0 : ∀ (j : Nat) t v, Try.f3.params[j]? = some t → args[j]? = some v → Value.okWide Try.prog W .any base t v)
    (hW : DataW.Whole enc Try.prog Try.f3.params.toList Rows.wholeStreamsSpec.vars false W args.toList ds gs before)
    (hk : Rows.uptoSmall H (ds ++ gs) = true) :
    Calls Try.prog 3 args W fun e W' => ∃ v, e = .returned v ∧ Rows.wholeStreamsSpec.post enc Try.prog Try.f3 false true false false W args v W' := by
  have hval : ∀ (j : Nat) t v, Try.f3.params[j]? = some t → args[j]? = some v → Value.okWide Try.prog W .any base t v := hval0
  have hW' := hW
  obtain ⟨p, q, hA0, hV, rfl, hfz, hnd⟩ := hW
  have hA : DataW.TrodAll enc Try.prog W 0 (fun _ => true) true Try.f3.params.toList args.toList ds p := hA0
  rw [Try.params3] at hA hval
  obtain ⟨v0, vs0, d0, ds0, p0, q0, hargs, rfl, rfl, h0, r0⟩ := trodAll_cons hA
  obtain ⟨v1, vs1, d1, ds1, p1, q1, rfl, rfl, rfl, h1, r1⟩ := trodAll_cons r0
  obtain ⟨v2, vs2, d2, ds2, p2, q2, rfl, rfl, rfl, h2, r2⟩ := trodAll_cons r1
  obtain ⟨v3, vs3, d3, ds3, p3, q3, rfl, rfl, rfl, h3, r3⟩ := trodAll_cons r2
  obtain ⟨v4, vs4, d4, ds4, p4, q4, rfl, rfl, rfl, h4, r4⟩ := trodAll_cons r3
  obtain ⟨rfl, rfl, rfl⟩ := trodAll_nil r4
  obtain rfl : args = #[v0, v1, v2, v3, v4] := by cases args; simp_all
  obtain ⟨rfl, rfl⟩ := trodVars_none hV
  have hk1 := bulk_bound hk
  have k0 := h0
  have lt0 : ∀ x ∈ p0, x.block < W.heap.size := by obtain ⟨m, hm⟩ := k0; exact DataW.trod_lt m _ _ _ hm
  have bk0_0 : Rows.uptoBulk d0 ≤ 1048576 := by simp only [List.nil_append, List.append_nil, List.cons_append, bulk_cons, bulk_nil] at hk1; omega
  obtain ⟨a0_, rfl⟩ := okWide_int Try.underlying5 (hval 0 5 v0 rfl rfl)
  obtain ⟨fuel0, hf0⟩ := h0
  simp only [Value.cells] at hf0
  obtain ⟨m1, hc2, _, w3⟩ := DataW.trod_int Try.underlying5 hf0
  obtain ⟨x4, e5⟩ := get_u8 w3
  rw [e5] at hc2
  simp only [List.cons.injEq, and_true] at hc2
  have he0 := hc2
  rw [he0] at k0 hW' ⊢
  have k1 := h1
  have lt1 : ∀ x ∈ p1, x.block < W.heap.size := by obtain ⟨m, hm⟩ := k1; exact DataW.trod_lt m _ _ _ hm
  have bk0_1 : Rows.uptoBulk d1 ≤ 1048576 := by simp only [List.nil_append, List.append_nil, List.cons_append, bulk_cons, bulk_nil] at hk1; omega
  obtain ⟨a1_, rfl⟩ := okWide_int Try.underlying22 (hval 1 22 v1 rfl rfl)
  obtain ⟨fuel1, hf1⟩ := h1
  simp only [Value.cells] at hf1
  obtain ⟨m6, hc7, _, w8⟩ := DataW.trod_int Try.underlying22 hf1
  obtain ⟨x9, e10⟩ := get_u16 w8
  rw [e10] at hc7
  simp only [List.cons.injEq, and_true] at hc7
  have he1 := hc7
  rw [he1] at k1 hW' ⊢
  have k2 := h2
  have lt2 : ∀ x ∈ p2, x.block < W.heap.size := by obtain ⟨m, hm⟩ := k2; exact DataW.trod_lt m _ _ _ hm
  have bk0_2 : Rows.uptoBulk d2 ≤ 1048576 := by simp only [List.nil_append, List.append_nil, List.cons_append, bulk_cons, bulk_nil] at hk1; omega
  obtain ⟨a2_, l2_, c2_, rfl⟩ := okWide_slice Try.underlying23 (hval 2 23 v2 rfl rfl)
  obtain ⟨fuel2, hf2⟩ := h2
  simp only [Value.cells] at hf2
  obtain ⟨A11, len12, cap13, z14, hc15, w16, hb17⟩ := Go.Sx.open_row Try.underlying23 Try.underlying5 (by kernel_rfl) hf2
  obtain ⟨x18, rd19, ln20, lc21⟩ := row_u8 w16
  have b22 : x18.length ≤ 1048576 := by
    rcases hb17 with h0 | ⟨h0, h1⟩
    · omega
    · have hq := bulk_slice (H := H) .u8 z14 len12 h1
      rw [← h0] at hq; have hp := bk0_2; try dsimp only at hq hp
      omega
  simp only [List.cons.injEq, and_true] at hc15
  have he2 := hc15
  rw [he2] at k2 hW' ⊢
  have k3 := h3
  have lt3 : ∀ x ∈ p3, x.block < W.heap.size := by obtain ⟨m, hm⟩ := k3; exact DataW.trod_lt m _ _ _ hm
  have bk0_3 : Rows.uptoBulk d3 ≤ 1048576 := by simp only [List.nil_append, List.append_nil, List.cons_append, bulk_cons, bulk_nil] at hk1; omega
  obtain ⟨a3_, l3_, c3_, rfl⟩ := okWide_slice Try.underlying23 (hval 3 23 v3 rfl rfl)
  obtain ⟨fuel3, hf3⟩ := h3
  simp only [Value.cells] at hf3
  obtain ⟨A23, len24, cap25, z26, hc27, w28, hb29⟩ := Go.Sx.open_row Try.underlying23 Try.underlying5 (by kernel_rfl) hf3
  obtain ⟨x30, rd31, ln32, lc33⟩ := row_u8 w28
  have b34 : x30.length ≤ 1048576 := by
    rcases hb29 with h0 | ⟨h0, h1⟩
    · omega
    · have hq := bulk_slice (H := H) .u8 z26 len24 h1
      rw [← h0] at hq; have hp := bk0_3; try dsimp only at hq hp
      omega
  simp only [List.cons.injEq, and_true] at hc27
  have he3 := hc27
  rw [he3] at k3 hW' ⊢
  have k4 := h4
  have lt4 : ∀ x ∈ p4, x.block < W.heap.size := by obtain ⟨m, hm⟩ := k4; exact DataW.trod_lt m _ _ _ hm
  have bk0_4 : Rows.uptoBulk d4 ≤ 1048576 := by simp only [List.nil_append, List.append_nil, List.cons_append, bulk_cons, bulk_nil] at hk1; omega
  obtain ⟨a4_, l4_, c4_, rfl⟩ := okWide_slice Try.underlying23 (hval 4 23 v4 rfl rfl)
  obtain ⟨fuel4, hf4⟩ := h4
  simp only [Value.cells] at hf4
  obtain ⟨A35, len36, cap37, z38, hc39, w40, hb41⟩ := Go.Sx.open_row Try.underlying23 Try.underlying5 (by kernel_rfl) hf4
  obtain ⟨x42, rd43, ln44, lc45⟩ := row_u8 w40
  have b46 : x42.length ≤ 1048576 := by
    rcases hb41 with h0 | ⟨h0, h1⟩
    · omega
    · have hq := bulk_slice (H := H) .u8 z38 len36 h1
      rw [← h0] at hq; have hp := bk0_4; try dsimp only at hq hp
      omega
  simp only [List.cons.injEq, and_true] at hc39
  have he4 := hc39
  rw [he4] at k4 hW' ⊢
  clear hA0 hval0
  have hm := p_top_WholeStreams x4 x9 x18 b22 x30 b34 x42 b46
  refine Calls.mono (c_top_WholeStreams (F := N0) (O := N0) x4 x9 x18 x30 x42 A11 len12 cap13 A23 len24 cap25 A35 len36 cap37 (Ro.n0 ((e8_all x18).symm ▸ rd19)) ln20 lc21 (Ro.n0 ((e8_all x30).symm ▸ rd31)) ln32 lc33 (Ro.n0 ((e8_all x42).symm ▸ rd43)) ln44 lc45 (Cx.refl _) true hm) fun e W' h => ?_
  obtain ⟨he, cx⟩ := h
  have bel := cx.below
  subst he
  exact ⟨_, rfl, _, _, _, [], _, [], hW', (trodAll_cons_mk (shut_bool Try.underlying4 _) trodAll_mk0), (trodAll_cons_mk (Below.trod laidOut (by kernel_rfl) (of_decide_eq_true (by kernel_rfl)) k0 bel lt0) (trodAll_cons_mk (Below.trod laidOut (by kernel_rfl) (of_decide_eq_true (by kernel_rfl)) k1 bel lt1) (trodAll_cons_mk (Below.trod laidOut (by kernel_rfl) (of_decide_eq_true (by kernel_rfl)) k2 bel lt2) (trodAll_cons_mk (Below.trod laidOut (by kernel_rfl) (of_decide_eq_true (by kernel_rfl)) k3 bel lt3) (trodAll_cons_mk (Below.trod laidOut (by kernel_rfl) (of_decide_eq_true (by kernel_rfl)) k4 bel lt4) trodAll_mk0))))), rfl, bel.frame _, fun h => by cases h⟩

set_option maxRecDepth 100000 in
theorem lifted (os : Os) (started : os.Started) (H : Type) (enc : TypeId × Value → H) (F : Stop.Interp) :
    ReturnsInHanded {} Try.checked os 3 .any ((Rows.OpenSpec.upto Rows.wholeStreamsSpec).pre6 enc Try.prog Try.f3 Rows.wholeStreamsUptoRow.domain false) (((Rows.OpenSpec.upto Rows.wholeStreamsSpec).at F).post enc Try.prog Try.f3 false true false false) := by
  refine returnsInHanded_of_cond (C := Try.checked) (s := Rows.OpenSpec.upto Rows.wholeStreamsSpec) (k := Rows.uptoSmall) rfl own started (by kernel_rfl) Try.func3
    (OpenSpec.witness (enc := enc) (C := Try.checked) (s := Rows.OpenSpec.upto Rows.wholeStreamsSpec) (k := Rows.uptoSmall) rfl false ⟨#[], #[.int .u8 0, .int .u16 0, .slice none 0 0, .slice none 0 0, .slice none 0 0], []⟩ 8 (by kernel_rfl) (by kernel_rfl) (by kernel_rfl)
      (x := ([.lit (.int .u8 0), .lit (.int .u16 0), .nil, .nil, .nil], [], [])) (by kernel_rfl) rfl (by kernel_rfl)) ?_
  intro W base args ds gs before hval hW _ hk _
  exact contract H enc W base args ds gs before hval hW hk

theorem over : Rows.wholeStreamsUptoRow.holds Try.pinned (Rows.OpenSpec.upto Rows.wholeStreamsSpec) :=
  OpenClaim.holds_of_cond 3 Try.f3 rfl rfl rfl rfl rfl rfl rfl ⟨rfl, rfl, rfl, rfl, rfl⟩ rfl rfl rfl rfl rfl (by kernel_rfl) Try.func3 (by kernel_rfl)
    (of_decide_eq_true (by kernel_rfl)) (by unfold Func.isWrapper; first | (rw [if_pos (by decide +kernel)]; kernel_rfl) | (rw [if_neg (by decide +kernel)]; exact ⟨rfl, rfl⟩))
    (fun os started H enc _ F => lifted os started H enc F)

theorem proved : Rows.WholeStreamsUptoSaid := over
#print axioms proved
end Go.Proofs.Ytlekdnlojpnlmaa.wholeStreams

