/- This file proves the statement 'MacWaysUptoSaid' of the row 'quern/quernlaw06.MacWays': the Go function returns true, and the input reads as it did. Conditions: the arguments are together of bulk at most 1048576. -/
import Derived.Test.YtmknbdnofogmdaaRows
import Derived.WalkKit
import Derived.ProofKit
import Derived.OpenShut
import Derived.ShutString
import Derived.ChangeOld
import Derived.Below
import Derived.JoinedCond
import Derived.Test.YtmknbdnofogmdaaSyQ
import Derived.Test.YtmknbdnofogmdaaW2
import Derived.Test.YtmknbdnofogmdaaQ18
namespace Go.Proofs.Ytmknbdnofogmdaa.macWays
open Go.ChangeShapes Go.WideShapes Go.ChangeAt Go.RowKit Go.Sx
open Go.ChangeMaps (open_string shut_string)
set_option linter.unusedVariables false
set_option linter.unusedSimpArgs false

theorem own : ownKnob Try.prog.godebug = none := by kernel_rfl
theorem laidOut : laidOutB Try.prog = true := by kernel_rfl
theorem bulk_cons {H : Type} (d : DataW H) (r : List (DataW H)) : Rows.uptoBulkAll (d :: r) = Rows.uptoBulk d + Rows.uptoBulkAll r := rfl
theorem bulk_nil {H : Type} : Rows.uptoBulkAll ([] : List (DataW H)) = 0 := rfl
theorem bulk_agg {H : Type} (l : List (DataW H)) : Rows.uptoBulk (.agg l) = Rows.uptoBulkAll l + 1 := rfl
theorem bulk_string {H : Type} (l : List UInt8) : Rows.uptoBulk (DataW.lit (H := H) (.string l)) = l.length + 1 := rfl
theorem bulk_one {H : Type} (d : DataW H) : 0 + 1 ≤ Rows.uptoBulk d := by
  cases d with
  | lit l => cases l <;> simp [Rows.uptoBulk]
  | _ => simp [Rows.uptoBulk]
theorem bulk_len {H : Type} (l : List (DataW H)) : l.length ≤ Rows.uptoBulkAll l := by
  induction l with
  | nil => simp [Rows.uptoBulkAll]
  | cons x r ih => have := bulk_one x; simp only [Rows.uptoBulkAll, List.length_cons]; omega
theorem bulk_part {H : Type} {d : DataW H} {l : List (DataW H)} (h : d ∈ l) : Rows.uptoBulk d ≤ Rows.uptoBulkAll l := by
  induction l with
  | nil => cases h
  | cons x r ih =>
    simp only [Rows.uptoBulkAll]
    cases List.mem_cons.1 h with
    | inl e => subst e; omega
    | inr e => have := ih e; omega
theorem bulk_slice {H : Type} (k : IntKind) (zs : List Int) (l : Nat) (h : l ≤ zs.length) : l + 1 ≤ Rows.uptoBulk (.slice (lits (H := H) k (zs.take l)) (lits k (zs.drop l))) := by
  have h1 := bulk_len (lits (H := H) k (zs.take l))
  simp only [lits, List.length_map, List.length_take] at h1
  simp only [Rows.uptoBulk]
  simp only [lits] at *
  omega
theorem bulk_bound {H : Type} {l : List (DataW H)} (hk : Rows.uptoSmall H l = true) : Rows.uptoBulkAll l ≤ 1048576 := by
  simpa [Rows.uptoSmall] using hk

set_option maxRecDepth 100000 in
theorem contract (H : Type) (enc : TypeId × Value → H) (W : World) (base : Nat) (args : Array Value) (ds gs : List (DataW H)) (before : List MemPlace)
    (hval0 : ∀ (j : Nat) t v, Try.f7.params[j]? = some t → args[j]? = some v → Value.okWide Try.prog W .any base t v)
    (hW : DataW.Whole enc Try.prog Try.f7.params.toList Rows.macWaysSpec.vars false W args.toList ds gs before)
    (hk : Rows.uptoSmall H (ds ++ gs) = true) :
    Calls Try.prog 7 args W fun e W' => ∃ v, e = .returned v ∧ Rows.macWaysSpec.post enc Try.prog Try.f7 false true false false W args v W' := by
  have hval : ∀ (j : Nat) t v, Try.f7.params[j]? = some t → args[j]? = some v → Value.okWide Try.prog W .any base t v := hval0
  have hW' := hW
  obtain ⟨p, q, hA0, hV, rfl, hfz, hnd⟩ := hW
  have hA : DataW.TrodAll enc Try.prog W 0 (fun _ => true) true Try.f7.params.toList args.toList ds p := hA0
  rw [Try.params7] at hA hval
  obtain ⟨v0, vs0, d0, ds0, p0, q0, hargs, rfl, rfl, h0, r0⟩ := trodAll_cons hA
  obtain ⟨rfl, rfl, rfl⟩ := trodAll_nil r0
  obtain rfl : args = #[v0] := by cases args; simp_all
  obtain ⟨rfl, rfl⟩ := trodVars_none hV
  have hk1 := bulk_bound hk
  have k0 := h0
  have lt0 : ∀ x ∈ p0, x.block < W.heap.size := by obtain ⟨m, hm⟩ := k0; exact DataW.trod_lt m _ _ _ hm
  have bk0_0 : Rows.uptoBulk d0 ≤ 1048576 := by simp only [List.nil_append, List.append_nil, List.cons_append, bulk_cons, bulk_nil] at hk1; omega
  obtain ⟨cs1, rfl, hs2⟩ := okWide_struct Try.underlying52 (hval 0 52 v0 rfl rfl)
  obtain ⟨fuel0, hf0⟩ := h0
  obtain ⟨cs1⟩ := cs1
  simp only [Value.cells] at hf0
  obtain ⟨xs3, n4, hx5, hl6, hf7⟩ := open_fld Try.underlying52 hf0
  try dsimp only at hx5
  obtain ⟨y8, hm9, hy10⟩ := hf7 0 _ 3 0 1 rfl rfl rfl (by kernel_rfl)
  have bk11 : Rows.uptoBulk y8.1 ≤ 1048576 := by have hq := bk0_0; rw [hx5] at hq; have := bulk_part hm9; simp only [bulk_agg] at hq; omega
  obtain ⟨m12, hc13, _, w14⟩ := DataW.trod_int Try.underlying3 hy10
  have r15 := wf_i64 w14
  obtain ⟨y16, hm17, hy18⟩ := hf7 1 _ 3 1 1 rfl rfl rfl (by kernel_rfl)
  have bk19 : Rows.uptoBulk y16.1 ≤ 1048576 := by have hq := bk0_0; rw [hx5] at hq; have := bulk_part hm17; simp only [bulk_agg] at hq; omega
  obtain ⟨m20, hc21, _, w22⟩ := DataW.trod_int Try.underlying3 hy18
  have r23 := wf_i64 w22
  obtain ⟨y24, hm25, hy26⟩ := hf7 2 _ 22 2 1 rfl rfl rfl (by kernel_rfl)
  have bk27 : Rows.uptoBulk y24.1 ≤ 1048576 := by have hq := bk0_0; rw [hx5] at hq; have := bulk_part hm25; simp only [bulk_agg] at hq; omega
  obtain ⟨A28, len29, cap30, z31, hc32, w33, hb34⟩ := open_row Try.underlying22 Try.underlying5 (by kernel_rfl) hy26
  obtain ⟨x35, rd36, ln37, lc38⟩ := row_u8 w33
  have b39 : x35.length ≤ 1048576 := by
    rcases hb34 with h0 | ⟨h0, h1⟩
    · omega
    · have hq := bulk_slice (H := H) .u8 z31 len29 h1; rw [← h0] at hq; have := bk27; omega
  obtain ⟨y40, hm41, hy42⟩ := hf7 3 _ 9 3 1 rfl rfl rfl (by kernel_rfl)
  have bk43 : Rows.uptoBulk y40.1 ≤ 1048576 := by have hq := bk0_0; rw [hx5] at hq; have := bulk_part hm41; simp only [bulk_agg] at hq; omega
  obtain ⟨m44, hc45, hx46, w47⟩ := DataW.trod_string Try.underlying9 hy42
  obtain ⟨x48, e49, ln50⟩ := get_str m44
  rw [e49] at hc45
  have b51 : x48.length ≤ 1048576 := by have hq := bk43; rw [hx46] at hq; simp only [bulk_string, Array.length_toList] at hq; have : m44.size = m44.data.size := rfl; omega
  obtain ⟨y52, hm53, hy54⟩ := hf7 4 _ 50 4 1 rfl rfl rfl (by kernel_rfl)
  have bk55 : Rows.uptoBulk y52.1 ≤ 1048576 := by have hq := bk0_0; rw [hx5] at hq; have := bulk_part hm53; simp only [bulk_agg] at hq; omega
  obtain ⟨A56, len57, cap58, z59, hc60, w61, hb62⟩ := open_row Try.underlying50 Try.underlying73 (by kernel_rfl) hy54
  obtain ⟨x63, rd64, ln65, lc66⟩ := row_u64 w61
  have b67 : x63.length ≤ 1048576 := by
    rcases hb62 with h0 | ⟨h0, h1⟩
    · omega
    · have hq := bulk_slice (H := H) .u64 z59 len57 h1; rw [← h0] at hq; have := bk55; omega
  obtain ⟨y68, hm69, hy70⟩ := hf7 5 _ 3 5 1 rfl rfl rfl (by kernel_rfl)
  have bk71 : Rows.uptoBulk y68.1 ≤ 1048576 := by have hq := bk0_0; rw [hx5] at hq; have := bulk_part hm69; simp only [bulk_agg] at hq; omega
  obtain ⟨m72, hc73, _, w74⟩ := DataW.trod_int Try.underlying3 hy70
  have r75 := wf_i64 w74
  have E76 := cut_at (cs1) 0 1 1 rfl
  rw [hc13] at E76
  rw [cut_at (cs1) 1 1 2 rfl, hc21] at E76
  rw [cut_at (cs1) 2 1 3 rfl, hc32] at E76
  rw [cut_at (cs1) 3 1 4 rfl, hc45] at E76
  rw [cut_at (cs1) 4 1 5 rfl, hc60] at E76
  rw [cut_at (cs1) 5 1 6 rfl, hc73] at E76
  rw [cut_end (cs1) _ 6 hl6 (by kernel_rfl)] at E76
  simp only [List.drop_zero, List.cons_append, List.nil_append, List.append_nil] at E76
  subst E76
  clear hA0 hval0
  have hm := p_l06_MacWays m12 r15 m20 r23 x35 b39 x48 b51 x63 b67 m72 r75
  refine Calls.mono (c_l06_MacWays (F := N0) (O := N0) m12 m20 x35 x48 x63 m72 A28 len29 cap30 A56 len57 cap58 (Ro.n0 ((e8_all x35).symm ▸ rd36)) ln37 lc38 (Ro.n0 ((e64_all x63).symm ▸ rd64)) ln65 lc66 (Cx.refl _) true hm) fun e W' h => ?_
  obtain ⟨he, cx⟩ := h
  have bel := cx.below
  subst he
  exact ⟨_, rfl, _, _, _, [], _, [], hW', (trodAll_cons_mk (shut_bool Try.underlying4 _) trodAll_mk0), (trodAll_cons_mk (Below.trod laidOut (by kernel_rfl) (of_decide_eq_true (by kernel_rfl)) k0 bel lt0) trodAll_mk0), rfl, bel.frame _, fun h => by cases h⟩

set_option maxRecDepth 100000 in
theorem lifted (os : Os) (started : os.Started) (H : Type) (enc : TypeId × Value → H) (F : Stop.Interp) :
    ReturnsInHanded {} Try.checked os 7 .any ((Rows.OpenSpec.upto Rows.macWaysSpec).pre6 enc Try.prog Try.f7 Rows.macWaysUptoRow.domain false) (((Rows.OpenSpec.upto Rows.macWaysSpec).at F).post enc Try.prog Try.f7 false true false false) := by
  refine returnsInHanded_of_cond (C := Try.checked) (s := Rows.OpenSpec.upto Rows.macWaysSpec) (k := Rows.uptoSmall) rfl own started (by kernel_rfl) Try.func7
    (OpenSpec.witness (enc := enc) (C := Try.checked) (s := Rows.OpenSpec.upto Rows.macWaysSpec) (k := Rows.uptoSmall) rfl false ⟨#[], #[.agg #[.int .i64 0, .int .i64 0, .slice none 0 0, .string ByteArray.empty, .slice none 0 0, .int .i64 0]], []⟩ 8 (by kernel_rfl) (by kernel_rfl) (by kernel_rfl)
      (x := ([.agg [.lit (.int .i64 0), .lit (.int .i64 0), .nil, .lit (.string []), .nil, .lit (.int .i64 0)]], [], [])) (by kernel_rfl) rfl (by kernel_rfl)) ?_
  intro W base args ds gs before hval hW _ hk _
  exact contract H enc W base args ds gs before hval hW hk

theorem over : Rows.macWaysUptoRow.holds Try.pinned (Rows.OpenSpec.upto Rows.macWaysSpec) :=
  OpenClaim.holds_of_cond 7 Try.f7 rfl rfl rfl rfl rfl rfl rfl ⟨rfl, rfl, rfl, rfl, rfl⟩ rfl rfl rfl rfl rfl (by kernel_rfl) Try.func7 (by kernel_rfl)
    (of_decide_eq_true (by kernel_rfl)) (by unfold Func.isWrapper; first | (rw [if_pos (by decide +kernel)]; kernel_rfl) | (rw [if_neg (by decide +kernel)]; exact ⟨rfl, rfl⟩))
    (fun os started H enc _ F => lifted os started H enc F)

theorem proved : Rows.MacWaysUptoSaid := over
#print axioms proved
end Go.Proofs.Ytmknbdnofogmdaa.macWays
