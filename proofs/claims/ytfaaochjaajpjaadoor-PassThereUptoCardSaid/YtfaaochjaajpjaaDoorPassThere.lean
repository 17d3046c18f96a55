/- This file proves the tied card of the row 'quern/quernlaw21.PassThere': the Go function returns true, and the input reads as it did. Conditions: the arguments are together of bulk at most 1048576; the listed package-level variables start as the program's text lays them (the card ties that). -/
import Derived.Test.YtfaaochjaajpjaaDoorRows
import Derived.Test.YtfaaochjaajpjaaDoorTie
import Derived.Test.YtfaaochjaajpjaaDoorCards
import Derived.LaidMore
import Derived.Stop.Joined
import Derived.SevenTiedAt
import Derived.Deep.DeepHandedRow
import Derived.Deep.DeepWitnessRowRef
import Derived.Lib.LaidTab
import Derived.Stop.LaidErr
import Derived.WalkKit
import Derived.ProofKit
import Derived.OpenShut
import Derived.ShutString
import Derived.ChangeOld
import Derived.Below
import Derived.JoinedCond
import Derived.Test.YtfaaochjaajpjaaDoorSzA
import Derived.Test.YtfaaochjaajpjaaDoorV1
import Derived.Test.YtfaaochjaajpjaaDoorT8
namespace Go.Proofs.YtfaaochjaajpjaaDoor.passThere
open Go.ChangeShapes Go.WideShapes Go.ChangeAt Go.WideMaps Go.WideElems Go.RowKit Go.Sx
open Go.ChangeMaps (open_string shut_string)
set_option linter.unusedVariables false
set_option linter.unusedSimpArgs false

theorem own : ownKnob Tryd.prog.godebug = none := by kernel_rfl
theorem laidOut : laidOutB Tryd.prog = true := by kernel_rfl
theorem bulk_cons {H : Type} (d : DataW H) (r : List (DataW H)) : Rows.uptoBulkAll (d :: r) = Rows.uptoBulk d + Rows.uptoBulkAll r := rfl
theorem bulk_nil {H : Type} : Rows.uptoBulkAll ([] : List (DataW H)) = 0 := rfl
theorem bulk_agg {H : Type} (l : List (DataW H)) : Rows.uptoBulk (.agg l) = Rows.uptoBulkAll l + 1 := rfl
theorem bulk_string {H : Type} (l : List UInt8) : Rows.uptoBulk (DataW.lit (H := H) (.string l)) = l.length + 1 := rfl
theorem bulk_one {H : Type} (d : DataW H) : 0 + 1 ≤ Rows.uptoBulk d := by
  cases d with
  | lit l => cases l <;> simp [Rows.uptoBulk]
  | _ => simp [Rows.uptoBulk]
theorem bulk_len {H : Type} (l : List (DataW H)) : l.length ≤ Rows.uptoBulkAll l := by
  induction l with
  | nil => simp [Rows.uptoBulkAll]
  | cons x r ih => have := bulk_one x; simp only [Rows.uptoBulkAll, List.length_cons]; omega
theorem bulk_part {H : Type} {d : DataW H} {l : List (DataW H)} (h : d ∈ l) : Rows.uptoBulk d ≤ Rows.uptoBulkAll l := by
  induction l with
  | nil => cases h
  | cons x r ih =>
    simp only [Rows.uptoBulkAll]
    cases List.mem_cons.1 h with
    | inl e => subst e; omega
    | inr e => have := ih e; omega
theorem bulk_slice {H : Type} (k : IntKind) (zs : List Int) (l : Nat) (h : l ≤ zs.length) : l + 1 ≤ Rows.uptoBulk (.slice (lits (H := H) k (zs.take l)) (lits k (zs.drop l))) := by
  have h1 := bulk_len (lits (H := H) k (zs.take l))
  simp only [lits, List.length_map, List.length_take] at h1
  simp only [Rows.uptoBulk]
  simp only [lits] at *
  omega
theorem bulk_fam {H : Type} : ∀ (ds : List (DataW H)) (xs : List (List UInt8)), Fam ds xs → Tot xs ≤ Rows.uptoBulkAll ds
  | [], [], _ => Nat.le_refl _
  | [], _ :: _, h => h.elim
  | _ :: _, [], h => h.elim
  | d :: ds, x :: xs, ⟨h, hr⟩ => by
    have h1 := bulk_fam ds xs hr
    have h2 : x.length + 1 ≤ Rows.uptoBulk d := by
      rcases h with h0 | ⟨zs, h3, h4⟩
      · subst h0; exact bulk_one d
      · rw [h3]; exact bulk_slice .u8 zs x.length h4
    simp only [Tot, Rows.uptoBulkAll]
    omega
theorem bulk_bound {H : Type} {l : List (DataW H)} (hk : Rows.uptoSmall H l = true) : Rows.uptoBulkAll l ≤ 1048576 := by
  simpa [Rows.uptoSmall] using hk

theorem gTab : Tryd.prog.globalNamed "internal/strconv.uint64pow10" = some 0 := by kernel_rfl
theorem gTabType : (Tryd.prog.globals[0]?).map (·.type) = some 86 := by kernel_rfl
set_option maxRecDepth 100000 in
theorem table {W : World} (h : laidMetH Tryd.prog Rows.passThereUptoRow.laid W) : TabF Tryd.prog N0 W := by
  have h1 : laidMet Tryd.prog Rows.passThereUptoRow.laid W := h
  have h2 := laidMet.tail (laidMet.tail h1)
  exact ⟨Lib.tabIs_of_head (rest := []) (n := 20) (e := 45) gTab gTabType (by kernel_rfl) (by kernel_rfl) (by kernel_rfl) (by kernel_rfl) h2, _, gTab, id⟩
set_option maxRecDepth 100000 in
theorem contract (H : Type) (enc : TypeId × Value → H) (W : World) (base : Nat) (args : Array Value) (ds gs : List (DataW H)) (before : List MemPlace)
    (hval0 : ∀ (j : Nat) t v, Tryd.f4.params[j]? = some t → args[j]? = some v → Value.okWide Tryd.prog W .any base t v)
    (hW : DataW.Whole enc Tryd.prog Tryd.f4.params.toList Rows.passThereSpec.vars false W args.toList ds gs before)
    (hk : Rows.uptoSmall H (ds ++ gs) = true) (hT : TabF Tryd.prog N0 W) :
    Calls Tryd.prog 4 args W fun e W' => ∃ v, e = .returned v ∧ Rows.passThereSpec.post enc Tryd.prog Tryd.f4 false true false false W args v W' := by
  have hval : ∀ (j : Nat) t v, Tryd.f4.params[j]? = some t → args[j]? = some v → Value.okWide Tryd.prog W .any base t v := hval0
  have hW' := hW
  obtain ⟨p, q, hA0, hV, rfl, hfz, hnd⟩ := hW
  have hA : DataW.TrodAll enc Tryd.prog W 0 (fun _ => true) true Tryd.f4.params.toList args.toList ds p := hA0
  rw [Tryd.params4] at hA hval
  obtain ⟨v0, vs0, d0, ds0, p0, q0, hargs, rfl, rfl, h0, r0⟩ := trodAll_cons hA
  obtain ⟨v1, vs1, d1, ds1, p1, q1, rfl, rfl, rfl, h1, r1⟩ := trodAll_cons r0
  obtain ⟨rfl, rfl, rfl⟩ := trodAll_nil r1
  obtain rfl : args = #[v0, v1] := by cases args; simp_all
  obtain ⟨rfl, rfl⟩ := trodVars_none hV
  have hk1 := bulk_bound hk
  have k0 := h0
  have lt0 : ∀ x ∈ p0, x.block < W.heap.size := by obtain ⟨m, hm⟩ := k0; exact DataW.trod_lt m _ _ _ hm
  have bk0_0 : Rows.uptoBulk d0 ≤ 1048576 := by simp only [List.nil_append, List.append_nil, List.cons_append, bulk_cons, bulk_nil] at hk1; omega
  obtain ⟨cs1, rfl, hs2⟩ := okWide_struct Tryd.underlying26 (hval 0 26 v0 rfl rfl)
  obtain ⟨fuel0, hf0⟩ := h0
  obtain ⟨cs1⟩ := cs1
  simp only [Value.cells] at hf0
  obtain ⟨xs3, n4, hx5, hl6, hf7⟩ := open_fld Tryd.underlying26 hf0
  try dsimp only at hx5
  obtain ⟨y8, hm9, hy10⟩ := hf7 0 _ 23 0 5 rfl rfl rfl (by kernel_rfl)
  have bk11 : Rows.uptoBulk y8.1 ≤ 1048576 := by have hq := bk0_0; rw [hx5] at hq; have := bulk_part hm9; simp only [bulk_agg] at hq; omega
  obtain ⟨xs12, n13, hx14, hl15, hf16⟩ := open_fld Tryd.underlying23 hy10
  try dsimp only at hx14
  obtain ⟨y17, hm18, hy19⟩ := hf16 0 _ 3 0 1 rfl rfl rfl (by kernel_rfl)
  have bk20 : Rows.uptoBulk y17.1 ≤ 1048576 := by have hq := bk11; rw [hx14] at hq; have := bulk_part hm18; simp only [bulk_agg] at hq; omega
  obtain ⟨m21, hc22, _, w23⟩ := DataW.trod_int Tryd.underlying3 hy19
  have r24 := wf_i64 w23
  obtain ⟨y25, hm26, hy27⟩ := hf16 1 _ 3 1 1 rfl rfl rfl (by kernel_rfl)
  have bk28 : Rows.uptoBulk y25.1 ≤ 1048576 := by have hq := bk11; rw [hx14] at hq; have := bulk_part hm26; simp only [bulk_agg] at hq; omega
  obtain ⟨m29, hc30, _, w31⟩ := DataW.trod_int Tryd.underlying3 hy27
  have r32 := wf_i64 w31
  obtain ⟨y33, hm34, hy35⟩ := hf16 2 _ 3 2 1 rfl rfl rfl (by kernel_rfl)
  have bk36 : Rows.uptoBulk y33.1 ≤ 1048576 := by have hq := bk11; rw [hx14] at hq; have := bulk_part hm34; simp only [bulk_agg] at hq; omega
  obtain ⟨m37, hc38, _, w39⟩ := DataW.trod_int Tryd.underlying3 hy35
  have r40 := wf_i64 w39
  obtain ⟨y41, hm42, hy43⟩ := hf16 3 _ 3 3 1 rfl rfl rfl (by kernel_rfl)
  have bk44 : Rows.uptoBulk y41.1 ≤ 1048576 := by have hq := bk11; rw [hx14] at hq; have := bulk_part hm42; simp only [bulk_agg] at hq; omega
  obtain ⟨m45, hc46, _, w47⟩ := DataW.trod_int Tryd.underlying3 hy43
  have r48 := wf_i64 w47
  obtain ⟨y49, hm50, hy51⟩ := hf16 4 _ 3 4 1 rfl rfl rfl (by kernel_rfl)
  have bk52 : Rows.uptoBulk y49.1 ≤ 1048576 := by have hq := bk11; rw [hx14] at hq; have := bulk_part hm50; simp only [bulk_agg] at hq; omega
  obtain ⟨m53, hc54, _, w55⟩ := DataW.trod_int Tryd.underlying3 hy51
  have r56 := wf_i64 w55
  have E57 := cut_at (((cs1).drop 0).take 5) 0 1 1 rfl
  rw [hc22] at E57
  rw [cut_at (((cs1).drop 0).take 5) 1 1 2 rfl, hc30] at E57
  rw [cut_at (((cs1).drop 0).take 5) 2 1 3 rfl, hc38] at E57
  rw [cut_at (((cs1).drop 0).take 5) 3 1 4 rfl, hc46] at E57
  rw [cut_at (((cs1).drop 0).take 5) 4 1 5 rfl, hc54] at E57
  rw [cut_end (((cs1).drop 0).take 5) _ 5 hl15 (by kernel_rfl)] at E57
  simp only [List.drop_zero, List.cons_append, List.nil_append, List.append_nil] at E57
  obtain ⟨y58, hm59, hy60⟩ := hf7 1 _ 24 5 1 rfl rfl rfl (by kernel_rfl)
  have bk61 : Rows.uptoBulk y58.1 ≤ 1048576 := by have hq := bk0_0; rw [hx5] at hq; have := bulk_part hm59; simp only [bulk_agg] at hq; omega
  obtain ⟨A62, len63, cap64, z65, hc66, w67, hb68⟩ := Go.Sx.open_row Tryd.underlying24 Tryd.underlying5 (by kernel_rfl) hy60
  obtain ⟨x69, rd70, ln71, lc72⟩ := row_u8 w67
  have b73 : x69.length ≤ 1048576 := by
    rcases hb68 with h0 | ⟨h0, h1⟩
    · omega
    · have hq := bulk_slice (H := H) .u8 z65 len63 h1
      rw [← h0] at hq; have hp := bk61; try dsimp only at hq hp
      omega
  obtain ⟨y74, hm75, hy76⟩ := hf7 2 _ 24 6 1 rfl rfl rfl (by kernel_rfl)
  have bk77 : Rows.uptoBulk y74.1 ≤ 1048576 := by have hq := bk0_0; rw [hx5] at hq; have := bulk_part hm75; simp only [bulk_agg] at hq; omega
  obtain ⟨A78, len79, cap80, z81, hc82, w83, hb84⟩ := Go.Sx.open_row Tryd.underlying24 Tryd.underlying5 (by kernel_rfl) hy76
  obtain ⟨x85, rd86, ln87, lc88⟩ := row_u8 w83
  have b89 : x85.length ≤ 1048576 := by
    rcases hb84 with h0 | ⟨h0, h1⟩
    · omega
    · have hq := bulk_slice (H := H) .u8 z81 len79 h1
      rw [← h0] at hq; have hp := bk77; try dsimp only at hq hp
      omega
  have E90 := cut_at (cs1) 0 5 5 rfl
  simp only [List.drop_zero] at E90
  rw [E57] at E90
  rw [cut_at (cs1) 5 1 6 rfl, hc66] at E90
  rw [cut_at (cs1) 6 1 7 rfl, hc82] at E90
  rw [cut_end (cs1) _ 7 hl6 (by kernel_rfl)] at E90
  simp only [List.drop_zero, List.cons_append, List.nil_append, List.append_nil] at E90
  subst E90
  have k1 := h1
  have lt1 : ∀ x ∈ p1, x.block < W.heap.size := by obtain ⟨m, hm⟩ := k1; exact DataW.trod_lt m _ _ _ hm
  have bk0_1 : Rows.uptoBulk d1 ≤ 1048576 := by simp only [List.nil_append, List.append_nil, List.cons_append, bulk_cons, bulk_nil] at hk1; omega
  obtain ⟨a1_, rfl⟩ := okWide_string Tryd.underlying9 (hval 1 9 v1 rfl rfl)
  obtain ⟨fuel1, hf1⟩ := h1
  simp only [Value.cells] at hf1
  obtain ⟨m91, hc92, hx93, w94⟩ := DataW.trod_string Tryd.underlying9 hf1
  obtain ⟨x95, e96, ln97⟩ := get_str m91
  rw [e96] at hc92
  have b98 : x95.length ≤ 1048576 := by have hq := bk0_1; have hx0 := congrArg Prod.fst hx93; try dsimp only at hx0; rw [hx0] at hq; simp only [bulk_string, Array.length_toList] at hq; have : m91.size = m91.data.size := rfl; omega
  simp only [List.cons.injEq, and_true] at hc92
  have he1 := hc92
  rw [he1] at k1 hW' ⊢
  clear hA0 hval0
  have hm := p_l21_PassThere m21 m29 m37 m45 m53 x69 x85 x95 b98
  refine Calls.mono (c_l21_PassThere (F := N0) (O := N0) m21 m29 m37 m45 m53 x69 x85 x95 A62 len63 cap64 A78 len79 cap80 (Ro.n0 ((e8_all x69).symm ▸ rd70)) ln71 lc72 (Ro.n0 ((e8_all x85).symm ▸ rd86)) ln87 lc88 hT (Cx.refl _) true hm) fun e W' h => ?_
  obtain ⟨he, cx⟩ := h
  have bel := cx.below
  subst he
  exact ⟨_, rfl, _, _, _, [], _, [], hW', (trodAll_cons_mk (shut_bool Tryd.underlying4 _) trodAll_mk0), (trodAll_cons_mk (Below.trod laidOut (by kernel_rfl) (of_decide_eq_true (by kernel_rfl)) k0 bel lt0) (trodAll_cons_mk (Below.trod laidOut (by kernel_rfl) (of_decide_eq_true (by kernel_rfl)) k1 bel lt1) trodAll_mk0)), rfl, bel.frame _, fun h => by cases h⟩

theorem door_met (os : Os) (args : Array Value) : laidMetH Tryd.prog Rows.passThereUptoRow.laid ((World.doorLaid Tryd.prog 400 os).forCall (fun _ _ => 0) ⟨#[], args, []⟩).memory :=
  laidMetH_of_parts3 (fuel := 8) (laidMet_of_run' 8 (by kernel_rfl) (by kernel_rfl)) (by kernel_rfl) (by kernel_rfl)
theorem reads (os : Os) {H : Type} (enc : TypeId × Value → H) : ∃ places, DataW.whole enc Tryd.prog ((World.doorLaid Tryd.prog 400 os).forCall (fun _ _ => 0) ⟨#[], #[.agg #[.int .i64 0, .int .i64 0, .int .i64 0, .int .i64 0, .int .i64 0, .slice none 0 0, .slice none 0 0], .string ByteArray.empty], []⟩).memory Tryd.f4.params.toList Rows.passThereSpec.vars false (#[.agg #[.int .i64 0, .int .i64 0, .int .i64 0, .int .i64 0, .int .i64 0, .slice none 0 0, .slice none 0 0], .string ByteArray.empty] : Array Value).toList 8 = some ([.agg [.agg [.lit (.int .i64 0), .lit (.int .i64 0), .lit (.int .i64 0), .lit (.int .i64 0), .lit (.int .i64 0)], .nil, .nil], .lit (.string [])], [], places) :=
  ⟨[], by kernel_rfl⟩

set_option maxRecDepth 100000 in
theorem lifted (os : Os) (started : os.Started) (H : Type) (enc : TypeId × Value → H) (F : Stop.Interp) :
    ReturnsInHanded {} Tryd.checked os 4 .any ((Rows.OpenSpec.upto Rows.passThereSpec).preRow enc Tryd.prog Tryd.f4 Rows.passThereUptoRow.domain false Rows.passThereUptoRow.laid) (((Rows.OpenSpec.upto Rows.passThereSpec).at F).post enc Tryd.prog Tryd.f4 false true false false) := by
  obtain ⟨places, hx⟩ := reads os enc
  refine returnsInHanded_of_row (C := Tryd.checked) (s := Rows.OpenSpec.upto Rows.passThereSpec) own started (by kernel_rfl) Tryd.func4
    (witness_row_atRef (enc := enc) (C := Tryd.checked) false (World.doorLaid Tryd.prog 400 os) #[.agg #[.int .i64 0, .int .i64 0, .int .i64 0, .int .i64 0, .int .i64 0, .slice none 0 0, .slice none 0 0], .string ByteArray.empty] rfl (by kernel_rfl) (by kernel_rfl) (by kernel_rfl)
      (OpenSpec.preRow_of_cond 8 hx (by kernel_rfl) (fun k hk => by cases hk; kernel_rfl) (by kernel_rfl) (door_met os _))) ?_
  intro W base args ds gs before hval hW hconds hcond hweights hL hShapedOpen hholds
  exact contract H enc W base args ds gs before hval hW (hcond _ rfl) (table hL)

theorem row : Rows.PassThereUptoSaid :=
  OpenClaim.holds_of_cond 4 Tryd.f4 rfl rfl rfl rfl rfl rfl rfl ⟨rfl, rfl, rfl, rfl, rfl⟩ rfl rfl rfl rfl rfl (by kernel_rfl) Tryd.func4 (by kernel_rfl)
    (of_decide_eq_true (by kernel_rfl)) (by unfold Func.isWrapper; first | (rw [if_pos (by decide +kernel)]; kernel_rfl) | (rw [if_neg (by decide +kernel)]; exact ⟨rfl, rfl⟩))
    (fun os started H enc _ F => by rw [OpenClaim.pre_eq_preRow]; exact lifted os started H enc F)

theorem proved : Rows.PassThereUptoCardSaid :=
  Claim7.holds_tied_plain_at .later [] [.data, .data, .data] true (true, "67b4fbf7f9611a34f8690d5d18484a2b35b952ef4c0490e742bbb016f0a259ae") false
    row (fun _ h => by cases h) (by kernel_rfl) (fun _ h => by cases h) passThereUpto_row_tie rfl ⟨rfl, rfl⟩ (by kernel_rfl) rfl
    (fun f fn hf hfn => by
      obtain rfl : f = 4 := Option.some.inj ((show Tryd.prog.funcNamed "quern/quernlaw21.PassThere" = some 4 by kernel_rfl).symm.trans hf) |>.symm
      obtain rfl : fn = Tryd.f4 := (Option.some.inj (Tryd.func4.symm.trans hfn)).symm
      exact ⟨by kernel_rfl, fun j t ht => by
        rw [Tryd.params4] at ht
        rcases j with _ | _ | j
        · have e := Option.some.inj (show (some 26 : Option TypeId) = some t from ht)
          subst e
          show _ = _
          kernel_rfl
        · have e := Option.some.inj (show (some 9 : Option TypeId) = some t from ht)
          subst e
          show _ = _
          kernel_rfl
        · simp at ht⟩)
    (by kernel_rfl)
#print axioms proved
end Go.Proofs.YtfaaochjaajpjaaDoor.passThere

