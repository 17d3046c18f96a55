/- This file proves the tied card of the row 'RU/M_.Na: the Go function returns true, and the input reads as it did. Nb: the arguments are together of TY at most 1048576; the listed package-level variables start as the program's text lays them (the card ties that). -/
import Derived.Test.YtlkkpljellognaaGreatDoorRows
import Derived.Test.YtlkkpljellognaaGreatDoorTie
import Derived.Test.YtlkkpljellognaaGreatDoorCards
import Derived.LaidMore
import Derived.Stop.Joined
import Derived.SevenTiedAt
import Derived.Deep.DeepHandedRow
import Derived.Deep.DeepWitnessRowRef
import Derived.Lib.LaidTab
import Derived.Stop.LaidErr
import Derived.Lay
import Derived.MakeChecks
import Derived.WalkKit
import Derived.ProofKit
import Derived.OpenShut
import Derived.ShutString
import Derived.ChangeOld
import Derived.Below
import Derived.JoinedCond
import Derived.Test.YtlkkpljellognaaGreatDoorK4
namespace Go.Proofs.YtlkkpljellognaaGreatDoor.passReads
open Go.ChangeShapes Go.WideShapes Go.ChangeAt Go.WideMaps Go.WideElems Go.RowKit Go.Sx
open Go.ChangeMaps (open_string shut_string)
set_option linter.unusedVariables false
set_option linter.unusedSimpArgs false

theorem own : ownKnob Tryz.prog.godebug = none := by kernel_rfl
theorem laidOut : laidOutB Tryz.prog = true := by kernel_rfl
theorem qi {H : Type} (d : DataW H) (r : List (DataW H)) : Rows.uptoBulkAll (d :: r) = Rows.uptoBulk d + Rows.uptoBulkAll r := rfl
theorem sV {H : Type} : Rows.uptoBulkAll ([] : List (DataW H)) = 0 := rfl
theorem pY {H : Type} (l : List (DataW H)) : Rows.uptoBulk (.agg l) = Rows.uptoBulkAll l + 1 := rfl
theorem Aj {H : Type} (l : List UInt8) : Rows.uptoBulk (DataW.lit (H := H) (.string l)) = l.length + 1 := rfl
theorem Ak {H : Type} (d : DataW H) : 0 + 1 ≤ Rows.uptoBulk d := by
  cases d with
  | lit l => cases l <;> simp [Rows.uptoBulk]
  | _ => simp [Rows.uptoBulk]
theorem G6 {H : Type} (l : List (DataW H)) : l.length ≤ Rows.uptoBulkAll l := by
  induction l with
  | nil => simp [Rows.uptoBulkAll]
  | cons x r ih => have := Ak x; simp only [Rows.uptoBulkAll, List.length_cons]; omega
theorem nM {H : Type} {d : DataW H} {l : List (DataW H)} (h : d ∈ l) : Rows.uptoBulk d ≤ Rows.uptoBulkAll l := by
  induction l with
  | nil => cases h
  | cons x r ih =>
    simp only [Rows.uptoBulkAll]
    cases List.mem_cons.1 h with
    | inl e => subst e; omega
    | inr e => have := ih e; omega
theorem BO {H : Type} (k : IntKind) (zs : List Int) (l : Nat) (h : l ≤ zs.length) : l + 1 ≤ Rows.uptoBulk (.slice (lits (H := H) k (zs.take l)) (lits k (zs.drop l))) := by
  have h1 := G6 (lits (H := H) k (zs.take l))
  simp only [lits, List.length_map, List.length_take] at h1
  simp only [Rows.uptoBulk]
  simp only [lits] at *
  omega
theorem G7 {H : Type} : ∀ (ds : List (DataW H)) (xs : List (List UInt8)), RD ds xs → Tot xs ≤ Rows.uptoBulkAll ds
  | [], [], _ => Nat.le_refl _
  | [], _ :: _, h => h.elim
  | _ :: _, [], h => h.elim
  | d :: ds, x :: xs, ⟨h, hr⟩ => by
    have h1 := G7 ds xs hr
    have h2 : x.length + 1 ≤ Rows.uptoBulk d := by
      rcases h with h0 | ⟨zs, h3, h4⟩
      · subst h0; exact Ak d
      · rw [h3]; exact BO .u8 zs x.length h4
    simp only [Tot, Rows.uptoBulkAll]
    omega
theorem BQ {H : Type} {l : List (DataW H)} (hk : Rows.uptoSmall H l = true) : Rows.uptoBulkAll l ≤ 1048576 := by
  simpa [Rows.uptoSmall] using hk

theorem gTab : Tryz.prog.globalNamed "internal/strconv.uint64pow10" = some 1 := by kernel_rfl
theorem G8 : (Tryz.prog.globals[1]?).map (·.type) = some 151 := by kernel_rfl
set_option maxRecDepth 100000 in
theorem table {W : World} (h : laidMetH Tryz.prog Rows.passReadsUptoRow.laid W) : qm Tryz.prog N0 W := by
  have h1 : laidMet Tryz.prog Rows.passReadsUptoRow.laid W := h
  have h2 := laidMet.tail (laidMet.tail h1)
  exact ⟨Lib.tabIs_of_head (rest := [("unicode/utf8.acceptRanges", Rows.laid_unicode_utf8_acceptRanges), ("unicode/utf8.first", Rows.laid_unicode_utf8_first)]) (n := 20) (e := 24) gTab G8 (by kernel_rfl) (by kernel_rfl) (by kernel_rfl) (by kernel_rfl) h2, _, gTab, id⟩
set_option maxRecDepth 100000 in
theorem contract (H : Type) (enc : TypeId × Value → H) (W : World) (base : Nat) (args : Array Value) (ds gs : List (DataW H)) (before : List MemPlace)
    (hval0 : ∀ (j : Nat) t v, Tryz.f3.params[j]? = some t → args[j]? = some v → Value.okWide Tryz.prog W .any base t v)
    (hW : DataW.Whole enc Tryz.prog Tryz.f3.params.toList Rows.passReadsSpec.vars false W args.toList ds gs before)
    (hk : Rows.uptoSmall H (ds ++ gs) = true) (hT : qm Tryz.prog N0 W) :
    Calls Tryz.prog 3 args W fun e W' => ∃ v, e = .returned v ∧ Rows.passReadsSpec.post enc Tryz.prog Tryz.f3 false true false false W args v W' := by
  have hval : ∀ (j : Nat) t v, Tryz.f3.params[j]? = some t → args[j]? = some v → Value.okWide Tryz.prog W .any base t v := hval0
  have hW' := hW
  obtain ⟨p, q, hA0, hV, rfl, hfz, hnd⟩ := hW
  have hA : DataW.TrodAll enc Tryz.prog W 0 (fun _ => true) true Tryz.f3.params.toList args.toList ds p := hA0
  rw [Tryz.params3] at hA hval
  obtain ⟨v0, UD, d0, ds0, p0, q0, hargs, rfl, rfl, h0, r0⟩ := trodAll_cons hA
  obtain ⟨v1, vs1, d1, ds1, p1, q1, rfl, rfl, rfl, h1, r1⟩ := trodAll_cons r0
  obtain ⟨v2, vs2, d2, ds2, p2, q2, rfl, rfl, rfl, h2, r2⟩ := trodAll_cons r1
  obtain ⟨v3, vs3, d3, ds3, p3, q3, rfl, rfl, rfl, h3, r3⟩ := trodAll_cons r2
  obtain ⟨rfl, rfl, rfl⟩ := trodAll_nil r3
  obtain rfl : args = #[v0, v1, v2, v3] := by cases args; simp_all
  obtain ⟨rfl, rfl⟩ := trodVars_none hV
  have hk1 := BQ hk
  have k0 := h0
  have TZ : ∀ x ∈ p0, x.block < W.heap.size := by obtain ⟨m, hm⟩ := k0; exact DataW.trod_lt m _ _ _ hm
  have Am : Rows.uptoBulk d0 ≤ 1048576 := by simp only [List.nil_append, List.append_nil, List.cons_append, qi, sV] at hk1; omega
  obtain ⟨cs1, rfl, hs2⟩ := okWide_struct Tryz.underlying23 (hval 0 23 v0 rfl rfl)
  obtain ⟨fuel0, hf0⟩ := h0
  obtain ⟨cs1⟩ := cs1
  simp only [Value.cells] at hf0
  obtain ⟨UE, n4, hx5, T_, OB⟩ := Fe Tryz.underlying23 hf0
  try dsimp only at hx5
  obtain ⟨y8, Ua, Q4⟩ := OB 0 _ 3 0 1 rfl rfl rfl (by kernel_rfl)
  have Ub : Rows.uptoBulk y8.1 ≤ 1048576 := by have hq := Am; rw [hx5] at hq; have := nM Ua; simp only [pY] at hq; omega
  obtain ⟨m12, hc13, _, Uc⟩ := DataW.trod_int Tryz.underlying3 Q4
  have UF := wf_i64 Uc
  obtain ⟨Ud, Q5, Q7⟩ := OB 1 _ 3 1 1 rfl rfl rfl (by kernel_rfl)
  have Ue : Rows.uptoBulk Ud.1 ≤ 1048576 := by have hq := Am; rw [hx5] at hq; have := nM Q5; simp only [pY] at hq; omega
  obtain ⟨m20, hc21, _, Uf⟩ := DataW.trod_int Tryz.underlying3 Q7
  have UG := wf_i64 Uf
  obtain ⟨y24, Q8, Q9⟩ := OB 2 _ 3 2 1 rfl rfl rfl (by kernel_rfl)
  have Ug : Rows.uptoBulk y24.1 ≤ 1048576 := by have hq := Am; rw [hx5] at hq; have := nM Q8; simp only [pY] at hq; omega
  obtain ⟨RV, hc29, _, Uh⟩ := DataW.trod_int Tryz.underlying3 Q9
  have UH := wf_i64 Uh
  obtain ⟨y32, Q_, hy34⟩ := OB 3 _ 3 3 1 rfl rfl rfl (by kernel_rfl)
  have Ui : Rows.uptoBulk y32.1 ≤ 1048576 := by have hq := Am; rw [hx5] at hq; have := nM Q_; simp only [pY] at hq; omega
  obtain ⟨RX, Rf, _, Uj⟩ := DataW.trod_int Tryz.underlying3 hy34
  have UI := wf_i64 Uj
  obtain ⟨Uk, Rh, Ri⟩ := OB 4 _ 3 4 1 rfl rfl rfl (by kernel_rfl)
  have Ul : Rows.uptoBulk Uk.1 ≤ 1048576 := by have hq := Am; rw [hx5] at hq; have := nM Rh; simp only [pY] at hq; omega
  obtain ⟨RY, Rj, _, Um⟩ := DataW.trod_int Tryz.underlying3 Ri
  have UJ := wf_i64 Um
  have JR := vX (cs1) 0 1 1 rfl
  rw [hc13] at JR
  rw [vX (cs1) 1 1 2 rfl, hc21] at JR
  rw [vX (cs1) 2 1 3 rfl, hc29] at JR
  rw [vX (cs1) 3 1 4 rfl, Rf] at JR
  rw [vX (cs1) 4 1 5 rfl, Rj] at JR
  rw [Hz (cs1) _ 5 T_ (by kernel_rfl)] at JR
  simp only [List.drop_zero, List.cons_append, List.nil_append, List.append_nil] at JR
  subst JR
  have k1 := h1
  have Un : ∀ x ∈ p1, x.block < W.heap.size := by obtain ⟨m, hm⟩ := k1; exact DataW.trod_lt m _ _ _ hm
  have RZ : Rows.uptoBulk d1 ≤ 1048576 := by simp only [List.nil_append, List.append_nil, List.cons_append, qi, sV] at hk1; omega
  obtain ⟨UK, rfl⟩ := okWide_int Tryz.underlying3 (hval 1 3 v1 rfl rfl)
  obtain ⟨fuel1, hf1⟩ := h1
  simp only [Value.cells] at hf1
  obtain ⟨R_, OC, _, Uo⟩ := DataW.trod_int Tryz.underlying3 hf1
  have UL := wf_i64 Uo
  simp only [List.cons.injEq, and_true] at OC
  have he1 := OC
  rw [he1] at k1 hW' ⊢
  have k2 := h2
  have Ur : ∀ x ∈ p2, x.block < W.heap.size := by obtain ⟨m, hm⟩ := k2; exact DataW.trod_lt m _ _ _ hm
  have Si : Rows.uptoBulk d2 ≤ 1048576 := by simp only [List.nil_append, List.append_nil, List.cons_append, qi, sV] at hk1; omega
  obtain ⟨UM, rfl⟩ := okWide_int Tryz.underlying24 (hval 2 24 v2 rfl rfl)
  obtain ⟨Sj, hf2⟩ := h2
  simp only [Value.cells] at hf2
  obtain ⟨UN, Nc, _, Us⟩ := DataW.trod_int Tryz.underlying24 hf2
  obtain ⟨Sm, e57⟩ := Hw Us
  rw [e57] at Nc
  simp only [List.cons.injEq, and_true] at Nc
  have he2 := Nc
  rw [he2] at k2 hW' ⊢
  have k3 := h3
  have Ut : ∀ x ∈ p3, x.block < W.heap.size := by obtain ⟨m, hm⟩ := k3; exact DataW.trod_lt m _ _ _ hm
  have OD : Rows.uptoBulk d3 ≤ 1048576 := by simp only [List.nil_append, List.append_nil, List.cons_append, qi, sV] at hk1; omega
  obtain ⟨UO, rfl⟩ := okWide_string Tryz.underlying9 (hval 3 9 v3 rfl rfl)
  obtain ⟨Sr, hf3⟩ := h3
  simp only [Value.cells] at hf3
  obtain ⟨Rk, Nh, Rn, UQ⟩ := DataW.trod_string Tryz.underlying9 hf3
  obtain ⟨Rq, e63, Uu⟩ := Hy Rk
  rw [e63] at Nh
  have Uw : Rq.length ≤ 1048576 := by have hq := OD; have hx0 := congrArg Prod.fst Rn; try dsimp only at hx0; rw [hx0] at hq; simp only [Aj, Array.length_toList] at hq; have : Rk.size = Rk.data.size := rfl; omega
  simp only [List.cons.injEq, and_true] at Nh
  have he3 := Nh
  rw [he3] at k3 hW' ⊢
  clear hA0 hval0
  have hm := uP m12 m20 RV RX RY R_ Sm Rq Uw
  refine Calls.mono (uN (F := N0) (O := N0) m12 m20 RV RX RY R_ Sm Rq hT (Cx.refl _) true hm) fun e W' h => ?_
  obtain ⟨he, cx⟩ := h
  have bel := cx.below
  subst he
  exact ⟨_, rfl, _, _, _, [], _, [], hW', (trodAll_cons_mk (shut_bool Tryz.underlying4 _) trodAll_mk0), (trodAll_cons_mk (Below.trod laidOut (by kernel_rfl) (of_decide_eq_true (by kernel_rfl)) k0 bel TZ) (trodAll_cons_mk (Below.trod laidOut (by kernel_rfl) (of_decide_eq_true (by kernel_rfl)) k1 bel Un) (trodAll_cons_mk (Below.trod laidOut (by kernel_rfl) (of_decide_eq_true (by kernel_rfl)) k2 bel Ur) (trodAll_cons_mk (Below.trod laidOut (by kernel_rfl) (of_decide_eq_true (by kernel_rfl)) k3 bel Ut) trodAll_mk0)))), rfl, bel.frame _, fun h => by cases h⟩

theorem door_met (os : Os) (args : Array Value) : laidMetH Tryz.prog Rows.passReadsUptoRow.laid ((World.laidAll Tryz.prog os Rows.passReadsUptoRow.laid).forCall (fun _ _ => 0) ⟨#[], args, []⟩).memory := by
  rw [MakeChecks.laidMetH_plain _ _ _ (by kernel_rfl)]
  exact laidMet_laidAll _ (by kernel_rfl) (by kernel_rfl)
theorem reads (os : Os) {H : Type} (enc : TypeId × Value → H) : ∃ places, DataW.whole enc Tryz.prog ((World.laidAll Tryz.prog os Rows.passReadsUptoRow.laid).forCall (fun _ _ => 0) ⟨#[], #[.agg #[.int .i64 0, .int .i64 0, .int .i64 0, .int .i64 0, .int .i64 0], .int .i64 0, .int .u64 0, .string ByteArray.empty], []⟩).memory Tryz.f3.params.toList Rows.passReadsSpec.vars false (#[.agg #[.int .i64 0, .int .i64 0, .int .i64 0, .int .i64 0, .int .i64 0], .int .i64 0, .int .u64 0, .string ByteArray.empty] : Array Value).toList 8 = some ([.agg [.lit (.int .i64 0), .lit (.int .i64 0), .lit (.int .i64 0), .lit (.int .i64 0), .lit (.int .i64 0)], .lit (.int .i64 0), .lit (.int .u64 0), .lit (.string [])], [], places) :=
  ⟨[], by kernel_rfl⟩

set_option maxRecDepth 100000 in
theorem lifted (os : Os) (started : os.Started) (H : Type) (enc : TypeId × Value → H) (F : Stop.Interp) :
    ReturnsInHanded {} Tryz.checked os 3 .any ((Rows.OpenSpec.upto Rows.passReadsSpec).preRow enc Tryz.prog Tryz.f3 Rows.passReadsUptoRow.domain false Rows.passReadsUptoRow.laid) (((Rows.OpenSpec.upto Rows.passReadsSpec).at F).post enc Tryz.prog Tryz.f3 false true false false) := by
  obtain ⟨places, hx⟩ := reads os enc
  refine returnsInHanded_of_row (C := Tryz.checked) (s := Rows.OpenSpec.upto Rows.passReadsSpec) own started (by kernel_rfl) Tryz.func3
    (witness_row_atRef (enc := enc) (C := Tryz.checked) false (World.laidAll Tryz.prog os Rows.passReadsUptoRow.laid) #[.agg #[.int .i64 0, .int .i64 0, .int .i64 0, .int .i64 0, .int .i64 0], .int .i64 0, .int .u64 0, .string ByteArray.empty] rfl (by kernel_rfl) (by kernel_rfl) (by kernel_rfl)
      (OpenSpec.preRow_of_cond 8 hx (by kernel_rfl) (fun k hk => by cases hk; kernel_rfl) (by kernel_rfl) (door_met os _))) ?_
  intro W base args ds gs before hval hW hconds hcond OE hL JS hholds
  exact contract H enc W base args ds gs before hval hW (hcond _ rfl) (table hL)

theorem row : Rows.PassReadsUptoSaid :=
  OpenClaim.holds_of_cond 3 Tryz.f3 rfl rfl rfl rfl rfl rfl rfl ⟨rfl, rfl, rfl, rfl, rfl⟩ rfl rfl rfl rfl rfl (by kernel_rfl) Tryz.func3 (by kernel_rfl)
    (of_decide_eq_true (by kernel_rfl)) (by unfold Func.isWrapper; first | (rw [if_pos (by decide +kernel)]; kernel_rfl) | (rw [if_neg (by decide +kernel)]; exact ⟨rfl, rfl⟩))
    (fun os started H enc _ F => by rw [OpenClaim.pre_eq_preRow]; exact lifted os started H enc F)

theorem proved : Rows.PassReadsUptoCardSaid :=
  Claim7.holds_tied_plain_at .later [] [.data, .data, .data, .data, .pinned] true (true, "d124e0e5e2f5b8dd1669e1ad2d5493e0864c48dac2792575bbe40dd7e2d03e7e") false
    row (fun _ h => by cases h) (by kernel_rfl) (fun _ h => by cases h) passReadsUpto_row_tie rfl ⟨rfl, rfl⟩ (by kernel_rfl) rfl
    (fun f fn hf hfn => by
      obtain rfl : f = 3 := Option.some.inj ((show Tryz.prog.funcNamed "quern/quernlaw21.PassReads" = some 3 by kernel_rfl).symm.trans hf) |>.symm
      obtain rfl : fn = Tryz.f3 := (Option.some.inj (Tryz.func3.symm.trans hfn)).symm
      exact ⟨by kernel_rfl, fun j t ht => by
        rw [Tryz.params3] at ht
        rcases j with _ | _ | _ | _ | j
        · have e := Option.some.inj (show (some 23 : Option TypeId) = some t from ht)
          subst e
          show _ = _
          kernel_rfl
        · have e := Option.some.inj (show (some 3 : Option TypeId) = some t from ht)
          subst e
          show _ = _
          kernel_rfl
        · have e := Option.some.inj (show (some 24 : Option TypeId) = some t from ht)
          subst e
          show _ = _
          kernel_rfl
        · have e := Option.some.inj (show (some 9 : Option TypeId) = some t from ht)
          subst e
          show _ = _
          kernel_rfl
        · simp at ht⟩)
    (by kernel_rfl)
#print axioms proved
end Go.Proofs.YtlkkpljellognaaGreatDoor.passReads


