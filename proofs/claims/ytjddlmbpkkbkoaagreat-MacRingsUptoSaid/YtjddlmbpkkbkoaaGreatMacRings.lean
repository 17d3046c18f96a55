/- This file proves the statement 'MacRingsUptoSaid' of the row 'quern/quernlaw06.MacRings': the Go function returns true, and the input reads as it did. Conditions: the arguments are together of bulk at most 1048576. -/
import Derived.Test.YtjddlmbpkkbkoaaGreatRows
import Derived.WalkKit
import Derived.ProofKit
import Derived.OpenShut
import Derived.ShutString
import Derived.ChangeOld
import Derived.Below
import Derived.JoinedCond
import Derived.Test.YtjddlmbpkkbkoaaGreatSyX
import Derived.Test.YtjddlmbpkkbkoaaGreatW4
import Derived.Test.YtjddlmbpkkbkoaaGreatQ26
namespace Go.Proofs.YtjddlmbpkkbkoaaGreat.macRings
open Go.ChangeShapes Go.WideShapes Go.ChangeAt Go.RowKit Go.Sx
open Go.ChangeMaps (open_string shut_string)
set_option linter.unusedVariables false
set_option linter.unusedSimpArgs false

theorem own : ownKnob Tryz.prog.godebug = none := by kernel_rfl
theorem laidOut : laidOutB Tryz.prog = true := by kernel_rfl
theorem bulk_cons {H : Type} (d : DataW H) (r : List (DataW H)) : Rows.uptoBulkAll (d :: r) = Rows.uptoBulk d + Rows.uptoBulkAll r := rfl
theorem bulk_nil {H : Type} : Rows.uptoBulkAll ([] : List (DataW H)) = 0 := rfl
theorem bulk_agg {H : Type} (l : List (DataW H)) : Rows.uptoBulk (.agg l) = Rows.uptoBulkAll l + 1 := rfl
theorem bulk_string {H : Type} (l : List UInt8) : Rows.uptoBulk (DataW.lit (H := H) (.string l)) = l.length + 1 := rfl
theorem bulk_one {H : Type} (d : DataW H) : 0 + 1 ≤ Rows.uptoBulk d := by
  cases d with
  | lit l => cases l <;> simp [Rows.uptoBulk]
  | _ => simp [Rows.uptoBulk]
theorem bulk_len {H : Type} (l : List (DataW H)) : l.length ≤ Rows.uptoBulkAll l := by
  induction l with
  | nil => simp [Rows.uptoBulkAll]
  | cons x r ih => have := bulk_one x; simp only [Rows.uptoBulkAll, List.length_cons]; omega
theorem bulk_part {H : Type} {d : DataW H} {l : List (DataW H)} (h : d ∈ l) : Rows.uptoBulk d ≤ Rows.uptoBulkAll l := by
  induction l with
  | nil => cases h
  | cons x r ih =>
    simp only [Rows.uptoBulkAll]
    cases List.mem_cons.1 h with
    | inl e => subst e; omega
    | inr e => have := ih e; omega
theorem bulk_slice {H : Type} (k : IntKind) (zs : List Int) (l : Nat) (h : l ≤ zs.length) : l + 1 ≤ Rows.uptoBulk (.slice (lits (H := H) k (zs.take l)) (lits k (zs.drop l))) := by
  have h1 := bulk_len (lits (H := H) k (zs.take l))
  simp only [lits, List.length_map, List.length_take] at h1
  simp only [Rows.uptoBulk]
  simp only [lits] at *
  omega
theorem bulk_fam {H : Type} : ∀ (ds : List (DataW H)) (xs : List (List UInt8)), Fam ds xs → Tot xs ≤ Rows.uptoBulkAll ds
  | [], [], _ => Nat.le_refl _
  | [], _ :: _, h => h.elim
  | _ :: _, [], h => h.elim
  | d :: ds, x :: xs, ⟨h, hr⟩ => by
    have h1 := bulk_fam ds xs hr
    have h2 : x.length + 1 ≤ Rows.uptoBulk d := by
      rcases h with h0 | ⟨zs, h3, h4⟩
      · subst h0; exact bulk_one d
      · rw [h3]; exact bulk_slice .u8 zs x.length h4
    simp only [Tot, Rows.uptoBulkAll]
    omega
theorem bulk_bound {H : Type} {l : List (DataW H)} (hk : Rows.uptoSmall H l = true) : Rows.uptoBulkAll l ≤ 1048576 := by
  simpa [Rows.uptoSmall] using hk

set_option maxRecDepth 100000 in
theorem contract (H : Type) (enc : TypeId × Value → H) (W : World) (base : Nat) (args : Array Value) (ds gs : List (DataW H)) (before : List MemPlace)
    (hval0 : ∀ (j : Nat) t v, Tryz.f3.params[j]? = some t → args[j]? = some v → Value.okWide Tryz.prog W .any base t v)
    (hW : DataW.Whole enc Tryz.prog Tryz.f3.params.toList Rows.macRingsSpec.vars false W args.toList ds gs before)
    (hk : Rows.uptoSmall H (ds ++ gs) = true) :
    Calls Tryz.prog 3 args W fun e W' => ∃ v, e = .returned v ∧ Rows.macRingsSpec.post enc Tryz.prog Tryz.f3 false true false false W args v W' := by
  have hval : ∀ (j : Nat) t v, Tryz.f3.params[j]? = some t → args[j]? = some v → Value.okWide Tryz.prog W .any base t v := hval0
  have hW' := hW
  obtain ⟨p, q, hA0, hV, rfl, hfz, hnd⟩ := hW
  have hA : DataW.TrodAll enc Tryz.prog W 0 (fun _ => true) true Tryz.f3.params.toList args.toList ds p := hA0
  rw [Tryz.params3] at hA hval
  obtain ⟨v0, vs0, d0, ds0, p0, q0, hargs, rfl, rfl, h0, r0⟩ := trodAll_cons hA
  obtain ⟨v1, vs1, d1, ds1, p1, q1, rfl, rfl, rfl, h1, r1⟩ := trodAll_cons r0
  obtain ⟨v2, vs2, d2, ds2, p2, q2, rfl, rfl, rfl, h2, r2⟩ := trodAll_cons r1
  obtain ⟨rfl, rfl, rfl⟩ := trodAll_nil r2
  obtain rfl : args = #[v0, v1, v2] := by cases args; simp_all
  obtain ⟨rfl, rfl⟩ := trodVars_none hV
  have hk1 := bulk_bound hk
  have k0 := h0
  have lt0 : ∀ x ∈ p0, x.block < W.heap.size := by obtain ⟨m, hm⟩ := k0; exact DataW.trod_lt m _ _ _ hm
  have bk0_0 : Rows.uptoBulk d0 ≤ 1048576 := by simp only [List.nil_append, List.append_nil, List.cons_append, bulk_cons, bulk_nil] at hk1; omega
  obtain ⟨a0_, rfl⟩ := okWide_int Tryz.underlying3 (hval 0 3 v0 rfl rfl)
  obtain ⟨fuel0, hf0⟩ := h0
  simp only [Value.cells] at hf0
  obtain ⟨m1, hc2, _, w3⟩ := DataW.trod_int Tryz.underlying3 hf0
  have r4 := wf_i64 w3
  simp only [List.cons.injEq, and_true] at hc2
  have he0 := hc2
  rw [he0] at k0 hW' ⊢
  have k1 := h1
  have lt1 : ∀ x ∈ p1, x.block < W.heap.size := by obtain ⟨m, hm⟩ := k1; exact DataW.trod_lt m _ _ _ hm
  have bk0_1 : Rows.uptoBulk d1 ≤ 1048576 := by simp only [List.nil_append, List.append_nil, List.cons_append, bulk_cons, bulk_nil] at hk1; omega
  obtain ⟨a1_, rfl⟩ := okWide_int Tryz.underlying3 (hval 1 3 v1 rfl rfl)
  obtain ⟨fuel1, hf1⟩ := h1
  simp only [Value.cells] at hf1
  obtain ⟨m5, hc6, _, w7⟩ := DataW.trod_int Tryz.underlying3 hf1
  have r8 := wf_i64 w7
  simp only [List.cons.injEq, and_true] at hc6
  have he1 := hc6
  rw [he1] at k1 hW' ⊢
  have k2 := h2
  have lt2 : ∀ x ∈ p2, x.block < W.heap.size := by obtain ⟨m, hm⟩ := k2; exact DataW.trod_lt m _ _ _ hm
  have bk0_2 : Rows.uptoBulk d2 ≤ 1048576 := by simp only [List.nil_append, List.append_nil, List.cons_append, bulk_cons, bulk_nil] at hk1; omega
  obtain ⟨a2_, l2_, c2_, rfl⟩ := okWide_slice Tryz.underlying22 (hval 2 22 v2 rfl rfl)
  obtain ⟨fuel2, hf2⟩ := h2
  simp only [Value.cells] at hf2
  have hel67 : ∀ (N_ fuel_ : Nat) (cs_ : List Value) (x_ : DataW H × List MemPlace), Rows.uptoBulk x_.1 ≤ N_ → DataW.trod enc Tryz.prog W 0 (fun _ => true) true fuel_ 35 cs_ = some x_ → ∃ (y_ : Int × List UInt8 × Hd × Hd) (z_ : Int × List UInt8 × List UInt8 × List UInt8), cs_ = Enc.f (eP eI (eP eS (eP eH eH))) y_ ∧ (RP RQ (RP RQ (RP (RH N0 W e8) (RH N0 W e8)))) y_ z_ ∧ (fun z_ : Int × List UInt8 × List UInt8 × List UInt8 => max z_.2.1.length (max z_.2.2.1.length (z_.2.2.2.length))) z_ ≤ N_ := by
    intro N_ fuel_ cs_ x_ hN_ h_
    obtain ⟨xs9, n10, hx11, hl12, hf13⟩ := open_fld Tryz.underlying35 h_
    try dsimp only at hx11
    obtain ⟨y14, hm15, hy16⟩ := hf13 0 _ 3 0 1 rfl rfl rfl (by kernel_rfl)
    have bk17 : Rows.uptoBulk y14.1 ≤ N_ := by have hq := hN_; rw [hx11] at hq; have := bulk_part hm15; simp only [bulk_agg] at hq; omega
    obtain ⟨m18, hc19, _, w20⟩ := DataW.trod_int Tryz.underlying3 hy16
    have r21 := wf_i64 w20
    obtain ⟨y22, hm23, hy24⟩ := hf13 1 _ 9 1 1 rfl rfl rfl (by kernel_rfl)
    have bk25 : Rows.uptoBulk y22.1 ≤ N_ := by have hq := hN_; rw [hx11] at hq; have := bulk_part hm23; simp only [bulk_agg] at hq; omega
    obtain ⟨m26, hc27, hx28, w29⟩ := DataW.trod_string Tryz.underlying9 hy24
    obtain ⟨x30, e31, ln32⟩ := get_str m26
    rw [e31] at hc27
    have b33 : x30.length ≤ N_ := by have hq := bk25; rw [hx28] at hq; simp only [bulk_string, Array.length_toList] at hq; have : m26.size = m26.data.size := rfl; omega
    obtain ⟨y34, hm35, hy36⟩ := hf13 2 _ 33 2 1 rfl rfl rfl (by kernel_rfl)
    have bk37 : Rows.uptoBulk y34.1 ≤ N_ := by have hq := hN_; rw [hx11] at hq; have := bulk_part hm35; simp only [bulk_agg] at hq; omega
    obtain ⟨A38, len39, cap40, z41, hc42, w43, hb44⟩ := Go.Sx.open_row Tryz.underlying33 Tryz.underlying5 (by kernel_rfl) hy36
    obtain ⟨x45, rd46, ln47, lc48⟩ := row_u8 w43
    have b49 : x45.length ≤ N_ := by
      rcases hb44 with h0 | ⟨h0, h1⟩
      · omega
      · have hq := bulk_slice (H := H) .u8 z41 len39 h1
        rw [← h0] at hq; have hp := bk37; try dsimp only at hq hp
        omega
    obtain ⟨y50, hm51, hy52⟩ := hf13 3 _ 33 3 1 rfl rfl rfl (by kernel_rfl)
    have bk53 : Rows.uptoBulk y50.1 ≤ N_ := by have hq := hN_; rw [hx11] at hq; have := bulk_part hm51; simp only [bulk_agg] at hq; omega
    obtain ⟨A54, len55, cap56, z57, hc58, w59, hb60⟩ := Go.Sx.open_row Tryz.underlying33 Tryz.underlying5 (by kernel_rfl) hy52
    obtain ⟨x61, rd62, ln63, lc64⟩ := row_u8 w59
    have b65 : x61.length ≤ N_ := by
      rcases hb60 with h0 | ⟨h0, h1⟩
      · omega
      · have hq := bulk_slice (H := H) .u8 z57 len55 h1
        rw [← h0] at hq; have hp := bk53; try dsimp only at hq hp
        omega
    have E66 := cut_at (cs_) 0 1 1 rfl
    rw [hc19] at E66
    rw [cut_at (cs_) 1 1 2 rfl, hc27] at E66
    rw [cut_at (cs_) 2 1 3 rfl, hc42] at E66
    rw [cut_at (cs_) 3 1 4 rfl, hc58] at E66
    rw [cut_end (cs_) _ 4 hl12 (by kernel_rfl)] at E66
    simp only [List.drop_zero, List.cons_append, List.nil_append, List.append_nil] at E66
    exact ⟨(m18, x30, (A38, len39, cap40), (A54, len55, cap56)), (m18, x30, x45, x61), E66, ⟨rfl, rfl, ⟨ln47.symm, (by show x45.length ≤ cap40; omega), (Ro.n0 ((e8_all x45).symm ▸ rd46))⟩, ⟨ln63.symm, (by show x61.length ≤ cap56; omega), (Ro.n0 ((e8_all x61).symm ▸ rd62))⟩⟩, Nat.max_le.2 ⟨b33, Nat.max_le.2 ⟨b49, b65⟩⟩⟩
  obtain ⟨A68, len69, cap70, ys71, x72, hc73, ro74, ln75, lc76, fm77⟩ := open_rg (eP eI (eP eS (eP eH eH))) (RP RQ (RP RQ (RP (RH N0 W e8) (RH N0 W e8)))) (fun d_ z_ => (fun z_ : Int × List UInt8 × List UInt8 × List UInt8 => max z_.2.1.length (max z_.2.2.1.length (z_.2.2.2.length))) z_ ≤ Rows.uptoBulk d_) Tryz.underlying22 (by kernel_rfl) (fun f_ c_ x_ h_ => hel67 (Rows.uptoBulk x_.1) f_ c_ x_ (Nat.le_refl _) h_) hf2
  have b78 : TotG (fun z_ : Int × List UInt8 × List UInt8 × List UInt8 => max z_.2.1.length (max z_.2.2.1.length (z_.2.2.2.length))) x72 ≤ 1048576 := by
    rcases fm77 with h0 | ⟨ds, rest, h0, h1⟩
    · rw [h0]; simp [TotG]
    · have hq := FamG.tot (bulk := Rows.uptoBulk) (bulkAll := Rows.uptoBulkAll) (fun _ _ => rfl) _ _ h1
      have hp := bk0_2; try dsimp only at h0
      rw [h0] at hp; simp only [Rows.uptoBulk] at hp; omega
  have bl79 : x72.length ≤ 1048576 := by
    rcases fm77 with h0 | ⟨ds, rest, h0, h1⟩
    · rw [h0]; simp
    · have hq := FamG.len (bulk := Rows.uptoBulk) (bulkAll := Rows.uptoBulkAll) (fun _ _ => rfl) (fun d_ => by unfold Rows.uptoBulk; split <;> omega) _ _ h1
      have hp := bk0_2; try dsimp only at h0
      rw [h0] at hp; simp only [Rows.uptoBulk] at hp; omega
  simp only [List.cons.injEq, and_true] at hc73
  have he2 := hc73
  rw [he2] at k2 hW' ⊢
  clear hA0 hval0
  have hm := p_l06_MacRings m1 r4 m5 r8 x72 b78 bl79
  refine Calls.mono (c_l06_MacRings (F := N0) (O := N0) m1 m5 x72 A68 len69 cap70 ys71 ro74 ln75 lc76 (Cx.refl _) true hm) fun e W' h => ?_
  obtain ⟨he, cx⟩ := h
  have bel := cx.below
  subst he
  exact ⟨_, rfl, _, _, _, [], _, [], hW', (trodAll_cons_mk (shut_bool Tryz.underlying4 _) trodAll_mk0), (trodAll_cons_mk (Below.trod laidOut (by kernel_rfl) (of_decide_eq_true (by kernel_rfl)) k0 bel lt0) (trodAll_cons_mk (Below.trod laidOut (by kernel_rfl) (of_decide_eq_true (by kernel_rfl)) k1 bel lt1) (trodAll_cons_mk (Below.trod laidOut (by kernel_rfl) (of_decide_eq_true (by kernel_rfl)) k2 bel lt2) trodAll_mk0))), rfl, bel.frame _, fun h => by cases h⟩

set_option maxRecDepth 100000 in
theorem lifted (os : Os) (started : os.Started) (H : Type) (enc : TypeId × Value → H) (F : Stop.Interp) :
    ReturnsInHanded {} Tryz.checked os 3 .any ((Rows.OpenSpec.upto Rows.macRingsSpec).pre6 enc Tryz.prog Tryz.f3 Rows.macRingsUptoRow.domain false) (((Rows.OpenSpec.upto Rows.macRingsSpec).at F).post enc Tryz.prog Tryz.f3 false true false false) := by
  refine returnsInHanded_of_cond (C := Tryz.checked) (s := Rows.OpenSpec.upto Rows.macRingsSpec) (k := Rows.uptoSmall) rfl own started (by kernel_rfl) Tryz.func3
    (OpenSpec.witness (enc := enc) (C := Tryz.checked) (s := Rows.OpenSpec.upto Rows.macRingsSpec) (k := Rows.uptoSmall) rfl false ⟨#[], #[.int .i64 0, .int .i64 0, .slice none 0 0], []⟩ 8 (by kernel_rfl) (by kernel_rfl) (by kernel_rfl)
      (x := ([.lit (.int .i64 0), .lit (.int .i64 0), .nil], [], [])) (by kernel_rfl) rfl (by kernel_rfl)) ?_
  intro W base args ds gs before hval hW _ hk _
  exact contract H enc W base args ds gs before hval hW hk

theorem over : Rows.macRingsUptoRow.holds Tryz.pinned (Rows.OpenSpec.upto Rows.macRingsSpec) :=
  OpenClaim.holds_of_cond 3 Tryz.f3 rfl rfl rfl rfl rfl rfl rfl ⟨rfl, rfl, rfl, rfl, rfl⟩ rfl rfl rfl rfl rfl (by kernel_rfl) Tryz.func3 (by kernel_rfl)
    (of_decide_eq_true (by kernel_rfl)) (by unfold Func.isWrapper; first | (rw [if_pos (by decide +kernel)]; kernel_rfl) | (rw [if_neg (by decide +kernel)]; exact ⟨rfl, rfl⟩))
    (fun os started H enc _ F => lifted os started H enc F)

theorem proved : Rows.MacRingsUptoSaid := over
#print axioms proved
end Go.Proofs.YtjddlmbpkkbkoaaGreat.macRings

