/- This file proves the statement 'MacOthersUptoSaid' of the row 'quern/quernlaw06.MacOthers': the Go function returns true, and the input reads as it did. Conditions: the arguments are together of bulk at most 1048576. -/
import Derived.Test.YtmknbdnofogmdaaRows
import Derived.WalkKit
import Derived.ProofKit
import Derived.OpenShut
import Derived.ShutString
import Derived.ChangeOld
import Derived.Below
import Derived.JoinedCond
import Derived.Test.YtmknbdnofogmdaaSyV
import Derived.Test.YtmknbdnofogmdaaW2
import Derived.Test.YtmknbdnofogmdaaQ24
namespace Go.Proofs.Ytmknbdnofogmdaa.macOthers
open Go.ChangeShapes Go.WideShapes Go.ChangeAt Go.RowKit Go.Sx
open Go.ChangeMaps (open_string shut_string)
set_option linter.unusedVariables false
set_option linter.unusedSimpArgs false

theorem own : ownKnob Try.prog.godebug = none := by kernel_rfl
theorem laidOut : laidOutB Try.prog = true := by kernel_rfl
theorem bulk_cons {H : Type} (d : DataW H) (r : List (DataW H)) : Rows.uptoBulkAll (d :: r) = Rows.uptoBulk d + Rows.uptoBulkAll r := rfl
theorem bulk_nil {H : Type} : Rows.uptoBulkAll ([] : List (DataW H)) = 0 := rfl
theorem bulk_agg {H : Type} (l : List (DataW H)) : Rows.uptoBulk (.agg l) = Rows.uptoBulkAll l + 1 := rfl
theorem bulk_string {H : Type} (l : List UInt8) : Rows.uptoBulk (DataW.lit (H := H) (.string l)) = l.length + 1 := rfl
theorem bulk_one {H : Type} (d : DataW H) : 0 + 1 ≤ Rows.uptoBulk d := by
  cases d with
  | lit l => cases l <;> simp [Rows.uptoBulk]
  | _ => simp [Rows.uptoBulk]
theorem bulk_len {H : Type} (l : List (DataW H)) : l.length ≤ Rows.uptoBulkAll l := by
  induction l with
  | nil => simp [Rows.uptoBulkAll]
  | cons x r ih => have := bulk_one x; simp only [Rows.uptoBulkAll, List.length_cons]; omega
theorem bulk_part {H : Type} {d : DataW H} {l : List (DataW H)} (h : d ∈ l) : Rows.uptoBulk d ≤ Rows.uptoBulkAll l := by
  induction l with
  | nil => cases h
  | cons x r ih =>
    simp only [Rows.uptoBulkAll]
    cases List.mem_cons.1 h with
    | inl e => subst e; omega
    | inr e => have := ih e; omega
theorem bulk_slice {H : Type} (k : IntKind) (zs : List Int) (l : Nat) (h : l ≤ zs.length) : l + 1 ≤ Rows.uptoBulk (.slice (lits (H := H) k (zs.take l)) (lits k (zs.drop l))) := by
  have h1 := bulk_len (lits (H := H) k (zs.take l))
  simp only [lits, List.length_map, List.length_take] at h1
  simp only [Rows.uptoBulk]
  simp only [lits] at *
  omega
theorem bulk_fam {H : Type} : ∀ (ds : List (DataW H)) (xs : List (List UInt8)), Fam ds xs → Tot xs ≤ Rows.uptoBulkAll ds
  | [], [], _ => Nat.le_refl _
  | [], _ :: _, h => h.elim
  | _ :: _, [], h => h.elim
  | d :: ds, x :: xs, ⟨h, hr⟩ => by
    have h1 := bulk_fam ds xs hr
    have h2 : x.length + 1 ≤ Rows.uptoBulk d := by
      rcases h with h0 | ⟨zs, h3, h4⟩
      · subst h0; exact bulk_one d
      · rw [h3]; exact bulk_slice .u8 zs x.length h4
    simp only [Tot, Rows.uptoBulkAll]
    omega
theorem bulk_bound {H : Type} {l : List (DataW H)} (hk : Rows.uptoSmall H l = true) : Rows.uptoBulkAll l ≤ 1048576 := by
  simpa [Rows.uptoSmall] using hk

set_option maxRecDepth 100000 in
theorem contract (H : Type) (enc : TypeId × Value → H) (W : World) (base : Nat) (args : Array Value) (ds gs : List (DataW H)) (before : List MemPlace)
    (hval0 : ∀ (j : Nat) t v, Try.f9.params[j]? = some t → args[j]? = some v → Value.okWide Try.prog W .any base t v)
    (hW : DataW.Whole enc Try.prog Try.f9.params.toList Rows.macOthersSpec.vars false W args.toList ds gs before)
    (hk : Rows.uptoSmall H (ds ++ gs) = true) :
    Calls Try.prog 9 args W fun e W' => ∃ v, e = .returned v ∧ Rows.macOthersSpec.post enc Try.prog Try.f9 false true false false W args v W' := by
  have hval : ∀ (j : Nat) t v, Try.f9.params[j]? = some t → args[j]? = some v → Value.okWide Try.prog W .any base t v := hval0
  have hW' := hW
  obtain ⟨p, q, hA0, hV, rfl, hfz, hnd⟩ := hW
  have hA : DataW.TrodAll enc Try.prog W 0 (fun _ => true) true Try.f9.params.toList args.toList ds p := hA0
  rw [Try.params9] at hA hval
  obtain ⟨v0, vs0, d0, ds0, p0, q0, hargs, rfl, rfl, h0, r0⟩ := trodAll_cons hA
  obtain ⟨v1, vs1, d1, ds1, p1, q1, rfl, rfl, rfl, h1, r1⟩ := trodAll_cons r0
  obtain ⟨rfl, rfl, rfl⟩ := trodAll_nil r1
  obtain rfl : args = #[v0, v1] := by cases args; simp_all
  obtain ⟨rfl, rfl⟩ := trodVars_none hV
  have hk1 := bulk_bound hk
  have k0 := h0
  have lt0 : ∀ x ∈ p0, x.block < W.heap.size := by obtain ⟨m, hm⟩ := k0; exact DataW.trod_lt m _ _ _ hm
  have bk0_0 : Rows.uptoBulk d0 ≤ 1048576 := by simp only [List.nil_append, List.append_nil, List.cons_append, bulk_cons, bulk_nil] at hk1; omega
  obtain ⟨cs1, rfl, hs2⟩ := okWide_struct Try.underlying43 (hval 0 43 v0 rfl rfl)
  obtain ⟨fuel0, hf0⟩ := h0
  obtain ⟨cs1⟩ := cs1
  simp only [Value.cells] at hf0
  obtain ⟨xs3, n4, hx5, hl6, hf7⟩ := open_fld Try.underlying43 hf0
  try dsimp only at hx5
  obtain ⟨y8, hm9, hy10⟩ := hf7 0 _ 3 0 1 rfl rfl rfl (by kernel_rfl)
  have bk11 : Rows.uptoBulk y8.1 ≤ 1048576 := by have hq := bk0_0; rw [hx5] at hq; have := bulk_part hm9; simp only [bulk_agg] at hq; omega
  obtain ⟨m12, hc13, _, w14⟩ := DataW.trod_int Try.underlying3 hy10
  have r15 := wf_i64 w14
  obtain ⟨y16, hm17, hy18⟩ := hf7 1 _ 3 1 1 rfl rfl rfl (by kernel_rfl)
  have bk19 : Rows.uptoBulk y16.1 ≤ 1048576 := by have hq := bk0_0; rw [hx5] at hq; have := bulk_part hm17; simp only [bulk_agg] at hq; omega
  obtain ⟨m20, hc21, _, w22⟩ := DataW.trod_int Try.underlying3 hy18
  have r23 := wf_i64 w22
  obtain ⟨y24, hm25, hy26⟩ := hf7 2 _ 22 2 1 rfl rfl rfl (by kernel_rfl)
  have bk27 : Rows.uptoBulk y24.1 ≤ 1048576 := by have hq := bk0_0; rw [hx5] at hq; have := bulk_part hm25; simp only [bulk_agg] at hq; omega
  obtain ⟨A28, len29, cap30, z31, hc32, w33, hb34⟩ := Go.Sx.open_row Try.underlying22 Try.underlying5 (by kernel_rfl) hy26
  obtain ⟨x35, rd36, ln37, lc38⟩ := row_u8 w33
  have b39 : x35.length ≤ 1048576 := by
    rcases hb34 with h0 | ⟨h0, h1⟩
    · omega
    · have hq := bulk_slice (H := H) .u8 z31 len29 h1
      rw [← h0] at hq; have hp := bk27; try dsimp only at hq hp
      omega
  obtain ⟨y40, hm41, hy42⟩ := hf7 3 _ 22 3 1 rfl rfl rfl (by kernel_rfl)
  have bk43 : Rows.uptoBulk y40.1 ≤ 1048576 := by have hq := bk0_0; rw [hx5] at hq; have := bulk_part hm41; simp only [bulk_agg] at hq; omega
  obtain ⟨A44, len45, cap46, z47, hc48, w49, hb50⟩ := Go.Sx.open_row Try.underlying22 Try.underlying5 (by kernel_rfl) hy42
  obtain ⟨x51, rd52, ln53, lc54⟩ := row_u8 w49
  have b55 : x51.length ≤ 1048576 := by
    rcases hb50 with h0 | ⟨h0, h1⟩
    · omega
    · have hq := bulk_slice (H := H) .u8 z47 len45 h1
      rw [← h0] at hq; have hp := bk43; try dsimp only at hq hp
      omega
  obtain ⟨y56, hm57, hy58⟩ := hf7 4 _ 22 4 1 rfl rfl rfl (by kernel_rfl)
  have bk59 : Rows.uptoBulk y56.1 ≤ 1048576 := by have hq := bk0_0; rw [hx5] at hq; have := bulk_part hm57; simp only [bulk_agg] at hq; omega
  obtain ⟨A60, len61, cap62, z63, hc64, w65, hb66⟩ := Go.Sx.open_row Try.underlying22 Try.underlying5 (by kernel_rfl) hy58
  obtain ⟨x67, rd68, ln69, lc70⟩ := row_u8 w65
  have b71 : x67.length ≤ 1048576 := by
    rcases hb66 with h0 | ⟨h0, h1⟩
    · omega
    · have hq := bulk_slice (H := H) .u8 z63 len61 h1
      rw [← h0] at hq; have hp := bk59; try dsimp only at hq hp
      omega
  obtain ⟨y72, hm73, hy74⟩ := hf7 5 _ 22 5 1 rfl rfl rfl (by kernel_rfl)
  have bk75 : Rows.uptoBulk y72.1 ≤ 1048576 := by have hq := bk0_0; rw [hx5] at hq; have := bulk_part hm73; simp only [bulk_agg] at hq; omega
  obtain ⟨A76, len77, cap78, z79, hc80, w81, hb82⟩ := Go.Sx.open_row Try.underlying22 Try.underlying5 (by kernel_rfl) hy74
  obtain ⟨x83, rd84, ln85, lc86⟩ := row_u8 w81
  have b87 : x83.length ≤ 1048576 := by
    rcases hb82 with h0 | ⟨h0, h1⟩
    · omega
    · have hq := bulk_slice (H := H) .u8 z79 len77 h1
      rw [← h0] at hq; have hp := bk75; try dsimp only at hq hp
      omega
  obtain ⟨y88, hm89, hy90⟩ := hf7 6 _ 22 6 1 rfl rfl rfl (by kernel_rfl)
  have bk91 : Rows.uptoBulk y88.1 ≤ 1048576 := by have hq := bk0_0; rw [hx5] at hq; have := bulk_part hm89; simp only [bulk_agg] at hq; omega
  obtain ⟨A92, len93, cap94, z95, hc96, w97, hb98⟩ := Go.Sx.open_row Try.underlying22 Try.underlying5 (by kernel_rfl) hy90
  obtain ⟨x99, rd100, ln101, lc102⟩ := row_u8 w97
  have b103 : x99.length ≤ 1048576 := by
    rcases hb98 with h0 | ⟨h0, h1⟩
    · omega
    · have hq := bulk_slice (H := H) .u8 z95 len93 h1
      rw [← h0] at hq; have hp := bk91; try dsimp only at hq hp
      omega
  have E104 := cut_at (cs1) 0 1 1 rfl
  rw [hc13] at E104
  rw [cut_at (cs1) 1 1 2 rfl, hc21] at E104
  rw [cut_at (cs1) 2 1 3 rfl, hc32] at E104
  rw [cut_at (cs1) 3 1 4 rfl, hc48] at E104
  rw [cut_at (cs1) 4 1 5 rfl, hc64] at E104
  rw [cut_at (cs1) 5 1 6 rfl, hc80] at E104
  rw [cut_at (cs1) 6 1 7 rfl, hc96] at E104
  rw [cut_end (cs1) _ 7 hl6 (by kernel_rfl)] at E104
  simp only [List.drop_zero, List.cons_append, List.nil_append, List.append_nil] at E104
  subst E104
  have k1 := h1
  have lt1 : ∀ x ∈ p1, x.block < W.heap.size := by obtain ⟨m, hm⟩ := k1; exact DataW.trod_lt m _ _ _ hm
  have bk0_1 : Rows.uptoBulk d1 ≤ 1048576 := by simp only [List.nil_append, List.append_nil, List.cons_append, bulk_cons, bulk_nil] at hk1; omega
  obtain ⟨a1_, l1_, c1_, rfl⟩ := okWide_slice Try.underlying69 (hval 1 69 v1 rfl rfl)
  obtain ⟨fuel1, hf1⟩ := h1
  simp only [Value.cells] at hf1
  have hel163 : ∀ (N_ fuel_ : Nat) (cs_ : List Value) (x_ : DataW H × List MemPlace), Rows.uptoBulk x_.1 ≤ N_ → DataW.trod enc Try.prog W 0 (fun _ => true) true fuel_ 56 cs_ = some x_ → ∃ (y_ : Int × List UInt8 × Hd × Hd) (z_ : Int × List UInt8 × List UInt8 × List UInt8), cs_ = Enc.f (eP eI (eP eS (eP eH eH))) y_ ∧ (RP RQ (RP RQ (RP (RH N0 W e8) (RH N0 W e8)))) y_ z_ ∧ (fun z_ : Int × List UInt8 × List UInt8 × List UInt8 => max z_.2.1.length (max z_.2.2.1.length (z_.2.2.2.length))) z_ ≤ N_ := by
    intro N_ fuel_ cs_ x_ hN_ h_
    obtain ⟨xs105, n106, hx107, hl108, hf109⟩ := open_fld Try.underlying56 h_
    try dsimp only at hx107
    obtain ⟨y110, hm111, hy112⟩ := hf109 0 _ 3 0 1 rfl rfl rfl (by kernel_rfl)
    have bk113 : Rows.uptoBulk y110.1 ≤ N_ := by have hq := hN_; rw [hx107] at hq; have := bulk_part hm111; simp only [bulk_agg] at hq; omega
    obtain ⟨m114, hc115, _, w116⟩ := DataW.trod_int Try.underlying3 hy112
    have r117 := wf_i64 w116
    obtain ⟨y118, hm119, hy120⟩ := hf109 1 _ 9 1 1 rfl rfl rfl (by kernel_rfl)
    have bk121 : Rows.uptoBulk y118.1 ≤ N_ := by have hq := hN_; rw [hx107] at hq; have := bulk_part hm119; simp only [bulk_agg] at hq; omega
    obtain ⟨m122, hc123, hx124, w125⟩ := DataW.trod_string Try.underlying9 hy120
    obtain ⟨x126, e127, ln128⟩ := get_str m122
    rw [e127] at hc123
    have b129 : x126.length ≤ N_ := by have hq := bk121; rw [hx124] at hq; simp only [bulk_string, Array.length_toList] at hq; have : m122.size = m122.data.size := rfl; omega
    obtain ⟨y130, hm131, hy132⟩ := hf109 2 _ 22 2 1 rfl rfl rfl (by kernel_rfl)
    have bk133 : Rows.uptoBulk y130.1 ≤ N_ := by have hq := hN_; rw [hx107] at hq; have := bulk_part hm131; simp only [bulk_agg] at hq; omega
    obtain ⟨A134, len135, cap136, z137, hc138, w139, hb140⟩ := Go.Sx.open_row Try.underlying22 Try.underlying5 (by kernel_rfl) hy132
    obtain ⟨x141, rd142, ln143, lc144⟩ := row_u8 w139
    have b145 : x141.length ≤ N_ := by
      rcases hb140 with h0 | ⟨h0, h1⟩
      · omega
      · have hq := bulk_slice (H := H) .u8 z137 len135 h1
        rw [← h0] at hq; have hp := bk133; try dsimp only at hq hp
        omega
    obtain ⟨y146, hm147, hy148⟩ := hf109 3 _ 22 3 1 rfl rfl rfl (by kernel_rfl)
    have bk149 : Rows.uptoBulk y146.1 ≤ N_ := by have hq := hN_; rw [hx107] at hq; have := bulk_part hm147; simp only [bulk_agg] at hq; omega
    obtain ⟨A150, len151, cap152, z153, hc154, w155, hb156⟩ := Go.Sx.open_row Try.underlying22 Try.underlying5 (by kernel_rfl) hy148
    obtain ⟨x157, rd158, ln159, lc160⟩ := row_u8 w155
    have b161 : x157.length ≤ N_ := by
      rcases hb156 with h0 | ⟨h0, h1⟩
      · omega
      · have hq := bulk_slice (H := H) .u8 z153 len151 h1
        rw [← h0] at hq; have hp := bk149; try dsimp only at hq hp
        omega
    have E162 := cut_at (cs_) 0 1 1 rfl
    rw [hc115] at E162
    rw [cut_at (cs_) 1 1 2 rfl, hc123] at E162
    rw [cut_at (cs_) 2 1 3 rfl, hc138] at E162
    rw [cut_at (cs_) 3 1 4 rfl, hc154] at E162
    rw [cut_end (cs_) _ 4 hl108 (by kernel_rfl)] at E162
    simp only [List.drop_zero, List.cons_append, List.nil_append, List.append_nil] at E162
    exact ⟨(m114, x126, (A134, len135, cap136), (A150, len151, cap152)), (m114, x126, x141, x157), E162, ⟨rfl, rfl, ⟨ln143.symm, (by show x141.length ≤ cap136; omega), (Ro.n0 ((e8_all x141).symm ▸ rd142))⟩, ⟨ln159.symm, (by show x157.length ≤ cap152; omega), (Ro.n0 ((e8_all x157).symm ▸ rd158))⟩⟩, Nat.max_le.2 ⟨b129, Nat.max_le.2 ⟨b145, b161⟩⟩⟩
  obtain ⟨A164, len165, cap166, ys167, x168, hc169, ro170, ln171, lc172, fm173⟩ := open_rg (eP eI (eP eS (eP eH eH))) (RP RQ (RP RQ (RP (RH N0 W e8) (RH N0 W e8)))) (fun d_ z_ => (fun z_ : Int × List UInt8 × List UInt8 × List UInt8 => max z_.2.1.length (max z_.2.2.1.length (z_.2.2.2.length))) z_ ≤ Rows.uptoBulk d_) Try.underlying69 (by kernel_rfl) (fun f_ c_ x_ h_ => hel163 (Rows.uptoBulk x_.1) f_ c_ x_ (Nat.le_refl _) h_) hf1
  have b174 : TotG (fun z_ : Int × List UInt8 × List UInt8 × List UInt8 => max z_.2.1.length (max z_.2.2.1.length (z_.2.2.2.length))) x168 ≤ 1048576 := by
    rcases fm173 with h0 | ⟨ds, rest, h0, h1⟩
    · rw [h0]; simp [TotG]
    · have hq := FamG.tot (bulk := Rows.uptoBulk) (bulkAll := Rows.uptoBulkAll) (fun _ _ => rfl) _ _ h1
      have hp := bk0_1; try dsimp only at h0
      rw [h0] at hp; simp only [Rows.uptoBulk] at hp; omega
  simp only [List.cons.injEq, and_true] at hc169
  have he1 := hc169
  rw [he1] at k1 hW' ⊢
  clear hA0 hval0
  have hm := p_l06_MacOthers m12 r15 m20 r23 x35 b39 x51 b55 x67 b71 x83 b87 x99 b103 x168 b174
  refine Calls.mono (c_l06_MacOthers (F := N0) (O := N0) m12 m20 x35 x51 x67 x83 x99 x168 A28 len29 cap30 A44 len45 cap46 A60 len61 cap62 A76 len77 cap78 A92 len93 cap94 A164 len165 cap166 ys167 (Ro.n0 ((e8_all x35).symm ▸ rd36)) ln37 lc38 (Ro.n0 ((e8_all x51).symm ▸ rd52)) ln53 lc54 (Ro.n0 ((e8_all x67).symm ▸ rd68)) ln69 lc70 (Ro.n0 ((e8_all x83).symm ▸ rd84)) ln85 lc86 (Ro.n0 ((e8_all x99).symm ▸ rd100)) ln101 lc102 ro170 ln171 lc172 (Cx.refl _) true hm) fun e W' h => ?_
  obtain ⟨he, cx⟩ := h
  have bel := cx.below
  subst he
  exact ⟨_, rfl, _, _, _, [], _, [], hW', (trodAll_cons_mk (shut_bool Try.underlying4 _) trodAll_mk0), (trodAll_cons_mk (Below.trod laidOut (by kernel_rfl) (of_decide_eq_true (by kernel_rfl)) k0 bel lt0) (trodAll_cons_mk (Below.trod laidOut (by kernel_rfl) (of_decide_eq_true (by kernel_rfl)) k1 bel lt1) trodAll_mk0)), rfl, bel.frame _, fun h => by cases h⟩

set_option maxRecDepth 100000 in
theorem lifted (os : Os) (started : os.Started) (H : Type) (enc : TypeId × Value → H) (F : Stop.Interp) :
    ReturnsInHanded {} Try.checked os 9 .any ((Rows.OpenSpec.upto Rows.macOthersSpec).pre6 enc Try.prog Try.f9 Rows.macOthersUptoRow.domain false) (((Rows.OpenSpec.upto Rows.macOthersSpec).at F).post enc Try.prog Try.f9 false true false false) := by
  refine returnsInHanded_of_cond (C := Try.checked) (s := Rows.OpenSpec.upto Rows.macOthersSpec) (k := Rows.uptoSmall) rfl own started (by kernel_rfl) Try.func9
    (OpenSpec.witness (enc := enc) (C := Try.checked) (s := Rows.OpenSpec.upto Rows.macOthersSpec) (k := Rows.uptoSmall) rfl false ⟨#[], #[.agg #[.int .i64 0, .int .i64 0, .slice none 0 0, .slice none 0 0, .slice none 0 0, .slice none 0 0, .slice none 0 0], .slice none 0 0], []⟩ 8 (by kernel_rfl) (by kernel_rfl) (by kernel_rfl)
      (x := ([.agg [.lit (.int .i64 0), .lit (.int .i64 0), .nil, .nil, .nil, .nil, .nil], .nil], [], [])) (by kernel_rfl) rfl (by kernel_rfl)) ?_
  intro W base args ds gs before hval hW _ hk _
  exact contract H enc W base args ds gs before hval hW hk

theorem over : Rows.macOthersUptoRow.holds Try.pinned (Rows.OpenSpec.upto Rows.macOthersSpec) :=
  OpenClaim.holds_of_cond 9 Try.f9 rfl rfl rfl rfl rfl rfl rfl ⟨rfl, rfl, rfl, rfl, rfl⟩ rfl rfl rfl rfl rfl (by kernel_rfl) Try.func9 (by kernel_rfl)
    (of_decide_eq_true (by kernel_rfl)) (by unfold Func.isWrapper; first | (rw [if_pos (by decide +kernel)]; kernel_rfl) | (rw [if_neg (by decide +kernel)]; exact ⟨rfl, rfl⟩))
    (fun os started H enc _ F => lifted os started H enc F)

theorem proved : Rows.MacOthersUptoSaid := over
#print axioms proved
end Go.Proofs.Ytmknbdnofogmdaa.macOthers
