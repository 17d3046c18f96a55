/- This file proves the statement 'Qd of the row 'quern/quernlaw27.Ze: the Go function returns true, and the input reads as it did. Conditions: the arguments are together of bulk at most 1048576. -/
import Derived.Test.YtcpbhpebeoopkaaGreatRows
import Derived.WalkKit
import Derived.ProofKit
import Derived.OpenShut
import Derived.ShutString
import Derived.ChangeOld
import Derived.Below
import Derived.JoinedCond
import Derived.Test.YtcpbhpebeoopkaaGreatK7
namespace Go.Proofs.YtcpbhpebeoopkaaGreat.depotKeeps
open Go.ChangeShapes Go.WideShapes Go.ChangeAt Go.RowKit Go.Sx
open Go.ChangeMaps (open_string shut_string)
set_option linter.unusedVariables false
set_option linter.unusedSimpArgs false

theorem own : ownKnob Tryz.prog.godebug = none := by kernel_rfl
theorem laidOut : laidOutB Tryz.prog = true := by kernel_rfl
theorem G7 {H : Type} (d : DataW H) (r : List (DataW H)) : Rows.uptoBulkAll (d :: r) = Rows.uptoBulk d + Rows.uptoBulkAll r := rfl
theorem JR {H : Type} : Rows.uptoBulkAll ([] : List (DataW H)) = 0 := rfl
theorem F7 {H : Type} (l : List (DataW H)) : Rows.uptoBulk (.agg l) = Rows.uptoBulkAll l + 1 := rfl
theorem Hy {H : Type} (l : List UInt8) : Rows.uptoBulk (DataW.lit (H := H) (.string l)) = l.length + 1 := rfl
theorem Qa {H : Type} (d : DataW H) : 0 + 1 ≤ Rows.uptoBulk d := by
  cases d with
  | lit l => cases l <;> simp [Rows.uptoBulk]
  | _ => simp [Rows.uptoBulk]
theorem Xq {H : Type} (l : List (DataW H)) : l.length ≤ Rows.uptoBulkAll l := by
  induction l with
  | nil => simp [Rows.uptoBulkAll]
  | cons x r ih => have := Qa x; simp only [Rows.uptoBulkAll, List.length_cons]; omega
theorem Dh {H : Type} {d : DataW H} {l : List (DataW H)} (h : d ∈ l) : Rows.uptoBulk d ≤ Rows.uptoBulkAll l := by
  induction l with
  | nil => cases h
  | cons x r ih =>
    simp only [Rows.uptoBulkAll]
    cases List.mem_cons.1 h with
    | inl e => subst e; omega
    | inr e => have := ih e; omega
theorem EG {H : Type} (k : IntKind) (zs : List Int) (l : Nat) (h : l ≤ zs.length) : l + 1 ≤ Rows.uptoBulk (.slice (lits (H := H) k (zs.take l)) (lits k (zs.drop l))) := by
  have h1 := Xq (lits (H := H) k (zs.take l))
  simp only [lits, List.length_map, List.length_take] at h1
  simp only [Rows.uptoBulk]
  simp only [lits] at *
  omega
theorem Xr {H : Type} : ∀ (ds : List (DataW H)) (xs : List (List UInt8)), Fam ds xs → Tot xs ≤ Rows.uptoBulkAll ds
  | [], [], _ => Nat.le_refl _
  | [], _ :: _, h => h.elim
  | _ :: _, [], h => h.elim
  | d :: ds, x :: xs, ⟨h, hr⟩ => by
    have h1 := Xr ds xs hr
    have h2 : x.length + 1 ≤ Rows.uptoBulk d := by
      rcases h with h0 | ⟨zs, h3, h4⟩
      · subst h0; exact Qa d
      · rw [h3]; exact EG .u8 zs x.length h4
    simp only [Tot, Rows.uptoBulkAll]
    omega
theorem Rn {H : Type} {l : List (DataW H)} (hk : Rows.uptoSmall H l = true) : Rows.uptoBulkAll l ≤ 1048576 := by
  simpa [Rows.uptoSmall] using hk

set_option maxRecDepth 100000 in
theorem contract (H : Type) (enc : TypeId × Value → H) (W : World) (base : Nat) (args : Array Value) (ds gs : List (DataW H)) (before : List MemPlace)
    (hval0 : ∀ (j : Nat) t v, Tryz.f4.params[j]? = some t → args[j]? = some v → Value.okWide Tryz.prog W .any base t v)
    (hW : DataW.Whole enc Tryz.prog Tryz.f4.params.toList Rows.depotKeepsSpec.vars false W args.toList ds gs before)
    (hk : Rows.uptoSmall H (ds ++ gs) = true) :
    Calls Tryz.prog 4 args W fun e W' => ∃ v, e = .returned v ∧ Rows.depotKeepsSpec.post enc Tryz.prog Tryz.f4 false true false false W args v W' := by
  have hval : ∀ (j : Nat) t v, Tryz.f4.params[j]? = some t → args[j]? = some v → Value.okWide Tryz.prog W .any base t v := hval0
  have hW' := hW
  obtain ⟨p, q, hA0, hV, rfl, hfz, hnd⟩ := hW
  have hA : DataW.TrodAll enc Tryz.prog W 0 (fun _ => true) true Tryz.f4.params.toList args.toList ds p := hA0
  rw [Tryz.params4] at hA hval
  obtain ⟨v0, vs0, d0, ds0, p0, q0, hargs, rfl, rfl, h0, r0⟩ := trodAll_cons hA
  obtain ⟨v1, vs1, d1, ds1, p1, q1, rfl, rfl, rfl, h1, r1⟩ := trodAll_cons r0
  obtain ⟨v2, vs2, d2, ds2, p2, q2, rfl, rfl, rfl, h2, r2⟩ := trodAll_cons r1
  obtain ⟨rfl, rfl, rfl⟩ := trodAll_nil r2
  obtain rfl : args = #[v0, v1, v2] := by cases args; simp_all
  obtain ⟨rfl, rfl⟩ := trodVars_none hV
  have hk1 := Rn hk
  have k0 := h0
  have lt0 : ∀ x ∈ p0, x.block < W.heap.size := by obtain ⟨m, hm⟩ := k0; exact DataW.trod_lt m _ _ _ hm
  have bk0_0 : Rows.uptoBulk d0 ≤ 1048576 := by simp only [List.nil_append, List.append_nil, List.cons_append, G7, JR] at hk1; omega
  obtain ⟨a0_, rfl⟩ := okWide_int Tryz.underlying5 (hval 0 5 v0 rfl rfl)
  obtain ⟨fuel0, hf0⟩ := h0
  simp only [Value.cells] at hf0
  obtain ⟨m1, hc2, _, w3⟩ := DataW.trod_int Tryz.underlying5 hf0
  obtain ⟨x4, e5⟩ := U6 w3
  rw [e5] at hc2
  simp only [List.cons.injEq, and_true] at hc2
  have he0 := hc2
  rw [he0] at k0 hW' ⊢
  have k1 := h1
  have lt1 : ∀ x ∈ p1, x.block < W.heap.size := by obtain ⟨m, hm⟩ := k1; exact DataW.trod_lt m _ _ _ hm
  have Zf : Rows.uptoBulk d1 ≤ 1048576 := by simp only [List.nil_append, List.append_nil, List.cons_append, G7, JR] at hk1; omega
  obtain ⟨a1_, l1_, c1_, rfl⟩ := okWide_slice Tryz.underlying47 (hval 1 47 v1 rfl rfl)
  obtain ⟨fuel1, hf1⟩ := h1
  simp only [Value.cells] at hf1
  have hel40 : ∀ (N_ Qb : Nat) (Uu : List Value) (x_ : DataW H × List MemPlace), Rows.uptoBulk x_.1 ≤ N_ → DataW.trod enc Tryz.prog W 0 (fun _ => true) true Qb 57 Uu = some x_ → ∃ (y_ : List UInt8 × Hd) (z_ : List UInt8 × List UInt8), Uu = Enc.f (eP eS eH) y_ ∧ (RP RQ (RH N0 W e8)) y_ z_ ∧ (fun z_ : List UInt8 × List UInt8 => max z_.1.length (z_.2.length)) z_ ≤ N_ := by
    intro N_ Qb Uu x_ hN_ h_
    obtain ⟨xs6, n7, hx8, hl9, hf10⟩ := OE Tryz.underlying57 h_
    try dsimp only at hx8
    obtain ⟨y11, hm12, hy13⟩ := hf10 0 _ 9 0 1 rfl rfl rfl (by kernel_rfl)
    have bk14 : Rows.uptoBulk y11.1 ≤ N_ := by have hq := hN_; rw [hx8] at hq; have := Dh hm12; simp only [F7] at hq; omega
    obtain ⟨m15, hc16, hx17, w18⟩ := DataW.trod_string Tryz.underlying9 hy13
    obtain ⟨x19, e20, ln21⟩ := RF m15
    rw [e20] at hc16
    have b22 : x19.length ≤ N_ := by have hq := bk14; have hx0 := congrArg Prod.fst hx17; try dsimp only at hx0; rw [hx0] at hq; simp only [Hy, Array.length_toList] at hq; have : m15.size = m15.data.size := rfl; omega
    obtain ⟨y23, hm24, hy25⟩ := hf10 1 _ 22 1 1 rfl rfl rfl (by kernel_rfl)
    have bk26 : Rows.uptoBulk y23.1 ≤ N_ := by have hq := hN_; rw [hx8] at hq; have := Dh hm24; simp only [F7] at hq; omega
    obtain ⟨A27, Zg, Zh, z30, hc31, w32, hb33⟩ := Go.Sx.open_row Tryz.underlying22 Tryz.underlying5 (by kernel_rfl) hy25
    obtain ⟨x34, rd35, ln36, lc37⟩ := U8 w32
    have b38 : x34.length ≤ N_ := by
      rcases hb33 with h0 | ⟨h0, h1⟩
      · omega
      · have hq := EG (H := H) .u8 z30 Zg h1
        rw [← h0] at hq; have hp := bk26; try dsimp only at hq hp
        omega
    have E39 := MM (Uu) 0 1 1 rfl
    rw [hc16] at E39
    rw [MM (Uu) 1 1 2 rfl, hc31] at E39
    rw [RG (Uu) _ 2 hl9 (by kernel_rfl)] at E39
    simp only [List.drop_zero, List.cons_append, List.nil_append, List.append_nil] at E39
    exact ⟨(x19, (A27, Zg, Zh)), (x19, x34), E39, ⟨rfl, ⟨ln36.symm, (by show x34.length ≤ Zh; omega), (Ro.n0 ((uz x34).symm ▸ rd35))⟩⟩, Nat.max_le.2 ⟨b22, b38⟩⟩
  obtain ⟨A41, len42, cap43, ys44, x45, hc46, ro47, ln48, lc49, fm50⟩ := RI (eP eS eH) (RP RQ (RH N0 W e8)) (fun d_ z_ => (fun z_ : List UInt8 × List UInt8 => max z_.1.length (z_.2.length)) z_ ≤ Rows.uptoBulk d_) Tryz.underlying47 (by kernel_rfl) (fun f_ c_ x_ h_ => hel40 (Rows.uptoBulk x_.1) f_ c_ x_ (Nat.le_refl _) h_) hf1
  have b51 : E5 (fun z_ : List UInt8 × List UInt8 => max z_.1.length (z_.2.length)) x45 ≤ 1048576 := by
    rcases fm50 with h0 | ⟨ds, rest, h0, h1⟩
    · rw [h0]; simp [E5]
    · have hq := Dn.tot (bulk := Rows.uptoBulk) (bulkAll := Rows.uptoBulkAll) (fun _ _ => rfl) _ _ h1
      have hp := Zf; try dsimp only at h0
      rw [h0] at hp; simp only [Rows.uptoBulk] at hp; omega
  have bl52 : x45.length ≤ 1048576 := by
    rcases fm50 with h0 | ⟨ds, rest, h0, h1⟩
    · rw [h0]; simp
    · have hq := Dn.len (bulk := Rows.uptoBulk) (bulkAll := Rows.uptoBulkAll) (fun _ _ => rfl) (fun d_ => by unfold Rows.uptoBulk; split <;> omega) _ _ h1
      have hp := Zf; try dsimp only at h0
      rw [h0] at hp; simp only [Rows.uptoBulk] at hp; omega
  simp only [List.cons.injEq, and_true] at hc46
  have he1 := hc46
  rw [he1] at k1 hW' ⊢
  have k2 := h2
  have lt2 : ∀ x ∈ p2, x.block < W.heap.size := by obtain ⟨m, hm⟩ := k2; exact DataW.trod_lt m _ _ _ hm
  have Zi : Rows.uptoBulk d2 ≤ 1048576 := by simp only [List.nil_append, List.append_nil, List.cons_append, G7, JR] at hk1; omega
  obtain ⟨a2_, l2_, c2_, rfl⟩ := okWide_slice Tryz.underlying47 (hval 2 47 v2 rfl rfl)
  obtain ⟨fuel2, hf2⟩ := h2
  simp only [Value.cells] at hf2
  have hel87 : ∀ (N_ Qb : Nat) (Uu : List Value) (x_ : DataW H × List MemPlace), Rows.uptoBulk x_.1 ≤ N_ → DataW.trod enc Tryz.prog W 0 (fun _ => true) true Qb 57 Uu = some x_ → ∃ (y_ : List UInt8 × Hd) (z_ : List UInt8 × List UInt8), Uu = Enc.f (eP eS eH) y_ ∧ (RP RQ (RH N0 W e8)) y_ z_ ∧ (fun z_ : List UInt8 × List UInt8 => max z_.1.length (z_.2.length)) z_ ≤ N_ := by
    intro N_ Qb Uu x_ hN_ h_
    obtain ⟨xs53, n54, hx55, hl56, hf57⟩ := OE Tryz.underlying57 h_
    try dsimp only at hx55
    obtain ⟨y58, hm59, hy60⟩ := hf57 0 _ 9 0 1 rfl rfl rfl (by kernel_rfl)
    have bk61 : Rows.uptoBulk y58.1 ≤ N_ := by have hq := hN_; rw [hx55] at hq; have := Dh hm59; simp only [F7] at hq; omega
    obtain ⟨m62, hc63, hx64, w65⟩ := DataW.trod_string Tryz.underlying9 hy60
    obtain ⟨x66, e67, ln68⟩ := RF m62
    rw [e67] at hc63
    have b69 : x66.length ≤ N_ := by have hq := bk61; have hx0 := congrArg Prod.fst hx64; try dsimp only at hx0; rw [hx0] at hq; simp only [Hy, Array.length_toList] at hq; have : m62.size = m62.data.size := rfl; omega
    obtain ⟨y70, hm71, hy72⟩ := hf57 1 _ 22 1 1 rfl rfl rfl (by kernel_rfl)
    have bk73 : Rows.uptoBulk y70.1 ≤ N_ := by have hq := hN_; rw [hx55] at hq; have := Dh hm71; simp only [F7] at hq; omega
    obtain ⟨A74, Zj, Zk, z77, hc78, w79, hb80⟩ := Go.Sx.open_row Tryz.underlying22 Tryz.underlying5 (by kernel_rfl) hy72
    obtain ⟨x81, rd82, ln83, lc84⟩ := U8 w79
    have b85 : x81.length ≤ N_ := by
      rcases hb80 with h0 | ⟨h0, h1⟩
      · omega
      · have hq := EG (H := H) .u8 z77 Zj h1
        rw [← h0] at hq; have hp := bk73; try dsimp only at hq hp
        omega
    have E86 := MM (Uu) 0 1 1 rfl
    rw [hc63] at E86
    rw [MM (Uu) 1 1 2 rfl, hc78] at E86
    rw [RG (Uu) _ 2 hl56 (by kernel_rfl)] at E86
    simp only [List.drop_zero, List.cons_append, List.nil_append, List.append_nil] at E86
    exact ⟨(x66, (A74, Zj, Zk)), (x66, x81), E86, ⟨rfl, ⟨ln83.symm, (by show x81.length ≤ Zk; omega), (Ro.n0 ((uz x81).symm ▸ rd82))⟩⟩, Nat.max_le.2 ⟨b69, b85⟩⟩
  obtain ⟨A88, len89, cap90, ys91, x92, hc93, ro94, ln95, lc96, fm97⟩ := RI (eP eS eH) (RP RQ (RH N0 W e8)) (fun d_ z_ => (fun z_ : List UInt8 × List UInt8 => max z_.1.length (z_.2.length)) z_ ≤ Rows.uptoBulk d_) Tryz.underlying47 (by kernel_rfl) (fun f_ c_ x_ h_ => hel87 (Rows.uptoBulk x_.1) f_ c_ x_ (Nat.le_refl _) h_) hf2
  have b98 : E5 (fun z_ : List UInt8 × List UInt8 => max z_.1.length (z_.2.length)) x92 ≤ 1048576 := by
    rcases fm97 with h0 | ⟨ds, rest, h0, h1⟩
    · rw [h0]; simp [E5]
    · have hq := Dn.tot (bulk := Rows.uptoBulk) (bulkAll := Rows.uptoBulkAll) (fun _ _ => rfl) _ _ h1
      have hp := Zi; try dsimp only at h0
      rw [h0] at hp; simp only [Rows.uptoBulk] at hp; omega
  have bl99 : x92.length ≤ 1048576 := by
    rcases fm97 with h0 | ⟨ds, rest, h0, h1⟩
    · rw [h0]; simp
    · have hq := Dn.len (bulk := Rows.uptoBulk) (bulkAll := Rows.uptoBulkAll) (fun _ _ => rfl) (fun d_ => by unfold Rows.uptoBulk; split <;> omega) _ _ h1
      have hp := Zi; try dsimp only at h0
      rw [h0] at hp; simp only [Rows.uptoBulk] at hp; omega
  simp only [List.cons.injEq, and_true] at hc93
  have he2 := hc93
  rw [he2] at k2 hW' ⊢
  clear hA0 hval0
  have hm := G6 x4 x45 b51 bl52 x92 b98 bl99
  refine Calls.mono (GU (F := N0) (O := (BW W)) x4 x45 x92 A41 len42 cap43 ys44 A88 len89 cap90 ys91 (MN.roh ro47 (fun y_ x_ q_ => ⟨(And.left q_), (RH.sh (And.right q_))⟩)) ln48 lc49 (MN.roh ro94 (fun y_ x_ q_ => ⟨(And.left q_), (RH.sh (And.right q_))⟩)) ln95 lc96 (Cx.refl1 _) true hm) fun e W' h => ?_
  obtain ⟨he, cx⟩ := h
  have bel := cx.below
  subst he
  exact ⟨_, rfl, _, _, _, [], _, [], hW', (trodAll_cons_mk (shut_bool Tryz.underlying4 _) trodAll_mk0), (trodAll_cons_mk (Below.trod laidOut (by kernel_rfl) (of_decide_eq_true (by kernel_rfl)) k0 bel lt0) (trodAll_cons_mk (Below.trod laidOut (by kernel_rfl) (of_decide_eq_true (by kernel_rfl)) k1 bel lt1) (trodAll_cons_mk (Below.trod laidOut (by kernel_rfl) (of_decide_eq_true (by kernel_rfl)) k2 bel lt2) trodAll_mk0))), rfl, bel.frame _, fun h => by cases h⟩

set_option maxRecDepth 100000 in
theorem lifted (os : Os) (started : os.Started) (H : Type) (enc : TypeId × Value → H) (F : Stop.Interp) :
    ReturnsInHanded {} Tryz.checked os 4 .any ((Rows.OpenSpec.upto Rows.depotKeepsSpec).pre6 enc Tryz.prog Tryz.f4 Rows.depotKeepsUptoRow.domain false) (((Rows.OpenSpec.upto Rows.depotKeepsSpec).at F).post enc Tryz.prog Tryz.f4 false true false false) := by
  refine returnsInHanded_of_cond (C := Tryz.checked) (s := Rows.OpenSpec.upto Rows.depotKeepsSpec) (k := Rows.uptoSmall) rfl own started (by kernel_rfl) Tryz.func4
    (OpenSpec.witness (enc := enc) (C := Tryz.checked) (s := Rows.OpenSpec.upto Rows.depotKeepsSpec) (k := Rows.uptoSmall) rfl false ⟨#[], #[.int .u8 0, .slice none 0 0, .slice none 0 0], []⟩ 8 (by kernel_rfl) (by kernel_rfl) (by kernel_rfl)
      (x := ([.lit (.int .u8 0), .nil, .nil], [], [])) (by kernel_rfl) rfl (by kernel_rfl)) ?_
  intro W base args ds gs before hval hW _ hk _
  exact contract H enc W base args ds gs before hval hW hk

theorem over : Rows.depotKeepsUptoRow.holds Tryz.pinned (Rows.OpenSpec.upto Rows.depotKeepsSpec) :=
  OpenClaim.holds_of_cond 4 Tryz.f4 rfl rfl rfl rfl rfl rfl rfl ⟨rfl, rfl, rfl, rfl, rfl⟩ rfl rfl rfl rfl rfl (by kernel_rfl) Tryz.func4 (by kernel_rfl)
    (of_decide_eq_true (by kernel_rfl)) (by unfold Func.isWrapper; first | (rw [if_pos (by decide +kernel)]; kernel_rfl) | (rw [if_neg (by decide +kernel)]; exact ⟨rfl, rfl⟩))
    (fun os started H enc _ F => lifted os started H enc F)

theorem proved : Rows.DepotKeepsUptoSaid := over
#print axioms proved
end Go.Proofs.YtcpbhpebeoopkaaGreat.depotKeeps

