/- R6 file OF LL Ju 'zu of LL row 'P0/IV.IW: LL Go function returns true, and LL input reads as it Td. IX: LL arguments Te KX of bulk at cZ 1048576. -/
import Derived.Test.YtcpbhpebeoopkaaRows
import Derived.WalkKit
import Derived.ProofKit
import Derived.OpenShut
import Derived.ShutString
import Derived.ChangeOld
import Derived.Below
import Derived.JoinedCond
import Derived.Test.YtcpbhpebeoopkaaK6
namespace Go.Proofs.Ytcpbhpebeoopkaa.depotOnce
open Go.ChangeShapes Go.WideShapes Go.ChangeAt Go.RowKit Go.Sx
open Go.ChangeMaps (open_string shut_string)
set_option linter.unusedVariables false
set_option linter.unusedSimpArgs false

theorem own : ownKnob Try.prog.godebug = none := by kernel_rfl
theorem laidOut : laidOutB Try.prog = true := by kernel_rfl
theorem u9 {H : Type} (d : DataW H) (r : List (DataW H)) : Rows.uptoBulkAll (d :: r) = Rows.uptoBulk d + Rows.uptoBulkAll r := rfl
theorem yn {H : Type} : Rows.uptoBulkAll ([] : List (DataW H)) = 0 := rfl
theorem yo {H : Type} (l : List (DataW H)) : Rows.uptoBulk (.agg l) = Rows.uptoBulkAll l + 1 := rfl
theorem yp {H : Type} (l : List UInt8) : Rows.uptoBulk (DataW.lit (H := H) (.string l)) = l.length + 1 := rfl
theorem yq {H : Type} (d : DataW H) : 0 + 1 ≤ Rows.uptoBulk d := by
  cases d with
  | lit l => cases l <;> simp [Rows.uptoBulk]
  | _ => simp [Rows.uptoBulk]
theorem DD {H : Type} (l : List (DataW H)) : l.length ≤ Rows.uptoBulkAll l := by
  induction l with
  | nil => simp [Rows.uptoBulkAll]
  | cons x r ih => have := yq x; simp only [Rows.uptoBulkAll, List.length_cons]; omega
theorem u_ {H : Type} {d : DataW H} {l : List (DataW H)} (h : d ∈ l) : Rows.uptoBulk d ≤ Rows.uptoBulkAll l := by
  induction l with
  | nil => cases h
  | cons x r ih =>
    simp only [Rows.uptoBulkAll]
    cases List.mem_cons.1 h with
    | inl e => subst e; omega
    | inr e => have := ih e; omega
theorem tM {H : Type} (k : IntKind) (zs : List Int) (l : Nat) (h : l ≤ zs.length) : l + 1 ≤ Rows.uptoBulk (.slice (lits (H := H) k (zs.take l)) (lits k (zs.drop l))) := by
  have h1 := DD (lits (H := H) k (zs.take l))
  simp only [lits, List.length_map, List.length_take] at h1
  simp only [Rows.uptoBulk]
  simp only [lits] at *
  omega
theorem DE {H : Type} : ∀ (ds : List (DataW H)) (xs : List (List UInt8)), Pp ds xs → Mu xs ≤ Rows.uptoBulkAll ds
  | [], [], _ => Nat.le_refl _
  | [], _ :: _, h => h.elim
  | _ :: _, [], h => h.elim
  | d :: ds, x :: xs, ⟨h, hr⟩ => by
    have h1 := DE ds xs hr
    have h2 : x.length + 1 ≤ Rows.uptoBulk d := by
      rcases h with h0 | ⟨zs, h3, h4⟩
      · subst h0; exact yq d
      · rw [h3]; exact tM .u8 zs x.length h4
    simp only [Mu, Rows.uptoBulkAll]
    omega
theorem zw {H : Type} {l : List (DataW H)} (hk : Rows.uptoSmall H l = true) : Rows.uptoBulkAll l ≤ 1048576 := by
  simpa [Rows.uptoSmall] using hk

set_option maxRecDepth 100000 in
theorem DF (H : Type) (enc : TypeId × Value → H) (W : World) (base : Nat) (args : Array Value) (ds gs : List (DataW H)) (before : List MemPlace)
    (Gr : ∀ (j : Nat) t v, Try.f3.params[j]? = some t → args[j]? = some v → Value.okWide Try.prog W .any base t v)
    (hW : DataW.Whole enc Try.prog Try.f3.params.toList Rows.depotOnceSpec.vars false W args.toList ds gs before)
    (hk : Rows.uptoSmall H (ds ++ gs) = true) :
    Calls Try.prog 3 args W fun e W' => ∃ v, e = .returned v ∧ Rows.depotOnceSpec.post enc Try.prog Try.f3 false true false false W args v W' := by
  have DG : ∀ (j : Nat) t v, Try.f3.params[j]? = some t → args[j]? = some v → Value.okWide Try.prog W .any base t v := Gr
  have OH := hW
  obtain ⟨p, q, P1, hV, rfl, Pz, tW⟩ := hW
  have hA : DataW.TrodAll enc Try.prog W 0 (fun _ => true) true Try.f3.params.toList args.toList ds p := P1
  rw [Try.params3] at hA DG
  obtain ⟨v0, Tf, d0, Tg, p0, q0, rH, rfl, rfl, h0, r0⟩ := trodAll_cons hA
  obtain ⟨v1, Th, d1, Ti, p1, q1, rfl, rfl, rfl, h1, r1⟩ := trodAll_cons r0
  obtain ⟨rfl, rfl, rfl⟩ := trodAll_nil r1
  obtain rfl : args = #[v0, v1] := by cases args; simp_all
  obtain ⟨rfl, rfl⟩ := trodVars_none hV
  have ME := zw hk
  have k0 := h0
  have R7 : ∀ x ∈ p0, x.block < W.heap.size := by obtain ⟨m, hm⟩ := k0; exact DataW.trod_lt m _ _ _ hm
  have P2 : Rows.uptoBulk d0 ≤ 1048576 := by simp only [List.nil_append, List.append_nil, List.cons_append, u9, yn] at ME; omega
  obtain ⟨Tj, rfl⟩ := okWide_int Try.underlying5 (DG 0 5 v0 rfl rfl)
  obtain ⟨P3, P4⟩ := h0
  simp only [Value.cells] at P4
  obtain ⟨m1, jJ, _, w3⟩ := DataW.trod_int Try.underlying5 P4
  obtain ⟨x4, e5⟩ := Cd w3
  rw [e5] at jJ
  simp only [List.cons.injEq, and_true] at jJ
  have R8 := jJ
  rw [R8] at k0 OH ⊢
  have k1 := h1
  have R9 : ∀ x ∈ p1, x.block < W.heap.size := by obtain ⟨m, hm⟩ := k1; exact DataW.trod_lt m _ _ _ hm
  have Gt : Rows.uptoBulk d1 ≤ 1048576 := by simp only [List.nil_append, List.append_nil, List.cons_append, u9, yn] at ME; omega
  obtain ⟨Tk, Tl, Tm, rfl⟩ := okWide_slice Try.underlying22 (DG 1 22 v1 rfl rfl)
  obtain ⟨P5, Fc⟩ := h1
  simp only [Value.cells] at Fc
  have KY : ∀ (N_ Gu : Nat) (Jv : List Value) (x_ : DataW H × List MemPlace), Rows.uptoBulk x_.1 ≤ N_ → DataW.trod enc Try.prog W 0 (fun _ => true) true Gu 52 Jv = some x_ → ∃ (y_ : List UInt8 × Hd) (z_ : List UInt8 × List UInt8), Jv = bx.f (eP eS eH) y_ ∧ (RP RQ (RH N0 W e8)) y_ z_ ∧ (fun z_ : List UInt8 × List UInt8 => max z_.1.length (z_.2.length)) z_ ≤ N_ := by
    intro N_ Gu Jv x_ P6 h_
    obtain ⟨Tn, n7, OI, Sa, KZ⟩ := Ci Try.underlying52 h_
    try dsimp only at OI
    obtain ⟨Sc, OJ, OK⟩ := KZ 0 _ 9 0 1 rfl rfl rfl (by kernel_rfl)
    have OL : Rows.uptoBulk Sc.1 ≤ N_ := by have hq := P6; rw [OI] at hq; have := u_ OJ; simp only [yo] at hq; omega
    obtain ⟨m15, K0, OM, To⟩ := DataW.trod_string Try.underlying9 OK
    obtain ⟨ON, Sd, Se⟩ := Ec m15
    rw [Sd] at K0
    have Sf : ON.length ≤ N_ := by have hq := OL; have P7 := congrArg Prod.fst OM; try dsimp only at P7; rw [P7] at hq; simp only [yp, Array.length_toList] at hq; have : m15.size = m15.data.size := rfl; omega
    obtain ⟨Sg, OO, OP⟩ := KZ 1 _ 45 1 1 rfl rfl rfl (by kernel_rfl)
    have OQ : Rows.uptoBulk Sg.1 ≤ N_ := by have hq := P6; rw [OI] at hq; have := u_ OO; simp only [yo] at hq; omega
    obtain ⟨Si, Gv, Gw, Sj, OR, Sk, OS⟩ := Go.Sx.Cg Try.underlying45 Try.underlying5 (by kernel_rfl) OP
    obtain ⟨LM, OT, OU, Sm⟩ := Hf Sk
    have Sp : LM.length ≤ N_ := by
      rcases OS with h0 | ⟨h0, h1⟩
      · omega
      · have hq := tM (H := H) .u8 Sj Gv h1
        rw [← h0] at hq; have hp := OQ; try dsimp only at hq hp
        omega
    have K1 := Cj (Jv) 0 1 1 rfl
    rw [K0] at K1
    rw [Cj (Jv) 1 1 2 rfl, OR] at K1
    rw [Ed (Jv) _ 2 Sa (by kernel_rfl)] at K1
    simp only [List.drop_zero, List.cons_append, List.nil_append, List.append_nil] at K1
    exact ⟨(ON, (Si, Gv, Gw)), (ON, LM), K1, ⟨rfl, ⟨OU.symm, (by show LM.length ≤ Gw; omega), (Ro.n0 ((qH LM).symm ▸ OT))⟩⟩, Nat.max_le.2 ⟨Sf, Sp⟩⟩
  obtain ⟨Sq, K2, K3, OV, LN, K4, OW, OX, OY, K5⟩ := Eh (eP eS eH) (RP RQ (RH N0 W e8)) (fun d_ z_ => (fun z_ : List UInt8 × List UInt8 => max z_.1.length (z_.2.length)) z_ ≤ Rows.uptoBulk d_) Try.underlying22 (by kernel_rfl) (fun f_ c_ x_ h_ => KY (Rows.uptoBulk x_.1) f_ c_ x_ (Nat.le_refl _) h_) Fc
  have Sr : sZ (fun z_ : List UInt8 × List UInt8 => max z_.1.length (z_.2.length)) LN ≤ 1048576 := by
    rcases K5 with h0 | ⟨ds, rest, h0, h1⟩
    · rw [h0]; simp [sZ]
    · have hq := p7.PC (bulk := Rows.uptoBulk) (bulkAll := Rows.uptoBulkAll) (fun _ _ => rfl) _ _ h1
      have hp := Gt; try dsimp only at h0
      rw [h0] at hp; simp only [Rows.uptoBulk] at hp; omega
  have OZ : LN.length ≤ 1048576 := by
    rcases K5 with h0 | ⟨ds, rest, h0, h1⟩
    · rw [h0]; simp
    · have hq := p7.len (bulk := Rows.uptoBulk) (bulkAll := Rows.uptoBulkAll) (fun _ _ => rfl) (fun d_ => by unfold Rows.uptoBulk; split <;> omega) _ _ h1
      have hp := Gt; try dsimp only at h0
      rw [h0] at hp; simp only [Rows.uptoBulk] at hp; omega
  simp only [List.cons.injEq, and_true] at K4
  have LJ := K4
  rw [LJ] at k1 OH ⊢
  clear P1 Gr
  have hm := sb x4 LN Sr OZ
  refine Calls.mono (r8 (F := N0) (O := (BW W)) x4 LN Sq K2 K3 OV (xq.RS OW (fun y_ x_ q_ => ⟨(And.left q_), (RH.sh (And.right q_))⟩)) OX OY (Cx.KO _) true hm) fun e W' h => ?_
  obtain ⟨he, cx⟩ := h
  have O0 := cx.below
  subst he
  exact ⟨_, rfl, _, _, _, [], _, [], OH, (trodAll_cons_mk (shut_bool Try.underlying4 _) trodAll_mk0), (trodAll_cons_mk (Below.trod laidOut (by kernel_rfl) (of_decide_eq_true (by kernel_rfl)) k0 O0 R7) (trodAll_cons_mk (Below.trod laidOut (by kernel_rfl) (of_decide_eq_true (by kernel_rfl)) k1 O0 R9) trodAll_mk0)), rfl, O0.frame _, fun h => by cases h⟩

set_option maxRecDepth 100000 in
theorem lifted (os : Os) (started : os.Started) (H : Type) (enc : TypeId × Value → H) (F : Stop.Interp) :
    ReturnsInHanded {} Try.checked os 3 .any ((Rows.OpenSpec.upto Rows.depotOnceSpec).pre6 enc Try.prog Try.f3 Rows.depotOnceUptoRow.domain false) (((Rows.OpenSpec.upto Rows.depotOnceSpec).at F).post enc Try.prog Try.f3 false true false false) := by
  refine returnsInHanded_of_cond (C := Try.checked) (s := Rows.OpenSpec.upto Rows.depotOnceSpec) (k := Rows.uptoSmall) rfl own started (by kernel_rfl) Try.func3
    (OpenSpec.witness (enc := enc) (C := Try.checked) (s := Rows.OpenSpec.upto Rows.depotOnceSpec) (k := Rows.uptoSmall) rfl false ⟨#[], #[.int .u8 0, .slice none 0 0], []⟩ 8 (by kernel_rfl) (by kernel_rfl) (by kernel_rfl)
      (x := ([.lit (.int .u8 0), .nil], [], [])) (by kernel_rfl) rfl (by kernel_rfl)) ?_
  intro W base args ds gs before DG hW _ hk _
  exact DF H enc W base args ds gs before DG hW hk

theorem O3 : Rows.depotOnceUptoRow.holds Try.pinned (Rows.OpenSpec.upto Rows.depotOnceSpec) :=
  OpenClaim.holds_of_cond 3 Try.f3 rfl rfl rfl rfl rfl rfl rfl ⟨rfl, rfl, rfl, rfl, rfl⟩ rfl rfl rfl rfl rfl (by kernel_rfl) Try.func3 (by kernel_rfl)
    (of_decide_eq_true (by kernel_rfl)) (by unfold Func.isWrapper; first | (rw [if_pos (by decide +kernel)]; kernel_rfl) | (rw [if_neg (by decide +kernel)]; exact ⟨rfl, rfl⟩))
    (fun os started H enc _ F => lifted os started H enc F)

theorem proved : Rows.DepotOnceUptoSaid := O3
#print axioms proved
end Go.Proofs.Ytcpbhpebeoopkaa.depotOnce

