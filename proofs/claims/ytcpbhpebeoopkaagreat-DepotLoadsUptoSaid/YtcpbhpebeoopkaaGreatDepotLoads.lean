/- This file proves the statement 'Uy of the row 'quern/quernlaw27.DepotLoads': the Go function returns true, and the input reads as it did. Conditions: the arguments are together of bulk at most 1048576. -/
import Derived.Test.YtcpbhpebeoopkaaGreatRows
import Derived.WalkKit
import Derived.ProofKit
import Derived.OpenShut
import Derived.ShutString
import Derived.ChangeOld
import Derived.Below
import Derived.JoinedCond
import Derived.Test.YtcpbhpebeoopkaaGreatK7
namespace Go.Proofs.YtcpbhpebeoopkaaGreat.depotLoads
open Go.ChangeShapes Go.WideShapes Go.ChangeAt Go.RowKit Go.Sx
open Go.ChangeMaps (open_string shut_string)
set_option linter.unusedVariables false
set_option linter.unusedSimpArgs false

theorem own : ownKnob Tryz.prog.godebug = none := by kernel_rfl
theorem laidOut : laidOutB Tryz.prog = true := by kernel_rfl
theorem X6 {H : Type} (d : DataW H) (r : List (DataW H)) : Rows.uptoBulkAll (d :: r) = Rows.uptoBulk d + Rows.uptoBulkAll r := rfl
theorem bulk_nil {H : Type} : Rows.uptoBulkAll ([] : List (DataW H)) = 0 := rfl
theorem bulk_agg {H : Type} (l : List (DataW H)) : Rows.uptoBulk (.agg l) = Rows.uptoBulkAll l + 1 := rfl
theorem bulk_string {H : Type} (l : List UInt8) : Rows.uptoBulk (DataW.lit (H := H) (.string l)) = l.length + 1 := rfl
theorem Ut {H : Type} (d : DataW H) : 0 + 1 <= Rows.uptoBulk d := by
  cases d with
  | lit l => cases l <;> simp [Rows.uptoBulk]
  | _ => simp [Rows.uptoBulk]
theorem bulk_len {H : Type} (l : List (DataW H)) : l.length <= Rows.uptoBulkAll l := by
  induction l with
  | nil => simp [Rows.uptoBulkAll]
  | cons x r ih => have := Ut x;simp only [Rows.uptoBulkAll, List.length_cons];omega
theorem bulk_part {H : Type} {d : DataW H} {l : List (DataW H)} (h : d ∈ l) : Rows.uptoBulk d <= Rows.uptoBulkAll l := by
  induction l with
  | nil => cases h
  | cons x r ih =>
    simp only [Rows.uptoBulkAll];cases List.mem_cons.1 h with
    | inl e => subst e;omega
    | inr e => have := ih e;omega
theorem NW {H : Type} (k : IntKind) (zs : List Int) (l : Nat) (h : l <= zs.length) : l + 1 <= Rows.uptoBulk (.slice (lits (H := H) k (zs.take l)) (lits k (zs.drop l))) := by
  have h1 := bulk_len (lits (H := H) k (zs.take l));simp only [lits, List.length_map, List.length_take] at h1;simp only [Rows.uptoBulk];simp only [lits] at *;omega
theorem bulk_fam {H : Type} : ∀ (ds : List (DataW H)) (xs : List (List UInt8)), Fam ds xs -> Tot xs <= Rows.uptoBulkAll ds
  | [], [], _ => Nat.le_refl _
  | [], _ :: _, h => h.elim
  | _ :: _, [], h => h.elim
  | d :: ds, x :: xs, ⟨h, hr⟩ => by
    have h1 := bulk_fam ds xs hr;have h2 : x.length + 1 <= Rows.uptoBulk d := by
      rcases h with h0 | ⟨zs, h3, h4⟩
      ·subst h0;exact Ut d
      ·rw [h3];exact NW .u8 zs x.length h4
    simp only [Tot, Rows.uptoBulkAll];omega
theorem VS {H : Type} {l : List (DataW H)} (hk : Rows.uptoSmall H l = true) : Rows.uptoBulkAll l <= 1048576 := by
  simpa [Rows.uptoSmall] using hk

set_option maxRecDepth 100000 in
theorem contract (H : Type) (enc : TypeId × Value -> H) (W : World) (base : Nat) (args : Array Value) (ds gs : List (DataW H)) (before : List MemPlace)
    (hval0 : ∀ (j : Nat) t v, Tryz.f3.params[j]? = some t -> args[j]? = some v -> Value.okWide Tryz.prog W .any base t v)
    (hW : DataW.Whole enc Tryz.prog Tryz.f3.params.toList Rows.depotLoadsSpec.vars false W args.toList ds gs before)
    (hk : Rows.uptoSmall H (ds ++ gs) = true) :
    Calls Tryz.prog 3 args W fun e W' => ∃ v, e = .returned v /\ Rows.depotLoadsSpec.post enc Tryz.prog Tryz.f3 false true false false W args v W' := by
  have hval : ∀ (j : Nat) t v, Tryz.f3.params[j]? = some t -> args[j]? = some v -> Value.okWide Tryz.prog W .any base t v := hval0;have hW' := hW;obtain ⟨p, q, hA0, hV, rfl, hfz, hnd⟩ := hW;have hA : DataW.TrodAll enc Tryz.prog W 0 (fun _ => true) true Tryz.f3.params.toList args.toList ds p := hA0;rw [Tryz.params3] at hA hval;obtain ⟨v0, vs0, d0, ds0, p0, q0, hargs, rfl, rfl, h0, r0⟩ := trodAll_cons hA;obtain ⟨rfl, rfl, rfl⟩ := trodAll_nil r0;obtain rfl : args = #[v0] := by cases args;simp_all
  obtain ⟨rfl, rfl⟩ := trodVars_none hV;have hk1 := VS hk;have k0 := h0;have lt0 : ∀ x ∈ p0, x.block < W.heap.size := by obtain ⟨m, hm⟩ := k0;exact DataW.trod_lt m _ _ _ hm
  have bk0_0 : Rows.uptoBulk d0 <= 1048576 := by simp only [List.nil_append, List.append_nil, List.cons_append, X6, bulk_nil] at hk1;omega
  obtain ⟨a0_, l0_, c0_, rfl⟩ := okWide_slice Tryz.underlying22 (hval 0 22 v0 rfl rfl);obtain ⟨fuel0, hf0⟩ := h0;simp only [Value.cells] at hf0;obtain ⟨A1, yQ, cap3, z4, hc5, w6, hb7⟩ := Go.Sx.open_row Tryz.underlying22 Tryz.underlying5 (by kernel_rfl) hf0;obtain ⟨x8, rd9, ln10, lc11⟩ := row_u8 w6;have b12 : x8.length <= 1048576 := by
    rcases hb7 with h0 | ⟨h0, h1⟩
    ·omega
    ·have hq := NW (H := H) .u8 z4 yQ h1;rw [<- h0] at hq;have hp := bk0_0;try dsimp only at hq hp
     omega
  simp only [List.cons.injEq, and_true] at hc5;have he0 := hc5;rw [he0] at k0 hW' ⊢;clear hA0 hval0;have hm := Ko x8 b12;refine Calls.mono (JV (F := N0) (O := N0) x8 A1 yQ cap3 (Ro.n0 ((Ah x8).symm ▸ rd9)) ln10 lc11 (Cx.refl _) true hm) fun e W' h => ?_;obtain ⟨he, cx⟩ := h;have bel := cx.below;subst he;exact ⟨_, rfl, _, _, _, [], _, [], hW', (trodAll_cons_mk (shut_bool Tryz.underlying4 _) trodAll_mk0), (trodAll_cons_mk (Below.trod laidOut (by kernel_rfl) (of_decide_eq_true (by kernel_rfl)) k0 bel lt0) trodAll_mk0), rfl, bel.frame _, fun h => by cases h⟩

set_option maxRecDepth 100000 in
theorem lifted (os : Os) (started : os.Started) (H : Type) (enc : TypeId × Value -> H) (F : Stop.Interp) :
    ReturnsInHanded {} Tryz.checked os 3 .any ((Rows.OpenSpec.upto Rows.depotLoadsSpec).pre6 enc Tryz.prog Tryz.f3 Rows.depotLoadsUptoRow.domain false) (((Rows.OpenSpec.upto Rows.depotLoadsSpec).at F).post enc Tryz.prog Tryz.f3 false true false false) := by
  refine returnsInHanded_of_cond (C := Tryz.checked) (s := Rows.OpenSpec.upto Rows.depotLoadsSpec) (k := Rows.uptoSmall) rfl own started (by kernel_rfl) Tryz.func3
    (OpenSpec.witness (enc := enc) (C := Tryz.checked) (s := Rows.OpenSpec.upto Rows.depotLoadsSpec) (k := Rows.uptoSmall) rfl false ⟨#[], #[.slice none 0 0], []⟩ 8 (by kernel_rfl) (by kernel_rfl) (by kernel_rfl)
      (x := ([.nil], [], [])) (by kernel_rfl) rfl (by kernel_rfl)) ?_
  intro W base args ds gs before hval hW _ hk _;exact contract H enc W base args ds gs before hval hW hk

theorem over : Rows.depotLoadsUptoRow.holds Tryz.pinned (Rows.OpenSpec.upto Rows.depotLoadsSpec) :=
  OpenClaim.holds_of_cond 3 Tryz.f3 rfl rfl rfl rfl rfl rfl rfl ⟨rfl, rfl, rfl, rfl, rfl⟩ rfl rfl rfl rfl rfl (by kernel_rfl) Tryz.func3 (by kernel_rfl)
    (of_decide_eq_true (by kernel_rfl)) (by unfold Func.isWrapper;first | (rw [if_pos (by decide +kernel)];kernel_rfl) | (rw [if_neg (by decide +kernel)];exact ⟨rfl, rfl⟩))
    (fun os started H enc _ F => lifted os started H enc F)

theorem proved : Rows.DepotLoadsUptoSaid := over
#print axioms proved
end Go.Proofs.YtcpbhpebeoopkaaGreat.depotLoads

