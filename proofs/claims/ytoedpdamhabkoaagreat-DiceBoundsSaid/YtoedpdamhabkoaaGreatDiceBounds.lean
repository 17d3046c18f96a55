/- T8 file Ry Rz Ni 'Gx of Rz row 'Sc/MY.KU: Rz Go function returns true, and Rz input reads as it UY. MZ: none. -/
import Derived.Test.YtoedpdamhabkoaaGreatRows
import Derived.WalkKit
import Derived.ProofKit
import Derived.OpenShut
import Derived.ShutString
import Derived.ChangeOld
import Derived.Below
import Derived.JoinedCond
import Derived.Test.YtoedpdamhabkoaaGreatK6
namespace Go.Proofs.YtoedpdamhabkoaaGreat.diceBounds
open Go.ChangeShapes Go.WideShapes Go.ChangeAt Go.RowKit Go.Sx
open Go.ChangeMaps (open_string shut_string)
set_option linter.unusedVariables false
set_option linter.unusedSimpArgs false

theorem own : ownKnob Tryz.prog.godebug = none := by kernel_rfl
theorem laidOut : laidOutB Tryz.prog = true := by kernel_rfl
set_option maxRecDepth 100000 in
theorem IM (H : Type) (enc : TypeId × Value → H) (W : World) (base : Nat) (args : Array Value) (ds gs : List (DataW H)) (before : List MemPlace)
    (KV : ∀ (j : Nat) t v, Tryz.f3.params[j]? = some t → args[j]? = some v → Value.okWide Tryz.prog W .any base t v)
    (hW : DataW.Whole enc Tryz.prog Tryz.f3.params.toList Rows.diceBoundsSpec.vars false W args.toList ds gs before) :
    Calls Tryz.prog 3 args W fun e W' => ∃ v, e = .returned v ∧ Rows.diceBoundsSpec.post enc Tryz.prog Tryz.f3 false true false false W args v W' := by
  have EI : ∀ (j : Nat) t v, Tryz.f3.params[j]? = some t → args[j]? = some v → Value.okWide Tryz.prog W .any base t v := KV
  have Pd := hW
  obtain ⟨p, q, Sd, hV, rfl, IZ, UZ⟩ := hW
  have hA : DataW.TrodAll enc Tryz.prog W 0 (fun _ => true) true Tryz.f3.params.toList args.toList ds p := Sd
  rw [Tryz.params3] at hA EI
  obtain ⟨v0, U0, d0, U3, p0, q0, tU, rfl, rfl, h0, r0⟩ := trodAll_cons hA
  obtain ⟨v1, U4, d1, U5, p1, q1, rfl, rfl, rfl, h1, r1⟩ := trodAll_cons r0
  obtain ⟨v2, U6, d2, U7, p2, q2, rfl, rfl, rfl, h2, r2⟩ := trodAll_cons r1
  obtain ⟨v3, U8, d3, U9, p3, q3, rfl, rfl, rfl, h3, r3⟩ := trodAll_cons r2
  obtain ⟨rfl, rfl, rfl⟩ := trodAll_nil r3
  obtain rfl : args = #[v0, v1, v2, v3] := by cases args; simp_all
  obtain ⟨rfl, rfl⟩ := trodVars_none hV
  have k0 := h0
  have T9 : ∀ x ∈ p0, x.block < W.heap.size := by obtain ⟨m, hm⟩ := k0; exact DataW.trod_lt m _ _ _ hm
  obtain ⟨K9, rfl⟩ := D3 Tryz.underlying22 (EI 0 22 v0 rfl rfl)
  obtain ⟨Se, Sf⟩ := h0
  obtain ⟨K9⟩ := K9
  simp only [Value.cells] at Sf
  obtain ⟨x2, e3⟩ := Hc Tryz.underlying22 Tryz.underlying5 (by kernel_rfl) (by kernel_rfl) Sf
  subst e3
  have k1 := h1
  have T_ : ∀ x ∈ p1, x.block < W.heap.size := by obtain ⟨m, hm⟩ := k1; exact DataW.trod_lt m _ _ _ hm
  obtain ⟨U_, rfl⟩ := okWide_int Tryz.underlying23 (EI 1 23 v1 rfl rfl)
  obtain ⟨Sg, Si⟩ := h1
  simp only [Value.cells] at Si
  obtain ⟨m4, wm, _, w6⟩ := DataW.trod_int Tryz.underlying23 Si
  obtain ⟨x7, e8⟩ := Jm w6
  rw [e8] at wm
  simp only [List.cons.injEq, and_true] at wm
  have Ou := wm
  rw [Ou] at k1 Pd ⊢
  have k2 := h2
  have Ua : ∀ x ∈ p2, x.block < W.heap.size := by obtain ⟨m, hm⟩ := k2; exact DataW.trod_lt m _ _ _ hm
  obtain ⟨Va, rfl⟩ := Go.Sx.okWide_float Tryz.underlying24 (EI 2 24 v2 rfl rfl)
  obtain ⟨Sj, Sk⟩ := h2
  simp only [Value.cells] at Sk
  obtain ⟨m9, F3, _, Ub⟩ := Go.Sx.zE Tryz.underlying24 Sk
  have Sm := Hl Ub
  simp only [List.cons.injEq, and_true] at F3
  have Uc := F3
  rw [Uc] at k2 Pd ⊢
  have k3 := h3
  have Ud : ∀ x ∈ p3, x.block < W.heap.size := by obtain ⟨m, hm⟩ := k3; exact DataW.trod_lt m _ _ _ hm
  obtain ⟨Vb, rfl⟩ := Go.Sx.okWide_float Tryz.underlying24 (EI 3 24 v3 rfl rfl)
  obtain ⟨Sn, Sp⟩ := h3
  simp only [Value.cells] at Sp
  obtain ⟨m13, OM, _, Ue⟩ := Go.Sx.zE Tryz.underlying24 Sp
  have Sq := Hl Ue
  simp only [List.cons.injEq, and_true] at OM
  have Uf := OM
  rw [Uf] at k3 Pd ⊢
  clear Sd KV
  have hm := yC x2 x7 (pV m9) (EV Sm) (pV m13) (EV Sq)
  refine Calls.mono (xb (F := N0) (O := N0) x2 x7 (pV m9) (pV m13) m9 m13 (Fl.self Sm) (Fl.self Sq) (Cx.refl _) true hm) fun e W' h => ?_
  obtain ⟨he, cx⟩ := h
  have ON := cx.below
  subst he
  exact ⟨_, rfl, _, _, _, [], _, [], Pd, (trodAll_cons_mk (shut_bool Tryz.underlying4 _) trodAll_mk0), (trodAll_cons_mk (Below.trod laidOut (by kernel_rfl) (of_decide_eq_true (by kernel_rfl)) k0 ON T9) (trodAll_cons_mk (Below.trod laidOut (by kernel_rfl) (of_decide_eq_true (by kernel_rfl)) k1 ON T_) (trodAll_cons_mk (Below.trod laidOut (by kernel_rfl) (of_decide_eq_true (by kernel_rfl)) k2 ON Ua) (trodAll_cons_mk (Below.trod laidOut (by kernel_rfl) (of_decide_eq_true (by kernel_rfl)) k3 ON Ud) trodAll_mk0)))), rfl, ON.frame _, fun h => by cases h⟩

set_option maxRecDepth 100000 in
theorem lifted (os : Os) (started : os.Started) (H : Type) (enc : TypeId × Value → H) :
    ReturnsInHanded {} Tryz.checked os 3 .any (Rows.diceBoundsSpec.pre6 enc Tryz.prog Tryz.f3 Rows.diceBoundsRow.domain false) (Rows.diceBoundsSpec.post enc Tryz.prog Tryz.f3 false true false false) := by
  refine returnsInHanded_of_change (C := Tryz.checked) own started (by kernel_rfl) Tryz.func3
    (ChangeSpec.witness6 (enc := enc) (C := Tryz.checked) false ⟨#[], #[.agg #[.int .u8 0, .int .u8 0, .int .u8 0, .int .u8 0, .int .u8 0, .int .u8 0, .int .u8 0, .int .u8 0], .int .u64 0, .float .f64 0, .float .f64 0], []⟩ 8 (by kernel_rfl) (by kernel_rfl) (by kernel_rfl) (by kernel_rfl)) ?_
  intro W base args ds gs before EI hW _ _
  exact IM H enc W base args ds gs before EI hW

theorem RA : Rows.diceBoundsRow.holds Tryz.pinned (OpenSpec.ofChange Rows.diceBoundsSpec) :=
  OpenClaim.holds_of_wide 3 Tryz.f3 rfl rfl rfl rfl rfl rfl rfl ⟨rfl, rfl, rfl, rfl, rfl⟩ rfl rfl rfl rfl rfl (by kernel_rfl) Tryz.func3 (by kernel_rfl)
    (of_decide_eq_true (by kernel_rfl)) (by unfold Func.isWrapper; first | (rw [if_pos (by decide +kernel)]; kernel_rfl) | (rw [if_neg (by decide +kernel)]; exact ⟨rfl, rfl⟩))
    (fun os started H enc _ => lifted os started H enc)

theorem proved : Rows.DiceBoundsSaid := RA
#print axioms proved
end Go.Proofs.YtoedpdamhabkoaaGreat.diceBounds

