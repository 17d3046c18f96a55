import Derived.Test.YtlekdnlojpnlmaaSyX
import Derived.Sort.OwnSortedInts
namespace Go.Sx
open Go.RowKit
set_option linter.unusedSimpArgs false
set_option linter.unusedVariables false
/-! ### the library's sort of numbers -/
/-! ### a row of structs that are given as they are -/
section
variable {P : Program} {n : Nat} {ops : Array Oper} {L : St} {w w0 : World} {F O : Nat → Prop} {hs : List HP} {K : St → World → Prop}
theorem Op_mkB {dst : Option Nat} {t ty : TypeId} {len : Nat} {parts : Array (Nat × Operand)} {pos : String} {aft : Array Edge} {g : Option (Nat × Bool)} {e : TypeId} {zs : List Value} {bytes : Nat} (tf : TF P t e zs bytes)
    (ss : List Nat) (d : Nat) (ps : List (Nat × SV)) (ys : List SV)
    (hside : (gok ops ss L ⟨dst, .buildSlice t len parts, ty, pos, aft, g⟩, dst, (decide (d < n)), (L.any fun p => p.1 == d), (toPS parts.toList (lk L)).map (·.map fun p => (p.1, p.2.val))) = (true, some d, true, false, some (ps.map fun p => (p.1, p.2.val))))
    (hf : ((fillS (fun i => some (i * zs.length, zs.length)) ((List.replicate len zs).flatten.map kst1) ps).map SV.cl, decide (len * zs.length ≤ 16777216), decide (0 < len)) = (some (SV.cl ys), true, true)) (hz : len * zs.length ≠ 0)
    (k : Cx F O w0 w hs) (hk : ∀ b w', Cx F O w0 w' (hs ++ [Bx e b ys]) → K ((d, .v (.slice (some ⟨b, 0, none⟩) len len)) :: L) w') :
    Op1 P n ops L w ⟨dst, .buildSlice t len parts, ty, pos, aft, g⟩ K := by
  simp only [Prod.mk.injEq, decide_eq_true_eq, Option.map_eq_some_iff] at hside hf
  obtain ⟨h1, rfl, h3, h4, ⟨ps', h5, h6⟩⟩ := hside
  obtain ⟨⟨svs, hf, hx⟩, hlen, hl0⟩ := hf
  refine WL_of (xs := []) (svs := []) ss (d := d) (by simp [Side, h1, h3, h4, toSS]) fun a ha _ => ?_
  have hps := toPS_spec (fun o x hx => lk_spec ha hx) h5
  rw [h6] at hps
  obtain ⟨i, z, hi, hz', hzc, hsz, hby⟩ := tf.parts
  have hfill := fillS_spec (place := fun i => some (i * zs.length, zs.length)) ps _ _ hf
  rw [cl_kst1] at hfill
  have hszr : (sizeOf e).run P w = .ok zs.length w := by rw [← hsz]; exact run_cellsOf hi w
  have hrun : (Instr.buildSlice t len (parts.map fun (i, x) => (i, a.eval x))).run P w = .ok (.slice (some ⟨w.heap.size, 0, none⟩) len len) (w.alloc (.cells ⟨SV.cl ys⟩ e)) := by
    have e1 : (parts.map fun (i, x) => (i, a.eval x)).toList = ps.map fun p => (p.1, p.2.val) := by rw [← hps]; simp
    have hfl : Instr.fill (fun i => some (i * zs.length, zs.length)) ⟨(List.replicate len zs).flatten⟩ (parts.map fun (i, x) => (i, a.eval x)).toList = some ⟨SV.cl ys⟩ := by rw [e1, hfill, hx]
    simp only [Instr.buildSlice, Sem.run_bind, run_underlying tf.ht, Result.andThen_ok, hszr]
    rw [if_neg (by omega)]
    split
    · rename_i h0
      exact absurd h0 hz
    · have hzv : (zeroValue e).run P w = .ok z w := by simp [zeroValue, typeInfo, hi, hz']
      simp only [Sem.run_bind, Sem.run_pure, Result.andThen_ok, hzv, hzc]
      have hr := zeros_rep zs len
      simp only [show (⟨zs⟩ : Array Value).size = zs.length from rfl, hr, hfl]
      rfl
  unfold Oper.wp execOp
  simp only [Sem.run_bind, hrun, Result.andThen_ok, Sem.run_pure]
  exact ⟨.v (.slice (some ⟨w.heap.size, 0, none⟩) len len), rfl, hk w.heap.size _ (k.new _ (Bx e w.heap.size ys) ⟨Rw.new w _ _, rfl⟩)⟩
end
/-! ### an array of bytes as a law's parameter -/
end Go.Sx

