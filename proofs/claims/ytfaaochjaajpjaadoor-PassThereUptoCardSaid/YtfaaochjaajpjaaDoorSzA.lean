import Derived.Test.YtfaaochjaajpjaaDoorSyY
import Derived.Shelf.Strconv.Itoa3
namespace Go.Sx
open Go.RowKit
set_option linter.unusedSimpArgs false
set_option linter.unusedVariables false
/-! ### the library's numerals: a table that is as it was laid -/
def TabF (P : Program) (F : Nat → Prop) (w : World) : Prop := Lib.TabIs P w "internal/strconv.uint64pow10" .u64 Lib.pow10Tab ∧ ∃ g, P.globalNamed "internal/strconv.uint64pow10" = some g ∧ ¬ F g
theorem TabF.cx {P : Program} {F O : Nat → Prop} {w0 w : World} {hs : List HP} (h : TabF P F w0) (k : Cx F O w0 w hs) : Lib.TabIs P w "internal/strconv.uint64pow10" .u64 Lib.pow10Tab := by
  obtain ⟨h, g, hg, hF⟩ := h
  unfold Lib.TabIs World.var? at h ⊢
  rw [hg] at h ⊢
  simp only [Option.bind_some] at h ⊢
  have hlt : g < w0.heap.size := by
    rcases Nat.lt_or_ge g w0.heap.size with h' | h'
    · exact h'
    · rw [Array.getElem?_eq_none h'] at h; cases h
  rw [k.block g hlt hF]
  exact h
theorem TabF.at {P : Program} {F O : Nat → Prop} {w0 w : World} {hs : List HP} (h : TabF P F w0) (k : Cx F O w0 w hs) : TabF P N0 w :=
  ⟨h.cx k, h.2.elim fun g hg => ⟨g, hg.1, fun q => q⟩⟩
open Go.Sort in
theorem Cx.more (w : World) (m : Nat) (os : Array Obj) : Cx N0 N0 w (grow (w.drewN m) os) [] :=
  ⟨rfl, rfl, rfl, by simp [grow], fun b hb _ => by
    show ((w.drewN m).heap ++ os)[b]? = w.heap[b]?
    rw [show (w.drewN m).heap = w.heap from rfl, Array.getElem?_append_left hb], fun _ h => h.elim, fun _ h => h.elim, N0, N0, ⟨fun _ h => h, fun _ h => h⟩, fun _ h => h.elim, fun _ h => h.elim⟩
open Go.Sort Go.Proofs Go.Shelf in
theorem c_itoa {P : Program} {ρ : Ren} (Ly : LaysM.n171 P ρ) {F O : Nat → Prop} {w0 w : World} {hs : List HP} (k : Cx F O w0 w hs) {n : Int} (hn : -9223372036854775808 ≤ n ∧ n ≤ 9223372036854775807) (hT : Lib.TabIs P w "internal/strconv.uint64pow10" .u64 Lib.pow10Tab) :
    Calls P (ρ.f 171) (vals [I n]) w (fun e w' => e = .returned (SV.val (.s (Lib.itoa n))) ∧ Cx F O w0 w' hs) := by
  refine (Any.strconv_Itoa Ly n hn.1 hn.2 w hT).mono ?_
  rintro e w' ⟨rfl, m, os, rfl⟩
  refine ⟨rfl, ?_⟩
  have := k.call (Cx.more w m os)
  rw [List.append_nil] at this
  exact this
end Go.Sx
