import Derived.Test.YtfaaochjaajpjaaDoorSyX
import Derived.Sort.OwnSortedInts
namespace Go.Sx
open Go.RowKit
set_option linter.unusedSimpArgs false
set_option linter.unusedVariables false
/-! ### the library's sort of numbers -/
noncomputable def srtI (l : List Int) : List Int := l.mergeSort fun x y => decide (x ≤ y)
theorem srtI_length (l : List Int) : (srtI l).length = l.length := by simp [srtI]
theorem eI_all (l : List Int) : eI.all l = l.map (Value.int .i64) := by
  induction l with
  | nil => rfl
  | cons x l ih => show _ :: _ = _ :: _; rw [show (eI.all l) = l.map (Value.int .i64) from ih]; rfl
open Go.Sort Go.Proofs Go.Shelf in
theorem c_sortI {P : Program} {ρ : Ren} (Ly : Lays.n189 P ρ) {F O : Nat → Prop} {w0 w : World} {hs : List HP} {i : Nat} {A : Option Addr} {n c : Nat} {xs : List Int} (k : Cx F O w0 w hs) (hi : hs[i]? = some (Ow eI A n c xs)) (hsz : n < 4611686018427387904) :
    Calls P (ρ.f 189) #[.slice A n c] w (fun e w' => e = .returned (.tuple #[]) ∧ Cx F O w0 w' (hs.set i (Ow eI A n c (srtI xs)))) := by
  obtain ⟨S, R, hl, hh⟩ := k.get i hi
  by_cases h0 : n = 0
  · subst h0
    have hx : xs = [] := List.eq_nil_of_length_eq_zero hl
    subst hx
    refine (Any.slices_Sort_int_none Ly A c w).mono ?_
    rintro e w' ⟨rfl, rfl⟩
    refine ⟨rfl, ?_⟩
    have : srtI [] = [] := by simp [srtI]
    rw [this]
    have e2 : hs.set i (Ow eI A 0 c []) = hs := by
      obtain ⟨h1, h2⟩ := List.getElem?_eq_some_iff.1 hi
      rw [← h2]; exact List.set_getElem_self h1
    rw [e2]; exact k
  · rcases hh with ⟨_, h1, _⟩ | ⟨g, t, cur, rfl, ⟨fr, hb, hnf⟩, h3, h4, h5, h6, h7⟩
    · exact absurd h1 h0
    · subst hl
      have hsz1 : eI.sz = 1 := rfl
      rw [hsz1, Nat.mul_one] at h5 h6
      rw [eI_all] at h6
      have hH : Holds (Value.int .i64) w g 0 xs.toArray := by
        intro j hj
        have hj' : j < xs.length := by simpa using hj
        have hfz : w.frozen? ⟨g, 0 + j, none⟩ = false := by
          have : j < cur.size := by omega
          simp only [World.frozen?, hb]
          rcases hnf with h | h
          · simp; omega
          · simp; omega
        refine ⟨?_, hfz⟩
        have h1 : (cur.toList.take xs.length)[j]? = (xs.map (Value.int .i64))[j]? := by rw [h6]
        rw [List.getElem?_take_of_lt hj'] at h1
        simp only [World.cell?, hb, Nat.zero_add]
        simp only [Option.isSome_none, Bool.false_eq_true, if_false]
        rw [← Array.getElem?_toList, h1]
        simp [hj']
      refine (Any.slices_Sort_int Ly g 0 c xs w hH (Array.getElem?_eq_some_iff.1 hb).1 hsz).mono ?_
      rintro e w' ⟨rfl, m, os, rfl⟩
      refine ⟨rfl, ?_⟩
      refine k.upd1 i hi (some g) (grownBy_sortedI _) fun S R hS hlt => ?_
      obtain ⟨hl', hh'⟩ := hS
      rcases hh' with ⟨h1, _⟩ | ⟨g', t', cur', q1, ⟨fr', q2, q3⟩, _, _, q4, _, q5⟩
      · cases h1
      · simp only [Option.some.injEq, Addr.mk.injEq, and_true] at q1
        subst q1
        rw [hb] at q2
        simp only [Option.some.injEq, Obj.cells.injEq] at q2
        obtain ⟨rfl, rfl, rfl⟩ := q2
        have hsl : (srtI xs).length = xs.length := srtI_length xs
        refine ⟨fun q hq => (by simp only [Option.some.injEq] at hq; subst hq; exact q5), S, fun _ => False, ⟨hsl, .inr ⟨g, t, putCells (Value.int .i64) 0 (srtI xs).toArray cur, rfl, ⟨fr, heap_sortedI _ hb, ?_⟩, h3, h4, ?_, ?_, q5⟩⟩, fun q hq => ⟨?_, .inl hq⟩, fun _ h => h⟩
        · simpa [putCells] using hnf
        · rw [hsz1, Nat.mul_one]; simpa [putCells] using h5
        · rw [hsz1, Nat.mul_one, eI_all, ← hsl]
          exact take_putCellsI cur (srtI xs) (by omega)
        · exact Nat.lt_of_lt_of_le (hlt q hq) (grownBy_sortedI (w := w) (g := g) (n := m) (os := os) (srtI xs).toArray).size
/-! ### a row of structs that are given as they are -/
section
variable {P : Program} {n : Nat} {ops : Array Oper} {L : St} {w w0 : World} {F O : Nat → Prop} {hs : List HP} {K : St → World → Prop}
theorem Op_mkB {dst : Option Nat} {t ty : TypeId} {len : Nat} {parts : Array (Nat × Operand)} {pos : String} {aft : Array Edge} {g : Option (Nat × Bool)} {e : TypeId} {zs : List Value} {bytes : Nat} (tf : TF P t e zs bytes)
    (ss : List Nat) (d : Nat) (ps : List (Nat × SV)) (ys : List SV)
    (hside : (gok ops ss L ⟨dst, .buildSlice t len parts, ty, pos, aft, g⟩, dst, (decide (d < n)), (L.any fun p => p.1 == d), (toPS parts.toList (lk L)).map (·.map fun p => (p.1, p.2.val))) = (true, some d, true, false, some (ps.map fun p => (p.1, p.2.val))))
    (hf : ((fillS (fun i => some (i * zs.length, zs.length)) ((List.replicate len zs).flatten.map kst1) ps).map SV.cl, decide (len * zs.length ≤ 16777216), decide (0 < len)) = (some (SV.cl ys), true, true)) (hz : len * zs.length ≠ 0)
    (k : Cx F O w0 w hs) (hk : ∀ b w', Cx F O w0 w' (hs ++ [Bx e b ys]) → K ((d, .v (.slice (some ⟨b, 0, none⟩) len len)) :: L) w') :
    Op1 P n ops L w ⟨dst, .buildSlice t len parts, ty, pos, aft, g⟩ K := by
  simp only [Prod.mk.injEq, decide_eq_true_eq, Option.map_eq_some_iff] at hside hf
  obtain ⟨h1, rfl, h3, h4, ⟨ps', h5, h6⟩⟩ := hside
  obtain ⟨⟨svs, hf, hx⟩, hlen, hl0⟩ := hf
  refine WL_of (xs := []) (svs := []) ss (d := d) (by simp [Side, h1, h3, h4, toSS]) fun a ha _ => ?_
  have hps := toPS_spec (fun o x hx => lk_spec ha hx) h5
  rw [h6] at hps
  obtain ⟨i, z, hi, hz', hzc, hsz, hby⟩ := tf.parts
  have hfill := fillS_spec (place := fun i => some (i * zs.length, zs.length)) ps _ _ hf
  rw [cl_kst1] at hfill
  have hszr : (sizeOf e).run P w = .ok zs.length w := by rw [← hsz]; exact run_cellsOf hi w
  have hrun : (Instr.buildSlice t len (parts.map fun (i, x) => (i, a.eval x))).run P w = .ok (.slice (some ⟨w.heap.size, 0, none⟩) len len) (w.alloc (.cells ⟨SV.cl ys⟩ e)) := by
    have e1 : (parts.map fun (i, x) => (i, a.eval x)).toList = ps.map fun p => (p.1, p.2.val) := by rw [← hps]; simp
    have hfl : Instr.fill (fun i => some (i * zs.length, zs.length)) ⟨(List.replicate len zs).flatten⟩ (parts.map fun (i, x) => (i, a.eval x)).toList = some ⟨SV.cl ys⟩ := by rw [e1, hfill, hx]
    simp only [Instr.buildSlice, Sem.run_bind, run_underlying tf.ht, Result.andThen_ok, hszr]
    rw [if_neg (by omega)]
    split
    · rename_i h0
      exact absurd h0 hz
    · have hzv : (zeroValue e).run P w = .ok z w := by simp [zeroValue, typeInfo, hi, hz']
      simp only [Sem.run_bind, Sem.run_pure, Result.andThen_ok, hzv, hzc]
      have hr := zeros_rep zs len
      simp only [show (⟨zs⟩ : Array Value).size = zs.length from rfl, hr, hfl]
      rfl
  unfold Oper.wp execOp
  simp only [Sem.run_bind, hrun, Result.andThen_ok, Sem.run_pure]
  exact ⟨.v (.slice (some ⟨w.heap.size, 0, none⟩) len len), rfl, hk w.heap.size _ (k.new _ (Bx e w.heap.size ys) ⟨Rw.new w _ _, rfl⟩)⟩
end
/-! ### an array of bytes as a law's parameter -/
open Go.ChangeShapes Go.WideShapes in
theorem okWide_arr {P : Program} {w : World} {r : Reach} {base : Nat} {t e : TypeId} {v : Value} {n : Nat} (ht : P.underlying t = some (.array n e)) (h : Value.okWide P w r base t v) : ∃ cs, v = .agg cs := by
  unfold Value.okWide at h
  rw [ht] at h
  obtain ⟨cs, h, _⟩ := h
  exact ⟨cs, h⟩
open Go.ChangeShapes Go.WideShapes in
theorem open_ar8 {H : Type} {enc : TypeId × Value → H} {P : Program} {w : World} {base : Nat} {spare : Nat → Bool} {held : Bool} {fuel : Nat} {t e : TypeId} {cs : List Value} {x : DataW H × List MemPlace} {n : Nat} (ht : P.underlying t = some (.array n e)) (he : P.underlying e = some (.int .u8)) (hce : P.cellsOf e = 1) (hct : P.cellsOf t = n) (h : DataW.trod enc P w base spare held fuel t cs = some x) : ∃ v : Vec UInt8 n, cs = SV.cl [.ar e8 v] := by
  obtain ⟨xs, m, _, _, hl, hx, hel⟩ := DataW.trod_array ht h
  rw [hct] at hl
  have key : ∀ i, i < n → ∃ y : UInt8, cs[i]? = some (bV y) := by
    intro i hi
    have h1 := hel i hi
    rw [hce, Nat.mul_one, List.getElem?_eq_getElem (by omega)] at h1
    obtain ⟨m, hm, _, hw⟩ := DataW.trod_int he h1
    obtain ⟨y, hy⟩ := get_u8 hw
    refine ⟨y, ?_⟩
    have h2 : ((cs.drop i).take 1)[0]? = some (Value.int .u8 m) := by rw [hm]; rfl
    rw [List.getElem?_take_of_lt (by omega), List.getElem?_drop, Nat.add_zero] at h2
    rw [h2, hy]
    rfl
  obtain ⟨l, hll, hq⟩ := exlist n key
  refine ⟨⟨l, hll⟩, ?_⟩
  show cs = e8.all l ++ []
  rw [e8_all, List.append_nil]
  refine List.ext_getElem (by simp; omega) fun i h1 h2 => ?_
  have h3 := hq i l[i] (List.getElem?_eq_getElem (by omega))
  rw [List.getElem?_eq_getElem h1] at h3
  rw [List.getElem_map]
  exact Option.some.inj h3
end Go.Sx
