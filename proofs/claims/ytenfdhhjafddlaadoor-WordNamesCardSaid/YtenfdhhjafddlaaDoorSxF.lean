import Derived.Test.YtenfdhhjafddlaaDoorSxE
namespace Go.Sx
open Go.RowKit
set_option linter.unusedSimpArgs false
set_option linter.unusedVariables false
variable {α : Type}

theorem grown_alloc (w : World) (o : Obj) (row : Option Nat) : w.grownBy (w.alloc o) row := World.grownBy_alloc w o row
theorem Cx.new {w0 w : World} {hs : List HP} (k : Cx w0 w hs) (o : Obj) (h : HP) (hp : h.p (w.alloc o) (fun b => b = w.heap.size)) : Cx w0 (w.alloc o) (hs ++ [h]) := by
  refine k.call ⟨(Below.refl _ _).alloc (Nat.le_refl _) o, fun b => b = w.heap.size, hp, fun b hb => ?_, trivial⟩
  subst hb
  exact ⟨by rw [World.size_alloc]; omega, by omega⟩

theorem vals_length (xs : List SV) : (SV.vals xs).length = xs.length := by rw [vals_eq]; simp
theorem vals_oneCell : ∀ (xs : List SV), True := fun _ => trivial

theorem OwS.new (w : World) (e : TypeId) (φ : α → Value) (xs : List α) (hm : xs.length ≤ maxLen) : (OwS e φ (some ⟨w.heap.size, 0, none⟩) xs.length xs.length xs).p (w.alloc (.cells ⟨xs.map φ⟩ e)) (fun b => b = w.heap.size) := by
  refine ⟨?_, fun b hb => ?_⟩
  · have := World.ownsRow_lit (base := 0) (e := e) (size := 1) w ⟨xs.map φ⟩ xs.length (Nat.zero_le _) hm (by simp)
    simpa using this
  · simpa [Value.ownBlock] using hb.symm

theorem range_rep (z : Value) : ∀ (k : Nat), (Array.range k).map (fun i => (#[z] : Array Value)[i % 1]!) = ⟨List.replicate k z⟩ := by
  intro k
  apply Array.ext
  · simp
  · intro i h1 h2
    simp [Nat.mod_one]

section
variable {P : Program} {n : Nat} {Q : Exit → Act → World → Prop} {ops : Array Oper} {rest : List Oper} {L : St} {w w0 : World} {hs : List HP} {K : St → World → Prop}

/-- a slice written out -/
theorem Op_mk {dst : Option Nat} {t ty : TypeId} {len : Nat} {parts : Array (Nat × Operand)} {pos : String} {aft : Array Edge} {g : Option (Nat × Bool)} {e : TypeId} {z : Value} {bytes : Nat} (tf : TF P t e z bytes)
    (φ : α → Value) (ss : List Nat) (d : Nat) (xs : List α) (ps : List (Nat × SV)) (svs : List SV)
    (hside : (gok ops ss L ⟨dst, .buildSlice t len parts, ty, pos, aft, g⟩, dst, (decide (d < n)), (L.any fun p => p.1 == d), toPS parts.toList (lk L)) = (true, some d, true, false, some ps))
    (hf : (fillS (fun i => some (i * 1, 1)) (List.replicate len (kst z)) ps, decide (len ≤ 16777216), xs.length) = (some svs, true, len)) (hx : SV.vals svs = xs.map φ)
    (k : Cx w0 w hs) (hk : ∀ A w', Cx w0 w' (hs ++ [OwS e φ A len len xs]) → K ((d, .v (.slice A len len)) :: L) w') :
    Op1 P n ops L w ⟨dst, .buildSlice t len parts, ty, pos, aft, g⟩ K := by
  simp only [Prod.mk.injEq, decide_eq_true_eq] at hside hf
  obtain ⟨h1, rfl, h3, h4, h5⟩ := hside
  obtain ⟨hf, hlen, hxl⟩ := hf
  refine WL_of (xs := []) (svs := []) ss (d := d) (by simp [Side, h1, h3, h4, toSS]) fun a ha _ => ?_
  have hps := toPS_spec (fun o x hx => lk_spec ha hx) h5
  obtain ⟨i, hi, hz0, hz1, hz2⟩ := info_parts tf.hi
  have hfill := fillS_spec (place := fun i => some (i * 1, 1)) ps _ _ hf
  have hrep : (⟨SV.vals (List.replicate len (kst z))⟩ : Array Value) = ⟨List.replicate len z⟩ := by
    rw [vals_eq]; simp [kst_val]
  rw [hrep] at hfill
  have hsz : szOf P e = some 1 := by simp [szOf, hi, hz1]
  have hrun : (Instr.buildSlice t len (parts.map fun (i, x) => (i, a.eval x))).run P w = .ok (.slice (some ⟨w.heap.size, 0, none⟩) len len) (w.alloc (.cells ⟨xs.map φ⟩ e)) := by
    have e1 : (parts.map fun (i, x) => (i, a.eval x)).toList = ps.map fun p => (p.1, p.2.val) := by rw [← hps]; simp
    simp only [Instr.buildSlice, Sem.run_bind, run_underlying tf.ht, Result.andThen_ok, szOf_run hsz, Nat.mul_one]
    rw [if_neg (by omega)]
    have hfl : Instr.fill (fun i => some (i * 1, 1)) ⟨List.replicate len z⟩ (parts.map fun (i, x) => (i, a.eval x)).toList = some ⟨xs.map φ⟩ := by rw [e1, hfill, hx]
    simp only [Nat.mul_one] at hfl
    have hnil : ∀ (f : Nat → Value), (Array.range 0).map f = ⟨List.replicate 0 z⟩ := fun f => by simp
    split
    · rename_i h0
      subst h0
      simp only [Sem.run_bind, Sem.run_pure, Result.andThen_ok, hnil, hfl]
      rfl
    · have hzv : (zeroValue e).run P w = .ok z w := by simp [zeroValue, typeInfo, hi, hz0]
      simp only [Sem.run_bind, Sem.run_pure, Result.andThen_ok, hzv, tf.hz]
      have hr := range_rep z len
      simp only [show (#[z] : Array Value).size = 1 from rfl, hr, hfl]
      rfl
  have hA := hk (some ⟨w.heap.size, 0, none⟩) _ (k.new (.cells ⟨xs.map φ⟩ e) _ (by rw [← hxl]; exact OwS.new w e φ xs (by unfold maxLen; omega)))
  unfold Oper.wp execOp
  simp only [Sem.run_bind, hrun, Result.andThen_ok, Sem.run_pure]
  exact ⟨.v (.slice (some ⟨w.heap.size, 0, none⟩) len len), rfl, hA⟩

/-- a slice of so many noughts -/
theorem run_mkslice {t e : TypeId} {z : Value} {bytes : Nat} (tf : TF P t e z bytes) (kl kc : IntKind) (l c : Nat) (hl : l ≤ c) (hb : c * bytes ≤ 140737488355328) :
    (Instr.makeSlice t (.int kl (l : Int)) (.int kc (c : Int))).run P w = .ok (.slice (some ⟨w.heap.size, 0, none⟩) l c) (w.alloc (.cells ⟨List.replicate c z⟩ e)) := by
  obtain ⟨i, hi, hz0, hz1, hz2⟩ := info_parts tf.hi
  have hsz : szOf P e = some 1 := by simp [szOf, hi, hz1]
  have hc : c ≤ 140737488355328 := Nat.le_trans (Nat.le_mul_of_pos_right c tf.hb) hb
  have w1 : IntKind.i64.wrap (l : Int) = l := wrap64_nat (by omega)
  have w2 : IntKind.i64.wrap (c : Int) = c := wrap64_nat (by omega)
  have hbi : ((i.bytes : Int) * (c : Int)) ≤ 140737488355328 := by
    rw [hz2, Int.mul_comm]
    have := Int.ofNat_le.2 hb
    simpa using this
  have hnot : ¬ ((i.bytes : Int) * (c : Int) > 2 ^ 48) := by omega
  have hroom : (askRoom (c * i.bytes)).run P w = .ok () w := by
    unfold askRoom roomBytes
    rw [hz2, if_neg (by omega)]
    rfl
  simp only [Instr.makeSlice, Sem.run_bind, run_underlying tf.ht, Result.andThen_ok, asInt, asIntOf, Sem.run_pure, typeInfo, run_program, hi, w1, w2]
  rw [if_neg (by simp; omega)]
  simp only [Sem.run_bind, Sem.run_pure, Result.andThen_ok, Int.toNat_natCast, hroom, szOf_run hsz, Nat.mul_one]
  have hnil : ∀ (f : Nat → Value), (Array.range 0).map f = ⟨List.replicate 0 z⟩ := fun f => by simp
  split
  · rename_i h0
    subst h0
    simp only [Sem.run_bind, Sem.run_pure, Result.andThen_ok, hnil]
    rfl
  · have hzv : (zeroValue e).run P w = .ok z w := by simp [zeroValue, typeInfo, hi, hz0]
    simp only [Sem.run_bind, Sem.run_pure, Result.andThen_ok, hzv, tf.hz]
    have hr := range_rep z c
    simp only [show (#[z] : Array Value).size = 1 from rfl, hr]
    rfl
end
end Go.Sx
