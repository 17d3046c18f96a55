import Derived.Test.YtenfdhhjafddlaaDoorSxF
namespace Go.Sx
open Go.RowKit
set_option linter.unusedSimpArgs false
set_option linter.unusedVariables false
variable {α : Type}

theorem OwS.newcap (w : World) (e : TypeId) (φ : α → Value) (x : α) (l c : Nat) (hlc : l ≤ c) (hm : c ≤ maxLen) : (OwS e φ (some ⟨w.heap.size, 0, none⟩) l c (List.replicate l x)).p (w.alloc (.cells ⟨List.replicate c (φ x)⟩ e)) (fun b => b = w.heap.size) := by
  refine ⟨⟨by simp, .inr ⟨w.heap.size, c, ⟨List.replicate c (φ x)⟩, rfl, Nat.zero_le _, heap_alloc_new w _, hlc, hm, by simp, ?_⟩⟩, fun b hb => ?_⟩
  · simp [List.take_replicate, Nat.min_eq_left hlc]
  · simpa [Value.ownBlock] using hb.symm

/-! ### a variable of the call's own -/
def Bx (t : TypeId) (g : Nat) (cs : List Value) : HP where
  p w S := w.heap[g]? = some (.cells ⟨cs⟩ t (0, 0)) ∧ S g
  loc := by
    rintro w w' S ⟨h1, h2⟩ hS
    exact ⟨by rw [hS g h2]; exact h1, h2⟩
theorem Cx.bx {w0 w : World} {hs : List HP} {t : TypeId} {g : Nat} {cs : List Value} (k : Cx w0 w hs) (i : Nat) (hi : hs[i]? = some (Bx t g cs)) : w.heap[g]? = some (.cells ⟨cs⟩ t (0, 0)) := by
  obtain ⟨S, h, _⟩ := Sep.get hs i _ hi k.sep
  exact h.1
theorem Cx.bxc {w0 w : World} {hs : List HP} {t : TypeId} {g : Nat} {cs : List Value} (k : Cx w0 w hs) (i : Nat) (hi : hs[i]? = some (Bx t g cs)) (off : Nat) {v : Value} (hv : cs[off]? = some v) : w.cell? ⟨g, off, none⟩ = some v := by
  rw [cell_of_row w g off ⟨cs⟩ t (0, 0) (k.bx i hi)]
  simpa using hv
theorem Cx.bxr {w0 w : World} {hs : List HP} {t : TypeId} {g : Nat} {cs : List Value} (k : Cx w0 w hs) (i : Nat) (hi : hs[i]? = some (Bx t g cs)) (off m : Nat) : Rd w (some ⟨g, off, none⟩) ((cs.drop off).take m) := by
  refine ⟨fun _ => ⟨_, rfl⟩, fun a j u ha hu => ?_⟩
  cases ha
  have e : (⟨g, off, none⟩ : Addr).add j = ⟨g, off + j, none⟩ := by unfold Addr.add; split <;> simp_all
  rw [e]
  refine k.bxc i hi (off + j) ?_
  rw [List.getElem?_take] at hu
  split at hu
  · rw [List.getElem?_drop] at hu; exact hu
  · cases hu

theorem setCell_heap {w : World} {g off : Nat} {cs : List Value} {t : TypeId} (h : w.heap[g]? = some (.cells ⟨cs⟩ t (0, 0))) (v : Value) : (w.setCell ⟨g, off, none⟩ v).heap[g]? = some (.cells ⟨cs.set off v⟩ t (0, 0)) := by
  simp [World.setCell, Array.getElem?_modify, h]
theorem grown_setCell (w : World) (a : Addr) (v : Value) : w.grownBy (w.setCell a v) (some a.block) :=
  ⟨rfl, rfl, rfl, by simp [World.setCell], fun k _ hk => Below.heap_setCell w a v k (fun e => hk (by rw [e]))⟩

theorem Cx.bset {w0 w : World} {hs : List HP} {t : TypeId} {g : Nat} {cs : List Value} (k : Cx w0 w hs) (i : Nat) (hi : hs[i]? = some (Bx t g cs)) (off : Nat) (v : Value) : Cx w0 (w.setCell ⟨g, off, none⟩ v) (hs.set i (Bx t g (cs.set off v))) := by
  refine k.upd i hi (some g) (grown_setCell w ⟨g, off, none⟩ v) fun S hS => ⟨fun b hb => by cases hb; exact hS.2, fun b => b = g, ⟨setCell_heap hS.1 v, rfl⟩, fun b hb => ?_⟩
  subst hb
  have : b < w.heap.size := (Array.getElem?_eq_some_iff.1 hS.1).1
  exact ⟨by simp [World.setCell]; exact this, .inl hS.2⟩

theorem Cx.oset {w0 w : World} {hs : List HP} {e : TypeId} {φ : α → Value} {A : Option Addr} {n c : Nat} {xs : List α} (k : Cx w0 w hs) (i : Nat) (hi : hs[i]? = some (OwS e φ A n c xs)) {a : Addr} (ha : A = some a) {j : Nat} (hj : j < xs.length) (y : α) :
    Cx w0 (w.setCell (a.add j) (φ y)) (hs.set i (OwS e φ A n c (xs.set j y))) ∧ w.cell? (a.add j) = some (φ xs[j]) ∧ w.frozen? (a.add j) = false := by
  subst ha
  obtain ⟨S, hS, _⟩ := Sep.get hs i _ hi k.sep
  have key : ∃ g, a = ⟨g, 0, none⟩ := by
    rcases hS.1.2 with ⟨hv, _⟩ | ⟨g, cap, cur, hv, _⟩
    · cases hv
    · simp only [Value.slice.injEq, Option.some.injEq] at hv; exact ⟨g, hv.1⟩
  obtain ⟨g, rfl⟩ := key
  have e1 : (⟨g, 0, none⟩ : Addr).add j = ⟨g, j, none⟩ := by unfold Addr.add; split <;> simp_all
  rw [e1]
  have hln := OwS.len hS
  have hcell := hS.1.cellAt j (by omega)
  refine ⟨?_, by rw [hcell]; simp [hj], hS.1.frozenAt j⟩
  refine k.upd i hi (some g) (grown_setCell w ⟨g, j, none⟩ _) fun S hS => ⟨fun b hb => by cases hb; exact hS.2 _ rfl, fun b => b = g, ⟨?_, fun b hb => ?_⟩, fun b hb => ?_⟩
  · have := hS.1.stored j (φ y)
    rw [List.map_set]
    exact this.1
  · simpa [Value.ownBlock] using hb.symm
  · subst hb
    have h1 := hS.1.lt b rfl
    exact ⟨by simp [World.setCell]; exact h1.2, .inl (hS.2 b rfl)⟩

section
variable {P : Program} {n : Nat} {Q : Exit → Act → World → Prop} {ops : Array Oper} {rest : List Oper} {L : St} {w w0 : World} {hs : List HP} {K : St → World → Prop}

theorem Op_make {dst : Option Nat} {t ty : TypeId} {lo co : Operand} {pos : String} {aft : Array Edge} {g : Option (Nat × Bool)} {e : TypeId} {z : Value} {bytes : Nat} (tf : TF P t e z bytes)
    (φ : α → Value) (x : α) (hz : φ x = z) (ss : List Nat) (d : Nat) (sl sc : SV) (nl nc : Int)
    (hside : (gok ops ss L ⟨dst, .makeSlice t lo co, ty, pos, aft, g⟩, dst, (decide (d < n)), (L.any fun p => p.1 == d), toSS [lo, co] (lk L), toI sl, toI sc) = (true, some d, true, false, some [sl, sc], some nl, some nc))
    (h0 : 0 ≤ nl) (h1 : nl ≤ nc) (hb : nc.toNat * bytes ≤ 140737488355328)
    (k : Cx w0 w hs) (hk : ∀ A w', Cx w0 w' (hs ++ [OwS e φ A nl.toNat nc.toNat (List.replicate nl.toNat x)]) → K ((d, .v (.slice A nl.toNat nc.toNat)) :: L) w') :
    Op1 P n ops L w ⟨dst, .makeSlice t lo co, ty, pos, aft, g⟩ K := by
  simp only [Prod.mk.injEq, decide_eq_true_eq] at hside
  obtain ⟨s1, rfl, s3, s4, s5, s6, s7⟩ := hside
  obtain ⟨k1, e1⟩ := toI_spec s6
  obtain ⟨k2, e2⟩ := toI_spec s7
  refine WL_of (xs := [lo, co]) (svs := [sl, sc]) ss (d := d) (by simp [Side, s1, s3, s4, s5]) fun a ha he => ?_
  simp only [List.map_cons, List.map_nil, SV.vals, List.cons.injEq, and_true] at he
  subst hz
  have hc : nc.toNat ≤ maxLen := by
    have := Nat.le_trans (Nat.le_mul_of_pos_right nc.toNat tf.hb) hb
    unfold maxLen; omega
  have hrun := run_mkslice (P := P) (w := w) tf k1 k2 nl.toNat nc.toNat (by omega) hb
  rw [Int.toNat_of_nonneg h0, Int.toNat_of_nonneg (by omega)] at hrun
  have hA := hk (some ⟨w.heap.size, 0, none⟩) _ (k.new (.cells ⟨List.replicate nc.toNat (φ x)⟩ e) _ (OwS.newcap w e φ x nl.toNat nc.toNat (by omega) hc))
  unfold Oper.wp execOp
  simp only [he.1, he.2, e1, e2, Sem.run_bind, hrun, Result.andThen_ok, Sem.run_pure]
  exact ⟨.v (.slice (some ⟨w.heap.size, 0, none⟩) nl.toNat nc.toNat), by simp [SV.val], hA⟩

theorem run_store1 {t : TypeId} {a : Addr} {v old : Value} (hs : szOf P t = some 1) (h1 : v.oneCell' = true) (hc : w.cell? a = some old) (hf : w.frozen? a = false) : (Instr.storeAt t (.pointer (some a)) v).run P w = .ok () (w.setCell a v) := by
  have hcells : v.cells = #[v] := by cases v <;> first | rfl | simp [Value.oneCell'] at h1
  simp only [Instr.storeAt, Instr.sureAddr, Sem.run_bind, Sem.run_pure, Result.andThen_ok, storeVar, szOf_run hs, hcells]
  rw [if_neg (by simp)]
  have e : a.add 0 = a := by simp [Addr.add]
  cases v <;> first | (simp [Value.oneCell'] at h1; done) | simp [storeCells, store, Sem.run, e, hc, hf]

/-- a store into a slice of the call's own -/
theorem Op_store {ty t : TypeId} {p x : Operand} {pos : String} {aft : Array Edge} {g : Option (Nat × Bool)} {e : TypeId} {φ : α → Value} (hφ : one φ) (ss : List Nat) (i : Nat) {A : Option Addr} {n1 c : Nat} {xs : List α} (j : Int) (y : α) (sv : SV)
    (hside : (gok ops ss L ⟨none, .store t p x, ty, pos, aft, g⟩, (none : Option Nat), toSS [p, x] (lk L), szOf P t) = (true, none, some [.v (.pointer (ixA A j 1)), sv], some 1)) (hy : sv.val = φ y)
    (k : Cx w0 w hs) (hi : hs[i]? = some (OwS e φ A n1 c xs)) (h0 : 0 ≤ j) (h1 : j < n1)
    (hk : ∀ w', Cx w0 w' (hs.set i (OwS e φ A n1 c (xs.set j.toNat y))) → K L w') :
    Op1 P n ops L w ⟨none, .store t p x, ty, pos, aft, g⟩ K := by
  simp only [Prod.mk.injEq] at hside
  obtain ⟨s1, _, s5, s6⟩ := hside
  refine WL_of0 (xs := [p, x]) (svs := [.v (.pointer (ixA A j 1)), sv]) ss (by simp [s1, s5]) fun a ha he => ?_
  simp only [List.map_cons, List.map_nil, SV.vals, SV.val, List.cons.injEq, and_true] at he
  have hlt : j.toNat < xs.length := by rw [k.len i hi]; omega
  obtain ⟨ad, hA⟩ : ∃ ad, A = some ad := (k.rd i hi).1 (by intro h; simp at h; subst h; simp at hlt)
  obtain ⟨hc1, hc2, hc3⟩ := k.oset i hi hA hlt y
  have hrun := run_store1 (P := P) (w := w) (t := t) s6 (hφ y) hc2 hc3
  unfold Oper.wp execOp
  have e1 : ixA A j 1 = some (ad.add j.toNat) := by subst hA; simp [ixA]
  rw [← hy] at hrun
  simp only [he.1, he.2, e1, Sem.run_bind, hrun, Result.andThen_ok, Sem.run_pure]
  rw [hy]
  exact ⟨rfl, hk _ hc1⟩

/-- a variable's cell is written -/
theorem Op_bset {ty t : TypeId} {p x : Operand} {pos : String} {aft : Array Edge} {g : Option (Nat × Bool)} (ss : List Nat) (i : Nat) {bt : TypeId} {b : Nat} {cs : List Value} (off : Nat) (sv : SV)
    (hside : (gok ops ss L ⟨none, .store t p x, ty, pos, aft, g⟩, (none : Option Nat), toSS [p, x] (lk L), szOf P t, decide (off < cs.length), sv.val.oneCell') = (true, none, some [.v (.pointer (some ⟨b, off, none⟩)), sv], some 1, true, true))
    (k : Cx w0 w hs) (hi : hs[i]? = some (Bx bt b cs))
    (hk : ∀ w', Cx w0 w' (hs.set i (Bx bt b (cs.set off sv.val))) → K L w') :
    Op1 P n ops L w ⟨none, .store t p x, ty, pos, aft, g⟩ K := by
  simp only [Prod.mk.injEq, decide_eq_true_eq] at hside
  obtain ⟨s1, _, s5, s6, s7, s8⟩ := hside
  refine WL_of0 (xs := [p, x]) (svs := [.v (.pointer (some ⟨b, off, none⟩)), sv]) ss (by simp [s1, s5]) fun a ha he => ?_
  simp only [List.map_cons, List.map_nil, SV.vals, SV.val, List.cons.injEq, and_true] at he
  have hc := k.bxc i hi off (List.getElem?_eq_getElem s7)
  have hf : w.frozen? ⟨b, off, none⟩ = false := by simp [World.frozen?, k.bx i hi]
  have hrun := run_store1 (P := P) (w := w) (t := t) (v := sv.val) s6 s8 hc hf
  unfold Oper.wp execOp
  simp only [he.1, he.2, Sem.run_bind, hrun, Result.andThen_ok, Sem.run_pure]
  exact ⟨rfl, hk _ (k.bset i hi off sv.val)⟩
theorem run_storeAll {t bt : TypeId} {b off : Nat} {cs : List Value} {v : Value} {vs : List Value} (hv : v.cells = ⟨vs⟩) (hs : szOf P t = some vs.length) (h1 : ∀ u ∈ vs, u.oneCell' = true) (hb : w.heap[b]? = some (.cells ⟨cs⟩ bt (0, 0))) (hl : off + vs.length ≤ cs.length) :
    ∃ w', (Instr.storeAt t (.pointer (some ⟨b, off, none⟩)) v).run P w = .ok () w' ∧ w'.heap[b]? = some (.cells ⟨cs.take off ++ vs ++ cs.drop (off + vs.length)⟩ bt (0, 0)) ∧ w.grownBy w' (some b) := by
  have hst := run_storeCells_at P b off bt vs 0 ⟨cs⟩ w hb (by simpa using hl) h1
  simp only [Nat.add_zero] at hst
  refine ⟨_, ?_, setRow_heap w b ⟨cs⟩ _ bt _ hb, ⟨rfl, rfl, rfl, by simp, fun k _ hk => setRow_other w b k _ (fun e => hk (by simp [e]))⟩⟩
  simp only [Instr.storeAt, Instr.sureAddr, Sem.run_bind, Sem.run_pure, Result.andThen_ok, storeVar, szOf_run hs, hv]
  rw [if_neg (by simp)]
  exact hst
/-- a part of a variable is written -/
theorem Op_bsetA {ty t : TypeId} {p x : Operand} {pos : String} {aft : Array Edge} {g : Option (Nat × Bool)} (ss : List Nat) (i : Nat) {bt : TypeId} {b : Nat} {cs : List Value} (off : Nat) (xs : List SV)
    (hside : (gok ops ss L ⟨none, .store t p x, ty, pos, aft, g⟩, (none : Option Nat), toSS [p, x] (lk L), szOf P t, decide (off + xs.length ≤ cs.length), (SV.vals xs).all (·.oneCell')) = (true, none, some [.v (.pointer (some ⟨b, off, none⟩)), .agg xs], some xs.length, true, true))
    (k : Cx w0 w hs) (hi : hs[i]? = some (Bx bt b cs))
    (hk : ∀ w', Cx w0 w' (hs.set i (Bx bt b (cs.take off ++ SV.vals xs ++ cs.drop (off + xs.length)))) → K L w') :
    Op1 P n ops L w ⟨none, .store t p x, ty, pos, aft, g⟩ K := by
  simp only [Prod.mk.injEq, decide_eq_true_eq] at hside
  obtain ⟨s1, _, s5, s6, s7, s8⟩ := hside
  refine WL_of0 (xs := [p, x]) (svs := [.v (.pointer (some ⟨b, off, none⟩)), .agg xs]) ss (by simp [s1, s5]) fun a ha he => ?_
  simp only [List.map_cons, List.map_nil, SV.vals, SV.val, List.cons.injEq, and_true] at he
  have hl := vals_length xs
  obtain ⟨w', hrun, hheap, hgr⟩ := run_storeAll (P := P) (w := w) (t := t) (v := .agg ⟨SV.vals xs⟩) (vs := SV.vals xs) rfl (by rw [hl]; exact s6) (by simpa using s8) (k.bx i hi) (by rw [hl]; exact s7)
  unfold Oper.wp execOp
  simp only [he.1, he.2, Sem.run_bind, hrun, Result.andThen_ok, Sem.run_pure]
  refine ⟨rfl, hk _ ?_⟩
  rw [hl] at hheap
  refine k.upd i hi (some b) hgr fun S hS => ⟨fun c hc => by cases hc; exact hS.2, fun c => c = b, ⟨hheap, rfl⟩, fun c hc => ?_⟩
  subst hc
  exact ⟨(Array.getElem?_eq_some_iff.1 hheap).1, .inl hS.2⟩
/-- an array's element is written -/
theorem Op_aset {ty t : TypeId} {p x : Operand} {pos : String} {aft : Array Edge} {g : Option (Nat × Bool)} {φ : α → Value} (hφ : one φ) (ss : List Nat) (i : Nat) {bt : TypeId} {b : Nat} {xs : List α} (j : Int) (y : α) (sv : SV)
    (hside : (gok ops ss L ⟨none, .store t p x, ty, pos, aft, g⟩, (none : Option Nat), toSS [p, x] (lk L), szOf P t) = (true, none, some [.v (.pointer (some (Addr.add ⟨b, 0, none⟩ (j.toNat * 1)))), sv], some 1)) (hy : sv.val = φ y)
    (k : Cx w0 w hs) (hi : hs[i]? = some (Bx bt b (xs.map φ))) (h0 : 0 ≤ j) (h1 : j < xs.length)
    (hk : ∀ w', Cx w0 w' (hs.set i (Bx bt b ((xs.set j.toNat y).map φ))) → K L w') :
    Op1 P n ops L w ⟨none, .store t p x, ty, pos, aft, g⟩ K := by
  simp only [Prod.mk.injEq] at hside
  obtain ⟨s1, _, s5, s6⟩ := hside
  refine WL_of0 (xs := [p, x]) (svs := [.v (.pointer (some (Addr.add ⟨b, 0, none⟩ (j.toNat * 1)))), sv]) ss (by simp [s1, s5]) fun a ha he => ?_
  simp only [List.map_cons, List.map_nil, SV.vals, SV.val, List.cons.injEq, and_true, Nat.mul_one] at he
  have e1 : (⟨b, 0, none⟩ : Addr).add j.toNat = ⟨b, j.toNat, none⟩ := by unfold Addr.add; split <;> simp_all
  have hlt : j.toNat < xs.length := by omega
  have hc := k.bxc i hi j.toNat (v := φ xs[j.toNat]) (by simp [hlt])
  have hf : w.frozen? ⟨b, j.toNat, none⟩ = false := by simp [World.frozen?, k.bx i hi]
  have hrun := run_store1 (P := P) (w := w) (t := t) (v := φ y) s6 (hφ y) hc hf
  unfold Oper.wp execOp
  simp only [he.1, he.2, e1, hy, Sem.run_bind, hrun, Result.andThen_ok, Sem.run_pure]
  refine ⟨rfl, hk _ ?_⟩
  rw [List.map_set]
  exact k.bset i hi j.toNat (φ y)

/-- a new variable, with a value -/
theorem Op_box {dst : Option Nat} {ty t : TypeId} {x : Operand} {pos : String} {aft : Array Edge} {g : Option (Nat × Bool)} (ss : List Nat) (d : Nat) (sv : SV) (cs : List SV) (vs : List Value)
    (hside : (gok ops ss L ⟨dst, .box t x, ty, pos, aft, g⟩, dst, (decide (d < n)), (L.any fun p => p.1 == d), toSS [x] (lk L), cellsS sv) = (true, some d, true, false, some [sv], some cs)) (hv : SV.vals cs = vs)
    (k : Cx w0 w hs) (hk : ∀ b w', Cx w0 w' (hs ++ [Bx t b vs]) → K ((d, .v (.pointer (some ⟨b, 0, none⟩))) :: L) w') :
    Op1 P n ops L w ⟨dst, .box t x, ty, pos, aft, g⟩ K := by
  simp only [Prod.mk.injEq, decide_eq_true_eq] at hside
  obtain ⟨s1, rfl, s3, s4, s5, s6⟩ := hside
  subst hv
  refine WL_of (xs := [x]) (svs := [sv]) ss (d := d) (by simp [Side, s1, s3, s4, s5]) fun a ha he => ?_
  simp only [List.map_cons, List.map_nil, SV.vals, List.cons.injEq, and_true] at he
  have hcs := cellsS_spec s6
  have hrun : (Instr.box t (a.eval x)).run P w = .ok (.pointer (some ⟨w.heap.size, 0, none⟩)) (w.alloc (.cells ⟨SV.vals cs⟩ t)) := by
    rw [he, ← hcs]
    rfl
  unfold Oper.wp execOp
  simp only [Sem.run_bind, hrun, Result.andThen_ok, Sem.run_pure]
  exact ⟨.v (.pointer (some ⟨w.heap.size, 0, none⟩)), rfl, hk w.heap.size _ (k.new _ (Bx t w.heap.size (SV.vals cs)) ⟨heap_alloc_new w _, rfl⟩)⟩
/-- a new variable, at its zero -/
theorem Op_alloc {dst : Option Nat} {ty t : TypeId} {pos : String} {aft : Array Edge} {g : Option (Nat × Bool)} (ss : List Nat) (d : Nat) (cs : List SV) (vs : List Value)
    (hside : (gok ops ss L ⟨dst, .alloc t, ty, pos, aft, g⟩, dst, (decide (d < n)), (L.any fun p => p.1 == d), zeroS P t) = (true, some d, true, false, some cs)) (hv : SV.vals cs = vs)
    (k : Cx w0 w hs) (hk : ∀ b w', Cx w0 w' (hs ++ [Bx t b vs]) → K ((d, .v (.pointer (some ⟨b, 0, none⟩))) :: L) w') :
    Op1 P n ops L w ⟨dst, .alloc t, ty, pos, aft, g⟩ K := by
  simp only [Prod.mk.injEq, decide_eq_true_eq] at hside
  obtain ⟨s1, rfl, s3, s4, s6⟩ := hside
  subst hv
  refine WL_of (xs := []) (svs := []) ss (d := d) (by simp [Side, s1, s3, s4, toSS]) fun a ha he => ?_
  obtain ⟨z, hz1, hz2⟩ := zeroS_spec s6 w
  have hrun : (Instr.alloc t true (.tuple #[])).run P w = .ok (.pointer (some ⟨w.heap.size, 0, none⟩)) (w.alloc (.cells ⟨SV.vals cs⟩ t)) := by
    rw [← hz2]
    simp only [Instr.alloc, Sem.run_bind, hz1, Result.andThen_ok]
    rfl
  unfold Oper.wp execOp
  simp only [Sem.run_bind, hrun, Result.andThen_ok, Sem.run_pure]
  exact ⟨.v (.pointer (some ⟨w.heap.size, 0, none⟩)), rfl, hk w.heap.size _ (k.new _ (Bx t w.heap.size (SV.vals cs)) ⟨heap_alloc_new w _, rfl⟩)⟩
end
end Go.Sx
