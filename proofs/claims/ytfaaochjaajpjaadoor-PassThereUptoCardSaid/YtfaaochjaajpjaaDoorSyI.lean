import Derived.Test.YtfaaochjaajpjaaDoorSyH
namespace Go.Sx
open Go.RowKit
set_option linter.unusedSimpArgs false
set_option linter.unusedVariables false
variable {α β : Type}

section
variable {P : Program} {n : Nat} {ops : Array Oper} {L : St} {w w0 : World} {F O : Nat → Prop} {hs : List HP} {K : St → World → Prop}

/-- a slice of so many noughts -/
theorem run_mkslice {t e : TypeId} {zs : List Value} {bytes : Nat} (tf : TF P t e zs bytes) (kl kc : IntKind) (l c : Nat) (hl : l ≤ c) (hb : c * bytes ≤ 140737488355328) :
    (Instr.makeSlice t (.int kl (l : Int)) (.int kc (c : Int))).run P w = .ok (.slice (some ⟨w.heap.size, 0, none⟩) l c) (w.alloc (.cells ⟨(List.replicate c zs).flatten⟩ e)) := by
  obtain ⟨i, z, hi, hz, hzc, hsz, hby⟩ := tf.parts
  have hszr : szOf P e = some zs.length := by simp [szOf, hi, hsz]
  have hc : c ≤ 140737488355328 := Nat.le_trans (Nat.le_mul_of_pos_right c tf.hb) hb
  have w1 : IntKind.i64.wrap (l : Int) = l := wrap64_nat (by omega)
  have w2 : IntKind.i64.wrap (c : Int) = c := wrap64_nat (by omega)
  have hbi : ((i.bytes : Int) * (c : Int)) ≤ 140737488355328 := by
    rw [hby, Int.mul_comm]
    have := Int.ofNat_le.2 hb
    simpa using this
  have hnot : ¬ ((i.bytes : Int) * (c : Int) > 2 ^ 48) := by omega
  have hroom : (askRoom (c * i.bytes)).run P w = .ok () w := by
    unfold askRoom roomBytes
    rw [hby, if_neg (by omega)]
    rfl
  simp only [Instr.makeSlice, Sem.run_bind, run_underlying tf.ht, Result.andThen_ok, asInt, asIntOf, Sem.run_pure, typeInfo, run_program, hi, w1, w2]
  rw [if_neg (by simp; omega)]
  simp only [Sem.run_bind, Sem.run_pure, Result.andThen_ok, Int.toNat_natCast, hroom, szOf_run hszr]
  split
  · rename_i h0
    have hc0 : c = 0 := by
      have := tf.hs
      rcases Nat.mul_eq_zero.1 h0 with h | h
      · exact h
      · omega
    subst hc0
    have hnil : ∀ f : Nat → Value, (Array.range 0).map f = ⟨[]⟩ := fun f => by simp
    simp only [Sem.run_bind, Sem.run_pure, Result.andThen_ok, Nat.zero_mul, hnil]
    rfl
  · have hzv : (zeroValue e).run P w = .ok z w := by simp [zeroValue, typeInfo, hi, hz]
    simp only [Sem.run_bind, Sem.run_pure, Result.andThen_ok, hzv, hzc]
    have hr := zeros_rep zs c
    simp only [show (⟨zs⟩ : Array Value).size = zs.length from rfl, hr]
    rfl
theorem Op_make {dst : Option Nat} {t ty : TypeId} {lo co : Operand} {pos : String} {aft : Array Edge} {g : Option (Nat × Bool)} {e : TypeId} {zs : List Value} {bytes : Nat} (tf : TF P t e zs bytes)
    (E : Enc α) (x : α) (hz : E.f x = zs) (ss : List Nat) (d : Nat) (sl sc : SV) (nl nc : Int)
    (hside : (gok ops ss L ⟨dst, .makeSlice t lo co, ty, pos, aft, g⟩, dst, (decide (d < n)), (L.any fun p => p.1 == d), toSS [lo, co] (lk L), toI sl, toI sc) = (true, some d, true, false, some [sl, sc], some nl, some nc))
    (h0 : 0 ≤ nl) (h1 : nl ≤ nc) (hb : nc.toNat * bytes ≤ 140737488355328)
    (k : Cx F O w0 w hs) (hk : ∀ A w', Cx F O w0 w' (hs ++ [Ow E A nl.toNat nc.toNat (List.replicate nl.toNat x)]) → K ((d, .v (.slice A nl.toNat nc.toNat)) :: L) w') :
    Op1 P n ops L w ⟨dst, .makeSlice t lo co, ty, pos, aft, g⟩ K := by
  simp only [Prod.mk.injEq, decide_eq_true_eq] at hside
  obtain ⟨s1, rfl, s3, s4, s5, s6, s7⟩ := hside
  obtain ⟨k1, e1⟩ := toI_spec s6
  obtain ⟨k2, e2⟩ := toI_spec s7
  refine WL_of (xs := [lo, co]) (svs := [sl, sc]) ss (d := d) (by simp [Side, s1, s3, s4, s5]) fun a ha he => ?_
  simp only [List.map_cons, List.map_nil, SV.vals, List.cons.injEq, and_true] at he
  have hc : nc.toNat ≤ maxLen := by
    have := Nat.le_trans (Nat.le_mul_of_pos_right nc.toNat tf.hb) hb
    unfold maxLen; omega
  have hrun := run_mkslice (P := P) (w := w) tf k1 k2 nl.toNat nc.toNat (by omega) hb
  rw [Int.toNat_of_nonneg h0, Int.toNat_of_nonneg (by omega)] at hrun
  have hE : E.sz = zs.length := by rw [← hz, E.len]
  have hA := hk (some ⟨w.heap.size, 0, none⟩) _ (k.new (.cells ⟨(List.replicate nc.toNat zs).flatten⟩ e) _ (Ow.new w E e _ nl.toNat nc.toNat _ (by simp) (by omega) hc (by rw [← hz, ← all_replicate, Enc.all_length]; simp) (by
    rw [← hz, ← all_replicate, Enc.all_take, List.take_replicate, Nat.min_eq_left (by omega)])))
  unfold Oper.wp execOp
  simp only [he.1, he.2, e1, e2, Sem.run_bind, hrun, Result.andThen_ok, Sem.run_pure]
  exact ⟨.v (.slice (some ⟨w.heap.size, 0, none⟩) nl.toNat nc.toNat), by simp [SV.val], hA⟩

/-! ### stores -/
theorem run_storeAll {t bt : TypeId} {b off : Nat} {cur : Array Value} {v : Value} {vs : List Value} (hv : v.cells = ⟨vs⟩) (hs : szOf P t = some vs.length) (h1 : ∀ u ∈ vs, u.oneCell' = true) (hb : Rw w b cur bt) (hl : off + vs.length ≤ cur.size) :
    (Instr.storeAt t (.pointer (some ⟨b, off, none⟩)) v).run P w = .ok () (w.setRow b (pat cur.toList off vs).toArray) := by
  have hst := run_storeCells_rw P b off bt vs 0 cur w hb (by simpa using hl) h1
  simp only [Nat.add_zero] at hst
  simp only [Instr.storeAt, Instr.sureAddr, Sem.run_bind, Sem.run_pure, Result.andThen_ok, storeVar, szOf_run hs, hv]
  rw [if_neg (by simp)]
  exact hst
theorem add0 (b off j : Nat) : (⟨b, off, none⟩ : Addr).add j = ⟨b, off + j, none⟩ := by unfold Addr.add; split <;> simp_all

theorem Op_store0 {ty t : TypeId} {p x : Operand} {pos : String} {aft : Array Edge} {g : Option (Nat × Bool)} (ss : List Nat) {pa : Option Addr} {sv : SV} {svs : List SV}
    (hside : (gok ops ss L (⟨none, .store t p x, ty, pos, aft, g⟩ : Oper), (none : Option Nat), (toSS [p, x] (lk L)).map SV.vals, szOf P t, cellsS sv, svs.all SV.one1) = (true, none, some [.pointer pa, sv.val], some (SV.width svs), some svs, true))
    {b off : Nat} {cur : Array Value} {bt : TypeId} (hp : pa = some ⟨b, off, none⟩) (hb : Rw w b cur bt) (hl : off + SV.width svs ≤ cur.size)
    (hk : K L (w.setRow b (pat cur.toList off (SV.cl svs)).toArray)) :
    Op1 P n ops L w ⟨none, .store t p x, ty, pos, aft, g⟩ K := by
  simp only [Prod.mk.injEq, Option.map_eq_some_iff] at hside
  obtain ⟨s1, _, ⟨vs, s5, s6⟩, s7, s8, s9⟩ := hside
  refine WL_of0 (xs := [p, x]) (svs := vs) ss (by simp [s1, s5]) fun a ha he => ?_
  rw [s6] at he
  simp only [List.map_cons, List.map_nil, List.cons.injEq, and_true] at he
  have hcl := cl_length svs
  have hrun := run_storeAll (P := P) (w := w) (t := t) (cellsS_spec s8) (by rw [hcl]; exact s7) (ones_spec svs s9) hb (by rw [hcl]; exact hl)
  unfold Oper.wp execOp
  simp only [he.1, he.2, hp, Sem.run_bind, hrun, Result.andThen_ok, Sem.run_pure]
  exact ⟨rfl, hk⟩
/-- a variable's cells -/
theorem Op_bst {ty t : TypeId} {p x : Operand} {pos : String} {aft : Array Edge} {g : Option (Nat × Bool)} (ss : List Nat) (i : Nat) {pa : Option Addr} {sv : SV} {svs : List SV} {bt : TypeId} {b : Nat} {ys : List SV} (zs : List SV) {off : Nat}
    (hside : (gok ops ss L (⟨none, .store t p x, ty, pos, aft, g⟩ : Oper), (none : Option Nat), (toSS [p, x] (lk L)).map SV.vals, szOf P t, cellsS sv, svs.all SV.one1) = (true, none, some [.pointer pa, sv.val], some (SV.width svs), some svs, true))
    (hp : Pt (some ⟨b, 0, none⟩) off pa) (k : Cx F O w0 w hs) (hi : hs[i]? = some (Bx bt b ys)) (hz : SV.cl zs = pat (SV.cl ys) off (SV.cl svs)) (hl : off + SV.width svs ≤ SV.width ys)
    (hk : ∀ w', Cx F O w0 w' (hs.set i (Bx bt b zs)) → K L w') :
    Op1 P n ops L w ⟨none, .store t p x, ty, pos, aft, g⟩ K := by
  refine Op_store0 ss hside (b := b) (off := off) (cur := ⟨SV.cl ys⟩) (bt := bt) ?_ (k.bxh i hi) (by simpa [cl_length] using hl) (hk _ (k.bput i hi off _ hz (by rw [cl_length]; exact hl)))
  rw [hp rfl]
  simp [fa, add0]
/-- a row's element, or a part of it -/
theorem Op_ost {ty t : TypeId} {p x : Operand} {pos : String} {aft : Array Edge} {g : Option (Nat × Bool)} {E : Enc α} (ss : List Nat) (i : Nat) {pa : Option Addr} {sv : SV} {svs : List SV} {A : Option Addr} {n1 c : Nat} {xs : List α} {j : Nat} {x0 : α} (y : α) {kk : Nat}
    (hside : (gok ops ss L (⟨none, .store t p x, ty, pos, aft, g⟩ : Oper), (none : Option Nat), (toSS [p, x] (lk L)).map SV.vals, szOf P t, cellsS sv, svs.all SV.one1) = (true, none, some [.pointer pa, sv.val], some (SV.width svs), some svs, true))
    (hp : Pt A (j * E.sz + kk) pa) (k : Cx F O w0 w hs) (hi : hs[i]? = some (Ow E A n1 c xs)) (hx : xs[j]? = some x0) (hA : A.isSome = true) (hy : E.f y = pat (E.f x0) kk (SV.cl svs)) (hl : kk + SV.width svs ≤ E.sz)
    (hk : ∀ w', Cx F O w0 w' (hs.set i (Ow E A n1 c (xs.set j y))) → K L w') :
    Op1 P n ops L w ⟨none, .store t p x, ty, pos, aft, g⟩ K := by
  obtain ⟨b, bt, cur, rfl, hb, hsz⟩ := k.oat i hi hA
  have hlt := (List.getElem?_eq_some_iff.1 hx).1
  have hn := k.len i hi
  have h1 : j * E.sz + kk + SV.width svs ≤ n1 * E.sz := by
    have : (j + 1) * E.sz ≤ n1 * E.sz := Nat.mul_le_mul_right _ (by omega)
    rw [Nat.add_mul] at this
    omega
  refine Op_store0 ss hside (b := b) (off := j * E.sz + kk) (cur := cur) (bt := bt) ?_ hb (by omega) (hk _ (k.oput i hi rfl hb (j * E.sz + kk) (SV.cl svs) (by simp) (E.all_set hx hy (by rw [cl_length]; exact hl)) (by rw [cl_length]; exact h1)))
  rw [hp rfl]
  simp [fa, add0]
/-- a window's element -/
theorem Op_mst {ty t : TypeId} {p x : Operand} {pos : String} {aft : Array Edge} {g : Option (Nat × Bool)} {E : Enc α} (ss : List Nat) (i : Nat) {pa : Option Addr} {sv : SV} {svs : List SV} {A : Option Addr} {n1 : Nat} {G : Win} {xs : List α} {j : Nat} {x0 : α} (y : α) {kk : Nat}
    (hside : (gok ops ss L (⟨none, .store t p x, ty, pos, aft, g⟩ : Oper), (none : Option Nat), (toSS [p, x] (lk L)).map SV.vals, szOf P t, cellsS sv, svs.all SV.one1) = (true, none, some [.pointer pa, sv.val], some (SV.width svs), some svs, true))
    (hp : Pt A (j * E.sz + kk) pa) (k : Cx F O w0 w hs) (hi : hs[i]? = some (Mw E A n1 xs G)) (hx : xs[j]? = some x0) (hA : A.isSome = true) (hy : E.f y = pat (E.f x0) kk (SV.cl svs)) (hl : kk + SV.width svs ≤ E.sz)
    (hk : ∀ w', Cx F O w0 w' (hs.set i (Mw E A n1 (xs.set j y) G)) → K L w') :
    Op1 P n ops L w ⟨none, .store t p x, ty, pos, aft, g⟩ K := by
  have hlt := (List.getElem?_eq_some_iff.1 hx).1
  have hn := k.mlen i hi
  have h1 : j * E.sz + kk + SV.width svs ≤ n1 * E.sz := by
    have : (j + 1) * E.sz ≤ n1 * E.sz := Nat.mul_le_mul_right _ (by omega)
    rw [Nat.add_mul] at this
    omega
  obtain ⟨rfl, cur, hb, hsz, hk'⟩ := k.mput i hi hA (j * E.sz + kk) (SV.cl svs) (xs' := xs.set j y) (by simp) (E.all_set hx hy (by rw [cl_length]; exact hl)) (by rw [cl_length]; exact h1)
  refine Op_store0 ss hside (b := G.g) (off := G.pre.length + (j * E.sz + kk)) (cur := cur) (bt := G.t) ?_ hb (by omega) (hk _ hk')
  rw [hp rfl]
  simp [fa, add0]

/-! ### new variables -/
theorem Op_box {dst : Option Nat} {ty t : TypeId} {x : Operand} {pos : String} {aft : Array Edge} {g : Option (Nat × Bool)} (ss : List Nat) (d : Nat) (sv : SV) (cs : List SV)
    (hside : (gok ops ss L ⟨dst, .box t x, ty, pos, aft, g⟩, dst, (decide (d < n)), (L.any fun p => p.1 == d), (toSS [x] (lk L)).map SV.vals, (cellsS sv).map SV.cl) = (true, some d, true, false, some [sv.val], some (SV.cl cs)))
    (k : Cx F O w0 w hs) (hk : ∀ b w', Cx F O w0 w' (hs ++ [Bx t b cs]) → K ((d, .v (.pointer (some ⟨b, 0, none⟩))) :: L) w') :
    Op1 P n ops L w ⟨dst, .box t x, ty, pos, aft, g⟩ K := by
  simp only [Prod.mk.injEq, decide_eq_true_eq, Option.map_eq_some_iff] at hside
  obtain ⟨s1, rfl, s3, s4, ⟨svs, s5, s5'⟩, ⟨cs', s6, s6'⟩⟩ := hside
  refine WL_of (xs := [x]) (svs := svs) ss (d := d) (by simp [Side, s1, s3, s4, s5]) fun a ha he => ?_
  rw [s5'] at he
  simp only [List.map_cons, List.map_nil, List.cons.injEq, and_true] at he
  have hcs := cellsS_spec s6
  rw [s6'] at hcs
  have hrun : (Instr.box t (a.eval x)).run P w = .ok (.pointer (some ⟨w.heap.size, 0, none⟩)) (w.alloc (.cells ⟨SV.cl cs⟩ t)) := by
    rw [he, ← hcs]
    rfl
  unfold Oper.wp execOp
  simp only [Sem.run_bind, hrun, Result.andThen_ok, Sem.run_pure]
  exact ⟨.v (.pointer (some ⟨w.heap.size, 0, none⟩)), rfl, hk w.heap.size _ (k.new _ (Bx t w.heap.size cs) ⟨Rw.new w _ _, rfl⟩)⟩
theorem Op_alloc {dst : Option Nat} {ty t : TypeId} {pos : String} {aft : Array Edge} {g : Option (Nat × Bool)} (ss : List Nat) (d : Nat) (cs : List SV)
    (hside : (gok ops ss L ⟨dst, .alloc t, ty, pos, aft, g⟩, dst, (decide (d < n)), (L.any fun p => p.1 == d), (zeroS P t).map SV.cl) = (true, some d, true, false, some (SV.cl cs)))
    (k : Cx F O w0 w hs) (hk : ∀ b w', Cx F O w0 w' (hs ++ [Bx t b cs]) → K ((d, .v (.pointer (some ⟨b, 0, none⟩))) :: L) w') :
    Op1 P n ops L w ⟨dst, .alloc t, ty, pos, aft, g⟩ K := by
  simp only [Prod.mk.injEq, decide_eq_true_eq, Option.map_eq_some_iff] at hside
  obtain ⟨s1, rfl, s3, s4, ⟨cs', s6, s7⟩⟩ := hside
  refine WL_of (xs := []) (svs := []) ss (d := d) (by simp [Side, s1, s3, s4, toSS]) fun a ha he => ?_
  obtain ⟨z, hz1, hz2⟩ := zeroS_spec s6 w
  rw [s7] at hz2
  have hrun : (Instr.alloc t true (.tuple #[])).run P w = .ok (.pointer (some ⟨w.heap.size, 0, none⟩)) (w.alloc (.cells ⟨SV.cl cs⟩ t)) := by
    rw [← hz2]
    simp only [Instr.alloc, Sem.run_bind, hz1, Result.andThen_ok]
    rfl
  unfold Oper.wp execOp
  simp only [Sem.run_bind, hrun, Result.andThen_ok, Sem.run_pure]
  exact ⟨.v (.pointer (some ⟨w.heap.size, 0, none⟩)), rfl, hk w.heap.size _ (k.new _ (Bx t w.heap.size cs) ⟨Rw.new w _ _, rfl⟩)⟩

/-! ### copy -/
/-- n of ys from lo on -/
def lcp (xs : List α) (lo n : Nat) (ys : List α) : List α := xs.take lo ++ ys.take n ++ xs.drop (lo + min n ys.length)
theorem lcp_length {xs ys : List α} {lo n : Nat} (h : lo + n ≤ xs.length) : (lcp xs lo n ys).length = xs.length := by
  simp only [lcp, List.length_append, List.length_take, List.length_drop]; omega
theorem lcp_all (E : Enc α) {xs ys : List α} {lo n : Nat} (h : lo + n ≤ xs.length) : E.all (lcp xs lo n ys) = pat (E.all xs) (lo * E.sz) (E.all (ys.take n)) := by
  simp only [lcp, pat, Enc.all_append, Enc.all_take, Enc.all_length, List.length_take]
  rw [← Nat.add_mul, Enc.all_drop]
theorem lcp_nil {xs ys : List α} {lo n : Nat} (h : min n ys.length = 0) : lcp xs lo n ys = xs := by
  have : ys.take n = [] := by
    apply List.eq_nil_of_length_eq_zero
    rw [List.length_take]; exact h
  simp [lcp, this, h]
/-- a window's place: where it is not empty -/
def Pw (A : Option Addr) (off n : Nat) (p : Option Addr) : Prop := A.isSome = true → p.isSome = true ∧ (n ≠ 0 → p = fa A off)
theorem run_copy {t t2 ty e : TypeId} {zs : List Value} {bytes : Nat} (tf : TF P t e zs bytes) {b off : Nat} {cur : Array Value} {bt : TypeId} {x : Value} {m dn dc : Nat} {news : List Value} (hb : Rw w b cur bt) (hx : Src P zs.length w x m news) (h1 : ∀ u ∈ news, u.oneCell' = true) (hl : off + dn * zs.length ≤ cur.size) :
    (Builtin.copy_ #[t, t2] ty #[.slice (some ⟨b, off, none⟩) dn dc, x]).run P w = .ok (.int .i64 (min m dn : Nat)) (w.setRow b (pat cur.toList off (news.take (min m dn * zs.length))).toArray) := by
  obtain ⟨i, z, hi, hz, hzc, hsz, hby⟩ := tf.parts
  have hszr : (sizeOf e).run P w = .ok zs.length w := by rw [← hsz]; exact run_cellsOf hi w
  have hc := hx.cells (min m dn) w (Nat.min_le_left _ _) rfl
  have hll : (news.take (min m dn * zs.length)).length ≤ dn * zs.length := by
    rw [List.length_take]
    exact Nat.le_trans (Nat.min_le_left _ _) (Nat.mul_le_mul_right _ (Nat.min_le_right _ _))
  have hst := run_storeCells_rw P b off bt (news.take (min m dn * zs.length)) 0 cur w hb (by simp only [Nat.add_zero]; omega) (fun u hu => h1 u (List.mem_of_mem_take hu))
  simp only [Nat.add_zero] at hst
  have hmin : Nat.min m dn = min m dn := rfl
  simp only [Builtin.copy_, List.getElem?_toArray, List.getElem?_cons_zero, List.getElem?_cons_succ, Sem.run_bind, run_underlying tf.ht, Result.andThen_ok, hx.len, hszr, hmin, hc, hst, Sem.run_pure]
  rfl
theorem Op_copy0 {dst : Option Nat} {x y : Operand} {t t2 ty : TypeId} {pos : String} {aft : Array Edge} {g : Option (Nat × Bool)} {e : TypeId} {zs : List Value} {bytes : Nat} (tf : TF P t e zs bytes) (ss : List Nat) (d : Nat) {pa : Option Addr} {dn dc m : Nat} {v : SV} {news : List Value}
    (hside : (gok ops ss L ⟨dst, .call ⟨.builtin .copy, #[x, y], #[t, t2]⟩, ty, pos, aft, g⟩, dst, (decide (d < n)), (L.any fun p => p.1 == d), (toSS [x, y] (lk L)).map SV.vals) = (true, some d, true, false, some [.slice pa dn dc, v.val]))
    {b off : Nat} {cur : Array Value} {bt : TypeId} (hp : pa = some ⟨b, off, none⟩) (hb : Rw w b cur bt) (hx : Src P zs.length w v.val m news) (h1 : ∀ u ∈ news, u.oneCell' = true) (hl : off + dn * zs.length ≤ cur.size)
    (hk : K ((d, .i .i64 (min m dn : Nat)) :: L) (w.setRow b (pat cur.toList off (news.take (min m dn * zs.length))).toArray)) :
    Op1 P n ops L w ⟨dst, .call ⟨.builtin .copy, #[x, y], #[t, t2]⟩, ty, pos, aft, g⟩ K := by
  simp only [Prod.mk.injEq, Option.map_eq_some_iff, decide_eq_true_eq] at hside
  obtain ⟨s1, rfl, s3, s4, ⟨svs, s5, s6⟩⟩ := hside
  subst hp
  refine WL_of (xs := [x, y]) (svs := svs) ss (d := d) (by simp [Side, s1, s3, s4, s5]) fun a ha he => ?_
  rw [s6] at he
  simp only [List.map_cons, List.map_nil, List.cons.injEq, and_true] at he
  have hrun := run_copy (P := P) (w := w) (t2 := t2) (ty := ty) (dc := dc) tf hb hx h1 hl
  unfold Oper.wp execOp
  simp only [resolve, invoke, builtin, Sem.run_bind, Sem.run_pure, Result.andThen_ok, List.map_toArray, List.map_cons, List.map_nil, he.1, he.2, hrun]
  exact ⟨.i .i64 (min m dn : Nat), rfl, hk⟩
theorem pat_nil (l : List Value) (k k' : Nat) : pat l k [] = pat l k' [] := by simp [pat, List.take_append_drop]
/-- copy into a variable's array -/
theorem Op_bcp {dst : Option Nat} {x y : Operand} {t t2 ty : TypeId} {pos : String} {aft : Array Edge} {g : Option (Nat × Bool)} {e : TypeId} {zs : List Value} {bytes : Nat} (tf : TF P t e zs bytes) {E : Enc α} (ss : List Nat) (d i : Nat) {pa : Option Addr} {dn dc m : Nat} {v : SV} {src : List α} {bt : TypeId} {b off : Nat} {ys : List SV} (vs : List SV)
    (hside : (gok ops ss L ⟨dst, .call ⟨.builtin .copy, #[x, y], #[t, t2]⟩, ty, pos, aft, g⟩, dst, (decide (d < n)), (L.any fun p => p.1 == d), (toSS [x, y] (lk L)).map SV.vals) = (true, some d, true, false, some [.slice pa dn dc, v.val])) (hE : E.sz = zs.length)
    (hp : Pw (some ⟨b, 0, none⟩) off dn pa) (k : Cx F O w0 w hs) (hi : hs[i]? = some (Bx bt b ys)) (hx : Src P zs.length w v.val m (E.all src)) (hm : src.length = m) (hz : SV.cl vs = pat (SV.cl ys) off (E.all (src.take dn))) (hl : off + dn * E.sz ≤ SV.width ys) (hsp : ∀ a, pa = some a → a.block = b ∧ a.spot = none ∧ a.off ≤ SV.width ys)
    (hk : ∀ w', Cx F O w0 w' (hs.set i (Bx bt b vs)) → K ((d, .i .i64 (min m dn : Nat)) :: L) w') :
    Op1 P n ops L w ⟨dst, .call ⟨.builtin .copy, #[x, y], #[t, t2]⟩, ty, pos, aft, g⟩ K := by
  have htk : (E.all src).take (min m dn * zs.length) = E.all (src.take dn) := by
    rw [← hE, Enc.all_take]
    congr 1
    rw [← hm]
    rw [List.take_eq_take_iff]
    omega
  obtain ⟨q1, q2⟩ := hp rfl
  by_cases hdn : dn = 0
  · subst hdn
    obtain ⟨⟨pb, po, ps⟩, rfl⟩ := Option.isSome_iff_exists.1 q1
    obtain ⟨rfl, hsp2, hsp3⟩ := hsp _ rfl
    simp only at hsp2 hsp3
    subst hsp2
    refine Op_copy0 tf ss d hside (b := pb) (off := po) (cur := ⟨SV.cl ys⟩) (bt := bt) rfl (k.bxh i hi) hx (E.all_one src) (by simpa [cl_length] using hsp3) ?_
    rw [htk]
    refine hk _ (k.bput i hi po _ ?_ (by simpa [Enc.all] using hsp3))
    rw [hz]
    simp only [List.take_zero]
    exact pat_nil _ _ _
  · have hpa := q2 hdn
    simp only [fa, Option.map_some, add0, Nat.zero_add] at hpa
    refine Op_copy0 tf ss d hside (b := b) (off := off) (cur := ⟨SV.cl ys⟩) (bt := bt) hpa (k.bxh i hi) hx (E.all_one src) (by simpa [cl_length, ← hE] using hl) ?_
    rw [htk]
    exact hk _ (k.bput i hi off _ hz (by
      rw [Enc.all_length]
      have : (src.take dn).length * E.sz ≤ dn * E.sz := Nat.mul_le_mul_right _ (by rw [List.length_take]; omega)
      omega))
end
end Go.Sx
