import Derived.Test.YtfaaochjaajpjaaDoorSyG
namespace Go.Sx
open Go.RowKit
set_option linter.unusedSimpArgs false
set_option linter.unusedVariables false
variable {α β : Type}

/-- what the element's type is -/
structure TF (P : Program) (t e : TypeId) (zs : List Value) (bytes : Nat) : Prop where
  ht : P.underlying t = some (.slice e)
  hi : (P.info? e).map (fun i => (i.zero.map (·.cells), i.size, i.bytes)) = some (some ⟨zs⟩, zs.length, bytes)
  hs : 0 < zs.length
  hb : 0 < bytes
theorem TF.parts {P : Program} {t e : TypeId} {zs : List Value} {bytes : Nat} (tf : TF P t e zs bytes) : ∃ i z, P.info? e = some i ∧ i.zero = some z ∧ z.cells = ⟨zs⟩ ∧ i.size = zs.length ∧ i.bytes = bytes := by
  have h := tf.hi
  simp only [Option.map_eq_some_iff, Prod.mk.injEq] at h
  obtain ⟨i, hi, ⟨z, hz, hc⟩, hs, hb⟩ := h
  exact ⟨i, z, hi, hz, hc, hs, hb⟩

/-- what is handed to append or copy -/
structure Src (P : Program) (sz : Nat) (w : World) (x : Value) (m : Nat) (news : List Value) : Prop where
  hl : news.length = m * sz
  len : ∀ w', (Builtin.lenOf x).run P w' = .ok m w'
  cells : ∀ (k : Nat) (w' : World), k ≤ m → w'.heap = w.heap → (Builtin.firstCells sz k x).run P w' = .ok (news.take (k * sz)).toArray w'
theorem cell_heap {w w' : World} (h : w'.heap = w.heap) (a : Addr) : w'.cell? a = w.cell? a := by simp [World.cell?, h]
theorem Src.slice {P : Program} {sz m c : Nat} {w : World} {A : Option Addr} {news : List Value} (h : Rd w A news) (hl : news.length = m * sz) : Src P sz w (.slice A m c) m news := by
  refine ⟨hl, fun _ => rfl, fun k w' hk hw => ?_⟩
  cases A with
  | none =>
    have : news = [] := by
      rcases news with _ | ⟨x, l⟩
      · rfl
      · obtain ⟨a, ha⟩ := h.1 (by simp); cases ha
    subst this
    simp [Builtin.firstCells]
  | some a =>
    have hle : k * sz ≤ news.length := by rw [hl]; exact Nat.mul_le_mul_right _ hk
    have h1 := run_loadCells_list (P := P) (w := w') a (news.take (k * sz)) (fun j v hv => by
      rw [cell_heap hw]
      rw [List.getElem?_take] at hv
      split at hv
      · exact h.2 a j v rfl hv
      · cases hv)
    rw [List.length_take, Nat.min_eq_left hle] at h1
    simp only [Builtin.firstCells, h1]
theorem Src.str {P : Program} {w : World} (s : List UInt8) : Src P 1 w (.string ⟨⟨s⟩⟩) s.length (e8.all s) := by
  refine ⟨by rw [Enc.all_length]; rfl, fun _ => rfl, fun k w' hk hw => ?_⟩
  simp only [Builtin.firstCells, Sem.run_pure]
  congr 1
  have e1 : (ByteArray.mk ⟨s⟩).extract 0 k = ByteArray.mk ⟨s.take k⟩ := by
    rw [show (ByteArray.mk ⟨s⟩) = ByteArray.mk s.toArray from rfl, ByteArray.extract_mk]
    rfl
  rw [e1, e8_all]
  simp [List.map_take]
  rfl

theorem zeros_rep (zs : List Value) : ∀ (k : Nat), (Array.range (k * zs.length)).map (fun i => (⟨zs⟩ : Array Value)[i % zs.length]!) = ⟨(List.replicate k zs).flatten⟩ := by
  intro k
  apply Array.ext'
  simp only [Array.toList_map, Array.toList_range]
  induction k with
  | zero => simp
  | succ k ih =>
    rw [List.replicate_succ', List.flatten_append, ← ih, Nat.add_mul, Nat.one_mul, List.range_add, List.map_append, List.map_map]
    congr 1
    simp only [List.flatten_cons, List.flatten_nil, List.append_nil]
    apply List.ext_getElem?
    intro j
    by_cases hj : j < zs.length
    · simp [hj, Nat.mod_eq_of_lt hj, Nat.mul_add_mod_self_right]
    · simp [hj, List.getElem?_eq_none (Nat.le_of_not_lt hj)]

theorem all_replicate (E : Enc α) (x : α) : ∀ k, E.all (List.replicate k x) = (List.replicate k (E.f x)).flatten := by
  intro k
  induction k with
  | zero => rfl
  | succ k ih => simp [List.replicate_succ, Enc.all, ih]
theorem zeroCells_eq (zs : List Value) (k : Nat) : Builtin.zeroCells ⟨zs⟩ k = ⟨(List.replicate k zs).flatten⟩ := zeros_rep zs k

section
variable {P : Program} {w : World}
theorem run_append {t t2 e ty : TypeId} {zs : List Value} {bytes : Nat} (tf : TF P t e zs bytes) (ht2 : (match P.underlying t2 with | some (.slice _) => true | some .string => true | _ => false) = true) {E : Enc α} (hE : E.sz = zs.length) {A : Option Addr} {n m c : Nat} {x : Value} {xs ys : List α} {S R : Nat → Prop}
    (hown : (Ow E A n c xs).p w S R) (hx : Src P zs.length w x m (E.all ys)) (hym : ys.length = m) (hroom : (n + m) * bytes ≤ 140737488355328) :
    ∃ A' c' w', (Builtin.append_ #[t, t2] ty #[.slice A n c, x]).run P w = .ok (.slice A' (n + m) c') w' ∧ (∃ S', (Ow E A' (n + m) c' (xs ++ ys)).p w' S' (fun _ => False) ∧ (∀ b, S' b → b < w'.heap.size ∧ (S b ∨ w.heap.size ≤ b))) ∧
      w.grownBy w' (A.map (·.block)) := by
  obtain ⟨i, z, hi, hz, hzc, hsz, hby⟩ := tf.parts
  have ht2' : (∃ e', P.underlying t2 = some (.slice e')) ∨ P.underlying t2 = some .string := by
    split at ht2
    · exact .inl ⟨_, by assumption⟩
    · exact .inr (by assumption)
    · cases ht2
  have hszr : (sizeOf e).run P w = .ok zs.length w := by rw [← hsz]; exact run_cellsOf hi w
  have hmb : n + m ≤ (n + m) * bytes := Nat.le_mul_of_pos_right _ tf.hb
  have hml : n + m ≤ maxLen := by unfold maxLen; omega
  have hlen : (xs ++ ys).length = n + m := by rw [List.length_append, hown.1, hym]
  have hys : (E.all ys).length = m * zs.length := hx.hl
  have hcf : ∀ w', w'.heap = w.heap → (Builtin.firstCells zs.length m x).run P w' = .ok (E.all ys).toArray w' := fun w' hw => by
    have := hx.cells m w' (Nat.le_refl _) hw
    rwa [← hys, List.take_length] at this
  -- room
  by_cases hr : n + m ≤ c
  · rcases hown.2 with ⟨rfl, hn, hc⟩ | ⟨g, t', cur, rfl, h2, h3, h4, h5, h6, h7⟩
    · have hm0 : m = 0 := by omega
      subst hm0; subst hn; subst hc
      have hy : ys = [] := List.eq_nil_of_length_eq_zero hym
      subst hy
      refine ⟨none, 0, w, ?_, ⟨fun _ => False, ⟨by simpa using hown.1, .inl ⟨rfl, rfl, rfl⟩⟩, fun _ h => h.elim⟩, ⟨rfl, rfl, rfl, Nat.le_refl _, fun _ _ _ => rfl⟩⟩
      have hc0 := hcf w rfl
      rcases ht2' with ⟨e', hd⟩ | hd <;> simp [Builtin.append_, run_underlying tf.ht, run_underlying hd, hszr, hx.len, hc0]
    · have hc0 := hcf w rfl
      have hfit : n * zs.length + (E.all ys).length ≤ cur.size := by
        have := Nat.mul_le_mul_right zs.length hr
        rw [hE] at h5
        rw [hys, ← Nat.add_mul]; omega
      have hst := run_storeCells_rw P g (n * zs.length) t' (E.all ys) 0 cur w h2 (by simpa using hfit) (E.all_one ys)
      simp only [Nat.add_zero] at hst
      have hadd : (⟨g, 0, none⟩ : Addr).add (n * zs.length) = ⟨g, n * zs.length, none⟩ := by unfold Addr.add; split <;> simp_all
      refine ⟨some ⟨g, 0, none⟩, c, w.setRow g (cur.toList.take (n * zs.length) ++ E.all ys ++ cur.toList.drop (n * zs.length + (E.all ys).length)).toArray, ?_, ⟨fun b => b = g, ⟨hlen, .inr ⟨g, t', _, rfl, h2.set (by simp only [List.size_toArray, List.length_append, List.length_take, List.length_drop, Array.length_toList]; omega), hr, h4, ?_, ?_, rfl⟩⟩, ?_⟩, grown_patch g _⟩
      · rcases ht2' with ⟨e', hd⟩ | hd <;> simp [Builtin.append_, run_underlying tf.ht, run_underlying hd, hszr, hx.len, hr, hc0, hadd, hst]
      · simp only [List.size_toArray, List.length_append, List.length_take, List.length_drop, Array.length_toList]
        omega
      · rw [Enc.all_append, ← h6, hE]
        simp only [Nat.add_mul]
        rw [← hys]
        have e1 : (cur.toList.take (n * zs.length)).length = n * zs.length := by simp; omega
        rw [List.take_append_of_le_length (by simp; omega)]
        rw [List.take_of_length_le (by simp; omega)]
      · intro b hb
        subst hb
        exact ⟨by simp [World.setRow]; exact h2.lt, .inl h7⟩
  · -- a new block
    have hge := grownCap_ge w (n + m) c e
    have hcm : grownCap w (n + m) c e ≤ maxLen := grownCap_le_maxLen w (n + m) c e hml
    have hold : ∃ olds : List Value, olds = E.all xs ∧ (Builtin.firstCells zs.length n (.slice A n c)).run P w.drew = .ok olds.toArray w.drew := by
      refine ⟨_, rfl, ?_⟩
      have h1 : (E.all xs).length = n * zs.length := by rw [Enc.all_length, hown.1, hE]
      have := (Src.slice (P := P) (sz := zs.length) (m := n) (c := c) (Ow.rd' hown) h1).cells n w.drew (Nat.le_refl _) rfl
      rwa [← h1, List.take_length] at this
    obtain ⟨olds, rfl, hold⟩ := hold
    have hc0 := hcf w.drew rfl
    have hnb : Builtin.nextslicecap (n + m) c * i.bytes ≤ 281474976710656 := by rw [hby]; exact growslice_fits (by omega) hroom
    have h63 : ¬ (9223372036854775807 < ((n : Int) + (m : Int))) := by omega
    have h48 : ¬ (281474976710656 < Builtin.nextslicecap (n + m) c * i.bytes) := by omega
    refine ⟨some ⟨w.heap.size, 0, none⟩, grownCap w (n + m) c e, w.drew.alloc (.cells ((E.all xs).toArray ++ (E.all ys).toArray ++ Builtin.zeroCells z.cells (grownCap w (n + m) c e - (n + m))) e), ?_, ⟨fun b => b = w.heap.size, ⟨hlen, .inr ⟨w.heap.size, e, _, rfl, Rw.new w.drew _ _, hge, hcm, ?_, ?_, rfl⟩⟩, ?_⟩, ⟨rfl, rfl, rfl, by simp, fun k hk _ => heap_alloc_old w.drew _ hk⟩⟩
    · rcases ht2' with ⟨e', hd⟩ | hd <;> simp [Builtin.append_, run_underlying tf.ht, run_underlying hd, hszr, hx.len, hr, h63, h48, typeInfo, zeroValue, hi, hz, Question.forced, hold, hc0, newRow, grownCap] <;> (congr 2; apply Array.ext'; simp)
    · simp only [Array.size_append, List.size_toArray, size_zeroCells, hzc, Enc.all_length, hown.1, hym, ← Nat.add_mul, hE]
      exact Nat.mul_le_mul_right _ (by omega)
    · simp only [Array.toList_append, List.append_assoc]
      rw [← List.append_assoc, ← Enc.all_append]
      have : (E.all (xs ++ ys)).length = (n + m) * E.sz := by rw [Enc.all_length, hlen]
      rw [← this, List.take_left]
    · intro b hb
      subst hb
      exact ⟨by simp, .inr (Nat.le_refl _)⟩
end

section
variable {P : Program} {w : World}
/-- append of so many noughts -/
theorem run_appendZ {t t2 e ty : TypeId} {zs : List Value} {bytes : Nat} (tf : TF P t e zs bytes) {ik kx : IntKind} (ht2 : P.underlying t2 = some (.int ik)) {E : Enc α} {zx : α} (hzx : E.f zx = zs) {A : Option Addr} {n c : Nat} {l : Int} {xs : List α} {S R : Nat → Prop}
    (hown : (Ow E A n c xs).p w S R) (h0 : 0 ≤ l) (hroom : (n + l.toNat) * bytes ≤ 140737488355328) :
    ∃ A' c' w', (Builtin.append_ #[t, t2] ty #[.slice A n c, .int kx l]).run P w = .ok (.slice A' (n + l.toNat) c') w' ∧ (∃ S', (Ow E A' (n + l.toNat) c' (xs ++ List.replicate l.toNat zx)).p w' S' (fun _ => False) ∧ (∀ b, S' b → b < w'.heap.size ∧ (S b ∨ w.heap.size ≤ b))) ∧
      w.grownBy w' (A.map (·.block)) := by
  obtain ⟨i, z, hi, hz, hzc, hsz, hby⟩ := tf.parts
  have hE : E.sz = zs.length := by rw [← hzx, E.len]
  obtain ⟨m, hm⟩ : ∃ m, l.toNat = m := ⟨_, rfl⟩
  have hlm : l = (m : Int) := by omega
  subst hlm
  simp only [Int.toNat_natCast] at hroom ⊢
  clear hm h0
  have hszr : (sizeOf e).run P w = .ok zs.length w := by rw [← hsz]; exact run_cellsOf hi w
  have hmb : n + m ≤ (n + m) * bytes := Nat.le_mul_of_pos_right _ tf.hb
  have hml : n + m ≤ maxLen := by unfold maxLen; omega
  have hwr : IntKind.i64.wrap (m : Int) = m := wrap64_nat (by omega)
  have hlen : (xs ++ List.replicate m zx).length = n + m := by rw [List.length_append, hown.1, List.length_replicate]
  have hys : (E.all (List.replicate m zx)).length = m * zs.length := by rw [Enc.all_length, hE]; simp
  have hall : E.all (List.replicate m zx) = (List.replicate m zs).flatten := by rw [all_replicate, hzx]
  have hti : (typeInfo e).run P w = .ok i w := by simp [typeInfo, hi]
  have hmbytes : m * bytes ≤ 140737488355328 := Nat.le_trans (Nat.mul_le_mul_right _ (by omega)) hroom
  have h48a : ¬ ((m : Int) * (i.bytes : Int) > 2 ^ 48) := by
    rw [hby]
    have := Int.ofNat_le.2 hmbytes
    simp only [Int.natCast_mul] at this
    omega
  have hneg : ¬ ((m : Int) < 0) := by omega
  have happ : ∀ w' : World, ((if m * zs.length = 0 then pure #[] else do pure (Builtin.zeroCells (← zeroValue e).cells m)) : Sem (Array Value)).run P w' = .ok (E.all (List.replicate m zx)).toArray w' := by
    intro w'
    rw [hall]
    split
    · rename_i h
      have : m = 0 := by
        have := tf.hs
        rcases Nat.mul_eq_zero.1 h with h | h
        · exact h
        · omega
      subst this
      simp
    · have hzv : (zeroValue e).run P w' = .ok z w' := by simp [zeroValue, typeInfo, hi, hz]
      simp only [Sem.run_bind, hzv, Result.andThen_ok, Sem.run_pure, hzc, zeroCells_eq]
  by_cases hr : n + m ≤ c
  · rcases hown.2 with ⟨rfl, hn, hc⟩ | ⟨g, t', cur, rfl, h2, h3, h4, h5, h6, h7⟩
    · have hm0 : m = 0 := by omega
      subst hm0; subst hn; subst hc
      refine ⟨none, 0, w, ?_, ⟨fun _ => False, ⟨by simpa using hown.1, .inl ⟨rfl, rfl, rfl⟩⟩, fun _ h => h.elim⟩, ⟨rfl, rfl, rfl, Nat.le_refl _, fun _ _ _ => rfl⟩⟩
      have hw0 : IntKind.i64.wrap 0 = 0 := by rfl
      simp [Builtin.append_, run_underlying tf.ht, run_underlying ht2, hszr, asInt, asIntOf, hti, hw0]
    · have hfit : n * zs.length + (E.all (List.replicate m zx)).length ≤ cur.size := by
        have := Nat.mul_le_mul_right zs.length hr
        rw [hE] at h5
        rw [hys, ← Nat.add_mul]; omega
      have hst := run_storeCells_rw P g (n * zs.length) t' (E.all (List.replicate m zx)) 0 cur w h2 (by simpa using hfit) (E.all_one _)
      simp only [Nat.add_zero] at hst
      have hadd : (⟨g, 0, none⟩ : Addr).add (n * zs.length) = ⟨g, n * zs.length, none⟩ := by unfold Addr.add; split <;> simp_all
      refine ⟨some ⟨g, 0, none⟩, c, w.setRow g (cur.toList.take (n * zs.length) ++ E.all (List.replicate m zx) ++ cur.toList.drop (n * zs.length + (E.all (List.replicate m zx)).length)).toArray, ?_, ⟨fun b => b = g, ⟨hlen, .inr ⟨g, t', _, rfl, h2.set (by simp only [List.size_toArray, List.length_append, List.length_take, List.length_drop, Array.length_toList]; omega), hr, h4, ?_, ?_, rfl⟩⟩, ?_⟩, grown_patch g _⟩
      · have ha := happ w
        simp only [Builtin.append_, List.getElem?_toArray, List.getElem?_cons_zero, List.getElem?_cons_succ, Sem.run_bind, run_underlying tf.ht, run_underlying ht2, Result.andThen_ok, hszr, Sem.run_pure, asInt, asIntOf, hwr, hneg, if_false, if_true, hti, h48a, Int.toNat_natCast, hr, Bool.not_true, Bool.false_eq_true, ha, hadd, hst]
      · simp only [List.size_toArray, List.length_append, List.length_take, List.length_drop, Array.length_toList]
        omega
      · rw [Enc.all_append, ← h6, hE]
        simp only [Nat.add_mul]
        rw [← hys]
        rw [List.take_append_of_le_length (by simp; omega)]
        rw [List.take_of_length_le (by simp; omega)]
      · intro b hb
        subst hb
        exact ⟨by simp [World.setRow]; exact h2.lt, .inl h7⟩
  · have hge := grownCap_ge w (n + m) c e
    have hcm : grownCap w (n + m) c e ≤ maxLen := grownCap_le_maxLen w (n + m) c e hml
    have hold : (Builtin.firstCells zs.length n (.slice A n c)).run P w.drew = .ok (E.all xs).toArray w.drew := by
      have h1 : (E.all xs).length = n * zs.length := by rw [Enc.all_length, hown.1, hE]
      have := (Src.slice (P := P) (sz := zs.length) (m := n) (c := c) (Ow.rd' hown) h1).cells n w.drew (Nat.le_refl _) rfl
      rwa [← h1, List.take_length] at this
    have hnb : Builtin.nextslicecap (n + m) c * i.bytes ≤ 281474976710656 := by rw [hby]; exact growslice_fits (by omega) hroom
    have h63 : ¬ (((n + m : Nat) : Int) > IntKind.i64.max) := by
      have : IntKind.i64.max = 9223372036854775807 := rfl
      rw [this]; omega
    have h48 : ¬ (Builtin.nextslicecap (n + m) c * i.bytes > 2 ^ 48) := by omega
    have ha := happ w.drew
    have hch : (choose (.appendCap (n + m) c e)).run P w = .ok (grownCap w (n + m) c e) w.drew := by simp [choose, Sem.run, Question.forced, grownCap]
    have htd : (typeInfo e).run P w.drew = .ok i w.drew := by simp [typeInfo, hi]
    have har : ∀ b w', (askRoom b).run P w' = .ok () w' := fun b w' => by unfold askRoom; split <;> rfl
    have hzd : (zeroValue e).run P w.drew = .ok z w.drew := by simp [zeroValue, typeInfo, hi, hz]
    refine ⟨some ⟨w.heap.size, 0, none⟩, grownCap w (n + m) c e, w.drew.alloc (.cells ((E.all xs).toArray ++ (E.all (List.replicate m zx)).toArray ++ Builtin.zeroCells z.cells (grownCap w (n + m) c e - (n + m))) e), ?_, ⟨fun b => b = w.heap.size, ⟨hlen, .inr ⟨w.heap.size, e, _, rfl, Rw.new w.drew _ _, hge, hcm, ?_, ?_, rfl⟩⟩, ?_⟩, ⟨rfl, rfl, rfl, by simp, fun k hk _ => heap_alloc_old w.drew _ hk⟩⟩
    · simp only [Builtin.append_, List.getElem?_toArray, List.getElem?_cons_zero, List.getElem?_cons_succ, Sem.run_bind, run_underlying tf.ht, run_underlying ht2, Result.andThen_ok, hszr, Sem.run_pure, asInt, asIntOf, hwr, hneg, if_false, if_true, hti, h48a, Int.toNat_natCast, hr, h63, false_and, h48, hch, htd, har, hold, Bool.not_true, Bool.false_eq_true, ha, hzd]
      rfl
    · simp only [Array.size_append, List.size_toArray, size_zeroCells, hzc, Enc.all_length, hown.1, List.length_replicate, ← Nat.add_mul, hE]
      exact Nat.mul_le_mul_right _ (by omega)
    · simp only [Array.toList_append, List.append_assoc]
      rw [← List.append_assoc, ← Enc.all_append]
      have : (E.all (xs ++ List.replicate m zx)).length = (n + m) * E.sz := by rw [Enc.all_length, hlen]
      rw [← this, List.take_left]
    · intro b hb
      subst hb
      exact ⟨by simp, .inr (Nat.le_refl _)⟩
end

section
variable {P : Program} {n : Nat} {ops : Array Oper} {L : St} {w w0 : World} {F O : Nat → Prop} {hs : List HP} {K : St → World → Prop}

/-- append onto a row of the call's own -/
theorem Op_append {dst : Option Nat} {x y : Operand} {t t2 ty : TypeId} {pos : String} {aft : Array Edge} {g : Option (Nat × Bool)} {e : TypeId} {zs : List Value} {bytes : Nat} (tf : TF P t e zs bytes)
    {E : Enc α} (ss : List Nat) (d : Nat) (i : Nat) {A : Option Addr} {n1 m c : Nat} {v : SV} {xs ys : List α}
    (hside : (gok ops ss L ⟨dst, .call ⟨.builtin .append, #[x, y], #[t, t2]⟩, ty, pos, aft, g⟩, dst, (decide (d < n)), (L.any fun p => p.1 == d), (toSS [x, y] (lk L)).map SV.vals, (match P.underlying t2 with | some (.slice _) => true | some .string => true | _ => false), E.sz) = (true, some d, true, false, some [.slice A n1 c, v.val], true, zs.length))
    (k : Cx F O w0 w hs) (hi : hs[i]? = some (Ow E A n1 c xs)) (hx : Src P zs.length w v.val m (E.all ys)) (hm : ys.length = m) (hroom : (n1 + m) * bytes ≤ 140737488355328)
    (hk : ∀ A' c' w', Cx F O w0 w' (hs.set i (Ow E A' (n1 + m) c' (xs ++ ys))) → K ((d, .v (.slice A' (n1 + m) c')) :: L) w') :
    Op1 P n ops L w ⟨dst, .call ⟨.builtin .append, #[x, y], #[t, t2]⟩, ty, pos, aft, g⟩ K := by
  simp only [Prod.mk.injEq, Option.map_eq_some_iff, decide_eq_true_eq] at hside
  obtain ⟨s1, rfl, s3, s4, ⟨svs, s5, s6⟩, s7, s8⟩ := hside
  refine WL_of (xs := [x, y]) (svs := svs) ss (d := d) (by simp [Side, s1, s3, s4, s5]) fun a ha he => ?_
  rw [s6] at he
  simp only [List.map_cons, List.map_nil, List.cons.injEq, and_true] at he
  obtain ⟨S, R, hS⟩ := k.get i hi
  obtain ⟨A', c', w', hrun, _, hgrow⟩ := run_append (P := P) tf (t2 := t2) s7 s8 (ty := ty) hS hx hm hroom
  unfold Oper.wp execOp
  simp only [resolve, invoke, builtin, Sem.run_bind, Sem.run_pure, Result.andThen_ok, List.map_toArray, List.map_cons, List.map_nil, he.1, he.2, hrun]
  refine ⟨.v (.slice A' (n1 + m) c'), rfl, hk A' c' w' ?_⟩
  refine k.upd1 i hi _ hgrow fun S R hS hlt => ?_
  obtain ⟨A2, c2, w2, hrun2, ⟨S', hS', hb⟩, _⟩ := run_append (P := P) tf (t2 := t2) s7 s8 (ty := ty) hS hx hm hroom
  rw [hrun] at hrun2
  simp only [Result.ok.injEq, Value.slice.injEq, true_and] at hrun2
  obtain ⟨⟨rfl, rfl⟩, rfl⟩ := hrun2
  refine ⟨fun g hg => ?_, S', fun _ => False, hS', hb, fun _ h => h⟩
  simp only [Option.map_eq_some_iff] at hg
  obtain ⟨a, rfl, rfl⟩ := hg
  rcases hS.2 with ⟨h, _⟩ | ⟨g, t', cur, h1, _, _, _, _, _, h7⟩
  · cases h
  · simp only [Option.some.injEq] at h1
    subst h1
    exact h7

/-- append of so many noughts -/
theorem Op_appendZ {dst : Option Nat} {x y : Operand} {t t2 ty : TypeId} {pos : String} {aft : Array Edge} {g : Option (Nat × Bool)} {e : TypeId} {zs : List Value} {bytes : Nat} (tf : TF P t e zs bytes)
    {E : Enc α} (zx : α) (ss : List Nat) (d : Nat) (i : Nat) {A : Option Addr} {n1 c : Nat} {ik kx : IntKind} (l : Int) {xs : List α}
    (hside : (gok ops ss L ⟨dst, .call ⟨.builtin .append, #[x, y], #[t, t2]⟩, ty, pos, aft, g⟩, dst, (decide (d < n)), (L.any fun p => p.1 == d), (toSS [x, y] (lk L)).map SV.vals, P.underlying t2) = (true, some d, true, false, some [.slice A n1 c, .int kx l], some (.int ik))) (hzx : E.f zx = zs)
    (k : Cx F O w0 w hs) (hi : hs[i]? = some (Ow E A n1 c xs)) (h0 : 0 ≤ l) (hroom : (n1 + l.toNat) * bytes ≤ 140737488355328)
    (hk : ∀ A' c' w', Cx F O w0 w' (hs.set i (Ow E A' (n1 + l.toNat) c' (xs ++ List.replicate l.toNat zx))) → K ((d, .v (.slice A' (n1 + l.toNat) c')) :: L) w') :
    Op1 P n ops L w ⟨dst, .call ⟨.builtin .append, #[x, y], #[t, t2]⟩, ty, pos, aft, g⟩ K := by
  simp only [Prod.mk.injEq, Option.map_eq_some_iff, decide_eq_true_eq] at hside
  obtain ⟨s1, rfl, s3, s4, ⟨svs, s5, s6⟩, s7⟩ := hside
  refine WL_of (xs := [x, y]) (svs := svs) ss (d := d) (by simp [Side, s1, s3, s4, s5]) fun a ha he => ?_
  rw [s6] at he
  simp only [List.map_cons, List.map_nil, List.cons.injEq, and_true] at he
  obtain ⟨S, R, hS⟩ := k.get i hi
  obtain ⟨A', c', w', hrun, _, hgrow⟩ := run_appendZ (P := P) tf (t2 := t2) s7 hzx (ty := ty) (kx := kx) hS h0 hroom
  unfold Oper.wp execOp
  simp only [resolve, invoke, builtin, Sem.run_bind, Sem.run_pure, Result.andThen_ok, List.map_toArray, List.map_cons, List.map_nil, he.1, he.2, hrun]
  refine ⟨.v (.slice A' (n1 + l.toNat) c'), rfl, hk A' c' w' ?_⟩
  refine k.upd1 i hi _ hgrow fun S R hS hlt => ?_
  obtain ⟨A2, c2, w2, hrun2, ⟨S', hS', hb⟩, _⟩ := run_appendZ (P := P) tf (t2 := t2) s7 hzx (ty := ty) (kx := kx) hS h0 hroom
  rw [hrun] at hrun2
  simp only [Result.ok.injEq, Value.slice.injEq, true_and] at hrun2
  obtain ⟨⟨rfl, rfl⟩, rfl⟩ := hrun2
  refine ⟨fun g hg => ?_, S', fun _ => False, hS', hb, fun _ h => h⟩
  simp only [Option.map_eq_some_iff] at hg
  obtain ⟨a, rfl, rfl⟩ := hg
  rcases hS.2 with ⟨h, _⟩ | ⟨g, t', cur, h1, _, _, _, _, _, h7⟩
  · cases h
  · simp only [Option.some.injEq] at h1
    subst h1
    exact h7

theorem Ow.new (w : World) (E : Enc α) (e : TypeId) (cs : List Value) (l c : Nat) (xs : List α) (hl : xs.length = l) (hlc : l ≤ c) (hm : c ≤ maxLen) (hc : c * E.sz ≤ cs.length) (hx : cs.take (l * E.sz) = E.all xs) : (Ow E (some ⟨w.heap.size, 0, none⟩) l c xs).p (w.alloc (.cells ⟨cs⟩ e)) (fun b => b = w.heap.size) (fun _ => False) :=
  ⟨hl, .inr ⟨w.heap.size, e, ⟨cs⟩, rfl, Rw.new w _ _, hlc, hm, by simpa using hc, by simpa using hx, rfl⟩⟩

/-- a slice written out -/
theorem Op_mk {dst : Option Nat} {t ty : TypeId} {len : Nat} {parts : Array (Nat × Operand)} {pos : String} {aft : Array Edge} {g : Option (Nat × Bool)} {e : TypeId} {zs : List Value} {bytes : Nat} (tf : TF P t e zs bytes)
    (E : Enc α) (ss : List Nat) (d : Nat) (xs : List α) (ps : List (Nat × SV)) (svs : List SV)
    (hside : (gok ops ss L ⟨dst, .buildSlice t len parts, ty, pos, aft, g⟩, dst, (decide (d < n)), (L.any fun p => p.1 == d), (toPS parts.toList (lk L)).map (·.map fun p => (p.1, p.2.val))) = (true, some d, true, false, some (ps.map fun p => (p.1, p.2.val))))
    (hf : (fillS (fun i => some (i * zs.length, zs.length)) ((List.replicate len zs).flatten.map kst1) ps, decide (len * zs.length ≤ 16777216), xs.length, E.sz) = (some svs, true, len, zs.length)) (hx : SV.cl svs = E.all xs)
    (k : Cx F O w0 w hs) (hk : ∀ A w', Cx F O w0 w' (hs ++ [Ow E A len len xs]) → K ((d, .v (.slice A len len)) :: L) w') :
    Op1 P n ops L w ⟨dst, .buildSlice t len parts, ty, pos, aft, g⟩ K := by
  simp only [Prod.mk.injEq, decide_eq_true_eq, Option.map_eq_some_iff] at hside hf
  obtain ⟨h1, rfl, h3, h4, ⟨ps', h5, h6⟩⟩ := hside
  obtain ⟨hf, hlen, hxl, hE⟩ := hf
  refine WL_of (xs := []) (svs := []) ss (d := d) (by simp [Side, h1, h3, h4, toSS]) fun a ha _ => ?_
  have hps := toPS_spec (fun o x hx => lk_spec ha hx) h5
  rw [h6] at hps
  obtain ⟨i, z, hi, hz, hzc, hsz, hby⟩ := tf.parts
  have hfill := fillS_spec (place := fun i => some (i * zs.length, zs.length)) ps _ _ hf
  rw [cl_kst1] at hfill
  have hszr : (sizeOf e).run P w = .ok zs.length w := by rw [← hsz]; exact run_cellsOf hi w
  have hrun : (Instr.buildSlice t len (parts.map fun (i, x) => (i, a.eval x))).run P w = .ok (.slice (some ⟨w.heap.size, 0, none⟩) len len) (w.alloc (.cells ⟨E.all xs⟩ e)) := by
    have e1 : (parts.map fun (i, x) => (i, a.eval x)).toList = ps.map fun p => (p.1, p.2.val) := by rw [← hps]; simp
    have hfl : Instr.fill (fun i => some (i * zs.length, zs.length)) ⟨(List.replicate len zs).flatten⟩ (parts.map fun (i, x) => (i, a.eval x)).toList = some ⟨E.all xs⟩ := by rw [e1, hfill, hx]
    simp only [Instr.buildSlice, Sem.run_bind, run_underlying tf.ht, Result.andThen_ok, hszr]
    rw [if_neg (by omega)]
    split
    · rename_i h0
      have hl0 : len = 0 := by
        have := tf.hs
        rcases Nat.mul_eq_zero.1 h0 with h | h
        · exact h
        · omega
      subst hl0
      have hnil : ∀ f : Nat → Value, (Array.range 0).map f = ⟨[]⟩ := fun f => by simp
      simp only [List.replicate_zero, List.flatten_nil] at hfl
      simp only [Sem.run_bind, Sem.run_pure, Result.andThen_ok, Nat.zero_mul, hnil, hfl]
      rfl
    · have hzv : (zeroValue e).run P w = .ok z w := by simp [zeroValue, typeInfo, hi, hz]
      simp only [Sem.run_bind, Sem.run_pure, Result.andThen_ok, hzv, hzc]
      have hr := zeros_rep zs len
      simp only [show (⟨zs⟩ : Array Value).size = zs.length from rfl, hr, hfl]
      rfl
  have hA := hk (some ⟨w.heap.size, 0, none⟩) _ (k.new (.cells ⟨E.all xs⟩ e) _ (Ow.new w E e _ len len xs hxl (Nat.le_refl _) (by
    unfold maxLen
    have := Nat.le_mul_of_pos_right len tf.hs
    omega) (by rw [Enc.all_length, hxl]; exact Nat.le_refl _) (by
    have : (E.all xs).length = len * E.sz := by rw [Enc.all_length, hxl]
    rw [← this, List.take_length])))
  unfold Oper.wp execOp
  simp only [Sem.run_bind, hrun, Result.andThen_ok, Sem.run_pure]
  exact ⟨.v (.slice (some ⟨w.heap.size, 0, none⟩) len len), rfl, hA⟩
end
end Go.Sx
