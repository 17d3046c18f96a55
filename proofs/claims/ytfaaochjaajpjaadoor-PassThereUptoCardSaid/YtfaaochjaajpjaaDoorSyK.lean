import Derived.Test.YtfaaochjaajpjaaDoorSyJ
namespace Go.Sx
open Go.RowKit
set_option linter.unusedSimpArgs false
set_option linter.unusedVariables false
variable {α β : Type}

section
variable {P : Program} {n : Nat} {ops : Array Oper} {L : St} {w w0 : World} {F O : Nat → Prop} {hs : List HP} {K : St → World → Prop}

theorem set_self {h : HP} {i : Nat} (hi : hs[i]? = some h) : hs.set i h = hs := by
  obtain ⟨hl, rfl⟩ := List.getElem?_eq_some_iff.1 hi
  exact List.set_getElem_self hl
/-! ### calls -/
theorem Op_callG {o : Oper} {f : FuncId} {xs : List Operand} {svs0 : List Value} (ss : List Nat) (d : Nat) (svs : List SV) {R : Ending → World → Prop}
    (hs : (gok ops ss L o, o.dst, (decide (d < n)), (L.any fun p => p.1 == d), (toSS xs (lk L)).map SV.vals) = (true, some d, true, false, some svs0))
    (hrun : ∀ a : Act, xs.map a.eval = svs0 → (execOp a.eval o).run P w = .ok (.enter f (vals svs)) w) (hc : Calls P f (vals svs) w R)
    (hk : ∀ e w', R e w' → ∃ x, e = .returned x.val ∧ K ((d, x) :: L) w') : Op1 P n ops L w o K := by
  simp only [Prod.mk.injEq, Option.map_eq_some_iff, decide_eq_true_eq] at hs
  obtain ⟨s1, s2, s3, s4, ⟨vs, s5, s6⟩⟩ := hs
  refine WL_of (xs := xs) (svs := vs) ss (d := d) (by simp [Side, s1, s2, s3, s4, s5]) fun a ha he => ?_
  rw [s6] at he
  unfold Oper.wp
  rw [hrun a he]
  refine hc.mono fun e w' hR => ?_
  obtain ⟨x, rfl, hx⟩ := hk e w' hR
  exact ⟨x, by rw [s2], hx⟩
/-- a function's name -/
theorem Op_call {dst : Option Nat} {f : FuncId} {xs : Array Operand} {ats : Array TypeId} {ty : TypeId} {pos : String} {aft : Array Edge} {g : Option (Nat × Bool)} (ss : List Nat) (d : Nat) (svs : List SV) {R : Ending → World → Prop} (hgo : IsGo P f)
    (hs : (gok ops ss L ⟨dst, .call ⟨.value (.func f), xs, ats⟩, ty, pos, aft, g⟩, dst, (decide (d < n)), (L.any fun p => p.1 == d), (toSS xs.toList (lk L)).map SV.vals) = (true, some d, true, false, some (SV.vals svs))) (hc : Calls P f (vals svs) w R)
    (hk : ∀ e w', R e w' → ∃ x, e = .returned x.val ∧ K ((d, x) :: L) w') :
    Op1 P n ops L w ⟨dst, .call ⟨.value (.func f), xs, ats⟩, ty, pos, aft, g⟩ K := by
  refine Op_callG ss d svs hs (fun a he => ?_) hc hk
  have hargs : (#[] ++ xs.map a.eval ++ #[] : Array Value) = vals svs := by
    apply Array.ext'
    simp [vals, ← he]
  show (callFunc f (#[] ++ xs.map a.eval ++ #[])).run P w = _
  rw [hargs]
  exact hgo.run _ w
/-- a function's value: what it holds goes behind -/
theorem Op_callv {dst : Option Nat} {f : FuncId} {c : Operand} {xs : Array Operand} {ats : Array TypeId} {ty : TypeId} {pos : String} {aft : Array Edge} {g : Option (Nat × Bool)} (ss : List Nat) (d : Nat) (first args cap : List SV) {R : Ending → World → Prop} (hgo : IsGo P f)
    (hs : (gok ops ss L ⟨dst, .call ⟨.value c, xs, ats⟩, ty, pos, aft, g⟩, dst, (decide (d < n)), (L.any fun p => p.1 == d), (toSS (c :: xs.toList) (lk L)).map SV.vals) = (true, some d, true, false, some (.func (.func f) ⟨SV.vals first⟩ ⟨SV.vals cap⟩ :: SV.vals args))) (hc : Calls P f (vals (first ++ args ++ cap)) w R)
    (hk : ∀ e w', R e w' → ∃ x, e = .returned x.val ∧ K ((d, x) :: L) w') :
    Op1 P n ops L w ⟨dst, .call ⟨.value c, xs, ats⟩, ty, pos, aft, g⟩ K := by
  refine Op_callG ss d (first ++ args ++ cap) hs (fun a he => ?_) hc hk
  simp only [List.map_cons, List.cons.injEq] at he
  have hargs : ((⟨SV.vals first⟩ : Array Value) ++ xs.map a.eval ++ ⟨SV.vals cap⟩ : Array Value) = vals (first ++ args ++ cap) := by
    apply Array.ext'
    simp [vals, vals_eq]
    exact he.2.trans (vals_eq args)
  unfold execOp
  simp only [resolve, he.1, Deferred.ofValue, invoke, Sem.run_bind, Sem.run_pure, Result.andThen_ok, hargs]
  exact hgo.run _ w
/-- a method of a value behind an interface -/
theorem Op_invoke {dst : Option Nat} {f : FuncId} {c : Operand} {name : String} {xs : Array Operand} {ats : Array TypeId} {ty : TypeId} {pos : String} {aft : Array Edge} {g : Option (Nat × Bool)} (ss : List Nat) (d : Nat) (t : TypeId) (recv : SV) (args : List SV) {R : Ending → World → Prop}
    (hinv : ∀ (v : Option Addr) (l : Array Value) (w : World), (callMethod (.iface t (.pointer v)) name l).run P w = .ok (.enter f (#[.pointer v] ++ l)) w) {v : Option Addr} (hv : recv.val = .pointer v)
    (hs : (gok ops ss L ⟨dst, .call ⟨.invoke c name, xs, ats⟩, ty, pos, aft, g⟩, dst, (decide (d < n)), (L.any fun p => p.1 == d), (toSS (c :: xs.toList) (lk L)).map SV.vals) = (true, some d, true, false, some (.iface t recv.val :: SV.vals args))) (hc : Calls P f (vals (recv :: args)) w R)
    (hk : ∀ e w', R e w' → ∃ x, e = .returned x.val ∧ K ((d, x) :: L) w') :
    Op1 P n ops L w ⟨dst, .call ⟨.invoke c name, xs, ats⟩, ty, pos, aft, g⟩ K := by
  refine Op_callG ss d (recv :: args) hs (fun a he => ?_) hc hk
  simp only [List.map_cons, List.cons.injEq] at he
  have hargs : (#[a.eval c] ++ xs.map a.eval : Array Value) = ⟨.iface t (.pointer v) :: SV.vals args⟩ := by
    apply Array.ext'
    simp [he.1, ← he.2, hv]
  have hr : vals (recv :: args) = ⟨.pointer v :: SV.vals args⟩ := by simp [vals, SV.vals, hv]
  unfold execOp
  simp only [resolve, Sem.run_bind, Sem.run_pure, Result.andThen_ok, hargs, hr, invoke]
  have e1 : (⟨.iface t (.pointer v) :: SV.vals args⟩ : Array Value)[0]? = some (.iface t (.pointer v)) := rfl
  have e2 : (⟨.iface t (.pointer v) :: SV.vals args⟩ : Array Value).extract 1 (⟨.iface t (.pointer v) :: SV.vals args⟩ : Array Value).size = ⟨SV.vals args⟩ := by
    apply Array.ext'
    simp
  simp only [e1, e2, hinv]
  congr 2
  apply Array.ext'
  simp

/-! ### what is handed over -/
theorem Ro.of_rest {E : Enc α} {A : Option Addr} {m c : Nat} {xs : List α} {F1 O1 : Nat → Prop} {rest : List HP} (hr : ∀ (i : Nat) (h : HP), rest[i]? = some h → ∃ S R, h.p w S R ∧ (∀ b, R b → O1 b) ∧ ∀ b, S b → ¬ F1 b) (i : Nat) (hi : rest[i]? = some (Ow E A m c xs)) : Ro F1 w A (E.all xs) := by
  obtain ⟨S, R, h, _, hS⟩ := hr i _ hi
  refine ⟨Ow.rd' h, fun _ a ha => ?_⟩
  rcases h.2 with ⟨h1, _⟩ | ⟨g, t, cur, h1, _, _, _, _, _, h7⟩
  · rw [h1] at ha; cases ha
  · rw [h1] at ha
    simp only [Option.some.injEq] at ha
    subst ha
    exact hS g h7
theorem Ro.of_bx {g : Nat} {t : TypeId} {ys : List SV} {F1 O1 : Nat → Prop} {rest : List HP} (hr : ∀ (i : Nat) (h : HP), rest[i]? = some h → ∃ S R, h.p w S R ∧ (∀ b, R b → O1 b) ∧ ∀ b, S b → ¬ F1 b) (i : Nat) (hi : rest[i]? = some (Bx t g ys)) : Ro F1 w (some ⟨g, 0, none⟩) (SV.cl ys) := by
  obtain ⟨S, R, h, _, hS⟩ := hr i _ hi
  refine ⟨⟨fun _ => ⟨_, rfl⟩, fun a j u ha hu => ?_⟩, fun _ a ha => ?_⟩
  · cases ha
    rw [add0, Nat.zero_add, h.1.cell j]
    simpa using hu
  · cases ha
    exact hS g h.2
theorem Ro.of_old {A : Option Addr} {cs : List Value} {F1 : Nat → Prop} (h : Ro F w0 A cs) (k : Cx F O w0 w hs) (hF : ∀ b, F1 b → F b ∨ w0.heap.size ≤ b) : Ro F1 w A cs := by
  refine ⟨h.cx k, fun hne a ha hf => ?_⟩
  rcases hF _ hf with h1 | h1
  · exact h.2 hne a ha h1
  · obtain ⟨v, l, rfl⟩ : ∃ v l, cs = v :: l := by
      cases cs with
      | nil => exact absurd rfl hne
      | cons v l => exact ⟨v, l, rfl⟩
    have := World.block_lt_of_cell? w0 _ (h.1.2 a 0 v ha rfl)
    rw [addr_add_block] at this
    omega
theorem Ro.vec {g : Nat} {ys : List SV} {off : Nat} {c : List Value} (h : Ro F w (some ⟨g, 0, none⟩) (SV.cl ys)) (hd : ((dropS off ys).bind List.head?).map (fun v => (v.isVec, v.val)) = some (true, .agg ⟨c⟩)) : Ro F w (some ⟨g, off, none⟩) c := by
  refine ⟨h.1.vec hd, fun hne a ha => ?_⟩
  cases ha
  refine h.2 (fun e => hne ?_) ⟨g, 0, none⟩ rfl
  simp only [Option.map_eq_some_iff, Option.bind_eq_some_iff, Prod.mk.injEq] at hd
  obtain ⟨v, ⟨l, hl, hh⟩, hv1, hv2⟩ := hd
  obtain ⟨e1, e2⟩ := dropS_spec _ _ _ hl
  rw [e] at e1
  cases l with
  | nil => cases hh
  | cons y l =>
    simp only [List.head?_cons, Option.some.injEq] at hh
    subst hh
    cases y with
    | vec n z =>
      simp only [SV.val, Value.agg.injEq, Array.mk.injEq] at hv2
      subst hv2
      rw [cl_vec] at e1
      simp only [List.drop_nil] at e1
      exact (List.append_eq_nil_iff.1 e1.symm).1
    | _ => cases hv1

/-! ### windows -/
/-- a row's window that stands for all of it -/
structure Fit (E : Enc α) (A : Option Addr) (m c : Nat) (G : Win) : Prop where
  pre : A.isSome = true → G.pre = [] ∧ m ≤ c ∧ c ≤ maxLen ∧ c * E.sz ≤ m * E.sz + G.post.length
  nil : A = none → c = 0
theorem Cx.openM {E : Enc α} {A : Option Addr} {m c : Nat} {xs : List α} (k : Cx F O w0 w hs) (i : Nat) (hi : hs[i]? = some (Ow E A m c xs)) : ∃ G, Fit E A m c G ∧ Cx F O w0 w (hs.set i (Mw E A m xs G)) := by
  obtain ⟨S0, R0, h0⟩ := k.get i hi
  rcases h0.2 with ⟨h1, h2, h3⟩ | ⟨g, t, cur, h1, h2, h3, h4, h5, h6, h7⟩
  · subst h1
    refine ⟨⟨0, 0, [], []⟩, ⟨fun h => (by cases h), fun _ => h3⟩, k.as i hi fun S R h => ⟨h.1, .inl ⟨rfl, h2⟩⟩⟩
  · subst h1
    have hlen : (E.all xs).length = m * E.sz := by rw [Enc.all_length, h0.1]
    refine ⟨⟨g, t, [], cur.toList.drop (m * E.sz)⟩, ⟨fun _ => ⟨rfl, h3, h4, by simp; omega⟩, fun h => (by cases h)⟩, k.as i hi fun S R h => ⟨h.1, .inr ⟨rfl, ?_, ?_⟩⟩⟩
    · simp only [List.nil_append]
      rw [← h6, List.take_append_drop]
      exact h2
    · rcases h.2 with ⟨h, _⟩ | ⟨g', t', cur', h1', _, _, _, _, _, h7'⟩
      · cases h
      · simp only [Option.some.injEq, Addr.mk.injEq, and_true] at h1'
        subst h1'
        exact h7'
theorem Cx.shutM {E : Enc α} {A : Option Addr} {m c : Nat} {xs : List α} {G : Win} (k : Cx F O w0 w hs) (hG : Fit E A m c G) (i : Nat) (hi : hs[i]? = some (Mw E A m xs G)) : Cx F O w0 w (hs.set i (Ow E A m c xs)) := by
  refine k.as i hi fun S R h => ⟨h.1, ?_⟩
  rcases h.2 with ⟨h1, h2⟩ | ⟨h1, h2, h3⟩
  · exact .inl ⟨h1, h2, hG.nil h1⟩
  · obtain ⟨e1, e2, e3, e4⟩ := hG.pre (by rw [h1]; rfl)
    have hlen : (E.all xs).length = m * E.sz := by rw [Enc.all_length, h.1]
    rw [e1] at h1 h2
    refine .inr ⟨G.g, G.t, _, h1, h2, e2, e3, ?_, ?_, h3⟩
    · simp only [List.nil_append, List.size_toArray, List.length_append]; omega
    · simp only [List.nil_append]
      rw [← hlen, List.take_left]
/-- an array's window -/
theorem Cx.openV {E : Enc α} {t : TypeId} {b : Nat} (pre post : List SV) {m : Nat} {x : Vec α m} (k : Cx F O w0 w hs) (i : Nat) (hi : hs[i]? = some (Bx t b (pre ++ .vec (m * E.sz) (E.vec x) :: post))) : Cx F O w0 w (hs.set i (Mw E (some ⟨b, SV.width pre, none⟩) m x.l ⟨b, t, SV.cl pre, SV.cl post⟩)) := by
  refine k.as i hi fun S R h => ⟨x.h, .inr ⟨by simp only [cl_length], ?_, h.2⟩⟩
  have := h.1
  rw [cl_app, cl_vec, ← List.append_assoc] at this
  exact this
theorem Cx.shutV {E : Enc α} {t : TypeId} {b : Nat} (pre post : List SV) {m : Nat} {xs : List α} (k : Cx F O w0 w hs) (i : Nat) (hi : hs[i]? = some (Mw E (some ⟨b, SV.width pre, none⟩) m xs ⟨b, t, SV.cl pre, SV.cl post⟩)) (x : Vec α m) (hx : x.l = xs) : Cx F O w0 w (hs.set i (Bx t b (pre ++ .vec (m * E.sz) (E.vec x) :: post))) := by
  subst hx
  refine k.as i hi fun S R h => ?_
  rcases h.2 with ⟨h1, h2⟩ | ⟨h1, h2, h3⟩
  · cases h1
  · refine ⟨?_, h3⟩
    rw [cl_app, cl_vec, ← List.append_assoc]
    exact h2

/-! ### bytes of a text -/
theorem markStringish_run {w : World} {g : Nat} {cur : Array Value} {t : TypeId} (h : w.heap[g]? = some (.cells cur t (0, 0))) : ∃ w', (markStringish ⟨g, 0, none⟩).run P w = .ok () w' ∧ Rw w' g cur t ∧ w.grownBy w' (some g) ∧ w'.heap.size = w.heap.size := by
  have hsh : w.shape? g = some (t, cur.size) := by simp [World.shape?, h]
  refine ⟨w.freeze { block := g, off := cur.size } 1, ?_, ⟨(cur.size, cur.size + 1), ?_, .inr (Nat.le_refl _)⟩, ⟨rfl, rfl, rfl, by simp [World.freeze], fun k hk hne => ?_⟩, by simp [World.freeze]⟩
  · simp [markStringish, shape, Sem.run, hsh, freeze]
  · simp [World.freeze, Array.getElem?_modify, h]
  · have : ¬ g = k := fun e => hne (by rw [e])
    simp [World.freeze, Array.getElem?_modify, this]
theorem Op_bytes {dst : Option Nat} {x : Operand} {src t ty : TypeId} {pos : String} {aft : Array Edge} {g : Option (Nat × Bool)} (ss : List Nat) (d : Nat) (s : List UInt8) {e : TypeId}
    (hside : (gok ops ss L ⟨dst, .convert src t x, ty, pos, aft, g⟩, dst, (decide (d < n)), (L.any fun p => p.1 == d), (toSS [x] (lk L)).map SV.vals, (match P.underlying src, P.underlying t with | some .string, some (.slice e') => (e', match P.underlying e' with | some (.int .u8) => true | _ => false) | _, _ => (0, false))) = (true, some d, true, false, some [.string ⟨⟨s⟩⟩], (e, true))) (hroom : s.length ≤ 140737488355328)
    (k : Cx F O w0 w hs) (hk : ∀ A c w', Cx F O w0 w' (hs ++ [Ow e8 A s.length c s]) → K ((d, .v (.slice A s.length c)) :: L) w') :
    Op1 P n ops L w ⟨dst, .convert src t x, ty, pos, aft, g⟩ K := by
  simp only [Prod.mk.injEq, Option.map_eq_some_iff, decide_eq_true_eq] at hside
  obtain ⟨s1, rfl, s3, s4, ⟨svs, s5, s6⟩, s7⟩ := hside
  have hty : P.underlying src = some .string ∧ P.underlying t = some (.slice e) ∧ P.underlying e = some (.int .u8) := by
    split at s7
    · rename_i e' h1 h2
      simp only [Prod.mk.injEq] at s7
      obtain ⟨rfl, h3⟩ := s7
      refine ⟨h1, h2, ?_⟩
      split at h3
      · assumption
      · cases h3
    · simp at s7
  refine WL_of (xs := [x]) (svs := svs) ss (d := d) (by simp [Side, s1, s3, s4, s5]) fun a ha he => ?_
  rw [s6] at he
  simp only [List.map_cons, List.map_nil, List.cons.injEq, and_true] at he
  obtain ⟨h1, h2, h3⟩ := hty
  have hml : s.length ≤ maxLen := by unfold maxLen; omega
  have hge := grownCap_ge w s.length 0 e
  have hcm := grownCap_le_maxLen w s.length 0 e hml
  obtain ⟨cur, hcur⟩ : ∃ cur : Array Value, cur = (⟨s.map bV⟩ : Array Value) ++ Array.replicate (grownCap w s.length 0 e - s.length) (.int .u8 0) := ⟨_, rfl⟩
  have hal : (w.drew.alloc (.cells cur e)).heap[w.heap.size]? = some (.cells cur e (0, 0)) := heap_alloc_new w.drew _
  obtain ⟨w', hm1, hm2, hm3, hm4⟩ := markStringish_run (P := P) hal
  have hrun : (execOp a.eval ⟨some d, .convert src t x, ty, pos, aft, g⟩).run P w = .ok (.value (.slice (some ⟨w.heap.size, 0, none⟩) s.length (grownCap w s.length 0 e))) w' := by
    unfold execOp
    simp only [he, convert, Sem.run_bind, run_underlying h1, run_underlying h2, run_underlying h3, Result.andThen_ok, Conv.stringToBytes]
    have e1 : (ByteArray.mk ⟨s⟩).size = s.length := rfl
    have e2 : ((ByteArray.mk ⟨s⟩).data.map fun b => Value.int .u8 b.toNat) = ⟨s.map bV⟩ := by simp; intro a _; rfl
    have e3 : (choose (.appendCap s.length 0 e)).run P w = .ok (grownCap w s.length 0 e) w.drew := by simp [choose, Sem.run, Question.forced, grownCap]
    have e4 : (newRow e cur).run P w.drew = .ok ⟨w.heap.size, 0, none⟩ (w.drew.alloc (.cells cur e)) := rfl
    simp only [e1, e2, e3, Result.andThen_ok, ← hcur, e4, hm1, Sem.run_bind, Sem.run_pure]
  have kk : Cx F O w0 w' (hs ++ [Ow e8 (some ⟨w.heap.size, 0, none⟩) s.length (grownCap w s.length 0 e) s]) := by
    refine k.call ⟨hm3.os, hm3.tape, hm3.output, by rw [hm4]; simp, fun b hb _ => ?_, fun _ h => h.elim, fun _ h => h.elim, fun b => b = w.heap.size, fun _ => False,
      ⟨_, _, fun _ => False, fun _ => False, (?_ : (Ow e8 (some ⟨w.heap.size, 0, none⟩) s.length (grownCap w s.length 0 e) s).p w' (fun b => b = w.heap.size) (fun _ => False)), ⟨fun _ h => h, fun _ h => h⟩, by simp, by simp, by simp, by simp⟩, fun b hb => .inr ?_, fun _ h => h.elim⟩
    · rw [hm3.block b (by simp; omega) (fun e => by simp at e; omega)]
      exact heap_alloc_old w.drew _ hb
    · refine ⟨rfl, .inr ⟨w.heap.size, e, cur, rfl, hm2, hge, hcm, ?_, ?_, rfl⟩⟩
      · subst hcur; simp [e8]; omega
      · rw [e8_all]
        subst hcur
        simp only [Array.toList_append, e8, Nat.mul_one]
        rw [List.take_append_of_le_length (by simp), List.take_of_length_le (by simp)]
    · subst hb
      exact ⟨Nat.le_refl _, by rw [hm4]; simp⟩
  unfold Oper.wp
  rw [hrun]
  exact ⟨.v (.slice (some ⟨w.heap.size, 0, none⟩) s.length (grownCap w s.length 0 e)), rfl, hk _ _ _ kk⟩

/-! ### copy into a row -/
theorem Op_ocp {dst : Option Nat} {x y : Operand} {t t2 ty : TypeId} {pos : String} {aft : Array Edge} {g : Option (Nat × Bool)} {e : TypeId} {zs : List Value} {bytes : Nat} (tf : TF P t e zs bytes) {E : Enc α} (ss : List Nat) (d i : Nat) {pa A : Option Addr} {lo dn dc m n1 c l' m' : Nat} {v : SV} {src xs : List α}
    (hside : (gok ops ss L ⟨dst, .call ⟨.builtin .copy, #[x, y], #[t, t2]⟩, ty, pos, aft, g⟩, dst, (decide (d < n)), (L.any fun p => p.1 == d), (toSS [x, y] (lk L)).map SV.vals, E.sz) = (true, some d, true, false, some [.slice pa dn dc, v.val], zs.length))
    (hp : pa = slA A l' m' E.sz) (hlo : l' = lo) (hmm : dn ≤ m' - l') (k : Cx F O w0 w hs) (hi : hs[i]? = some (Ow E A n1 c xs)) (hx : Src P zs.length w v.val m (E.all src)) (hm : src.length = m) (hl : lo + dn ≤ n1)
    (hk : ∀ w', Cx F O w0 w' (hs.set i (Ow E A n1 c (lcp xs lo dn src))) → K ((d, .i .i64 (min m dn : Nat)) :: L) w') :
    Op1 P n ops L w ⟨dst, .call ⟨.builtin .copy, #[x, y], #[t, t2]⟩, ty, pos, aft, g⟩ K := by
  subst hlo
  simp only [Prod.mk.injEq] at hside
  obtain ⟨s1, s2, s3, s4, s5, hE⟩ := hside
  have hxl := k.len i hi
  by_cases h0 : min dn src.length = 0
  · -- nothing is copied
    have hm0 : min m dn = 0 := by omega
    simp only [Prod.mk.injEq, Option.map_eq_some_iff, decide_eq_true_eq] at s3 s5
    subst s2
    obtain ⟨svs, s5, s6⟩ := s5
    refine WL_of (xs := [x, y]) (svs := svs) ss (d := d) (by simp [Side, s1, s3, s4, s5]) fun a ha he => ?_
    rw [s6] at he
    simp only [List.map_cons, List.map_nil, List.cons.injEq, and_true] at he
    obtain ⟨i', z, hi', hz, hzc, hsz, hby⟩ := tf.parts
    have hszr : (sizeOf e).run P w = .ok zs.length w := by rw [← hsz]; exact run_cellsOf hi' w
    have hc := hx.cells 0 w (Nat.zero_le _) rfl
    have hmin : Nat.min m dn = 0 := hm0
    have hrun : (Builtin.copy_ #[t, t2] ty #[.slice pa dn dc, v.val]).run P w = .ok (.int .i64 0) w := by
      cases hpa : pa <;>
      simp [Builtin.copy_, run_underlying tf.ht, hx.len, hszr, hmin, hc, storeCells, goInt]
    unfold Oper.wp execOp
    simp only [resolve, invoke, builtin, Sem.run_bind, Sem.run_pure, Result.andThen_ok, List.map_toArray, List.map_cons, List.map_nil, he.1, he.2, hrun]
    refine ⟨.i .i64 (min m dn : Nat), by rw [hm0]; rfl, hk _ ?_⟩
    rw [lcp_nil (by omega), set_self hi]
    exact k
  · -- there is a row
    have hA : A.isSome = true := by
      obtain ⟨S, R, h⟩ := k.get i hi
      rcases h.2 with ⟨_, h2, _⟩ | ⟨g, t, cur, h1, _⟩
      · omega
      · rw [h1]; rfl
    obtain ⟨b, bt, cur, rfl, hb, hsz⟩ := k.oat i hi hA
    have hpa : pa = some ⟨b, l' * E.sz, none⟩ := by
      rw [hp]
      unfold slA
      rw [if_neg (by omega)]
      simp [add0]
    have hle : l' * E.sz + dn * E.sz ≤ n1 * E.sz := by rw [← Nat.add_mul]; exact Nat.mul_le_mul_right _ hl
    have htk : (E.all src).take (min m dn * zs.length) = E.all (src.take dn) := by
      rw [← hE, Enc.all_take]
      congr 1
      rw [← hm, List.take_eq_take_iff]
      omega
    refine Op_copy0 tf ss d (by rw [s1, s2, s3, s4, s5]) hpa hb hx (E.all_one src) (by rw [← hE]; omega) ?_
    rw [htk]
    refine hk _ (k.oput i hi rfl hb (l' * E.sz) _ (lcp_length (by omega)) (lcp_all E (by omega)) ?_)
    rw [Enc.all_length]
    have : (src.take dn).length * E.sz ≤ dn * E.sz := Nat.mul_le_mul_right _ (by rw [List.length_take]; omega)
    omega
end

/-! ### math/bits.Add64 -/
structure IsAdd (P : Program) (f : FuncId) : Prop where
  ok : ∃ fn, P.funcs[f]? = some fn ∧ (fn.name == "runtime.NumGoroutine") = false ∧ fn.body.isNone = true ∧ Extern.findNext fn = none ∧ Extern.find fn = some add64Entry
def add64 (x y c : UInt64) : Option (UInt64 × UInt64) := if c.toNat ≤ 1 then some (UInt64.ofNat (x.toNat + y.toNat + c.toNat), UInt64.ofNat ((x.toNat + y.toNat + c.toNat) / 18446744073709551616)) else none
section
variable {P : Program} {n : Nat} {ops : Array Oper} {L : St} {w : World} {K : St → World → Prop}
theorem Op_add64 {dst : Option Nat} {f : FuncId} {xs : Array Operand} {ats : Array TypeId} {ty : TypeId} {pos : String} {aft : Array Edge} {g : Option (Nat × Bool)} (hadd : IsAdd P f) (ss : List Nat) (d : Nat) (x y c : UInt64) {r : UInt64 × UInt64}
    (hs : (gok ops ss L ⟨dst, .call ⟨.value (.func f), xs, ats⟩, ty, pos, aft, g⟩, dst, (decide (d < n)), (L.any fun p => p.1 == d), (toSS xs.toList (lk L)).map SV.vals) = (true, some d, true, false, some (SV.vals [.u64 x, .u64 y, .u64 c])))
    (hr : add64 x y c = some r) (hk : K ((d, .tup [.u64 r.1, .u64 r.2]) :: L) w) : Op1 P n ops L w ⟨dst, .call ⟨.value (.func f), xs, ats⟩, ty, pos, aft, g⟩ K := by
  simp only [Prod.mk.injEq, Option.map_eq_some_iff, decide_eq_true_eq] at hs
  obtain ⟨s1, s2, s3, s4, ⟨vs, s5, s6⟩⟩ := hs
  subst s2
  refine WL_of (xs := xs.toList) (svs := vs) ss (d := d) (by simp [Side, s1, s3, s4, s5]) fun a ha he => ?_
  rw [s6] at he
  unfold add64 at hr
  split at hr
  · rename_i hc
    simp only [Option.some.injEq] at hr
    subst hr
    have hargs : (#[] ++ xs.map a.eval ++ #[] : Array Value) = #[.int .u64 x.toNat, .int .u64 y.toNat, .int .u64 c.toNat] := by
      apply Array.ext'
      simpa [SV.vals, SV.val] using he
    obtain ⟨fn, h1, h2, h3, h4, h5⟩ := hadd.ok
    have hx := x.toNat_lt; have hy := y.toNat_lt; have hcc := c.toNat_lt
    have hrun : (execOp a.eval ⟨some d, .call ⟨.value (.func f), xs, ats⟩, ty, pos, aft, g⟩).run P w = .ok (.value (SV.tup [.u64 (UInt64.ofNat (x.toNat + y.toNat + c.toNat)), .u64 (UInt64.ofNat ((x.toNat + y.toNat + c.toNat) / 18446744073709551616))]).val) w := by
      show (callFunc f (#[] ++ xs.map a.eval ++ #[])).run P w = _
      rw [hargs, run_callFunc_extern h1 h2 h3 h4 h5, run_add64 x.toNat y.toNat c.toNat (by omega) (by omega) (by omega) (by omega)]
      have q1 : (UInt64.ofNat (x.toNat + y.toNat + c.toNat)).toNat = (x.toNat + y.toNat + c.toNat) % 18446744073709551616 := rfl
      have q2 : (UInt64.ofNat ((x.toNat + y.toNat + c.toNat) / 18446744073709551616)).toNat = ((x.toNat + y.toNat + c.toNat) / 18446744073709551616) % 18446744073709551616 := rfl
      have e1 : ((x.toNat : Int) + y.toNat + c.toNat) % 18446744073709551616 = ((UInt64.ofNat (x.toNat + y.toNat + c.toNat)).toNat : Int) := by rw [q1]; omega
      have e2 : ((x.toNat : Int) + y.toNat + c.toNat) / 18446744073709551616 = ((UInt64.ofNat ((x.toNat + y.toNat + c.toNat) / 18446744073709551616)).toNat : Int) := by
        rw [q2]
        simp only [Nat.reducePow] at hx hy
        omega
      rw [e1, e2]
      rfl
    unfold Oper.wp
    rw [hrun]
    exact ⟨_, rfl, hk⟩
  · cases hr
end
end Go.Sx
