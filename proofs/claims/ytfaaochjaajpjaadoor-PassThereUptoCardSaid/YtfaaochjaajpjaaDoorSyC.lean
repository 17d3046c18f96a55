import Derived.Test.YtfaaochjaajpjaaDoorSyB
namespace Go.Sx
set_option linter.unusedSimpArgs false
set_option linter.unusedVariables false

/-- what is known behind a write to slot d -/
def put (L : List En) (d : Nat) (g : Option (Nat × Bool)) (x : SV) : List En :=
  { k := d, g, x } :: L.filter fun e => e.k != d && (match e.g with | some (k, _) => k != d | none => true)
def wipe (L : List En) (d : Nat) : List En := L.filter fun e => e.k != d && (match e.g with | some (k, _) => k != d | none => true)

/-- a frame of which the slots that were passed over are known, too -/
structure Fu (n : Nat) (a : Act) (L : List En) : Prop extends Fr n a L where
  un : ∀ e ∈ L, ∀ g w, e.g = some (g, w) → a.tmps[g]? ≠ some (.bool w) → a.tmps[e.k]? = some undef

theorem Fr.wipe {n : Nat} {a : Act} {L : List En} (h : Fr n a L) (d : Nat) (v : Value) : Fr n (a.put (some d) v) (wipe L d) := by
  refine ⟨by simpa [Act.put] using h.defers, by simpa [Act.put] using h.size, fun e he hg => ?_⟩
  simp only [Sx.wipe, List.mem_filter, Bool.and_eq_true, bne_iff_ne, ne_eq] at he
  obtain ⟨hm, hne, hgn⟩ := he
  simp only [Act.put]
  rw [Array.getElem?_setIfInBounds_ne (by omega)]
  refine h.at_ e hm fun g w hgw => ?_
  have := hg g w hgw
  rw [hgw] at hgn
  simp at hgn
  simp only [Act.put] at this
  rwa [Array.getElem?_setIfInBounds_ne (by omega)] at this

theorem Fr.put {n : Nat} {a : Act} {L : List En} {d : Nat} {g : Option (Nat × Bool)} {x : SV} {v : Value} (h : Fr n a L) (hd : d < n) (hgd : ∀ k w, g = some (k, w) → k ≠ d)
    (hv : (∀ k w, g = some (k, w) → a.tmps[k]? = some (.bool w)) → v = x.val) : Fr n (a.put (some d) v) (put L d g x) := by
  have h0 := h.wipe d v
  refine ⟨h0.defers, h0.size, fun e he hg => ?_⟩
  simp only [Sx.put, List.mem_cons] at he
  rcases he with rfl | he
  · have e1 : v = x.val := hv fun k w hk => by
      have := hg k w hk
      simp only [Act.put] at this
      rwa [Array.getElem?_setIfInBounds_ne (by have := hgd k w hk; omega)] at this
    have hs : d < a.tmps.size := by rw [h.size]; exact hd
    simp [Act.put, hs, e1]
  · exact h0.at_ e he hg

theorem Fu.put {n : Nat} {a : Act} {L : List En} {d : Nat} {g : Option (Nat × Bool)} {x : SV} {v : Value} (h : Fu n a L) (hd : d < n) (hgd : ∀ k w, g = some (k, w) → k ≠ d)
    (hv : (∀ k w, g = some (k, w) → a.tmps[k]? = some (.bool w)) → v = x.val) (hu : ∀ k w, g = some (k, w) → a.tmps[k]? ≠ some (.bool w) → v = undef) : Fu n (a.put (some d) v) (Sx.put L d g x) := by
  refine ⟨h.toFr.put hd hgd hv, fun e he k w hg hne => ?_⟩
  have hs : d < a.tmps.size := by rw [h.size]; exact hd
  simp only [Sx.put, List.mem_cons, List.mem_filter, Bool.and_eq_true, bne_iff_ne, ne_eq] at he
  rcases he with rfl | ⟨hm, hed, hgn⟩
  · have hkd := hgd k w hg
    simp only [Act.put] at hne ⊢
    rw [Array.getElem?_setIfInBounds_ne (by omega)] at hne
    simp [hs, hu k w hg hne]
  · rw [hg] at hgn
    simp at hgn
    simp only [Act.put] at hne ⊢
    rw [Array.getElem?_setIfInBounds_ne (by omega)] at hne ⊢
    exact h.un e hm k w hg hne

/-- only what is named is kept -/
def keeps (L' L : List En) : Prop := ∀ e ∈ L', e.g = none ∧ look L e.k = some { k := e.k, g := none, x := e.x }
theorem Fr.keep {n : Nat} {a : Act} {L L' : List En} (h : Fr n a L) (hk : keeps L' L) : Fr n a L' :=
  ⟨h.defers, h.size, fun e he hg => by
    obtain ⟨h1, h2⟩ := hk e he
    obtain ⟨hm, _⟩ := look_mem h2
    exact h.at_ { k := e.k, g := none, x := e.x } hm (fun _ _ hh => by cases hh)⟩

/-- the guard's slot -/
def gslot (ops : Array Oper) (o : Oper) : Option (Option (Nat × Bool)) :=
  match o.guard with
  | none => some none
  | some (j, w) => match (ops[j]?).bind (·.dst) with
    | some k => some (some (k, w))
    | none => none

theorem gslot_wanted {ops : Array Oper} {o : Oper} {g : Option (Nat × Bool)} {a : Act} (h : gslot ops o = some g) :
    (Region.wanted o (yielded ops a.tmps) = true ↔ ∀ k w, g = some (k, w) → a.tmps[k]? = some (.bool w)) := by
  unfold gslot at h
  unfold Region.wanted
  cases hg : o.guard with
  | none => rw [hg] at h; simp only [Option.some.injEq] at h; subst h; simp
  | some p =>
    obtain ⟨j, w⟩ := p
    rw [hg] at h
    simp only at h
    split at h
    · rename_i k hk
      simp only [Option.some.injEq] at h
      subst h
      simp only [Option.some.injEq, Prod.mk.injEq, yielded]
      rw [Option.bind_eq_some_iff] at hk
      obtain ⟨o', ho', hd⟩ := hk
      simp only [ho', Option.bind_some, hd]
      constructor
      · intro hh k' w' ⟨e1, e2⟩
        subst e1; subst e2
        revert hh
        cases ht : a.tmps[k]? with
        | none => simp
        | some v => cases v <;> simp
      · intro hh
        have := hh k w ⟨rfl, rfl⟩
        simp [this]
    · cases h

/-- the Bools that a guard asks, from within outwards -/
def gcl (L : List En) : Nat → Option (Nat × Bool) → Option (List (Bool × Bool))
  | _, none => some []
  | 0, some _ => none
  | n + 1, some (k, w) => match look L k with
    | some { g, x := .b c, .. } => (gcl L n g).map fun l => (c, w) :: l
    | _ => none

theorem gcl_spec {n : Nat} {a : Act} {L : List En} (hf : Fu n a L) : ∀ (m : Nat) (g : Option (Nat × Bool)) (l : List (Bool × Bool)), gcl L m g = some l → (∀ k w, g = some (k, w) → a.tmps[k]? = some (.bool w)) → ∀ p ∈ l, p.1 = p.2 := by
  intro m
  induction m with
  | zero =>
    intro g l h hg
    cases g with
    | none => simp only [gcl, Option.some.injEq] at h; subst h; simp
    | some p => simp [gcl] at h
  | succ m ih =>
    intro g l h hg
    cases g with
    | none => simp only [gcl, Option.some.injEq] at h; subst h; simp
    | some p =>
      obtain ⟨k, w⟩ := p
      simp only [gcl] at h
      split at h
      · rename_i k' g' c hl
        simp only [Option.map_eq_some_iff] at h
        obtain ⟨l', hl', rfl⟩ := h
        obtain ⟨hm, hk⟩ := look_mem hl
        simp only at hk
        subst hk
        have h1 := hg k' w rfl
        have h2 : ∀ k2 w2, g' = some (k2, w2) → a.tmps[k2]? = some (.bool w2) := by
          intro k2 w2 he
          apply Classical.byContradiction
          intro hne
          have := hf.un _ hm k2 w2 he hne
          simp only at this
          rw [h1] at this
          simp [undef] at this
        have h3 := hf.at_ _ hm h2
        simp only [SV.val] at h3
        rw [h1] at h3
        simp only [Option.some.injEq, Value.bool.injEq] at h3
        intro p hp
        simp only [List.mem_cons] at hp
        rcases hp with rfl | hp
        · exact h3.symm
        · exact ih _ _ hl' h2 p hp
      · cases h

def under : List (Bool × Bool) → Cond → Cond
  | [], p => p
  | (c, w) :: l, p => under l fun x => c = w → p x

theorem under_spec {w : World} : ∀ (l : List (Bool × Bool)) (p : Cond), under l p w → (∀ q ∈ l, q.1 = q.2) → p w
  | [], _, h, _ => h
  | (c, v) :: l, p, h, hl => under_spec l (fun x => c = v → p x) h (fun q hq => hl q (List.mem_cons_of_mem _ hq)) (hl (c, v) (List.mem_cons_self))

def gne : Option (Nat × Bool) → Nat → Bool
  | some (k, _), d => k != d
  | none, _ => true

/-- a guard whose slot is settled: is it wanted? -/
def settled (ss : List Nat) (L : List En) (g : Option (Nat × Bool)) : Option Bool :=
  match g with
  | none => none
  | some (k, w) => if ss.contains k then (match look L k with
    | some { g := none, x := .b c, .. } => some (c == w)
    | some { g := none, x := .tup [], .. } => some false
    | _ => none) else none

/-- an operand of a pick, known under one of two guards -/
def ev2 (L : List En) (g : Option (Nat × Bool)) (k : Nat) (w : Bool) : Operand → Option SV
  | .tmp t => match look L t with
    | some e => match e.g with
      | none => some e.x
      | some (a, x) => if a = k ∧ x = w then some e.x else (match g with
        | some (b, y) => if a = b ∧ x = y then some e.x else none
        | none => none)
    | none => none
  | .const v => some (kst v)
  | _ => none
theorem ev2_sound {n : Nat} {a : Act} {L : List En} {g : Option (Nat × Bool)} {k : Nat} {w : Bool} {o : Operand} {x : SV} (hf : Fr n a L) (hg : ∀ k w, g = some (k, w) → a.tmps[k]? = some (.bool w)) (hk : a.tmps[k]? = some (.bool w))
    (h : ev2 L g k w o = some x) : a.eval o = x.val := by
  cases o with
  | tmp t =>
    simp only [ev2] at h
    split at h
    · rename_i e he
      obtain ⟨hm, hk'⟩ := look_mem he
      have key : (∀ k w, e.g = some (k, w) → a.tmps[k]? = some (.bool w)) → e.x = x → a.eval (.tmp t) = x.val := by
        intro h1 h2
        have := hf.at_ e hm h1
        rw [hk', h2] at this
        simp [Act.eval, Array.getD_eq_getD_getElem?, this]
      split at h
      · rename_i h0
        injection h with h
        exact key (by rw [h0]; intro _ _ hh; cases hh) h
      · rename_i a' x' h0
        split at h
        · rename_i hh
          injection h with h
          obtain ⟨rfl, rfl⟩ := hh
          exact key (by rw [h0]; intro _ _ hh; simp only [Option.some.injEq, Prod.mk.injEq] at hh; obtain ⟨rfl, rfl⟩ := hh; exact hk) h
        · split at h
          · split at h
            · rename_i b y hh
              injection h with h
              obtain ⟨rfl, rfl⟩ := hh
              exact key (by rw [h0]; exact hg) h
            · cases h
          · cases h
    · cases h
  | const v => simp only [ev2, Option.some.injEq] at h; subst h; simp [Act.eval, kst_val]
  | global g => cases h
  | func f => cases h

/-- a pick between two Bools -/
def evPick (ss : List Nat) (L : List En) (g : Option (Nat × Bool)) : Op → Option SV
  | .pick (.tmp k) a b => if ss.contains k then (match ev L g (.tmp k) with
    | some (.b true) => ev2 L g k true a
    | some (.b false) => ev2 L g k false b
    | _ => none) else match ev L g (.tmp k), ev2 L g k true a, ev2 L g k false b with
    | some (.b c), some (.b x), some (.b y) => match a, b with
      | .const (.bool true), _ => some (.b (c || y))
      | _, .const (.bool false) => some (.b (c && x))
      | _, _ => some (.b (if c then x else y))
    | _, _, _ => none
  | _ => none
theorem evPick_sound {P : Program} {ss : List Nat} {n : Nat} {a : Act} {L : List En} {g : Option (Nat × Bool)} {o : Oper} {r : SV} {w : World} (hf : Fr n a L) (hg : ∀ k w, g = some (k, w) → a.tmps[k]? = some (.bool w)) (h : evPick ss L g o.op = some r) :
    (execOp a.eval o).run P w = .ok (.value r.val) w := by
  unfold evPick at h
  split at h
  · rename_i k x y hop
    have hkey : ∀ c, ev L g (.tmp k) = some (.b c) → a.tmps[k]? = some (.bool c) ∧ a.eval (.tmp k) = .bool c := by
      intro c hc
      have hcv := ev_sound hf hg hc
      refine ⟨?_, hcv⟩
      simp only [Act.eval, SV.val] at hcv
      rw [Array.getD_eq_getD_getElem?] at hcv
      cases ht : a.tmps[k]? with
      | none => simp [ht, undef] at hcv
      | some v => simp [ht] at hcv; rw [hcv]
    split at h
    · split at h
      · rename_i hc
        obtain ⟨h1, h2⟩ := hkey _ hc
        have h3 := ev2_sound hf hg h1 h
        unfold execOp
        rw [hop]
        simp [h2, asBool, h3]
      · rename_i hc
        obtain ⟨h1, h2⟩ := hkey _ hc
        have h3 := ev2_sound hf hg h1 h
        unfold execOp
        rw [hop]
        simp [h2, asBool, h3]
      · cases h
    split at h
    · rename_i c vx vy hc hx hy
      have hcv := ev_sound hf hg hc
      have hk : a.tmps[k]? = some (.bool c) := by
        simp only [Act.eval, SV.val] at hcv
        rw [Array.getD_eq_getD_getElem?] at hcv
        cases ht : a.tmps[k]? with
        | none => simp [ht, undef] at hcv
        | some v => simp [ht] at hcv; rw [hcv]
      have hrun : (execOp a.eval o).run P w = .ok (.value (.bool (if c then vx else vy))) w := by
        unfold execOp
        rw [hop]
        simp only [hcv, SV.val, asBool, Sem.run_bind, Sem.run_pure, Result.andThen_ok]
        cases c with
        | true =>
          have := ev2_sound hf hg hk hx
          simp [this, SV.val]
        | false =>
          have := ev2_sound hf hg hk hy
          simp [this, SV.val]
      rw [hrun]
      split at h
      · simp only [ev2, kst, kst1, Option.some.injEq, SV.b.injEq] at hx
        simp only [Option.some.injEq] at h
        subst h; subst hx
        cases c <;> simp [SV.val]
      · simp only [ev2, kst, kst1, Option.some.injEq, SV.b.injEq] at hy
        simp only [Option.some.injEq] at h
        subst h; subst hy
        cases c <;> simp [SV.val]
      · simp only [Option.some.injEq] at h
        subst h
        rfl
    · cases h
  · cases h

/-- an operation: a pick, or another one -/
def evA (P : Program) (ss : List Nat) (L : List En) (g : Option (Nat × Bool)) (os : List SV) (op : Op) : Option (SV × List Cond × List SV) :=
  match evPick ss L g op with
  | some r => some (r, [], os)
  | none => evOp P (ev L g) os op
theorem evA_sound {P : Program} {ss : List Nat} {n : Nat} {a : Act} {L : List En} {g : Option (Nat × Bool)} {os os' : List SV} {o : Oper} {r : SV} {cs : List Cond} {w : World} (hf : Fr n a L) (hg : ∀ k w, g = some (k, w) → a.tmps[k]? = some (.bool w))
    (h : evA P ss L g os o.op = some (r, cs, os')) (hc : ∀ c ∈ cs, c w) : (execOp a.eval o).run P w = .ok (.value r.val) w := by
  unfold evA at h
  split at h
  · rename_i r' hr
    simp only [Option.some.injEq, Prod.mk.injEq] at h
    obtain ⟨rfl, rfl, rfl⟩ := h
    exact evPick_sound hf hg hr
  · exact evOp_sound (f := ev L g) (os := os) (os' := os') (r := r) (cs := cs) (fun o x hx => ev_sound hf hg hx) h hc

/-- one operation -/
def ev1 (P : Program) (n : Nat) (ops : Array Oper) (ss : List Nat) (L : List En) (os : List SV) (o : Oper) : Option (List En × List Cond × List SV) :=
  match gslot ops o, o.dst with
  | some g, some d =>
    match settled ss L g with
    | some false => if d < n then some (put L d none (.tup []), [], os) else none
    | some true => if d < n then
        match evA P ss L none os o.op with
        | some (r, cs, os') => some (put L d none r, cs, os')
        | none => none
      else none
    | none => if d < n && gne g d then
        match gcl L 4 g, evA P ss L g os o.op with
        | some gc, some (r, cs, os') => some (put L d g r, cs.map (under gc), os')
        | _, _ => none
      else none
  | _, _ => none

theorem settled_spec {ss : List Nat} {n : Nat} {a : Act} {L : List En} {g : Option (Nat × Bool)} {b : Bool} (hf : Fu n a L) (h : settled ss L g = some b) :
    ∃ k w, g = some (k, w) ∧ (b = true → a.tmps[k]? = some (.bool w)) ∧ (b = false → a.tmps[k]? ≠ some (.bool w)) := by
  cases g with
  | none => simp [settled] at h
  | some p =>
    obtain ⟨k, w⟩ := p
    simp only [settled] at h
    split at h
    · split at h
      · rename_i k' c hl
        simp only [Option.some.injEq] at h
        obtain ⟨hm, hk⟩ := look_mem hl
        simp only at hk
        subst hk
        have h3 := hf.at_ _ hm (by intro _ _ hh; cases hh)
        simp only [SV.val] at h3
        refine ⟨k', w, rfl, fun hb => ?_, fun hb => ?_⟩
        · subst hb
          simp at h
          rw [h3, h]
        · subst hb
          simp at h
          rw [h3]
          simpa using h
      · rename_i k' hl
        simp only [Option.some.injEq] at h
        subst h
        obtain ⟨hm, hk⟩ := look_mem hl
        simp only at hk
        subst hk
        have h3 := hf.at_ _ hm (by intro _ _ hh; cases hh)
        simp only [SV.val] at h3
        refine ⟨k', w, rfl, fun hb => (by cases hb), fun hb => ?_⟩
        rw [h3]
        simp
      · cases h
    · cases h

theorem Fu.wipe {n : Nat} {a : Act} {L : List En} (h : Fu n a L) (d : Nat) (v : Value) : Fu n (a.put (some d) v) (wipe L d) := by
  refine ⟨h.toFr.wipe d v, fun e he k w hg hne => ?_⟩
  simp only [Sx.wipe, List.mem_filter, Bool.and_eq_true, bne_iff_ne, ne_eq] at he
  obtain ⟨hm, hed, hgn⟩ := he
  rw [hg] at hgn
  simp at hgn
  simp only [Act.put] at hne ⊢
  rw [Array.getElem?_setIfInBounds_ne (by omega)] at hne ⊢
  exact h.un e hm k w hg hne

theorem ev1_sound {P : Program} {n : Nat} {ops : Array Oper} {ss : List Nat} {L L' : List En} {os os' : List SV} {o : Oper} {cs : List Cond} {a : Act} (hf : Fu n a L)
    (h : ev1 P n ops ss L os o = some (L', cs, os')) :
    (Region.wanted o (yielded ops a.tmps) = true ∧ ∃ v, (∀ w, (∀ c ∈ cs, c w) → (execOp a.eval o).run P w = .ok (.value v) w) ∧ Fu n (a.put o.dst v) L') ∨
    (Region.wanted o (yielded ops a.tmps) = false ∧ Fu n (a.put o.dst undef) L') := by
  unfold ev1 at h
  split at h
  · rename_i g d hgs hd
    have hw := gslot_wanted (a := a) hgs
    split at h
    · rename_i hset
      split at h
      case isFalse => cases h
      rename_i hdn
      simp only [Option.some.injEq, Prod.mk.injEq] at h
      obtain ⟨rfl, rfl, rfl⟩ := h
      obtain ⟨k, w, rfl, _, h2⟩ := settled_spec hf hset
      refine .inr ⟨?_, by rw [hd]; exact hf.put hdn (by intro _ _ hh; cases hh) (fun _ => rfl) (by intro _ _ hh; cases hh)⟩
      cases hwant : Region.wanted o (yielded ops a.tmps) with
      | true => exact absurd (hw.1 hwant k w rfl) (h2 rfl)
      | false => rfl
    · rename_i hset
      obtain ⟨k, w, rfl, h1, _⟩ := settled_spec hf hset
      split at h
      · rename_i hdn
        split at h
        · rename_i r cs1 os1 he
          simp only [Option.some.injEq, Prod.mk.injEq] at h
          obtain ⟨rfl, rfl, rfl⟩ := h
          refine .inl ⟨hw.2 (fun k' w' hh => by simp only [Option.some.injEq, Prod.mk.injEq] at hh; obtain ⟨rfl, rfl⟩ := hh; exact h1 rfl), r.val, fun w hc => ?_, ?_⟩
          · exact evA_sound hf.toFr (by intro _ _ hh; cases hh) he hc
          · rw [hd]
            exact hf.put hdn (by intro _ _ hh; cases hh) (fun _ => rfl) (by intro _ _ hh; cases hh)
        · cases h
      · cases h
    · split at h
      · rename_i hcond
        simp only [Bool.and_eq_true, decide_eq_true_eq] at hcond
        obtain ⟨hdn, hgk⟩ := hcond
        split at h
        · rename_i gc r cs1 os1 hgc he
          simp only [Option.some.injEq, Prod.mk.injEq] at h
          obtain ⟨rfl, rfl, rfl⟩ := h
          have hkd : ∀ k w, g = some (k, w) → k ≠ d := by
            intro k w hh
            subst hh
            simpa [gne] using hgk
          cases hwant : Region.wanted o (yielded ops a.tmps) with
          | true =>
            have hg := hw.1 hwant
            refine .inl ⟨rfl, r.val, fun w hc => ?_, ?_⟩
            · refine evA_sound hf.toFr hg he fun c hcm => ?_
              exact under_spec gc c (hc _ (List.mem_map.2 ⟨c, hcm, rfl⟩)) (gcl_spec hf 4 g gc hgc hg)
            · rw [hd]
              exact hf.put hdn hkd (fun _ => rfl) fun k w hk hne => absurd (hg k w hk) hne
          | false =>
            refine .inr ⟨rfl, ?_⟩
            rw [hd]
            refine hf.put hdn hkd (fun hh => ?_) fun _ _ _ _ => rfl
            rw [hw.2 hh] at hwant
            cases hwant
        · cases h
      · cases h
  · cases h

/-- a stretch of operations -/
def evs (P : Program) (n : Nat) (ops : Array Oper) (ss : List Nat) : List Oper → List En → List SV → Option (List En × List Cond × List SV)
  | [], L, os => some (L, [], os)
  | o :: rest, L, os => match ev1 P n ops ss L os o with
    | some (L1, c1, os1) => match evs P n ops ss rest L1 os1 with
      | some (L2, c2, os2) => some (L2, c1 ++ c2, os2)
      | none => none
    | none => none

theorem evs_list {P : Program} {n : Nat} {ops : Array Oper} {ss : List Nat} {Q : Exit → Act → World → Prop} {rest : List Oper} {w : World} : ∀ (l : List Oper) (L L' : List En) (os os' : List SV) (cs : List Cond) (a : Act), Fu n a L →
    evs P n ops ss l L os = some (L', cs, os') → (∀ c ∈ cs, c w) → (∀ a', Fu n a' L' → wpList P ops Q rest a' w) → wpList P ops Q (l ++ rest) a w := by
  intro l
  induction l with
  | nil =>
    intro L L' os os' cs a hf h hc hk
    simp only [evs, Option.some.injEq, Prod.mk.injEq] at h
    obtain ⟨rfl, rfl, rfl⟩ := h
    exact hk a hf
  | cons o l ih =>
    intro L L' os os' cs a hf h hc hk
    simp only [evs] at h
    split at h
    · rename_i L1 c1 os1 h1
      split at h
      · rename_i L2 c2 os2 h2
        simp only [Option.some.injEq, Prod.mk.injEq] at h
        obtain ⟨rfl, rfl, rfl⟩ := h
        show wpList P ops Q (o :: (l ++ rest)) a w
        unfold wpList
        rcases ev1_sound hf h1 with ⟨hw, v, hr, hf'⟩ | ⟨hw, hf'⟩
        · rw [if_pos hw]
          refine .inl ?_
          unfold Oper.wp
          rw [hr w fun c hcm => hc c (List.mem_append_left _ hcm)]
          exact ih _ _ _ _ _ _ hf' h2 (fun c hcm => hc c (List.mem_append_right _ hcm)) hk
        · rw [if_neg (by simp [hw])]
          exact ih _ _ _ _ _ _ hf' h2 (fun c hcm => hc c (List.mem_append_right _ hcm)) hk
      · cases h
    · cases h

theorem evs_quiet {P : Program} {n : Nat} {ops : Array Oper} {ss : List Nat} {C : World → Prop} {Q : Act → Prop} : ∀ (l : List Oper) (L L' : List En) (os os' : List SV) (cs : List Cond) (a : Act), Fu n a L →
    evs P n ops ss l L os = some (L', cs, os') → (∀ w, C w → ∀ c ∈ cs, c w) → (∀ a', Fu n a' L' → Q a') → wpQuiet P ops C Q l a := by
  intro l
  induction l with
  | nil =>
    intro L L' os os' cs a hf h hc hk
    simp only [evs, Option.some.injEq, Prod.mk.injEq] at h
    obtain ⟨rfl, rfl, rfl⟩ := h
    exact hk a hf
  | cons o l ih =>
    intro L L' os os' cs a hf h hc hk
    simp only [evs] at h
    split at h
    · rename_i L1 c1 os1 h1
      split at h
      · rename_i L2 c2 os2 h2
        simp only [Option.some.injEq, Prod.mk.injEq] at h
        obtain ⟨rfl, rfl, rfl⟩ := h
        unfold wpQuiet
        rcases ev1_sound hf h1 with ⟨hw, v, hr, hf'⟩ | ⟨hw, hf'⟩
        · rw [if_pos hw]
          refine ⟨v, fun w hcw => ?_, ih _ _ _ _ _ _ hf' h2 (fun w hcw c hcm => hc w hcw c (List.mem_append_right _ hcm)) hk⟩
          unfold Oper.quietAt
          rw [hr w fun c hcm => hc w hcw c (List.mem_append_left _ hcm)]
          exact ⟨rfl, rfl⟩
        · rw [if_neg (by simp [hw])]
          exact ih _ _ _ _ _ _ hf' h2 (fun w hcw c hcm => hc w hcw c (List.mem_append_right _ hcm)) hk
      · cases h
    · cases h

/-! ### the judgements -/
abbrev St := List (Nat × SV)
def Kn (L : St) : List En := L.map fun p => { k := p.1, g := none, x := p.2 }
def W (P : Program) (n : Nat) (c : Code) (Q : Exit → Act → World → Prop) (L : St) (w : World) : Prop := ∀ a, Fu n a (Kn L) → c.wp P Q a w
def At (n : Nat) (q : Act → World → Prop) (L : St) (w : World) : Prop := ∀ a, Fu n a (Kn L) → q a w
def WL (P : Program) (n : Nat) (ops : Array Oper) (Q : Exit → Act → World → Prop) (l : List Oper) (L : St) (w : World) : Prop := ∀ a, Fu n a (Kn L) → wpList P ops Q l a w
def All : List Cond → World → Prop
  | [], _ => True
  | c :: cs, w => c w ∧ All cs w
theorem All_mem {cs : List Cond} {w : World} (h : All cs w) : ∀ c ∈ cs, c w := by
  induction cs with
  | nil => simp
  | cons c cs ih =>
    intro x hx
    simp only [List.mem_cons] at hx
    rcases hx with rfl | hx
    · exact h.1
    · exact ih h.2 x hx

/-- what a stretch of operations comes to: the slots that are named behind it, the conditions -/
def Seg (P : Program) (n : Nat) (ops : Array Oper) (ss : List Nat) (l : List Oper) (L : St) (os : List SV) (L' : St) (cs : List Cond) : Prop :=
  (evs P n ops ss l (Kn L) os).map (fun r => (L'.map fun e => (look r.1 e.1).map fun e => (e.g, e.x.val), r.2.1, r.2.2)) = some (L'.map fun p => some (none, p.2.val), cs, [])

theorem Seg.keep {P : Program} {n : Nat} {ops : Array Oper} {ss : List Nat} {l : List Oper} {L : St} {os : List SV} {L' : St} {cs : List Cond} (h : Seg P n ops ss l L os L' cs) :
    ∃ Lc, evs P n ops ss l (Kn L) os = some (Lc, cs, []) ∧ ∀ a, Fu n a Lc → Fu n a (Kn L') := by
  unfold Seg at h
  simp only [Option.map_eq_some_iff, Prod.mk.injEq] at h
  obtain ⟨⟨Lc, cs', os'⟩, he, h1, rfl, rfl⟩ := h
  refine ⟨Lc, he, fun a hf => ⟨⟨hf.defers, hf.size, fun e hm _ => ?_⟩, fun e hm g w hg => ?_⟩⟩
  · simp only [Kn, List.mem_map] at hm
    obtain ⟨p, hp, rfl⟩ := hm
    have := List.map_inj_left.1 h1 p hp
    simp only [Option.map_eq_some_iff, Prod.mk.injEq] at this
    obtain ⟨e, he, hg, hv⟩ := this
    obtain ⟨hm, hk⟩ := look_mem he
    have := hf.at_ _ hm (by rw [hg]; intro _ _ hh; cases hh)
    rw [hk, hv] at this
    exact this
  · simp only [Kn, List.mem_map] at hm
    obtain ⟨p, hp, rfl⟩ := hm
    cases hg

section
variable {P : Program} {n : Nat} {Q : Exit → Act → World → Prop} {L : St} {w : World}

theorem W_seq {x y : Code} (h : W P n x (Exit.then (y.wp P Q) Q) L w) : W P n (.seq x y) Q L w := fun a ha => wp_seq (h a ha)
theorem W_block {id : Nat} {c : Code} (h : W P n c (Exit.inBlock id Q) L w) : W P n (.block id c) Q L w := fun a ha => wp_block (h a ha)
theorem W_skip (h : At n (Q .normal) L w) : W P n .skip Q L w := fun a ha => wp_skip (h a ha)
theorem W_exit {id : Nat} (h : At n (Q (.exit id)) L w) : W P n (.exit id) Q L w := fun a ha => wp_exit (h a ha)
theorem W_ret (h : At n (Q .ret) L w) : W P n .ret Q L w := fun a ha => wp_ret (h a ha)
theorem go {q : Act → World → Prop} {y : Code} {Q' : Exit → Act → World → Prop} (hq : ∀ a w, y.wp P Q' a w → q a w) (h : W P n y Q' L w) : At n q L w := fun a ha => hq _ _ (h a ha)

theorem W_reg {id : Nat} {l : List Oper} (h : WL P n l.toArray Q l L w) : W P n (.region id l.toArray false) Q L w := fun a ha => wp_region_lit (h a ha)
theorem WL_nil {ops : Array Oper} (h : At n (Q .normal) L w) : WL P n ops Q [] L w := fun a ha => wpList_nil (h a ha)

/-- a stretch of quiet operations -/
theorem WL_seg {ops : Array Oper} {l : List Oper} (k : Nat) (ss : List Nat) (os : List SV) (L' : St) (cs : List Cond) (hs : (evs P n ops ss (l.take k) (Kn L) os).map (fun r => (L'.map fun e => (look r.1 e.1).map fun e => (e.g, e.x.val), r.2.1, r.2.2)) = some (L'.map fun p => some (none, p.2.val), cs, [])) (hc : All cs w) (h : WL P n ops Q (l.drop k) L' w) : WL P n ops Q l L w := by
  intro a ha
  obtain ⟨Lc, he, hk⟩ := Seg.keep hs
  have := evs_list (Q := Q) (rest := l.drop k) (w := w) (l.take k) (Kn L) Lc os [] cs a ha he (All_mem hc) (fun a' ha' => h a' (hk a' ha'))
  rwa [List.take_append_drop] at this
/-- a whole region of quiet operations, in the text's order -/
theorem W_quiet {id : Nat} {l : List Oper} (ss : List Nat) (os : List SV) (L' : St) (cs : List Cond) (hs : (evs P n l.toArray ss l (Kn L) os).map (fun r => (L'.map fun e => (look r.1 e.1).map fun e => (e.g, e.x.val), r.2.1, r.2.2)) = some (L'.map fun p => some (none, p.2.val), cs, [])) (hc : All cs w) (h : At n (Q .normal) L' w) : W P n (.region id l.toArray false) Q L w := by
  refine W_reg fun a ha => ?_
  obtain ⟨Lc, he, hk⟩ := Seg.keep hs
  have := evs_list (Q := Q) (rest := []) (w := w) l (Kn L) Lc os [] cs a ha he (All_mem hc) (fun a' ha' => wpList_nil (h a' (hk a' ha')))
  simpa using this
/-- a region of quiet operations that draws its order -/
theorem W_draw {id : Nat} {l : List Oper} (hm : P.follows .mixedOrders = true) (os : List SV) (L' : St) (cs : List Cond) (hB : Region.lexB .any l.toArray = true) (hs : (evs P n l.toArray [] l (Kn L) os).map (fun r => (L'.map fun e => (look r.1 e.1).map fun e => (e.g, e.x.val), r.2.1, r.2.2)) = some (L'.map fun p => some (none, p.2.val), cs, []))
    (hc : ∀ m, All cs (w.drewN m)) (h : ∀ m, At n (Q .normal) L' (w.drewN m)) : W P n (.region id l.toArray true) Q L w := by
  intro a ha
  obtain ⟨Lc, he, hk⟩ := Seg.keep hs
  refine wp_region_quiet_lit hm hB ?_
  refine evs_quiet (C := fun w' => ∃ n, w' = w.drewN n) l (Kn L) Lc os [] cs a ha he ?_ ?_
  · rintro w' ⟨m, rfl⟩
    exact All_mem (hc m)
  · rintro a' ha' w' ⟨m, rfl⟩
    exact h m a' (hk a' ha')

theorem Fu.of_at {a : Act} (h : Fu n a (Kn L)) {k : Nat} {x : SV} (hl : (k, x) ∈ L) : a.tmps[k]? = some x.val :=
  h.at_ { k, g := none, x } (List.mem_map.2 ⟨_, hl, rfl⟩) (by intro _ _ hh; cases hh)

def find (L : St) (k : Nat) : Option SV := (L.find? fun p => p.1 == k).map (·.2)
theorem find_mem {k : Nat} {x : SV} (h : find L k = some x) : (k, x) ∈ L := by
  unfold find at h
  simp only [Option.map_eq_some_iff] at h
  obtain ⟨⟨k', x'⟩, h1, rfl⟩ := h
  have := List.mem_of_find?_eq_some h1
  have h2 := List.find?_some h1
  simp at h2
  subst h2
  exact this

theorem Fu.of_val {a : Act} (h : Fu n a (Kn L)) {k : Nat} {x : Value} (hl : (find L k).map SV.val = some x) : a.tmps[k]? = some x := by
  simp only [Option.map_eq_some_iff] at hl
  obtain ⟨y, hy, rfl⟩ := hl
  exact h.of_at (find_mem hy)

theorem W_cond {k : Nat} {x y : Code} (c : Bool) (hf : find L k = some (.b c)) (h1 : c = true → W P n x Q L w) (h2 : c = false → W P n y Q L w) : W P n (.cond (.tmp k) x y) Q L w := by
  intro a ha
  have h := ha.of_at (find_mem hf)
  exact wp_cond_split (t := c) (by simp [Act.eval, Array.getD_eq_getD_getElem?, h, SV.val]) (fun hc => h1 hc a ha) (fun hc => h2 hc a ha)
theorem W_condp {k : Nat} {x y : Code} (p : Prop) [Decidable p] (hf : find L k = some (.b (decide p))) (h1 : p → W P n x Q L w) (h2 : ¬ p → W P n y Q L w) : W P n (.cond (.tmp k) x y) Q L w :=
  W_cond (decide p) hf (fun h => h1 (of_decide_eq_true h)) (fun h => h2 (of_decide_eq_false h))
theorem W_forget {c : Code} (L' : St) (hk : L'.map (fun p => (find L p.1).map SV.val) = L'.map (fun p => some p.2.val)) (h : W P n c Q L' w) : W P n c Q L w := by
  intro a ha
  refine h a ⟨⟨ha.defers, ha.size, fun e hm _ => ?_⟩, fun e hm g w hg => ?_⟩
  · simp only [Kn, List.mem_map] at hm
    obtain ⟨p, hp, rfl⟩ := hm
    exact ha.of_val (List.map_inj_left.1 hk p hp)
  · simp only [Kn, List.mem_map] at hm
    obtain ⟨p, hp, rfl⟩ := hm
    cases hg
theorem At_forget {q : Act → World → Prop} (L' : St) (hk : L'.map (fun p => (find L p.1).map SV.val) = L'.map (fun p => some p.2.val)) (h : At n q L' w) : At n q L w := by
  intro a ha
  refine h a ⟨⟨ha.defers, ha.size, fun e hm _ => ?_⟩, fun e hm g w hg => ?_⟩
  · simp only [Kn, List.mem_map] at hm
    obtain ⟨p, hp, rfl⟩ := hm
    exact ha.of_val (List.map_inj_left.1 hk p hp)
  · simp only [Kn, List.mem_map] at hm
    obtain ⟨p, hp, rfl⟩ := hm
    cases hg

/-- two ways meet again -/
theorem W_cut {x y : Code} (K : St → World → Prop) (h1 : W P n x (Exit.then (fun a w => ∃ L, Fu n a (Kn L) ∧ K L w) Q) L w) (h2 : ∀ L w, K L w → W P n y Q L w) : W P n (.seq x y) Q L w := by
  refine W_seq fun a ha => wp_mono (h1 a ha) ?_
  intro e a' w' hq
  cases e with
  | normal => obtain ⟨L', hf, hk⟩ := hq; exact h2 L' w' hk a' hf
  | _ => exact hq
theorem W_cutb {id : Nat} {c : Code} (K : St → World → Prop) (h1 : W P n c (Exit.inBlock id (Exit.then (fun a w => ∃ L, Fu n a (Kn L) ∧ K L w) Q)) L w) (h2 : ∀ L w, K L w → At n (Q .normal) L w) : W P n (.block id c) Q L w := by
  refine W_block fun a ha => wp_mono (h1 a ha) ?_
  intro e a' w' hq
  cases e with
  | normal => obtain ⟨L', hf, hk⟩ := hq; exact h2 L' w' hk a' hf
  | exit i =>
    simp only [Exit.inBlock] at hq ⊢
    split
    · rename_i hi
      rw [if_pos hi] at hq
      obtain ⟨L', hf, hk⟩ := hq
      exact h2 L' w' hk a' hf
    · rename_i hi
      rw [if_neg hi] at hq
      exact hq
  | _ => exact hq
theorem At_cut {K : St → World → Prop} (h : K L w) : At n (Exit.then (fun a w => ∃ L, Fu n a (Kn L) ∧ K L w) Q .normal) L w := fun _ ha => ⟨L, ha, h⟩
theorem At_tr {K : Act → World → Prop} (h : At n (Q .ret) L w) : At n (Exit.then K Q .ret) L w := fun a ha => h a ha
theorem At_ir {id : Nat} (h : At n (Q .ret) L w) : At n (Exit.inBlock id Q .ret) L w := fun a ha => h a ha
theorem At_te {K : Act → World → Prop} {i : Nat} (h : At n (Q (.exit i)) L w) : At n (Exit.then K Q (.exit i)) L w := fun a ha => h a ha
theorem At_ie {i : Nat} (h : At n (Q .normal) L w) : At n (Exit.inBlock i Q (.exit i)) L w := fun a ha => by simpa [Exit.inBlock] using h a ha
theorem At_ine {i j : Nat} (hij : i ≠ j) (h : At n (Q (.exit i)) L w) : At n (Exit.inBlock j Q (.exit i)) L w := fun a ha => by simpa [Exit.inBlock, hij] using h a ha
theorem At_in {id : Nat} (h : At n (Q .normal) L w) : At n (Exit.inBlock id Q .normal) L w := fun a ha => h a ha
theorem At_go {y : Code} (h : W P n y Q L w) : At n (Exit.then (y.wp P Q) Q .normal) L w := fun a ha => h a ha

/-- a guard is settled -/
theorem WL_split {ops : Array Oper} {l : List Oper} (k : Nat) (c : Bool) (L1 L2 : St) (hf : find L k = some (.b c)) (e1 : L1 = L.map fun p => if p.1 = k then (k, .b true) else p) (e2 : L2 = L.map fun p => if p.1 = k then (k, .b false) else p)
    (h1 : c = true → WL P n ops Q l L1 w) (h2 : c = false → WL P n ops Q l L2 w) : WL P n ops Q l L w := by
  intro a ha
  have h := ha.of_at (find_mem hf)
  have key : ∀ L', (L' = L.map fun p => if p.1 = k then (k, .b c) else p) → Fu n a (Kn L') := by
    intro L' e
    subst e
    refine ⟨⟨ha.defers, ha.size, fun e hm _ => ?_⟩, fun e hm g w hg => ?_⟩
    · simp only [Kn, List.mem_map] at hm
      obtain ⟨p, ⟨q, hq, rfl⟩, rfl⟩ := hm
      split
      · exact h
      · exact ha.of_at hq
    · simp only [Kn, List.mem_map] at hm
      obtain ⟨p, _, rfl⟩ := hm
      cases hg
  cases c with
  | true => exact h1 rfl a (key _ e1)
  | false => exact h2 rfl a (key _ e2)

/-! ### results -/
def resS (P : Program) (rs : List ResultVar) (L : St) (os : List SV) : Option (List SV × List Cond × List SV) :=
  match rs with
  | [] => some ([], [], os)
  | .tmp t :: rs => match find L t, resS P rs L os with
    | some x, some (xs, cs, os) => some (x :: xs, cs, os)
    | _, _ => none
  | .cell a t :: rs => match isAggB P t, find L a, os with
    | some false, some (.v (.pointer (some p))), r :: os => match resS P rs L os with
      | some (xs, cs, os) => some (r :: xs, (fun w => w.cell? p = some r.val) :: cs, os)
      | none => none
    | some true, some (.v (.pointer (some p))), .agg ys :: os => if szOf P t = some (SV.width ys) then (match resS P rs L os with
      | some (xs, cs, os) => some (.agg ys :: xs, (fun w => Rd w (some p) (SV.cl ys)) :: cs, os)
      | none => none) else none
    | _, _, _ => none
def resOf : List SV → SV
  | [x] => x
  | xs => .tup xs

def resF (a : Act) : ResultVar → Sem Value
  | .tmp t => pure (a.tmps.getD t undef)
  | .cell b t => do loadVar t (← asAddr (a.tmps.getD b undef))

theorem resS_sound {a : Act} (ha : Fu n a (Kn L)) : ∀ (rs : List ResultVar) (os os' : List SV) (xs : List SV) (cs : List Cond), resS P rs L os = some (xs, cs, os') → (∀ c ∈ cs, c w) →
    (rs.mapM (resF a)).run P w = .ok (SV.vals xs) w := by
  intro rs
  induction rs with
  | nil =>
    intro os os' xs cs h hc
    simp only [resS, Option.some.injEq, Prod.mk.injEq] at h
    obtain ⟨rfl, rfl, rfl⟩ := h
    rfl
  | cons r rs ih =>
    intro os os' xs cs h hc
    cases r with
    | tmp t =>
      simp only [resS] at h
      split at h
      · rename_i x xs1 cs1 os1 hx hr
        simp only [Option.some.injEq, Prod.mk.injEq] at h
        obtain ⟨rfl, rfl, rfl⟩ := h
        have h1 := ha.of_at (find_mem hx)
        simp only [List.mapM_cons, resF, Sem.run_bind, Sem.run_pure, Result.andThen_ok, ih _ _ _ _ hr hc, SV.vals]
        simp [Array.getD_eq_getD_getElem?, h1]
      · cases h
    | cell b t =>
      simp only [resS] at h
      split at h
      · rename_i p r1 os1 hag hx
        split at h
        · rename_i xs1 cs1 os2 hr
          simp only [Option.some.injEq, Prod.mk.injEq] at h
          obtain ⟨rfl, rfl, rfl⟩ := h
          have h1 := ha.of_at (find_mem hx)
          have h2 := hc _ (List.mem_cons_self)
          have h3 := ih _ _ _ _ hr (fun c hcm => hc c (List.mem_cons_of_mem _ hcm))
          simp only [List.mapM_cons, resF, Sem.run_bind, Array.getD_eq_getD_getElem?, h1, Option.getD_some, SV.val, asAddr, Sem.run_pure, Result.andThen_ok, loadVar, isAggB_run hag, Bool.false_eq_true, if_false]
          simp only [load, Sem.run, h2, Result.andThen_ok]
          simp only [h3, Result.andThen_ok, Sem.run_pure, SV.vals]
        · cases h
      · rename_i p ys os1 hag hx
        split at h
        · rename_i hsz
          split at h
          · rename_i xs1 cs1 os2 hr
            simp only [Option.some.injEq, Prod.mk.injEq] at h
            obtain ⟨rfl, rfl, rfl⟩ := h
            have h1 := ha.of_at (find_mem hx)
            have h2 := hc _ (List.mem_cons_self)
            have h3 := ih _ _ _ _ hr (fun c hcm => hc c (List.mem_cons_of_mem _ hcm))
            have hl := run_loadCells_list (P := P) (w := w) p (SV.cl ys) (fun j v hv => h2.2 p j v rfl hv)
            have hl2 : (SV.cl ys).length = SV.width ys := cl_length ys
            rw [hl2] at hl
            simp only [List.mapM_cons, resF, Sem.run_bind, Array.getD_eq_getD_getElem?, h1, Option.getD_some, SV.val, asAddr, Sem.run_pure, Result.andThen_ok, loadVar, isAggB_run hag, if_true, szOf_run hsz, hl, h3, SV.vals]
          · cases h
        · cases h
      · cases h

/-- the function returns -/
theorem At_ret {fn : Func} {R : Ending → World → Prop} (os : List SV) (xs : List SV) (cs : List Cond) (hr : resS P fn.results.toList L os = some (xs, cs, [])) (hc : All cs w) (h : R (.returned (resOf xs).val) w) :
    At n (bodyPost P fn R .ret) L w := by
  intro a ha
  refine ⟨ha.defers, (resOf xs).val, ?_, h⟩
  have h1 := resS_sound ha _ _ _ _ _ hr (All_mem hc)
  have h2 : (fn.results.mapM (resF a)).run P w = .ok (vals xs) w := by
    rw [Array.mapM_eq_mapM_toList, Sem.run_map, h1]
    rfl
  have h3 : results fn a.tmps = (do
      let vs ← fn.results.mapM (resF a)
      pure (if h : vs.size = 1 then vs[0] else .tuple vs)) := by
    unfold results
    congr 2
  rw [h3]
  simp only [Sem.run_bind, h2, Result.andThen_ok, Sem.run_pure]
  congr 1
  match xs with
  | [] => rfl
  | [x] => rfl
  | x :: y :: zs => rfl

/-- the function begins -/
def numbered : Nat → List SV → St
  | _, [] => []
  | k, x :: xs => (k, x) :: numbered (k + 1) xs

theorem Fu_enter (xs : List SV) (n : Nat) (hn : xs.length ≤ n) : Fu n { tmps := vals xs ++ Array.replicate (n - (vals xs).size) undef, defers := [] } (Kn (numbered 0 xs)) := by
  have hl : (SV.vals xs).length = xs.length := by rw [vals_eq]; simp
  have hs : (vals xs).size = xs.length := by simp [vals, hl]
  have key : ∀ (ys : List SV) (k : Nat) (p : Nat × SV), p ∈ numbered k ys → k ≤ p.1 ∧ ys[p.1 - k]? = some p.2 := by
    intro ys
    induction ys with
    | nil => intro k p hp; simp [numbered] at hp
    | cons y ys ih =>
      intro k p hp
      simp only [numbered, List.mem_cons] at hp
      rcases hp with rfl | hp
      · simp
      · obtain ⟨h1, h2⟩ := ih (k + 1) p hp
        refine ⟨by omega, ?_⟩
        rw [show p.1 - k = (p.1 - (k + 1)) + 1 from by omega]
        simpa using h2
  refine ⟨⟨rfl, ?_, fun e hm _ => ?_⟩, fun e hm g w hg => ?_⟩
  · simp [hs]; omega
  · simp only [Kn, List.mem_map] at hm
    obtain ⟨p, hp, rfl⟩ := hm
    obtain ⟨_, h2⟩ := key xs 0 p hp
    simp only [Nat.sub_zero] at h2
    have hlt : p.1 < xs.length := (List.getElem?_eq_some_iff.1 h2).1
    show (vals xs ++ _)[p.1]? = _
    rw [Array.getElem?_append_left (by rw [hs]; exact hlt)]
    simp only [vals, List.getElem?_toArray]
    rw [vals_eq]
    simp [h2]
  · simp only [Kn, List.mem_map] at hm
    obtain ⟨p, hp, rfl⟩ := hm
    cases hg

theorem calls {f : FuncId} {fn : Func} {c : Code} {R : Ending → World → Prop} (xs : List SV) (hf : P.funcs[f]? = some fn) (hb : fn.body = some c) (hn : xs.length ≤ fn.ntmps)
    (h : W P fn.ntmps c (bodyPost P fn R) (numbered 0 xs) w) : Calls P f (vals xs) w R :=
  calls_of_wp hf hb (h _ (Fu_enter xs fn.ntmps hn))
end

/-! ### loops -/
section
variable {σ ρ : Type}
def runK (step : σ → Option (σ ⊕ ρ)) : Nat → σ → Option ρ
  | 0, _ => none
  | k + 1, s => match step s with
    | some (.inl s') => runK step k s'
    | some (.inr r) => some r
    | none => none
theorem runK_mono (step : σ → Option (σ ⊕ ρ)) : ∀ (k : Nat) (s : σ) (r : ρ), runK step k s = some r → runK step (k + 1) s = some r := by
  intro k
  induction k with
  | zero => intro s r h; cases h
  | succ k ih =>
    intro s r h
    rw [runK] at h
    show (match step s with | some (.inl s') => runK step (k + 1) s' | some (.inr r) => some r | none => none) = some r
    cases hs : step s with
    | none => rw [hs] at h; cases h
    | some y =>
      rw [hs] at h
      cases y with
      | inl s' => exact ih _ _ h
      | inr r' => exact h
theorem runK_le (step : σ → Option (σ ⊕ ρ)) {k k' : Nat} (h : k ≤ k') {s : σ} {r : ρ} (hr : runK step k s = some r) : runK step k' s = some r := by
  obtain ⟨d, rfl⟩ := Nat.exists_eq_add_of_le h
  induction d with
  | zero => exact hr
  | succ d ih => exact runK_mono step _ s r (ih (by omega))

open Classical in
/-- the loop: what it hands over when it ends; nothing if it does not -/
noncomputable def whileO (step : σ → Option (σ ⊕ ρ)) (s : σ) : Option ρ :=
  if h : ∃ k r, runK step k s = some r then runK step (Classical.choose h) s else none

theorem whileO_some {step : σ → Option (σ ⊕ ρ)} {s : σ} {r : ρ} : whileO step s = some r ↔ ∃ k, runK step k s = some r := by
  unfold whileO
  split
  · rename_i h
    obtain ⟨r', hr'⟩ := Classical.choose_spec h
    constructor
    · intro hh; exact ⟨_, hh⟩
    · rintro ⟨k, hk⟩
      have e1 := runK_le step (Nat.le_max_left (Classical.choose h) k) hr'
      have e2 := runK_le step (Nat.le_max_right (Classical.choose h) k) hk
      rw [e1] at e2
      rw [hr']
      exact e2
  · rename_i h
    constructor
    · intro hh; cases hh
    · rintro ⟨k, hk⟩
      exact absurd ⟨k, r, hk⟩ h

theorem whileO_next {step : σ → Option (σ ⊕ ρ)} {s s' : σ} (h : step s = some (.inl s')) : whileO step s = whileO step s' := by
  have key : ∀ r, whileO step s = some r ↔ whileO step s' = some r := by
    intro r
    rw [whileO_some, whileO_some]
    constructor
    · rintro ⟨k, hk⟩
      cases k with
      | zero => cases hk
      | succ k => rw [runK, h] at hk; exact ⟨k, hk⟩
    · rintro ⟨k, hk⟩
      exact ⟨k + 1, by rw [runK, h]; exact hk⟩
  cases h1 : whileO step s with
  | some r => exact ((key r).1 h1).symm
  | none =>
    cases h2 : whileO step s' with
    | none => rfl
    | some r => rw [(key r).2 h2] at h1; cases h1
theorem whileO_done {step : σ → Option (σ ⊕ ρ)} {s : σ} {r : ρ} (h : step s = some (.inr r)) : whileO step s = some r :=
  whileO_some.2 ⟨1, by rw [runK, h]⟩

theorem least {p : Nat → Prop} (h : ∃ k, p k) : ∃ k, p k ∧ ∀ m, p m → k ≤ m := by
  obtain ⟨k, hk⟩ := h
  induction k using Nat.strongRecOn with
  | _ k ih =>
    by_cases hm : ∃ m, m < k ∧ p m
    · obtain ⟨m, hlt, hp⟩ := hm
      exact ih m hlt hp
    · exact ⟨k, hk, fun m hp => Nat.le_of_not_lt fun hlt => hm ⟨m, hlt, hp⟩⟩

open Classical in
theorem W_loop {P : Program} {n : Nat} {Q : Exit → Act → World → Prop} {L0 : St} {w0 : World} {c : Code} (step : σ → Option (σ ⊕ ρ)) (rel : σ → St → World → Prop) (s0 : σ) (r : ρ) (hm : whileO step s0 = some r) (h0 : rel s0 L0 w0)
    (hb : ∀ s L w y, rel s L w → step s = some y → (∀ r', y = .inr r' → r' = r) →
      W P n c (Exit.then (fun a w => ∃ s' L', y = .inl s' ∧ Fu n a (Kn L') ∧ rel s' L' w) Q) L w) : W P n (.loop c) Q L0 w0 := by
  intro a0 ha0
  obtain ⟨k0, hk0⟩ := whileO_some.1 hm
  let J : Nat → Act → World → Prop := fun k a w => ∃ s L, Fu n a (Kn L) ∧ rel s L w ∧ runK step k s = some r
  let μ : Act → World → Nat := fun a w => if h : ∃ k, J k a w then Classical.choose (least h) else 0
  refine wp_loop (fun a w => ∃ k, J k a w) μ ⟨k0, s0, L0, ha0, h0, hk0⟩ ?_
  intro a w hI
  have hμ : μ a w = Classical.choose (least hI) := dif_pos hI
  obtain ⟨s, L, hfu, hrel, hrun⟩ := (Classical.choose_spec (least hI)).1
  rw [← hμ] at hrun
  cases hk : μ a w with
  | zero => rw [hk] at hrun; cases hrun
  | succ k =>
    rw [hk, runK] at hrun
    cases hs : step s with
    | none => rw [hs] at hrun; cases hrun
    | some y =>
      rw [hs] at hrun
      have := hb s L w y hrel hs (by intro r' e; subst e; simpa using hrun) a hfu
      refine wp_mono this ?_
      intro e a' w' hq
      cases e with
      | normal =>
        obtain ⟨s', L', rfl, hfu', hrel'⟩ := hq
        simp only at hrun
        have hJ : J k a' w' := ⟨s', L', hfu', hrel', hrun⟩
        refine ⟨⟨k, hJ⟩, ?_⟩
        have hE : ∃ k, J k a' w' := ⟨k, hJ⟩
        have h1 : μ a' w' = Classical.choose (least hE) := dif_pos hE
        have h2 : Classical.choose (least hE) ≤ k := (Classical.choose_spec (least hE)).2 k hJ
        omega
      | _ => exact hq
theorem At_round {n : Nat} {Q : Exit → Act → World → Prop} {rel : σ → St → World → Prop} {y : σ ⊕ ρ} {L : St} {w : World} (s' : σ) (hy : y = .inl s') (h : rel s' L w) : At n (Exit.then (fun a w => ∃ s' L', y = .inl s' ∧ Fu n a (Kn L') ∧ rel s' L' w) Q .normal) L w :=
  fun _ ha => ⟨s', L, hy, ha, h⟩
end

end Go.Sx
