import Derived.Test.YtfaaochjaajpjaaDoorSyA
import Derived.Laws.StructEq
namespace Go.Sx
set_option linter.unusedSimpArgs false
set_option linter.unusedVariables false

def ixA (p : Option Addr) (i : Int) (size : Nat) : Option Addr := p.map (·.add (i.toNat * size))
def fa (p : Option Addr) (off : Nat) : Option Addr := p.map (·.add off)
def slA (p : Option Addr) (l m size : Nat) : Option Addr := if m = l then p else p.map (·.add (l * size))
def bV (x : UInt8) : Value := .int .u8 x.toNat

/-- What lies from an address on: these cells. -/
def Rd (w : World) (p : Option Addr) (cs : List Value) : Prop :=
  (cs ≠ [] → ∃ a, p = some a) ∧ ∀ a j u, p = some a → cs[j]? = some u → w.cell? (a.add j) = some u

/-- an index -/
def toI : SV → Option Int
  | .u8 x => some x.toNat
  | .u16 x => some x.toNat
  | .u32 x => some x.toNat
  | .u64 x => some x.toNat
  | .i _ n => some n
  | _ => none
theorem toI_spec {x : SV} {n : Int} (h : toI x = some n) : ∃ k, x.val = .int k n := by
  cases x <;> simp only [toI, Option.some.injEq, reduceCtorEq] at h <;> subst h <;> exact ⟨_, rfl⟩

theorem run_cellsOf {P : Program} {t : TypeId} {i : TypeInfo} (h : P.info? t = some i) (w : World) : (sizeOf t).run P w = .ok i.size w := by
  simp [sizeOf, typeInfo, h]

/-- how many cells an element of this type takes -/
def szOf (P : Program) (t : TypeId) : Option Nat := (P.info? t).map (·.size)
theorem szOf_run {P : Program} {t : TypeId} {n : Nat} (h : szOf P t = some n) (w : World) : (sizeOf t).run P w = .ok n w := by
  unfold szOf at h
  cases hi : P.info? t with
  | none => simp [hi] at h
  | some i => simp [hi] at h; subst h; exact run_cellsOf hi w

/-! ### slicing -/
structure Sl where
  l : Nat
  h : Nat
  m : Nat
  cs : List Cond
def bnd (v : Int) (y : Nat) : List Cond := [fun _ => 0 ≤ v ∧ v ≤ y]
def slB (n cap : Nat) (lo hi mx : Option Int) : Sl :=
  let m := match mx with | some v => v.toNat | none => cap
  let h := match hi with | some v => v.toNat | none => n
  let l := match lo with | some v => v.toNat | none => 0
  { l, h, m, cs := (match mx with | some v => bnd v cap | none => []) ++ (match hi with | some v => bnd v m | none => []) ++ (match lo with | some v => bnd v h | none => []) }

theorem run_bound {P : Program} {w : World} {x : Value} {k : IntKind} {v : Int} {y : Nat} {code : BoundsCode} (hx : x = .int k v) (h : 0 ≤ v ∧ v ≤ y) : (Instr.sliceBound x y code).run P w = .ok v.toNat w := by
  subst hx
  simp [Instr.sliceBound, asIntOf, h]

def oI : Option SV → Option (Option Int)
  | none => some none
  | some x => (toI x).map some

theorem run_bounds {P : Program} {w : World} {isS : Bool} {n cap : Nat} {lo hi mx : Option SV} {lo' hi' mx' : Option Int} (h1 : oI lo = some lo') (h2 : oI hi = some hi') (h3 : oI mx = some mx') (h0 : mx.isSome → hi.isSome)
    (hc : ∀ c ∈ (slB n cap lo' hi' mx').cs, c w) :
    (Instr.sliceBounds isS n cap (lo.map SV.val) (hi.map SV.val) (mx.map SV.val)).run P w = .ok ((slB n cap lo' hi' mx').l, (slB n cap lo' hi' mx').h, (slB n cap lo' hi' mx').m) w := by
  have key : ∀ {o : Option SV} {o' : Option Int}, oI o = some o' → (o = none ∧ o' = none) ∨ ∃ x v k, o = some x ∧ o' = some v ∧ x.val = .int k v := by
    intro o o' h
    cases o with
    | none => simp [oI] at h; exact .inl ⟨rfl, h.symm⟩
    | some x =>
      simp only [oI, Option.map_eq_some_iff] at h
      obtain ⟨v, hv, rfl⟩ := h
      obtain ⟨k, hk⟩ := toI_spec hv
      exact .inr ⟨x, v, k, rfl, rfl, hk⟩
  unfold Instr.sliceBounds
  rcases key h3 with ⟨rfl, rfl⟩ | ⟨xm, vm, km, rfl, rfl, em⟩ <;> rcases key h2 with ⟨rfl, rfl⟩ | ⟨xh, vh, kh, rfl, rfl, eh⟩ <;> rcases key h1 with ⟨rfl, rfl⟩ | ⟨xl, vl, kl, rfl, rfl, el⟩
  all_goals (try (simp at h0; done))
  · simp [slB]
  · have e1 : 0 ≤ vl ∧ vl ≤ (n : Nat) := hc (fun _ => 0 ≤ vl ∧ vl ≤ (n : Nat)) (by simp [slB, bnd])
    simp [slB, run_bound el e1]
  · have e1 : 0 ≤ vh ∧ vh ≤ (cap : Nat) := hc (fun _ => 0 ≤ vh ∧ vh ≤ (cap : Nat)) (by simp [slB, bnd])
    simp [slB, run_bound eh e1]
  · have e1 : 0 ≤ vh ∧ vh ≤ (cap : Nat) := hc (fun _ => 0 ≤ vh ∧ vh ≤ (cap : Nat)) (List.mem_append_left _ (by simp [bnd]))
    have e2 : 0 ≤ vl ∧ vl ≤ (vh.toNat : Nat) := hc (fun _ => 0 ≤ vl ∧ vl ≤ (vh.toNat : Nat)) (List.mem_append_right _ (by simp [bnd]))
    simp only [slB, Option.map_none, Option.map_some, Sem.run_bind, Sem.run_pure, Result.andThen_ok, run_bound eh e1, run_bound el e2]
  · have e1 : 0 ≤ vm ∧ vm ≤ (cap : Nat) := hc (fun _ => 0 ≤ vm ∧ vm ≤ (cap : Nat)) (List.mem_append_left _ (List.mem_append_left _ (by simp [bnd])))
    have e2 : 0 ≤ vh ∧ vh ≤ (vm.toNat : Nat) := hc (fun _ => 0 ≤ vh ∧ vh ≤ (vm.toNat : Nat)) (List.mem_append_left _ (List.mem_append_right _ (by simp [bnd])))
    simp only [slB, Option.map_none, Option.map_some, Sem.run_bind, Sem.run_pure, Result.andThen_ok, run_bound em e1, run_bound eh e2]
  · have e1 : 0 ≤ vm ∧ vm ≤ (cap : Nat) := hc (fun _ => 0 ≤ vm ∧ vm ≤ (cap : Nat)) (List.mem_append_left _ (List.mem_append_left _ (by simp [bnd])))
    have e2 : 0 ≤ vh ∧ vh ≤ (vm.toNat : Nat) := hc (fun _ => 0 ≤ vh ∧ vh ≤ (vm.toNat : Nat)) (List.mem_append_left _ (List.mem_append_right _ (by simp [bnd])))
    have e3 : 0 ≤ vl ∧ vl ≤ (vh.toNat : Nat) := hc (fun _ => 0 ≤ vl ∧ vl ≤ (vh.toNat : Nat)) (List.mem_append_right _ (by simp [bnd]))
    simp only [slB, Option.map_none, Option.map_some, Sem.run_bind, Sem.run_pure, Result.andThen_ok, run_bound em e1, run_bound eh e2, run_bound el e3]

/-! ### struct values -/
def cellsS : SV → Option (List SV)
  | .agg xs => some xs
  | .vec n x => some [.vec n x]
  | .v (.agg _) => none
  | .tup _ => none
  | x => some [x]
theorem cellsS_spec {x : SV} {l : List SV} (h : cellsS x = some l) : x.val.cells = ⟨SV.cl l⟩ := by
  unfold cellsS at h
  split at h <;> simp only [Option.some.injEq, reduceCtorEq] at h <;> subst h
  · rfl
  · simp only [SV.val, SV.cl, Value.cells, List.append_nil]
  · rename_i h1 h2 h3 h4
    cases x <;> simp only [SV.val, SV.cl, Value.cells] <;> try rfl
    all_goals first
      | exact absurd rfl (h1 _)
      | exact absurd rfl (h2 _ _)
      | exact absurd rfl (h4 _)
      | skip
    rename_i v
    cases v <;> first | rfl | exact absurd rfl (h3 _)

def fillS (place : Nat → Option (Nat × Nat)) (cells : List SV) : List (Nat × SV) → Option (List SV)
  | [] => some cells
  | (i, v) :: rest =>
    match place i, cellsS v with
    | some (off, size), some l => match putS off size l cells with
      | some cells' => fillS place cells' rest
      | none => none
    | _, _ => none

theorem foldSet : ∀ (l : List Value) (off : Nat) (cells : List Value), off + l.length ≤ cells.length →
    (l.zipIdx).foldl (fun (cs : Array Value) (p : Value × Nat) => cs.setIfInBounds (off + p.2) p.1) ⟨cells⟩ = ⟨cells.take off ++ l ++ cells.drop (off + l.length)⟩ := by
  intro l
  induction l with
  | nil => intro off cells h; simp
  | cons x xs ih =>
    intro off cells h
    simp only [List.length_cons] at h
    have e := ih (off + 1) (cells.set off x) (by simp; omega)
    rw [List.zipIdx_cons, List.foldl_cons, List.zipIdx_succ, List.foldl_map]
    have e0 : (⟨cells⟩ : Array Value).setIfInBounds (off + (x, 0).2) (x, 0).1 = ⟨cells.set off x⟩ := by simp
    rw [e0]
    have e1 : (fun (cs : Array Value) (p : Value × Nat) => cs.setIfInBounds (off + (p.1, p.2 + 1).2) (p.1, p.2 + 1).1) = fun (cs : Array Value) (p : Value × Nat) => cs.setIfInBounds (off + 1 + p.2) p.1 := by
      funext cs p
      show cs.setIfInBounds (off + (p.2 + 1)) p.1 = _
      rw [show off + (p.2 + 1) = off + 1 + p.2 from by omega]
    rw [e1, e]
    congr 1
    have h2 : off < cells.length := by omega
    rw [List.take_set, List.take_succ_eq_append_getElem h2]
    rw [List.set_append_right _ _ (by simp; omega)]
    rw [List.drop_set_of_lt (by omega)]
    simp [Nat.min_eq_left (Nat.le_of_lt h2), Nat.add_assoc, Nat.add_comm 1]
theorem fillS_spec {place : Nat → Option (Nat × Nat)} (parts : List (Nat × SV)) : ∀ (cells r : List SV), fillS place cells parts = some r →
    Instr.fill place ⟨SV.cl cells⟩ (parts.map fun p => (p.1, p.2.val)) = some ⟨SV.cl r⟩ := by
  induction parts with
  | nil => intro cells r h; simp only [fillS, Option.some.injEq] at h; subst h; rfl
  | cons p rest ih =>
    intro cells r h
    obtain ⟨i, v⟩ := p
    simp only [fillS] at h
    split at h
    · rename_i off size l hp hl
      split at h
      · rename_i cells' hput
        obtain ⟨e1, e2, e3, e4⟩ := putS_spec hput
        have hv := cellsS_spec hl
        have hlen : (SV.cl l).length = size := by rw [cl_length]; exact e3
        have hlc : (SV.cl cells).length = SV.width cells := cl_length _
        simp only [List.map_cons, Instr.fill, hp, hv]
        rw [if_neg (by simp [hlen, hlc]; omega)]
        have := foldSet (SV.cl l) off (SV.cl cells) (by rw [hlen, hlc]; exact e4)
        have e : Array.foldl (fun cs (x : Value × Nat) => cs.setIfInBounds (off + x.2) x.1) (⟨SV.cl cells⟩ : Array Value) (Array.zipIdx ⟨SV.cl l⟩) = ⟨SV.cl cells'⟩ := by
          rw [e1, ← hlen, ← this]
          simp [Array.foldl_toList]
        exact (congrArg (fun z => Instr.fill place z _) e).trans (ih _ _ h)
      · cases h
    · cases h

/-! ### one quiet operation -/
def isAggB (P : Program) (t : TypeId) : Option Bool :=
  match P.underlying t with
  | some (.struct _) | some (.array _ _) => some true
  | some _ => some false
  | none => none
theorem isAggB_run {P : Program} {t : TypeId} {b : Bool} (h : isAggB P t = some b) (w : World) : (isAgg t).run P w = .ok b w := by
  unfold isAggB at h
  cases hu : P.underlying t with
  | none => simp [hu] at h
  | some d => cases d <;> simp [hu] at h <;> subst h <;> simp [isAgg, run_underlying hu]

/-- a part of a struct or array value -/
def partS (P : Program) (t : TypeId) (xs : List SV) (off : Nat) : Option SV :=
  match isAggB P t, szOf P t with
  | some true, some n => (partsS off n xs).map .agg
  | some false, _ => cellS off xs
  | _, _ => none
theorem partS_sound {P : Program} {w : World} {t : TypeId} {xs : List SV} {off : Nat} {r : SV} (h : partS P t xs off = some r) : (part t ⟨SV.cl xs⟩ off).run P w = .ok r.val w := by
  unfold partS at h
  split at h
  · rename_i n ha hs
    simp only [Option.map_eq_some_iff] at h
    obtain ⟨ys, hy, rfl⟩ := h
    obtain ⟨e1, e2, e3⟩ := partsS_spec hy
    simp only [part, Sem.run_bind, isAggB_run ha, szOf_run hs, Result.andThen_ok, if_true, Sem.run_pure, SV.val]
    congr 2
    rw [← e1]
    simp [List.drop_take]
  · rename_i ha
    have h' := (cellS_spec h).1
    simp only [part, Sem.run_bind, isAggB_run ha, Result.andThen_ok]
    simp [h']
  · cases h

def toSS : List Operand → (Operand → Option SV) → Option (List SV)
  | [], _ => some []
  | o :: os, f => match f o, toSS os f with
    | some x, some xs => some (x :: xs)
    | _, _ => none
theorem toSS_spec {os : List Operand} {f : Operand → Option SV} {ρ : Operand → Value} (hf : ∀ o x, f o = some x → ρ o = x.val) : ∀ {xs : List SV}, toSS os f = some xs → os.map ρ = SV.vals xs := by
  induction os with
  | nil => intro xs h; simp only [toSS, Option.some.injEq] at h; subst h; rfl
  | cons o os ih =>
    intro xs h
    simp only [toSS] at h
    split at h
    · rename_i x xs' hx hxs
      simp only [Option.some.injEq] at h
      subst h
      simp only [List.map_cons, SV.vals, hf _ _ hx, ih hxs]
    · cases h
def toPS : List (Nat × Operand) → (Operand → Option SV) → Option (List (Nat × SV))
  | [], _ => some []
  | (i, o) :: os, f => match f o, toPS os f with
    | some x, some xs => some ((i, x) :: xs)
    | _, _ => none
theorem toPS_spec {os : List (Nat × Operand)} {f : Operand → Option SV} {ρ : Operand → Value} (hf : ∀ o x, f o = some x → ρ o = x.val) : ∀ {xs : List (Nat × SV)}, toPS os f = some xs → os.map (fun p => (p.1, ρ p.2)) = xs.map (fun p => (p.1, p.2.val)) := by
  induction os with
  | nil => intro xs h; simp only [toPS, Option.some.injEq] at h; subst h; rfl
  | cons o os ih =>
    intro xs h
    obtain ⟨i, o⟩ := o
    simp only [toPS] at h
    split at h
    · rename_i x xs' hx hxs
      simp only [Option.some.injEq] at h
      subst h
      simp only [List.map_cons, hf _ _ hx, ih hxs]
    · cases h

/-- the zero value's cells -/
def zeroS (P : Program) (t : TypeId) : Option (List SV) :=
  match (P.info? t).bind (·.zero) with
  | some z => some (z.cells.toList.map kst1)
  | none => none
theorem zeroS_spec {P : Program} {t : TypeId} {l : List SV} (h : zeroS P t = some l) (w : World) : ∃ z, (zeroValue t).run P w = .ok z w ∧ z.cells = ⟨SV.cl l⟩ := by
  unfold zeroS at h
  split at h
  · rename_i z hz
    simp only [Option.some.injEq] at h
    subst h
    cases hi : P.info? t with
    | none => simp [hi] at hz
    | some i =>
      simp only [hi, Option.bind_some] at hz
      refine ⟨z, by simp [zeroValue, typeInfo, hi, hz], ?_⟩
      rw [cl_kst1]
  · cases h

def places (P : Program) (fs : List Field) : Option (List (Nat × Nat)) :=
  match fs with
  | [] => some []
  | f :: fs => match szOf P f.type, places P fs with
    | some n, some l => some ((f.offset, n) :: l)
    | _, _ => none
theorem places_run {P : Program} (w : World) : ∀ (fs : List Field) (l : List (Nat × Nat)), places P fs = some l → (fs.mapM fun f => (do pure (f.offset, ← sizeOf f.type) : Sem (Nat × Nat))).run P w = .ok l w := by
  intro fs
  induction fs with
  | nil => intro l h; simp only [places, Option.some.injEq] at h; subst h; rfl
  | cons f fs ih =>
    intro l h
    simp only [places] at h
    split at h
    · rename_i n l' hn hl
      simp only [Option.some.injEq] at h
      subst h
      simp only [List.mapM_cons, Sem.run_bind, szOf_run hn, Result.andThen_ok, Sem.run_pure, ih _ hl]
    · cases h

def buildS (P : Program) (t : TypeId) (ps : List (Nat × SV)) : Option SV :=
  match zeroS P t, P.underlying t with
  | some z, some (.struct fs) => match places P fs.toList with
    | some pl => (fillS (fun i => pl[i]?) z ps).map .agg
    | none => none
  | some z, some (.array _ e) => match szOf P e with
    | some n => (fillS (fun i => some (i * n, n)) z ps).map .agg
    | none => none
  | _, _ => none
theorem buildS_sound {P : Program} {w : World} {t : TypeId} {ps : List (Nat × SV)} {r : SV} (h : buildS P t ps = some r) : (Instr.build t ⟨ps.map fun p => (p.1, p.2.val)⟩).run P w = .ok r.val w := by
  unfold buildS at h
  split at h
  · rename_i z fs hz ht
    split at h
    · rename_i pl hpl
      simp only [Option.map_eq_some_iff] at h
      obtain ⟨l, hl, rfl⟩ := h
      obtain ⟨zv, hz1, hz2⟩ := zeroS_spec hz w
      have hp := places_run w _ _ hpl
      have hm : (fs.mapM fun f => (do pure (f.offset, ← sizeOf f.type) : Sem (Nat × Nat))).run P w = .ok pl.toArray w := by
        rw [Array.mapM_eq_mapM_toList, Sem.run_map, hp]
        rfl
      have hf := fillS_spec ps z l hl
      simp only [Instr.build, Sem.run_bind, hz1, Result.andThen_ok, run_underlying ht, hm, hz2]
      have e : (fun x : Nat => (pl.toArray)[x]?) = fun i => pl[i]? := by funext i; simp
      simp only [e, hf, Sem.run_pure, SV.val]
    · cases h
  · rename_i z n e hz ht
    split at h
    · rename_i sz hsz
      simp only [Option.map_eq_some_iff] at h
      obtain ⟨l, hl, rfl⟩ := h
      obtain ⟨zv, hz1, hz2⟩ := zeroS_spec hz w
      have hf := fillS_spec ps z l hl
      simp only [Instr.build, Sem.run_bind, hz1, Result.andThen_ok, run_underlying ht, szOf_run hsz, hz2]
      simp only [hf, Sem.run_pure, SV.val]
    · cases h
  · cases h

/-- bytes read as a string -/
theorem run_toString {P : Program} {w : World} {p : Option Addr} {n c : Nat} {xs : List UInt8} (h : Rd w p (xs.map bV)) (hn : xs.length = n) : (Conv.bytesToString (.slice p n c)).run P w = .ok (.string ⟨⟨xs⟩⟩) w := by
  cases p with
  | none =>
    have : xs = [] := by
      rcases xs with _ | ⟨x, xs⟩
      · rfl
      · obtain ⟨a, ha⟩ := h.1 (by simp); cases ha
    subst this
    rfl
  | some a =>
    have h1 := run_loadCells_list (P := P) (w := w) a (xs.map bV) (fun j v hv => h.2 a j v rfl hv)
    have this := run_bytesToString (P := P) w a n c (xs.map fun x => (x.toNat : Int)) (by
      rw [show n = (xs.map bV).length from by simp [hn], h1, List.map_map]
      rfl)
    rw [this]
    have e : ∀ (l : List UInt8) (b : ByteArray), ((l.map fun x => (x.toNat : Int))).foldl (fun r n => r.push (UInt8.ofNat n.toNat)) b = ⟨b.data ++ l.toArray⟩ := by
      intro l
      induction l with
      | nil => intro b; simp
      | cons x l ih => intro b; rw [List.map_cons, List.foldl_cons, ih]; simp [ByteArray.push]
    rw [e]
    simp

/-! ### equality of structs of plain fields -/
def eqCell (P : Program) (t : TypeId) (x y : SV) : Option Bool :=
  match P.underlying t, x, y with
  | some .bool, .b a, .b b => some (decide (a = b))
  | some (.int _), .i k a, .i k' b => if k = k' then some (decide (a = b)) else none
  | some (.int _), .u8 a, .u8 b => some (decide (a = b))
  | some (.int _), .u16 a, .u16 b => some (decide (a = b))
  | some (.int _), .u32 a, .u32 b => some (decide (a = b))
  | some (.int _), .u64 a, .u64 b => some (decide (a = b))
  | some .string, .s a, .s b => some (decide (a = b))
  | _, _, _ => none
theorem beq_of {a b : Int} {p : Prop} [Decidable p] (h : a = b ↔ p) : (a == b) = decide p := by
  by_cases hp : p
  · simp [hp, h.2 hp]
  · simp only [hp, decide_false, beq_eq_false_iff_ne, ne_eq]
    exact fun e => hp (h.1 e)
theorem eqCell_sound {P : Program} {w : World} {t : TypeId} {x y : SV} {r : Bool} (d : Nat) (h : eqCell P t x y = some r) : (Op.equalIn (d + 1) t x.val y.val).run P w = .ok r w := by
  unfold eqCell at h
  split at h
  · rename_i a b ht
    cases h
    simp only [SV.val]
    rw [run_equalIn_bool' w d t a b ht]
    congr 1
  · rename_i ht
    split at h
    · rename_i hk
      cases h
      subst hk
      simp only [SV.val]
      rw [run_equalIn_int w d t _ _ _ _ ht]
      congr 1
    · cases h
  · rename_i a b ht
    cases h
    simp only [SV.val]
    rw [run_equalIn_int w d t _ _ _ _ ht]
    congr 1
    exact beq_of (by rw [← UInt8.toNat_inj]; omega)
  · rename_i a b ht
    cases h
    simp only [SV.val]
    rw [run_equalIn_int w d t _ _ _ _ ht]
    congr 1
    exact beq_of (by rw [← UInt16.toNat_inj]; omega)
  · rename_i a b ht
    cases h
    simp only [SV.val]
    rw [run_equalIn_int w d t _ _ _ _ ht]
    congr 1
    exact beq_of (by rw [← UInt32.toNat_inj]; omega)
  · rename_i a b ht
    cases h
    simp only [SV.val]
    rw [run_equalIn_int w d t _ _ _ _ ht]
    congr 1
    exact beq_of (by rw [← UInt64.toNat_inj]; omega)
  · rename_i a b ht
    cases h
    simp only [SV.val]
    rw [run_equalIn_string w d t _ _ ht]
    congr 1
    rw [ByteArray.toList_eq, ByteArray.toList_eq]
    by_cases hab : a = b
    · simp [hab]
    · simp [hab]
  · cases h
def eqFs (P : Program) (xs ys : List SV) : List Field → Option Bool
  | [] => some true
  | f :: fs => if f.name = "_" then none else
    match partS P f.type xs f.offset, partS P f.type ys f.offset with
    | some a, some b => match eqCell P f.type a b, eqFs P xs ys fs with
      | some r, some r' => some (r && r')
      | _, _ => none
    | _, _ => none
theorem eqFs_sound {P : Program} {w : World} {xs ys : List SV} (d : Nat) : ∀ (fs : List Field) (r : Bool), eqFs P xs ys fs = some r → (Op.eqFields (d + 1) ⟨SV.cl xs⟩ ⟨SV.cl ys⟩ fs).run P w = .ok r w := by
  intro fs
  induction fs with
  | nil => intro r h; cases h; simp [Op.eqFields]
  | cons f fs ih =>
    intro r h
    unfold eqFs at h
    split at h
    · cases h
    · rename_i hn
      split at h
      · rename_i a b ha hb
        split at h
        · rename_i r1 r2 h1 h2
          cases h
          simp only [Op.eqFields, hn, ne_eq, not_false_eq_true, if_true, Sem.run_bind, partS_sound ha, partS_sound hb, eqCell_sound d h1, Result.andThen_ok]
          cases r1
          · simp
          · simpa using ih r2 h2
        · cases h
      · cases h
def eqS (P : Program) (op : BinOp) (t : TypeId) (xs ys : List SV) : Option SV :=
  match P.underlying t with
  | some (.struct fs) => if P.stoodInHeld t || P.eqGuardType P.depth t then none else
    match op with
    | .eql => (eqFs P xs ys fs.toList).map fun r => .b r
    | .neq => (eqFs P xs ys fs.toList).map fun r => .b (!r)
    | _ => none
  | _ => none
theorem eqS_sound {P : Program} {w : World} {op : BinOp} {t : TypeId} {xs ys : List SV} {r : SV} (h : eqS P op t xs ys = some r) (x y : Operand) :
    (eqGuard op t x y (SV.agg xs).val (SV.agg ys).val).run P w = .ok () w ∧ (binOp op t (SV.agg xs).val (SV.agg ys).val).run P w = .ok r.val w := by
  unfold eqS at h
  split at h
  · rename_i fs ht
    split at h
    · cases h
    · rename_i hs
      simp only [Bool.or_eq_true, not_or, Bool.not_eq_true] at hs
      have hf : P.fieldsOf t = fs := by simp [Program.fieldsOf, ht]
      have ht' : P.underlying t = some (.struct (P.fieldsOf t)) := by rw [hf]; exact ht
      split at h
      · simp only [Option.map_eq_some_iff] at h
        obtain ⟨b, hb, rfl⟩ := h
        refine ⟨run_eqGuard_agg w _ _ _ _ _ _ hs.2, ?_⟩
        simp only [SV.val]
        rw [run_eql_struct, run_equalIn_struct w 9999 t _ _ ht' hs.1, hf, eqFs_sound 9998 _ _ hb]
        rfl
      · simp only [Option.map_eq_some_iff] at h
        obtain ⟨b, hb, rfl⟩ := h
        refine ⟨run_eqGuard_agg w _ _ _ _ _ _ hs.2, ?_⟩
        simp only [SV.val]
        rw [run_neq_struct, run_equalIn_struct w 9999 t _ _ ht' hs.1, hf, eqFs_sound 9998 _ _ hb]
        rfl
      · cases h
  · cases h


/-- WHAT ONE QUIET OPERATION YIELDS: its value, the conditions, the oracles that are left. -/
def evOp (P : Program) (f : Operand → Option SV) (os : List SV) (op : Op) : Option (SV × List Cond × List SV) :=
  match op with
  | .move x | .assign x => (f x).map fun r => (r, [], os)
  | .binOp op t x y _ => match f x, f y with
    | some (.agg xs), some (.agg ys) => (eqS P op t xs ys).map fun r => (r, [], os)
    | some a, some b => (bin P op t a b).map fun r => (r.1, r.2, os)
    | _, _ => none
  | .unOp op _ x => match f x with
    | some a => (un op a).map fun r => (r, [], os)
    | none => none
  | .convert src dst x => match P.underlying src, P.underlying dst, f x with
    | some _, some (.int k), some a => (cvI k a).map fun r => (r, [], os)
    | some .string, some .string, some (.s a) => some (.s a, [], os)
    | some (.slice e), some .string, some (.v (.slice p n _)) => match P.underlying e, os with
      | some (.int .u8), .s xs :: os => some (.s xs, [fun w => Rd w p (xs.map bV) ∧ xs.length = n], os)
      | _, _ => none
    | _, _, _ => none
  | .extract x ix => match f x with
    | some (.tup xs) => (xs[ix]?).map fun r => (r, [], os)
    | _ => none
  | .call { callee := .builtin .len, args, argTypes } => match argTypes.toList, args.toList with
    | [t], [x] => match P.underlying t, f x with
      | some .string, some (.s a) => some (.i .i64 a.length, [], os)
      | some (.slice _), some (.v (.slice _ n _)) => some (.i .i64 n, [], os)
      | some (.array n _), some _ => some (.i .i64 n, [], os)
      | some (.pointer t'), some _ => match P.underlying t' with
        | some (.array n _) => some (.i .i64 n, [], os)
        | _ => none
      | _, _ => none
    | _, _ => none
  | .call { callee := .builtin .min, args, .. } => match args.toList with
    | [x, y] => match f x, f y with
      | some (.i k a), some (.i k' b) => if k = k' then some (.i k (if b < a then b else a), [], os) else none
      | some (.u64 a), some (.u64 b) => some (.u64 (umin a b), [], os)
      | _, _ => none
    | _ => none
  | .call { callee := .builtin .max, args, .. } => match args.toList with
    | [x, y] => match f x, f y with
      | some (.i k a), some (.i k' b) => if k = k' then some (.i k (if b > a then b else a), [], os) else none
      | _, _ => none
    | _ => none
  | .index t x ix => match P.underlying t, f x, (f ix).bind toI, os with
    | some .string, some (.s a), some i, .u8 b :: os => some (.u8 b, [fun _ => 0 ≤ i ∧ a[i.toNat]? = some b], os)
    | some (.array n e), some (.agg xs), some i, r :: os => match isAggB P e, szOf P e, r with
      | some false, some s, r => some (r, [fun _ => (0 ≤ i ∧ i < n) ∧ (SV.cl xs)[i.toNat * s]? = some r.val], os)
      | some true, some s, .agg ys => some (.agg ys, [fun _ => (0 ≤ i ∧ i < n) ∧ ((SV.cl xs).drop (i.toNat * s)).take s = SV.cl ys], os)
      | _, _, _ => none
    | _, _, _, _ => none
  | .indexAddr t x ix => match P.underlying t, f x, (f ix).bind toI with
    | some (.slice e), some (.v (.slice p n _)), some i => (szOf P e).map fun s => (.v (.pointer (ixA p i s)), [fun _ => 0 ≤ i ∧ i < n ∧ p.isSome = true], os)
    | some (.array n e), some (.v (.pointer p)), some i => if n ≤ 1 then none else (szOf P e).map fun s => (.v (.pointer (ixA p i s)), [fun _ => 0 ≤ i ∧ i < n ∧ p.isSome = true], os)
    | _, _, _ => none
  | .fieldAddr t x fd => match P.underlying t, f x with
    | some (.struct fs), some (.v (.pointer p)) => match fs[fd]? with
      | some fl => match szOf P fl.type with
        | some (_ + 1) => some (.v (.pointer (fa p fl.offset)), [fun _ => p.isSome = true], os)
        | _ => none
      | none => none
    | _, _ => none
  | .nilCheck x => match f x with
    | some (.v (.pointer p)) => some (.v (.pointer p), [fun _ => p.isSome = true], os)
    | some (.v (.iface d v)) => some (.v (.iface d v), [], os)
    | some (.v (.func (.func g) a b)) => some (.v (.func (.func g) a b), [], os)
    | _ => none
  | .load t x => match isAggB P t, f x, os with
    | some false, some (.v (.pointer p)), r :: os => some (r, [fun w => ∃ a, p = some a ∧ w.cell? a = some r.val], os)
    | some true, some (.v (.pointer p)), .agg xs :: os => if szOf P t = some (SV.width xs) then some (.agg xs, [fun w => ∃ a, p = some a ∧ Rd w (some a) (SV.cl xs)], os) else none
    | _, _, _ => none
  | .slice t x lo hi mx => match P.underlying t, f x, oO f lo, oO f hi, oO f mx with
    | some .string, some (.s a), some lo, some hi, some none => match os with
      | .s r :: os =>
        let b := slB a.length a.length lo hi none
        some (.s r, b.cs ++ ([fun _ => (a.take b.h).drop b.l = r] : List Cond), os)
      | _ => none
    | some (.slice e), some (.v (.slice p n c)), some lo, some hi, some mx => if mx.isSome && !hi.isSome then none else match szOf P e, os with
      | some s, .v r :: os =>
        let b := slB n c lo hi mx
        some (.v r, b.cs ++ ([fun _ => Value.slice (slA p b.l b.m s) (b.h - b.l) (b.m - b.l) = r] : List Cond), os)
      | _, _ => none
    | some (.array n e), some (.v (.pointer p)), some lo, some hi, some mx => if mx.isSome && !hi.isSome then none else match szOf P e, os with
      | some s, .v r :: os =>
        let b := slB n n lo hi mx
        some (.v r, b.cs ++ ([fun _ => p.isSome = true ∧ Value.slice (slA p b.l b.m s) (b.h - b.l) (b.m - b.l) = r] : List Cond), os)
      | _, _ => none
    | _, _, _, _, _ => none
  | .field t x fd => match P.underlying t, f x with
    | some (.struct fs), some (.agg xs) => match fs[fd]? with
      | some fl => (partS P fl.type xs fl.offset).map fun r => (r, [], os)
      | none => none
    | _, _ => none
  | .build t parts => match toPS parts.toList f with
    | some ps => (buildS P t ps).map fun r => (r, [], os)
    | none => none
  | .makeInterface t x => match P.underlying t, f x with
    | some (.interface _), _ => none
    | some _, some a => some (.v (.iface t a.val), [], os)
    | _, _ => none
  | .makeFunc fn first captured => match toSS first.toList f, toSS captured.toList f with
    | some xs, some ys => some (.v (.func fn ⟨SV.vals xs⟩ ⟨SV.vals ys⟩), [], os)
    | _, _ => none
  | _ => none
where
  oO (f : Operand → Option SV) : Option Operand → Option (Option Int)
    | none => some none
    | some x => match f x with
      | some a => (toI a).map some
      | none => none

theorem oO_spec {f : Operand → Option SV} {ρ : Operand → Value} (hf : ∀ o x, f o = some x → ρ o = x.val) {o : Option Operand} {r : Option Int} (h : evOp.oO f o = some r) : ∃ s : Option SV, oI s = some r ∧ o.map ρ = s.map SV.val ∧ s.isSome = r.isSome := by
  cases o with
  | none => simp only [evOp.oO, Option.some.injEq] at h; subst h; exact ⟨none, rfl, rfl, rfl⟩
  | some x =>
    simp only [evOp.oO] at h
    split at h
    · rename_i a ha
      refine ⟨some a, h, by simp [hf _ _ ha], ?_⟩
      simp only [Option.map_eq_some_iff] at h
      obtain ⟨z, _, rfl⟩ := h
      rfl
    · cases h


theorem eqGuard_plain {P : Program} {w : World} {op : BinOp} {t : TypeId} {x y : Operand} {a b : Value} (h1 : a ≠ .nilIface) (h2 : ∀ xs, a ≠ .agg xs) : (eqGuard op t x y a b).run P w = .ok () w := by
  cases a <;> first | exact absurd rfl h1 | exact absurd rfl (h2 _) | (cases op <;> rfl)

theorem bin_plain {P : Program} {op : BinOp} {t : TypeId} {a b r : SV} {cs : List Cond} (h : bin P op t a b = some (r, cs)) : a.val ≠ .nilIface ∧ ∀ xs, a.val ≠ .agg xs := by
  unfold bin at h
  split at h
  · split at h
    · split at h
      · rename_i r' hr
        unfold sh at hr
        split at hr <;> first | (constructor <;> simp [SV.val]; done) | cases hr
      · cases h
    · cases h
  · split at h <;> first | (constructor <;> simp [SV.val]; done) | skip
    simp only [Option.map_eq_some_iff] at h
    obtain ⟨r', h, _⟩ := h
    unfold eqB at h
    split at h <;> first | (constructor <;> simp [SV.val]; done) | cases h

theorem pure_v {P : Program} {w : World} {x : Sem Value} {v : Value} (h : x.run P w = .ok v w) : ((do pure (.value (← x))) : Sem Next).run P w = .ok (.value v) w := by
  simp [h]

theorem then_v {r : Result Value} {w : World} {v : Value} (h : r = .ok v w) : (r.andThen fun a w' => Result.ok (Next.value a) w') = .ok (.value v) w := by rw [h]; rfl

theorem evOp_sound {P : Program} {w : World} {f : Operand → Option SV} {ρ : Operand → Value} {os os' : List SV} {o : Oper} {r : SV} {cs : List Cond} (hf : ∀ o x, f o = some x → ρ o = x.val)
    (h : evOp P f os o.op = some (r, cs, os')) (hc : ∀ c ∈ cs, c w) : (execOp ρ o).run P w = .ok (.value r.val) w := by
  unfold execOp
  cases hop : o.op <;> rw [hop] at h <;> simp only [evOp, reduceCtorEq, Option.map_eq_some_iff, Prod.mk.injEq] at h ⊢
  case move x =>
    obtain ⟨a, ha, rfl, rfl, rfl⟩ := h
    simp [hf _ _ ha]
  case assign x =>
    obtain ⟨a, ha, rfl, rfl, rfl⟩ := h
    simp [hf _ _ ha]
  case binOp op t x y _ =>
    split at h
    · rename_i xs ys ha hb
      simp only [Option.map_eq_some_iff, Prod.mk.injEq] at h
      obtain ⟨r1, hr, rfl, rfl, rfl⟩ := h
      refine pure_v ?_
      rw [hf _ _ ha, hf _ _ hb]
      simp only [Sem.run_bind, (eqS_sound hr x y).1, Result.andThen_ok]
      exact (eqS_sound hr x y).2
    · rename_i a b _ ha hb
      simp only [Option.map_eq_some_iff, Prod.mk.injEq] at h
      obtain ⟨⟨r1, c1⟩, hr, rfl, rfl, rfl⟩ := h
      have hp := bin_plain hr
      refine pure_v ?_
      rw [hf _ _ ha, hf _ _ hb]
      simp only [Sem.run_bind, eqGuard_plain hp.1 hp.2, Result.andThen_ok]
      exact bin_sound hr hc
    · cases h
  case unOp op _ x =>
    split at h
    · rename_i a ha
      simp only [Option.map_eq_some_iff, Prod.mk.injEq] at h
      obtain ⟨r1, hr, rfl, rfl, rfl⟩ := h
      refine pure_v ?_
      rw [hf _ _ ha]
      exact un_sound hr
    · cases h
  case convert src dst x =>
    split at h
    · rename_i d k a hs hd ha
      simp only [Option.map_eq_some_iff, Prod.mk.injEq] at h
      obtain ⟨r1, hr, rfl, rfl, rfl⟩ := h
      refine pure_v ?_
      obtain ⟨k', n, hv, hr2⟩ := cvI_sound (P := P) (w := w) hr
      rw [hf _ _ ha, hv]
      simp only [convert, Sem.run_bind, run_underlying hs, run_underlying hd, Result.andThen_ok]
      exact hr2
    · rename_i a hs hd ha
      simp only [Option.some.injEq, Prod.mk.injEq] at h
      obtain ⟨rfl, rfl, rfl⟩ := h
      refine pure_v ?_
      rw [hf _ _ ha]
      simp only [convert, Sem.run_bind, run_underlying hs, run_underlying hd, Result.andThen_ok, SV.val, Sem.run_pure]
    · rename_i e p n c hs hd ha
      split at h
      · rename_i xs os1 he
        simp only [Option.some.injEq, Prod.mk.injEq] at h
        obtain ⟨rfl, rfl, rfl⟩ := h
        simp only [List.mem_singleton, forall_eq] at hc
        refine pure_v ?_
        rw [hf _ _ ha]
        simp only [convert, Sem.run_bind, run_underlying hs, run_underlying hd, run_underlying he, Result.andThen_ok, SV.val]
        exact run_toString hc.1 hc.2
      · cases h
    · cases h
  case extract x ix =>
    split at h
    · rename_i xs ha
      simp only [Option.map_eq_some_iff, Prod.mk.injEq] at h
      obtain ⟨r1, hr, rfl, rfl, rfl⟩ := h
      refine pure_v ?_
      rw [hf _ _ ha]
      have h' : (SV.vals xs)[ix]? = some r1.val := by rw [vals_eq]; simp [hr]
      simp [SV.val, Instr.extract, h']
    · cases h
  case build t parts =>
    split at h
    · rename_i ps hps
      simp only [Option.map_eq_some_iff, Prod.mk.injEq] at h
      obtain ⟨r1, hr, rfl, rfl, rfl⟩ := h
      refine pure_v ?_
      have e := toPS_spec hf hps
      have e2 : parts.map (fun x => (x.1, ρ x.2)) = ⟨ps.map fun p => (p.1, p.2.val)⟩ := by
        rw [← e]; simp [← Array.toList_map]
      have e3 : parts.map (fun | (i, x) => (i, ρ x)) = ⟨ps.map fun p => (p.1, p.2.val)⟩ := e2
      rw [e3]
      exact buildS_sound hr
    · cases h
  case load t x =>
    split at h
    · rename_i p r1 os1 ha hx
      simp only [Option.some.injEq, Prod.mk.injEq] at h
      obtain ⟨rfl, rfl, rfl⟩ := h
      simp only [List.mem_singleton, forall_eq] at hc
      obtain ⟨a, rfl, hc⟩ := hc
      refine pure_v ?_
      rw [hf _ _ hx]
      simp only [SV.val, Instr.loadAt, Instr.sureAddr, Sem.run_bind, Sem.run_pure, Result.andThen_ok, loadVar, isAggB_run ha, Bool.false_eq_true, if_false]
      simp [load, Sem.run, hc]
    · rename_i p xs os1 ha hx
      split at h
      · rename_i hsz
        simp only [Option.some.injEq, Prod.mk.injEq] at h
        obtain ⟨rfl, rfl, rfl⟩ := h
        simp only [List.mem_singleton, forall_eq] at hc
        obtain ⟨a, rfl, hc⟩ := hc
        refine pure_v ?_
        rw [hf _ _ hx]
        have hl := run_loadCells_list (P := P) (w := w) a (SV.cl xs) (fun j v hv => hc.2 a j v rfl hv)
        have hl2 : (SV.cl xs).length = SV.width xs := cl_length xs
        rw [hl2] at hl
        simp only [SV.val, Instr.loadAt, Instr.sureAddr, Sem.run_bind, Sem.run_pure, Result.andThen_ok, loadVar, isAggB_run ha, if_true, szOf_run hsz, hl]
      · cases h
    · cases h
  case nilCheck x =>
    split at h
    · rename_i p hx
      simp only [Option.some.injEq, Prod.mk.injEq] at h
      obtain ⟨rfl, rfl, rfl⟩ := h
      simp only [List.mem_singleton, forall_eq] at hc
      obtain ⟨a, rfl⟩ := Option.isSome_iff_exists.1 hc
      rw [hf _ _ hx]
      rfl
    · rename_i d v hx
      simp only [Option.some.injEq, Prod.mk.injEq] at h
      obtain ⟨rfl, rfl, rfl⟩ := h
      rw [hf _ _ hx]
      rfl
    · rename_i g a b hx
      simp only [Option.some.injEq, Prod.mk.injEq] at h
      obtain ⟨rfl, rfl, rfl⟩ := h
      rw [hf _ _ hx]
      rfl
    · cases h
  case makeInterface t x =>
    split at h
    · cases h
    · rename_i d a hne ht hx
      simp only [Option.some.injEq, Prod.mk.injEq] at h
      obtain ⟨rfl, rfl, rfl⟩ := h
      refine pure_v ?_
      rw [hf _ _ hx]
      simp only [Instr.makeInterface, Sem.run_bind, run_underlying ht, Result.andThen_ok]
      cases d <;> first | rfl | exact absurd ht (hne _)
    · cases h
  case makeFunc fn first captured =>
    split at h
    · rename_i xs ys h1 h2
      simp only [Option.some.injEq, Prod.mk.injEq] at h
      obtain ⟨rfl, rfl, rfl⟩ := h
      refine pure_v ?_
      have e1 : first.map ρ = ⟨SV.vals xs⟩ := by rw [← toSS_spec hf h1]; simp [← Array.toList_map]
      have e2 : captured.map ρ = ⟨SV.vals ys⟩ := by rw [← toSS_spec hf h2]; simp [← Array.toList_map]
      rw [e1, e2]
      rfl
    · cases h
  case field t x fd =>
    split at h
    · rename_i fs xs ht hx
      split at h
      · rename_i fl hfl
        simp only [Option.map_eq_some_iff, Prod.mk.injEq] at h
        obtain ⟨r1, hr, rfl, rfl, rfl⟩ := h
        refine pure_v ?_
        rw [hf _ _ hx]
        simp only [Instr.field, Sem.run_bind, run_underlying ht, Result.andThen_ok, hfl, SV.val, asAgg, Sem.run_pure]
        exact partS_sound hr
      · cases h
    · cases h
  case fieldAddr t x fd =>
    split at h
    · rename_i fs p ht hx
      split at h
      · rename_i fl hfl
        split at h
        · rename_i n hn
          simp only [Option.some.injEq, Prod.mk.injEq] at h
          obtain ⟨rfl, rfl, rfl⟩ := h
          simp only [List.mem_singleton, forall_eq] at hc
          obtain ⟨a, rfl⟩ := Option.isSome_iff_exists.1 hc
          refine pure_v ?_
          rw [hf _ _ hx]
          simp only [Instr.fieldAt, Sem.run_bind, run_underlying ht, Result.andThen_ok, hfl, SV.val, Instr.sureAddr, Sem.run_pure, fieldPlace, szOf_run hn]
          simp [fa]
        · cases h
      · cases h
    · cases h
  case indexAddr t x ix =>
    split at h
    · rename_i e p n c i ht hx hi
      simp only [Option.map_eq_some_iff, Prod.mk.injEq] at h
      obtain ⟨s, hs, rfl, rfl, rfl⟩ := h
      simp only [List.mem_singleton, forall_eq] at hc
      obtain ⟨h1, h2, h3⟩ := hc
      obtain ⟨a, rfl⟩ := Option.isSome_iff_exists.1 h3
      simp only [Option.bind_eq_some_iff] at hi
      obtain ⟨y, hy, hyi⟩ := hi
      obtain ⟨k, hk⟩ := toI_spec hyi
      refine pure_v ?_
      rw [hf _ _ hx, hf _ _ hy, hk]
      simp only [SV.val, Instr.indexAt, asIntOf, Sem.run_bind, Sem.run_pure, Result.andThen_ok, run_underlying ht]
      rw [if_pos ⟨h1, h2⟩]
      simp [szOf_run hs, ixA]
    · rename_i n e p i ht hx hi
      split at h
      · cases h
      · rename_i hn
        simp only [Option.map_eq_some_iff, Prod.mk.injEq] at h
        obtain ⟨s, hs, rfl, rfl, rfl⟩ := h
        simp only [List.mem_singleton, forall_eq] at hc
        obtain ⟨h1, h2, h3⟩ := hc
        obtain ⟨a, rfl⟩ := Option.isSome_iff_exists.1 h3
        simp only [Option.bind_eq_some_iff] at hi
        obtain ⟨y, hy, hyi⟩ := hi
        obtain ⟨k, hk⟩ := toI_spec hyi
        refine pure_v ?_
        rw [hf _ _ hx, hf _ _ hy, hk]
        simp only [SV.val, Instr.indexAt, asIntOf, Sem.run_bind, Sem.run_pure, Result.andThen_ok, run_underlying ht, Instr.sureAddr]
        rw [if_pos ⟨h1, h2⟩]
        simp [szOf_run hs, ixA]
    · cases h
  case index t x ix =>
    split at h
    · rename_i a i b os1 ht hx hi
      simp only [Option.some.injEq, Prod.mk.injEq] at h
      obtain ⟨rfl, rfl, rfl⟩ := h
      simp only [List.mem_singleton, forall_eq] at hc
      simp only [Option.bind_eq_some_iff] at hi
      obtain ⟨y, hy, hyi⟩ := hi
      obtain ⟨k, hk⟩ := toI_spec hyi
      refine pure_v ?_
      rw [hf _ _ hx, hf _ _ hy, hk]
      simp only [SV.val, Instr.index, asIntOf, Sem.run_bind, Sem.run_pure, Result.andThen_ok, run_underlying ht]
      rw [if_pos hc.1]
      have hb : (ByteArray.mk ⟨a⟩)[i.toNat]? = some b := by
        have hlt : i.toNat < a.length := (List.getElem?_eq_some_iff.1 hc.2).1
        rw [ByteArray.getElem?_lt' _ _ (by simpa [ByteArray.size] using hlt)]
        have := (List.getElem?_eq_some_iff.1 hc.2).2
        simp [← this]
        rfl
      rw [hb]
      rfl
    · rename_i n e xs i r1 os1 ht hx hi
      simp only [Option.bind_eq_some_iff] at hi
      obtain ⟨y, hy, hyi⟩ := hi
      obtain ⟨k, hk⟩ := toI_spec hyi
      split at h
      · rename_i s r2 ha hs
        simp only [Option.some.injEq, Prod.mk.injEq] at h
        obtain ⟨rfl, rfl, rfl⟩ := h
        simp only [List.mem_singleton, forall_eq] at hc
        refine pure_v ?_
        rw [hf _ _ hx, hf _ _ hy, hk]
        simp only [SV.val, Instr.index, asIntOf, Sem.run_bind, Sem.run_pure, Result.andThen_ok, run_underlying ht]
        rw [if_pos hc.1]
        simp only [szOf_run hs, Sem.run_bind, Result.andThen_ok, part, isAggB_run ha]
        simp [hc.2]
      · rename_i s ys ha hs
        simp only [Option.some.injEq, Prod.mk.injEq] at h
        obtain ⟨rfl, rfl, rfl⟩ := h
        simp only [List.mem_singleton, forall_eq] at hc
        refine pure_v ?_
        rw [hf _ _ hx, hf _ _ hy, hk]
        simp only [SV.val, Instr.index, asIntOf, Sem.run_bind, Sem.run_pure, Result.andThen_ok, run_underlying ht]
        rw [if_pos hc.1]
        simp only [szOf_run hs, Sem.run_bind, Result.andThen_ok, part, isAggB_run ha, if_true, Sem.run_pure]
        refine congrArg (fun z => Result.ok (Value.agg z) w) ?_
        rw [← hc.2]
        simp [List.drop_take]
      · cases h
    · cases h
  case slice t x lo hi mx =>
    split at h
    · rename_i a lo' hi' ht hx hlo hhi hmx
      split at h
      · rename_i r1 os1
        simp only [Option.some.injEq, Prod.mk.injEq] at h
        obtain ⟨rfl, rfl, rfl⟩ := h
        obtain ⟨s1, e1, m1, i1⟩ := oO_spec hf hlo
        obtain ⟨s2, e2, m2, i2⟩ := oO_spec hf hhi
        obtain ⟨s3, e3, m3, i3⟩ := oO_spec hf hmx
        have hs3 : s3 = none := by
          cases s3 with
          | none => rfl
          | some z => simp [oI] at e3
        subst hs3
        refine pure_v ?_
        rw [hf _ _ hx, m1, m2, m3]
        have hb := run_bounds (P := P) (w := w) (isS := false) (n := a.length) (cap := a.length) e1 e2 e3 (by simp) (fun x hx => hc x (List.mem_append_left _ hx))
        have hr := hc _ (List.mem_append_right _ (List.mem_singleton.2 rfl))
        simp only [SV.val, Option.map_none] at hb ⊢
        simp only [Instr.sliceAt, Sem.run_bind, run_underlying ht, Result.andThen_ok, Instr.slice]
        have hsz : (ByteArray.mk ⟨a⟩).size = a.length := rfl
        simp only [Option.map_none, Option.isSome_none, Bool.false_eq_true, if_false, Sem.run_bind, Sem.run_pure, Result.andThen_ok, hsz, hb]
        refine congrArg (fun z => Result.ok (Value.string z) w) ?_
        rw [show (ByteArray.mk ⟨a⟩) = ByteArray.mk a.toArray from rfl, ByteArray.extract_mk, ← hr, List.drop_take]
      · cases h
    · rename_i e p n c lo' hi' mx' ht hx hlo hhi hmx
      split at h
      · cases h
      · rename_i hcnd
        split at h
        · rename_i s r1 os1 hs
          simp only [Option.some.injEq, Prod.mk.injEq] at h
          obtain ⟨rfl, rfl, rfl⟩ := h
          obtain ⟨s1, e1, m1, i1⟩ := oO_spec hf hlo
          obtain ⟨s2, e2, m2, i2⟩ := oO_spec hf hhi
          obtain ⟨s3, e3, m3, i3⟩ := oO_spec hf hmx
          refine pure_v ?_
          rw [hf _ _ hx, m1, m2, m3]
          have h0 : s3.isSome → s2.isSome := by
            rw [i3, i2]
            cases hmm : mx' <;> cases hhh : hi' <;> simp_all
          have hb := run_bounds (P := P) (w := w) (isS := true) (n := n) (cap := c) e1 e2 e3 h0 (fun x hx => hc x (List.mem_append_left _ hx))
          have hr := hc _ (List.mem_append_right _ (List.mem_singleton.2 rfl))
          simp only [SV.val, Instr.sliceAt, Sem.run_bind, run_underlying ht, Result.andThen_ok, Instr.slice, hb, szOf_run hs, Sem.run_pure]
          exact congrArg (fun z => Result.ok z w) hr
        · cases h
    · rename_i n e p lo' hi' mx' ht hx hlo hhi hmx
      split at h
      · cases h
      · rename_i hcnd
        split at h
        · rename_i s r1 os1 hs
          simp only [Option.some.injEq, Prod.mk.injEq] at h
          obtain ⟨rfl, rfl, rfl⟩ := h
          obtain ⟨s1, e1, m1, i1⟩ := oO_spec hf hlo
          obtain ⟨s2, e2, m2, i2⟩ := oO_spec hf hhi
          obtain ⟨s3, e3, m3, i3⟩ := oO_spec hf hmx
          refine pure_v ?_
          rw [hf _ _ hx, m1, m2, m3]
          have h0 : s3.isSome → s2.isSome := by
            rw [i3, i2]
            cases hmm : mx' <;> cases hhh : hi' <;> simp_all
          have hb := run_bounds (P := P) (w := w) (isS := false) (n := n) (cap := n) e1 e2 e3 h0 (fun x hx => hc x (List.mem_append_left _ hx))
          have hr := hc _ (List.mem_append_right _ (List.mem_singleton.2 rfl))
          obtain ⟨a, rfl⟩ := Option.isSome_iff_exists.1 hr.1
          have hr2 := hr.2
          simp only [SV.val, Instr.sliceAt, Sem.run_bind, run_underlying ht, Result.andThen_ok, Instr.sureAddr, hb, szOf_run hs, Sem.run_pure]
          refine congrArg (fun z => Result.ok z w) ?_
          rw [← hr2]
          unfold slA
          split <;> simp_all
        · cases h
    · cases h
  case call c =>
    obtain ⟨callee, args, argTypes⟩ := c
    cases callee with
    | value f => simp only [evOp, reduceCtorEq] at h
    | invoke f m => simp only [evOp, reduceCtorEq] at h
    | builtin b =>
    cases b <;> simp only [evOp, reduceCtorEq] at h
    case len =>
      split at h
      · rename_i t x ht hx
        obtain rfl : argTypes = #[t] := by cases argTypes; simp_all
        obtain rfl : args = #[x] := by cases args; simp_all
        simp only [resolve, Sem.run_bind, Sem.run_pure, Result.andThen_ok, invoke, builtin]
        refine then_v ?_
        split at h
        · rename_i a hu hxa
          simp only [Option.some.injEq, Prod.mk.injEq] at h
          obtain ⟨rfl, rfl, rfl⟩ := h
          simp [Builtin.len_, run_underlying hu, hf _ _ hxa, SV.val, goInt]
          try rfl
        · rename_i e p n c hu hxa
          simp only [Option.some.injEq, Prod.mk.injEq] at h
          obtain ⟨rfl, rfl, rfl⟩ := h
          simp [Builtin.len_, run_underlying hu, hf _ _ hxa, SV.val, goInt]
        · rename_i n e a hu hxa
          simp only [Option.some.injEq, Prod.mk.injEq] at h
          obtain ⟨rfl, rfl, rfl⟩ := h
          simp [Builtin.len_, run_underlying hu, hf _ _ hxa, SV.val, goInt]
        · rename_i t' a hu hxa
          split at h
          · rename_i n e hu2
            simp only [Option.some.injEq, Prod.mk.injEq] at h
            obtain ⟨rfl, rfl, rfl⟩ := h
            simp [Builtin.len_, run_underlying hu, run_underlying hu2, SV.val, goInt]
          · cases h
        · cases h
      · cases h
    case min =>
      split at h
      · rename_i x y hx
        obtain rfl : args = #[x, y] := by cases args; simp_all
        split at h
        · rename_i k a k' b h1 h2
          split at h
          · rename_i hk
            subst hk
            simp only [Option.some.injEq, Prod.mk.injEq] at h
            obtain ⟨rfl, rfl, rfl⟩ := h
            simp only [resolve, Sem.run_bind, Sem.run_pure, Result.andThen_ok, invoke, builtin]
            refine then_v ?_
            simp [Builtin.min_, hf _ _ h1, hf _ _ h2, SV.val, Builtin.min2]
          · cases h
        · rename_i a b h1 h2
          simp only [Option.some.injEq, Prod.mk.injEq] at h
          obtain ⟨rfl, rfl, rfl⟩ := h
          simp only [resolve, Sem.run_bind, Sem.run_pure, Result.andThen_ok, invoke, builtin]
          refine then_v ?_
          simp only [Builtin.min_, hf _ _ h1, hf _ _ h2, SV.val, Builtin.min2]
          by_cases hba : b < a
          · have hb2 : (b.toNat : Int) < (a.toNat : Int) := by exact_mod_cast UInt64.lt_iff_toNat_lt.1 hba
            simp [hf _ _ h1, hf _ _ h2, SV.val, Builtin.min2, umin, hba, hb2]
          · have hb2 : ¬ (b.toNat : Int) < (a.toNat : Int) := by
              intro hh; exact hba (UInt64.lt_iff_toNat_lt.2 (by exact_mod_cast hh))
            simp [hf _ _ h1, hf _ _ h2, SV.val, Builtin.min2, umin, hba, hb2]
        · cases h
      · cases h
    case max =>
      split at h
      · rename_i x y hx
        obtain rfl : args = #[x, y] := by cases args; simp_all
        split at h
        · rename_i k a k' b h1 h2
          split at h
          · rename_i hk
            subst hk
            simp only [Option.some.injEq, Prod.mk.injEq] at h
            obtain ⟨rfl, rfl, rfl⟩ := h
            simp only [resolve, Sem.run_bind, Sem.run_pure, Result.andThen_ok, invoke, builtin]
            refine then_v ?_
            simp [Builtin.max_, hf _ _ h1, hf _ _ h2, SV.val, Builtin.max2]
          · cases h
        · cases h
      · cases h

end Go.Sx
