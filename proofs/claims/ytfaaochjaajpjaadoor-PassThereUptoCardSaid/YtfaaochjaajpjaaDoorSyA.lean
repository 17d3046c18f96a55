import Derived.WalkKit
import Derived.Deep.QuietTactic
namespace Go.Sx
set_option linter.unusedSimpArgs false
set_option linter.unusedVariables false

/-- a row of just n -/
structure Vec (α : Type) (n : Nat) where
  l : List α
  h : l.length = n
theorem Vec.ext {α : Type} {n : Nat} {x y : Vec α n} (h : x.l = y.l) : x = y := by
  cases x; cases y; simp only at h; subst h; rfl
theorem Vec.ext_iff {α : Type} {n : Nat} {x y : Vec α n} : x = y ↔ x.l = y.l := ⟨fun h => by rw [h], Vec.ext⟩

/-- so many cells, each of one -/
structure Cells (n : Nat) where
  l : List Value
  h : l.length = n
  one : ∀ v ∈ l, v.oneCell' = true

/-- A slot's value, as the walk knows it. -/
inductive SV where
  | b (x : Bool)
  | u8 (x : UInt8)
  | u16 (x : UInt16)
  | u32 (x : UInt32)
  | u64 (x : UInt64)
  | i (k : IntKind) (n : Int)
  | s (x : List UInt8)
  | v (x : Value)
  /-- so many cells of a struct or an array -/
  | vec (n : Nat) (x : Cells n)
  | agg (xs : List SV)
  | tup (xs : List SV)

mutual
def SV.val : SV → Value
  | .b x => .bool x
  | .u8 x => .int .u8 x.toNat
  | .u16 x => .int .u16 x.toNat
  | .u32 x => .int .u32 x.toNat
  | .u64 x => .int .u64 x.toNat
  | .i k n => .int k n
  | .s x => .string ⟨⟨x⟩⟩
  | .v x => x
  | .vec _ x => .agg ⟨x.l⟩
  | .agg xs => .agg ⟨SV.cl xs⟩
  | .tup xs => .tuple ⟨SV.vals xs⟩
def SV.vals : List SV → List Value
  | [] => []
  | x :: xs => x.val :: SV.vals xs
/-- the cells of a struct or an array -/
def SV.cl : List SV → List Value
  | [] => []
  | .vec _ x :: xs => x.l ++ SV.cl xs
  | x :: xs => x.val :: SV.cl xs
end

def umin (a b : UInt64) : UInt64 := if b < a then b else a
theorem vals_eq (xs : List SV) : SV.vals xs = xs.map SV.val := by
  induction xs with
  | nil => rfl
  | cons x xs ih => simp [SV.vals, ih]

def vals (xs : List SV) : Array Value := ⟨SV.vals xs⟩

/-- how many cells -/
def SV.width : List SV → Nat
  | [] => 0
  | .vec n _ :: xs => n + SV.width xs
  | _ :: xs => 1 + SV.width xs
def SV.isVec : SV → Bool
  | .vec _ _ => true
  | _ => false
theorem cl_cons {x : SV} (h : x.isVec = false) (xs : List SV) : SV.cl (x :: xs) = x.val :: SV.cl xs := by
  cases x <;> first | rfl | cases h
theorem width_cons {x : SV} (h : x.isVec = false) (xs : List SV) : SV.width (x :: xs) = 1 + SV.width xs := by
  cases x <;> first | rfl | cases h
theorem cl_vec (n : Nat) (x : Cells n) (xs : List SV) : SV.cl (.vec n x :: xs) = x.l ++ SV.cl xs := rfl
theorem isVec_or (x : SV) : (∃ n v, x = .vec n v) ∨ x.isVec = false := by
  cases x <;> first | exact .inl ⟨_, _, rfl⟩ | exact .inr rfl
theorem cl_length : ∀ xs : List SV, (SV.cl xs).length = SV.width xs := by
  intro xs
  induction xs with
  | nil => rfl
  | cons x xs ih =>
    rcases isVec_or x with ⟨n, v, rfl⟩ | h
    · rw [cl_vec]; simp [SV.width, ih, v.h]
    · rw [cl_cons h, width_cons h]; simp [ih]; omega
theorem cl_app (xs ys : List SV) : SV.cl (xs ++ ys) = SV.cl xs ++ SV.cl ys := by
  induction xs with
  | nil => rfl
  | cons x xs ih =>
    rcases isVec_or x with ⟨n, v, rfl⟩ | h
    · rw [List.cons_append, cl_vec, cl_vec, ih, List.append_assoc]
    · rw [List.cons_append, cl_cons h, cl_cons h, ih]; rfl

/-- the cells from a place on -/
def dropS : Nat → List SV → Option (List SV)
  | 0, xs => some xs
  | _ + 1, [] => none
  | k + 1, .vec n _ :: xs => if n ≤ k + 1 then dropS (k + 1 - n) xs else none
  | k + 1, _ :: xs => dropS k xs
def takeS : Nat → List SV → Option (List SV)
  | 0, _ => some []
  | _ + 1, [] => none
  | k + 1, .vec n v :: xs => if n ≤ k + 1 then (takeS (k + 1 - n) xs).map (.vec n v :: ·) else none
  | k + 1, x :: xs => (takeS k xs).map (x :: ·)
theorem dropS_cons {k : Nat} {x : SV} (h : x.isVec = false) (xs : List SV) : dropS (k + 1) (x :: xs) = dropS k xs := by
  cases x <;> first | rfl | cases h
theorem takeS_cons {k : Nat} {x : SV} (h : x.isVec = false) (xs : List SV) : takeS (k + 1) (x :: xs) = (takeS k xs).map (x :: ·) := by
  cases x <;> first | rfl | cases h
theorem dropS_spec : ∀ (xs : List SV) (k : Nat) (ys : List SV), dropS k xs = some ys → (SV.cl xs).drop k = SV.cl ys ∧ k ≤ SV.width xs := by
  intro xs
  induction xs with
  | nil =>
    intro k ys h
    cases k with
    | zero => simp only [dropS, Option.some.injEq] at h; subst h; exact ⟨rfl, Nat.zero_le _⟩
    | succ k => cases h
  | cons x xs ih =>
    intro k ys h
    cases k with
    | zero => simp only [dropS, Option.some.injEq] at h; subst h; exact ⟨rfl, Nat.zero_le _⟩
    | succ k =>
      rcases isVec_or x with ⟨n, v, rfl⟩ | hx
      · simp only [dropS] at h
        split at h
        · rename_i hn
          obtain ⟨e1, e2⟩ := ih _ _ h
          rw [cl_vec]
          refine ⟨?_, by simp only [SV.width]; omega⟩
          rw [← e1, List.drop_append, v.h, List.drop_of_length_le (by rw [v.h]; exact hn)]
          rfl
        · cases h
      · rw [dropS_cons hx] at h
        obtain ⟨e1, e2⟩ := ih _ _ h
        rw [cl_cons hx, width_cons hx]
        exact ⟨by simpa using e1, by omega⟩
theorem takeS_spec : ∀ (xs : List SV) (k : Nat) (ys : List SV), takeS k xs = some ys → (SV.cl xs).take k = SV.cl ys ∧ SV.width ys = k := by
  intro xs
  induction xs with
  | nil =>
    intro k ys h
    cases k with
    | zero => simp only [takeS, Option.some.injEq] at h; subst h; exact ⟨rfl, rfl⟩
    | succ k => cases h
  | cons x xs ih =>
    intro k ys h
    cases k with
    | zero => simp only [takeS, Option.some.injEq] at h; subst h; exact ⟨rfl, rfl⟩
    | succ k =>
      rcases isVec_or x with ⟨n, v, rfl⟩ | hx
      · simp only [takeS] at h
        split at h
        · rename_i hn
          simp only [Option.map_eq_some_iff] at h
          obtain ⟨zs, hz, rfl⟩ := h
          obtain ⟨e1, e2⟩ := ih _ _ hz
          rw [cl_vec, cl_vec]
          refine ⟨?_, by simp only [SV.width]; omega⟩
          rw [← e1, List.take_append, v.h, List.take_of_length_le (by rw [v.h]; exact hn)]
        · cases h
      · rw [takeS_cons hx] at h
        simp only [Option.map_eq_some_iff] at h
        obtain ⟨zs, hz, rfl⟩ := h
        obtain ⟨e1, e2⟩ := ih _ _ hz
        rw [cl_cons hx, cl_cons hx, width_cons hx, e2]
        exact ⟨by simpa using e1, by omega⟩
/-- the one cell at a place -/
def cellS (off : Nat) (xs : List SV) : Option SV :=
  match dropS off xs with
  | some (x :: _) => if x.isVec then none else some x
  | _ => none
theorem cellS_spec {off : Nat} {xs : List SV} {x : SV} (h : cellS off xs = some x) : (SV.cl xs)[off]? = some x.val ∧ off < SV.width xs := by
  unfold cellS at h
  split at h
  · rename_i y ys hd
    split at h
    · cases h
    · rename_i hv
      simp only [Option.some.injEq] at h
      subst h
      obtain ⟨e1, e2⟩ := dropS_spec _ _ _ hd
      rw [cl_cons (by simpa using hv)] at e1
      have h3 : (SV.cl xs)[off]? = some y.val := by
        rw [← Nat.add_zero off, ← List.getElem?_drop, e1]; rfl
      refine ⟨h3, ?_⟩
      rw [← cl_length]
      exact (List.getElem?_eq_some_iff.1 h3).1
  · cases h
/-- a stretch of cells -/
def partsS (off n : Nat) (xs : List SV) : Option (List SV) := (dropS off xs).bind (takeS n)
theorem partsS_spec {off n : Nat} {xs ys : List SV} (h : partsS off n xs = some ys) : ((SV.cl xs).drop off).take n = SV.cl ys ∧ SV.width ys = n ∧ off + n ≤ SV.width xs := by
  unfold partsS at h
  simp only [Option.bind_eq_some_iff] at h
  obtain ⟨zs, h1, h2⟩ := h
  obtain ⟨e1, e2⟩ := dropS_spec _ _ _ h1
  obtain ⟨e3, e4⟩ := takeS_spec _ _ _ h2
  refine ⟨by rw [e1, e3], e4, ?_⟩
  have h3 := congrArg List.length e1
  have h4 := congrArg List.length e3
  simp only [List.length_drop, List.length_take, cl_length] at h3 h4
  omega
/-- a stretch of cells written over -/
def putS (off n : Nat) (ys xs : List SV) : Option (List SV) :=
  match takeS off xs, dropS (off + n) xs with
  | some a, some b => if SV.width ys = n then some (a ++ ys ++ b) else none
  | _, _ => none
theorem putS_spec {off n : Nat} {xs ys zs : List SV} (h : putS off n ys xs = some zs) : SV.cl zs = (SV.cl xs).take off ++ SV.cl ys ++ (SV.cl xs).drop (off + n) ∧ SV.width zs = SV.width xs ∧ SV.width ys = n ∧ off + n ≤ SV.width xs := by
  unfold putS at h
  split at h
  · rename_i a b ha hb
    split at h
    · rename_i hw
      simp only [Option.some.injEq] at h
      subst h
      obtain ⟨e1, e2⟩ := takeS_spec _ _ _ ha
      obtain ⟨e3, e4⟩ := dropS_spec _ _ _ hb
      have h3 := congrArg List.length e3
      simp only [List.length_drop, cl_length] at h3
      refine ⟨by rw [cl_app, cl_app, e1, e3], ?_, hw, e4⟩
      rw [← cl_length, cl_app, cl_app, List.length_append, List.length_append, cl_length, cl_length, cl_length]
      omega
    · cases h
  · cases h

/-- are they cells of one each? -/
def SV.one1 : SV → Bool
  | .v x => x.oneCell'
  | .agg _ => false
  | .tup _ => false
  | _ => true
theorem ones_spec : ∀ xs : List SV, xs.all SV.one1 = true → ∀ v ∈ SV.cl xs, v.oneCell' = true := by
  intro xs
  induction xs with
  | nil => intro _ v hv; cases hv
  | cons x xs ih =>
    intro h v hv
    simp only [List.all_cons, Bool.and_eq_true] at h
    rcases isVec_or x with ⟨n, y, rfl⟩ | hx
    · rw [cl_vec, List.mem_append] at hv
      exact hv.elim (y.one v) (ih h.2 v)
    · rw [cl_cons hx, List.mem_cons] at hv
      rcases hv with rfl | hv
      · cases x <;> first | (cases hx; done) | rfl | exact h.1 | (simp [SV.one1] at h; done)
      · exact ih h.2 v hv

/-- A fact on a slot: its number, the guard under which it holds, its value. -/
structure En where
  k : Nat
  g : Option (Nat × Bool)
  x : SV

abbrev Cond := World → Prop

/-- What is known of a frame. -/
structure Fr (n : Nat) (a : Act) (L : List En) : Prop where
  defers : a.defers = []
  size : a.tmps.size = n
  at_ : ∀ e ∈ L, (∀ g w, e.g = some (g, w) → a.tmps[g]? = some (.bool w)) → a.tmps[e.k]? = some e.x.val

def look (L : List En) (k : Nat) : Option En := L.find? fun e => e.k == k

theorem look_mem {L : List En} {k : Nat} {e : En} (h : look L k = some e) : e ∈ L ∧ e.k = k := by
  unfold look at h
  exact ⟨List.mem_of_find?_eq_some h, by simpa using List.find?_some h⟩

/-- A constant. -/
def kst1 : Value → SV
  | .bool b => .b b
  | .int .u8 n => if 0 ≤ n ∧ n < 256 then .u8 (UInt8.ofNat n.toNat) else .v (.int .u8 n)
  | .int .u16 n => if 0 ≤ n ∧ n < 65536 then .u16 (UInt16.ofNat n.toNat) else .v (.int .u16 n)
  | .int .u32 n => if 0 ≤ n ∧ n < 4294967296 then .u32 (UInt32.ofNat n.toNat) else .v (.int .u32 n)
  | .int .u64 n => if 0 ≤ n ∧ n < 18446744073709551616 then .u64 (UInt64.ofNat n.toNat) else .v (.int .u64 n)
  | .int k n => .i k n
  | .string s => .s s.data.toList
  | v => .v v

theorem kst1_val (v : Value) : (kst1 v).val = v := by
  unfold kst1
  split <;> try rfl
  all_goals
    split
    · rename_i n h
      simp only [SV.val]
      congr 1
      simp
      omega
    · rfl

theorem kst1_vec (v : Value) : (kst1 v).isVec = false := by
  unfold kst1
  split <;> try rfl
  all_goals (split <;> rfl)
theorem cl_kst1 : ∀ l : List Value, SV.cl (l.map kst1) = l := by
  intro l
  induction l with
  | nil => rfl
  | cons v l ih => rw [List.map_cons, cl_cons (kst1_vec v), kst1_val, ih]
def kst : Value → SV
  | .agg cs => .agg (cs.toList.map kst1)
  | .tuple cs => .tup (cs.toList.map kst1)
  | v => kst1 v
theorem kst_val (v : Value) : (kst v).val = v := by
  unfold kst
  split
  · simp only [SV.val, cl_kst1]
  · rename_i cs
    have : SV.val ∘ kst1 = id := funext kst1_val
    simp only [SV.val, vals_eq, List.map_map, this, List.map_id]
  · exact kst1_val v

/-- An operand's value under a guard. -/
def ev (L : List En) (g : Option (Nat × Bool)) : Operand → Option SV
  | .tmp t => match look L t with
    | some e => match e.g, g with
      | none, _ => some e.x
      | some (a, x), some (b, y) => if a = b ∧ x = y then some e.x else none
      | some _, none => none
    | none => none
  | .const v => some (kst v)
  | .global g => some (.v (.pointer (some ⟨g, 0, none⟩)))
  | .func f => some (.v (.func (.func f) #[] #[]))

theorem ev_sound {n : Nat} {a : Act} {L : List En} {g : Option (Nat × Bool)} {o : Operand} {x : SV} (hf : Fr n a L) (hg : ∀ k w, g = some (k, w) → a.tmps[k]? = some (.bool w)) (h : ev L g o = some x) : a.eval o = x.val := by
  cases o with
  | tmp t =>
    simp only [ev] at h
    split at h
    · rename_i e he
      obtain ⟨hm, hk⟩ := look_mem he
      have key : (∀ k w, e.g = some (k, w) → a.tmps[k]? = some (.bool w)) → e.x = x → a.eval (.tmp t) = x.val := by
        intro h1 h2
        have := hf.at_ e hm h1
        rw [hk, h2] at this
        simp [Act.eval, Array.getD_eq_getD_getElem?, this]
      split at h
      · rename_i h0
        injection h with h
        exact key (by rw [h0]; intro _ _ hh; cases hh) h
      · rename_i a' x' b' y' h0
        split at h
        · rename_i hh
          injection h with h
          obtain ⟨rfl, rfl⟩ := hh
          exact key (by rw [h0]; exact hg) h
        · cases h
      · cases h
    · cases h
  | const v => simp only [ev, Option.some.injEq] at h; subst h; simp [Act.eval, kst_val]
  | global g => simp only [ev, Option.some.injEq] at h; subst h; rfl
  | func f => simp only [ev, Option.some.injEq] at h; subst h; rfl

/-! ### integers -/
def shl8 (x : UInt8) (n : Nat) : UInt8 := ⟨x.toBitVec <<< n⟩
def shr8 (x : UInt8) (n : Nat) : UInt8 := ⟨x.toBitVec >>> n⟩
def shl16 (x : UInt16) (n : Nat) : UInt16 := ⟨x.toBitVec <<< n⟩
def shr16 (x : UInt16) (n : Nat) : UInt16 := ⟨x.toBitVec >>> n⟩
def shl32 (x : UInt32) (n : Nat) : UInt32 := ⟨x.toBitVec <<< n⟩
def shr32 (x : UInt32) (n : Nat) : UInt32 := ⟨x.toBitVec >>> n⟩
def shl64 (x : UInt64) (n : Nat) : UInt64 := ⟨x.toBitVec <<< n⟩
def shr64 (x : UInt64) (n : Nat) : UInt64 := ⟨x.toBitVec >>> n⟩
def shlI (k : IntKind) (x : Int) (n : Nat) : Int := k.wrap (x * 2 ^ (min n k.bits))
def shrI (k : IntKind) (x : Int) (n : Nat) : Int := x.fdiv (2 ^ (min n k.bits))
def andI (k : IntKind) (x y : Int) : Int := k.wrap (BitVec.ofInt k.bits x &&& BitVec.ofInt k.bits y).toNat
def orI (k : IntKind) (x y : Int) : Int := k.wrap (BitVec.ofInt k.bits x ||| BitVec.ofInt k.bits y).toNat
def xorI (k : IntKind) (x y : Int) : Int := k.wrap (BitVec.ofInt k.bits x ^^^ BitVec.ofInt k.bits y).toNat
def andNotI (k : IntKind) (x y : Int) : Int := k.wrap (BitVec.ofInt k.bits x &&& ~~~BitVec.ofInt k.bits y).toNat

abbrev Ans := Option (SV × List Cond)

def binI (op : BinOp) (k : IntKind) (a b : Int) : Ans :=
  match op with
  | .add => some (.i k (k.wrap (a + b)), [])
  | .sub => some (.i k (k.wrap (a - b)), [])
  | .mul => some (.i k (k.wrap (a * b)), [])
  | .quo => some (.i k (k.wrap (a.tdiv b)), [fun _ => b ≠ 0])
  | .rem => some (.i k (a.tmod b), [fun _ => b ≠ 0])
  | .and => some (.i k (andI k a b), [])
  | .or => some (.i k (orI k a b), [])
  | .xor => some (.i k (xorI k a b), [])
  | .andNot => some (.i k (andNotI k a b), [])
  | .eql => some (.b (decide (a = b)), [])
  | .neq => some (.b (decide (a ≠ b)), [])
  | .lss => some (.b (decide (a < b)), [])
  | .leq => some (.b (decide (a ≤ b)), [])
  | .gtr => some (.b (decide (b < a)), [])
  | .geq => some (.b (decide (b ≤ a)), [])
  | _ => none

theorem binI_sound {P : Program} {w : World} {op : BinOp} {k : IntKind} {a b : Int} {x : SV} {cs : List Cond} {t : TypeId} (h : binI op k a b = some (x, cs)) (hc : ∀ c ∈ cs, c w) :
    (binOp op t (.int k a) (.int k b)).run P w = .ok x.val w := by
  cases op <;> simp only [binI, Option.some.injEq, Prod.mk.injEq, reduceCtorEq] at h <;> obtain ⟨rfl, rfl⟩ := h
  all_goals simp [binOp, Op.intArith, Op.intDiv, Op.intBits, Op.intCmp, SV.val, andI, orI, xorI, andNotI] at hc ⊢
  all_goals first | exact fun h => absurd h hc | (rw [Bool.eq_iff_iff]; simp)

def binU8 (op : BinOp) (a b : UInt8) : Ans :=
  match op with
  | .add => some (.u8 (a + b), [])
  | .sub => some (.u8 (a - b), [])
  | .mul => some (.u8 (a * b), [])
  | .quo => some (.u8 (a / b), [fun _ => b ≠ 0])
  | .rem => some (.u8 (a % b), [fun _ => b ≠ 0])
  | .and => some (.u8 (a &&& b), [])
  | .or => some (.u8 (a ||| b), [])
  | .xor => some (.u8 (a ^^^ b), [])
  | .andNot => some (.u8 (a &&& ~~~b), [])
  | .eql => some (.b (decide (a = b)), [])
  | .neq => some (.b (decide (a ≠ b)), [])
  | .lss => some (.b (decide (a < b)), [])
  | .leq => some (.b (decide (a ≤ b)), [])
  | .gtr => some (.b (decide (b < a)), [])
  | .geq => some (.b (decide (b ≤ a)), [])
  | _ => none

theorem wrapU8 (n : Nat) : IntKind.u8.wrap (n : Int) = ((n % 2 ^ 8 : Nat) : Int) := by
  simp only [IntKind.wrap, IntKind.bits, IntKind.signed]
  simp [Int.natCast_emod]
theorem wrapU8lt {n : Nat} (h : n < 2 ^ 8) : IntKind.u8.wrap (n : Int) = (n : Int) := by rw [wrapU8, Nat.mod_eq_of_lt h]
theorem wrapU8int (n : Int) : IntKind.u8.wrap n = n % 2 ^ 8 := by
  simp only [IntKind.wrap, IntKind.bits, IntKind.signed]
  simp
theorem bvU8 (z : UInt8) : BitVec.ofInt 8 (z.toNat : Int) = z.toBitVec := by
  apply BitVec.eq_of_toNat_eq
  have := z.toNat_lt
  simp [IntKind.bits]
  try omega
theorem binU8_sound {P : Program} {w : World} {op : BinOp} {a b : UInt8} {x : SV} {cs : List Cond} {t : TypeId} (h : binU8 op a b = some (x, cs)) (hc : ∀ c ∈ cs, c w) :
    (binOp op t (.int .u8 a.toNat) (.int .u8 b.toNat)).run P w = .ok x.val w := by
  have ha := a.toNat_lt
  have hb := b.toNat_lt
  have hz : (b = 0) ↔ (b.toNat = 0) := by rw [← UInt8.toNat_inj]; simp
  cases op <;> simp only [binU8, Option.some.injEq, Prod.mk.injEq, reduceCtorEq] at h <;> obtain ⟨rfl, rfl⟩ := h
  case add => simp only [binOp, Op.intArith, SV.val, ne_eq, not_true_eq_false, if_false, Sem.run_pure]; rw [← Int.natCast_add, wrapU8, UInt8.toNat_add]
  case sub =>
    simp only [binOp, Op.intArith, SV.val, ne_eq, not_true_eq_false, if_false, Sem.run_pure]
    congr 2
    rw [wrapU8int, UInt8.toNat_sub]
    simp only [Nat.reducePow, Int.reducePow] at *
    omega
  case mul => simp only [binOp, Op.intArith, SV.val, ne_eq, not_true_eq_false, if_false, Sem.run_pure]; rw [← Int.natCast_mul, wrapU8, UInt8.toNat_mul]
  case quo =>
    simp only [List.mem_singleton, forall_eq] at hc
    have h0 : ¬ (b.toNat = 0) := fun h => hc (hz.2 h)
    have hl : a.toNat / b.toNat < 2 ^ 8 := Nat.lt_of_le_of_lt (Nat.div_le_self _ _) ha
    simp [binOp, Op.intDiv, SV.val, h0]
    rw [← Int.natCast_ediv, wrapU8lt hl]
  case rem =>
    simp only [List.mem_singleton, forall_eq] at hc
    have h0 : ¬ (b.toNat = 0) := fun h => hc (hz.2 h)
    simp [binOp, Op.intDiv, SV.val, h0]
    rw [Int.tmod_eq_emod_of_nonneg (by omega)]
  case and =>
    show Result.ok (Value.int .u8 (IntKind.u8.wrap ((BitVec.ofInt 8 a.toNat &&& BitVec.ofInt 8 b.toNat).toNat : Nat))) w = _
    rw [bvU8, bvU8]
    exact congrArg (fun z => Result.ok (Value.int .u8 z) w) (wrapU8lt (BitVec.isLt _))
  case or =>
    show Result.ok (Value.int .u8 (IntKind.u8.wrap ((BitVec.ofInt 8 a.toNat ||| BitVec.ofInt 8 b.toNat).toNat : Nat))) w = _
    rw [bvU8, bvU8]
    exact congrArg (fun z => Result.ok (Value.int .u8 z) w) (wrapU8lt (BitVec.isLt _))
  case xor =>
    show Result.ok (Value.int .u8 (IntKind.u8.wrap ((BitVec.ofInt 8 a.toNat ^^^ BitVec.ofInt 8 b.toNat).toNat : Nat))) w = _
    rw [bvU8, bvU8]
    exact congrArg (fun z => Result.ok (Value.int .u8 z) w) (wrapU8lt (BitVec.isLt _))
  case andNot =>
    show Result.ok (Value.int .u8 (IntKind.u8.wrap ((BitVec.ofInt 8 a.toNat &&& ~~~BitVec.ofInt 8 b.toNat).toNat : Nat))) w = _
    rw [bvU8, bvU8]
    exact congrArg (fun z => Result.ok (Value.int .u8 z) w) (wrapU8lt (BitVec.isLt _))
  case eql => simp [binOp, Op.intCmp, SV.val, ← UInt8.toNat_inj]; rw [Bool.eq_iff_iff]; simp; omega
  case neq => simp [binOp, Op.intCmp, SV.val, ← UInt8.toNat_inj]; rw [Bool.eq_iff_iff]; simp; omega
  case lss => simp [binOp, Op.intCmp, SV.val, UInt8.lt_iff_toNat_lt]
  case leq => simp [binOp, Op.intCmp, SV.val, UInt8.le_iff_toNat_le]
  case gtr => simp [binOp, Op.intCmp, SV.val, UInt8.lt_iff_toNat_lt]
  case geq => simp [binOp, Op.intCmp, SV.val, UInt8.le_iff_toNat_le]

theorem shlU8_sound {P : Program} {w : World} (a : UInt8) (yk : IntKind) (n : Nat) : (Op.shift .shl .u8 a.toNat yk n).run P w = .ok (SV.u8 (shl8 a n)).val w := by
  have h0 : ¬ ((n : Int) < 0) := by omega
  simp only [Op.shift, h0, if_false, SV.val, shl8, Int.toNat_natCast, Sem.run_pure]
  congr 2
  rw [show ((a.toNat : Int) * 2 ^ (min n IntKind.u8.bits)) = ((a.toNat * 2 ^ (min n IntKind.u8.bits) : Nat) : Int) from by simp, wrapU8]
  congr 1
  show _ = (a.toBitVec <<< n).toNat
  rw [BitVec.toNat_shiftLeft, Nat.shiftLeft_eq]
  simp only [IntKind.bits]
  rcases Nat.lt_or_ge n 8 with h | h
  · rw [Nat.min_eq_left (by omega)]; rfl
  · rw [Nat.min_eq_right h]
    have e1 : a.toNat * 2 ^ 8 % 2 ^ 8 = 0 := Nat.mul_mod_left _ _
    have e2 : a.toBitVec.toNat * 2 ^ n % 2 ^ 8 = 0 := by
      obtain ⟨d, rfl⟩ := Nat.exists_eq_add_of_le h
      rw [Nat.pow_add, Nat.mul_comm (2 ^ 8), ← Nat.mul_assoc]
      exact Nat.mul_mod_left _ _
    rw [e1, e2]
theorem shrU8_sound {P : Program} {w : World} (a : UInt8) (yk : IntKind) (n : Nat) : (Op.shift .shr .u8 a.toNat yk n).run P w = .ok (SV.u8 (shr8 a n)).val w := by
  have h0 : ¬ ((n : Int) < 0) := by omega
  simp only [Op.shift, h0, if_false, SV.val, shr8, Int.toNat_natCast, Sem.run_pure]
  congr 2
  rw [Int.fdiv_eq_ediv_of_nonneg _ (by exact Int.le_of_lt (Int.pow_pos (by omega)))]
  rw [show ((a.toNat : Int) / 2 ^ (min n IntKind.u8.bits)) = ((a.toNat / 2 ^ (min n IntKind.u8.bits) : Nat) : Int) from by simp]
  congr 1
  show _ = (a.toBitVec >>> n).toNat
  rw [BitVec.toNat_ushiftRight, Nat.shiftRight_eq_div_pow]
  simp only [IntKind.bits]
  have ha := a.toNat_lt
  rcases Nat.lt_or_ge n 8 with h | h
  · rw [Nat.min_eq_left (by omega)]; rfl
  · rw [Nat.min_eq_right h, Nat.div_eq_of_lt ha]
    exact (Nat.div_eq_of_lt (Nat.lt_of_lt_of_le ha (Nat.pow_le_pow_right (by omega) h))).symm

def binU16 (op : BinOp) (a b : UInt16) : Ans :=
  match op with
  | .add => some (.u16 (a + b), [])
  | .sub => some (.u16 (a - b), [])
  | .mul => some (.u16 (a * b), [])
  | .quo => some (.u16 (a / b), [fun _ => b ≠ 0])
  | .rem => some (.u16 (a % b), [fun _ => b ≠ 0])
  | .and => some (.u16 (a &&& b), [])
  | .or => some (.u16 (a ||| b), [])
  | .xor => some (.u16 (a ^^^ b), [])
  | .andNot => some (.u16 (a &&& ~~~b), [])
  | .eql => some (.b (decide (a = b)), [])
  | .neq => some (.b (decide (a ≠ b)), [])
  | .lss => some (.b (decide (a < b)), [])
  | .leq => some (.b (decide (a ≤ b)), [])
  | .gtr => some (.b (decide (b < a)), [])
  | .geq => some (.b (decide (b ≤ a)), [])
  | _ => none

theorem wrapU16 (n : Nat) : IntKind.u16.wrap (n : Int) = ((n % 2 ^ 16 : Nat) : Int) := by
  simp only [IntKind.wrap, IntKind.bits, IntKind.signed]
  simp [Int.natCast_emod]
theorem wrapU16lt {n : Nat} (h : n < 2 ^ 16) : IntKind.u16.wrap (n : Int) = (n : Int) := by rw [wrapU16, Nat.mod_eq_of_lt h]
theorem wrapU16int (n : Int) : IntKind.u16.wrap n = n % 2 ^ 16 := by
  simp only [IntKind.wrap, IntKind.bits, IntKind.signed]
  simp
theorem bvU16 (z : UInt16) : BitVec.ofInt 16 (z.toNat : Int) = z.toBitVec := by
  apply BitVec.eq_of_toNat_eq
  have := z.toNat_lt
  simp [IntKind.bits]
  try omega
theorem binU16_sound {P : Program} {w : World} {op : BinOp} {a b : UInt16} {x : SV} {cs : List Cond} {t : TypeId} (h : binU16 op a b = some (x, cs)) (hc : ∀ c ∈ cs, c w) :
    (binOp op t (.int .u16 a.toNat) (.int .u16 b.toNat)).run P w = .ok x.val w := by
  have ha := a.toNat_lt
  have hb := b.toNat_lt
  have hz : (b = 0) ↔ (b.toNat = 0) := by rw [← UInt16.toNat_inj]; simp
  cases op <;> simp only [binU16, Option.some.injEq, Prod.mk.injEq, reduceCtorEq] at h <;> obtain ⟨rfl, rfl⟩ := h
  case add => simp only [binOp, Op.intArith, SV.val, ne_eq, not_true_eq_false, if_false, Sem.run_pure]; rw [← Int.natCast_add, wrapU16, UInt16.toNat_add]
  case sub =>
    simp only [binOp, Op.intArith, SV.val, ne_eq, not_true_eq_false, if_false, Sem.run_pure]
    congr 2
    rw [wrapU16int, UInt16.toNat_sub]
    simp only [Nat.reducePow, Int.reducePow] at *
    omega
  case mul => simp only [binOp, Op.intArith, SV.val, ne_eq, not_true_eq_false, if_false, Sem.run_pure]; rw [← Int.natCast_mul, wrapU16, UInt16.toNat_mul]
  case quo =>
    simp only [List.mem_singleton, forall_eq] at hc
    have h0 : ¬ (b.toNat = 0) := fun h => hc (hz.2 h)
    have hl : a.toNat / b.toNat < 2 ^ 16 := Nat.lt_of_le_of_lt (Nat.div_le_self _ _) ha
    simp [binOp, Op.intDiv, SV.val, h0]
    rw [← Int.natCast_ediv, wrapU16lt hl]
  case rem =>
    simp only [List.mem_singleton, forall_eq] at hc
    have h0 : ¬ (b.toNat = 0) := fun h => hc (hz.2 h)
    simp [binOp, Op.intDiv, SV.val, h0]
    rw [Int.tmod_eq_emod_of_nonneg (by omega)]
  case and =>
    show Result.ok (Value.int .u16 (IntKind.u16.wrap ((BitVec.ofInt 16 a.toNat &&& BitVec.ofInt 16 b.toNat).toNat : Nat))) w = _
    rw [bvU16, bvU16]
    exact congrArg (fun z => Result.ok (Value.int .u16 z) w) (wrapU16lt (BitVec.isLt _))
  case or =>
    show Result.ok (Value.int .u16 (IntKind.u16.wrap ((BitVec.ofInt 16 a.toNat ||| BitVec.ofInt 16 b.toNat).toNat : Nat))) w = _
    rw [bvU16, bvU16]
    exact congrArg (fun z => Result.ok (Value.int .u16 z) w) (wrapU16lt (BitVec.isLt _))
  case xor =>
    show Result.ok (Value.int .u16 (IntKind.u16.wrap ((BitVec.ofInt 16 a.toNat ^^^ BitVec.ofInt 16 b.toNat).toNat : Nat))) w = _
    rw [bvU16, bvU16]
    exact congrArg (fun z => Result.ok (Value.int .u16 z) w) (wrapU16lt (BitVec.isLt _))
  case andNot =>
    show Result.ok (Value.int .u16 (IntKind.u16.wrap ((BitVec.ofInt 16 a.toNat &&& ~~~BitVec.ofInt 16 b.toNat).toNat : Nat))) w = _
    rw [bvU16, bvU16]
    exact congrArg (fun z => Result.ok (Value.int .u16 z) w) (wrapU16lt (BitVec.isLt _))
  case eql => simp [binOp, Op.intCmp, SV.val, ← UInt16.toNat_inj]; rw [Bool.eq_iff_iff]; simp; omega
  case neq => simp [binOp, Op.intCmp, SV.val, ← UInt16.toNat_inj]; rw [Bool.eq_iff_iff]; simp; omega
  case lss => simp [binOp, Op.intCmp, SV.val, UInt16.lt_iff_toNat_lt]
  case leq => simp [binOp, Op.intCmp, SV.val, UInt16.le_iff_toNat_le]
  case gtr => simp [binOp, Op.intCmp, SV.val, UInt16.lt_iff_toNat_lt]
  case geq => simp [binOp, Op.intCmp, SV.val, UInt16.le_iff_toNat_le]

theorem shlU16_sound {P : Program} {w : World} (a : UInt16) (yk : IntKind) (n : Nat) : (Op.shift .shl .u16 a.toNat yk n).run P w = .ok (SV.u16 (shl16 a n)).val w := by
  have h0 : ¬ ((n : Int) < 0) := by omega
  simp only [Op.shift, h0, if_false, SV.val, shl16, Int.toNat_natCast, Sem.run_pure]
  congr 2
  rw [show ((a.toNat : Int) * 2 ^ (min n IntKind.u16.bits)) = ((a.toNat * 2 ^ (min n IntKind.u16.bits) : Nat) : Int) from by simp, wrapU16]
  congr 1
  show _ = (a.toBitVec <<< n).toNat
  rw [BitVec.toNat_shiftLeft, Nat.shiftLeft_eq]
  simp only [IntKind.bits]
  rcases Nat.lt_or_ge n 16 with h | h
  · rw [Nat.min_eq_left (by omega)]; rfl
  · rw [Nat.min_eq_right h]
    have e1 : a.toNat * 2 ^ 16 % 2 ^ 16 = 0 := Nat.mul_mod_left _ _
    have e2 : a.toBitVec.toNat * 2 ^ n % 2 ^ 16 = 0 := by
      obtain ⟨d, rfl⟩ := Nat.exists_eq_add_of_le h
      rw [Nat.pow_add, Nat.mul_comm (2 ^ 16), ← Nat.mul_assoc]
      exact Nat.mul_mod_left _ _
    rw [e1, e2]
theorem shrU16_sound {P : Program} {w : World} (a : UInt16) (yk : IntKind) (n : Nat) : (Op.shift .shr .u16 a.toNat yk n).run P w = .ok (SV.u16 (shr16 a n)).val w := by
  have h0 : ¬ ((n : Int) < 0) := by omega
  simp only [Op.shift, h0, if_false, SV.val, shr16, Int.toNat_natCast, Sem.run_pure]
  congr 2
  rw [Int.fdiv_eq_ediv_of_nonneg _ (by exact Int.le_of_lt (Int.pow_pos (by omega)))]
  rw [show ((a.toNat : Int) / 2 ^ (min n IntKind.u16.bits)) = ((a.toNat / 2 ^ (min n IntKind.u16.bits) : Nat) : Int) from by simp]
  congr 1
  show _ = (a.toBitVec >>> n).toNat
  rw [BitVec.toNat_ushiftRight, Nat.shiftRight_eq_div_pow]
  simp only [IntKind.bits]
  have ha := a.toNat_lt
  rcases Nat.lt_or_ge n 16 with h | h
  · rw [Nat.min_eq_left (by omega)]; rfl
  · rw [Nat.min_eq_right h, Nat.div_eq_of_lt ha]
    exact (Nat.div_eq_of_lt (Nat.lt_of_lt_of_le ha (Nat.pow_le_pow_right (by omega) h))).symm

def binU32 (op : BinOp) (a b : UInt32) : Ans :=
  match op with
  | .add => some (.u32 (a + b), [])
  | .sub => some (.u32 (a - b), [])
  | .mul => some (.u32 (a * b), [])
  | .quo => some (.u32 (a / b), [fun _ => b ≠ 0])
  | .rem => some (.u32 (a % b), [fun _ => b ≠ 0])
  | .and => some (.u32 (a &&& b), [])
  | .or => some (.u32 (a ||| b), [])
  | .xor => some (.u32 (a ^^^ b), [])
  | .andNot => some (.u32 (a &&& ~~~b), [])
  | .eql => some (.b (decide (a = b)), [])
  | .neq => some (.b (decide (a ≠ b)), [])
  | .lss => some (.b (decide (a < b)), [])
  | .leq => some (.b (decide (a ≤ b)), [])
  | .gtr => some (.b (decide (b < a)), [])
  | .geq => some (.b (decide (b ≤ a)), [])
  | _ => none

theorem wrapU32 (n : Nat) : IntKind.u32.wrap (n : Int) = ((n % 2 ^ 32 : Nat) : Int) := by
  simp only [IntKind.wrap, IntKind.bits, IntKind.signed]
  simp [Int.natCast_emod]
theorem wrapU32lt {n : Nat} (h : n < 2 ^ 32) : IntKind.u32.wrap (n : Int) = (n : Int) := by rw [wrapU32, Nat.mod_eq_of_lt h]
theorem wrapU32int (n : Int) : IntKind.u32.wrap n = n % 2 ^ 32 := by
  simp only [IntKind.wrap, IntKind.bits, IntKind.signed]
  simp
theorem bvU32 (z : UInt32) : BitVec.ofInt 32 (z.toNat : Int) = z.toBitVec := by
  apply BitVec.eq_of_toNat_eq
  have := z.toNat_lt
  simp [IntKind.bits]
  try omega
theorem binU32_sound {P : Program} {w : World} {op : BinOp} {a b : UInt32} {x : SV} {cs : List Cond} {t : TypeId} (h : binU32 op a b = some (x, cs)) (hc : ∀ c ∈ cs, c w) :
    (binOp op t (.int .u32 a.toNat) (.int .u32 b.toNat)).run P w = .ok x.val w := by
  have ha := a.toNat_lt
  have hb := b.toNat_lt
  have hz : (b = 0) ↔ (b.toNat = 0) := by rw [← UInt32.toNat_inj]; simp
  cases op <;> simp only [binU32, Option.some.injEq, Prod.mk.injEq, reduceCtorEq] at h <;> obtain ⟨rfl, rfl⟩ := h
  case add => simp only [binOp, Op.intArith, SV.val, ne_eq, not_true_eq_false, if_false, Sem.run_pure]; rw [← Int.natCast_add, wrapU32, UInt32.toNat_add]
  case sub =>
    simp only [binOp, Op.intArith, SV.val, ne_eq, not_true_eq_false, if_false, Sem.run_pure]
    congr 2
    rw [wrapU32int, UInt32.toNat_sub]
    simp only [Nat.reducePow, Int.reducePow] at *
    omega
  case mul => simp only [binOp, Op.intArith, SV.val, ne_eq, not_true_eq_false, if_false, Sem.run_pure]; rw [← Int.natCast_mul, wrapU32, UInt32.toNat_mul]
  case quo =>
    simp only [List.mem_singleton, forall_eq] at hc
    have h0 : ¬ (b.toNat = 0) := fun h => hc (hz.2 h)
    have hl : a.toNat / b.toNat < 2 ^ 32 := Nat.lt_of_le_of_lt (Nat.div_le_self _ _) ha
    simp [binOp, Op.intDiv, SV.val, h0]
    rw [← Int.natCast_ediv, wrapU32lt hl]
  case rem =>
    simp only [List.mem_singleton, forall_eq] at hc
    have h0 : ¬ (b.toNat = 0) := fun h => hc (hz.2 h)
    simp [binOp, Op.intDiv, SV.val, h0]
    rw [Int.tmod_eq_emod_of_nonneg (by omega)]
  case and =>
    show Result.ok (Value.int .u32 (IntKind.u32.wrap ((BitVec.ofInt 32 a.toNat &&& BitVec.ofInt 32 b.toNat).toNat : Nat))) w = _
    rw [bvU32, bvU32]
    exact congrArg (fun z => Result.ok (Value.int .u32 z) w) (wrapU32lt (BitVec.isLt _))
  case or =>
    show Result.ok (Value.int .u32 (IntKind.u32.wrap ((BitVec.ofInt 32 a.toNat ||| BitVec.ofInt 32 b.toNat).toNat : Nat))) w = _
    rw [bvU32, bvU32]
    exact congrArg (fun z => Result.ok (Value.int .u32 z) w) (wrapU32lt (BitVec.isLt _))
  case xor =>
    show Result.ok (Value.int .u32 (IntKind.u32.wrap ((BitVec.ofInt 32 a.toNat ^^^ BitVec.ofInt 32 b.toNat).toNat : Nat))) w = _
    rw [bvU32, bvU32]
    exact congrArg (fun z => Result.ok (Value.int .u32 z) w) (wrapU32lt (BitVec.isLt _))
  case andNot =>
    show Result.ok (Value.int .u32 (IntKind.u32.wrap ((BitVec.ofInt 32 a.toNat &&& ~~~BitVec.ofInt 32 b.toNat).toNat : Nat))) w = _
    rw [bvU32, bvU32]
    exact congrArg (fun z => Result.ok (Value.int .u32 z) w) (wrapU32lt (BitVec.isLt _))
  case eql => simp [binOp, Op.intCmp, SV.val, ← UInt32.toNat_inj]; rw [Bool.eq_iff_iff]; simp; omega
  case neq => simp [binOp, Op.intCmp, SV.val, ← UInt32.toNat_inj]; rw [Bool.eq_iff_iff]; simp; omega
  case lss => simp [binOp, Op.intCmp, SV.val, UInt32.lt_iff_toNat_lt]
  case leq => simp [binOp, Op.intCmp, SV.val, UInt32.le_iff_toNat_le]
  case gtr => simp [binOp, Op.intCmp, SV.val, UInt32.lt_iff_toNat_lt]
  case geq => simp [binOp, Op.intCmp, SV.val, UInt32.le_iff_toNat_le]

theorem shlU32_sound {P : Program} {w : World} (a : UInt32) (yk : IntKind) (n : Nat) : (Op.shift .shl .u32 a.toNat yk n).run P w = .ok (SV.u32 (shl32 a n)).val w := by
  have h0 : ¬ ((n : Int) < 0) := by omega
  simp only [Op.shift, h0, if_false, SV.val, shl32, Int.toNat_natCast, Sem.run_pure]
  congr 2
  rw [show ((a.toNat : Int) * 2 ^ (min n IntKind.u32.bits)) = ((a.toNat * 2 ^ (min n IntKind.u32.bits) : Nat) : Int) from by simp, wrapU32]
  congr 1
  show _ = (a.toBitVec <<< n).toNat
  rw [BitVec.toNat_shiftLeft, Nat.shiftLeft_eq]
  simp only [IntKind.bits]
  rcases Nat.lt_or_ge n 32 with h | h
  · rw [Nat.min_eq_left (by omega)]; rfl
  · rw [Nat.min_eq_right h]
    have e1 : a.toNat * 2 ^ 32 % 2 ^ 32 = 0 := Nat.mul_mod_left _ _
    have e2 : a.toBitVec.toNat * 2 ^ n % 2 ^ 32 = 0 := by
      obtain ⟨d, rfl⟩ := Nat.exists_eq_add_of_le h
      rw [Nat.pow_add, Nat.mul_comm (2 ^ 32), ← Nat.mul_assoc]
      exact Nat.mul_mod_left _ _
    rw [e1, e2]
theorem shrU32_sound {P : Program} {w : World} (a : UInt32) (yk : IntKind) (n : Nat) : (Op.shift .shr .u32 a.toNat yk n).run P w = .ok (SV.u32 (shr32 a n)).val w := by
  have h0 : ¬ ((n : Int) < 0) := by omega
  simp only [Op.shift, h0, if_false, SV.val, shr32, Int.toNat_natCast, Sem.run_pure]
  congr 2
  rw [Int.fdiv_eq_ediv_of_nonneg _ (by exact Int.le_of_lt (Int.pow_pos (by omega)))]
  rw [show ((a.toNat : Int) / 2 ^ (min n IntKind.u32.bits)) = ((a.toNat / 2 ^ (min n IntKind.u32.bits) : Nat) : Int) from by simp]
  congr 1
  show _ = (a.toBitVec >>> n).toNat
  rw [BitVec.toNat_ushiftRight, Nat.shiftRight_eq_div_pow]
  simp only [IntKind.bits]
  have ha := a.toNat_lt
  rcases Nat.lt_or_ge n 32 with h | h
  · rw [Nat.min_eq_left (by omega)]; rfl
  · rw [Nat.min_eq_right h, Nat.div_eq_of_lt ha]
    exact (Nat.div_eq_of_lt (Nat.lt_of_lt_of_le ha (Nat.pow_le_pow_right (by omega) h))).symm

def binU64 (op : BinOp) (a b : UInt64) : Ans :=
  match op with
  | .add => some (.u64 (a + b), [])
  | .sub => some (.u64 (a - b), [])
  | .mul => some (.u64 (a * b), [])
  | .quo => some (.u64 (a / b), [fun _ => b ≠ 0])
  | .rem => some (.u64 (a % b), [fun _ => b ≠ 0])
  | .and => some (.u64 (a &&& b), [])
  | .or => some (.u64 (a ||| b), [])
  | .xor => some (.u64 (a ^^^ b), [])
  | .andNot => some (.u64 (a &&& ~~~b), [])
  | .eql => some (.b (decide (a = b)), [])
  | .neq => some (.b (decide (a ≠ b)), [])
  | .lss => some (.b (decide (a < b)), [])
  | .leq => some (.b (decide (a ≤ b)), [])
  | .gtr => some (.b (decide (b < a)), [])
  | .geq => some (.b (decide (b ≤ a)), [])
  | _ => none

theorem wrapU64 (n : Nat) : IntKind.u64.wrap (n : Int) = ((n % 2 ^ 64 : Nat) : Int) := by
  simp only [IntKind.wrap, IntKind.bits, IntKind.signed]
  simp [Int.natCast_emod]
theorem wrapU64lt {n : Nat} (h : n < 2 ^ 64) : IntKind.u64.wrap (n : Int) = (n : Int) := by rw [wrapU64, Nat.mod_eq_of_lt h]
theorem wrapU64int (n : Int) : IntKind.u64.wrap n = n % 2 ^ 64 := by
  simp only [IntKind.wrap, IntKind.bits, IntKind.signed]
  simp
theorem bvU64 (z : UInt64) : BitVec.ofInt 64 (z.toNat : Int) = z.toBitVec := by
  apply BitVec.eq_of_toNat_eq
  have := z.toNat_lt
  simp [IntKind.bits]
  try omega
theorem binU64_sound {P : Program} {w : World} {op : BinOp} {a b : UInt64} {x : SV} {cs : List Cond} {t : TypeId} (h : binU64 op a b = some (x, cs)) (hc : ∀ c ∈ cs, c w) :
    (binOp op t (.int .u64 a.toNat) (.int .u64 b.toNat)).run P w = .ok x.val w := by
  have ha := a.toNat_lt
  have hb := b.toNat_lt
  have hz : (b = 0) ↔ (b.toNat = 0) := by rw [← UInt64.toNat_inj]; simp
  cases op <;> simp only [binU64, Option.some.injEq, Prod.mk.injEq, reduceCtorEq] at h <;> obtain ⟨rfl, rfl⟩ := h
  case add => simp only [binOp, Op.intArith, SV.val, ne_eq, not_true_eq_false, if_false, Sem.run_pure]; rw [← Int.natCast_add, wrapU64, UInt64.toNat_add]
  case sub =>
    simp only [binOp, Op.intArith, SV.val, ne_eq, not_true_eq_false, if_false, Sem.run_pure]
    congr 2
    rw [wrapU64int, UInt64.toNat_sub]
    simp only [Nat.reducePow, Int.reducePow] at *
    omega
  case mul => simp only [binOp, Op.intArith, SV.val, ne_eq, not_true_eq_false, if_false, Sem.run_pure]; rw [← Int.natCast_mul, wrapU64, UInt64.toNat_mul]
  case quo =>
    simp only [List.mem_singleton, forall_eq] at hc
    have h0 : ¬ (b.toNat = 0) := fun h => hc (hz.2 h)
    have hl : a.toNat / b.toNat < 2 ^ 64 := Nat.lt_of_le_of_lt (Nat.div_le_self _ _) ha
    simp [binOp, Op.intDiv, SV.val, h0]
    rw [← Int.natCast_ediv, wrapU64lt hl]
  case rem =>
    simp only [List.mem_singleton, forall_eq] at hc
    have h0 : ¬ (b.toNat = 0) := fun h => hc (hz.2 h)
    simp [binOp, Op.intDiv, SV.val, h0]
    rw [Int.tmod_eq_emod_of_nonneg (by omega)]
  case and =>
    show Result.ok (Value.int .u64 (IntKind.u64.wrap ((BitVec.ofInt 64 a.toNat &&& BitVec.ofInt 64 b.toNat).toNat : Nat))) w = _
    rw [bvU64, bvU64]
    exact congrArg (fun z => Result.ok (Value.int .u64 z) w) (wrapU64lt (BitVec.isLt _))
  case or =>
    show Result.ok (Value.int .u64 (IntKind.u64.wrap ((BitVec.ofInt 64 a.toNat ||| BitVec.ofInt 64 b.toNat).toNat : Nat))) w = _
    rw [bvU64, bvU64]
    exact congrArg (fun z => Result.ok (Value.int .u64 z) w) (wrapU64lt (BitVec.isLt _))
  case xor =>
    show Result.ok (Value.int .u64 (IntKind.u64.wrap ((BitVec.ofInt 64 a.toNat ^^^ BitVec.ofInt 64 b.toNat).toNat : Nat))) w = _
    rw [bvU64, bvU64]
    exact congrArg (fun z => Result.ok (Value.int .u64 z) w) (wrapU64lt (BitVec.isLt _))
  case andNot =>
    show Result.ok (Value.int .u64 (IntKind.u64.wrap ((BitVec.ofInt 64 a.toNat &&& ~~~BitVec.ofInt 64 b.toNat).toNat : Nat))) w = _
    rw [bvU64, bvU64]
    exact congrArg (fun z => Result.ok (Value.int .u64 z) w) (wrapU64lt (BitVec.isLt _))
  case eql => simp [binOp, Op.intCmp, SV.val, ← UInt64.toNat_inj]; rw [Bool.eq_iff_iff]; simp; omega
  case neq => simp [binOp, Op.intCmp, SV.val, ← UInt64.toNat_inj]; rw [Bool.eq_iff_iff]; simp; omega
  case lss => simp [binOp, Op.intCmp, SV.val, UInt64.lt_iff_toNat_lt]
  case leq => simp [binOp, Op.intCmp, SV.val, UInt64.le_iff_toNat_le]
  case gtr => simp [binOp, Op.intCmp, SV.val, UInt64.lt_iff_toNat_lt]
  case geq => simp [binOp, Op.intCmp, SV.val, UInt64.le_iff_toNat_le]

theorem shlU64_sound {P : Program} {w : World} (a : UInt64) (yk : IntKind) (n : Nat) : (Op.shift .shl .u64 a.toNat yk n).run P w = .ok (SV.u64 (shl64 a n)).val w := by
  have h0 : ¬ ((n : Int) < 0) := by omega
  simp only [Op.shift, h0, if_false, SV.val, shl64, Int.toNat_natCast, Sem.run_pure]
  congr 2
  rw [show ((a.toNat : Int) * 2 ^ (min n IntKind.u64.bits)) = ((a.toNat * 2 ^ (min n IntKind.u64.bits) : Nat) : Int) from by simp, wrapU64]
  congr 1
  show _ = (a.toBitVec <<< n).toNat
  rw [BitVec.toNat_shiftLeft, Nat.shiftLeft_eq]
  simp only [IntKind.bits]
  rcases Nat.lt_or_ge n 64 with h | h
  · rw [Nat.min_eq_left (by omega)]; rfl
  · rw [Nat.min_eq_right h]
    have e1 : a.toNat * 2 ^ 64 % 2 ^ 64 = 0 := Nat.mul_mod_left _ _
    have e2 : a.toBitVec.toNat * 2 ^ n % 2 ^ 64 = 0 := by
      obtain ⟨d, rfl⟩ := Nat.exists_eq_add_of_le h
      rw [Nat.pow_add, Nat.mul_comm (2 ^ 64), ← Nat.mul_assoc]
      exact Nat.mul_mod_left _ _
    rw [e1, e2]
theorem shrU64_sound {P : Program} {w : World} (a : UInt64) (yk : IntKind) (n : Nat) : (Op.shift .shr .u64 a.toNat yk n).run P w = .ok (SV.u64 (shr64 a n)).val w := by
  have h0 : ¬ ((n : Int) < 0) := by omega
  simp only [Op.shift, h0, if_false, SV.val, shr64, Int.toNat_natCast, Sem.run_pure]
  congr 2
  rw [Int.fdiv_eq_ediv_of_nonneg _ (by exact Int.le_of_lt (Int.pow_pos (by omega)))]
  rw [show ((a.toNat : Int) / 2 ^ (min n IntKind.u64.bits)) = ((a.toNat / 2 ^ (min n IntKind.u64.bits) : Nat) : Int) from by simp]
  congr 1
  show _ = (a.toBitVec >>> n).toNat
  rw [BitVec.toNat_ushiftRight, Nat.shiftRight_eq_div_pow]
  simp only [IntKind.bits]
  have ha := a.toNat_lt
  rcases Nat.lt_or_ge n 64 with h | h
  · rw [Nat.min_eq_left (by omega)]; rfl
  · rw [Nat.min_eq_right h, Nat.div_eq_of_lt ha]
    exact (Nat.div_eq_of_lt (Nat.lt_of_lt_of_le ha (Nat.pow_le_pow_right (by omega) h))).symm

/-! ### every pair of operands -/
def cnt : SV → Option (Nat × List Cond)
  | .u8 x => some (x.toNat, [])
  | .u16 x => some (x.toNat, [])
  | .u32 x => some (x.toNat, [])
  | .u64 x => some (x.toNat, [])
  | .i _ n => some (n.toNat, [fun _ => 0 ≤ n])
  | _ => none

theorem cnt_spec {y : SV} {n : Nat} {cs : List Cond} {w : World} (h : cnt y = some (n, cs)) (hc : ∀ c ∈ cs, c w) : ∃ k, y.val = .int k (n : Int) := by
  cases y <;> simp only [cnt, Option.some.injEq, Prod.mk.injEq, reduceCtorEq] at h <;> obtain ⟨rfl, rfl⟩ := h
  all_goals first | exact ⟨_, rfl⟩ | skip
  rename_i k n
  simp only [List.mem_singleton, forall_eq] at hc
  exact ⟨k, by rw [Int.toNat_of_nonneg hc]; rfl⟩

def sh (op : BinOp) (x : SV) (n : Nat) : Option SV :=
  match op, x with
  | .shl, .u8 a => some (.u8 (shl8 a n))
  | .shl, .u16 a => some (.u16 (shl16 a n))
  | .shl, .u32 a => some (.u32 (shl32 a n))
  | .shl, .u64 a => some (.u64 (shl64 a n))
  | .shl, .i k a => some (.i k (shlI k a n))
  | .shr, .u8 a => some (.u8 (shr8 a n))
  | .shr, .u16 a => some (.u16 (shr16 a n))
  | .shr, .u32 a => some (.u32 (shr32 a n))
  | .shr, .u64 a => some (.u64 (shr64 a n))
  | .shr, .i k a => some (.i k (shrI k a n))
  | _, _ => none

theorem sh_sound {P : Program} {w : World} {op : BinOp} {x r : SV} {yk : IntKind} {n : Nat} {t : TypeId} (h : sh op x n = some r) : (binOp op t x.val (.int yk n)).run P w = .ok r.val w := by
  unfold sh at h
  split at h <;> simp only [Option.some.injEq, reduceCtorEq] at h <;> subst h
  · exact shlU8_sound _ yk n
  · exact shlU16_sound _ yk n
  · exact shlU32_sound _ yk n
  · exact shlU64_sound _ yk n
  · have h0 : ¬ ((n : Int) < 0) := by omega
    simp only [SV.val, binOp, Op.shift, h0, if_false, Int.toNat_natCast, Sem.run_pure, shlI]
  · exact shrU8_sound _ yk n
  · exact shrU16_sound _ yk n
  · exact shrU32_sound _ yk n
  · exact shrU64_sound _ yk n
  · have h0 : ¬ ((n : Int) < 0) := by omega
    simp only [SV.val, binOp, Op.shift, h0, if_false, Int.toNat_natCast, Sem.run_pure, shrI]

def binS (op : BinOp) (a b : List UInt8) : Ans :=
  match op with
  | .add => some (.s (a ++ b), [fun _ => a.length + b.length ≤ 9223372036854775807])
  | .eql => some (.b (decide (a = b)), [])
  | .neq => some (.b (decide (a ≠ b)), [])
  | .lss => some (.b (Op.bytesLess a b), [])
  | .gtr => some (.b (!(Op.bytesLess a b || decide (a = b))), [])
  | .leq => some (.b (Op.bytesLess a b || decide (a = b)), [])
  | .geq => some (.b (!(Op.bytesLess a b)), [])
  | _ => none

theorem binS_sound {P : Program} {w : World} {op : BinOp} {a b : List UInt8} {x : SV} {cs : List Cond} {t : TypeId} (h : binS op a b = some (x, cs)) (hc : ∀ c ∈ cs, c w) :
    (binOp op t (.string ⟨⟨a⟩⟩) (.string ⟨⟨b⟩⟩)).run P w = .ok x.val w := by
  have ea : (ByteArray.mk ⟨a⟩).toList = a := ByteArray.toList_mk a
  have eb : (ByteArray.mk ⟨b⟩).toList = b := ByteArray.toList_mk b
  cases op <;> simp only [binS, Option.some.injEq, Prod.mk.injEq, reduceCtorEq] at h <;> obtain ⟨rfl, rfl⟩ := h
  case add =>
    simp only [List.mem_singleton, forall_eq] at hc
    show (Op.stringOp .add _ _).run P w = _
    have h1 := run_string_add_sum (P := P) (w := w) (ByteArray.mk a.toArray) (ByteArray.mk b.toArray) (by simpa [ByteArray.size] using hc)
    exact h1.trans (congrArg (fun z => Result.ok (Value.string z) w) (ByteArray.mk_append_mk a b))
  all_goals
    simp only [binOp, Op.stringOp, ea, eb, SV.val, Sem.run_pure, Result.ok.injEq, and_true, Value.bool.injEq]
    try (rw [Bool.eq_iff_iff]; simp)


section
variable {P : Program} {w : World} {t : TypeId}
theorem run_equalIn_bool (d : Nat) (ht : P.underlying t = some .bool) (a b : Bool) : (Op.equalIn (d + 1) t (.bool a) (.bool b)).run P w = .ok (a == b) w := by
  simp only [Op.equalIn, Sem.run_bind, run_underlying ht, Result.andThen_ok, Sem.run_pure]
theorem run_equal_bool (ht : P.underlying t = some .bool) (a b : Bool) : (Op.equal t (.bool a) (.bool b)).run P w = .ok (a == b) w := run_equalIn_bool 9999 ht a b
theorem run_equalIn_slice_nil (d : Nat) {e : TypeId} (ht : P.underlying t = some (.slice e)) (p : Option Addr) (n c n' c' : Nat) : (Op.equalIn (d + 1) t (.slice p n c) (.slice none n' c')).run P w = .ok p.isNone w := by
  cases p <;> simp only [Op.equalIn, Sem.run_bind, run_underlying ht, Result.andThen_ok, Sem.run_pure] <;> rfl
theorem run_equal_slice_nil {e : TypeId} (ht : P.underlying t = some (.slice e)) (p : Option Addr) (n c n' c' : Nat) : (Op.equal t (.slice p n c) (.slice none n' c')).run P w = .ok p.isNone w := run_equalIn_slice_nil 9999 ht p n c n' c'
theorem run_equalIn_ptr_nil (d : Nat) {e : TypeId} (ht : P.underlying t = some (.pointer e)) (p : Option Addr) : (Op.equalIn (d + 1) t (.pointer p) (.pointer none)).run P w = .ok p.isNone w := by
  cases p <;> simp only [Op.equalIn, Sem.run_bind, run_underlying ht, Result.andThen_ok, Sem.run_pure] <;> rfl
theorem run_equalIn_iface_nil (n : Nat) {ms : Array (String × TypeId)} (ht : P.underlying t = some (.interface ms)) (d : TypeId) (v : Value) : (Op.equalIn (n + 1) t (.iface d v) .nilIface).run P w = .ok false w := by
  simp only [Op.equalIn, Sem.run_bind, run_underlying ht, Result.andThen_ok, Sem.run_pure]
theorem run_equal_iface_nil {ms : Array (String × TypeId)} (ht : P.underlying t = some (.interface ms)) (d : TypeId) (v : Value) : (Op.equal t (.iface d v) .nilIface).run P w = .ok false w := run_equalIn_iface_nil 9999 ht d v
theorem run_equalIn_func_nil (n : Nat) {ps rs : Array TypeId} {vr : Bool} (ht : P.underlying t = some (.func ps rs vr)) (f : Fn) (a b : Array Value) : (Op.equalIn (n + 1) t (.func f a b) .nilFunc).run P w = .ok false w := by
  simp only [Op.equalIn, Sem.run_bind, run_underlying ht, Result.andThen_ok, Sem.run_pure]
theorem run_equal_func_nil {ps rs : Array TypeId} {vr : Bool} (ht : P.underlying t = some (.func ps rs vr)) (f : Fn) (a b : Array Value) : (Op.equal t (.func f a b) .nilFunc).run P w = .ok false w := run_equalIn_func_nil 9999 ht f a b
theorem run_equalIn_map_nil (n : Nat) {k e : TypeId} (ht : P.underlying t = some (.map k e)) (p : Option Nat) : (Op.equalIn (n + 1) t (.map p) (.map none)).run P w = .ok p.isNone w := by
  cases p <;> simp only [Op.equalIn, Sem.run_bind, run_underlying ht, Result.andThen_ok, Sem.run_pure] <;> rfl
theorem run_equal_map_nil {k e : TypeId} (ht : P.underlying t = some (.map k e)) (p : Option Nat) : (Op.equal t (.map p) (.map none)).run P w = .ok p.isNone w := run_equalIn_map_nil 9999 ht p
theorem run_equal_ptr_nil {e : TypeId} (ht : P.underlying t = some (.pointer e)) (p : Option Addr) : (Op.equal t (.pointer p) (.pointer none)).run P w = .ok p.isNone w := run_equalIn_ptr_nil 9999 ht p
end

def eqB (P : Program) (op : BinOp) (t : TypeId) (x y : SV) : Option SV :=
  match P.underlying t, x, y with
  | some .bool, .b a, .b b => match op with
    | .eql => some (.b (decide (a = b)))
    | .neq => some (.b (decide (a ≠ b)))
    | _ => none
  | some (.slice _), .v (.slice p _ _), .v (.slice none _ _) => match op with
    | .eql => some (.b p.isNone)
    | .neq => some (.b p.isSome)
    | _ => none
  | some (.pointer _), .v (.pointer p), .v (.pointer none) => match op with
    | .eql => some (.b p.isNone)
    | .neq => some (.b p.isSome)
    | _ => none
  | some (.interface _), .v (.iface _ _), .v .nilIface => match op with
    | .eql => some (.b false)
    | .neq => some (.b true)
    | _ => none
  | some (.func _ _ _), .v (.func _ _ _), .v .nilFunc => match op with
    | .eql => some (.b false)
    | .neq => some (.b true)
    | _ => none
  | some (.map _ _), .v (.map p), .v (.map none) => match op with
    | .eql => some (.b p.isNone)
    | .neq => some (.b p.isSome)
    | _ => none
  | _, _, _ => none

theorem eqB_sound {P : Program} {w : World} {op : BinOp} {x y r : SV} {t : TypeId} (h : eqB P op t x y = some r) :
    (binOp op t x.val y.val).run P w = .ok r.val w := by
  unfold eqB at h
  split at h
  · rename_i a b ht
    split at h <;> simp only [Option.some.injEq, reduceCtorEq] at h <;> subst h
    all_goals
      simp only [SV.val, binOp, Sem.run_bind, run_equal_bool ht, Result.andThen_ok, Sem.run_pure, Result.ok.injEq, and_true, Value.bool.injEq]
      try (rw [Bool.eq_iff_iff]; simp)
  · rename_i ht
    split at h <;> simp only [Option.some.injEq, reduceCtorEq] at h <;> subst h
    all_goals
      simp only [SV.val, binOp, Sem.run_bind, run_equal_slice_nil ht, Result.andThen_ok, Sem.run_pure, Result.ok.injEq, and_true, Value.bool.injEq]
      try (rw [Bool.eq_iff_iff]; simp)
  · rename_i ht
    split at h <;> simp only [Option.some.injEq, reduceCtorEq] at h <;> subst h
    all_goals
      simp only [SV.val, binOp, Sem.run_bind, run_equal_ptr_nil ht, Result.andThen_ok, Sem.run_pure, Result.ok.injEq, and_true, Value.bool.injEq]
      try (rw [Bool.eq_iff_iff]; simp)
  · rename_i ht
    split at h <;> simp only [Option.some.injEq, reduceCtorEq] at h <;> subst h
    all_goals
      simp only [SV.val, binOp, Sem.run_bind, run_equal_iface_nil ht, Result.andThen_ok, Sem.run_pure, Result.ok.injEq, and_true, Value.bool.injEq]
      try rfl
  · rename_i ht
    split at h <;> simp only [Option.some.injEq, reduceCtorEq] at h <;> subst h
    all_goals
      simp only [SV.val, binOp, Sem.run_bind, run_equal_func_nil ht, Result.andThen_ok, Sem.run_pure, Result.ok.injEq, and_true, Value.bool.injEq]
      try rfl
  · rename_i ht
    split at h <;> simp only [Option.some.injEq, reduceCtorEq] at h <;> subst h
    all_goals
      simp only [SV.val, binOp, Sem.run_bind, run_equal_map_nil ht, Result.andThen_ok, Sem.run_pure, Result.ok.injEq, and_true, Value.bool.injEq]
      try (rw [Bool.eq_iff_iff]; simp)
  · cases h

def bin (P : Program) (op : BinOp) (t : TypeId) (x y : SV) : Ans :=
  if op = .shl ∨ op = .shr then
    match cnt y with
    | some (n, cs) => match sh op x n with
      | some r => some (r, cs)
      | none => none
    | none => none
  else match x, y with
  | .i k a, .i k' b => if k = k' then binI op k a b else none
  | .u8 a, .u8 b => binU8 op a b
  | .u16 a, .u16 b => binU16 op a b
  | .u32 a, .u32 b => binU32 op a b
  | .u64 a, .u64 b => binU64 op a b
  | .s a, .s b => binS op a b
  | x, y => (eqB P op t x y).map fun r => (r, [])

theorem bin_sound {P : Program} {w : World} {op : BinOp} {x y r : SV} {cs : List Cond} {t : TypeId} (h : bin P op t x y = some (r, cs)) (hc : ∀ c ∈ cs, c w) :
    (binOp op t x.val y.val).run P w = .ok r.val w := by
  unfold bin at h
  split at h
  · split at h
    · rename_i n cs' hn
      split at h
      · rename_i r' hr
        simp only [Option.some.injEq, Prod.mk.injEq] at h
        obtain ⟨rfl, rfl⟩ := h
        obtain ⟨k, hk⟩ := cnt_spec hn hc
        rw [hk]
        exact sh_sound hr
      · cases h
    · cases h
  · split at h
    · split at h
      · rename_i hk
        subst hk
        exact binI_sound h hc
      · cases h
    · exact binU8_sound h hc
    · exact binU16_sound h hc
    · exact binU32_sound h hc
    · exact binU64_sound h hc
    · exact binS_sound h hc
    · simp only [Option.map_eq_some_iff, Prod.mk.injEq] at h
      obtain ⟨r', hr, rfl, rfl⟩ := h
      exact eqB_sound hr

/-! ### the other operations -/
def un (op : UnOp) (x : SV) : Option SV :=
  match op, x with
  | .not, .b a => some (.b (!a))
  | .neg, .i k a => some (.i k (k.wrap (0 - a)))
  | .neg, .u8 a => some (.u8 (0 - a))
  | .neg, .u16 a => some (.u16 (0 - a))
  | .neg, .u32 a => some (.u32 (0 - a))
  | .neg, .u64 a => some (.u64 (0 - a))
  | .xor, .i k a => if k.signed then some (.i k (xorI k (-1) a)) else none
  | .xor, .u8 a => some (.u8 (255 ^^^ a))
  | .xor, .u16 a => some (.u16 (65535 ^^^ a))
  | .xor, .u32 a => some (.u32 (4294967295 ^^^ a))
  | .xor, .u64 a => some (.u64 (18446744073709551615 ^^^ a))
  | _, _ => none

theorem un_sound {P : Program} {w : World} {op : UnOp} {x r : SV} (h : un op x = some r) : (Op.unary op x.val).run P w = .ok r.val w := by
  unfold un at h
  split at h <;> (try split at h) <;> simp only [Option.some.injEq, reduceCtorEq] at h <;> subst h
  · rfl
  · rfl
  · exact binU8_sound (P := P) (w := w) (op := .sub) (a := 0) (t := 0) rfl (by simp)
  · exact binU16_sound (P := P) (w := w) (op := .sub) (a := 0) (t := 0) rfl (by simp)
  · exact binU32_sound (P := P) (w := w) (op := .sub) (a := 0) (t := 0) rfl (by simp)
  · exact binU64_sound (P := P) (w := w) (op := .sub) (a := 0) (t := 0) rfl (by simp)
  · rename_i hk
    simp only [SV.val, Op.unary, hk, if_true, Op.intBits, xorI, Sem.run_pure]
  · exact binU8_sound (P := P) (w := w) (op := .xor) (a := 255) (t := 0) rfl (by simp)
  · exact binU16_sound (P := P) (w := w) (op := .xor) (a := 65535) (t := 0) rfl (by simp)
  · exact binU32_sound (P := P) (w := w) (op := .xor) (a := 4294967295) (t := 0) rfl (by simp)
  · exact binU64_sound (P := P) (w := w) (op := .xor) (a := 18446744073709551615) (t := 0) rfl (by simp)

/-- an integer made of an Int, of a Nat -/
def ofI (k : IntKind) (n : Int) : SV :=
  match k with
  | .u8 => .u8 (UInt8.ofInt n)
  | .u16 => .u16 (UInt16.ofInt n)
  | .u32 => .u32 (UInt32.ofInt n)
  | .u64 => .u64 (UInt64.ofInt n)
  | k => .i k (k.wrap n)
theorem ofI_val (k : IntKind) (n : Int) : (ofI k n).val = .int k (k.wrap n) := by
  cases k <;> simp only [ofI, SV.val]
  · rw [wrapU8int]; congr 1; show ((UInt8.ofNat (n % 2 ^ 8).toNat).toNat : Int) = _; simp; omega
  · rw [wrapU16int]; congr 1; show ((UInt16.ofNat (n % 2 ^ 16).toNat).toNat : Int) = _; simp; omega
  · rw [wrapU32int]; congr 1; show ((UInt32.ofNat (n % 2 ^ 32).toNat).toNat : Int) = _; simp; omega
  · rw [wrapU64int]; congr 1; show ((UInt64.ofNat (n % 2 ^ 64).toNat).toNat : Int) = _; simp; omega
def ofN (k : IntKind) (n : Nat) : SV :=
  match k with
  | .u8 => .u8 (UInt8.ofNat n)
  | .u16 => .u16 (UInt16.ofNat n)
  | .u32 => .u32 (UInt32.ofNat n)
  | .u64 => .u64 (UInt64.ofNat n)
  | k => .i k (k.wrap n)
theorem ofN_val (k : IntKind) (n : Nat) : (ofN k n).val = .int k (k.wrap n) := by
  cases k <;> simp only [ofN, SV.val]
  · rw [wrapU8]; rfl
  · rw [wrapU16]; rfl
  · rw [wrapU32]; rfl
  · rw [wrapU64]; rfl
theorem wrap64_nat {n : Nat} (h : n < 9223372036854775808) : IntKind.i64.wrap (n : Int) = n := by
  simp only [IntKind.wrap, IntKind.bits, IntKind.signed]
  simp
  omega

/-- a conversion between integers -/
def cvI (k : IntKind) (x : SV) : Option SV :=
  match k, x with
  | .i64, .u8 a => some (.i .i64 a.toNat)
  | .i64, .u16 a => some (.i .i64 a.toNat)
  | .i64, .u32 a => some (.i .i64 a.toNat)
  | k, .u8 a => some (ofN k a.toNat)
  | k, .u16 a => some (ofN k a.toNat)
  | k, .u32 a => some (ofN k a.toNat)
  | k, .u64 a => some (ofN k a.toNat)
  | k, .i _ n => some (ofI k n)
  | _, _ => none
theorem cvI_sound {P : Program} {w : World} {k : IntKind} {x r : SV} (h : cvI k x = some r) : ∃ k' n, x.val = .int k' n ∧ (Conv.intToInt k n).run P w = .ok r.val w := by
  unfold cvI at h
  split at h <;> simp only [Option.some.injEq, reduceCtorEq] at h <;> subst h
  · rename_i a
    exact ⟨_, _, rfl, congrArg (fun z => Result.ok (Value.int .i64 z) w) (wrap64_nat (by have := a.toNat_lt; omega))⟩
  · rename_i a
    exact ⟨_, _, rfl, congrArg (fun z => Result.ok (Value.int .i64 z) w) (wrap64_nat (by have := a.toNat_lt; omega))⟩
  · rename_i a
    exact ⟨_, _, rfl, congrArg (fun z => Result.ok (Value.int .i64 z) w) (wrap64_nat (by have := a.toNat_lt; omega))⟩
  all_goals first
    | exact ⟨_, _, rfl, congrArg (fun z => Result.ok z w) (ofN_val _ _).symm⟩
    | exact ⟨_, _, rfl, congrArg (fun z => Result.ok z w) (ofI_val _ _).symm⟩

end Go.Sx
