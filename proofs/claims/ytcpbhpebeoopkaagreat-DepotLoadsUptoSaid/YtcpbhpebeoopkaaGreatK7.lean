import Derived.Test.YtcpbhpebeoopkaaGreatK6
namespace Go.Sx
open Go.RowKit
set_option linter.unusedVariables false
set_option linter.unusedSimpArgs false
def word64 : List UInt8 -> UInt64
  | [] => 0
  | b :: r => UInt64.ofNat b.toNat + 256 * word64 r
def Lj : List UInt8 -> Nat
  | [] => 0
  | b :: r => b.toNat + 256 * Lj r
theorem leN_lt (l : List UInt8) : Lj l < 256 ^ l.length := by
  induction l with
  | nil => simp [Lj]
  | cons b r ih =>
    have := b.toNat_lt;simp only [Lj, List.length_cons, Nat.pow_succ];omega
theorem VD (l : List UInt8) (b : UInt8) : Lj (l ++ [b]) = Lj l + 256 ^ l.length * b.toNat := by
  induction l with
  | nil => simp [Lj]
  | cons x r ih =>
    simp only [List.cons_append, Lj, ih, List.length_cons, Nat.pow_succ, Nat.mul_add];rw [Nat.mul_comm (256 ^ r.length) 256, Nat.mul_assoc];omega
theorem VE (n : Nat) : 256 ^ n = 2 ^ (8 * n) := by
  rw [show (256 : Nat) = 2 ^ 8 from rfl, <- Nat.pow_mul]
theorem wload (b : List UInt8) (hb : b.length <= 33554432) (at_ : Int) (ha : -9223372036854775808 <= at_ /\ at_ <= 9223372036854775807) (n : Nat) (hn : n <= 8) :
    xJ b at_ n = some (if at_ < 0 then (0, 1) else if (b.length : Int) < at_ + n then (0, 3) else (UInt64.ofNat (Lj ((b.drop at_.toNat).take n)), 0)) := by
  unfold xJ;by_cases h0 : at_ < 0
  ·rw [if_pos h0, if_pos h0]
  rw [if_neg h0, if_neg h0];have e : ((decide (((b.length : Nat) : Int) < at_)) || (decide ((aG (((b.length : Nat) : Int) - at_)) < n))) = true ↔ (b.length : Int) < at_ + n := by
    rw [iK (by omega)];simp only [Bool.or_eq_true, decide_eq_true_eq];omega
  by_cases h1 : (b.length : Int) < at_ + n
  ·rw [if_pos (e.2 h1), if_pos h1]
  rw [if_neg (fun h => h1 (e.1 h)), if_neg h1];obtain ⟨a, rfl⟩ : ∃ a : Nat, at_ = a := ⟨at_.toNat, by omega⟩
  simp only [Int.toNat_natCast];refine xI (fun i s => s = (UInt64.ofNat (Lj ((b.drop a).take i)), (i : Int)) /\ i <= n) _ n _ ⟨by simp [Lj], by omega⟩ ?_;rintro i s ⟨rfl, hi⟩;unfold xY;by_cases hlt : i < n
  ·left;refine ⟨hlt, (UInt64.ofNat (Lj ((b.drop a).take (i + 1))), ((i + 1 : Nat) : Int)), ?_, rfl, by omega⟩;have e1 : aG ((a : Int) + (i : Int)) = ((a + i : Nat) : Int) := by rw [iK (by omega)];omega
   have hai : a + i < b.length := by omega
   have e2 : aG (8 * (i : Int)) = ((8 * i : Nat) : Int) := by rw [iK (by omega)];omega
   have e3 : aG ((i : Int) + 1) = ((i + 1 : Nat) : Int) := by rw [iK (by omega)];omega
   simp only [];rw [if_pos (by omega), e1, bQ hai];simp only [Option.bind_some];rw [e2, qL (by omega), e3];simp only [Option.bind_some, Int.toNat_natCast];congr 3;have hd : (b.drop a).take (i + 1) = (b.drop a).take i ++ [b[a + i]] := by
     rw [List.take_succ_eq_append_getElem (by simp;omega)];simp
   rw [hd, VD, List.length_take, List.length_drop, Nat.min_eq_left (by omega), VE];have hx := (b[a + i]).toNat_lt;have hlt2 := leN_lt ((b.drop a).take i);rw [List.length_take, List.length_drop, Nat.min_eq_left (by omega), VE] at hlt2;have hp : 2 ^ (8 * i) * 256 = 2 ^ (8 * (i + 1)) := by rw [show 8 * (i + 1) = 8 * i + 8 from by omega, Nat.pow_add]
   have hq : 2 ^ (8 * (i + 1)) <= 2 ^ 64 := Nat.pow_le_pow_right (by omega) (by omega);have hr : 2 ^ (8 * i) * (b[a + i]).toNat < 2 ^ (8 * (i + 1)) := by
     rw [<- hp];exact Nat.mul_lt_mul_of_pos_left hx (Nat.pow_pos (by omega))
   apply UInt64.eq_of_toBitVec_eq;apply BitVec.eq_of_toNat_eq;simp only [UInt64.toBitVec_or, sH, BitVec.toNat_or, BitVec.toNat_shiftLeft];simp only [UInt64.toNat_toBitVec, UInt64.toNat_ofNat'];have m1 : Lj ((b.drop a).take i) % 2 ^ 64 = Lj ((b.drop a).take i) := Nat.mod_eq_of_lt (by omega);have m2 : (b[a + i]).toNat % 2 ^ 64 = (b[a + i]).toNat := Nat.mod_eq_of_lt (by omega);have m3 : ((b[a + i]).toNat <<< (8 * i)) % 2 ^ 64 = (b[a + i]).toNat <<< (8 * i) := by
     apply Nat.mod_eq_of_lt;rw [Nat.shiftLeft_eq, Nat.mul_comm];omega
   rw [m1, m2, m3, Nat.or_comm, <- Nat.shiftLeft_add_eq_or_of_lt hlt2, Nat.shiftLeft_eq, Nat.mul_comm];rw [Nat.mod_eq_of_lt]
   ·omega
   ·have : Lj ((b.drop a).take i) + 2 ^ (8 * i) * (b[a + i]).toNat < 2 ^ (8 * (i + 1)) := by
      rw [<- hp];have h5 : 2 ^ (8 * i) * (b[a + i]).toNat + 2 ^ (8 * i) <= 2 ^ (8 * i) * 256 := by
        rw [<- Nat.mul_succ];exact Nat.mul_le_mul_left _ (by omega)
      omega
    omega
  ·right;obtain rfl : i = n := by omega
   simp
theorem rload (b : List UInt8) (hb : b.length <= 33554432) (at_ : Int) (ha : -9223372036854775808 <= at_ /\ at_ <= 9223372036854775807) (n : Nat) (hn : n <= 8) :
    tK b at_ n = some (if at_ < 0 then (0, 1) else if (b.length : Int) < at_ + n then (0, 3) else (UInt64.ofNat (Lj ((b.drop at_.toNat).take n)), 0)) := by
  unfold tK;by_cases h0 : at_ < 0
  ·rw [if_pos h0, if_pos h0]
  rw [if_neg h0, if_neg h0];have e : ((decide (((b.length : Nat) : Int) < at_)) || (decide ((aG (((b.length : Nat) : Int) - at_)) < n))) = true ↔ (b.length : Int) < at_ + n := by
    rw [iK (by omega)];simp only [Bool.or_eq_true, decide_eq_true_eq];omega
  by_cases h1 : (b.length : Int) < at_ + n
  ·rw [if_pos (e.2 h1), if_pos h1]
  rw [if_neg (fun h => h1 (e.1 h)), if_neg h1];obtain ⟨a, rfl⟩ : ∃ a : Nat, at_ = a := ⟨at_.toNat, by omega⟩
  simp only [Int.toNat_natCast];rw [iK (by omega)];refine xI (fun i s => s = (UInt64.ofNat (Lj (((b.drop a).take n).drop (n - i))), (n : Int) - 1 - i) /\ i <= n) _ n _ ⟨?_, by omega⟩ ?_
  ·have : ((b.drop a).take n).drop (n - 0) = [] := by apply List.drop_eq_nil_of_le;simp;omega
   rw [this];simp [Lj]
  rintro i s ⟨rfl, hi⟩;unfold zn;by_cases hlt : i < n
  ·left;refine ⟨hlt, _, ?_, rfl, by omega⟩;have e1 : aG ((a : Int) + ((n : Int) - 1 - i)) = ((a + (n - 1 - i) : Nat) : Int) := by rw [iK (by omega)];omega
   have e3 : aG ((n : Int) - 1 - i - 1) = (n : Int) - 1 - ((i + 1 : Nat) : Int) := by rw [iK (by omega)];omega
   simp only [];rw [if_pos (by omega), e1, bQ (by omega : a + (n - 1 - i) < b.length)];simp only [Option.bind_some];rw [e3];congr 3;have hd : ((b.drop a).take n).drop (n - (i + 1)) = b[a + (n - 1 - i)] :: ((b.drop a).take n).drop (n - i) := by
     rw [List.drop_eq_getElem_cons (by simp;omega)];simp only [List.getElem_take, List.getElem_drop];have q1 : n - (i + 1) + 1 = n - i := by omega
     rw [q1];congr 2;omega
   rw [hd, Lj];apply UInt64.eq_of_toBitVec_eq;apply BitVec.eq_of_toNat_eq;simp only [UInt64.toNat_toBitVec, UInt64.toNat_add, UInt64.toNat_mul, UInt64.toNat_ofNat'];generalize Lj _ = y;generalize (b[a + (n - 1 - i)]).toNat = z;have : UInt64.toNat 256 = 256 := rfl;rw [this];omega
  ·right;obtain rfl : i = n := by omega
   simp only [];rw [if_neg (by omega)];simp
theorem load64 (b : List UInt8) (hb : b.length <= 33554432) (at_ : Int) (ha : -9223372036854775808 <= at_ /\ at_ <= 9223372036854775807) :
    oV b at_ = some (if at_ < 0 then (0, 1) else if (b.length : Int) < at_ + 8 then (0, 3) else (UInt64.ofNat (Lj ((b.drop at_.toNat).take 8)), 0)) := by
  unfold oV;have := wload b hb at_ ha 8 (by omega);rw [show ((8 : Nat) : Int) = 8 from rfl] at this;rw [this];rfl
theorem store64 (w : UInt64) : vk w = some ((List.range 8).map fun i => UInt8.ofNat (w.toNat / 256 ^ i)) := by
  unfold vk;refine xI (fun i s => s = ((List.range i).map (fun i => UInt8.ofNat (w.toNat / 256 ^ i)) ++ List.replicate (8 - i) 0, (i : Int)) /\ i <= 8) _ 8 _ ⟨by simp, by omega⟩ ?_;rintro i s ⟨rfl, hi⟩;unfold uK;by_cases hlt : i < 8
  ·left;refine ⟨hlt, _, ?_, rfl, by omega⟩;have e2 : aG (8 * (i : Int)) = ((8 * i : Nat) : Int) := by rw [iK (by omega)];omega
   have e3 : aG ((i : Int) + 1) = ((i + 1 : Nat) : Int) := by rw [iK (by omega)];omega
   simp only [];rw [if_pos (by omega), e2, qL (by omega), e3];simp only [Option.bind_some];rw [bQ (by simp;omega)];simp only [Option.bind_some, Int.toNat_natCast];congr 3;have hr : List.replicate (8 - i) (0 : UInt8) = 0 :: List.replicate (8 - (i + 1)) 0 := by
     rw [<- List.replicate_succ];congr 1;omega
   rw [hr, List.range_succ, List.map_append, List.append_assoc];rw [List.set_append_right _ _ (by simp)];simp only [List.length_map, List.length_range, Nat.sub_self, List.set_cons_zero, List.map_cons, List.map_nil, List.cons_append, List.nil_append];congr 2;apply UInt8.eq_of_toBitVec_eq;apply BitVec.eq_of_toNat_eq;simp only [lM, VE];simp [Nat.shiftRight_eq_div_pow]
  ·right;obtain rfl : i = 8 := by omega
   simp
theorem rstore (w : UInt64) (n : Nat) (hn : n <= 8) : zQ w n = some ((List.range n).map fun i => UInt8.ofNat (w.toNat / 256 ^ i)) := by
  unfold zQ;refine xI (fun i s => s = (UInt64.ofNat (w.toNat / 256 ^ i), (List.range i).map (fun i => UInt8.ofNat (w.toNat / 256 ^ i)), (i : Int)) /\ i <= n) _ n _ ⟨by simp, by omega⟩ ?_;rintro i s ⟨rfl, hi⟩;unfold yw;have hw := w.toNat_lt;have hd : w.toNat / 256 ^ i <= w.toNat := Nat.div_le_self _ _;by_cases hlt : i < n
  ·left;refine ⟨hlt, _, ?_, rfl, by omega⟩;have e3 : aG ((i : Int) + 1) = ((i + 1 : Nat) : Int) := by rw [iK (by omega)];omega
   simp only [];rw [if_pos (by omega), uD (by simp;omega), e3];simp only [Option.bind_some];have q1 : UInt64.ofNat (w.toNat / 256 ^ i) / 256 = UInt64.ofNat (w.toNat / 256 ^ (i + 1)) := by
     apply UInt64.eq_of_toBitVec_eq;apply BitVec.eq_of_toNat_eq;simp only [UInt64.toNat_toBitVec, UInt64.toNat_div, UInt64.toNat_ofNat'];rw [Nat.mod_eq_of_lt (by omega), Nat.mod_eq_of_lt (Nat.lt_of_le_of_lt (Nat.div_le_self _ _) hw), Nat.pow_succ, <- Nat.div_div_eq_div_mul];rfl
   have q2 : UInt8.ofNat (UInt64.ofNat (w.toNat / 256 ^ i) % 256).toNat = UInt8.ofNat (w.toNat / 256 ^ i) := by
     apply UInt8.eq_of_toBitVec_eq;apply BitVec.eq_of_toNat_eq;simp only [UInt8.toNat_toBitVec, UInt8.toNat_ofNat', UInt64.toNat_mod, UInt64.toNat_ofNat'];rw [show UInt64.toNat 256 = 256 from rfl];omega
   rw [q1, q2, List.range_succ, List.map_append];rfl
  ·right;obtain rfl : i = n := by omega
   simp
theorem add_ok (lo hi n : UInt64) : xw lo hi n = some (UInt64.ofNat (lo.toNat + 18446744073709551616 * hi.toNat + n.toNat), UInt64.ofNat ((lo.toNat + 18446744073709551616 * hi.toNat + n.toNat) / 18446744073709551616), decide (340282366920938463463374607431768211456 <= lo.toNat + 18446744073709551616 * hi.toNat + n.toNat)) := by
  have hl := lo.toNat_lt;have hh := hi.toNat_lt;have hn := n.toNat_lt;unfold xw Rx;simp only [show (0 : UInt64).toNat = 0 from rfl, Nat.zero_le, if_true, Option.bind_some, Nat.add_zero];have hc : (UInt64.ofNat ((lo.toNat + n.toNat) / 18446744073709551616)).toNat = (lo.toNat + n.toNat) / 18446744073709551616 := by
    simp only [UInt64.toNat_ofNat'];omega
  rw [hc, if_pos (by omega)];simp only [Option.bind_some, Option.some.injEq, Prod.mk.injEq];refine ⟨?_, ?_, ?_⟩
  ·rw [<- UInt64.toNat_inj];simp only [UInt64.toNat_ofNat'];omega
  ·rw [<- UInt64.toNat_inj];simp only [UInt64.toNat_ofNat'];omega
  ·rw [decide_eq_decide, <- UInt64.toNat_inj];simp only [UInt64.toNat_ofNat', show (1 : UInt64).toNat = 1 from rfl];omega
theorem radd (lo hi n : UInt64) : yT lo hi n = some (UInt64.ofNat (lo.toNat + 18446744073709551616 * hi.toNat + n.toNat), UInt64.ofNat ((lo.toNat + 18446744073709551616 * hi.toNat + n.toNat) / 18446744073709551616), decide (340282366920938463463374607431768211456 <= lo.toNat + 18446744073709551616 * hi.toNat + n.toNat)) := by
  have hl := lo.toNat_lt;have hh := hi.toNat_lt;have hn := n.toNat_lt;unfold yT;have hs : (lo + n).toNat = (lo.toNat + n.toNat) % 18446744073709551616 := UInt64.toNat_add lo n;have hh1 : (hi + 1).toNat = (hi.toNat + 1) % 18446744073709551616 := UInt64.toNat_add hi 1;by_cases hc : lo <= lo + n
  ·rw [if_pos hc];rw [UInt64.le_iff_toNat_le, hs] at hc;simp only [Option.some.injEq, Prod.mk.injEq];refine ⟨?_, ?_, ?_⟩
   ·rw [<- UInt64.toNat_inj, hs];simp only [UInt64.toNat_ofNat'];omega
   ·rw [<- UInt64.toNat_inj];simp only [UInt64.toNat_ofNat'];omega
   ·symm;rw [decide_eq_false_iff_not];omega
  ·rw [if_neg hc];rw [UInt64.le_iff_toNat_le, hs] at hc;simp only [Option.some.injEq, Prod.mk.injEq];refine ⟨?_, ?_, ?_⟩
   ·rw [<- UInt64.toNat_inj, hs];simp only [UInt64.toNat_ofNat'];omega
   ·rw [<- UInt64.toNat_inj, hh1];simp only [UInt64.toNat_ofNat'];omega
   ·rw [decide_eq_decide, <- UInt64.toNat_inj, hh1];simp only [show (0 : UInt64).toNat = 0 from rfl];omega
def Ae (c : UInt64 × UInt64) (n : UInt64) : UInt64 × UInt64 := (UInt64.ofNat (c.1.toNat + 18446744073709551616 * c.2.toNat + n.toNat), UInt64.ofNat ((c.1.toNat + 18446744073709551616 * c.2.toNat + n.toNat) / 18446744073709551616))
def QK (b : List UInt8) (i : Nat) : UInt64 := UInt64.ofNat (Lj ((b.drop (8 * i)).take 8))
def Wb (b : List UInt8) : Vec UInt64 16 := (List.range 16).foldl (fun m (i : Nat) => uZ m i (QK b i)) (Vec.rep 16 0)
theorem mul8 (i : Nat) (h : i < 100) : aG (8 * (i : Int)) = ((8 * i : Nat) : Int) := by rw [iK (by omega)];omega
theorem wload8 (b : List UInt8) (i : Nat) (hb : b.length <= 33554432) (hi : 8 * i + 8 <= b.length) : oV b ((8 * i : Nat) : Int) = some (QK b i, 0) := by
  rw [load64 b hb _ (by omega), if_neg (by omega), if_neg (by omega), Int.toNat_natCast];rfl
theorem rload8 (b : List UInt8) (i : Nat) (hb : b.length <= 33554432) (hi : 8 * i + 8 <= b.length) : tK b ((8 * i : Nat) : Int) 8 = some (QK b i, 0) := by
  have := rload b hb ((8 * i : Nat) : Int) (by omega) 8 (by omega);rw [show ((8 : Nat) : Int) = 8 from rfl] at this;rw [this, if_neg (by omega), if_neg (by omega), Int.toNat_natCast];rfl
theorem wWords (b : List UInt8) (hb : b.length = 128) : x9 b = some (Wb b, 0) := by
  unfold x9;rw [if_neg (by omega)];refine DN _ 16 (fun m (i : Nat) => uZ m i (QK b i)) _ _ (fun v i hi => ?_) (by unfold um;simp only [];rw [if_neg (by omega)];rfl);unfold um;simp only [];rw [if_pos (by omega), mul8 i (by omega), wload8 b i (by omega) (by omega), lg _ _ hi, je i (by omega)];rfl
theorem rWords (b : List UInt8) (hb : b.length = 128) : zL b = some (Wb b, 0) := by
  unfold zL;rw [if_neg (by omega)];refine DN _ 16 (fun m (i : Nat) => uZ m i (QK b i)) _ _ (fun v i hi => ?_) (by unfold vF;simp only [];rw [if_neg (by omega)];rfl);unfold vF;simp only [];rw [if_pos (by omega), mul8 i (by omega), rload8 b i (by omega) (by omega), lg _ _ hi, je i (by omega)];rfl
def Stb (b : List UInt8) : Vec UInt64 8 := (List.range 8).foldl (fun h (i : Nat) => uZ h i (ivb.getD i 0 ^^^ QK b i)) (Vec.rep 8 0)
theorem rStart (b : List UInt8) (hb : b.length = 64) : zK b = some (Stb b, 0) := by
  unfold zK;rw [if_neg (by omega)];refine DN _ 8 (fun m (i : Nat) => uZ m i (ivb.getD i 0 ^^^ QK b i)) _ _ (fun v i hi => ?_) (by unfold vC;simp only [];rw [if_neg (by omega)];rfl);unfold vC;simp only [];rw [if_pos (by omega), mul8 i (by omega), rload8 b i (by omega) (by omega), lg _ _ hi, je i (by omega), riv i hi];rfl
theorem wStart (b : List UInt8) (hb : b.length = 64) : xZ b = some (Stb b, 0) := by
  unfold xZ Dh;rw [if_neg (by omega)];simp only [Option.bind_some];have key : ∀ x : Nat -> UInt64, (List.range 8).foldl (fun (h : Vec UInt64 8) (i : Nat) => uZ h i (h.g i ^^^ x i)) ⟨ivb, rfl⟩ = (List.range 8).foldl (fun h (i : Nat) => uZ h i (ivb.getD i 0 ^^^ x i)) (Vec.rep 8 0) := fun x => rfl;refine DN _ 8 (fun h (i : Nat) => uZ h i (h.g i ^^^ QK b i)) _ _ (fun v i hi => ?_) ?_
  ·unfold xe;simp only [];rw [if_pos (by omega), mul8 i (by omega), wload8 b i (by omega) (by omega), lg _ _ hi, je i (by omega)];rfl
  ·have := key (QK b);unfold ivb at this;rw [this];rfl
def st8 (n : Nat) (w : UInt64) : List UInt8 := (List.range n).map fun i => UInt8.ofNat (w.toNat / 256 ^ i)
def Byb (h : Vec UInt64 8) : List UInt8 := (List.range 8).foldl (fun b i => b ++ st8 8 (h.g i)) []
theorem VF (h : Nat -> List UInt8) (k : Nat) (hk : ∀ i, (h i).length = k) : ∀ n, ((List.range n).foldl (fun b i => b ++ h i) []).length = n * k := by
  intro n
  induction n with
  | zero => simp
  | succ n ih => rw [List.range_succ, List.foldl_append];simp only [List.foldl_cons, List.foldl_nil, List.length_append, ih, hk];rw [Nat.succ_mul]
theorem QL (n : Nat) (w : UInt64) : (st8 n w).length = n := by simp [st8]
theorem QM (h : Vec UInt64 8) : (Byb h).length = 64 := by unfold Byb;rw [VF _ 8 (fun i => QL 8 _)]
theorem wBytes (h : Vec UInt64 8) : yh h = some (Byb h) := by
  unfold yh;refine iL (fun i => ((List.range i).foldl (fun b i => b ++ st8 8 (h.g i)) [], (i : Int))) 8 (fun i hi => ?_) rfl;unfold xg;simp only [];rw [if_pos (by omega), lg _ _ hi, je i (by omega)];simp only [Option.bind_some];rw [store64];simp only [Option.bind_some];have hq : (List.range (i + 1)).foldl (fun b i => b ++ st8 8 (h.g i)) [] = (List.range i).foldl (fun b i => b ++ st8 8 (h.g i)) [] ++ st8 8 (h.g i) := by rw [List.range_succ, List.foldl_append];rfl
  rw [uD (by rw [VF _ 8 (fun i => QL 8 _)];simp;omega), hq];rfl
end Go.Sx
namespace Go.Sx
open Go.RowKit
set_option linter.unusedVariables false
set_option linter.unusedSimpArgs false
theorem off32 (x : UInt64) : ((4294967296 : UInt64) <= x) ↔ ((4294967295 : UInt64) < x) := by
  rw [UInt64.le_iff_toNat_le, UInt64.lt_iff_toNat_lt, show (4294967296 : UInt64).toNat = 4294967296 from rfl, show (4294967295 : UInt64).toNat = 4294967295 from rfl];omega
theorem off48 (x : UInt64) : ((281474976710656 : UInt64) <= x) ↔ ((281474976710655 : UInt64) < x) := by
  rw [UInt64.le_iff_toNat_le, UInt64.lt_iff_toNat_lt, show (281474976710656 : UInt64).toNat = 281474976710656 from rfl, show (281474976710655 : UInt64).toNat = 281474976710655 from rfl];omega
variable {α : Type}
theorem pick_or {β : Type} (f : Bool -> β) (c d : Bool) : (if c = true then f c else f d) = f (c || d) := by cases c <;> rfl
theorem ifc {c d : Prop} [Decidable c] [Decidable d] {x y z : α} (h : c ↔ d) (e : y = z) : (if c then x else y) = (if d then x else z) := by
  subst e;by_cases hd : d
  ·rw [if_pos hd, if_pos (h.2 hd)]
  ·rw [if_neg hd, if_neg fun hc => hd (h.1 hc)]
theorem TR (k S m q d ky f dp : Int) (lf : UInt32) (off : UInt64) (n_ : UInt32) (nd pV : Int) (jD jT : List UInt8) (hk : uy k = some (S, m, q)) (hm : nV k = some m) (h0 : m ≠ 0) (hq : aG (Int.tdiv m 4) = q) : rG k d ky f dp lf off n_ nd pV jD jT = jq k d ky f dp lf off n_ nd pV jD jT := by
  unfold rG jq;rw [hk, hm];simp only [Option.bind_some];rw [if_neg h0, if_neg h0, hq];have key : ∀ least : Int, (least = 0 /\ n_ ≠ 0 ∨ least = 1 /\ n_ = 0) -> o5 k d ky f dp off n_ nd pV jD jT (S, m, q) least = (if ((decide (d < 1)) || (decide (m < d))) = true then
      (some (20 : Int))
    else (if ((decide (ky < 0)) || (decide (m < ky))) = true then
      (some (8 : Int))
    else (if ((decide (f < 0)) || (decide (255 < f))) = true then
      (some (21 : Int))
    else (if (((decide (dp < 0)) || (decide (255 < dp))) || ((decide (dp = 0)) && (decide (n_ = 0)))) = true then
      (some (22 : Int))
    else (if (((decide (n_ ≠ 0)) && (decide ((4294967295 : UInt64) < off))) || (((decide (n_ = 0)) && (decide (k = 2))) && (decide ((281474976710655 : UInt64) < off)))) = true then
      (some (23 : Int))
    else (if ((decide (k = 2)) && (decide ((65535 : UInt32) < n_))) = true then
      (some (24 : Int))
    else (if ((decide (nd < 0)) || (decide (255 < nd))) = true then
      (some (25 : Int))
    else (if ((decide (pV < 0)) || (decide (m < pV))) = true then
      (some (26 : Int))
    else (if q < ((jD.length : Nat) : Int) then
      (some (27 : Int))
    else (if q < ((jT.length : Nat) : Int) then
      (some (28 : Int))
    else (some (0 : Int)))))))))))) := by
    intro least hl;unfold o5;rw [pick_or];unfold sJ wz;simp only [l_, Option.bind_some];refine ifc (by simp only [Bool.not_eq_true', Bool.and_eq_false_iff, decide_eq_false_iff_not, Bool.or_eq_true, decide_eq_true_eq];omega) ?_;refine ifc (by simp only [Bool.not_eq_true', Bool.and_eq_false_iff, decide_eq_false_iff_not, Bool.or_eq_true, decide_eq_true_eq];omega) ?_;refine ifc (by simp only [Bool.not_eq_true', Bool.and_eq_false_iff, decide_eq_false_iff_not, Bool.or_eq_true, decide_eq_true_eq];omega) ?_;refine ifc (by
      simp only [Bool.not_eq_true', Bool.and_eq_false_iff, decide_eq_false_iff_not, Bool.or_eq_true, decide_eq_true_eq, Bool.and_eq_true];rcases hl with ⟨rfl, hx⟩ | ⟨rfl, hx⟩
      ·simp only [hx, and_false, or_false];omega
      ·simp only [hx, and_true];omega) ?_
    refine ifc (by simp only [off32, off48]) ?_;refine ifc Iff.rfl ?_;refine ifc (by simp only [Bool.not_eq_true', Bool.and_eq_false_iff, decide_eq_false_iff_not, Bool.or_eq_true, decide_eq_true_eq];omega) ?_;refine ifc (by simp only [Bool.not_eq_true', Bool.and_eq_false_iff, decide_eq_false_iff_not, Bool.or_eq_true, decide_eq_true_eq];omega) ?_;rfl
  by_cases hx : n_ = 0
  ·rw [if_neg (by simpa using hx)];exact key 1 (.inr ⟨rfl, hx⟩)
  ·rw [if_pos hx];exact key 0 (.inl ⟨rfl, hx⟩)
theorem TS (k d ky f dp : Int) (lf : UInt32) (off : UInt64) (n_ : UInt32) (nd pV : Int) (jD jT : List UInt8) : rG k d ky f dp lf off n_ nd pV jD jT = jq k d ky f dp lf off n_ nd pV jD jT := by
  by_cases k1 : k = 1
  ·subst k1;exact TR 1 64 64 16 _ _ _ _ _ _ _ _ _ _ _ rfl rfl (by omega) rfl
  ·by_cases k2 : k = 2
   ·subst k2;exact TR 2 32 32 8 _ _ _ _ _ _ _ _ _ _ _ rfl rfl (by omega) rfl
   ·unfold rG uy jq nV;simp only [k1, k2, if_false, Option.bind_some, if_true]
theorem zA {c : Prop} [Decidable c] {n : Int} {Q : Int -> Prop} {e : Option Int} (h0 : n ≠ 0) (h : ¬ c -> ∃ r, e = some r /\ (r = 0 -> Q r)) : ∃ r, (if c then some n else e) = some r /\ (r = 0 -> Q r) := by
  by_cases hc : c
  ·rw [if_pos hc];exact ⟨n, rfl, fun h => absurd h h0⟩
  ·rw [if_neg hc];exact h hc
theorem NH (k d ky f dp : Int) (lf : UInt32) (off : UInt64) (n_ : UInt32) (nd pV : Int) (jD jT : List UInt8) : ∃ r, jq k d ky f dp lf off n_ nd pV jD jT = some r /\ (r = 0 -> (k = 1 /\ 1 <= d /\ d <= 64 /\ ky <= 64 /\ jD.length <= 16 /\ jT.length <= 16) ∨ (k = 2 /\ 1 <= d /\ d <= 32 /\ ky <= 32 /\ jD.length <= 8 /\ jT.length <= 8)) := by
  have q1 : aG (Int.tdiv 64 4) = 16 := by rfl
  have q2 : aG (Int.tdiv 32 4) = 8 := by rfl
  have key : ∀ m q : Int, aG (Int.tdiv m 4) = q -> nV k = some m -> m ≠ 0 -> ∃ r, jq k d ky f dp lf off n_ nd pV jD jT = some r /\ (r = 0 -> (1 <= d /\ d <= m /\ ky <= m /\ (jD.length : Int) <= q /\ (jT.length : Int) <= q)) := by
    intro m q hq hm h0;unfold jq;rw [hm];simp only [Option.bind_some];rw [if_neg h0, hq];refine zA (Q := fun _ => _) (by omega) fun h1 => zA (Q := fun _ => _) (by omega) fun h2 => zA (Q := fun _ => _) (by omega) fun h3 => zA (Q := fun _ => _) (by omega) fun h4 => zA (Q := fun _ => _) (by omega) fun h5 => zA (Q := fun _ => _) (by omega) fun h6 => zA (Q := fun _ => _) (by omega) fun h7 => zA (Q := fun _ => _) (by omega) fun h8 => zA (Q := fun _ => _) (by omega) fun h9 => zA (Q := fun _ => _) (by omega) fun h10 => ⟨0, rfl, fun _ => ?_⟩
    simp only [Bool.or_eq_true, decide_eq_true_eq] at h1 h2;omega
  by_cases k1 : k = 1
  ·obtain ⟨r, h1, h2⟩ := key 64 16 q1 (by rw [k1];rfl) (by omega);exact ⟨r, h1, fun h => .inl ⟨k1, by have := h2 h;omega⟩⟩
  ·by_cases k2 : k = 2
   ·obtain ⟨r, h1, h2⟩ := key 32 8 q2 (by rw [k2];rfl) (by omega);exact ⟨r, h1, fun h => .inr ⟨k2, by have := h2 h;omega⟩⟩
   ·refine ⟨1, ?_, fun h => by omega⟩;unfold jq nV;simp only [k1, k2, if_false, Option.bind_some, if_true]
end Go.Sx
namespace Go.Sx
open Go.RowKit
set_option linter.unusedVariables false
set_option linter.unusedSimpArgs false
def ps (at_ : Nat) (v : UInt64) (b : List UInt8) (i : Nat) : List UInt8 := b.set (at_ + i) (UInt8.ofNat (lM v (8 * i)).toNat)
def pset (b : List UInt8) (at_ n : Nat) (v : UInt64) : List UInt8 := (List.range n).foldl (ps at_ v) b
theorem VG (at_ : Nat) (v : UInt64) (n : Nat) (b : List UInt8) : ((List.range n).foldl (ps at_ v) b).length = b.length := by
  induction n with
  | zero => rfl
  | succ n ih => rw [List.range_succ, List.foldl_append];simp only [List.foldl_cons, List.foldl_nil, ps, List.length_set, ih]
theorem pset_len (b : List UInt8) (at_ n : Nat) (v : UInt64) : (pset b at_ n v).length = b.length := VG _ _ _ _
theorem at_i (a i : Nat) (h : a < 1000) (hi : i < 1000) : aG ((a : Int) + (i : Int)) = ((a + i : Nat) : Int) := by rw [iK (by omega)];omega
theorem wput (b : List UInt8) (at_ n : Nat) (v : UInt64) (hn : n <= 8) (hb : at_ + n <= b.length) (ha : at_ < 1000) : zF b (at_ : Int) (n : Int) v = some (pset b at_ n v) := by
  unfold zF;refine iL (fun i => ((List.range i).foldl (ps at_ v) b, (i : Int))) n (fun i hi => ?_) ?_
  ·unfold ve;simp only [];rw [if_pos (by omega), mul8 i (by omega), qL (by omega), at_i _ _ ha (by omega), bQ (by rw [VG];omega), je i (by omega), List.range_succ, List.foldl_append];rfl
  ·unfold ve;simp only [];rw [if_neg (by omega)];rfl
theorem m8 : ∀ i : Nat, i < 8 -> ((8 : UInt64) * UInt64.ofInt (i : Int)).toNat = 8 * i := by decide +kernel
theorem rput (b : List UInt8) (at_ n : Nat) (v : UInt64) (hn : n <= 8) (hb : at_ + n <= b.length) (ha : at_ < 1000) : Dk b (at_ : Int) (n : Int) v = some (pset b at_ n v) := by
  unfold Dk;refine iL (fun i => ((List.range i).foldl (ps at_ v) b, (i : Int))) n (fun i hi => ?_) ?_
  ·unfold yl;simp only [];rw [if_pos (by omega), at_i _ _ ha (by omega), bQ (by rw [VG];omega), je i (by omega), m8 i (by omega), List.range_succ, List.foldl_append];rfl
  ·unfold yl;simp only [];rw [if_neg (by omega)];rfl
def cpy (b : List UInt8) (at_ : Nat) (xs : List UInt8) : List UInt8 := (List.range xs.length).foldl (fun (b : List UInt8) (i : Nat) => b.set (at_ + i) (xs.getD i 0)) b
theorem cpy_eq (at_ : Nat) (xs : List UInt8) (n : Nat) (b : List UInt8) (hn : n <= xs.length) (hb : at_ + n <= b.length) : (List.range n).foldl (fun (b : List UInt8) (i : Nat) => b.set (at_ + i) (xs.getD i 0)) b = b.take at_ ++ xs.take n ++ b.drop (at_ + n) := by
  induction n with
  | zero => simp
  | succ n ih =>
    rw [List.range_succ, List.foldl_append, ih (by omega) (by omega)];simp only [List.foldl_cons, List.foldl_nil];have hd : b.drop (at_ + n) = b[at_ + n] :: b.drop (at_ + (n + 1)) := List.drop_eq_getElem_cons (by omega);rw [hd, List.set_append_right _ _ (by simp;omega)];have hx : at_ + n - (b.take at_ ++ xs.take n).length = 0 := by simp;omega
    rw [hx, List.set_cons_zero, List.take_succ_eq_append_getElem (by omega)];simp only [List.append_assoc, List.cons_append, List.nil_append];congr 3;simp [List.getD_eq_getElem?_getD, show n < xs.length from by omega]
theorem CE (b : List UInt8) (at_ : Nat) (xs : List UInt8) (h : at_ + xs.length <= b.length) : (cpy b at_ xs).length = b.length := by
  unfold cpy;rw [cpy_eq at_ xs xs.length b (Nat.le_refl _) h];simp;omega
theorem WB (b : List UInt8) (at_ n : Nat) (xs : List UInt8) (hn : xs.length <= n) (h : at_ + xs.length <= b.length) : VW b at_ n xs = cpy b at_ xs := by
  unfold cpy;rw [cpy_eq at_ xs xs.length b (Nat.le_refl _) h, VW, List.take_length, List.take_of_length_le hn, Nat.min_eq_right hn]
def VH (k : Int) (i : Nat) : Nat × Nat := if k = 1 then [(0, 1), (1, 1), (2, 1), (3, 1), (4, 4), (8, 8), (12, 4), (16, 1), (17, 1)].getD i (0, 0) else [(0, 1), (1, 1), (2, 1), (3, 1), (4, 4), (8, 6), (12, 2), (14, 1), (15, 1)].getD i (0, 0)
theorem fpl_le (k : Int) : ∀ i : Nat, i < 9 -> (VH k i).1 + (VH k i).2 <= 18 /\ (VH k i).2 <= 8 := by
  intro i hi;unfold VH;by_cases hk : k = 1
  ·simp only [hk, if_true];revert i;decide
  ·simp only [hk, if_false];revert i;decide
theorem rplace (k : Int) (hk : k = 1 ∨ k = 2) : ∀ i : Nat, i < 9 -> Cf k ((i + 1 : Nat) : Int) = some (((VH k i).1 : Int), ((VH k i).2 : Int)) := by
  rcases hk with rfl | rfl <;> decide +kernel
theorem wrows (k : Int) : ∃ rows, tJ k = some rows /\ rows.length = 9 /\ ∀ i : Nat, i < 9 -> ∃ row, aZ rows (i : Int) = some row /\ row.1 = ((i + 1 : Nat) : Int) /\ row.2.1 = ((VH k i).1 : Int) /\ row.2.2.1 = ((VH k i).2 : Int) := by
  by_cases hk : k = 1
  ·subst hk;refine ⟨_, rfl, rfl, fun i hi => ?_⟩
   match i, hi with
   | 0, _ => exact ⟨_, rfl, rfl, rfl, rfl⟩
   | 1, _ => exact ⟨_, rfl, rfl, rfl, rfl⟩
   | 2, _ => exact ⟨_, rfl, rfl, rfl, rfl⟩
   | 3, _ => exact ⟨_, rfl, rfl, rfl, rfl⟩
   | 4, _ => exact ⟨_, rfl, rfl, rfl, rfl⟩
   | 5, _ => exact ⟨_, rfl, rfl, rfl, rfl⟩
   | 6, _ => exact ⟨_, rfl, rfl, rfl, rfl⟩
   | 7, _ => exact ⟨_, rfl, rfl, rfl, rfl⟩
   | 8, _ => exact ⟨_, rfl, rfl, rfl, rfl⟩
  ·have h2 : ∀ i, VH k i = VH 2 i := fun i => by unfold VH;simp only [hk, if_false];rfl
   have h3 : tJ k = tJ 2 := by unfold tJ;rw [if_neg hk, if_neg (by decide)]
   rw [h3];simp only [h2];refine ⟨_, rfl, rfl, fun i hi => ?_⟩
   match i, hi with
   | 0, _ => exact ⟨_, rfl, rfl, rfl, rfl⟩
   | 1, _ => exact ⟨_, rfl, rfl, rfl, rfl⟩
   | 2, _ => exact ⟨_, rfl, rfl, rfl, rfl⟩
   | 3, _ => exact ⟨_, rfl, rfl, rfl, rfl⟩
   | 4, _ => exact ⟨_, rfl, rfl, rfl, rfl⟩
   | 5, _ => exact ⟨_, rfl, rfl, rfl, rfl⟩
   | 6, _ => exact ⟨_, rfl, rfl, rfl, rfl⟩
   | 7, _ => exact ⟨_, rfl, rfl, rfl, rfl⟩
   | 8, _ => exact ⟨_, rfl, rfl, rfl, rfl⟩
section
variable (k d ky f dp : Int) (lf : UInt32) (off : UInt64) (n_ : UInt32) (nd pV : Int) (jD jT : List UInt8)
def WC : List UInt64 := [UInt64.ofInt d, UInt64.ofInt ky, UInt64.ofInt f, UInt64.ofInt dp, UInt64.ofNat lf.toNat, off, UInt64.ofNat n_.toNat, UInt64.ofInt nd, UInt64.ofInt pV]
theorem wvalue (i : Nat) (hi : i < 9) : zk d ky f dp lf off n_ nd pV jD jT ((i + 1 : Nat) : Int) = some ((WC d ky f dp lf off n_ nd pV).getD i 0) := by
  match i, hi with
  | 0, _ => rfl
  | 1, _ => rfl
  | 2, _ => rfl
  | 3, _ => rfl
  | 4, _ => rfl
  | 5, _ => rfl
  | 6, _ => rfl
  | 7, _ => rfl
  | 8, _ => rfl
def ens (b : List UInt8) (i : Nat) : List UInt8 := if i = 6 /\ n_ = 0 then b else pset b (VH k i).1 (VH k i).2 ((WC d ky f dp lf off n_ nd pV).getD i 0)
def OA (b : List UInt8) (n : Nat) : List UInt8 := (List.range n).foldl (ens k d ky f dp lf off n_ nd pV) b
theorem xn (b : List UInt8) (n : Nat) : (OA k d ky f dp lf off n_ nd pV b n).length = b.length := by
  unfold OA
  induction n with
  | zero => rfl
  | succ n ih =>
    rw [List.range_succ, List.foldl_append];simp only [List.foldl_cons, List.foldl_nil, ens];split
    ·exact ih
    ·rw [pset_len, ih]
def enc' (S : Nat) : List UInt8 := cpy (cpy (OA k d ky f dp lf off n_ nd pV (List.replicate S 0) 9) (S / 2) jD) (S / 4 * 3) jT
def encB : List UInt8 := enc' k d ky f dp lf off n_ nd pV jD jT (if k = 1 then 64 else 32)
theorem wloop (S q : Nat) (hS : S = 64 /\ q = 16 ∨ S = 32 /\ q = 8) (m : Int) (hs : jD.length <= q) (hp : jT.length <= q) (rows : List (Int × Int × Int × List UInt8 × Int)) (hl : rows.length = 9)
    (hr : ∀ i : Nat, i < 9 -> ∃ row, aZ rows (i : Int) = some row /\ row.1 = ((i + 1 : Nat) : Int) /\ row.2.1 = ((VH k i).1 : Int) /\ row.2.2.1 = ((VH k i).2 : Int)) :
    aV (nR d ky f dp lf off n_ nd pV jD jT ((S : Int), m, (q : Int)) rows) (List.replicate S 0, (0 : Int)) = some (enc' k d ky f dp lf off n_ nd pV jD jT S, 0) := by
  refine iL (fun i => (OA k d ky f dp lf off n_ nd pV (List.replicate S 0) i, (i : Int))) 9 (fun i hi => ?_) ?_
  ·obtain ⟨row, h1, h2, h3, h4⟩ := hr i hi;obtain ⟨g1, g2⟩ := fpl_le k i hi;unfold nR qM uJ;simp only [];rw [hl, if_pos (by omega), h1];simp only [Option.bind_some];rw [h2, h3, h4, je i (by omega)];have hss : OA k d ky f dp lf off n_ nd pV (List.replicate S 0) (i + 1) = ens k d ky f dp lf off n_ nd pV (OA k d ky f dp lf off n_ nd pV (List.replicate S 0) i) i := by
     unfold OA;rw [List.range_succ, List.foldl_append];rfl
   rw [hss];unfold ens;by_cases hc : i = 6 /\ n_ = 0
   ·rw [if_pos (by simp only [Bool.and_eq_true, decide_eq_true_eq];exact ⟨by omega, hc.2⟩), if_pos hc]
   ·rw [if_neg (by simp only [Bool.and_eq_true, decide_eq_true_eq];exact fun h => hc ⟨by omega, h.2⟩), if_neg hc, wvalue _ _ _ _ _ _ _ _ _ _ _ i hi];simp only [Option.bind_some];rw [wput _ _ _ _ g2 (by rw [xn];simp;omega) (by omega)];rfl
  ·unfold nR;simp only [];have hlen : (OA k d ky f dp lf off n_ nd pV (List.replicate S 0) 9).length = S := by rw [xn];simp
   have e1 : aG ((S : Int) - aG (2 * (q : Int))) = ((S / 2 : Nat) : Int) := by rw [iK (n := 2 * (q : Int)) (by omega), iK (by omega)];omega
   have e2 : aG ((S : Int) - (q : Int)) = ((S / 4 * 3 : Nat) : Int) := by rw [iK (by omega)];omega
   rw [hl, if_neg (by omega), e1, e2, Int.toNat_natCast];rw [Aj (by rw [hlen];omega)];simp only [Option.bind_some, Int.toNat_natCast];have l1 : ((OA k d ky f dp lf off n_ nd pV (List.replicate S 0) 9).take S).drop (S / 2) = (OA k d ky f dp lf off n_ nd pV (List.replicate S 0) 9).drop (S / 2) := by rw [List.take_of_length_le (by omega)]
   rw [l1, WB _ _ _ _ (by rw [List.length_drop, hlen];omega) (by rw [hlen];omega)];have hlen2 : (cpy (OA k d ky f dp lf off n_ nd pV (List.replicate S 0) 9) (S / 2) jD).length = S := by rw [CE _ _ _ (by omega), hlen]
   rw [Aj (by rw [hlen2];omega)];simp only [Option.bind_some, Int.toNat_natCast];rw [List.take_of_length_le (by omega), WB _ _ _ _ (by rw [List.length_drop, hlen2];omega) (by rw [hlen2];omega)];rfl
theorem TT (at_ : Nat) (xs : List UInt8) (n : Nat) (b : List UInt8) : ((List.range n).foldl (fun (b : List UInt8) (i : Nat) => b.set (at_ + i) (xs.getD i 0)) b).length = b.length := by
  induction n with
  | zero => rfl
  | succ n ih => rw [List.range_succ, List.foldl_append];simp only [List.foldl_cons, List.foldl_nil, List.length_set, ih]
theorem getD_in (xs : List UInt8) (i : Nat) (h : i < xs.length) : xs.getD i 0 = xs[i] := by simp [List.getD_eq_getElem?_getD, h]
theorem rloop (hk : k = 1 ∨ k = 2) (S q : Nat) (hS : S = 64 /\ q = 16 ∨ S = 32 /\ q = 8) (hM : nV k = some (S : Int)) (hs : jD.length <= q) (hp : jT.length <= q) :
    aV (qy k d ky f dp lf off n_ nd pV jD jT) (List.replicate S 0, (1 : Int)) = some (enc' k d ky f dp lf off n_ nd pV jD jT S, 0) := by
  refine iL (fun i => (OA k d ky f dp lf off n_ nd pV (List.replicate S 0) i, ((i + 1 : Nat) : Int))) 9 (fun i hi => ?_) ?_
  ·obtain ⟨g1, g2⟩ := fpl_le k i hi;unfold qy uu xk;simp only [];rw [if_pos (by omega), je (i + 1) (by omega)];have hss : OA k d ky f dp lf off n_ nd pV (List.replicate S 0) (i + 1) = ens k d ky f dp lf off n_ nd pV (OA k d ky f dp lf off n_ nd pV (List.replicate S 0) i) i := by
     unfold OA;rw [List.range_succ, List.foldl_append];rfl
   rw [hss];unfold ens;by_cases hc : i = 6 /\ n_ = 0
   ·rw [if_pos (by simp only [Bool.and_eq_true, decide_eq_true_eq];exact ⟨by omega, hc.2⟩), if_pos hc]
   ·rw [if_neg (by simp only [Bool.and_eq_true, decide_eq_true_eq];exact fun h => hc ⟨by omega, h.2⟩), if_neg hc, rplace k hk i hi];simp only [Option.bind_some];have hw : aG (((i + 1 : Nat) : Int) - 1) = (i : Int) := by rw [iK (by omega)];omega
    have hg : aZ [UInt64.ofInt d, UInt64.ofInt ky, UInt64.ofInt f, UInt64.ofInt dp, UInt64.ofNat lf.toNat, off, UInt64.ofNat n_.toNat, UInt64.ofInt nd, UInt64.ofInt pV] (i : Int) = some ((WC d ky f dp lf off n_ nd pV).getD i 0) := by
      rw [bQ (by simp;omega)];simp [WC, List.getD_eq_getElem?_getD, hi]
    rw [hw, hg];simp only [Option.bind_some];rw [rput _ _ _ _ g2 (by rw [xn];simp;omega) (by omega)];rfl
  ·unfold qy;simp only [];have hlen : (OA k d ky f dp lf off n_ nd pV (List.replicate S 0) 9).length = S := by rw [xn];simp
   rw [if_neg (by omega), hM];simp only [Option.bind_some];have t4 : aG (Int.tdiv (S : Int) 4) = ((S / 4 : Nat) : Int) := by rcases hS with ⟨rfl, _⟩ | ⟨rfl, _⟩ <;> rfl
   have e1 : aG (2 * ((S / 4 : Nat) : Int)) = ((S / 2 : Nat) : Int) := by rw [iK (by omega)];omega
   have e2 : aG (3 * ((S / 4 : Nat) : Int)) = ((S / 4 * 3 : Nat) : Int) := by rw [iK (by omega)];omega
   rw [show aV (qx jD jT (S : Int)) (OA k d ky f dp lf off n_ nd pV (List.replicate S 0) 9, 0) = some (enc' k d ky f dp lf off n_ nd pV jD jT S, 0) from ?_]
   ·rfl
   refine iL (fun i => ((List.range i).foldl (fun (b : List UInt8) (i : Nat) => b.set (S / 2 + i) (jD.getD i 0)) (OA k d ky f dp lf off n_ nd pV (List.replicate S 0) 9), (i : Int))) jD.length (fun i hi => ?_) ?_
   ·unfold qx;simp only [];rw [if_pos (by omega), t4, e1, bQ hi, at_i _ _ (by omega) (by omega), bQ (by rw [TT, hlen];omega), je i (by omega), List.range_succ, List.foldl_append];simp only [Option.bind_some, List.foldl_cons, List.foldl_nil, Int.toNat_natCast, getD_in _ _ hi]
   ·unfold qx;simp only [];rw [if_neg (by omega)];rw [show aV (qw jT (S : Int)) ((List.range jD.length).foldl (fun (b : List UInt8) (i : Nat) => b.set (S / 2 + i) (jD.getD i 0)) (OA k d ky f dp lf off n_ nd pV (List.replicate S 0) 9), 0) = some (enc' k d ky f dp lf off n_ nd pV jD jT S, 0) from ?_]
    ·rfl
    have hlen2 : (cpy (OA k d ky f dp lf off n_ nd pV (List.replicate S 0) 9) (S / 2) jD).length = S := by rw [CE _ _ _ (by omega), hlen]
    refine iL (fun i => ((List.range i).foldl (fun (b : List UInt8) (i : Nat) => b.set (S / 4 * 3 + i) (jT.getD i 0)) (cpy (OA k d ky f dp lf off n_ nd pV (List.replicate S 0) 9) (S / 2) jD), (i : Int))) jT.length (fun i hi => ?_) ?_
    ·unfold qw;simp only [];rw [if_pos (by omega), t4, e2, bQ hi, at_i _ _ (by omega) (by omega), bQ (by rw [TT, hlen2];omega), je i (by omega), List.range_succ, List.foldl_append];simp only [Option.bind_some, List.foldl_cons, List.foldl_nil, Int.toNat_natCast, getD_in _ _ hi]
    ·unfold qw;simp only [];rw [if_neg (by omega)];rfl
theorem enc_ok (h : jq k d ky f dp lf off n_ nd pV jD jT = some 0) :
    pq k d ky f dp lf off n_ nd pV jD jT = some (encB k d ky f dp lf off n_ nd pV jD jT, 0) /\ mg k d ky f dp lf off n_ nd pV jD jT = some (encB k d ky f dp lf off n_ nd pV jD jT, 0) := by
  obtain ⟨r, h1, h2⟩ := NH k d ky f dp lf off n_ nd pV jD jT;rw [h] at h1;obtain rfl := Option.some.inj h1;obtain ⟨rows, r1, r2, r3⟩ := wrows k;rcases h2 rfl with ⟨rfl, _, _, _, hs, hp⟩ | ⟨rfl, _, _, _, hs, hp⟩
  ·constructor
   ·unfold pq;rw [TS, h, r1];exact wloop 1 d ky f dp lf off n_ nd pV jD jT 64 16 (by omega) 64 hs hp rows r2 r3
   ·unfold mg;rw [h];exact rloop 1 d ky f dp lf off n_ nd pV jD jT (by omega) 64 16 (by omega) rfl hs hp
  ·constructor
   ·unfold pq;rw [TS, h, r1];exact wloop 2 d ky f dp lf off n_ nd pV jD jT 32 8 (by omega) 32 hs hp rows r2 r3
   ·unfold mg;rw [h];exact rloop 2 d ky f dp lf off n_ nd pV jD jT (by omega) 32 8 (by omega) rfl hs hp
theorem encB_len (h : (k = 1 /\ jD.length <= 16 /\ jT.length <= 16) ∨ (k = 2 /\ jD.length <= 8 /\ jT.length <= 8)) : (encB k d ky f dp lf off n_ nd pV jD jT).length = if k = 1 then 64 else 32 := by
  unfold encB enc';rcases h with ⟨rfl, hs, hp⟩ | ⟨rfl, hs, hp⟩
  ·simp only [if_true];rw [CE _ _ _ (by rw [CE _ _ _ (by rw [xn];simp;omega), xn];simp;omega), CE _ _ _ (by rw [xn];simp;omega), xn];simp
  ·simp only [show ¬ ((2 : Int) = 1) from by omega, if_false];rw [CE _ _ _ (by rw [CE _ _ _ (by rw [xn];simp;omega), xn];simp;omega), CE _ _ _ (by rw [xn];simp;omega), xn];simp
end
end Go.Sx
namespace Go.Sx
open Go.RowKit
set_option linter.unusedVariables false
set_option linter.unusedSimpArgs false
section
variable {σ : Type}
def pM (f : σ -> List UInt8 -> UInt64 × UInt64 -> σ) (B : Nat) (h : σ) (c : UInt64 × UInt64) (M : List UInt8) : σ × (UInt64 × UInt64) × List UInt8 :=
  if hlt : 0 < B /\ B < M.length then pM f B (f h (M.take B) (Ae c (UInt64.ofNat B))) (Ae c (UInt64.ofNat B)) (M.drop B) else (h, c, M)
termination_by M.length
decreasing_by simp only [List.length_drop];omega
theorem Af (f : σ -> List UInt8 -> UInt64 × UInt64 -> σ) (B : Nat) (h : σ) (c : UInt64 × UInt64) (M : List UInt8) (hM : M.length <= B) : pM f B h c M = (h, c, M) := by
  rw [pM, dif_neg (by omega)]
theorem JW (f : σ -> List UInt8 -> UInt64 × UInt64 -> σ) (B : Nat) (h : σ) (c : UInt64 × UInt64) (M : List UInt8) (hB : 0 < B) (hM : B < M.length) : pM f B h c M = pM f B (f h (M.take B) (Ae c (UInt64.ofNat B))) (Ae c (UInt64.ofNat B)) (M.drop B) := by
  rw [pM, dif_pos ⟨hB, hM⟩]
theorem VI (f : σ -> List UInt8 -> UInt64 × UInt64 -> σ) (B : Nat) (hB : 0 < B) : ∀ (n : Nat) (h : σ) (c : UInt64 × UInt64) (M : List UInt8), M.length <= n -> (pM f B h c M).2.2.length <= B /\ (pM f B h c M).2.2 = M.drop (M.length - (pM f B h c M).2.2.length) /\ (pM f B h c M).2.2.length <= M.length := by
  intro n
  induction n with
  | zero => intro h c M hM;rw [Af f B h c M (by omega)];simp;omega
  | succ n ih =>
    intro h c M hM;by_cases hl : B < M.length
    ·rw [JW f B h c M hB hl];obtain ⟨h1, h2, h3⟩ := ih (f h (M.take B) (Ae c (UInt64.ofNat B))) (Ae c (UInt64.ofNat B)) (M.drop B) (by simp only [List.length_drop];omega);refine ⟨h1, ?_, by simp only [List.length_drop] at h3;omega⟩;rw [List.drop_drop] at h2;simp only [List.length_drop] at h2 h3;rw [show B + (M.length - B - (pM f B (f h (M.take B) (Ae c (UInt64.ofNat B))) (Ae c (UInt64.ofNat B)) (M.drop B)).2.2.length) = M.length - (pM f B (f h (M.take B) (Ae c (UInt64.ofNat B))) (Ae c (UInt64.ofNat B)) (M.drop B)).2.2.length from by omega] at h2;exact h2
    ·rw [Af f B h c M (by omega)];simp;omega
end
def pad (n : Nat) (xs : List UInt8) : List UInt8 := xs ++ List.replicate (n - xs.length) 0
theorem F7 (n : Nat) (xs : List UInt8) (h : xs.length <= n) : (pad n xs).length = n := by simp [pad];omega
theorem QN (n : Nat) : UInt64.ofInt (n : Int) = UInt64.ofNat n := by
  rw [<- UInt64.toNat_inj];unfold UInt64.ofInt;simp;omega
theorem wadd (c : UInt64 × UInt64) (n : UInt64) : ∃ o, xw c.1 c.2 n = some ((Ae c n).1, (Ae c n).2, o) := ⟨_, add_ok _ _ _⟩
theorem radd' (c : UInt64 × UInt64) (n : UInt64) : ∃ o, yT c.1 c.2 n = some ((Ae c n).1, (Ae c n).2, o) := ⟨_, radd _ _ _⟩
theorem wpad (b : List UInt8) (n : Nat) (hb : b.length <= n) (hn : n <= 1000) : uz b (n : Int) = some (pad n b) := by
  unfold uz;rw [qL (by omega)];simp only [Option.bind_some];rw [uD (by simp;omega)];simp only [Option.bind_some];have e : aG ((n : Int) - (b.length : Int)) = ((n - b.length : Nat) : Int) := by rw [iK (by omega)];omega
  rw [e];unfold YA;rw [if_pos (by simp;omega)];simp only [Option.bind_some, Int.toNat_natCast];rfl
theorem cut_ok (b : List UInt8) (a n : Nat) (hb : b.length <= 33554432) (ha : a <= b.length) (hn : n <= 1000) : Be b (a : Int) (n : Int) = some (pad n ((b.drop a).take n)) := by
  unfold Be;have hz : ∀ i, i <= n -> (pad n ((b.drop a).take n)).take i = pad i ((b.drop a).take i) := by
    intro i hi;unfold pad;rw [List.take_append, List.take_take, Nat.min_eq_left hi, List.take_replicate];congr 2;simp only [List.length_take, List.length_drop];omega
  have hlen := F7 n ((b.drop a).take n) (by simp;omega);suffices hsf : aV (wE b (a : Int) (n : Int)) (([] : List UInt8), (0 : Int)) = some ((pad n ((b.drop a).take n)).take n) by rw [hsf, List.take_of_length_le (by omega)]
  refine iL (fun i => ((pad n ((b.drop a).take n)).take i, (i : Int))) n (fun i hi => ?_) ?_
  ·unfold wE yt AU;have e1 : aG ((a : Int) + (i : Int)) = ((a + i : Nat) : Int) := by rw [iK (by omega)];omega
   have hs : (pad n ((b.drop a).take n)).take (i + 1) = (pad n ((b.drop a).take n)).take i ++ [(pad n ((b.drop a).take n))[i]] := List.take_succ_eq_append_getElem (by omega);simp only [];rw [if_pos (by omega), e1, hs, je i (by omega)];by_cases hin : a + i < b.length
   ·rw [if_pos (by omega), bQ hin];simp only [Option.bind_some];rw [uD (by simp;omega)];simp only [Option.bind_some];have hx : (pad n ((b.drop a).take n))[i] = b[a + i] := by
      unfold pad;rw [List.getElem_append_left (by simp;omega)];simp
    rw [hx]
   ·rw [if_neg (by omega), uD (by simp;omega)];simp only [Option.bind_some];have hx : (pad n ((b.drop a).take n))[i] = 0 := by
      unfold pad;rw [List.getElem_append_right (by simp;omega)];simp
    rw [hx]
  ·unfold wE;simp only [];rw [if_neg (by omega)];rfl
theorem keyed_ok (k : Int) (B : Nat) (hB : vw k = some (B : Int)) (hBl : B <= 1000) (key : List UInt8) (hk : key.length <= B) : xK k key = some (if key = [] then [] else pad B key) := by
  unfold xK;by_cases h0 : key = []
  ·subst h0;rfl
  rw [if_neg (by have := List.length_pos_iff.2 h0;omega), if_neg h0];have hlen := F7 B key hk;suffices hsf : aV (sN k key) (([] : List UInt8), (0 : Int)) = some ((pad B key).take B) by rw [hsf, List.take_of_length_le (by omega)]
  refine iL (fun i => ((pad B key).take i, (i : Int))) B (fun i hi => ?_) ?_
  ·unfold sN vz yj;have hs : (pad B key).take (i + 1) = (pad B key).take i ++ [(pad B key)[i]] := List.take_succ_eq_append_getElem (by omega);simp only [];rw [hB];simp only [Option.bind_some];rw [if_pos (by omega), hs, je i (by omega)];by_cases hin : i < key.length
   ·rw [if_pos (by omega), bQ hin];simp only [Option.bind_some];rw [uD (by simp;omega)];simp only [Option.bind_some];have hx : (pad B key)[i] = key[i] := by
      unfold pad;rw [List.getElem_append_left (by omega)]
    rw [hx]
   ·rw [if_neg (by omega), uD (by simp;omega)];simp only [Option.bind_some];have hx : (pad B key)[i] = 0 := by
      unfold pad;rw [List.getElem_append_right (by omega)];simp
    rw [hx]
  ·unfold sN;simp only [];rw [hB];simp only [Option.bind_some];rw [if_neg (by omega)];rfl
end Go.Sx
namespace Go.Sx
open Go.RowKit
set_option linter.unusedVariables false
set_option linter.unusedSimpArgs false
structure Half where
  σ : Type
  k : Int
  B : Nat
  S : Nat
  f : σ -> List UInt8 -> UInt64 × UInt64 -> Bool -> Bool -> σ
  st : List UInt8 -> σ
  dig : σ -> List UInt8
  emb : σ -> Vec UInt64 16
  hk : k = 1 /\ B = 128 /\ S = 64 ∨ k = 2 /\ B = 64 /\ S = 32
  diglen : ∀ h, (dig h).length = S
  hin : ∀ h b (c : UInt64 × UInt64) last node, b.length = B -> Bz k (emb h) b c.1 c.2 last node = some (emb (f h b c last node))
  hbytes : ∀ h, xN k (emb h) = some (dig h)
  hfirst : ∀ (d ky fn dp : Int) (lf : UInt32) (off : UInt64) (n_ : UInt32) (nd pV : Int) (jD jT key : List UInt8) (last : Bool) (from_ : Vec UInt64 16) (lo hi : UInt64) (msg : List UInt8) (cn : UInt64) (blk : List UInt8), mg k d ky fn dp lf off n_ nd pV jD jT = some (blk, 0) -> blk.length = S ->
    o7 k d ky fn dp lf off n_ nd pV jD jT key last from_ false lo hi msg cn = some (emb (st blk), k, d, ky, fn, dp, lf, off, n_, nd, pV, last, from_, false, lo, hi, msg, cn)
theorem Half.hB (H : Half) : vw H.k = some (H.B : Int) := by
  rcases H.hk with ⟨h1, h2, _⟩ | ⟨h1, h2, _⟩ <;> rw [h1, h2] <;> rfl
theorem Half.hS (H : Half) : xx H.k = some (H.S : Int) := by
  rcases H.hk with ⟨h1, _, h2⟩ | ⟨h1, _, h2⟩ <;> rw [h1, h2] <;> rfl
def Jj (h : Vec UInt64 8) : Vec UInt64 16 := ⟨h.l ++ List.replicate 8 0, by simp [h.h]⟩
theorem embB_g (h : Vec UInt64 8) (i : Nat) (hi : i < 8) : (Jj h).g i = h.g i := by
  have hl : i < h.l.length := by rw [h.h];exact hi
  simp [Vec.g, Jj, List.getD_eq_getElem?_getD, List.getElem?_append_left hl]
theorem embB_in (h r : Vec UInt64 8) : (List.range 8).foldl (fun v (i : Nat) => uZ v i (r.g i)) (Jj h) = Jj r := by
  obtain ⟨a, b, c, d, e, f, g, q, rfl⟩ := XO (v := h);obtain ⟨a', b', c', d', e', f', g', q', rfl⟩ := XO (v := r);rfl
theorem embB_out (h : Vec UInt64 8) : (List.range 8).foldl (fun v (i : Nat) => uZ v i ((Jj h).g i)) (Vec.rep 8 (0 : UInt64)) = h := by
  obtain ⟨a, b, c, d, e, f, g, q, rfl⟩ := XO (v := h);rfl
theorem embB_0 (r : Vec UInt64 8) : (List.range 8).foldl (fun v (i : Nat) => uZ v i (r.g i)) (Vec.rep 16 (0 : UInt64)) = Jj r := by
  obtain ⟨a', b', c', d', e', f', g', q', rfl⟩ := XO (v := r);rfl
theorem rin1 (h : Vec UInt64 8) (b : List UInt8) (c : UInt64 × UInt64) (last node : Bool) (hb : b.length = 128) : Bz 1 (Jj h) b c.1 c.2 last node = some (Jj (Fb h (Wb b) c.1 c.2 last node)) := by
  unfold Bz;rw [if_pos rfl];refine DN _ 8 (fun v (i : Nat) => uZ v i ((Jj h).g i)) _ _ (fun v i hi => ?_) ?_
  ·unfold zO;simp only [];rw [if_pos (by omega), lg _ _ (by omega), lg _ _ hi, je i (by omega)];rfl
  ·rw [embB_out];unfold zO;simp only [];rw [if_neg (by omega), rWords b hb];simp only [Option.bind_some];rw [rF];simp only [Option.bind_some];rw [show aV (xM (Fb h (Wb b) c.1 c.2 last node)) (Jj h, 0) = some (Jj (Fb h (Wb b) c.1 c.2 last node)) from ?_]
   ·rfl
   refine DN _ 8 (fun v (i : Nat) => uZ v i ((Fb h (Wb b) c.1 c.2 last node).g i)) _ _ (fun v i hi => ?_) ?_
   ·unfold xM;simp only [];rw [if_pos (by omega), lg _ _ hi, lg _ _ (by omega), je i (by omega)];rfl
   ·rw [embB_in];unfold xM;simp only [];rw [if_neg (by omega)];rfl
theorem rbytes1 (h : Vec UInt64 8) : xN 1 (Jj h) = some (Byb h) := by
  unfold xN;refine iL (fun i => ((List.range i).foldl (fun b i => b ++ st8 8 (h.g i)) [], (i : Int))) 8 (fun i hi => ?_) rfl;unfold yx;simp only [];have hs := rstore (h.g i) 8 (by omega);rw [if_pos (by omega), lg _ _ (by omega), embB_g h i hi, je i (by omega)];simp only [Option.bind_some];rw [show xx 1 = some 64 from rfl];simp only [Option.bind_some];rw [show aG (Int.tdiv 64 8) = ((8 : Nat) : Int) from rfl, hs];simp only [Option.bind_some];have hq : (List.range (i + 1)).foldl (fun b i => b ++ st8 8 (h.g i)) [] = (List.range i).foldl (fun b i => b ++ st8 8 (h.g i)) [] ++ st8 8 (h.g i) := by rw [List.range_succ, List.foldl_append];rfl
  rw [uD (by rw [VF _ 8 (fun i => QL 8 _)];simp;omega), hq];rfl
theorem rfirst1 (d ky fn dp : Int) (lf : UInt32) (off : UInt64) (n_ : UInt32) (nd pV : Int) (jD jT key : List UInt8) (last : Bool) (from_ : Vec UInt64 16) (lo hi : UInt64) (msg : List UInt8) (cn : UInt64) (blk : List UInt8) (he : mg 1 d ky fn dp lf off n_ nd pV jD jT = some (blk, 0)) (hl : blk.length = 64) :
    o7 1 d ky fn dp lf off n_ nd pV jD jT key last from_ false lo hi msg cn = some (Jj (Stb blk), 1, d, ky, fn, dp, lf, off, n_, nd, pV, last, from_, false, lo, hi, msg, cn) := by
  unfold o7;rw [if_neg (by decide), he];simp only [Option.bind_some];rw [if_pos trivial, rStart blk hl];simp only [Option.bind_some];refine DN _ 8 (fun v (i : Nat) => uZ v i ((Stb blk).g i)) _ _ (fun v i hi => ?_) ?_
  ·unfold oq;simp only [];rw [if_pos (by omega), lg _ _ hi, lg _ _ (by omega), je i (by omega)];rfl
  ·rw [embB_0];unfold oq;simp only [];rw [if_neg (by omega)];rfl
def big : Half := ⟨Vec UInt64 8, 1, 128, 64, fun h b c last node => Fb h (Wb b) c.1 c.2 last node, Stb, Byb, Jj, .inl ⟨rfl, rfl, rfl⟩, QM, rin1, rbytes1, rfirst1⟩
end Go.Sx
namespace Go.Sx
open Go.RowKit
set_option linter.unusedVariables false
set_option linter.unusedSimpArgs false
def Half.run (H : Half) (blk M : List UInt8) : H.σ × (UInt64 × UInt64) × List UInt8 := pM (fun h b c => H.f h b c false false) H.B (H.st blk) (0, 0) M
def Half.hash (H : Half) (blk M : List UInt8) (last : Bool) : List UInt8 :=
  H.dig (H.f (H.run blk M).1 (pad H.B (H.run blk M).2.2) (Ae (H.run blk M).2.1 (UInt64.ofNat (H.run blk M).2.2.length)) true last)
theorem Half.TU (H : Half) (blk M : List UInt8) (last : Bool) : (H.hash blk M last).length = H.S := H.diglen _
theorem Half.bp (H : Half) : 0 < H.B /\ H.B <= 128 := by rcases H.hk with ⟨_, h, _⟩ | ⟨_, h, _⟩ <;> omega
section
variable (H : Half) (d ky fn dp : Int) (lf : UInt32) (off : UInt64) (n_ : UInt32) (nd pV : Int) (jD jT key : List UInt8) (last : Bool) (from_ : Vec UInt64 16) (msg : List UInt8) (cn : UInt64) (blk : List UInt8)
theorem XQ (he : mg H.k d ky fn dp lf off n_ nd pV jD jT = some (blk, 0)) (hl : blk.length = H.S) (hm : msg.length <= 16000000) :
    qQ H.k d ky fn dp lf off n_ nd pV jD jT key last from_ false 0 0 msg cn =
      some (H.emb (H.run blk msg).1, (H.run blk msg).2.1.1, (H.run blk msg).2.1.2, ((msg.length - (H.run blk msg).2.2.length : Nat) : Int), H.k, d, ky, fn, dp, lf, off, n_, nd, pV, last, from_, false, 0, 0, msg, cn) := by
  have hb := H.bp;unfold qQ;rw [H.hfirst d ky fn dp lf off n_ nd pV jD jT key last from_ 0 0 msg cn blk he hl];simp only [Option.bind_some];rw [H.hB];simp only [Option.bind_some];refine xI (fun i s => ∃ (h : H.σ) (c : UInt64 × UInt64) (a : Nat), s = (H.emb h, c.1, c.2, (a : Int)) /\ a <= msg.length /\ a = i * H.B /\ pM (fun h b c => H.f h b c false false) H.B h c (msg.drop a) = H.run blk msg) _ msg.length _ ⟨H.st blk, (0, 0), 0, rfl, by omega, by omega, rfl⟩ ?_;rintro i s ⟨h, c, a, rfl, ha, hai, hr⟩;unfold qP;simp only [];have e1 : aG ((a : Int) + (H.B : Int)) = ((a + H.B : Nat) : Int) := by rw [iK (by omega)];omega
  rw [e1];by_cases hlt : a + H.B < msg.length
  ·left;have hil : i <= i * H.B := Nat.le_mul_of_pos_right i hb.1;obtain ⟨o, hadd⟩ := radd' c (UInt64.ofNat H.B);refine ⟨by omega, (H.emb (H.f h ((msg.drop a).take H.B) (Ae c (UInt64.ofNat H.B)) false false), (Ae c (UInt64.ofNat H.B)).1, (Ae c (UInt64.ofNat H.B)).2, ((a + H.B : Nat) : Int)), ?_, H.f h ((msg.drop a).take H.B) (Ae c (UInt64.ofNat H.B)) false false, Ae c (UInt64.ofNat H.B), a + H.B, rfl, by omega, by rw [hai, Nat.succ_mul], ?_⟩
   ·rw [if_pos (by omega), QN, hadd];simp only [Option.bind_some];rw [cut_ok msg a H.B (by omega) (by omega) (by omega)];simp only [Option.bind_some];have hp : pad H.B ((msg.drop a).take H.B) = (msg.drop a).take H.B := by
      unfold pad;rw [show H.B - ((msg.drop a).take H.B).length = 0 from by simp;omega];simp
    rw [hp, H.hin h _ (Ae c (UInt64.ofNat H.B)) false false (by simp;omega)];rfl
   ·rw [<- hr, JW _ H.B h c (msg.drop a) hb.1 (by simp;omega), List.drop_drop]
  ·right;rw [if_neg (by omega)];have hst := Af (fun h b c => H.f h b c false false) H.B h c (msg.drop a) (by simp;omega);rw [hst] at hr;rw [<- hr];simp only [Option.map_some, Option.some.injEq, Sum.inr.injEq, Prod.mk.injEq, true_and, and_true, List.length_drop];omega
theorem Half.held (H : Half) (blk M : List UInt8) : (H.run blk M).2.2.length <= H.B /\ (H.run blk M).2.2 = M.drop (M.length - (H.run blk M).2.2.length) /\ (H.run blk M).2.2.length <= M.length :=
  VI _ H.B H.bp.1 M.length _ _ M (Nat.le_refl _)
theorem rout_ok (he : mg H.k d ky fn dp lf off n_ nd pV jD jT = some (blk, 0)) (hl : blk.length = H.S) (hm : msg.length <= 16000000) :
    vG H.k d ky fn dp lf off n_ nd pV jD jT key last from_ false 0 0 msg cn = some (H.hash blk msg last, H.k, d, ky, fn, dp, lf, off, n_, nd, pV, last, from_, false, 0, 0, msg, cn) := by
  have hb := H.bp;unfold vG;rw [XQ H d ky fn dp lf off n_ nd pV jD jT key last from_ msg cn blk he hl hm];simp only [Option.bind_some];obtain ⟨h1, h2, h3⟩ := H.held blk msg;have e1 : aG ((msg.length : Int) - ((msg.length - (H.run blk msg).2.2.length : Nat) : Int)) = (((H.run blk msg).2.2.length : Nat) : Int) := by rw [iK (by omega)];omega
  obtain ⟨o, hadd⟩ := radd' (H.run blk msg).2.1 (UInt64.ofNat (H.run blk msg).2.2.length);rw [e1, QN, hadd];simp only [Option.bind_some];rw [H.hB];simp only [Option.bind_some];rw [cut_ok msg _ H.B (by omega) (by omega) (by omega), <- h2];simp only [Option.bind_some];rw [List.take_of_length_le h1];rw [H.hin _ _ _ true last (F7 _ _ h1)];simp only [Option.bind_some];rw [H.hbytes];rfl
theorem XR (b : List UInt8) (lo hi : UInt64) (old : Bool) (hm : msg.length + b.length <= 16000000) :
    sO H.k d ky fn dp lf off n_ nd pV jD jT key last from_ old lo hi msg cn b = some (H.k, d, ky, fn, dp, lf, off, n_, nd, pV, last, from_, old, lo, hi, msg ++ b, cn + UInt64.ofInt ((b.length : Nat) : Int)) := by
  unfold sO;rw [show ((msg, (0 : Int)) : List UInt8 × Int) = (msg ++ b.take 0, ((0 : Nat) : Int)) from by simp];refine iL (fun i => (msg ++ b.take i, (i : Int))) b.length (fun i hi => ?_) ?_
  ·unfold oh;simp only [];rw [if_pos (by omega), bQ hi];simp only [Option.bind_some];rw [uD (by simp;omega), je i (by omega), List.take_succ_eq_append_getElem hi, List.append_assoc];rfl
  ·unfold oh;simp only [];rw [if_neg (by omega), List.take_length];rfl
end
def Half.ans (H : Half) (blk M : List UInt8) (last : Bool) (out : Int) : List UInt8 × Int := if out < 1 ∨ (H.S : Int) < out then ([], 1) else ((H.hash blk M last).take out.toNat, 0)
def Half.kb (H : Half) (key : List UInt8) : List UInt8 := if key = [] then [] else pad H.B key
theorem Half.kb_len (H : Half) (key : List UInt8) (h : key.length <= H.B) : (H.kb key).length <= H.B := by
  unfold Half.kb;split
  ·simp
  ·rw [F7 _ _ h];exact Nat.le_refl _
theorem rhash_ok (H : Half) (d ky fn dp : Int) (lf : UInt32) (off : UInt64) (n_ : UInt32) (nd pV : Int) (jD jT key : List UInt8) (last : Bool) (out : Int) (data blk : List UInt8) (hc : jq H.k d ky fn dp lf off n_ nd pV jD jT = some 0) (he : mg H.k d ky fn dp lf off n_ nd pV jD jT = some (blk, 0)) (hl : blk.length = H.S) (hkey : key = [] ∨ (key.length : Int) = ky) (hkl : key.length <= H.B) (hd : data.length <= 12000000) :
    xy H.k d ky fn dp lf off n_ nd pV jD jT key last out data = some (H.ans blk (H.kb key ++ data) last out) := by
  have hb := H.bp;unfold xy FV;rw [hc];simp only [Option.bind_some, ne_eq, not_true_eq_false, if_false];rw [if_neg (by
    simp only [Bool.and_eq_true, decide_eq_true_eq];rintro ⟨h1, h2⟩;rcases hkey with rfl | h
    ·exact h1 rfl
    ·exact h2 h)]
  rw [show xK H.k key = some (H.kb key) from keyed_ok H.k H.B H.hB (by omega) key hkl];simp only [Option.bind_some, Sum.elim_inr];unfold Half.ans;by_cases h1 : out < 1
  ·rw [if_pos h1, if_pos (.inl h1)]
  rw [if_neg h1, H.hS];simp only [Option.bind_some];by_cases h2 : (H.S : Int) < out
  ·rw [if_pos h2, if_pos (.inr h2)]
  rw [if_neg h2, if_neg (by omega)];have hkb := H.kb_len key hkl;rw [XR H d ky fn dp lf off n_ nd pV jD jT key last (Vec.rep 16 0) (H.kb key) 0 data 0 0 false (by omega)];simp only [Option.bind_some];rw [rout_ok H d ky fn dp lf off n_ nd pV jD jT key last _ _ _ blk he hl (by rw [List.length_append];omega)];simp only [Option.bind_some];rw [Aj (by rw [H.TU];omega)];simp
end Go.Sx
namespace Go.Sx
open Go.RowKit
set_option linter.unusedVariables false
set_option linter.unusedSimpArgs false
def fB (h : Vec UInt64 8) (b : List UInt8) (c : UInt64 × UInt64) (last node : Bool) : Vec UInt64 8 := Fb h (Wb b) c.1 c.2 last node
theorem O9 (h : Vec UInt64 8) (b : List UInt8) (c : UInt64 × UInt64) (last node : Bool) (hb : b.length = 128) : uA h b c.1 c.2 last node = some (fB h b c last node) := by
  unfold uA;rw [wWords b hb];simp only [Option.bind_some];rw [wF];rfl
theorem wj0B (b : List UInt8) (h : Vec UInt64 8) (lo hi : UInt64) (held : List UInt8) (hb : b.length <= 12000000) (hh : held.length <= 128) :
    iY 128 b h lo hi held = some (.inl (h, lo, hi, held ++ b.take (min (128 - held.length) b.length), b.drop (min (128 - held.length) b.length))) := by
  unfold iY;have e1 : aG ((128 : Int) - ((held.length : Nat) : Int)) = ((128 - held.length : Nat) : Int) := by rw [iK (by omega)];omega
  have e2 : (if aG ((128 : Int) - ((held.length : Nat) : Int)) < ((b.length : Nat) : Int) then aG ((128 : Int) - ((held.length : Nat) : Int)) else ((b.length : Nat) : Int)) = ((min (128 - held.length) b.length : Nat) : Int) := by
    rw [e1];split <;> omega
  rw [e2, Aj (by omega)];simp only [Option.bind_some, Int.toNat_natCast, Int.toNat_zero, List.drop_zero];rw [uD (by simp;omega), Aj (by omega)];simp only [Option.bind_some, Int.toNat_natCast];rw [List.take_of_length_le (i := b.length) (Nat.le_refl _)]
theorem WE (h : Vec UInt64 8) (c : UInt64 × UInt64) (held b : List UInt8) (hb : b.length <= 12000000) (hh : held.length <= 128) :
    jI h c.1 c.2 held 128 b = some ((pM (fun h b c => fB h b c false false) 128 h c (held ++ b)).1, (pM (fun h b c => fB h b c false false) 128 h c (held ++ b)).2.1.1, (pM (fun h b c => fB h b c false false) 128 h c (held ++ b)).2.1.2, (pM (fun h b c => fB h b c false false) 128 h c (held ++ b)).2.2, 128) := by
  unfold jI;refine xI (fun i s => ∃ (h' : Vec UInt64 8) (c' : UInt64 × UInt64) (held' b' : List UInt8), s = (h', c'.1, c'.2, held', b') /\ held'.length <= 128 /\ b'.length + i <= b.length /\ pM (fun h b c => fB h b c false false) 128 h' c' (held' ++ b') = pM (fun h b c => fB h b c false false) 128 h c (held ++ b)) _ b.length _ ⟨h, c, held, b, rfl, hh, by omega, rfl⟩ ?_;rintro i s ⟨h', c', held', b', rfl, hh', hbl, hr⟩;rw [<- hr];unfold lY;simp only [];by_cases h0 : b'.length = 0
  ·right;obtain rfl := List.length_eq_zero_iff.1 h0;rw [if_neg (by simp), List.append_nil, Af _ _ _ _ _ hh'];rfl
  ·left;refine ⟨by omega, ?_⟩;rw [if_pos (by omega)];by_cases hf : held'.length = 128
   ·rw [if_pos (by omega)];obtain ⟨o, hadd⟩ := wadd c' (UInt64.ofNat 128);have e3 : UInt64.ofInt 128 = UInt64.ofNat 128 := rfl;rw [e3, hadd];simp only [Option.bind_some];rw [O9 h' held' (Ae c' (UInt64.ofNat 128)) false false hf];simp only [Option.bind_some];rw [Aj (by omega)];simp only [Option.bind_some, Int.toNat_zero, List.take_zero, List.drop_nil];rw [wj0B b' _ _ _ [] (by omega) (by simp)];refine ⟨_, rfl, _, Ae c' (UInt64.ofNat 128), _, _, rfl, by simp;omega, by simp;omega, ?_⟩;rw [JW _ 128 h' c' (held' ++ b') (by omega) (by simp;omega)];rw [show (held' ++ b').take 128 = held' from by rw [List.take_append_of_le_length (by omega), List.take_of_length_le (by omega)], show (held' ++ b').drop 128 = b' from by rw [<- hf, List.drop_left]];rw [List.nil_append, List.take_append_drop]
   ·rw [if_neg (by omega), wj0B b' _ _ _ held' (by omega) hh'];refine ⟨_, rfl, _, c', _, _, rfl, by simp;omega, by simp;omega, ?_⟩;rw [List.append_assoc, List.take_append_drop]
theorem woutB (h : Vec UInt64 8) (c : UInt64 × UInt64) (held : List UInt8) (node : Bool) (hh : held.length <= 128) :
    mf h c.1 c.2 held 128 node = some (Byb (fB h (pad 128 held) (Ae c (UInt64.ofNat held.length)) true node), h, c.1, c.2, held, 128) := by
  unfold mf mQ;obtain ⟨o, hadd⟩ := wadd c (UInt64.ofNat held.length);rw [QN, hadd];simp only [Option.bind_some];have := wpad held 128 hh (by omega);rw [show ((128 : Nat) : Int) = 128 from rfl] at this;rw [this];simp only [Option.bind_some];rw [O9 h _ (Ae c (UInt64.ofNat held.length)) true node (F7 _ _ hh)];simp only [Option.bind_some];rw [wBytes];rfl
end Go.Sx
namespace Go.Sx
open Go.RowKit
set_option linter.unusedVariables false
set_option linter.unusedSimpArgs false
theorem beginB (d : Int) (blk key : List UInt8) (hl : blk.length = 64) (hk : key.length <= 128) : qN 1 d blk key false 0 = some (1, d, blk, key, Stb blk, 0, 0, big.kb key, 128) := by
  unfold qN AP;rw [if_pos rfl];rw [wStart blk hl];simp only [Option.bind_some, Sum.elim_inl];unfold Half.kb;by_cases h0 : key = []
  ·subst h0;rfl
  ·rw [if_pos (by have := List.length_pos_iff.2 h0;omega), if_neg h0];have hp := wpad key 128 hk (by omega);rw [show ((128 : Nat) : Int) = 128 from rfl] at hp;rw [show sK 1 = some 128 from rfl];simp only [Option.bind_some];rw [hp];simp only [Option.bind_some];have hlen := F7 128 key hk;rw [WE (Stb blk) (0, 0) [] (pad 128 key) (by omega) (by simp)];rw [List.nil_append, Af _ _ _ _ _ (by omega)];rfl
theorem wouB (d : Int) (blk key : List UInt8) (last : Bool) (wr : UInt64) (h : Vec UInt64 8) (c : UInt64 × UInt64) (held : List UInt8) (hh : held.length <= 128) (out : Int) : ∃ t, uq 1 d blk key last wr h c.1 c.2 held 128 out = some t /\ (t.1, t.2.1) = (if out < 1 ∨ (64 : Int) < out then ([], 1) else ((Byb (fB h (pad 128 held) (Ae c (UInt64.ofNat held.length)) true last)).take out.toNat, 0)) := by
  unfold uq wB;simp only [Option.bind_some];by_cases h1 : out < 1
  ·rw [if_pos h1, if_pos (.inl h1)];exact ⟨_, rfl, rfl⟩
  rw [if_neg h1, show sK 1 = some 128 from rfl];simp only [Option.bind_some];rw [show aG (Int.tdiv 128 2) = (64 : Int) from rfl];by_cases h2 : (64 : Int) < out
  ·rw [if_pos h2, if_pos (.inr h2)];exact ⟨_, rfl, rfl⟩
  rw [if_neg h2, if_neg (by omega), woutB h c held last hh];simp only [Option.bind_some];rw [Aj (by rw [QM];omega)];simp only [Option.bind_some];rw [qL (by rw [QM];omega)];exact ⟨_, rfl, by simp⟩
theorem whashB (d ky fn dp : Int) (lf : UInt32) (off : UInt64) (n_ : UInt32) (nd pV : Int) (jD jT key : List UInt8) (last : Bool) (out : Int) (data blk : List UInt8) (he : pq 1 d ky fn dp lf off n_ nd pV jD jT = some (blk, 0)) (hl : blk.length = 64) (hkey : key = [] ∨ (key.length : Int) = ky) (hkl : key.length <= 128) (hd : data.length <= 12000000) :
    qO 1 d ky fn dp lf off n_ nd pV jD jT key last out data = some (big.ans blk (big.kb key ++ data) last out) := by
  unfold qO D8;rw [he];simp only [Option.bind_some, ne_eq, not_true_eq_false, if_false];rw [if_neg (by
    simp only [Bool.and_eq_true, decide_eq_true_eq];rintro ⟨h1, h2⟩;rcases hkey with rfl | h
    ·exact h1 rfl
    ·exact h2 h)]
  unfold Ce;rw [uD (by simp;omega), uD (by simp;omega)];simp only [Option.bind_some, List.nil_append];rw [beginB d blk key hl hkl];simp only [Option.bind_some, Sum.elim_inl, Sum.elim_inr];have hkb := big.kb_len key hkl;rw [WE (Stb blk) (0, 0) (big.kb key) data hd hkb];simp only [Option.bind_some];obtain ⟨h1, h2, h3⟩ := big.held blk (big.kb key ++ data);obtain ⟨t, ht1, ht2⟩ := wouB d blk key last 0 (pM (fun h b c => fB h b c false false) 128 (Stb blk) (0, 0) (big.kb key ++ data)).1 (pM (fun h b c => fB h b c false false) 128 (Stb blk) (0, 0) (big.kb key ++ data)).2.1 (pM (fun h b c => fB h b c false false) 128 (Stb blk) (0, 0) (big.kb key ++ data)).2.2 h1 out;rw [ht1];simp only [Option.bind_some, Option.some.injEq];exact ht2
end Go.Sx
namespace Go.Sx
open Go.RowKit
set_option linter.unusedVariables false
set_option linter.unusedSimpArgs false
theorem hash_ok (d ky fn dp : Int) (lf : UInt32) (off : UInt64) (n_ : UInt32) (nd pV : Int) (jD jT key : List UInt8) (last : Bool) (out : Int) (data : List UInt8) (hc : jq 1 d ky fn dp lf off n_ nd pV jD jT = some 0) (hkey : key = [] ∨ (key.length : Int) = ky) (hd : data.length <= 12000000) :
    ∃ (H : Half) (blk M : List UInt8), H.k = 1 /\ qO 1 d ky fn dp lf off n_ nd pV jD jT key last out data = some (H.ans blk M last out) /\ xy 1 d ky fn dp lf off n_ nd pV jD jT key last out data = some (H.ans blk M last out) := by
  obtain ⟨r, h1, h2⟩ := NH 1 d ky fn dp lf off n_ nd pV jD jT;rw [hc] at h1;obtain rfl := Option.some.inj h1;obtain ⟨he1, he2⟩ := enc_ok 1 d ky fn dp lf off n_ nd pV jD jT hc;rcases h2 rfl with ⟨_, _, _, h3, hs, hp⟩ | ⟨h, _⟩
  ·have hl : (encB 1 d ky fn dp lf off n_ nd pV jD jT).length = 64 := by rw [encB_len _ _ _ _ _ _ _ _ _ _ _ _ (.inl ⟨rfl, hs, hp⟩)];rfl
   have hkl : key.length <= 128 := by
     rcases hkey with rfl | h
     ·simp
     ·omega
   exact ⟨big, _, _, rfl, whashB d ky fn dp lf off n_ nd pV jD jT key last out data _ he1 hl hkey hkl hd, rhash_ok big d ky fn dp lf off n_ nd pV jD jT key last out data _ hc he2 hl hkey hkl hd⟩
  ·cases h
end Go.Sx
namespace Go.Sx
open Go.RowKit
set_option linter.unusedVariables false
set_option linter.unusedSimpArgs false
section
variable {α σ ρ τ : Type}
def TV (step : σ -> α -> σ ⊕ ρ) (fin : σ -> ρ) : List α -> σ -> ρ
  | [], s => fin s
  | x :: r, s => match step s x with | .inl s' => TV step fin r s' | .inr q => q
theorem loopL {f : τ -> Option (τ ⊕ ρ)} (l : List α) (st : σ -> Nat -> τ) (step : σ -> α -> σ ⊕ ρ) (fin : σ -> ρ) (I : Nat -> σ -> Prop)
    (hn : ∀ s i (h : i < l.length), I i s -> f (st s i) = some (match step s l[i] with | .inl s' => .inl (st s' (i + 1)) | .inr q => .inr q) /\ ∀ s', step s l[i] = .inl s' -> I (i + 1) s')
    (he : ∀ s, I l.length s -> f (st s l.length) = some (.inr (fin s))) (s : σ) (h0 : I 0 s) : aV f (st s 0) = some (TV step fin l s) := by
  have key : ∀ (m k : Nat) (s : σ), m = l.length - k -> k <= l.length -> I k s -> aV f (st s k) = some (TV step fin (l.drop k) s) := by
    intro m
    induction m with
    | zero =>
      intro k s hm hk hi;obtain rfl : k = l.length := by omega
      rw [List.drop_length];exact dU (he s hi)
    | succ m ih =>
      intro k s hm hk hi;have hlt : k < l.length := by omega
      obtain ⟨h1, h2⟩ := hn s k hlt hi;rw [List.drop_eq_getElem_cons hlt, TV];cases hs : step s l[k] with
      | inl s' =>
        rw [hs] at h1;rw [gK h1];exact ih (k + 1) s' (by omega) (by omega) (h2 s' hs)
      | inr q =>
        rw [hs] at h1;exact dU h1
  exact key _ 0 s rfl (Nat.zero_le _) h0
end
def vW (s : List UInt8) : Bool := decide (1 <= s.length /\ s.length <= 64) && s.all (fun c => !(decide (c < 33) || decide ((126 : UInt8) < c)))
theorem TW (p : UInt8 -> Bool) : ∀ l : List UInt8, TV (fun (_ : Unit) c => if p c = true then .inr false else .inl ()) (fun _ => true) l () = l.all (fun c => !p c)
  | [] => rfl
  | c :: r => by
    unfold TV;by_cases h : p c = true
    ·simp [h]
    ·simp only [h, if_false, Bool.false_eq_true];rw [TW p r];simp [h]
theorem named_ok (s : List UInt8) (hs : s.length <= 16000000) : rP s = some (vW s) := by
  unfold rP vW;by_cases h : ((decide ((s.length : Int) < 1)) || (decide (64 < (s.length : Int)))) = true
  ·rw [if_pos h];simp only [Bool.or_eq_true, decide_eq_true_eq] at h;rw [decide_eq_false (by omega)];rfl
  ·rw [if_neg h];simp only [Bool.or_eq_true, decide_eq_true_eq, not_or] at h;rw [decide_eq_true (by omega), Bool.true_and, <- TW (fun c => decide (c < 33) || decide ((126 : UInt8) < c))];refine loopL (f := o8 s) s (fun (_ : Unit) i => (i : Int)) _ _ (fun _ _ => True) (fun _ i hi _ => ⟨?_, fun _ _ => trivial⟩) (fun _ _ => ?_) () trivial
   ·unfold o8;rw [if_pos (by omega), bQ hi];simp only [Option.bind_some, Bc];by_cases h1 : s[i] < 33
    ·simp [h1]
    ·simp only [h1, decide_false, Bool.not_false, if_true, Option.bind_some, Bool.false_or, decide_eq_true_eq];by_cases h2 : (126 : UInt8) < s[i]
     ·simp [h2]
     ·simp only [h2, if_false];rw [zy i (by omega)]
   ·unfold o8;rw [if_neg (by omega)];rfl
noncomputable def NI (sz : Nat) (b : List UInt8) : List UInt8 := ((qO 1 sz 0 1 1 0 0 0 0 0 [] [] [] false sz b).getD ([], 0)).1
theorem chkD (sz : Nat) (h1 : 1 <= sz) (h2 : sz <= 64) : jq 1 (sz : Int) 0 1 1 0 0 0 0 0 [] [] = some 0 := by
  unfold jq;rw [show nV 1 = some 64 from rfl];simp only [Option.bind_some];rw [if_neg (by decide), if_neg (by simp only [Bool.or_eq_true, decide_eq_true_eq];omega)];rfl
theorem TY (sz : Nat) (h1 : 1 <= sz) (h2 : sz <= 64) (b : List UInt8) (hb : b.length <= 12000000) :
    qO 1 sz 0 1 1 0 0 0 0 0 [] [] [] false sz b = some (NI sz b, 0) /\ xy 1 sz 0 1 1 0 0 0 0 0 [] [] [] false sz b = some (NI sz b, 0) /\ (NI sz b).length = sz := by
  obtain ⟨H, blk, M, hk, e1, e2⟩ := hash_ok sz 0 1 1 0 0 0 0 0 [] [] [] false sz b (chkD sz h1 h2) (.inl rfl) hb;have hS : H.S = 64 := by rcases H.hk with ⟨_, _, h⟩ | ⟨h, _, _⟩ <;> omega
  have ha : H.ans blk M false sz = ((H.hash blk M false).take sz, 0) := by
    unfold Half.ans;rw [if_neg (by omega), Int.toNat_natCast]
  have hd : NI sz b = (H.hash blk M false).take sz := by unfold NI;rw [e1, ha];rfl
  rw [e1, e2, ha, hd];refine ⟨rfl, rfl, ?_⟩;rw [List.length_take, H.TU, hS];omega
abbrev Fi := List UInt8 × List UInt8
theorem XT (b : List UInt8) (h : b.length <= 16000000) : yz b = some b := by
  unfold yz;rw [uD (by simp;omega)];simp
end Go.Sx
namespace Go.Sx
open Go.RowKit
set_option linter.unusedVariables false
set_option linter.unusedSimpArgs false
section
variable {α σ ρ ρ' : Type}
end
abbrev Ch := Mp (List UInt8)
abbrev Q7 := Mp (Int × List UInt8)
abbrev Sn := Mp (Mp (Int × List UInt8))
noncomputable def eatF (sz : Nat) (C : Ch) (s : Ch × List UInt8) (c : List UInt8) : (Ch × List UInt8) ⊕ Option (Ch × List UInt8) :=
  match (fP C (NI sz c)).or (fP s.1 (NI sz c)) with
  | some o => if o ≠ c then .inr none else .inl (fH s.1 (NI sz c) c, s.2 ++ NI sz c)
  | none => .inl (fH s.1 (NI sz c) c, s.2 ++ NI sz c)
noncomputable def eatA (sz : Nat) (C : Ch) (l : List (List UInt8)) (m : Ch) : Option (Ch × List UInt8) := TV (eatF sz C) some l (m, [])
noncomputable def keepF (sz : Nat) (C : Ch) (s : Ch × Q7) (f : Fi) : (Ch × Q7) ⊕ Option (Ch × Q7) :=
  match eatA sz C (cut f.2 [] 0) s.1 with
  | none => .inr none
  | some p => .inl (p.1, fH s.2 f.1 ((f.2.length : Int), p.2))
noncomputable def keepA (sz : Nat) (C : Ch) (l : List Fi) : Option (Ch × Q7) := TV (keepF sz C) some l ([], [])
def joinM (C m : Ch) : Ch := m.foldl (fun c p => fH c p.1 p.2) C
noncomputable def g2 (sz : Nat) (C : Ch) (S : Sn) (md : Q7) (i : Nat) (f : Fi) : Option (Ch × List UInt8) -> (Int × Ch × Q7 × Int) ⊕ (Int × Int × Ch × Sn)
  | none => .inr (271, (sz : Int), C, S)
  | some p => .inl ((sz : Int), p.1, fH md f.1 ((f.2.length : Int), p.2), ((i + 1 : Nat) : Int))
def g1 (sz : Nat) (C : Ch) (S : Sn) (snap : List UInt8) : Option (Ch × Q7) -> Int × Int × Ch × Sn
  | none => (271, (sz : Int), C, S)
  | some p => (0, (sz : Int), joinM C p.1, fH S snap p.2)
noncomputable def g0 (sz : Nat) (C : Ch) (S : Sn) (snap : List UInt8) (l : List Fi) : Option Int -> Int × Int × Ch × Sn
  | some e => (e, (sz : Int), C, S)
  | none => g1 sz C S snap (keepA sz C l)
end Go.Sx
namespace Go.Sx
set_option linter.unusedVariables false
set_option linter.unusedSimpArgs false
def NN (x : Nat) : Prop := x % 9223372036854775808 <= 9218868437227405312
instance (x : Nat) : Decidable (NN x) := inferInstanceAs (Decidable (_ <= _))
def Num (x : Nat) : Prop := x % 9223372036854775808 < 9218868437227405312
instance (x : Nat) : Decidable (Num x) := inferInstanceAs (Decidable (_ < _))
end Go.Sx
namespace Go.Sx
open Go.RowKit
set_option linter.unusedVariables false
set_option linter.unusedSimpArgs false
section
variable {δ : Type}
theorem GI (k : Ky) (v : δ) : ∀ m : Mp δ, fP (fH m k v) k = some v
  | [] => by simp [fH, fP]
  | p :: r => by
    unfold fH;by_cases h1 : k = p.1
    ·rw [if_pos h1];simp [fP]
    ·rw [if_neg h1];by_cases h2 : k < p.1
     ·rw [if_pos h2];simp [fP]
     ·rw [if_neg h2, fP, if_neg (fun e => h1 e.symm), GI k v r]
theorem XU (k k' : Ky) (v : δ) (m : Mp δ) : fP (fH m k v) k' = if k = k' then some v else fP m k' := by
  by_cases h : k = k'
  ·rw [if_pos h, <- h, GI]
  ·rw [if_neg h, CO h]
theorem TZ (k : Ky) (v : δ) : ∀ m : Mp δ, (fH m k v).length <= m.length + 1
  | [] => by simp [fH]
  | p :: r => by
    unfold fH;split
    ·simp
    ·split
     ·simp
     ·have := TZ k v r;simp only [List.length_cons];omega
theorem NJ {k : Ky} {v : δ} {q : Ky × δ} : ∀ {m : Mp δ}, q ∈ fH m k v -> q = (k, v) ∨ q ∈ m
  | [], h => .inl (by simpa [fH] using h)
  | p :: r, h => by
    unfold fH at h;split at h
    ·rcases List.mem_cons.1 h with h | h
     ·exact .inl h
     ·exact .inr (List.mem_cons_of_mem _ h)
    ·split at h
     ·rcases List.mem_cons.1 h with h | h
      ·exact .inl h
      ·exact .inr h
     ·rcases List.mem_cons.1 h with h | h
      ·exact .inr (h ▸ List.mem_cons_self)
      ·rcases NJ h with h | h
       ·exact .inl h
       ·exact .inr (List.mem_cons_of_mem _ h)
end
def rV (C : Ch) : Nat := (C.map (fun p => p.2.length)).sum
def sizes (m : Q7) : Int := (m.map (fun p => p.2.1)).sum
end Go.Sx
namespace Go.Sx
open Go.RowKit
set_option linter.unusedVariables false
set_option linter.unusedSimpArgs false
def JX : Nat -> Nat -> List UInt8
  | 0, _ => []
  | k + 1, n => UInt8.ofNat n :: JX k (n / 256)
def yM : List UInt8 -> Nat
  | [] => 0
  | b :: r => b.toNat + 256 * yM r
theorem sG : ∀ k n, (JX k n).length = k
  | 0, _ => rfl
  | k + 1, n => by simp [JX, sG k]
theorem T_ : ∀ a b : List UInt8, yM (a ++ b) = yM a + 256 ^ a.length * yM b
  | [], b => by simp [yM]
  | x :: a, b => by
    simp only [List.cons_append, yM, T_ a b, List.length_cons, Nat.pow_succ, Nat.mul_add, Nat.add_assoc];congr 2;rw [<- Nat.mul_assoc, Nat.mul_comm 256]
theorem Ll : ∀ a : List UInt8, yM a < 256 ^ a.length
  | [] => by simp [yM]
  | x :: a => by
    have := Ll a;have := x.toNat_lt;simp only [yM, List.length_cons, Nat.pow_succ];omega
theorem NK (n : Nat) : UInt8.ofInt (n : Int) = UInt8.ofNat n := by
  apply UInt8.toNat_inj.1;simp [UInt8.ofInt];omega
theorem FD (n : Nat) (h : n < 4294967296) : oK (n : Int) = some (JX 4 n) := by
  unfold oK yA;simp only [Option.bind_some, Option.some.injEq];have hw : (UInt32.ofInt (n : Int)).toNat = n := by simp [UInt32.ofInt];omega
  have hs : ∀ k, (xW (UInt32.ofInt (n : Int)) k).toNat = n / 2 ^ k := fun k => by
    show ((UInt32.ofInt (n : Int)).toBitVec >>> k).toNat = _;rw [BitVec.toNat_ushiftRight, Nat.shiftRight_eq_div_pow];congr 1
  rw [hs, hs, hs, hw];simp only [JX];have e1 : n / 2 ^ (8 : UInt64).toNat = n / 256 := rfl;have e2 : n / 2 ^ (16 : UInt64).toNat = n / 256 / 256 := by rw [Nat.div_div_eq_div_mul];rfl
  have e3 : n / 2 ^ (24 : UInt64).toNat = n / 256 / 256 / 256 := by rw [Nat.div_div_eq_div_mul, Nat.div_div_eq_div_mul];rfl
  rw [e1, e2, e3]
theorem dtwo_ok (n : Nat) (h : n < 65536) : ([UInt8.ofInt (n : Int), UInt8.ofInt (N8 .i64 (n : Int) ((8 : UInt64).toNat))] : List UInt8) = JX 2 n := by
  have : N8 .i64 (n : Int) ((8 : UInt64).toNat) = ((n / 256 : Nat) : Int) := by
    show (n : Int).fdiv (2 ^ (min 8 64)) = _;rw [show (2 : Int) ^ (min 8 64) = 256 from rfl, Int.fdiv_eq_ediv_of_nonneg _ (by omega)];omega
  rw [this, NK, NK];rfl
theorem or_byte (n c i : Nat) (hn : n < 256 ^ i) (hc : c < 256) (hi : i <= 3) : orI .i64 (n : Int) (Py .i64 (c : Int) (8 * i)) = ((n + 256 ^ i * c : Nat) : Int) := by
  have hp : (256 : Nat) ^ i = 2 ^ (8 * i) := by rw [Nat.pow_mul]
  have hb : 256 ^ i <= 16777216 := Nat.pow_le_pow_right (n := 256) (by decide) hi;have h1 : Py .i64 (c : Int) (8 * i) = ((c * 256 ^ i : Nat) : Int) := by
    unfold Py;have hm : min (8 * i) IntKind.i64.bits = 8 * i := Nat.min_eq_left (by show 8 * i <= 64;omega);rw [hm];have : (c : Int) * 2 ^ (8 * i) = ((c * 256 ^ i : Nat) : Int) := by rw [hp];push_cast;rfl
    rw [this];show aG _ = _;have : c * 256 ^ i <= 255 * 16777216 := Nat.mul_le_mul (by omega) hb;rw [iK (by omega)]
  rw [h1];unfold orI;have e : (BitVec.ofInt IntKind.i64.bits (n : Int) ||| BitVec.ofInt IntKind.i64.bits ((c * 256 ^ i : Nat) : Int)).toNat = n + 256 ^ i * c := by
    have hc2 : c * 256 ^ i <= 255 * 16777216 := Nat.mul_le_mul (by omega) hb;show (BitVec.ofInt 64 (n : Int) ||| BitVec.ofInt 64 ((c * 256 ^ i : Nat) : Int)).toNat = _;rw [BitVec.toNat_or, BitVec.ofInt_natCast, BitVec.ofInt_natCast, BitVec.toNat_ofNat, BitVec.toNat_ofNat, Nat.mod_eq_of_lt (by omega), Nat.mod_eq_of_lt (by omega), Nat.or_comm];have h2 := Nat.shiftLeft_add_eq_or_of_lt (b := n) (i := 8 * i) (hp ▸ hn) c;rw [Nat.shiftLeft_eq, <- hp] at h2;rw [<- h2, Nat.mul_comm, Nat.add_comm]
  rw [e];show aG _ = _;have hc2 : 256 ^ i * c <= 16777216 * 255 := Nat.mul_le_mul hb (by omega);rw [iK (by omega)]
theorem pnum_run (bs rest : List UInt8) (sh wr : Bool) (h : bs.length <= 4) : aV (lD (bs, rest, sh, wr)) ((0 : Int), (0 : Int)) = some ((yM bs : Int), rest, sh, wr) := by
  refine iL (fun i => ((yM (bs.take i) : Int), (i : Int))) bs.length (fun i hi => ?_) ?_
  ·unfold lD;simp only [];rw [if_pos (by omega), bQ hi];simp only [Option.bind_some];have e : aG (8 * (i : Int)) = ((8 * i : Nat) : Int) := by rw [iK (by omega)];omega
   rw [e, qL (by omega)];simp only [Option.bind_some, Int.toNat_natCast];have hl : (bs.take i).length = i := by rw [List.length_take];omega
   have hv := Ll (bs.take i);rw [hl] at hv;rw [or_byte _ _ i hv bs[i].toNat_lt (by omega), zy i (by omega)];rw [List.take_add_one, List.getElem?_eq_getElem hi, T_, hl];simp [yM]
  ·unfold lD;simp only [];rw [if_neg (by omega), List.take_length];rfl
end Go.Sx
namespace Go.Sx
open Go.RowKit
set_option linter.unusedVariables false
set_option linter.unusedSimpArgs false
def Ya (p : Ky × List UInt8) : List UInt8 := JX 2 p.2.length ++ p.2
def WG (sz : Nat) (p : Ky × (Int × List UInt8)) : List UInt8 := [UInt8.ofNat p.1.length] ++ p.1 ++ JX 4 p.2.1.toNat ++ JX 4 (p.2.2.length / sz) ++ p.2.2
def Ux (sz : Nat) (p : Ky × Mp (Int × List UInt8)) : List UInt8 := [UInt8.ofNat p.1.length] ++ p.1 ++ JX 4 p.2.length ++ (p.2.map (WG sz)).flatten
def Ua (sz : Nat) (C : Ch) (S : Sn) : List UInt8 := [68, 81, 1, UInt8.ofNat sz] ++ JX 4 C.length ++ (C.map Ya).flatten ++ JX 4 S.length ++ (S.map (Ux sz)).flatten
theorem DR {δ : Type} {m : Mp δ} (h : uk m) : H7 (m.map (·.1)) = m.map (·.1) := by
  unfold H7;refine List.mergeSort_of_pairwise ?_;unfold uk at h;exact h.imp fun hab => decide_eq_true (List.le_of_lt hab)
theorem F8 {α : Type} (f : α -> List UInt8) (l : List α) (i : Nat) (h : i < l.length) : ((l.take (i + 1)).map f).flatten = ((l.take i).map f).flatten ++ f l[i] := by
  rw [List.take_add_one, List.getElem?_eq_getElem h, Option.toList_some, List.map_append, List.flatten_append];simp only [List.map_cons, List.map_nil, List.flatten_cons, List.flatten_nil, List.append_nil]
theorem VJ {α : Type} (f : α -> List UInt8) (l : List α) (i : Nat) : ((l.take i).map f).flatten.length <= (l.map f).flatten.length := by
  have h : l.map f = (l.take i).map f ++ (l.drop i).map f := by rw [<- List.map_append, List.take_append_drop]
  have h2 := congrArg (fun x => x.flatten.length) h;simp only [List.flatten_append, List.length_append] at h2;omega
theorem QO {δ : Type} {m : Mp δ} (h : uk m) (i : Nat) (hi : i < m.length) : fP m m[i].1 = some m[i].2 := l9 h.nodup (List.getElem_mem hi)
structure OkE (sz : Nat) (m : Q7) : Prop where
  H7 : uk m
  len : m.length <= 1000000
  name : ∀ p ∈ m, 1 <= p.1.length /\ p.1.length <= 64
  size : ∀ p ∈ m, 0 <= p.2.1 /\ p.2.1 <= 1048576
  digs : ∀ p ∈ m, p.2.2.length <= 1000000000
theorem app1 {a b : List UInt8} (h : a.length + b.length <= 100000000000000) : app a b 1 = some (a ++ b) := uD (by omega)
theorem save_l2 (sz : Nat) (h1 : 1 <= sz) (x3 : Nat) (hx3 : x3 <= 1000000) (m : Q7) (hm : OkE sz m) (b : List UInt8) (hb : b.length + (m.map (WG sz)).flatten.length <= 100000000000000) :
    aV (lq (sz : Int) (x3 : Int) m (m.map (·.1))) (b, (0 : Int)) = some (.inl (b ++ (m.map (WG sz)).flatten, ((x3 + 1 : Nat) : Int))) := by
  have h0 : (b, (0 : Int)) = (b ++ ((m.take 0).map (WG sz)).flatten, ((0 : Nat) : Int)) := by simp
  rw [h0];refine iL (fun i => (b ++ ((m.take i).map (WG sz)).flatten, (i : Int))) m.length (fun i hi => ?_) ?_
  ·have hlen := hm.len;have hnm := hm.name _ (List.getElem_mem hi);have hsz := hm.size _ (List.getElem_mem hi);have hdg := hm.digs _ (List.getElem_mem hi);have hk : i < (m.map (·.1)).length := by rw [List.length_map];exact hi
   have hf := QO hm.H7 i hi;have ht := VJ (WG sz) m (i + 1);rw [F8 (WG sz) m i hi, List.length_append] at ht;have he : (WG sz m[i]).length = 1 + m[i].1.length + 4 + 4 + m[i].2.2.length := by simp [WG, sG];omega
   unfold lq;simp only [];rw [if_pos (by rw [List.length_map];omega), bQ hk];simp only [Option.bind_some, List.getElem_map];rw [app1 (by simp only [List.length_append, List.length_cons, List.length_nil];omega)];simp only [Option.bind_some];rw [app1 (by simp only [List.length_append, List.length_cons, List.length_nil];omega)];simp only [Option.bind_some, hf, Option.getD_some];obtain ⟨q, hq⟩ : ∃ q : Nat, m[i].2.1 = (q : Int) := ⟨m[i].2.1.toNat, by omega⟩
   rw [hq, FD q (by omega)];simp only [Option.bind_some];rw [app1 (by simp only [List.length_append, List.length_cons, List.length_nil, sG];omega)];simp only [Option.bind_some];rw [qL (by omega)];simp only [Option.bind_some];have hdv : aG (Int.tdiv (m[i].2.2.length : Int) (sz : Int)) = ((m[i].2.2.length / sz : Nat) : Int) := by
     have h2 : m[i].2.2.length / sz <= m[i].2.2.length := Nat.div_le_self _ _;rw [show Int.tdiv (m[i].2.2.length : Int) (sz : Int) = ((m[i].2.2.length / sz : Nat) : Int) from rfl];generalize m[i].2.2.length / sz = z at h2 ⊢;exact iK (by omega)
   have hdl : m[i].2.2.length / sz <= m[i].2.2.length := Nat.div_le_self _ _;rw [hdv, FD _ (by omega)];simp only [Option.bind_some];rw [app1 (by simp only [List.length_append, List.length_cons, List.length_nil, sG];omega)];simp only [Option.bind_some];rw [app1 (by simp only [List.length_append, List.length_cons, List.length_nil, sG];omega)];simp only [Option.bind_some];rw [zy i (by omega), F8 (WG sz) m i hi, NK];simp only [WG, hq, Int.toNat_natCast, List.append_assoc]
  ·unfold lq;simp only [];rw [if_neg (by rw [List.length_map];omega), zy x3 (by omega), List.take_length];rfl
structure OkS (sz : Nat) (S : Sn) : Prop where
  H7 : uk S
  len : S.length <= 1000000
  name : ∀ p ∈ S, 1 <= p.1.length /\ p.1.length <= 64
  each : ∀ p ∈ S, OkE sz p.2
theorem save_l1 (sz : Nat) (h1 : 1 <= sz) (S : Sn) (hS : OkS sz S) (b : List UInt8) (hb : b.length + (S.map (Ux sz)).flatten.length <= 100000000000000) :
    aV (lu S (sz : Int) (S.map (·.1))) (b, (0 : Int)) = some (b ++ (S.map (Ux sz)).flatten, (sz : Int)) := by
  have h0 : (b, (0 : Int)) = (b ++ ((S.take 0).map (Ux sz)).flatten, ((0 : Nat) : Int)) := by simp
  rw [h0];refine iL (fun i => (b ++ ((S.take i).map (Ux sz)).flatten, (i : Int))) S.length (fun i hi => ?_) ?_
  ·have hlen := hS.len;have hnm := hS.name _ (List.getElem_mem hi);have hE := hS.each _ (List.getElem_mem hi);have hEl := hE.len;have hk : i < (S.map (·.1)).length := by rw [List.length_map];exact hi
   have hf := QO hS.H7 i hi;have ht := VJ (Ux sz) S (i + 1);rw [F8 (Ux sz) S i hi, List.length_append] at ht;have he : (Ux sz S[i]).length = 1 + S[i].1.length + 4 + (S[i].2.map (WG sz)).flatten.length := by simp only [Ux, sG, List.length_append, List.length_cons, List.length_nil]
   unfold lu;simp only [];rw [if_pos (by rw [List.length_map];omega), bQ hk];simp only [Option.bind_some, List.getElem_map];rw [app1 (by simp only [List.length_append, List.length_cons, List.length_nil];omega)];simp only [Option.bind_some];rw [app1 (by simp only [List.length_append, List.length_cons, List.length_nil];omega)];simp only [Option.bind_some, hf, Option.elim_some];rw [FD _ (by omega)];simp only [Option.bind_some];rw [app1 (by simp only [List.length_append, List.length_cons, List.length_nil, sG];omega)];simp only [Option.bind_some];unfold nI;rw [qL (by omega)];simp only [Option.bind_some];rw [DR hE.H7, save_l2 sz h1 i (by omega) S[i].2 hE _ (by simp only [List.length_append, List.length_cons, List.length_nil, sG];omega)];rw [F8 (Ux sz) S i hi, NK];simp only [Ux, List.append_assoc]
  ·unfold lu;simp only [];rw [if_neg (by rw [List.length_map];omega), List.take_length];rfl
structure OkC (C : Ch) : Prop where
  H7 : uk C
  len : C.length <= 1000000000
  each : ∀ p ∈ C, 1 <= p.2.length /\ p.2.length <= 1024
theorem save_l0 (sz : Nat) (h1 : 1 <= sz) (C : Ch) (hC : OkC C) (S : Sn) (hS : OkS sz S) (b : List UInt8) (hb : b.length + (C.map Ya).flatten.length + 4 + (S.map (Ux sz)).flatten.length <= 100000000000000) :
    aV (lC C S (sz : Int) (C.map (·.1))) (b, (0 : Int)) = some (b ++ (C.map Ya).flatten ++ JX 4 S.length ++ (S.map (Ux sz)).flatten, (sz : Int)) := by
  have h0 : (b, (0 : Int)) = (b ++ ((C.take 0).map Ya).flatten, ((0 : Nat) : Int)) := by simp
  rw [h0];refine iL (fun i => (b ++ ((C.take i).map Ya).flatten, (i : Int))) C.length (fun i hi => ?_) ?_
  ·have hlen := hC.len;have hE := hC.each _ (List.getElem_mem hi);have hk : i < (C.map (·.1)).length := by rw [List.length_map];exact hi
   have hf := QO hC.H7 i hi;have ht := VJ Ya C (i + 1);rw [F8 Ya C i hi, List.length_append] at ht;have he : (Ya C[i]).length = 2 + C[i].2.length := by simp only [Ya, sG, List.length_append]
   unfold lC;simp only [];rw [if_pos (by rw [List.length_map];omega), bQ hk];simp only [Option.bind_some, List.getElem_map, hf, Option.elim_some];rw [dtwo_ok _ (by omega), app1 (by simp only [List.length_append, sG];omega)];simp only [Option.bind_some];rw [app1 (by simp only [List.length_append, sG];omega)];simp only [Option.bind_some];rw [zy i (by omega), F8 Ya C i hi];simp only [Ya, List.append_assoc]
  ·have hSl := hS.len;unfold lC;simp only [];rw [if_neg (by rw [List.length_map];omega), List.take_length, FD _ (by omega)];simp only [Option.bind_some];rw [app1 (by simp only [List.length_append, sG];omega)];simp only [Option.bind_some];unfold fC;rw [qL (by omega)];simp only [Option.bind_some];rw [DR hS.H7, save_l1 sz h1 S hS _ (by simp only [List.length_append, sG];omega)];rfl
theorem save_ok (sz : Nat) (h1 : 1 <= sz) (C : Ch) (hC : OkC C) (S : Sn) (hS : OkS sz S) (hb : (Ua sz C S).length <= 100000000000000) : mJ (sz : Int) C S = some (Ua sz C S, (sz : Int)) := by
  have hlen := hC.len;unfold Ua at hb;simp only [List.length_append, List.length_cons, List.length_nil, sG] at hb;unfold mJ iH;simp only [Option.bind_some];rw [FD _ (by omega)];simp only [Option.bind_some];rw [app1 (by simp only [List.length_cons, List.length_nil, sG];omega)];simp only [Option.bind_some];unfold nT;rw [qL (by omega)];simp only [Option.bind_some];rw [DR hC.H7, save_l0 sz h1 C hC S hS _ (by simp only [List.length_append, List.length_cons, List.length_nil, sG];omega), NK];rfl
end Go.Sx
namespace Go.Sx
open Go.RowKit
set_option linter.unusedVariables false
set_option linter.unusedSimpArgs false
theorem CG : ∀ a b : List UInt8, Op.bytesLess a b = decide (a < b)
  | a, [] => by
    have : ¬ a < [] := List.not_lt_nil a;cases a <;> simp [Op.bytesLess, this]
  | [], y :: b => by
    have : ([] : List UInt8) < y :: b := List.nil_lt_cons y b;simp [Op.bytesLess, this]
  | x :: a, y :: b => by
    rw [Op.bytesLess, CG a b];have := List.cons_lt_cons_iff (a := x) (b := y) (l₁ := a) (l₂ := b);by_cases h1 : x < y
    ·simp [h1, this]
    ·by_cases h2 : x = y
     ·subst h2;simp [h1, this]
     ·simp [h1, h2, this]
theorem after_ok {k last : Ky} (h : last < k) : (!(Op.bytesLess k last || decide (k = last))) = true := by
  rw [CG, decide_eq_false (Ar h), decide_eq_false (fun e => Eu h e.symm)];rfl
theorem JY {δ : Type} (k : Ky) (v : δ) : ∀ m : Mp δ, (∀ p ∈ m, p.1 < k) -> fH m k v = m ++ [(k, v)]
  | [], _ => rfl
  | p :: r, h => by
    have h1 := h p List.mem_cons_self;rw [fH, if_neg (fun e => Eu h1 e.symm), if_neg (Ar h1), JY k v r (fun q hq => h q (List.mem_cons_of_mem _ hq))];rfl
theorem NL {δ : Type} {m : Mp δ} (h : uk m) (i : Nat) (hi : i < m.length) : ∀ p ∈ m.take i, p.1 < m[i].1 := by
  intro p hp;obtain ⟨j, hj, rfl⟩ := List.getElem_of_mem hp;rw [List.length_take] at hj;rw [List.getElem_take];unfold uk at h;have := List.pairwise_iff_getElem.1 h j i (by rw [List.length_map];omega) (by rw [List.length_map];exact hi) (by omega);simpa using this
def rD {δ : Type} (m : Mp δ) : Nat -> Ky
  | 0 => []
  | i + 1 => ((m[i]?).map (·.1)).getD []
theorem last_ok {δ : Type} {m : Mp δ} (h : uk m) (i : Nat) (hi : i < m.length) : (decide ((i : Int) = 0) || !(Op.bytesLess m[i].1 (rD m i) || decide (m[i].1 = rD m i))) = true := by
  cases i with
  | zero => simp
  | succ i =>
    have h1 : rD m (i + 1) = m[i].1 := by simp [rD, List.getElem?_eq_getElem (show i < m.length by omega)]
    have h2 : m[i].1 < m[i + 1].1 := NL h (i + 1) hi _ (by
      have : m[i] = (m.take (i + 1))[i]'(by rw [List.length_take];omega) := by rw [List.getElem_take]
      rw [this];exact List.getElem_mem _)
    rw [h1, after_ok h2, Bool.or_true]
theorem take_ok (X R : List UInt8) (wr : Bool) (n : Int) (hn : n = X.length) : gX (X ++ R) false wr n = some (X, R, false, wr) := by
  subst hn;unfold gX;rw [if_neg (by simp only [Bool.false_or, decide_eq_true_eq, List.length_append];omega), Aj (by simp only [List.length_append];omega)];simp only [Option.bind_some];rw [Aj (by simp only [List.length_append];omega)];have e1 : ((X ++ R).take ((X.length : Int)).toNat).drop (0 : Int).toNat = X := by rw [Int.toNat_natCast, List.take_left];rfl
  have e2 : ((X ++ R).take ((((X ++ R).length : Nat) : Int)).toNat).drop ((X.length : Int)).toNat = R := by rw [Int.toNat_natCast, Int.toNat_natCast, List.take_length, List.drop_left]
  rw [e1, e2];rfl
def som (S : Sn) : Mp (Option (Mp (Int × List UInt8))) := S.map fun p => (p.1, some p.2)
end Go.Sx
namespace Go.Sx
open Go.RowKit
set_option linter.unusedVariables false
set_option linter.unusedSimpArgs false
def chop (sz : Nat) : Nat -> List UInt8 -> List Ky
  | 0, _ => []
  | n + 1, s => s.take sz :: chop sz n (s.drop sz)
theorem JZ (sz : Nat) : ∀ ks : List Ky, (∀ k ∈ ks, k.length = sz) -> chop sz ks.length ks.flatten = ks
  | [], _ => rfl
  | k :: ks, h => by
    have hk := h k List.mem_cons_self;have ih := JZ sz ks (fun x hx => h x (List.mem_cons_of_mem _ hx));have e1 : (k ++ ks.flatten).take sz = k := by rw [<- hk, List.take_left]
    have e2 : (k ++ ks.flatten).drop sz = ks.flatten := by rw [<- hk, List.drop_left]
    simp only [List.length_cons, List.flatten_cons, chop];rw [e1, e2, ih]
theorem NM (sz : Nat) : ∀ ks : List Ky, (∀ k ∈ ks, k.length = sz) -> ks.flatten.length = ks.length * sz
  | [], _ => by simp
  | k :: ks, h => by
    have hk := h k List.mem_cons_self;have ih := NM sz ks (fun x hx => h x (List.mem_cons_of_mem _ hx));simp only [List.flatten_cons, List.length_append, List.length_cons, Nat.succ_mul, ih, hk];omega
theorem cut_run (sz : Nat) (h1 : 1 <= sz) (ks : List Ky) (hk : ∀ k ∈ ks, k.length = sz) (hl : ks.length <= 1000000000) :
    aV (iQ (sz : Int)) (ks.flatten, ([] : List Ky)) = some (ks, (sz : Int)) := by
  have h0 : (ks.flatten, ([] : List Ky)) = ((ks.drop 0).flatten, ks.take 0) := rfl;rw [h0];refine iL (fun i => ((ks.drop i).flatten, ks.take i)) ks.length (fun i hi => ?_) ?_
  ·have hki := hk _ (List.getElem_mem hi);unfold iQ;simp only [];rw [List.drop_eq_getElem_cons hi, List.flatten_cons];have hlen : (ks[i] ++ (ks.drop (i + 1)).flatten).length = sz + (ks.drop (i + 1)).flatten.length := by rw [List.length_append, hki]
   rw [if_pos (by omega), Aj (by omega)];simp only [Option.bind_some];rw [uD (by simp only [List.length_take, List.length_cons, List.length_nil];omega)];simp only [Option.bind_some];rw [Aj (by omega)];simp only [Option.bind_some];have e1 : ((ks[i] ++ (ks.drop (i + 1)).flatten).take ((sz : Int)).toNat).drop (0 : Int).toNat = ks[i] := by
     rw [Int.toNat_natCast, <- hki, List.take_left];rfl
   have e2 : ((ks[i] ++ (ks.drop (i + 1)).flatten).take ((((ks[i] ++ (ks.drop (i + 1)).flatten).length : Nat) : Int)).toNat).drop ((sz : Int)).toNat = (ks.drop (i + 1)).flatten := by
     rw [Int.toNat_natCast, Int.toNat_natCast, List.take_length, <- hki, List.drop_left]
   rw [e1, e2, List.take_add_one, List.getElem?_eq_getElem hi];rfl
  ·unfold iQ;simp only [];rw [List.drop_length, if_neg (by simp), List.take_length];rfl
end Go.Sx
namespace Go.Sx
open Go.RowKit
set_option linter.unusedVariables false
set_option linter.unusedSimpArgs false
theorem O_ (k : Ky) : ∀ (L : List Ky) (T : Mp Int), fP (L.foldl inc T) k ≠ none -> k ∈ L ∨ fP T k ≠ none
  | [], T, h => .inr h
  | x :: L, T, h => by
    rcases O_ k L (inc T x) h with h1 | h1
    ·exact .inl (List.mem_cons_of_mem _ h1)
    ·unfold inc at h1;rw [XU] at h1;by_cases hx : x = k
     ·exact .inl (hx ▸ List.mem_cons_self)
     ·rw [if_neg hx] at h1;exact .inr h1
structure Whole (sz : Nat) (p : Ky × (Int × List UInt8)) (ks : List Ky) : Prop where
  eq : p.2.2 = ks.flatten
  each : ∀ k ∈ ks, k.length = sz
  len : ks.length <= 1048576
theorem Ub (sz : Nat) (h1 : 1 <= sz) (C : Ch) (S : Sn) (kf : Ky × (Int × List UInt8) -> List Ky) : ∀ md : Q7, (∀ p ∈ md, Whole sz p (kf p)) -> ∀ T : Mp Int,
    kP (gp C S) ((sz : Int), T) md = some ((sz : Int), (md.map kf).flatten.foldl inc T)
  | [], _, T => rfl
  | p :: md, h, T => by
    have hp := h p List.mem_cons_self;have hl := hp.len;have hc : gY (sz : Int) C S p.2.2 = some (kf p, (sz : Int)) := by
      unfold gY;rw [hp.eq];exact cut_run sz h1 (kf p) hp.each (by omega)
    rw [kP, tY, hc];simp only [Option.bind_some];rw [if_pos (by omega)];simp only [Option.bind_some];rw [Ub sz h1 C S kf md (fun q hq => h q (List.mem_cons_of_mem _ hq))];rw [List.map_cons, List.flatten_cons, List.foldl_append]
end Go.Sx
namespace Go.Sx
open Go.RowKit
set_option linter.unusedVariables false
set_option linter.unusedSimpArgs false
def told (S : Sn) : Int := (S.map (fun p => sizes p.2)).sum
theorem f0_sum (C : Ch) : ∀ s : Int, kP jB (aG s) C = some (aG (s + (rV C : Int))) := by
  induction C with
  | nil => intro s;simp [kP, rV]
  | cons p r ih =>
    intro s;obtain ⟨k, v⟩ := p;simp only [kP, jB, Option.bind_some, BC];rw [ih];congr 2;simp only [rV, List.map_cons, List.sum_cons];omega
theorem f1_sum (S : Sn) : ∀ s : Int, kP jA (aG s) S = some (aG (s + told S)) := by
  induction S with
  | nil => intro s;simp [kP, told]
  | cons p r ih =>
    intro s;obtain ⟨k, v⟩ := p;simp only [kP, jA];rw [IK];simp only [Option.bind_some];rw [ih];congr 2;simp only [told, sizes, List.map_cons, List.sum_cons];omega
end Go.Sx
namespace Go.Sx
open Go.RowKit
set_option linter.unusedVariables false
set_option linter.unusedSimpArgs false
theorem Pe (a : List UInt8) (h : a.length <= 100000000000000) : rM a a = some true := by
  unfold rM yU;rw [if_neg (by simp)];have : aV (rJ a a) (0 : Int) = some true := by
    refine iL (fun i => (i : Int)) a.length (fun i hi => ?_) ?_
    ·unfold rJ;rw [if_pos (by omega), bQ hi];simp only [Option.bind_some, ne_eq, not_true_eq_false, if_false];rw [je i (by omega)]
    ·unfold rJ;rw [if_neg (by omega)];rfl
  rw [this];rfl
end Go.Sx
namespace Go.Sx
open Go.RowKit
set_option linter.unusedVariables false
set_option linter.unusedSimpArgs false
abbrev Tx := Option (List UInt8)
def tk (n : Nat) : Tx -> List UInt8 × Tx
  | none => ([], none)
  | some p => if p.length < n then ([], none) else (p.take n, some (p.drop n))
def nu (k : Nat) (t : Tx) : Nat × Tx := (yM (tk k t).1, (tk k t).2)
def ma (k : Nat) (t : Tx) : Nat × Tx :=
  match (nu k t).2 with
  | none => (0, none)
  | some p => if p.length < (nu k t).1 then (0, none) else ((nu k t).1, some p)
def ab (p : List UInt8) (sh : Bool) : Tx := if sh then none else some p
def ar (b : List UInt8) (at_ : Nat) (sh : Bool) : Tx := if sh then none else some (b.drop at_)
theorem WH : ∀ l, Lj l = yM l
  | [] => rfl
  | x :: l => by simp only [Lj, yM, WH l]
theorem HY (n : Nat) (t : Tx) : (tk n t).1.length <= n := by
  unfold tk;split
  ·simp
  ·split
   ·simp
   ·simp;omega
theorem tk_some {n : Nat} {t : Tx} {q : List UInt8} (h : (tk n t).2 = some q) : ∃ p, t = some p /\ n <= p.length /\ (tk n t).1 = p.take n /\ q = p.drop n := by
  cases t with
  | none => cases h
  | some p =>
    unfold tk at h ⊢;simp only [] at h ⊢;split at h
    ·cases h
    ·rename_i hn;rw [if_neg hn];exact ⟨p, rfl, by omega, rfl, (Option.some.inj h).symm⟩
theorem Uc (p : List UInt8) (sh wr : Bool) (n : Nat) : ∃ p' sh', gX p sh wr (n : Int) = some ((tk n (ab p sh)).1, p', sh', wr) /\ ab p' sh' = (tk n (ab p sh)).2 := by
  cases sh with
  | true => exact ⟨p, true, rfl, rfl⟩
  | false =>
    by_cases h : p.length < n
    ·refine ⟨p, true, ?_, ?_⟩
     ·unfold gX;rw [if_pos (by simp only [Bool.false_or, decide_eq_true_eq];omega)];simp [ab, tk, h]
     ·simp [ab, tk, h]
    ·have := take_ok (p.take n) (p.drop n) wr (n : Int) (by rw [List.length_take];omega);rw [List.take_append_drop] at this;refine ⟨p.drop n, false, ?_, ?_⟩
     ·rw [this];simp [ab, tk, h]
     ·simp [ab, tk, h]
theorem pnum (p : List UInt8) (sh wr : Bool) (k : Nat) (hk : k <= 4) : ∃ p' sh', lQ p sh wr (k : Int) = some (((nu k (ab p sh)).1 : Int), p', sh', wr) /\ ab p' sh' = (nu k (ab p sh)).2 := by
  obtain ⟨p', sh', e, a⟩ := Uc p sh wr k;refine ⟨p', sh', ?_, a⟩;unfold lQ;rw [e];simp only [Option.bind_some];rw [pnum_run _ _ _ _ (Nat.le_trans (HY k _) hk)];rfl
theorem WI {p : List UInt8} {sh : Bool} (h : ab p sh = none) : sh = true := by cases sh <;> simp [ab] at h ⊢
theorem QP {p q : List UInt8} {sh : Bool} (h : ab p sh = some q) : sh = false /\ p = q := by cases sh <;> simp [ab] at h ⊢;exact h
theorem Pg (p : List UInt8) (sh wr : Bool) (k : Nat) (hk : k <= 4) : ∃ p' sh', iO p sh wr (k : Int) = some (((ma k (ab p sh)).1 : Int), p', sh', wr) /\ ab p' sh' = (ma k (ab p sh)).2 := by
  obtain ⟨p', sh', e, a⟩ := pnum p sh wr k hk;unfold iO;rw [e];simp only [Option.bind_some];unfold ma;cases hq : (nu k (ab p sh)).2 with
  | none =>
    rw [hq] at a;have hs := WI a;subst hs;simp only [];have h0 : (nu k (ab p sh)).1 = 0 := by
      have hq' : (tk k (ab p sh)).2 = none := hq;unfold nu;unfold tk at hq' ⊢;cases hab : ab p sh with
      | none => rfl
      | some q =>
        rw [hab] at hq';simp only [] at hq' ⊢;split at hq'
        ·rename_i hl;rw [if_pos hl];rfl
        ·cases hq'
    rw [h0, if_neg (by omega)];exact ⟨p', true, rfl, rfl⟩
  | some q =>
    rw [hq] at a;obtain ⟨rfl, rfl⟩ := QP a;simp only [];by_cases h : p'.length < (nu k (ab p sh)).1
    ·rw [if_pos h, if_pos (by omega)];exact ⟨p', true, rfl, rfl⟩
    ·rw [if_neg h, if_neg (by omega)];exact ⟨p', false, rfl, rfl⟩
theorem NP (p : List UInt8) (sh wr ok : Bool) : jJ p sh wr ok = some (p, sh, wr || !ok) := by
  cases ok <;> cases wr <;> rfl
theorem Ud (b : List UInt8) (hb : b.length <= 16000000) (at_ : Nat) (ha : at_ <= b.length) (sh : Bool) (n : Nat) : ∃ at' sh', g_ b (at_ : Int) sh (n : Int) = some ((tk n (ar b at_ sh)).1, ((at' : Nat) : Int), sh') /\ at' <= b.length /\ ar b at' sh' = (tk n (ar b at_ sh)).2 := by
  have hw : aG (((b.length : Nat) : Int) - (at_ : Int)) = ((b.length - at_ : Nat) : Int) := by rw [iK (by omega)];omega
  unfold g_;rw [hw];cases sh with
  | true => exact ⟨at_, true, by rw [if_pos (by simp)];rfl, ha, rfl⟩
  | false =>
    by_cases h : b.length - at_ < n
    ·rw [if_pos (by simp only [Bool.false_or, decide_eq_true_eq];omega)];refine ⟨at_, true, ?_, ha, ?_⟩ <;> simp [ar, tk, h]
    ·rw [if_neg (by simp only [Bool.false_or, decide_eq_true_eq];omega)];refine ⟨at_ + n, false, ?_, by omega, ?_⟩
     ·have h1 : (tk n (ar b at_ false)).1 = (b.drop at_).take n := by simp [ar, tk, h]
      rw [h1];have h0 : (([] : List UInt8), (0 : Int)) = ((b.drop at_).take 0, ((0 : Nat) : Int)) := rfl;rw [h0];refine iL (fun i => ((b.drop at_).take i, (i : Int))) n (fun i hi => ?_) ?_
      ·unfold mZ;simp only [];have hat : aG ((at_ : Int) + (i : Int)) = ((at_ + i : Nat) : Int) := by rw [iK (by omega)];omega
       rw [if_pos (by omega), hat, bQ (by omega)];simp only [Option.bind_some];rw [app1 (by simp only [List.length_take, List.length_drop, List.length_cons, List.length_nil];omega), zy i (by omega)];simp only [Option.bind_some];rw [List.take_add_one, List.getElem?_eq_getElem (by rw [List.length_drop];omega), List.getElem_drop];rfl
      ·unfold mZ;simp only [];rw [if_neg (by omega)];have hat : aG ((at_ : Int) + (n : Int)) = ((at_ + n : Nat) : Int) := by rw [iK (by omega)];omega
       rw [hat];rfl
     ·simp only [ar, tk, Bool.false_eq_true, if_false];rw [if_neg (by rw [List.length_drop];exact h), List.drop_drop]
theorem WJ {b : List UInt8} {a : Nat} {sh : Bool} (h : ar b a sh = none) : sh = true := by cases sh <;> simp [ar] at h ⊢
theorem QQ {b q : List UInt8} {a : Nat} {sh : Bool} (h : ar b a sh = some q) : sh = false /\ b.drop a = q := by cases sh <;> simp [ar] at h ⊢;exact h
theorem rload0 (X : List UInt8) (h : X.length <= 4) : ∃ e, tK X (0 : Int) ((X.length : Nat) : Int) = some (UInt64.ofNat (yM X), e) := by
  rw [rload X (by omega) 0 (by omega) X.length (by omega)];rw [if_neg (by omega), if_neg (by omega)];refine ⟨0, ?_⟩;rw [show (0 : Int).toNat = 0 from rfl, List.drop_zero, List.take_length, WH]
theorem val4 (X : List UInt8) (h : X.length <= 4) : yM X < 4294967296 := by
  have h1 := Ll X;have h2 : (256 : Nat) ^ X.length <= 256 ^ 4 := Nat.pow_le_pow_right (by omega) h;have : (256 : Nat) ^ 4 = 4294967296 := rfl;omega
theorem nu_lt (k : Nat) (hk : k <= 4) (t : Tx) : (nu k t).1 < 4294967296 := val4 _ (Nat.le_trans (HY k t) hk)
theorem w64_val (X : List UInt8) (h : X.length <= 4) : aG ((UInt64.ofNat (yM X)).toNat : Int) = (yM X : Int) := by
  have := val4 X h;rw [UInt64.toNat_ofNat', Nat.mod_eq_of_lt (by omega), iK (by omega)]
theorem Ue (b : List UInt8) (hb : b.length <= 16000000) (at_ : Nat) (ha : at_ <= b.length) (sh : Bool) (k : Nat) (hk : k <= 4) (c : Bool) : ∃ at' sh', dw b (at_ : Int) sh (k : Int) c = some ((((if c then ma else nu) k (ar b at_ sh)).1 : Int), ((at' : Nat) : Int), sh') /\ at' <= b.length /\ ar b at' sh' = ((if c then ma else nu) k (ar b at_ sh)).2 := by
  obtain ⟨at', sh', e, hl, a⟩ := Ud b hb at_ ha sh k;have hX := Nat.le_trans (HY k (ar b at_ sh)) hk;obtain ⟨er, hL⟩ := rload0 _ hX;unfold dw;rw [e];simp only [Option.bind_some];rw [hL];simp only [Option.bind_some];rw [w64_val _ hX];have hw : aG (((b.length : Nat) : Int) - (at' : Int)) = ((b.length - at' : Nat) : Int) := by rw [iK (by omega)];omega
  rw [hw];have hn1 : (nu k (ar b at_ sh)).1 = yM (tk k (ar b at_ sh)).1 := rfl;have hn2 : (nu k (ar b at_ sh)).2 = (tk k (ar b at_ sh)).2 := rfl;cases hq : (tk k (ar b at_ sh)).2 with
  | none =>
    rw [hq] at a;have hs := WJ a;subst hs;rw [if_pos (by simp)];refine ⟨at', true, ?_, hl, ?_⟩
    ·have h0 : yM (tk k (ar b at_ sh)).1 = 0 := by
       unfold tk at hq ⊢;cases hab : ar b at_ sh with
       | none => rfl
       | some q =>
         rw [hab] at hq;simp only [] at hq ⊢;split at hq
         ·rename_i hl;rw [if_pos hl];rfl
         ·cases hq
     cases c
     ·simp only [Bool.false_eq_true, if_false, hn1, h0];rfl
     ·simp only [if_true, ma, hn2, hq];rfl
    ·cases c
     ·simp only [Bool.false_eq_true, if_false, hn2, hq];rfl
     ·simp only [if_true, ma, hn2, hq];rfl
  | some q =>
    rw [hq] at a;obtain ⟨rfl, rfl⟩ := QQ a;cases c with
    | false =>
      rw [if_neg (by simp)];exact ⟨at', false, by simp only [Bool.false_eq_true, if_false, hn1], hl, by simp only [Bool.false_eq_true, if_false, hn2, hq];rfl⟩
    | true =>
      simp only [if_true, ma, hn2, hq, hn1, List.length_drop, Bool.false_or, Bool.true_and, decide_eq_true_eq];by_cases h : b.length - at' < yM (tk k (ar b at_ sh)).1
      ·rw [if_pos h, if_pos (by omega)];exact ⟨at', true, rfl, hl, rfl⟩
      ·rw [if_neg h, if_neg (by omega)];exact ⟨at', false, rfl, hl, rfl⟩
end Go.Sx
namespace Go.Sx
open Go.RowKit
set_option linter.unusedVariables false
set_option linter.unusedSimpArgs false
variable {α ρ : Type}
def rep (f : Tx -> α × Tx) : Nat -> Tx -> List α × Tx
  | 0, t => ([], t)
  | _ + 1, none => ([], none)
  | n + 1, some p => ((f (some p)).1 :: (rep f n (f (some p)).2).1, (rep f n (f (some p)).2).2)
theorem FH (f : Tx -> α × Tx) : ∀ n, rep f n none = ([], none)
  | 0 => rfl
  | _ + 1 => rfl
theorem Em (f : Tx -> α × Tx) : ∀ n t q, (rep f n t).2 = some q -> (rep f n t).1.length = n
  | 0, t, q, _ => rfl
  | n + 1, none, q, h => by cases h
  | n + 1, some p, q, h => by simp only [rep, List.length_cons];rw [Em f n _ q h]
theorem NQ (f : Tx -> α × Tx) : ∀ n t, (rep f n t).1.length <= n
  | 0, t => Nat.le_refl _
  | n + 1, none => by simp [rep]
  | n + 1, some p => by simp only [rep, List.length_cons];have := NQ f n (f (some p)).2;omega
abbrev N7 := List UInt8 × Int × List (List UInt8)
abbrev Eo := List UInt8 × List N7
def uT (t : Tx) : List UInt8 × Tx := tk (ma 2 t).1 (ma 2 t).2
def iF (t : Tx) : List UInt8 × Tx := tk (ma 1 t).1 (ma 1 t).2
def uG (sz : Nat) (t : Tx) : N7 × Tx :=
  (((iF t).1, ((nu 4 (iF t).2).1 : Int), (rep (tk sz) (ma 4 (nu 4 (iF t).2).2).1 (ma 4 (nu 4 (iF t).2).2).2).1), (rep (tk sz) (ma 4 (nu 4 (iF t).2).2).1 (ma 4 (nu 4 (iF t).2).2).2).2)
def DT (sz : Nat) (t : Tx) : Eo × Tx :=
  (((iF t).1, (rep (uG sz) (ma 4 (iF t).2).1 (ma 4 (iF t).2).2).1), (rep (uG sz) (ma 4 (iF t).2).1 (ma 4 (iF t).2).2).2)
def hd3 (b : List UInt8) : List UInt8 × Tx := tk 3 (some b)
def hdz (b : List UInt8) : Nat × Tx := nu 1 (hd3 b).2
def hdn (b : List UInt8) : Nat × Tx := ma 4 (hdz b).2
def rE (b : List UInt8) : List (List UInt8) × Tx := rep uT (hdn b).1 (hdn b).2
def hds (b : List UInt8) : Nat × Tx := ma 4 (rE b).2
def ui (b : List UInt8) : List Eo × Tx := rep (DT (hdz b).1) (hds b).1 (hds b).2
theorem VK (t : Tx) : (nu 1 t).1 < 256 := by
  have h1 := Ll (tk 1 t).1;have h2 : (256 : Nat) ^ (tk 1 t).1.length <= 256 ^ 1 := Nat.pow_le_pow_right (by omega) (HY 1 t);unfold nu;simp only [];omega
theorem Jk (k : Nat) (hk : k <= 4) (t : Tx) : (ma k t).1 < 4294967296 := by
  unfold ma;have := nu_lt k hk t;split
  ·simp
  ·split
   ·simp
   ·exact this
theorem Jl (b : List UInt8) (F : Tx -> α × Tx) (n : Nat) (f : (Int × Bool × List α × Int) -> Option ((Int × Bool × List α × Int) ⊕ ρ))
    (h : ∀ (i a : Nat) (acc : List α), i < n -> acc.length = i -> a <= b.length -> ∃ (a' : Nat) (sh' : Bool), f ((a : Int), false, acc, (i : Int)) = some (.inl ((a' : Int), sh', acc ++ [(F (some (b.drop a))).1], ((i + 1 : Nat) : Int))) /\ a' <= b.length /\ ar b a' sh' = (F (some (b.drop a))).2) :
    ∀ (m i a : Nat) (sh : Bool) (acc : List α), i + m = n -> acc.length = i -> a <= b.length ->
      ∃ (a' : Nat) (sh' : Bool) (i' : Nat), aV f ((a : Int), sh, acc, (i : Int)) = aV f ((a' : Int), sh', acc ++ (rep F m (ar b a sh)).1, (i' : Int)) /\ a' <= b.length /\ ar b a' sh' = (rep F m (ar b a sh)).2 /\ i' <= n /\ (i' = n ∨ sh' = true)
  | 0, i, a, sh, acc, hi, hl, ha => ⟨a, sh, i, by simp [rep], ha, rfl, by omega, .inl (by omega)⟩
  | m + 1, i, a, true, acc, hi, hl, ha => ⟨a, true, i, by simp [rep, ar], ha, rfl, by omega, .inr rfl⟩
  | m + 1, i, a, false, acc, hi, hl, ha => by
    obtain ⟨a1, s1, e1, l1, r1⟩ := h i a acc (by omega) hl ha;obtain ⟨a2, s2, i2, e2, l2, r2, q2, t2⟩ := Jl b F n f h m (i + 1) a1 s1 (acc ++ [(F (some (b.drop a))).1]) (by omega) (by simp;omega) l1;have hd : ar b a false = some (b.drop a) := rfl;refine ⟨a2, s2, i2, ?_, l2, ?_, q2, t2⟩
    ·rw [gK e1, e2, hd];simp only [rep];rw [r1, List.append_assoc];rfl
    ·rw [r2, hd];simp only [rep];rw [r1]
theorem H5 {β : Type} {a c : List β} {k : Nat} (hk : k <= 64) (h : a.length + c.length <= 1000000000000) : app a c k = some (a ++ c) := uD (by
  have : (a.length + c.length) * k <= 1000000000000 * 64 := Nat.mul_le_mul h hk;omega)
theorem jb (i : Nat) (h : i <= 1000000000000) : aG ((i : Int) + 1) = ((i + 1 : Nat) : Int) := by rw [iK (by omega)];omega
theorem rnam (b : List UInt8) (hb : b.length <= 16000000) (a : Nat) (ha : a <= b.length) (sh : Bool) : ∃ (n a1 : Nat) (s1 : Bool) (a2 : Nat) (s2 : Bool),
    dw b (a : Int) sh (1 : Int) true = some ((n : Int), (a1 : Int), s1) /\ g_ b (a1 : Int) s1 (n : Int) = some ((iF (ar b a sh)).1, (a2 : Int), s2) /\ a2 <= b.length /\ ar b a2 s2 = (iF (ar b a sh)).2 := by
  obtain ⟨a1, s1, e1, l1, r1⟩ := Ue b hb a ha sh 1 (by omega) true;obtain ⟨a2, s2, e2, l2, r2⟩ := Ud b hb a1 l1 s1 (ma 1 (ar b a sh)).1;simp only [if_true] at e1 r1;exact ⟨_, a1, s1, a2, s2, e1, by rw [e2, r1];rfl, l2, by rw [r2, r1];rfl⟩
theorem rent (b : List UInt8) (hb : b.length <= 16000000) (sz : Nat) (a : Nat) (ha : a <= b.length) (sh : Bool) :
    ∃ (a' : Nat) (sh' : Bool), ou b (a : Int) sh (sz : Int) = some ((uG sz (ar b a sh)).1.1, (uG sz (ar b a sh)).1.2.1, (uG sz (ar b a sh)).1.2.2, (a' : Int), sh') /\ a' <= b.length /\ ar b a' sh' = (uG sz (ar b a sh)).2 := by
  obtain ⟨n, a1, s1, a2, s2, e1, e2, l2, r2⟩ := rnam b hb a ha sh;obtain ⟨a3, s3, e3, l3, r3⟩ := Ue b hb a2 l2 s2 4 (by omega) false;simp only [Bool.false_eq_true, if_false, r2] at e3 r3;obtain ⟨a4, s4, e4, l4, r4⟩ := Ue b hb a3 l3 s3 4 (by omega) true;simp only [if_true, r3] at e4 r4;have hlt := Jk 4 (by omega) (nu 4 (iF (ar b a sh)).2).2;obtain ⟨a5, s5, i5, e5, l5, r5, q5, t5⟩ := Jl b (tk sz) (ma 4 (nu 4 (iF (ar b a sh)).2).2).1 (kT b (sz : Int) ((iF (ar b a sh)).1, (a2 : Int), s2) (((nu 4 (iF (ar b a sh)).2).1 : Int), (a3 : Int), s3) (((ma 4 (nu 4 (iF (ar b a sh)).2).2).1 : Int), (a4 : Int), s4)) (fun i a acc hi hl hal => by
    obtain ⟨a6, s6, e6, l6, r6⟩ := Ud b hb a hal false sz;refine ⟨a6, s6, ?_, l6, r6⟩;unfold kT;simp only [];rw [if_pos (by simp only [Bool.not_false, Bool.and_true, decide_eq_true_eq];omega), e6];simp only [Option.bind_some];rw [H5 (by omega) (by simp;omega), jb i (by omega)];rfl) (ma 4 (nu 4 (iF (ar b a sh)).2).2).1 0 a4 s4 [] (by omega) rfl l4
  rw [r4] at r5 e5;refine ⟨a5, s5, ?_, l5, r5⟩;unfold ou;rw [e1];simp only [Option.bind_some];rw [e2];simp only [Option.bind_some];rw [show ((4 : Nat) : Int) = 4 from rfl] at e3 e4;rw [e3];simp only [Option.bind_some];rw [e4];simp only [Option.bind_some];rw [show ((0 : Nat) : Int) = 0 from rfl] at e5;rw [e5];refine dU ?_;unfold kT;simp only [List.nil_append];rw [if_neg (by rcases t5 with h | h <;> simp [h])];rfl
theorem rdep (b : List UInt8) (hb : b.length <= 16000000) :
    ∃ (a' : Nat) (sh' : Bool), oz b (0 : Int) false = some (((hdz b).1 : Int), (rE b).1.map (fun c => (([] : List UInt8), c)), (ui b).1, (a' : Int), sh') /\ a' <= b.length /\ ar b a' sh' = (ui b).2 := by
  have h0 : ar b 0 false = some b := rfl;obtain ⟨a1, s1, e1, l1, r1⟩ := Ud b hb 0 (by omega) false 3;rw [h0] at e1 r1;rw [show tk 3 (some b) = hd3 b from rfl] at e1 r1;obtain ⟨a2, s2, e2, l2, r2⟩ := Ue b hb a1 l1 s1 1 (by omega) false;simp only [Bool.false_eq_true, if_false, r1] at e2 r2;rw [show nu 1 (hd3 b).2 = hdz b from rfl] at e2 r2;obtain ⟨a3, s3, e3, l3, r3⟩ := Ue b hb a2 l2 s2 4 (by omega) true;simp only [if_true, r2] at e3 r3;rw [show ma 4 (hdz b).2 = hdn b from rfl] at e3 r3;have hl3 : (hdn b).1 < 4294967296 := Jk 4 (by omega) _;have hbl : ∃ (a4 : Nat) (s4 : Bool) (i4 : Nat), aV (iR b (((hdz b).1 : Int), (a2 : Int), s2) (((hdn b).1 : Int), (a3 : Int), s3)) ((a3 : Int), s3, ([] : List (List UInt8 × List UInt8)), ((0 : Nat) : Int)) = aV (iR b (((hdz b).1 : Int), (a2 : Int), s2) (((hdn b).1 : Int), (a3 : Int), s3)) ((a4 : Int), s4, (rE b).1.map (fun c => (([] : List UInt8), c)), (i4 : Int)) /\ a4 <= b.length /\ ar b a4 s4 = (rE b).2 /\ i4 <= (hdn b).1 /\ (i4 = (hdn b).1 ∨ s4 = true) := by
    have hF : ∀ (m : Nat) (t : Tx), (rep (fun t => ((([] : List UInt8), (uT t).1), (uT t).2)) m t) = ((rep uT m t).1.map (fun c => (([] : List UInt8), c)), (rep uT m t).2) := by
      intro m
      induction m with
      | zero => intro t;rfl
      | succ m ih =>
        intro t;cases t with
        | none => rfl
        | some p => simp only [rep, ih];rfl
    obtain ⟨a4, s4, i4, e4, l4, r4, q4, t4⟩ := Jl b (fun t => ((([] : List UInt8), (uT t).1), (uT t).2)) (hdn b).1 (iR b (((hdz b).1 : Int), (a2 : Int), s2) (((hdn b).1 : Int), (a3 : Int), s3)) (fun i a acc hi hl hal => by
      obtain ⟨a5, s5, e5, l5, r5⟩ := Ue b hb a hal false 2 (by omega) true;simp only [if_true] at e5 r5;obtain ⟨a6, s6, e6, l6, r6⟩ := Ud b hb a5 l5 s5 (ma 2 (ar b a false)).1;rw [r5] at e6 r6;refine ⟨a6, s6, ?_, l6, r6⟩;unfold iR;simp only [];rw [show ((2 : Nat) : Int) = 2 from rfl] at e5;rw [if_pos (by simp only [Bool.not_false, Bool.and_true, decide_eq_true_eq];omega), e5];simp only [Option.bind_some];rw [e6];simp only [Option.bind_some];rw [H5 (by omega) (by simp;omega), jb i (by omega)];rfl) (hdn b).1 0 a3 s3 [] (by omega) rfl l3
    rw [r3, hF, List.nil_append] at e4;rw [r3, hF] at r4;exact ⟨a4, s4, i4, e4, l4, r4, q4, t4⟩
  obtain ⟨a4, s4, i4, e4, l4, r4, q4, t4⟩ := hbl;obtain ⟨a5, s5, e5, l5, r5⟩ := Ue b hb a4 l4 s4 4 (by omega) true;simp only [if_true, r4] at e5 r5;rw [show ma 4 (rE b).2 = hds b from rfl] at e5 r5;have hl5 : (hds b).1 < 4294967296 := Jk 4 (by omega) _;obtain ⟨a6, s6, i6, e6, l6, r6, q6, t6⟩ := Jl b (DT (hdz b).1) (hds b).1 (kW b (((hdz b).1 : Int), (a2 : Int), s2) ((rE b).1.map (fun c => (([] : List UInt8), c))) (((hds b).1 : Int), (a5 : Int), s5)) (fun i a acc hi hl hal => by
    obtain ⟨n, b1, t1, b2, t2, f1, f2, m2, u2⟩ := rnam b hb a hal false;obtain ⟨b3, t3, f3, m3, u3⟩ := Ue b hb b2 m2 t2 4 (by omega) true;simp only [if_true, u2] at f3 u3;have hl7 : (ma 4 (iF (ar b a false)).2).1 < 4294967296 := Jk 4 (by omega) _;obtain ⟨b4, t4, i4, f4, m4, u4, v4, w4⟩ := Jl b (uG (hdz b).1) (ma 4 (iF (ar b a false)).2).1 (kU b (((hdz b).1 : Int), (a2 : Int), s2) acc (i : Int) ((iF (ar b a false)).1, (b2 : Int), t2) (((ma 4 (iF (ar b a false)).2).1 : Int), (b3 : Int), t3)) (fun j c acc2 hj hl2 hcl => by
      obtain ⟨c1, x1, g1, n1, y1⟩ := rent b hb (hdz b).1 c hcl false;refine ⟨c1, x1, ?_, n1, y1⟩;unfold kU;simp only [];rw [if_pos (by simp only [Bool.not_false, Bool.and_true, decide_eq_true_eq];omega), g1];simp only [Option.bind_some];rw [H5 (by omega) (by simp;omega), jb j (by omega)];rfl) (ma 4 (iF (ar b a false)).2).1 0 b3 t3 [] (by omega) rfl m3
    rw [u3, List.nil_append] at f4;rw [u3] at u4;refine ⟨b4, t4, ?_, m4, u4⟩;unfold kW;simp only [];rw [if_pos (by simp only [Bool.not_false, Bool.and_true, decide_eq_true_eq];omega), f1];simp only [Option.bind_some];rw [f2];simp only [Option.bind_some];rw [show ((4 : Nat) : Int) = 4 from rfl] at f3;rw [f3];simp only [Option.bind_some];rw [show ((0 : Nat) : Int) = 0 from rfl] at f4;rw [f4];refine dU ?_;unfold kU;simp only [];rw [if_neg (by rcases w4 with h | h <;> simp [h]), H5 (by omega) (by simp;omega)];simp only [Option.bind_some];rw [jb i (by omega)];rfl) (hds b).1 0 a5 s5 [] (by omega) rfl l5
  rw [r5, List.nil_append] at e6;rw [r5] at r6;refine ⟨a6, s6, ?_, l6, r6⟩;unfold oz;rw [show ((3 : Nat) : Int) = 3 from rfl, show ((0 : Nat) : Int) = 0 from rfl] at e1;rw [e1];simp only [Option.bind_some];rw [show ((1 : Nat) : Int) = 1 from rfl] at e2;rw [e2];simp only [Option.bind_some];rw [show ((4 : Nat) : Int) = 4 from rfl] at e3;rw [e3];simp only [Option.bind_some];rw [show ((0 : Nat) : Int) = 0 from rfl] at e4;rw [e4];refine dU ?_;unfold iR;simp only [];rw [if_neg (by rcases t4 with h | h <;> simp [h])];rw [show ((4 : Nat) : Int) = 4 from rfl] at e5;rw [e5];simp only [Option.bind_some];rw [show ((0 : Nat) : Int) = 0 from rfl] at e6;rw [e6, dU (r := (((hdz b).1 : Int), (rE b).1.map (fun c => (([] : List UInt8), c)), (ui b).1, (a6 : Int), s6))]
  ·rfl
  ·unfold kW;simp only [];rw [if_neg (by rcases t6 with h | h <;> simp [h])];rfl
end Go.Sx
namespace Go.Sx
open Go.RowKit
set_option linter.unusedVariables false
set_option linter.unusedSimpArgs false
noncomputable def FI (z : Nat) (l : List (List UInt8)) : Ch := l.map fun c => (NI z c, c)
def emap (L : List N7) : Q7 := L.map fun e => (e.1, (e.2.1, e.2.2.flatten))
def smap (N : List Eo) : Sn := N.map fun s => (s.1, emap s.2)
def BR (z : Nat) (l : List (List UInt8)) : Prop := (∀ c ∈ l, 1 <= c.length /\ c.length <= 1024) /\ uk (FI z l)
def ER (L : List N7) : Prop := (∀ e ∈ L, vW e.1 = true /\ e.2.1 <= 1048576) /\ uk (emap L)
def NR (N : List Eo) : Prop := (∀ s ∈ N, vW s.1 = true /\ s.2.length <= 256 /\ ER s.2) /\ uk (smap N)
theorem Ba {δ : Type} : uk ([] : Mp δ) := List.Pairwise.nil
theorem DU {δ : Type} (m : Mp δ) (k : Ky) (v : δ) : uk (m ++ [(k, v)]) ↔ uk m /\ ∀ p ∈ m, p.1 < k := by
  unfold uk;rw [List.map_append, List.pairwise_append];constructor
  ·rintro ⟨h1, h2, h3⟩;exact ⟨h1, fun p hp => h3 p.1 (List.mem_map_of_mem hp) k (by simp)⟩
  ·rintro ⟨h1, h2⟩;refine ⟨h1, List.pairwise_singleton _ _, fun a ha c hc => ?_⟩;obtain ⟨p, hp, rfl⟩ := List.mem_map.1 ha;obtain rfl : c = k := by simpa using hc
   exact h2 p hp
theorem H6 {δ : Type} (m : Mp δ) (k : Ky) (v : δ) : rD (m ++ [(k, v)]) (m ++ [(k, v)]).length = k := by
  rw [List.length_append];simp [rD]
theorem all_last {δ : Type} (m : Mp δ) (h : uk m) (k : Ky) : (∀ p ∈ m, p.1 < k) ↔ (m.length = 0 ∨ rD m m.length < k) := by
  constructor
  ·intro hk;cases hm : m.length with
   | zero => exact .inl rfl
   | succ i =>
     right;have hi : i < m.length := by omega
     have : rD m (i + 1) = m[i].1 := by simp [rD, List.getElem?_eq_getElem hi]
     rw [this];exact hk _ (List.getElem_mem hi)
  ·rintro (h0 | hk) p hp
   ·rw [List.length_eq_zero_iff] at h0;subst h0;cases hp
   ·cases hm : m.length with
    | zero => rw [List.length_eq_zero_iff] at hm;subst hm;cases hp
    | succ i =>
      have hi : i < m.length := by omega
      rw [hm] at hk;have hl : rD m (i + 1) = m[i].1 := by simp [rD, List.getElem?_eq_getElem hi]
      rw [hl] at hk;obtain ⟨j, hj, rfl⟩ := List.getElem_of_mem hp;by_cases hji : j = i
      ·subst hji;exact hk
      ·have h1 : m[j].1 < m[i].1 := NL h i hi _ (by
         have : m[j] = (m.take i)[j]'(by rw [List.length_take];omega) := by rw [List.getElem_take]
         rw [this];exact List.getElem_mem _)
       exact List.lt_trans h1 hk
def BU (i : Nat) (k last : Ky) : Bool := decide ((i : Int) = 0) || !(Op.bytesLess k last || decide (k = last))
theorem okAt_iff (i : Nat) (k last : Ky) : BU i k last = true ↔ (i = 0 ∨ last < k) := by
  unfold BU;rw [CG];simp only [Bool.or_eq_true, decide_eq_true_eq, Bool.not_eq_true', Bool.or_eq_false_iff, decide_eq_false_iff_not];constructor
  ·rintro (h | ⟨h1, h2⟩)
   ·exact .inl (by omega)
   ·right;by_cases h3 : last < k
    ·exact h3
    ·exact absurd (List.le_antisymm (List.not_lt.1 h3) (List.not_lt.1 h1)) h2
  ·rintro (h | h)
   ·exact .inl (by omega)
   ·exact .inr ⟨Ar h, fun e => Eu h e.symm⟩
theorem Jm {δ : Type} (m : Mp δ) (h : uk m) (k : Ky) (v : δ) : BU m.length k (rD m m.length) = true ↔ uk (m ++ [(k, v)]) := by
  rw [okAt_iff, DU, all_last m h];exact ⟨fun q => ⟨h, q⟩, fun q => q.2⟩
theorem Ph {δ : Type} (m : Mp δ) (k : Ky) (v : δ) (h : uk (m ++ [(k, v)])) : fH m k v = m ++ [(k, v)] := JY k v m ((DU m k v).1 h).2
theorem FK (z : Nat) (l : List (List UInt8)) (c : List UInt8) : FI z (l ++ [c]) = FI z l ++ [(NI z c, c)] := by unfold FI;rw [List.map_append];rfl
theorem wL (z : Nat) (l : List (List UInt8)) : (FI z l).length = l.length := by unfold FI;rw [List.length_map]
theorem Lm (z : Nat) (l : List (List UInt8)) (c : List UInt8) : BR z (l ++ [c]) ↔ BR z l /\ (1 <= c.length /\ c.length <= 1024) /\ uk (FI z l ++ [(NI z c, c)]) := by
  unfold BR;rw [FK];constructor
  ·rintro ⟨h1, h2⟩;exact ⟨⟨fun x hx => h1 x (List.mem_append_left _ hx), ((DU _ _ _).1 h2).1⟩, h1 c (by simp), h2⟩
  ·rintro ⟨⟨h1, h2⟩, h3, h4⟩;refine ⟨fun x hx => ?_, h4⟩;rcases List.mem_append.1 hx with hx | hx
   ·exact h1 x hx
   ·obtain rfl : x = c := by simpa using hx
    exact h3
def InvC (z : Nat) (F9 : Bool) (l : List (List UInt8)) (wr : Bool) (C : Ch) (last : Ky) : Prop :=
  (wr = false /\ F9 = false /\ BR z l /\ C = FI z l /\ last = rD (FI z l) l.length) ∨ (wr = true /\ (F9 = true ∨ ¬ BR z l))
theorem WM (z : Nat) (F9 : Bool) (hw : F9 = false -> 1 <= z /\ z <= 64) (n : Nat) (hn : n < 4294967296) (Sx : Mp (Option (Mp (Int × List UInt8)))) (r2 : List UInt8 × Bool × Bool) :
    ∀ (m i : Nat) (p : List UInt8) (sh wr : Bool) (C : Ch) (last : Ky) (l : List (List UInt8)), i + m = n -> l.length = i -> (sh = false -> InvC z F9 l wr C last) ->
      ∃ p' sh' wr' C', aV (gq Sx ((n : Int), r2)) (p, sh, wr, (z : Int), C, last, (i : Int)) = some (p', sh', wr', (z : Int), C') /\ ab p' sh' = (rep uT m (ab p sh)).2 /\ (sh' = false -> ∃ last', InvC z F9 (l ++ (rep uT m (ab p sh)).1) wr' C' last')
  | 0, i, p, sh, wr, C, last, l, hi, hl, hI => by
    refine ⟨p, sh, wr, C, dU ?_, rfl, fun h => ⟨last, by simpa [rep] using hI h⟩⟩;unfold gq;simp only [];rw [if_neg (by omega)];rfl
  | m + 1, i, p, true, wr, C, last, l, hi, hl, hI => by
    refine ⟨p, true, wr, C, dU ?_, rfl, fun h => by cases h⟩;unfold gq;simp only [];rw [if_pos (by omega), if_pos trivial];rfl
  | m + 1, i, p, false, wr, C, last, l, hi, hl, hI => by
    have hI := hI rfl;obtain ⟨p1, s1, e1, a1⟩ := Pg p false wr 2 (by omega);obtain ⟨p2, s2, e2, a2⟩ := Uc p1 s1 wr (ma 2 (ab p false)).1;rw [a1] at e2 a2;have hd : ab p false = some p := rfl;rw [hd] at e1 e2 a2;have hc : tk (ma 2 (some p)).1 (ma 2 (some p)).2 = uT (some p) := rfl;rw [hc] at e2 a2;have hcl : (uT (some p)).1.length <= 4294967296 := Nat.le_trans (HY _ _) (Nat.le_of_lt (Jk 2 (by omega) _));obtain ⟨c, hcc⟩ : ∃ c, c = (uT (some p)).1 := ⟨_, rfl⟩
    rw [<- hcc] at e2 hcl;obtain ⟨ok1, hok1⟩ : ∃ ok1 : Bool, ok1 = ((decide (1 <= ((0 + c.length : Nat) : Int))) && (decide (((0 + c.length : Nat) : Int) <= 1024))) := ⟨_, rfl⟩
    have hokc : ok1 = true ↔ (1 <= c.length /\ c.length <= 1024) := by
      rw [hok1];simp only [Bool.and_eq_true, decide_eq_true_eq];omega
    rw [show ((2 : Nat) : Int) = 2 from rfl] at e1;have hstep : ∀ wr' C' last', (gq Sx ((n : Int), r2) (p, false, wr, (z : Int), C, last, (i : Int)) = some (.inl (p2, s2, wr', (z : Int), C', last', ((i + 1 : Nat) : Int)))) -> (s2 = false -> InvC z F9 (l ++ [c]) wr' C' last') ->
        ∃ p' sh' wr' C', aV (gq Sx ((n : Int), r2)) (p, false, wr, (z : Int), C, last, (i : Int)) = some (p', sh', wr', (z : Int), C') /\ ab p' sh' = (rep uT (m + 1) (ab p false)).2 /\ (sh' = false -> ∃ last', InvC z F9 (l ++ (rep uT (m + 1) (ab p false)).1) wr' C' last') := by
      intro wr' C' last' he hI';obtain ⟨p3, s3, w3, C3, f1, f2, f3⟩ := WM z F9 hw n hn Sx r2 m (i + 1) p2 s2 wr' C' last' (l ++ [c]) (by omega) (by simp;omega) hI';refine ⟨p3, s3, w3, C3, by rw [gK he, f1], ?_, fun h => ?_⟩
      ·rw [f2, hd, a2];rfl
      ·obtain ⟨x, hx⟩ := f3 h;refine ⟨x, ?_⟩;rw [hd];simp only [rep];rw [<- a2, <- hcc];rw [List.append_assoc] at hx;exact hx
    have VL : gq Sx ((n : Int), r2) (p, false, wr, (z : Int), C, last, (i : Int)) = (if ((wr || !ok1) || s2) = true then some (.inl (p2, s2, (wr || !ok1), (z : Int), C, last, ((i + 1 : Nat) : Int))) else (jX (z : Int) C Sx c).bind fun iE => some (.inl (p2, s2, ((wr || !ok1) || !(BU i iE.1 last)), iE.2, fH C iE.1 c, iE.1, ((i + 1 : Nat) : Int)))) := by
      unfold gq;simp only [];rw [if_pos (by omega), if_neg (by decide), e1];simp only [Option.bind_some];rw [e2];simp only [Option.bind_some];rw [app1 (by simp only [List.length_nil];omega)];simp only [Option.bind_some, List.nil_append];rw [NP];simp only [Option.bind_some];rw [<- hok1];unfold mY pO;rw [jb i (by omega)];simp only [NP, Option.bind_some];rfl
    rcases hI with ⟨rfl, hw0, hB, hC, hL⟩ | ⟨rfl, hB⟩
    ·by_cases hk : ok1 = true
     ·cases hs : s2 with
      | true =>
        refine hstep (false || !ok1) C last ?_ (fun h => by rw [hs] at h;cases h);rw [VL, if_pos (by rw [hs];simp)]
      | false =>
        obtain ⟨z1, z2⟩ := hw hw0;have hdg : jX (z : Int) C Sx c = some (NI z c, (z : Int)) := by
          unfold jX;rw [(TY z z1 z2 c (by have := hokc.1 hk;omega)).1];rfl
        have WN := Jm (FI z l) hB.2 (NI z c) c;rw [wL, hl] at WN;rw [hl] at hL;rw [<- hL] at WN;refine hstep ((false || !ok1) || !(BU i (NI z c) last)) (fH C (NI z c) c) (NI z c) ?_ (fun _ => ?_)
        ·rw [VL, if_neg (by rw [hs, hk];decide), hdg];rfl
        ·rw [hk];by_cases ho : BU i (NI z c) last = true
         ·left;have hS := WN.1 ho;refine ⟨by rw [ho];rfl, hw0, (Lm z l c).2 ⟨hB, hokc.1 hk, hS⟩, ?_, ?_⟩
          ·rw [hC, Ph _ _ _ hS, FK]
          ·rw [FK, <- wL z (l ++ [c]), FK, H6]
         ·right;refine ⟨by simp [ho], .inr fun h => ho (WN.2 ((Lm z l c).1 h).2.2)⟩
     ·refine hstep (false || !ok1) C last ?_ (fun _ => .inr ⟨?_, .inr fun h => hk (hokc.2 ((Lm z l c).1 h).2.1)⟩)
      ·rw [VL, if_pos (by simp [hk])]
      ·simp [hk]
    ·refine hstep (true || !ok1) C last ?_ (fun _ => .inr ⟨?_, hB.imp id fun h h2 => h ((Lm z l c).1 h2).1⟩)
     ·rw [VL, if_pos (by simp)]
     ·simp
theorem pchunks (z : Nat) (F9 : Bool) (hw : F9 = false -> 1 <= z /\ z <= 64) (p : List UInt8) (sh : Bool) :
    ∃ p' sh' wr' C', pJ p sh F9 (z : Int) [] [] = some (p', sh', wr', (z : Int), C') /\ ab p' sh' = (rep uT (ma 4 (ab p sh)).1 (ma 4 (ab p sh)).2).2 /\ (sh' = false -> ∃ last', InvC z F9 (rep uT (ma 4 (ab p sh)).1 (ma 4 (ab p sh)).2).1 wr' C' last') := by
  obtain ⟨p1, s1, e1, a1⟩ := Pg p sh F9 4 (by omega);rw [show ((4 : Nat) : Int) = 4 from rfl] at e1;have hlt := Jk 4 (by omega) (ab p sh);obtain ⟨p', s', w', C', f1, f2, f3⟩ := WM z F9 hw (ma 4 (ab p sh)).1 hlt [] (p1, s1, F9) (ma 4 (ab p sh)).1 0 p1 s1 F9 [] [] [] (by omega) rfl (fun _ => by
    cases F9 with
    | true => exact .inr ⟨rfl, .inl rfl⟩
    | false => exact .inl ⟨rfl, rfl, ⟨fun c hc => (by cases hc), Ba⟩, rfl, rfl⟩)
  rw [a1] at f2 f3;refine ⟨p', s', w', C', ?_, f2, fun h => by simpa using f3 h⟩;unfold pJ;rw [e1];exact f1
end Go.Sx
namespace Go.Sx
open Go.RowKit
set_option linter.unusedVariables false
set_option linter.unusedSimpArgs false
theorem QR (z : Nat) : ∀ (k : Nat) (t : Tx), (rep (tk z) k t).2 = (tk (k * z) t).2 /\ ∀ q, (tk (k * z) t).2 = some q -> (rep (tk z) k t).1.flatten = (tk (k * z) t).1 /\ ∀ c ∈ (rep (tk z) k t).1, c.length = z
  | 0, none => ⟨rfl, fun q h => by cases h⟩
  | 0, some p => by
    simp [rep, tk]
  | k + 1, none => ⟨rfl, fun q h => by cases h⟩
  | k + 1, some p => by
    have hm : (k + 1) * z = k * z + z := Nat.succ_mul k z;by_cases h : p.length < z
    ·have h1 : tk z (some p) = ([], none) := by simp [tk, h]
     have h2 : tk ((k + 1) * z) (some p) = ([], none) := by
       unfold tk;simp only [];rw [if_pos (by rw [hm];omega)]
     simp only [rep, h1, h2, FH];exact ⟨trivial, fun q h => by cases h⟩
    ·have h1 : tk z (some p) = (p.take z, some (p.drop z)) := by simp [tk, h]
     obtain ⟨i1, i2⟩ := QR z k (some (p.drop z));by_cases h3 : p.length < (k + 1) * z
     ·have h2 : tk ((k + 1) * z) (some p) = ([], none) := by simp [tk, h3]
      have h4 : tk (k * z) (some (p.drop z)) = ([], none) := by
        unfold tk;simp only [List.length_drop];rw [if_pos (by rw [hm] at h3;omega)]
      simp only [rep, h1, h2];rw [i1, h4];exact ⟨rfl, fun q h => by cases h⟩
     ·have h2 : tk ((k + 1) * z) (some p) = (p.take ((k + 1) * z), some (p.drop ((k + 1) * z))) := by simp [tk, h3]
      have h4 : tk (k * z) (some (p.drop z)) = ((p.drop z).take (k * z), some ((p.drop z).drop (k * z))) := by
        unfold tk;simp only [List.length_drop];rw [if_neg (by rw [hm] at h3;omega)]
      obtain ⟨j1, j2⟩ := i2 _ (by rw [h4]);simp only [rep, h1, h2];refine ⟨?_, fun q _ => ⟨?_, ?_⟩⟩
      ·rw [i1, h4];simp only [List.drop_drop];rw [hm, Nat.add_comm]
      ·rw [List.flatten_cons, j1, h4, hm, Nat.add_comm, List.take_add]
      ·intro c hc;rcases List.mem_cons.1 hc with rfl | hc
       ·rw [List.length_take];omega
       ·exact j2 c hc
theorem ma1_lt (t : Tx) : (ma 1 t).1 < 256 := by
  unfold ma;have := VK t;split
  ·simp
  ·split
   ·simp
   ·exact this
theorem Jn (t : Tx) : (iF t).1.length <= 255 := Nat.le_trans (HY _ _) (by have := ma1_lt t;omega)
theorem pnam (p : List UInt8) (sh wr : Bool) : ∃ (n : Nat) (p1 : List UInt8) (s1 : Bool) (p2 : List UInt8) (s2 : Bool),
    iO p sh wr (1 : Int) = some ((n : Int), p1, s1, wr) /\ gX p1 s1 wr (n : Int) = some ((iF (ab p sh)).1, p2, s2, wr) /\ ab p2 s2 = (iF (ab p sh)).2 := by
  obtain ⟨p1, s1, e1, a1⟩ := Pg p sh wr 1 (by omega);obtain ⟨p2, s2, e2, a2⟩ := Uc p1 s1 wr (ma 1 (ab p sh)).1;rw [a1] at e2 a2;exact ⟨_, p1, s1, p2, s2, e1, e2, a2⟩
theorem J3 (L : List N7) (e : N7) : emap (L ++ [e]) = emap L ++ [(e.1, (e.2.1, e.2.2.flatten))] := by unfold emap;rw [List.map_append];rfl
theorem Ag (L : List N7) : (emap L).length = L.length := by unfold emap;rw [List.length_map]
theorem J4 (N : List Eo) (s : Eo) : smap (N ++ [s]) = smap N ++ [(s.1, emap s.2)] := by unfold smap;rw [List.map_append];rfl
theorem yG (N : List Eo) : (smap N).length = N.length := by unfold smap;rw [List.length_map]
theorem QS (L : List N7) (e : N7) : ER (L ++ [e]) ↔ ER L /\ (vW e.1 = true /\ e.2.1 <= 1048576) /\ uk (emap L ++ [(e.1, (e.2.1, e.2.2.flatten))]) := by
  unfold ER;rw [J3];constructor
  ·rintro ⟨h1, h2⟩;exact ⟨⟨fun x hx => h1 x (List.mem_append_left _ hx), ((DU _ _ _).1 h2).1⟩, h1 e (by simp), h2⟩
  ·rintro ⟨⟨h1, h2⟩, h3, h4⟩;refine ⟨fun x hx => ?_, h4⟩;rcases List.mem_append.1 hx with hx | hx
   ·exact h1 x hx
   ·obtain rfl : x = e := by simpa using hx
    exact h3
theorem QT (N : List Eo) (s : Eo) : NR (N ++ [s]) ↔ NR N /\ (vW s.1 = true /\ s.2.length <= 256 /\ ER s.2) /\ uk (smap N ++ [(s.1, emap s.2)]) := by
  unfold NR;rw [J4];constructor
  ·rintro ⟨h1, h2⟩;exact ⟨⟨fun x hx => h1 x (List.mem_append_left _ hx), ((DU _ _ _).1 h2).1⟩, h1 s (by simp), h2⟩
  ·rintro ⟨⟨h1, h2⟩, h3, h4⟩;refine ⟨fun x hx => ?_, h4⟩;rcases List.mem_append.1 hx with hx | hx
   ·exact h1 x hx
   ·obtain rfl : x = s := by simpa using hx
    exact h3
def InvE (F9 : Bool) (L : List N7) (wr : Bool) (M : Q7) (last : Ky) : Prop :=
  (wr = false /\ F9 = false /\ ER L /\ M = emap L /\ last = rD (emap L) L.length) ∨ (wr = true /\ (F9 = true ∨ ¬ ER L))
theorem WO (z : Nat) (hz : z < 256) (F9 : Bool) (n : Nat) (hn : n < 4294967296) (r2 : List UInt8 × Bool × Bool) :
    ∀ (m i : Nat) (p : List UInt8) (sh wr : Bool) (M : Q7) (last : Ky) (L : List N7), i + m = n -> L.length = i -> (sh = false -> InvE F9 L wr M last) ->
      ∃ p' sh' wr' M' r, aV (jr (z : Int) ((n : Int), r2)) (p, sh, wr, M, last, (i : Int)) = some r /\ (r = .inr (M', p', sh', wr') ∨ (r = .inl (p', sh', wr') /\ sh' = true)) /\ ab p' sh' = (rep (uG z) m (ab p sh)).2 /\ (sh' = false -> ∃ last', InvE F9 (L ++ (rep (uG z) m (ab p sh)).1) wr' M' last')
  | 0, i, p, sh, wr, M, last, L, hi, hl, hI => by
    refine ⟨p, sh, wr, M, _, dU (r := .inr (M, p, sh, wr)) ?_, .inl rfl, rfl, fun h => ⟨last, by simpa [rep] using hI h⟩⟩;unfold jr;simp only [];rw [if_neg (by omega)];rfl
  | m + 1, i, p, true, wr, M, last, L, hi, hl, hI => by
    refine ⟨p, true, wr, M, _, dU (r := .inl (p, true, wr)) ?_, .inr ⟨rfl, rfl⟩, rfl, fun h => by cases h⟩;unfold jr;simp only [];rw [if_pos (by omega), if_pos trivial];rfl
  | m + 1, i, p, false, wr, M, last, L, hi, hl, hI => by
    have hI := hI rfl;have hd : ab p false = some p := rfl;obtain ⟨v, p1, s1, p2, s2, e1, e2, a2⟩ := pnam p false wr;obtain ⟨p3, s3, e3, a3⟩ := pnum p2 s2 wr 4 (by omega);obtain ⟨ok, hok⟩ : ∃ ok : Bool, ok = ((vW (iF (ab p false)).1 && BU i (iF (ab p false)).1 last) && decide (((nu 4 (ab p2 s2)).1 : Int) <= 1048576)) := ⟨_, rfl⟩
    obtain ⟨p4, s4, e4, a4⟩ := Pg p3 s3 (wr || !ok) 4 (by omega);obtain ⟨p5, s5, e5, a5⟩ := Uc p4 s4 (wr || !ok) ((ma 4 (ab p3 s3)).1 * z);rw [show ((4 : Nat) : Int) = 4 from rfl] at e3 e4;rw [a2, hd] at hok a3 e3;rw [a3] at e4 e5 a4 a5;rw [a4] at e5 a5;rw [hd] at e2;have hlt := Jk 4 (by omega) (nu 4 (iF (some p)).2).2;obtain ⟨c1, c2⟩ := QR z (ma 4 (nu 4 (iF (some p)).2).2).1 (ma 4 (nu 4 (iF (some p)).2).2).2;have hE2 : (uG z (some p)).2 = ab p5 s5 := by rw [a5, <- c1];rfl
    have hE11 : (uG z (some p)).1.1 = (iF (some p)).1 := rfl;have hE12 : (uG z (some p)).1.2.1 = ((nu 4 (iF (some p)).2).1 : Int) := rfl;obtain ⟨e, he⟩ : ∃ e, e = (uG z (some p)).1 := ⟨_, rfl⟩
    have hmul : aG (((ma 4 (nu 4 (iF (some p)).2).2).1 : Int) * (z : Int)) = (((ma 4 (nu 4 (iF (some p)).2).2).1 * z : Nat) : Int) := by
      have : (ma 4 (nu 4 (iF (some p)).2).2).1 * z <= 4294967296 * 256 := Nat.mul_le_mul (by omega) (by omega);rw [<- Int.natCast_mul, iK (by omega)]
    have VL : jr (z : Int) ((n : Int), r2) (p, false, wr, M, last, (i : Int)) = some (.inl (p5, s5, (wr || !ok), fH M e.1 (e.2.1, (tk ((ma 4 (nu 4 (iF (some p)).2).2).1 * z) (ma 4 (nu 4 (iF (some p)).2).2).2).1), e.1, ((i + 1 : Nat) : Int))) := by
      unfold jr;simp only [];rw [if_pos (by omega), if_neg (by decide), e1];simp only [Option.bind_some];rw [e2];simp only [Option.bind_some];rw [e3];simp only [Option.bind_some];rw [named_ok _ (by have := Jn (some p);omega)];simp only [Option.bind_some];rw [NP];simp only [Option.bind_some];unfold BU at hok;rw [<- hok, e4];simp only [Option.bind_some];rw [hmul, e5];simp only [Option.bind_some];rw [jb i (by omega), he];rfl
    obtain ⟨X, hX⟩ : ∃ X, X = (tk ((ma 4 (nu 4 (iF (some p)).2).2).1 * z) (ma 4 (nu 4 (iF (some p)).2).2).2).1 := ⟨_, rfl⟩
    rw [<- hX] at VL;have hfl : s5 = false -> e.2.2.flatten = X := fun h => by
      subst h;rw [he, hX];exact (c2 p5 (by rw [<- a5];rfl)).1
    obtain ⟨p6, s6, w6, M6, r6, f1, f2, f3, f4⟩ := WO z hz F9 n hn r2 m (i + 1) p5 s5 (wr || !ok) (fH M e.1 (e.2.1, X)) e.1 (L ++ [e]) (by omega) (by simp;omega) (fun h5 => by
      have hfl := hfl h5;have hokE : ok = true ↔ ((vW e.1 = true /\ e.2.1 <= 1048576) /\ BU i e.1 last = true) := by
        rw [hok, he];simp only [Bool.and_eq_true, decide_eq_true_eq, hE11, hE12];constructor
        ·rintro ⟨⟨h1, h2⟩, h3⟩;exact ⟨⟨h1, h3⟩, h2⟩
        ·rintro ⟨⟨h1, h3⟩, h2⟩;exact ⟨⟨h1, h2⟩, h3⟩
      rcases hI with ⟨rfl, hw0, hR, hM, hL⟩ | ⟨rfl, hR⟩
      ·have WN := Jm (emap L) hR.2 e.1 (e.2.1, e.2.2.flatten);rw [Ag, hl] at WN;rw [hl] at hL;rw [<- hL] at WN;by_cases hk : ok = true
       ·obtain ⟨h1, h2⟩ := hokE.1 hk;have hS := WN.1 h2;left;refine ⟨by rw [hk];rfl, hw0, (QS L e).2 ⟨hR, h1, hS⟩, ?_, ?_⟩
        ·rw [hM, <- hfl, Ph _ _ _ hS, J3]
        ·rw [<- Ag (L ++ [e]), J3, H6]
       ·right;refine ⟨by simp [hk], .inr fun h => hk (hokE.2 ?_)⟩;obtain ⟨_, h1, h2⟩ := (QS L e).1 h;exact ⟨h1, WN.2 h2⟩
      ·right;exact ⟨by simp, hR.imp id fun h h2 => h ((QS L e).1 h2).1⟩)
    refine ⟨p6, s6, w6, M6, r6, by rw [gK VL, f1], f2, ?_, fun h => ?_⟩
    ·rw [f3, hd, <- hE2];rfl
    ·obtain ⟨x, hx⟩ := f4 h;refine ⟨x, ?_⟩;rw [hd];simp only [rep];rw [hE2, <- he];rw [List.append_assoc] at hx;exact hx
theorem pfiles (z : Nat) (hz : z < 256) (p : List UInt8) (sh wr : Bool) :
    ∃ p' sh' wr' M' r, qU p sh wr (z : Int) = some r /\ (r = .inr (M', p', sh', wr') ∨ (r = .inl (p', sh', wr') /\ sh' = true)) /\ ab p' sh' = (rep (uG z) (ma 4 (ab p sh)).1 (ma 4 (ab p sh)).2).2 /\
      (sh' = false -> (wr' = false /\ wr = false /\ ((rep (uG z) (ma 4 (ab p sh)).1 (ma 4 (ab p sh)).2).1.length <= 256 /\ ER (rep (uG z) (ma 4 (ab p sh)).1 (ma 4 (ab p sh)).2).1) /\ M' = emap (rep (uG z) (ma 4 (ab p sh)).1 (ma 4 (ab p sh)).2).1) ∨ (wr' = true /\ (wr = true ∨ ¬ ((rep (uG z) (ma 4 (ab p sh)).1 (ma 4 (ab p sh)).2).1.length <= 256 /\ ER (rep (uG z) (ma 4 (ab p sh)).1 (ma 4 (ab p sh)).2).1)))) := by
  obtain ⟨p1, s1, e1, a1⟩ := Pg p sh wr 4 (by omega);rw [show ((4 : Nat) : Int) = 4 from rfl] at e1;have hlt := Jk 4 (by omega) (ab p sh);obtain ⟨ok, hok⟩ : ∃ ok : Bool, ok = decide (((ma 4 (ab p sh)).1 : Int) <= 256) := ⟨_, rfl⟩
  obtain ⟨p', s', w', M', r, f1, f2, f3, f4⟩ := WO z hz (wr || !ok) (ma 4 (ab p sh)).1 hlt (p1, s1, wr) (ma 4 (ab p sh)).1 0 p1 s1 (wr || !ok) [] [] [] (by omega) rfl (fun _ => by
    cases (wr || !ok) with
    | true => exact .inr ⟨rfl, .inl rfl⟩
    | false => exact .inl ⟨rfl, rfl, ⟨fun c hc => (by cases hc), Ba⟩, rfl, rfl⟩)
  rw [a1] at f3 f4;refine ⟨p', s', w', M', r, ?_, f2, f3, fun h => ?_⟩
  ·unfold qU;rw [e1];simp only [Option.bind_some];rw [NP];simp only [Option.bind_some];rw [<- hok];exact f1
  ·obtain ⟨x, hx⟩ := f4 h;rw [List.nil_append] at hx;subst h;have hlen := Em (uG z) (ma 4 (ab p sh)).1 (ma 4 (ab p sh)).2 p' (by rw [<- f3];rfl);have hok2 : ok = true ↔ (rep (uG z) (ma 4 (ab p sh)).1 (ma 4 (ab p sh)).2).1.length <= 256 := by rw [hok, hlen, decide_eq_true_eq];omega
   rcases hx with ⟨h1, h2, h3, h4, _⟩ | ⟨h1, h2⟩
   ·left;rw [Bool.or_eq_false_iff] at h2;exact ⟨h1, h2.1, ⟨hok2.1 (by simpa using h2.2), h3⟩, h4⟩
   ·right;refine ⟨h1, ?_⟩;rcases h2 with h2 | h2
    ·rw [Bool.or_eq_true] at h2;rcases h2 with h2 | h2
     ·exact .inl h2
     ·exact .inr fun q => by rw [hok2.2 q.1] at h2;cases h2
    ·exact .inr fun q => h2 q.2
end Go.Sx
namespace Go.Sx
open Go.RowKit
set_option linter.unusedVariables false
set_option linter.unusedSimpArgs false
def InvS (F9 : Bool) (N : List Eo) (wr : Bool) (S : Mp (Option Q7)) (last : Ky) : Prop :=
  (wr = false /\ F9 = false /\ NR N /\ S = som (smap N) /\ last = rD (smap N) N.length) ∨ (wr = true /\ (F9 = true ∨ ¬ NR N))
theorem som_snoc (S : Sn) (k : Ky) (m : Q7) : som (S ++ [(k, m)]) = som S ++ [(k, some m)] := by unfold som;rw [List.map_append];rfl
theorem som_keys (S : Sn) : (som S).map (·.1) = S.map (·.1) := by unfold som;rw [List.map_map];rfl
theorem WQ (z : Nat) (hz : z < 256) (F9 : Bool) (n : Nat) (hn : n < 4294967296) (r1 r4 : List UInt8 × Bool × Bool) (r3 : List UInt8 × Bool × Bool × Int × Mp (List UInt8)) :
    ∀ (m i : Nat) (p : List UInt8) (sh wr : Bool) (S : Mp (Option Q7)) (last : Ky) (N : List Eo), i + m = n -> N.length = i -> (sh = false -> InvS F9 N wr S last) ->
      ∃ p' sh' wr' S', aV (jg ((z : Int), r1) r3 ((n : Int), r4)) (p, sh, wr, S, last, (i : Int)) = kM r3 p' sh' wr' S' /\ ab p' sh' = (rep (DT z) m (ab p sh)).2 /\ (sh' = false -> ∃ last', InvS F9 (N ++ (rep (DT z) m (ab p sh)).1) wr' S' last')
  | 0, i, p, sh, wr, S, last, N, hi, hl, hI => by
    refine ⟨p, sh, wr, S, ?_, rfl, fun h => ⟨last, by simpa [rep] using hI h⟩⟩;cases hj : kM r3 p sh wr S with
    | some x =>
      refine dU ?_;unfold jg;simp only [];rw [if_neg (by omega)];unfold qA;rw [hj];rfl
    | none =>
      cases hw : aV (jg ((z : Int), r1) r3 ((n : Int), r4)) (p, sh, wr, S, last, (i : Int)) with
      | none => rfl
      | some y =>
        exfalso;obtain ⟨k, hk⟩ := uX.1 hw;cases k with
        | zero => cases hk
        | succ k =>
          rw [runK] at hk;unfold jg at hk;simp only [] at hk;rw [if_neg (by omega)] at hk;unfold qA at hk;rw [hj] at hk;cases hk
  | m + 1, i, p, true, wr, S, last, N, hi, hl, hI => by
    refine ⟨p, true, wr, S, ?_, rfl, fun h => by cases h⟩;have hj : kM r3 p true wr S = some (Sum.inl 3) := rfl;rw [hj];refine dU ?_;unfold jg;simp only [];rw [if_pos (by omega), if_pos trivial];rfl
  | m + 1, i, p, false, wr, S, last, N, hi, hl, hI => by
    have hI := hI rfl;have hd : ab p false = some p := rfl;obtain ⟨v, p1, s1, p2, s2, e1, e2, a2⟩ := pnam p false wr;rw [hd] at e2 a2;obtain ⟨ok, hok⟩ : ∃ ok : Bool, ok = (vW (iF (some p)).1 && BU i (iF (some p)).1 last) := ⟨_, rfl⟩
    obtain ⟨p3, s3, w3, M3, r, f1, f2, f3, f4⟩ := pfiles z hz p2 s2 (wr || !ok);rw [a2] at f3 f4;obtain ⟨s, hs⟩ : ∃ s, s = (DT z (some p)).1 := ⟨_, rfl⟩
    have hs1 : s.1 = (iF (some p)).1 := by rw [hs];rfl
    have hs2 : s.2 = (rep (uG z) (ma 4 (iF (some p)).2).1 (ma 4 (iF (some p)).2).2).1 := by rw [hs];rfl
    have hE2 : (DT z (some p)).2 = ab p3 s3 := f3.symm;have hpre : jg ((z : Int), r1) r3 ((n : Int), r4) (p, false, wr, S, last, (i : Int)) = (Sum.elim (fun qY : List UInt8 × Bool × Bool => some (.inl (qY.1, qY.2.1, qY.2.2, fH S s.1 Option.none, s.1, ((i + 1 : Nat) : Int)))) (fun pX : Q7 × List UInt8 × Bool × Bool => some (.inl (pX.2.1, pX.2.2.1, pX.2.2.2, fH S s.1 (Option.some pX.1), s.1, ((i + 1 : Nat) : Int)))) r) := by
      unfold jg;simp only [];rw [if_pos (by omega), if_neg (by decide), e1];simp only [Option.bind_some];rw [e2];simp only [Option.bind_some];rw [named_ok _ (by have := Jn (some p);omega)];simp only [Option.bind_some];rw [NP];simp only [Option.bind_some];unfold BU at hok;rw [<- hok, f1];simp only [Option.bind_some];rw [jb i (by omega), hs1]
    have hgo : ∀ S', (jg ((z : Int), r1) r3 ((n : Int), r4) (p, false, wr, S, last, (i : Int)) = some (.inl (p3, s3, w3, S', s.1, ((i + 1 : Nat) : Int)))) -> (s3 = false -> InvS F9 (N ++ [s]) w3 S' s.1) ->
        ∃ p' sh' wr' S', aV (jg ((z : Int), r1) r3 ((n : Int), r4)) (p, false, wr, S, last, (i : Int)) = kM r3 p' sh' wr' S' /\ ab p' sh' = (rep (DT z) (m + 1) (ab p false)).2 /\ (sh' = false -> ∃ last', InvS F9 (N ++ (rep (DT z) (m + 1) (ab p false)).1) wr' S' last') := by
      intro S' he hI';obtain ⟨p6, s6, w6, S6, g1, g2, g3⟩ := WQ z hz F9 n hn r1 r4 r3 m (i + 1) p3 s3 w3 S' s.1 (N ++ [s]) (by omega) (by simp;omega) hI';refine ⟨p6, s6, w6, S6, by rw [gK he, g1], ?_, fun h => ?_⟩
      ·rw [g2, hd, <- hE2];rfl
      ·obtain ⟨x, hx⟩ := g3 h;refine ⟨x, ?_⟩;rw [hd];simp only [rep];rw [hE2, <- hs];rw [List.append_assoc] at hx;exact hx
    rcases f2 with rfl | ⟨rfl, hsh⟩
    ·refine hgo (fH S s.1 (some M3)) (by rw [hpre];rfl) (fun h => ?_);have hF := f4 h;rw [<- hs2] at hF;rcases hI with ⟨rfl, hw0, hR, hM, hL⟩ | ⟨rfl, hR⟩
     ·have WN := Jm (smap N) hR.2 s.1 (emap s.2);rw [yG, hl] at WN;rw [hl] at hL;rw [<- hL] at WN;rcases hF with ⟨h1, h2, h3, h4⟩ | ⟨h1, h2⟩
      ·have hk : ok = true := by simpa using h2
       rw [hok, Bool.and_eq_true, <- hs1] at hk;have hS := WN.1 hk.2;left;refine ⟨h1, hw0, (QT N s).2 ⟨hR, ⟨hk.1, h3⟩, hS⟩, ?_, ?_⟩
       ·rw [hM, h4, JY, J4, som_snoc];intro q hq;have := ((DU _ _ _).1 hS).2;have hq1 : q.1 ∈ (som (smap N)).map (·.1) := List.mem_map_of_mem hq;rw [som_keys] at hq1;obtain ⟨q2, hq2, hq3⟩ := List.mem_map.1 hq1;rw [<- hq3];exact this q2 hq2
       ·rw [<- yG (N ++ [s]), J4, H6]
      ·right;refine ⟨h1, .inr fun hq => ?_⟩;obtain ⟨_, ⟨q1, q2⟩, q3⟩ := (QT N s).1 hq;rcases h2 with h2 | h2
       ·have : ok = false := by simpa using h2
        rw [hok, <- hs1, q1, WN.2 q3] at this;cases this
       ·exact h2 q2
     ·right;rcases hF with ⟨h1, h2, _⟩ | ⟨h1, h2⟩
      ·simp at h2
      ·exact ⟨h1, hR.imp id fun h h2 => h ((QT N s).1 h2).1⟩
    ·refine hgo (fH S s.1 none) (by rw [hpre];rfl) (fun h => by rw [hsh] at h;cases h)
def Good (b : List UInt8) : Prop := (hd3 b).1 = [68, 81, 1] /\ 1 <= (hdz b).1 /\ (hdz b).1 <= 64 /\ BR (hdz b).1 (rE b).1 /\ (ui b).1.length <= 64 /\ NR (ui b).1
theorem som_getD (S : Sn) : (som S).map (fun p => (p.1, p.2.getD [])) = S := by
  unfold som;rw [List.map_map]
  conv => rhs;rw [<- List.map_id S]
  rfl
theorem pload (b : List UInt8) :
    ((ui b).2 = none -> oL b = some (.inl 3)) /\
    (∀ q, (ui b).2 = some q -> q ≠ [] -> oL b = some (.inl 9)) /\
    ((ui b).2 = some [] -> (Good b -> oL b = some (.inr (((hdz b).1 : Int), FI (hdz b).1 (rE b).1, smap (ui b).1))) /\ (¬ Good b -> oL b = some (.inl 274))) := by
  have h0 : ab b false = some b := rfl;obtain ⟨p1, s1, e1, a1⟩ := Uc b false false 3;rw [h0] at e1 a1;rw [show tk 3 (some b) = hd3 b from rfl] at e1 a1;obtain ⟨p2, s2, e2, a2⟩ := pnum p1 s1 false 1 (by omega);rw [a1] at e2 a2;rw [show nu 1 (hd3 b).2 = hdz b from rfl] at e2 a2;rw [show ((3 : Nat) : Int) = 3 from rfl] at e1;rw [show ((1 : Nat) : Int) = 1 from rfl] at e2;have hz : (hdz b).1 < 256 := VK _;obtain ⟨ok, hok⟩ : ∃ ok : Bool, ok = (((decide ((hd3 b).1 = ([68, 81, 1] : List UInt8))) && (decide (1 <= ((hdz b).1 : Int)))) && (decide (((hdz b).1 : Int) <= 64))) := ⟨_, rfl⟩
  have hokI : ok = true ↔ ((hd3 b).1 = [68, 81, 1] /\ 1 <= (hdz b).1 /\ (hdz b).1 <= 64) := by
    rw [hok];simp only [Bool.and_eq_true, decide_eq_true_eq];constructor
    ·rintro ⟨⟨h1, h2⟩, h3⟩;exact ⟨h1, by omega, by omega⟩
    ·rintro ⟨h1, h2, h3⟩;exact ⟨⟨h1, by omega⟩, by omega⟩
  obtain ⟨p3, s3, w3, C3, e3, a3, i3⟩ := pchunks (hdz b).1 (false || !ok) (fun h => (hokI.1 (by simpa using h)).2) p2 s2;rw [a2] at a3 i3;rw [show rep uT (ma 4 (hdz b).2).1 (ma 4 (hdz b).2).2 = rE b from rfl] at a3 i3;obtain ⟨p4, s4, e4, a4⟩ := Pg p3 s3 w3 4 (by omega);rw [a3] at e4 a4;rw [show ma 4 (rE b).2 = hds b from rfl] at e4 a4;rw [show ((4 : Nat) : Int) = 4 from rfl] at e4;have hlt : (hds b).1 < 4294967296 := Jk 4 (by omega) _;obtain ⟨ok2, hok2⟩ : ∃ ok2 : Bool, ok2 = decide (((hds b).1 : Int) <= 64) := ⟨_, rfl⟩
  obtain ⟨p5, s5, w5, S5, e5, a5, i5⟩ := WQ (hdz b).1 hz (w3 || !ok2) (hds b).1 hlt (p2, s2, false) (p4, s4, w3) (p3, s3, w3, ((hdz b).1 : Int), C3) (hds b).1 0 p4 s4 (w3 || !ok2) [] [] [] (by omega) rfl (fun _ => by
    cases (w3 || !ok2) with
    | true => exact .inr ⟨rfl, .inl rfl⟩
    | false => exact .inl ⟨rfl, rfl, ⟨fun c hc => (by cases hc), Ba⟩, rfl, rfl⟩)
  rw [a4] at a5 i5;rw [show rep (DT (hdz b).1) (hds b).1 (hds b).2 = ui b from rfl] at a5 i5;have hL : oL b = kM (p3, s3, w3, ((hdz b).1 : Int), C3) p5 s5 w5 S5 := by
    unfold oL;rw [e1];simp only [Option.bind_some];rw [e2];simp only [Option.bind_some];rw [NP];simp only [Option.bind_some];rw [<- hok, e3];simp only [Option.bind_some];rw [e4];simp only [Option.bind_some];rw [NP];simp only [Option.bind_some];rw [<- hok2];exact e5
  rw [hL];refine ⟨fun h => ?_, fun q h hq => ?_, fun h => ?_⟩
  ·rw [h] at a5;rw [WI a5];rfl
  ·rw [h] at a5;obtain ⟨rfl, rfl⟩ := QP a5;unfold kM;rw [if_neg (by decide), if_pos (by have := List.length_pos_iff.2 hq;omega)]
  ·rw [h] at a5;obtain ⟨rfl, rfl⟩ := QP a5;obtain ⟨x, hx⟩ := i5 rfl;rw [List.nil_append] at hx;have hlen : (ui b).1.length = (hds b).1 := Em _ _ _ _ h;have hok3 : ok2 = true ↔ (ui b).1.length <= 64 := by rw [hok2, hlen, decide_eq_true_eq];omega
   have hsb : s3 = false := by
     cases hs3 : s3 with
     | false => rfl
     | true =>
       rw [hs3] at a3;have h1 : (hds b).2 = none := by
         show (ma 4 (rE b).2).2 = none;rw [<- a3];rfl
       have h2 : (ui b).2 = none := by
         show (rep (DT (hdz b).1) (hds b).1 (hds b).2).2 = none;rw [h1, FH]
       rw [h2] at h;cases h
   obtain ⟨y, hy⟩ := i3 hsb;unfold kM;rw [if_neg (by decide), if_neg (by simp)];constructor
   ·rintro ⟨g1, g2, g3, g4, g5, g6⟩;have hk : ok = true := hokI.2 ⟨g1, g2, g3⟩;rcases hy with ⟨y1, y2, y3, y4, _⟩ | ⟨y1, y2⟩
    ·rcases hx with ⟨x1, x2, x3, x4, _⟩ | ⟨x1, x2⟩
     ·subst x1;rw [if_neg (by decide), x4, qL (by unfold som;simp)];simp only [Option.bind_some];rw [som_getD, y4]
     ·exfalso;rcases x2 with x2 | x2
      ·rw [y1, hok3.2 g5] at x2;cases x2
      ·exact x2 g6
    ·exfalso;rcases y2 with y2 | y2
     ·rw [hk] at y2;cases y2
     ·exact y2 g4
   ·intro hg;have hw5 : w5 = true := by
      rcases hx with ⟨x1, x2, x3, x4, _⟩ | ⟨x1, x2⟩
      ·exfalso;rw [Bool.or_eq_false_iff] at x2;rcases hy with ⟨y1, y2, y3, y4, _⟩ | ⟨y1, y2⟩
       ·have hk : ok = true := by simpa using y2
        obtain ⟨g1, g2, g3⟩ := hokI.1 hk;exact hg ⟨g1, g2, g3, y3, hok3.1 (by simpa using x2.2), x3⟩
       ·rw [y1] at x2;cases x2.1
      ·exact x1
    rw [if_pos hw5]
end Go.Sx
namespace Go.Sx
open Go.RowKit
set_option linter.unusedVariables false
set_option linter.unusedSimpArgs false
theorem DV {ρ : Type} (f : Int -> Option (Int ⊕ ρ)) (n : Nat) (P : Nat -> Bool) (bad : ρ) (fin : Option ρ) (h : ∀ i, i < n -> f (i : Int) = some (if P i = true then .inl ((i + 1 : Nat) : Int) else .inr bad)) (he : f (n : Int) = Option.map Sum.inr fin) (hf : fin.isSome = true) :
    aV f (0 : Int) = if (List.range n).all P = true then fin else some bad := by
  obtain ⟨r, rfl⟩ := Option.isSome_iff_exists.1 hf;have key : ∀ m i, i + m = n -> (List.range i).all P = true -> aV f (i : Int) = if (List.range n).all P = true then some r else some bad := by
    intro m
    induction m with
    | zero =>
      intro i hi ha;obtain rfl : i = n := by omega
      rw [if_pos ha, dU (r := r) he]
    | succ m ih =>
      intro i hi ha;have hs := h i (by omega);by_cases hp : P i = true
      ·rw [if_pos hp] at hs;rw [gK hs];refine ih (i + 1) (by omega) ?_;rw [List.range_succ, List.all_append, ha];simp [hp]
      ·rw [if_neg hp] at hs;rw [dU hs, if_neg];intro hall;exact hp (List.all_eq_true.1 hall i (List.mem_range.2 (by omega)))
  exact key n 0 (by omega) rfl
theorem QU {δ : Type} (m : Mp δ) : uk m ↔ ∀ (i : Nat) (hi : i < m.length), BU i m[i].1 (rD m i) = true := by
  constructor
  ·intro h i hi;exact last_ok h i hi
  ·intro h;have key : ∀ k, k <= m.length -> uk (m.take k) := by
     intro k
     induction k with
     | zero => intro _;rw [List.take_zero];exact Ba
     | succ k ih =>
       intro hk;have h1 := ih (by omega);have h2 := (Jm (m.take k) h1 m[k].1 m[k].2).1;rw [List.length_take, Nat.min_eq_left (by omega)] at h2;have h3 : rD (m.take k) k = rD m k := by
         cases k with
         | zero => rfl
         | succ j => simp only [rD, List.getElem?_take];rw [if_pos (by omega)]
       rw [h3] at h2;rw [List.take_add_one, List.getElem?_eq_getElem (by omega)];exact h2 (h k (by omega))
   have := key m.length (Nat.le_refl _)
   rwa [List.take_length] at this
theorem rname (s : List UInt8) (hs : s.length <= 16000000) : yV s = some (vW s) := by
  unfold yV;rw [DV (uB s) s.length (fun i => !(decide (s[i]?.getD 0 < 33) || decide ((126 : UInt8) < s[i]?.getD 0))) false (some (decide (1 <= (s.length : Int)) && decide ((s.length : Int) <= 64)))]
  ·unfold vW;have hall : (List.range s.length).all (fun i => !(decide (s[i]?.getD 0 < 33) || decide ((126 : UInt8) < s[i]?.getD 0))) = s.all (fun c => !(decide (c < 33) || decide ((126 : UInt8) < c))) := by
     rw [Bool.eq_iff_iff, List.all_eq_true, List.all_eq_true];constructor
     ·intro h c hc;obtain ⟨j, hj, rfl⟩ := List.getElem_of_mem hc;have := h j (List.mem_range.2 hj)
      rwa [List.getElem?_eq_getElem hj] at this
     ·intro h j hj;have hj := List.mem_range.1 hj;rw [List.getElem?_eq_getElem hj];exact h _ (List.getElem_mem hj)
   rw [hall];have hd : (decide (1 <= (s.length : Int)) && decide ((s.length : Int) <= 64)) = decide (1 <= s.length /\ s.length <= 64) := by
     rw [Bool.eq_iff_iff];simp only [Bool.and_eq_true, decide_eq_true_eq];omega
   rw [hd];by_cases h : s.all (fun c => !(decide (c < 33) || decide ((126 : UInt8) < c))) = true
   ·rw [if_pos h, h, Bool.and_true]
   ·rw [if_neg h, Bool.eq_false_iff.2 h, Bool.and_false]
  ·intro i hi;unfold uB;simp only [];rw [if_pos (by omega), bQ hi];simp only [Option.bind_some];rw [List.getElem?_eq_getElem hi];simp only [Option.getD_some];rw [jb i (by omega)];by_cases h1 : s[i] < 33
   ·simp [h1, Bc]
   ·by_cases h2 : (126 : UInt8) < s[i]
    ·simp [h1, h2, Bc]
    ·simp [h1, h2, Bc]
  ·unfold uB;simp only [];rw [if_neg (by omega)]
  ·rfl
theorem J5 (i : Nat) (k last : Ky) : (decide (0 < (i : Int)) && (Op.bytesLess k last || decide (k = last))) = !BU i k last := by
  unfold BU;cases i with
  | zero => simp
  | succ i =>
    have h1 : decide (0 < ((i + 1 : Nat) : Int)) = true := decide_eq_true (by omega);have h2 : decide (((i + 1 : Nat) : Int) = 0) = false := decide_eq_false (by omega);rw [h1, h2];simp
theorem NS (i : Nat) (h : i + 1 <= 1000000000000) : aG (((i + 1 : Nat) : Int) - 1) = (i : Int) := by rw [iK (by omega)];omega
def OB (L : List N7) (i : Nat) : Bool := (vW (((emap L)[i]?.map (·.1)).getD []) && BU i (((emap L)[i]?.map (·.1)).getD []) (rD (emap L) i)) && decide (((L[i]?.map (·.2.1)).getD 0) <= 1048576)
theorem QV (L : List N7) (i : Nat) (hi : i < L.length) : (emap L)[i]'(by rw [Ag];exact hi) = (L[i].1, (L[i].2.1, L[i].2.2.flatten)) := by unfold emap;rw [List.getElem_map]
theorem QW (N : List Eo) (i : Nat) (hi : i < N.length) : (smap N)[i]'(by rw [yG];exact hi) = (N[i].1, emap N[i].2) := by unfold smap;rw [List.getElem_map]
theorem FM (L : List N7) (i : Nat) (hi : i < L.length) : ((emap L)[i]?.map (·.1)).getD [] = L[i].1 := by
  rw [List.getElem?_eq_getElem (by rw [Ag];exact hi), QV L i hi];rfl
theorem FN (N : List Eo) (i : Nat) (hi : i < N.length) : ((smap N)[i]?.map (·.1)).getD [] = N[i].1 := by
  rw [List.getElem?_eq_getElem (by rw [yG];exact hi), QW N i hi];rfl
theorem ER_iff (L : List N7) : (List.range L.length).all (OB L) = true ↔ ER L := by
  unfold ER;rw [List.all_eq_true, QU];constructor
  ·intro h;refine ⟨fun e he => ?_, fun i hi => ?_⟩
   ·obtain ⟨j, hj, rfl⟩ := List.getElem_of_mem he;have := h j (List.mem_range.2 hj);unfold OB at this;rw [FM L j hj, List.getElem?_eq_getElem hj] at this;simp only [Bool.and_eq_true, decide_eq_true_eq, Option.map_some, Option.getD_some] at this;exact ⟨this.1.1, this.2⟩
   ·rw [Ag] at hi;have := h i (List.mem_range.2 hi);unfold OB at this;rw [FM L i hi] at this;simp only [Bool.and_eq_true] at this;rw [QV L i hi];exact this.1.2
  ·rintro ⟨h1, h2⟩ i hi;have hi := List.mem_range.1 hi;have a1 := h1 _ (List.getElem_mem hi);have a2 := h2 i (by rw [Ag];exact hi);rw [QV L i hi] at a2;unfold OB;rw [FM L i hi, List.getElem?_eq_getElem hi, a1.1, a2];simpa using a1.2
theorem lastK_e (L : List N7) (i : Nat) (hi : i + 1 < L.length) : rD (emap L) (i + 1) = L[i].1 := by
  have := FM L i (by omega);exact this
theorem lastK_s (N : List Eo) (i : Nat) (hi : i + 1 < N.length) : rD (smap N) (i + 1) = N[i].1 := by
  have := FN N i (by omega);exact this
theorem right_l2 (s : Eo) (hl : s.2.length <= 1000000000) (hn : ∀ e ∈ s.2, e.1.length <= 16000000) (i1 : Nat) (hi1 : i1 <= 1000000000) :
    aV (lS (i1 : Int) s) (0 : Int) = if (List.range s.2.length).all (OB s.2) = true then some (.inl ((i1 + 1 : Nat) : Int)) else some (.inr false) := by
  refine DV _ s.2.length (OB s.2) (Sum.inr false) (some (Sum.inl ((i1 + 1 : Nat) : Int))) (fun i hi => ?_) ?_ rfl
  ·unfold lS;simp only [];rw [if_pos (by omega), bQ hi];simp only [Option.bind_some];rw [rname _ (hn _ (List.getElem_mem hi))];simp only [Option.bind_some];unfold OB;rw [FM s.2 i hi, List.getElem?_eq_getElem hi, jb i (by omega)];simp only [Option.map_some, Option.getD_some];cases hnm : vW s.2[i].1 with
   | false => simp [Bc]
   | true =>
     simp only [Bool.not_true, Bool.not_false, Bc, if_true];cases i with
     | zero =>
       have h0 : decide ((0 : Int) < ((0 : Nat) : Int)) = false := rfl;simp only [h0, Bool.false_eq_true, if_false, Option.bind_some, Bool.false_and, Bool.or_false, Bool.not_false, if_true, Bool.true_and];have h1 : BU 0 s.2[0].1 (rD (emap s.2) 0) = true := rfl;rw [h1];by_cases h2 : s.2[0].2.1 <= 1048576
       ·rw [if_neg (by simp;omega), if_pos (by simp [h2])]
       ·rw [if_pos (by simp;omega), if_neg (by simp [h2])]
     | succ i =>
       have h0 : decide ((0 : Int) < ((i + 1 : Nat) : Int)) = true := decide_eq_true (by omega);simp only [h0, if_true, Option.bind_some, NS i (by omega)];rw [bQ (show i < s.2.length by omega)];simp only [Option.bind_some, Bool.false_or, Bool.true_and];have hna := J5 (i + 1) s.2[i + 1].1 s.2[i].1;rw [h0, Bool.true_and] at hna;rw [hna, lastK_e s.2 i hi, Bool.not_not];cases hok : BU (i + 1) s.2[i + 1].1 s.2[i].1 with
       | false => simp
       | true =>
         simp only [if_true, Option.bind_some, Bool.not_true, Bool.false_or, Bool.true_and];by_cases h2 : s.2[i + 1].2.1 <= 1048576
         ·rw [if_neg (by simp;omega), if_pos (by simp [h2])]
         ·rw [if_pos (by simp;omega), if_neg (by simp [h2])]
  ·unfold lS;simp only [];rw [if_neg (by omega), jb i1 (by omega)]
def KX (N : List Eo) (i : Nat) : Bool := (vW (((smap N)[i]?.map (·.1)).getD []) && BU i (((smap N)[i]?.map (·.1)).getD []) (rD (smap N) i)) && (decide (((N[i]?.map (·.2)).getD []).length <= 256) && (List.range ((N[i]?.map (·.2)).getD []).length).all (OB ((N[i]?.map (·.2)).getD [])))
theorem NR_iff (N : List Eo) : (List.range N.length).all (KX N) = true ↔ NR N := by
  unfold NR;rw [List.all_eq_true, QU];constructor
  ·intro h;refine ⟨fun e he => ?_, fun i hi => ?_⟩
   ·obtain ⟨j, hj, rfl⟩ := List.getElem_of_mem he;have := h j (List.mem_range.2 hj);unfold KX at this;rw [FN N j hj, List.getElem?_eq_getElem hj] at this;simp only [Bool.and_eq_true, decide_eq_true_eq, Option.map_some, Option.getD_some] at this;exact ⟨this.1.1, this.2.1, (ER_iff _).1 this.2.2⟩
   ·rw [yG] at hi;have := h i (List.mem_range.2 hi);unfold KX at this;rw [FN N i hi] at this;simp only [Bool.and_eq_true] at this;rw [QW N i hi];exact this.1.2
  ·rintro ⟨h1, h2⟩ i hi;have hi := List.mem_range.1 hi;have a1 := h1 _ (List.getElem_mem hi);have a2 := h2 i (by rw [yG];exact hi);rw [QW N i hi] at a2;unfold KX;rw [FN N i hi, List.getElem?_eq_getElem hi, a1.1, a2];simp only [Option.map_some, Option.getD_some, (ER_iff _).2 a1.2.2, Bool.and_true, Bool.true_and, decide_eq_true_eq];exact a1.2.1
structure Fine (N : List Eo) : Prop where
  len : N.length <= 1000000000
  name : ∀ s ∈ N, s.1.length <= 16000000
  few : ∀ s ∈ N, s.2.length <= 1000000000
  each : ∀ s ∈ N, ∀ e ∈ s.2, e.1.length <= 16000000
theorem right_l1 (N : List Eo) (hN : Fine N) : aV (kz N) (0 : Int) = some ((List.range N.length).all (KX N)) := by
  have := DV (kz N) N.length (KX N) false (some true) (fun i hi => ?_) ?_ rfl
  ·rw [this];cases (List.range N.length).all (KX N) <;> rfl
  ·have hm := List.getElem_mem hi;have hlen := hN.len;unfold kz;simp only [];rw [if_pos (by omega), bQ hi];simp only [Option.bind_some];rw [rname _ (hN.name _ hm)];simp only [Option.bind_some];rw [right_l2 _ (hN.few _ hm) (hN.each _ hm) i (by omega)];unfold KX;rw [FN N i hi, List.getElem?_eq_getElem hi];simp only [Option.map_some, Option.getD_some];have hfin : ∀ c : Bool, (c = true ↔ (256 : Int) < ((N[i].2.length : Nat) : Int)) -> (if c = true then Option.map Sum.inr (some false) else if ((List.range N[i].2.length).all (OB N[i].2)) = true then some (Sum.inl ((i + 1 : Nat) : Int)) else some (Sum.inr false)) = some (if (decide (N[i].2.length <= 256) && (List.range N[i].2.length).all (OB N[i].2)) = true then Sum.inl ((i + 1 : Nat) : Int) else Sum.inr false) := by
     intro c hc;by_cases h : c = true
     ·have := hc.1 h;rw [if_pos h, if_neg (by simp;omega)];rfl
     ·have h2 : N[i].2.length <= 256 := by
        have h3 : ¬ (256 : Int) < ((N[i].2.length : Nat) : Int) := fun q => h (hc.2 q);omega
      rw [if_neg h, decide_eq_true h2, Bool.true_and];split <;> rfl
   cases hnm : vW N[i].1 with
   | false => simp [Bc]
   | true =>
     simp only [Bool.not_true, Bool.not_false, Bc, if_true, Bool.true_and];cases i with
     | zero =>
       have h0 : decide ((0 : Int) < ((0 : Nat) : Int)) = false := rfl;have h1 : BU 0 N[0].1 (rD (smap N) 0) = true := rfl;simp only [h0, h1, Bool.false_eq_true, if_false, Option.bind_some, Bool.false_and, Bool.or_false, Bool.false_or, Bool.true_and];exact hfin _ (by simp)
     | succ i =>
       have h0 : decide ((0 : Int) < ((i + 1 : Nat) : Int)) = true := decide_eq_true (by omega);simp only [h0, if_true, NS i (by omega)];rw [bQ (show i < N.length by omega)];simp only [Option.bind_some, Bool.false_or, Bool.true_and];have hna := J5 (i + 1) N[i + 1].1 N[i].1;rw [h0, Bool.true_and] at hna;rw [hna, lastK_s N i hi];cases hok : BU (i + 1) N[i + 1].1 N[i].1 with
       | false => simp
       | true =>
         simp only [Bool.not_true, Bool.false_or, Bool.true_and];exact hfin _ (by simp)
  ·unfold kz;simp only [];rw [if_neg (by omega)]
def OC (C : Ch) (i : Nat) : Bool := (decide (1 <= (((C[i]?.map (·.2)).getD []).length)) && decide (((C[i]?.map (·.2)).getD []).length <= 1024)) && BU i ((C[i]?.map (·.1)).getD []) (rD C i)
theorem BR_iff (z : Nat) (l : List (List UInt8)) : (List.range (FI z l).length).all (OC (FI z l)) = true ↔ BR z l := by
  unfold BR;rw [List.all_eq_true, QU];have hat : ∀ i (hi : i < l.length), (FI z l)[i]? = some (NI z l[i], l[i]) := fun i hi => by
    unfold FI;rw [List.getElem?_map, List.getElem?_eq_getElem hi];rfl
  have hat' : ∀ i (hi : i < (FI z l).length) (hi2 : i < l.length), (FI z l)[i] = (NI z l[i], l[i]) := fun i hi hi2 => by
    have h1 := hat i hi2;rw [List.getElem?_eq_getElem hi] at h1;exact Option.some.inj h1
  constructor
  ·intro h;refine ⟨fun c hc => ?_, fun i hi => ?_⟩
   ·obtain ⟨j, hj, rfl⟩ := List.getElem_of_mem hc;have := h j (List.mem_range.2 (by rw [wL];exact hj));unfold OC at this;rw [hat j hj] at this;simp only [Bool.and_eq_true, decide_eq_true_eq, Option.map_some, Option.getD_some] at this;exact this.1
   ·have hi2 : i < l.length := by rwa [wL] at hi
    have := h i (List.mem_range.2 hi);unfold OC at this;rw [hat i hi2] at this;simp only [Bool.and_eq_true, decide_eq_true_eq, Option.map_some, Option.getD_some] at this;rw [hat' i hi hi2];exact this.2
  ·rintro ⟨h1, h2⟩ i hi;have hi := List.mem_range.1 hi;rw [wL] at hi;have a1 := h1 _ (List.getElem_mem hi);have a2 := h2 i (by rw [wL];exact hi);rw [hat' i (by rw [wL];exact hi) hi] at a2;unfold OC;rw [hat i hi];simp only [Option.map_some, Option.getD_some, Bool.and_eq_true, decide_eq_true_eq];exact ⟨a1, a2⟩
theorem right_ok (zi : Int) (C : Ch) (hC : C.length <= 1000000000) (N : List Eo) (hN : Fine N) :
    qZ zi C N = some ((List.range C.length).all (OC C) && (decide (N.length <= 64) && (List.range N.length).all (KX N))) := by
  unfold qZ;have := DV (lT C N) C.length (OC C) false (some (decide (N.length <= 64) && (List.range N.length).all (KX N))) (fun i hi => ?_) ?_ rfl
  ·rw [this];cases (List.range C.length).all (OC C) <;> rfl
  ·unfold lT;simp only [];rw [if_pos (by omega), bQ hi];simp only [Option.bind_some];unfold OC;rw [List.getElem?_eq_getElem hi, jb i (by omega)];simp only [Option.map_some, Option.getD_some];by_cases h1 : ((C[i].2.length : Nat) : Int) < 1
   ·have h1' : ¬ 1 <= C[i].2.length := by omega
    simp [h1, h1', Bc]
   ·have h1' : 1 <= C[i].2.length := by omega
    simp only [decide_eq_false h1, Bool.not_false, Bc, if_true, Option.bind_some, Bool.false_or];by_cases h2 : (1024 : Int) < ((C[i].2.length : Nat) : Int)
    ·have h2' : ¬ C[i].2.length <= 1024 := by omega
     simp [h2, h2']
    ·have h2' : C[i].2.length <= 1024 := by omega
     simp only [decide_eq_false h2, Bool.not_false, if_true, decide_eq_true h1', decide_eq_true h2', Bool.true_and, Bool.false_or];cases i with
     | zero =>
       have h0 : decide ((0 : Int) < ((0 : Nat) : Int)) = false := rfl;have h3 : BU 0 C[0].1 (rD C 0) = true := rfl;simp [h0, h3]
     | succ i =>
       have h0 : decide ((0 : Int) < ((i + 1 : Nat) : Int)) = true := decide_eq_true (by omega);simp only [h0, if_true, NS i (by omega)];rw [bQ (show i < C.length by omega)];simp only [Option.bind_some, Bool.true_and];have hna := J5 (i + 1) C[i + 1].1 C[i].1;rw [h0, Bool.true_and] at hna;have hlk : rD C (i + 1) = C[i].1 := by simp [rD, List.getElem?_eq_getElem (show i < C.length by omega)]
       rw [hna, hlk];cases BU (i + 1) C[i + 1].1 C[i].1 <;> rfl
  ·unfold lT;simp only [];rw [if_neg (by omega)];congr 1;by_cases h : (64 : Int) < ((N.length : Nat) : Int)
   ·rw [if_pos h, decide_eq_false (by omega), Bool.false_and]
   ·rw [if_neg h, decide_eq_true (by omega), Bool.true_and, right_l1 N hN]
end Go.Sx
namespace Go.Sx
open Go.RowKit
set_option linter.unusedVariables false
set_option linter.unusedSimpArgs false
variable {α : Type}
def tl : Tx -> Nat
  | none => 0
  | some p => p.length
theorem Jo (n : Nat) (t : Tx) : tl (tk n t).2 <= tl t := by
  cases t with
  | none => exact Nat.le_refl _
  | some p =>
    unfold tk;simp only [];split
    ·simp [tl]
    ·simp [tl]
theorem Az (k : Nat) (t : Tx) : tl (ma k t).2 <= tl t /\ (ma k t).1 <= tl (ma k t).2 := by
  have h := Jo k t;unfold ma;split
  ·simp [tl]
  ·rename_i p hp;split
   ·simp [tl]
   ·rename_i hl;have h2 : (tk k t).2 = some p := hp;rw [h2] at h;exact ⟨h, by show (nu k t).1 <= p.length;omega⟩
theorem zB (f : Tx -> α × Tx) (B : Nat) (Q : α -> Prop) (h1 : ∀ t, tl (f t).2 <= tl t) (h2 : ∀ t, tl t <= B -> Q (f t).1) : ∀ n t, tl t <= B -> tl (rep f n t).2 <= tl t /\ ∀ x ∈ (rep f n t).1, Q x
  | 0, t, ht => ⟨Nat.le_refl _, fun x hx => by cases hx⟩
  | n + 1, none, ht => ⟨Nat.le_refl _, fun x hx => by cases hx⟩
  | n + 1, some p, ht => by
    have h3 := h1 (some p);obtain ⟨i1, i2⟩ := zB f B Q h1 h2 n (f (some p)).2 (by omega);simp only [rep];refine ⟨by omega, fun x hx => ?_⟩;rcases List.mem_cons.1 hx with rfl | hx
    ·exact h2 _ ht
    ·exact i2 x hx
theorem Ep (t : Tx) : tl (iF t).2 <= tl t := Nat.le_trans (Jo _ _) (Az 1 t).1
theorem blob1_tl (t : Tx) : tl (uT t).2 <= tl t := Nat.le_trans (Jo _ _) (Az 2 t).1
theorem Lp (z : Nat) (t : Tx) : tl (uG z t).2 <= tl t := by
  have h1 := (zB (tk z) (tl (ma 4 (nu 4 (iF t).2).2).2) (fun _ => True) (Jo z) (fun _ _ => trivial) (ma 4 (nu 4 (iF t).2).2).1 _ (Nat.le_refl _)).1;have h2 := (Az 4 (nu 4 (iF t).2).2).1;have h3 := Jo 4 (iF t).2;have h4 := Ep t;exact Nat.le_trans h1 (Nat.le_trans h2 (Nat.le_trans h3 h4))
theorem QX (z : Nat) (t : Tx) : tl (DT z t).2 <= tl t := by
  have h1 := (zB (uG z) (tl (ma 4 (iF t).2).2) (fun _ => True) (Lp z) (fun _ _ => trivial) (ma 4 (iF t).2).1 _ (Nat.le_refl _)).1;exact Nat.le_trans h1 (Nat.le_trans (Az 4 (iF t).2).1 (Ep t))
theorem FO (b : List UInt8) : tl (rE b).2 <= b.length /\ (rE b).1.length <= b.length /\ ∀ c ∈ (rE b).1, c.length <= b.length := by
  have h1 : tl (hdn b).2 <= b.length := Nat.le_trans (Az 4 _).1 (Nat.le_trans (Jo 1 _) (Jo 3 (some b)));have h2 : (hdn b).1 <= b.length := Nat.le_trans (Az 4 _).2 h1;obtain ⟨h3, h4⟩ := zB uT b.length (fun c => c.length <= b.length) blob1_tl (fun t ht => by
    have h5 := Az 2 t;exact Nat.le_trans (HY _ _) (by omega)) (hdn b).1 (hdn b).2 h1
  exact ⟨Nat.le_trans h3 h1, Nat.le_trans (NQ _ _ _) h2, h4⟩
theorem XV (b : List UInt8) (hb : b.length <= 16000000) : Fine (ui b).1 := by
  have h1 : tl (hds b).2 <= b.length := Nat.le_trans (Az 4 _).1 (FO b).1;have h2 : (hds b).1 <= b.length := Nat.le_trans (Az 4 _).2 h1;obtain ⟨h3, h4⟩ := zB (DT (hdz b).1) b.length (fun s => s.1.length <= 255 /\ s.2.length <= b.length /\ ∀ e ∈ s.2, e.1.length <= 255) (QX _) (fun t ht => by
    have h5 := Az 4 (iF t).2;have h6 := Ep t;refine ⟨Jn t, Nat.le_trans (NQ _ _ _) (by omega), ?_⟩;exact (zB (uG (hdz b).1) b.length (fun e => e.1.length <= 255) (Lp _) (fun t _ => Jn t) _ _ (by omega)).2) (hds b).1 (hds b).2 h1
  refine ⟨Nat.le_trans (NQ _ _ _) (by omega), fun s hs => ?_, fun s hs => ?_, fun s hs e he => ?_⟩
  ·have := (h4 s hs).1;omega
  ·have := (h4 s hs).2.1;omega
  ·have := (h4 s hs).2.2 e he;omega
theorem VM (b : List UInt8) (q : List UInt8) (h : (ui b).2 = some q) : 3 <= b.length /\ (hd3 b).1 = b.take 3 := by
  unfold hd3 tk;simp only [];by_cases hl : b.length < 3
  ·exfalso;have h1 : (hd3 b).2 = none := by simp [hd3, tk, hl]
   have h2 : (ui b).2 = none := by
     have a1 : (hdz b).2 = none := by unfold hdz nu;rw [h1];rfl
     have a2 : (hdn b).2 = none := by unfold hdn;rw [a1];rfl
     have a3 : (rE b).2 = none := by unfold rE;rw [a2, FH]
     have a4 : (hds b).2 = none := by unfold hds;rw [a3];rfl
     unfold ui;rw [a4, FH]
   rw [h2] at h;cases h
  ·rw [if_neg hl];exact ⟨by omega, rfl⟩
noncomputable def J6 (z : Nat) (l : List (List UInt8)) (i : Nat) : Ch := FI z (l.take i) ++ (l.drop i).map (fun c => (([] : List UInt8), c))
theorem WR (b : List UInt8) (z : Nat) (h1 : 1 <= z) (h2 : z <= 64) (l : List (List UInt8)) (hl : l.length <= 1000000000) (hc : ∀ c ∈ l, c.length <= 12000000) (N : List Eo) (hN : Fine N) (d0 : Ch) (x y : Int) (sh : Bool) :
    aV (uC ((z : Int), d0, N, y, sh)) (l.map (fun c => (([] : List UInt8), c)), (0 : Int)) = some (if ((List.range (FI z l).length).all (OC (FI z l)) && (decide (N.length <= 64) && (List.range N.length).all (KX N))) = true then .inr ((z : Int), FI z l, N) else .inl 274) := by
  have h0 : (l.map (fun c => (([] : List UInt8), c)), (0 : Int)) = (J6 z l 0, ((0 : Nat) : Int)) := by
    unfold J6 FI;simp
  have hml : ∀ i, i <= l.length -> (J6 z l i).length = l.length := fun i hi => by
    unfold J6;rw [List.length_append, wL, List.length_map, List.length_take, List.length_drop];omega
  rw [h0];refine iL (fun i => (J6 z l i, (i : Int))) l.length (fun i hi => ?_) ?_
  ·have hsp : J6 z l i = FI z (l.take i) ++ (([] : List UInt8), l[i]) :: (l.drop (i + 1)).map (fun c => (([] : List UInt8), c)) := by
     unfold J6;rw [List.drop_eq_getElem_cons hi];rfl
   have htl : (FI z (l.take i)).length = i := by rw [wL, List.length_take];omega
   have hget : aZ (J6 z l i) (i : Int) = some (([] : List UInt8), l[i]) := by
     rw [bQ (by rw [hml i (by omega)];exact hi)];congr 1;have : (J6 z l i)[i]? = some (([] : List UInt8), l[i]) := by
       rw [hsp, List.getElem?_append_right (by omega), htl, Nat.sub_self];rfl
     rw [List.getElem?_eq_getElem (by rw [hml i (by omega)];exact hi)] at this;exact Option.some.inj this
   unfold uC;simp only [];rw [if_pos (by rw [hml i (by omega)];omega), hget];simp only [Option.bind_some];have hdg : pK (z : Int) (J6 z l i) N l[i] = some (NI z l[i]) := by
     unfold pK;rw [(TY z h1 h2 l[i] (hc _ (List.getElem_mem hi))).2.1];rfl
   rw [hdg];simp only [Option.bind_some];rw [jb i (by omega), Int.toNat_natCast];congr 3;rw [hsp, List.set_append_right _ _ (by omega), htl, Nat.sub_self, List.set_cons_zero];unfold J6;rw [List.take_add_one, List.getElem?_eq_getElem hi, Option.toList_some, FK, List.append_assoc];rfl
  ·unfold uC;simp only [];rw [if_neg (by rw [hml _ (Nat.le_refl _)];omega)];have hend : J6 z l l.length = FI z l := by
     unfold J6;rw [List.take_length, List.drop_length];simp
   rw [hend, right_ok _ _ (by rw [wL];exact hl) N hN];simp only [Option.bind_some];cases ((List.range (FI z l).length).all (OC (FI z l)) && (decide (N.length <= 64) && (List.range N.length).all (KX N))) <;> rfl
theorem Pj (b : List UInt8) (h : 3 <= b.length) : b.take 3 = [68, 81, 1] ↔ b[0] = 68 /\ b[1] = 81 /\ b[2] = 1 := by
  match b, h with
  | x :: y :: w :: r, _ => simp
theorem rload_ok (b : List UInt8) (hb : b.length <= 12000000) :
    ((ui b).2 = none -> tX b = some (.inl 3)) /\
    (∀ q, (ui b).2 = some q -> q ≠ [] -> tX b = some (.inl 9)) /\
    ((ui b).2 = some [] -> (Good b -> tX b = some (.inr (((hdz b).1 : Int), FI (hdz b).1 (rE b).1, (ui b).1))) /\ (¬ Good b -> tX b = some (.inl 274))) := by
  obtain ⟨a, sh, e, ha, hr⟩ := rdep b (by omega);unfold tX;rw [e];simp only [Option.bind_some];refine ⟨fun h => ?_, fun q h hq => ?_, fun h => ?_⟩
  ·rw [h] at hr;rw [if_pos (WJ hr)]
  ·rw [h] at hr;obtain ⟨rfl, hd⟩ := QQ hr;rw [if_neg (by decide), if_pos];have : (b.drop a).length = q.length := by rw [hd]
   rw [List.length_drop] at this;have := List.length_pos_iff.2 hq;omega
  ·rw [h] at hr;obtain ⟨rfl, hd⟩ := QQ hr;have h3 := VM b [] h;have hal : a = b.length := by
     have : (b.drop a).length = 0 := by rw [hd];rfl
     rw [List.length_drop] at this;omega
   rw [if_neg (by decide), if_neg (by omega)];rw [show (0 : Int) = ((0 : Nat) : Int) from rfl, bQ (show 0 < b.length by omega)];simp only [Option.bind_some];have hb1 : aZ b (1 : Int) = some b[1] := bQ (i := 1) (by omega);have hb2 : aZ b (2 : Int) = some b[2] := bQ (i := 2) (by omega);have hcond : ∀ (K : Option (Int ⊕ (Int × Ch × List Eo))),
       ((Bc (!(decide (b[0] ≠ 68))) (aZ b (1 : Int))).bind fun iw => (Bc (!((decide (b[0] ≠ 68)) || (decide (iw ≠ 81)))) (aZ b (2 : Int))).bind fun mM =>
         if (((((decide (b[0] ≠ 68)) || (decide (iw ≠ 81))) || (decide (mM ≠ 1))) || (decide ((((hdz b).1 : Nat) : Int) < 1))) || (decide ((64 : Int) < (((hdz b).1 : Nat) : Int)))) = true then some (Sum.inl (274 : Int)) else K)
       = if (b[0] = 68 /\ b[1] = 81 /\ b[2] = 1) /\ 1 <= (hdz b).1 /\ (hdz b).1 <= 64 then K else some (.inl 274) := by
     intro K;rw [hb1, hb2];by_cases c0 : b[0] = 68
     ·by_cases c1 : b[1] = 81
      ·by_cases c2 : b[2] = 1
       ·simp only [c0, c1, c2, Bc, ne_eq, not_true_eq_false, decide_false, Bool.not_false, if_true, Option.bind_some, Bool.or_self, Bool.false_or];by_cases c3 : (hdz b).1 < 1
        ·rw [if_pos (by simp;omega), if_neg (by omega)]
        ·by_cases c4 : 64 < (hdz b).1
         ·rw [if_pos (by simp;omega), if_neg (by omega)]
         ·rw [if_neg (by simp;omega), if_pos (by simp;omega)]
       ·simp [c0, c1, c2, Bc]
      ·simp [c0, c1, Bc]
     ·simp [c0, Bc]
   rw [hcond];obtain ⟨t1, t2, t3⟩ := FO b;have hF := XV b (by omega);constructor
   ·rintro ⟨g1, g2, g3, g4, g5, g6⟩;rw [h3.2, Pj b h3.1] at g1;rw [if_pos ⟨g1, g2, g3⟩, show ((0 : Nat) : Int) = 0 from rfl, WR b (hdz b).1 g2 g3 (rE b).1 (by omega) (fun c hc => by have := t3 c hc;omega) (ui b).1 hF _ 0, if_pos];rw [(BR_iff _ _).2 g4, (NR_iff _).2 g6];simpa using g5
   ·intro hg;by_cases hc : (b[0] = 68 /\ b[1] = 81 /\ b[2] = 1) /\ 1 <= (hdz b).1 /\ (hdz b).1 <= 64
    ·rw [if_pos hc, show ((0 : Nat) : Int) = 0 from rfl, WR b (hdz b).1 hc.2.1 hc.2.2 (rE b).1 (by omega) (fun c hc => by have := t3 c hc;omega) (ui b).1 hF _ 0, if_neg];intro hall;rw [Bool.and_eq_true, Bool.and_eq_true, BR_iff, NR_iff, decide_eq_true_eq] at hall;refine hg ⟨?_, hc.2.1, hc.2.2, hall.1, hall.2.1, hall.2.2⟩;rw [h3.2, Pj b h3.1];exact hc.1
    ·rw [if_neg hc]
end Go.Sx
namespace Go.Sx
open Go.RowKit
set_option linter.unusedVariables false
set_option linter.unusedSimpArgs false
variable {α : Type}
theorem Uf : ∀ X : List UInt8, JX X.length (yM X) = X
  | [] => rfl
  | x :: X => by
    simp only [List.length_cons, JX, yM];have h1 : (x.toNat + 256 * yM X) / 256 = yM X := by have := x.toNat_lt;omega
    have h2 : UInt8.ofNat (x.toNat + 256 * yM X) = x := by
      apply UInt8.toNat_inj.1;rw [UInt8.toNat_ofNat'];have := x.toNat_lt;omega
    rw [h1, h2, Uf X]
theorem Ug {n : Nat} {t : Tx} {q : List UInt8} (h : (tk n t).2 = some q) : t = some ((tk n t).1 ++ q) /\ (tk n t).1.length = n := by
  obtain ⟨p, rfl, hn, h1, rfl⟩ := tk_some h;rw [h1, List.take_append_drop, List.length_take];exact ⟨rfl, by omega⟩
theorem nu_un {k : Nat} {t : Tx} {q : List UInt8} (h : (nu k t).2 = some q) : t = some (JX k (nu k t).1 ++ q) := by
  obtain ⟨h1, h2⟩ := Ug (n := k) (t := t) h;have h3 := Uf (tk k t).1;rw [h2] at h3;show t = some (JX k (yM (tk k t).1) ++ q);rw [h3];exact h1
theorem Pm {k : Nat} {t : Tx} {q : List UInt8} (h : (ma k t).2 = some q) : t = some (JX k (ma k t).1 ++ q) := by
  unfold ma at h ⊢;cases hn : (nu k t).2 with
  | none => rw [hn] at h;cases h
  | some p =>
    rw [hn] at h;simp only [] at h ⊢;split at h
    ·cases h
    ·rename_i hl;rw [if_neg hl];obtain rfl := Option.some.inj h;exact nu_un hn
theorem QY (f : Tx -> α × Tx) (g : α -> List UInt8) (hf : ∀ t q, (f t).2 = some q -> t = some (g (f t).1 ++ q)) : ∀ n t q, (rep f n t).2 = some q -> t = some (((rep f n t).1.map g).flatten ++ q)
  | 0, t, q, h => by simpa [rep] using h
  | n + 1, none, q, h => by cases h
  | n + 1, some p, q, h => by
    simp only [rep] at h ⊢;have h1 := QY f g hf n _ q h;have h2 := hf _ _ h1;rw [List.map_cons, List.flatten_cons, List.append_assoc];exact h2
theorem leD1 (n : Nat) : JX 1 n = [UInt8.ofNat n] := rfl
theorem blob1_un (t : Tx) (q : List UInt8) (h : (uT t).2 = some q) : t = some ((JX 2 (uT t).1.length ++ (uT t).1) ++ q) := by
  obtain ⟨h1, h2⟩ := Ug (n := (ma 2 t).1) (t := (ma 2 t).2) h;have h3 := Pm h1;have h4 : (uT t).1.length = (ma 2 t).1 := h2;rw [h4, List.append_assoc];exact h3
theorem WS (t : Tx) (q : List UInt8) (h : (iF t).2 = some q) : t = some (([UInt8.ofNat (iF t).1.length] ++ (iF t).1) ++ q) := by
  obtain ⟨h1, h2⟩ := Ug (n := (ma 1 t).1) (t := (ma 1 t).2) h;have h3 := Pm h1;have h4 : (iF t).1.length = (ma 1 t).1 := h2;rw [h4, List.append_assoc, <- leD1];exact h3
theorem Pn (z : Nat) : ∀ l : List (List UInt8), (∀ c ∈ l, c.length = z) -> l.flatten.length = l.length * z
  | [], _ => by simp
  | c :: l, h => by
    rw [List.flatten_cons, List.length_append, Pn z l (fun x hx => h x (List.mem_cons_of_mem _ hx)), h c List.mem_cons_self, List.length_cons, Nat.succ_mul];omega
def eEn (z : Nat) (e : N7) : List UInt8 := WG z (e.1, (e.2.1, e.2.2.flatten))
theorem ent1_un (z : Nat) (hz : 1 <= z) (t : Tx) (q : List UInt8) (h : (uG z t).2 = some q) : t = some (eEn z (uG z t).1 ++ q) := by
  have h1 : (rep (tk z) (ma 4 (nu 4 (iF t).2).2).1 (ma 4 (nu 4 (iF t).2).2).2).2 = some q := h;obtain ⟨c1, c2⟩ := QR z (ma 4 (nu 4 (iF t).2).2).1 (ma 4 (nu 4 (iF t).2).2).2;have hlen := Em _ _ _ _ h1;rw [c1] at h1;obtain ⟨c3, c4⟩ := c2 q h1;obtain ⟨h2, h3⟩ := Ug h1;have h4 := Pm h2;have h5 := nu_un h4;have h6 := WS _ _ h5;have hfl : (rep (tk z) (ma 4 (nu 4 (iF t).2).2).1 (ma 4 (nu 4 (iF t).2).2).2).1.flatten.length / z = (ma 4 (nu 4 (iF t).2).2).1 := by
    rw [Pn z _ c4, hlen, Nat.mul_div_cancel _ (by omega)]
  unfold eEn WG;have e1 : (uG z t).1.1 = (iF t).1 := rfl;have e2 : (uG z t).1.2.1 = ((nu 4 (iF t).2).1 : Int) := rfl;have e3 : (uG z t).1.2.2 = (rep (tk z) (ma 4 (nu 4 (iF t).2).2).1 (ma 4 (nu 4 (iF t).2).2).2).1 := rfl;simp only [e1, e2, e3, hfl, Int.toNat_natCast];rw [c3];simp only [List.append_assoc] at h6 ⊢;exact h6
def eSn (z : Nat) (s : Eo) : List UInt8 := Ux z (s.1, emap s.2)
theorem eSn_eq (z : Nat) (s : Eo) : eSn z s = [UInt8.ofNat s.1.length] ++ s.1 ++ JX 4 s.2.length ++ (s.2.map (eEn z)).flatten := by
  unfold eSn Ux;simp only [];rw [Ag];unfold emap;rw [List.map_map];rfl
theorem snp1_un (z : Nat) (hz : 1 <= z) (t : Tx) (q : List UInt8) (h : (DT z t).2 = some q) : t = some (eSn z (DT z t).1 ++ q) := by
  have h1 : (rep (uG z) (ma 4 (iF t).2).1 (ma 4 (iF t).2).2).2 = some q := h;have hlen := Em _ _ _ _ h1;have h2 := QY (uG z) (eEn z) (ent1_un z hz) _ _ _ h1;have h4 := Pm h2;have h6 := WS _ _ h4;rw [eSn_eq];have e1 : (DT z t).1.1 = (iF t).1 := rfl;have e2 : (DT z t).1.2 = (rep (uG z) (ma 4 (iF t).2).1 (ma 4 (iF t).2).2).1 := rfl;rw [e1, e2, hlen];simp only [List.append_assoc] at h6 ⊢;exact h6
theorem XW (b : List UInt8) (h : (ui b).2 = some []) (hg : Good b) : Ua (hdz b).1 (FI (hdz b).1 (rE b).1) (smap (ui b).1) = b := by
  obtain ⟨g1, g2, g3, _⟩ := hg;have hz : (hdz b).1 < 256 := VK _;have hl1 : (ui b).1.length = (hds b).1 := Em _ _ _ _ h;have h1 := QY (DT (hdz b).1) (eSn (hdz b).1) (snp1_un _ g2) (hds b).1 (hds b).2 [] h;have h2 := Pm (k := 4) (t := (rE b).2) h1;have hl2 : (rE b).1.length = (hdn b).1 := Em _ _ _ _ h2;have h3 := QY uT (fun c => JX 2 c.length ++ c) blob1_un (hdn b).1 (hdn b).2 _ h2;have h4 := Pm (k := 4) (t := (hdz b).2) h3;have h5 := nu_un (k := 1) (t := (hd3 b).2) h4;obtain ⟨h6, h7⟩ := Ug (n := 3) (t := some b) h5;have h8 := Option.some.inj h6;refine Eq.trans ?_ h8.symm;have e1 : (tk 3 (some b)).1 = [68, 81, 1] := g1;rw [e1];unfold Ua;rw [wL, yG, hl1, hl2];have e2 : (FI (hdz b).1 (rE b).1).map Ya = (rE b).1.map (fun c => JX 2 c.length ++ c) := by
    unfold FI;rw [List.map_map];rfl
  have e3 : (smap (ui b).1).map (Ux (hdz b).1) = (ui b).1.map (eSn (hdz b).1) := by
    unfold smap;rw [List.map_map];rfl
  rw [e2, e3];show _ = [68, 81, 1] ++ (JX 1 (hdz b).1 ++ (JX 4 (hdn b).1 ++ (((rE b).1.map (fun c => JX 2 c.length ++ c)).flatten ++ (JX 4 (hds b).1 ++ (((ui b).1.map (eSn (hdz b).1)).flatten ++ [])))))
  rw [leD1];simp only [List.append_assoc, List.append_nil];rfl
theorem Uh (z : Nat) : ∀ (k : Nat) (t : Tx), (rep (tk z) k t).1.flatten.length <= tl t
  | 0, t => by simp [rep]
  | k + 1, none => by simp [rep]
  | k + 1, some p => by
    have h1 := Uh z k (tk z (some p)).2;have h2 : (tk z (some p)).1.length + tl (tk z (some p)).2 <= p.length := by
      unfold tk;simp only [];split
      ·simp [tl]
      ·simp [tl];omega
    simp only [rep, List.flatten_cons, List.length_append, tl];omega
theorem XX (b : List UInt8) : ∀ s ∈ (ui b).1, ∀ e ∈ s.2, 0 <= e.2.1 /\ e.2.2.flatten.length <= b.length := by
  have h1 : tl (hds b).2 <= b.length := Nat.le_trans (Az 4 _).1 (FO b).1;exact (zB (DT (hdz b).1) b.length (fun s => ∀ e ∈ s.2, 0 <= e.2.1 /\ e.2.2.flatten.length <= b.length) (QX _) (fun t ht => by
    have h5 := Az 4 (iF t).2;have h6 := Ep t;exact (zB (uG (hdz b).1) b.length (fun e => 0 <= e.2.1 /\ e.2.2.flatten.length <= b.length) (Lp _) (fun t ht => by
      refine ⟨Int.natCast_nonneg _, ?_⟩;have h7 := Uh (hdz b).1 (ma 4 (nu 4 (iF t).2).2).1 (ma 4 (nu 4 (iF t).2).2).2;have h8 := (Az 4 (nu 4 (iF t).2).2).1;have h9 := Jo 4 (iF t).2;have h10 := Ep t;have h11 : tl (nu 4 (iF t).2).2 <= tl (iF t).2 := h9;exact Nat.le_trans h7 (by omega)) _ _ (by omega)).2) (hds b).1 (hds b).2 h1).2
theorem NT {s : List UInt8} (h : vW s = true) : 1 <= s.length /\ s.length <= 64 := by
  unfold vW at h;rw [Bool.and_eq_true, decide_eq_true_eq] at h;exact h.1
theorem okE_of (z : Nat) (L : List N7) (hl : L.length <= 256) (hR : ER L) (hs : ∀ e ∈ L, 0 <= e.2.1 /\ e.2.2.flatten.length <= 1000000000) : OkE z (emap L) := by
  have hmem : ∀ p ∈ emap L, ∃ e ∈ L, p = (e.1, (e.2.1, e.2.2.flatten)) := fun p hp => by
    unfold emap at hp;obtain ⟨e, he, rfl⟩ := List.mem_map.1 hp;exact ⟨e, he, rfl⟩
  refine ⟨hR.2, by rw [Ag];omega, fun p hp => ?_, fun p hp => ?_, fun p hp => ?_⟩
  ·obtain ⟨e, he, rfl⟩ := hmem p hp;exact NT (hR.1 e he).1
  ·obtain ⟨e, he, rfl⟩ := hmem p hp;exact ⟨(hs e he).1, (hR.1 e he).2⟩
  ·obtain ⟨e, he, rfl⟩ := hmem p hp;exact (hs e he).2
theorem okS_of (z : Nat) (N : List Eo) (hl : N.length <= 64) (hR : NR N) (hs : ∀ s ∈ N, ∀ e ∈ s.2, 0 <= e.2.1 /\ e.2.2.flatten.length <= 1000000000) : OkS z (smap N) := by
  have hmem : ∀ p ∈ smap N, ∃ s ∈ N, p = (s.1, emap s.2) := fun p hp => by
    unfold smap at hp;obtain ⟨e, he, rfl⟩ := List.mem_map.1 hp;exact ⟨e, he, rfl⟩
  refine ⟨hR.2, by rw [yG];omega, fun p hp => ?_, fun p hp => ?_⟩
  ·obtain ⟨s, hs', rfl⟩ := hmem p hp;exact NT (hR.1 s hs').1
  ·obtain ⟨s, hs', rfl⟩ := hmem p hp;exact okE_of z s.2 (hR.1 s hs').2.1 (hR.1 s hs').2.2 (hs s hs')
theorem okC_of (z : Nat) (l : List (List UInt8)) (hl : l.length <= 1000000000) (hR : BR z l) : OkC (FI z l) := by
  refine ⟨hR.2, by rw [wL];exact hl, fun p hp => ?_⟩;unfold FI at hp;obtain ⟨c, hc, rfl⟩ := List.mem_map.1 hp;exact hR.1 c hc
end Go.Sx
namespace Go.Sx
open Go.RowKit
set_option linter.unusedVariables false
set_option linter.unusedSimpArgs false
variable {δ ε : Type}
theorem Ui {m : Mp δ} (h : uk m) (i : Nat) (hi : i < m.length) : fP m m[i].1 = some m[i].2 := l9 h.nodup (List.getElem_mem hi)
theorem VN {m : Mp δ} (h : uk m) (i j : Nat) (hj : j < m.length) (hij : i < j) : m[i].1 < m[j].1 := by
  unfold uk at h;have := List.pairwise_iff_getElem.1 h i j (by rw [List.length_map];omega) (by rw [List.length_map];exact hj) hij;simpa using this
theorem blob_run (L : Ch) (hS : uk L) (hL : L.length <= 1000000000000) (k : Ky) : ∀ (m lo hi : Nat), hi - lo = m -> lo <= hi -> hi <= L.length -> (∀ i (h : i < L.length), i < lo -> L[i].1 < k) -> (∀ i (h : i < L.length), hi <= i -> ¬ L[i].1 < k) ->
    ∃ lo' : Nat, aV (kN L k) ((lo : Int), (hi : Int)) = aV (kN L k) ((lo' : Int), (lo' : Int)) /\ lo' <= L.length /\ (∀ i (h : i < L.length), i < lo' -> L[i].1 < k) /\ (∀ i (h : i < L.length), lo' <= i -> ¬ L[i].1 < k) := by
  intro m
  induction m using Nat.strongRecOn with
  | _ m ih =>
    intro lo hi hm hle hh h1 h2;by_cases he : lo = hi
    ·subst he;exact ⟨lo, rfl, hh, h1, h2⟩
    ·have hmid : aG (Int.tdiv (aG ((lo : Int) + (hi : Int))) 2) = (((lo + hi) / 2 : Nat) : Int) := by
       rw [iK (n := (lo : Int) + hi) (by omega)];have : Int.tdiv ((lo : Int) + (hi : Int)) 2 = (((lo + hi) / 2 : Nat) : Int) := by
         rw [Int.tdiv_eq_ediv_of_nonneg (by omega)];omega
       rw [this, iK (by omega)]
     have hml : (lo + hi) / 2 < L.length := by omega
     by_cases hc : L[(lo + hi) / 2].1 < k
     ·have hstep : kN L k ((lo : Int), (hi : Int)) = some (.inl ((((lo + hi) / 2 + 1 : Nat) : Int), (hi : Int))) := by
        unfold kN;simp only [];rw [if_pos (by omega), hmid, bQ hml];simp only [Option.bind_some];rw [CG, if_pos (decide_eq_true hc), jb _ (by omega)]
      obtain ⟨lo', e, r⟩ := ih (hi - ((lo + hi) / 2 + 1)) (by omega) ((lo + hi) / 2 + 1) hi rfl (by omega) hh (fun i h hi2 => by
        by_cases hq : i = (lo + hi) / 2
        ·subst hq;exact hc
        ·exact List.lt_trans (VN hS i ((lo + hi) / 2) hml (by omega)) hc) h2
      exact ⟨lo', by rw [gK hstep, e], r⟩
     ·have hstep : kN L k ((lo : Int), (hi : Int)) = some (.inl ((lo : Int), (((lo + hi) / 2 : Nat) : Int))) := by
        unfold kN;simp only [];rw [if_pos (by omega), hmid, bQ hml];simp only [Option.bind_some];rw [CG, if_neg (by simpa using hc)]
      obtain ⟨lo', e, r⟩ := ih ((lo + hi) / 2 - lo) (by omega) lo ((lo + hi) / 2) rfl (by omega) (by omega) h1 (fun i h hi2 => by
        by_cases hq : i = (lo + hi) / 2
        ·subst hq;exact hc
        ·intro hlt;exact hc (List.lt_trans (VN hS ((lo + hi) / 2) i h (by omega)) hlt))
      exact ⟨lo', by rw [gK hstep, e], r⟩
theorem WT (L : Ch) (hS : uk L) (hL : L.length <= 1000000000000) (k : Ky) :
    ∃ r : Int, yX L k = some r /\ ((fP L k = none /\ r = -1) ∨ ∃ (j : Nat) (h : j < L.length), r = (j : Int) /\ L[j].1 = k /\ fP L k = some L[j].2) := by
  obtain ⟨lo, e, h0, h1, h2⟩ := blob_run L hS hL k L.length 0 L.length (by omega) (by omega) (Nat.le_refl _) (fun i h hi => by omega) (fun i h hi => by omega);unfold yX;rw [show (0 : Int) = ((0 : Nat) : Int) from rfl, e];by_cases hl : lo < L.length
  ·by_cases hk : L[lo].1 = k
   ·refine ⟨(lo : Int), dU ?_, .inr ⟨lo, hl, rfl, hk, by rw [<- hk];exact Ui hS lo hl⟩⟩;unfold kN;simp only [];rw [if_neg (by omega)];have hd : decide ((lo : Int) < ((L.length : Nat) : Int)) = true := decide_eq_true (by omega);simp only [hd, Bc, if_true];rw [bQ hl];simp only [Option.bind_some];rw [if_pos (by simp [hk])];rfl
   ·refine ⟨-1, dU ?_, .inl ⟨?_, rfl⟩⟩
    ·unfold kN;simp only [];rw [if_neg (by omega)];have hd : decide ((lo : Int) < ((L.length : Nat) : Int)) = true := decide_eq_true (by omega);simp only [hd, Bc, if_true];rw [bQ hl];simp only [Option.bind_some];rw [if_neg (by simp [hk])];rfl
    ·rw [xq];intro hmem;obtain ⟨p, hp, hpk⟩ := List.mem_map.1 hmem;obtain ⟨j, hj, rfl⟩ := List.getElem_of_mem hp;rcases Nat.lt_trichotomy j lo with h | h | h
     ·exact Eu (h1 j hj h) hpk
     ·subst h;exact hk hpk
     ·have h3 := VN hS lo j hj h;rw [hpk] at h3;exact h2 lo hl (Nat.le_refl _) h3
  ·refine ⟨-1, dU ?_, .inl ⟨?_, rfl⟩⟩
   ·unfold kN;simp only [];rw [if_neg (by omega)];have hd : decide ((lo : Int) < ((L.length : Nat) : Int)) = false := decide_eq_false (by omega);simp only [hd, Bc, Bool.false_eq_true, if_false, Option.bind_some, Bool.false_and];rfl
   ·rw [xq];intro hmem;obtain ⟨p, hp, hpk⟩ := List.mem_map.1 hmem;obtain ⟨j, hj, rfl⟩ := List.getElem_of_mem hp;exact Eu (h1 j hj (by omega)) hpk
def insL (k : Ky) (v : List UInt8) : Ch -> Ch
  | [] => [(k, v)]
  | p :: r => if k < p.1 then (k, v) :: p :: r else p :: insL k v r
theorem Po (k : Ky) (v : List UInt8) : ∀ L : Ch, k ∉ L.map (·.1) -> insL k v L = fH L k v
  | [], _ => rfl
  | p :: r, h => by
    rw [List.map_cons, List.mem_cons, not_or] at h;rw [insL, fH, if_neg h.1, Po k v r h.2]
theorem WU (l : Ch) (hl : l.length <= 900000000000) (k : Ky) (v : List UInt8) : ∀ (m i : Nat) (out : Ch) (done : Bool), i + m = l.length -> out.length <= i + 1 ->
    aV (iT l k v) (out, done, (i : Int)) = some (out ++ (if done then l.drop i else insL k v (l.drop i)))
  | 0, i, out, done, hi, ho => by
    refine dU ?_;unfold iT;simp only [];rw [if_neg (by omega), List.drop_eq_nil_of_le (by omega)];cases done with
    | true => simp [wH]
    | false =>
      simp only [Bool.not_false, if_true, Bool.false_eq_true, if_false];rw [H5 (by omega) (by simp;omega)];rfl
  | m + 1, i, out, done, hi, ho => by
    have hil : i < l.length := by omega
    have hd := List.drop_eq_getElem_cons hil;have hgo : ∀ (o : Ch) (d : Bool), o.length <= i + 1 -> aV (iT l k v) (out, done, (i : Int)) = aV (iT l k v) (o ++ [l[i]], d, ((i + 1 : Nat) : Int)) -> aV (iT l k v) (out, done, (i : Int)) = some (o ++ [l[i]] ++ (if d then l.drop (i + 1) else insL k v (l.drop (i + 1)))) := by
      intro o d ho he;rw [he];exact WU l hl k v m (i + 1) (o ++ [l[i]]) d (by omega) (by rw [List.length_append, List.length_singleton];omega)
    cases done with
    | true =>
      rw [hgo out true ho]
      ·rw [hd];simp
      ·refine gK ?_;unfold iT oM ru;simp only [];rw [if_pos (by omega)];simp only [Bool.not_true, Bc, Bool.false_eq_true, if_false, Option.bind_some, Bool.false_and];rw [bQ hil];simp only [Option.bind_some];rw [H5 (by omega) (by simp;omega), jb i (by omega)];rfl
    | false =>
      by_cases hk : k < l[i].1
      ·by_cases hoi : out.length <= i
       ·have := hgo (out ++ [(k, v)]) true (by rw [List.length_append, List.length_singleton];omega);rw [this]
        ·rw [hd];simp [insL, hk]
        ·refine gK ?_;unfold iT oM ru;simp only [];rw [if_pos (by omega)];simp only [Bool.not_false, Bc, if_true, Bool.true_and];rw [bQ hil];simp only [Option.bind_some];rw [CG, if_pos (decide_eq_true hk), H5 (by omega) (by simp;omega)];simp only [Option.bind_some];rw [H5 (by omega) (by simp;omega), jb i (by omega)];rfl
       ·-- never reached from the beginning;said all the same
        have hstep : iT l k v (out, false, (i : Int)) = some (.inl (out ++ [(k, v)] ++ [l[i]], true, ((i + 1 : Nat) : Int))) := by
          unfold iT oM ru;simp only [];rw [if_pos (by omega)];simp only [Bool.not_false, Bc, if_true, Bool.true_and];rw [bQ hil];simp only [Option.bind_some];rw [CG, if_pos (decide_eq_true hk), H5 (by omega) (by simp;omega)];simp only [Option.bind_some];rw [H5 (by omega) (by simp;omega), jb i (by omega)];rfl
        rw [gK hstep];have hall : ∀ (m2 j : Nat) (o : Ch), j + m2 = l.length -> o.length <= j + 2 -> aV (iT l k v) (o, true, (j : Int)) = some (o ++ l.drop j) := by
          intro m2
          induction m2 with
          | zero =>
            intro j o hj hoo;refine dU ?_;unfold iT;simp only [];rw [if_neg (by omega), List.drop_eq_nil_of_le (by omega)];simp [wH]
          | succ m2 ih =>
            intro j o hj hoo;have hjl : j < l.length := by omega
            have hst : iT l k v (o, true, (j : Int)) = some (.inl (o ++ [l[j]], true, ((j + 1 : Nat) : Int))) := by
              unfold iT oM ru;simp only [];rw [if_pos (by omega)];simp only [Bool.not_true, Bc, Bool.false_eq_true, if_false, Option.bind_some, Bool.false_and];rw [bQ hjl];simp only [Option.bind_some];rw [H5 (by omega) (by simp;omega), jb j (by omega)];rfl
            rw [gK hst, ih (j + 1) _ (by omega) (by rw [List.length_append, List.length_singleton];omega), List.drop_eq_getElem_cons hjl];simp
        rw [hall m (i + 1) _ (by omega) (by simp;omega), hd];simp [insL, hk]
      ·rw [hgo out false ho]
       ·rw [hd];simp [insL, hk]
       ·refine gK ?_;unfold iT oM ru;simp only [];rw [if_pos (by omega)];simp only [Bool.not_false, Bc, if_true, Bool.true_and];rw [bQ hil];simp only [Option.bind_some];rw [CG, if_neg (by simpa using hk), H5 (by omega) (by simp;omega), jb i (by omega)];rfl
theorem lay_ok (l : Ch) (hl : l.length <= 900000000000) (k : Ky) (v : List UInt8) (hk : k ∉ l.map (·.1)) : Dn l k v = some (fH l k v) := by
  unfold Dn;have := WU l hl k v l.length 0 [] false (by omega) (by simp);rw [show ((0 : Nat) : Int) = 0 from rfl] at this;rw [this];simp only [Bool.false_eq_true, if_false, List.nil_append, List.drop_zero];rw [Po k v l hk]
end Go.Sx
namespace Go.Sx
open Go.RowKit
set_option linter.unusedVariables false
set_option linter.unusedSimpArgs false
variable {α σ ρ δ : Type}
theorem foldl_loop (l : List α) (f : σ × Int -> Option ((σ × Int) ⊕ ρ)) (g : σ -> α -> σ) (I : Nat -> σ -> Prop) (fin : σ -> ρ)
    (h : ∀ (i : Nat) (hi : i < l.length) (s : σ), I i s -> f (s, (i : Int)) = some (.inl (g s l[i], ((i + 1 : Nat) : Int))) /\ I (i + 1) (g s l[i]))
    (he : ∀ s, I l.length s -> f (s, (l.length : Int)) = some (.inr (fin s))) :
    ∀ (m i : Nat) (s : σ), i + m = l.length -> I i s -> aV f (s, (i : Int)) = some (fin ((l.drop i).foldl g s)) /\ I l.length ((l.drop i).foldl g s)
  | 0, i, s, hi, hI => by
    obtain rfl : i = l.length := by omega
    rw [List.drop_length];exact ⟨dU (he s hI), hI⟩
  | m + 1, i, s, hi, hI => by
    obtain ⟨h1, h2⟩ := h i (by omega) s hI;rw [List.drop_eq_getElem_cons (by omega), gK h1];exact foldl_loop l f g I fin h he m (i + 1) _ (by omega) h2
def VO (k : Ky) : List Ky -> List Ky
  | [] => [k]
  | x :: r => if k = x then x :: r else if k < x then k :: x :: r else x :: VO k r
theorem J7 (k : Ky) (v : δ) : ∀ m : Mp δ, (fH m k v).map (·.1) = VO k (m.map (·.1))
  | [] => rfl
  | p :: r => by
    rw [fH, List.map_cons, VO];by_cases h : k = p.1
    ·rw [if_pos h, if_pos h, List.map_cons, h]
    ·rw [if_neg h, if_neg h];by_cases h2 : k < p.1
     ·rw [if_pos h2, if_pos h2];rfl
     ·rw [if_neg h2, if_neg h2, List.map_cons, J7 k v r]
theorem Uj (k : Ky) : ∀ ks : List Ky, ks.Pairwise (· < ·) -> k ∈ ks -> VO k ks = ks
  | [], _, h => by cases h
  | x :: r, hp, h => by
    rw [VO];by_cases h1 : k = x
    ·rw [if_pos h1]
    ·rw [if_neg h1];rw [List.pairwise_cons] at hp;rcases List.mem_cons.1 h with h2 | h2
     ·exact absurd h2 h1
     ·rw [if_neg (Ar (hp.1 k h2)), Uj k r hp.2 h2]
def CU (L : Ch) (x : Ky) : Ch := if fP L x = none then fH L x [] else L
theorem WV (L : Ch) (x : Ky) (h : uk L) : uk (CU L x) := by
  unfold CU;split
  ·exact h.fH x []
  ·exact h
theorem stp_len (L : Ch) (x : Ky) : (CU L x).length <= L.length + 1 := by
  unfold CU;split
  ·exact TZ x [] L
  ·omega
theorem stp_keys (L : Ch) (x : Ky) (h : uk L) : (CU L x).map (·.1) = VO x (L.map (·.1)) := by
  unfold CU;split
  ·exact J7 x [] L
  ·rename_i hn;rw [Uj x _ h];rw [xq] at hn;exact Decidable.not_not.1 hn
theorem inc_srt (T : Mp Int) (x : Ky) (h : uk T) : uk (inc T x) := h.fH x _
theorem inc_keys (T : Mp Int) (x : Ky) : (inc T x).map (·.1) = VO x (T.map (·.1)) := J7 x _ T
theorem J8 : ∀ (l : List Ky) (T : Mp Int) (L : Ch), uk T -> uk L -> T.map (·.1) = L.map (·.1) -> uk (l.foldl inc T) /\ uk (l.foldl CU L) /\ (l.foldl inc T).map (·.1) = (l.foldl CU L).map (·.1)
  | [], T, L, h1, h2, h3 => ⟨h1, h2, h3⟩
  | x :: l, T, L, h1, h2, h3 => J8 l (inc T x) (CU L x) (inc_srt T x h1) (WV L x h2) (by rw [inc_keys, stp_keys L x h2, h3])
structure Few (z : Nat) (N : List Eo) : Prop where
  few : N.length <= 64
  ents : ∀ s ∈ N, s.2.length <= 256
  chs : ∀ s ∈ N, ∀ e ∈ s.2, e.2.2.length <= 1048576
  each : ∀ s ∈ N, ∀ e ∈ s.2, ∀ c ∈ e.2.2, c.length = z
def dgE (L : List N7) : List Ky := (L.map (·.2.2)).flatten
def Js (N : List Eo) : List Ky := (N.map (fun s => dgE s.2)).flatten
theorem named_l2 (kq : Nat) (hkq : kq <= 1000000) (e : N7) (he : e.2.2.length <= 1048576) (L : Ch) (hS : uk L) (c0 : Nat) (hc0 : c0 <= 800000000000) (hL : L.length <= c0) :
    aV (kC (kq : Int) e) (L, (0 : Int)) = some (.inl (e.2.2.foldl CU L, ((kq + 1 : Nat) : Int))) /\ uk (e.2.2.foldl CU L) /\ (e.2.2.foldl CU L).length <= c0 + 1048576 := by
  have := foldl_loop e.2.2 (kC (kq : Int) e) CU (fun i s => uk s /\ s.length <= c0 + i) (fun s => .inl (s, ((kq + 1 : Nat) : Int))) (fun i hi s hI => by
    obtain ⟨h1, h2⟩ := hI;refine ⟨?_, WV s _ h1, ?_⟩
    ·unfold kC;simp only [];rw [if_pos (by omega), bQ hi];simp only [Option.bind_some];obtain ⟨r, hr, hcase⟩ := WT s h1 (by omega) e.2.2[i];rw [hr];simp only [Option.bind_some];unfold nO CU;rcases hcase with ⟨h3, rfl⟩ | ⟨j, hj, rfl, h3, h4⟩
     ·rw [if_pos (by omega), lay_ok s (by omega) _ _ (xq.1 h3), if_pos h3, jb i (by omega)];rfl
     ·rw [if_neg (by omega), if_neg (by rw [h4];simp), jb i (by omega)]
    ·have := stp_len s e.2.2[i];omega) (fun s hI => by
    unfold kC;simp only [];rw [if_neg (by omega), jb kq (by omega)];rfl) e.2.2.length 0 L (by omega) ⟨hS, by omega⟩
  rw [List.drop_zero] at this;exact ⟨this.1, this.2.1, Nat.le_trans this.2.2 (by omega)⟩
theorem named_l1 (N : List Eo) (iq : Nat) (hiq : iq < N.length) (hN : N.length <= 64) (he : (N[iq]).2.length <= 256) (hc : ∀ e ∈ (N[iq]).2, e.2.2.length <= 1048576) (L : Ch) (hS : uk L) (c0 : Nat) (hc0 : c0 <= 700000000000) (hL : L.length <= c0) :
    aV (kD N (iq : Int)) (L, (0 : Int)) = some (.inl ((N[iq]).2.foldl (fun s e => e.2.2.foldl CU s) L, ((iq + 1 : Nat) : Int))) /\ uk ((N[iq]).2.foldl (fun s e => e.2.2.foldl CU s) L) /\ ((N[iq]).2.foldl (fun s e => e.2.2.foldl CU s) L).length <= c0 + 268435456 := by
  have := foldl_loop (N[iq]).2 (kD N (iq : Int)) (fun s e => e.2.2.foldl CU s) (fun i s => uk s /\ s.length <= c0 + i * 1048576) (fun s => .inl (s, ((iq + 1 : Nat) : Int))) (fun i hi s hI => by
    obtain ⟨h1, h2⟩ := hI;obtain ⟨e1, e2, e3⟩ := named_l2 i (by omega) (N[iq]).2[i] (hc _ (List.getElem_mem hi)) s h1 (c0 + i * 1048576) (by omega) h2;refine ⟨?_, e2, Nat.le_trans e3 (by omega)⟩;unfold kD;simp only [];rw [bQ hiq];simp only [Option.bind_some];rw [if_pos (by omega), bQ hi];simp only [Option.bind_some];exact e1) (fun s hI => by
    unfold kD;simp only [];rw [bQ hiq];simp only [Option.bind_some];rw [if_neg (by omega), jb iq (by omega)];rfl) (N[iq]).2.length 0 L (by omega) ⟨hS, by omega⟩
  rw [List.drop_zero] at this;exact ⟨this.1, this.2.1, Nat.le_trans this.2.2 (by omega)⟩
theorem J9 {β : Type} (g : σ -> β -> σ) (F : α -> List β) : ∀ (l : List α) (s : σ), l.foldl (fun s x => (F x).foldl g s) s = (l.map F).flatten.foldl g s
  | [], s => rfl
  | x :: l, s => by rw [List.foldl_cons, List.map_cons, List.flatten_cons, List.foldl_append, J9 g F l]
theorem J_ (z : Nat) (zi : Int) (C : Ch) (N : List Eo) (hN : Few z N) : uN zi C N = some ((Js N).foldl CU []) /\ uk ((Js N).foldl CU []) /\ ((Js N).foldl CU []).length <= 17179869184 := by
  have := foldl_loop N (lU N) (fun s x => x.2.foldl (fun s e => e.2.2.foldl CU s) s) (fun i s => uk s /\ s.length <= i * 268435456) (fun s => s) (fun i hi s hI => by
    obtain ⟨h1, h2⟩ := hI;have hfew := hN.few;obtain ⟨e1, e2, e3⟩ := named_l1 N i hi hN.few (hN.ents _ (List.getElem_mem hi)) (hN.chs _ (List.getElem_mem hi)) s h1 (i * 268435456) (by omega) h2;refine ⟨?_, e2, Nat.le_trans e3 (by omega)⟩;unfold lU;simp only [];rw [if_pos (by omega)];exact e1) (fun s hI => by
    unfold lU;simp only [];rw [if_neg (by omega)];rfl) N.length 0 [] (by omega) ⟨Ba, by simp⟩
  rw [List.drop_zero] at this;have hfew := hN.few;have heq : N.foldl (fun s x => x.2.foldl (fun s e => e.2.2.foldl CU s) s) ([] : Ch) = (Js N).foldl CU [] := by
    have h1 : (fun (s : Ch) (x : Eo) => x.2.foldl (fun s e => e.2.2.foldl CU s) s) = (fun s x => (dgE x.2).foldl CU s) := by
      funext s x;exact J9 CU (fun e : N7 => e.2.2) x.2 s
    rw [h1];exact J9 CU (fun x : Eo => dgE x.2) N []
  rw [heq] at this;exact ⟨this.1, this.2.1, Nat.le_trans this.2.2 (by omega)⟩
def Uk (C : Ch) (ks : List Ky) : List Ky := ks.foldl (fun out k => if fP C k = none then out ++ [k] else out) []
theorem Ul (C : Ch) : ∀ (ks out : List Ky), (ks.foldl (fun out k => if fP C k = none then out ++ [k] else out) out).length <= out.length + ks.length
  | [], out => by simp
  | k :: ks, out => by
    rw [List.foldl_cons];have := Ul C ks (if fP C k = none then out ++ [k] else out);split at this
    ·rename_i h;rw [if_pos h];simp only [List.length_append, List.length_cons, List.length_nil] at this ⊢;omega
    ·rename_i h;rw [if_neg h];simp only [List.length_cons];omega
theorem Um (z : Nat) (hz : z <= 64) (zi : Int) (C : Ch) (hC : uk C) (hCl : C.length <= 1000000000) (N : List Eo) (hN : Few z N) : oC zi C N = some (Uk C (((Js N).foldl CU []).map (·.1))) := by
  obtain ⟨e1, e2, e3⟩ := J_ z zi C N hN;unfold oC;rw [e1];simp only [Option.bind_some];have hkl : ∀ p ∈ (Js N).foldl CU [], p.1.length <= 1000 := by
    have key : ∀ (l : List Ky) (L : Ch), (∀ k ∈ l, k.length <= 1000) -> (∀ p ∈ L, p.1.length <= 1000) -> ∀ p ∈ l.foldl CU L, p.1.length <= 1000 := by
      intro l
      induction l with
      | nil => intro L _ h2;exact h2
      | cons x l ih =>
        intro L h1 h2;refine ih (CU L x) (fun k hk => h1 k (List.mem_cons_of_mem _ hk)) (fun p hp => ?_);unfold CU at hp;split at hp
        ·rcases NJ hp with rfl | hp
         ·exact h1 x List.mem_cons_self
         ·exact h2 p hp
        ·exact h2 p hp
    refine key _ _ (fun k hk => ?_) (fun p hp => by cases hp);unfold Js at hk;obtain ⟨l, hl, hk⟩ := List.mem_flatten.1 hk;obtain ⟨s, hs, rfl⟩ := List.mem_map.1 hl;unfold dgE at hk;obtain ⟨l2, hl2, hk⟩ := List.mem_flatten.1 hk;obtain ⟨e, he, rfl⟩ := List.mem_map.1 hl2;rw [hN.each s hs e he k hk];omega
  have := foldl_loop ((Js N).foldl CU []) (kX C ((Js N).foldl CU [])) (fun out p => if fP C p.1 = none then out ++ [p.1] else out) (fun i s => s.length <= i) (fun s => s) (fun i hi s hI => by
    refine ⟨?_, ?_⟩
    ·unfold kX;simp only [];rw [if_pos (by omega), bQ hi];simp only [Option.bind_some];obtain ⟨r, hr, hcase⟩ := WT C hC (by omega) ((Js N).foldl CU [])[i].1;rw [hr];simp only [Option.bind_some];unfold mD;rcases hcase with ⟨h3, rfl⟩ | ⟨j, hj, rfl, h3, h4⟩
     ·rw [if_pos (by omega), qL (by have := hkl _ (List.getElem_mem hi);omega)];simp only [Option.bind_some];rw [H5 (by omega) (by simp;omega), if_pos h3, jb i (by omega)];rfl
     ·rw [if_neg (by omega), if_neg (by rw [h4];simp), jb i (by omega)]
    ·show List.length (if fP C _ = none then s ++ [_] else s) <= i + 1;split
     ·rw [List.length_append, List.length_singleton];omega
     ·omega) (fun s hI => by
    unfold kX;simp only [];rw [if_neg (by omega)];rfl) ((Js N).foldl CU []).length 0 [] (by omega) (by simp)
  rw [List.drop_zero] at this;rw [show (0 : Int) = ((0 : Nat) : Int) from rfl, this.1];unfold Uk;rw [List.foldl_map]
theorem Un (z : Nat) (h1 : 1 <= z) (C : Ch) (S : Sn) : ∀ (N : List Eo) (T : Mp Int), (∀ s ∈ N, ∀ e ∈ s.2, e.2.2.length <= 1048576 /\ ∀ c ∈ e.2.2, c.length = z) ->
    kP (jS C S) ((z : Int), T) (smap N) = some ((z : Int), (Js N).foldl inc T)
  | [], T, _ => rfl
  | s :: N, T, h => by
    have hs := h s List.mem_cons_self;have hw : ∀ p ∈ emap s.2, Whole z p (chop z (p.2.2.length / z) p.2.2) /\ ∃ e ∈ s.2, p = (e.1, (e.2.1, e.2.2.flatten)) /\ chop z (p.2.2.length / z) p.2.2 = e.2.2 := fun p hp => by
      unfold emap at hp;obtain ⟨e, he, rfl⟩ := List.mem_map.1 hp;obtain ⟨c1, c2⟩ := hs e he;have hch : chop z (e.2.2.flatten.length / z) e.2.2.flatten = e.2.2 := by
        rw [NM z e.2.2 c2, Nat.mul_div_cancel _ (by omega)];exact JZ z e.2.2 c2
      refine ⟨⟨?_, ?_, ?_⟩, e, he, rfl, hch⟩
      ·show e.2.2.flatten = (chop z (e.2.2.flatten.length / z) e.2.2.flatten).flatten;rw [hch]
      ·show ∀ k ∈ chop z (e.2.2.flatten.length / z) e.2.2.flatten, k.length = z;rw [hch];exact c2
      ·show (chop z (e.2.2.flatten.length / z) e.2.2.flatten).length <= 1048576;rw [hch];exact c1
    have he := Ub z h1 C S (fun p => chop z (p.2.2.length / z) p.2.2) (emap s.2) (fun p hp => (hw p hp).1) T;have hm : (emap s.2).map (fun p => chop z (p.2.2.length / z) p.2.2) = s.2.map (·.2.2) := by
      unfold emap;rw [List.map_map];refine List.map_congr_left fun e he => ?_;obtain ⟨_, e', _, h3, h4⟩ := hw (e.1, (e.2.1, e.2.2.flatten)) (by unfold emap;exact List.mem_map_of_mem he);show chop z (e.2.2.flatten.length / z) e.2.2.flatten = e.2.2;rw [NM z e.2.2 (hs e he).2, Nat.mul_div_cancel _ (by omega)];exact JZ z e.2.2 (hs e he).2
    rw [hm] at he;have hc : smap (s :: N) = (s.1, emap s.2) :: smap N := rfl;rw [hc, kP, MO, he];simp only [Option.bind_some];rw [Un z h1 C S N _ (fun s hs => h s (List.mem_cons_of_mem _ hs))];unfold Js;rw [List.map_cons, List.flatten_cons, List.foldl_append];rfl
theorem Uo (z : Nat) (h1 : 1 <= z) (hz : z <= 64) (C : Ch) (N : List Eo) (hN : Few z N) : mr (z : Int) C (smap N) = some (Uk C (((Js N).foldl inc []).map (·.1)), (z : Int)) := by
  obtain ⟨hs1, hs2, hs3⟩ := J8 (Js N) [] [] Ba Ba rfl;obtain ⟨_, _, e3⟩ := J_ z 0 [] N hN;have hlen : ((Js N).foldl inc []).length <= 17179869184 := by
    have : (((Js N).foldl inc []).map (·.1)).length = (((Js N).foldl CU []).map (·.1)).length := by rw [hs3]
    rw [List.length_map, List.length_map] at this;omega
  unfold mr iH;simp only [Option.bind_some];unfold tV;rw [Un z h1 C (smap N) N [] (fun s hs e he => ⟨hN.chs s hs e he, hN.each s hs e he⟩)];simp only [Option.bind_some];generalize hT : (Js N).foldl inc [] = T at hs1 hs3 hlen;unfold wG;rw [qL (by omega)];simp only [Option.bind_some];rw [DR hs1];have hkl : ∀ k ∈ T.map (·.1), k.length <= 1000 := by
    intro k hk;rw [<- hT] at hk;have hmem : k ∈ Js N := by
      rcases O_ k (Js N) [] (by rw [Ne, xq];exact fun h => h hk) with h | h
      ·exact h
      ·exact absurd rfl h
    unfold Js at hmem;obtain ⟨l, hl, hk⟩ := List.mem_flatten.1 hmem;obtain ⟨s, hs, rfl⟩ := List.mem_map.1 hl;unfold dgE at hk;obtain ⟨l2, hl2, hk⟩ := List.mem_flatten.1 hk;obtain ⟨e, he, rfl⟩ := List.mem_map.1 hl2;rw [hN.each s hs e he k hk];omega
  have hll : (T.map (·.1)).length = T.length := List.length_map _;have := foldl_loop (T.map (·.1)) (jK C (T, (z : Int)) (T.map (·.1))) (fun out k => if fP C k = none then out ++ [k] else out) (fun i s => s.length <= i) (fun s => (s, (z : Int))) (fun i hi s hI => by
    refine ⟨?_, ?_⟩
    ·unfold jK;simp only [];rw [if_pos (by omega), bQ hi];simp only [Option.bind_some];unfold lH;cases hf : fP C (T.map (·.1))[i] with
     | none =>
       simp only [Option.elim_none];rw [qL (by have := hkl _ (List.getElem_mem hi);omega)];simp only [Option.bind_some];rw [H5 (by omega) (by simp;omega), if_pos trivial, jb i (by omega)];rfl
     | some v =>
       simp only [Option.elim_some];rw [if_neg (by simp), jb i (by omega)]
    ·show List.length (if fP C _ = none then s ++ [_] else s) <= i + 1;split
     ·rw [List.length_append, List.length_singleton];omega
     ·omega) (fun s hI => by
    unfold jK;simp only [];rw [if_neg (by omega)];rfl) (T.map (·.1)).length 0 [] (by omega) (by simp)
  rw [List.drop_zero] at this;rw [show (0 : Int) = ((0 : Nat) : Int) from rfl, this.1];rfl
theorem QZ (N : List Eo) (C : Ch) : Uk C (((Js N).foldl inc []).map (·.1)) = Uk C (((Js N).foldl CU []).map (·.1)) := by
  rw [(J8 (Js N) [] [] Ba Ba rfl).2.2]
end Go.Sx
namespace Go.Sx
open Go.RowKit
set_option linter.unusedVariables false
set_option linter.unusedSimpArgs false
noncomputable def XY (by_ ln x : Int) : Nat := far .sub (iy x) (far .quo (iy by_) (iy ln))
noncomputable def spS (by_ ln : Int) (C : Ch) : Nat := C.foldl (fun s p => far .add s (far .mul (XY by_ ln ((p.2.length : Nat) : Int)) (XY by_ ln ((p.2.length : Nat) : Int)))) 0
noncomputable def wZ (C : Ch) (t : Int) : Int × Int × Int × Nat × Nat × Nat :=
  ((C.length : Int), aG (rV C : Int), t, far .sub 4607182418800017408 (far .quo (iy (aG (rV C : Int))) (iy t)), far .quo (iy (aG (rV C : Int))) (iy (C.length : Int)), far .quo (spS (aG (rV C : Int)) (C.length : Int) C) (iy (C.length : Int)))
theorem XZ (zi : Int) (C : Ch) (hC : uk C) (hl : C.length <= 1000000000) (S : Sn) :
    nN zi C S = some ((wZ C (aG (told S))).1, (wZ C (aG (told S))).2.1, (wZ C (aG (told S))).2.2.1, (wZ C (aG (told S))).2.2.2.1, (wZ C (aG (told S))).2.2.2.2.1, (wZ C (aG (told S))).2.2.2.2.2, zi) := by
  unfold nN iH;simp only [Option.bind_some];have e0 := f0_sum C 0;have e1 := f1_sum S 0;rw [show aG 0 = 0 from rfl, Int.zero_add] at e0 e1;rw [e0];simp only [Option.bind_some];rw [e1];simp only [Option.bind_some];unfold nT;rw [qL (by omega)];simp only [Option.bind_some];rw [DR hC];have := foldl_loop C (kS C zi (aG (rV C : Int)) (aG (told S)) (C.map (·.1))) (fun s p => far .add s (far .mul (XY (aG (rV C : Int)) (C.length : Int) ((p.2.length : Nat) : Int)) (XY (aG (rV C : Int)) (C.length : Int) ((p.2.length : Nat) : Int)))) (fun _ _ => True) (fun s => ((wZ C (aG (told S))).1, (wZ C (aG (told S))).2.1, (wZ C (aG (told S))).2.2.1, (wZ C (aG (told S))).2.2.2.1, (wZ C (aG (told S))).2.2.2.2.1, far .quo s (iy (C.length : Int)), zi)) (fun i hi s _ => by
    refine ⟨?_, trivial⟩;unfold kS;simp only [];rw [if_pos (by rw [List.length_map];omega), bQ (by rw [List.length_map];exact hi)];simp only [Option.bind_some, List.getElem_map];rw [Ui hC i hi];simp only [Option.elim_some];rw [jb i (by omega)];rfl) (fun s _ => by
    unfold kS;simp only [];rw [if_neg (by rw [List.length_map];omega)];rfl) C.length 0 0 (by omega) trivial
  rw [List.drop_zero] at this;rw [show (0 : Int) = ((0 : Nat) : Int) from rfl, this.1];rfl
theorem NU : ∀ (C : Ch) (s : Int), C.foldl (fun s p => aG (s + ((p.2.length : Nat) : Int))) (aG s) = aG (s + (rV C : Int))
  | [], s => by simp [rV]
  | p :: C, s => by
    rw [List.foldl_cons, BC, NU C];congr 1;simp only [rV, List.map_cons, List.sum_cons];omega
theorem size_fold : ∀ (L : List N7) (s : Int), L.foldl (fun s e => aG (s + e.2.1)) (aG s) = aG (s + sizes (emap L))
  | [], s => by simp [sizes, emap]
  | e :: L, s => by
    rw [List.foldl_cons, BC, size_fold L];congr 1;simp only [sizes, emap, List.map_cons, List.sum_cons];omega
theorem Pq : ∀ (N : List Eo) (s : Int), N.foldl (fun s x => x.2.foldl (fun s e => aG (s + e.2.1)) s) (aG s) = aG (s + told (smap N))
  | [], s => by simp [told, smap]
  | x :: N, s => by
    rw [List.foldl_cons, size_fold, Pq N];congr 1;simp only [told, smap, List.map_cons, List.sum_cons];omega
theorem X0 (z : Nat) (zi : Int) (C : Ch) (hl : C.length <= 1000000000) (N : List Eo) (hN : Few z N) : ry zi C N = some (wZ C (aG (told (smap N)))) := by
  have hfew := hN.few;have h3 : aV (kF C (aG (rV C : Int)) (aG (told (smap N)))) (0, (0 : Int)) = some (wZ C (aG (told (smap N)))) := by
    have := foldl_loop C (kF C (aG (rV C : Int)) (aG (told (smap N)))) (fun s p => far .add s (far .mul (XY (aG (rV C : Int)) (C.length : Int) ((p.2.length : Nat) : Int)) (XY (aG (rV C : Int)) (C.length : Int) ((p.2.length : Nat) : Int)))) (fun _ _ => True) (fun s => ((wZ C (aG (told (smap N)))).1, (wZ C (aG (told (smap N)))).2.1, (wZ C (aG (told (smap N)))).2.2.1, (wZ C (aG (told (smap N)))).2.2.2.1, (wZ C (aG (told (smap N)))).2.2.2.2.1, far .quo s (iy (C.length : Int)))) (fun i hi s _ => by
      refine ⟨?_, trivial⟩;unfold kF;simp only [];rw [if_pos (by omega), bQ hi];simp only [Option.bind_some];rw [jb i (by omega)];rfl) (fun s _ => by
      unfold kF;simp only [];rw [if_neg (by omega)];rfl) C.length 0 0 (by omega) trivial
    rw [List.drop_zero] at this;rw [show (0 : Int) = ((0 : Nat) : Int) from rfl, this.1];rfl
  have h1 : aV (jv C N (aG (rV C : Int))) ((0 : Int), (0 : Int)) = some (wZ C (aG (told (smap N)))) := by
    have h2 : ∀ (i : Nat) (hi : i < N.length) (s : Int), aV (kE N (i : Int)) (s, (0 : Int)) = some (.inl ((N[i]).2.foldl (fun s e => aG (s + e.2.1)) s, ((i + 1 : Nat) : Int))) := by
      intro i hi s;have hle := hN.ents _ (List.getElem_mem hi);have := foldl_loop (N[i]).2 (kE N (i : Int)) (fun s e => aG (s + e.2.1)) (fun _ _ => True) (fun s => Sum.inl (s, ((i + 1 : Nat) : Int))) (fun j hj s _ => by
        refine ⟨?_, trivial⟩;unfold kE;simp only [];rw [bQ hi];simp only [Option.bind_some];rw [if_pos (by omega), bQ hj];simp only [Option.bind_some];rw [jb j (by omega)]) (fun s _ => by
        unfold kE;simp only [];rw [bQ hi];simp only [Option.bind_some];rw [if_neg (by omega), jb i (by omega)];rfl) (N[i]).2.length 0 s (by omega) trivial
      rw [List.drop_zero] at this;exact this.1
    obtain ⟨r, hr⟩ : ∃ r, r = wZ C (aG (told (smap N))) := ⟨_, rfl⟩
    have hall : ∀ (m i : Nat) (s : Int), i + m = N.length -> (N.drop i).foldl (fun s x => x.2.foldl (fun s e => aG (s + e.2.1)) s) s = aG (told (smap N)) -> aV (jv C N (aG (rV C : Int))) (s, (i : Int)) = some r := by
      intro m
      induction m with
      | zero =>
        intro i s hi hs;rw [List.drop_eq_nil_of_le (by omega), List.foldl_nil] at hs;subst hs;refine dU ?_;unfold jv;simp only [];rw [if_neg (by omega), h3, hr];rfl
      | succ m ih =>
        intro i s hi hs;rw [List.drop_eq_getElem_cons (by omega), List.foldl_cons] at hs;have hst : jv C N (aG (rV C : Int)) (s, (i : Int)) = some (.inl ((N[i]).2.foldl (fun s e => aG (s + e.2.1)) s, ((i + 1 : Nat) : Int))) := by
          unfold jv;simp only [];rw [if_pos (by omega)];exact h2 i (by omega) s
        rw [gK hst];exact ih (i + 1) _ (by omega) hs
    have := Pq N 0;rw [show aG 0 = 0 from rfl, Int.zero_add] at this;rw [<- hr];exact hall N.length 0 0 (by omega) (by rw [List.drop_zero];exact this)
  unfold ry;obtain ⟨r, hr⟩ : ∃ r, r = wZ C (aG (told (smap N))) := ⟨_, rfl⟩
  have hall : ∀ (m i : Nat) (s : Int), i + m = C.length -> (C.drop i).foldl (fun s p => aG (s + ((p.2.length : Nat) : Int))) s = aG (rV C : Int) -> aV (kG C N) (s, (i : Int)) = some r := by
    intro m
    induction m with
    | zero =>
      intro i s hi hs;rw [List.drop_eq_nil_of_le (by omega), List.foldl_nil] at hs;subst hs;refine dU ?_;unfold kG;simp only [];rw [if_neg (by omega), h1, hr];rfl
    | succ m ih =>
      intro i s hi hs;rw [List.drop_eq_getElem_cons (by omega), List.foldl_cons] at hs;have hst : kG C N (s, (i : Int)) = some (.inl (aG (s + (((C[i]).2.length : Nat) : Int)), ((i + 1 : Nat) : Int))) := by
        unfold kG;simp only [];rw [if_pos (by omega), bQ (by omega)];simp only [Option.bind_some];rw [jb i (by omega)]
      rw [gK hst];exact ih (i + 1) _ (by omega) hs
  have := NU C 0;rw [show aG 0 = 0 from rfl, Int.zero_add] at this;rw [<- hr];exact hall C.length 0 0 (by omega) (by rw [List.drop_zero];exact this)
theorem one_some (x : Nat) (h : JA .neq x x = true ∨ x ≠ Me) : ∃ y, pI x = some y := by
  unfold pI FW;simp only [Option.bind_some];by_cases hn : JA .neq x x = true
  ·rw [if_pos hn];exact ⟨_, rfl⟩
  ·rw [if_neg hn, qL (h.resolve_left hn)];exact ⟨_, rfl⟩
theorem fnan_ne : JA .neq Me Me = true := by decide
theorem one_any (x : Nat) : ∃ y, pI x = some y := one_some x (by
  by_cases h : x = Me
  ·subst h;exact .inl fnan_ne
  ·exact .inr h)
theorem Ur (r : Int × Int × Int × Nat × Nat × Nat) : yC r.1 r.2.1 r.2.2.1 r.2.2.2.1 r.2.2.2.2.1 r.2.2.2.2.2 r.1 r.2.1 r.2.2.1 r.2.2.2.1 r.2.2.2.2.1 r.2.2.2.2.2 = some true := by
  obtain ⟨y1, h1⟩ := one_any r.2.2.2.1;obtain ⟨y2, h2⟩ := one_any r.2.2.2.2.1;obtain ⟨y3, h3⟩ := one_any r.2.2.2.2.2;unfold yC;rw [if_pos (by simp), h1];simp only [Option.bind_some];rw [if_pos trivial, h2];simp only [Option.bind_some];rw [if_pos trivial, h3];simp
theorem X3 (zi : Int) (C : Ch) (N : List Eo) (hl : N.length <= 1000000000) : vK zi C N = some (N.map (·.1), zi, C, N) := by
  unfold vK;have h0 : (([] : List (List UInt8)), (0 : Int)) = ((N.take 0).map (·.1), ((0 : Nat) : Int)) := rfl;rw [h0];refine iL (fun i => ((N.take i).map (·.1), (i : Int))) N.length (fun i hi => ?_) ?_
  ·unfold rf;simp only [];rw [if_pos (by omega), bQ hi];simp only [Option.bind_some];rw [H5 (by omega) (by simp;omega), jb i (by omega)];simp only [Option.bind_some];rw [List.take_add_one, List.getElem?_eq_getElem hi, List.map_append];rfl
  ·unfold rf;simp only [];rw [if_neg (by omega), List.take_length];rfl
theorem X4 (zi : Int) (C : Ch) (S : Sn) (hS : uk S) (hl : S.length <= 1000000000) : nM zi C S = some (S.map (·.1), zi) := by
  unfold nM iH;simp only [Option.bind_some];unfold fC;rw [qL (by omega)];simp only [Option.bind_some];rw [DR hS]
theorem VP (l : List (List UInt8)) (hl : l.length <= 1000000000) : zX l l = some true := by
  unfold zX;rw [if_neg (by simp), DV (sU l l) l.length (fun _ => true) false (some true)]
  ·simp
  ·intro i hi;unfold sU;simp only [];rw [if_pos (by omega), bQ hi];simp only [Option.bind_some];rw [if_neg (by simp), jb i (by omega)];rfl
  ·unfold sU;simp only [];rw [if_neg (by omega)]
  ·rfl
theorem VQ (l : List (List UInt8)) (hl : l.length <= 100000000000) (hr : ∀ x ∈ l, x.length <= 100000000000000) : zS l l = some true := by
  unfold zS;rw [if_neg (by simp), DV (sS l l) l.length (fun _ => true) false (some true)]
  ·simp
  ·intro i hi;unfold sS;simp only [];rw [if_pos (by omega), bQ hi];simp only [Option.bind_some];rw [Pe _ (hr _ (List.getElem_mem hi))];simp only [Option.bind_some];rw [if_neg (by decide), jb i (by omega)];rfl
  ·unfold sS;simp only [];rw [if_neg (by omega)]
  ·rfl
end Go.Sx
namespace Go.Sx
open Go.RowKit
set_option linter.unusedVariables false
set_option linter.unusedSimpArgs false
variable {α : Type}
theorem NV (f : Tx -> α × Tx) (Q : α -> Prop) (hf : ∀ t q, (f t).2 = some q -> Q (f t).1) : ∀ n t q, (rep f n t).2 = some q -> ∀ x ∈ (rep f n t).1, Q x
  | 0, t, q, h => fun x hx => by cases hx
  | n + 1, none, q, h => by cases h
  | n + 1, some p, q, h => by
    simp only [rep] at h ⊢;intro x hx;rcases List.mem_cons.1 hx with rfl | hx
    ·cases hq : (f (some p)).2 with
     | none => rw [hq, FH] at h;cases h
     | some r => exact hf _ _ hq
    ·exact NV f Q hf n _ q h x hx
theorem X5 (b : List UInt8) (h : (ui b).2 = some []) : ∀ s ∈ (ui b).1, ∀ e ∈ s.2, ∀ c ∈ e.2.2, c.length = (hdz b).1 :=
  NV (DT (hdz b).1) (fun s => ∀ e ∈ s.2, ∀ c ∈ e.2.2, c.length = (hdz b).1) (fun t q hq => by
    have h1 : (rep (uG (hdz b).1) (ma 4 (iF t).2).1 (ma 4 (iF t).2).2).2 = some q := hq;exact NV (uG (hdz b).1) (fun e => ∀ c ∈ e.2.2, c.length = (hdz b).1) (fun t q hq => by
      have h2 : (rep (tk (hdz b).1) (ma 4 (nu 4 (iF t).2).2).1 (ma 4 (nu 4 (iF t).2).2).2).2 = some q := hq;obtain ⟨c1, c2⟩ := QR (hdz b).1 (ma 4 (nu 4 (iF t).2).2).1 (ma 4 (nu 4 (iF t).2).2).2;rw [c1] at h2;exact (c2 q h2).2) _ _ _ h1) _ _ _ h
theorem VR (b : List UInt8) : ∀ s ∈ (ui b).1, ∀ e ∈ s.2, e.2.2.length <= b.length := by
  have h1 : tl (hds b).2 <= b.length := Nat.le_trans (Az 4 _).1 (FO b).1;exact (zB (DT (hdz b).1) b.length (fun s => ∀ e ∈ s.2, e.2.2.length <= b.length) (QX _) (fun t ht => by
    have h5 := Az 4 (iF t).2;have h6 := Ep t;exact (zB (uG (hdz b).1) b.length (fun e => e.2.2.length <= b.length) (Lp _) (fun t ht => by
      have h8 := Az 4 (nu 4 (iF t).2).2;have h9 := Jo 4 (iF t).2;have h10 := Ep t;have h11 : tl (nu 4 (iF t).2).2 <= tl (iF t).2 := h9;exact Nat.le_trans (NQ _ _ _) (by omega)) _ _ (by omega)).2) (hds b).1 (hds b).2 h1).2
theorem Us (C : Ch) : ∀ (ks out : List Ky) (x : Ky), x ∈ ks.foldl (fun out k => if fP C k = none then out ++ [k] else out) out -> x ∈ out ∨ x ∈ ks
  | [], out, x, h => .inl h
  | k :: ks, out, x, h => by
    rw [List.foldl_cons] at h;rcases Us C ks _ x h with h | h
    ·split at h
     ·rcases List.mem_append.1 h with h | h
      ·exact .inl h
      ·exact .inr (by simp at h;simp [h])
     ·exact .inl h
    ·exact .inr (List.mem_cons_of_mem _ h)
theorem WW : ∀ (l : List Ky) (L : Ch) (p : Ky × List UInt8), p ∈ l.foldl CU L -> p ∈ L ∨ p.1 ∈ l
  | [], L, p, h => .inl h
  | x :: l, L, p, h => by
    rcases WW l (CU L x) p h with h | h
    ·unfold CU at h;split at h
     ·rcases NJ h with rfl | h
      ·exact .inr (by simp)
      ·exact .inl h
     ·exact .inl h
    ·exact .inr (List.mem_cons_of_mem _ h)
theorem dgN_len (z : Nat) (N : List Eo) (hN : Few z N) : ∀ k ∈ Js N, k.length = z := by
  intro k hk;unfold Js at hk;obtain ⟨l, hl, hk⟩ := List.mem_flatten.1 hk;obtain ⟨s, hs, rfl⟩ := List.mem_map.1 hl;unfold dgE at hk;obtain ⟨l2, hl2, hk⟩ := List.mem_flatten.1 hk;obtain ⟨e, he, rfl⟩ := List.mem_map.1 hl2;exact hN.each s hs e he k hk
theorem Ko (b : List UInt8) (hb : b.length <= 1048576) : wI b = some true := by
  unfold wI;rw [XN];simp only [Option.bind_some, Bool.not_true, Bool.false_eq_true, if_false];rw [XT b (by omega)];simp only [Option.bind_some];obtain ⟨p1, p2, p3⟩ := pload b;obtain ⟨r1, r2, r3⟩ := rload_ok b (by omega);cases hT : (ui b).2 with
  | none =>
    rw [p1 hT];simp only [Option.bind_some, Sum.elim_inl];rw [r1 hT];simp
  | some q =>
    by_cases hq : q = []
    ·subst hq;by_cases hg : Good b
     ·rw [(p3 hT).1 hg];simp only [Option.bind_some, Sum.elim_inr];rw [(r3 hT).1 hg];simp only [Option.bind_some, Sum.elim_inr];rw [if_neg (by simp)];obtain ⟨g1, g2, g3, g4, g5, g6⟩ := hg;have hsv := XW b hT ⟨g1, g2, g3, g4, g5, g6⟩;obtain ⟨t1, t2, t3⟩ := FO b;have hents := XX b;have hC := okC_of (hdz b).1 (rE b).1 (by omega) g4;have hS := okS_of (hdz b).1 (ui b).1 g5 g6 (fun s hs e he => ⟨(hents s hs e he).1, by have := (hents s hs e he).2;omega⟩);have hF : Few (hdz b).1 (ui b).1 := ⟨g5, fun s hs => (g6.1 s hs).2.1, fun s hs e he => by have := VR b s hs e he;omega, X5 b hT⟩
      have hCl : (FI (hdz b).1 (rE b).1).length <= 1000000000 := by rw [wL];omega
      rw [save_ok (hdz b).1 g2 _ hC _ hS (by rw [hsv];omega)];simp only [Option.bind_some];rw [hsv, Pe b (by omega)];simp only [Option.bind_some, if_true];rw [X4 _ _ _ hS.H7 (by rw [yG];omega)];simp only [Option.bind_some];rw [X3 _ _ _ (by omega)];simp only [Option.bind_some];have hnm : (smap (ui b).1).map (·.1) = (ui b).1.map (·.1) := by unfold smap;rw [List.map_map];rfl
      rw [hnm, VP _ (by rw [List.length_map];omega)];simp only [Option.bind_some, if_true];rw [Uo _ g2 g3 _ _ hF];simp only [Option.bind_some];rw [Um _ g3 _ _ hC.H7 hCl _ hF];simp only [Option.bind_some];rw [QZ, VQ]
      ·simp only [Option.bind_some, if_true];rw [XZ _ _ hC.H7 hCl];simp only [Option.bind_some];rw [X0 _ _ _ hCl _ hF];simp only [Option.bind_some];rw [Ur];rfl
      ·have h1 := Ul (FI (hdz b).1 (rE b).1) (((Js (ui b).1).foldl CU []).map (·.1)) [];have h2 := (J_ _ 0 [] _ hF).2.2;rw [List.length_map] at h1;simp only [List.length_nil, Nat.zero_add] at h1;exact Nat.le_trans h1 (by omega)
      ·intro x hx;rcases Us _ _ _ x hx with h | h
       ·cases h
       ·obtain ⟨p, hp, rfl⟩ := List.mem_map.1 h;rcases WW _ _ p hp with h | h
        ·cases h
        ·rw [dgN_len _ _ hF _ h];omega
     ·rw [(p3 hT).2 hg];simp only [Option.bind_some, Sum.elim_inl];rw [(r3 hT).2 hg];simp
    ·rw [p2 q hT hq];simp only [Option.bind_some, Sum.elim_inl];rw [r2 q hT hq];simp
end Go.Sx
