import Derived.Test.YtapbicobghgmlaaGreatQ4
namespace Go.Sx
open Go.RowKit
set_option linter.unusedVariables false
set_option linter.unusedSimpArgs false
def wd32 (b : List UInt8) (i : Nat) : UInt32 := UInt32.ofNat (leN ((b.drop (4 * i)).take 4))
theorem mul4 (i : Nat) (h : i < 100) : w64 (4 * (i : Int)) = ((4 * i : Nat) : Int) := by rw [w64_id (by omega)]; omega
theorem rload4 (b : List UInt8) (i : Nat) (hb : b.length ≤ 33554432) (hi : 4 * i + 4 ≤ b.length) : m_r04_load b ((4 * i : Nat) : Int) = some (wd32 b i) := by
  unfold m_r04_load
  have k1 : w64 (((4 * i : Nat) : Int) + 1) = ((4 * i + 1 : Nat) : Int) := by rw [w64_id (by omega)]; omega
  have k2 : w64 (((4 * i : Nat) : Int) + 2) = ((4 * i + 2 : Nat) : Int) := by rw [w64_id (by omega)]; omega
  have k3 : w64 (((4 * i : Nat) : Int) + 3) = ((4 * i + 3 : Nat) : Int) := by rw [w64_id (by omega)]; omega
  rw [k1, k2, k3, geti_nat (by omega : 4 * i < b.length), geti_nat (by omega : 4 * i + 1 < b.length), geti_nat (by omega : 4 * i + 2 < b.length), geti_nat (by omega : 4 * i + 3 < b.length)]
  simp only [Option.bind_some, Option.some.injEq]
  have hd : (b.drop (4 * i)).take 4 = [b[4 * i], b[4 * i + 1], b[4 * i + 2], b[4 * i + 3]] := by
    rw [List.drop_eq_getElem_cons (by omega), List.drop_eq_getElem_cons (by omega), List.drop_eq_getElem_cons (by omega), List.drop_eq_getElem_cons (by omega)]
    rfl
  unfold wd32
  rw [hd]
  generalize b[4 * i] = x0
  generalize b[4 * i + 1] = x1
  generalize b[4 * i + 2] = x2
  generalize b[4 * i + 3] = x3
  have h0 := x0.toNat_lt
  have h1 := x1.toNat_lt
  have h2 := x2.toNat_lt
  have h3 := x3.toNat_lt
  have sh : ∀ (x : UInt32) (k : Nat), (shl32 x k).toNat = x.toNat * 2 ^ k % 2 ^ 32 := by
    intro x k
    show (x.toBitVec <<< k).toNat = _
    rw [BitVec.toNat_shiftLeft, Nat.shiftLeft_eq]; rfl
  rw [← UInt32.toNat_inj]
  simp only [UInt32.toNat_add, sh, UInt32.toNat_ofNat', leN]
  rw [show (8 : UInt64).toNat = 8 from rfl, show (16 : UInt64).toNat = 16 from rfl, show (24 : UInt64).toNat = 24 from rfl]
  omega
def Ws (b : List UInt8) : Vec UInt32 16 := (List.range 16).foldl (fun m (i : Nat) => vst m i (wd32 b i)) (Vec.rep 16 0)
theorem srWords (b : List UInt8) (hb : b.length = 64) : m_r04_Words b = some (Ws b, 0) := by
  unfold m_r04_Words
  rw [if_neg (by omega), if_neg (by omega)]
  refine loopN _ 16 (fun m (i : Nat) => vst m i (wd32 b i)) _ _ (fun v i hi => ?_) (by unfold m_r04_Words_l0; simp only []; rw [if_neg (by omega)]; rfl)
  unfold m_r04_Words_l0
  simp only []
  rw [if_pos (by omega), mul4 i (by omega), rload4 b i (by omega) (by omega), geti_v _ _ hi, w64_succ i (by omega)]
  rfl
def Sts (b : List UInt8) : Vec UInt32 8 := (List.range 8).foldl (fun h (i : Nat) => vst h i (h.g i ^^^ wd32 b i)) ⟨ivs, rfl⟩
theorem srStart (b : List UInt8) (hb : b.length = 32) : m_r04_Start b = some (Sts b, 0) := by
  unfold m_r04_Start m_r04_IV
  rw [if_neg (by omega), if_neg (by omega)]
  simp only [Option.bind_some]
  refine loopN _ 8 (fun h (i : Nat) => vst h i (h.g i ^^^ wd32 b i)) _ _ (fun v i hi => ?_) (by unfold m_r04_Start_l0; simp only []; rw [if_neg (by omega)]; rfl)
  unfold m_r04_Start_l0
  simp only []
  rw [if_pos (by omega), mul4 i (by omega), rload4 b i (by omega) (by omega), geti_v _ _ hi, w64_succ i (by omega)]
  rfl
def Bys (h : Vec UInt32 8) : List UInt8 := (List.range 8).foldl (fun b i => b ++ st8 4 (UInt64.ofNat (h.g i).toNat)) []
theorem Bys_len (h : Vec UInt32 8) : (Bys h).length = 32 := by unfold Bys; rw [by_len _ 4 (fun i => st8_len 4 _)]
end Go.Sx

