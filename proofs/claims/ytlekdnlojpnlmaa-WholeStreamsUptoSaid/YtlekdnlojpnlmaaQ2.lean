import Derived.Test.YtlekdnlojpnlmaaQ1
namespace Go.Sx
open Go.RowKit
set_option linter.unusedVariables false
set_option linter.unusedSimpArgs false
def ivb : List UInt64 := [7640891576956012808, 13503953896175478587, 4354685564936845355, 11912009170470909681, 5840696475078001361, 11170449401992604703, 2270897969802886507, 6620516959819538809]
def I0b (h : Vec UInt64 8) : Vec UInt64 16 := ⟨h.l ++ ivb, by simp [h.h, ivb]⟩
def Ib (h : Vec UInt64 8) (lo hi : UInt64) (last node : Bool) : Vec UInt64 16 :=
  let v0 := I0b h
  let v1 := vst v0 12 (v0.g 12 ^^^ lo)
  let v2 := vst v1 13 (v1.g 13 ^^^ hi)
  let v3 := if last then vst v2 14 (18446744073709551615 ^^^ v2.g 14) else v2
  if node then vst v3 15 (18446744073709551615 ^^^ v3.g 15) else v3
theorem wInit (h : Vec UInt64 8) (lo hi : UInt64) (last node : Bool) : m_mixb_Init h lo hi last node = some (Ib h lo hi last node) := by
  obtain ⟨a, b, c, d, e, f, g, q, rfl⟩ := vec8 (v := h)
  cases last <;> cases node <;> kernel_rfl
theorem riv (i : Nat) (hi : i < 8) : m_r03_IV (i : Int) = some (ivb.getD i 0) := by
  match i, hi with
  | 0, _ => rfl
  | 1, _ => rfl
  | 2, _ => rfl
  | 3, _ => rfl
  | 4, _ => rfl
  | 5, _ => rfl
  | 6, _ => rfl
  | 7, _ => rfl
theorem eight_i (i : Nat) (h : i < 100) : w64 ((i : Int) + 8) = ((i + 8 : Nat) : Int) := by rw [w64_id (by omega)]; omega
theorem rInit (h : Vec UInt64 8) (lo hi : UInt64) (last node : Bool) : m_r03_Init h lo hi last node = some (Ib h lo hi last node) := by
  unfold m_r03_Init
  refine loopN _ 8 (fun v i => vst (vst v i (h.g i)) ((i + 8 : Nat) : Int) (ivb.getD i 0)) _ _ (fun v i hi => ?_) ?_
  · unfold m_r03_Init_l0
    simp only []
    rw [if_pos (by omega), geti_v _ _ hi, geti_v _ _ (by omega), eight_i i (by omega), w64_succ i (by omega), riv i hi]
    simp only [Option.bind_some]
    rw [geti_v _ _ (by omega)]
    rfl
  · obtain ⟨a, b, c, d, e, f, g, q, rfl⟩ := vec8 (v := h)
    cases last <;> cases node <;> kernel_rfl
def Eb (v : Vec UInt64 16) (h : Vec UInt64 8) (i : Nat) : Vec UInt64 8 := vst h i (h.g i ^^^ (v.g i ^^^ v.g (i + 8)))
def Fb (h : Vec UInt64 8) (m : Vec UInt64 16) (lo hi : UInt64) (last node : Bool) : Vec UInt64 8 :=
  (List.range 8).foldl (Eb ((List.range 12).foldl (fun v r => Rb v m r) (Ib h lo hi last node))) h
theorem wF (h : Vec UInt64 8) (m : Vec UInt64 16) (lo hi : UInt64) (last node : Bool) : m_mixb_F h m lo hi last node = some (Fb h m lo hi last node) := by
  unfold m_mixb_F
  rw [wInit]
  simp only [Option.bind_some]
  refine whileO_run (fun i => (m, (List.range i).foldl (fun v r => Rb v m r) (Ib h lo hi last node), (i : Int))) 12 (fun i hi => ?_) ?_
  · unfold m_mixb_F_l0
    simp only []
    rw [if_pos (by omega), turn_ok _ _ _ hi, w64_succ i (by omega), List.range_succ, List.foldl_append]
    rfl
  · unfold m_mixb_F_l0
    simp only []
    rw [if_neg (by omega)]
    rw [show whileO (m_mixb_F_l1 ((List.range 12).foldl (fun v r => Rb v m r) (Ib h lo hi last node))) (h, 0) = some (Fb h m lo hi last node) from ?_]
    · rfl
    refine loopN _ 8 (Eb ((List.range 12).foldl (fun v r => Rb v m r) (Ib h lo hi last node))) _ _ (fun v i hi => ?_) ?_
    · unfold m_mixb_F_l1
      simp only []
      rw [if_pos (by omega), geti_v _ _ (by omega), geti_v _ _ (by omega), eight_i i (by omega), w64_succ i (by omega), geti_v _ _ (by omega)]
      rfl
    · rfl
theorem rF (h : Vec UInt64 8) (m : Vec UInt64 16) (lo hi : UInt64) (last node : Bool) : m_r03_F h m lo hi last node = some (Fb h m lo hi last node) := by
  unfold m_r03_F
  rw [rInit]
  simp only [Option.bind_some]
  refine loopN _ 12 (fun v r => Rb v m r) _ _ (fun v i hi => ?_) ?_
  · unfold m_r03_F_l0
    simp only []
    rw [if_pos (by omega), Round_ok _ _ _ hi, w64_succ i (by omega)]
    rfl
  · unfold m_r03_F_l0
    simp only []
    rw [if_neg (by omega)]
    rw [show whileO (m_r03_F_l1 ((List.range 12).foldl (fun v r => Rb v m r) (Ib h lo hi last node))) (h, 0) = some (Fb h m lo hi last node) from ?_]
    · rfl
    refine loopN _ 8 (Eb ((List.range 12).foldl (fun v r => Rb v m r) (Ib h lo hi last node))) _ _ (fun v i hi => ?_) ?_
    · unfold m_r03_F_l1
      simp only []
      rw [if_pos (by omega), geti_v _ _ (by omega), geti_v _ _ (by omega), eight_i i (by omega), w64_succ i (by omega), geti_v _ _ (by omega)]
      simp only [Option.bind_some, UInt64.xor_assoc]
      rfl
    · rfl
end Go.Sx

