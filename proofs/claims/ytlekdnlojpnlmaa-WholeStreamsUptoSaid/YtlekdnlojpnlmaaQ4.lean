import Derived.Test.YtlekdnlojpnlmaaQ3
namespace Go.Sx
open Go.RowKit
set_option linter.unusedVariables false
set_option linter.unusedSimpArgs false
/-! ### the other half: words of 32 bits -/
def rot32 (x : UInt32) (k : Nat) : UInt32 := shr32 x k ||| shl32 x (32 - k)
theorem sl16 (x : UInt32) : m_bits_RotateLeft32 x (-16) = some (rot32 x 16) := by
  show some (shl32 x 16 ||| shr32 x 16) = _
  rw [UInt32.or_comm]; rfl
theorem sl12 (x : UInt32) : m_bits_RotateLeft32 x (-12) = some (rot32 x 12) := by
  show some (shl32 x 20 ||| shr32 x 12) = _
  rw [UInt32.or_comm]; rfl
theorem sl8 (x : UInt32) : m_bits_RotateLeft32 x (-8) = some (rot32 x 8) := by
  show some (shl32 x 24 ||| shr32 x 8) = _
  rw [UInt32.or_comm]; rfl
theorem sl7 (x : UInt32) : m_bits_RotateLeft32 x (-7) = some (rot32 x 7) := by
  show some (shl32 x 25 ||| shr32 x 7) = _
  rw [UInt32.or_comm]; rfl
theorem ts16 (x : UInt32) : m_r04_turn x 16 = some (rot32 x 16) := by kernel_rfl
theorem ts12 (x : UInt32) : m_r04_turn x 12 = some (rot32 x 12) := by kernel_rfl
theorem ts8 (x : UInt32) : m_r04_turn x 8 = some (rot32 x 8) := by kernel_rfl
theorem ts7 (x : UInt32) : m_r04_turn x 7 = some (rot32 x 7) := by kernel_rfl
def Gs (v : Vec UInt32 16) (a b c d : Nat) (x y : UInt32) : Vec UInt32 16 :=
  let v1 := vst v a (v.g a + (v.g b + x))
  let v2 := vst v1 d (rot32 (v1.g d ^^^ v1.g a) 16)
  let v3 := vst v2 c (v2.g c + v2.g d)
  let v4 := vst v3 b (rot32 (v3.g b ^^^ v3.g c) 12)
  let v5 := vst v4 a (v4.g a + (v4.g b + y))
  let v6 := vst v5 d (rot32 (v5.g d ^^^ v5.g a) 8)
  let v7 := vst v6 c (v6.g c + v6.g d)
  vst v7 b (rot32 (v7.g b ^^^ v7.g c) 7)
theorem mix_ok (v : Vec UInt32 16) (a b c d : Nat) (x y : UInt32) (ha : a < 16) (hb : b < 16) (hc : c < 16) (hd : d < 16) : m_mixs_mix v a b c d x y = some (Gs v a b c d x y) := by
  unfold m_mixs_mix
  simp only [geti_v _ a ha, geti_v _ b hb, geti_v _ c hc, geti_v _ d hd, Option.bind_some, sl16, sl12, sl8, sl7]
  rfl
theorem places_ok (a b c d : Nat) (ha : a < 16) (hb : b < 16) (hc : c < 16) (hd : d < 16) (hn : a ≠ b ∧ a ≠ c ∧ a ≠ d ∧ b ≠ c ∧ b ≠ d ∧ c ≠ d) : m_r04_places a b c d = some true := by
  have hl : ∀ i : Nat, i < 4 → ∃ x : Nat, geti ([(a : Int), (b : Int), (c : Int), (d : Int)] : List Int) (i : Int) = some (x : Int) ∧ x < 16 ∧ ∀ j : Nat, j < i → ∃ y : Nat, geti ([(a : Int), (b : Int), (c : Int), (d : Int)] : List Int) (j : Int) = some (y : Int) ∧ x ≠ y := by
    intro i hi
    match i, hi with
    | 0, _ => exact ⟨a, rfl, ha, fun j hj => by omega⟩
    | 1, _ => exact ⟨b, rfl, hb, fun j hj => by match j, hj with | 0, _ => exact ⟨a, rfl, by omega⟩⟩
    | 2, _ => exact ⟨c, rfl, hc, fun j hj => by match j, hj with | 0, _ => exact ⟨a, rfl, by omega⟩ | 1, _ => exact ⟨b, rfl, by omega⟩⟩
    | 3, _ => exact ⟨d, rfl, hd, fun j hj => by match j, hj with | 0, _ => exact ⟨a, rfl, by omega⟩ | 1, _ => exact ⟨b, rfl, by omega⟩ | 2, _ => exact ⟨c, rfl, by omega⟩⟩
  unfold m_r04_places
  refine whileO_run (fun i => (i : Int)) 4 (fun i hi => ?_) rfl
  obtain ⟨x, h1, h2, h3⟩ := hl i hi
  unfold m_r04_places_l0
  rw [if_pos (by omega), h1]
  simp only [Option.bind_some]
  have hx : decide ((x : Int) < 0) = false := by rw [decide_eq_false_iff_not]; omega
  rw [hx]
  simp only [gif, Bool.not_false, if_true, Option.bind_some, Bool.false_or, decide_eq_true_eq]
  rw [if_neg (by omega)]
  refine whileO_run (fun j => (j : Int)) i (fun j hj => ?_) ?_
  · obtain ⟨y, g1, g2⟩ := h3 j hj
    unfold m_r04_places_l1
    rw [if_pos (by omega), h1, g1]
    simp only [Option.bind_some]
    rw [if_neg (by omega), w64_succ j (by omega)]
  · unfold m_r04_places_l1
    rw [if_neg (by omega), w64_succ i (by omega)]
    rfl
theorem Gs_ok (v : Vec UInt32 16) (a b c d : Nat) (x y : UInt32) (ha : a < 16) (hb : b < 16) (hc : c < 16) (hd : d < 16) (hn : a ≠ b ∧ a ≠ c ∧ a ≠ d ∧ b ≠ c ∧ b ≠ d ∧ c ≠ d) : m_r04_G v a b c d x y = some (Gs v a b c d x y, 0) := by
  unfold m_r04_G
  rw [places_ok a b c d ha hb hc hd hn]
  simp only [Option.bind_some, Bool.not_true, Bool.false_eq_true, if_false]
  simp only [geti_v _ a ha, geti_v _ b hb, geti_v _ c hc, geti_v _ d hd, Option.bind_some, ts16, ts12, ts8, ts7, UInt32.add_assoc]
  rfl
def Ss (m : Vec UInt32 16) (r : Nat) (v : Vec UInt32 16) (i : Nat) : Vec UInt32 16 := Gs v (pl i).1 (pl i).2.1 (pl i).2.2.1 (pl i).2.2.2 (m.g (sg r (2 * i))) (m.g (sg r (2 * i + 1)))
def Rs (v m : Vec UInt32 16) (r : Nat) : Vec UInt32 16 := (List.range 8).foldl (Ss m r) v
theorem stbl : ∃ tbl, m_mixs_places = some tbl ∧ ∀ i : Nat, i < 8 → ∃ p : Vec Int 4, geti tbl.l (i : Int) = some p ∧ p.l = [((pl i).1 : Int), ((pl i).2.1 : Int), ((pl i).2.2.1 : Int), ((pl i).2.2.2 : Int)] := by
  refine ⟨_, rfl, fun i hi => ?_⟩
  match i, hi with
  | 0, _ => exact ⟨_, rfl, rfl⟩
  | 1, _ => exact ⟨_, rfl, rfl⟩
  | 2, _ => exact ⟨_, rfl, rfl⟩
  | 3, _ => exact ⟨_, rfl, rfl⟩
  | 4, _ => exact ⟨_, rfl, rfl⟩
  | 5, _ => exact ⟨_, rfl, rfl⟩
  | 6, _ => exact ⟨_, rfl, rfl⟩
  | 7, _ => exact ⟨_, rfl, rfl⟩
theorem sround_ok (v m : Vec UInt32 16) (r : Nat) (hr : r < 10) : m_mixs_round v m (r : Int) = some (Rs v m r, m) := by
  obtain ⟨row, h1, h2⟩ := wsg r (by omega)
  unfold m_mixs_round
  rw [h1]
  simp only [Option.bind_some]
  obtain ⟨tbl, ht, hp⟩ := stbl
  rw [ht]
  simp only [Option.bind_some]
  refine loopN _ 8 (Ss m r) v _ (fun v i hi => ?_) rfl
  unfold m_mixs_round_l0
  obtain ⟨p1, p2, p3, p4, _⟩ := pl_ok i hi
  simp only []
  rw [if_pos (by omega), two_i i (by omega), w64_succ _ (by omega), w64_succ _ (by omega), h2 _ (by omega), h2 _ (by omega)]
  simp only [Option.bind_some]
  rw [geti_v _ _ (sg_lt r (by omega) _ (by omega)), geti_v _ _ (sg_lt r (by omega) _ (by omega))]
  obtain ⟨p', k1, k2⟩ := hp i hi
  rw [k1]
  have e0 : geti p'.l 0 = some ((pl i).1 : Int) := by rw [k2]; rfl
  have e1 : geti p'.l 1 = some ((pl i).2.1 : Int) := by rw [k2]; rfl
  have e2 : geti p'.l 2 = some ((pl i).2.2.1 : Int) := by rw [k2]; rfl
  have e3 : geti p'.l 3 = some ((pl i).2.2.2 : Int) := by rw [k2]; rfl
  simp only [Option.bind_some, e0, e1, e2, e3]
  rw [mix_ok v _ _ _ _ _ _ p1 p2 p3 p4]
  rfl
theorem four_ok : ∀ i : Nat, i < 8 → m_r04_four (i : Int) = some ((((pl i).1 : Nat) : Int), (((pl i).2.1 : Nat) : Int), (((pl i).2.2.1 : Nat) : Int), (((pl i).2.2.2 : Nat) : Int)) := by decide +kernel
theorem sRound_ok (v m : Vec UInt32 16) (r : Nat) (hr : r < 10) : m_r04_Round v m (r : Int) = some (Rs v m r, 0) := by
  unfold m_r04_Round
  rw [if_neg (by simp only [Bool.or_eq_true, decide_eq_true_eq]; omega)]
  refine loopN _ 8 (Ss m r) v _ (fun v i hi => ?_) rfl
  unfold m_r04_Round_l0
  obtain ⟨p1, p2, p3, p4, hn⟩ := pl_ok i hi
  simp only []
  rw [if_pos (by omega), four_ok i hi, two_i i (by omega), w64_succ _ (by omega), w64_succ _ (by omega)]
  simp only [Option.bind_some]
  rw [rsg r (by omega) _ (by omega), rsg r (by omega) _ (by omega)]
  simp only [Option.bind_some]
  rw [geti_v _ _ (sg_lt r (by omega) _ (by omega)), geti_v _ _ (sg_lt r (by omega) _ (by omega))]
  simp only [Option.bind_some]
  rw [Gs_ok v _ _ _ _ _ _ p1 p2 p3 p4 hn]
  rfl
def ivs : List UInt32 := [1779033703, 3144134277, 1013904242, 2773480762, 1359893119, 2600822924, 528734635, 1541459225]
def I0s (h : Vec UInt32 8) : Vec UInt32 16 := ⟨h.l ++ ivs, by simp [h.h, ivs]⟩
def Is (h : Vec UInt32 8) (lo : UInt64) (last node : Bool) : Vec UInt32 16 :=
  let v0 := I0s h
  let v1 := vst v0 12 (v0.g 12 ^^^ UInt32.ofNat lo.toNat)
  let v2 := vst v1 13 (v1.g 13 ^^^ UInt32.ofNat (shr64 lo 32).toNat)
  let v3 := if last then vst v2 14 (4294967295 ^^^ v2.g 14) else v2
  if node then vst v3 15 (4294967295 ^^^ v3.g 15) else v3
theorem wBegin (h : Vec UInt32 8) (lo : UInt64) (last node : Bool) : m_mixs_Begin h lo last node = some (Is h lo last node) := by
  obtain ⟨a, b, c, d, e, f, g, q, rfl⟩ := vec8 (v := h)
  cases last <;> cases node <;> kernel_rfl
theorem rBegin (h : Vec UInt32 8) (lo : UInt64) (last node : Bool) : m_r04_Begin h lo last node = some (Is h lo last node) := by
  unfold m_r04_Begin m_r04_IV
  simp only [Option.bind_some]
  refine loopN _ 8 (fun v (i : Nat) => vst (vst v i (h.g i)) ((i + 8 : Nat) : Int) (ivs.getD i 0)) _ _ (fun v i hi => ?_) ?_
  · unfold m_r04_Begin_l0
    simp only []
    rw [if_pos (by omega), geti_v _ _ hi, geti_v _ _ (by omega), eight_i i (by omega), w64_succ i (by omega)]
    simp only [Option.bind_some]
    rw [geti_nat (by simp; omega), geti_v _ _ (by omega)]
    match i, hi with
    | 0, _ => rfl
    | 1, _ => rfl
    | 2, _ => rfl
    | 3, _ => rfl
    | 4, _ => rfl
    | 5, _ => rfl
    | 6, _ => rfl
    | 7, _ => rfl
  · obtain ⟨a, b, c, d, e, f, g, q, rfl⟩ := vec8 (v := h)
    unfold m_r04_Begin_l0 m_r04_Begin_j0 m_r04_Begin_j1 Is
    simp only [UInt32.xor_comm _ 4294967295]
    cases last <;> cases node <;> kernel_rfl
def Es (v : Vec UInt32 16) (h : Vec UInt32 8) (i : Nat) : Vec UInt32 8 := vst h i (h.g i ^^^ (v.g i ^^^ v.g (i + 8)))
def Fs (h : Vec UInt32 8) (m : Vec UInt32 16) (lo : UInt64) (last node : Bool) : Vec UInt32 8 :=
  (List.range 8).foldl (Es ((List.range 10).foldl (fun v r => Rs v m r) (Is h lo last node))) h
theorem wEnd (h : Vec UInt32 8) (v : Vec UInt32 16) : m_mixs_End h v = some ((List.range 8).foldl (Es v) h) := by
  unfold m_mixs_End
  refine loopN _ 8 (Es v) _ _ (fun h i hi => ?_) rfl
  unfold m_mixs_End_l0
  simp only []
  rw [if_pos (by omega), geti_v _ _ (by omega), geti_v _ _ (by omega), eight_i i (by omega), w64_succ i (by omega), geti_v _ _ (by omega)]
  rfl
theorem rEnd (h : Vec UInt32 8) (v : Vec UInt32 16) : m_r04_End h v = some ((List.range 8).foldl (Es v) h) := by
  unfold m_r04_End
  refine loopN _ 8 (Es v) _ _ (fun h i hi => ?_) rfl
  unfold m_r04_End_l0
  simp only []
  rw [if_pos (by omega), geti_v _ _ (by omega), geti_v _ _ (by omega), eight_i i (by omega), w64_succ i (by omega), geti_v _ _ (by omega)]
  simp only [Option.bind_some, UInt32.xor_assoc]
  rfl
theorem wFs (h : Vec UInt32 8) (m : Vec UInt32 16) (lo : UInt64) (last node : Bool) : m_mixs_F h m lo last node = some (Fs h m lo last node) := by
  unfold m_mixs_F
  rw [wBegin]
  simp only [Option.bind_some]
  refine whileO_run (fun i => (m, (List.range i).foldl (fun v r => Rs v m r) (Is h lo last node), (i : Int))) 10 (fun i hi => ?_) ?_
  · unfold m_mixs_F_l0
    simp only []
    rw [if_pos (by omega), sround_ok _ _ _ hi, w64_succ i (by omega), List.range_succ, List.foldl_append]
    rfl
  · unfold m_mixs_F_l0
    simp only []
    rw [if_neg (by omega), wEnd]
    rfl
theorem rFs (h : Vec UInt32 8) (m : Vec UInt32 16) (lo : UInt64) (last node : Bool) : m_r04_F h m lo last node = some (Fs h m lo last node) := by
  unfold m_r04_F
  rw [rBegin]
  simp only [Option.bind_some]
  refine loopN _ 10 (fun v r => Rs v m r) _ _ (fun v i hi => ?_) ?_
  · unfold m_r04_F_l0
    simp only []
    rw [if_pos (by omega), sRound_ok _ _ _ hi, w64_succ i (by omega)]
    rfl
  · unfold m_r04_F_l0
    simp only []
    rw [if_neg (by omega), rEnd]
    rfl
end Go.Sx

