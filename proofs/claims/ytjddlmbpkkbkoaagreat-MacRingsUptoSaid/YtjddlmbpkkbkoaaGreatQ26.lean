import Derived.Test.YtjddlmbpkkbkoaaGreatQ25
namespace Go.Sx
open Go.RowKit
set_option linter.unusedVariables false
set_option linter.unusedSimpArgs false
set_option maxRecDepth 4000
section
variable {ks xs : List (List UInt8)} {L : KL}
theorem im_tag (h : Im ks xs L) (k n : Int) (name data : List UInt8) (hd : data.length ≤ 12000000) : ∃ y : List UInt8 × Int, m_mac_Ring_Tag_m k n ks xs name data = some (y.1, y.2, k, n, ks, xs) ∧ m_r06_Tag true k n L name data = some y ∧ y.1.length ≤ 64 := by
  have hL := h.llen
  have hle := h.le
  unfold m_r06_Tag
  rw [if_neg (show ¬ ((!true) = true) from by decide), rfind_ok true k n L name (by omega)]
  simp only [Option.bind_some]
  cases hf : kfind (L.map (·.1)) name with
  | none =>
    refine ⟨([], 6), ?_, ?_, by simp⟩
    · unfold m_mac_Ring_Tag_m m_mac_Ring_none_m
      simp only [Option.bind_some]
      rw [(h.kf name).2 hf]; rfl
    · show (if (-1 : Int) < 0 then _ else _) = _
      rw [if_pos (by decide)]
  | some i =>
    have h1 := kfind_some hf
    have hi := (List.getElem?_eq_some_iff.1 h1).1
    simp only [List.length_map] at hi
    have hg : mget ks xs name = some L[i].2 := by
      rw [h.get]; exact mget_some hf (by simp [hi])
    obtain ⟨y, y1, y2, y3⟩ := make_ok k n L[i].2 [] [] data hd
    refine ⟨y, ?_, ?_, y3⟩
    · rw [tag_eq k n ks xs name data _ hg, y1]; rfl
    · show (if ((i : Nat) : Int) < 0 then _ else _) = _
      rw [if_neg (by omega)]
      show (geti L ((i : Nat) : Int)).bind _ = _
      rw [geti_nat hi]
      simp only [Option.bind_some]
      rw [y2]; rfl
theorem im_who (h : Im ks xs L) (k n : Int) (tag data : List UInt8) (hd : data.length ≤ 12000000) : ∃ y : List UInt8 × Bool × Int, m_mac_Ring_Who_m k n ks xs tag data = some (y.1, y.2.1, y.2.2, k, n, ks, xs) ∧ m_r06_Who true k n L tag data = some y := by
  have hL := h.llen
  have hle := h.le
  have hsl : (srt ks).length = L.length := by rw [h.srt_]; simp
  unfold m_r06_Who m_mac_Ring_Who_m m_mac_Ring_none_m m_mac_Ring_Names_m m_mac_Ring_none_m
  simp only [Option.bind_some]
  rw [if_neg (show ¬ ((!true) = true) from by decide)]
  by_cases hn : ((tag.length : Nat) : Int) ≠ n
  · rw [if_pos hn, if_pos hn]; exact ⟨_, rfl, rfl⟩
  rw [if_neg hn, if_neg hn, need_ok (by omega)]
  simp only [Option.bind_some]
  have key : ∀ (m i : Nat), i + m = L.length → ∃ y : List UInt8 × Bool × Int, whileO (m_mac_Ring_Who_m_l0 tag data (srt ks, k, n, ks, xs)) (k, n, ks, xs, (i : Int)) = some (y.1, y.2.1, y.2.2, k, n, ks, xs) ∧ whileO (m_r06_Who_l0 k n L tag data) (i : Int) = some y := by
    intro m
    induction m with
    | zero =>
      intro i hi
      refine ⟨([], false, 0), whileO_done ?_, whileO_done ?_⟩
      · unfold m_mac_Ring_Who_m_l0
        simp only []
        rw [if_neg (by omega)]; rfl
      · unfold m_r06_Who_l0
        rw [if_neg (by omega)]; rfl
    | succ m ih =>
      intro i hi
      have hlt : i < L.length := by omega
      have hls : i < (srt ks).length := by omega
      have hnm : (srt ks)[i] = L[i].1 := by simp [h.srt_]
      have hf : kfind (L.map (·.1)) L[i].1 = some i := kfind_first (by simp [hlt]) (fun j hj e => by
        obtain ⟨h3, h4⟩ := List.getElem?_eq_some_iff.1 e
        exact List.pairwise_iff_getElem.1 h.lnd j i h3 (by simp; omega) hj (by rw [h4]; simp))
      have hg : mget ks xs L[i].1 = some L[i].2 := by
        rw [h.get]; exact mget_some hf (by simp [hlt])
      obtain ⟨y, y1, y2, y3⟩ := make_ok k n L[i].2 [] [] data hd
      have P : m_mac_Ring_Who_m_l0 tag data (srt ks, k, n, ks, xs) (k, n, ks, xs, (i : Int)) = (if decide (y.1 = tag) = true then some (.inr (L[i].1, true, 0, k, n, ks, xs)) else some (.inl (k, n, ks, xs, ((i + 1 : Nat) : Int)))) := by
        unfold m_mac_Ring_Who_m_l0
        simp only []
        rw [if_pos (by omega), geti_nat hls, hnm]
        simp only [Option.bind_some]
        rw [tag_eq k n ks xs _ data _ hg, y1]
        simp only [Option.bind_some]
        rw [equal_eq y.1 tag (by omega)]
        simp only [Option.bind_some]
        rw [w64_succ i (by omega)]; rfl
      have R : m_r06_Who_l0 k n L tag data (i : Int) = (if decide (y.1 = tag) = true then some (.inr (L[i].1, true, 0)) else some (.inl ((i + 1 : Nat) : Int))) := by
        unfold m_r06_Who_l0
        rw [if_pos (by omega), geti_nat hlt]
        simp only [Option.bind_some]
        rw [y2]
        simp only [Option.bind_some]
        rw [rsame_eq y.1 tag (by omega)]
        simp only [Option.bind_some]
        rw [w64_succ i (by omega)]; rfl
      by_cases hc : decide (y.1 = tag) = true
      · rw [if_pos hc] at P R
        exact ⟨(L[i].1, true, 0), whileO_done P, whileO_done R⟩
      · rw [if_neg hc] at P R
        obtain ⟨z, z1, z2⟩ := ih (i + 1) (by omega)
        exact ⟨z, by rw [whileO_next P, z1], by rw [whileO_next R, z2]⟩
  obtain ⟨y, y1, y2⟩ := key L.length 0 (by omega)
  exact ⟨y, y1, y2⟩
theorem im_add (h : Im ks xs L) (k n : Int) (name key : List UInt8) (hn : name.length ≤ 16000000) (hk : key.length ≤ 16000000) :
    ∃ (e : Int) (ks' xs' : List (List UInt8)), m_mac_Ring_Add_m k n ks xs name key = some (e, k, n, ks', xs') ∧
      ((m_r06_Add true k n L name key = some (Sum.inl (true, k, n, e)) ∧ ks' = ks ∧ xs' = xs) ∨ ∃ L', e = 0 ∧ m_r06_Add true k n L name key = some (Sum.inr (true, k, n, L')) ∧ Im ks' xs' L') := by
  have hL := h.llen
  have hle := h.le
  obtain ⟨b, hb, hb2⟩ := label_same name hn
  obtain ⟨m, hm, _, _⟩ := most_le k
  unfold m_mac_Ring_Add_m m_mac_Ring_none_m m_r06_Add
  rw [if_neg (show ¬ ((!true) = true) from by decide)]
  simp only [Option.bind_some, hb, hb2, most_ok, hm, rfind_ok true k n L name (by omega)]
  cases hg : mget ks xs name with
  | some v =>
    simp only [Option.elim_some]
    by_cases c1 : (!b) = true
    · rw [if_pos c1, if_pos c1]; exact ⟨_, _, _, rfl, .inl ⟨rfl, rfl, rfl⟩⟩
    rw [if_neg c1, if_neg c1]
    by_cases c2 : ((key.length : Nat) : Int) = 0
    · rw [if_pos c2, if_pos (show ((key.length : Nat) : Int) < 1 from by omega)]; exact ⟨_, _, _, rfl, .inl ⟨rfl, rfl, rfl⟩⟩
    rw [if_neg c2, if_neg (show ¬ (((key.length : Nat) : Int) < 1) from by omega)]
    by_cases c3 : m < ((key.length : Nat) : Int)
    · rw [if_pos c3, if_pos c3]; exact ⟨_, _, _, rfl, .inl ⟨rfl, rfl, rfl⟩⟩
    rw [if_neg c3, if_neg c3]
    have hf : ∃ i, kfind (L.map (·.1)) name = some i := by
      cases hf : kfind (L.map (·.1)) name with
      | some i => exact ⟨i, rfl⟩
      | none => rw [(h.kf name).2 hf] at hg; cases hg
    obtain ⟨i, hi⟩ := hf
    rw [hi, if_pos (show (0 : Int) ≤ fidx (some i) from Int.natCast_nonneg i)]
    exact ⟨_, _, _, rfl, .inl ⟨rfl, rfl, rfl⟩⟩
  | none =>
    simp only [Option.elim_none]
    by_cases c1 : (!b) = true
    · rw [if_pos c1, if_pos c1]; exact ⟨_, _, _, rfl, .inl ⟨rfl, rfl, rfl⟩⟩
    rw [if_neg c1, if_neg c1]
    by_cases c2 : ((key.length : Nat) : Int) = 0
    · rw [if_pos c2, if_pos (show ((key.length : Nat) : Int) < 1 from by omega)]; exact ⟨_, _, _, rfl, .inl ⟨rfl, rfl, rfl⟩⟩
    rw [if_neg c2, if_neg (show ¬ (((key.length : Nat) : Int) < 1) from by omega)]
    by_cases c3 : m < ((key.length : Nat) : Int)
    · rw [if_pos c3, if_pos c3]; exact ⟨_, _, _, rfl, .inl ⟨rfl, rfl, rfl⟩⟩
    rw [if_neg c3, if_neg c3]
    rw [(h.kf name).1 hg, if_neg (show ¬ (0 : Int) ≤ fidx Option.none from by decide)]
    by_cases c4 : 256 ≤ ((ks.length : Nat) : Int)
    · rw [if_pos c4, if_pos (show 256 ≤ ((L.length : Nat) : Int) from by omega)]; exact ⟨_, _, _, rfl, .inl ⟨rfl, rfl, rfl⟩⟩
    rw [if_neg c4, if_neg (show ¬ 256 ≤ ((L.length : Nat) : Int) from by omega), clone_ok key hk, app_ok (by simp; omega)]
    simp only [Option.bind_some, List.nil_append]
    have hf := mget_kf h.len hg
    have e1 : mputK ks name = ks ++ [name] := by unfold mputK; rw [hf]
    have e2 : mputV ks xs name key = xs ++ [key] := by unfold mputV; rw [hf]
    rw [e1, e2, radd_loop true k n L name key (by omega)]
    exact ⟨_, _, _, rfl, .inr ⟨_, rfl, rfl, h.add name key hg (by omega)⟩⟩
theorem im_drop (h : Im ks xs L) (k n : Int) (name : List UInt8) :
    ∃ (e : Int) (ks' xs' : List (List UInt8)), m_mac_Ring_Drop_m k n ks xs name = some (e, k, n, ks', xs') ∧
      ((m_r06_Drop true k n L name = some (Sum.inl (true, k, n, e)) ∧ ks' = ks ∧ xs' = xs) ∨ ∃ L', e = 0 ∧ m_r06_Drop true k n L name = some (Sum.inr (true, k, n, L')) ∧ Im ks' xs' L') := by
  have hL := h.llen
  have hle := h.le
  unfold m_mac_Ring_Drop_m m_mac_Ring_none_m m_r06_Drop
  rw [if_neg (show ¬ ((!true) = true) from by decide)]
  simp only [Option.bind_some, rfind_ok true k n L name (by omega)]
  cases hf : kfind (L.map (·.1)) name with
  | none =>
    rw [(h.kf name).2 hf, if_pos (show fidx Option.none < 0 from by decide)]
    exact ⟨_, _, _, rfl, .inl ⟨rfl, rfl, rfl⟩⟩
  | some i =>
    rw [if_neg (show ¬ fidx (some i) < 0 from Int.not_lt.2 (Int.natCast_nonneg i))]
    cases hg : mget ks xs name with
    | none => rw [(h.kf name).1 hg] at hf; cases hf
    | some v =>
      simp only [Option.elim_some]
      cases hj : kfind ks name with
      | none => rw [mget_none hj] at hg; cases hg
      | some j =>
        have e1 : mdelK ks name = ks.eraseIdx j := by unfold mdelK; rw [hj]
        have e2 : mdelV ks xs name = xs.eraseIdx j := by unfold mdelV; rw [hj]
        rw [e1, e2]
        have := rdrop_loop true k n L i (by omega)
        show ∃ (e : Int) (ks' xs' : List (List UInt8)), _ ∧ ((whileO (m_r06_Drop_l0 true k n L ((i : Nat) : Int)) _ = _ ∧ _) ∨ ∃ L', _ ∧ whileO (m_r06_Drop_l0 true k n L ((i : Nat) : Int)) _ = _ ∧ _)
        rw [this]
        exact ⟨_, _, _, rfl, .inr ⟨_, rfl, rfl, h.drop name j i hj hf⟩⟩
end
abbrev OpT := Int × List UInt8 × List UInt8 × List UInt8
theorem tail1 (i : Nat) (hi : i < 1000000000000000000) (x : OpT) (hx : x.2.2.1.length ≤ 1048576) (t : List UInt8) (ht : m_l06_wide x.2.2.1 = some (x.2.2.1 ++ t)) (htl : t.length = 70) (a : Bool) (b c : Int) (L : KL) :
    m_l06_MacRings_j1 (i : Int) x (x.2.2.1 ++ t) x.2.2.1 a b c L = some (.inl (a, b, c, L, ((i + 1 : Nat) : Int))) := by
  unfold m_l06_MacRings_j1
  rw [kept_ok (x.2.2.1 ++ t) x.2.2.1 (by omega) ht (by simp; omega) (by simp; omega)]
  simp only [Option.bind_some]
  rw [if_neg (by decide), spoil_ok _ (by omega)]
  simp only [Option.bind_some]
  unfold m_l06_MacRings_j0
  rw [w64_succ i hi]
theorem tail3 (i : Nat) (hi : i < 1000000000000000000) (x : OpT) (hx : x.2.2.1.length ≤ 1048576) (t : List UInt8) (ht : m_l06_wide x.2.2.1 = some (x.2.2.1 ++ t)) (htl : t.length = 70) (k n : Int) (ks xs : List (List UInt8)) (a : Bool) (b c : Int) (L : KL) :
    m_l06_MacRings_j3 (i : Int) x (x.2.2.1 ++ t) x.2.2.1 k n ks xs a b c L = some (.inl (k, n, ks, xs, a, b, c, L, ((i + 1 : Nat) : Int))) := by
  unfold m_l06_MacRings_j3
  rw [kept_ok (x.2.2.1 ++ t) x.2.2.1 (by omega) ht (by simp; omega) (by simp; omega)]
  simp only [Option.bind_some]
  rw [if_neg (by decide), spoil_ok _ (by omega)]
  simp only [Option.bind_some]
  unfold m_l06_MacRings_j2
  rw [w64_succ i hi]
theorem names_loop (a : Bool) (b c : Int) (L : KL) (i : Int) (x : OpT) (r b1 : List UInt8) (R : List (List UInt8) × Int × Int × List (List UInt8) × List (List UInt8)) (l : List (List UInt8)) (hR : R.1 = l) (hl : l.length ≤ 256) (z) (hz : m_l06_MacRings_j3 i x r b1 R.2.1 R.2.2.1 R.2.2.2.1 R.2.2.2.2 a b c L = some z) :
    whileO (m_l06_MacRings_l3 a b c L i x r b1 R l) (R.1, (0 : Int)) = some z := by
  refine whileO_eq (fun j s => s.2 = (j : Int) ∧ j ≤ l.length ∧ s.1.length = l.length ∧ s.1.drop j = l.drop j) _ l.length _ ⟨rfl, by omega, by rw [hR], by rw [hR]⟩ ?_
  rintro j ⟨m, s⟩ ⟨h1, h2, h3, h4⟩
  simp only at h1 h3 h4
  subst h1
  unfold m_l06_MacRings_l3
  simp only []
  by_cases hlt : j < l.length
  · left
    refine ⟨hlt, ?_⟩
    have e : m[j]'(by omega) = l[j] := by
      have := congrArg (fun q => q[0]?) h4
      simp only [List.getElem?_drop, Nat.add_zero] at this
      rw [List.getElem?_eq_getElem (by omega), List.getElem?_eq_getElem hlt] at this
      exact Option.some.inj this
    rw [if_pos (by omega), geti_nat (by omega), geti_nat hlt]
    simp only [Option.bind_some]
    rw [if_neg (by simp [e])]
    refine ⟨_, rfl, w64_succ j (by omega), by omega, by simp [h3], ?_⟩
    simp only []
    rw [Int.toNat_natCast, List.drop_set_of_lt (by omega)]
    have := congrArg (List.drop 1) h4
    simpa [List.drop_drop] using this
  · right
    rw [if_neg (by omega), hz]
    rfl
theorem p_l06_MacRings (k : Int) (hk : -9223372036854775808 ≤ k ∧ k ≤ 9223372036854775807) (n : Int) (hn : -9223372036854775808 ≤ n ∧ n ≤ 9223372036854775807)
    (script : List OpT) (hs : TotG (fun z_ : Int × List UInt8 × List UInt8 × List UInt8 => max z_.2.1.length (max z_.2.2.1.length (z_.2.2.2.length))) script ≤ 1048576) (hsl : script.length ≤ 1048576) :
    m_l06_MacRings k n script = some true := by
  unfold m_l06_MacRings
  obtain ⟨m, hm, hm0, hm64⟩ := most_le k
  unfold m_mac_NewRing m_r06_NewRing
  rw [most_ok, hm]
  simp only [Option.bind_some]
  have bnd : ∀ (i : Nat) (h : i < script.length), script[i].2.1.length ≤ 1048576 ∧ script[i].2.2.1.length ≤ 1048576 ∧ script[i].2.2.2.length ≤ 1048576 := by
    intro i h
    have := tot_ge wtOp script i h
    have hs' : TotG wtOp script ≤ 1048576 := hs
    change TotG _ script ≤ _ at hs'
    change max _ _ ≤ TotG wtOp script at this
    omega
  have bad : ∀ (e : Int) (c : e ≠ 0), whileO (m_l06_MacRings_l0 script) (false, (0 : Int), (0 : Int), ([] : KL), (0 : Int)) = some true := by
    intro e c
    refine whileO_eq (fun i s => s = (false, (0 : Int), (0 : Int), ([] : KL), (i : Int)) ∧ i ≤ script.length) _ script.length _ ⟨rfl, by omega⟩ ?_
    rintro i s ⟨rfl, hi⟩
    unfold m_l06_MacRings_l0
    simp only []
    by_cases hlt : i < script.length
    · left
      refine ⟨hlt, ?_⟩
      rw [if_pos (by omega), geti_nat hlt]
      simp only [Option.bind_some]
      obtain ⟨q1, q2, q3⟩ := bnd i hlt
      generalize script[i] = x at *
      obtain ⟨t, ht, htl⟩ := wide_ok x.2.2.1 (by omega)
      have T := tail1 i (by omega) x q2 t ht htl
      rw [ht]
      simp only [Option.bind_some]
      rw [slc_ok (by simp; omega)]
      simp only [Option.bind_some, Int.toNat_natCast, Int.toNat_zero, List.drop_zero, List.take_left]
      refine ⟨(false, 0, 0, [], ((i + 1 : Nat) : Int)), ?_, rfl, by omega⟩
      by_cases c0 : x.1 = 0
      · rw [if_pos c0]
        simp only [m_mac_Ring_Add, m_mac_Ring_none, m_r06_Add, Option.bind_some]
        rw [if_pos (by decide)]
        simp only [Option.bind_some, Sum.elim_inl]
        rw [if_neg (by decide), T]
      rw [if_neg c0]
      by_cases c1 : x.1 = 1
      · rw [if_pos c1]
        simp only [m_mac_Ring_Drop, m_mac_Ring_none, m_r06_Drop, Option.bind_some]
        rw [if_pos (by decide)]
        simp only [Option.bind_some, Sum.elim_inl]
        rw [if_neg (by decide), T]
      rw [if_neg c1]
      by_cases c2 : x.1 = 2
      · rw [if_pos c2]
        simp only [m_mac_Ring_Names, m_mac_Ring_none, Option.bind_some]
        rw [rnames_ok false 0 0 [] (by simp)]
        simp only [Option.bind_some]
        rw [if_neg (by simp)]
        refine whileO_done ?_
        unfold m_l06_MacRings_l1
        simp only []
        rw [if_neg (by simp), T]; rfl
      rw [if_neg c2]
      by_cases c3 : x.1 = 3
      · rw [if_pos c3]
        simp only [m_mac_Ring_Tag, m_mac_Ring_none, m_r06_Tag, Option.bind_some]
        rw [if_pos (by decide)]
        simp only [Option.bind_some]
        rw [if_neg (by decide), same_eq [] [] (by simp)]
        simp only [Option.bind_some]
        rw [if_neg (by decide), spoil_ok [] (by simp)]
        simp only [Option.bind_some, T]
      · rw [if_neg c3]
        simp only [m_mac_Ring_Who, m_mac_Ring_none, m_r06_Who, Option.bind_some]
        rw [if_pos (by decide)]
        simp only [Option.bind_some]
        rw [if_neg (by decide), T]
    · right
      rw [if_neg (by omega)]; rfl
  by_cases h0 : m = 0
  · rw [if_pos h0, if_pos h0]
    simp only [Option.bind_some, Sum.elim_inl]
    rw [if_neg (by decide)]
    exact bad 1 (by decide)
  rw [if_neg h0, if_neg h0]
  by_cases h1 : ((decide (n < 1)) || (decide (m < n))) = true
  · rw [if_pos h1]
    simp only [Option.bind_some, Sum.elim_inl]
    simp only [Bool.or_eq_true, decide_eq_true_eq] at h1
    by_cases h2 : n < 1
    · rw [if_pos h2]
      simp only [Option.bind_some]
      rw [if_neg (by decide)]
      exact bad 20 (by decide)
    · rw [if_neg h2, if_pos (by omega)]
      simp only [Option.bind_some]
      rw [if_neg (by decide)]
      exact bad 20 (by decide)
  rw [if_neg h1]
  simp only [Option.bind_some, Sum.elim_inr]
  simp only [Bool.or_eq_true, decide_eq_true_eq] at h1
  rw [if_neg (by omega), if_neg (by omega)]
  simp only [Option.bind_some]
  rw [if_neg (by simp)]
  refine whileO_eq (fun i s => ∃ ks xs L, s = (k, n, ks, xs, true, k, n, L, (i : Int)) ∧ Im ks xs L ∧ i ≤ script.length) _ script.length _ ⟨[], [], [], rfl, Im.nil, by omega⟩ ?_
  rintro i s ⟨ks, xs, L, rfl, h, hi⟩
  unfold m_l06_MacRings_l2
  simp only []
  by_cases hlt : i < script.length
  · left
    refine ⟨hlt, ?_⟩
    rw [if_pos (by omega), geti_nat hlt]
    simp only [Option.bind_some]
    obtain ⟨q1, q2, q3⟩ := bnd i hlt
    generalize script[i] = x at *
    obtain ⟨t, ht, htl⟩ := wide_ok x.2.2.1 (by omega)
    have T := tail3 i (by omega) x q2 t ht htl
    rw [ht]
    simp only [Option.bind_some]
    rw [slc_ok (by simp; omega)]
    simp only [Option.bind_some, Int.toNat_natCast, Int.toNat_zero, List.drop_zero, List.take_left]
    by_cases c0 : x.1 = 0
    · rw [if_pos c0]
      obtain ⟨e, ks', xs', a1, a2⟩ := im_add h k n x.2.1 x.2.2.1 (by omega) (by omega)
      rw [a1]
      simp only [Option.bind_some]
      rcases a2 with ⟨a2, rfl, rfl⟩ | ⟨L', rfl, a2, h'⟩
      · rw [a2]
        simp only [Option.bind_some, Sum.elim_inl]
        rw [if_neg (by simp), T]
        exact ⟨_, rfl, _, _, L, rfl, h, by omega⟩
      · rw [a2]
        simp only [Option.bind_some, Sum.elim_inr]
        rw [if_neg (by simp), T]
        exact ⟨_, rfl, _, _, L', rfl, h', by omega⟩
    rw [if_neg c0]
    by_cases c1 : x.1 = 1
    · rw [if_pos c1]
      obtain ⟨e, ks', xs', a1, a2⟩ := im_drop h k n x.2.1
      rw [a1]
      simp only [Option.bind_some]
      rcases a2 with ⟨a2, rfl, rfl⟩ | ⟨L', rfl, a2, h'⟩
      · rw [a2]
        simp only [Option.bind_some, Sum.elim_inl]
        rw [if_neg (by simp), T]
        exact ⟨_, rfl, _, _, L, rfl, h, by omega⟩
      · rw [a2]
        simp only [Option.bind_some, Sum.elim_inr]
        rw [if_neg (by simp), T]
        exact ⟨_, rfl, _, _, L', rfl, h', by omega⟩
    rw [if_neg c1]
    have hle := h.le
    have hL := h.llen
    by_cases c2 : x.1 = 2
    · rw [if_pos c2]
      unfold m_mac_Ring_Names_m m_mac_Ring_none_m
      simp only [Option.bind_some]
      rw [need_ok (by omega), rnames_ok true k n L (by omega)]
      simp only [Option.bind_some]
      rw [if_neg (by rw [h.srt_]; simp)]
      rw [names_loop true k n L (i : Int) x _ _ (srt ks, k, n, ks, xs) (L.map (·.1)) h.srt_ (by simp; omega) _ (T k n ks xs true k n L)]
      exact ⟨_, rfl, _, _, L, rfl, h, by omega⟩
    rw [if_neg c2]
    by_cases c3 : x.1 = 3
    · rw [if_pos c3]
      obtain ⟨y, y1, y2, y3⟩ := im_tag h k n x.2.1 x.2.2.2 (by omega)
      rw [y1]
      simp only [Option.bind_some]
      rw [y2]
      simp only [Option.bind_some]
      rw [if_neg (by simp), same_eq _ _ (by omega)]
      simp only [Option.bind_some]
      rw [if_neg (by simp), spoil_ok _ (by omega)]
      simp only [Option.bind_some, T]
      exact ⟨_, rfl, _, _, L, rfl, h, by omega⟩
    · rw [if_neg c3]
      obtain ⟨y, y1, y2⟩ := im_who h k n x.2.2.1 x.2.2.2 (by omega)
      rw [y1]
      simp only [Option.bind_some]
      rw [y2]
      simp only [Option.bind_some]
      rw [if_neg (by simp), T]
      exact ⟨_, rfl, _, _, L, rfl, h, by omega⟩
  · right
    rw [if_neg (by omega)]; rfl
end Go.Sx

