import Derived.Test.YtjddlmbpkkbkoaaGreatQ12
namespace Go.Sx
open Go.RowKit
set_option linter.unusedVariables false
set_option linter.unusedSimpArgs false
theorem hash_ok (k d ky fn dp : Int) (lf : UInt32) (off : UInt64) (xof : UInt32) (nd inn : Int) (salt pers key : List UInt8) (last : Bool) (out : Int) (data : List UInt8) (hc : m_r02_Check k d ky fn dp lf off xof nd inn salt pers = some 0) (hkey : key = [] ∨ (key.length : Int) = ky) (hd : data.length ≤ 12000000) :
    ∃ (H : Half) (blk M : List UInt8), H.k = k ∧ m_node_Hash k d ky fn dp lf off xof nd inn salt pers key last out data = some (H.ans blk M last out) ∧ m_r05_Hash k d ky fn dp lf off xof nd inn salt pers key last out data = some (H.ans blk M last out) := by
  obtain ⟨r, h1, h2⟩ := check_some k d ky fn dp lf off xof nd inn salt pers
  rw [hc] at h1
  obtain rfl := Option.some.inj h1
  obtain ⟨he1, he2⟩ := enc_ok k d ky fn dp lf off xof nd inn salt pers hc
  rcases h2 rfl with ⟨rfl, _, _, h3, hs, hp⟩ | ⟨rfl, _, _, h3, hs, hp⟩
  · have hl : (encB 1 d ky fn dp lf off xof nd inn salt pers).length = 64 := by rw [encB_len _ _ _ _ _ _ _ _ _ _ _ _ (.inl ⟨rfl, hs, hp⟩)]; rfl
    have hkl : key.length ≤ 128 := by rcases hkey with rfl | h; · simp
                                      · omega
    exact ⟨big, _, _, rfl, whashB d ky fn dp lf off xof nd inn salt pers key last out data _ he1 hl hkey hkl hd, rhash_ok big d ky fn dp lf off xof nd inn salt pers key last out data _ hc he2 hl hkey hkl hd⟩
  · have hl : (encB 2 d ky fn dp lf off xof nd inn salt pers).length = 32 := by rw [encB_len _ _ _ _ _ _ _ _ _ _ _ _ (.inr ⟨rfl, hs, hp⟩)]; rfl
    have hkl : key.length ≤ 64 := by rcases hkey with rfl | h; · simp
                                     · omega
    exact ⟨small, _, _, rfl, whashS d ky fn dp lf off xof nd inn salt pers key last out data _ he1 hl hkey hkl hd, rhash_ok small d ky fn dp lf off xof nd inn salt pers key last out data _ hc he2 hl hkey hkl hd⟩
theorem ans_len (H : Half) (blk M : List UInt8) (last : Bool) (out : Int) : (H.ans blk M last out).1.length ≤ 64 := by
  have hS : H.S ≤ 64 := by rcases H.hk with ⟨_, _, h⟩ | ⟨_, _, h⟩ <;> omega
  unfold Half.ans
  split
  · simp
  · have := H.hash_len blk M last
    simp only [List.length_take]
    omega
theorem make_ok (k n : Int) (key salt pers data : List UInt8) (hd : data.length ≤ 12000000) : ∃ x, m_mac_digest k n key salt pers data = some x ∧ m_r06_Make k n key salt pers data = some x ∧ x.1.length ≤ 64 := by
  obtain ⟨r, h1, h2⟩ := check_some k n ((key.length : Nat) : Int) 1 1 0 0 0 0 0 salt pers
  by_cases hr : r = 0
  · subst hr
    obtain ⟨H, blk, M, hk, e1, e2⟩ := hash_ok k n ((key.length : Nat) : Int) 1 1 0 0 0 0 0 salt pers key false n data h1 (.inr rfl) hd
    refine ⟨H.ans blk M false n, ?_, ?_, ans_len _ _ _ _ _⟩
    · unfold m_mac_digest m_param_Size m_param_sizes
      rcases h2 rfl with ⟨rfl, _⟩ | ⟨rfl, _⟩
      · simp only [if_true, Option.bind_some]
        rw [if_neg (by decide)]
        simp only [Option.bind_some]
        rw [if_neg (by decide), check_ok, h1]
        simp only [Option.bind_some]
        rw [if_neg (by decide), e1]
        rfl
      · simp only [show ¬ ((2 : Int) = 1) from by omega, if_false, if_true, Option.bind_some]
        rw [if_neg (by decide)]
        simp only [Option.bind_some]
        rw [if_neg (by decide), check_ok, h1]
        simp only [Option.bind_some]
        rw [if_neg (by decide), e1]
        rfl
    · unfold m_r06_Make
      rw [h1]
      simp only [Option.bind_some]
      rw [if_neg (by decide), e2]
      rfl
  · have e2 : m_r06_Make k n key salt pers data = some ([], r) := by
      unfold m_r06_Make
      rw [h1]
      simp only [Option.bind_some]
      rw [if_pos hr]
    refine ⟨_, ?_, e2, by simp⟩
    unfold m_mac_digest m_param_Size m_param_sizes
    by_cases k1 : k = 1
    · subst k1
      simp only [if_true, Option.bind_some]
      rw [if_neg (by decide)]
      simp only [Option.bind_some]
      rw [if_neg (by decide), check_ok, h1]
      simp only [Option.bind_some]
      rw [if_pos hr]
    · by_cases k2 : k = 2
      · subst k2
        simp only [show ¬ ((2 : Int) = 1) from by omega, if_false, if_true, Option.bind_some]
        rw [if_neg (by decide)]
        simp only [Option.bind_some]
        rw [if_neg (by decide), check_ok, h1]
        simp only [Option.bind_some]
        rw [if_pos hr]
      · simp only [k1, k2, if_false, if_true, Option.bind_some]
        have hr1 : r = 1 := by
          unfold m_r02_Check m_r02_Most at h1
          simp only [k1, k2, if_false, Option.bind_some, if_true] at h1
          exact (Option.some.inj h1).symm
        rw [if_pos (by decide), hr1]
end Go.Sx

