import Derived.Test.YtjddlmbpkkbkoaaGreatQ18
import Derived.Test.YtjddlmbpkkbkoaaGreatSyV
namespace Go.Sx
open Go.RowKit
set_option linter.unusedVariables false
set_option linter.unusedSimpArgs false
theorem mget_cons (x : List UInt8) (ks : List (List UInt8)) (v : List UInt8) (xs : List (List UInt8)) (b : List UInt8) : mget (x :: ks) (v :: xs) b = if x = b then some v else mget ks xs b := by
  unfold mget
  show (match (if x = b then some 0 else (kfind ks b).map (· + 1)) with | some j => (v :: xs)[j]? | none => none) = _
  by_cases h : x = b
  · rw [if_pos h, if_pos h]; rfl
  · rw [if_neg h, if_neg h]
    cases hk : kfind ks b with
    | none => rfl
    | some j => simp
theorem mget_app (a v b : List UInt8) : ∀ (ks xs : List (List UInt8)), ks.length = xs.length → b ≠ a → mget (ks ++ [a]) (xs ++ [v]) b = mget ks xs b
  | [], [], _, h => by
    show mget [a] [v] b = _
    rw [mget_cons, if_neg (fun e => h e.symm)]
  | [], _ :: _, h, _ => by cases h
  | _ :: _, [], h, _ => by cases h
  | x :: ks, y :: xs, h, hb => by
    rw [List.cons_append, List.cons_append, mget_cons, mget_cons, mget_app a v b ks xs (by simpa using h) hb]
theorem mget_del (a b : List UInt8) : ∀ (ks xs : List (List UInt8)) (j : Nat), ks.length = xs.length → kfind ks a = some j → b ≠ a → mget (ks.eraseIdx j) (xs.eraseIdx j) b = mget ks xs b
  | [], _, _, _, h, _ => by cases h
  | _ :: _, [], _, h, _, _ => by cases h
  | x :: ks, y :: xs, j, h, hk, hb => by
    unfold kfind at hk
    by_cases hx : x = a
    · rw [if_pos hx] at hk
      obtain rfl := Option.some.inj hk
      rw [mget_cons, if_neg (by rw [hx]; exact fun e => hb e.symm)]
      rfl
    · rw [if_neg hx, Option.map_eq_some_iff] at hk
      obtain ⟨i, hi, rfl⟩ := hk
      rw [List.eraseIdx_cons_succ, List.eraseIdx_cons_succ, mget_cons, mget_cons, mget_del a b ks xs i (by simpa using h) hi hb]
theorem mget_mem {ks xs : List (List UInt8)} {b : List UInt8} (h : ks.length = xs.length) (hb : b ∈ ks) : ∃ v, mget ks xs b = some v := by
  cases hf : kfind ks b with
  | none => exact absurd hb (kfind_none.1 hf)
  | some j =>
    have := (List.getElem?_eq_some_iff.1 (kfind_some hf)).1
    exact ⟨xs[j]'(by omega), mget_some hf (List.getElem?_eq_getElem _)⟩
theorem mget_kf {ks xs : List (List UInt8)} {b : List UInt8} (hl : ks.length = xs.length) (h : mget ks xs b = none) : kfind ks b = none := by
  cases hf : kfind ks b with
  | none => rfl
  | some j =>
    obtain ⟨v, hv⟩ := mget_mem hl (List.mem_of_getElem? (kfind_some hf))
    rw [hv] at h; cases h
theorem clone_ok (s : List UInt8) (h : s.length ≤ 16000000) : m_slices_Clone_byte_byte s = some s := by
  unfold m_slices_Clone_byte_byte
  rw [app_ok (by simp; omega)]
  simp only [Option.bind_some, List.nil_append]
theorem tag_eq (k n : Int) (ks xs : List (List UInt8)) (name data v : List UInt8) (h : mget ks xs name = some v) :
    m_mac_Ring_Tag_m k n ks xs name data = (m_mac_digest k n v [] [] data).bind fun r => some (r.1, r.2, k, n, ks, xs) := by
  unfold m_mac_Ring_Tag_m m_mac_Ring_none_m
  simp only [Option.bind_some, h, Option.elim_some]
end Go.Sx

