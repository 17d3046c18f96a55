import Derived.Test.YtfaaochjaajpjaaDoorSyU
namespace Go.Sx
open Go.RowKit
set_option linter.unusedSimpArgs false
set_option linter.unusedVariables false
variable {γ δ : Type}

/-! ### a law's parameter that is a slice of structs that hold slices -/
def TotG (wt : δ → Nat) : List δ → Nat
  | [] => 0
  | x :: xs => wt x + TotG wt xs
def FamG {H : Type} (m : DataW H → δ → Prop) : List (DataW H) → List δ → Prop
  | [], [] => True
  | d :: ds, x :: xs => m d x ∧ FamG m ds xs
  | _, _ => False
theorem FamG.of {H : Type} {m : DataW H → δ → Prop} : ∀ (ds : List (DataW H)) (xs : List δ), ds.length = xs.length → (∀ (i : Nat) (d : DataW H) (x : δ), ds[i]? = some d → xs[i]? = some x → m d x) → FamG m ds xs
  | [], [], _, _ => trivial
  | [], _ :: _, h, _ => by cases h
  | _ :: _, [], h, _ => by cases h
  | d :: ds, x :: xs, h, hq => ⟨hq 0 d x rfl rfl, FamG.of ds xs (by simpa using h) fun i d' x' h1 h2 => hq (i + 1) d' x' h1 h2⟩
theorem FamG.tot {H : Type} {wt : δ → Nat} {bulk : DataW H → Nat} {bulkAll : List (DataW H) → Nat} (h0 : ∀ d ds, bulkAll (d :: ds) = bulk d + bulkAll ds) : ∀ (ds : List (DataW H)) (xs : List δ), FamG (fun d x => wt x ≤ bulk d) ds xs → TotG wt xs ≤ bulkAll ds
  | [], [], _ => Nat.zero_le _
  | [], _ :: _, h => h.elim
  | _ :: _, [], h => h.elim
  | d :: ds, x :: xs, ⟨h, hr⟩ => by
    have := FamG.tot h0 ds xs hr
    simp only [TotG, h0]
    omega
section
variable {H : Type} {enc : TypeId × Value → H} {P : Program} {w : World} {held : Bool}
theorem open_rg {t e : TypeId} {fuel : Nat} {cs : List Value} {x : DataW H × List MemPlace} (E : Enc γ) (r : γ → δ → Prop) (m : DataW H → δ → Prop) (ht : P.underlying t = some (.slice e)) (hce : P.cellsOf e = E.sz)
    (hel : ∀ fuel cs (x : DataW H × List MemPlace), DataW.trod enc P w 0 (fun _ => true) held fuel e cs = some x → ∃ (y : γ) (z : δ), cs = E.f y ∧ r y z ∧ m x.1 z)
    (h : DataW.trod enc P w 0 (fun _ => true) held fuel t cs = some x) :
    ∃ (A : Option Addr) (len cap : Nat) (ys : List γ) (xs : List δ), cs = [.slice A len cap] ∧ RoG N0 w E r A ys xs ∧ xs.length = len ∧ len ≤ cap ∧ (xs = [] ∨ ∃ ds rest, x.1 = .slice ds rest ∧ FamG m ds xs) := by
  rcases DataW.trod_slice ht h with ⟨rfl, rfl⟩ | ⟨a, len, cap, elems, rest, n, rfl, rfl, rfl, _, hl, _, hlen, hel2, _, _⟩
  · exact ⟨Option.none, 0, 0, [], [], rfl, RoG.nil, rfl, by omega, .inl rfl⟩
  · have key : ∀ i, i < len → ∃ y : γ × δ, w.cells? 0 (a.add (i * E.sz)) E.sz = some (E.f y.1) ∧ r y.1 y.2 ∧ ∃ d, elems[i]? = some d ∧ m d.1 y.2 := by
      intro i hi
      have h1 := hel2 i hi
      have h2 : elems[i]? = some (elems[i]'(by omega)) := List.getElem?_eq_getElem _
      rw [h2, hce, Option.bind_eq_some_iff] at h1
      obtain ⟨cs', hcs, hy⟩ := h1
      obtain ⟨y, z, rfl, hr, hm⟩ := hel _ _ _ hy
      exact ⟨(y, z), hcs, hr, _, h2, hm⟩
    obtain ⟨l, hll, hl2⟩ := exlist len key
    have hget : ∀ (j : Nat) (y : γ) (x : δ), (l.map (·.1))[j]? = some y → (l.map (·.2))[j]? = some x → l[j]? = some (y, x) := by
      intro j h x h1 h2
      rw [List.getElem?_map, Option.map_eq_some_iff] at h1 h2
      obtain ⟨y, hy, rfl⟩ := h1
      obtain ⟨y', hy', rfl⟩ := h2
      rw [hy] at hy'
      obtain rfl := Option.some.inj hy'
      exact hy
    refine ⟨some a, len, cap, l.map (·.1), l.map (·.2), rfl, ⟨Ro.n0 ⟨fun _ => ⟨a, rfl⟩, ?_⟩, by simp, ?_⟩, by simp [hll], hl, .inr ⟨_, _, rfl, ?_⟩⟩
    · intro a' j u ha hu
      obtain rfl := Option.some.inj ha
      by_cases hz : E.sz = 0
      · have hq := (List.getElem?_eq_some_iff.1 hu).1
        rw [Enc.all_length, hz, Nat.mul_zero] at hq
        omega
      · have hq := (List.getElem?_eq_some_iff.1 hu).1
        rw [Enc.all_length, List.length_map] at hq
        have hi : j / E.sz < l.length := Nat.div_lt_of_lt_mul (by rw [Nat.mul_comm]; exact hq)
        have hmod : j % E.sz < E.sz := Nat.mod_lt _ (by omega)
        have hy : l[j / E.sz]? = some (l[j / E.sz]) := List.getElem?_eq_getElem _
        obtain ⟨h1, _⟩ := hl2 _ _ hy
        obtain ⟨_, h3, h4⟩ := World.cells?_some h1
        have h5 := h4 (j % E.sz) hmod
        rw [Addr.add_add, Nat.mul_comm, Nat.div_add_mod] at h5
        rw [h5]
        have h6 := Enc.all_at E (xs := l.map (·.1)) (j := j / E.sz) (x := (l[j / E.sz]).1) (by rw [List.getElem?_map, hy]; rfl)
        rw [← h6, List.getElem?_take_of_lt hmod, List.getElem?_drop, Nat.mul_comm, Nat.div_add_mod]
        exact hu
    · intro j h x h1 h2
      exact (hl2 j _ (hget j h x h1 h2)).2.1
    · refine FamG.of _ _ (by simp [hll, hlen]) fun i d x h1 h2 => ?_
      rw [List.getElem?_map, Option.map_eq_some_iff] at h1 h2
      obtain ⟨y, hy, rfl⟩ := h1
      obtain ⟨z, hz, rfl⟩ := h2
      obtain ⟨_, _, d', hd', hq⟩ := hl2 i z hz
      rw [hy] at hd'
      obtain rfl := Option.some.inj hd'
      exact hq
end
end Go.Sx
