import Derived.Test.YtfaaochjaajpjaaDoorSyI
namespace Go.Sx
open Go.RowKit
set_option linter.unusedSimpArgs false
set_option linter.unusedVariables false
variable {α β : Type}

/-! ### words for the printed walks -/
abbrev I (n : Int) : SV := .i .i64 n
abbrev sl (A : Option Addr) (n c : Nat) : SV := .v (.slice A n c)
abbrev pt (g off : Nat) : SV := .v (.pointer (some ⟨g, off, none⟩))
abbrev w64 (n : Int) : Int := IntKind.i64.wrap n

theorem exit_of {σ ρ : Type} {e : Option ρ} {y : σ ⊕ ρ} {r : ρ} (hm : e.map Sum.inr = some y) (hr : ∀ r', y = .inr r' → r' = r) : e = some r := by
  simp only [Option.map_eq_some_iff] at hm
  obtain ⟨r', he, hy⟩ := hm
  rw [he, hr r' hy.symm]

/-- an element -/
def geti (xs : List α) (i : Int) : Option α := if 0 ≤ i then xs[i.toNat]? else none
theorem geti_some {xs : List α} {i : Int} {x : α} (h : geti xs i = some x) : 0 ≤ i ∧ xs[i.toNat]? = some x := by
  unfold geti at h
  split at h
  · exact ⟨by assumption, h⟩
  · cases h
theorem geti_lt {xs : List α} {i : Int} {x : α} (h : geti xs i = some x) : 0 ≤ i ∧ i < xs.length := by
  obtain ⟨h1, h2⟩ := geti_some h
  have := (List.getElem?_eq_some_iff.1 h2).1
  omega
theorem geti_nat {xs : List α} {i : Nat} (h : i < xs.length) : geti xs (i : Int) = some xs[i] := by
  unfold geti
  rw [if_pos (by omega)]
  simp [h]
/-- an element, where a guard holds -/
def gif {β : Type} [Inhabited β] (c : Bool) (o : Option β) : Option β := if c then o else some default
theorem gif_some {β : Type} [Inhabited β] {c : Bool} {o : Option β} {x : β} (h : gif c o = some x) (hc : c = true) : o = some x := by
  subst hc; simpa [gif] using h
theorem gif_not {β : Type} [Inhabited β] {c : Bool} {o : Option β} {x : β} (h : gif (!c) o = some x) (hc : c = false) : o = some x := by
  subst hc; simpa [gif] using h

/-- a cut out of a list -/
def slc (xs : List α) (lo hi : Int) : Option (List α) := if 0 ≤ lo ∧ lo ≤ hi ∧ hi ≤ xs.length then some ((xs.take hi.toNat).drop lo.toNat) else none
theorem slc_some {xs ys : List α} {lo hi : Int} (h : slc xs lo hi = some ys) : 0 ≤ lo ∧ lo ≤ hi ∧ hi ≤ xs.length ∧ ys = (xs.take hi.toNat).drop lo.toNat := by
  unfold slc at h
  split at h
  · rename_i hc
    simp only [Option.some.injEq] at h
    exact ⟨hc.1, hc.2.1, hc.2.2, h.symm⟩
  · cases h
theorem slc_len {xs ys : List α} {lo hi : Int} (h : slc xs lo hi = some ys) : ys.length = hi.toNat - lo.toNat := by
  obtain ⟨h1, h2, h3, rfl⟩ := slc_some h
  simp
  omega

/-- the header of a cut -/
theorem slx (A : Option Addr) (l m s n n' : Nat) (hn : n = n') (hm : n' ≤ m - l) : ∃ A2 c2, Value.slice (slA A l m s) n (m - l) = .slice A2 n' c2 ∧ n' ≤ c2 ∧ A2 = slA A l m s ∧ c2 = m - l := by
  subst hn
  exact ⟨_, _, rfl, hm, rfl, rfl⟩
theorem slA_zero (A : Option Addr) (m s : Nat) : slA A 0 m s = A := by
  unfold slA
  split
  · rfl
  · cases A with
    | none => rfl
    | some a => simp [Addr.add]
/-- the header of a beginning -/
theorem slx0 (A : Option Addr) (m s n n' : Nat) (hn : n = n') : Value.slice (slA A 0 m s) (n - 0) (m - 0) = .slice A n' m := by
  rw [slA_zero]; subst hn; rfl
theorem Rd.cut {w : World} {A A2 : Option Addr} {E : Enc α} {xs ys : List α} {lo hi : Int} {l m s : Nat} (h : Rd w A (E.all xs)) (hs : slc xs lo hi = some ys) (hl : l = lo.toNat) (hsz : s = E.sz) (hA : A2 = slA A l m s) (hm : hi.toNat ≤ m) : Rd w A2 (E.all ys) := by
  obtain ⟨h1, h2, h3, rfl⟩ := slc_some hs
  subst hA; subst hl; subst hsz
  by_cases he : m = lo.toNat
  · have : (xs.take hi.toNat).drop lo.toNat = [] := by
      apply List.eq_nil_of_length_eq_zero
      simp; omega
    rw [this]
    exact ⟨fun h => absurd rfl h, fun _ j u _ hu => by simp [Enc.all] at hu⟩
  · unfold slA
    rw [if_neg he]
    rw [← Enc.all_drop, ← Enc.all_take]
    refine ⟨fun hne => ?_, fun a j u ha hu => ?_⟩
    · obtain ⟨a, ha⟩ := h.1 (by intro e; rw [e] at hne; simp at hne)
      exact ⟨_, by rw [ha]; rfl⟩
    · simp only [Option.map_eq_some_iff] at ha
      obtain ⟨b, hb, rfl⟩ := ha
      rw [add_of_add]
      refine h.2 b _ u hb ?_
      rw [List.getElem?_drop, List.getElem?_take] at hu
      split at hu
      · exact hu
      · cases hu
theorem Rd.pre {w : World} {A : Option Addr} {E : Enc α} {xs ys : List α} {lo hi : Int} (h : Rd w A (E.all xs)) (hs : slc xs lo hi = some ys) (hl : lo = 0) : Rd w A (E.all ys) := by
  have := h.cut hs rfl rfl (l := lo.toNat) (m := hi.toNat + 1) rfl (by omega)
  subst hl
  rwa [show Int.toNat 0 = 0 from rfl, slA_zero] at this
theorem Ro.cut {F : Nat → Prop} {w : World} {A A2 : Option Addr} {E : Enc α} {xs ys : List α} {lo hi : Int} {l m s : Nat} (h : Ro F w A (E.all xs)) (hs : slc xs lo hi = some ys) (hl : l = lo.toNat) (hsz : s = E.sz) (hA : A2 = slA A l m s) (hm : hi.toNat ≤ m) : Ro F w A2 (E.all ys) := by
  refine ⟨h.1.cut hs hl hsz hA hm, fun hne a ha => ?_⟩
  have h2 : E.all xs ≠ [] := by
    intro e
    apply hne
    obtain ⟨_, _, _, rfl⟩ := slc_some hs
    rw [← Enc.all_drop, ← Enc.all_take, e]
    simp
  subst hA
  unfold slA at ha
  split at ha
  · exact h.2 h2 a ha
  · simp only [Option.map_eq_some_iff] at ha
    obtain ⟨b, hb, rfl⟩ := ha
    rw [addr_add_block]
    exact h.2 h2 b hb
theorem Ro.pre {F : Nat → Prop} {w : World} {A : Option Addr} {E : Enc α} {xs ys : List α} {lo hi : Int} (h : Ro F w A (E.all xs)) (hs : slc xs lo hi = some ys) (hl : lo = 0) : Ro F w A (E.all ys) := by
  have := h.cut hs rfl rfl (l := lo.toNat) (m := hi.toNat + 1) rfl (by omega)
  subst hl
  rwa [show Int.toNat 0 = 0 from rfl, slA_zero] at this

/-- a step that is asked for room -/
def app (xs ys : List α) (b : Nat) : Option (List α) := if (xs.length + ys.length) * b ≤ 140737488355328 then some (xs ++ ys) else none
theorem app_some {xs ys zs : List α} {b : Nat} (h : app xs ys b = some zs) : (xs.length + ys.length) * b ≤ 140737488355328 ∧ zs = xs ++ ys := by
  unfold app at h
  split at h
  · simp only [Option.some.injEq] at h; exact ⟨by assumption, h.symm⟩
  · cases h
def need (p : Prop) [Decidable p] : Option Unit := if p then some () else none
theorem need_some {p : Prop} [Decidable p] {u : Unit} (h : need p = some u) : p := by
  unfold need at h
  split at h
  · assumption
  · cases h


/-! ### elements -/
theorem ixA_some {A : Option Addr} (i : Int) (s : Nat) (h : A.isSome = true) : (ixA A i s).isSome = true := by
  cases A with
  | none => cases h
  | some a => rfl
theorem fa_some {A : Option Addr} (k : Nat) (h : A.isSome = true) : (fa A k).isSome = true := by
  cases A with
  | none => cases h
  | some a => rfl
theorem Rd.ix {w : World} {A : Option Addr} {E : Enc α} {xs : List α} {i : Int} {x : α} {n : Nat} (h : Rd w A (E.all xs)) (hg : geti xs i = some x) (hn : xs.length = n) (hsz : 0 < E.sz) : 0 ≤ i ∧ i < (n : Int) ∧ A.isSome = true := by
  have h1 := geti_lt hg
  exact ⟨h1.1, by omega, E_ix h hsz h1.1 (geti_some hg).2⟩
theorem Rd.el {w : World} {A p : Option Addr} {E : Enc α} {xs : List α} {i : Int} {x : α} {k : Nat} {v : Value} (h : Rd w A (E.all xs)) (hg : geti xs i = some x) (hp : Pt A (i.toNat * E.sz + k) p) (hv : (E.f x)[k]? = some v) : ∃ a, p = some a ∧ w.cell? a = some v :=
  h.cellP hp (E.all_cell (geti_some hg).2 hv)
theorem Rd.els {w : World} {A p : Option Addr} {E : Enc α} {xs : List α} {i : Int} {x : α} {k m : Nat} {vs : List Value} (h : Rd w A (E.all xs)) (hg : geti xs i = some x) (hp : Pt A (i.toNat * E.sz + k) p) (hv : ((E.f x).drop k).take m = vs) (hm : 0 < m) (hkm : k + m ≤ E.sz) : ∃ a, p = some a ∧ Rd w (some a) vs := by
  obtain ⟨h0, hx⟩ := geti_some hg
  have hlt := (List.getElem?_eq_some_iff.1 hx).1
  have hle : i.toNat * E.sz + k + m ≤ (E.all xs).length := by
    rw [Enc.all_length]
    have : (i.toNat + 1) * E.sz ≤ xs.length * E.sz := Nat.mul_le_mul_right _ (by omega)
    rw [Nat.add_mul] at this
    omega
  obtain ⟨a, ha, hr⟩ := h.partP hp hle hm
  refine ⟨a, ha, ?_⟩
  rw [← hv]
  have e := E.all_at hx
  rw [← e, List.drop_take, List.take_take, List.drop_drop]
  rwa [show min m (E.sz - k) = m from by omega]
theorem Pt.ix1 (A : Option Addr) (i : Int) (s : Nat) : Pt A (i.toNat * s + 0) (ixA A i s) := by
  have := (Pt.refl A).ix i s
  rwa [Nat.zero_add] at this
theorem Pt.fa2 {A p : Option Addr} {t j : Nat} (h : Pt A (t + j) p) (k : Nat) : Pt A (t + (j + k)) (Sx.fa p k) := by
  have := h.fa k
  rwa [Nat.add_assoc] at this

/-! ### arrays of variables -/
/-- an array -/
def Vec.rep (n : Nat) (x : α) : Vec α n := ⟨List.replicate n x, by simp⟩
def vst {n : Nat} (x : Vec α n) (i : Int) (y : α) : Vec α n := ⟨x.l.set i.toNat y, by simp [x.h]⟩
def vcp {n : Nat} (x : Vec α n) (lo m : Nat) (ys : List α) : Vec α n := if h : lo + m ≤ n then ⟨lcp x.l lo m ys, by rw [lcp_length (by rw [x.h]; exact h), x.h]⟩ else x
theorem Rd.vec {w : World} {g : Nat} {ys : List SV} {off : Nat} {c : List Value} (h : Rd w (some ⟨g, 0, none⟩) (SV.cl ys)) (hd : ((dropS off ys).bind List.head?).map (fun v => (v.isVec, v.val)) = some (true, .agg ⟨c⟩)) : Rd w (some ⟨g, off, none⟩) c := by
  simp only [Option.map_eq_some_iff, Option.bind_eq_some_iff, Prod.mk.injEq] at hd
  obtain ⟨v, ⟨l, hl, hh⟩, hv1, hv2⟩ := hd
  obtain ⟨e1, e2⟩ := dropS_spec _ _ _ hl
  cases l with
  | nil => cases hh
  | cons y l =>
    simp only [List.head?_cons, Option.some.injEq] at hh
    subst hh
    cases y with
    | vec n z =>
      simp only [SV.val, Value.agg.injEq, Array.mk.injEq] at hv2
      subst hv2
      refine ⟨fun _ => ⟨_, rfl⟩, fun a j u ha hu => ?_⟩
      cases ha
      have e3 : (SV.cl ys)[off + j]? = some u := by
        rw [← List.getElem?_drop, e1, cl_vec, List.getElem?_append_left (List.getElem?_eq_some_iff.1 hu).1]
        exact hu
      have := h.2 ⟨g, 0, none⟩ (off + j) u rfl e3
      rw [add0] at this ⊢
      simpa using this
    | _ => cases hv1
theorem cl_vput (pre post : List SV) {n : Nat} (c c' : Cells n) (k : Nat) (vs : List Value) (h : c'.l = pat c.l k vs) (hk : k + vs.length ≤ n) : SV.cl (pre ++ .vec n c' :: post) = pat (SV.cl (pre ++ .vec n c :: post)) (SV.width pre + k) vs := by
  rw [cl_app, cl_app, cl_vec, cl_vec, h, ← cl_length, ← List.append_assoc, ← List.append_assoc]
  rw [pat_mid _ _ _ _ _ (by rw [c.h]; exact hk)]
theorem width_app (xs ys : List SV) : SV.width (xs ++ ys) = SV.width xs + SV.width ys := by
  rw [← cl_length, cl_app, List.length_append, cl_length, cl_length]
theorem Pt.at (g off : Nat) : Pt (Option.some ⟨g, 0, none⟩) off (Option.some ⟨g, off, none⟩) := fun _ => by simp [Sx.fa, add0]
theorem Pt.ix0 {A p : Option Addr} {o : Nat} (h : Pt A o p) (i : Int) (s : Nat) : Pt A (o + (i.toNat * s + 0)) (ixA p i s) := h.ix i s
theorem Pt.fa1 {A p : Option Addr} {o t j : Nat} (h : Pt A (o + (t + j)) p) (k : Nat) : Pt A (o + (t + (j + k))) (Sx.fa p k) := by
  have := h.fa k
  rwa [Nat.add_assoc, Nat.add_assoc] at this

section
variable {P : Program} {n : Nat} {ops : Array Oper} {L : St} {w w0 : World} {F O : Nat → Prop} {hs : List HP} {K : St → World → Prop}
/-- an element of a variable's array -/
theorem Op_vst {ty t : TypeId} {p x : Operand} {pos : String} {aft : Array Edge} {g : Option (Nat × Bool)} {E : Enc α} (ss : List Nat) (i : Nat) {pa : Option Addr} {sv : SV} {svs : List SV} {bt : TypeId} {b : Nat} (pre post : List SV) {m : Nat} (x0 : Vec α m) {j : Int} {e0 : α} (y : α) {kk : Nat}
    (hside : (gok ops ss L (⟨none, .store t p x, ty, pos, aft, g⟩ : Oper), (none : Option Nat), (toSS [p, x] (lk L)).map SV.vals, szOf P t, cellsS sv, svs.all SV.one1) = (true, none, some [.pointer pa, sv.val], some (SV.width svs), some svs, true))
    (hp : Pt (some ⟨b, 0, none⟩) (SV.width pre + (j.toNat * E.sz + kk)) pa) (k : Cx F O w0 w hs) (hi : hs[i]? = some (Bx bt b (pre ++ .vec (m * E.sz) (E.vec x0) :: post))) (hx : geti x0.l j = some e0) (hy : E.f y = pat (E.f e0) kk (SV.cl svs)) (hl : kk + SV.width svs ≤ E.sz)
    (hk : ∀ w', Cx F O w0 w' (hs.set i (Bx bt b (pre ++ .vec (m * E.sz) (E.vec (vst x0 j y)) :: post))) → K L w') :
    Op1 P n ops L w ⟨none, .store t p x, ty, pos, aft, g⟩ K := by
  obtain ⟨h0, hx'⟩ := geti_some hx
  have hlt := (List.getElem?_eq_some_iff.1 hx').1
  rw [x0.h] at hlt
  have h1 : j.toNat * E.sz + kk + SV.width svs ≤ m * E.sz := by
    have : (j.toNat + 1) * E.sz ≤ m * E.sz := Nat.mul_le_mul_right _ (by omega)
    rw [Nat.add_mul] at this
    omega
  refine Op_bst ss i (pre ++ .vec (m * E.sz) (E.vec (vst x0 j y)) :: post) hside hp k hi (cl_vput pre post (E.vec x0) (E.vec (vst x0 j y)) _ _ (E.all_set hx' hy (by rw [cl_length]; exact hl)) (by rw [cl_length]; exact h1)) ?_ hk
  rw [width_app]
  simp only [SV.width]
  omega
/-- copy into a variable's array -/
theorem Op_vcp {dst : Option Nat} {x y : Operand} {t t2 ty : TypeId} {pos : String} {aft : Array Edge} {g : Option (Nat × Bool)} {e : TypeId} {zs : List Value} {bytes : Nat} (tf : TF P t e zs bytes) {E : Enc α} (ss : List Nat) (d i : Nat) {pa : Option Addr} {lo dn dc m m' : Nat} {v : SV} {src : List α} {bt : TypeId} {b : Nat} (pre post : List SV) {N : Nat} (x0 : Vec α N)
    (hside : (gok ops ss L ⟨dst, .call ⟨.builtin .copy, #[x, y], #[t, t2]⟩, ty, pos, aft, g⟩, dst, (decide (d < n)), (L.any fun p => p.1 == d), (toSS [x, y] (lk L)).map SV.vals, E.sz) = (true, some d, true, false, some [.slice pa dn dc, v.val], zs.length))
    (hp : pa = slA (some ⟨b, SV.width pre, none⟩) lo m' E.sz) (k : Cx F O w0 w hs) (hi : hs[i]? = some (Bx bt b (pre ++ .vec (N * E.sz) (E.vec x0) :: post))) (hx : Src P zs.length w v.val m (E.all src)) (hm : src.length = m) (hl : lo + dn ≤ N) (hdc : dn ≤ m' - lo) (hm' : m' ≤ N)
    (hk : ∀ w', Cx F O w0 w' (hs.set i (Bx bt b (pre ++ .vec (N * E.sz) (E.vec (vcp x0 lo dn src)) :: post))) → K ((d, .i .i64 (min m dn : Nat)) :: L) w') :
    Op1 P n ops L w ⟨dst, .call ⟨.builtin .copy, #[x, y], #[t, t2]⟩, ty, pos, aft, g⟩ K := by
  simp only [Prod.mk.injEq] at hside
  obtain ⟨s1, s2, s3, s4, s5, hE⟩ := hside
  have hle : lo * E.sz + dn * E.sz ≤ N * E.sz := by rw [← Nat.add_mul]; exact Nat.mul_le_mul_right _ hl
  refine Op_bcp tf ss d i (off := SV.width pre + lo * E.sz) (pre ++ .vec (N * E.sz) (E.vec (vcp x0 lo dn src)) :: post) (by rw [s1, s2, s3, s4, s5]) hE ?_ k hi hx hm ?_ ?_ ?_ hk
  · intro _
    subst hp
    unfold slA
    split
    · exact ⟨rfl, fun hd => by omega⟩
    · exact ⟨rfl, fun _ => by simp [fa, add0]⟩
  · refine cl_vput pre post (E.vec x0) (E.vec (vcp x0 lo dn src)) _ _ ?_ ?_
    · show E.all (vcp x0 lo dn src).l = _
      unfold vcp
      rw [dif_pos hl]
      exact lcp_all E (by rw [x0.h]; exact hl)
    · rw [Enc.all_length]
      have : (src.take dn).length * E.sz ≤ dn * E.sz := Nat.mul_le_mul_right _ (by rw [List.length_take]; omega)
      omega
  · rw [width_app]
    simp only [SV.width]
    omega
  · intro a ha
    subst hp
    unfold slA at ha
    rw [width_app]
    simp only [SV.width]
    split at ha
    · simp only [Option.some.injEq] at ha; subst ha; exact ⟨rfl, rfl, by simp⟩
    · rename_i hne
      simp only [Option.map_some, Option.some.injEq] at ha
      subst ha
      rw [add0]
      exact ⟨rfl, rfl, by simp only; omega⟩
end

end Go.Sx
