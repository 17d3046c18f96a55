import Derived.Test.YtfaaochjaajpjaaDoorSyM
namespace Go.Sx
open Go.RowKit
set_option linter.unusedSimpArgs false
set_option linter.unusedVariables false
variable {α β : Type}

instance {n : Nat} [Inhabited α] : Inhabited (Vec α n) := ⟨Vec.rep n default⟩
def Vec.of [Inhabited α] (n : Nat) (l : List α) : Vec α n := if h : l.length = n then ⟨l, h⟩ else Vec.rep n default
theorem Vec.of_l [Inhabited α] {n : Nat} {l : List α} (h : l.length = n) : (Vec.of n l).l = l := by
  unfold Vec.of
  rw [dif_pos h]
def appz (xs : List α) (l : Int) (z : α) (b : Nat) : Option (List α) := if 0 ≤ l ∧ (xs.length + l.toNat) * b ≤ 140737488355328 then some (xs ++ List.replicate l.toNat z) else none
theorem appz_some {xs ys : List α} {l : Int} {z : α} {b : Nat} (h : appz xs l z b = some ys) : 0 ≤ l ∧ (xs.length + l.toNat) * b ≤ 140737488355328 ∧ ys = xs ++ List.replicate l.toNat z := by
  unfold appz at h
  split at h
  · rename_i hc
    simp only [Option.some.injEq] at h
    exact ⟨hc.1, hc.2, h.symm⟩
  · cases h
/-- an array among a struct's cells -/
abbrev SV.ar (E : Enc α) {n : Nat} (x : Vec α n) : SV := .vec (n * E.sz) (E.vec x)

section
variable {P : Program} {n : Nat} {Q : Exit → Act → World → Prop} {ops : Array Oper} {L : St} {w w0 : World} {F O : Nat → Prop} {hs : List HP} {K : St → World → Prop}

theorem W_cutr {x : Code} (K : St → World → Prop) (h1 : W P n x (Exit.then (fun a w => ∃ L, Fu n a (Kn L) ∧ K L w) Q) L w) (h2 : ∀ L w, K L w → At n (Q .normal) L w) : W P n x Q L w := by
  intro a ha
  refine wp_mono (h1 a ha) ?_
  intro e a' w' hq
  cases e with
  | normal => obtain ⟨L', hf, hk⟩ := hq; exact h2 L' w' hk a' hf
  | _ => exact hq

theorem Rd.nil (E : Enc α) (w : World) : Rd w none (E.all ([] : List α)) := ⟨fun h => absurd rfl h, fun _ _ _ h => by cases h⟩
theorem Ro.nilE (E : Enc α) : Ro F w none (E.all ([] : List α)) := Ro.nil (A := none)
theorem Src.sl {E : Enc α} {A : Option Addr} {xs : List α} {m c sz : Nat} (h : Rd w A (E.all xs)) (hn : xs.length = m) (hs : E.sz = sz) : Src P sz w (.slice A m c) m (E.all xs) :=
  Src.slice h (by rw [Enc.all_length, hn, hs])
theorem slc_pre {xs ys : List α} {lo hi : Int} (h : slc xs lo hi = some ys) (h0 : lo = 0) : ys = xs.take ys.length := by
  obtain ⟨h1, h2, h3, h4⟩ := slc_some h
  have hl := slc_len h
  rw [hl]
  subst h0
  rw [h4]
  simp
theorem ar_ix {E : Enc α} {m : Nat} {x : Vec α m} {i : Int} {y : α} {v : Value} (h : geti x.l i = some y) (hv : (E.f y)[0]? = some v) : (0 ≤ i ∧ i < ((m : Nat) : Int)) ∧ (SV.cl [SV.ar E x])[i.toNat * E.sz]? = some v := by
  have h1 := geti_lt h
  rw [x.h] at h1
  refine ⟨h1, ?_⟩
  rw [cl_vec]
  have := E.all_cell (geti_some h).2 hv
  simp only [SV.cl, List.append_nil]
  show (E.all x.l)[i.toNat * E.sz]? = some v
  simpa using this
theorem ar_ixs {E : Enc α} {m : Nat} {x : Vec α m} {i : Int} {y : α} {vs : List Value} (h : geti x.l i = some y) (hv : E.f y = vs) : (0 ≤ i ∧ i < ((m : Nat) : Int)) ∧ ((SV.cl [SV.ar E x]).drop (i.toNat * E.sz)).take E.sz = vs := by
  have h1 := geti_lt h
  rw [x.h] at h1
  refine ⟨h1, ?_⟩
  rw [cl_vec, ← hv]
  simp only [SV.cl, List.append_nil]
  exact E.all_at (geti_some h).2
theorem At_end {fn : Func} {R : Ending → World → Prop} (os : List SV) (xs : List SV) (cs : List Cond) (hr : resS P fn.results.toList L os = some (xs, cs, [])) (hc : All cs w) (h : R (.returned (resOf xs).val) w) : At n (bodyPost P fn R .normal) L w :=
  At_ret (P := P) (fn := fn) os xs cs hr hc h
theorem cl_ar {E : Enc α} {m : Nat} (x : Vec α m) : SV.cl [SV.ar E x] = (eV E m).f x := by
  rw [cl_vec]
  show E.all x.l ++ [] = E.all x.l
  rw [List.append_nil]
/-- an array within a row -/
theorem Rd.elV {w : World} {A p : Option Addr} {E : Enc α} {m : Nat} {xs : List (Vec α m)} {i : Int} {x : Vec α m} (h : Rd w A ((eV E m).all xs)) (hg : geti xs i = some x) (hp : Pt A (i.toNat * (eV E m).sz + 0) p) (hm : 0 < (eV E m).sz) : ∃ a, p = some a ∧ Rd w (some a) (SV.cl [SV.ar E x]) := by
  rw [cl_ar]
  refine h.els hg hp ?_ hm (by omega)
  rw [List.drop_zero]
  have := (eV E m).len x
  rw [← this, List.take_length]
theorem ar_ixV {E : Enc α} {k m : Nat} {x : Vec (Vec α k) m} {i : Int} {y : Vec α k} (h : geti x.l i = some y) : (0 ≤ i ∧ i < ((m : Nat) : Int)) ∧ ((SV.cl [SV.ar (eV E k) x]).drop (i.toNat * (eV E k).sz)).take (eV E k).sz = SV.cl [SV.ar E y] :=
  ar_ixs h (cl_ar y).symm
/-- a variable's cell is read -/
theorem Cx.bld {t : TypeId} {g : Nat} {ys : List SV} (k : Cx F O w0 w hs) (i : Nat) (hi : hs[i]? = some (Bx t g ys)) (off : Nat) (v : SV) (h : (cellS off ys).map SV.val = some v.val) : ∃ a, some (⟨g, off, none⟩ : Addr) = some a ∧ w.cell? a = some v.val := by
  simp only [Option.map_eq_some_iff] at h
  obtain ⟨x, hx, he⟩ := h
  rw [← he]
  exact (k.brd i hi).cellP (Pt.at g off) (cellS_spec hx).1
theorem Cx.blds {t : TypeId} {g : Nat} {ys : List SV} (k : Cx F O w0 w hs) (i : Nat) (hi : hs[i]? = some (Bx t g ys)) (off m : Nat) (zs : List SV) (h : (partsS off m ys).map SV.cl = some (SV.cl zs)) (hm : 0 < m) : ∃ a, some (⟨g, off, none⟩ : Addr) = some a ∧ Rd w (some a) (SV.cl zs) := by
  simp only [Option.map_eq_some_iff] at h
  obtain ⟨x, hx, he⟩ := h
  obtain ⟨e1, e2, e3⟩ := partsS_spec hx
  rw [← he, ← e1]
  exact (k.brd i hi).partP (Pt.at g off) (by rw [cl_length]; exact e3) hm
theorem Cx.bl0 {t : TypeId} {g : Nat} {ys : List SV} {v : Value} (k : Cx F O w0 w hs) (i : Nat) (hi : hs[i]? = some (Bx t g ys)) (h : (SV.cl ys)[0]? = some v) : w.cell? ⟨g, 0, none⟩ = some v := by
  obtain ⟨a, ha, hc⟩ := (k.brd i hi).cellP (Pt.at g 0) h
  cases ha
  exact hc
/-- a variable's part is written -/
theorem Op_bput {ty t : TypeId} {p x : Operand} {pos : String} {aft : Array Edge} {g : Option (Nat × Bool)} (ss : List Nat) (i : Nat) {pa : Option Addr} {sv : SV} {svs : List SV} {bt : TypeId} {b : Nat} {ys : List SV} (zs : List SV) {off : Nat}
    (hside : (gok ops ss L (⟨none, .store t p x, ty, pos, aft, g⟩ : Oper), (none : Option Nat), (toSS [p, x] (lk L)).map SV.vals, szOf P t, cellsS sv, svs.all SV.one1) = (true, none, some [.pointer pa, sv.val], some (SV.width svs), some svs, true))
    (hp : Pt (some ⟨b, 0, none⟩) off pa) (k : Cx F O w0 w hs) (hi : hs[i]? = some (Bx bt b ys)) (hz : (putS off (SV.width svs) svs ys).map SV.cl = some (SV.cl zs))
    (hk : ∀ w', Cx F O w0 w' (hs.set i (Bx bt b zs)) → K L w') :
    Op1 P n ops L w ⟨none, .store t p x, ty, pos, aft, g⟩ K := by
  simp only [Option.map_eq_some_iff] at hz
  obtain ⟨zs', hput, he⟩ := hz
  obtain ⟨e1, e2, e3, e4⟩ := putS_spec hput
  refine Op_bst ss i zs hside hp k hi ?_ e4 hk
  rw [← he, e1]
  unfold pat
  rw [cl_length]
end
end Go.Sx
