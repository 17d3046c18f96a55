import Derived.OpenShut
import Derived.ShutString
import Derived.ChangeOld
import Derived.Below
import Derived.JoinedCond
import Derived.MapKept
import Derived.Maps.RangeRun
import Derived.Sort.OwnSorted
import Derived.Sort.KeysCollected
import Derived.Shelf.Sort.Plain
import Derived.Shelf.Slices.In.SortNone
import Derived.Sort.OwnSortedInts
import Derived.Shelf.Strconv.Itoa3
import Derived.Laws.FloatArith
import Derived.Test.YtcpbhpebeoopkaaGreatK1
namespace Go.Sx
open Go.RowKit
set_option linter.unusedSimpArgs false
set_option linter.unusedVariables false
def QF : Exit -> Act -> World -> Prop := fun _ _ _ => False
section
variable {P : Program} {ops : Array Oper} {Ls : List Nat} {C : Nat -> World -> Prop}
def nx (Ls : List Nat) (p i : Nat) : Nat := if Ls.contains i then p + 1 else p
def wpC (P : Program) (ops : Array Oper) (Ls : List Nat) (C : Nat -> World -> Prop) (Q : Act -> World -> Prop) : Nat -> Nat -> Array Bool -> Act -> World -> Prop
  | 0, _, listed, a, w => Region.ready .any ops listed = [] /\ Q a w
  | k + 1, p, listed, a, w => (Region.ready .any ops listed = [] -> Q a w) /\
      ∀ i ∈ Region.ready .any ops listed, wpOp P ops QF i (fun a' w' => C (nx Ls p i) w' /\ wpC P ops Ls C Q k (nx Ls p i) (listed.setIfInBounds i true) a' w') a w
theorem wpOp_Q {i : Nat} {a : Act} {w : World} {K : Act -> World -> Prop} {Q : Exit -> Act -> World -> Prop} (h : wpOp P ops QF i K a w) : wpOp P ops Q i K a w := by
  unfold wpOp at *;split
  ·rename_i ho;simp only [ho] at h;exact h
  ·rename_i o ho;simp only [ho] at h;split
   ·rename_i hw;rw [if_pos hw] at h;rcases h with h | ⟨_, a', w', hf⟩
    ·exact .inl (Oper.wp_Q (fun _ _ _ hf => hf.elim) h)
    ·exact hf.elim
   ·rename_i hw;rw [if_neg hw] at h;exact h
theorem LZ {Q : Act -> World -> Prop} {Q' : Exit -> Act -> World -> Prop} (hq : ∀ a w, Q a w -> Q' .normal a w) : ∀ (k p : Nat) (listed : Array Bool) (a : Act) (w : World), wpC P ops Ls C Q k p listed a w -> wpAny P .any ops Q' k listed a w
  | 0, _, _, _, _, h => ⟨h.1, hq _ _ h.2⟩
  | k + 1, _, _, _, _, h => ⟨fun h0 => hq _ _ (h.1 h0), fun i hi => wpOp_mono (fun a' w' h' => LZ hq k _ _ a' w' h'.2) (wpOp_Q (h.2 i hi))⟩
def YC (P : Program) (ops : Array Oper) (C : World -> Prop) (o : Oper) (v : Value) (a : Act) : Prop :=
  (Region.wanted o (yielded ops a.tmps) = true /\ ∀ w, C w -> (execOp a.eval o).run P w = .ok (.value v) w) ∨ (Region.wanted o (yielded ops a.tmps) = false /\ v = undef)
theorem YC.op {D : World -> Prop} {i : Nat} {o : Oper} {v : Value} {a : Act} {w : World} {Q : Exit -> Act -> World -> Prop} (hi : ops[i]? = some o) (hy : YC P ops D o v a) (hw : D w) {K : Act -> World -> Prop} (h : K (a.put o.dst v) w) : wpOp P ops Q i K a w := by
  unfold wpOp;simp only [hi];rcases hy with ⟨h1, h2⟩ | ⟨h1, rfl⟩
  ·rw [if_pos h1];refine .inl ?_;unfold Oper.wp;rw [h2 w hw];exact h
  ·rw [if_neg (by simp [h1])];exact h
theorem wpOp_put {D : World -> Prop} {j : Nat} {oi oj : Oper} {v : Value} {w : World} (hj : ops[j]? = some oj) (hap : oi.apart ops oj = true) (hsi : ∀ cs b, oi.op ≠ .select cs b) (hsj : ∀ cs b, oj.op ≠ .select cs b) {K : Act -> World -> Prop} {a : Act}
    (hy : YC P ops D oi v a) (h : wpOp P ops QF j K (a.put oi.dst v) w) : wpOp P ops QF j (fun a' w' => YC P ops D oi v a' /\ K (a'.put oi.dst v) w') a w := by
  obtain ⟨h1, h2, h3⟩ := Oper.apart_spec hap;have keep : ∀ (u : Value), YC P ops D oi v (a.put oj.dst u) := fun u => by
    unfold YC at *;rw [execOp_put oi hsi a oj.dst u h3, wanted_put oi a oj.dst u h3];exact hy
  have keepD : ∀ (u : Value) (d : Deferred), YC P ops D oi v ({ a with defers := d :: a.defers }.put oj.dst u) := fun u d => by
    have h4 := keep u;unfold YC at *;have e1 : ({ a with defers := d :: a.defers } : Act).put oj.dst u = { a.put oj.dst u with defers := d :: a.defers } := by
      unfold Act.put;split <;> rfl
    rw [e1];exact h4
  unfold wpOp at *;simp only [hj] at *;rw [wanted_put oj a oi.dst v h1] at h;split
  ·rename_i hw;rw [if_pos hw] at h;rcases h with h | ⟨_, a', w', hf⟩
   ·refine .inl ?_;unfold Oper.wp at *;rw [execOp_put oj hsj a oi.dst v h1] at h;generalize (execOp a.eval oj).run P w = r at *;cases r with
    | ok x w' =>
      cases x <;> simp only [Oper.upon] at h ⊢ <;> first | exact h.elim | skip
      case value u => exact ⟨keep u, by rw [<- Act.put_comm a v u h2];exact h⟩
      case skip => exact ⟨keep _, by rw [<- Act.put_comm a v undef h2];exact h⟩
      case defer d =>
        refine ⟨keepD _ d, ?_⟩;have e1 : (({ a with defers := d :: a.defers } : Act).put oj.dst undef).put oi.dst v = ({ a.put oi.dst v with defers := d :: (a.put oi.dst v).defers } : Act).put oj.dst undef := by
          rw [<- Act.put_comm _ v undef h2];unfold Act.put;cases oi.dst <;> rfl
        rw [e1];exact h
      case enter f args =>
        refine h.mono fun e w'' he => ?_;cases e with
        | returned u => exact ⟨keep u, by rw [<- Act.put_comm a v u h2];exact he⟩
        | panicked c => exact he
        | outgrown => exact he
      case row row args =>
        refine h.mono fun u w'' he => ⟨keep u, by rw [<- Act.put_comm a v u h2];exact he⟩
    | halt x w' => cases x <;> simp only [Oper.upon] at h ⊢ <;> exact h
   ·exact hf.elim
  ·rename_i hw;rw [if_neg hw] at h;exact ⟨keep _, by rw [<- Act.put_comm a v undef h2];exact h⟩
def asks (ops : Array Oper) (j i : Nat) : Bool := match ops[j]? with
  | some o => o.after.any fun e => Region.binds .any e && e.on == i
  | none => false
def Cb (ops : Array Oper) (lst : Nat -> Bool) (j i : Nat) : Bool := asks ops j i || match ops[j]? with
  | some o => o.after.any fun e => Region.binds .any e && !lst e.on && asks ops e.on i
  | none => false
def ahead (ops : Array Oper) (Ls : List Nat) (listed : Array Bool) (i : Nat) : Nat := (Ls.filter fun j => !listed.getD j true && !Cb ops (fun x => listed.getD x false) j i).length
theorem Yx {i j : Nat} {oj : Oper} (hj : ops[j]? = some oj) (hnot : ∀ e ∈ oj.after, Region.binds .any e = true -> e.on ≠ i) : asks ops j i = false := by
  unfold asks;rw [hj];simp only [Array.any_eq_false'];intro e he;have := hnot e he;cases hb : Region.binds .any e with
  | false => simp
  | true => simpa using this hb
theorem OM {listed : Array Bool} {i j : Nat} (hj : j ∈ Region.ready .any ops listed) (hi : listed.getD i true = false) : Cb ops (fun x => listed.getD x false) j i = false := by
  obtain ⟨hjun, oj, hoj, hall⟩ := mem_ready.1 hj;have hi' : listed.getD i false = false := by
    rcases Nat.lt_or_ge i listed.size with h' | h'
    ·simp [h'] at hi ⊢;exact hi
    ·simp [Array.getElem?_eq_none h']
  unfold Cb;rw [Yx hoj (fun e he hb heq => by have := hall e he hb;rw [heq, hi'] at this;cases this), hoj];simp only [Bool.false_or, Array.any_eq_false'];intro e he;cases hb : Region.binds .any e with
  | false => simp
  | true => simp only [hall e he hb];simp
theorem OO {listed : Array Bool} {i j x : Nat} (hj : j ∈ Region.ready .any ops listed) (hi : listed.getD i true = false) (h : Cb ops (fun x => listed.getD x false) x i = true) : Cb ops (fun y => (listed.setIfInBounds j true).getD y false) x i = true := by
  have hji : asks ops j i = false := by
    have := OM hj hi;unfold Cb at this;rw [Bool.or_eq_false_iff] at this;exact this.1
  unfold Cb at h ⊢;rw [Bool.or_eq_true] at h ⊢;rcases h with h | h
  ·exact .inl h
  ·refine .inr ?_;cases ho : ops[x]? with
   | none => rw [ho] at h;cases h
   | some o =>
     rw [ho] at h;simp only [Array.any_eq_true'] at h ⊢;obtain ⟨e, he, hq⟩ := h;refine ⟨e, he, ?_⟩;simp only [Bool.and_eq_true, Bool.not_eq_true'] at hq ⊢;obtain ⟨⟨h1, h2⟩, h3⟩ := hq;refine ⟨⟨h1, ?_⟩, h3⟩;by_cases hje : j = e.on
     ·rw [<- hje, hji] at h3;cases h3
     ·rw [getD_set_ne false hje];exact h2
theorem Yy {listed : Array Bool} {i j : Nat} (hr : j ∈ Region.ready .any ops listed) (hi : listed.getD i true = false) : ahead ops Ls (listed.setIfInBounds j true) i <= ahead ops Ls listed i := by
  unfold ahead;rw [<- List.countP_eq_length_filter, <- List.countP_eq_length_filter];refine List.countP_mono_left fun x _ hx => ?_;simp only [Bool.and_eq_true, Bool.not_eq_true'] at hx ⊢;refine ⟨?_, ?_⟩
  ·by_cases hxj : j = x
   ·subst hxj;have := hx.1;rcases Nat.lt_or_ge j listed.size with h | h
    ·simp [h] at this
    ·simp [Array.getElem?_eq_none h] at this
   ·rw [getD_set_ne true hxj] at hx;exact hx.1
  ·cases hq : Cb ops (fun x => listed.getD x false) x i with
   | false => rfl
   | true => rw [OO hr hi hq] at hx;exact absurd hx.2 (by decide)
theorem Yz {listed : Array Bool} {i j : Nat} (hr : j ∈ Region.ready .any ops listed) (hi : listed.getD i true = false) (hj : Ls.contains j = true) (hun : listed.getD j true = false) : ahead ops Ls (listed.setIfInBounds j true) i + 1 <= ahead ops Ls listed i := by
  have hna := OM hr hi;unfold ahead;rw [<- List.countP_eq_length_filter, <- List.countP_eq_length_filter];have key : ∀ l : List Nat, l.countP (fun x => !(listed.setIfInBounds j true).getD x true && !Cb ops (fun y => (listed.setIfInBounds j true).getD y false) x i) <= l.countP (fun x => !listed.getD x true && !Cb ops (fun y => listed.getD y false) x i) := fun l => by
    refine List.countP_mono_left fun x _ hx => ?_;simp only [Bool.and_eq_true, Bool.not_eq_true'] at hx ⊢;refine ⟨?_, ?_⟩
    ·by_cases hxj : j = x
     ·subst hxj;exact hun
     ·rw [getD_set_ne true hxj] at hx;exact hx.1
    ·cases hq : Cb ops (fun x => listed.getD x false) x i with
     | false => rfl
     | true => rw [OO hr hi hq] at hx;exact absurd hx.2 (by decide)
  have hjs : (listed.setIfInBounds j true).getD j true = true := by
    rcases Nat.lt_or_ge j listed.size with h | h
    ·simp [h]
    ·simp [Array.getElem?_eq_none h]
  induction Ls with
  | nil => simp at hj
  | cons x l ih =>
    rw [List.countP_cons, List.countP_cons];by_cases hx : x = j
    ·subst hx;have := key l;simp only [hjs, hun, hna, Bool.not_true, Bool.false_and, Bool.not_false, Bool.and_self, if_true];simp only [Bool.false_eq_true, if_false];omega
    ·have h1 : l.contains j = true := by
       simp only [List.contains_cons, Bool.or_eq_true, beq_iff_eq] at hj;exact hj.resolve_left (fun e => hx e.symm)
     have := ih h1;have hm : (if (!(listed.setIfInBounds j true).getD x true && !Cb ops (fun y => (listed.setIfInBounds j true).getD y false) x i) = true then 1 else 0) <= (if (!listed.getD x true && !Cb ops (fun y => listed.getD y false) x i) = true then 1 else 0) := by
       have := key [x];simpa [List.countP_cons] using this
     omega
theorem OQ {Q : Act -> World -> Prop} {i m : Nat} {oi : Oper} {v : Value} (hmono : ∀ p q x, p <= q -> C p x -> C q x) (hi : ops[i]? = some oi) (hil : Ls.contains i = false) (hsel : ∀ (j : Nat) (o : Oper) cs b, ops[j]? = some o -> o.op ≠ .select cs b) :
    ∀ (k p : Nat) (listed : Array Bool) (a : Act) (w : World), C p w -> p + ahead ops Ls listed i <= m ->
      (∀ j oj, ops[j]? = some oj -> j ≠ i -> listed.getD j true = false -> (∀ e ∈ oj.after, Region.binds .any e = true -> e.on ≠ i) -> oi.apart ops oj = true) ->
      i ∈ Region.ready .any ops listed -> YC P ops (C m) oi v a ->
      wpC P ops Ls C Q k p (listed.setIfInBounds i true) (a.put oi.dst v) w -> wpC P ops Ls C Q (k + 1) p listed a w := by
  have hni : ∀ p, nx Ls p i = p := fun p => by unfold nx;rw [hil];rfl
  intro k
  induction k with
  | zero =>
    intro p listed a w hw hm _ hr hy H;refine ⟨fun h => (by rw [h] at hr;cases hr), fun j hj => ?_⟩;by_cases hji : j = i
    ·subst hji;rw [hni];exact hy.op hi (hmono p m w (by omega) hw) ⟨hw, H⟩
    ·have := ready_mono hj hji;rw [H.1] at this;cases this
  | succ k ih =>
    intro p listed a w hw hm hfree hr hy H;refine ⟨fun h => (by rw [h] at hr;cases hr), fun j hj => ?_⟩;by_cases hji : j = i
    ·subst hji;rw [hni];exact hy.op hi (hmono p m w (by omega) hw) ⟨hw, H⟩
    ·have h1 := H.2 j (ready_mono hj hji);obtain ⟨hjun, oj, hoj, hall⟩ := mem_ready.1 hj;have hnot : ∀ e ∈ oj.after, Region.binds .any e = true -> e.on ≠ i := fun e he hb heq => by
       have h1 := hall e he hb;have h0 := (mem_ready.1 hr).1;rw [heq] at h1;rcases Nat.lt_or_ge i listed.size with h' | h'
       ·simp [h'] at h0 h1;rw [h0] at h1;cases h1
       ·simp [Array.getElem?_eq_none h'] at h1
     have h2 := wpOp_put hoj (hfree j oj hoj hji hjun hnot) (fun cs b => hsel i oi cs b hi) (fun cs b => hsel j oj cs b hoj) hy h1;have hfree' : ∀ m om, ops[m]? = some om -> m ≠ i -> (listed.setIfInBounds j true).getD m true = false ->
         (∀ e ∈ om.after, Region.binds .any e = true -> e.on ≠ i) -> oi.apart ops om = true := fun m om hm hmi hun hno => by
       refine hfree m om hm hmi ?_ hno;by_cases hjm : j = m
       ·subst hjm;exact hjun
       ·rw [getD_set_ne true hjm] at hun;exact hun
     have hm' : nx Ls p j + ahead ops Ls (listed.setIfInBounds j true) i <= m := by
       unfold nx;split
       ·rename_i hc;have := Yz (ops := ops) (Ls := Ls) hj (mem_ready.1 hr).1 hc hjun;omega
       ·have := Yy (ops := ops) (Ls := Ls) hj (mem_ready.1 hr).1;omega
     refine wpOp_mono (fun a' w' h3 => ?_) h2;obtain ⟨hy', hw', h4⟩ := h3;refine ⟨hw', ih _ (listed.setIfInBounds j true) a' w' hw' hm' hfree' (ready_mono hr (Ne.symm hji)) hy' ?_⟩;rw [Array.setIfInBounds_comm _ _ hji];exact h4
def cls : List (World -> Prop) -> Nat -> World -> Prop
  | [], _, _ => True
  | c :: _, 0, x => c x
  | _ :: cs, p + 1, x => cls cs p x
def N_ : List (World -> Prop) -> Prop
  | c :: d :: cs => (∀ x, c x -> d x) /\ N_ (d :: cs)
  | _ => True
theorem N_.step : ∀ (l : List (World -> Prop)) (p : Nat) (x : World), N_ l -> cls l p x -> cls l (p + 1) x
  | [], _, _, _, _ => trivial
  | [_], 0, _, _, _ => trivial
  | [_], _ + 1, _, _, _ => trivial
  | _ :: _ :: _, 0, x, h, hx => h.1 x hx
  | _ :: d :: cs, p + 1, x, h, hx => N_.step (d :: cs) p x h.2 hx
theorem N_.le {l : List (World -> Prop)} (h : N_ l) : ∀ p q x, p <= q -> cls l p x -> cls l q x := by
  intro p q x hpq hx;obtain ⟨d, rfl⟩ := Nat.exists_eq_add_of_le hpq
  induction d with
  | zero => exact hx
  | succ d ih => exact N_.step l _ x h (ih (by omega))
inductive MT where
  | nil
  | q (i m : Nat) (r : MT)
  | op (i : Nat) (r : MT)
  | br (i j : Nat) (ri rj : MT)
def MT.depth : MT -> Nat
  | .nil => 0
  | .q _ _ r => r.depth + 1
  | .op _ r => r.depth + 1
  | .br _ _ r _ => r.depth + 1
def MT.drop : Nat -> MT -> MT
  | k + 1, .q _ _ r => r.drop k
  | _, π => π
def EN (ops : Array Oper) (Ls : List Nat) : MT -> Nat -> Array Bool -> Bool
  | .nil, _, listed => (Region.ready .any ops listed).isEmpty
  | .q i m π, p, listed => (Region.ready .any ops listed).contains i && Region.free .any ops listed i && !Ls.contains i && decide (p + ahead ops Ls listed i <= m) && EN ops Ls π p (listed.setIfInBounds i true)
  | .op i π, p, listed => Region.ready .any ops listed == [i] && EN ops Ls π (nx Ls p i) (listed.setIfInBounds i true)
  | .br i j ri rj, p, listed => Region.ready .any ops listed == [i, j] && rj.depth == ri.depth && EN ops Ls ri (nx Ls p i) (listed.setIfInBounds i true) && EN ops Ls rj (nx Ls p j) (listed.setIfInBounds j true)
def MX (P : Program) (n : Nat) (ops : Array Oper) (Ls : List Nat) (C : List (World -> Prop)) (Q : Act -> World -> Prop) (π : MT) (p : Nat) (listed : Array Bool) (L : List En) (w : World) : Prop :=
  Region.noSelect ops = true -> N_ C -> EN ops Ls π p listed = true -> cls C p w -> ∀ a, Fu n a L -> wpC P ops Ls (cls C) Q π.depth p listed a w
variable {C : List (World -> Prop)}
theorem dM {n p : Nat} {Q : Act -> World -> Prop} {listed : Array Bool} {L : St} {w : World} (h : At n Q L w) : MX P n ops Ls C Q .nil p listed (Kn L) w :=
  fun _ _ hB _ a ha => ⟨by simpa [EN] using hB, h a ha⟩
def UQ (ops : Array Oper) (m : Nat) : Nat -> MT -> Option (List Oper)
  | 0, _ => some []
  | k + 1, .q i m' r => if m' = m then match ops[i]?, UQ ops m k r with
    | some o, some l => some (o :: l)
    | _, _ => none else none
  | _ + 1, _ => none
theorem Xf {n p m : Nat} {Q : Act -> World -> Prop} {ss : List Nat} {w : World} {L' : List En} : ∀ (k : Nat) (π : MT) (l : List Oper) (listed : Array Bool) (L : List En) (os os' : List SV) (cs : List Cond),
    UQ ops m k π = some l -> evs P n ops ss l L os = some (L', cs, os') -> (∀ w, cls C m w -> ∀ c ∈ cs, c w) -> (∀ listed', MX P n ops Ls C Q (π.drop k) p listed' L' w) -> MX P n ops Ls C Q π p listed L w := by
  intro k
  induction k with
  | zero =>
    intro π l listed L os os' cs hq h hc hk;simp only [UQ, Option.some.injEq] at hq;subst hq;simp only [evs, Option.some.injEq, Prod.mk.injEq] at h;obtain ⟨rfl, rfl, rfl⟩ := h;have e : π.drop 0 = π := by cases π <;> rfl
    rw [e] at hk;exact hk listed
  | succ k ih =>
    intro π l listed L os os' cs hq h hc hk;cases π with
    | q i m' π =>
      simp only [UQ] at hq;split at hq
      ·rename_i hmm;subst hmm;split at hq
       ·rename_i o l' ho hl';simp only [Option.some.injEq] at hq;subst hq;simp only [evs] at h;split at h
        ·rename_i L1 c1 os1 h1;split at h
         ·rename_i L2 c2 os2 h2;simp only [Option.some.injEq, Prod.mk.injEq] at h;obtain ⟨rfl, rfl, rfl⟩ := h;intro hns hmo hB hw a ha;simp only [EN, Bool.and_eq_true, decide_eq_true_eq, Bool.not_eq_true'] at hB;obtain ⟨⟨⟨⟨hr, hf⟩, hnl⟩, hah⟩, hB⟩ := hB;have hrest := ih π l' (listed.setIfInBounds i true) L1 os1 _ c2 hl' h2 (fun w hw c hcm => hc w hw c (List.mem_append_right _ hcm)) hk hns hmo hB hw;rcases Ju ha h1 with ⟨hwt, v, hrun, hf'⟩ | ⟨hwt, hf'⟩
          ·exact OQ hmo.le ho hnl (Region.noSelect_spec hns) _ p listed a w hw hah (Region.free_spec ho hf) (by simpa using hr) (.inl ⟨hwt, fun w' hw' => hrun w' fun c hcm => hc w' hw' c (List.mem_append_left _ hcm)⟩) (hrest _ hf')
          ·exact OQ hmo.le ho hnl (Region.noSelect_spec hns) _ p listed a w hw hah (Region.free_spec ho hf) (by simpa using hr) (.inr ⟨hwt, rfl⟩) (hrest _ hf')
         ·cases h
        ·cases h
       ·cases hq
      ·cases hq
    | _ => cases hq
theorem MX_q {n p : Nat} {Q : Act -> World -> Prop} {w : World} {π : MT} {listed : Array Bool} {L : St} (k m : Nat) (ss : List Nat) (os : List SV) (L' : St) (cs : List Cond)
    (hs : ((UQ ops m k π).bind fun l => evs P n ops ss l (Kn L) os).map (fun r => (L'.map fun e => (look r.1 e.1).map fun e => (e.g, e.x.val), r.2.1, r.2.2)) = some (L'.map fun p => some (none, p.2.val), cs, []))
    (hc : ∀ w, cls C m w -> All cs w) (h : ∀ listed', MX P n ops Ls C Q (π.drop k) p listed' (Kn L') w) : MX P n ops Ls C Q π p listed (Kn L) w := by
  rw [Option.map_bind] at hs;simp only [Option.bind_eq_some_iff] at hs;obtain ⟨l, hl, hs⟩ := hs;obtain ⟨Lc, he, hk⟩ := Seg.keep (P := P) (n := n) (ops := ops) (ss := ss) (l := l) (L := L) (os := os) (L' := L') (cs := cs) hs;refine Xf k π l listed (Kn L) os [] cs hl he (fun w hw => Ii (hc w hw)) fun listed' => ?_;intro hns hmo hB hw a ha;exact h listed' hns hmo hB hw a (hk a ha)
theorem bY {n p : Nat} {Q : Act -> World -> Prop} {w : World} {π : MT} {listed : Array Bool} {L : St} {i : Nat} {o : Oper} (hl : Ls.contains i = true) (ho : ops[i]? = some o)
    (h : wQ P n ops L w o fun L' w' => cls C (p + 1) w' /\ ∀ listed', MX P n ops Ls C Q π (p + 1) listed' (Kn L') w') : MX P n ops Ls C Q (.op i π) p listed (Kn L) w := by
  intro hns hmo hB hw a ha;have hnx : nx Ls p i = p + 1 := by unfold nx;rw [if_pos hl]
  simp only [EN, Bool.and_eq_true, beq_iff_eq, hnx] at hB;obtain ⟨hr, hB⟩ := hB;obtain ⟨h1, h2⟩ := h a ha;refine ⟨fun h0 => (by rw [h0] at hr;cases hr), fun j hj => ?_⟩;rw [hr] at hj;simp only [List.mem_singleton] at hj;subst hj;unfold wpOp;simp only [ho, hnx];rw [if_pos h1];refine .inl (Oper.wp_mono ?_ h2);rintro a' w' ⟨L', hf, hc, hk⟩;exact ⟨hc, hk _ hns hmo hB hc a' hf⟩
theorem MX_br {n p : Nat} {Q : Act -> World -> Prop} {w : World} {πi πj : MT} {listed : Array Bool} {L : St} {i j : Nat} {oi oj : Oper} (hli : Ls.contains i = true) (hlj : Ls.contains j = true) (hi : ops[i]? = some oi) (hj : ops[j]? = some oj)
    (h : wQ P n ops L w oi fun L' w' => cls C (p + 1) w' /\ ∀ listed', MX P n ops Ls C Q πi (p + 1) listed' (Kn L') w')
    (h' : wQ P n ops L w oj fun L' w' => cls C (p + 1) w' /\ ∀ listed', MX P n ops Ls C Q πj (p + 1) listed' (Kn L') w') : MX P n ops Ls C Q (.br i j πi πj) p listed (Kn L) w := by
  intro hns hmo hB hw a ha;have hnx : nx Ls p i = p + 1 := by unfold nx;rw [if_pos hli]
  have hnx' : nx Ls p j = p + 1 := by unfold nx;rw [if_pos hlj]
  simp only [EN, Bool.and_eq_true, beq_iff_eq, hnx, hnx'] at hB;obtain ⟨⟨⟨hr, hd⟩, hB1⟩, hB2⟩ := hB;refine ⟨fun h0 => (by rw [h0] at hr;cases hr), fun k hk => ?_⟩;rw [hr] at hk;simp only [List.mem_cons, List.not_mem_nil, or_false] at hk;rcases hk with rfl | rfl
  ·obtain ⟨h1, h2⟩ := h a ha;unfold wpOp;simp only [hi, hnx];rw [if_pos h1];refine .inl (Oper.wp_mono ?_ h2);rintro a' w' ⟨L', hf, hc, hk⟩;exact ⟨hc, hk _ hns hmo hB1 hc a' hf⟩
  ·obtain ⟨h1, h2⟩ := h' a ha;unfold wpOp;simp only [hj, hnx'];rw [if_pos h1];refine .inl (Oper.wp_mono ?_ h2);rintro a' w' ⟨L', hf, hc, hk⟩;have := hk _ hns hmo hB2 hc a' hf;rw [hd] at this;exact ⟨hc, this⟩
theorem W_mix {n : Nat} {id : Nat} {l : List Oper} {Q : Exit -> Act -> World -> Prop} {L : St} {w : World} (hm : P.follows .mixedOrders = true) (π : MT) (Ls : List Nat) (C : List (World -> Prop))
    (hB : (Region.noSelect l.toArray, EN l.toArray Ls π 0 (Array.replicate l.length false), π.depth == l.length) = (true, true, true)) (hmo : N_ C) (hC : cls C 0 (w.drewN 1)) (h : ∀ listed, MX P n l.toArray Ls C (Q .normal) π 0 listed (Kn L) (w.drewN 1)) :
    W P n (.region id l.toArray true) Q L w := by
  intro a ha;simp only [Prod.mk.injEq, beq_iff_eq] at hB;obtain ⟨h1, h2, h3⟩ := hB;refine wp_region_any hm ?_;have := h (Array.replicate l.length false) h1 hmo h2 hC a ha;rw [h3] at this;exact LZ (fun _ _ hq => hq) _ _ _ _ _ (by rw [show l.toArray.size = l.length from by simp];exact this)
end
end Go.Sx
namespace Go.Sx
open Go.RowKit
set_option linter.unusedSimpArgs false
set_option linter.unusedVariables false
variable {α β : Type}
instance {n : Nat} [Inhabited α] : Inhabited (Vec α n) := ⟨Vec.rep n default⟩
def Vec.of [Inhabited α] (n : Nat) (l : List α) : Vec α n := if h : l.length = n then ⟨l, h⟩ else Vec.rep n default
def YA (xs : List α) (l : Int) (z : α) (b : Nat) : Option (List α) := if 0 <= l /\ (xs.length + l.toNat) * b <= 140737488355328 then some (xs ++ List.replicate l.toNat z) else none
theorem Xg {xs ys : List α} {l : Int} {z : α} {b : Nat} (h : YA xs l z b = some ys) : 0 <= l /\ (xs.length + l.toNat) * b <= 140737488355328 /\ ys = xs ++ List.replicate l.toNat z := by
  unfold YA at h;split at h
  ·rename_i hc;simp only [Option.some.injEq] at h;exact ⟨hc.1, hc.2, h.symm⟩
  ·cases h
abbrev SV.ar (E : Enc α) {n : Nat} (x : Vec α n) : SV := .vec (n * E.sz) (E.vec x)
section
variable {P : Program} {n : Nat} {Q : Exit -> Act -> World -> Prop} {ops : Array Oper} {L : St} {w w0 : World} {F O : Nat -> Prop} {hs : List HP} {K : St -> World -> Prop}
theorem W_cutr {x : Code} (K : St -> World -> Prop) (h1 : W P n x (Exit.then (fun a w => ∃ L, Fu n a (Kn L) /\ K L w) Q) L w) (h2 : ∀ L w, K L w -> At n (Q .normal) L w) : W P n x Q L w := by
  intro a ha;refine wp_mono (h1 a ha) ?_;intro e a' w' hq;cases e with
  | normal => obtain ⟨L', hf, hk⟩ := hq;exact h2 L' w' hk a' hf
  | _ => exact hq
theorem Rd.nil (E : Enc α) (w : World) : Rd w none (E.all ([] : List α)) := ⟨fun h => absurd rfl h, fun _ _ _ h => by cases h⟩
theorem Ro.Xh (E : Enc α) : Ro F w none (E.all ([] : List α)) := Ro.nil (A := none)
theorem Src.sl {E : Enc α} {A : Option Addr} {xs : List α} {m c sz : Nat} (h : Rd w A (E.all xs)) (hn : xs.length = m) (hs : E.sz = sz) : Src P sz w (.slice A m c) m (E.all xs) :=
  Src.slice h (by rw [Enc.dP, hn, hs])
theorem PY {xs ys : List α} {lo hi : Int} (h : Jq xs lo hi = some ys) (h0 : lo = 0) : ys = xs.take ys.length := by
  obtain ⟨h1, h2, h3, h4⟩ := mX h;have hl := v_ h;rw [hl];subst h0;rw [h4];simp
theorem ar_ix {E : Enc α} {m : Nat} {x : Vec α m} {i : Int} {y : α} {v : Value} (h : aZ x.l i = some y) (hv : (E.f y)[0]? = some v) : (0 <= i /\ i < ((m : Nat) : Int)) /\ (SV.cl [SV.ar E x])[i.toNat * E.sz]? = some v := by
  have h1 := fD h;rw [x.h] at h1;refine ⟨h1, ?_⟩;rw [yN];have := E.Rn (bF h).2 hv;simp only [SV.cl, List.append_nil];show (E.all x.l)[i.toNat * E.sz]? = some v;simpa using this
theorem ar_ixs {E : Enc α} {m : Nat} {x : Vec α m} {i : Int} {y : α} {vs : List Value} (h : aZ x.l i = some y) (hv : E.f y = vs) : (0 <= i /\ i < ((m : Nat) : Int)) /\ ((SV.cl [SV.ar E x]).drop (i.toNat * E.sz)).take E.sz = vs := by
  have h1 := fD h;rw [x.h] at h1;refine ⟨h1, ?_⟩;rw [yN, <- hv];simp only [SV.cl, List.append_nil];exact E.UN (bF h).2
theorem At_end {fn : Func} {R : Ending -> World -> Prop} (os : List SV) (xs : List SV) (cs : List Cond) (hr : KG P fn.results.toList L os = some (xs, cs, [])) (hc : All cs w) (h : R (.returned (OJ xs).val) w) : At n (bodyPost P fn R .normal) L w :=
  Ym (P := P) (fn := fn) os xs cs hr hc h
theorem cl_ar {E : Enc α} {m : Nat} (x : Vec α m) : SV.cl [SV.ar E x] = (eV E m).f x := by
  rw [yN];show E.all x.l ++ [] = E.all x.l;rw [List.append_nil]
theorem Rd.elV {w : World} {A p : Option Addr} {E : Enc α} {m : Nat} {xs : List (Vec α m)} {i : Int} {x : Vec α m} (h : Rd w A ((eV E m).all xs)) (hg : aZ xs i = some x) (hp : Pt A (i.toNat * (eV E m).sz + 0) p) (hm : 0 < (eV E m).sz) : ∃ a, p = some a /\ Rd w (some a) (SV.cl [SV.ar E x]) := by
  rw [cl_ar];refine h.els hg hp ?_ hm (by omega);rw [List.drop_zero];have := (eV E m).len x;rw [<- this, List.take_length]
theorem ar_ixV {E : Enc α} {k m : Nat} {x : Vec (Vec α k) m} {i : Int} {y : Vec α k} (h : aZ x.l i = some y) : (0 <= i /\ i < ((m : Nat) : Int)) /\ ((SV.cl [SV.ar (eV E k) x]).drop (i.toNat * (eV E k).sz)).take (eV E k).sz = SV.cl [SV.ar E y] :=
  ar_ixs h (cl_ar y).symm
theorem Cx.Bi {t : TypeId} {g : Nat} {ys : List SV} (k : Cx F O w0 w hs) (i : Nat) (hi : hs[i]? = some (Bx t g ys)) (off : Nat) (v : SV) (h : (cellS off ys).map SV.val = some v.val) : ∃ a, some (⟨g, off, none⟩ : Addr) = some a /\ w.cell? a = some v.val := by
  simp only [Option.map_eq_some_iff] at h;obtain ⟨x, hx, he⟩ := h;rw [<- he];exact (k.Ey i hi).cellP (Pt.at g off) (Lt hx).1
theorem Cx.blds {t : TypeId} {g : Nat} {ys : List SV} (k : Cx F O w0 w hs) (i : Nat) (hi : hs[i]? = some (Bx t g ys)) (off m : Nat) (zs : List SV) (h : (Lu off m ys).map SV.cl = some (SV.cl zs)) (hm : 0 < m) : ∃ a, some (⟨g, off, none⟩ : Addr) = some a /\ Rd w (some a) (SV.cl zs) := by
  simp only [Option.map_eq_some_iff] at h;obtain ⟨x, hx, he⟩ := h;obtain ⟨e1, e2, e3⟩ := Kq hx;rw [<- he, <- e1];exact (k.Ey i hi).partP (Pt.at g off) (by rw [fZ];exact e3) hm
theorem Op_bput {ty t : TypeId} {p x : Operand} {pos : String} {iW : Array Edge} {g : Option (Nat × Bool)} (ss : List Nat) (i : Nat) {pa : Option Addr} {sv : SV} {svs : List SV} {bt : TypeId} {b : Nat} {ys : List SV} (zs : List SV) {off : Nat}
    (hside : (xH ops ss L (⟨none, .store t p x, ty, pos, iW, g⟩ : Oper), (none : Option Nat), (toSS [p, x] (lk L)).map SV.vals, zC P t, cellsS sv, svs.all SV.one1) = (true, none, some [.pointer pa, sv.val], some (SV.width svs), some svs, true))
    (hp : Pt (some ⟨b, 0, none⟩) off pa) (k : Cx F O w0 w hs) (hi : hs[i]? = some (Bx bt b ys)) (hz : (WX off (SV.width svs) svs ys).map SV.cl = some (SV.cl zs))
    (hk : ∀ w', Cx F O w0 w' (hs.set i (Bx bt b zs)) -> K L w') :
    wQ P n ops L w ⟨none, .store t p x, ty, pos, iW, g⟩ K := by
  simp only [Option.map_eq_some_iff] at hz;obtain ⟨zs', hput, he⟩ := hz;obtain ⟨e1, e2, e3, e4⟩ := OD hput;refine Yr ss i zs hside hp k hi ?_ e4 hk;rw [<- he, e1];unfold pat;rw [fZ]
end
end Go.Sx
namespace Go.Sx
open Go.RowKit
set_option linter.unusedSimpArgs false
set_option linter.unusedVariables false
inductive Bl : St -> St -> Prop
  | a {l} : Bl l l
  | z {l} : Bl l []
  | k {x l l'} : Bl l l' -> Bl (x :: l) (x :: l')
  | s {x l l'} : Bl l l' -> Bl (x :: l) l'
  | n {l l'} (i : Nat) (v : SV) : Bl l l' -> Bl l ((i, v) :: l')
theorem Bl.kk {x y l l'} (h : Bl l l') : Bl (x :: y :: l) (x :: y :: l') := .k (.k h)
theorem Bl.wS {x y z l l'} (h : Bl l l') : Bl (x :: y :: z :: l) (x :: y :: z :: l') := .k (.kk h)
theorem Bl.bJ {x y z u l l'} (h : Bl l l') : Bl (x :: y :: z :: u :: l) (x :: y :: z :: u :: l') := .kk (.kk h)
theorem Bl.ss {x y l l'} (h : Bl l l') : Bl (x :: y :: l) l' := .s (.s h)
theorem Bl.tu {x y z l l'} (h : Bl l l') : Bl (x :: y :: z :: l) l' := .s (.ss h)
theorem Bl.iJ {x y z u l l'} (h : Bl l l') : Bl (x :: y :: z :: u :: l) l' := .ss (.ss h)
section
variable {α β σ ρ : Type} {P : Program} {n : Nat} {Q : Exit -> Act -> World -> Prop} {ops : Array Oper} {L L' : St} {w w0 : World} {os : List SV} {cs : List Cond} {F O : Nat -> Prop} {hs : List HP}
structure Ask (os : List SV) (cs : List Cond) (w : World) : Prop where
  h : All cs w
def dp (p : Prop) : Cond := fun _ => p
def dS (A : Option Addr) : Cond := fun _ => A.isSome = true
def dI (i : Int) (n : Nat) (A : Option Addr) : Cond := fun _ => 0 <= i /\ i < (n : Int) /\ A.isSome = true
def dC (p : Option Addr) (v : SV) : Cond := fun w => ∃ a, p = some a /\ w.cell? a = some v.val
def dR (p : Option Addr) (cs : List SV) : Cond := fun w => ∃ a, p = some a /\ Rd w (some a) (SV.cl cs)
theorem qe : Ask [] [] w := ⟨trivial⟩
theorem qo (v : SV) (r : Ask os cs w) : Ask (v :: os) cs w := ⟨r.h⟩
theorem qc (c : Cond) (p : c w) (r : Ask os cs w) : Ask os (c :: cs) w := ⟨p, r.h⟩
theorem qp (p : Prop) (h : p) (r : Ask os cs w) : Ask os (dp p :: cs) w := ⟨h, r.h⟩
theorem qs (g off : Nat) (r : Ask os cs w) : Ask os (dS (some ⟨g, off, none⟩) :: cs) w := ⟨rfl, r.h⟩
theorem qS {A : Option Addr} (h : A.isSome = true) (r : Ask os cs w) : Ask os (dS A :: cs) w := ⟨h, r.h⟩
theorem qI {m : Nat} {v : Vec α m} {i : Int} {x : α} (g off : Nat) (h : aZ v.l i = some x) (r : Ask os cs w) : Ask os (dI i m (some ⟨g, off, none⟩) :: cs) w :=
  ⟨⟨(fD h).1, by have := (fD h).2;have := v.h;omega, rfl⟩, r.h⟩
class Pos (E : Enc α) : Prop where h : 0 < E.sz
instance : Pos e8 := ⟨by decide⟩
instance : Pos e16 := ⟨by decide⟩
instance : Pos e32 := ⟨by decide⟩
instance : Pos e64 := ⟨by decide⟩
instance : Pos eI := ⟨by decide⟩
instance : Pos eS := ⟨by decide⟩
instance : Pos eB := ⟨by decide⟩
instance {a : Enc α} {b : Enc β} [h : Pos a] : Pos (eP a b) := ⟨Nat.lt_of_lt_of_le h.h (Nat.le_add_right _ _)⟩
instance {E : Enc α} {m : Nat} [h : Pos E] : Pos (eV E (m + 1)) := ⟨Nat.mul_pos (Nat.succ_pos m) h.h⟩
theorem qJ {E : Enc α} [he : Pos E] {A : Option Addr} {xs : List α} {i : Int} {x : α} {m : Nat} (rd : Rd w A (E.all xs)) (h : aZ xs i = some x) (hl : xs.length = m) (r : Ask os cs w) : Ask os (dI i m A :: cs) w :=
  ⟨rd.ix h hl he.h, r.h⟩
theorem qC {p : Option Addr} (v : SV) (h : ∃ a, p = some a /\ w.cell? a = some v.val) (r : Ask os cs w) : Ask (v :: os) (dC p v :: cs) w := ⟨h, r.h⟩
theorem qR {p : Option Addr} (zs : List SV) (h : ∃ a, p = some a /\ Rd w (some a) (SV.cl zs)) (r : Ask os cs w) : Ask (.agg zs :: os) (dR p zs :: cs) w := ⟨h, r.h⟩
theorem qB {t : TypeId} {g : Nat} {ys : List SV} (k : Cx F O w0 w hs) (i : Nat) (hi : hs[i]? = some (Bx t g ys)) (off : Nat) (v : SV) (h : (cellS off ys).map SV.val = some v.val) (r : Ask os cs w) : Ask (v :: os) (dC (some ⟨g, off, none⟩) v :: cs) w := ⟨k.Bi i hi off v h, r.h⟩
theorem Cx.vX {t : TypeId} {g m : Nat} {ys : List SV} (k : Cx F O w0 w hs) (i : Nat) (hi : hs[i]? = some (Bx t g ys)) (E : Enc α) (x : Vec α m) (off : Nat) (hd : ((CV off ys).bind List.head?).map (fun v => (v.H8, v.val)) = some (true, .agg ⟨E.all x.l⟩)) : Rd w (some ⟨g, off, none⟩) (E.all x.l) := (k.Ey i hi).vec hd
theorem qV {E : Enc α} {A : Option Addr} {m : Nat} {xs : Vec α m} {i : Int} {x : α} (rd : Rd w A (E.all xs.l)) (h : aZ xs.l i = some x) (hA : A.isSome = true) (s : SV) (hs : E.f x = [s.val]) (r : Ask os cs w) : Ask (s :: os) (dI i m A :: dC (l7 A i E.sz) s :: cs) w :=
  ⟨⟨(fD h).1, by have := (fD h).2;have := xs.h;omega, hA⟩, rd.el h (k := 0) (Pt.wR A i E.sz) (by rw [hs];rfl), r.h⟩
theorem qW {E : Enc α} [he : Pos E] {A : Option Addr} {xs : List α} {i : Int} {x : α} {m : Nat} (rd : Rd w A (E.all xs)) (h : aZ xs i = some x) (hl : xs.length = m) (s : SV) (hs : E.f x = [s.val]) (r : Ask os cs w) : Ask (s :: os) (dI i m A :: dC (l7 A i E.sz) s :: cs) w :=
  ⟨rd.ix h hl he.h, rd.el h (k := 0) (Pt.wR A i E.sz) (by rw [hs];rfl), r.h⟩
theorem qX {xs : List UInt8} {i : Int} {y : UInt8} (h : aZ xs i = some y) (r : Ask os cs w) : Ask (.u8 y :: os) (dp (0 <= i /\ xs[i.toNat]? = some y) :: cs) w := ⟨bF h, r.h⟩
theorem qT {t : TypeId} {g : Nat} {ys : List SV} (k : Cx F O w0 w hs) (i : Nat) (hi : hs[i]? = some (Bx t g ys)) (off m : Nat) (zs : List SV) (h : (Lu off m ys).map SV.cl = some (SV.cl zs)) (hm : 0 < m) (r : Ask os cs w) : Ask (.agg zs :: os) (dR (some ⟨g, off, none⟩) zs :: cs) w := ⟨k.blds i hi off m zs h hm, r.h⟩
theorem yH {l : List Oper} (k : Nat) (ss : List Nat) (b : Bl L L') (q : Ask os cs w) (hs : (evs P n ops ss (l.take k) (Kn L) os).map (fun r => (L'.map fun e => (look r.1 e.1).map fun e => (e.g, e.x.val), r.2.1, r.2.2)) = some (L'.map fun p => some (none, p.2.val), cs, [])) (h : WL P n ops Q (l.drop k) L' w) : WL P n ops Q l L w := WL_seg k ss os L' cs hs q.h h
theorem qm {id : Nat} {l : List Oper} (ss : List Nat) (b : Bl L L') (q : Ask os cs w) (hs : (evs P n l.toArray ss l (Kn L) os).map (fun r => (L'.map fun e => (look r.1 e.1).map fun e => (e.g, e.x.val), r.2.1, r.2.2)) = some (L'.map fun p => some (none, p.2.val), cs, [])) (h : At n (Q .normal) L' w) : W P n (.region id l.toArray false) Q L w := W_quiet ss os L' cs hs q.h h
theorem W_d {id : Nat} {l : List Oper} (hm : P.follows .mixedOrders = true) (hB : Region.lexB .any l.toArray = true) (b : Bl L L') (q : ∀ m, Ask os cs (w.drewN m)) (hs : (evs P n l.toArray [] l (Kn L) os).map (fun r => (L'.map fun e => (look r.1 e.1).map fun e => (e.g, e.x.val), r.2.1, r.2.2)) = some (L'.map fun p => some (none, p.2.val), cs, [])) (h : ∀ m, At n (Q .normal) L' (w.drewN m)) : W P n (.region id l.toArray true) Q L w := W_draw hm os L' cs hB hs (fun m => (q m).h) h
theorem PZ {p : Nat} {Ls : List Nat} {C : List (World -> Prop)} {Q : Act -> World -> Prop} {π : MT} {listed : Array Bool} (k m : Nat) (ss : List Nat) (b : Bl L L') (q : ∀ w, cls C m w -> Ask os cs w)
    (hs : ((UQ ops m k π).bind fun l => evs P n ops ss l (Kn L) os).map (fun r => (L'.map fun e => (look r.1 e.1).map fun e => (e.g, e.x.val), r.2.1, r.2.2)) = some (L'.map fun p => some (none, p.2.val), cs, [])) (h : ∀ listed', MX P n ops Ls C Q (π.drop k) p listed' (Kn L') w) : MX P n ops Ls C Q π p listed (Kn L) w := MX_q k m ss os L' cs hs (fun w hw => (q w hw).h) h
theorem At_c {Q : Exit -> Act -> World -> Prop} {K : St -> World -> Prop} (h : K L' w) (hk : L'.map (fun p => (find L p.1).map SV.val) = L'.map (fun p => some p.2.val)) : At n (Exit.then (fun a w => ∃ L, Fu n a (Kn L) /\ K L w) Q .normal) L w := C9 L' hk (At_cut h)
theorem fO {Q : Exit -> Act -> World -> Prop} {rel : σ -> St -> World -> Prop} {y : σ ⊕ ρ} (s' : σ) (hy : y = .inl s') (h : rel s' L' w) (hk : L'.map (fun p => (find L p.1).map SV.val) = L'.map (fun p => some p.2.val)) : At n (Exit.then (fun a w => ∃ s' L', y = .inl s' /\ Fu n a (Kn L') /\ rel s' L' w) Q .normal) L w := C9 L' hk (Yo s' hy h)
theorem kR {c : Code} (step : σ -> Option (σ ⊕ ρ)) (rel : σ -> St -> World -> Prop) (s0 : σ) (r : ρ) (hm : aV step s0 = some r) (h0 : rel s0 L' w0) (hk : L'.map (fun p => (find L p.1).map SV.val) = L'.map (fun p => some p.2.val))
    (hb : ∀ s L w y, rel s L w -> step s = some y -> (∀ r', y = .inr r' -> r' = r) -> W P n c (Exit.then (fun a w => ∃ s' L', y = .inl s' /\ Fu n a (Kn L') /\ rel s' L' w) Q) L w) : W P n (.loop c) Q L w0 := Rk L' hk (W_loop step rel s0 r hm h0 hb)
theorem At_rt {fn : Func} {R : Ending -> World -> Prop} (xs : List SV) (q : Ask os cs w) (hr : KG P fn.results.toList L os = some (xs, cs, [])) (h : R (.returned (OJ xs).val) w) : At n (bodyPost P fn R .ret) L w := Ym os xs cs hr q.h h
theorem EO {fn : Func} {R : Ending -> World -> Prop} (xs : List SV) (q : Ask os cs w) (hr : KG P fn.results.toList L os = some (xs, cs, [])) (h : R (.returned (OJ xs).val) w) : At n (bodyPost P fn R .normal) L w := At_end os xs cs hr q.h h
theorem EP {l : List Oper} (k : Nat) (c : Bool) (b : Bl L L') (hk : ((k, SV.b c) :: L').map (fun p => (find L p.1).map SV.val) = ((k, SV.b c) :: L').map (fun p => some p.2.val))
    (h1 : c = true -> WL P n ops Q l ((k, .b true) :: L') w) (h2 : c = false -> WL P n ops Q l ((k, .b false) :: L') w) : WL P n ops Q l L w := by
  have key : WL P n ops Q l ((k, SV.b c) :: L') w -> WL P n ops Q l L w := fun h => C9 (q := fun a w => wpList P ops Q l a w) ((k, SV.b c) :: L') hk h;cases c with
  | true => exact key (h1 rfl)
  | false => exact key (h2 rfl)
theorem ob {a : Option α} {f : α -> Option β} {r : β} (h : a.bind f = some r) : ∃ x, a = some x /\ f x = some r := Option.bind_eq_some_iff.1 h
theorem nm {a : α} {f : α -> Option β} {r : β} (h : (some a).bind f = some r) : ∃ x, a = x /\ f x = some r := ⟨a, rfl, h⟩
inductive NY {β : Type} : List β -> List β -> Prop
  | e : NY [] []
  | z {l} : NY l []
  | k {x l l'} : NY l l' -> NY (x :: l) (x :: l')
  | s {x l l'} : NY l l' -> NY (x :: l) l'
theorem NY.kk {β : Type} {x y : β} {l l'} (h : NY l l') : NY (x :: y :: l) (x :: y :: l') := .k (.k h)
theorem NY.bJ {β : Type} {x y z u : β} {l l'} (h : NY l l') : NY (x :: y :: z :: u :: l) (x :: y :: z :: u :: l') := .kk (.kk h)
theorem NY.ss {β : Type} {x y : β} {l l'} (h : NY l l') : NY (x :: y :: l) l' := .s (.s h)
theorem NY.iJ {β : Type} {x y z u : β} {l l'} (h : NY l l') : NY (x :: y :: z :: u :: l) l' := .ss (.ss h)
inductive Pick {β : Type} : List β -> β -> List β -> Prop
  | h {x l} : Pick (x :: l) x l
  | t {x y l l'} : Pick l x l' -> Pick (y :: l) x (y :: l')
inductive Kz {β : Type} : List β -> List β -> List β -> Prop
  | e : Kz [] [] []
  | i {x l a b} : Kz l a b -> Kz (x :: l) (x :: a) b
  | r {x l a b} : Kz l a b -> Kz (x :: l) a (x :: b)
inductive App {β : Type} : List β -> List β -> List β -> Prop
  | n {l} : App [] l l
  | c {x a b l} : App a b l -> App (x :: a) b (x :: l)
theorem App.eq {β : Type} {a b l : List β} (h : App a b l) : l = a ++ b := by induction h <;> simp_all
theorem Kz.perm {β : Type} {l a b : List β} (h : Kz l a b) : l.Perm (a ++ b) := by
  induction h with
  | e => exact .nil
  | i _ ih => exact .cons _ ih
  | r _ ih => exact (List.Perm.cons _ ih).trans (List.perm_middle.symm)
theorem Pick.perm {β : Type} {x : β} {l l' : List β} (h : Pick l x l') : l.Perm (x :: l') := by
  induction h with
  | h => exact .refl _
  | t _ ih => exact (List.Perm.cons _ ih).trans (.swap _ _ _)
theorem Sep.perm {w : World} {a b : List HP} (h : a.Perm b) : ∀ {U V : Nat -> Prop}, Sep w a U V -> Sep w b U V := by
  induction h with
  | nil => exact fun h => h
  | cons x _ ih =>
    rintro U V ⟨S, R, U', V', h1, h2, h3⟩;exact ⟨S, R, U', V', h1, ih h2, h3⟩
  | swap x y l =>
    intro U V h;exact Sep.cut (i := 1) (h := x) rfl h
  | trans _ _ ih1 ih2 => exact fun h => ih2 (ih1 h)
theorem Cx.perm {a b : List HP} (k : Cx F O w0 w a) (h : a.Perm b) : Cx F O w0 w b := by
  obtain ⟨U, V, h1, h2, h3⟩ := k.sep;exact ⟨k.os, k.tape, k.output, k.size, k.block, k.fin, k.Jp, U, V, Sep.perm h h1, h2, h3⟩
theorem Cx.tl {x : HP} (k : Cx F O w0 w (x :: hs)) : Cx F O w0 w hs := k.drop 0
theorem NY.sub {a b : List HP} (h : NY a b) : ∃ c, a.Perm (c ++ b) := by
  induction h with
  | e => exact ⟨[], .refl _⟩
  | z => rename_i l;exact ⟨l, by rw [List.append_nil]⟩
  | k _ ih => obtain ⟨c, hc⟩ := ih;exact ⟨c, (List.Perm.cons _ hc).trans List.perm_middle.symm⟩
  | s _ ih => rename_i x _ _ _;obtain ⟨c, hc⟩ := ih;exact ⟨x :: c, .cons _ hc⟩
theorem Cx.dropl {a b : List HP} (k : Cx F O w0 w (a ++ b)) : Cx F O w0 w b := by
  induction a with
  | nil => exact k
  | cons x l ih => exact ih k.tl
theorem Cx.bK {hs' : List HP} (k : Cx F O w0 w hs) (h : NY hs hs') : Cx F O w0 w hs' := by
  obtain ⟨c, hc⟩ := h.sub;exact (k.perm hc).dropl
theorem Cx.pk {x : HP} {hs' : List HP} (k : Cx F O w0 w hs) (h : Pick hs x hs') : Cx F O w0 w (x :: hs') := k.perm h.perm
theorem Cx.go {ins rest : List HP} (k : Cx F O w0 w hs) (p : Kz hs ins rest) : ∃ F1 O1 : Nat -> Prop, Cx F1 O1 w w ins /\ (∀ b, O b -> O1 b) /\ (∀ (i : Nat) (h : HP), rest[i]? = some h -> ∃ S R, h.p w S R /\ (∀ b, R b -> O1 b) /\ ∀ b, S b -> ¬ F1 b) /\ (∀ b, F1 b -> F b ∨ w0.heap.size <= b) /\
    ∀ w' outs all, Cx F1 O1 w w' outs -> App outs rest all -> Cx F O w0 w' all := by
  obtain ⟨F1, O1, h1, h2, h3, h4, h5⟩ := (k.perm p.perm).enter;exact ⟨F1, O1, h1, h2, h3, h4, fun w' outs all hk ha => ha.eq ▸ h5 w' outs hk⟩
inductive Chain (F O : Nat -> Prop) (w0 : World) : List HP -> List (World -> Prop) -> Prop
  | l {h : List HP} : Chain F O w0 h [fun x => Cx F O w0 x h]
  | c {h h' : List HP} {C : List (World -> Prop)} : NY h h' -> Chain F O w0 h' C -> Chain F O w0 h ((fun x => Cx F O w0 x h) :: C)
theorem Chain.spec {hs : List HP} {C : List (World -> Prop)} (h : Chain F O w0 hs C) : N_ C /\ ∀ w, cls C 0 w ↔ Cx F O w0 w hs := by
  induction h with
  | l => exact ⟨trivial, fun w => Iff.rfl⟩
  | c h1 hc ih =>
    cases hc with
    | l => exact ⟨⟨fun x hx => Cx.bK hx h1, trivial⟩, fun w => Iff.rfl⟩
    | c h2 h3 => exact ⟨⟨fun x hx => Cx.bK hx h1, ih.1⟩, fun w => Iff.rfl⟩
theorem yP {id : Nat} {l : List Oper} {C : List (World -> Prop)} (hm : P.follows .mixedOrders = true) (π : MT) (Ls : List Nat) (k : Cx F O w0 (w.drewN 1) hs) (ch : Chain F O w0 hs C)
    (hB : (Region.noSelect l.toArray, EN l.toArray Ls π 0 (Array.replicate l.length false), π.depth == l.length) = (true, true, true)) (h : ∀ listed, MX P n l.toArray Ls C (Q .normal) π 0 listed (Kn L) (w.drewN 1)) :
    W P n (.region id l.toArray true) Q L w := W_mix hm π Ls C hB ch.spec.1 ((ch.spec.2 _).2 k) h
inductive Mid : List SV -> List SV -> List SV -> Prop
  | k {s y ys zs} : Mid s ys zs -> Mid s (y :: ys) (y :: zs)
  | h {s y ys} : Mid [s] (y :: ys) (s :: ys)
  | h2 {s t y u ys} : Mid [s, t] (y :: u :: ys) (s :: t :: ys)
  | h3 {s t r y u v ys} : Mid [s, t, r] (y :: u :: v :: ys) (s :: t :: r :: ys)
  | h4 {s t r q y u v x ys} : Mid [s, t, r, q] (y :: u :: v :: x :: ys) (s :: t :: r :: q :: ys)
  | all {s ys} : Mid s ys s
theorem Mid.kk {s y u ys zs} (h : Mid s ys zs) : Mid s (y :: u :: ys) (y :: u :: zs) := .k (.k h)
theorem Mid.bJ {s y u v x ys zs} (h : Mid s ys zs) : Mid s (y :: u :: v :: x :: ys) (y :: u :: v :: x :: zs) := .kk (.kk h)
theorem Op_b {K : St -> World -> Prop} {ty t : TypeId} {p x : Operand} {pos : String} {iW : Array Edge} {g : Option (Nat × Bool)} (ss : List Nat) (i : Nat) {pa : Option Addr} (sv : SV) (svs : List SV) {bt : TypeId} {b : Nat} {ys zs : List SV} {off : Nat}
    (hp : Pt (some ⟨b, 0, none⟩) off pa) (k : Cx F O w0 w hs) (hi : hs[i]? = some (Bx bt b ys)) (md : Mid svs ys zs)
    (hside : (xH ops ss L (⟨none, .store t p x, ty, pos, iW, g⟩ : Oper), (none : Option Nat), (toSS [p, x] (lk L)).map SV.vals, zC P t, cellsS sv, svs.all SV.one1) = (true, none, some [.pointer pa, sv.val], some (SV.width svs), some svs, true))
    (hz : (WX off (SV.width svs) svs ys).map SV.cl = some (SV.cl zs))
    (hk : ∀ w', Cx F O w0 w' (hs.set i (Bx bt b zs)) -> K L w') :
    wQ P n ops L w ⟨none, .store t p x, ty, pos, iW, g⟩ K := Op_bput ss i zs hside hp k hi hz hk
inductive Vup : List SV -> Enc α -> {m : Nat} -> Vec α m -> Vec α m -> Nat -> List SV -> Prop
  | h {E : Enc α} {m : Nat} {x y : Vec α m} {ys} : Vup (.ar E x :: ys) E x y 0 (.ar E y :: ys)
  | t {E : Enc α} {m o : Nat} {x y : Vec α m} {u ys zs} : Vup ys E x y o zs -> Vup (u :: ys) E x y (SV.width [u] + o) (u :: zs)
theorem Vup.split {E : Enc α} {m o : Nat} {x y : Vec α m} {ys zs : List SV} (h : Vup ys E x y o zs) : ∃ pre post, ys = pre ++ .ar E x :: post /\ zs = pre ++ .ar E y :: post /\ o = SV.width pre := by
  induction h with
  | h => exact ⟨[], _, rfl, rfl, rfl⟩
  | t _ ih =>
    obtain ⟨p, q, rfl, rfl, rfl⟩ := ih;exact ⟨_ :: p, q, rfl, rfl, (FQ [_] p).symm⟩
theorem Op_vs {K : St -> World -> Prop} {ty t : TypeId} {p x : Operand} {pos : String} {iW : Array Edge} {g : Option (Nat × Bool)} {E : Enc α} (ss : List Nat) (i : Nat) {pa : Option Addr} (sv : SV) (svs : List SV) {bt : TypeId} {b : Nat} {m o o' : Nat} {x0 x1 : Vec α m} {ys zs : List SV} {j : Int} {e0 y : α} {kk : Nat}
    (hv : uZ x0 j y = x1) (hx : aZ x0.l j = some e0) (hp : Pt (some ⟨b, 0, none⟩) (o' + (j.toNat * E.sz + kk)) pa) (k : Cx F O w0 w hs) (hi : hs[i]? = some (Bx bt b ys)) (vu : Vup ys E x0 x1 o zs) (hy : E.f y = pat (E.f e0) kk (SV.cl svs))
    (hside : (xH ops ss L (⟨none, .store t p x, ty, pos, iW, g⟩ : Oper), (none : Option Nat), (toSS [p, x] (lk L)).map SV.vals, zC P t, cellsS sv, svs.all SV.one1, o') = (true, none, some [.pointer pa, sv.val], some (SV.width svs), some svs, true, o))
    (hl : Nat.ble (kk + SV.width svs) E.sz = true)
    (hk : ∀ w', Cx F O w0 w' (hs.set i (Bx bt b zs)) -> K L w') :
    wQ P n ops L w ⟨none, .store t p x, ty, pos, iW, g⟩ K := by
  obtain ⟨pre, post, rfl, rfl, rfl⟩ := vu.split;simp only [Prod.mk.injEq] at hside;obtain ⟨s1, s2, s3, s4, s5, s6, rfl⟩ := hside;subst hv;exact Op_vst (E := E) (kk := kk) (sv := sv) (svs := svs) ss i pre post x0 y (by rw [s1, s3, s4, s5, s6]) hp k hi hx hy (Nat.le_of_ble_eq_true hl) hk
end
end Go.Sx
namespace Go.Sx
open Go.RowKit
set_option linter.unusedSimpArgs false
set_option linter.unusedVariables false
variable {α β : Type}
abbrev Hd := Option Addr × Nat × Nat
def eH : Enc Hd := ⟨1, fun h => [.slice h.1 h.2.1 h.2.2], fun _ => rfl, fun x v h => by rw [List.mem_singleton.1 h];rfl⟩
instance : Pos eH := ⟨by decide⟩
def rows (E : Enc α) : List Hd -> List (List α) -> List HP
  | h :: hs, x :: xs => Ow E h.1 h.2.1 h.2.2 x :: rows E hs xs
  | _, _ => []
theorem YB {E : Enc α} {hd : List Hd} {zh : List (List α)} {i : Nat} {h : Hd} {x : List α} (h1 : hd[i]? = some h) (h2 : zh[i]? = some x) : (rows E hd zh)[i]? = some (Ow E h.1 h.2.1 h.2.2 x) := by
  induction hd generalizing zh i with
  | nil => cases h1
  | cons a az ih =>
    cases zh with
    | nil => cases h2
    | cons b bs =>
      cases i with
      | zero =>
        simp only [List.getElem?_cons_zero, Option.some.injEq] at h1 h2;subst h1;subst h2;rfl
      | succ i =>
        simp only [List.getElem?_cons_succ] at h1 h2;exact ih h1 h2
theorem Rz {E : Enc α} : ∀ (hd hd2 : List Hd) (zh KH : List (List α)), hd.length = zh.length -> rows E (hd ++ hd2) (zh ++ KH) = rows E hd zh ++ rows E hd2 KH
  | [], hd2, [], KH, _ => rfl
  | [], _, _ :: _, _, h => by cases h
  | _ :: _, _, [], _, h => by cases h
  | a :: az, hd2, b :: bs, KH, hl => by
    simp only [List.length_cons, Nat.add_right_cancel_iff] at hl;simp only [List.cons_append, rows, Rz az hd2 bs KH hl]
def Pk (q : Prop) (l : List HP) : HP where
  p w S R := q /\ Sep w l S R
  loc := by
    rintro w w' S R ⟨h0, h⟩ hk;exact ⟨h0, h.keep hk⟩
def O2 (E : Enc α) (A : Option Addr) (n c : Nat) (hd : List Hd) (zh : List (List α)) : HP := Pk (hd.length = zh.length) (Ow eH A n c hd :: rows E hd zh)
section
variable {F O : Nat -> Prop} {w0 w w' : World} {hs rest : List HP}
theorem L6 {β : Type} {l : List β} {i : Nat} {x : β} (h : l[i]? = some x) : l.Perm (x :: l.eraseIdx i) := by
  induction l generalizing i with
  | nil => cases h
  | cons y l ih =>
    cases i with
    | zero =>
      simp only [List.getElem?_cons_zero, Option.some.injEq] at h;subst h;exact .refl _
    | succ i =>
      simp only [List.getElem?_cons_succ] at h;simp only [List.eraseIdx_cons_succ];exact (List.Perm.cons _ (ih h)).trans (.swap _ _ _)
theorem YD {β : Type} {l : List β} {i : Nat} (x : β) (h : i < l.length) : (x :: l.eraseIdx i).Perm (l.set i x) := by
  have h1 : (l.set i x)[i]? = some x := by simp [h]
  have h2 := L6 h1;rw [List.eraseIdx_set_eq] at h2;exact h2.symm
theorem Cx.unpk {q : Prop} {l : List HP} (k : Cx F O w0 w (Pk q l :: rest)) : q /\ Cx F O w0 w (l ++ rest) := by
  obtain ⟨U, V, ⟨S, R, U', V', ⟨hq, h1⟩, h2, h3, h4, h5, h6⟩, hU, hV⟩ := k.sep;refine ⟨hq, k.os, k.tape, k.output, k.size, k.block, k.fin, k.Jp, _, _, Sep.join h1 h2 (fun b hb => ⟨(h5 b hb).1, (h5 b hb).2.2⟩) h6, fun b hb => hU b ((h3 b).2 hb), fun b hb => hV b ((h4 b).2 hb)⟩
theorem Cx.dopk {q : Prop} {l : List HP} (hq : q) (k : Cx F O w0 w (l ++ rest)) : Cx F O w0 w (Pk q l :: rest) := by
  obtain ⟨U, V, h, hU, hV⟩ := k.sep;obtain ⟨U1, V1, U2, V2, e1, e2, e3, e4, e5, e6⟩ := Sep.split h;refine ⟨k.os, k.tape, k.output, k.size, k.block, k.fin, k.Jp, U, V, ⟨U1, V1, U2, V2, ⟨hq, e1⟩, e2, e3, e4, fun b hb => ⟨(e5 b hb).1, fun hr => Sep.apart e1 b hb hr, (e5 b hb).2⟩, e6⟩, hU, hV⟩
theorem O2.parts {E : Enc α} {A : Option Addr} {n c : Nat} {hd : List Hd} {zh : List (List α)} {S R : Nat -> Prop} (h : (O2 E A n c hd zh).p w S R) :
    hd.length = zh.length /\ (∃ S' R', (Ow eH A n c hd).p w S' R' /\ ∀ b, S' b -> S b) /\ ∀ (j : Nat) (h : Hd) (x : List α), hd[j]? = some h -> zh[j]? = some x -> ∃ S' R', (Ow E h.1 h.2.1 h.2.2 x).p w S' R' /\ ∀ b, S' b -> S b := by
  obtain ⟨hl, hS⟩ := h;refine ⟨hl, ?_, fun j h x h1 h2 => ?_⟩
  ·obtain ⟨S', R', U', V', e1, e2, e3, _⟩ := Sep.cut (i := 0) rfl hS;exact ⟨S', R', e1, fun b hb => (e3 b).2 (.inl hb)⟩
  ·obtain ⟨S', R', U', V', e1, e2, e3, _⟩ := Sep.cut (i := j + 1) (by rw [List.getElem?_cons_succ];exact YB h1 h2) hS;exact ⟨S', R', e1, fun b hb => (e3 b).2 (.inl hb)⟩
theorem Cx.hd2 {E : Enc α} {A : Option Addr} {n c : Nat} {hd : List Hd} {zh : List (List α)} (k : Cx F O w0 w hs) (i : Nat) (hi : hs[i]? = some (O2 E A n c hd zh)) : Rd w A (eH.all hd) := by
  obtain ⟨S, R, h⟩ := k.get i hi;obtain ⟨_, ⟨S', R', h1, _⟩, _⟩ := O2.parts h;exact Ow.rd' h1
theorem Cx.yQ {E : Enc α} {A : Option Addr} {n c : Nat} {hd : List Hd} {zh : List (List α)} (k : Cx F O w0 w hs) (i : Nat) (hi : hs[i]? = some (O2 E A n c hd zh)) : zh.length = n := by
  obtain ⟨S, R, h⟩ := k.get i hi;obtain ⟨hl, ⟨S', R', h1, _⟩, _⟩ := O2.parts h;rw [<- hl];exact h1.1
theorem Cx.hlen2 {E : Enc α} {A : Option Addr} {n c : Nat} {hd : List Hd} {zh : List (List α)} (k : Cx F O w0 w hs) (i : Nat) (hi : hs[i]? = some (O2 E A n c hd zh)) : hd.length = n := by
  obtain ⟨S, R, h⟩ := k.get i hi;obtain ⟨hl, ⟨S', R', h1, _⟩, _⟩ := O2.parts h;exact h1.1
theorem Ow.Xi {E : Enc α} {A : Option Addr} {n c : Nat} {xs : List α} {S R : Nat -> Prop} (h : (Ow E A n c xs).p w S R) : n <= c := by
  rcases h.2 with ⟨_, h1, h2⟩ | ⟨g, t, cur, _, _, h3, _⟩ <;> omega
theorem Cx.lec2 {E : Enc α} {A : Option Addr} {n c : Nat} {hd : List Hd} {zh : List (List α)} (k : Cx F O w0 w hs) (i : Nat) (hi : hs[i]? = some (O2 E A n c hd zh)) : n <= c := by
  obtain ⟨S, R, h⟩ := k.get i hi;obtain ⟨hl, ⟨S', R', h1, _⟩, _⟩ := O2.parts h;exact Ow.Xi h1
theorem Cx.at2 {E : Enc α} {A : Option Addr} {n c : Nat} {hd : List Hd} {zh : List (List α)} {j : Int} {x : List α} (k : Cx F O w0 w hs) (i : Nat) (hi : hs[i]? = some (O2 E A n c hd zh)) (hx : aZ zh j = some x) : ∃ B d, aZ hd j = some (B, x.length, d) /\ x.length <= d := by
  obtain ⟨S, R, h⟩ := k.get i hi;obtain ⟨hl, _, h2⟩ := O2.parts h;obtain ⟨h0, h1⟩ := bF hx;have hlt := (List.getElem?_eq_some_iff.1 h1).1;have hh : hd[j.toNat]? = some (hd[j.toNat]'(hl ▸ hlt)) := List.getElem?_eq_getElem _;obtain ⟨S', R', hp, _⟩ := h2 _ _ _ hh h1;refine ⟨(hd[j.toNat]'(hl ▸ hlt)).1, (hd[j.toNat]'(hl ▸ hlt)).2.2, ?_, ?_⟩
  ·unfold aZ;rw [if_pos h0, hh, hp.1]
  ·rw [hp.1];exact Ow.Xi hp
theorem VZ {β : Type} {l : List β} {j : Int} {x : β} (h : aZ l j = some x) : l[j.toNat]? = some x := (bF h).2
theorem Cx.in2 {E : Enc α} {A : Option Addr} {n c m : Nat} {hd : List Hd} {zh : List (List α)} {j : Int} {x : List α} {B : Option Addr} {d : Nat} (k : Cx F O w0 w hs) (i : Nat) (hi : hs[i]? = some (O2 E A n c hd zh)) (hx : aZ zh j = some x) (hh : aZ hd j = some (B, m, d)) : Rd w B (E.all x) := by
  obtain ⟨S, R, h⟩ := k.get i hi;obtain ⟨hl, _, h2⟩ := O2.parts h;obtain ⟨S', R', hp, _⟩ := h2 _ _ _ (VZ hh) (VZ hx);exact Ow.rd' hp
theorem Cx.nil2 (k : Cx F O w0 w hs) (E : Enc α) : Cx F O w0 w (hs ++ [O2 E Option.none 0 0 [] []]) := by
  have k1 := k.nil eH;have k2 : Cx F O w0 w (([Ow eH Option.none 0 0 []] : List HP) ++ hs) := k1.perm List.perm_append_comm;have k3 := Cx.dopk (q := ([] : List Hd).length = ([] : List (List α)).length) rfl k2;exact k3.perm (List.perm_append_comm (l₁ := [_]))
end
structure Ro2 (F : Nat -> Prop) (w : World) (E : Enc α) (A : Option Addr) (hd : List Hd) (zh : List (List α)) : Prop where
  ro : Ro F w A (eH.all hd)
  len : hd.length = zh.length
  el : ∀ (j : Nat) (h : Hd) (x : List α), hd[j]? = some h -> zh[j]? = some x -> h.2.1 = x.length /\ x.length <= h.2.2 /\ Ro F w h.1 (E.all x)
section
variable {F O F1 O1 : Nat -> Prop} {w0 w w' : World} {hs rest : List HP} {E : Enc α} {A : Option Addr} {hd : List Hd} {zh : List (List α)}
theorem Ro2.at (r : Ro2 F w E A hd zh) {j : Int} {x : List α} (hx : aZ zh j = some x) : ∃ B d, aZ hd j = some (B, x.length, d) /\ x.length <= d /\ Ro F w B (E.all x) := by
  obtain ⟨h0, h1⟩ := bF hx;have hlt := (List.getElem?_eq_some_iff.1 h1).1;have hh : hd[j.toNat]? = some (hd[j.toNat]'(r.len ▸ hlt)) := List.getElem?_eq_getElem _;obtain ⟨e1, e2, e3⟩ := r.el _ _ _ hh h1;refine ⟨(hd[j.toNat]'(r.len ▸ hlt)).1, (hd[j.toNat]'(r.len ▸ hlt)).2.2, ?_, e2, e3⟩;unfold aZ;rw [if_pos h0, hh, <- e1]
theorem L8 {n c : Nat} {xs : List α} {S R : Nat -> Prop} (h : (Ow E A n c xs).p w S R) (hS : ∀ b, S b -> ¬ F1 b) : Ro F1 w A (E.all xs) := by
  refine ⟨Ow.rd' h, fun _ a ha => ?_⟩;rcases h.2 with ⟨h1, _⟩ | ⟨g, t, cur, h1, _, _, _, _, _, h7⟩
  ·rw [h1] at ha;cases ha
  ·rw [h1] at ha;simp only [Option.some.injEq] at ha;subst ha;exact hS g h7
theorem Ro2.of_p {n c : Nat} {S R : Nat -> Prop} (h : (O2 E A n c hd zh).p w S R) (hS : ∀ b, S b -> ¬ F1 b) : Ro2 F1 w E A hd zh := by
  obtain ⟨hl, ⟨S', R', h1, h2⟩, h3⟩ := O2.parts h;refine ⟨L8 h1 (fun b hb => hS b (h2 b hb)), hl, fun j h x e1 e2 => ?_⟩;obtain ⟨S', R', f1, f2⟩ := h3 j h x e1 e2;exact ⟨f1.1.symm, by rw [f1.1];exact Ow.Xi f1, L8 f1 (fun b hb => hS b (f2 b hb))⟩
theorem Cx.ro2 {n c : Nat} (k : Cx F O w0 w hs) (i : Nat) (hi : hs[i]? = some (O2 E A n c hd zh)) : Ro2 N0 w E A hd zh := by
  obtain ⟨S, R, h⟩ := k.get i hi;exact Ro2.of_p h fun _ _ h => h
end
section
variable {P : Program} {n : Nat} {ops : Array Oper} {L : St} {w w0 : World} {F O : Nat -> Prop} {hs rest : List HP} {K : St -> World -> Prop}
theorem UR {dst : Option Nat} {t ty : TypeId} {len : Nat} {parts : Array (Nat × Operand)} {pos : String} {iW : Array Edge} {g : Option (Nat × Bool)} {e : TypeId} {zs : List Value} {bytes : Nat} (tf : TF P t e zs bytes)
    (E : Enc α) (ss : List Nat) (d : Nat) (hd : List Hd) (zh : List (List α)) (ps : List (Nat × SV)) (svs : List SV)
    (hside : (xH ops ss L ⟨dst, .buildSlice t len parts, ty, pos, iW, g⟩, dst, (decide (d < n)), (L.any fun p => p.1 == d), (toPS parts.toList (lk L)).map (·.map fun p => (p.1, p.2.val))) = (true, some d, true, false, some (ps.map fun p => (p.1, p.2.val))))
    (hf : (Kv (fun i => some (i * zs.length, zs.length)) ((List.replicate len zs).flatten.map H9) ps, decide (len * zs.length <= 16777216), hd.length, eH.sz) = (some svs, true, len, zs.length)) (hx : SV.cl svs = eH.all hd) (hl : hd.length = zh.length)
    (k : Cx F O w0 w (rows E hd zh ++ rest)) (hk : ∀ A w', Cx F O w0 w' (O2 E A len len hd zh :: rest) -> K ((d, .v (.slice A len len)) :: L) w') :
    wQ P n ops L w ⟨dst, .buildSlice t len parts, ty, pos, iW, g⟩ K := by
  refine qK tf eH ss d hd ps svs hside hf hx k fun A w' k' => hk A w' (Cx.dopk hl (k'.perm ?_));exact (List.perm_append_comm (l₂ := [_])).trans (List.Perm.refl _)
theorem GZ {dst : Option Nat} {x y : Operand} {t t2 ty : TypeId} {pos : String} {iW : Array Edge} {g : Option (Nat × Bool)} {e : TypeId} {zs : List Value} {bytes : Nat} (tf : TF P t e zs bytes)
    {E : Enc α} (ss : List Nat) (d : Nat) {A A2 : Option Addr} {n1 n2 c c2 : Nat} {hd hd2 : List Hd} {zh KH : List (List α)}
    (hside : (xH ops ss L ⟨dst, .call ⟨.builtin .append, #[x, y], #[t, t2]⟩, ty, pos, iW, g⟩, dst, (decide (d < n)), (L.any fun p => p.1 == d), (toSS [x, y] (lk L)).map SV.vals, (match P.underlying t2 with | some (.slice _) => true | some .string => true | _ => false), 1) = (true, some d, true, false, some [.slice A n1 c, .slice A2 n2 c2], true, zs.length))
    (k : Cx F O w0 w (O2 E A n1 c hd zh :: O2 E A2 n2 c2 hd2 KH :: rest)) (hroom : (n1 + n2) * bytes <= 140737488355328)
    (hk : ∀ A' c' w', Cx F O w0 w' (O2 E A' (n1 + n2) c' (hd ++ hd2) (zh ++ KH) :: rest) -> K ((d, .v (.slice A' (n1 + n2) c')) :: L) w') :
    wQ P n ops L w ⟨dst, .call ⟨.builtin .append, #[x, y], #[t, t2]⟩, ty, pos, iW, g⟩ K := by
  have hl2 : hd2.length = n2 := k.hlen2 1 rfl;have hrd := k.hd2 1 rfl;obtain ⟨hl, k1⟩ := k.unpk;have k2 : Cx F O w0 w (O2 E A2 n2 c2 hd2 KH :: ((Ow eH A n1 c hd :: rows E hd zh) ++ rest)) := k1.perm (by simp only [List.cons_append];exact List.perm_middle (l₁ := _ :: _));obtain ⟨hl', k3⟩ := k2.unpk;have hz : (1 : Nat) = zs.length := by simp only [Prod.mk.injEq] at hside;exact hside.2.2.2.2.2.2
  have k4 : Cx F O w0 w (Ow eH A n1 c hd :: (Ow eH A2 n2 c2 hd2 :: (rows E hd2 KH ++ (rows E hd zh ++ rest)))) := k3.perm (by
    simp only [List.cons_append];exact (List.Perm.cons _ List.perm_middle).trans (.swap _ _ _))
  refine dL (E := eH) (v := .v (.slice A2 n2 c2)) (ys := hd2) tf ss d 0 hside k4 rfl (Src.sl hrd hl2 hz) hl2 hroom fun A' c' w' k' => hk A' c' w' ?_;have k5 : Cx F O w0 w' (Ow eH A' (n1 + n2) c' (hd ++ hd2) :: (rows E hd2 KH ++ (rows E hd zh ++ rest))) := (k'.perm (.swap _ _ _)).tl;refine Cx.dopk (by simp [hl, hl']) (k5.perm ?_);rw [Rz hd hd2 zh KH hl];simp only [List.cons_append, List.append_assoc];refine .cons _ ?_;rw [<- List.append_assoc, <- List.append_assoc];exact List.Perm.append_right rest List.perm_append_comm
end
section
variable {P : Program} {n : Nat} {Q : Act -> World -> Prop} {ops : Array Oper} {Ls : List Nat} {C : List (World -> Prop)} {L L' : St} {w : World} {π : MT} {p : Nat}
theorem Xj (L' : St) (hk : L'.map (fun p => (find L p.1).map SV.val) = L'.map (fun p => some p.2.val)) {listed : Array Bool} (h : MX P n ops Ls C Q π p listed (Kn L') w) : MX P n ops Ls C Q π p listed (Kn L) w :=
  fun hns hmo hB hw => C9 (q := fun a w => wpC P ops Ls (cls C) Q π.depth p listed a w) L' hk (fun a ha => h hns hmo hB hw a ha)
theorem YE (k : Nat) (c : Bool) (b : Bl L L') (hk : ((k, SV.b c) :: L').map (fun p => (find L p.1).map SV.val) = ((k, SV.b c) :: L').map (fun p => some p.2.val))
    (h1 : c = true -> ∀ listed, MX P n ops Ls C Q π p listed (Kn ((k, .b true) :: L')) w) (h2 : c = false -> ∀ listed, MX P n ops Ls C Q π p listed (Kn ((k, .b false) :: L')) w) {listed : Array Bool} : MX P n ops Ls C Q π p listed (Kn L) w := by
  refine Xj ((k, SV.b c) :: L') hk ?_;cases c with
  | true => exact h1 rfl listed
  | false => exact h2 rfl listed
theorem Ai {i : Nat} {o : Oper} (d : Nat) (ss : List Nat) (hl : Ls.contains i = true) (ho : ops[i]? = some o) (hs : ((Rh ops o).map (settled ss (Kn L)), o.dst, decide (d < n), L.any fun p => p.1 == d) = (some (some false), some d, true, false))
    (h : ∀ listed, MX P n ops Ls C Q π (p + 1) listed (Kn ((d, .jH []) :: L)) w) {listed : Array Bool} : MX P n ops Ls C Q (.op i π) p listed (Kn L) w := by
  intro hns hmo hB hw a ha;simp only [Prod.mk.injEq, decide_eq_true_eq, Option.map_eq_some_iff] at hs;obtain ⟨⟨g, hg, hse⟩, hd, hn, hnew⟩ := hs;have hnx : nx Ls p i = p + 1 := by unfold nx;rw [if_pos hl]
  simp only [EN, Bool.and_eq_true, beq_iff_eq, hnx] at hB;obtain ⟨hr, hB⟩ := hB;obtain ⟨k, wv, rfl, _, h2⟩ := AO ha hse;have hnw : Region.wanted o (yielded ops a.tmps) = false := by
    cases hwant : Region.wanted o (yielded ops a.tmps) with
    | true => exact absurd ((AL hg).1 hwant k wv rfl) (h2 rfl)
    | false => rfl
  refine ⟨fun h0 => (by rw [h0] at hr;cases hr), fun j hj => ?_⟩;rw [hr] at hj;simp only [List.mem_singleton] at hj;subst hj;have hc := hmo.le p (p + 1) w (by omega) hw;unfold wpOp;simp only [ho, hnx];rw [if_neg (by simp [hnw]), hd];exact ⟨hc, h _ hns hmo hB hc _ (ha.more (x := .jH []) hn hnew)⟩
end
end Go.Sx
namespace Go.Sx
open Go.ChangeShapes Go.WideShapes Go.ChangeAt Go.RowKit
set_option linter.unusedSimpArgs false
set_option linter.unusedVariables false
variable {α σ ρ : Type}
theorem iK {n : Int} (h : -9223372036854775808 <= n /\ n < 9223372036854775808) : aG n = n := by
  simp only [aG, IntKind.wrap, IntKind.signed, IntKind.bits, reduceIte];simp only [show (2 : Int) ^ 64 = 18446744073709551616 from rfl, show (2 : Int) ^ 63 = 9223372036854775808 from rfl, show (2 : Nat) ^ 64 = 18446744073709551616 from rfl, show (2 : Nat) ^ 63 = 9223372036854775808 from rfl, show (64 - 1 : Nat) = 63 from rfl]
  first | omega | (simp;omega)
theorem uD {xs ys : List α} {b : Nat} (h : (xs.length + ys.length) * b <= 140737488355328) : app xs ys b = some (xs ++ ys) := by
  unfold app;rw [if_pos h]
theorem qL {p : Prop} [Decidable p] (h : p) : need p = some () := by
  unfold need;rw [if_pos h]
theorem Aj {xs : List α} {lo hi : Int} (h : 0 <= lo /\ lo <= hi /\ hi <= xs.length) : Jq xs lo hi = some ((xs.take hi.toNat).drop lo.toNat) := by
  unfold Jq;rw [if_pos h]
theorem UT {f : σ -> Option (σ ⊕ ρ)} (P : Nat -> σ -> Prop) (Q : ρ -> Prop) (n : Nat)
    (h : ∀ i s, P i s -> (i < n /\ ∃ s', f s = some (.inl s') /\ P (i + 1) s') ∨ ∃ r, f s = some (.inr r) /\ Q r) :
    ∀ s, P 0 s -> ∃ r, aV f s = some r /\ Q r := by
  have key : ∀ k i s, n - i <= k -> P i s -> ∃ r, aV f s = some r /\ Q r := by
    intro k
    induction k with
    | zero =>
      intro i s hk hp;rcases h i s hp with ⟨hi, _⟩ | ⟨r, hr, hq⟩
      ·omega
      ·exact ⟨r, dU hr, hq⟩
    | succ k ih =>
      intro i s hk hp;rcases h i s hp with ⟨hi, s', hs', hp'⟩ | ⟨r, hr, hq⟩
      ·rw [gK hs'];exact ih (i + 1) s' (by omega) hp'
      ·exact ⟨r, dU hr, hq⟩
  exact fun s hp => key n 0 s (by omega) hp
theorem xI {f : σ -> Option (σ ⊕ ρ)} (P : Nat -> σ -> Prop) (r : ρ) (n : Nat) (s : σ) (h0 : P 0 s)
    (h : ∀ i s, P i s -> (i < n /\ ∃ s', f s = some (.inl s') /\ P (i + 1) s') ∨ f s = some (.inr r)) : aV f s = some r := by
  obtain ⟨r', h1, rfl⟩ := UT P (fun r' => r' = r) n (fun i s hp => (h i s hp).imp id fun e => ⟨r, e, rfl⟩) s h0;exact h1
theorem iL {f : σ -> Option (σ ⊕ ρ)} (s : Nat -> σ) (n : Nat) {r : ρ} (h : ∀ i, i < n -> f (s i) = some (.inl (s (i + 1)))) (he : f (s n) = some (.inr r)) : aV f (s 0) = some r :=
  xI (fun i x => x = s i /\ i <= n) r n (s 0) ⟨rfl, by omega⟩ (by
    rintro i x ⟨rfl, hi⟩;by_cases hlt : i < n
    ·exact .inl ⟨hlt, _, h i hlt, rfl, by omega⟩
    ·obtain rfl : i = n := by omega
     exact .inr he)
def YF (k : IntKind) (w : World) (a : Option Addr) (len cap : Nat) (zs : List Int) : Prop :=
  (a = none /\ len = 0 /\ cap = 0 /\ zs = []) ∨
  ∃ x, a = some x /\ len <= cap /\ cap <= maxLen /\ zs.length = cap /\ (∀ i, i < zs.length -> w.cell? (x.add i) = some (.int k (zs.getD i 0))) /\ ∀ n ∈ zs, (Lit.int k n).wf = true
theorem wf_u8 {n : Int} (h : (Lit.int .u8 n).wf = true) : 0 <= n /\ n <= 255 := by
  simpa [Lit.wf, IntKind.min, IntKind.max, IntKind.signed, IntKind.bits] using h
theorem get_u8 {n : Int} (h : (Lit.int .u8 n).wf = true) : ∃ x : UInt8, Value.int .u8 n = SV.val (.u8 x) := by
  have := wf_u8 h;refine ⟨UInt8.ofNat n.toNat, ?_⟩;simp only [SV.val, Value.int.injEq, true_and];simp;omega
theorem YG {k : IntKind} {β : Type} {φ : β -> Value} {w : World} {a : Option Addr} {len cap : Nat} {zs : List Int} (h : YF k w a len cap zs)
    (hg : ∀ n : Int, (Lit.int k n).wf = true -> ∃ x : β, Value.int k n = φ x) : ∃ b : List β, Rd w a (b.map φ) /\ b.length = len /\ len <= cap := by
  rcases h with ⟨rfl, rfl, rfl, rfl⟩ | ⟨x, rfl, hl, hm, hz, hc, hw⟩
  ·exact ⟨[], ⟨fun h => absurd rfl h, fun _ _ _ h => by cases h⟩, rfl, by omega⟩
  ·have key : ∀ zs : List Int, (∀ n ∈ zs, (Lit.int k n).wf = true) -> ∃ b : List β, b.length = zs.length /\ ∀ (i : Nat) (n : Int), zs[i]? = some n -> ∃ y : β, b[i]? = some y /\ Value.int k n = φ y := by
     intro zs
     induction zs with
     | nil => intro _;exact ⟨[], rfl, fun i n h => by simp at h⟩
     | cons z zs ih =>
       intro hw;obtain ⟨b, hb, hi⟩ := ih fun n hn => hw n (List.mem_cons_of_mem _ hn);obtain ⟨y, hy⟩ := hg z (hw z List.mem_cons_self);refine ⟨y :: b, by simp [hb], fun i n hin => ?_⟩;cases i with
       | zero => simp at hin;subst hin;exact ⟨y, by simp, hy⟩
       | succ i => simp at hin;obtain ⟨y', h1, h2⟩ := hi i n hin;exact ⟨y', by simpa using h1, h2⟩
   obtain ⟨b, hb, hi⟩ := key zs hw;refine ⟨b.take len, ⟨fun _ => ⟨x, rfl⟩, fun a j u ha hu => ?_⟩, by simp;omega, hl⟩;cases ha;rw [List.map_take, List.getElem?_take] at hu;split at hu
   ·rename_i hj;have hjz : j < zs.length := by omega
    obtain ⟨y, h1, h2⟩ := hi j zs[j] (by simp [hjz]);rw [List.getElem?_map, h1] at hu;simp only [Option.map_some, Option.some.injEq] at hu;rw [hc j hjz, <- hu, <- h2];simp [hjz]
   ·cases hu
theorem row_u8 {w : World} {a : Option Addr} {len cap : Nat} {zs : List Int} (h : YF .u8 w a len cap zs) : ∃ b : List UInt8, Rd w a (b.map bV) /\ b.length = len /\ len <= cap :=
  YG h fun n hn => by obtain ⟨x, hx⟩ := get_u8 hn;exact ⟨x, hx⟩
section
variable {H : Type} {enc : TypeId × Value -> H} {P : Program} {w : World} {held : Bool}
theorem open_row {t e : TypeId} {k : IntKind} {fuel : Nat} {cs : List Value} {x : DataW H × List MemPlace} (ht : P.underlying t = some (.slice e)) (he : P.underlying e = some (.int k)) (hc : P.cellsOf e = 1)
    (h : DataW.trod enc P w 0 (fun _ => true) held fuel t cs = some x) :
    ∃ a len cap zs, cs = [.slice a len cap] /\ YF k w a len cap zs /\ (len = 0 ∨ (x.1 = .slice (lits k (zs.take len)) (lits k (zs.drop len)) /\ len <= zs.length)) := by
  rcases open_ints ht he hc h with ⟨rfl, _⟩ | ⟨x', l, c, zs, rfl, _, hl, hm, hz, hxx, hcell, hwz⟩
  ·exact ⟨none, 0, 0, [], rfl, .inl ⟨rfl, rfl, rfl, rfl⟩, .inl rfl⟩
  ·simp only [if_true] at hz;refine ⟨some x', l, c, zs, rfl, .inr ⟨_, rfl, hl, hm, by simpa using hz, hcell, hwz⟩, .inr ⟨by rw [hxx], by omega⟩⟩
end
end Go.Sx
namespace Go.Sx
open Go.RowKit Go.ChangeShapes Go.WideShapes Go.ChangeAt
set_option linter.unusedSimpArgs false
set_option linter.unusedVariables false
section
variable {P : Program} {n : Nat} {ops : Array Oper} {L : St} {w : World} {K : St -> World -> Prop}
end
section
variable {α : Type} {F O : Nat -> Prop} {w0 w : World} {hs : List HP}
end
section
variable {α : Type} {F O : Nat -> Prop} {w0 w : World} {hs rest : List HP} {E : Enc α} {A : Option Addr} {n c m : Nat} {hd : List Hd} {zh : List (List α)}
end
theorem RD {P : Program} {w : World} {g : Nat} {cur : Array Value} {t : TypeId} (h : Rw w g cur t) : ∃ w', (markStringish ⟨g, 0, Option.none⟩).run P w = .ok () w' /\ Rw w' g cur t /\ w.grownBy w' (some g) /\ w'.heap.size = w.heap.size := by
  obtain ⟨⟨lo, hi⟩, h, hn⟩ := h;have hsh : w.shape? g = some (t, cur.size) := by simp [World.shape?, h]
  refine ⟨w.freeze { block := g, off := cur.size } 1, ?_, ⟨if lo == hi then (cur.size, cur.size + 1) else (min lo cur.size, max hi (cur.size + 1)), ?_, ?_⟩, ⟨rfl, rfl, rfl, by simp [World.freeze], fun k hk hne => ?_⟩, by simp [World.freeze]⟩
  ·simp [markStringish, shape, Sem.run, hsh, freeze]
  ·simp [World.freeze, Array.getElem?_modify, h]
  ·unfold NF at *;split
   ·exact .inr (Nat.le_refl _)
   ·rename_i hne;right;have hne' : lo ≠ hi := by simpa using hne
    rcases hn with h1 | h1
    ·exact absurd h1.symm hne'
    ·simp only at h1 ⊢;omega
  ·have : ¬ g = k := fun e => hne (by rw [e]);simp [World.freeze, Array.getElem?_modify, this]
section
variable {P : Program} {n : Nat} {ops : Array Oper} {L : St} {w w0 : World} {F O : Nat -> Prop} {hs : List HP} {K : St -> World -> Prop}
theorem Op_cb {dst : Option Nat} {x : Operand} {t ty : TypeId} {pos : String} {iW : Array Edge} {g : Option (Nat × Bool)} (e : TypeId) (ss : List Nat) (d i : Nat) {A : Option Addr} {n1 c : Nat} {xs : List UInt8}
    (hside : (xH ops ss L ⟨dst, .convert t t x, ty, pos, iW, g⟩, dst, (decide (d < n)), (L.any fun p => p.1 == d), (toSS [x] (lk L)).map SV.vals, P.underlying t, P.underlying e) = (true, some d, true, false, some [.slice A n1 c], some (.slice e), some (.int .u8)))
    (k : Cx F O w0 w hs) (hi : hs[i]? = some (Ow e8 A n1 c xs)) (hn : 0 < n1) (hk : ∀ w', Cx F O w0 w' (hs.set i (Ow e8 A n1 c xs)) -> K ((d, .v (.slice A n1 c)) :: L) w') :
    wQ P n ops L w ⟨dst, .convert t t x, ty, pos, iW, g⟩ K := by
  simp only [Prod.mk.injEq, Option.map_eq_some_iff, decide_eq_true_eq] at hside;obtain ⟨s1, rfl, s3, s4, ⟨svs, s5, s6⟩, h1, h2⟩ := hside;refine uI (xs := [x]) (svs := svs) ss (d := d) (by simp [Side, s1, s3, s4, s5]) fun a ha he => ?_;rw [s6] at he;simp only [List.map_cons, List.map_nil, List.cons.injEq, and_true] at he;obtain ⟨S, R, hS⟩ := k.get i hi;rcases hS.2 with ⟨_, h0, _⟩ | ⟨g', t', cur, rfl, hr, hrest⟩
  ·omega
  obtain ⟨w', hm1, hm2, hm3, hm4⟩ := RD (P := P) hr;have hrun : (execOp a.eval ⟨some d, .convert t t x, ty, pos, iW, g⟩).run P w = .ok (.value (.slice (some ⟨g', 0, Option.none⟩) n1 c)) w' := by
    unfold execOp;simp only [he, convert, Sem.run_bind, run_underlying h1, run_underlying h2, Result.andThen_ok, beq_self_eq_true, hm1, Sem.run_pure]
  unfold Oper.wp;rw [hrun];refine ⟨.v (.slice (some ⟨g', 0, Option.none⟩) n1 c), rfl, hk w' ?_⟩;refine k.PT i hi (some g') hm3 fun S R hS hlt => ?_;rcases hS.2 with ⟨h0, _⟩ | ⟨g2, t2, cur2, e1, hr2, YH⟩
  ·cases h0
  ·simp only [Option.some.injEq, Addr.mk.injEq, and_true] at e1;subst e1;obtain ⟨w2, hm1', hm2', _, _⟩ := RD (P := P) hr2;rw [hm1] at hm1';simp only [Result.ok.injEq, true_and] at hm1';subst hm1';refine ⟨fun g3 hg => (by simp only [Option.some.injEq] at hg;subst hg;exact YH.2.2.2.2), S, fun _ => False, ⟨hS.1, .inr ⟨g', t2, cur2, rfl, hm2', YH⟩⟩, fun b hb => ⟨by rw [hm4];exact hlt b hb, .inl hb⟩, fun _ h => h⟩
end
section
variable {P : Program} {n : Nat} {Q : Exit -> Act -> World -> Prop} {L L' : St} {w : World} {c : Code}
end
section
variable {P : Program} {n : Nat} {ops : Array Oper} {L : St} {w : World} {K : St -> World -> Prop}
structure IsFb (P : Program) (f : FuncId) : Prop where
  ok : ∃ fn, P.funcs[f]? = some fn /\ (fn.name == "runtime.NumGoroutine") = false /\ fn.body.isNone = true /\ Extern.findNext fn = none /\ Extern.find fn = some Extern.MathFloatBits.float64bits
theorem YI {dst : Option Nat} {f : FuncId} {xs : Array Operand} {ats : Array TypeId} {ty : TypeId} {pos : String} {iW : Array Edge} {g : Option (Nat × Bool)} (hf : IsFb P f) (ss : List Nat) (d : Nat) (b : Nat) (hb : b < 18446744073709551616)
    (hs : (xH ops ss L ⟨dst, .call ⟨.value (.func f), xs, ats⟩, ty, pos, iW, g⟩, dst, (decide (d < n)), (L.any fun p => p.1 == d), (toSS xs.toList (lk L)).map SV.vals) = (true, some d, true, false, some [.float .f64 b]))
    (hk : K ((d, .u64 (UInt64.ofNat b)) :: L) w) : wQ P n ops L w ⟨dst, .call ⟨.value (.func f), xs, ats⟩, ty, pos, iW, g⟩ K := by
  simp only [Prod.mk.injEq, Option.map_eq_some_iff, decide_eq_true_eq] at hs;obtain ⟨s1, s2, s3, s4, ⟨vs, s5, s6⟩⟩ := hs;subst s2;refine uI (xs := xs.toList) (svs := vs) ss (d := d) (by simp [Side, s1, s3, s4, s5]) fun a ha he => ?_;rw [s6] at he;have hargs : (#[] ++ xs.map a.eval ++ #[] : Array Value) = #[.float .f64 b] := by
    apply Array.ext';simpa using he
  obtain ⟨fn, h1, h2, h3, h4, h5⟩ := hf.ok;have hrun : (execOp a.eval ⟨some d, .call ⟨.value (.func f), xs, ats⟩, ty, pos, iW, g⟩).run P w = .ok (.value (SV.val (.u64 (UInt64.ofNat b)))) w := by
    show (callFunc f (#[] ++ xs.map a.eval ++ #[])).run P w = _;rw [hargs, run_callFunc_extern h1 h2 h3 h4 h5];have e : (UInt64.ofNat b).toNat = b := by simp only [UInt64.toNat_ofNat'];omega
    simp only [SV.val, e];rfl
  unfold Oper.wp;rw [hrun];exact ⟨_, rfl, hk⟩
end
section
variable {P : Program} {n : Nat} {ops : Array Oper} {L : St} {w : World} {K : St -> World -> Prop}
end
def eQ : Enc (Option Addr) := ⟨1, fun a => [.pointer a], fun _ => rfl, fun x v h => by rw [List.mem_singleton.1 h];rfl⟩
instance : Pos eQ := ⟨by decide⟩
def Tot : List (List UInt8) -> Nat
  | [] => 0
  | x :: xs => x.length + 1 + Tot xs
section
variable {H : Type} {enc : TypeId × Value -> H} {P : Program} {w : World} {held : Bool}
def Fam : List (DataW H) -> List (List UInt8) -> Prop
  | [], [] => True
  | d :: ds, x :: xs => (x = [] ∨ ∃ zs : List Int, d = .slice (lits .u8 (zs.take x.length)) (lits .u8 (zs.drop x.length)) /\ x.length <= zs.length) /\ Fam ds xs
  | _, _ => False
end
section
variable {ops : Array Oper} {Ls : List Nat}
def P5 (ops : Array Oper) (m : Nat) (i : Nat) : Bool := !m.testBit i && ((ops[i]?).map (·.after.all fun e => !Region.binds .any e || m.testBit e.on)).getD false
def YJ (ops : Array Oper) (m : Nat) (i : Nat) : Bool :=
  match ops[i]? with
  | none => false
  | some oi => (List.range ops.size).all fun j => j == i || m.testBit j || match ops[j]? with
      | some oj => oj.after.any (fun e => Region.binds .any e && e.on == i) || oi.apart ops oj
      | none => true
def UU (ops : Array Oper) (Ls : List Nat) (m : Nat) (i : Nat) : Nat := (Ls.filter fun j => decide (j < ops.size) && !m.testBit j && !Cb ops m.testBit j i).length
def Oa (ops : Array Oper) (Ls : List Nat) : MT -> Nat -> Nat -> Bool
  | .nil, _, m => (List.range ops.size).all fun i => !P5 ops m i
  | .q i k π, p, m => decide (i < ops.size) && P5 ops m i && YJ ops m i && !Ls.contains i && decide (p + UU ops Ls m i <= k) && Oa ops Ls π p (m ||| 2 ^ i)
  | .op i π, p, m => ((List.range ops.size).filter fun j => P5 ops m j) == [i] && Oa ops Ls π (nx Ls p i) (m ||| 2 ^ i)
  | .br i j ri rj, p, m => ((List.range ops.size).filter fun j => P5 ops m j) == [i, j] && rj.depth == ri.depth && Oa ops Ls ri (nx Ls p i) (m ||| 2 ^ i) && Oa ops Ls rj (nx Ls p j) (m ||| 2 ^ j)
def Rel (ops : Array Oper) (listed : Array Bool) (m : Nat) : Prop := listed.size = ops.size /\ ∀ j, listed.getD j false = m.testBit j
theorem Rel.lt {listed : Array Bool} {m : Nat} (h : Rel ops listed m) {j : Nat} (hj : j < ops.size) : listed.getD j true = m.testBit j := by
  rw [<- h.2 j, Array.getD_eq_getD_getElem?, Array.getD_eq_getD_getElem?, Array.getElem?_eq_getElem (by rw [h.1];exact hj)];rfl
theorem Rel.ge {listed : Array Bool} {m : Nat} (h : Rel ops listed m) {j : Nat} (hj : ¬ j < ops.size) : listed.getD j true = true := by
  rw [Array.getD_eq_getD_getElem?, Array.getElem?_eq_none (by rw [h.1];omega)];rfl
theorem Rel.ready {listed : Array Bool} {m : Nat} (h : Rel ops listed m) : Region.ready .any ops listed = (List.range ops.size).filter fun j => P5 ops m j := by
  unfold Region.ready;refine List.filter_congr fun i hi => ?_;rw [List.mem_range] at hi;unfold P5;rw [h.lt hi];simp only [h.2]
theorem Rel.free {listed : Array Bool} {m i : Nat} (h : Rel ops listed m) : Region.free .any ops listed i = YJ ops m i := by
  unfold Region.free YJ;cases ho : ops[i]? with
  | none => rfl
  | some oi =>
    simp only [];rw [Bool.eq_iff_iff, List.all_eq_true, List.all_eq_true];refine ⟨fun hq j hj => ?_, fun hq j hj => ?_⟩
    ·have := hq j hj;rw [h.lt (List.mem_range.1 hj)] at this;exact this
    ·have := hq j hj;rw [h.lt (List.mem_range.1 hj)];exact this
theorem Rel.ahd {listed : Array Bool} {m i : Nat} (h : Rel ops listed m) : ahead ops Ls listed i = UU ops Ls m i := by
  unfold ahead UU;congr 1;refine List.filter_congr fun j _ => ?_;have hf : (fun x => listed.getD x false) = m.testBit := funext h.2;rw [hf];by_cases hj : j < ops.size
  ·rw [h.lt hj, decide_eq_true hj];rfl
  ·rw [h.ge hj, decide_eq_false hj];rfl
theorem Rel.step {listed : Array Bool} {m i : Nat} (h : Rel ops listed m) (hi : i < ops.size) : Rel ops (listed.setIfInBounds i true) (m ||| 2 ^ i) := by
  refine ⟨by simpa using h.1, fun j => ?_⟩;rw [Nat.testBit_or, Nat.testBit_two_pow];by_cases hij : i = j
  ·subst hij;rw [Array.getD_eq_getD_getElem?, Array.getElem?_setIfInBounds_self_of_lt (by rw [h.1];exact hi)];simp
  ·rw [<- h.2 j, Array.getD_eq_getD_getElem?, Array.getElem?_setIfInBounds_ne hij, <- Array.getD_eq_getD_getElem?];simp [hij]
theorem L9 : ∀ (π : MT) (p m : Nat) (listed : Array Bool), Rel ops listed m -> Oa ops Ls π p m = true -> EN ops Ls π p listed = true
  | .nil, p, m, listed, h, hq => by
    simp only [EN, h.ready, List.isEmpty_iff, List.filter_eq_nil_iff];simp only [Oa, List.all_eq_true, Bool.not_eq_true'] at hq;intro a ha;rw [hq a ha];exact Bool.false_ne_true
  | .q i k π, p, m, listed, h, hq => by
    simp only [Oa, Bool.and_eq_true, decide_eq_true_eq, Bool.not_eq_true'] at hq;obtain ⟨⟨⟨⟨⟨h1, h2⟩, h3⟩, h4⟩, h5⟩, h6⟩ := hq;simp only [EN, Bool.and_eq_true, decide_eq_true_eq, Bool.not_eq_true'];refine ⟨⟨⟨⟨?_, by rw [h.free];exact h3⟩, h4⟩, by rw [h.ahd];exact h5⟩, L9 π p _ _ (h.step h1) h6⟩;rw [h.ready, List.contains_iff_mem, List.mem_filter];exact ⟨List.mem_range.2 h1, h2⟩
  | .op i π, p, m, listed, h, hq => by
    simp only [Oa, Bool.and_eq_true] at hq;simp only [EN, Bool.and_eq_true];have hi : i < ops.size := by
      have : i ∈ (List.range ops.size).filter fun j => P5 ops m j := by rw [beq_iff_eq.1 hq.1];exact List.mem_singleton.2 rfl
      exact List.mem_range.1 (List.mem_filter.1 this).1
    exact ⟨by rw [h.ready];exact hq.1, L9 π _ _ _ (h.step hi) hq.2⟩
  | .br i j ri rj, p, m, listed, h, hq => by
    simp only [Oa, Bool.and_eq_true] at hq;obtain ⟨⟨⟨h1, h2⟩, h3⟩, h4⟩ := hq;simp only [EN, Bool.and_eq_true];have hi : i < ops.size := by
      have : i ∈ (List.range ops.size).filter fun j => P5 ops m j := by rw [beq_iff_eq.1 h1];simp
      exact List.mem_range.1 (List.mem_filter.1 this).1
    have hj : j < ops.size := by
      have : j ∈ (List.range ops.size).filter fun j => P5 ops m j := by rw [beq_iff_eq.1 h1];simp
      exact List.mem_range.1 (List.mem_filter.1 this).1
    exact ⟨⟨⟨by rw [h.ready];exact h1, h2⟩, L9 ri _ _ _ (h.step hi) h3⟩, L9 rj _ _ _ (h.step hj) h4⟩
end
theorem W_mN {P : Program} {n : Nat} {Q : Exit -> Act -> World -> Prop} {L : St} {w w0 : World} {F O : Nat -> Prop} {hs : List HP} {id : Nat} {l : List Oper} {C : List (World -> Prop)} (hm : P.follows .mixedOrders = true) (π : MT) (Ls : List Nat) (k : Cx F O w0 (w.drewN 1) hs) (ch : Chain F O w0 hs C)
    (hB : (Region.noSelect l.toArray, Oa l.toArray Ls π 0 0, π.depth == l.length) = (true, true, true)) (h : ∀ listed, MX P n l.toArray Ls C (Q .normal) π 0 listed (Kn L) (w.drewN 1)) :
    W P n (.region id l.toArray true) Q L w := by
  simp only [Prod.mk.injEq] at hB;refine yP hm π Ls k ch ?_ h;rw [hB.1, hB.2.2, L9 π 0 0 (Array.replicate l.length false) ⟨by simp, fun j => ?_⟩ hB.2.1];rw [Array.getD_eq_getD_getElem?, Nat.zero_testBit];by_cases hj : j < l.length
  ·simp [hj]
  ·simp [hj]
end Go.Sx
namespace Go.Sx
open Go.RowKit Go.MapKept
set_option linter.unusedSimpArgs false
set_option linter.unusedVariables false
def kV (k : List UInt8) : Value := .string ⟨⟨k⟩⟩
theorem G5 {a b : List UInt8} (h : kV a = kV b) : a = b := by
  unfold kV at h;simp only [Value.string.injEq, ByteArray.mk.injEq, Array.mk.injEq] at h;exact h
def Mb (b : Nat) (ks : List (List UInt8)) (vs : List Value) : HP where
  p w S R := ks.length = vs.length /\ (∃ (es : Array MapEntry) (clock : Nat), w.heap[b]? = some (.map es clock) /\ es.toList.map (·.key) = ks.map kV /\ es.toList.map (·.val) = vs /\ Stamped es clock) /\ S b
  loc := by
    rintro w w' S R ⟨h0, ⟨es, clock, h1, h2⟩, h3⟩ hk;exact ⟨h0, ⟨es, clock, by rw [hk b (.inl h3)];exact h1, h2⟩, h3⟩
def Aw (ks : List (List UInt8)) (k : List UInt8) : Option Nat := match ks with
  | [] => none
  | x :: r => if x = k then some 0 else (Aw r k).map (· + 1)
theorem D7 {ks : List (List UInt8)} {k : List UInt8} : Aw ks k = none ↔ k ∉ ks := by
  induction ks with
  | nil => simp [Aw]
  | cons x r ih =>
    unfold Aw;by_cases h : x = k
    ·subst h;simp
    ·rw [if_neg h];simp only [Option.map_eq_none_iff, ih, List.mem_cons, not_or];exact ⟨fun hr => ⟨fun e => h e.symm, hr⟩, fun hr => hr.2⟩
theorem Mc {ks : List (List UInt8)} {k : List UInt8} {j : Nat} (h : Aw ks k = some j) : ks[j]? = some k := by
  induction ks generalizing j with
  | nil => cases h
  | cons x r ih =>
    unfold Aw at h;by_cases hx : x = k
    ·rw [if_pos hx] at h;obtain rfl := Option.some.inj h;simp [hx]
    ·rw [if_neg hx, Option.map_eq_some_iff] at h;obtain ⟨i, hi, rfl⟩ := h;simpa using ih hi
theorem RF {d : TypeDesc} (hd : d = .string) {es : Array MapEntry} {ks : List (List UInt8)} {k : List UInt8} (hk : es.toList.map (·.key) = ks.map kV) (hn : (es.toList.map (·.key)).Nodup) :
    (Aw ks k = none /\ Instr.findNow d (kV k) es.toList 0 = some none) ∨ ∃ j e, Aw ks k = some j /\ Instr.findNow d (kV k) es.toList 0 = some (some (j, e.val)) /\ es.toList[j]? = some e /\ e.key = kV k := by
  subst hd;have hkey : ∀ x ∈ es.toList, IsKey .string x.key := fun x hx => by
    have : x.key ∈ es.toList.map (·.key) := List.mem_map.2 ⟨x, hx, rfl⟩;rw [hk] at this;obtain ⟨q, _, hq⟩ := List.mem_map.1 this;rw [<- hq];exact trivial
  rcases findNow_spec (d := .string) (k := kV k) trivial es.toList 0 hkey with ⟨h1, h2⟩ | ⟨j, e, h1, h2, h3⟩
  ·refine .inl ⟨D7.2 fun hm => ?_, h1⟩;have : kV k ∈ es.toList.map (·.key) := by rw [hk];exact List.mem_map.2 ⟨k, hm, rfl⟩
   obtain ⟨x, hx, hxe⟩ := List.mem_map.1 this;exact h2 x hx hxe
  ·rw [Nat.zero_add] at h1;have hj : (ks.map kV)[j]? = some (kV k) := by rw [<- hk, List.getElem?_map, h2];simp [h3]
   have hkj : ks[j]? = some k := by
     rw [List.getElem?_map, Option.map_eq_some_iff] at hj;obtain ⟨q, hq, hqe⟩ := hj;rw [hq, G5 hqe]
   cases hf : Aw ks k with
   | none => exact absurd (List.mem_of_getElem? hkj) (D7.1 hf)
   | some i =>
     have hi := Mc hf;have hnd : ks.Nodup := by
       rw [hk, List.Nodup, List.pairwise_map] at hn;exact hn.imp fun hne e => hne (by rw [e])
     have : i = j := by
       have h4 := (List.getElem?_eq_some_iff.1 hi).1;exact (List.getElem?_inj h4 hnd).1 (by rw [hi, hkj])
     subst this;exact .inr ⟨i, e, rfl, h1, h2, h3⟩
section
variable {P : Program} {n : Nat} {ops : Array Oper} {L : St} {w w0 : World} {F O : Nat -> Prop} {hs : List HP} {K : St -> World -> Prop}
theorem Ip {dst : Option Nat} {t ty : TypeId} {pos : String} {iW : Array Edge} {g : Option (Nat × Bool)} (ss : List Nat) (d : Nat)
    (hside : (xH ops ss L ⟨dst, .makeMap t none, ty, pos, iW, g⟩, dst, (decide (d < n)), (L.any fun p => p.1 == d)) = (true, some d, true, false))
    (k : Cx F O w0 w hs) (hk : ∀ b w', Cx F O w0 w' (hs ++ [Mb b [] []]) -> K ((d, .v (.map (some b))) :: L) w') :
    wQ P n ops L w ⟨dst, .makeMap t none, ty, pos, iW, g⟩ K := by
  simp only [Prod.mk.injEq, decide_eq_true_eq] at hside;obtain ⟨s1, rfl, s3, s4⟩ := hside;refine uI (xs := []) (svs := []) ss (d := d) (by simp [Side, s1, s3, s4, toSS]) fun a ha he => ?_;have hrun : (Instr.makeMap t none).run P w = .ok (.map (some w.heap.size)) (w.alloc (.map #[] 0)) := rfl;unfold Oper.wp execOp;simp only [Option.map_none, Sem.run_bind, hrun, Result.andThen_ok, Sem.run_pure];refine ⟨.v (.map (some w.heap.size)), rfl, hk w.heap.size _ (k.new _ (Mb w.heap.size [] []) ⟨rfl, ⟨#[], 0, ?_, rfl, rfl, stamped_empty 0⟩, rfl⟩)⟩;exact (heap_alloc w _).1
theorem OT {w : World} {b : Nat} {es es' : Array MapEntry} {clock clock' : Nat} (hb : w.heap[b]? = some (.map es clock)) : w.grownBy { w with heap := w.heap.setIfInBounds b (.map es' clock') } (some b) /\ ({ w with heap := w.heap.setIfInBounds b (.map es' clock') } : World).heap.size = w.heap.size /\ ({ w with heap := w.heap.setIfInBounds b (.map es' clock') } : World).heap[b]? = some (.map es' clock') := by
  refine ⟨⟨rfl, rfl, rfl, by simp, fun k hk hne => ?_⟩, by simp, (heap_set hb).1⟩;exact (heap_set hb).2 k fun e => hne (by rw [e])
def ES (ks : List (List UInt8)) (k : List UInt8) : List (List UInt8) := match Aw ks k with | some _ => ks | none => ks ++ [k]
def ET {β : Type} (ks : List (List UInt8)) (vs : List β) (k : List UInt8) (v : β) : List β := match Aw ks k with | some j => vs.set j v | none => vs ++ [v]
theorem Op_upd {t kt e ty : TypeId} {m y x : Operand} {pos : String} {iW : Array Edge} {g : Option (Nat × Bool)} (ss : List Nat) (i : Nat) {b : Nat} {key : List UInt8} {ks : List (List UInt8)} {vs : List Value} (v : Value)
    (hside : (xH ops ss L (⟨none, .mapUpdate t m y x, ty, pos, iW, g⟩ : Oper), (toSS [m, y, x] (lk L)).map SV.vals, P.underlying t, P.underlying kt) = (true, some [.map (some b), kV key, v], some (.map kt e), some .string))
    (k : Cx F O w0 w hs) (hi : hs[i]? = some (Mb b ks vs)) (hk : ∀ w', Cx F O w0 w' (hs.set i (Mb b (ES ks key) (ET ks vs key v))) -> K L w') :
    wQ P n ops L w ⟨none, .mapUpdate t m y x, ty, pos, iW, g⟩ K := by
  simp only [Prod.mk.injEq, Option.map_eq_some_iff] at hside;obtain ⟨s1, ⟨svs, s5, s6⟩, s7, s8⟩ := hside;refine Yp (xs := [m, y, x]) (svs := svs) ss (by simp [s1, s5]) fun a ha he => ?_;rw [s6] at he;simp only [List.map_cons, List.map_nil, List.cons.injEq, and_true] at he;obtain ⟨S, R, hl, ⟨es, clock, m1, m2, m3, m4⟩, hS⟩ := k.get i hi;have hck := run_checkKey (P := P) (w := w) s8 (show IsKey .string (kV key) from trivial) false 9999;rcases RF (d := .string) rfl (k := key) m2 m4.2.2 with ⟨f1, f2⟩ | ⟨j, en, f1, f2, f3, f4⟩
  ·obtain ⟨g1, g2, g3⟩ := OT (es' := es.push { key := kV key, val := v, born := clock }) (clock' := clock + 1) m1;have hrun : (Instr.mapUpdate t (.map (some b)) (kV key) v).run P w = .ok () { w with heap := w.heap.setIfInBounds b (.map (es.push { key := kV key, val := v, born := clock }) (clock + 1)) } := by
     unfold Instr.mapUpdate;simp only [Sem.run_bind, run_underlying s7, Result.andThen_ok, MapKept.run_getObj_map m1, Sem.run_pure, hck, run_findKey s8 f2, MapKept.run_setObj_map _ m1]
   unfold Oper.wp execOp;simp only [he.1, he.2.1, he.2.2, Sem.run_bind, hrun, Result.andThen_ok, Sem.run_pure];refine ⟨rfl, hk _ (k.PT i hi (some b) g1 fun S R hS hlt => ?_)⟩;obtain ⟨hl, ⟨es1, c1, q1, q2, q3, q4⟩, hS⟩ := hS;rw [m1] at q1;simp only [Option.some.injEq, Obj.map.injEq] at q1;obtain ⟨rfl, rfl⟩ := q1;have hnk : ∀ x ∈ es.toList, x.key ≠ kV key := fun x hx hxe => by
     have : kV key ∈ es.toList.map (·.key) := List.mem_map.2 ⟨x, hx, hxe⟩;rw [q2] at this;obtain ⟨q, hq, hqe⟩ := List.mem_map.1 this;exact D7.1 f1 (G5 hqe ▸ hq)
   refine ⟨fun g' hg => (by simp only [Option.some.injEq] at hg;subst hg;exact hS), S, fun _ => False, ⟨?_, ⟨_, _, g3, ?_, ?_, stamped_push q4 hnk⟩, hS⟩, fun b' hb' => ⟨by rw [g2];exact hlt b' hb', .inl hb'⟩, fun _ h => h⟩
   ·unfold ES ET;rw [f1];simp [hl]
   ·unfold ES;rw [f1];simp [q2]
   ·unfold ET;rw [f1];simp [q3]
  ·obtain ⟨g1, g2, g3⟩ := OT (es' := es.modify j fun e => { e with key := kV key, val := v }) (clock' := clock) m1;have hst : (Instr.keyThatStays (((es[j]?).map (·.key)).getD (kV key)) (kV key)).run P w = .ok (kV key) w := by
     have e1 : es[j]? = some en := by rw [<- Array.getElem?_toList];exact f3
     rw [e1];simp only [Option.map_some, Option.getD_some, f4];exact MapKept.run_keyThatStays (d := .string) (k := kV key) trivial
   have hrun : (Instr.mapUpdate t (.map (some b)) (kV key) v).run P w = .ok () { w with heap := w.heap.setIfInBounds b (.map (es.modify j fun e => { e with key := kV key, val := v }) clock) } := by
     unfold Instr.mapUpdate;simp only [Sem.run_bind, run_underlying s7, Result.andThen_ok, MapKept.run_getObj_map m1, Sem.run_pure, hck, run_findKey s8 f2, hst, MapKept.run_setObj_map _ m1]
   unfold Oper.wp execOp;simp only [he.1, he.2.1, he.2.2, Sem.run_bind, hrun, Result.andThen_ok, Sem.run_pure];refine ⟨rfl, hk _ (k.PT i hi (some b) g1 fun S R hS hlt => ?_)⟩;obtain ⟨hl, ⟨es1, c1, q1, q2, q3, q4⟩, hS⟩ := hS;rw [m1] at q1;simp only [Option.some.injEq, Obj.map.injEq] at q1;obtain ⟨rfl, rfl⟩ := q1;have hkey : ∀ e ∈ es.toList, es[j]? = some e -> ({ e with key := kV key, val := v } : MapEntry).key = e.key := fun e _ he => by
     rw [<- Array.getElem?_toList, f3] at he;obtain rfl := Option.some.inj he;exact f4.symm
   refine ⟨fun g' hg => (by simp only [Option.some.injEq] at hg;subst hg;exact hS), S, fun _ => False, ⟨?_, ⟨_, _, g3, ?_, ?_, stamped_modify q4 j _ (fun _ _ => rfl) hkey⟩, hS⟩, fun b' hb' => ⟨by rw [g2];exact hlt b' hb', .inl hb'⟩, fun _ h => h⟩
   ·unfold ES ET;rw [f1];simp [hl]
   ·unfold ES;rw [f1];rw [modify_keys j _ (fun e he => hkey e (by rw [<- Array.getElem?_toList] at he;exact List.mem_of_getElem? he) he), q2]
   ·unfold ET;rw [f1];simp only;rw [<- q3, Array.toList_modify];apply List.ext_getElem?;intro q;simp only [List.getElem?_map, List.getElem?_modify, List.getElem?_set, List.length_map];by_cases hqj : j = q
    ·subst hqj;have h5 : j < es.size := by simpa using (List.getElem?_eq_some_iff.1 f3).1
     simp [h5]
    ·simp [hqj]
end
end Go.Sx
namespace Go.Sx
open Go.RowKit
set_option linter.unusedSimpArgs false
set_option linter.unusedVariables false
variable {α β γ δ : Type}
def RH (F : Nat -> Prop) (w : World) (E : Enc α) (h : Hd) (x : List α) : Prop := h.2.1 = x.length /\ x.length <= h.2.2 /\ Ro F w h.1 (E.all x)
def RQ (y x : α) : Prop := y = x
def RP (r : α -> β -> Prop) (q : γ -> δ -> Prop) (y : α × γ) (x : β × δ) : Prop := r y.1 x.1 /\ q y.2 x.2
structure RoG (F : Nat -> Prop) (w : World) (E : Enc γ) (r : γ -> δ -> Prop) (A : Option Addr) (ys : List γ) (xs : List δ) : Prop where
  ro : Ro F w A (E.all ys)
  len : ys.length = xs.length
  el : ∀ (j : Nat) (y : γ) (x : δ), ys[j]? = some y -> xs[j]? = some x -> r y x
section
variable {F O F1 O1 : Nat -> Prop} {w0 w w' : World} {hs : List HP}
theorem RoG.at {E : Enc γ} {r : γ -> δ -> Prop} {A : Option Addr} {ys : List γ} {xs : List δ} (h : RoG F w E r A ys xs) {j : Int} {x : δ} (hx : aZ xs j = some x) : ∃ y, aZ ys j = some y /\ r y x := by
  obtain ⟨h0, h1⟩ := bF hx;have hlt := (List.getElem?_eq_some_iff.1 h1).1;have hh : ys[j.toNat]? = some (ys[j.toNat]'(h.len ▸ hlt)) := List.getElem?_eq_getElem _;refine ⟨ys[j.toNat]'(h.len ▸ hlt), ?_, h.el _ _ _ hh h1⟩;unfold aZ;rw [if_pos h0, hh]
end
def hV (h : Hd) : Value := .slice h.1 h.2.1 h.2.2
section
variable {F O : Nat -> Prop} {w0 w : World} {hs rest : List HP} {E : Enc α} {b : Nat} {ks : List (List UInt8)} {hd : List Hd} {zh : List (List α)}
end
section
variable {P : Program} {n : Nat} {ops : Array Oper} {L : St} {w w0 : World} {F O : Nat -> Prop} {hs rest : List HP} {K : St -> World -> Prop} {E : Enc α}
end
end Go.Sx
namespace Go.Sx
open Go.RowKit Go.MapKept
set_option linter.unusedSimpArgs false
set_option linter.unusedVariables false
variable {α : Type}
theorem Xk {es : Array MapEntry} {seen : Array Nat} {e : MapEntry} (hn : (es.toList.map (·.born)).Nodup) (he : e ∈ (leftOf es seen).toList) : (leftOf es seen).toList.Perm (e :: (leftOf es (seen.push e.born)).toList) := by
  obtain ⟨h1, h2⟩ := mem_left he;unfold leftOf;rw [Array.toList_filter, Array.toList_filter];generalize es.toList = l at *
  induction l with
  | nil => cases h1
  | cons x l ih =>
    simp only [List.map_cons, List.nodup_cons] at hn;by_cases hx : x.born = e.born
    ·have hxe : x = e := by
       rcases List.mem_cons.1 h1 with rfl | h
       ·rfl
       ·exact absurd (List.mem_map.2 ⟨e, h, hx.symm⟩) hn.1
     subst hxe;rw [List.filter_cons, if_pos (by rw [h2];rfl), List.filter_cons, if_neg (by rw [contains_push];simp)];refine .cons _ (.of_eq ?_);apply List.filter_congr;intro y hy;rw [contains_push];have : (y.born == x.born) = false := by
       cases hc : y.born == x.born with
       | false => rfl
       | true => exact absurd (List.mem_map.2 ⟨y, hy, beq_iff_eq.1 hc⟩) hn.1
     rw [this, Bool.or_false]
    ·have hel : e ∈ l := by
       rcases List.mem_cons.1 h1 with rfl | h
       ·exact absurd rfl hx
       ·exact h
     have hxe : (x.born == e.born) = false := by simpa using hx
     have hc2 : (seen.push e.born).contains x.born = seen.contains x.born := by rw [contains_push, hxe, Bool.or_false]
     have ih' := ih hn.2 hel;rw [List.filter_cons, List.filter_cons, hc2];split
     ·exact (List.Perm.cons _ ih').trans (.swap _ _ _)
     ·exact ih'
section
variable {P : Program} {n : Nat} {ops : Array Oper} {L : St} {w w0 : World} {F O : Nat -> Prop} {hs rest : List HP} {K : St -> World -> Prop}
theorem key_of {es : Array MapEntry} {ks : List (List UInt8)} (h : es.toList.map (·.key) = ks.map kV) {e : MapEntry} (he : e ∈ es.toList) : ∃ k ∈ ks, e.key = kV k := by
  have : e.key ∈ es.toList.map (·.key) := List.mem_map.2 ⟨e, he, rfl⟩;rw [h] at this;obtain ⟨k, hk, hke⟩ := List.mem_map.1 this;exact ⟨k, hk, hke.symm⟩
theorem Cx.weak {h h' : HP} (k : Cx F O w0 w hs) (i : Nat) (hi : hs[i]? = some h) (hp : ∀ w S R, h.p w S R -> h'.p w S R) : Cx F O w0 w (hs.set i h') :=
  k.upd i hi Option.none ⟨rfl, rfl, rfl, Nat.le_refl _, fun _ _ _ => rfl⟩ fun S R h1 h2 h3 => ⟨fun g hg => (by cases hg), S, R, hp _ _ _ h1, fun b hb => ⟨h3 b (.inl hb), h2 b hb, .inl hb⟩, fun b hb => ⟨h3 b (.inr hb), .inl hb⟩⟩
variable {E : Enc α} {b r : Nat} {ks left : List (List UInt8)} {hd : List Hd} {zh : List (List α)}
end
section
variable {P : Program} {n : Nat} {Q : Exit -> Act -> World -> Prop} {L L' : St} {w : World}
open Classical in
theorem P6 {c : Code} (J : Nat -> St -> World -> Prop) (k0 : Nat) (h0 : J k0 L' w) (hk : L'.map (fun p => (find L p.1).map SV.val) = L'.map (fun p => some p.2.val))
    (hb : ∀ k L w, J k L w -> W P n c (Exit.then (fun a w => ∃ k' L', k' < k /\ Fu n a (Kn L') /\ J k' L' w) Q) L w) : W P n (.loop c) Q L w := by
  refine Rk L' hk fun a0 ha0 => ?_
  let I : Nat -> Act -> World -> Prop := fun k a w => ∃ L, Fu n a (Kn L) /\ J k L w
  let μ : Act -> World -> Nat := fun a w => if h : ∃ k, I k a w then Classical.choose (least h) else 0
  refine wp_loop (fun a w => ∃ k, I k a w) μ ⟨k0, L', ha0, h0⟩ ?_;intro a w hI;have hμ : μ a w = Classical.choose (least hI) := dif_pos hI;obtain ⟨L1, hf, hJ⟩ := (Classical.choose_spec (least hI)).1;rw [<- hμ] at hJ;refine wp_mono (hb _ L1 w hJ a hf) ?_;intro e a' w' hq;cases e with
  | normal =>
    obtain ⟨k', L2, hlt, hf2, hJ2⟩ := hq;have hE : ∃ k, I k a' w' := ⟨k', L2, hf2, hJ2⟩
    refine ⟨hE, ?_⟩;have h1 : μ a' w' = Classical.choose (least hE) := dif_pos hE;have h2 : Classical.choose (least hE) <= k' := (Classical.choose_spec (least hE)).2 k' ⟨L2, hf2, hJ2⟩;omega
  | _ => exact hq
theorem Iq {J : Nat -> St -> World -> Prop} {k : Nat} (k' : Nat) (hlt : k' < k) (h : J k' L' w) (hk : L'.map (fun p => (find L p.1).map SV.val) = L'.map (fun p => some p.2.val)) : At n (Exit.then (fun a w => ∃ k' L', k' < k /\ Fu n a (Kn L') /\ J k' L' w) Q .normal) L w :=
  C9 L' hk fun _ ha => ⟨k', L', hlt, ha, h⟩
end
noncomputable def H7 (l : List (List UInt8)) : List (List UInt8) := l.mergeSort fun x y => decide (x <= y)
theorem Ir {l l' : List (List UInt8)} (h : l.Perm l') : H7 l = H7 l' := by
  have := mergeSort_of_perm h;exact this
theorem UW (l : List (List UInt8)) : (H7 l).length = l.length := by simp [H7]
theorem YK (l : List (List UInt8)) : eS.all l = l.map Go.Proofs.encStr := by
  induction l with
  | nil => rfl
  | cons x l ih => show _ :: _ = _ :: _;rw [show (eS.all l) = l.map Go.Proofs.encStr from ih];rfl
open Go.Sort Go.Proofs Go.Shelf in
theorem c_sort {P : Program} {ρ : Ren} (Ly : Lays.n190 P ρ) {F O : Nat -> Prop} {w0 w : World} {hs : List HP} {i : Nat} {A : Option Addr} {n c : Nat} {xs : List (List UInt8)} (k : Cx F O w0 w hs) (hi : hs[i]? = some (Ow eS A n c xs)) (hsz : n < 4611686018427387904) :
    Calls P (ρ.f 190) #[.slice A n c] w (fun e w' => e = .returned (.tuple #[]) /\ Cx F O w0 w' (hs.set i (Ow eS A n c (H7 xs)))) := by
  obtain ⟨S, R, hl, hh⟩ := k.get i hi;by_cases h0 : n = 0
  ·subst h0;have hx : xs = [] := List.eq_nil_of_length_eq_zero hl;subst hx;refine (Any.slices_Sort_string_none Ly A c w).mono ?_;rintro e w' ⟨rfl, rfl⟩;refine ⟨rfl, ?_⟩;have : H7 [] = [] := by simp [H7]
   rw [this];have e2 : hs.set i (Ow eS A 0 c []) = hs := by
     obtain ⟨h1, h2⟩ := List.getElem?_eq_some_iff.1 hi;rw [<- h2];exact List.set_getElem_self h1
   rw [e2];exact k
  ·rcases hh with ⟨_, h1, _⟩ | ⟨g, t, cur, rfl, ⟨fr, hb, hnf⟩, h3, h4, h5, h6, h7⟩
   ·exact absurd h1 h0
   ·subst hl;have hsz1 : eS.sz = 1 := rfl;rw [hsz1, Nat.mul_one] at h5 h6;rw [YK] at h6;have hH : Holds encStr w g 0 xs.toArray := by
      intro j hj;have hj' : j < xs.length := by simpa using hj
      have hfz : w.frozen? ⟨g, 0 + j, none⟩ = false := by
        have : j < cur.size := by omega
        simp only [World.frozen?, hb];rcases hnf with h | h
        ·simp;omega
        ·simp;omega
      refine ⟨?_, hfz⟩;have h1 : (cur.toList.take xs.length)[j]? = (xs.map encStr)[j]? := by rw [h6]
      rw [List.getElem?_take_of_lt hj'] at h1;simp only [World.cell?, hb, Nat.zero_add];simp only [Option.isSome_none, Bool.false_eq_true, if_false];rw [<- Array.getElem?_toList, h1];simp [hj']
    refine (Any.slices_Sort_string Ly g 0 c xs w hH (Array.getElem?_eq_some_iff.1 hb).1 hsz).mono ?_;rintro e w' ⟨rfl, m, os, rfl⟩;refine ⟨rfl, ?_⟩;refine k.PT i hi (some g) (grownBy_sorted _) fun S R hS hlt => ?_;obtain ⟨hl', hh'⟩ := hS;rcases hh' with ⟨h1, _⟩ | ⟨g', t', cur', q1, ⟨fr', q2, q3⟩, _, _, q4, _, q5⟩
    ·cases h1
    ·simp only [Option.some.injEq, Addr.mk.injEq, and_true] at q1;subst q1;rw [hb] at q2;simp only [Option.some.injEq, Obj.cells.injEq] at q2;obtain ⟨rfl, rfl, rfl⟩ := q2;have hsl : (H7 xs).length = xs.length := UW xs;refine ⟨fun q hq => (by simp only [Option.some.injEq] at hq;subst hq;exact q5), S, fun _ => False, ⟨hsl, .inr ⟨g, t, putCells encStr 0 (H7 xs).toArray cur, rfl, ⟨fr, heap_sorted _ hb, ?_⟩, h3, h4, ?_, ?_, q5⟩⟩, fun q hq => ⟨?_, .inl hq⟩, fun _ h => h⟩
     ·simpa [putCells] using hnf
     ·rw [hsz1, Nat.mul_one];simpa [putCells] using h5
     ·rw [hsz1, Nat.mul_one, YK, <- hsl];exact take_putCells cur (H7 xs) (by omega)
     ·exact Nat.lt_of_lt_of_le (hlt q hq) (grownBy_sorted (w := w) (g := g) (n := m) (os := os) (H7 xs).toArray).size
end Go.Sx
namespace Go.Sx
open Go.RowKit
set_option linter.unusedSimpArgs false
set_option linter.unusedVariables false
variable {α β γ δ ε ζ : Type}
structure Rl (γ δ : Type) where
  r : World -> (Nat -> Prop) -> γ -> δ -> Prop
  loc : ∀ w w' R y x, r w R y x -> (∀ b, R b -> w'.heap[b]? = w.heap[b]?) -> r w' R y x
  mono : ∀ w R R' y x, (∀ b, R b -> R' b) -> r w R y x -> r w R' y x
def SQ : Rl α α := ⟨fun _ _ y x => y = x, fun _ _ _ _ _ h _ => h, fun _ _ _ _ _ _ h => h⟩
def SH (E : Enc α) : Rl Hd (List α) where
  r w R h x := h.2.1 = x.length /\ x.length <= h.2.2 /\ Rd w h.1 (E.all x) /\ (E.all x ≠ [] -> ∀ a, h.1 = some a -> R a.block)
  loc := by
    rintro w w' R y x ⟨h1, h2, h3, h4⟩ hk;refine ⟨h1, h2, ⟨h3.1, fun a j u ha hu => ?_⟩, h4⟩;have h5 := h3.2 a j u ha hu;have hne : E.all x ≠ [] := fun e => by rw [e] at hu;cases hu
    have h6 := hk (a.add j).block (by rw [uY];exact h4 hne a ha);rw [World.cell?_of_block h6];exact h5
  mono := by
    rintro w R R' y x hR ⟨h1, h2, h3, h4⟩;exact ⟨h1, h2, h3, fun hne a ha => hR _ (h4 hne a ha)⟩
def SP (q : Rl α β) (p : Rl γ δ) : Rl (α × γ) (β × δ) where
  r w R y x := q.r w R y.1 x.1 /\ p.r w R y.2 x.2
  loc := by rintro w w' R y x ⟨h1, h2⟩ hk;exact ⟨q.loc _ _ _ _ _ h1 hk, p.loc _ _ _ _ _ h2 hk⟩
  mono := by rintro w R R' y x hR ⟨h1, h2⟩;exact ⟨q.mono _ _ _ _ _ hR h1, p.mono _ _ _ _ _ hR h2⟩
def Sh (q : Rl γ δ) (ys : List γ) (xs : List δ) : HP where
  p w S R := (∀ b, ¬ S b) /\ ys.length = xs.length /\ ∀ (j : Nat) (y : γ) (x : δ), ys[j]? = some y -> xs[j]? = some x -> q.r w R y x
  loc := by
    rintro w w' S R ⟨h0, h1, h2⟩ hk;exact ⟨h0, h1, fun j y x e1 e2 => q.loc _ _ _ _ _ (h2 j y x e1 e2) fun b hb => hk b (.inr hb)⟩
def OG (E : Enc γ) (q : Rl γ δ) (A : Option Addr) (n c : Nat) (ys : List γ) (xs : List δ) : HP := Pk True [Ow E A n c ys, Sh q ys xs]
section
variable {F O : Nat -> Prop} {w0 w w' : World} {hs rest : List HP}
theorem Cx.merge {h1 h2 h3 : HP} (k : Cx F O w0 w (h1 :: h2 :: rest)) (hp : ∀ w S1 R1 S2 R2, h1.p w S1 R1 -> h2.p w S2 R2 -> h3.p w (fun b => S1 b ∨ S2 b) (fun b => R1 b ∨ R2 b)) : Cx F O w0 w (h3 :: rest) := by
  obtain ⟨U, V, ⟨S1, R1, U1, V1, e1, ⟨S2, R2, U2, V2, g1, g2, g3, g4, g5, g6⟩, e3, e4, e5, e6⟩, hU, hV⟩ := k.sep;refine ⟨k.os, k.tape, k.output, k.size, k.block, k.fin, k.Jp, U, V, ⟨_, _, U2, V2, hp _ _ _ _ _ e1 g1, g2, fun b => ?_, fun b => ?_, fun b hb => ?_, fun b hb => ?_⟩, hU, hV⟩
  ·rw [e3, g3, or_assoc]
  ·rw [e4, g4, or_assoc]
  ·rcases hb with hb | hb
   ·have h := e5 b hb;rw [g3, g4] at h;exact ⟨fun q => h.1 (.inr q), fun q => q.elim h.2.1 (fun q => h.2.2 (.inl q)), fun q => h.2.2 (.inr q)⟩
   ·have h := g5 b hb;exact ⟨h.1, fun q => q.elim (fun q => e6 b q ((g3 b).2 (.inl hb))) h.2.1, h.2.2⟩
  ·rcases hb with hb | hb
   ·exact fun q => e6 b hb ((g3 b).2 (.inr q))
   ·exact g6 b hb
theorem Cx.dup {h h' : HP} (k : Cx F O w0 w hs) (i : Nat) (hi : hs[i]? = some h) (hp : ∀ w S R, h.p w S R -> h'.p w (fun _ => False) R) : Cx F O w0 w (h' :: hs) := by
  obtain ⟨U, V, h1, hU, hV⟩ := k.sep;obtain ⟨S, R, U', V', e1, e2, e3, e4, e5, e6⟩ := Sep.cut hi h1;refine ⟨k.os, k.tape, k.output, k.size, k.block, k.fin, k.Jp, U, V, ⟨_, R, U, V, hp _ _ _ e1, h1, fun b => ⟨.inr, fun h => h.elim (fun h => h.elim) id⟩, fun b => ⟨.inr, fun h => h.elim (fun h => (e4 b).2 (.inl h)) id⟩, fun b hb => hb.elim, fun b hb hu => ?_⟩, hU, hV⟩;exact Sep.apart h1 b hu ((e4 b).2 (.inl hb))
theorem Cx.share {E : Enc α} {A : Option Addr} {n c : Nat} {xs : List α} (k : Cx F O w0 w (Ow E A n c xs :: rest)) : Cx F O w0 w (Sh (SH E) [(A, n, c)] [xs] :: rest) := by
  have := k.upd (h' := Sh (SH E) [(A, n, c)] [xs]) 0 rfl Option.none ⟨rfl, rfl, rfl, Nat.le_refl _, fun _ _ _ => rfl⟩ fun S R h1 h2 h3 => by
    refine ⟨fun g hg => (by cases hg), fun _ => False, fun b => R b ∨ S b, ⟨fun _ h => h, rfl, fun j y x e1 e2 => ?_⟩, fun b hb => hb.elim, fun b hb => ⟨h3 b (hb.elim .inr .inl), hb.elim .inl (fun h => .inr (.inl h))⟩⟩;cases j with
    | succ j => cases e1
    | zero =>
      obtain rfl := Option.some.inj e1;obtain rfl := Option.some.inj e2;refine ⟨h1.1.symm, by rw [h1.1];exact Ow.Xi h1, Ow.rd' h1, fun hne a ha => ?_⟩;rcases h1.2 with ⟨h4, _⟩ | ⟨g, t, cur, h4, _, _, _, _, _, h5⟩
      ·rw [h4] at ha;cases ha
      ·rw [h4] at ha;obtain rfl := Option.some.inj ha;exact .inr h5
  simpa only [List.set_cons_zero] using this
theorem Cx.shold (k : Cx F O w0 w hs) (q : Rl γ δ) {y : γ} {x : δ} (h : q.r w0 O y x) : Cx F O w0 w (Sh q [y] [x] :: hs) := by
  obtain ⟨U, V, h1, hU, hV⟩ := k.sep;have hw : q.r w O y x := q.loc _ _ _ _ _ h fun b hb => k.block b (k.Jp b hb) fun hf => (k.fin b hf).2 hb;refine ⟨k.os, k.tape, k.output, k.size, k.block, k.fin, k.Jp, U, fun b => O b ∨ V b, ⟨fun _ => False, O, U, V, ⟨fun _ h => h, rfl, fun j y' x' e1 e2 => ?_⟩, h1, fun b => ⟨.inr, fun h => h.elim (fun h => h.elim) id⟩, fun b => Iff.rfl, fun b hb => hb.elim, fun b hb hu => ?_⟩, hU, fun b hb => hb.elim (fun h => .inl (.inl h)) (hV b)⟩
  ·cases j with
   | succ j => cases e1
   | zero =>
     obtain rfl := Option.some.inj e1;obtain rfl := Option.some.inj e2;exact hw
  ·rcases hU b hu with h | h
   ·exact (k.fin b h).2 hb
   ·have := k.Jp b hb;omega
theorem Cx.shz (k : Cx F O w0 w hs) (q : Rl γ δ) : Cx F O w0 w (Sh q [] [] :: hs) := by
  obtain ⟨U, V, h1, hU, hV⟩ := k.sep;exact ⟨k.os, k.tape, k.output, k.size, k.block, k.fin, k.Jp, U, V, ⟨fun _ => False, fun _ => False, U, V, ⟨fun _ h => h, rfl, fun j y x e1 _ => by cases e1⟩, h1, by simp, by simp, fun b hb => hb.elim, fun b hb => hb.elim⟩, hU, hV⟩
theorem Cx.shq (k : Cx F O w0 w hs) (x : α) : Cx F O w0 w (Sh SQ [x] [x] :: hs) := by
  obtain ⟨U, V, h1, hU, hV⟩ := k.sep;refine ⟨k.os, k.tape, k.output, k.size, k.block, k.fin, k.Jp, U, V, ⟨fun _ => False, fun _ => False, U, V, ⟨fun _ h => h, rfl, fun j y x' e1 e2 => ?_⟩, h1, by simp, by simp, fun b hb => hb.elim, fun b hb => hb.elim⟩, hU, hV⟩;rw [e1] at e2;exact Option.some.inj e2
theorem Cx.shp {q : Rl α β} {p : Rl γ δ} {y1 : α} {x1 : β} {y2 : γ} {x2 : δ} (k : Cx F O w0 w (Sh q [y1] [x1] :: Sh p [y2] [x2] :: rest)) : Cx F O w0 w (Sh (SP q p) [(y1, y2)] [(x1, x2)] :: rest) :=
  k.merge fun w S1 R1 S2 R2 h1 h2 => ⟨fun b hb => hb.elim (h1.1 b) (h2.1 b), rfl, fun j y x e1 e2 => by
    cases j with
    | succ j => cases e1
    | zero =>
      obtain rfl := Option.some.inj e1;obtain rfl := Option.some.inj e2;exact ⟨q.mono _ _ _ _ _ (fun b hb => .inl hb) (h1.2.2 0 _ _ rfl rfl), p.mono _ _ _ _ _ (fun b hb => .inr hb) (h2.2.2 0 _ _ rfl rfl)⟩⟩
theorem Cx.sha {q : Rl γ δ} {ys ys' : List γ} {xs xs' : List δ} (k : Cx F O w0 w (Sh q ys xs :: Sh q ys' xs' :: rest)) : Cx F O w0 w (Sh q (ys ++ ys') (xs ++ xs') :: rest) :=
  k.merge fun w S1 R1 S2 R2 h1 h2 => ⟨fun b hb => hb.elim (h1.1 b) (h2.1 b), by simp [h1.2.1, h2.2.1], fun j y x e1 e2 => by
    by_cases hj : j < ys.length
    ·rw [List.getElem?_append_left hj] at e1;rw [List.getElem?_append_left (by have := h1.2.1;omega)] at e2;exact q.mono _ _ _ _ _ (fun b hb => .inl hb) (h1.2.2 j _ _ e1 e2)
    ·rw [List.getElem?_append_right (by omega)] at e1;rw [List.getElem?_append_right (by have := h1.2.1;omega), <- h1.2.1] at e2;exact q.mono _ _ _ _ _ (fun b hb => .inr hb) (h2.2.2 _ _ _ e1 e2)⟩
theorem Cx.og {E : Enc γ} {q : Rl γ δ} {A : Option Addr} {n c : Nat} {ys : List γ} {xs : List δ} (k : Cx F O w0 w (Ow E A n c ys :: Sh q ys xs :: rest)) : Cx F O w0 w (OG E q A n c ys xs :: rest) := Cx.dopk (l := [_, _]) trivial k
theorem Cx.ogun {E : Enc γ} {q : Rl γ δ} {A : Option Addr} {n c : Nat} {ys : List γ} {xs : List δ} (k : Cx F O w0 w (OG E q A n c ys xs :: rest)) : Cx F O w0 w (Ow E A n c ys :: Sh q ys xs :: rest) := k.unpk.2
theorem Cx.RG (k : Cx F O w0 w hs) (E : Enc γ) (q : Rl γ δ) : Cx F O w0 w (OG E q Option.none 0 0 [] [] :: hs) := by
  refine Cx.og ?_;have k1 := (k.shz q).nil E;exact k1.perm (List.perm_append_comm (l₂ := [_]))
theorem OG.parts {E : Enc γ} {q : Rl γ δ} {A : Option Addr} {n c : Nat} {ys : List γ} {xs : List δ} {S R : Nat -> Prop} (h : (OG E q A n c ys xs).p w S R) :
    (∃ S' R', (Ow E A n c ys).p w S' R' /\ ∀ b, S' b -> S b) /\ ys.length = xs.length /\ ∀ (j : Nat) (y : γ) (x : δ), ys[j]? = some y -> xs[j]? = some x -> q.r w R y x := by
  obtain ⟨_, hS⟩ := h;obtain ⟨S1, R1, U1, V1, e1, e2, e3, e4, _⟩ := Sep.cut (i := 0) rfl hS;obtain ⟨S2, R2, U2, V2, g1, g2, g3, g4, _⟩ := Sep.cut (i := 0) rfl e2;refine ⟨⟨S1, R1, e1, fun b hb => (e3 b).2 (.inl hb)⟩, g1.2.1, fun j y x f1 f2 => q.mono _ _ _ _ _ (fun b hb => (e4 b).2 (.inr ((g4 b).2 (.inl hb)))) (g1.2.2 j y x f1 f2)⟩
variable {E : Enc γ} {q : Rl γ δ} {A : Option Addr} {n c : Nat} {ys : List γ} {xs : List δ}
theorem Cx.iV (k : Cx F O w0 w hs) (i : Nat) (hi : hs[i]? = some (OG E q A n c ys xs)) : xs.length = n := by
  obtain ⟨S, R, h⟩ := k.get i hi;obtain ⟨⟨_, _, h1, _⟩, h2, _⟩ := OG.parts h;rw [<- h2];exact h1.1
theorem Cx.uF (k : Cx F O w0 w hs) (i : Nat) (hi : hs[i]? = some (OG E q A n c ys xs)) : ys.length = n := by
  obtain ⟨S, R, h⟩ := k.get i hi;obtain ⟨⟨_, _, h1, _⟩, h2, _⟩ := OG.parts h;exact h1.1
theorem Cx.YL (k : Cx F O w0 w hs) (i : Nat) (hi : hs[i]? = some (OG E q A n c ys xs)) : n <= c := by
  obtain ⟨S, R, h⟩ := k.get i hi;obtain ⟨⟨_, _, h1, _⟩, h2, _⟩ := OG.parts h;exact Ow.Xi h1
theorem Cx.nU (k : Cx F O w0 w hs) (i : Nat) (hi : hs[i]? = some (OG E q A n c ys xs)) : Rd w A (E.all ys) := by
  obtain ⟨S, R, h⟩ := k.get i hi;obtain ⟨⟨_, _, h1, _⟩, h2, _⟩ := OG.parts h;exact Ow.rd' h1
end
section
variable {F O : Nat -> Prop} {w0 w : World} {hs : List HP}
theorem Cx.nz {q : Rl γ δ} {ys : List γ} {xs : List δ} (k : Cx F O w0 w hs) (i : Nat) (hi : hs[i]? = some (Sh q ys xs)) : Cx F O w0 w (Sh q ys xs :: hs) :=
  k.dup i hi fun _ _ _ h => ⟨fun _ h => h, h.2.1, h.2.2⟩
theorem Cx.jh {E : Enc α} {A : Option Addr} {n c : Nat} {x : List α} (k : Cx F O w0 w hs) (i : Nat) (hi : hs[i]? = some (Sh (SH E) [(A, n, c)] [x])) : x.length = n := by
  obtain ⟨S, R, h⟩ := k.get i hi;exact ((h.2.2 0 _ _ rfl rfl).1).symm
theorem Cx.YM {E : Enc α} {A : Option Addr} {n c : Nat} {x : List α} (k : Cx F O w0 w hs) (i : Nat) (hi : hs[i]? = some (Sh (SH E) [(A, n, c)] [x])) : n <= c := by
  obtain ⟨S, R, h⟩ := k.get i hi;have h1 := h.2.2 0 _ _ rfl rfl;have h2 : n = x.length := h1.1;have h3 : x.length <= c := h1.2.1;omega
theorem Cx.P7 {E : Enc α} {A : Option Addr} {n c : Nat} {x : List α} (k : Cx F O w0 w hs) (i : Nat) (hi : hs[i]? = some (Sh (SH E) [(A, n, c)] [x])) : Rd w A (E.all x) := by
  obtain ⟨S, R, h⟩ := k.get i hi;exact (h.2.2 0 _ _ rfl rfl).2.2.1
end
structure RoH (F O : Nat -> Prop) (w : World) (E : Enc γ) (q : Rl γ δ) (A : Option Addr) (ys : List γ) (xs : List δ) : Prop where
  ro : Ro F w A (E.all ys)
  len : ys.length = xs.length
  el : ∀ (j : Nat) (y : γ) (x : δ), ys[j]? = some y -> xs[j]? = some x -> q.r w O y x
section
variable {F O F1 O1 : Nat -> Prop} {w0 w w' : World} {hs rest : List HP} {E : Enc γ} {q : Rl γ δ} {A : Option Addr} {ys : List γ} {xs : List δ}
theorem RoH.at (h : RoH F O w E q A ys xs) {j : Int} {x : δ} (hx : aZ xs j = some x) : ∃ y, aZ ys j = some y /\ q.r w O y x := by
  obtain ⟨h0, h1⟩ := bF hx;have hlt := (List.getElem?_eq_some_iff.1 h1).1;have hh : ys[j.toNat]? = some (ys[j.toNat]'(h.len ▸ hlt)) := List.getElem?_eq_getElem _;refine ⟨ys[j.toNat]'(h.len ▸ hlt), ?_, h.el _ _ _ hh h1⟩;unfold aZ;rw [if_pos h0, hh]
theorem SH.rh {E : Enc α} {R : Nat -> Prop} {h : Hd} {x : List α} (q : (SH E).r w R h x) (hR : ∀ b, R b -> ¬ F b) : RH F w E h x :=
  ⟨q.1, q.2.1, q.2.2.1, fun hne a ha hf => hR _ (q.2.2.2 hne a ha) hf⟩
theorem Cx.off (k : Cx F O w0 w hs) : ∀ b, O b -> ¬ F b := fun b ho hf => (k.fin b hf).2 ho
theorem RoH.rog {r : γ -> δ -> Prop} (h : RoH F O w E q A ys xs) (hO : ∀ b, O b -> ¬ F b) (conv : ∀ (R : Nat -> Prop) y x, (∀ b, R b -> ¬ F b) -> q.r w R y x -> r y x) : RoG F w E r A ys xs :=
  ⟨h.ro, h.len, fun j y x e1 e2 => conv O y x hO (h.el j y x e1 e2)⟩
theorem og_ro {n c : Nat} {S R : Nat -> Prop} (h : (OG E q A n c ys xs).p w S R) (hS : ∀ b, S b -> ¬ F1 b) : Ro F1 w A (E.all ys) := by
  obtain ⟨⟨_, _, h1, h2⟩, _⟩ := OG.parts h;exact L8 h1 fun b hb => hS b (h2 b hb)
theorem RoH.of_rest {n c : Nat} (hr : ∀ (i : Nat) (h : HP), rest[i]? = some h -> ∃ S R, h.p w S R /\ (∀ b, R b -> O1 b) /\ ∀ b, S b -> ¬ F1 b) (i : Nat) (hi : rest[i]? = some (OG E q A n c ys xs)) : RoH F1 O1 w E q A ys xs := by
  obtain ⟨S, R, h, hR, hS⟩ := hr i _ hi;obtain ⟨_, h1, h2⟩ := OG.parts h;exact ⟨og_ro h hS, h1, fun j y x e1 e2 => q.mono _ _ _ _ _ hR (h2 j y x e1 e2)⟩
theorem RoG.of_cx {n c : Nat} {r : γ -> δ -> Prop} (k : Cx F O w0 w hs) (i : Nat) (hi : hs[i]? = some (OG E q A n c ys xs)) (conv : ∀ (R : Nat -> Prop) y x, (∀ b, R b -> ¬ N0 b) -> q.r w R y x -> r y x) : RoG N0 w E r A ys xs := by
  obtain ⟨S, R, h⟩ := k.get i hi;obtain ⟨_, h1, h2⟩ := OG.parts h;exact ⟨og_ro h fun _ _ h => h, h1, fun j y x e1 e2 => conv R y x (fun _ _ h => h) (h2 j y x e1 e2)⟩
end
section
variable {P : Program} {n : Nat} {ops : Array Oper} {L : St} {w w0 : World} {F O : Nat -> Prop} {hs rest : List HP} {K : St -> World -> Prop} {E : Enc γ} {q : Rl γ δ}
theorem yR {dst : Option Nat} {x y : Operand} {t t2 ty : TypeId} {pos : String} {iW : Array Edge} {g : Option (Nat × Bool)} {e : TypeId} {zs : List Value} {bytes : Nat} (tf : TF P t e zs bytes)
    (ss : List Nat) (d : Nat) {A A2 : Option Addr} {n1 n2 c c2 : Nat} {ys Md : List γ} {xs xs2 : List δ}
    (hside : (xH ops ss L ⟨dst, .call ⟨.builtin .append, #[x, y], #[t, t2]⟩, ty, pos, iW, g⟩, dst, (decide (d < n)), (L.any fun p => p.1 == d), (toSS [x, y] (lk L)).map SV.vals, (match P.underlying t2 with | some (.slice _) => true | some .string => true | _ => false), E.sz) = (true, some d, true, false, some [.slice A n1 c, .slice A2 n2 c2], true, zs.length))
    (k : Cx F O w0 w (OG E q A n1 c ys xs :: OG E q A2 n2 c2 Md xs2 :: rest)) (hroom : (n1 + n2) * bytes <= 140737488355328)
    (hk : ∀ A' c' w', Cx F O w0 w' (OG E q A' (n1 + n2) c' (ys ++ Md) (xs ++ xs2) :: rest) -> K ((d, .v (.slice A' (n1 + n2) c')) :: L) w') :
    wQ P n ops L w ⟨dst, .call ⟨.builtin .append, #[x, y], #[t, t2]⟩, ty, pos, iW, g⟩ K := by
  have hl2 := k.uF 1 rfl;have hrd := k.nU 1 rfl;have hz : E.sz = zs.length := by simp only [Prod.mk.injEq] at hside;exact hside.2.2.2.2.2.2
  have k1 : Cx F O w0 w (OG E q A2 n2 c2 Md xs2 :: Ow E A n1 c ys :: Sh q ys xs :: rest) := k.ogun.perm ((List.Perm.cons _ (.swap _ _ _)).trans (.swap _ _ _));have k2 := k1.ogun;have k3 : Cx F O w0 w (Ow E A n1 c ys :: Sh q Md xs2 :: Sh q ys xs :: rest) := (k2.tl).perm (.swap _ _ _);refine dL (E := E) (v := .v (.slice A2 n2 c2)) (ys := Md) tf ss d 0 hside k3 rfl (Src.sl hrd hl2 hz) hl2 hroom fun A' c' w' k' => hk A' c' w' ?_;have k4 : Cx F O w0 w' (Sh q ys xs :: Sh q Md xs2 :: Ow E A' (n1 + n2) c' (ys ++ Md) :: rest) := by
    rw [List.set_cons_zero] at k';exact k'.perm ((List.Perm.swap _ _ _).trans ((List.Perm.cons _ (.swap _ _ _)).trans (.swap _ _ _)))
  exact Cx.og ((k4.sha).perm (.swap _ _ _))
end
end Go.Sx
namespace Go.Sx
open Go.RowKit
set_option linter.unusedSimpArgs false
set_option linter.unusedVariables false
variable {γ δ : Type}
section
variable {H : Type} {enc : TypeId × Value -> H} {P : Program} {w : World} {held : Bool}
end
end Go.Sx
namespace Go.Sx
open Go.RowKit
set_option linter.unusedSimpArgs false
set_option linter.unusedVariables false
variable {α β γ δ : Type}
section
variable {F O F1 O1 : Nat -> Prop} {w0 w w' : World} {hs rest : List HP} {E : Enc α} {A : Option Addr} {n c : Nat} {x : List α}
theorem Ro.of_sh (hO : ∀ b, O1 b -> ¬ F1 b) (hr : ∀ (i : Nat) (h : HP), rest[i]? = some h -> ∃ S R, h.p w S R /\ (∀ b, R b -> O1 b) /\ ∀ b, S b -> ¬ F1 b) (i : Nat) (hi : rest[i]? = some (Sh (SH E) [(A, n, c)] [x])) : Ro F1 w A (E.all x) := by
  obtain ⟨S, R, h, hR, hS⟩ := hr i _ hi;have h1 := h.2.2 0 _ _ rfl rfl;exact ⟨h1.2.2.1, fun hne a ha hf => hO _ (hR _ (h1.2.2.2 hne a ha)) hf⟩
end
section
variable {σ ρ : Type} {P : Program} {n : Nat} {Q : Exit -> Act -> World -> Prop} {c : Code} {L L' : St} {w0 : World}
end
end Go.Sx
namespace Go.Sx
open Go.RowKit
set_option linter.unusedSimpArgs false
set_option linter.unusedVariables false
section
variable {α β σ ρ : Type} {P : Program} {n : Nat} {Q : Exit -> Act -> World -> Prop} {ops : Array Oper} {L L' : St} {w w0 : World} {os : List SV} {cs : List Cond} {F O : Nat -> Prop} {hs : List HP} {rest : List Oper}
theorem Wa {id : Nat} {l : List Oper} {y : Code} (b : Bl L L') (q : Ask os cs w) (h : W P n y Q L' w) (hs : (evs P n l.toArray [] l (Kn L) os).map (fun r => (L'.map fun e => (look r.1 e.1).map fun e => (e.g, e.x.val), r.2.1, r.2.2)) = some (L'.map fun p => some (none, p.2.val), cs, []) := by kernel_rfl) : W P n (.region id l.toArray false) (Exit.then (y.wp P Q) Q) L w := qm [] b q hs (ak h)
theorem Wq {id : Nat} {l : List Oper} {y : Code} (b : Bl L L') (h : W P n y Q L' w) (hs : (evs P n l.toArray [] l (Kn L) []).map (fun r => (L'.map fun e => (look r.1 e.1).map fun e => (e.g, e.x.val), r.2.1, r.2.2)) = some (L'.map fun p => some (none, p.2.val), [], []) := by kernel_rfl) : W P n (.region id l.toArray false) (Exit.then (y.wp P Q) Q) L w := Wa b qe h hs
theorem Wl {l : List Oper} (k : Nat) (b : Bl L L') (q : Ask os cs w) (h : WL P n ops Q (l.drop k) L' w) (hs : (evs P n ops [] (l.take k) (Kn L) os).map (fun r => (L'.map fun e => (look r.1 e.1).map fun e => (e.g, e.x.val), r.2.1, r.2.2)) = some (L'.map fun p => some (none, p.2.val), cs, []) := by kernel_rfl) : WL P n ops Q l L w := yH k [] b q hs h
theorem We {l : List Oper} (k : Nat) (b : Bl L L') (h : WL P n ops Q (l.drop k) L' w) (hs : (evs P n ops [] (l.take k) (Kn L) []).map (fun r => (L'.map fun e => (look r.1 e.1).map fun e => (e.g, e.x.val), r.2.1, r.2.2)) = some (L'.map fun p => some (none, p.2.val), [], []) := by kernel_rfl) : WL P n ops Q l L w := yH k [] b qe hs h
theorem Wn {ops : Array Oper} {y : Code} (h : W P n y Q L w) : WL P n ops (Exit.then (y.wp P Q) Q) [] L w := fV (ak h)
theorem fA {f : FuncId} {fn : Func} {c : Code} {R : Ending -> World -> Prop} (xs : List SV) (hf : P.funcs[f]? = some fn) (hb : fn.body = some c) (h : W P fn.ntmps c (bodyPost P fn R) (numbered 0 xs) w) (hn : decide (xs.length <= fn.ntmps) = true := by kernel_rfl) : Calls P f (vals xs) w R := calls xs hf hb (of_decide_eq_true hn) h
theorem aN {fn : Func} {R : Ending -> World -> Prop} (xs : List SV) (q : Ask os cs w) (h : R (.returned (OJ xs).val) w) (hr : KG P fn.results.toList L os = some (xs, cs, []) := by kernel_rfl) : At n (bodyPost P fn R .ret) L w := At_rt xs q hr h
theorem jL {Q : Exit -> Act -> World -> Prop} {K : St -> World -> Prop} (h : K L' w) (hk : L'.map (fun p => (find L p.1).map SV.val) = L'.map (fun p => some p.2.val) := by kernel_rfl) : At n (Exit.then (fun a w => ∃ L, Fu n a (Kn L) /\ K L w) Q .normal) L w := At_c h hk
theorem si {a b : α} (h : some a = some b) : a = b := Option.some.inj h
theorem jU {k : Nat} {x y : Code} (c : Bool) (h1 : c = true -> W P n x Q L w) (h2 : c = false -> W P n y Q L w) (hf : find L k = some (.b c) := by kernel_rfl) : W P n (.cond (.tmp k) x y) Q L w := kY c hf h1 h2
theorem dB {k : Nat} {x y : Code} (p : Prop) [Decidable p] (h1 : p -> W P n x Q L w) (h2 : ¬ p -> W P n y Q L w) (hf : find L k = some (.b (decide p)) := by kernel_rfl) : W P n (.cond (.tmp k) x y) Q L w := W_condp p hf h1 h2
theorem dD {p : Nat} {Ls : List Nat} {C : List (World -> Prop)} {Q : Act -> World -> Prop} {π : MT} {listed : Array Bool} (k m : Nat) (b : Bl L L') (q : ∀ w, cls C m w -> Ask os cs w)
    (h : ∀ listed', MX P n ops Ls C Q (π.drop k) p listed' (Kn L') w) (hs : ((UQ ops m k π).bind fun l => evs P n ops [] l (Kn L) os).map (fun r => (L'.map fun e => (look r.1 e.1).map fun e => (e.g, e.x.val), r.2.1, r.2.2)) = some (L'.map fun p => some (none, p.2.val), cs, []) := by kernel_rfl) : MX P n ops Ls C Q π p listed (Kn L) w := PZ k m [] b q hs h
theorem bu {K : St -> World -> Prop} {dst : Option Nat} {f : FuncId} {xs : Array Operand} {ats : Array TypeId} {ty : TypeId} {pos : String} {iW : Array Edge} {g : Option (Nat × Bool)} (d : Nat) {svs : List SV} {R : Ending -> World -> Prop} (hgo : ed P f) (hc : Calls P f (vals svs) w R)
    (hk : ∀ e w', R e w' -> ∃ x, e = .returned x.val /\ K ((d, x) :: L) w')
    (hs : (xH ops [] L ⟨dst, .call ⟨.value (.func f), xs, ats⟩, ty, pos, iW, g⟩, dst, (decide (d < n)), (L.any fun p => p.1 == d), (toSS xs.toList (lk L)).map SV.vals) = (true, some d, true, false, some (SV.vals svs)) := by kernel_rfl) :
    wQ P n ops L w ⟨dst, .call ⟨.value (.func f), xs, ats⟩, ty, pos, iW, g⟩ K := kQ [] d svs hgo hs hc hk
theorem cu {K : St -> World -> Prop} {ty t : TypeId} {p x : Operand} {pos : String} {iW : Array Edge} {g : Option (Nat × Bool)} (i : Nat) {pa : Option Addr} (sv : SV) (svs : List SV) {bt : TypeId} {b : Nat} {ys zs : List SV} {off : Nat}
    (hp : Pt (some ⟨b, 0, none⟩) off pa) (k : Cx F O w0 w hs) (hi : hs[i]? = some (Bx bt b ys)) (md : Mid svs ys zs)
    (hk : ∀ w', Cx F O w0 w' (hs.set i (Bx bt b zs)) -> K L w')
    (hside : (xH ops [] L (⟨none, .store t p x, ty, pos, iW, g⟩ : Oper), (none : Option Nat), (toSS [p, x] (lk L)).map SV.vals, zC P t, cellsS sv, svs.all SV.one1) = (true, none, some [.pointer pa, sv.val], some (SV.width svs), some svs, true) := by kernel_rfl)
    (hz : (WX off (SV.width svs) svs ys).map SV.cl = some (SV.cl zs) := by kernel_rfl) :
    wQ P n ops L w ⟨none, .store t p x, ty, pos, iW, g⟩ K := Op_b [] i sv svs hp k hi md hside hz hk
theorem nC {K : St -> World -> Prop} {ty t : TypeId} {p x : Operand} {pos : String} {iW : Array Edge} {g : Option (Nat × Bool)} {E : Enc α} (i : Nat) {pa : Option Addr} (sv : SV) (svs : List SV) {bt : TypeId} {b : Nat} {m o o' : Nat} {x0 x1 : Vec α m} {ys zs : List SV} {j : Int} {e0 y : α}
    (hv : uZ x0 j y = x1) (hx : aZ x0.l j = some e0) (hp : Pt (some ⟨b, 0, none⟩) (o' + (j.toNat * E.sz + 0)) pa) (k : Cx F O w0 w hs) (hi : hs[i]? = some (Bx bt b ys)) (vu : Vup ys E x0 x1 o zs) (hy : E.f y = pat (E.f e0) 0 (SV.cl svs))
    (hk : ∀ w', Cx F O w0 w' (hs.set i (Bx bt b zs)) -> K L w')
    (hside : (xH ops [] L (⟨none, .store t p x, ty, pos, iW, g⟩ : Oper), (none : Option Nat), (toSS [p, x] (lk L)).map SV.vals, zC P t, cellsS sv, svs.all SV.one1, o') = (true, none, some [.pointer pa, sv.val], some (SV.width svs), some svs, true, o) := by kernel_rfl)
    (hl : Nat.ble (0 + SV.width svs) E.sz = true := by kernel_rfl) :
    wQ P n ops L w ⟨none, .store t p x, ty, pos, iW, g⟩ K := Op_vs (kk := 0) [] i sv svs hv hx hp k hi vu hy hside hl hk
end
end Go.Sx
namespace Go.Sx
open Go.RowKit
set_option linter.unusedSimpArgs false
set_option linter.unusedVariables false
section
variable {P : Program} {n : Nat} {ops : Array Oper} {L : St} {w w0 : World} {F O : Nat -> Prop} {hs : List HP} {K : St -> World -> Prop}
end
end Go.Sx
namespace Go.Sx
open Go.RowKit
set_option linter.unusedSimpArgs false
set_option linter.unusedVariables false
def Me : Nat := 9221120237041090561
def G6 (b : Nat) : Nat := if (Ieee.double.read b).isNaN then Me else b
def Fl (x b : Nat) : Prop := b < 18446744073709551616 /\ G6 b = x
def far (op : BinOp) (x y : Nat) : Nat := (floatBits op .f64 x y).getD Me
def JA (op : BinOp) (x y : Nat) : Bool :=
  match op with
  | .eql => Ieee.double.order x y == some .eq
  | .neq => Ieee.double.order x y != some .eq
  | .lss => Ieee.double.order x y == some .lt
  | .leq => Ieee.double.order x y == some .lt || Ieee.double.order x y == some .eq
  | .gtr => Ieee.double.order x y == some .gt
  | .geq => Ieee.double.order x y == some .gt || Ieee.double.order x y == some .eq
  | _ => false
def iy (n : Int) : Nat := floatOfInt .f64 n
theorem C_ (b : Nat) : (∃ s f, Ieee.double.read b = .nan s f /\ Ieee.double.read (G6 b) = .nan false 2251799813685249) ∨ (G6 b = b /\ (Ieee.double.read b).isNaN = false) := by
  unfold G6;cases h : Ieee.double.read b with
  | nan s f => left;exact ⟨s, f, rfl, by show Ieee.double.read Me = _;decide⟩
  | number s m e => right;exact ⟨rfl, rfl⟩
  | infinity s => right;exact ⟨rfl, rfl⟩
theorem P8 (d : Ieee.Datum) (s : Bool) (f : Nat) : d.sum (.nan s f) = none /\ d.product (.nan s f) = none /\ (∀ k, d.quotient k (.nan s f) = none) /\ d.order (.nan s f) = none := by
  cases d <;> exact ⟨rfl, rfl, fun _ => rfl, rfl⟩
theorem P9 (d : Ieee.Datum) (s : Bool) (f : Nat) : (Ieee.Datum.nan s f).sum d = none /\ (Ieee.Datum.nan s f).product d = none /\ (∀ k, (Ieee.Datum.nan s f).quotient k d = none) /\ (Ieee.Datum.nan s f).order d = none := by
  cases d <;> exact ⟨rfl, rfl, fun _ => rfl, rfl⟩
theorem opp_nan (s : Bool) (f : Nat) : (Ieee.Datum.nan s f).opposite = .nan (!s) f := rfl
theorem Xl (a b : Nat) : Ieee.double.order (G6 a) (G6 b) = Ieee.double.order a b := by
  unfold Ieee.Format.order;rcases C_ a with ⟨s, f, h1, h2⟩ | ⟨h1, _⟩ <;> rcases C_ b with ⟨s', f', h3, h4⟩ | ⟨h3, _⟩
  ·rw [h1, h2, h3, h4];rfl
  ·rw [h1, h2, (P9 _ _ _).2.2.2, (P9 _ _ _).2.2.2]
  ·rw [h3, h4, (P8 _ _ _).2.2.2, (P8 _ _ _).2.2.2]
  ·rw [h1, h3]
theorem YN (op : BinOp) (a b : Nat) : JA op (G6 a) (G6 b) = JA op a b := by
  unfold JA;rw [Xl]
theorem YO (op : BinOp) (a b : Nat) : floatBits op .f64 (G6 a) (G6 b) = floatBits op .f64 a b := by
  unfold floatBits;have e : (FloatKind.f64).format = Ieee.double := rfl;rw [e];cases op <;> simp only [Ieee.Format.add, Ieee.Format.sub, Ieee.Format.mul, Ieee.Format.div]
  all_goals
    rcases C_ a with ⟨s, f, h1, h2⟩ | ⟨h1, _⟩ <;> rcases C_ b with ⟨s', f', h3, h4⟩ | ⟨h3, _⟩
    ·rw [h1, h2, h3, h4];rfl
    ·rw [h1, h2];simp [P9]
    ·rw [h3, h4];simp [P8, opp_nan]
    ·rw [h1, h3]
theorem JB (neg : Bool) {rung : Nat} (h : rung <= Ieee.double.infRung) : (Ieee.double.read (Ieee.double.word neg rung)).isNaN = false := by
  have h1 : Ieee.double.word neg rung % Ieee.double.signWeight = rung := by
    have hs : Ieee.double.infRung < Ieee.double.signWeight := by decide
    unfold Ieee.Format.word;split
    ·rw [Nat.add_mod_left, Nat.mod_eq_of_lt (by omega)]
    ·rw [Nat.mod_eq_of_lt (by omega)]
  unfold Ieee.Format.read;dsimp only;rw [h1];split
  ·rfl
  ·split
   ·rfl
   ·split
    ·rfl
    ·omega
theorem Dc {d : Ieee.Datum} (h : d.isNaN = false) : (Ieee.double.read (Ieee.double.write d)).isNaN = false := by
  cases d with
  | nan => cases h
  | infinity s => exact JB s (Nat.le_refl _)
  | number s m e =>
    unfold Ieee.Format.write Ieee.Format.nearest;dsimp only;split
    ·exact JB s (Nat.zero_le _)
    ·exact JB s (Nat.min_le_right ..)
theorem YP {a b d : Ieee.Datum} (h : a.sum b = some d) : d.isNaN = false := by
  cases a <;> cases b <;> simp only [Ieee.Datum.sum] at h <;> first | cases h;done | skip
  ·simp only [Option.some.injEq] at h;subst h;rfl
  ·simp only [Option.some.injEq] at h;subst h;rfl
  ·simp only [Option.some.injEq] at h;subst h;rfl
  ·split at h
   ·simp only [Option.some.injEq] at h;subst h;rfl
   ·cases h
theorem UX {a b d : Ieee.Datum} (h : a.product b = some d) : d.isNaN = false := by
  cases a <;> cases b <;> simp only [Ieee.Datum.product] at h <;> first | (cases h;done) | skip
  all_goals first
    | (simp only [Option.some.injEq] at h;subst h;rfl)
    | (split at h
       ·cases h
       ·simp only [Option.some.injEq] at h;subst h;rfl)
theorem RI {k : Nat} {a b d : Ieee.Datum} (h : a.quotient k b = some d) : d.isNaN = false := by
  cases a <;> cases b <;> simp only [Ieee.Datum.quotient] at h <;> first | (cases h;done) | skip
  all_goals first
    | (simp only [Option.some.injEq] at h;subst h;rfl)
    | (split at h
       ·split at h
        ·cases h
        ·simp only [Option.some.injEq] at h;subst h;rfl
       ·simp only [Option.some.injEq] at h;subst h;rfl)
theorem bits_ok {op : BinOp} {a b r : Nat} (h : floatBits op .f64 a b = some r) : Fl r r := by
  refine ⟨?_, ?_⟩
  ·have := floatBits_wf h;simpa [Lit.wf] using this
  ·have h1 : (Ieee.double.read r).isNaN = false := by
     unfold floatBits at h;have e : (FloatKind.f64).format = Ieee.double := rfl;rw [e] at h;split at h
     ·obtain ⟨d, h2, rfl⟩ := Option.map_eq_some_iff.1 h;exact Dc (YP h2)
     ·obtain ⟨d, h2, rfl⟩ := Option.map_eq_some_iff.1 h;exact Dc (YP h2)
     ·obtain ⟨d, h2, rfl⟩ := Option.map_eq_some_iff.1 h;exact Dc (UX h2)
     ·obtain ⟨d, h2, rfl⟩ := Option.map_eq_some_iff.1 h;exact Dc (RI h2)
     ·cases h
   unfold G6;rw [h1];rfl
theorem cut_nan (q : Question) (t : Nat) (k : Nat) (hq : ∃ x y, q = .nanBits .f64 x y) : Fl Me (q.cut t) := by
  obtain ⟨x, y, rfl⟩ := hq;simp only [Question.cut];have h1 : t % 2 < 2 := Nat.mod_lt _ (by decide);have h2 : t / 2 % (2 ^ 52 - 1) < 2 ^ 52 - 1 := Nat.mod_lt _ (by decide);generalize t % 2 = u at *;generalize t / 2 % (2 ^ 52 - 1) = v at *;refine ⟨by omega, ?_⟩;unfold G6;have h3 : (Ieee.double.read (u * 2 ^ 63 + 0x7ff0000000000000 + 1 + v)).isNaN = true := by
    have hw : Ieee.double.signWeight = 2 ^ 63 := by decide
    have hi : Ieee.double.infRung = 0x7ff0000000000000 := by decide
    have hb : Ieee.double.binade = 2 ^ 52 := by decide
    unfold Ieee.Format.read;dsimp only;rw [hw, hi, hb];have h4 : (u * 2 ^ 63 + 0x7ff0000000000000 + 1 + v) % 2 ^ 63 = 0x7ff0000000000000 + 1 + v := by omega
    rw [h4, if_neg (by omega), if_neg (by omega), if_neg (by omega)];rfl
  rw [h3];rfl
theorem far_run {P : Program} {w : World} {op : BinOp} {t : TypeId} {x y a b : Nat} (hop : op = .add ∨ op = .sub ∨ op = .mul ∨ op = .quo) (hx : Fl x a) (hy : Fl y b) :
    ∃ r w', (binOp op t (.float .f64 a) (.float .f64 b)).run P w = .ok (.float .f64 r) w' /\ Fl (far op x y) r /\ (w' = w ∨ w' = w.drewN 1) := by
  have e : floatBits op .f64 x y = floatBits op .f64 a b := by rw [<- hx.2, <- hy.2, YO]
  cases h : floatBits op .f64 a b with
  | some r =>
    refine ⟨r, w, run_float_arith w op t .f64 a b r h, ?_, .inl rfl⟩;unfold far;rw [e, h];exact bits_ok h
  | none =>
    refine ⟨(Question.nanBits .f64 a b).cut (w.tape w.drawn (.nanBits .f64 a b)), w.drewN 1, ?_, ?_, .inr rfl⟩
    ·have h' := h;unfold floatBits at h';rcases hop with rfl | rfl | rfl | rfl <;> simp only at h' <;> simp [binOp, Op.floatArith, h', choose, Sem.run, Question.forced, World.drewN]
    ·unfold far;rw [e, h];exact cut_nan _ _ 0 ⟨_, _, rfl⟩
theorem YQ {P : Program} {w : World} {op : BinOp} {t : TypeId} {x y a b : Nat} (hop : op = .eql ∨ op = .neq ∨ op = .lss ∨ op = .leq ∨ op = .gtr ∨ op = .geq) (hx : Fl x a) (hy : Fl y b) :
    (binOp op t (.float .f64 a) (.float .f64 b)).run P w = .ok (SV.val (.b (JA op x y))) w := by
  rw [<- hx.2, <- hy.2, YN];rcases hop with rfl | rfl | rfl | rfl | rfl | rfl <;> simp [binOp, Op.floatCmp, SV.val, JA, FloatKind.format]
theorem YR {P : Program} {w : World} {src dst : TypeId} {n : Int} {q : IntKind} (hs : (P.underlying src).isSome = true) (hd : P.underlying dst = some (.float .f64)) :
    (convert src dst (.int q n)).run P w = .ok (.float .f64 (iy n)) w := run_convert_int_float w src dst q .f64 n hs hd
theorem YS {d : Ieee.Datum} (hd : d.isNaN = false) : Fl (Ieee.double.write d) (Ieee.double.write d) := by
  have h2 : Ieee.double.write d < 2 ^ Ieee.double.width := Ieee.Format.write_lt _ _;have h4 : (Ieee.double.read (Ieee.double.write d)).isNaN = false := Dc hd;have h3 : (2 ^ Ieee.double.width : Nat) = 18446744073709551616 := by decide
  rw [h3] at h2;refine ⟨h2, ?_⟩;unfold G6;rw [if_neg (by rw [h4];decide)]
theorem fofI_eq (n : Int) : iy n = Ieee.double.write (.number (n < 0) n.natAbs 0) := by
  unfold iy floatOfInt FloatKind.nearest FloatKind.encode FloatKind.format;rfl
theorem wo (n : Int) : Fl (iy n) (iy n) := by
  rw [fofI_eq];exact YS rfl
def eF : Enc UInt64 := ⟨1, fun a => [.float .f64 a.toNat], fun _ => rfl, fun x v h => by rw [List.mem_singleton.1 h];rfl⟩
instance : Pos eF := ⟨by decide⟩
theorem Fl.lit {c : Nat} (h : (decide (c < 18446744073709551616) && (G6 c == c)) = true) : Fl c c := by
  simp only [Bool.and_eq_true, decide_eq_true_eq, beq_iff_eq] at h;exact ⟨h.1, h.2⟩
theorem Fl.bits {x b : Nat} (h : Fl x b) (hn : x ≠ Me) : b = x := by
  rcases C_ b with ⟨s, f, h1, h2⟩ | ⟨h1, h2⟩
  ·exfalso;apply hn;rw [<- h.2];unfold G6;rw [h1];rfl
  ·rw [<- h1, h.2]
section
variable {P : Program} {n : Nat} {ops : Array Oper} {L : St} {w w0 : World} {F O : Nat -> Prop} {hps : List HP} {K : St -> World -> Prop}
theorem u_ {dst : Option Nat} {OU : BinOp} {t ty : TypeId} {x y : Operand} {pp : TypeId} {pos : String} {iW : Array Edge} {g : Option (Nat × Bool)} (ss : List Nat) (d : Nat) {X Y u v : Nat}
    (hs : (xH ops ss L ⟨dst, .binOp OU t x y pp, ty, pos, iW, g⟩, dst, (decide (d < n)), (L.any fun p => p.1 == d), (toSS [x, y] (lk L)).map SV.vals) = (true, some d, true, false, some [.float .f64 u, .float .f64 v]))
    (hop : OU = .add ∨ OU = .sub ∨ OU = .mul ∨ OU = .quo) (hx : Fl X u) (hy : Fl Y v) (k : Cx F O w0 w hps) (hk : ∀ r w', Fl (far OU X Y) r -> Cx F O w0 w' hps -> K ((d, .v (.float .f64 r)) :: L) w') :
    wQ P n ops L w ⟨dst, .binOp OU t x y pp, ty, pos, iW, g⟩ K := by
  simp only [Prod.mk.injEq, Option.map_eq_some_iff, decide_eq_true_eq] at hs;obtain ⟨s1, rfl, s3, s4, ⟨svs, s5, s6⟩⟩ := hs;refine uI (xs := [x, y]) (svs := svs) ss (d := d) (by simp [Side, s1, s3, s4, s5]) fun a ha he => ?_;rw [s6] at he;simp only [List.map_cons, List.map_nil, List.cons.injEq, and_true] at he;obtain ⟨r, w', h1, h2, h3⟩ := far_run (P := P) (w := w) (t := t) hop hx hy;have hg : (eqGuard OU t x y (.float .f64 u) (.float .f64 v)).run P w = .ok () w := by
    rcases hop with rfl | rfl | rfl | rfl <;> rfl
  unfold Oper.wp execOp;simp only [he.1, he.2, Sem.run_bind, hg, h1, Result.andThen_ok, Sem.run_pure];refine ⟨.v (.float .f64 r), rfl, hk r w' h2 ?_⟩;rcases h3 with rfl | rfl
  ·exact k
  ·exact k.drew 1
theorem Op_fcmp {dst : Option Nat} {OU : BinOp} {t ty : TypeId} {x y : Operand} {pp : TypeId} {pos : String} {iW : Array Edge} {g : Option (Nat × Bool)} (ss : List Nat) (d : Nat) {X Y u v : Nat}
    (hs : (xH ops ss L ⟨dst, .binOp OU t x y pp, ty, pos, iW, g⟩, dst, (decide (d < n)), (L.any fun p => p.1 == d), (toSS [x, y] (lk L)).map SV.vals) = (true, some d, true, false, some [.float .f64 u, .float .f64 v]))
    (hop : OU = .eql ∨ OU = .neq ∨ OU = .lss ∨ OU = .leq ∨ OU = .gtr ∨ OU = .geq) (hx : Fl X u) (hy : Fl Y v) (hk : K ((d, .b (JA OU X Y)) :: L) w) :
    wQ P n ops L w ⟨dst, .binOp OU t x y pp, ty, pos, iW, g⟩ K := by
  simp only [Prod.mk.injEq, Option.map_eq_some_iff, decide_eq_true_eq] at hs;obtain ⟨s1, rfl, s3, s4, ⟨svs, s5, s6⟩⟩ := hs;refine uI (xs := [x, y]) (svs := svs) ss (d := d) (by simp [Side, s1, s3, s4, s5]) fun a ha he => ?_;rw [s6] at he;simp only [List.map_cons, List.map_nil, List.cons.injEq, and_true] at he;have h1 := YQ (P := P) (w := w) (t := t) hop hx hy;have hg : (eqGuard OU t x y (.float .f64 u) (.float .f64 v)).run P w = .ok () w := by
    rcases hop with rfl | rfl | rfl | rfl | rfl | rfl <;> rfl
  unfold Oper.wp execOp;simp only [he.1, he.2, Sem.run_bind, hg, h1, Result.andThen_ok, Sem.run_pure];exact ⟨.b (JA OU X Y), rfl, hk⟩
theorem wu {dst : Option Nat} {src t ty : TypeId} {x : Operand} {pos : String} {iW : Array Edge} {g : Option (Nat × Bool)} (ss : List Nat) (d : Nat) {q : IntKind} {m : Int}
    (hs : (xH ops ss L ⟨dst, .convert src t x, ty, pos, iW, g⟩, dst, (decide (d < n)), (L.any fun p => p.1 == d), (toSS [x] (lk L)).map SV.vals, (P.underlying src).isSome, P.underlying t) = (true, some d, true, false, some [.int q m], true, some (.float .f64)))
    (hk : K ((d, .v (.float .f64 (iy m))) :: L) w) : wQ P n ops L w ⟨dst, .convert src t x, ty, pos, iW, g⟩ K := by
  simp only [Prod.mk.injEq, Option.map_eq_some_iff, decide_eq_true_eq] at hs;obtain ⟨s1, rfl, s3, s4, ⟨svs, s5, s6⟩, s7, s8⟩ := hs;refine uI (xs := [x]) (svs := svs) ss (d := d) (by simp [Side, s1, s3, s4, s5]) fun a ha he => ?_;rw [s6] at he;simp only [List.map_cons, List.map_nil, List.cons.injEq, and_true] at he;unfold Oper.wp execOp;simp only [he, Sem.run_bind, YR s7 s8, Result.andThen_ok, Sem.run_pure];exact ⟨.v (.float .f64 (iy m)), rfl, hk⟩
theorem Xm {dst : Option Nat} {f : FuncId} {xs : Array Operand} {ats : Array TypeId} {ty : TypeId} {pos : String} {iW : Array Edge} {g : Option (Nat × Bool)} (hf : IsFb P f) (ss : List Nat) (d : Nat) {X u : Nat} (hx : Fl X u) (hn : X ≠ Me)
    (hs : (xH ops ss L ⟨dst, .call ⟨.value (.func f), xs, ats⟩, ty, pos, iW, g⟩, dst, (decide (d < n)), (L.any fun p => p.1 == d), (toSS xs.toList (lk L)).map SV.vals) = (true, some d, true, false, some [.float .f64 u]))
    (hk : K ((d, .u64 (UInt64.ofNat X)) :: L) w) : wQ P n ops L w ⟨dst, .call ⟨.value (.func f), xs, ats⟩, ty, pos, iW, g⟩ K := by
  obtain rfl := hx.bits hn;exact YI hf ss d _ hx.1 hs hk
end
section
variable {P : Program} {n : Nat} {ops : Array Oper} {L : St} {w : World} {K : St -> World -> Prop}
end
end Go.Sx
namespace Go.Sx
open Go.RowKit
set_option linter.unusedSimpArgs false
set_option linter.unusedVariables false
section
variable {H : Type} {enc : TypeId × Value -> H} {P : Program} {w : World} {held : Bool}
end
end Go.Sx
namespace Go.Sx
open Go.RowKit Go.MapKept
set_option linter.unusedSimpArgs false
set_option linter.unusedVariables false
variable {α β γ δ ε ζ σ : Type}
abbrev Ky := List UInt8
abbrev Mp (δ : Type) := List (List UInt8 × δ)
def uk (m : Mp δ) : Prop := (m.map (·.1)).Pairwise (· < ·)
def fP (m : Mp δ) (k : Ky) : Option δ := match m with
  | [] => none
  | p :: r => if p.1 = k then some p.2 else fP r k
def fH (m : Mp δ) (k : Ky) (v : δ) : Mp δ := match m with
  | [] => [(k, v)]
  | p :: r => if k = p.1 then (k, v) :: r else if k < p.1 then (k, v) :: p :: r else p :: fH r k v
theorem P_ (a b : Ky) : a < b ∨ a = b ∨ b < a := by
  rcases Decidable.em (a < b) with h | h
  ·exact .inl h
  ·rcases Decidable.em (b < a) with h2 | h2
   ·exact .inr (.inr h2)
   ·exact .inr (.inl (List.le_antisymm (List.not_lt.1 h2) (List.not_lt.1 h)))
theorem uk.nil : uk ([] : Mp δ) := List.Pairwise.nil
theorem uk.cons {p : Ky × δ} {r : Mp δ} : uk (p :: r) ↔ (∀ q ∈ r, p.1 < q.1) /\ uk r := by
  unfold uk;rw [List.map_cons, List.pairwise_cons];simp only [List.mem_map, forall_exists_index, and_imp, forall_apply_eq_imp_iff₂]
theorem uk.nodup {m : Mp δ} (h : uk m) : (m.map (·.1)).Nodup := List.Pairwise.imp (fun {a b} hab (e : a = b) => List.lt_irrefl b (e ▸ hab)) h
theorem xq {m : Mp δ} {k : Ky} : fP m k = none ↔ k ∉ m.map (·.1) := by
  induction m with
  | nil => simp [fP]
  | cons p r ih =>
    unfold fP;by_cases h : p.1 = k
    ·simp [h]
    ·rw [if_neg h, ih];simp only [List.map_cons, List.mem_cons, not_or];exact ⟨fun hr => ⟨fun e => h e.symm, hr⟩, fun hr => hr.2⟩
theorem Xn {m : Mp δ} {k : Ky} {v : δ} (h : fP m k = some v) : (k, v) ∈ m := by
  induction m with
  | nil => cases h
  | cons p r ih =>
    unfold fP at h;by_cases hp : p.1 = k
    ·rw [if_pos hp] at h;obtain rfl := Option.some.inj h;subst hp;exact List.mem_cons_self
    ·rw [if_neg hp] at h;exact List.mem_cons_of_mem _ (ih h)
theorem l9 {m : Mp δ} {k : Ky} {v : δ} (hn : (m.map (·.1)).Nodup) (h : (k, v) ∈ m) : fP m k = some v := by
  induction m with
  | nil => cases h
  | cons p r ih =>
    rw [List.map_cons, List.nodup_cons] at hn;unfold fP;rcases List.mem_cons.1 h with rfl | h
    ·rw [if_pos rfl]
    ·rw [if_neg (by intro e;exact hn.1 (by rw [e];exact List.mem_map.2 ⟨_, h, rfl⟩)), ih hn.2 h]
theorem Xo {m : Mp δ} {k : Ky} (v : δ) (h : k ∉ m.map (·.1)) : (fH m k v).Perm ((k, v) :: m) := by
  induction m with
  | nil => exact .refl _
  | cons p r ih =>
    simp only [List.map_cons, List.mem_cons, not_or] at h;unfold fH;rw [if_neg h.1];split
    ·exact .refl _
    ·exact (List.Perm.cons _ (ih h.2)).trans (.swap _ _ _)
theorem Xp {m : Mp δ} {k : Ky} {v : δ} {q : Ky × δ} (h : q ∈ fH m k v) : q = (k, v) ∨ (q ∈ m /\ (uk m -> q.1 ≠ k)) := by
  induction m with
  | nil => exact .inl (List.mem_singleton.1 h)
  | cons p r ih =>
    unfold fH at h;split at h
    ·rename_i he;rcases List.mem_cons.1 h with h | h
     ·exact .inl h
     ·refine .inr ⟨List.mem_cons_of_mem _ h, fun hs e => ?_⟩;rw [uk.cons] at hs;have := hs.1 q h;rw [e, he] at this;exact List.lt_irrefl _ this
    ·rename_i hne;split at h
     ·rename_i hlt;rcases List.mem_cons.1 h with h | h
      ·exact .inl h
      ·refine .inr ⟨h, fun hs e => ?_⟩;rw [uk.cons] at hs;rcases List.mem_cons.1 h with rfl | h
       ·exact hne e.symm
       ·have := List.lt_trans hlt (hs.1 q h);rw [e] at this;exact List.lt_irrefl _ this
     ·rcases List.mem_cons.1 h with rfl | h
      ·exact .inr ⟨List.mem_cons_self, fun _ e => hne e.symm⟩
      ·rcases ih h with e | ⟨h1, h2⟩
       ·exact .inl e
       ·exact .inr ⟨List.mem_cons_of_mem _ h1, fun hs => h2 (uk.cons.1 hs).2⟩
theorem uk.fH {m : Mp δ} (h : uk m) (k : Ky) (v : δ) : uk (fH m k v) := by
  induction m with
  | nil => rw [Sx.fH, uk.cons];exact ⟨fun q hq => (by cases hq), uk.nil⟩
  | cons p r ih =>
    rw [uk.cons] at h;unfold Sx.fH;split
    ·rename_i he;rw [uk.cons];exact ⟨fun q hq => by rw [he];exact h.1 q hq, h.2⟩
    ·rename_i hne;split
     ·rename_i hlt;rw [uk.cons, uk.cons];refine ⟨fun q hq => ?_, h⟩;rcases List.mem_cons.1 hq with rfl | hq
      ·exact hlt
      ·exact List.lt_trans hlt (h.1 q hq)
     ·rename_i hnlt;rw [uk.cons];refine ⟨fun q hq => ?_, ih h.2⟩;rcases Xp hq with rfl | ⟨hq, _⟩
      ·rcases P_ k p.1 with q | q | q
       ·exact absurd q hnlt
       ·exact absurd q hne
       ·exact q
      ·exact h.1 q hq
theorem YT {m : Mp δ} (h : uk m) {k : Ky} {v0 : δ} (v : δ) (hm : (k, v0) ∈ m) : ∃ a b, m = a ++ (k, v0) :: b /\ fH m k v = a ++ (k, v) :: b := by
  induction m with
  | nil => cases hm
  | cons p r ih =>
    rw [uk.cons] at h;rcases List.mem_cons.1 hm with rfl | hm
    ·refine ⟨[], r, rfl, ?_⟩;unfold fH;rw [if_pos rfl];rfl
    ·have hlt := h.1 _ hm;have hne : ¬ k = p.1 := fun e => by
       have h1 : p.1 < k := hlt;rw [e] at h1;exact List.lt_irrefl _ h1
     have hnlt : ¬ k < p.1 := fun e => List.lt_irrefl _ (List.lt_trans hlt e);obtain ⟨a, b, e1, e2⟩ := ih h.2 hm;refine ⟨p :: a, b, by rw [e1];rfl, ?_⟩;unfold fH;rw [if_neg hne, if_neg hnlt, e2];rfl
def kP {ε σ : Type} (f : σ -> ε -> Option σ) : σ -> List ε -> Option σ
  | s, [] => some s
  | s, x :: l => (f s x).bind fun s' => kP f s' l
def Comm (f : σ -> Ky × δ -> Option σ) : Prop := ∀ s a b, a.1 ≠ b.1 -> (f s a).bind (fun s' => f s' b) = (f s b).bind (fun s' => f s' a)
theorem UY {f : σ -> Ky × δ -> Option σ} (hc : Comm f) {l l' : Mp δ} (hp : l.Perm l') : ∀ s, (l.map (·.1)).Nodup -> kP f s l = kP f s l' := by
  induction hp with
  | nil => intro s _;rfl
  | cons x _ ih =>
    intro s hn;rw [List.map_cons, List.nodup_cons] at hn;simp only [kP];congr 1;funext s';exact ih s' hn.2
  | swap x y l =>
    intro s hn;rw [List.map_cons, List.map_cons, List.nodup_cons] at hn;simp only [kP];have hne : y.1 ≠ x.1 := fun e => hn.1 (by rw [e];exact List.mem_cons_self);have := hc s y x hne;rw [<- Option.bind_assoc, this, Option.bind_assoc]
  | trans h1 h2 ih1 ih2 =>
    intro s hn;rw [ih1 s hn, ih2 s (((h1.map _).nodup_iff).1 hn)]
theorem Bj {f : σ -> Ky × δ -> Option σ} (hc : Comm f) {l l' : Mp δ} {x : Ky × δ} {s r : σ} (hp : l.Perm (x :: l')) (hn : (l.map (·.1)).Nodup) (h : kP f s l = some r) : ∃ s', f s x = some s' /\ kP f s' l' = some r := by
  rw [UY hc hp s hn, kP, Option.bind_eq_some_iff] at h;exact h
theorem Df {f : σ -> ε -> Option σ} {l : List ε} {s r : σ} (hl : l = []) (h : kP f s l = some r) : s = r := by
  subst hl;exact Option.some.inj h
end Go.Sx
namespace Go.Sx
open Go.RowKit Go.MapKept
set_option linter.unusedSimpArgs false
set_option linter.unusedVariables false
variable {α β γ δ ε ζ σ ι : Type}
def Px (φ : ι -> Prop) (l : ι -> List HP) : HP where
  p w S R := ∃ i, φ i /\ Sep w (l i) S R
  loc := by
    rintro w w' S R ⟨i, h0, h⟩ hk;exact ⟨i, h0, h.keep hk⟩
section
variable {F O : Nat -> Prop} {w0 w w' : World} {hs rest : List HP}
theorem Cx.UZ {φ : ι -> Prop} {l : ι -> List HP} (k : Cx F O w0 w (Px φ l :: rest)) : ∃ i, φ i /\ Cx F O w0 w (l i ++ rest) := by
  obtain ⟨U, V, ⟨S, R, U', V', ⟨i, hq, h1⟩, h2, h3, h4, h5, h6⟩, hU, hV⟩ := k.sep;exact ⟨i, hq, k.os, k.tape, k.output, k.size, k.block, k.fin, k.Jp, _, _, Sep.join h1 h2 (fun b hb => ⟨(h5 b hb).1, (h5 b hb).2.2⟩) h6, fun b hb => hU b ((h3 b).2 hb), fun b hb => hV b ((h4 b).2 hb)⟩
theorem Cx.dopx {φ : ι -> Prop} {l : ι -> List HP} (i : ι) (hq : φ i) (k : Cx F O w0 w (l i ++ rest)) : Cx F O w0 w (Px φ l :: rest) := by
  obtain ⟨U, V, h, hU, hV⟩ := k.sep;obtain ⟨U1, V1, U2, V2, e1, e2, e3, e4, e5, e6⟩ := Sep.split h;exact ⟨k.os, k.tape, k.output, k.size, k.block, k.fin, k.Jp, U, V, ⟨U1, V1, U2, V2, ⟨i, hq, e1⟩, e2, e3, e4, fun b hb => ⟨(e5 b hb).1, fun hr => Sep.apart e1 b hb hr, (e5 b hb).2⟩, e6⟩, hU, hV⟩
theorem Cx.dupw {h h' : HP} (k : Cx F O w0 w hs) (i : Nat) (hi : hs[i]? = some h) (hp : ∀ S R, h.p w S R -> h'.p w (fun _ => False) R) : Cx F O w0 w (h' :: hs) := by
  obtain ⟨U, V, h1, hU, hV⟩ := k.sep;obtain ⟨S, R, U', V', e1, e2, e3, e4, e5, e6⟩ := Sep.cut hi h1;refine ⟨k.os, k.tape, k.output, k.size, k.block, k.fin, k.Jp, U, V, ⟨_, R, U, V, hp _ _ e1, h1, fun b => ⟨.inr, fun h => h.elim (fun h => h.elim) id⟩, fun b => ⟨.inr, fun h => h.elim (fun h => (e4 b).2 (.inl h)) id⟩, fun b hb => hb.elim, fun b hb hu => ?_⟩, hU, hV⟩;exact Sep.apart h1 b hu ((e4 b).2 (.inl hb))
end
structure Vl (γ δ : Type) where
  V : γ -> Value
  q : Rl γ δ
  inj : ∀ a b, V a = V b -> a = b
def vI : Vl Int Int := ⟨fun y => .int .i64 y, SQ, fun a b h => by simpa using h⟩
def vH (E : Enc α) : Vl Hd (List α) := ⟨hV, SH E, fun a b h => by
  obtain ⟨a1, a2, a3⟩ := a;obtain ⟨b1, b2, b3⟩ := b;simp only [hV, Value.slice.injEq] at h;obtain ⟨rfl, rfl, rfl⟩ := h;rfl⟩
def vS (E : Enc α) (hE : ∀ a b, E.f a = E.f b -> a = b) : Vl α α := ⟨fun y => .agg ⟨E.f y⟩, SQ, fun a b h => by
  simp only [Value.agg.injEq, Array.mk.injEq] at h;exact hE a b h⟩
def kx (e : Ky × γ × δ) : Ky × δ := (e.1, e.2.2)
def MbF (w : World) (b : Nat) (ks : List Ky) (vs : List Value) : Prop :=
  ks.length = vs.length /\ ∃ (es : Array MapEntry) (clock : Nat), w.heap[b]? = some (.map es clock) /\ es.toList.map (·.key) = ks.map kV /\ es.toList.map (·.val) = vs /\ Stamped es clock
def xu (l : List (Ky × γ × δ)) : List Ky := l.map (·.1)
def Es (v : Vl γ δ) (l : List (Ky × γ × δ)) : List Value := l.map fun e => v.V e.2.1
def Fits (m : Mp δ) (l : List (Ky × γ × δ)) : Prop := (l.map kx).Perm m /\ uk m
def MS (v : Vl γ δ) (b : Nat) (m : Mp δ) : HP := Px (Fits (γ := γ) m) fun l => [Mb b (xu l) (Es v l), Sh v.q (l.map (·.2.1)) (l.map (·.2.2))]
def RM (v : Vl γ δ) : Rl Nat (Mp δ) where
  r w R b m := R b /\ ∃ l : List (Ky × γ × δ), Fits m l /\ MbF w b (xu l) (Es v l) /\ ∀ e ∈ l, v.q.r w R e.2.1 e.2.2
  loc := by
    rintro w w' R b m ⟨h0, l, h1, ⟨h2, es, clock, h3, h4⟩, h5⟩ hk;exact ⟨h0, l, h1, ⟨h2, es, clock, by rw [hk b h0];exact h3, h4⟩, fun e he => v.q.loc _ _ _ _ _ (h5 e he) hk⟩
  mono := by
    rintro w R R' b m hR ⟨h0, l, h1, h2, h5⟩;exact ⟨hR _ h0, l, h1, h2, fun e he => v.q.mono _ _ _ _ _ hR (h5 e he)⟩
def vM (v : Vl γ δ) : Vl Nat (Mp δ) := ⟨fun b => .map (some b), RM v, fun a b h => by simpa using h⟩
theorem Fits.none {m : Mp δ} {l : List (Ky × γ × δ)} (h : Fits m l) {key : Ky} (hk : Aw (xu l) key = none) : fP m key = none := by
  rw [xq];rw [D7] at hk;intro q;apply hk;obtain ⟨p, hp, rfl⟩ := List.mem_map.1 q;obtain ⟨e, he, rfl⟩ := List.mem_map.1 (h.1.mem_iff.2 hp);exact List.mem_map.2 ⟨e, he, rfl⟩
theorem Fits.some {m : Mp δ} {l : List (Ky × γ × δ)} (h : Fits m l) {key : Ky} {j : Nat} (hk : Aw (xu l) key = some j) : ∃ e, l[j]? = some e /\ e.1 = key /\ fP m key = some e.2.2 := by
  have h1 := Mc hk;unfold xu at h1;rw [List.getElem?_map, Option.map_eq_some_iff] at h1;obtain ⟨e, he, h2⟩ := h1;refine ⟨e, he, h2, l9 h.2.nodup ?_⟩;rw [<- h2];exact h.1.mem_iff.1 (List.mem_map.2 ⟨e, List.mem_of_getElem? he, rfl⟩)
theorem Fits.len {m : Mp δ} {l : List (Ky × γ × δ)} (h : Fits m l) : (xu l).length = m.length := by
  have := h.1.length_eq;simpa [xu] using this
section
variable {F O : Nat -> Prop} {w0 w w' : World} {hs rest : List HP}
def Acc (F O : Nat -> Prop) (w0 w : World) (v : Vl γ δ) (b : Nat) (m : Mp δ) (hs : List HP) : Prop :=
  ∃ l : List (Ky × γ × δ), Fits m l /\ MbF w b (xu l) (Es v l) /\ ∀ e ∈ l, Cx F O w0 w (Sh v.q [e.2.1] [e.2.2] :: hs)
theorem YU {b : Nat} {ks : List Ky} {vs : List Value} {S R : Nat -> Prop} (h : (Mb b ks vs).p w S R) : MbF w b ks vs := ⟨h.1, h.2.1⟩
theorem Cx.acc {v : Vl γ δ} {b : Nat} {m : Mp δ} (k : Cx F O w0 w (MS v b m :: rest)) : Acc F O w0 w v b m (MS v b m :: rest) := by
  obtain ⟨l, hf, k1⟩ := k.UZ;obtain ⟨S, R, hb⟩ := k1.get 0 rfl;refine ⟨l, hf, YU hb, fun e he => ?_⟩;refine k.dupw 0 rfl fun S R ⟨l', hf', hs'⟩ => ?_;obtain ⟨S1, R1, U1, V1, e1, e2, e3, e4, _⟩ := Sep.cut (i := 0) rfl hs';obtain ⟨S2, R2, U2, V2, g1, g2, g3, g4, _⟩ := Sep.cut (i := 0) rfl e2;obtain ⟨_, es, clock, m1, m2, m3, _⟩ := YU hb;obtain ⟨_, es', clock', n1, n2, n3, _⟩ := YU e1;rw [m1] at n1;obtain ⟨rfl, rfl⟩ : es = es' /\ clock = clock' := by simpa using n1
  obtain ⟨j, hj⟩ := List.getElem?_of_mem he;have hk : (xu l)[j]? = (xu l')[j]? := by
    have : (xu l).map kV = (xu l').map kV := m2.symm.trans n2;have h1 := congrArg (fun x => x[j]?) this;simp only [List.getElem?_map] at h1;cases ha : (xu l)[j]? <;> cases hb : (xu l')[j]? <;> rw [ha, hb] at h1 <;> simp at h1 <;> first | rfl | rw [G5 h1]
  have hv : (Es v l)[j]? = (Es v l')[j]? := by rw [<- m3, <- n3]
  unfold xu at hk;unfold Es at hv;rw [List.getElem?_map, List.getElem?_map, hj] at hk hv;cases hj' : l'[j]? with
  | none => rw [hj'] at hk;cases hk
  | some e' =>
    rw [hj'] at hk hv;simp only [Option.map_some, Option.some.injEq] at hk hv;have hy := v.inj _ _ hv;have hx : e.2.2 = e'.2.2 := by
      have q1 := l9 hf.2.nodup (hf.1.mem_iff.1 (List.mem_map.2 ⟨e, he, rfl⟩));have q2 := l9 hf'.2.nodup (hf'.1.mem_iff.1 (List.mem_map.2 ⟨e', List.mem_of_getElem? hj', rfl⟩));rw [hk] at q1;exact Option.some.inj (q1.symm.trans q2)
    refine ⟨fun _ h => h, rfl, fun j2 y x h1 h2 => ?_⟩;cases j2 with
    | succ j2 => cases h1
    | zero =>
      obtain rfl := Option.some.inj h1;obtain rfl := Option.some.inj h2;rw [hy, hx];refine v.q.mono _ _ _ _ _ (fun b hb => (e4 b).2 (.inr ((g4 b).2 (.inl hb)))) (g1.2.2 j _ _ ?_ ?_)
      ·rw [List.getElem?_map, hj'];rfl
      ·rw [List.getElem?_map, hj'];rfl
theorem Cx.YV {v : Vl γ δ} {b : Nat} {m : Mp δ} (k : Cx F O w0 w hs) (i : Nat) (hi : hs[i]? = some (Sh (RM v) [b] [m])) : Acc F O w0 w v b m hs := by
  obtain ⟨S, R, hh⟩ := k.get i hi;obtain ⟨_, l, hf, hm, _⟩ := hh.2.2 0 _ _ rfl rfl;refine ⟨l, hf, hm, fun e he => ?_⟩;refine k.dupw i hi fun S R hh' => ?_;obtain ⟨_, l', hf', hm', hq⟩ := hh'.2.2 0 _ _ rfl rfl;obtain ⟨_, es, clock, m1, m2, m3, _⟩ := hm;obtain ⟨_, es', clock', n1, n2, n3, _⟩ := hm';rw [m1] at n1;obtain ⟨rfl, rfl⟩ : es = es' /\ clock = clock' := by simpa using n1
  obtain ⟨j, hj⟩ := List.getElem?_of_mem he;have hk : (xu l)[j]? = (xu l')[j]? := by
    have : (xu l).map kV = (xu l').map kV := m2.symm.trans n2;have h1 := congrArg (fun x => x[j]?) this;simp only [List.getElem?_map] at h1;cases ha : (xu l)[j]? <;> cases hb : (xu l')[j]? <;> rw [ha, hb] at h1 <;> simp at h1 <;> first | rfl | rw [G5 h1]
  have hv : (Es v l)[j]? = (Es v l')[j]? := by rw [<- m3, <- n3]
  unfold xu at hk;unfold Es at hv;rw [List.getElem?_map, List.getElem?_map, hj] at hk hv;cases hj' : l'[j]? with
  | none => rw [hj'] at hk;cases hk
  | some e' =>
    rw [hj'] at hk hv;simp only [Option.map_some, Option.some.injEq] at hk hv;have hy := v.inj _ _ hv;have hx : e.2.2 = e'.2.2 := by
      have q1 := l9 hf.2.nodup (hf.1.mem_iff.1 (List.mem_map.2 ⟨e, he, rfl⟩));have q2 := l9 hf'.2.nodup (hf'.1.mem_iff.1 (List.mem_map.2 ⟨e', List.mem_of_getElem? hj', rfl⟩));rw [hk] at q1;exact Option.some.inj (q1.symm.trans q2)
    refine ⟨fun _ h => h, rfl, fun j2 y x h1 h2 => ?_⟩;cases j2 with
    | succ j2 => cases h1
    | zero =>
      obtain rfl := Option.some.inj h1;obtain rfl := Option.some.inj h2;rw [hy, hx];exact hq e' (List.mem_of_getElem? hj')
theorem Cx.YW {v : Vl γ δ} {b : Nat} {m : Mp δ} (l : List (Ky × γ × δ)) (hf : Fits m l) (k : Cx F O w0 w (Mb b (xu l) (Es v l) :: Sh v.q (l.map (·.2.1)) (l.map (·.2.2)) :: rest)) : Cx F O w0 w (MS v b m :: rest) :=
  Cx.dopx (φ := Fits (γ := γ) m) (l := fun l => [Mb b (xu l) (Es v l), Sh v.q (l.map (·.2.1)) (l.map (·.2.2))]) l hf k
theorem Cx.Qa {v : Vl γ δ} {b : Nat} (k : Cx F O w0 w (hs ++ [Mb b [] []])) : Cx F O w0 w (MS v b [] :: hs) := by
  refine Cx.YW [] ⟨.refl _, uk.nil⟩ ?_;have k1 : Cx F O w0 w (Mb b [] [] :: hs) := k.perm (List.perm_append_comm (l₂ := [_]));exact (k1.shz v.q).perm (.swap _ _ _)
theorem Cx.mshare {v : Vl γ δ} {b : Nat} {m : Mp δ} (k : Cx F O w0 w (MS v b m :: rest)) : Cx F O w0 w (Sh (RM v) [b] [m] :: rest) := by
  have := k.upd (h' := Sh (RM v) [b] [m]) 0 rfl Option.none ⟨rfl, rfl, rfl, Nat.le_refl _, fun _ _ _ => rfl⟩ fun S R h1 h2 h3 => by
    refine ⟨fun g hg => (by cases hg), fun _ => False, fun b => R b ∨ S b, ⟨fun _ h => h, rfl, fun j y x e1 e2 => ?_⟩, fun b hb => hb.elim, fun b hb => ⟨h3 b (hb.elim .inr .inl), hb.elim .inl (fun h => .inr (.inl h))⟩⟩;cases j with
    | succ j => cases e1
    | zero =>
      obtain rfl := Option.some.inj e1;obtain rfl := Option.some.inj e2;obtain ⟨l, hf, hs'⟩ := h1;obtain ⟨S1, R1, U1, V1, e1, e2, e3, e4, _⟩ := Sep.cut (i := 0) rfl hs';obtain ⟨S2, R2, U2, V2, g1, g2, g3, g4, _⟩ := Sep.cut (i := 0) rfl e2;refine ⟨.inr ((e3 _).2 (.inl e1.2.2)), l, hf, YU e1, fun e he => ?_⟩;obtain ⟨j, hj⟩ := List.getElem?_of_mem he;refine v.q.mono _ _ _ _ _ (fun b hb => .inl ((e4 b).2 (.inr ((g4 b).2 (.inl hb))))) (g1.2.2 j _ _ ?_ ?_)
      ·rw [List.getElem?_map, hj];rfl
      ·rw [List.getElem?_map, hj];rfl
  simpa only [List.set_cons_zero] using this
end
section
variable {P : Program} {n : Nat} {ops : Array Oper} {L : St} {w w0 : World} {F O : Nat -> Prop} {hs rest : List HP} {K : St -> World -> Prop} {v : Vl γ δ} {b : Nat} {m : Mp δ}
theorem RJ {t kt e : TypeId} {key : Ky} {ks : List Ky} {vs : List Value} {z : Value} (hF : MbF w b ks vs) (s7 : P.underlying t = some (.map kt e)) (s8 : P.underlying kt = some .string) (hz : (zeroValue e).run P w = .ok z w) (ok : Bool) :
    (Aw ks key = none /\ (Instr.lookup t (.map (some b)) (kV key) ok).run P w = .ok (if ok then .tuple #[z, .bool false] else z) w) ∨
    ∃ j val, Aw ks key = some j /\ vs[j]? = some val /\ (Instr.lookup t (.map (some b)) (kV key) ok).run P w = .ok (if ok then .tuple #[val, .bool true] else val) w := by
  obtain ⟨hl, es, clock, m1, m2, m3, m4⟩ := hF;have hck := run_checkKey (P := P) (w := w) s8 (show IsKey .string (kV key) from trivial) es.isEmpty 9999;rcases RF (d := .string) rfl (k := key) m2 m4.2.2 with ⟨f1, f2⟩ | ⟨j, en, f1, f2, f3, f4⟩
  ·refine .inl ⟨f1, ?_⟩;unfold Instr.lookup;simp only [Sem.run_bind, run_underlying s7, Result.andThen_ok, MapKept.run_getObj_map m1, Sem.run_pure, hck, run_findKey s8 f2, hz]
  ·refine .inr ⟨j, en.val, f1, ?_, ?_⟩
   ·rw [<- m3, List.getElem?_map, f3];rfl
   ·unfold Instr.lookup;simp only [Sem.run_bind, run_underlying s7, Result.andThen_ok, MapKept.run_getObj_map m1, Sem.run_pure, hck, run_findKey s8 f2]
theorem MB {dst : Option Nat} {t kt e ty : TypeId} {x y : Operand} {pos : String} {iW : Array Edge} {g : Option (Nat × Bool)} {ok : Bool} (ss : List Nat) (d : Nat) {key : Ky} {z : Value}
    (hside : (xH ops ss L ⟨dst, .lookup t x y ok, ty, pos, iW, g⟩, dst, (decide (d < n)), (L.any fun p => p.1 == d), (toSS [x, y] (lk L)).map SV.vals, P.underlying t, P.underlying kt) = (true, some d, true, false, some [.map (some b), kV key], some (.map kt e), some .string))
    (hz : (zeroValue e).run P w = .ok z w) (hA : Acc F O w0 w v b m hs)
    (h0 : fP m key = none -> K ((d, if ok then .jH [.v z, .b false] else .v z) :: L) w)
    (h1 : ∀ u a, fP m key = some a -> Cx F O w0 w (Sh v.q [u] [a] :: hs) -> K ((d, if ok then .jH [.v (v.V u), .b true] else .v (v.V u)) :: L) w) :
    wQ P n ops L w ⟨dst, .lookup t x y ok, ty, pos, iW, g⟩ K := by
  simp only [Prod.mk.injEq, Option.map_eq_some_iff, decide_eq_true_eq] at hside;obtain ⟨s1, rfl, s3, s4, ⟨svs, s5, s6⟩, s7, s8⟩ := hside;refine uI (xs := [x, y]) (svs := svs) ss (d := d) (by simp [Side, s1, s3, s4, s5]) fun a ha he => ?_;rw [s6] at he;simp only [List.map_cons, List.map_nil, List.cons.injEq, and_true] at he;obtain ⟨l, hf, hm, hq⟩ := hA;rcases RJ hm s7 s8 hz ok (key := key) with ⟨f1, f2⟩ | ⟨j, val, f1, f2, f3⟩
  ·unfold Oper.wp execOp;simp only [he.1, he.2, Sem.run_bind, f2, Result.andThen_ok, Sem.run_pure];exact ⟨if ok then .jH [.v z, .b false] else .v z, by cases ok <;> rfl, h0 (hf.none f1)⟩
  ·obtain ⟨en, e1, e2, e3⟩ := hf.some f1;unfold Es at f2;rw [List.getElem?_map, e1] at f2;obtain rfl := Option.some.inj f2;unfold Oper.wp execOp;simp only [he.1, he.2, Sem.run_bind, f3, Result.andThen_ok, Sem.run_pure];exact ⟨if ok then .jH [.v (v.V en.2.1), .b true] else .v (v.V en.2.1), by cases ok <;> rfl, h1 _ _ e3 (hq en (List.mem_of_getElem? e1))⟩
theorem YX {dst : Option Nat} {t kt e ty : TypeId} {x y : Operand} {pos : String} {iW : Array Edge} {g : Option (Nat × Bool)} {ok : Bool} {v : Vl α α} {m : Mp α} (hv : v.q = SQ) (ss : List Nat) (d : Nat) {key : Ky} (z : α) (sv : SV)
    (hside : (xH ops ss L ⟨dst, .lookup t x y ok, ty, pos, iW, g⟩, dst, (decide (d < n)), (L.any fun p => p.1 == d), (toSS [x, y] (lk L)).map SV.vals, P.underlying t, P.underlying kt) = (true, some d, true, false, some [.map (some b), kV key], some (.map kt e), some .string))
    (hz : (zeroValue e).run P w = .ok (v.V z) w) (hA : Acc F O w0 w v b m hs) (hsv : SV.val sv = v.V ((fP m key).getD z))
    (h1 : K ((d, if ok then .jH [sv, .b (fP m key).isSome] else sv) :: L) w) :
    wQ P n ops L w ⟨dst, .lookup t x y ok, ty, pos, iW, g⟩ K := by
  simp only [Prod.mk.injEq, Option.map_eq_some_iff, decide_eq_true_eq] at hside;obtain ⟨s1, rfl, s3, s4, ⟨svs, s5, s6⟩, s7, s8⟩ := hside;refine uI (xs := [x, y]) (svs := svs) ss (d := d) (by simp [Side, s1, s3, s4, s5]) fun a ha he => ?_;rw [s6] at he;simp only [List.map_cons, List.map_nil, List.cons.injEq, and_true] at he;obtain ⟨l, hf, hm, hq⟩ := hA;have key2 : ∃ val is, (Instr.lookup t (.map (some b)) (kV key) ok).run P w = .ok (if ok then .tuple #[val, .bool is] else val) w /\ val = SV.val sv /\ is = (fP m key).isSome := by
    rcases RJ hm s7 s8 hz ok (key := key) with ⟨f1, f2⟩ | ⟨j, val, f1, f2, f3⟩
    ·exact ⟨v.V z, false, f2, by rw [hsv, hf.none f1];rfl, by rw [hf.none f1];rfl⟩
    ·obtain ⟨en, e1, e2, e3⟩ := hf.some f1;unfold Es at f2;rw [List.getElem?_map, e1] at f2;obtain rfl := Option.some.inj f2;have hk := hq en (List.mem_of_getElem? e1);obtain ⟨S, R, hh⟩ := hk.get 0 rfl;have hr := hh.2.2 0 _ _ rfl rfl;rw [hv] at hr;have hr' : en.2.1 = en.2.2 := hr;exact ⟨v.V en.2.1, true, f3, by rw [hsv, e3, hr'];rfl, by rw [e3];rfl⟩
  obtain ⟨val, is, r1, r2, r3⟩ := key2;unfold Oper.wp execOp;simp only [he.1, he.2, Sem.run_bind, r1, Result.andThen_ok, Sem.run_pure];refine ⟨if ok then .jH [sv, .b (fP m key).isSome] else sv, ?_, h1⟩;cases ok
  ·simp only [Bool.false_eq_true, if_false, r2]
  ·simp only [if_true, r2, r3];rfl
theorem Iu {dst : Option Nat} {x : Operand} {t kt e ty : TypeId} {pos : String} {iW : Array Edge} {g : Option (Nat × Bool)} (ss : List Nat) (d : Nat)
    (hside : (xH ops ss L ⟨dst, .call ⟨.builtin .len, #[x], #[t]⟩, ty, pos, iW, g⟩, dst, (decide (d < n)), (L.any fun p => p.1 == d), (toSS [x] (lk L)).map SV.vals, P.underlying t) = (true, some d, true, false, some [.map (some b)], some (.map kt e)))
    (hA : Acc F O w0 w v b m hs) (hk : K ((d, I ((m.length : Nat) : Int)) :: L) w) :
    wQ P n ops L w ⟨dst, .call ⟨.builtin .len, #[x], #[t]⟩, ty, pos, iW, g⟩ K := by
  simp only [Prod.mk.injEq, Option.map_eq_some_iff, decide_eq_true_eq] at hside;obtain ⟨s1, rfl, s3, s4, ⟨svs, s5, s6⟩, s7⟩ := hside;refine uI (xs := [x]) (svs := svs) ss (d := d) (by simp [Side, s1, s3, s4, s5]) fun a ha he => ?_;rw [s6] at he;simp only [List.map_cons, List.map_nil, List.cons.injEq, and_true] at he;obtain ⟨l, hf, ⟨hl, es, clock, m1, m2, m3, m4⟩, hq⟩ := hA;have hsz : es.size = m.length := by
    have := congrArg List.length m2;rw [<- hf.len];simpa using this
  have hrun : (Builtin.len_ #[t] ty #[.map (some b)]).run P w = .ok (.int .i64 ((m.length : Nat) : Int)) w := by
    unfold Builtin.len_;simp [Sem.run_bind, run_underlying s7, Result.andThen_ok, MapKept.run_getObj_map m1, goInt, hsz, Result.andThen]
  unfold Oper.wp execOp;simp only [resolve, invoke, builtin, Sem.run_bind, Sem.run_pure, Result.andThen_ok, List.map_toArray, List.map_cons, List.map_nil, he, hrun];exact ⟨_, rfl, hk⟩
theorem KY {t kt e ty : TypeId} {mo y x : Operand} {pos : String} {iW : Array Edge} {g : Option (Nat × Bool)} (ss : List Nat) {key : Ky} {u : γ} {a : δ}
    (hside : (xH ops ss L (⟨none, .mapUpdate t mo y x, ty, pos, iW, g⟩ : Oper), (toSS [mo, y, x] (lk L)).map SV.vals, P.underlying t, P.underlying kt) = (true, some [.map (some b), kV key, v.V u], some (.map kt e), some .string))
    (k : Cx F O w0 w (MS v b m :: Sh v.q [u] [a] :: rest)) (hk : ∀ w', Cx F O w0 w' (MS v b (fH m key a) :: rest) -> K L w') :
    wQ P n ops L w ⟨none, .mapUpdate t mo y x, ty, pos, iW, g⟩ K := by
  obtain ⟨l, hf, k1⟩ := k.UZ;refine Op_upd ss 0 (v.V u) hside k1 rfl fun w' k' => hk w' ?_;have k2 : Cx F O w0 w' (Sh v.q (l.map (·.2.1)) (l.map (·.2.2)) :: Sh v.q [u] [a] :: Mb b (ES (xu l) key) (ET (xu l) (Es v l) key (v.V u)) :: rest) := by
    have k3 : Cx F O w0 w' (Mb b (ES (xu l) key) (ET (xu l) (Es v l) key (v.V u)) :: Sh v.q (l.map (·.2.1)) (l.map (·.2.2)) :: Sh v.q [u] [a] :: rest) := k';exact k3.perm ((List.Perm.swap _ _ _).trans (.cons _ (.swap _ _ _)))
  have k3 := k2.sha;cases hfd : Aw (xu l) key with
  | none =>
    have hnk : key ∉ m.map (·.1) := by rw [<- xq];exact hf.none hfd
    refine Cx.YW (l ++ [(key, u, a)]) ⟨?_, hf.2.fH key a⟩ ?_
    ·rw [List.map_append];exact (List.perm_append_comm.trans (List.Perm.cons _ hf.1)).trans (Xo a hnk).symm
    ·have e1 : ES (xu l) key = xu (l ++ [(key, u, a)]) := by unfold ES;rw [hfd];simp [xu]
     have e2 : ET (xu l) (Es v l) key (v.V u) = Es v (l ++ [(key, u, a)]) := by unfold ET;rw [hfd];simp [Es]
     rw [e1, e2] at k3;have e3 : (l ++ [(key, u, a)]).map (·.2.1) = l.map (·.2.1) ++ [u] := by simp
     have e4 : (l ++ [(key, u, a)]).map (·.2.2) = l.map (·.2.2) ++ [a] := by simp
     show Cx F O w0 w' (Mb b _ _ :: Sh v.q _ _ :: rest);rw [e3, e4];exact k3.perm (.swap _ _ _)
  | some j =>
    obtain ⟨en, f1, f2, f3⟩ := hf.some hfd;have hj : j < l.length := (List.getElem?_eq_some_iff.1 f1).1;have hen : l[j] = en := (List.getElem?_eq_some_iff.1 f1).2;refine Cx.YW (l.set j (key, u, a)) ⟨?_, hf.2.fH key a⟩ ?_
    ·obtain ⟨x1, x2, g1, g2⟩ := YT hf.2 a (Xn f3);rw [g2];have p1 : ((l.set j (key, u, a)).map kx).Perm ((key, a) :: (l.eraseIdx j).map kx) := by
       have := YD (l := l) (i := j) (key, u, a) hj;exact (this.symm.map kx)
     have p2 : (l.map kx).Perm ((key, en.2.2) :: (l.eraseIdx j).map kx) := by
       have := L6 f1;refine (this.map kx).trans ?_;rw [List.map_cons, show kx en = (key, en.2.2) from by unfold kx;rw [f2]]
     have p3 : ((key, en.2.2) :: (l.eraseIdx j).map kx).Perm ((key, en.2.2) :: (x1 ++ x2)) := by
       refine p2.symm.trans (hf.1.trans ?_);rw [g1];exact List.perm_middle
     exact p1.trans ((List.Perm.cons _ (List.Perm.cons_inv p3)).trans List.perm_middle.symm)
    ·have e1 : ES (xu l) key = xu (l.set j (key, u, a)) := by
       unfold ES;rw [hfd];unfold xu;rw [List.map_set];apply List.ext_getElem?;intro q;rw [List.getElem?_set];by_cases hq : j = q
       ·subst hq;rw [if_pos rfl, List.getElem?_map, f1];simp [f2, hj]
       ·rw [if_neg hq]
     have e2 : ET (xu l) (Es v l) key (v.V u) = Es v (l.set j (key, u, a)) := by unfold ET;rw [hfd];simp [Es]
     rw [e1, e2] at k3;show Cx F O w0 w' (Mb b _ _ :: Sh v.q _ _ :: rest);have k4 : Cx F O w0 w' (Sh v.q ((l.set j (key, u, a)).map (·.2.1)) ((l.set j (key, u, a)).map (·.2.2)) :: Mb b (xu (l.set j (key, u, a))) (Es v (l.set j (key, u, a))) :: rest) := by
       have := k3.weak (h' := Sh v.q ((l.set j (key, u, a)).map (·.2.1)) ((l.set j (key, u, a)).map (·.2.2))) 0 rfl fun w S R ⟨h0, h1, h2⟩ => by
         refine ⟨h0, by simp, fun i y x g1 g2 => ?_⟩;rw [List.map_set, List.getElem?_set] at g1 g2;split at g1
         ·rename_i hji;rw [if_pos hji] at g2;split at g1
          ·rename_i hlt;rw [if_pos (by simpa using hlt)] at g2;obtain rfl := Option.some.inj g1;obtain rfl := Option.some.inj g2;exact h2 l.length _ _ (by rw [List.getElem?_append_right (by simp)];simp) (by rw [List.getElem?_append_right (by simp)];simp)
          ·cases g1
         ·rename_i hji;rw [if_neg hji] at g2;refine h2 i y x ?_ ?_
          ·rw [List.getElem?_append_left (List.getElem?_eq_some_iff.1 g1).1];exact g1
          ·rw [List.getElem?_append_left (List.getElem?_eq_some_iff.1 g2).1];exact g2
       simpa only [List.set_cons_zero] using this
     exact k4.perm (.swap _ _ _)
theorem V3 {t kt e ty : TypeId} {mo y x : Operand} {pos : String} {iW : Array Edge} {g : Option (Nat × Bool)} {v : Vl α α} {m : Mp α} (hv : v.q = SQ) (ss : List Nat) {key : Ky} (a : α)
    (hside : (xH ops ss L (⟨none, .mapUpdate t mo y x, ty, pos, iW, g⟩ : Oper), (toSS [mo, y, x] (lk L)).map SV.vals, P.underlying t, P.underlying kt) = (true, some [.map (some b), kV key, v.V a], some (.map kt e), some .string))
    (k : Cx F O w0 w (MS v b m :: rest)) (hk : ∀ w', Cx F O w0 w' (MS v b (fH m key a) :: rest) -> K L w') :
    wQ P n ops L w ⟨none, .mapUpdate t mo y x, ty, pos, iW, g⟩ K := by
  have k1 : Cx F O w0 w (Sh v.q [a] [a] :: MS v b m :: rest) := by rw [hv];exact k.shq a
  exact KY ss hside (k1.perm (.swap _ _ _)) hk
end
end Go.Sx
namespace Go.Sx
open Go.RowKit Go.MapKept
set_option linter.unusedSimpArgs false
set_option linter.unusedVariables false
variable {α β γ δ ε ζ σ ι : Type}
def MiG (sh : Bool) (b r : Nat) (ks : List Ky) (vs : List Value) (left : List Ky) (cur : Option Ky) : HP where
  p w S R := ks.length = vs.length /\ (∃ (es : Array MapEntry) (clock since c0 : Nat) (seen : Array Nat), w.heap[b]? = some (.map es clock) /\ es.toList.map (·.key) = ks.map kV /\ es.toList.map (·.val) = vs /\ Stamped es clock /\
    w.heap[r]? = some (.mapIter (some b) since seen c0) /\ (∀ x ∈ es.toList, x.born < since) /\ since <= c0 /\ since <= clock /\ ((leftOf es seen).toList.map (·.key)).Perm (left.map kV) /\
    (∀ k, cur = some k -> ∃ e ∈ es.toList, e.key = kV k /\ c0 = clock /\ ∃ YY : Array Nat, seen = YY.push e.born)) /\ (if sh = true then R b else S b) /\ S r
  loc := by
    rintro w w' S R ⟨h0, ⟨es, clock, since, c0, seen, h1, h2, h3, h4, h5, h6⟩, h7, h8⟩ hk;have hb : S b ∨ R b := by cases sh;exact .inl h7;exact .inr h7
    exact ⟨h0, ⟨es, clock, since, c0, seen, by rw [hk b hb];exact h1, h2, h3, h4, by rw [hk r (.inl h8)];exact h5, h6⟩, h7, h8⟩
def MbS (b : Nat) (ks : List Ky) (vs : List Value) : HP where
  p w S R := (∀ x, ¬ S x) /\ R b /\ MbF w b ks vs
  loc := by
    rintro w w' S R ⟨h0, h1, h2, es, clock, h3, h4⟩ hk;exact ⟨h0, h1, h2, es, clock, by rw [hk b (.inr h1)];exact h3, h4⟩
section
variable {P : Program} {n : Nat} {ops : Array Oper} {L : St} {w w0 : World} {F O : Nat -> Prop} {hs rest : List HP} {K : St -> World -> Prop}
theorem OV {dst : Option Nat} {t kt e ty : TypeId} {x : Operand} {pos : String} {iW : Array Edge} {g : Option (Nat × Bool)} (ss : List Nat) (d i : Nat) {b : Nat} {ks : List Ky} {vs : List Value} {h : HP} (sh : Bool)
    (hside : (xH ops ss L ⟨dst, .range t x, ty, pos, iW, g⟩, dst, (decide (d < n)), (L.any fun p => p.1 == d), (toSS [x] (lk L)).map SV.vals, P.underlying t) = (true, some d, true, false, some [.map (some b)], some (.map kt e)))
    (k : Cx F O w0 w hs) (hi : hs[i]? = some h) (ha : ∀ S R, h.p w S R -> MbF w b ks vs /\ (if sh = true then R b else S b)) (hk : ∀ r w', Cx F O w0 w' (hs.set i (MiG sh b r ks vs ks none)) -> K ((d, .v (.pointer (some ⟨r, 0, none⟩))) :: L) w') :
    wQ P n ops L w ⟨dst, .range t x, ty, pos, iW, g⟩ K := by
  simp only [Prod.mk.injEq, Option.map_eq_some_iff, decide_eq_true_eq] at hside;obtain ⟨s1, rfl, s3, s4, ⟨svs, s5, s6⟩, s7⟩ := hside;refine uI (xs := [x]) (svs := svs) ss (d := d) (by simp [Side, s1, s3, s4, s5]) fun a ha' he => ?_;rw [s6] at he;simp only [List.map_cons, List.map_nil, List.cons.injEq, and_true] at he;obtain ⟨S, R, hp⟩ := k.get i hi;obtain ⟨⟨hl, es, clock, m1, m2, m3, m4⟩, hS⟩ := ha S R hp;have hrun := run_range_map (P := P) w t kt e b es clock s7 m1;unfold Oper.wp execOp;simp only [he, Sem.run_bind, hrun, Result.andThen_ok, Sem.run_pure];refine ⟨.v (.pointer (some ⟨w.heap.size, 0, none⟩)), rfl, hk w.heap.size _ (k.upd i hi none (World.grownBy_alloc w _ none) fun S R hS hd hlt => ?_)⟩;obtain ⟨_, hSb⟩ := ha S R hS;have hblt : b < w.heap.size := by cases sh;exact hlt b (.inl hSb);exact hlt b (.inr hSb)
  refine ⟨fun g hg => (by cases hg), fun q => S q ∨ q = w.heap.size, R, ⟨hl, ⟨es, clock, clock, clock, #[], ?_, m2, m3, m4, (heap_alloc w _).1, m4.1, Nat.le_refl _, Nat.le_refl _, ?_, fun k hk => by cases hk⟩, ?_, .inr rfl⟩, fun q hq => ?_, fun q hq => ⟨?_, .inl hq⟩⟩
  ·rw [heap_alloc_old w _ hblt];exact m1
  ·unfold leftOf;have : es.filter (fun e => !(#[] : Array Nat).contains e.born) = es := Array.filter_eq_self.2 (fun x hx => by simp);rw [this, m2]
  ·cases sh
   ·exact .inl hSb
   ·exact hSb
  ·rcases hq with hq | rfl
   ·exact ⟨by rw [World.size_alloc];have := hlt q (.inl hq);omega, hd q hq, .inl hq⟩
   ·exact ⟨by rw [World.size_alloc];omega, fun hr => by have := hlt _ (.inr hr);omega, .inr (Nat.le_refl _)⟩
  ·rw [World.size_alloc];have := hlt q (.inr hq);omega
theorem YZ {dst : Option Nat} {ty : TypeId} {x : Operand} {pos : String} {iW : Array Edge} {g : Option (Nat × Bool)} (ss : List Nat) (d i : Nat) {sh : Bool} {b r : Nat} {ks left : List Ky} {vs : List Value} {cur : Option Ky}
    (hside : (xH ops ss L ⟨dst, .next x false, ty, pos, iW, g⟩, dst, (decide (d < n)), (L.any fun p => p.1 == d), (toSS [x] (lk L)).map SV.vals) = (true, some d, true, false, some [.pointer (some ⟨r, 0, none⟩)]))
    (k : Cx F O w0 w hs) (hi : hs[i]? = some (MiG sh b r ks vs left cur))
    (h0 : left = [] -> K ((d, .jH [.b false]) :: L) w)
    (h1 : ∀ key left' v w', left.Perm (key :: left') -> Cx F O w0 w' (hs.set i (MiG sh b r ks vs left' (some key))) -> K ((d, .jH [.b true, .s key, .v v]) :: L) w') :
    wQ P n ops L w ⟨dst, .next x false, ty, pos, iW, g⟩ K := by
  simp only [Prod.mk.injEq, Option.map_eq_some_iff, decide_eq_true_eq] at hside;obtain ⟨s1, rfl, s3, s4, ⟨svs, s5, s6⟩⟩ := hside;refine uI (xs := [x]) (svs := svs) ss (d := d) (by simp [Side, s1, s3, s4, s5]) fun a ha he => ?_;rw [s6] at he;simp only [List.map_cons, List.map_nil, List.cons.injEq, and_true] at he;obtain ⟨S, R, hl, ⟨es, clock, since, c0, seen, m1, m2, m3, m4, m5, m6, m7, m7', m8, m9⟩, hS, hS2⟩ := k.get i hi;rcases run_next_at (P := P) w ty r b since c0 seen es clock m5 m1 m6 m7 with ⟨f1, hrun⟩ | ⟨e, f1, w1, f2, hrun⟩
  ·unfold Oper.wp execOp;simp only [he, Sem.run_bind, hrun, Result.andThen_ok, Sem.run_pure];refine ⟨.jH [.b false], rfl, h0 ?_⟩;have h2 := m8.length_eq;simp only [List.length_map, Array.length_toList, f1] at h2;exact List.eq_nil_of_length_eq_zero h2.symm
  ·obtain ⟨g1, g2⟩ := mem_left f1;obtain ⟨key, hk1, hk2⟩ := key_of m2 g1;have hp := Xk m4.2.1 f1;have hkl : kV key ∈ left.map kV := m8.mem_iff.1 (by rw [<- hk2];exact List.mem_map.2 ⟨e, f1, rfl⟩);obtain ⟨key', hk3, hk4⟩ := List.mem_map.1 hkl;obtain rfl := G5 hk4;have hpl := List.perm_cons_erase hk3;unfold Oper.wp execOp;simp only [he, Sem.run_bind, hrun, Result.andThen_ok, Sem.run_pure];rw [hk2];refine ⟨.jH [.b true, .s key', .v e.val], rfl, h1 key' (left.erase key') e.val _ hpl ?_⟩;have hr1 : w1.heap[r]? = some (.mapIter (some b) since seen c0) := by rcases f2 with rfl | rfl <;> exact m5
   have hb1 : w1.heap[b]? = some (.map es clock) := by rcases f2 with rfl | rfl <;> exact m1
   have hrb : r ≠ b := fun h => by rw [h, m1] at m5;cases m5
   have hgr : w.grownBy (ChangeMaps.setBlock w1 r (.mapIter (some b) since (seen.push e.born) clock)) (some r) := by
     rcases f2 with rfl | rfl
     ·exact ⟨rfl, rfl, rfl, by simp [ChangeMaps.setBlock], fun q hq hne => by
        simp only [ChangeMaps.setBlock];exact (heap_set hr1).2 q fun e => hne (by rw [e])⟩
     ·exact ⟨rfl, rfl, rfl, (by show w.heap.size <= (w.heap.setIfInBounds r _).size;simp), fun q hq hne => (heap_set m5).2 q fun e => hne (by rw [e])⟩
   refine k.upd i hi (some r) hgr fun S R hS hd hlt => ?_;obtain ⟨hl, ⟨es1, clock1, since1, c01, seen1, q1, q2, q3, q4, q5, q6, q7, q7', q8, q9⟩, hS, hS2⟩ := hS;rw [m1] at q1;simp only [Option.some.injEq, Obj.map.injEq] at q1;obtain ⟨rfl, rfl⟩ := q1;rw [m5] at q5;simp only [Option.some.injEq, Obj.mapIter.injEq] at q5;obtain ⟨_, rfl, rfl, rfl⟩ := q5;have hsz : (ChangeMaps.setBlock w1 r (.mapIter (some b) since (seen.push e.born) clock)).heap.size = w.heap.size := by
     rcases f2 with h | h
     ·rw [h];simp only [ChangeMaps.setBlock, Array.size_setIfInBounds]
     ·rw [h];simp only [ChangeMaps.setBlock, Array.size_setIfInBounds];rfl
   refine ⟨fun g' hg => (by simp only [Option.some.injEq] at hg;subst hg;exact hS2), S, R, ⟨hl, ⟨es, clock, since, clock, seen.push e.born, ?_, q2, q3, q4, ?_, q6, q7', q7', ?_, fun k hk => ?_⟩, hS, hS2⟩, fun q hq => ⟨by rw [hsz];exact hlt q (.inl hq), hd q hq, .inl hq⟩, fun q hq => ⟨by rw [hsz];exact hlt q (.inr hq), .inl hq⟩⟩
   ·simp only [ChangeMaps.setBlock];rw [(heap_set hr1).2 b hrb.symm];exact hb1
   ·simp only [ChangeMaps.setBlock];exact (heap_set hr1).1
   ·have p1 := hp.map (·.key);simp only [List.map_cons, hk2] at p1;have p2 := hpl.map kV;simp only [List.map_cons] at p2;exact List.Perm.cons_inv ((p1.symm.trans q8).trans p2)
   ·obtain rfl := Option.some.inj hk;exact ⟨e, g1, hk2, rfl, seen, rfl⟩
theorem Xq {dst : Option Nat} {ty : TypeId} {x : Operand} {pos : String} {iW : Array Edge} {g : Option (Nat × Bool)} (ss : List Nat) (d i : Nat) {sh : Bool} {b r : Nat} {ks left : List Ky} {vs : List Value} {key : Ky}
    (hside : (xH ops ss L ⟨dst, .entry x, ty, pos, iW, g⟩, dst, (decide (d < n)), (L.any fun p => p.1 == d), (toSS [x] (lk L)).map SV.vals) = (true, some d, true, false, some [.pointer (some ⟨r, 0, none⟩)]))
    (k : Cx F O w0 w hs) (hi : hs[i]? = some (MiG sh b r ks vs left (some key)))
    (h1 : ∀ (j : Nat) v, ks[j]? = some key -> vs[j]? = some v -> K ((d, .jH [.s key, .v v]) :: L) w) :
    wQ P n ops L w ⟨dst, .entry x, ty, pos, iW, g⟩ K := by
  simp only [Prod.mk.injEq, Option.map_eq_some_iff, decide_eq_true_eq] at hside;obtain ⟨s1, rfl, s3, s4, ⟨svs, s5, s6⟩⟩ := hside;refine uI (xs := [x]) (svs := svs) ss (d := d) (by simp [Side, s1, s3, s4, s5]) fun a ha he => ?_;rw [s6] at he;simp only [List.map_cons, List.map_nil, List.cons.injEq, and_true] at he;obtain ⟨S, R, hl, ⟨es, clock, since, c0, seen, m1, m2, m3, m4, m5, m6, m7, m7', m8, m9⟩, hS, hS2⟩ := k.get i hi;obtain ⟨e, e1, e2, rfl, YY, rfl⟩ := m9 key rfl;have hrun := run_entry_at (P := P) w r b since YY es c0 e m5 m1 e1 m4.2.1;unfold Oper.wp execOp;simp only [he, Sem.run_bind, hrun, Result.andThen_ok, Sem.run_pure];rw [e2];obtain ⟨j, hj⟩ := List.getElem?_of_mem e1;refine ⟨.jH [.s key, .v e.val], rfl, h1 j e.val ?_ ?_⟩
  ·have h1 := congrArg (fun x => x[j]?) m2;simp only [List.getElem?_map, hj, Option.map_some, e2] at h1;cases hq : ks[j]? with
   | none => rw [hq] at h1;cases h1
   | some k' => rw [hq] at h1;simp only [Option.map_some, Option.some.injEq] at h1;rw [G5 h1]
  ·rw [<- m3, List.getElem?_map, hj];rfl
end
structure Lft (m : Mp δ) (left : Mp δ) (cur : Option (Ky × δ)) (l : List (Ky × γ × δ)) (X7 : List Ky) : Prop where
  fits : Fits m l
  perm : X7.Perm (left.map (·.1))
  nd : (left.map (·.1)).Nodup
  sub : ∀ p ∈ left, p ∈ m
  cur : ∀ p, cur = some p -> p ∈ m /\ p.1 ∉ left.map (·.1)
def MV (v : Vl γ δ) (sh : Bool) (b r : Nat) (m left : Mp δ) (cur : Option (Ky × δ)) : HP :=
  Px (fun l : List (Ky × γ × δ) × List Ky => Lft m left cur l.1 l.2) fun l => [MiG sh b r (xu l.1) (Es v l.1) l.2 (cur.map (·.1)), Sh v.q (l.1.map (·.2.1)) (l.1.map (·.2.2))]
section
variable {P : Program} {n : Nat} {ops : Array Oper} {L : St} {w w0 : World} {F O : Nat -> Prop} {hs rest : List HP} {K : St -> World -> Prop} {v : Vl γ δ} {b r : Nat} {m left : Mp δ} {cur : Option (Ky × δ)} {sh : Bool}
theorem Lft.start {l : List (Ky × γ × δ)} (h : Fits m l) : Lft m m none l (xu l) :=
  ⟨h, by
    have e : xu l = (l.map kx).map (·.1) := by simp [xu, kx, List.map_map, Function.comp_def]
    rw [e];exact h.1.map _, h.2.nodup, fun _ h => h, fun _ h => by cases h⟩
theorem Cx.doMV (l : List (Ky × γ × δ)) (X7 : List Ky) (h : Lft m left cur l X7) (k : Cx F O w0 w (MiG sh b r (xu l) (Es v l) X7 (cur.map (·.1)) :: Sh v.q (l.map (·.2.1)) (l.map (·.2.2)) :: rest)) : Cx F O w0 w (MV v sh b r m left cur :: rest) :=
  Cx.dopx (φ := fun l : List (Ky × γ × δ) × List Ky => Lft m left cur l.1 l.2) (l := fun l => [MiG sh b r (xu l.1) (Es v l.1) l.2 (cur.map (·.1)), Sh v.q (l.1.map (·.2.1)) (l.1.map (·.2.2))]) (l, X7) h k
theorem Bd {dst : Option Nat} {t kt e ty : TypeId} {x : Operand} {pos : String} {iW : Array Edge} {g : Option (Nat × Bool)} (ss : List Nat) (d : Nat)
    (hside : (xH ops ss L ⟨dst, .range t x, ty, pos, iW, g⟩, dst, (decide (d < n)), (L.any fun p => p.1 == d), (toSS [x] (lk L)).map SV.vals, P.underlying t) = (true, some d, true, false, some [.map (some b)], some (.map kt e)))
    (k : Cx F O w0 w (MS v b m :: rest)) (hk : ∀ r w', Cx F O w0 w' (MV v false b r m m none :: rest) -> K ((d, .v (.pointer (some ⟨r, 0, none⟩))) :: L) w') :
    wQ P n ops L w ⟨dst, .range t x, ty, pos, iW, g⟩ K := by
  obtain ⟨l, hf, k1⟩ := k.UZ;refine OV ss d 0 (ks := xu l) (vs := Es v l) false hside k1 rfl (fun S R h => ⟨YU h, h.2.2⟩) fun r w' k' => hk r w' ?_;exact Cx.doMV l (xu l) (Lft.start hf) k'
theorem JC {dst : Option Nat} {t kt e ty : TypeId} {x : Operand} {pos : String} {iW : Array Edge} {g : Option (Nat × Bool)} (ss : List Nat) (d i : Nat)
    (hside : (xH ops ss L ⟨dst, .range t x, ty, pos, iW, g⟩, dst, (decide (d < n)), (L.any fun p => p.1 == d), (toSS [x] (lk L)).map SV.vals, P.underlying t) = (true, some d, true, false, some [.map (some b)], some (.map kt e)))
    (k : Cx F O w0 w hs) (hi : hs[i]? = some (Sh (RM v) [b] [m])) (hk : ∀ r w', Cx F O w0 w' (MV v true b r m m none :: hs) -> K ((d, .v (.pointer (some ⟨r, 0, none⟩))) :: L) w') :
    wQ P n ops L w ⟨dst, .range t x, ty, pos, iW, g⟩ K := by
  obtain ⟨S, R, hh⟩ := k.get i hi;obtain ⟨_, l, hf, hm, _⟩ := hh.2.2 0 _ _ rfl rfl;have k1 : Cx F O w0 w (Sh v.q (l.map (·.2.1)) (l.map (·.2.2)) :: hs) := by
    have key : ∀ l' : List (Ky × γ × δ), (∀ e ∈ l', e ∈ l) -> Cx F O w0 w (Sh v.q (l'.map (·.2.1)) (l'.map (·.2.2)) :: hs) := by
      intro l'
      induction l' with
      | nil => intro _;exact k.shz v.q
      | cons e l' ih =>
        intro hsub;have k2 := ih fun e he => hsub e (List.mem_cons_of_mem _ he);have hA := Cx.YV (v := v) (b := b) (m := m) k2 (i + 1) (by simpa using hi);obtain ⟨l2, hf2, hm2, hq2⟩ := hA;have he := hsub e List.mem_cons_self;have he2 : ∃ e2 ∈ l2, e2.2.1 = e.2.1 /\ e2.2.2 = e.2.2 := by
          obtain ⟨_, es, clock, m1, m2, m3, _⟩ := hm;obtain ⟨_, es', clock', n1, n2, n3, _⟩ := hm2;rw [m1] at n1;obtain ⟨rfl, rfl⟩ : es = es' /\ clock = clock' := by simpa using n1
          obtain ⟨j, hj⟩ := List.getElem?_of_mem he;have hk : (xu l)[j]? = (xu l2)[j]? := by
            have : (xu l).map kV = (xu l2).map kV := m2.symm.trans n2;have h1 := congrArg (fun x => x[j]?) this;simp only [List.getElem?_map] at h1;cases ha : (xu l)[j]? <;> cases hb : (xu l2)[j]? <;> rw [ha, hb] at h1 <;> simp at h1 <;> first | rfl | rw [G5 h1]
          have hv : (Es v l)[j]? = (Es v l2)[j]? := by rw [<- m3, <- n3]
          unfold xu at hk;unfold Es at hv;rw [List.getElem?_map, List.getElem?_map, hj] at hk hv;cases hj' : l2[j]? with
          | none => rw [hj'] at hk;cases hk
          | some e' =>
            rw [hj'] at hk hv;simp only [Option.map_some, Option.some.injEq] at hk hv;refine ⟨e', List.mem_of_getElem? hj', (v.inj _ _ hv).symm, ?_⟩;have q1 := l9 hf.2.nodup (hf.1.mem_iff.1 (List.mem_map.2 ⟨e, he, rfl⟩));have q2 := l9 hf2.2.nodup (hf2.1.mem_iff.1 (List.mem_map.2 ⟨e', List.mem_of_getElem? hj', rfl⟩));rw [hk] at q1;exact Option.some.inj (q2.symm.trans q1)
        obtain ⟨e2, h1, h2, h3⟩ := he2;have k3 := hq2 e2 h1;rw [h2, h3] at k3;exact k3.sha
    exact key l fun e he => he
  have k2 : Cx F O w0 w (MbS b (xu l) (Es v l) :: Sh v.q (l.map (·.2.1)) (l.map (·.2.2)) :: hs) := k1.dupw (i + 1) (by simpa using hi) fun S R h => by
    obtain ⟨hR, _⟩ := h.2.2 0 _ _ rfl rfl;exact ⟨fun _ h => h, hR, hm⟩
  refine OV ss d 0 (ks := xu l) (vs := Es v l) true hside k2 rfl (fun S R h => ⟨h.2.2, h.2.1⟩) fun r w' k' => hk r w' ?_;exact Cx.doMV l (xu l) (Lft.start hf) k'
theorem xX {dst : Option Nat} {ty : TypeId} {x : Operand} {pos : String} {iW : Array Edge} {g : Option (Nat × Bool)} (ss : List Nat) (d : Nat)
    (hside : (xH ops ss L ⟨dst, .next x false, ty, pos, iW, g⟩, dst, (decide (d < n)), (L.any fun p => p.1 == d), (toSS [x] (lk L)).map SV.vals) = (true, some d, true, false, some [.pointer (some ⟨r, 0, none⟩)]))
    (k : Cx F O w0 w (MV v sh b r m left cur :: rest))
    (h0 : left = [] -> Cx F O w0 w (MV v sh b r m left cur :: rest) -> K ((d, .jH [.b false]) :: L) w)
    (h1 : ∀ key a left' val w', left.Perm ((key, a) :: left') -> (left.map (·.1)).Nodup -> Cx F O w0 w' (MV v sh b r m left' (some (key, a)) :: rest) -> K ((d, .jH [.b true, .s key, .v val]) :: L) w') :
    wQ P n ops L w ⟨dst, .next x false, ty, pos, iW, g⟩ K := by
  obtain ⟨⟨l, X7⟩, hf, k1⟩ := k.UZ;refine YZ ss d 0 hside k1 rfl (fun hl => h0 ?_ k) fun key lks' val w' hp k' => ?_
  ·have h2 := hf.perm.length_eq;rw [show X7 = [] from hl, List.length_nil, List.length_map] at h2;exact List.eq_nil_of_length_eq_zero h2.symm
  ·have hkl : key ∈ left.map (·.1) := hf.perm.mem_iff.1 (hp.mem_iff.2 List.mem_cons_self);obtain ⟨p, hp1, hp2⟩ := List.mem_map.1 hkl;obtain ⟨j, hj⟩ := List.getElem?_of_mem hp1;have hpl := L6 hj;obtain ⟨pk, pa⟩ := p;simp only at hp2;subst hp2;have hnd := (hpl.map (·.1)).nodup_iff.1 hf.nd;rw [List.map_cons, List.nodup_cons] at hnd;refine h1 pk pa (left.eraseIdx j) val w' hpl hf.nd ?_;refine Cx.doMV l lks' ⟨hf.fits, ?_, hnd.2, fun q hq => hf.sub q (List.mem_of_mem_eraseIdx hq), fun q hq => ?_⟩ k'
   ·exact List.Perm.cons_inv ((hp.symm.trans hf.perm).trans (hpl.map (·.1)))
   ·obtain rfl := Option.some.inj hq;exact ⟨hf.sub _ hp1, hnd.1⟩
theorem JD {dst : Option Nat} {ty : TypeId} {x : Operand} {pos : String} {iW : Array Edge} {g : Option (Nat × Bool)} (ss : List Nat) (d : Nat) {key : Ky} {a : δ}
    (hside : (xH ops ss L ⟨dst, .entry x, ty, pos, iW, g⟩, dst, (decide (d < n)), (L.any fun p => p.1 == d), (toSS [x] (lk L)).map SV.vals) = (true, some d, true, false, some [.pointer (some ⟨r, 0, none⟩)]))
    (k : Cx F O w0 w (MV v sh b r m left (some (key, a)) :: rest))
    (h1 : ∀ u, Cx F O w0 w (Sh v.q [u] [a] :: MV v sh b r m left (some (key, a)) :: rest) -> K ((d, .jH [.s key, .v (v.V u)]) :: L) w) :
    wQ P n ops L w ⟨dst, .entry x, ty, pos, iW, g⟩ K := by
  obtain ⟨⟨l, X7⟩, hf, k1⟩ := k.UZ;refine Xq ss d 0 hside k1 rfl fun j val hj hv => ?_;unfold xu at hj;unfold Es at hv;rw [List.getElem?_map, Option.map_eq_some_iff] at hj hv;obtain ⟨e, he, hek⟩ := hj;obtain ⟨e', he', rfl⟩ := hv;simp only at he he' hek;rw [he] at he';obtain rfl := Option.some.inj he';have ha : e.2.2 = a := by
    have q1 := l9 hf.fits.2.nodup (hf.fits.1.mem_iff.1 (List.mem_map.2 ⟨e, List.mem_of_getElem? he, rfl⟩));have q2 := l9 hf.fits.2.nodup (hf.cur _ rfl).1;rw [hek] at q1;exact Option.some.inj (q1.symm.trans q2)
  refine h1 e.2.1 ?_;have k2 : Cx F O w0 w (Sh v.q [e.2.1] [a] :: (MiG sh b r (xu l) (Es v l) X7 ((some (key, a)).map (·.1)) :: Sh v.q (l.map (·.2.1)) (l.map (·.2.2)) :: rest)) := Cx.dup k1 1 rfl fun w S R h => by
    refine ⟨fun _ h => h, rfl, fun j2 y x g1 g2 => ?_⟩;cases j2 with
    | succ j2 => cases g1
    | zero =>
      obtain rfl := Option.some.inj g1;obtain rfl := Option.some.inj g2;exact h.2.2 j _ _ (by rw [List.getElem?_map, he];rfl) (by rw [List.getElem?_map, he, <- ha];rfl)
  have k3 : Cx F O w0 w (MiG sh b r (xu l) (Es v l) X7 ((some (key, a)).map (·.1)) :: Sh v.q (l.map (·.2.1)) (l.map (·.2.2)) :: Sh v.q [e.2.1] [a] :: rest) := k2.perm ((List.Perm.swap _ _ _).trans (.cons _ (.swap _ _ _)));exact (Cx.doMV l X7 hf k3).perm (.swap _ _ _)
theorem FT {dst : Option Nat} {ty : TypeId} {x : Operand} {pos : String} {iW : Array Edge} {g : Option (Nat × Bool)} {v : Vl α α} {m left : Mp α} (hv : v.q = SQ) (ss : List Nat) (d : Nat) {key : Ky} {a : α} (sv : SV)
    (hside : (xH ops ss L ⟨dst, .entry x, ty, pos, iW, g⟩, dst, (decide (d < n)), (L.any fun p => p.1 == d), (toSS [x] (lk L)).map SV.vals) = (true, some d, true, false, some [.pointer (some ⟨r, 0, none⟩)]))
    (k : Cx F O w0 w (MV v sh b r m left (some (key, a)) :: rest)) (hsv : SV.val sv = v.V a)
    (h1 : K ((d, .jH [.s key, sv]) :: L) w) :
    wQ P n ops L w ⟨dst, .entry x, ty, pos, iW, g⟩ K := by
  have main : wQ P n ops L w ⟨dst, .entry x, ty, pos, iW, g⟩ fun L' w' => L' = (d, .jH [.s key, .v (v.V a)]) :: L /\ w' = w := by
    refine JD ss d hside k fun u k' => ?_;obtain ⟨S, R, hh⟩ := k'.get 0 rfl;have hr := hh.2.2 0 _ _ rfl rfl;rw [hv] at hr;have hr' : u = a := hr;rw [hr'];exact ⟨rfl, rfl⟩
  intro ac hac;obtain ⟨q1, q2⟩ := main ac hac;refine ⟨q1, Oper.wp_mono ?_ q2⟩;rintro a' w' ⟨L', hf, rfl, rfl⟩;refine ⟨_, ?_, h1⟩;have e : (Kn ((d, .jH [.s key, .v (v.V a)]) :: L)).map (fun e => (e.k, e.g, e.x.val)) = (Kn ((d, .jH [.s key, sv]) :: L)).map (fun e => (e.k, e.g, e.x.val)) := by
    simp [Kn, SV.val, SV.vals, hsv]
  refine ⟨⟨hf.defers, hf.size, fun en he hg => ?_⟩, fun en he g w hg => ?_⟩
  ·simp only [Kn, List.map_cons, List.mem_cons] at he;rcases he with rfl | he
   ·have := hf.at_ { k := d, g := none, x := .jH [.s key, .v (v.V a)] } (by simp [Kn]) hg;simpa [SV.val, SV.vals, hsv] using this
   ·exact hf.at_ en (by simp only [Kn, List.map_cons, List.mem_cons];exact .inr he) hg
  ·simp only [Kn, List.map_cons, List.mem_cons, List.mem_map] at he;rcases he with rfl | ⟨p, _, rfl⟩ <;> cases hg
theorem Cx.OW (k : Cx F O w0 w (MV v false b r m left cur :: rest)) : Cx F O w0 w (MS v b m :: rest) := by
  obtain ⟨⟨l, X7⟩, hf, k1⟩ := k.UZ;refine Cx.YW l hf.fits ?_;have := k1.weak (h' := Mb b (xu l) (Es v l)) 0 rfl fun w S R h => by
    obtain ⟨hl, ⟨es, clock, since, c0, seen, m1, m2, m3, m4, m5⟩, hS, hS2⟩ := h;exact ⟨hl, ⟨es, clock, m1, m2, m3, m4⟩, hS⟩
  exact this
end
end Go.Sx
namespace Go.Sx
open Go.RowKit Go.MapKept
set_option linter.unusedSimpArgs false
set_option linter.unusedVariables false
variable {α β γ δ ε ζ σ ι : Type}
def Inj (E : Enc α) : Prop := ∀ a b, E.f a = E.f b -> a = b
theorem gu : Inj eI := fun a b h => by simpa [eI] using h
theorem gy : Inj eS := fun a b h => by simpa [eS] using h
theorem gz {E : Enc α} {F : Enc β} (h1 : Inj E) (h2 : Inj F) : Inj (eP E F) := fun a b h => by
  have h3 : E.f a.1 ++ F.f a.2 = E.f b.1 ++ F.f b.2 := h;obtain ⟨q1, q2⟩ := List.append_inj h3 (by rw [E.len, E.len]);exact Prod.ext (h1 _ _ q1) (h2 _ _ q2)
section
variable {P : Program} {n : Nat} {ops : Array Oper} {L : St} {w w0 : World} {F O : Nat -> Prop} {hs rest : List HP} {K : St -> World -> Prop} {b : Nat}
theorem FU {dst : Option Nat} {t kt e ty : TypeId} {x y : Operand} {pos : String} {iW : Array Edge} {g : Option (Nat × Bool)} {v : Vl α α} {m : Mp α} (hv : v.q = SQ) (ss : List Nat) (d : Nat) {key : Ky} (z : α) (sv : SV)
    (hside : (xH ops ss L ⟨dst, .lookup t x y false, ty, pos, iW, g⟩, dst, (decide (d < n)), (L.any fun p => p.1 == d), (toSS [x, y] (lk L)).map SV.vals, P.underlying t, P.underlying kt) = (true, some d, true, false, some [.map (some b), kV key], some (.map kt e), some .string))
    (hz : (zeroValue e).run P w = .ok (v.V z) w) (hA : Acc F O w0 w v b m hs) (hsv : SV.val sv = v.V ((fP m key).getD z))
    (h1 : K ((d, sv) :: L) w) :
    wQ P n ops L w ⟨dst, .lookup t x y false, ty, pos, iW, g⟩ K := YX (ok := false) hv ss d z sv hside hz hA hsv h1
theorem U0 {E : Enc α} {u : Hd} {a : List α} (k : Cx F O w0 w (Sh (vH E).q [u] [a] :: hs)) : ∃ A c, u = (A, a.length, c) := by
  obtain ⟨S, R, hh⟩ := k.get 0 rfl;have hr := hh.2.2 0 _ _ rfl rfl;obtain ⟨u1, u2, u3⟩ := u;have h2 : u2 = a.length := hr.1;exact ⟨u1, u3, by rw [h2]⟩
theorem Xr {dst : Option Nat} {t kt e ty : TypeId} {x y : Operand} {pos : String} {iW : Array Edge} {g : Option (Nat × Bool)} {E : Enc α} {m : Mp (List α)} (ss : List Nat) (d : Nat) {key : Ky}
    (hside : (xH ops ss L ⟨dst, .lookup t x y true, ty, pos, iW, g⟩, dst, (decide (d < n)), (L.any fun p => p.1 == d), (toSS [x, y] (lk L)).map SV.vals, P.underlying t, P.underlying kt) = (true, some d, true, false, some [.map (some b), kV key], some (.map kt e), some .string))
    (hz : (zeroValue e).run P w = .ok (.slice Option.none 0 0) w) (hA : Acc F O w0 w (vH E) b m hs)
    (h0 : fP m key = none -> K ((d, .jH [.v (.slice Option.none 0 0), .b false]) :: L) w)
    (h1 : ∀ A c a, fP m key = some a -> Cx F O w0 w (Sh (SH E) [(A, a.length, c)] [a] :: hs) -> K ((d, .jH [.v (.slice A a.length c), .b true]) :: L) w) :
    wQ P n ops L w ⟨dst, .lookup t x y true, ty, pos, iW, g⟩ K :=
  MB (ok := true) (v := vH E) ss d hside hz hA h0 fun u a ha k => by
    obtain ⟨A, c, rfl⟩ := U0 k;exact h1 A c a ha k
theorem OX {dst : Option Nat} {t kt e ty : TypeId} {x y : Operand} {pos : String} {iW : Array Edge} {g : Option (Nat × Bool)} {E : Enc α} {m : Mp (List α)} (ss : List Nat) (d : Nat) {key : Ky}
    (hside : (xH ops ss L ⟨dst, .lookup t x y false, ty, pos, iW, g⟩, dst, (decide (d < n)), (L.any fun p => p.1 == d), (toSS [x, y] (lk L)).map SV.vals, P.underlying t, P.underlying kt) = (true, some d, true, false, some [.map (some b), kV key], some (.map kt e), some .string))
    (hz : (zeroValue e).run P w = .ok (.slice Option.none 0 0) w) (hA : Acc F O w0 w (vH E) b m hs)
    (h0 : fP m key = none -> K ((d, .v (.slice Option.none 0 0)) :: L) w)
    (h1 : ∀ A c a, fP m key = some a -> Cx F O w0 w (Sh (SH E) [(A, a.length, c)] [a] :: hs) -> K ((d, .v (.slice A a.length c)) :: L) w) :
    wQ P n ops L w ⟨dst, .lookup t x y false, ty, pos, iW, g⟩ K :=
  MB (ok := false) (v := vH E) ss d hside hz hA h0 fun u a ha k => by
    obtain ⟨A, c, rfl⟩ := U0 k;exact h1 A c a ha k
theorem Xt {dst : Option Nat} {t kt e ty : TypeId} {x y : Operand} {pos : String} {iW : Array Edge} {g : Option (Nat × Bool)} {v : Vl γ δ} {m : Mp (Mp δ)} (ss : List Nat) (d : Nat) {key : Ky}
    (hside : (xH ops ss L ⟨dst, .lookup t x y false, ty, pos, iW, g⟩, dst, (decide (d < n)), (L.any fun p => p.1 == d), (toSS [x, y] (lk L)).map SV.vals, P.underlying t, P.underlying kt) = (true, some d, true, false, some [.map (some b), kV key], some (.map kt e), some .string))
    (hz : (zeroValue e).run P w = .ok (.map none) w) (hA : Acc F O w0 w (vM v) b m hs)
    (h0 : fP m key = none -> K ((d, .v (.map none)) :: L) w)
    (h1 : ∀ u a, fP m key = some a -> Cx F O w0 w (Sh (RM v) [u] [a] :: hs) -> K ((d, .v (.map (some u))) :: L) w) :
    wQ P n ops L w ⟨dst, .lookup t x y false, ty, pos, iW, g⟩ K :=
  MB (ok := false) (v := vM v) ss d hside hz hA h0 fun u a ha k => h1 u a ha k
theorem OY {dst : Option Nat} {ty : TypeId} {x : Operand} {pos : String} {iW : Array Edge} {g : Option (Nat × Bool)} {E : Enc α} {m left : Mp (List α)} {sh : Bool} {r : Nat} (ss : List Nat) (d : Nat) {key : Ky} {a : List α}
    (hside : (xH ops ss L ⟨dst, .entry x, ty, pos, iW, g⟩, dst, (decide (d < n)), (L.any fun p => p.1 == d), (toSS [x] (lk L)).map SV.vals) = (true, some d, true, false, some [.pointer (some ⟨r, 0, none⟩)]))
    (k : Cx F O w0 w (MV (vH E) sh b r m left (some (key, a)) :: rest))
    (h1 : ∀ A c, Cx F O w0 w (Sh (SH E) [(A, a.length, c)] [a] :: MV (vH E) sh b r m left (some (key, a)) :: rest) -> K ((d, .jH [.s key, .v (.slice A a.length c)]) :: L) w) :
    wQ P n ops L w ⟨dst, .entry x, ty, pos, iW, g⟩ K :=
  JD ss d hside k fun u k' => by
    obtain ⟨A, c, rfl⟩ := U0 k';exact h1 A c k'
theorem G7 {dst : Option Nat} {ty : TypeId} {x : Operand} {pos : String} {iW : Array Edge} {g : Option (Nat × Bool)} {v : Vl γ δ} {m left : Mp (Mp δ)} {sh : Bool} {r : Nat} (ss : List Nat) (d : Nat) {key : Ky} {a : Mp δ}
    (hside : (xH ops ss L ⟨dst, .entry x, ty, pos, iW, g⟩, dst, (decide (d < n)), (L.any fun p => p.1 == d), (toSS [x] (lk L)).map SV.vals) = (true, some d, true, false, some [.pointer (some ⟨r, 0, none⟩)]))
    (k : Cx F O w0 w (MV (vM v) sh b r m left (some (key, a)) :: rest))
    (h1 : ∀ u, Cx F O w0 w (Sh (RM v) [u] [a] :: MV (vM v) sh b r m left (some (key, a)) :: rest) -> K ((d, .jH [.s key, .v (.map (some u))]) :: L) w) :
    wQ P n ops L w ⟨dst, .entry x, ty, pos, iW, g⟩ K :=
  JD ss d hside k h1
end
section
variable {F O F1 O1 : Nat -> Prop} {w0 w w' : World} {hs rest : List HP} {E : Enc α}
variable {A : Option Addr} {n c : Nat} {ys : List Hd} {xs : List (List α)}
theorem Cx.shnil (k : Cx F O w0 w hs) (E : Enc α) : Cx F O w0 w (Sh (SH E) [(Option.none, 0, 0)] [[]] :: hs) := by
  obtain ⟨U, V, h1, hU, hV⟩ := k.sep;refine ⟨k.os, k.tape, k.output, k.size, k.block, k.fin, k.Jp, U, V, ⟨fun _ => False, fun _ => False, U, V, ⟨fun _ h => h, rfl, fun j y x e1 e2 => ?_⟩, h1, by simp, by simp, fun b hb => hb.elim, fun b hb => hb.elim⟩, hU, hV⟩;cases j with
  | succ j => cases e1
  | zero =>
    obtain rfl := Option.some.inj e1;obtain rfl := Option.some.inj e2;exact ⟨rfl, Nat.le_refl _, Rd.nil E w, fun hne => absurd rfl hne⟩
end
end Go.Sx
