import Derived.Test.YtlekdnlojpnlmaaSyX
namespace Go.Sx
open Go.RowKit
set_option linter.unusedSimpArgs false
set_option linter.unusedVariables false
/-! ### the same steps, said shorter: their checks come last, and are made by themselves -/
section
variable {α β σ ρ : Type} {P : Program} {n : Nat} {Q : Exit → Act → World → Prop} {ops : Array Oper} {L L' : St} {w w0 : World} {os : List SV} {cs : List Cond} {F O : Nat → Prop} {hs : List HP} {rest : List Oper}
theorem Wa {id : Nat} {l : List Oper} {y : Code} (b : Bl L L') (q : Ask os cs w) (h : W P n y Q L' w) (hs : (evs P n l.toArray [] l (Kn L) os).map (fun r => (L'.map fun e => (look r.1 e.1).map fun e => (e.g, e.x.val), r.2.1, r.2.2)) = some (L'.map fun p => some (none, p.2.val), cs, []) := by kernel_rfl) : W P n (.region id l.toArray false) (Exit.then (y.wp P Q) Q) L w := W_q [] b q hs (At_go h)
theorem Wq {id : Nat} {l : List Oper} {y : Code} (b : Bl L L') (h : W P n y Q L' w) (hs : (evs P n l.toArray [] l (Kn L) []).map (fun r => (L'.map fun e => (look r.1 e.1).map fun e => (e.g, e.x.val), r.2.1, r.2.2)) = some (L'.map fun p => some (none, p.2.val), [], []) := by kernel_rfl) : W P n (.region id l.toArray false) (Exit.then (y.wp P Q) Q) L w := Wa b qe h hs
theorem Wl {l : List Oper} (k : Nat) (b : Bl L L') (q : Ask os cs w) (h : WL P n ops Q (l.drop k) L' w) (hs : (evs P n ops [] (l.take k) (Kn L) os).map (fun r => (L'.map fun e => (look r.1 e.1).map fun e => (e.g, e.x.val), r.2.1, r.2.2)) = some (L'.map fun p => some (none, p.2.val), cs, []) := by kernel_rfl) : WL P n ops Q l L w := WLs k [] b q hs h
theorem We {l : List Oper} (k : Nat) (b : Bl L L') (h : WL P n ops Q (l.drop k) L' w) (hs : (evs P n ops [] (l.take k) (Kn L) []).map (fun r => (L'.map fun e => (look r.1 e.1).map fun e => (e.g, e.x.val), r.2.1, r.2.2)) = some (L'.map fun p => some (none, p.2.val), [], []) := by kernel_rfl) : WL P n ops Q l L w := WLs k [] b qe hs h
theorem Wn {ops : Array Oper} {y : Code} (h : W P n y Q L w) : WL P n ops (Exit.then (y.wp P Q) Q) [] L w := WL_nil (At_go h)
theorem calz {f : FuncId} {fn : Func} {c : Code} {R : Ending → World → Prop} (xs : List SV) (hf : P.funcs[f]? = some fn) (hb : fn.body = some c) (h : W P fn.ntmps c (bodyPost P fn R) (numbered 0 xs) w) (hn : decide (xs.length ≤ fn.ntmps) = true := by kernel_rfl) : Calls P f (vals xs) w R := calls xs hf hb (of_decide_eq_true hn) h
theorem At_rz {fn : Func} {R : Ending → World → Prop} (xs : List SV) (q : Ask os cs w) (h : R (.returned (resOf xs).val) w) (hr : resS P fn.results.toList L os = some (xs, cs, []) := by kernel_rfl) : At n (bodyPost P fn R .ret) L w := At_rt xs q hr h
theorem At_cz {Q : Exit → Act → World → Prop} {K : St → World → Prop} (h : K L' w) (hk : L'.map (fun p => (find L p.1).map SV.val) = L'.map (fun p => some p.2.val) := by kernel_rfl) : At n (Exit.then (fun a w => ∃ L, Fu n a (Kn L) ∧ K L w) Q .normal) L w := At_c h hk
theorem si {a b : α} (h : some a = some b) : a = b := Option.some.inj h
theorem W_cz {k : Nat} {x y : Code} (c : Bool) (h1 : c = true → W P n x Q L w) (h2 : c = false → W P n y Q L w) (hf : find L k = some (.b c) := by kernel_rfl) : W P n (.cond (.tmp k) x y) Q L w := W_cond c hf h1 h2
theorem W_pz {k : Nat} {x y : Code} (p : Prop) [Decidable p] (h1 : p → W P n x Q L w) (h2 : ¬ p → W P n y Q L w) (hf : find L k = some (.b (decide p)) := by kernel_rfl) : W P n (.cond (.tmp k) x y) Q L w := W_condp p hf h1 h2
theorem MXz {p : Nat} {Ls : List Nat} {C : List (World → Prop)} {Q : Act → World → Prop} {π : MT} {listed : Array Bool} (k m : Nat) (b : Bl L L') (q : ∀ w, cls C m w → Ask os cs w)
    (h : ∀ listed', MX P n ops Ls C Q (π.drop k) p listed' (Kn L') w) (hs : ((qops ops m k π).bind fun l => evs P n ops [] l (Kn L) os).map (fun r => (L'.map fun e => (look r.1 e.1).map fun e => (e.g, e.x.val), r.2.1, r.2.2)) = some (L'.map fun p => some (none, p.2.val), cs, []) := by kernel_rfl) : MX P n ops Ls C Q π p listed (Kn L) w := MXq k m [] b q hs h
theorem Op_cz {K : St → World → Prop} {dst : Option Nat} {f : FuncId} {xs : Array Operand} {ats : Array TypeId} {ty : TypeId} {pos : String} {aft : Array Edge} {g : Option (Nat × Bool)} (d : Nat) {svs : List SV} {R : Ending → World → Prop} (hgo : IsGo P f) (hc : Calls P f (vals svs) w R)
    (hk : ∀ e w', R e w' → ∃ x, e = .returned x.val ∧ K ((d, x) :: L) w')
    (hs : (gok ops [] L ⟨dst, .call ⟨.value (.func f), xs, ats⟩, ty, pos, aft, g⟩, dst, (decide (d < n)), (L.any fun p => p.1 == d), (toSS xs.toList (lk L)).map SV.vals) = (true, some d, true, false, some (SV.vals svs)) := by kernel_rfl) :
    Op1 P n ops L w ⟨dst, .call ⟨.value (.func f), xs, ats⟩, ty, pos, aft, g⟩ K := Op_call [] d svs hgo hs hc hk
theorem Op_bz {K : St → World → Prop} {ty t : TypeId} {p x : Operand} {pos : String} {aft : Array Edge} {g : Option (Nat × Bool)} (i : Nat) {pa : Option Addr} (sv : SV) (svs : List SV) {bt : TypeId} {b : Nat} {ys zs : List SV} {off : Nat}
    (hp : Pt (some ⟨b, 0, none⟩) off pa) (k : Cx F O w0 w hs) (hi : hs[i]? = some (Bx bt b ys)) (md : Mid svs ys zs)
    (hk : ∀ w', Cx F O w0 w' (hs.set i (Bx bt b zs)) → K L w')
    (hside : (gok ops [] L (⟨none, .store t p x, ty, pos, aft, g⟩ : Oper), (none : Option Nat), (toSS [p, x] (lk L)).map SV.vals, szOf P t, cellsS sv, svs.all SV.one1) = (true, none, some [.pointer pa, sv.val], some (SV.width svs), some svs, true) := by kernel_rfl)
    (hz : (putS off (SV.width svs) svs ys).map SV.cl = some (SV.cl zs) := by kernel_rfl) :
    Op1 P n ops L w ⟨none, .store t p x, ty, pos, aft, g⟩ K := Op_b [] i sv svs hp k hi md hside hz hk
theorem Op_vz {K : St → World → Prop} {ty t : TypeId} {p x : Operand} {pos : String} {aft : Array Edge} {g : Option (Nat × Bool)} {E : Enc α} (i : Nat) {pa : Option Addr} (sv : SV) (svs : List SV) {bt : TypeId} {b : Nat} {m o o' : Nat} {x0 x1 : Vec α m} {ys zs : List SV} {j : Int} {e0 y : α}
    (hv : vst x0 j y = x1) (hx : geti x0.l j = some e0) (hp : Pt (some ⟨b, 0, none⟩) (o' + (j.toNat * E.sz + 0)) pa) (k : Cx F O w0 w hs) (hi : hs[i]? = some (Bx bt b ys)) (vu : Vup ys E x0 x1 o zs) (hy : E.f y = pat (E.f e0) 0 (SV.cl svs))
    (hk : ∀ w', Cx F O w0 w' (hs.set i (Bx bt b zs)) → K L w')
    (hside : (gok ops [] L (⟨none, .store t p x, ty, pos, aft, g⟩ : Oper), (none : Option Nat), (toSS [p, x] (lk L)).map SV.vals, szOf P t, cellsS sv, svs.all SV.one1, o') = (true, none, some [.pointer pa, sv.val], some (SV.width svs), some svs, true, o) := by kernel_rfl)
    (hl : Nat.ble (0 + SV.width svs) E.sz = true := by kernel_rfl) :
    Op1 P n ops L w ⟨none, .store t p x, ty, pos, aft, g⟩ K := Op_vs (kk := 0) [] i sv svs hv hx hp k hi vu hy hside hl hk
end
end Go.Sx

