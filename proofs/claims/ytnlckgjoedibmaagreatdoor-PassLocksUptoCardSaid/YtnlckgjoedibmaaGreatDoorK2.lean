import Derived.OpenShut
import Derived.ShutString
import Derived.ChangeOld
import Derived.Below
import Derived.JoinedCond
import Derived.MapKept
import Derived.Maps.RangeRun
import Derived.Sort.OwnSorted
import Derived.Sort.KeysCollected
import Derived.Shelf.Sort.Plain
import Derived.Shelf.Slices.In.SortNone
import Derived.Sort.OwnSortedInts
import Derived.Shelf.Strconv.Itoa3
import Derived.Laws.FloatArith
import Derived.Shelf.Strings.Builder1
import Derived.Test.YtnlckgjoedibmaaGreatDoorK1
namespace Go.Sx
open Go.RowKit
set_option linter.unusedSimpArgs false
set_option linter.unusedVariables false
def QF:Exit->Act->World->Prop:=fun _ _ _=>False
section
variable {P:Program}{ops:Array Oper}{Ls:List Nat}{C:Nat->World->Prop}
def nx (Ls:List Nat)(p i:Nat):Nat:=if Ls.contains i then p+1 else p
def wpC (P:Program)(ops:Array Oper)(Ls:List Nat)(C:Nat->World->Prop)(Q:Act->World->Prop):Nat->Nat->Array Bool->Act->World->Prop
  | 0,_,listed,a,w=>Region.ready .any ops listed=[]/\Q a w
  | k+1,p,listed,a,w=>(Region.ready .any ops listed=[]->Q a w) /\
      ∀ i ∈ Region.ready .any ops listed,wpOp P ops QF i (fun a' w'=>C (nx Ls p i) w'/\wpC P ops Ls C Q k (nx Ls p i) (listed.setIfInBounds i true) a' w') a w
theorem wpOp_Q {i:Nat}{a:Act}{w:World}{K:Act->World->Prop}{Q:Exit->Act->World->Prop}(h:wpOp P ops QF i K a w):wpOp P ops Q i K a w:=by
  unfold wpOp at *;split
  ·rename_i ho;simp only[ho] at h;exact h
  ·rename_i o ho;simp only[ho] at h;split
   ·rename_i hw;rw[if_pos hw] at h;rcases h with h | ⟨_,a',w',hf⟩
    ·exact .inl (Oper.wp_Q (fun _ _ _ hf=>hf.elim) h)
    ·exact hf.elim
   ·rename_i hw;rw[if_neg hw] at h;exact h
theorem PU {Q:Act->World->Prop}{Q':Exit->Act->World->Prop}(hq:∀ a w,Q a w->Q' .normal a w):∀ (k p:Nat) (listed:Array Bool) (a:Act) (w:World),wpC P ops Ls C Q k p listed a w->wpAny P .any ops Q' k listed a w
  | 0,_,_,_,_,h=>⟨h.1,hq _ _ h.2⟩
  | k+1,_,_,_,_,h=>⟨fun h0=>hq _ _ (h.1 h0),fun i hi=>wpOp_mono (fun a' w' h'=>PU hq k _ _ a' w' h'.2) (wpOp_Q (h.2 i hi))⟩
def YC (P:Program)(ops:Array Oper)(C:World->Prop)(o:Oper)(v:Value)(a:Act):Prop :=
  (Region.wanted o (yielded ops a.tmps)=true/\∀ w,C w->(execOp a.eval o).run P w=.ok (.value v) w)∨(Region.wanted o (yielded ops a.tmps)=false/\v=undef)
theorem YC.op {D:World->Prop}{i:Nat}{o:Oper}{v:Value}{a:Act}{w:World}{Q:Exit->Act->World->Prop}(hi:ops[i]?=some o)(hy:YC P ops D o v a)(hw:D w){K:Act->World->Prop}(h:K (a.put o.dst v) w):wpOp P ops Q i K a w:=by
  unfold wpOp;simp only[hi];rcases hy with⟨h1,h2⟩ | ⟨h1,rfl⟩
  ·rw[if_pos h1];refine .inl ?_;unfold Oper.wp;rw[h2 w hw];exact h
  ·rw[if_neg (by simp[h1])];exact h
theorem wpOp_put {D:World->Prop}{j:Nat}{oi oj:Oper}{v:Value}{w:World}(hj:ops[j]?=some oj)(hap:oi.apart ops oj=true)(hsi:∀ cs b,oi.op≠.select cs b)(hsj:∀ cs b,oj.op≠.select cs b){K:Act->World->Prop}{a:Act}
    (hy:YC P ops D oi v a) (h:wpOp P ops QF j K (a.put oi.dst v) w):wpOp P ops QF j (fun a' w'=>YC P ops D oi v a'/\K (a'.put oi.dst v) w') a w:=by
  obtain⟨h1,h2,h3⟩:=Oper.apart_spec hap;have keep:∀ (u:Value),YC P ops D oi v (a.put oj.dst u):=fun u=>by
    unfold YC at *;rw[execOp_put oi hsi a oj.dst u h3,wanted_put oi a oj.dst u h3];exact hy
  have keepD:∀ (u:Value) (d:Deferred),YC P ops D oi v ({ a with defers:=d::a.defers }.put oj.dst u):=fun u d=>by
    have h4:=keep u;unfold YC at *;have e1:({ a with defers:=d::a.defers }:Act).put oj.dst u={ a.put oj.dst u with defers:=d::a.defers }:=by
      unfold Act.put;split <;> rfl
    rw[e1];exact h4
  unfold wpOp at *;simp only[hj] at *;rw[wanted_put oj a oi.dst v h1] at h;split
  ·rename_i hw;rw[if_pos hw] at h;rcases h with h | ⟨_,a',w',hf⟩
   ·refine .inl ?_;unfold Oper.wp at *;rw[execOp_put oj hsj a oi.dst v h1] at h;generalize (execOp a.eval oj).run P w=r at *;cases r with
    | ok x w' =>
      cases x <;> simp only[Oper.upon] at h ⊢ <;> first | exact h.elim | skip
      case value u=>exact⟨keep u,by rw[<- Act.put_comm a v u h2];exact h⟩
      case skip=>exact⟨keep _,by rw[<- Act.put_comm a v undef h2];exact h⟩
      case defer d =>
        refine⟨keepD _ d,?_⟩;have e1:(({ a with defers:=d::a.defers }:Act).put oj.dst undef).put oi.dst v=({ a.put oi.dst v with defers:=d::(a.put oi.dst v).defers }:Act).put oj.dst undef:=by
          rw[<- Act.put_comm _ v undef h2];unfold Act.put;cases oi.dst <;> rfl
        rw[e1];exact h
      case enter f args =>
        refine h.mono fun e w'' he=>?_;cases e with
        | returned u=>exact⟨keep u,by rw[<- Act.put_comm a v u h2];exact he⟩
        | panicked c=>exact he
        | outgrown=>exact he
      case row row args =>
        refine h.mono fun u w'' he=>⟨keep u,by rw[<- Act.put_comm a v u h2];exact he⟩
    | halt x w'=>cases x <;> simp only[Oper.upon] at h ⊢ <;> exact h
   ·exact hf.elim
  ·rename_i hw;rw[if_neg hw] at h;exact⟨keep _,by rw[<- Act.put_comm a v undef h2];exact h⟩
def asks (ops:Array Oper)(j i:Nat):Bool:=match ops[j]? with
  | some o=>o.after.any fun e=>Region.binds .any e&&e.on == i
  | none=>false
def FN (ops:Array Oper)(lst:Nat->Bool)(j i:Nat):Bool:=asks ops j i||match ops[j]? with
  | some o=>o.after.any fun e=>Region.binds .any e&&!lst e.on&&asks ops e.on i
  | none=>false
def ahead (ops:Array Oper)(Ls:List Nat)(listed:Array Bool)(i:Nat):Nat:=(Ls.filter fun j=>!listed.getD j true&&!FN ops (fun x=>listed.getD x false) j i).length
theorem asks_not {i j:Nat}{oj:Oper}(hj:ops[j]?=some oj)(hnot:∀ e ∈ oj.after,Region.binds .any e=true->e.on≠i):asks ops j i=false:=by
  unfold asks;rw[hj];simp only[Array.any_eq_false'];intro e he;have:=hnot e he;cases hb:Region.binds .any e with
  | false=>simp
  | true=>simpa using this hb
theorem RX {listed:Array Bool}{i j:Nat}(hj:j ∈ Region.ready .any ops listed)(hi:listed.getD i true=false):FN ops (fun x=>listed.getD x false) j i=false:=by
  obtain⟨hjun,oj,hoj,hall⟩:=mem_ready.1 hj;have hi':listed.getD i false=false:=by
    rcases Nat.lt_or_ge i listed.size with h' | h'
    ·simp[h'] at hi ⊢;exact hi
    ·simp[Array.getElem?_eq_none h']
  unfold FN;rw[asks_not hoj (fun e he hb heq=>by have:=hall e he hb;rw[heq,hi'] at this;cases this),hoj];simp only[Bool.false_or,Array.any_eq_false'];intro e he;cases hb:Region.binds .any e with
  | false=>simp
  | true=>simp only[hall e he hb];simp
theorem RY {listed:Array Bool}{i j x:Nat}(hj:j ∈ Region.ready .any ops listed)(hi:listed.getD i true=false)(h:FN ops (fun x=>listed.getD x false) x i=true):FN ops (fun y=>(listed.setIfInBounds j true).getD y false) x i=true:=by
  have hji:asks ops j i=false:=by
    have:=RX hj hi;unfold FN at this;rw[Bool.or_eq_false_iff] at this;exact this.1
  unfold FN at h ⊢;rw[Bool.or_eq_true] at h ⊢;rcases h with h | h
  ·exact .inl h
  ·refine .inr ?_;cases ho:ops[x]? with
   | none=>rw[ho] at h;cases h
   | some o =>
     rw[ho] at h;simp only[Array.any_eq_true'] at h ⊢;obtain⟨e,he,hq⟩:=h;refine⟨e,he,?_⟩;simp only[Bool.and_eq_true,Bool.not_eq_true'] at hq ⊢;obtain⟨⟨h1,h2⟩,h3⟩:=hq;refine⟨⟨h1,?_⟩,h3⟩;by_cases hje:j=e.on
     ·rw[<- hje,hji] at h3;cases h3
     ·rw[getD_set_ne false hje];exact h2
theorem ahead_le {listed:Array Bool}{i j:Nat}(hr:j ∈ Region.ready .any ops listed)(hi:listed.getD i true=false):ahead ops Ls (listed.setIfInBounds j true) i<=ahead ops Ls listed i:=by
  unfold ahead;rw[<- List.countP_eq_length_filter,<-List.countP_eq_length_filter];refine List.countP_mono_left fun x _ hx=>?_;simp only[Bool.and_eq_true,Bool.not_eq_true'] at hx ⊢;refine⟨?_,?_⟩
  ·by_cases hxj:j=x
   ·subst hxj;have:=hx.1;rcases Nat.lt_or_ge j listed.size with h | h
    ·simp[h] at this
    ·simp[Array.getElem?_eq_none h] at this
   ·rw[getD_set_ne true hxj] at hx;exact hx.1
  ·cases hq:FN ops (fun x=>listed.getD x false) x i with
   | false=>rfl
   | true=>rw[RY hr hi hq] at hx;exact absurd hx.2 (by decide)
theorem ahead_lt {listed:Array Bool}{i j:Nat}(hr:j ∈ Region.ready .any ops listed)(hi:listed.getD i true=false)(hj:Ls.contains j=true)(hun:listed.getD j true=false):ahead ops Ls (listed.setIfInBounds j true) i+1<=ahead ops Ls listed i:=by
  have hna:=RX hr hi;unfold ahead;rw[<- List.countP_eq_length_filter,<-List.countP_eq_length_filter];have key:∀ l:List Nat,l.countP (fun x=>!(listed.setIfInBounds j true).getD x true&&!FN ops (fun y=>(listed.setIfInBounds j true).getD y false) x i)<=l.countP (fun x=>!listed.getD x true&&!FN ops (fun y=>listed.getD y false) x i):=fun l=>by
    refine List.countP_mono_left fun x _ hx=>?_;simp only[Bool.and_eq_true,Bool.not_eq_true'] at hx ⊢;refine⟨?_,?_⟩
    ·by_cases hxj:j=x
     ·subst hxj;exact hun
     ·rw[getD_set_ne true hxj] at hx;exact hx.1
    ·cases hq:FN ops (fun x=>listed.getD x false) x i with
     | false=>rfl
     | true=>rw[RY hr hi hq] at hx;exact absurd hx.2 (by decide)
  have hjs:(listed.setIfInBounds j true).getD j true=true:=by
    rcases Nat.lt_or_ge j listed.size with h | h
    ·simp[h]
    ·simp[Array.getElem?_eq_none h]
  induction Ls with
  | nil=>simp at hj
  | cons x l ih =>
    rw[List.countP_cons,List.countP_cons];by_cases hx:x=j
    ·subst hx;have:=key l;simp only[hjs,hun,hna,Bool.not_true,Bool.false_and,Bool.not_false,Bool.and_self,if_true];simp only[Bool.false_eq_true,if_false];omega
    ·have h1:l.contains j=true:=by
       simp only[List.contains_cons,Bool.or_eq_true,beq_iff_eq] at hj;exact hj.resolve_left (fun e=>hx e.symm)
     have:=ih h1;have hm:(if(!(listed.setIfInBounds j true).getD x true&&!FN ops (fun y=>(listed.setIfInBounds j true).getD y false) x i)=true then 1 else 0)<=(if(!listed.getD x true&&!FN ops (fun y=>listed.getD y false) x i)=true then 1 else 0):=by
       have:=key [x];simpa [List.countP_cons] using this
     omega
theorem RZ {Q:Act->World->Prop}{i m:Nat}{oi:Oper}{v:Value}(hmono:∀ p q x,p<=q->C p x->C q x)(hi:ops[i]?=some oi)(hil:Ls.contains i=false)(hsel:∀ (j:Nat) (o:Oper) cs b,ops[j]?=some o->o.op≠.select cs b) :
    ∀ (k p:Nat) (listed:Array Bool) (a:Act) (w:World),C p w->p+ahead ops Ls listed i<=m ->
      (∀ j oj,ops[j]?=some oj->j≠i->listed.getD j true=false->(∀ e ∈ oj.after,Region.binds .any e=true->e.on≠i)->oi.apart ops oj=true) ->
      i ∈ Region.ready .any ops listed->YC P ops (C m) oi v a ->
      wpC P ops Ls C Q k p (listed.setIfInBounds i true) (a.put oi.dst v) w->wpC P ops Ls C Q (k+1) p listed a w:=by
  have hni:∀ p,nx Ls p i=p:=fun p=>by unfold nx;rw[hil];rfl
  intro k
  induction k with
  | zero =>
    intro p listed a w hw hm _ hr hy H;refine⟨fun h=>(by rw[h] at hr;cases hr),fun j hj=>?_⟩;by_cases hji:j=i
    ·subst hji;rw[hni];exact hy.op hi (hmono p m w (by omega) hw) ⟨hw,H⟩
    ·have:=ready_mono hj hji;rw[H.1] at this;cases this
  | succ k ih =>
    intro p listed a w hw hm hfree hr hy H;refine⟨fun h=>(by rw[h] at hr;cases hr),fun j hj=>?_⟩;by_cases hji:j=i
    ·subst hji;rw[hni];exact hy.op hi (hmono p m w (by omega) hw) ⟨hw,H⟩
    ·have h1:=H.2 j (ready_mono hj hji);obtain⟨hjun,oj,hoj,hall⟩:=mem_ready.1 hj;have hnot:∀ e ∈ oj.after,Region.binds .any e=true->e.on≠i:=fun e he hb heq=>by
       have h1:=hall e he hb;have h0:=(mem_ready.1 hr).1;rw[heq] at h1;rcases Nat.lt_or_ge i listed.size with h' | h'
       ·simp[h'] at h0 h1;rw[h0] at h1;cases h1
       ·simp[Array.getElem?_eq_none h'] at h1
     have h2:=wpOp_put hoj (hfree j oj hoj hji hjun hnot) (fun cs b=>hsel i oi cs b hi) (fun cs b=>hsel j oj cs b hoj) hy h1;have hfree':∀ m om,ops[m]?=some om->m≠i->(listed.setIfInBounds j true).getD m true=false ->
         (∀ e ∈ om.after,Region.binds .any e=true->e.on≠i)->oi.apart ops om=true:=fun m om hm hmi hun hno=>by
       refine hfree m om hm hmi ?_ hno;by_cases hjm:j=m
       ·subst hjm;exact hjun
       ·rw[getD_set_ne true hjm] at hun;exact hun
     have hm':nx Ls p j+ahead ops Ls (listed.setIfInBounds j true) i<=m:=by
       unfold nx;split
       ·rename_i hc;have:=ahead_lt (ops:=ops) (Ls:=Ls) hj (mem_ready.1 hr).1 hc hjun;omega
       ·have:=ahead_le (ops:=ops) (Ls:=Ls) hj (mem_ready.1 hr).1;omega
     refine wpOp_mono (fun a' w' h3=>?_) h2;obtain⟨hy',hw',h4⟩:=h3;refine⟨hw',ih _ (listed.setIfInBounds j true) a' w' hw' hm' hfree' (ready_mono hr (Ne.symm hji)) hy' ?_⟩;rw[Array.setIfInBounds_comm _ _ hji];exact h4
def cls:List (World->Prop)->Nat->World->Prop
  | [],_,_=>True
  | c::_,0,x=>c x
  | _::cs,p+1,x=>cls cs p x
def Rk:List (World->Prop)->Prop
  | c::d::cs=>(∀ x,c x->d x)/\Rk (d::cs)
  | _=>True
theorem Rk.step:∀ (l:List (World->Prop)) (p:Nat) (x:World),Rk l->cls l p x->cls l (p+1) x
  | [],_,_,_,_=>trivial
  | [_],0,_,_,_=>trivial
  | [_],_+1,_,_,_=>trivial
  | _::_::_,0,x,h,hx=>h.1 x hx
  | _::d::cs,p+1,x,h,hx=>Rk.step (d::cs) p x h.2 hx
theorem Rk.le {l:List (World->Prop)}(h:Rk l):∀ p q x,p<=q->cls l p x->cls l q x:=by
  intro p q x hpq hx;obtain⟨d,rfl⟩:=Nat.exists_eq_add_of_le hpq
  induction d with
  | zero=>exact hx
  | succ d ih=>exact Rk.step l _ x h (ih (by omega))
inductive MT where
  | nil
  | q (i m:Nat) (r:MT)
  | op (i:Nat) (r:MT)
  | br (i j:Nat) (ri rj:MT)
def MT.depth:MT->Nat
  | .nil=>0
  | .q _ _ r=>r.depth+1
  | .op _ r=>r.depth+1
  | .br _ _ r _=>r.depth+1
def MT.drop:Nat->MT->MT
  | k+1,.q _ _ r=>r.drop k
  | _,π=>π
def I4 (ops:Array Oper)(Ls:List Nat):MT->Nat->Array Bool->Bool
  | .nil,_,listed=>(Region.ready .any ops listed).isEmpty
  | .q i m π,p,listed=>(Region.ready .any ops listed).contains i&&Region.free .any ops listed i&&!Ls.contains i&&decide (p+ahead ops Ls listed i<=m)&&I4 ops Ls π p (listed.setIfInBounds i true)
  | .op i π,p,listed=>Region.ready .any ops listed == [i]&&I4 ops Ls π (nx Ls p i) (listed.setIfInBounds i true)
  | .br i j ri rj,p,listed=>Region.ready .any ops listed == [i,j]&&rj.depth == ri.depth&&I4 ops Ls ri (nx Ls p i) (listed.setIfInBounds i true)&&I4 ops Ls rj (nx Ls p j) (listed.setIfInBounds j true)
def MX (P:Program)(n:Nat)(ops:Array Oper)(Ls:List Nat)(C:List (World->Prop))(Q:Act->World->Prop)(π:MT)(p:Nat)(listed:Array Bool)(L:List En)(w:World):Prop :=
  Region.noSelect ops=true->Rk C->I4 ops Ls π p listed=true->cls C p w->∀ a,Fu n a L->wpC P ops Ls (cls C) Q π.depth p listed a w
variable {C:List (World->Prop)}
theorem eU {n p:Nat}{Q:Act->World->Prop}{listed:Array Bool}{L:St}{w:World}(h:At n Q L w):MX P n ops Ls C Q .nil p listed (Kn L) w :=
  fun _ _ hB _ a ha=>⟨by simpa [I4] using hB,h a ha⟩
def XE (ops:Array Oper)(m:Nat):Nat->MT->Option (List Oper)
  | 0,_=>some []
  | k+1,.q i m' r=>if m'=m then match ops[i]?,XE ops m k r with
    | some o,some l=>some (o::l)
    | _,_=>none else none
  | _+1,_=>none
theorem ZB {n p m:Nat}{Q:Act->World->Prop}{ss:List Nat}{w:World}{L':List En}:∀ (k:Nat) (π:MT) (l:List Oper) (listed:Array Bool) (L:List En) (os os':List SV) (cs:List Cond),
    XE ops m k π=some l->evs P n ops ss l L os=some (L',cs,os')->(∀ w,cls C m w->∀ c ∈ cs,c w)->(∀ listed',MX P n ops Ls C Q (π.drop k) p listed' L' w)->MX P n ops Ls C Q π p listed L w:=by
  intro k
  induction k with
  | zero =>
    intro π l listed L os os' cs hq h hc hk;simp only[XE,Option.some.injEq] at hq;subst hq;simp only[evs,Option.some.injEq,Prod.mk.injEq] at h;obtain⟨rfl,rfl,rfl⟩:=h;have e:π.drop 0=π:=by cases π <;> rfl
    rw[e] at hk;exact hk listed
  | succ k ih =>
    intro π l listed L os os' cs hq h hc hk;cases π with
    | q i m' π =>
      simp only[XE] at hq;split at hq
      ·rename_i hmm;subst hmm;split at hq
       ·rename_i o l' ho hl';simp only[Option.some.injEq] at hq;subst hq;simp only[evs] at h;split at h
        ·rename_i L1 c1 os1 h1;split at h
         ·rename_i L2 c2 os2 h2;simp only[Option.some.injEq,Prod.mk.injEq] at h;obtain⟨rfl,rfl,rfl⟩:=h;intro hns hmo hB hw a ha;simp only[I4,Bool.and_eq_true,decide_eq_true_eq,Bool.not_eq_true'] at hB;obtain⟨⟨⟨⟨hr,hf⟩,hnl⟩,hah⟩,hB⟩:=hB;have hrest:=ih π l' (listed.setIfInBounds i true) L1 os1 _ c2 hl' h2 (fun w hw c hcm=>hc w hw c (List.mem_append_right _ hcm)) hk hns hmo hB hw;rcases Nw ha h1 with⟨hwt,v,hrun,hf'⟩ | ⟨hwt,hf'⟩
          ·exact RZ hmo.le ho hnl (Region.noSelect_spec hns) _ p listed a w hw hah (Region.free_spec ho hf) (by simpa using hr) (.inl ⟨hwt,fun w' hw'=>hrun w' fun c hcm=>hc w' hw' c (List.mem_append_left _ hcm)⟩) (hrest _ hf')
          ·exact RZ hmo.le ho hnl (Region.noSelect_spec hns) _ p listed a w hw hah (Region.free_spec ho hf) (by simpa using hr) (.inr ⟨hwt,rfl⟩) (hrest _ hf')
         ·cases h
        ·cases h
       ·cases hq
      ·cases hq
    | _=>cases hq
theorem MX_q {n p:Nat}{Q:Act->World->Prop}{w:World}{π:MT}{listed:Array Bool}{L:St}(k m:Nat)(ss:List Nat)(os:List SV)(L':St)(cs:List Cond)
    (hs:((XE ops m k π).bind fun l=>evs P n ops ss l (Kn L) os).map (fun r=>(L'.map fun e=>(look r.1 e.1).map fun e=>(e.g,e.x.val),r.2.1,r.2.2))=some (L'.map fun p=>some (none,p.2.val),cs,[]))
    (hc:∀ w,cls C m w->All cs w) (h:∀ listed',MX P n ops Ls C Q (π.drop k) p listed' (Kn L') w):MX P n ops Ls C Q π p listed (Kn L) w:=by
  rw[Option.map_bind] at hs;simp only[Option.bind_eq_some_iff] at hs;obtain⟨l,hl,hs⟩:=hs;obtain⟨Lc,he,hk⟩:=Seg.keep (P:=P) (n:=n) (ops:=ops) (ss:=ss) (l:=l) (L:=L) (os:=os) (L':=L') (cs:=cs) hs;refine ZB k π l listed (Kn L) os [] cs hl he (fun w hw=>LJ (hc w hw)) fun listed'=>?_;intro hns hmo hB hw a ha;exact h listed' hns hmo hB hw a (hk a ha)
theorem dm {n p:Nat}{Q:Act->World->Prop}{w:World}{π:MT}{listed:Array Bool}{L:St}{i:Nat}{o:Oper}(hl:Ls.contains i=true)(ho:ops[i]?=some o)
    (h:EI P n ops L w o fun L' w'=>cls C (p+1) w'/\∀ listed',MX P n ops Ls C Q π (p+1) listed' (Kn L') w'):MX P n ops Ls C Q (.op i π) p listed (Kn L) w:=by
  intro hns hmo hB hw a ha;have hnx:nx Ls p i=p+1:=by unfold nx;rw[if_pos hl]
  simp only[I4,Bool.and_eq_true,beq_iff_eq,hnx] at hB;obtain⟨hr,hB⟩:=hB;obtain⟨h1,h2⟩:=h a ha;refine⟨fun h0=>(by rw[h0] at hr;cases hr),fun j hj=>?_⟩;rw[hr] at hj;simp only[List.mem_singleton] at hj;subst hj;unfold wpOp;simp only[ho,hnx];rw[if_pos h1];refine .inl (Oper.wp_mono ?_ h2);rintro a' w' ⟨L',hf,hc,hk⟩;exact⟨hc,hk _ hns hmo hB hc a' hf⟩
theorem PV {n p:Nat}{Q:Act->World->Prop}{w:World}{πi πj:MT}{listed:Array Bool}{L:St}{i j:Nat}{oi oj:Oper}(hli:Ls.contains i=true)(hlj:Ls.contains j=true)(hi:ops[i]?=some oi)(hj:ops[j]?=some oj)
    (h:EI P n ops L w oi fun L' w'=>cls C (p+1) w'/\∀ listed',MX P n ops Ls C Q πi (p+1) listed' (Kn L') w')
    (h':EI P n ops L w oj fun L' w'=>cls C (p+1) w'/\∀ listed',MX P n ops Ls C Q πj (p+1) listed' (Kn L') w'):MX P n ops Ls C Q (.br i j πi πj) p listed (Kn L) w:=by
  intro hns hmo hB hw a ha;have hnx:nx Ls p i=p+1:=by unfold nx;rw[if_pos hli]
  have hnx':nx Ls p j=p+1:=by unfold nx;rw[if_pos hlj]
  simp only[I4,Bool.and_eq_true,beq_iff_eq,hnx,hnx'] at hB;obtain⟨⟨⟨hr,hd⟩,hB1⟩,hB2⟩:=hB;refine⟨fun h0=>(by rw[h0] at hr;cases hr),fun k hk=>?_⟩;rw[hr] at hk;simp only[List.mem_cons,List.not_mem_nil,or_false] at hk;rcases hk with rfl | rfl
  ·obtain⟨h1,h2⟩:=h a ha;unfold wpOp;simp only[hi,hnx];rw[if_pos h1];refine .inl (Oper.wp_mono ?_ h2);rintro a' w' ⟨L',hf,hc,hk⟩;exact⟨hc,hk _ hns hmo hB1 hc a' hf⟩
  ·obtain⟨h1,h2⟩:=h' a ha;unfold wpOp;simp only[hj,hnx'];rw[if_pos h1];refine .inl (Oper.wp_mono ?_ h2);rintro a' w' ⟨L',hf,hc,hk⟩;have:=hk _ hns hmo hB2 hc a' hf;rw[hd] at this;exact⟨hc,this⟩
theorem W_mix {n:Nat}{id:Nat}{l:List Oper}{Q:Exit->Act->World->Prop}{L:St}{w:World}(hm:P.follows .mixedOrders=true)(π:MT)(Ls:List Nat)(C:List (World->Prop))
    (hB:(Region.noSelect l.toArray,I4 l.toArray Ls π 0 (Array.replicate l.length false),π.depth == l.length)=(true,true,true)) (hmo:Rk C) (hC:cls C 0 (w.drewN 1)) (h:∀ listed,MX P n l.toArray Ls C (Q .normal) π 0 listed (Kn L) (w.drewN 1)) :
    W P n (.region id l.toArray true) Q L w:=by
  intro a ha;simp only[Prod.mk.injEq,beq_iff_eq] at hB;obtain⟨h1,h2,h3⟩:=hB;refine wp_region_any hm ?_;have:=h (Array.replicate l.length false) h1 hmo h2 hC a ha;rw[h3] at this;exact PU (fun _ _ hq=>hq) _ _ _ _ _ (by rw[show l.toArray.size=l.length from by simp];exact this)
end
end Go.Sx
namespace Go.Sx
open Go.RowKit
set_option linter.unusedSimpArgs false
set_option linter.unusedVariables false
variable {α β:Type}
instance {n:Nat} [Inhabited α]:Inhabited (Vec α n):=⟨Vec.rep n default⟩
def Vec.of [Inhabited α](n:Nat)(l:List α):Vec α n:=if h:l.length=n then⟨l,h⟩ else Vec.rep n default
def appz (xs:List α)(l:Int)(z:α)(b:Nat):Option (List α):=if 0<=l/\(xs.length+l.toNat)*b<=140737488355328 then some (xs++List.replicate l.toNat z) else none
theorem ZC {xs ys:List α}{l:Int}{z:α}{b:Nat}(h:appz xs l z b=some ys):0<=l/\(xs.length+l.toNat)*b<=140737488355328/\ys=xs++List.replicate l.toNat z:=by
  unfold appz at h;split at h
  ·rename_i hc;simp only[Option.some.injEq] at h;exact⟨hc.1,hc.2,h.symm⟩
  ·cases h
abbrev SV.ar (E:Enc α){n:Nat}(x:Vec α n):SV:=.vec (n*E.sz) (E.vec x)
section
variable {P:Program}{n:Nat}{Q:Exit->Act->World->Prop}{ops:Array Oper}{L:St}{w w0:World}{F O:Nat->Prop}{hs:List HP}{K:St->World->Prop}
theorem PW {x:Code}(K:St->World->Prop)(h1:W P n x (Exit.then (fun a w=>∃ L,Fu n a (Kn L)/\K L w) Q) L w)(h2:∀ L w,K L w->At n (Q .normal) L w):W P n x Q L w:=by
  intro a ha;refine wp_mono (h1 a ha) ?_;intro e a' w' hq;cases e with
  | normal=>obtain⟨L',hf,hk⟩:=hq;exact h2 L' w' hk a' hf
  | _=>exact hq
theorem Ro.Be (E:Enc α):Ro F w none (E.all ([]:List α)):=Ro.nil (A:=none)
theorem Src.sl {E:Enc α}{A:Option Addr}{xs:List α}{m c sz:Nat}(h:Rd w A (E.all xs))(hn:xs.length=m)(hs:E.sz=sz):Src P sz w (.slice A m c) m (E.all xs) :=
  Src.slice h (by rw[Enc.fU,hn,hs])
theorem TA {xs ys:List α}{lo hi:Int}(h:G6 xs lo hi=some ys)(h0:lo=0):ys=xs.take ys.length:=by
  obtain⟨h1,h2,h3,h4⟩:=jv h;have hl:=qK h;rw[hl];subst h0;rw[h4];simp
theorem LP {E:Enc α}{m:Nat}{x:Vec α m}{i:Int}{y:α}{v:Value}(h:aU x.l i=some y)(hv:(E.f y)[0]?=some v):(0<=i/\i < ((m:Nat):Int))/\(SV.cl [SV.ar E x])[i.toNat*E.sz]?=some v:=by
  have h1:=gy h;rw[x.h] at h1;refine⟨h1,?_⟩;rw[zC];have:=E.U7 (bz h).2 hv;simp only[SV.cl,List.append_nil];show(E.all x.l)[i.toNat*E.sz]?=some v;simpa using this
theorem ar_ixs {E:Enc α}{m:Nat}{x:Vec α m}{i:Int}{y:α}{vs:List Value}(h:aU x.l i=some y)(hv:E.f y=vs):(0<=i/\i < ((m:Nat):Int))/\((SV.cl [SV.ar E x]).drop (i.toNat*E.sz)).take E.sz=vs:=by
  have h1:=gy h;rw[x.h] at h1;refine⟨h1,?_⟩;rw[zC,<-hv];simp only[SV.cl,List.append_nil];exact E.XB (bz h).2
theorem At_end {fn:Func}{R:Ending->World->Prop}(os:List SV)(xs:List SV)(cs:List Cond)(hr:OI P fn.results.toList L os=some (xs,cs,[]))(hc:All cs w)(h:R (.returned (RU xs).val) w):At n (bodyPost P fn R .normal) L w :=
  At_ret (P:=P) (fn:=fn) os xs cs hr hc h
theorem Vd {E:Enc α}{m:Nat}(x:Vec α m):SV.cl [SV.ar E x]=(eV E m).f x:=by
  rw[zC];show E.all x.l++[]=E.all x.l;rw[List.append_nil]
theorem Rd.elV {w:World}{A p:Option Addr}{E:Enc α}{m:Nat}{xs:List (Vec α m)}{i:Int}{x:Vec α m}(h:Rd w A ((eV E m).all xs))(hg:aU xs i=some x)(hp:Pt A (i.toNat*(eV E m).sz+0) p)(hm:0 < (eV E m).sz):∃ a,p=some a/\Rd w (some a) (SV.cl [SV.ar E x]):=by
  rw[Vd];refine h.els hg hp ?_ hm (by omega);rw[List.drop_zero];have:=(eV E m).len x;rw[<- this,List.take_length]
theorem ar_ixV {E:Enc α}{k m:Nat}{x:Vec (Vec α k) m}{i:Int}{y:Vec α k}(h:aU x.l i=some y):(0<=i/\i < ((m:Nat):Int))/\((SV.cl [SV.ar (eV E k) x]).drop (i.toNat*(eV E k).sz)).take (eV E k).sz=SV.cl [SV.ar E y] :=
  ar_ixs h (Vd y).symm
theorem Cx.zB {t:TypeId}{g:Nat}{ys:List SV}(k:Cx F O w0 w hs)(i:Nat)(hi:hs[i]?=some (Bx t g ys))(off:Nat)(v:SV)(h:(cellS off ys).map SV.val=some v.val):∃ a,some (⟨g,off,none⟩:Addr)=some a/\w.cell? a=some v.val:=by
  simp only[Option.map_eq_some_iff] at h;obtain⟨x,hx,he⟩:=h;rw[<- he];exact(k.DJ i hi).cellP (Pt.at g off) (Py hx).1
theorem Cx.blds {t:TypeId}{g:Nat}{ys:List SV}(k:Cx F O w0 w hs)(i:Nat)(hi:hs[i]?=some (Bx t g ys))(off m:Nat)(zs:List SV)(h:(Nu off m ys).map SV.cl=some (SV.cl zs))(hm:0 < m):∃ a,some (⟨g,off,none⟩:Addr)=some a/\Rd w (some a) (SV.cl zs):=by
  simp only[Option.map_eq_some_iff] at h;obtain⟨x,hx,he⟩:=h;obtain⟨e1,e2,e3⟩:=Oe hx;rw[<- he,<-e1];exact(k.DJ i hi).partP (Pt.at g off) (by rw[iy];exact e3) hm
theorem Op_bput {ty t:TypeId}{p x:Operand}{pos:String}{lD:Array Edge}{g:Option (Nat×Bool)}(ss:List Nat)(i:Nat){pa:Option Addr}{sv:SV}{svs:List SV}{bt:TypeId}{b:Nat}{ys:List SV}(zs:List SV){off:Nat}
    (hside:(FH ops ss L (⟨none,.store t p x,ty,pos,lD,g⟩:Oper),(none:Option Nat),(toSS [p,x] (lk L)).map SV.vals,Bd P t,cellsS sv,svs.all SV.one1)=(true,none,some [.pointer pa,sv.val],some (SV.width svs),some svs,true))
    (hp:Pt (some ⟨b,0,none⟩) off pa) (k:Cx F O w0 w hs) (hi:hs[i]?=some (Bx bt b ys)) (hz:(Xn off (SV.width svs) svs ys).map SV.cl=some (SV.cl zs))
    (hk:∀ w',Cx F O w0 w' (hs.set i (Bx bt b zs))->K L w') :
    EI P n ops L w ⟨none,.store t p x,ty,pos,lD,g⟩ K:=by
  simp only[Option.map_eq_some_iff] at hz;obtain⟨zs',hput,he⟩:=hz;obtain⟨e1,e2,e3,e4⟩:=RN hput;refine Op_bst ss i zs hside hp k hi ?_ e4 hk;rw[<- he,e1];unfold pat;rw[iy]
end
end Go.Sx
namespace Go.Sx
open Go.RowKit
set_option linter.unusedSimpArgs false
set_option linter.unusedVariables false
inductive Bl:St->St->Prop
  | a {l}:Bl l l
  | z {l}:Bl l []
  | k {x l l'}:Bl l l'->Bl (x::l) (x::l')
  | s {x l l'}:Bl l l'->Bl (x::l) l'
  | n {l l'} (i:Nat) (v:SV):Bl l l'->Bl l ((i,v)::l')
theorem Bl.kk {x y l l'}(h:Bl l l'):Bl (x::y::l) (x::y::l'):=.k (.k h)
theorem Bl.ql {x y z l l'}(h:Bl l l'):Bl (x::y::z::l) (x::y::z::l'):=.k (.kk h)
theorem Bl.dh {x y z u l l'}(h:Bl l l'):Bl (x::y::z::u::l) (x::y::z::u::l'):=.kk (.kk h)
theorem Bl.ss {x y l l'}(h:Bl l l'):Bl (x::y::l) l':=.s (.s h)
theorem Bl.nN {x y z l l'}(h:Bl l l'):Bl (x::y::z::l) l':=.s (.ss h)
theorem Bl.fC {x y z u l l'}(h:Bl l l'):Bl (x::y::z::u::l) l':=.ss (.ss h)
section
variable {α β σ ρ:Type}{P:Program}{n:Nat}{Q:Exit->Act->World->Prop}{ops:Array Oper}{L L':St}{w w0:World}{os:List SV}{cs:List Cond}{F O:Nat->Prop}{hs:List HP}
structure Ask (os:List SV)(cs:List Cond)(w:World):Prop where
  h:All cs w
def dp (p:Prop):Cond:=fun _=>p
def dS (A:Option Addr):Cond:=fun _=>A.isSome=true
def dI (i:Int)(n:Nat)(A:Option Addr):Cond:=fun _=>0<=i/\i < (n:Int)/\A.isSome=true
def dC (p:Option Addr)(v:SV):Cond:=fun w=>∃ a,p=some a/\w.cell? a=some v.val
def dR (p:Option Addr)(cs:List SV):Cond:=fun w=>∃ a,p=some a/\Rd w (some a) (SV.cl cs)
theorem qe:Ask [] [] w:=⟨trivial⟩
theorem qo (v:SV)(r:Ask os cs w):Ask (v::os) cs w:=⟨r.h⟩
theorem qc (c:Cond)(p:c w)(r:Ask os cs w):Ask os (c::cs) w:=⟨p,r.h⟩
theorem qp (p:Prop)(h:p)(r:Ask os cs w):Ask os (dp p::cs) w:=⟨h,r.h⟩
theorem qs (g off:Nat)(r:Ask os cs w):Ask os (dS (some ⟨g,off,none⟩)::cs) w:=⟨rfl,r.h⟩
theorem qS {A:Option Addr}(h:A.isSome=true)(r:Ask os cs w):Ask os (dS A::cs) w:=⟨h,r.h⟩
theorem qI {m:Nat}{v:Vec α m}{i:Int}{x:α}(g off:Nat)(h:aU v.l i=some x)(r:Ask os cs w):Ask os (dI i m (some ⟨g,off,none⟩)::cs) w :=
  ⟨⟨(gy h).1,by have:=(gy h).2;have:=v.h;omega,rfl⟩,r.h⟩
class Pos (E:Enc α):Prop where h:0 < E.sz
instance:Pos e8:=⟨by decide⟩
instance:Pos e16:=⟨by decide⟩
instance:Pos e32:=⟨by decide⟩
instance:Pos e64:=⟨by decide⟩
instance:Pos eI:=⟨by decide⟩
instance:Pos eS:=⟨by decide⟩
instance:Pos eB:=⟨by decide⟩
instance {a:Enc α} {b:Enc β} [h:Pos a]:Pos (eP a b):=⟨Nat.lt_of_lt_of_le h.h (Nat.le_add_right _ _)⟩
instance {E:Enc α} {m:Nat} [h:Pos E]:Pos (eV E (m+1)):=⟨Nat.mul_pos (Nat.succ_pos m) h.h⟩
theorem qJ {E:Enc α}[he:Pos E]{A:Option Addr}{xs:List α}{i:Int}{x:α}{m:Nat}(rd:Rd w A (E.all xs))(h:aU xs i=some x)(hl:xs.length=m)(r:Ask os cs w):Ask os (dI i m A::cs) w :=
  ⟨rd.ix h hl he.h,r.h⟩
theorem ZE {A:Option Addr}{i:Int}{m:Nat}(h:0<=i/\i < (m:Int)/\A.isSome=true)(r:Ask os cs w):Ask os (dI i m A::cs) w:=⟨h,r.h⟩
theorem qC {p:Option Addr}(v:SV)(h:∃ a,p=some a/\w.cell? a=some v.val)(r:Ask os cs w):Ask (v::os) (dC p v::cs) w:=⟨h,r.h⟩
theorem qR {p:Option Addr}(zs:List SV)(h:∃ a,p=some a/\Rd w (some a) (SV.cl zs))(r:Ask os cs w):Ask (.agg zs::os) (dR p zs::cs) w:=⟨h,r.h⟩
theorem qB {t:TypeId}{g:Nat}{ys:List SV}(k:Cx F O w0 w hs)(i:Nat)(hi:hs[i]?=some (Bx t g ys))(off:Nat)(v:SV)(h:(cellS off ys).map SV.val=some v.val)(r:Ask os cs w):Ask (v::os) (dC (some ⟨g,off,none⟩) v::cs) w:=⟨k.zB i hi off v h,r.h⟩
theorem Cx.vrd {t:TypeId}{g m:Nat}{ys:List SV}(k:Cx F O w0 w hs)(i:Nat)(hi:hs[i]?=some (Bx t g ys))(E:Enc α)(x:Vec α m)(off:Nat)(hd:((EL off ys).bind List.head?).map (fun v=>(v.IM,v.val))=some (true,.agg ⟨E.all x.l⟩)):Rd w (some ⟨g,off,none⟩) (E.all x.l):=(k.DJ i hi).vec hd
theorem qV {E:Enc α}{A:Option Addr}{m:Nat}{xs:Vec α m}{i:Int}{x:α}(rd:Rd w A (E.all xs.l))(h:aU xs.l i=some x)(hA:A.isSome=true)(s:SV)(hs:E.f x=[s.val])(r:Ask os cs w):Ask (s::os) (dI i m A::dC (iV A i E.sz) s::cs) w :=
  ⟨⟨(gy h).1,by have:=(gy h).2;have:=xs.h;omega,hA⟩,rd.el h (k:=0) (Pt.xW A i E.sz) (by rw[hs];rfl),r.h⟩
theorem qW {E:Enc α}[he:Pos E]{A:Option Addr}{xs:List α}{i:Int}{x:α}{m:Nat}(rd:Rd w A (E.all xs))(h:aU xs i=some x)(hl:xs.length=m)(s:SV)(hs:E.f x=[s.val])(r:Ask os cs w):Ask (s::os) (dI i m A::dC (iV A i E.sz) s::cs) w :=
  ⟨rd.ix h hl he.h,rd.el h (k:=0) (Pt.xW A i E.sz) (by rw[hs];rfl),r.h⟩
theorem qX {xs:List UInt8}{i:Int}{y:UInt8}(h:aU xs i=some y)(r:Ask os cs w):Ask (.u8 y::os) (dp (0<=i/\xs[i.toNat]?=some y)::cs) w:=⟨bz h,r.h⟩
theorem qT {t:TypeId}{g:Nat}{ys:List SV}(k:Cx F O w0 w hs)(i:Nat)(hi:hs[i]?=some (Bx t g ys))(off m:Nat)(zs:List SV)(h:(Nu off m ys).map SV.cl=some (SV.cl zs))(hm:0 < m)(r:Ask os cs w):Ask (.agg zs::os) (dR (some ⟨g,off,none⟩) zs::cs) w:=⟨k.blds i hi off m zs h hm,r.h⟩
theorem DN {l:List Oper}(k:Nat)(ss:List Nat)(b:Bl L L')(q:Ask os cs w)(hs:(evs P n ops ss (l.take k) (Kn L) os).map (fun r=>(L'.map fun e=>(look r.1 e.1).map fun e=>(e.g,e.x.val),r.2.1,r.2.2))=some (L'.map fun p=>some (none,p.2.val),cs,[]))(h:WL P n ops Q (l.drop k) L' w):WL P n ops Q l L w:=WL_seg k ss os L' cs hs q.h h
theorem ku {id:Nat}{l:List Oper}(ss:List Nat)(b:Bl L L')(q:Ask os cs w)(hs:(evs P n l.toArray ss l (Kn L) os).map (fun r=>(L'.map fun e=>(look r.1 e.1).map fun e=>(e.g,e.x.val),r.2.1,r.2.2))=some (L'.map fun p=>some (none,p.2.val),cs,[]))(h:At n (Q .normal) L' w):W P n (.region id l.toArray false) Q L w:=W_quiet ss os L' cs hs q.h h
theorem W_d {id:Nat}{l:List Oper}(hm:P.follows .mixedOrders=true)(hB:Region.lexB .any l.toArray=true)(b:Bl L L')(q:∀ m,Ask os cs (w.drewN m))(hs:(evs P n l.toArray [] l (Kn L) os).map (fun r=>(L'.map fun e=>(look r.1 e.1).map fun e=>(e.g,e.x.val),r.2.1,r.2.2))=some (L'.map fun p=>some (none,p.2.val),cs,[]))(h:∀ m,At n (Q .normal) L' (w.drewN m)):W P n (.region id l.toArray true) Q L w:=W_draw hm os L' cs hB hs (fun m=>(q m).h) h
theorem MXq {p:Nat}{Ls:List Nat}{C:List (World->Prop)}{Q:Act->World->Prop}{π:MT}{listed:Array Bool}(k m:Nat)(ss:List Nat)(b:Bl L L')(q:∀ w,cls C m w->Ask os cs w)
    (hs:((XE ops m k π).bind fun l=>evs P n ops ss l (Kn L) os).map (fun r=>(L'.map fun e=>(look r.1 e.1).map fun e=>(e.g,e.x.val),r.2.1,r.2.2))=some (L'.map fun p=>some (none,p.2.val),cs,[])) (h:∀ listed',MX P n ops Ls C Q (π.drop k) p listed' (Kn L') w):MX P n ops Ls C Q π p listed (Kn L) w:=MX_q k m ss os L' cs hs (fun w hw=>(q w hw).h) h
theorem At_c {Q:Exit->Act->World->Prop}{K:St->World->Prop}(h:K L' w)(hk:L'.map (fun p=>(find L p.1).map SV.val)=L'.map (fun p=>some p.2.val)):At n (Exit.then (fun a w=>∃ L,Fu n a (Kn L)/\K L w) Q .normal) L w:=JK L' hk (At_cut h)
theorem At_rd {Q:Exit->Act->World->Prop}{rel:σ->St->World->Prop}{y:σ⊕ρ}(s':σ)(hy:y=.inl s')(h:rel s' L' w)(hk:L'.map (fun p=>(find L p.1).map SV.val)=L'.map (fun p=>some p.2.val)):At n (Exit.then (fun a w=>∃ s' L',y=.inl s'/\Fu n a (Kn L')/\rel s' L' w) Q .normal) L w:=JK L' hk (At_round s' hy h)
theorem W_lp {c:Code}(step:σ->Option (σ⊕ρ))(rel:σ->St->World->Prop)(s0:σ)(r:ρ)(hm:aY step s0=some r)(h0:rel s0 L' w0)(hk:L'.map (fun p=>(find L p.1).map SV.val)=L'.map (fun p=>some p.2.val))
    (hb:∀ s L w y,rel s L w->step s=some y->(∀ r',y=.inr r'->r'=r)->W P n c (Exit.then (fun a w=>∃ s' L',y=.inl s'/\Fu n a (Kn L')/\rel s' L' w) Q) L w):W P n (.loop c) Q L w0:=W_forget L' hk (W_loop step rel s0 r hm h0 hb)
theorem At_rt {fn:Func}{R:Ending->World->Prop}(xs:List SV)(q:Ask os cs w)(hr:OI P fn.results.toList L os=some (xs,cs,[]))(h:R (.returned (RU xs).val) w):At n (bodyPost P fn R .ret) L w:=At_ret os xs cs hr q.h h
theorem CO {fn:Func}{R:Ending->World->Prop}(xs:List SV)(q:Ask os cs w)(hr:OI P fn.results.toList L os=some (xs,cs,[]))(h:R (.returned (RU xs).val) w):At n (bodyPost P fn R .normal) L w:=At_end os xs cs hr q.h h
theorem Gv {l:List Oper}(k:Nat)(c:Bool)(b:Bl L L')(hk:((k,SV.b c)::L').map (fun p=>(find L p.1).map SV.val)=((k,SV.b c)::L').map (fun p=>some p.2.val))
    (h1:c=true->WL P n ops Q l ((k,.b true)::L') w) (h2:c=false->WL P n ops Q l ((k,.b false)::L') w):WL P n ops Q l L w:=by
  have key:WL P n ops Q l ((k,SV.b c)::L') w->WL P n ops Q l L w:=fun h=>JK (q:=fun a w=>wpList P ops Q l a w) ((k,SV.b c)::L') hk h;cases c with
  | true=>exact key (h1 rfl)
  | false=>exact key (h2 rfl)
theorem ob {a:Option α}{f:α->Option β}{r:β}(h:a.bind f=some r):∃ x,a=some x/\f x=some r:=Option.bind_eq_some_iff.1 h
theorem nm {a:α}{f:α->Option β}{r:β}(h:(some a).bind f=some r):∃ x,a=x/\f x=some r:=⟨a,rfl,h⟩
inductive Rf {β:Type}:List β->List β->Prop
  | e:Rf [] []
  | z {l}:Rf l []
  | k {x l l'}:Rf l l'->Rf (x::l) (x::l')
  | s {x l l'}:Rf l l'->Rf (x::l) l'
theorem Rf.kk {β:Type}{x y:β}{l l'}(h:Rf l l'):Rf (x::y::l) (x::y::l'):=.k (.k h)
theorem Rf.dh {β:Type}{x y z u:β}{l l'}(h:Rf l l'):Rf (x::y::z::u::l) (x::y::z::u::l'):=.kk (.kk h)
theorem Rf.ss {β:Type}{x y:β}{l l'}(h:Rf l l'):Rf (x::y::l) l':=.s (.s h)
theorem Rf.fC {β:Type}{x y z u:β}{l l'}(h:Rf l l'):Rf (x::y::z::u::l) l':=.ss (.ss h)
inductive Pick {β:Type}:List β->β->List β->Prop
  | h {x l}:Pick (x::l) x l
  | t {x y l l'}:Pick l x l'->Pick (y::l) x (y::l')
inductive Ol {β:Type}:List β->List β->List β->Prop
  | e:Ol [] [] []
  | i {x l a b}:Ol l a b->Ol (x::l) (x::a) b
  | r {x l a b}:Ol l a b->Ol (x::l) a (x::b)
inductive App {β:Type}:List β->List β->List β->Prop
  | n {l}:App [] l l
  | c {x a b l}:App a b l->App (x::a) b (x::l)
theorem App.eq {β:Type}{a b l:List β}(h:App a b l):l=a++b:=by induction h <;> simp_all
theorem Ol.perm {β:Type}{l a b:List β}(h:Ol l a b):l.Perm (a++b):=by
  induction h with
  | e=>exact .nil
  | i _ ih=>exact .cons _ ih
  | r _ ih=>exact(List.Perm.cons _ ih).trans (List.perm_middle.symm)
theorem Pick.perm {β:Type}{x:β}{l l':List β}(h:Pick l x l'):l.Perm (x::l'):=by
  induction h with
  | h=>exact .refl _
  | t _ ih=>exact(List.Perm.cons _ ih).trans (.swap _ _ _)
theorem Sep.perm {w:World}{a b:List HP}(h:a.Perm b):∀ {U V:Nat->Prop},Sep w a U V->Sep w b U V:=by
  induction h with
  | nil=>exact fun h=>h
  | cons x _ ih =>
    rintro U V ⟨S,R,U',V',h1,h2,h3⟩;exact⟨S,R,U',V',h1,ih h2,h3⟩
  | swap x y l =>
    intro U V h;exact Sep.cut (i:=1) (h:=x) rfl h
  | trans _ _ ih1 ih2=>exact fun h=>ih2 (ih1 h)
theorem Cx.perm {a b:List HP}(k:Cx F O w0 w a)(h:a.Perm b):Cx F O w0 w b:=by
  obtain⟨U,V,h1,h2,h3⟩:=k.sep;exact⟨k.os,k.tape,k.output,k.size,k.block,k.fin,k.Rj,U,V,Sep.perm h h1,h2,h3⟩
theorem Cx.tl {x:HP}(k:Cx F O w0 w (x::hs)):Cx F O w0 w hs:=k.drop 0
theorem Rf.sub {a b:List HP}(h:Rf a b):∃ c,a.Perm (c++b):=by
  induction h with
  | e=>exact⟨[],.refl _⟩
  | z=>rename_i l;exact⟨l,by rw[List.append_nil]⟩
  | k _ ih=>obtain⟨c,hc⟩:=ih;exact⟨c,(List.Perm.cons _ hc).trans List.perm_middle.symm⟩
  | s _ ih=>rename_i x _ _ _;obtain⟨c,hc⟩:=ih;exact⟨x::c,.cons _ hc⟩
theorem Cx.dropl {a b:List HP}(k:Cx F O w0 w (a++b)):Cx F O w0 w b:=by
  induction a with
  | nil=>exact k
  | cons x l ih=>exact ih k.tl
theorem Cx.bC {hs':List HP}(k:Cx F O w0 w hs)(h:Rf hs hs'):Cx F O w0 w hs':=by
  obtain⟨c,hc⟩:=h.sub;exact(k.perm hc).dropl
theorem Cx.pk {x:HP}{hs':List HP}(k:Cx F O w0 w hs)(h:Pick hs x hs'):Cx F O w0 w (x::hs'):=k.perm h.perm
theorem Cx.go {ins rest:List HP}(k:Cx F O w0 w hs)(p:Ol hs ins rest):∃ F1 O1:Nat->Prop,Cx F1 O1 w w ins/\(∀ b,O b->O1 b)/\(∀ (i:Nat) (h:HP),rest[i]?=some h->∃ S R,h.p w S R/\(∀ b,R b->O1 b)/\∀ b,S b->¬ F1 b)/\(∀ b,F1 b->F b∨w0.heap.size<=b) /\
    ∀ w' outs all,Cx F1 O1 w w' outs->App outs rest all->Cx F O w0 w' all:=by
  obtain⟨F1,O1,h1,h2,h3,h4,h5⟩:=(k.perm p.perm).enter;exact⟨F1,O1,h1,h2,h3,h4,fun w' outs all hk ha=>ha.eq▸h5 w' outs hk⟩
inductive Chain (F O:Nat->Prop)(w0:World):List HP->List (World->Prop)->Prop
  | l {h:List HP}:Chain F O w0 h [fun x=>Cx F O w0 x h]
  | c {h h':List HP} {C:List (World->Prop)}:Rf h h'->Chain F O w0 h' C->Chain F O w0 h ((fun x=>Cx F O w0 x h)::C)
theorem Chain.spec {hs:List HP}{C:List (World->Prop)}(h:Chain F O w0 hs C):Rk C/\∀ w,cls C 0 w ↔ Cx F O w0 w hs:=by
  induction h with
  | l=>exact⟨trivial,fun w=>Iff.rfl⟩
  | c h1 hc ih =>
    cases hc with
    | l=>exact⟨⟨fun x hx=>Cx.bC hx h1,trivial⟩,fun w=>Iff.rfl⟩
    | c h2 h3=>exact⟨⟨fun x hx=>Cx.bC hx h1,ih.1⟩,fun w=>Iff.rfl⟩
theorem y7 {id:Nat}{l:List Oper}{C:List (World->Prop)}(hm:P.follows .mixedOrders=true)(π:MT)(Ls:List Nat)(k:Cx F O w0 (w.drewN 1) hs)(ch:Chain F O w0 hs C)
    (hB:(Region.noSelect l.toArray,I4 l.toArray Ls π 0 (Array.replicate l.length false),π.depth == l.length)=(true,true,true)) (h:∀ listed,MX P n l.toArray Ls C (Q .normal) π 0 listed (Kn L) (w.drewN 1)) :
    W P n (.region id l.toArray true) Q L w:=W_mix hm π Ls C hB ch.spec.1 ((ch.spec.2 _).2 k) h
inductive Mid:List SV->List SV->List SV->Prop
  | k {s y ys zs}:Mid s ys zs->Mid s (y::ys) (y::zs)
  | h {s y ys}:Mid [s] (y::ys) (s::ys)
  | h2 {s t y u ys}:Mid [s,t] (y::u::ys) (s::t::ys)
  | h3 {s t r y u v ys}:Mid [s,t,r] (y::u::v::ys) (s::t::r::ys)
  | h4 {s t r q y u v x ys}:Mid [s,t,r,q] (y::u::v::x::ys) (s::t::r::q::ys)
  | all {s ys}:Mid s ys s
theorem Mid.kk {s y u ys zs}(h:Mid s ys zs):Mid s (y::u::ys) (y::u::zs):=.k (.k h)
theorem Mid.dh {s y u v x ys zs}(h:Mid s ys zs):Mid s (y::u::v::x::ys) (y::u::v::x::zs):=.kk (.kk h)
theorem Op_b {K:St->World->Prop}{ty t:TypeId}{p x:Operand}{pos:String}{lD:Array Edge}{g:Option (Nat×Bool)}(ss:List Nat)(i:Nat){pa:Option Addr}(sv:SV)(svs:List SV){bt:TypeId}{b:Nat}{ys zs:List SV}{off:Nat}
    (hp:Pt (some ⟨b,0,none⟩) off pa) (k:Cx F O w0 w hs) (hi:hs[i]?=some (Bx bt b ys)) (md:Mid svs ys zs)
    (hside:(FH ops ss L (⟨none,.store t p x,ty,pos,lD,g⟩:Oper),(none:Option Nat),(toSS [p,x] (lk L)).map SV.vals,Bd P t,cellsS sv,svs.all SV.one1)=(true,none,some [.pointer pa,sv.val],some (SV.width svs),some svs,true))
    (hz:(Xn off (SV.width svs) svs ys).map SV.cl=some (SV.cl zs))
    (hk:∀ w',Cx F O w0 w' (hs.set i (Bx bt b zs))->K L w') :
    EI P n ops L w ⟨none,.store t p x,ty,pos,lD,g⟩ K:=Op_bput ss i zs hside hp k hi hz hk
inductive Vup:List SV->Enc α->{m:Nat}->Vec α m->Vec α m->Nat->List SV->Prop
  | h {E:Enc α} {m:Nat} {x y:Vec α m} {ys}:Vup (.ar E x::ys) E x y 0 (.ar E y::ys)
  | t {E:Enc α} {m o:Nat} {x y:Vec α m} {u ys zs}:Vup ys E x y o zs->Vup (u::ys) E x y (SV.width [u]+o) (u::zs)
theorem Vup.split {E:Enc α}{m o:Nat}{x y:Vec α m}{ys zs:List SV}(h:Vup ys E x y o zs):∃ pre post,ys=pre++.ar E x::post/\zs=pre++.ar E y::post/\o=SV.width pre:=by
  induction h with
  | h=>exact⟨[],_,rfl,rfl,rfl⟩
  | t _ ih =>
    obtain⟨p,q,rfl,rfl,rfl⟩:=ih;exact⟨_::p,q,rfl,rfl,(JM [_] p).symm⟩
theorem Op_vs {K:St->World->Prop}{ty t:TypeId}{p x:Operand}{pos:String}{lD:Array Edge}{g:Option (Nat×Bool)}{E:Enc α}(ss:List Nat)(i:Nat){pa:Option Addr}(sv:SV)(svs:List SV){bt:TypeId}{b:Nat}{m o o':Nat}{x0 x1:Vec α m}{ys zs:List SV}{j:Int}{e0 y:α}{kk:Nat}
    (hv:lK x0 j y=x1) (hx:aU x0.l j=some e0) (hp:Pt (some ⟨b,0,none⟩) (o'+(j.toNat*E.sz+kk)) pa) (k:Cx F O w0 w hs) (hi:hs[i]?=some (Bx bt b ys)) (vu:Vup ys E x0 x1 o zs) (hy:E.f y=pat (E.f e0) kk (SV.cl svs))
    (hside:(FH ops ss L (⟨none,.store t p x,ty,pos,lD,g⟩:Oper),(none:Option Nat),(toSS [p,x] (lk L)).map SV.vals,Bd P t,cellsS sv,svs.all SV.one1,o')=(true,none,some [.pointer pa,sv.val],some (SV.width svs),some svs,true,o))
    (hl:Nat.ble (kk+SV.width svs) E.sz=true)
    (hk:∀ w',Cx F O w0 w' (hs.set i (Bx bt b zs))->K L w') :
    EI P n ops L w ⟨none,.store t p x,ty,pos,lD,g⟩ K:=by
  obtain⟨pre,post,rfl,rfl,rfl⟩:=vu.split;simp only[Prod.mk.injEq] at hside;obtain⟨s1,s2,s3,s4,s5,s6,rfl⟩:=hside;subst hv;exact Op_vst (E:=E) (kk:=kk) (sv:=sv) (svs:=svs) ss i pre post x0 y (by rw[s1,s3,s4,s5,s6]) hp k hi hx hy (Nat.le_of_ble_eq_true hl) hk
end
end Go.Sx
namespace Go.Sx
open Go.RowKit
set_option linter.unusedSimpArgs false
set_option linter.unusedVariables false
variable {α β:Type}
abbrev Hd:=Option Addr×Nat×Nat
def eH:Enc Hd:=⟨1,fun h=>[.slice h.1 h.2.1 h.2.2],fun _=>rfl,fun x v h=>by rw[List.mem_singleton.1 h];rfl⟩
instance:Pos eH:=⟨by decide⟩
def rows (E:Enc α):List Hd->List (List α)->List HP
  | h::hs,x::xs=>Ow E h.1 h.2.1 h.2.2 x::rows E hs xs
  | _,_=>[]
theorem Ve {E:Enc α}{hd:List Hd}{xY:List (List α)}{i:Nat}{h:Hd}{x:List α}(h1:hd[i]?=some h)(h2:xY[i]?=some x):(rows E hd xY)[i]?=some (Ow E h.1 h.2.1 h.2.2 x):=by
  induction hd generalizing xY i with
  | nil=>cases h1
  | cons a az ih =>
    cases xY with
    | nil=>cases h2
    | cons b bs =>
      cases i with
      | zero =>
        simp only[List.getElem?_cons_zero,Option.some.injEq] at h1 h2;subst h1;subst h2;rfl
      | succ i =>
        simp only[List.getElem?_cons_succ] at h1 h2;exact ih h1 h2
theorem PX {E:Enc α}:∀ (hd:List Hd) (xY:List (List α)) (i:Nat) (h:Hd) (x:List α),hd.length=xY.length->(rows E hd xY).set i (Ow E h.1 h.2.1 h.2.2 x)=rows E (hd.set i h) (xY.set i x)
  | [],xY,_,_,_,_=>rfl
  | _::_,[],_,_,_,h=>by cases h
  | a::az,b::bs,0,h,x,_=>rfl
  | a::az,b::bs,i+1,h,x,hl=>by
    simp only[List.length_cons,Nat.add_right_cancel_iff] at hl;simp only[rows,List.set_cons_succ,PX az bs i h x hl]
theorem Vf {E:Enc α}:∀ (hd hd2:List Hd) (xY OJ:List (List α)),hd.length=xY.length->rows E (hd++hd2) (xY++OJ)=rows E hd xY++rows E hd2 OJ
  | [],hd2,[],OJ,_=>rfl
  | [],_,_::_,_,h=>by cases h
  | _::_,_,[],_,h=>by cases h
  | a::az,hd2,b::bs,OJ,hl=>by
    simp only[List.length_cons,Nat.add_right_cancel_iff] at hl;simp only[List.cons_append,rows,Vf az hd2 bs OJ hl]
theorem I5 {E:Enc α}:∀ (hd:List Hd) (xY:List (List α)),hd.length=xY.length->(rows E hd xY).length=hd.length
  | [],_,_=>by simp[rows]
  | _::_,[],h=>by cases h
  | a::az,b::bs,hl=>by
    simp only[List.length_cons,Nat.add_right_cancel_iff] at hl;simp[rows,I5 az bs hl]
def Pk (q:Prop)(l:List HP):HP where
  p w S R:=q/\Sep w l S R
  loc:=by
    rintro w w' S R ⟨h0,h⟩ hk;exact⟨h0,h.keep hk⟩
def O2 (E:Enc α)(A:Option Addr)(n c:Nat)(hd:List Hd)(xY:List (List α)):HP:=Pk (hd.length=xY.length) (Ow eH A n c hd::rows E hd xY)
def O2x (E:Enc α)(A:Option Addr)(n c:Nat)(hd:List Hd)(xY:List (List α))(i:Nat):HP:=Pk (hd.length=xY.length) (Ow eH A n c hd::(rows E hd xY).eraseIdx i)
section
variable {F O:Nat->Prop}{w0 w w':World}{hs rest:List HP}
theorem PY {β:Type}{l:List β}{i:Nat}{x:β}(h:l[i]?=some x):l.Perm (x::l.eraseIdx i):=by
  induction l generalizing i with
  | nil=>cases h
  | cons y l ih =>
    cases i with
    | zero =>
      simp only[List.getElem?_cons_zero,Option.some.injEq] at h;subst h;exact .refl _
    | succ i =>
      simp only[List.getElem?_cons_succ] at h;simp only[List.eraseIdx_cons_succ];exact(List.Perm.cons _ (ih h)).trans (.swap _ _ _)
theorem PZ {β:Type}{l:List β}{i:Nat}(x:β)(h:i < l.length):(x::l.eraseIdx i).Perm (l.set i x):=by
  have h1:(l.set i x)[i]?=some x:=by simp[h]
  have h2:=PY h1;rw[List.eraseIdx_set_eq] at h2;exact h2.symm
theorem Cx.unpk {q:Prop}{l:List HP}(k:Cx F O w0 w (Pk q l::rest)):q/\Cx F O w0 w (l++rest):=by
  obtain⟨U,V,⟨S,R,U',V',⟨hq,h1⟩,h2,h3,h4,h5,h6⟩,hU,hV⟩:=k.sep;refine⟨hq,k.os,k.tape,k.output,k.size,k.block,k.fin,k.Rj,_,_,Sep.join h1 h2 (fun b hb=>⟨(h5 b hb).1,(h5 b hb).2.2⟩) h6,fun b hb=>hU b ((h3 b).2 hb),fun b hb=>hV b ((h4 b).2 hb)⟩
theorem Cx.ZF {q:Prop}{l:List HP}(hq:q)(k:Cx F O w0 w (l++rest)):Cx F O w0 w (Pk q l::rest):=by
  obtain⟨U,V,h,hU,hV⟩:=k.sep;obtain⟨U1,V1,U2,V2,e1,e2,e3,e4,e5,e6⟩:=Sep.split h;refine⟨k.os,k.tape,k.output,k.size,k.block,k.fin,k.Rj,U,V,⟨U1,V1,U2,V2,⟨hq,e1⟩,e2,e3,e4,fun b hb=>⟨(e5 b hb).1,fun hr=>Sep.apart e1 b hb hr,(e5 b hb).2⟩,e6⟩,hU,hV⟩
theorem O2.parts {E:Enc α}{A:Option Addr}{n c:Nat}{hd:List Hd}{xY:List (List α)}{S R:Nat->Prop}(h:(O2 E A n c hd xY).p w S R) :
    hd.length=xY.length/\(∃ S' R',(Ow eH A n c hd).p w S' R'/\∀ b,S' b->S b)/\∀ (j:Nat) (h:Hd) (x:List α),hd[j]?=some h->xY[j]?=some x->∃ S' R',(Ow E h.1 h.2.1 h.2.2 x).p w S' R'/\∀ b,S' b->S b:=by
  obtain⟨hl,hS⟩:=h;refine⟨hl,?_,fun j h x h1 h2=>?_⟩
  ·obtain⟨S',R',U',V',e1,e2,e3,_⟩:=Sep.cut (i:=0) rfl hS;exact⟨S',R',e1,fun b hb=>(e3 b).2 (.inl hb)⟩
  ·obtain⟨S',R',U',V',e1,e2,e3,_⟩:=Sep.cut (i:=j+1) (by rw[List.getElem?_cons_succ];exact Ve h1 h2) hS;exact⟨S',R',e1,fun b hb=>(e3 b).2 (.inl hb)⟩
theorem Cx.hd2 {E:Enc α}{A:Option Addr}{n c:Nat}{hd:List Hd}{xY:List (List α)}(k:Cx F O w0 w hs)(i:Nat)(hi:hs[i]?=some (O2 E A n c hd xY)):Rd w A (eH.all hd):=by
  obtain⟨S,R,h⟩:=k.get i hi;obtain⟨_,⟨S',R',h1,_⟩,_⟩:=O2.parts h;exact Ow.rd' h1
theorem Cx.nT {E:Enc α}{A:Option Addr}{n c:Nat}{hd:List Hd}{xY:List (List α)}(k:Cx F O w0 w hs)(i:Nat)(hi:hs[i]?=some (O2 E A n c hd xY)):xY.length=n:=by
  obtain⟨S,R,h⟩:=k.get i hi;obtain⟨hl,⟨S',R',h1,_⟩,_⟩:=O2.parts h;rw[<- hl];exact h1.1
theorem Cx.hlen2 {E:Enc α}{A:Option Addr}{n c:Nat}{hd:List Hd}{xY:List (List α)}(k:Cx F O w0 w hs)(i:Nat)(hi:hs[i]?=some (O2 E A n c hd xY)):hd.length=n:=by
  obtain⟨S,R,h⟩:=k.get i hi;obtain⟨hl,⟨S',R',h1,_⟩,_⟩:=O2.parts h;exact h1.1
theorem Ow.lec' {E:Enc α}{A:Option Addr}{n c:Nat}{xs:List α}{S R:Nat->Prop}(h:(Ow E A n c xs).p w S R):n<=c:=by
  rcases h.2 with⟨_,h1,h2⟩ | ⟨g,t,cur,_,_,h3,_⟩ <;> omega
theorem Cx.at2 {E:Enc α}{A:Option Addr}{n c:Nat}{hd:List Hd}{xY:List (List α)}{j:Int}{x:List α}(k:Cx F O w0 w hs)(i:Nat)(hi:hs[i]?=some (O2 E A n c hd xY))(hx:aU xY j=some x):∃ B d,aU hd j=some (B,x.length,d)/\x.length<=d:=by
  obtain⟨S,R,h⟩:=k.get i hi;obtain⟨hl,_,h2⟩:=O2.parts h;obtain⟨h0,h1⟩:=bz hx;have hlt:=(List.getElem?_eq_some_iff.1 h1).1;have hh:hd[j.toNat]?=some (hd[j.toNat]'(hl▸hlt)):=List.getElem?_eq_getElem _;obtain⟨S',R',hp,_⟩:=h2 _ _ _ hh h1;refine⟨(hd[j.toNat]'(hl▸hlt)).1,(hd[j.toNat]'(hl▸hlt)).2.2,?_,?_⟩
  ·unfold aU;rw[if_pos h0,hh,hp.1]
  ·rw[hp.1];exact Ow.lec' hp
theorem Eg {β:Type}{l:List β}{j:Int}{x:β}(h:aU l j=some x):l[j.toNat]?=some x:=(bz h).2
theorem Cx.in2 {E:Enc α}{A:Option Addr}{n c m:Nat}{hd:List Hd}{xY:List (List α)}{j:Int}{x:List α}{B:Option Addr}{d:Nat}(k:Cx F O w0 w hs)(i:Nat)(hi:hs[i]?=some (O2 E A n c hd xY))(hx:aU xY j=some x)(hh:aU hd j=some (B,m,d)):Rd w B (E.all x):=by
  obtain⟨S,R,h⟩:=k.get i hi;obtain⟨hl,_,h2⟩:=O2.parts h;obtain⟨S',R',hp,_⟩:=h2 _ _ _ (Eg hh) (Eg hx);exact Ow.rd' hp
theorem Cx.R_ {E:Enc α}{A:Option Addr}{n c m:Nat}{hd:List Hd}{xY:List (List α)}{j:Int}{x:List α}{B:Option Addr}{d:Nat}(k:Cx F O w0 w (O2 E A n c hd xY::rest))(hx:aU xY j=some x)(hh:aU hd j=some (B,m,d)):Cx F O w0 w (O2x E A n c hd xY j.toNat::Ow E B m d x::rest):=by
  obtain⟨hl,k1⟩:=k.unpk;have hg:=Ve (E:=E) (Eg hh) (Eg hx);refine Cx.ZF hl (k1.perm ?_);simp only[List.cons_append];refine .cons _ (List.Perm.trans (List.Perm.append_right rest (PY hg)) ?_);simp only[List.cons_append];exact List.perm_middle.symm
theorem Cx.TB {E:Enc α}{A:Option Addr}{n c m:Nat}{hd:List Hd}{xY:List (List α)}{j:Int}{x y:List α}{B:Option Addr}{d:Nat}(hx:aU xY j=some x)(hh:aU hd j=some (B,m,d))(k:Cx F O w0 w (O2x E A n c hd xY j.toNat::Ow E B m d y::rest)):Cx F O w0 w (O2 E A n c hd (xY.set j.toNat y)::rest):=by
  obtain⟨hl,k1⟩:=k.unpk;refine Cx.ZF (by simpa using hl) (k1.perm ?_);have hs:hd.set j.toNat (B,m,d)=hd:=by
    obtain⟨h1,h2⟩:=List.getElem?_eq_some_iff.1 (Eg hh);rw[<- h2];exact List.set_getElem_self h1
  have hr:=PX (E:=E) hd xY j.toNat (B,m,d) y hl;rw[hs] at hr;simp only[List.cons_append];refine .cons _ (List.Perm.trans List.perm_middle ?_);rw[<- hr,<-List.cons_append];exact List.Perm.append_right rest (PZ _ (by rw[I5 _ _ hl];exact(List.getElem?_eq_some_iff.1 (Eg hh)).1))
theorem Cx.nil2 (k:Cx F O w0 w hs)(E:Enc α):Cx F O w0 w (hs++[O2 E Option.none 0 0 [] []]):=by
  have k1:=k.nil eH;have k2:Cx F O w0 w (([Ow eH Option.none 0 0 []]:List HP)++hs):=k1.perm List.perm_append_comm;have k3:=Cx.ZF (q:=([]:List Hd).length=([]:List (List α)).length) rfl k2;exact k3.perm (List.perm_append_comm (l₁:=[_]))
end
section
variable {F O F1 O1:Nat->Prop}{w0 w w':World}{hs rest:List HP}{E:Enc α}{A:Option Addr}{hd:List Hd}{xY:List (List α)}
end
section
variable {P:Program}{n:Nat}{ops:Array Oper}{L:St}{w w0:World}{F O:Nat->Prop}{hs rest:List HP}{K:St->World->Prop}
theorem Op_mk2 {dst:Option Nat}{t ty:TypeId}{len:Nat}{parts:Array (Nat×Operand)}{pos:String}{lD:Array Edge}{g:Option (Nat×Bool)}{e:TypeId}{zs:List Value}{bytes:Nat}(tf:TF P t e zs bytes)
    (E:Enc α) (ss:List Nat) (d:Nat) (hd:List Hd) (xY:List (List α)) (ps:List (Nat×SV)) (svs:List SV)
    (hside:(FH ops ss L ⟨dst,.buildSlice t len parts,ty,pos,lD,g⟩,dst,(decide (d < n)),(L.any fun p=>p.1 == d),(toPS parts.toList (lk L)).map (·.map fun p=>(p.1,p.2.val)))=(true,some d,true,false,some (ps.map fun p=>(p.1,p.2.val))))
    (hf:(LH (fun i=>some (i*zs.length,zs.length)) ((List.replicate len zs).flatten.map KG) ps,decide (len*zs.length<=16777216),hd.length,eH.sz)=(some svs,true,len,zs.length)) (hx:SV.cl svs=eH.all hd) (hl:hd.length=xY.length)
    (k:Cx F O w0 w (rows E hd xY++rest)) (hk:∀ A w',Cx F O w0 w' (O2 E A len len hd xY::rest)->K ((d,.v (.slice A len len))::L) w') :
    EI P n ops L w ⟨dst,.buildSlice t len parts,ty,pos,lD,g⟩ K:=by
  refine oJ tf eH ss d hd ps svs hside hf hx k fun A w' k'=>hk A w' (Cx.ZF hl (k'.perm ?_));exact(List.perm_append_comm (l₂:=[_])).trans (List.Perm.refl _)
theorem XF {dst:Option Nat}{x y:Operand}{t t2 ty:TypeId}{pos:String}{lD:Array Edge}{g:Option (Nat×Bool)}{e:TypeId}{zs:List Value}{bytes:Nat}(tf:TF P t e zs bytes)
    {E:Enc α} (ss:List Nat) (d:Nat) {A A2:Option Addr} {n1 n2 c c2:Nat} {hd hd2:List Hd} {xY OJ:List (List α)}
    (hside:(FH ops ss L ⟨dst,.call ⟨.builtin .append,#[x,y],#[t,t2]⟩,ty,pos,lD,g⟩,dst,(decide (d < n)),(L.any fun p=>p.1 == d),(toSS [x,y] (lk L)).map SV.vals,(match P.underlying t2 with | some (.slice _)=>true | some .string=>true | _=>false),1)=(true,some d,true,false,some [.slice A n1 c,.slice A2 n2 c2],true,zs.length))
    (k:Cx F O w0 w (O2 E A n1 c hd xY::O2 E A2 n2 c2 hd2 OJ::rest)) (hroom:(n1+n2)*bytes<=140737488355328)
    (hk:∀ A' c' w',Cx F O w0 w' (O2 E A' (n1+n2) c' (hd++hd2) (xY++OJ)::rest)->K ((d,.v (.slice A' (n1+n2) c'))::L) w') :
    EI P n ops L w ⟨dst,.call ⟨.builtin .append,#[x,y],#[t,t2]⟩,ty,pos,lD,g⟩ K:=by
  have hl2:hd2.length=n2:=k.hlen2 1 rfl;have hrd:=k.hd2 1 rfl;obtain⟨hl,k1⟩:=k.unpk;have k2:Cx F O w0 w (O2 E A2 n2 c2 hd2 OJ::((Ow eH A n1 c hd::rows E hd xY)++rest)):=k1.perm (by simp only[List.cons_append];exact List.perm_middle (l₁:=_::_));obtain⟨hl',k3⟩:=k2.unpk;have hz:(1:Nat)=zs.length:=by simp only[Prod.mk.injEq] at hside;exact hside.2.2.2.2.2.2
  have k4:Cx F O w0 w (Ow eH A n1 c hd::(Ow eH A2 n2 c2 hd2::(rows E hd2 OJ++(rows E hd xY++rest)))):=k3.perm (by
    simp only[List.cons_append];exact(List.Perm.cons _ List.perm_middle).trans (.swap _ _ _))
  refine di (E:=eH) (v:=.v (.slice A2 n2 c2)) (ys:=hd2) tf ss d 0 hside k4 rfl (Src.sl hrd hl2 hz) hl2 hroom fun A' c' w' k'=>hk A' c' w' ?_;have k5:Cx F O w0 w' (Ow eH A' (n1+n2) c' (hd++hd2)::(rows E hd2 OJ++(rows E hd xY++rest))):=(k'.perm (.swap _ _ _)).tl;refine Cx.ZF (by simp[hl,hl']) (k5.perm ?_);rw[Vf hd hd2 xY OJ hl];simp only[List.cons_append,List.append_assoc];refine .cons _ ?_;rw[<- List.append_assoc,<-List.append_assoc];exact List.Perm.append_right rest List.perm_append_comm
theorem Op_st2 {ty t:TypeId}{p x:Operand}{pos:String}{lD:Array Edge}{g:Option (Nat×Bool)}{E:Enc α}(ss:List Nat){pa:Option Addr}{A B A2:Option Addr}{n1 c m d m2 d2:Nat}{hd:List Hd}{xY:List (List α)}{j:Int}{y:List α}
    (hside:(FH ops ss L (⟨none,.store t p x,ty,pos,lD,g⟩:Oper),(none:Option Nat),(toSS [p,x] (lk L)).map SV.vals,Bd P t)=(true,none,some [.pointer pa,.slice A2 m2 d2],some 1))
    (hp:Pt A (j.toNat*eH.sz+0) pa) (hh:aU hd j=some (B,m,d)) (k:Cx F O w0 w (O2x E A n1 c hd xY j.toNat::Ow E A2 m2 d2 y::rest))
    (hk:∀ w',Cx F O w0 w' (O2 E A n1 c (hd.set j.toNat (A2,m2,d2)) (xY.set j.toNat y)::rest)->K L w') :
    EI P n ops L w ⟨none,.store t p x,ty,pos,lD,g⟩ K:=by
  obtain⟨hl,k1⟩:=k.unpk;simp only[List.cons_append] at k1;have hA:A.isSome=true:=sG (E:=eH) (k1.rd 0 rfl) (by decide) (gy hh).1 (Eg hh);refine zD (E:=eH) (kk:=0) (sv:=.v (.slice A2 m2 d2)) (svs:=[.v (.slice A2 m2 d2)]) ss 0 (j:=j.toNat) (x0:=(B,m,d)) (A2,m2,d2) (by
    simp only[Prod.mk.injEq] at hside ⊢;exact⟨hside.1,hside.2.1,hside.2.2.1,hside.2.2.2,rfl,rfl⟩) hp k1 rfl (Eg hh) hA rfl (Nat.le_refl 1) fun w' k'=>hk w' (Cx.ZF (by simpa using hl) ?_)
  rw[List.set_cons_zero] at k';refine k'.perm ?_;simp only[List.cons_append];refine .cons _ (List.Perm.trans List.perm_middle ?_);have hr:=PX (E:=E) hd xY j.toNat (A2,m2,d2) y hl;rw[<- hr,<-List.cons_append];exact List.Perm.append_right rest (PZ _ (by rw[I5 _ _ hl];exact(List.getElem?_eq_some_iff.1 (Eg hh)).1))
end
section
variable {P:Program}{n:Nat}{Q:Act->World->Prop}{ops:Array Oper}{Ls:List Nat}{C:List (World->Prop)}{L L':St}{w:World}{π:MT}{p:Nat}
theorem ZG (L':St)(hk:L'.map (fun p=>(find L p.1).map SV.val)=L'.map (fun p=>some p.2.val)){listed:Array Bool}(h:MX P n ops Ls C Q π p listed (Kn L') w):MX P n ops Ls C Q π p listed (Kn L) w :=
  fun hns hmo hB hw=>JK (q:=fun a w=>wpC P ops Ls (cls C) Q π.depth p listed a w) L' hk (fun a ha=>h hns hmo hB hw a ha)
theorem MX_sp (k:Nat)(c:Bool)(b:Bl L L')(hk:((k,SV.b c)::L').map (fun p=>(find L p.1).map SV.val)=((k,SV.b c)::L').map (fun p=>some p.2.val))
    (h1:c=true->∀ listed,MX P n ops Ls C Q π p listed (Kn ((k,.b true)::L')) w) (h2:c=false->∀ listed,MX P n ops Ls C Q π p listed (Kn ((k,.b false)::L')) w) {listed:Array Bool}:MX P n ops Ls C Q π p listed (Kn L) w:=by
  refine ZG ((k,SV.b c)::L') hk ?_;cases c with
  | true=>exact h1 rfl listed
  | false=>exact h2 rfl listed
theorem MX_off {i:Nat}{o:Oper}(d:Nat)(ss:List Nat)(hl:Ls.contains i=true)(ho:ops[i]?=some o)(hs:((U3 ops o).map (settled ss (Kn L)),o.dst,decide (d < n),L.any fun p=>p.1 == d)=(some (some false),some d,true,false))
    (h:∀ listed,MX P n ops Ls C Q π (p+1) listed (Kn ((d,.pX [])::L)) w) {listed:Array Bool}:MX P n ops Ls C Q (.op i π) p listed (Kn L) w:=by
  intro hns hmo hB hw a ha;simp only[Prod.mk.injEq,decide_eq_true_eq,Option.map_eq_some_iff] at hs;obtain⟨⟨g,hg,hse⟩,hd,hn,hnew⟩:=hs;have hnx:nx Ls p i=p+1:=by unfold nx;rw[if_pos hl]
  simp only[I4,Bool.and_eq_true,beq_iff_eq,hnx] at hB;obtain⟨hr,hB⟩:=hB;obtain⟨k,wv,rfl,_,h2⟩:=Ef ha hse;have hnw:Region.wanted o (yielded ops a.tmps)=false:=by
    cases hwant:Region.wanted o (yielded ops a.tmps) with
    | true=>exact absurd ((Ee hg).1 hwant k wv rfl) (h2 rfl)
    | false=>rfl
  refine⟨fun h0=>(by rw[h0] at hr;cases hr),fun j hj=>?_⟩;rw[hr] at hj;simp only[List.mem_singleton] at hj;subst hj;have hc:=hmo.le p (p+1) w (by omega) hw;unfold wpOp;simp only[ho,hnx];rw[if_neg (by simp[hnw]),hd];exact⟨hc,h _ hns hmo hB hc _ (ha.more (x:=.pX []) hn hnew)⟩
end
theorem Rd.nilA {w:World}{A:Option Addr}{cs:List Value}(h:Rd w A cs)(hA:A.isNone=true):cs=[]:=by
  cases cs with
  | nil=>rfl
  | cons v vs =>
    have:=h.isSome (off:=0) (v:=v) rfl;cases A <;> simp_all
theorem all_nil {E:Enc α}[hp:Pos E]{xs:List α}(h:E.all xs=[]):xs=[]:=by
  cases xs with
  | nil=>rfl
  | cons x xs =>
    have:=congrArg List.length h;rw[Enc.fU] at this;have hq:=hp.1;simp only[List.length_cons,List.length_nil] at this;exact absurd this (Nat.ne_of_gt (Nat.mul_pos (Nat.succ_pos _) hq))
end Go.Sx
namespace Go.Sx
open Go.ChangeShapes Go.WideShapes Go.ChangeAt Go.RowKit
set_option linter.unusedSimpArgs false
set_option linter.unusedVariables false
variable {α σ ρ:Type}
theorem bu {n:Int}(h:-9223372036854775808<=n/\n < 9223372036854775808):ay n=n:=by
  simp only[ay,IntKind.wrap,IntKind.signed,IntKind.bits,reduceIte];simp only[show(2:Int) ^ 64=18446744073709551616 from rfl,show(2:Int) ^ 63=9223372036854775808 from rfl,show(2:Nat) ^ 64=18446744073709551616 from rfl,show(2:Nat) ^ 63=9223372036854775808 from rfl,show(64 - 1:Nat)=63 from rfl]
  first | omega | (simp;omega)
theorem LQ {xs:List α}{i:Nat}{x:α}(h:xs[i]?=some x):aU xs (i:Int)=some x:=by
  unfold aU;rw[if_pos (by omega)];simpa using h
theorem gK {xs ys:List α}{b:Nat}(h:(xs.length+ys.length)*b<=140737488355328):app xs ys b=some (xs++ys):=by
  unfold app;rw[if_pos h]
theorem jo {p:Prop}[Decidable p](h:p):need p=some ():=by
  unfold need;rw[if_pos h]
theorem zG {xs:List α}{lo hi:Int}(h:0<=lo/\lo<=hi/\hi<=xs.length):G6 xs lo hi=some ((xs.take hi.toNat).drop lo.toNat):=by
  unfold G6;rw[if_pos h]
theorem mX {f:σ->Option (σ⊕ρ)}(P:Nat->σ->Prop)(Q:ρ->Prop)(n:Nat)
    (h:∀ i s,P i s->(i < n/\∃ s',f s=some (.inl s')/\P (i+1) s')∨∃ r,f s=some (.inr r)/\Q r) :
    ∀ s,P 0 s->∃ r,aY f s=some r/\Q r:=by
  have key:∀ k i s,n - i<=k->P i s->∃ r,aY f s=some r/\Q r:=by
    intro k
    induction k with
    | zero =>
      intro i s hk hp;rcases h i s hp with⟨hi,_⟩ | ⟨r,hr,hq⟩
      ·omega
      ·exact⟨r,jl hr,hq⟩
    | succ k ih =>
      intro i s hk hp;rcases h i s hp with⟨hi,s',hs',hp'⟩ | ⟨r,hr,hq⟩
      ·rw[mF hs'];exact ih (i+1) s' (by omega) hp'
      ·exact⟨r,jl hr,hq⟩
  exact fun s hp=>key n 0 s (by omega) hp
theorem mY {f:σ->Option (σ⊕ρ)}(P:Nat->σ->Prop)(r:ρ)(n:Nat)(s:σ)(h0:P 0 s)
    (h:∀ i s,P i s->(i < n/\∃ s',f s=some (.inl s')/\P (i+1) s')∨f s=some (.inr r)):aY f s=some r:=by
  obtain⟨r',h1,rfl⟩:=mX P (fun r'=>r'=r) n (fun i s hp=>(h i s hp).imp id fun e=>⟨r,e,rfl⟩) s h0;exact h1
theorem gp {f:σ->Option (σ⊕ρ)}(s:Nat->σ)(n:Nat){r:ρ}(h:∀ i,i < n->f (s i)=some (.inl (s (i+1))))(he:f (s n)=some (.inr r)):aY f (s 0)=some r :=
  mY (fun i x=>x=s i/\i<=n) r n (s 0) ⟨rfl,by omega⟩ (by
    rintro i x ⟨rfl,hi⟩;by_cases hlt:i < n
    ·exact .inl ⟨hlt,_,h i hlt,rfl,by omega⟩
    ·obtain rfl:i=n:=by omega
     exact .inr he)
theorem wf_u8 {n:Int}(h:(Lit.int .u8 n).wf=true):0<=n/\n<=255:=by
  simpa [Lit.wf,IntKind.min,IntKind.max,IntKind.signed,IntKind.bits] using h
theorem wf_u32 {n:Int}(h:(Lit.int .u32 n).wf=true):0<=n/\n<=4294967295:=by
  simpa [Lit.wf,IntKind.min,IntKind.max,IntKind.signed,IntKind.bits] using h
theorem XG {n:Int}(h:(Lit.int .u8 n).wf=true):∃ x:UInt8,Value.int .u8 n=SV.val (.u8 x):=by
  have:=wf_u8 h;refine⟨UInt8.ofNat n.toNat,?_⟩;simp only[SV.val,Value.int.injEq,true_and];simp;omega
theorem YK {n:Int}(h:(Lit.int .u32 n).wf=true):∃ x:UInt32,Value.int .u32 n=SV.val (.u32 x):=by
  have:=wf_u32 h;refine⟨UInt32.ofNat n.toNat,?_⟩;simp only[SV.val,Value.int.injEq,true_and];simp;omega
section
variable {H:Type}{enc:TypeId×Value->H}{P:Program}{w:World}{held:Bool}
end
end Go.Sx
namespace Go.Sx
open Go.RowKit Go.ChangeShapes Go.WideShapes Go.ChangeAt
set_option linter.unusedSimpArgs false
set_option linter.unusedVariables false
section
variable {P:Program}{n:Nat}{ops:Array Oper}{L:St}{w:World}{K:St->World->Prop}
end
section
variable {α:Type}{F O:Nat->Prop}{w0 w:World}{hs:List HP}
end
section
variable {α:Type}{F O:Nat->Prop}{w0 w:World}{hs rest:List HP}{E:Enc α}{A:Option Addr}{n c m:Nat}{hd:List Hd}{xY:List (List α)}
end
theorem Vg {P:Program}{w:World}{g:Nat}{cur:Array Value}{t:TypeId}(h:Rw w g cur t):∃ w',(markStringish ⟨g,0,Option.none⟩).run P w=.ok () w'/\Rw w' g cur t/\w.grownBy w' (some g)/\w'.heap.size=w.heap.size:=by
  obtain⟨⟨lo,hi⟩,h,hn⟩:=h;have hsh:w.shape? g=some (t,cur.size):=by simp[World.shape?,h]
  refine⟨w.freeze { block:=g,off:=cur.size } 1,?_,⟨if lo == hi then(cur.size,cur.size+1) else(min lo cur.size,max hi (cur.size+1)),?_,?_⟩,⟨rfl,rfl,rfl,by simp[World.freeze],fun k hk hne=>?_⟩,by simp[World.freeze]⟩
  ·simp[markStringish,shape,Sem.run,hsh,freeze]
  ·simp[World.freeze,Array.getElem?_modify,h]
  ·unfold NF at *;split
   ·exact .inr (Nat.le_refl _)
   ·rename_i hne;right;have hne':lo≠hi:=by simpa using hne
    rcases hn with h1 | h1
    ·exact absurd h1.symm hne'
    ·simp only at h1 ⊢;omega
  ·have:¬ g=k:=fun e=>hne (by rw[e]);simp[World.freeze,Array.getElem?_modify,this]
section
variable {P:Program}{n:Nat}{ops:Array Oper}{L:St}{w w0:World}{F O:Nat->Prop}{hs:List HP}{K:St->World->Prop}
theorem FO {dst:Option Nat}{x:Operand}{t ty:TypeId}{pos:String}{lD:Array Edge}{g:Option (Nat×Bool)}(e:TypeId)(ss:List Nat)(d i:Nat){A:Option Addr}{n1 c:Nat}{xs:List UInt8}
    (hside:(FH ops ss L ⟨dst,.convert t t x,ty,pos,lD,g⟩,dst,(decide (d < n)),(L.any fun p=>p.1 == d),(toSS [x] (lk L)).map SV.vals,P.underlying t,P.underlying e)=(true,some d,true,false,some [.slice A n1 c],some (.slice e),some (.int .u8)))
    (k:Cx F O w0 w hs) (hi:hs[i]?=some (Ow e8 A n1 c xs)) (hn:0 < n1) (hk:∀ w',Cx F O w0 w' (hs.set i (Ow e8 A n1 c xs))->K ((d,.v (.slice A n1 c))::L) w') :
    EI P n ops L w ⟨dst,.convert t t x,ty,pos,lD,g⟩ K:=by
  simp only[Prod.mk.injEq,Option.map_eq_some_iff,decide_eq_true_eq] at hside;obtain⟨s1,rfl,s3,s4,⟨svs,s5,s6⟩,h1,h2⟩:=hside;refine CE (xs:=[x]) (svs:=svs) ss (d:=d) (by simp[Side,s1,s3,s4,s5]) fun a ha he=>?_;rw[s6] at he;simp only[List.map_cons,List.map_nil,List.cons.injEq,and_true] at he;obtain⟨S,R,hS⟩:=k.get i hi;rcases hS.2 with⟨_,h0,_⟩ | ⟨g',t',cur,rfl,hr,hrest⟩
  ·omega
  obtain⟨w',hm1,hm2,hm3,hm4⟩:=Vg (P:=P) hr;have hrun:(execOp a.eval ⟨some d,.convert t t x,ty,pos,lD,g⟩).run P w=.ok (.value (.slice (some ⟨g',0,Option.none⟩) n1 c)) w':=by
    unfold execOp;simp only[he,convert,Sem.run_bind,run_underlying h1,run_underlying h2,Result.andThen_ok,beq_self_eq_true,hm1,Sem.run_pure]
  unfold Oper.wp;rw[hrun];refine⟨.v (.slice (some ⟨g',0,Option.none⟩) n1 c),rfl,hk w' ?_⟩;refine k.U6 i hi (some g') hm3 fun S R hS hlt=>?_;rcases hS.2 with⟨h0,_⟩ | ⟨g2,t2,cur2,e1,hr2,hrest2⟩
  ·cases h0
  ·simp only[Option.some.injEq,Addr.mk.injEq,and_true] at e1;subst e1;obtain⟨w2,hm1',hm2',_,_⟩:=Vg (P:=P) hr2;rw[hm1] at hm1';simp only[Result.ok.injEq,true_and] at hm1';subst hm1';refine⟨fun g3 hg=>(by simp only[Option.some.injEq] at hg;subst hg;exact hrest2.2.2.2.2),S,fun _=>False,⟨hS.1,.inr ⟨g',t2,cur2,rfl,hm2',hrest2⟩⟩,fun b hb=>⟨by rw[hm4];exact hlt b hb,.inl hb⟩,fun _ h=>h⟩
end
section
variable {P:Program}{n:Nat}{Q:Exit->Act->World->Prop}{L L':St}{w:World}{c:Code}
def Lp (P:Program)(c:Code)(Q:Exit->Act->World->Prop)(a:Act)(w:World):Prop :=
  ∀ b k cs,∃ e a' w',Q e a' w'/\Arrives P (lone (b.at a (.code c::.inLoop c::k)) cs w) b k cs e a' w'
theorem Lp.start {a:Act}(h:Lp P c Q a w):(Code.loop c).wp P Q a w:=by
  intro b k cs;obtain⟨e,a',w',hq,harr⟩:=h b k cs;exact⟨e,a',w',hq,.of_steps (.one step_loop) harr⟩
theorem Lp.round {a:Act}(h:c.wp P (Exit.then (Lp P c Q) Q) a w):Lp P c Q a w:=by
  intro b k cs;obtain⟨e,a₁,w₁,hq,harr⟩:=h b (.inLoop c::k) cs;cases e with
  | normal =>
    obtain⟨e₂,a₂,w₂,hq₂,harr₂⟩:=hq b k cs;exact⟨e₂,a₂,w₂,hq₂,.of_steps (Steps.trans harr (.one step_inLoop)) harr₂⟩
  | exit id=>exact⟨_,a₁,w₁,hq,.pass (x:=.inLoop c) rfl (fun _ _=>.inl (by simp)) harr⟩
  | goto l=>exact⟨_,a₁,w₁,hq,.pass (x:=.inLoop c) rfl (fun _ _=>.inl (by simp)) harr⟩
  | ret=>exact⟨_,a₁,w₁,hq,.pass (x:=.inLoop c) rfl (fun _ _=>.inl (by simp)) harr⟩
  | panic ch=>exact⟨_,a₁,w₁,hq,.pass (x:=.inLoop c) rfl (fun _ _=>.inl (by simp)) harr⟩
  | outgrown=>exact⟨_,a₁,w₁,hq,.pass (x:=.inLoop c) rfl (fun _ _=>.inl (by simp)) harr⟩
theorem ZH (h:W P n c (Exit.then (Lp P c Q) Q) L w):W P n (.loop c) Q L w:=fun a ha=>Lp.start (Lp.round (h a ha))
theorem uG (h:W P n c (Exit.then (Lp P c Q) Q) L w):At n (Exit.then (Lp P c Q) Q .normal) L w:=fun a ha=>Lp.round (h a ha)
end
section
variable {P:Program}{n:Nat}{ops:Array Oper}{L:St}{w:World}{K:St->World->Prop}
end
def TC (s:List UInt8)(c:UInt8):Int:=firstIdx ⟨⟨s⟩⟩ c
structure IsIx (P:Program)(f:FuncId):Prop where
  ok : ∃ fn, P.funcs[f]? = some fn /\ (fn.name == "runtime.NumGoroutine") = false /\ fn.body.isNone = true /\ Extern.findNext fn = none /\ Extern.find fn = some Extern.BytealgIndexByte.indexByte
section
variable {P:Program}{n:Nat}{ops:Array Oper}{L:St}{w:World}{K:St->World->Prop}
theorem Op_idxb {dst:Option Nat}{f:FuncId}{xs:Array Operand}{ats:Array TypeId}{ty:TypeId}{pos:String}{lD:Array Edge}{g:Option (Nat×Bool)}(hf:IsIx P f)(ss:List Nat)(d:Nat)(s:List UInt8)(c:UInt8)
    (hs:(FH ops ss L ⟨dst,.call ⟨.value (.func f),xs,ats⟩,ty,pos,lD,g⟩,dst,(decide (d < n)),(L.any fun p=>p.1 == d),(toSS xs.toList (lk L)).map SV.vals)=(true,some d,true,false,some [.string ⟨⟨s⟩⟩,.int .u8 c.toNat]))
    (hk:K ((d,I (TC s c))::L) w):EI P n ops L w ⟨dst,.call ⟨.value (.func f),xs,ats⟩,ty,pos,lD,g⟩ K:=by
  simp only[Prod.mk.injEq,Option.map_eq_some_iff,decide_eq_true_eq] at hs;obtain⟨s1,s2,s3,s4,⟨vs,s5,s6⟩⟩:=hs;subst s2;refine CE (xs:=xs.toList) (svs:=vs) ss (d:=d) (by simp[Side,s1,s3,s4,s5]) fun a ha he=>?_;rw[s6] at he;have hargs:(#[]++xs.map a.eval++#[]:Array Value)=#[.string ⟨⟨s⟩⟩,.int .u8 c.toNat]:=by
    apply Array.ext';simpa using he
  obtain⟨fn,h1,h2,h3,h4,h5⟩:=hf.ok;have hrun:(execOp a.eval ⟨some d,.call ⟨.value (.func f),xs,ats⟩,ty,pos,lD,g⟩).run P w=.ok (.value (SV.val (I (TC s c)))) w:=by
    show(callFunc f (#[]++xs.map a.eval++#[])).run P w=_;rw[hargs,run_callFunc_extern h1 h2 h3 h4 h5,run_indexByte_string];have e:((c.toNat:Int)).toNat.toUInt8=c:=by simp
    rw[e];rfl
  unfold Oper.wp;rw[hrun];exact⟨_,rfl,hk⟩
end
def eQ:Enc (Option Addr):=⟨1,fun a=>[.pointer a],fun _=>rfl,fun x v h=>by rw[List.mem_singleton.1 h];rfl⟩
instance:Pos eQ:=⟨by decide⟩
theorem exlist {β:Type}{Q:Nat->β->Prop}:∀ (n:Nat),(∀ i,i < n->∃ y,Q i y)->∃ l:List β,l.length=n/\∀ (i:Nat) (y:β),l[i]?=some y->Q i y
  | 0,_=>⟨[],rfl,fun i y h=>by cases h⟩
  | n+1,h=>by
    obtain⟨l,hl,hQ⟩:=exlist n fun i hi=>h i (by omega);obtain⟨y,hy⟩:=h n (by omega);refine⟨l++[y],by simp[hl],fun i z hz=>?_⟩;rw[List.getElem?_append] at hz;split at hz
    ·exact hQ i z hz
    ·have hi:i=n:=by
       have:=(List.getElem?_eq_some_iff.1 hz).1;simp at this;omega
     subst hi;rw[hl] at hz;simp at hz;subst hz;exact hy
def Tot:List (List UInt8)->Nat
  | []=>0
  | x::xs=>x.length+1+Tot xs
section
variable {H:Type}{enc:TypeId×Value->H}{P:Program}{w:World}{held:Bool}
def Fam:List (DataW H)->List (List UInt8)->Prop
  | [],[]=>True
  | d::ds,x::xs=>(x=[]∨∃ zs:List Int,d=.slice (lits .u8 (zs.take x.length)) (lits .u8 (zs.drop x.length))/\x.length<=zs.length)/\Fam ds xs
  | _,_=>False
end
section
variable {ops:Array Oper}{Ls:List Nat}
def TD (ops:Array Oper)(m:Nat)(i:Nat):Bool:=!m.testBit i&&((ops[i]?).map (·.after.all fun e=>!Region.binds .any e||m.testBit e.on)).getD false
def freeN (ops:Array Oper)(m:Nat)(i:Nat):Bool :=
  match ops[i]? with
  | none=>false
  | some oi=>(List.range ops.size).all fun j=>j == i||m.testBit j||match ops[j]? with
      | some oj=>oj.after.any (fun e=>Region.binds .any e&&e.on == i)||oi.apart ops oj
      | none=>true
def XH (ops:Array Oper)(Ls:List Nat)(m:Nat)(i:Nat):Nat:=(Ls.filter fun j=>decide (j < ops.size)&&!m.testBit j&&!FN ops m.testBit j i).length
def Rn (ops:Array Oper)(Ls:List Nat):MT->Nat->Nat->Bool
  | .nil,_,m=>(List.range ops.size).all fun i=>!TD ops m i
  | .q i k π,p,m=>decide (i < ops.size)&&TD ops m i&&freeN ops m i&&!Ls.contains i&&decide (p+XH ops Ls m i<=k)&&Rn ops Ls π p (m|||2 ^ i)
  | .op i π,p,m=>((List.range ops.size).filter fun j=>TD ops m j) == [i]&&Rn ops Ls π (nx Ls p i) (m|||2 ^ i)
  | .br i j ri rj,p,m=>((List.range ops.size).filter fun j=>TD ops m j) == [i,j]&&rj.depth == ri.depth&&Rn ops Ls ri (nx Ls p i) (m|||2 ^ i)&&Rn ops Ls rj (nx Ls p j) (m|||2 ^ j)
def Rel (ops:Array Oper)(listed:Array Bool)(m:Nat):Prop:=listed.size=ops.size/\∀ j,listed.getD j false=m.testBit j
theorem Rel.lt {listed:Array Bool}{m:Nat}(h:Rel ops listed m){j:Nat}(hj:j < ops.size):listed.getD j true=m.testBit j:=by
  rw[<- h.2 j,Array.getD_eq_getD_getElem?,Array.getD_eq_getD_getElem?,Array.getElem?_eq_getElem (by rw[h.1];exact hj)];rfl
theorem Rel.ge {listed:Array Bool}{m:Nat}(h:Rel ops listed m){j:Nat}(hj:¬ j < ops.size):listed.getD j true=true:=by
  rw[Array.getD_eq_getD_getElem?,Array.getElem?_eq_none (by rw[h.1];omega)];rfl
theorem Rel.ready {listed:Array Bool}{m:Nat}(h:Rel ops listed m):Region.ready .any ops listed=(List.range ops.size).filter fun j=>TD ops m j:=by
  unfold Region.ready;refine List.filter_congr fun i hi=>?_;rw[List.mem_range] at hi;unfold TD;rw[h.lt hi];simp only[h.2]
theorem Rel.free {listed:Array Bool}{m i:Nat}(h:Rel ops listed m):Region.free .any ops listed i=freeN ops m i:=by
  unfold Region.free freeN;cases ho:ops[i]? with
  | none=>rfl
  | some oi =>
    simp only[];rw[Bool.eq_iff_iff,List.all_eq_true,List.all_eq_true];refine⟨fun hq j hj=>?_,fun hq j hj=>?_⟩
    ·have:=hq j hj;rw[h.lt (List.mem_range.1 hj)] at this;exact this
    ·have:=hq j hj;rw[h.lt (List.mem_range.1 hj)];exact this
theorem Rel.ahd {listed:Array Bool}{m i:Nat}(h:Rel ops listed m):ahead ops Ls listed i=XH ops Ls m i:=by
  unfold ahead XH;congr 1;refine List.filter_congr fun j _=>?_;have hf:(fun x=>listed.getD x false)=m.testBit:=funext h.2;rw[hf];by_cases hj:j < ops.size
  ·rw[h.lt hj,decide_eq_true hj];rfl
  ·rw[h.ge hj,decide_eq_false hj];rfl
theorem Rel.step {listed:Array Bool}{m i:Nat}(h:Rel ops listed m)(hi:i < ops.size):Rel ops (listed.setIfInBounds i true) (m|||2 ^ i):=by
  refine⟨by simpa using h.1,fun j=>?_⟩;rw[Nat.testBit_or,Nat.testBit_two_pow];by_cases hij:i=j
  ·subst hij;rw[Array.getD_eq_getD_getElem?,Array.getElem?_setIfInBounds_self_of_lt (by rw[h.1];exact hi)];simp
  ·rw[<- h.2 j,Array.getD_eq_getD_getElem?,Array.getElem?_setIfInBounds_ne hij,<-Array.getD_eq_getD_getElem?];simp[hij]
theorem P5:∀ (π:MT) (p m:Nat) (listed:Array Bool),Rel ops listed m->Rn ops Ls π p m=true->I4 ops Ls π p listed=true
  | .nil,p,m,listed,h,hq=>by
    simp only[I4,h.ready,List.isEmpty_iff,List.filter_eq_nil_iff];simp only[Rn,List.all_eq_true,Bool.not_eq_true'] at hq;intro a ha;rw[hq a ha];exact Bool.false_ne_true
  | .q i k π,p,m,listed,h,hq=>by
    simp only[Rn,Bool.and_eq_true,decide_eq_true_eq,Bool.not_eq_true'] at hq;obtain⟨⟨⟨⟨⟨h1,h2⟩,h3⟩,h4⟩,h5⟩,h6⟩:=hq;simp only[I4,Bool.and_eq_true,decide_eq_true_eq,Bool.not_eq_true'];refine⟨⟨⟨⟨?_,by rw[h.free];exact h3⟩,h4⟩,by rw[h.ahd];exact h5⟩,P5 π p _ _ (h.step h1) h6⟩;rw[h.ready,List.contains_iff_mem,List.mem_filter];exact⟨List.mem_range.2 h1,h2⟩
  | .op i π,p,m,listed,h,hq=>by
    simp only[Rn,Bool.and_eq_true] at hq;simp only[I4,Bool.and_eq_true];have hi:i < ops.size:=by
      have:i ∈ (List.range ops.size).filter fun j=>TD ops m j:=by rw[beq_iff_eq.1 hq.1];exact List.mem_singleton.2 rfl
      exact List.mem_range.1 (List.mem_filter.1 this).1
    exact⟨by rw[h.ready];exact hq.1,P5 π _ _ _ (h.step hi) hq.2⟩
  | .br i j ri rj,p,m,listed,h,hq=>by
    simp only[Rn,Bool.and_eq_true] at hq;obtain⟨⟨⟨h1,h2⟩,h3⟩,h4⟩:=hq;simp only[I4,Bool.and_eq_true];have hi:i < ops.size:=by
      have:i ∈ (List.range ops.size).filter fun j=>TD ops m j:=by rw[beq_iff_eq.1 h1];simp
      exact List.mem_range.1 (List.mem_filter.1 this).1
    have hj:j < ops.size:=by
      have:j ∈ (List.range ops.size).filter fun j=>TD ops m j:=by rw[beq_iff_eq.1 h1];simp
      exact List.mem_range.1 (List.mem_filter.1 this).1
    exact⟨⟨⟨by rw[h.ready];exact h1,h2⟩,P5 ri _ _ _ (h.step hi) h3⟩,P5 rj _ _ _ (h.step hj) h4⟩
end
theorem W_mN {P:Program}{n:Nat}{Q:Exit->Act->World->Prop}{L:St}{w w0:World}{F O:Nat->Prop}{hs:List HP}{id:Nat}{l:List Oper}{C:List (World->Prop)}(hm:P.follows .mixedOrders=true)(π:MT)(Ls:List Nat)(k:Cx F O w0 (w.drewN 1) hs)(ch:Chain F O w0 hs C)
    (hB:(Region.noSelect l.toArray,Rn l.toArray Ls π 0 0,π.depth == l.length)=(true,true,true)) (h:∀ listed,MX P n l.toArray Ls C (Q .normal) π 0 listed (Kn L) (w.drewN 1)) :
    W P n (.region id l.toArray true) Q L w:=by
  simp only[Prod.mk.injEq] at hB;refine y7 hm π Ls k ch ?_ h;rw[hB.1,hB.2.2,P5 π 0 0 (Array.replicate l.length false) ⟨by simp,fun j=>?_⟩ hB.2.1];rw[Array.getD_eq_getD_getElem?,Nat.zero_testBit];by_cases hj:j < l.length
  ·simp[hj]
  ·simp[hj]
end Go.Sx
namespace Go.Sx
open Go.RowKit Go.MapKept
set_option linter.unusedSimpArgs false
set_option linter.unusedVariables false
def kV (k:List UInt8):Value:=.string ⟨⟨k⟩⟩
theorem XI {a b:List UInt8}(h:kV a=kV b):a=b:=by
  unfold kV at h;simp only[Value.string.injEq,ByteArray.mk.injEq,Array.mk.injEq] at h;exact h
def Mb (b:Nat)(ks:List (List UInt8))(vs:List Value):HP where
  p w S R:=ks.length=vs.length/\(∃ (es:Array MapEntry) (clock:Nat),w.heap[b]?=some (.map es clock)/\es.toList.map (·.key)=ks.map kV/\es.toList.map (·.val)=vs/\Stamped es clock)/\S b
  loc:=by
    rintro w w' S R ⟨h0,⟨es,clock,h1,h2⟩,h3⟩ hk;exact⟨h0,⟨es,clock,by rw[hk b (.inl h3)];exact h1,h2⟩,h3⟩
def D7 (ks:List (List UInt8))(k:List UInt8):Option Nat:=match ks with
  | []=>none
  | x::r=>if x=k then some 0 else(D7 r k).map (·+1)
theorem Hg {ks:List (List UInt8)}{k:List UInt8}:D7 ks k=none ↔ k ∉ ks:=by
  induction ks with
  | nil=>simp[D7]
  | cons x r ih =>
    unfold D7;by_cases h:x=k
    ·subst h;simp
    ·rw[if_neg h];simp only[Option.map_eq_none_iff,ih,List.mem_cons,not_or];exact⟨fun hr=>⟨fun e=>h e.symm,hr⟩,fun hr=>hr.2⟩
theorem P6 {ks:List (List UInt8)}{k:List UInt8}{j:Nat}(h:D7 ks k=some j):ks[j]?=some k:=by
  induction ks generalizing j with
  | nil=>cases h
  | cons x r ih =>
    unfold D7 at h;by_cases hx:x=k
    ·rw[if_pos hx] at h;obtain rfl:=Option.some.inj h;simp[hx]
    ·rw[if_neg hx,Option.map_eq_some_iff] at h;obtain⟨i,hi,rfl⟩:=h;simpa using ih hi
theorem Vh {d:TypeDesc}(hd:d=.string){es:Array MapEntry}{ks:List (List UInt8)}{k:List UInt8}(hk:es.toList.map (·.key)=ks.map kV)(hn:(es.toList.map (·.key)).Nodup) :
    (D7 ks k=none/\Instr.findNow d (kV k) es.toList 0=some none)∨∃ j e,D7 ks k=some j/\Instr.findNow d (kV k) es.toList 0=some (some (j,e.val))/\es.toList[j]?=some e/\e.key=kV k:=by
  subst hd;have hkey:∀ x ∈ es.toList,IsKey .string x.key:=fun x hx=>by
    have:x.key ∈ es.toList.map (·.key):=List.mem_map.2 ⟨x,hx,rfl⟩;rw[hk] at this;obtain⟨q,_,hq⟩:=List.mem_map.1 this;rw[<- hq];exact trivial
  rcases findNow_spec (d:=.string) (k:=kV k) trivial es.toList 0 hkey with⟨h1,h2⟩ | ⟨j,e,h1,h2,h3⟩
  ·refine .inl ⟨Hg.2 fun hm=>?_,h1⟩;have:kV k ∈ es.toList.map (·.key):=by rw[hk];exact List.mem_map.2 ⟨k,hm,rfl⟩
   obtain⟨x,hx,hxe⟩:=List.mem_map.1 this;exact h2 x hx hxe
  ·rw[Nat.zero_add] at h1;have hj:(ks.map kV)[j]?=some (kV k):=by rw[<- hk,List.getElem?_map,h2];simp[h3]
   have hkj:ks[j]?=some k:=by
     rw[List.getElem?_map,Option.map_eq_some_iff] at hj;obtain⟨q,hq,hqe⟩:=hj;rw[hq,XI hqe]
   cases hf:D7 ks k with
   | none=>exact absurd (List.mem_of_getElem? hkj) (Hg.1 hf)
   | some i =>
     have hi:=P6 hf;have hnd:ks.Nodup:=by
       rw[hk,List.Nodup,List.pairwise_map] at hn;exact hn.imp fun hne e=>hne (by rw[e])
     have:i=j:=by
       have h4:=(List.getElem?_eq_some_iff.1 hi).1;exact(List.getElem?_inj h4 hnd).1 (by rw[hi,hkj])
     subst this;exact .inr ⟨i,e,rfl,h1,h2,h3⟩
section
variable {P:Program}{n:Nat}{ops:Array Oper}{L:St}{w w0:World}{F O:Nat->Prop}{hs:List HP}{K:St->World->Prop}
theorem Op_mkmap {dst:Option Nat}{t ty:TypeId}{pos:String}{lD:Array Edge}{g:Option (Nat×Bool)}(ss:List Nat)(d:Nat)
    (hside:(FH ops ss L ⟨dst,.makeMap t none,ty,pos,lD,g⟩,dst,(decide (d < n)),(L.any fun p=>p.1 == d))=(true,some d,true,false))
    (k:Cx F O w0 w hs) (hk:∀ b w',Cx F O w0 w' (hs++[Mb b [] []])->K ((d,.v (.map (some b)))::L) w') :
    EI P n ops L w ⟨dst,.makeMap t none,ty,pos,lD,g⟩ K:=by
  simp only[Prod.mk.injEq,decide_eq_true_eq] at hside;obtain⟨s1,rfl,s3,s4⟩:=hside;refine CE (xs:=[]) (svs:=[]) ss (d:=d) (by simp[Side,s1,s3,s4,toSS]) fun a ha he=>?_;have hrun:(Instr.makeMap t none).run P w=.ok (.map (some w.heap.size)) (w.alloc (.map #[] 0)):=rfl;unfold Oper.wp execOp;simp only[Option.map_none,Sem.run_bind,hrun,Result.andThen_ok,Sem.run_pure];refine⟨.v (.map (some w.heap.size)),rfl,hk w.heap.size _ (k.new _ (Mb w.heap.size [] []) ⟨rfl,⟨#[],0,?_,rfl,rfl,stamped_empty 0⟩,rfl⟩)⟩;exact(heap_alloc w _).1
theorem Si {w:World}{b:Nat}{es es':Array MapEntry}{clock clock':Nat}(hb:w.heap[b]?=some (.map es clock)):w.grownBy { w with heap:=w.heap.setIfInBounds b (.map es' clock') } (some b)/\({ w with heap:=w.heap.setIfInBounds b (.map es' clock') }:World).heap.size=w.heap.size/\({ w with heap:=w.heap.setIfInBounds b (.map es' clock') }:World).heap[b]?=some (.map es' clock'):=by
  refine⟨⟨rfl,rfl,rfl,by simp,fun k hk hne=>?_⟩,by simp,(heap_set hb).1⟩;exact(heap_set hb).2 k fun e=>hne (by rw[e])
def I7 (ks:List (List UInt8))(k:List UInt8):List (List UInt8):=match D7 ks k with | some _=>ks | none=>ks++[k]
def I8 {β:Type}(ks:List (List UInt8))(vs:List β)(k:List UInt8)(v:β):List β:=match D7 ks k with | some j=>vs.set j v | none=>vs++[v]
theorem Op_upd {t kt e ty:TypeId}{m y x:Operand}{pos:String}{lD:Array Edge}{g:Option (Nat×Bool)}(ss:List Nat)(i:Nat){b:Nat}{key:List UInt8}{ks:List (List UInt8)}{vs:List Value}(v:Value)
    (hside:(FH ops ss L (⟨none,.mapUpdate t m y x,ty,pos,lD,g⟩:Oper),(toSS [m,y,x] (lk L)).map SV.vals,P.underlying t,P.underlying kt)=(true,some [.map (some b),kV key,v],some (.map kt e),some .string))
    (k:Cx F O w0 w hs) (hi:hs[i]?=some (Mb b ks vs)) (hk:∀ w',Cx F O w0 w' (hs.set i (Mb b (I7 ks key) (I8 ks vs key v)))->K L w') :
    EI P n ops L w ⟨none,.mapUpdate t m y x,ty,pos,lD,g⟩ K:=by
  simp only[Prod.mk.injEq,Option.map_eq_some_iff] at hside;obtain⟨s1,⟨svs,s5,s6⟩,s7,s8⟩:=hside;refine WL_of0 (xs:=[m,y,x]) (svs:=svs) ss (by simp[s1,s5]) fun a ha he=>?_;rw[s6] at he;simp only[List.map_cons,List.map_nil,List.cons.injEq,and_true] at he;obtain⟨S,R,hl,⟨es,clock,m1,m2,m3,m4⟩,hS⟩:=k.get i hi;have hck:=run_checkKey (P:=P) (w:=w) s8 (show IsKey .string (kV key) from trivial) false 9999;rcases Vh (d:=.string) rfl (k:=key) m2 m4.2.2 with⟨f1,f2⟩ | ⟨j,en,f1,f2,f3,f4⟩
  ·obtain⟨g1,g2,g3⟩:=Si (es':=es.push { key:=kV key,val:=v,born:=clock }) (clock':=clock+1) m1;have hrun:(Instr.mapUpdate t (.map (some b)) (kV key) v).run P w=.ok () { w with heap:=w.heap.setIfInBounds b (.map (es.push { key:=kV key,val:=v,born:=clock }) (clock+1)) }:=by
     unfold Instr.mapUpdate;simp only[Sem.run_bind,run_underlying s7,Result.andThen_ok,MapKept.run_getObj_map m1,Sem.run_pure,hck,run_findKey s8 f2,MapKept.run_setObj_map _ m1]
   unfold Oper.wp execOp;simp only[he.1,he.2.1,he.2.2,Sem.run_bind,hrun,Result.andThen_ok,Sem.run_pure];refine⟨rfl,hk _ (k.U6 i hi (some b) g1 fun S R hS hlt=>?_)⟩;obtain⟨hl,⟨es1,c1,q1,q2,q3,q4⟩,hS⟩:=hS;rw[m1] at q1;simp only[Option.some.injEq,Obj.map.injEq] at q1;obtain⟨rfl,rfl⟩:=q1;have hnk:∀ x ∈ es.toList,x.key≠kV key:=fun x hx hxe=>by
     have:kV key ∈ es.toList.map (·.key):=List.mem_map.2 ⟨x,hx,hxe⟩;rw[q2] at this;obtain⟨q,hq,hqe⟩:=List.mem_map.1 this;exact Hg.1 f1 (XI hqe▸hq)
   refine⟨fun g' hg=>(by simp only[Option.some.injEq] at hg;subst hg;exact hS),S,fun _=>False,⟨?_,⟨_,_,g3,?_,?_,stamped_push q4 hnk⟩,hS⟩,fun b' hb'=>⟨by rw[g2];exact hlt b' hb',.inl hb'⟩,fun _ h=>h⟩
   ·unfold I7 I8;rw[f1];simp[hl]
   ·unfold I7;rw[f1];simp[q2]
   ·unfold I8;rw[f1];simp[q3]
  ·obtain⟨g1,g2,g3⟩:=Si (es':=es.modify j fun e=>{ e with key:=kV key,val:=v }) (clock':=clock) m1;have hst:(Instr.keyThatStays (((es[j]?).map (·.key)).getD (kV key)) (kV key)).run P w=.ok (kV key) w:=by
     have e1:es[j]?=some en:=by rw[<- Array.getElem?_toList];exact f3
     rw[e1];simp only[Option.map_some,Option.getD_some,f4];exact MapKept.run_keyThatStays (d:=.string) (k:=kV key) trivial
   have hrun:(Instr.mapUpdate t (.map (some b)) (kV key) v).run P w=.ok () { w with heap:=w.heap.setIfInBounds b (.map (es.modify j fun e=>{ e with key:=kV key,val:=v }) clock) }:=by
     unfold Instr.mapUpdate;simp only[Sem.run_bind,run_underlying s7,Result.andThen_ok,MapKept.run_getObj_map m1,Sem.run_pure,hck,run_findKey s8 f2,hst,MapKept.run_setObj_map _ m1]
   unfold Oper.wp execOp;simp only[he.1,he.2.1,he.2.2,Sem.run_bind,hrun,Result.andThen_ok,Sem.run_pure];refine⟨rfl,hk _ (k.U6 i hi (some b) g1 fun S R hS hlt=>?_)⟩;obtain⟨hl,⟨es1,c1,q1,q2,q3,q4⟩,hS⟩:=hS;rw[m1] at q1;simp only[Option.some.injEq,Obj.map.injEq] at q1;obtain⟨rfl,rfl⟩:=q1;have hkey:∀ e ∈ es.toList,es[j]?=some e->({ e with key:=kV key,val:=v }:MapEntry).key=e.key:=fun e _ he=>by
     rw[<- Array.getElem?_toList,f3] at he;obtain rfl:=Option.some.inj he;exact f4.symm
   refine⟨fun g' hg=>(by simp only[Option.some.injEq] at hg;subst hg;exact hS),S,fun _=>False,⟨?_,⟨_,_,g3,?_,?_,stamped_modify q4 j _ (fun _ _=>rfl) hkey⟩,hS⟩,fun b' hb'=>⟨by rw[g2];exact hlt b' hb',.inl hb'⟩,fun _ h=>h⟩
   ·unfold I7 I8;rw[f1];simp[hl]
   ·unfold I7;rw[f1];rw[modify_keys j _ (fun e he=>hkey e (by rw[<- Array.getElem?_toList] at he;exact List.mem_of_getElem? he) he),q2]
   ·unfold I8;rw[f1];simp only;rw[<- q3,Array.toList_modify];apply List.ext_getElem?;intro q;simp only[List.getElem?_map,List.getElem?_modify,List.getElem?_set,List.length_map];by_cases hqj:j=q
    ·subst hqj;have h5:j < es.size:=by simpa using (List.getElem?_eq_some_iff.1 f3).1
     simp[h5]
    ·simp[hqj]
end
end Go.Sx
namespace Go.Sx
open Go.RowKit
set_option linter.unusedSimpArgs false
set_option linter.unusedVariables false
variable {α β γ δ:Type}
section
variable {F O F1 O1:Nat->Prop}{w0 w w':World}{hs:List HP}
end
def hV (h:Hd):Value:=.slice h.1 h.2.1 h.2.2
section
variable {F O:Nat->Prop}{w0 w:World}{hs rest:List HP}{E:Enc α}{b:Nat}{ks:List (List UInt8)}{hd:List Hd}{xY:List (List α)}
end
section
variable {P:Program}{n:Nat}{ops:Array Oper}{L:St}{w w0:World}{F O:Nat->Prop}{hs rest:List HP}{K:St->World->Prop}{E:Enc α}
end
end Go.Sx
namespace Go.Sx
open Go.RowKit Go.MapKept
set_option linter.unusedSimpArgs false
set_option linter.unusedVariables false
variable {α:Type}
section
variable {P:Program}{n:Nat}{ops:Array Oper}{L:St}{w w0:World}{F O:Nat->Prop}{hs rest:List HP}{K:St->World->Prop}
theorem Cx.weak {h h':HP}(k:Cx F O w0 w hs)(i:Nat)(hi:hs[i]?=some h)(hp:∀ w S R,h.p w S R->h'.p w S R):Cx F O w0 w (hs.set i h') :=
  k.upd i hi Option.none ⟨rfl,rfl,rfl,Nat.le_refl _,fun _ _ _=>rfl⟩ fun S R h1 h2 h3=>⟨fun g hg=>(by cases hg),S,R,hp _ _ _ h1,fun b hb=>⟨h3 b (.inl hb),h2 b hb,.inl hb⟩,fun b hb=>⟨h3 b (.inr hb),.inl hb⟩⟩
variable {E:Enc α}{b r:Nat}{ks left:List (List UInt8)}{hd:List Hd}{xY:List (List α)}
end
section
variable {P:Program}{n:Nat}{Q:Exit->Act->World->Prop}{L L':St}{w:World}
end
end Go.Sx
namespace Go.Sx
open Go.RowKit
set_option linter.unusedSimpArgs false
set_option linter.unusedVariables false
variable {α β γ δ ε ζ:Type}
structure Rl (γ δ:Type) where
  r:World->(Nat->Prop)->γ->δ->Prop
  loc:∀ w w' R y x,r w R y x->(∀ b,R b->w'.heap[b]?=w.heap[b]?)->r w' R y x
  mono:∀ w R R' y x,(∀ b,R b->R' b)->r w R y x->r w R' y x
def SQ:Rl α α:=⟨fun _ _ y x=>y=x,fun _ _ _ _ _ h _=>h,fun _ _ _ _ _ _ h=>h⟩
def Sh (q:Rl γ δ)(ys:List γ)(xs:List δ):HP where
  p w S R:=(∀ b,¬ S b)/\ys.length=xs.length/\∀ (j:Nat) (y:γ) (x:δ),ys[j]?=some y->xs[j]?=some x->q.r w R y x
  loc:=by
    rintro w w' S R ⟨h0,h1,h2⟩ hk;exact⟨h0,h1,fun j y x e1 e2=>q.loc _ _ _ _ _ (h2 j y x e1 e2) fun b hb=>hk b (.inr hb)⟩
section
variable {F O:Nat->Prop}{w0 w w':World}{hs rest:List HP}
theorem Cx.merge {h1 h2 h3:HP}(k:Cx F O w0 w (h1::h2::rest))(hp:∀ w S1 R1 S2 R2,h1.p w S1 R1->h2.p w S2 R2->h3.p w (fun b=>S1 b∨S2 b) (fun b=>R1 b∨R2 b)):Cx F O w0 w (h3::rest):=by
  obtain⟨U,V,⟨S1,R1,U1,V1,e1,⟨S2,R2,U2,V2,g1,g2,g3,g4,g5,g6⟩,e3,e4,e5,e6⟩,hU,hV⟩:=k.sep;refine⟨k.os,k.tape,k.output,k.size,k.block,k.fin,k.Rj,U,V,⟨_,_,U2,V2,hp _ _ _ _ _ e1 g1,g2,fun b=>?_,fun b=>?_,fun b hb=>?_,fun b hb=>?_⟩,hU,hV⟩
  ·rw[e3,g3,or_assoc]
  ·rw[e4,g4,or_assoc]
  ·rcases hb with hb | hb
   ·have h:=e5 b hb;rw[g3,g4] at h;exact⟨fun q=>h.1 (.inr q),fun q=>q.elim h.2.1 (fun q=>h.2.2 (.inl q)),fun q=>h.2.2 (.inr q)⟩
   ·have h:=g5 b hb;exact⟨h.1,fun q=>q.elim (fun q=>e6 b q ((g3 b).2 (.inl hb))) h.2.1,h.2.2⟩
  ·rcases hb with hb | hb
   ·exact fun q=>e6 b hb ((g3 b).2 (.inr q))
   ·exact g6 b hb
theorem Cx.shz (k:Cx F O w0 w hs)(q:Rl γ δ):Cx F O w0 w (Sh q [] []::hs):=by
  obtain⟨U,V,h1,hU,hV⟩:=k.sep;exact⟨k.os,k.tape,k.output,k.size,k.block,k.fin,k.Rj,U,V,⟨fun _=>False,fun _=>False,U,V,⟨fun _ h=>h,rfl,fun j y x e1 _=>by cases e1⟩,h1,by simp,by simp,fun b hb=>hb.elim,fun b hb=>hb.elim⟩,hU,hV⟩
theorem Cx.shq (k:Cx F O w0 w hs)(x:α):Cx F O w0 w (Sh SQ [x] [x]::hs):=by
  obtain⟨U,V,h1,hU,hV⟩:=k.sep;refine⟨k.os,k.tape,k.output,k.size,k.block,k.fin,k.Rj,U,V,⟨fun _=>False,fun _=>False,U,V,⟨fun _ h=>h,rfl,fun j y x' e1 e2=>?_⟩,h1,by simp,by simp,fun b hb=>hb.elim,fun b hb=>hb.elim⟩,hU,hV⟩;rw[e1] at e2;exact Option.some.inj e2
theorem Cx.sha {q:Rl γ δ}{ys ys':List γ}{xs xs':List δ}(k:Cx F O w0 w (Sh q ys xs::Sh q ys' xs'::rest)):Cx F O w0 w (Sh q (ys++ys') (xs++xs')::rest) :=
  k.merge fun w S1 R1 S2 R2 h1 h2=>⟨fun b hb=>hb.elim (h1.1 b) (h2.1 b),by simp[h1.2.1,h2.2.1],fun j y x e1 e2=>by
    by_cases hj:j < ys.length
    ·rw[List.getElem?_append_left hj] at e1;rw[List.getElem?_append_left (by have:=h1.2.1;omega)] at e2;exact q.mono _ _ _ _ _ (fun b hb=>.inl hb) (h1.2.2 j _ _ e1 e2)
    ·rw[List.getElem?_append_right (by omega)] at e1;rw[List.getElem?_append_right (by have:=h1.2.1;omega),<-h1.2.1] at e2;exact q.mono _ _ _ _ _ (fun b hb=>.inr hb) (h2.2.2 _ _ _ e1 e2)⟩
variable {E:Enc γ}{q:Rl γ δ}{A:Option Addr}{n c:Nat}{ys:List γ}{xs:List δ}
end
section
variable {F O:Nat->Prop}{w0 w:World}{hs:List HP}
end
section
variable {F O F1 O1:Nat->Prop}{w0 w w':World}{hs rest:List HP}{E:Enc γ}{q:Rl γ δ}{A:Option Addr}{ys:List γ}{xs:List δ}
end
section
variable {P:Program}{n:Nat}{ops:Array Oper}{L:St}{w w0:World}{F O:Nat->Prop}{hs rest:List HP}{K:St->World->Prop}{E:Enc γ}{q:Rl γ δ}
end
end Go.Sx
namespace Go.Sx
open Go.RowKit
set_option linter.unusedSimpArgs false
set_option linter.unusedVariables false
variable {γ δ:Type}
section
variable {H:Type}{enc:TypeId×Value->H}{P:Program}{w:World}{held:Bool}
end
end Go.Sx
namespace Go.Sx
open Go.RowKit
set_option linter.unusedSimpArgs false
set_option linter.unusedVariables false
variable {α β γ δ:Type}
section
variable {F O F1 O1:Nat->Prop}{w0 w w':World}{hs rest:List HP}{E:Enc α}{A:Option Addr}{n c:Nat}{x:List α}
end
section
variable {σ ρ:Type}{P:Program}{n:Nat}{Q:Exit->Act->World->Prop}{c:Code}{L L':St}{w0:World}
end
end Go.Sx
namespace Go.Sx
open Go.RowKit
set_option linter.unusedSimpArgs false
set_option linter.unusedVariables false
section
variable {α β σ ρ:Type}{P:Program}{n:Nat}{Q:Exit->Act->World->Prop}{ops:Array Oper}{L L':St}{w w0:World}{os:List SV}{cs:List Cond}{F O:Nat->Prop}{hs:List HP}{rest:List Oper}
theorem Wa {id:Nat}{l:List Oper}{y:Code}(b:Bl L L')(q:Ask os cs w)(h:W P n y Q L' w)(hs:(evs P n l.toArray [] l (Kn L) os).map (fun r=>(L'.map fun e=>(look r.1 e.1).map fun e=>(e.g,e.x.val),r.2.1,r.2.2))=some (L'.map fun p=>some (none,p.2.val),cs,[]):=by kernel_rfl):W P n (.region id l.toArray false) (Exit.then (y.wp P Q) Q) L w:=ku [] b q hs (au h)
theorem Wq {id:Nat}{l:List Oper}{y:Code}(b:Bl L L')(h:W P n y Q L' w)(hs:(evs P n l.toArray [] l (Kn L) []).map (fun r=>(L'.map fun e=>(look r.1 e.1).map fun e=>(e.g,e.x.val),r.2.1,r.2.2))=some (L'.map fun p=>some (none,p.2.val),[],[]):=by kernel_rfl):W P n (.region id l.toArray false) (Exit.then (y.wp P Q) Q) L w:=Wa b qe h hs
theorem Wl {l:List Oper}(k:Nat)(b:Bl L L')(q:Ask os cs w)(h:WL P n ops Q (l.drop k) L' w)(hs:(evs P n ops [] (l.take k) (Kn L) os).map (fun r=>(L'.map fun e=>(look r.1 e.1).map fun e=>(e.g,e.x.val),r.2.1,r.2.2))=some (L'.map fun p=>some (none,p.2.val),cs,[]):=by kernel_rfl):WL P n ops Q l L w:=DN k [] b q hs h
theorem We {l:List Oper}(k:Nat)(b:Bl L L')(h:WL P n ops Q (l.drop k) L' w)(hs:(evs P n ops [] (l.take k) (Kn L) []).map (fun r=>(L'.map fun e=>(look r.1 e.1).map fun e=>(e.g,e.x.val),r.2.1,r.2.2))=some (L'.map fun p=>some (none,p.2.val),[],[]):=by kernel_rfl):WL P n ops Q l L w:=DN k [] b qe hs h
theorem Wn {ops:Array Oper}{y:Code}(h:W P n y Q L w):WL P n ops (Exit.then (y.wp P Q) Q) [] L w:=cZ (au h)
theorem dY {f:FuncId}{fn:Func}{c:Code}{R:Ending->World->Prop}(xs:List SV)(hf:P.funcs[f]?=some fn)(hb:fn.body=some c)(h:W P fn.ntmps c (bodyPost P fn R) (numbered 0 xs) w)(hn:decide (xs.length<=fn.ntmps)=true:=by kernel_rfl):Calls P f (vals xs) w R:=calls xs hf hb (of_decide_eq_true hn) h
theorem aH {fn:Func}{R:Ending->World->Prop}(xs:List SV)(q:Ask os cs w)(h:R (.returned (RU xs).val) w)(hr:OI P fn.results.toList L os=some (xs,cs,[]):=by kernel_rfl):At n (bodyPost P fn R .ret) L w:=At_rt xs q hr h
theorem eG {Q:Exit->Act->World->Prop}{K:St->World->Prop}(h:K L' w)(hk:L'.map (fun p=>(find L p.1).map SV.val)=L'.map (fun p=>some p.2.val):=by kernel_rfl):At n (Exit.then (fun a w=>∃ L,Fu n a (Kn L)/\K L w) Q .normal) L w:=At_c h hk
theorem si {a b:α}(h:some a=some b):a=b:=Option.some.inj h
theorem W_cz {k:Nat}{x y:Code}(c:Bool)(h1:c=true->W P n x Q L w)(h2:c=false->W P n y Q L w)(hf:find L k=some (.b c):=by kernel_rfl):W P n (.cond (.tmp k) x y) Q L w:=ig c hf h1 h2
theorem d_ {p:Nat}{Ls:List Nat}{C:List (World->Prop)}{Q:Act->World->Prop}{π:MT}{listed:Array Bool}(k m:Nat)(b:Bl L L')(q:∀ w,cls C m w->Ask os cs w)
    (h:∀ listed',MX P n ops Ls C Q (π.drop k) p listed' (Kn L') w) (hs:((XE ops m k π).bind fun l=>evs P n ops [] l (Kn L) os).map (fun r=>(L'.map fun e=>(look r.1 e.1).map fun e=>(e.g,e.x.val),r.2.1,r.2.2))=some (L'.map fun p=>some (none,p.2.val),cs,[]):=by kernel_rfl):MX P n ops Ls C Q π p listed (Kn L) w:=MXq k m [] b q hs h
theorem aI {K:St->World->Prop}{dst:Option Nat}{f:FuncId}{xs:Array Operand}{ats:Array TypeId}{ty:TypeId}{pos:String}{lD:Array Edge}{g:Option (Nat×Bool)}(d:Nat){svs:List SV}{R:Ending->World->Prop}(hgo:dV P f)(hc:Calls P f (vals svs) w R)
    (hk:∀ e w',R e w'->∃ x,e=.returned x.val/\K ((d,x)::L) w')
    (hs:(FH ops [] L ⟨dst,.call ⟨.value (.func f),xs,ats⟩,ty,pos,lD,g⟩,dst,(decide (d < n)),(L.any fun p=>p.1 == d),(toSS xs.toList (lk L)).map SV.vals)=(true,some d,true,false,some (SV.vals svs)):=by kernel_rfl) :
    EI P n ops L w ⟨dst,.call ⟨.value (.func f),xs,ats⟩,ty,pos,lD,g⟩ K:=uh [] d svs hgo hs hc hk
theorem fQ {K:St->World->Prop}{ty t:TypeId}{p x:Operand}{pos:String}{lD:Array Edge}{g:Option (Nat×Bool)}(i:Nat){pa:Option Addr}(sv:SV)(svs:List SV){bt:TypeId}{b:Nat}{ys zs:List SV}{off:Nat}
    (hp:Pt (some ⟨b,0,none⟩) off pa) (k:Cx F O w0 w hs) (hi:hs[i]?=some (Bx bt b ys)) (md:Mid svs ys zs)
    (hk:∀ w',Cx F O w0 w' (hs.set i (Bx bt b zs))->K L w')
    (hside:(FH ops [] L (⟨none,.store t p x,ty,pos,lD,g⟩:Oper),(none:Option Nat),(toSS [p,x] (lk L)).map SV.vals,Bd P t,cellsS sv,svs.all SV.one1)=(true,none,some [.pointer pa,sv.val],some (SV.width svs),some svs,true):=by kernel_rfl)
    (hz:(Xn off (SV.width svs) svs ys).map SV.cl=some (SV.cl zs):=by kernel_rfl) :
    EI P n ops L w ⟨none,.store t p x,ty,pos,lD,g⟩ K:=Op_b [] i sv svs hp k hi md hside hz hk
theorem jO {K:St->World->Prop}{ty t:TypeId}{p x:Operand}{pos:String}{lD:Array Edge}{g:Option (Nat×Bool)}{E:Enc α}(i:Nat){pa:Option Addr}(sv:SV)(svs:List SV){bt:TypeId}{b:Nat}{m o o':Nat}{x0 x1:Vec α m}{ys zs:List SV}{j:Int}{e0 y:α}
    (hv:lK x0 j y=x1) (hx:aU x0.l j=some e0) (hp:Pt (some ⟨b,0,none⟩) (o'+(j.toNat*E.sz+0)) pa) (k:Cx F O w0 w hs) (hi:hs[i]?=some (Bx bt b ys)) (vu:Vup ys E x0 x1 o zs) (hy:E.f y=pat (E.f e0) 0 (SV.cl svs))
    (hk:∀ w',Cx F O w0 w' (hs.set i (Bx bt b zs))->K L w')
    (hside:(FH ops [] L (⟨none,.store t p x,ty,pos,lD,g⟩:Oper),(none:Option Nat),(toSS [p,x] (lk L)).map SV.vals,Bd P t,cellsS sv,svs.all SV.one1,o')=(true,none,some [.pointer pa,sv.val],some (SV.width svs),some svs,true,o):=by kernel_rfl)
    (hl:Nat.ble (0+SV.width svs) E.sz=true:=by kernel_rfl) :
    EI P n ops L w ⟨none,.store t p x,ty,pos,lD,g⟩ K:=Op_vs (kk:=0) [] i sv svs hv hx hp k hi vu hy hside hl hk
end
end Go.Sx
namespace Go.Sx
open Go.RowKit
set_option linter.unusedSimpArgs false
set_option linter.unusedVariables false
section
variable {α β γ σ ρ:Type}{P:Program}{n:Nat}{Q:Exit->Act->World->Prop}{ops:Array Oper}{L L':St}{w w0:World}{os:List SV}{cs:List Cond}{F O:Nat->Prop}{hs:List HP}{rest:List Oper}
theorem aT {G:Prop}{a:Option α}{f:α->Option β}{r:β}(h:a.bind f=some r)(k:∀ x,a=some x->f x=some r->G):G:=by
  obtain⟨x,h1,h2⟩:=ob h;exact k x h1 h2
theorem bW {k:Nat}{x y:Code}{p:Prop}[hd:Decidable p]{a b:Option γ}{r:γ}(hm:(if p then a else b)=some r)(h1:p->a=some r->W P n x Q L w)(h2:¬ p->b=some r->W P n y Q L w)(hf:find L k=some (.b (decide p)):=by kernel_rfl):W P n (.cond (.tmp k) x y) Q L w :=
  W_condp p hf (fun h=>h1 h (by rwa [if_pos h] at hm)) (fun h=>h2 h (by rwa [if_neg h] at hm))
theorem jf {k:Nat}{x y:Code}{c:Bool}{a b:Option γ}{r:γ}(hm:(if c=true then a else b)=some r)(h1:c=true->a=some r->W P n x Q L w)(h2:c=false->b=some r->W P n y Q L w)(hf:find L k=some (.b c):=by kernel_rfl):W P n (.cond (.tmp k) x y) Q L w :=
  ig c hf (fun h=>h1 h (by rwa [if_pos h] at hm)) (fun h=>h2 h (by rwa [if_neg (by rw[h];decide)] at hm))
theorem iT {c:Code}{step:σ->Option (σ⊕ρ)}{s0:σ}{r:ρ}(hm:aY step s0=some r)(rel:σ->St->World->Prop)(h0:rel s0 L' w0)
    (hb:∀ s L w y,rel s L w->step s=some y->(∀ r',y=.inr r'->r'=r)->W P n c (Exit.then (fun a w=>∃ s' L',y=.inl s'/\Fu n a (Kn L')/\rel s' L' w) Q) L w)
    (hk:L'.map (fun p=>(find L p.1).map SV.val)=L'.map (fun p=>some p.2.val):=by kernel_rfl):W P n (.loop c) Q L w0:=W_lp step rel s0 r hm h0 hk hb
theorem fF {Q:Exit->Act->World->Prop}{rel:σ->St->World->Prop}{y:σ⊕ρ}{v:σ}(hm:some (.inl v)=some y)(h:rel v L' w)(hk:L'.map (fun p=>(find L p.1).map SV.val)=L'.map (fun p=>some p.2.val):=by kernel_rfl):At n (Exit.then (fun a w=>∃ s' L',y=.inl s'/\Fu n a (Kn L')/\rel s' L' w) Q .normal) L w :=
  At_rd v (Option.some.inj hm).symm h hk
theorem fK:Cx N0 N0 w w []:=Cx.refl _
theorem gW {t:TypeId}{g:Nat}{ys:List SV}(k:Cx F O w0 w hs)(i:Nat)(hi:hs[i]?=some (Bx t g ys))(off:Nat)(v:SV)(r:Ask os cs w)(h:(cellS off ys).map SV.val=some v.val:=by kernel_rfl):Ask (v::os) (dC (some ⟨g,off,none⟩) v::cs) w:=qB k i hi off v h r
theorem mJ {t:TypeId}{g:Nat}{ys:List SV}(k:Cx F O w0 w hs)(i:Nat)(hi:hs[i]?=some (Bx t g ys))(off m:Nat)(zs:List SV)(r:Ask os cs w)(h:(Nu off m ys).map SV.cl=some (SV.cl zs):=by kernel_rfl)(hm:0 < m:=by decide):Ask (.agg zs::os) (dR (some ⟨g,off,none⟩) zs::cs) w:=qT k i hi off m zs h hm r
theorem nU (g off:Nat)(r:Ask os cs w):Ask os (dS (some ⟨g,off,none⟩)::dS (some ⟨g,off,none⟩)::cs) w:=qs g off (qs g off r)
theorem Cx.ou {t:TypeId}{g m:Nat}{ys:List SV}(k:Cx F O w0 w hs)(i:Nat)(hi:hs[i]?=some (Bx t g ys))(E:Enc α)(x:Vec α m)(off:Nat)(hd:((EL off ys).bind List.head?).map (fun v=>(v.IM,v.val))=some (true,.agg ⟨E.all x.l⟩):=by kernel_rfl):Rd w (some ⟨g,off,Option.none⟩) (E.all x.l):=k.vrd i hi E x off hd
theorem iI {K:St->World->Prop}{dst:Option Nat}{ty t:TypeId}{x:Operand}{pos:String}{lD:Array Edge}{g:Option (Nat×Bool)}(d:Nat)(cs:List SV)(k:Cx F O w0 w hs)(hk:∀ b w',Cx F O w0 w' (hs++[Bx t b cs])->K ((d,.v (.pointer (some ⟨b,0,none⟩)))::L) w')
    (hside:(FH ops [] L ⟨dst,.box t x,ty,pos,lD,g⟩,dst,(decide (d < n)),(L.any fun p=>p.1 == d),(toSS [x] (lk L)).map SV.vals,(cellsS (.agg cs)).map SV.cl)=(true,some d,true,false,some [SV.val (.agg cs)],some (SV.cl cs)):=by kernel_rfl) :
    EI P n ops L w ⟨dst,.box t x,ty,pos,lD,g⟩ K:=Op_box [] d (.agg cs) cs hside k hk
theorem mV {K:St->World->Prop}{ty t:TypeId}{p x:Operand}{pos:String}{lD:Array Edge}{g:Option (Nat×Bool)}(i:Nat){pa:Option Addr}(sv:SV){bt:TypeId}{b:Nat}{ys zs:List SV}{off:Nat}
    (hp:Pt (some ⟨b,0,none⟩) off pa) (k:Cx F O w0 w hs) (hi:hs[i]?=some (Bx bt b ys)) (md:Mid [sv] ys zs)
    (hk:∀ w',Cx F O w0 w' (hs.set i (Bx bt b zs))->K L w')
    (hside:(FH ops [] L (⟨none,.store t p x,ty,pos,lD,g⟩:Oper),(none:Option Nat),(toSS [p,x] (lk L)).map SV.vals,Bd P t,cellsS sv,[sv].all SV.one1)=(true,none,some [.pointer pa,sv.val],some (SV.width [sv]),some [sv],true):=by kernel_rfl)
    (hz:(Xn off (SV.width [sv]) [sv] ys).map SV.cl=some (SV.cl zs):=by kernel_rfl) :
    EI P n ops L w ⟨none,.store t p x,ty,pos,lD,g⟩ K:=Op_b [] i sv [sv] hp k hi md hside hz hk
end
end Go.Sx
namespace Go.Sx
open Go.RowKit
set_option linter.unusedSimpArgs false
set_option linter.unusedVariables false
section
variable {P:Program}{n:Nat}{ops:Array Oper}{L:St}{w w0:World}{F O:Nat->Prop}{hs:List HP}{K:St->World->Prop}
theorem TE {dst:Option Nat}{t ty:TypeId}{len:Nat}{parts:Array (Nat×Operand)}{pos:String}{lD:Array Edge}{g:Option (Nat×Bool)}{e:TypeId}{zs:List Value}{bytes:Nat}(tf:TF P t e zs bytes)
    (ss:List Nat) (d:Nat) (ps:List (Nat×SV)) (ys:List SV)
    (hside:(FH ops ss L ⟨dst,.buildSlice t len parts,ty,pos,lD,g⟩,dst,(decide (d < n)),(L.any fun p=>p.1 == d),(toPS parts.toList (lk L)).map (·.map fun p=>(p.1,p.2.val)))=(true,some d,true,false,some (ps.map fun p=>(p.1,p.2.val))))
    (hf:((LH (fun i=>some (i*zs.length,zs.length)) ((List.replicate len zs).flatten.map KG) ps).map SV.cl,decide (len*zs.length<=16777216),decide (0 < len))=(some (SV.cl ys),true,true)) (hz:len*zs.length≠0)
    (k:Cx F O w0 w hs) (hk:∀ b w',Cx F O w0 w' (hs++[Bx e b ys])->K ((d,.v (.slice (some ⟨b,0,none⟩) len len))::L) w') :
    EI P n ops L w ⟨dst,.buildSlice t len parts,ty,pos,lD,g⟩ K:=by
  simp only[Prod.mk.injEq,decide_eq_true_eq,Option.map_eq_some_iff] at hside hf;obtain⟨h1,rfl,h3,h4,⟨ps',h5,h6⟩⟩:=hside;obtain⟨⟨svs,hf,hx⟩,hlen,hl0⟩:=hf;refine CE (xs:=[]) (svs:=[]) ss (d:=d) (by simp[Side,h1,h3,h4,toSS]) fun a ha _=>?_;have hps:=toPS_spec (fun o x hx=>O_ ha hx) h5;rw[h6] at hps;obtain⟨i,z,hi,hz',hzc,hsz,hby⟩:=tf.parts;have U9:=Ha (place:=fun i=>some (i*zs.length,zs.length)) ps _ _ hf;rw[O9] at U9;have IZ:(sizeOf e).run P w=.ok zs.length w:=by rw[<- hsz];exact wE hi w
  have hrun:(Instr.buildSlice t len (parts.map fun(i,x)=>(i,a.eval x))).run P w=.ok (.slice (some ⟨w.heap.size,0,none⟩) len len) (w.alloc (.cells ⟨SV.cl ys⟩ e)):=by
    have e1:(parts.map fun(i,x)=>(i,a.eval x)).toList=ps.map fun p=>(p.1,p.2.val):=by rw[<- hps];simp
    have hfl:Instr.fill (fun i=>some (i*zs.length,zs.length)) ⟨(List.replicate len zs).flatten⟩ (parts.map fun(i,x)=>(i,a.eval x)).toList=some ⟨SV.cl ys⟩:=by rw[e1,U9,hx]
    simp only[Instr.buildSlice,Sem.run_bind,run_underlying tf.ht,Result.andThen_ok,IZ];rw[if_neg (by omega)];split
    ·rename_i h0;exact absurd h0 hz
    ·have hzv:(zeroValue e).run P w=.ok z w:=by simp[zeroValue,typeInfo,hi,hz']
     simp only[Sem.run_bind,Sem.run_pure,Result.andThen_ok,hzv,hzc];have hr:=JL zs len;simp only[show(⟨zs⟩:Array Value).size=zs.length from rfl,hr,hfl];rfl
  unfold Oper.wp execOp;simp only[Sem.run_bind,hrun,Result.andThen_ok,Sem.run_pure];exact⟨.v (.slice (some ⟨w.heap.size,0,none⟩) len len),rfl,hk w.heap.size _ (k.new _ (Bx e w.heap.size ys) ⟨Rw.new w _ _,rfl⟩)⟩
end
open Go.ChangeShapes Go.WideShapes in
theorem okWide_arr {P:Program}{w:World}{r:Reach}{base:Nat}{t e:TypeId}{v:Value}{n:Nat}(ht:P.underlying t=some (.array n e))(h:Value.okWide P w r base t v):∃ cs,v=.agg cs:=by
  unfold Value.okWide at h;rw[ht] at h;obtain⟨cs,h,_⟩:=h;exact⟨cs,h⟩
open Go.ChangeShapes Go.WideShapes in
theorem open_ar8 {H:Type}{enc:TypeId×Value->H}{P:Program}{w:World}{base:Nat}{spare:Nat->Bool}{held:Bool}{fuel:Nat}{t e:TypeId}{cs:List Value}{x:DataW H×List MemPlace}{n:Nat}(ht:P.underlying t=some (.array n e))(he:P.underlying e=some (.int .u8))(hce:P.cellsOf e=1)(hct:P.cellsOf t=n)(h:DataW.trod enc P w base spare held fuel t cs=some x):∃ v:Vec UInt8 n,cs=SV.cl [.ar e8 v]:=by
  obtain⟨xs,m,_,_,hl,hx,hel⟩:=DataW.trod_array ht h;rw[hct] at hl;have key:∀ i,i < n->∃ y:UInt8,cs[i]?=some (bV y):=by
    intro i hi;have h1:=hel i hi;rw[hce,Nat.mul_one,List.getElem?_eq_getElem (by omega)] at h1;obtain⟨m,hm,_,hw⟩:=DataW.trod_int he h1;obtain⟨y,hy⟩:=XG hw;refine⟨y,?_⟩;have h2:((cs.drop i).take 1)[0]?=some (Value.int .u8 m):=by rw[hm];rfl
    rw[List.getElem?_take_of_lt (by omega),List.getElem?_drop,Nat.add_zero] at h2;rw[h2,hy];rfl
  obtain⟨l,hll,hq⟩:=exlist n key;refine⟨⟨l,hll⟩,?_⟩;show cs=e8.all l++[]
  rw[Tu,List.append_nil];refine List.ext_getElem (by simp;omega) fun i h1 h2=>?_;have h3:=hq i l[i] (List.getElem?_eq_getElem (by omega));rw[List.getElem?_eq_getElem h1] at h3;rw[List.getElem_map];exact Option.some.inj h3
end Go.Sx
namespace Go.Sx
open Go.RowKit
set_option linter.unusedSimpArgs false
set_option linter.unusedVariables false
def I9 (P : Program) (F : Nat -> Prop) (w : World) : Prop := Lib.TabIs P w "internal/strconv.uint64pow10" .u64 Lib.pow10Tab /\ ∃ g, P.globalNamed "internal/strconv.uint64pow10" = some g /\ ¬ F g
theorem I9.cx {P : Program} {F O : Nat -> Prop} {w0 w : World} {hs : List HP} (h : I9 P F w0) (k : Cx F O w0 w hs) : Lib.TabIs P w "internal/strconv.uint64pow10" .u64 Lib.pow10Tab := by
  obtain⟨h,g,hg,hF⟩:=h;unfold Lib.TabIs World.var? at h ⊢;rw[hg] at h ⊢;simp only[Option.bind_some] at h ⊢;have hlt:g < w0.heap.size:=by
    rcases Nat.lt_or_ge g w0.heap.size with h' | h'
    ·exact h'
    ·rw[Array.getElem?_eq_none h'] at h;cases h
  rw[k.block g hlt hF];exact h
theorem I9.at {P:Program}{F O:Nat->Prop}{w0 w:World}{hs:List HP}(h:I9 P F w0)(k:Cx F O w0 w hs):I9 P N0 w :=
  ⟨h.cx k,h.2.elim fun g hg=>⟨g,hg.1,fun q=>q⟩⟩
open Go.Sort in
theorem Cx.more (w:World)(m:Nat)(os:Array Obj):Cx N0 N0 w (grow (w.drewN m) os) [] :=
  ⟨rfl,rfl,rfl,by simp[grow],fun b hb _=>by
    show((w.drewN m).heap++os)[b]?=w.heap[b]?;rw[show(w.drewN m).heap=w.heap from rfl,Array.getElem?_append_left hb],fun _ h=>h.elim,fun _ h=>h.elim,N0,N0,⟨fun _ h=>h,fun _ h=>h⟩,fun _ h=>h.elim,fun _ h=>h.elim⟩
open Go.Sort Go.Proofs Go.Shelf in
theorem c_itoa {P : Program} {ρ : Ren} (Ly : LaysM.n171 P ρ) {F O : Nat -> Prop} {w0 w : World} {hs : List HP} (k : Cx F O w0 w hs) {n : Int} (hn : -9223372036854775808 <= n /\ n <= 9223372036854775807) (hT : Lib.TabIs P w "internal/strconv.uint64pow10" .u64 Lib.pow10Tab) :
    Calls P (ρ.f 171) (vals [I n]) w (fun e w'=>e=.returned (SV.val (.s (Lib.itoa n)))/\Cx F O w0 w' hs):=by
  refine(Any.strconv_Itoa Ly n hn.1 hn.2 w hT).mono ?_;rintro e w' ⟨rfl,m,os,rfl⟩;refine⟨rfl,?_⟩;have:=k.call (Cx.more w m os);rw[List.append_nil] at this;exact this
end Go.Sx
namespace Go.Sx
open Go.RowKit
set_option linter.unusedSimpArgs false
set_option linter.unusedVariables false
def eF:Enc UInt64:=⟨1,fun a=>[.float .f64 a.toNat],fun _=>rfl,fun x v h=>by rw[List.mem_singleton.1 h];rfl⟩
instance:Pos eF:=⟨by decide⟩
section
variable {P:Program}{n:Nat}{ops:Array Oper}{L:St}{w w0:World}{F O:Nat->Prop}{hps:List HP}{K:St->World->Prop}
end
section
variable {P:Program}{n:Nat}{ops:Array Oper}{L:St}{w:World}{K:St->World->Prop}
end
end Go.Sx
namespace Go.Sx
open Go.RowKit
set_option linter.unusedSimpArgs false
set_option linter.unusedVariables false
section
variable {H:Type}{enc:TypeId×Value->H}{P:Program}{w:World}{held:Bool}
end
end Go.Sx
namespace Go.Sx
open Go.RowKit Go.MapKept
set_option linter.unusedSimpArgs false
set_option linter.unusedVariables false
variable {α β γ δ ε ζ σ:Type}
abbrev Ky:=List UInt8
abbrev Mp (δ:Type):=List (List UInt8×δ)
def Om (m:Mp δ):Prop:=(m.map (·.1)).Pairwise (· < ·)
def qL (m:Mp δ)(k:Ky):Option δ:=match m with
  | []=>none
  | p::r=>if p.1=k then some p.2 else qL r k
def F9 (m:Mp δ)(k:Ky)(v:δ):Mp δ:=match m with
  | []=>[(k,v)]
  | p::r=>if k=p.1 then(k,v)::r else if k < p.1 then(k,v)::p::r else p::F9 r k v
theorem lt_tri (a b:Ky):a < b∨a=b∨b < a:=by
  rcases Decidable.em (a < b) with h | h
  ·exact .inl h
  ·rcases Decidable.em (b < a) with h2 | h2
   ·exact .inr (.inr h2)
   ·exact .inr (.inl (List.le_antisymm (List.not_lt.1 h2) (List.not_lt.1 h)))
theorem Om.nil:Om ([]:Mp δ):=List.Pairwise.nil
theorem Om.cons {p:Ky×δ}{r:Mp δ}:Om (p::r) ↔ (∀ q ∈ r,p.1 < q.1)/\Om r:=by
  unfold Om;rw[List.map_cons,List.pairwise_cons];simp only[List.mem_map,forall_exists_index,and_imp,forall_apply_eq_imp_iff₂]
theorem Om.nodup {m:Mp δ}(h:Om m):(m.map (·.1)).Nodup:=List.Pairwise.imp (fun {a b} hab (e:a=b)=>List.lt_irrefl b (e▸hab)) h
theorem P7 {m:Mp δ}{k:Ky}:qL m k=none ↔ k ∉ m.map (·.1):=by
  induction m with
  | nil=>simp[qL]
  | cons p r ih =>
    unfold qL;by_cases h:p.1=k
    ·simp[h]
    ·rw[if_neg h,ih];simp only[List.map_cons,List.mem_cons,not_or];exact⟨fun hr=>⟨fun e=>h e.symm,hr⟩,fun hr=>hr.2⟩
theorem ZI {m:Mp δ}{k:Ky}{v:δ}(h:qL m k=some v):(k,v) ∈ m:=by
  induction m with
  | nil=>cases h
  | cons p r ih =>
    unfold qL at h;by_cases hp:p.1=k
    ·rw[if_pos hp] at h;obtain rfl:=Option.some.inj h;subst hp;exact List.mem_cons_self
    ·rw[if_neg hp] at h;exact List.mem_cons_of_mem _ (ih h)
theorem Hl {m:Mp δ}{k:Ky}{v:δ}(hn:(m.map (·.1)).Nodup)(h:(k,v) ∈ m):qL m k=some v:=by
  induction m with
  | nil=>cases h
  | cons p r ih =>
    rw[List.map_cons,List.nodup_cons] at hn;unfold qL;rcases List.mem_cons.1 h with rfl | h
    ·rw[if_pos rfl]
    ·rw[if_neg (by intro e;exact hn.1 (by rw[e];exact List.mem_map.2 ⟨_,h,rfl⟩)),ih hn.2 h]
theorem ZJ {m:Mp δ}{k:Ky}(v:δ)(h:k ∉ m.map (·.1)):(F9 m k v).Perm ((k,v)::m):=by
  induction m with
  | nil=>exact .refl _
  | cons p r ih =>
    simp only[List.map_cons,List.mem_cons,not_or] at h;unfold F9;rw[if_neg h.1];split
    ·exact .refl _
    ·exact(List.Perm.cons _ (ih h.2)).trans (.swap _ _ _)
theorem ZK {m:Mp δ}{k:Ky}{v:δ}{q:Ky×δ}(h:q ∈ F9 m k v):q=(k,v)∨(q ∈ m/\(Om m->q.1≠k)):=by
  induction m with
  | nil=>exact .inl (List.mem_singleton.1 h)
  | cons p r ih =>
    unfold F9 at h;split at h
    ·rename_i he;rcases List.mem_cons.1 h with h | h
     ·exact .inl h
     ·refine .inr ⟨List.mem_cons_of_mem _ h,fun hs e=>?_⟩;rw[Om.cons] at hs;have:=hs.1 q h;rw[e,he] at this;exact List.lt_irrefl _ this
    ·rename_i hne;split at h
     ·rename_i hlt;rcases List.mem_cons.1 h with h | h
      ·exact .inl h
      ·refine .inr ⟨h,fun hs e=>?_⟩;rw[Om.cons] at hs;rcases List.mem_cons.1 h with rfl | h
       ·exact hne e.symm
       ·have:=List.lt_trans hlt (hs.1 q h);rw[e] at this;exact List.lt_irrefl _ this
     ·rcases List.mem_cons.1 h with rfl | h
      ·exact .inr ⟨List.mem_cons_self,fun _ e=>hne e.symm⟩
      ·rcases ih h with e | ⟨h1,h2⟩
       ·exact .inl e
       ·exact .inr ⟨List.mem_cons_of_mem _ h1,fun hs=>h2 (Om.cons.1 hs).2⟩
theorem Om.F9 {m:Mp δ}(h:Om m)(k:Ky)(v:δ):Om (F9 m k v):=by
  induction m with
  | nil=>rw[Sx.F9,Om.cons];exact⟨fun q hq=>(by cases hq),Om.nil⟩
  | cons p r ih =>
    rw[Om.cons] at h;unfold Sx.F9;split
    ·rename_i he;rw[Om.cons];exact⟨fun q hq=>by rw[he];exact h.1 q hq,h.2⟩
    ·rename_i hne;split
     ·rename_i hlt;rw[Om.cons,Om.cons];refine⟨fun q hq=>?_,h⟩;rcases List.mem_cons.1 hq with rfl | hq
      ·exact hlt
      ·exact List.lt_trans hlt (h.1 q hq)
     ·rename_i hnlt;rw[Om.cons];refine⟨fun q hq=>?_,ih h.2⟩;rcases ZK hq with rfl | ⟨hq,_⟩
      ·rcases lt_tri k p.1 with q | q | q
       ·exact absurd q hnlt
       ·exact absurd q hne
       ·exact q
      ·exact h.1 q hq
theorem mins_set {m:Mp δ}(h:Om m){k:Ky}{v0:δ}(v:δ)(hm:(k,v0) ∈ m):∃ a b,m=a++(k,v0)::b/\F9 m k v=a++(k,v)::b:=by
  induction m with
  | nil=>cases hm
  | cons p r ih =>
    rw[Om.cons] at h;rcases List.mem_cons.1 hm with rfl | hm
    ·refine⟨[],r,rfl,?_⟩;unfold F9;rw[if_pos rfl];rfl
    ·have hlt:=h.1 _ hm;have hne:¬ k=p.1:=fun e=>by
       have h1:p.1 < k:=hlt;rw[e] at h1;exact List.lt_irrefl _ h1
     have hnlt:¬ k < p.1:=fun e=>List.lt_irrefl _ (List.lt_trans hlt e);obtain⟨a,b,e1,e2⟩:=ih h.2 hm;refine⟨p::a,b,by rw[e1];rfl,?_⟩;unfold F9;rw[if_neg hne,if_neg hnlt,e2];rfl
end Go.Sx
namespace Go.Sx
open Go.RowKit Go.MapKept
set_option linter.unusedSimpArgs false
set_option linter.unusedVariables false
variable {α β γ δ ε ζ σ ι:Type}
def Px (φ:ι->Prop)(l:ι->List HP):HP where
  p w S R:=∃ i,φ i/\Sep w (l i) S R
  loc:=by
    rintro w w' S R ⟨i,h0,h⟩ hk;exact⟨i,h0,h.keep hk⟩
section
variable {F O:Nat->Prop}{w0 w w':World}{hs rest:List HP}
theorem Cx.unpx {φ:ι->Prop}{l:ι->List HP}(k:Cx F O w0 w (Px φ l::rest)):∃ i,φ i/\Cx F O w0 w (l i++rest):=by
  obtain⟨U,V,⟨S,R,U',V',⟨i,hq,h1⟩,h2,h3,h4,h5,h6⟩,hU,hV⟩:=k.sep;exact⟨i,hq,k.os,k.tape,k.output,k.size,k.block,k.fin,k.Rj,_,_,Sep.join h1 h2 (fun b hb=>⟨(h5 b hb).1,(h5 b hb).2.2⟩) h6,fun b hb=>hU b ((h3 b).2 hb),fun b hb=>hV b ((h4 b).2 hb)⟩
theorem Cx.dopx {φ:ι->Prop}{l:ι->List HP}(i:ι)(hq:φ i)(k:Cx F O w0 w (l i++rest)):Cx F O w0 w (Px φ l::rest):=by
  obtain⟨U,V,h,hU,hV⟩:=k.sep;obtain⟨U1,V1,U2,V2,e1,e2,e3,e4,e5,e6⟩:=Sep.split h;exact⟨k.os,k.tape,k.output,k.size,k.block,k.fin,k.Rj,U,V,⟨U1,V1,U2,V2,⟨i,hq,e1⟩,e2,e3,e4,fun b hb=>⟨(e5 b hb).1,fun hr=>Sep.apart e1 b hb hr,(e5 b hb).2⟩,e6⟩,hU,hV⟩
theorem Cx.dupw {h h':HP}(k:Cx F O w0 w hs)(i:Nat)(hi:hs[i]?=some h)(hp:∀ S R,h.p w S R->h'.p w (fun _=>False) R):Cx F O w0 w (h'::hs):=by
  obtain⟨U,V,h1,hU,hV⟩:=k.sep;obtain⟨S,R,U',V',e1,e2,e3,e4,e5,e6⟩:=Sep.cut hi h1;refine⟨k.os,k.tape,k.output,k.size,k.block,k.fin,k.Rj,U,V,⟨_,R,U,V,hp _ _ e1,h1,fun b=>⟨.inr,fun h=>h.elim (fun h=>h.elim) id⟩,fun b=>⟨.inr,fun h=>h.elim (fun h=>(e4 b).2 (.inl h)) id⟩,fun b hb=>hb.elim,fun b hb hu=>?_⟩,hU,hV⟩;exact Sep.apart h1 b hu ((e4 b).2 (.inl hb))
end
structure Vl (γ δ:Type) where
  V:γ->Value
  q:Rl γ δ
  inj:∀ a b,V a=V b->a=b
def vS (E:Enc α)(hE:∀ a b,E.f a=E.f b->a=b):Vl α α:=⟨fun y=>.agg ⟨E.f y⟩,SQ,fun a b h=>by
  simp only[Value.agg.injEq,Array.mk.injEq] at h;exact hE a b h⟩
def kx (e:Ky×γ×δ):Ky×δ:=(e.1,e.2.2)
def MbF (w:World)(b:Nat)(ks:List Ky)(vs:List Value):Prop :=
  ks.length=vs.length/\∃ (es:Array MapEntry) (clock:Nat),w.heap[b]?=some (.map es clock)/\es.toList.map (·.key)=ks.map kV/\es.toList.map (·.val)=vs/\Stamped es clock
def Ll (l:List (Ky×γ×δ)):List Ky:=l.map (·.1)
def Vj (v:Vl γ δ)(l:List (Ky×γ×δ)):List Value:=l.map fun e=>v.V e.2.1
def Fits (m:Mp δ)(l:List (Ky×γ×δ)):Prop:=(l.map kx).Perm m/\Om m
def MS (v:Vl γ δ)(b:Nat)(m:Mp δ):HP:=Px (Fits (γ:=γ) m) fun l=>[Mb b (Ll l) (Vj v l),Sh v.q (l.map (·.2.1)) (l.map (·.2.2))]
theorem Fits.none {m:Mp δ}{l:List (Ky×γ×δ)}(h:Fits m l){key:Ky}(hk:D7 (Ll l) key=none):qL m key=none:=by
  rw[P7];rw[Hg] at hk;intro q;apply hk;obtain⟨p,hp,rfl⟩:=List.mem_map.1 q;obtain⟨e,he,rfl⟩:=List.mem_map.1 (h.1.mem_iff.2 hp);exact List.mem_map.2 ⟨e,he,rfl⟩
theorem Fits.some {m:Mp δ}{l:List (Ky×γ×δ)}(h:Fits m l){key:Ky}{j:Nat}(hk:D7 (Ll l) key=some j):∃ e,l[j]?=some e/\e.1=key/\qL m key=some e.2.2:=by
  have h1:=P6 hk;unfold Ll at h1;rw[List.getElem?_map,Option.map_eq_some_iff] at h1;obtain⟨e,he,h2⟩:=h1;refine⟨e,he,h2,Hl h.2.nodup ?_⟩;rw[<- h2];exact h.1.mem_iff.1 (List.mem_map.2 ⟨e,List.mem_of_getElem? he,rfl⟩)
theorem Fits.len {m:Mp δ}{l:List (Ky×γ×δ)}(h:Fits m l):(Ll l).length=m.length:=by
  have:=h.1.length_eq;simpa [Ll] using this
section
variable {F O:Nat->Prop}{w0 w w':World}{hs rest:List HP}
def Acc (F O:Nat->Prop)(w0 w:World)(v:Vl γ δ)(b:Nat)(m:Mp δ)(hs:List HP):Prop :=
  ∃ l:List (Ky×γ×δ),Fits m l/\MbF w b (Ll l) (Vj v l)/\∀ e ∈ l,Cx F O w0 w (Sh v.q [e.2.1] [e.2.2]::hs)
theorem mb_f {b:Nat}{ks:List Ky}{vs:List Value}{S R:Nat->Prop}(h:(Mb b ks vs).p w S R):MbF w b ks vs:=⟨h.1,h.2.1⟩
theorem Cx.acc {v:Vl γ δ}{b:Nat}{m:Mp δ}(k:Cx F O w0 w (MS v b m::rest)):Acc F O w0 w v b m (MS v b m::rest):=by
  obtain⟨l,hf,k1⟩:=k.unpx;obtain⟨S,R,hb⟩:=k1.get 0 rfl;refine⟨l,hf,mb_f hb,fun e he=>?_⟩;refine k.dupw 0 rfl fun S R ⟨l',hf',hs'⟩=>?_;obtain⟨S1,R1,U1,V1,e1,e2,e3,e4,_⟩:=Sep.cut (i:=0) rfl hs';obtain⟨S2,R2,U2,V2,g1,g2,g3,g4,_⟩:=Sep.cut (i:=0) rfl e2;obtain⟨_,es,clock,m1,m2,m3,_⟩:=mb_f hb;obtain⟨_,es',clock',n1,n2,n3,_⟩:=mb_f e1;rw[m1] at n1;obtain⟨rfl,rfl⟩:es=es'/\clock=clock':=by simpa using n1
  obtain⟨j,hj⟩:=List.getElem?_of_mem he;have hk:(Ll l)[j]?=(Ll l')[j]?:=by
    have:(Ll l).map kV=(Ll l').map kV:=m2.symm.trans n2;have h1:=congrArg (fun x=>x[j]?) this;simp only[List.getElem?_map] at h1;cases ha:(Ll l)[j]? <;> cases hb:(Ll l')[j]? <;> rw[ha,hb] at h1 <;> simp at h1 <;> first | rfl | rw[XI h1]
  have hv:(Vj v l)[j]?=(Vj v l')[j]?:=by rw[<- m3,<-n3]
  unfold Ll at hk;unfold Vj at hv;rw[List.getElem?_map,List.getElem?_map,hj] at hk hv;cases hj':l'[j]? with
  | none=>rw[hj'] at hk;cases hk
  | some e' =>
    rw[hj'] at hk hv;simp only[Option.map_some,Option.some.injEq] at hk hv;have hy:=v.inj _ _ hv;have hx:e.2.2=e'.2.2:=by
      have q1:=Hl hf.2.nodup (hf.1.mem_iff.1 (List.mem_map.2 ⟨e,he,rfl⟩));have q2:=Hl hf'.2.nodup (hf'.1.mem_iff.1 (List.mem_map.2 ⟨e',List.mem_of_getElem? hj',rfl⟩));rw[hk] at q1;exact Option.some.inj (q1.symm.trans q2)
    refine⟨fun _ h=>h,rfl,fun j2 y x h1 h2=>?_⟩;cases j2 with
    | succ j2=>cases h1
    | zero =>
      obtain rfl:=Option.some.inj h1;obtain rfl:=Option.some.inj h2;rw[hy,hx];refine v.q.mono _ _ _ _ _ (fun b hb=>(e4 b).2 (.inr ((g4 b).2 (.inl hb)))) (g1.2.2 j _ _ ?_ ?_)
      ·rw[List.getElem?_map,hj'];rfl
      ·rw[List.getElem?_map,hj'];rfl
theorem Cx.doms {v:Vl γ δ}{b:Nat}{m:Mp δ}(l:List (Ky×γ×δ))(hf:Fits m l)(k:Cx F O w0 w (Mb b (Ll l) (Vj v l)::Sh v.q (l.map (·.2.1)) (l.map (·.2.2))::rest)):Cx F O w0 w (MS v b m::rest) :=
  Cx.dopx (φ:=Fits (γ:=γ) m) (l:=fun l=>[Mb b (Ll l) (Vj v l),Sh v.q (l.map (·.2.1)) (l.map (·.2.2))]) l hf k
theorem Cx.ms_new {v:Vl γ δ}{b:Nat}(k:Cx F O w0 w (hs++[Mb b [] []])):Cx F O w0 w (MS v b []::hs):=by
  refine Cx.doms [] ⟨.refl _,Om.nil⟩ ?_;have k1:Cx F O w0 w (Mb b [] []::hs):=k.perm (List.perm_append_comm (l₂:=[_]));exact(k1.shz v.q).perm (.swap _ _ _)
end
section
variable {P:Program}{n:Nat}{ops:Array Oper}{L:St}{w w0:World}{F O:Nat->Prop}{hs rest:List HP}{K:St->World->Prop}{v:Vl γ δ}{b:Nat}{m:Mp δ}
theorem look_run {t kt e:TypeId}{key:Ky}{ks:List Ky}{vs:List Value}{z:Value}(hF:MbF w b ks vs)(s7:P.underlying t=some (.map kt e))(s8:P.underlying kt=some .string)(hz:(zeroValue e).run P w=.ok z w)(ok:Bool) :
    (D7 ks key=none/\(Instr.lookup t (.map (some b)) (kV key) ok).run P w=.ok (if ok then .tuple #[z,.bool false] else z) w) ∨
    ∃ j val,D7 ks key=some j/\vs[j]?=some val/\(Instr.lookup t (.map (some b)) (kV key) ok).run P w=.ok (if ok then .tuple #[val,.bool true] else val) w:=by
  obtain⟨hl,es,clock,m1,m2,m3,m4⟩:=hF;have hck:=run_checkKey (P:=P) (w:=w) s8 (show IsKey .string (kV key) from trivial) es.isEmpty 9999;rcases Vh (d:=.string) rfl (k:=key) m2 m4.2.2 with⟨f1,f2⟩ | ⟨j,en,f1,f2,f3,f4⟩
  ·refine .inl ⟨f1,?_⟩;unfold Instr.lookup;simp only[Sem.run_bind,run_underlying s7,Result.andThen_ok,MapKept.run_getObj_map m1,Sem.run_pure,hck,run_findKey s8 f2,hz]
  ·refine .inr ⟨j,en.val,f1,?_,?_⟩
   ·rw[<- m3,List.getElem?_map,f3];rfl
   ·unfold Instr.lookup;simp only[Sem.run_bind,run_underlying s7,Result.andThen_ok,MapKept.run_getObj_map m1,Sem.run_pure,hck,run_findKey s8 f2]
theorem Op_lookF {dst:Option Nat}{t kt e ty:TypeId}{x y:Operand}{pos:String}{lD:Array Edge}{g:Option (Nat×Bool)}{ok:Bool}{v:Vl α α}{m:Mp α}(hv:v.q=SQ)(ss:List Nat)(d:Nat){key:Ky}(z:α)(sv:SV)
    (hside:(FH ops ss L ⟨dst,.lookup t x y ok,ty,pos,lD,g⟩,dst,(decide (d < n)),(L.any fun p=>p.1 == d),(toSS [x,y] (lk L)).map SV.vals,P.underlying t,P.underlying kt)=(true,some d,true,false,some [.map (some b),kV key],some (.map kt e),some .string))
    (hz:(zeroValue e).run P w=.ok (v.V z) w) (hA:Acc F O w0 w v b m hs) (hsv:SV.val sv=v.V ((qL m key).getD z))
    (h1:K ((d,if ok then .pX [sv,.b (qL m key).isSome] else sv)::L) w) :
    EI P n ops L w ⟨dst,.lookup t x y ok,ty,pos,lD,g⟩ K:=by
  simp only[Prod.mk.injEq,Option.map_eq_some_iff,decide_eq_true_eq] at hside;obtain⟨s1,rfl,s3,s4,⟨svs,s5,s6⟩,s7,s8⟩:=hside;refine CE (xs:=[x,y]) (svs:=svs) ss (d:=d) (by simp[Side,s1,s3,s4,s5]) fun a ha he=>?_;rw[s6] at he;simp only[List.map_cons,List.map_nil,List.cons.injEq,and_true] at he;obtain⟨l,hf,hm,hq⟩:=hA;have Vm:∃ val is,(Instr.lookup t (.map (some b)) (kV key) ok).run P w=.ok (if ok then .tuple #[val,.bool is] else val) w/\val=SV.val sv/\is=(qL m key).isSome:=by
    rcases look_run hm s7 s8 hz ok (key:=key) with⟨f1,f2⟩ | ⟨j,val,f1,f2,f3⟩
    ·exact⟨v.V z,false,f2,by rw[hsv,hf.none f1];rfl,by rw[hf.none f1];rfl⟩
    ·obtain⟨en,e1,e2,e3⟩:=hf.some f1;unfold Vj at f2;rw[List.getElem?_map,e1] at f2;obtain rfl:=Option.some.inj f2;have hk:=hq en (List.mem_of_getElem? e1);obtain⟨S,R,hh⟩:=hk.get 0 rfl;have hr:=hh.2.2 0 _ _ rfl rfl;rw[hv] at hr;have hr':en.2.1=en.2.2:=hr;exact⟨v.V en.2.1,true,f3,by rw[hsv,e3,hr'];rfl,by rw[e3];rfl⟩
  obtain⟨val,is,r1,r2,r3⟩:=Vm;unfold Oper.wp execOp;simp only[he.1,he.2,Sem.run_bind,r1,Result.andThen_ok,Sem.run_pure];refine⟨if ok then .pX [sv,.b (qL m key).isSome] else sv,?_,h1⟩;cases ok
  ·simp only[Bool.false_eq_true,if_false,r2]
  ·simp only[if_true,r2,r3];rfl
theorem Op_mlenM {dst:Option Nat}{x:Operand}{t kt e ty:TypeId}{pos:String}{lD:Array Edge}{g:Option (Nat×Bool)}(ss:List Nat)(d:Nat)
    (hside:(FH ops ss L ⟨dst,.call ⟨.builtin .len,#[x],#[t]⟩,ty,pos,lD,g⟩,dst,(decide (d < n)),(L.any fun p=>p.1 == d),(toSS [x] (lk L)).map SV.vals,P.underlying t)=(true,some d,true,false,some [.map (some b)],some (.map kt e)))
    (hA:Acc F O w0 w v b m hs) (hk:K ((d,I ((m.length:Nat):Int))::L) w) :
    EI P n ops L w ⟨dst,.call ⟨.builtin .len,#[x],#[t]⟩,ty,pos,lD,g⟩ K:=by
  simp only[Prod.mk.injEq,Option.map_eq_some_iff,decide_eq_true_eq] at hside;obtain⟨s1,rfl,s3,s4,⟨svs,s5,s6⟩,s7⟩:=hside;refine CE (xs:=[x]) (svs:=svs) ss (d:=d) (by simp[Side,s1,s3,s4,s5]) fun a ha he=>?_;rw[s6] at he;simp only[List.map_cons,List.map_nil,List.cons.injEq,and_true] at he;obtain⟨l,hf,⟨hl,es,clock,m1,m2,m3,m4⟩,hq⟩:=hA;have hsz:es.size=m.length:=by
    have:=congrArg List.length m2;rw[<- hf.len];simpa using this
  have hrun:(Builtin.len_ #[t] ty #[.map (some b)]).run P w=.ok (.int .i64 ((m.length:Nat):Int)) w:=by
    unfold Builtin.len_;simp[Sem.run_bind,run_underlying s7,Result.andThen_ok,MapKept.run_getObj_map m1,goInt,hsz,Result.andThen]
  unfold Oper.wp execOp;simp only[resolve,invoke,builtin,Sem.run_bind,Sem.run_pure,Result.andThen_ok,List.map_toArray,List.map_cons,List.map_nil,he,hrun];exact⟨_,rfl,hk⟩
theorem Op_updS {t kt e ty:TypeId}{mo y x:Operand}{pos:String}{lD:Array Edge}{g:Option (Nat×Bool)}(ss:List Nat){key:Ky}{u:γ}{a:δ}
    (hside:(FH ops ss L (⟨none,.mapUpdate t mo y x,ty,pos,lD,g⟩:Oper),(toSS [mo,y,x] (lk L)).map SV.vals,P.underlying t,P.underlying kt)=(true,some [.map (some b),kV key,v.V u],some (.map kt e),some .string))
    (k:Cx F O w0 w (MS v b m::Sh v.q [u] [a]::rest)) (hk:∀ w',Cx F O w0 w' (MS v b (F9 m key a)::rest)->K L w') :
    EI P n ops L w ⟨none,.mapUpdate t mo y x,ty,pos,lD,g⟩ K:=by
  obtain⟨l,hf,k1⟩:=k.unpx;refine Op_upd ss 0 (v.V u) hside k1 rfl fun w' k'=>hk w' ?_;have k2:Cx F O w0 w' (Sh v.q (l.map (·.2.1)) (l.map (·.2.2))::Sh v.q [u] [a]::Mb b (I7 (Ll l) key) (I8 (Ll l) (Vj v l) key (v.V u))::rest):=by
    have k3:Cx F O w0 w' (Mb b (I7 (Ll l) key) (I8 (Ll l) (Vj v l) key (v.V u))::Sh v.q (l.map (·.2.1)) (l.map (·.2.2))::Sh v.q [u] [a]::rest):=k';exact k3.perm ((List.Perm.swap _ _ _).trans (.cons _ (.swap _ _ _)))
  have k3:=k2.sha;cases hfd:D7 (Ll l) key with
  | none =>
    have hnk:key ∉ m.map (·.1):=by rw[<- P7];exact hf.none hfd
    refine Cx.doms (l++[(key,u,a)]) ⟨?_,hf.2.F9 key a⟩ ?_
    ·rw[List.map_append];exact(List.perm_append_comm.trans (List.Perm.cons _ hf.1)).trans (ZJ a hnk).symm
    ·have e1:I7 (Ll l) key=Ll (l++[(key,u,a)]):=by unfold I7;rw[hfd];simp[Ll]
     have e2:I8 (Ll l) (Vj v l) key (v.V u)=Vj v (l++[(key,u,a)]):=by unfold I8;rw[hfd];simp[Vj]
     rw[e1,e2] at k3;have e3:(l++[(key,u,a)]).map (·.2.1)=l.map (·.2.1)++[u]:=by simp
     have e4:(l++[(key,u,a)]).map (·.2.2)=l.map (·.2.2)++[a]:=by simp
     show Cx F O w0 w' (Mb b _ _::Sh v.q _ _::rest);rw[e3,e4];exact k3.perm (.swap _ _ _)
  | some j =>
    obtain⟨en,f1,f2,f3⟩:=hf.some hfd;have hj:j < l.length:=(List.getElem?_eq_some_iff.1 f1).1;have hen:l[j]=en:=(List.getElem?_eq_some_iff.1 f1).2;refine Cx.doms (l.set j (key,u,a)) ⟨?_,hf.2.F9 key a⟩ ?_
    ·obtain⟨x1,x2,g1,g2⟩:=mins_set hf.2 a (ZI f3);rw[g2];have p1:((l.set j (key,u,a)).map kx).Perm ((key,a)::(l.eraseIdx j).map kx):=by
       have:=PZ (l:=l) (i:=j) (key,u,a) hj;exact(this.symm.map kx)
     have p2:(l.map kx).Perm ((key,en.2.2)::(l.eraseIdx j).map kx):=by
       have:=PY f1;refine(this.map kx).trans ?_;rw[List.map_cons,show kx en=(key,en.2.2) from by unfold kx;rw[f2]]
     have p3:((key,en.2.2)::(l.eraseIdx j).map kx).Perm ((key,en.2.2)::(x1++x2)):=by
       refine p2.symm.trans (hf.1.trans ?_);rw[g1];exact List.perm_middle
     exact p1.trans ((List.Perm.cons _ (List.Perm.cons_inv p3)).trans List.perm_middle.symm)
    ·have e1:I7 (Ll l) key=Ll (l.set j (key,u,a)):=by
       unfold I7;rw[hfd];unfold Ll;rw[List.map_set];apply List.ext_getElem?;intro q;rw[List.getElem?_set];by_cases hq:j=q
       ·subst hq;rw[if_pos rfl,List.getElem?_map,f1];simp[f2,hj]
       ·rw[if_neg hq]
     have e2:I8 (Ll l) (Vj v l) key (v.V u)=Vj v (l.set j (key,u,a)):=by unfold I8;rw[hfd];simp[Vj]
     rw[e1,e2] at k3;show Cx F O w0 w' (Mb b _ _::Sh v.q _ _::rest);have k4:Cx F O w0 w' (Sh v.q ((l.set j (key,u,a)).map (·.2.1)) ((l.set j (key,u,a)).map (·.2.2))::Mb b (Ll (l.set j (key,u,a))) (Vj v (l.set j (key,u,a)))::rest):=by
       have:=k3.weak (h':=Sh v.q ((l.set j (key,u,a)).map (·.2.1)) ((l.set j (key,u,a)).map (·.2.2))) 0 rfl fun w S R ⟨h0,h1,h2⟩=>by
         refine⟨h0,by simp,fun i y x g1 g2=>?_⟩;rw[List.map_set,List.getElem?_set] at g1 g2;split at g1
         ·rename_i hji;rw[if_pos hji] at g2;split at g1
          ·rename_i hlt;rw[if_pos (by simpa using hlt)] at g2;obtain rfl:=Option.some.inj g1;obtain rfl:=Option.some.inj g2;exact h2 l.length _ _ (by rw[List.getElem?_append_right (by simp)];simp) (by rw[List.getElem?_append_right (by simp)];simp)
          ·cases g1
         ·rename_i hji;rw[if_neg hji] at g2;refine h2 i y x ?_ ?_
          ·rw[List.getElem?_append_left (List.getElem?_eq_some_iff.1 g1).1];exact g1
          ·rw[List.getElem?_append_left (List.getElem?_eq_some_iff.1 g2).1];exact g2
       simpa only [List.set_cons_zero] using this
     exact k4.perm (.swap _ _ _)
theorem YL {t kt e ty:TypeId}{mo y x:Operand}{pos:String}{lD:Array Edge}{g:Option (Nat×Bool)}{v:Vl α α}{m:Mp α}(hv:v.q=SQ)(ss:List Nat){key:Ky}(a:α)
    (hside:(FH ops ss L (⟨none,.mapUpdate t mo y x,ty,pos,lD,g⟩:Oper),(toSS [mo,y,x] (lk L)).map SV.vals,P.underlying t,P.underlying kt)=(true,some [.map (some b),kV key,v.V a],some (.map kt e),some .string))
    (k:Cx F O w0 w (MS v b m::rest)) (hk:∀ w',Cx F O w0 w' (MS v b (F9 m key a)::rest)->K L w') :
    EI P n ops L w ⟨none,.mapUpdate t mo y x,ty,pos,lD,g⟩ K:=by
  have k1:Cx F O w0 w (Sh v.q [a] [a]::MS v b m::rest):=by rw[hv];exact k.shq a
  exact Op_updS ss hside (k1.perm (.swap _ _ _)) hk
end
end Go.Sx
namespace Go.Sx
open Go.RowKit Go.MapKept
set_option linter.unusedSimpArgs false
set_option linter.unusedVariables false
variable {α β γ δ ε ζ σ ι:Type}
section
variable {P:Program}{n:Nat}{ops:Array Oper}{L:St}{w w0:World}{F O:Nat->Prop}{hs rest:List HP}{K:St->World->Prop}
end
section
variable {P:Program}{n:Nat}{ops:Array Oper}{L:St}{w w0:World}{F O:Nat->Prop}{hs rest:List HP}{K:St->World->Prop}{v:Vl γ δ}{b r:Nat}{m left:Mp δ}{cur:Option (Ky×δ)}{sh:Bool}
end
end Go.Sx
namespace Go.Sx
open Go.RowKit Go.MapKept
set_option linter.unusedSimpArgs false
set_option linter.unusedVariables false
variable {α β γ δ ε ζ σ ι:Type}
def Inj (E:Enc α):Prop:=∀ a b,E.f a=E.f b->a=b
theorem Bi:Inj eI:=fun a b h=>by simpa [eI] using h
theorem Bj:Inj eS:=fun a b h=>by simpa [eS] using h
theorem vU:Inj e64:=fun a b h=>by
  have h1:[SV.val (.u64 a)]=[SV.val (.u64 b)]:=h;simp only[SV.val,List.cons.injEq,Value.int.injEq,and_true,true_and] at h1;exact UInt64.toNat_inj.1 (by omega)
theorem nH {E:Enc α}{F:Enc β}(h1:Inj E)(h2:Inj F):Inj (eP E F):=fun a b h=>by
  have h3:E.f a.1++F.f a.2=E.f b.1++F.f b.2:=h;obtain⟨q1,q2⟩:=List.append_inj h3 (by rw[E.len,E.len]);exact Prod.ext (h1 _ _ q1) (h2 _ _ q2)
section
variable {P:Program}{n:Nat}{ops:Array Oper}{L:St}{w w0:World}{F O:Nat->Prop}{hs rest:List HP}{K:St->World->Prop}{b:Nat}
theorem Sj {dst:Option Nat}{t kt e ty:TypeId}{x y:Operand}{pos:String}{lD:Array Edge}{g:Option (Nat×Bool)}{v:Vl α α}{m:Mp α}(hv:v.q=SQ)(ss:List Nat)(d:Nat){key:Ky}(z:α)(sv:SV)
    (hside:(FH ops ss L ⟨dst,.lookup t x y true,ty,pos,lD,g⟩,dst,(decide (d < n)),(L.any fun p=>p.1 == d),(toSS [x,y] (lk L)).map SV.vals,P.underlying t,P.underlying kt)=(true,some d,true,false,some [.map (some b),kV key],some (.map kt e),some .string))
    (hz:(zeroValue e).run P w=.ok (v.V z) w) (hA:Acc F O w0 w v b m hs) (hsv:SV.val sv=v.V ((qL m key).getD z))
    (h1:K ((d,.pX [sv,.b (qL m key).isSome])::L) w) :
    EI P n ops L w ⟨dst,.lookup t x y true,ty,pos,lD,g⟩ K:=Op_lookF (ok:=true) hv ss d z sv hside hz hA hsv h1
end
section
variable {F O F1 O1:Nat->Prop}{w0 w w':World}{hs rest:List HP}{E:Enc α}
variable {A:Option Addr}{n c:Nat}{ys:List Hd}{xs:List (List α)}
end
end Go.Sx
namespace Go.Sx
open Go.RowKit
set_option linter.unusedVariables false
variable {δ σ:Type}
end Go.Sx
namespace Go.Sx
open Go.RowKit Go.Proofs
set_option linter.unusedVariables false
variable {α γ δ:Type}
end Go.Sx
namespace Go.Sx
open Go.RowKit
set_option linter.unusedVariables false
variable {α γ δ:Type}{F O:Nat->Prop}{w0 w:World}{hs:List HP}
end Go.Sx
namespace Go.Sx
open Go.RowKit Go.MapKept
set_option linter.unusedVariables false
set_option linter.unusedSimpArgs false
variable {α γ δ:Type}{F O:Nat->Prop}{w0 w:World}{hs rest:List HP}
end Go.Sx
namespace Go.Sx
open Go.RowKit Go.MapKept
set_option linter.unusedVariables false
set_option linter.unusedSimpArgs false
variable {P:Program}{n:Nat}{ops:Array Oper}{L:St}{w:World}{K:St->World->Prop}
end Go.Sx
namespace Go.Sx
open Go.RowKit
set_option linter.unusedSimpArgs false
set_option linter.unusedVariables false
variable {α β γ δ ε ζ:Type}
section
variable {F O:Nat->Prop}{w0 w w':World}{hs rest:List HP}{E:Enc γ}{q:Rl γ δ}{A:Option Addr}{n c:Nat}{ys:List γ}{xs:List δ}
end
end Go.Sx
namespace Go.Sx
open Go.RowKit
set_option linter.unusedSimpArgs false
set_option linter.unusedVariables false
section
variable {P:Program}{n:Nat}{ops:Array Oper}{L:St}{w w0:World}{F O:Nat->Prop}{hs:List HP}{K:St->World->Prop}
end
theorem I9.way {P:Program}{F F1 O:Nat->Prop}{w0 w:World}{hs:List HP}(h:I9 P F w0)(k:Cx F O w0 w hs)(hF1:∀ b,F1 b->F b∨w0.heap.size<=b):I9 P F1 w:=by
  obtain⟨h1,g,hg,hF⟩:=h;refine⟨I9.cx ⟨h1,g,hg,hF⟩ k,g,hg,fun hf=>(hF1 g hf).elim hF fun hle=>?_⟩;unfold Lib.TabIs World.var? at h1;rw[hg] at h1;simp only[Option.bind_some] at h1;rw[Array.getElem?_eq_none hle] at h1;cases h1
end Go.Sx
namespace Go.Sx
open Go.RowKit
set_option linter.unusedSimpArgs false
set_option linter.unusedVariables false
variable {α:Type}
def zH (N:Nat)(xs:List α):Option (Vec α N):=if h:N<=xs.length then some ⟨xs.take N,by rw[List.length_take];omega⟩ else none
theorem yQ {N:Nat}{xs:List α}{v:Vec α N}(h:zH N xs=some v):N<=xs.length/\v.l=xs.take N:=by
  unfold zH at h;split at h
  ·simp only[Option.some.injEq] at h;subst h;exact⟨by assumption,rfl⟩
  ·cases h
theorem Rd.zH {w:World}{A:Option Addr}{E:Enc α}{N:Nat}{xs:List α}{v:Vec α N}(h:Rd w A (E.all xs))(hv:zH N xs=some v)(hN:0 < N*E.sz):∃ a,A=some a/\Rd w (some a) (SV.cl [SV.ar E v]):=by
  obtain⟨h1,h2⟩:=yQ hv;have hp:E.all v.l=(E.all xs).take (N*E.sz):=by rw[h2,Enc.CG]
  have hl:(E.all v.l).length=N*E.sz:=by rw[Enc.fU,v.h]
  have hne:E.all xs≠[]:=fun e=>by
    rw[hp,e,List.take_nil,List.length_nil] at hl;omega
  obtain⟨a,ha⟩:=h.1 hne;refine⟨a,ha,fun _=>⟨a,rfl⟩,fun b j u hb hu=>?_⟩;cases hb;rw[Vd] at hu;have hu:((E.all xs).take (N*E.sz))[j]?=some u:=by rw[<- hp];exact hu
  refine h.2 a j u ha ?_;rw[List.getElem?_take] at hu;split at hu
  ·exact hu
  ·cases hu
section
variable {P:Program}{n:Nat}{ops:Array Oper}{L:St}{w:World}{K:St->World->Prop}
theorem JO {dst:Option Nat}{x:Operand}{t ty:TypeId}{pos:String}{lD:Array Edge}{g:Option (Nat×Bool)}(ss:List Nat)(d:Nat){A:Option Addr}{m c N:Nat}{e:TypeId}
    (hside:(FH ops ss L ⟨dst,.sliceToArrayPointer t x,ty,pos,lD,g⟩,dst,(decide (d < n)),(L.any fun p=>p.1 == d),(toSS [x] (lk L)).map SV.vals,P.underlying t)=(true,some d,true,false,some [.slice A m c],some (.array N e)))
    (hN:N<=m) (hk:K ((d,.v (.pointer A))::L) w) :
    EI P n ops L w ⟨dst,.sliceToArrayPointer t x,ty,pos,lD,g⟩ K:=by
  simp only[Prod.mk.injEq,Option.map_eq_some_iff,decide_eq_true_eq] at hside;obtain⟨s1,rfl,s3,s4,⟨svs,s5,s6⟩,s7⟩:=hside;refine CE (xs:=[x]) (svs:=svs) ss (d:=d) (by simp[Side,s1,s3,s4,s5]) fun a ha he=>?_;rw[s6] at he;simp only[List.map_cons,List.map_nil,List.cons.injEq,and_true] at he;have hrun:(Instr.arrayAt t (.slice A m c)).run P w=.ok (.pointer A) w:=by
    unfold Instr.arrayAt;have h1:¬ m < N:=by omega
    simp[run_underlying s7,h1,hN]
  unfold Oper.wp execOp;simp only[he,Sem.run_bind,hrun,Result.andThen_ok,Sem.run_pure];exact⟨.v (.pointer A),rfl,hk⟩
end
theorem Rd.elA {w:World}{A p:Option Addr}{E:Enc α}{m:Nat}{xs:List (Vec α m)}{i:Int}{x:Vec α m}(h:Rd w A ((eV E m).all xs))(hg:aU xs i=some x)(hp:Pt A (i.toNat*(eV E m).sz) p)(hm:0 < (eV E m).sz):Rd w p (E.all x.l):=by
  obtain⟨a,rfl,h2⟩:=Rd.elV h hg (by rwa [Nat.add_zero]) hm
  rwa [Vd] at h2
theorem Rd.NC {w:World}{A p:Option Addr}{E:Enc α}{m z:Nat}{xs:List (Vec α m)}{i:Int}{x:Vec α m}(hz:(eV E m).sz=z)(h:Rd w A ((eV E m).all xs))(hg:aU xs i=some x)(hp:Pt A (i.toNat*z+0) p)(hm:0 < z):Rd w p (E.all x.l):=by
  subst hz;exact h.elA hg (by rwa [Nat.add_zero] at hp) hm
theorem LU {E:Enc α}{m:Nat}(v x:Vec α m):(eV E m).f v=pat ((eV E m).f x) 0 (SV.cl [SV.ar E v]):=by
  have h1:((eV E m).f v).length=m*E.sz:=(eV E m).len v;have h2:((eV E m).f x).length=m*E.sz:=(eV E m).len x;rw[Vd,pat,List.take_zero,List.nil_append,List.drop_of_length_le (by omega),List.append_nil]
theorem lin_eq {hd:List Hd}{i:Int}{B B2:Option Addr}{n n2 c c2:Nat}(h:aU hd i=some (B,n,c))(h2:aU hd i=some (B2,n2,c2)):n2=n/\c2=c:=by
  rw[h] at h2;simp only[Option.some.injEq,Prod.mk.injEq] at h2;exact⟨h2.2.1.symm,h2.2.2.symm⟩
theorem Vo {E:Enc α}{w:World}:∀ m:Nat,Sep w (rows E (List.replicate m ((Option.none,0,0):Hd)) (List.replicate m [])) (fun _=>False) (fun _=>False)
  | 0=>⟨fun _ h=>h,fun _ h=>h⟩
  | m+1=>by
    rw[List.replicate_succ,List.replicate_succ];exact⟨fun _=>False,fun _=>False,fun _=>False,fun _=>False,⟨rfl,.inl ⟨rfl,rfl,rfl⟩⟩,Vo m,by simp,by simp,by simp,by simp⟩
theorem Cx.mk2nil {F O:Nat->Prop}{w0 w:World}{hs:List HP}{A:Option Addr}{n c m:Nat}(E:Enc α)(k:Cx F O w0 w (hs++[Ow eH A n c (List.replicate m ((Option.none,0,0):Hd))])) :
    Cx F O w0 w (hs++[O2 E A n c (List.replicate m ((Option.none,0,0):Hd)) (List.replicate m [])]):=by
  have h:=k.upd (h':=O2 E A n c (List.replicate m ((Option.none,0,0):Hd)) (List.replicate m [])) hs.length (by simp) Option.none (w':=w) ⟨rfl,rfl,rfl,Nat.le_refl _,fun _ _ _=>rfl⟩ (fun S R h hd hlt=>⟨fun g hg=>(by cases hg),S,R,
    ⟨by simp,S,R,fun _=>False,fun _=>False,h,Vo m,by simp,by simp,fun b hb=>⟨fun q=>q,hd b hb,fun q=>q⟩,by simp⟩,fun b hb=>⟨hlt b (.inl hb),hd b hb,.inl hb⟩,fun b hb=>⟨hlt b (.inr hb),.inl hb⟩⟩)
  simpa using h
end Go.Sx
