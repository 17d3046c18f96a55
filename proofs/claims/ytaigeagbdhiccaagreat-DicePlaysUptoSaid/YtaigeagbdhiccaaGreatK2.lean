import Derived.OpenShut
import Derived.ShutString
import Derived.ChangeOld
import Derived.Below
import Derived.JoinedCond
import Derived.MapKept
import Derived.Maps.RangeRun
import Derived.Sort.OwnSorted
import Derived.Sort.KeysCollected
import Derived.Shelf.Sort.Plain
import Derived.Shelf.Slices.In.SortNone
import Derived.Sort.OwnSortedInts
import Derived.Shelf.Strconv.Itoa3
import Derived.Laws.FloatArith
import Derived.Test.YtaigeagbdhiccaaGreatK1
namespace Go.Sx
open Go.RowKit
set_option linter.unusedSimpArgs false
set_option linter.unusedVariables false
def QF:Exit->Act->World->Prop:=fun _ _ _=>False
section
variable {P:Program}{ops:Array Oper}{Ls:List Nat}{C:Nat->World->Prop}
def nx (Ls:List Nat)(p i:Nat):Nat:=if Ls.contains i then p+1 else p
def wpC (P:Program)(ops:Array Oper)(Ls:List Nat)(C:Nat->World->Prop)(Q:Act->World->Prop):Nat->Nat->Array Bool->Act->World->Prop
  | 0,_,listed,a,w=>Region.ready .any ops listed=[]/\Q a w
  | k+1,p,listed,a,w=>(Region.ready .any ops listed=[]->Q a w) /\
      ∀ i ∈ Region.ready .any ops listed,wpOp P ops QF i (fun a' w'=>C (nx Ls p i) w'/\wpC P ops Ls C Q k (nx Ls p i) (listed.setIfInBounds i true) a' w') a w
theorem wpOp_Q {i:Nat}{a:Act}{w:World}{K:Act->World->Prop}{Q:Exit->Act->World->Prop}(h:wpOp P ops QF i K a w):wpOp P ops Q i K a w:=by
  unfold wpOp at *;split
  ·rename_i ho;simp only[ho] at h;exact h
  ·rename_i o ho;simp only[ho] at h;split
   ·rename_i hw;rw[if_pos hw] at h;rcases h with h | ⟨_,a',w',hf⟩
    ·exact .inl (Oper.wp_Q (fun _ _ _ hf=>hf.elim) h)
    ·exact hf.elim
   ·rename_i hw;rw[if_neg hw] at h;exact h
theorem VU {Q:Act->World->Prop}{Q':Exit->Act->World->Prop}(hq:∀ a w,Q a w->Q' .normal a w):∀ (k p:Nat) (listed:Array Bool) (a:Act) (w:World),wpC P ops Ls C Q k p listed a w->wpAny P .any ops Q' k listed a w
  | 0,_,_,_,_,h=>⟨h.1,hq _ _ h.2⟩
  | k+1,_,_,_,_,h=>⟨fun h0=>hq _ _ (h.1 h0),fun i hi=>wpOp_mono (fun a' w' h'=>VU hq k _ _ a' w' h'.2) (wpOp_Q (h.2 i hi))⟩
def YC (P:Program)(ops:Array Oper)(C:World->Prop)(o:Oper)(v:Value)(a:Act):Prop :=
  (Region.wanted o (yielded ops a.tmps)=true/\∀ w,C w->(execOp a.eval o).run P w=.ok (.value v) w)∨(Region.wanted o (yielded ops a.tmps)=false/\v=undef)
theorem YC.op {D:World->Prop}{i:Nat}{o:Oper}{v:Value}{a:Act}{w:World}{Q:Exit->Act->World->Prop}(hi:ops[i]?=some o)(hy:YC P ops D o v a)(hw:D w){K:Act->World->Prop}(h:K (a.put o.dst v) w):wpOp P ops Q i K a w:=by
  unfold wpOp;simp only[hi];rcases hy with⟨h1,h2⟩ | ⟨h1,rfl⟩
  ·rw[if_pos h1];refine .inl ?_;unfold Oper.wp;rw[h2 w hw];exact h
  ·rw[if_neg (by simp[h1])];exact h
theorem wpOp_put {D:World->Prop}{j:Nat}{oi oj:Oper}{v:Value}{w:World}(hj:ops[j]?=some oj)(hap:oi.apart ops oj=true)(hsi:∀ cs b,oi.op≠.select cs b)(hsj:∀ cs b,oj.op≠.select cs b){K:Act->World->Prop}{a:Act}
    (hy:YC P ops D oi v a) (h:wpOp P ops QF j K (a.put oi.dst v) w):wpOp P ops QF j (fun a' w'=>YC P ops D oi v a'/\K (a'.put oi.dst v) w') a w:=by
  obtain⟨h1,h2,h3⟩:=Oper.apart_spec hap;have keep:∀ (u:Value),YC P ops D oi v (a.put oj.dst u):=fun u=>by
    unfold YC at *;rw[execOp_put oi hsi a oj.dst u h3,wanted_put oi a oj.dst u h3];exact hy
  have keepD:∀ (u:Value) (d:Deferred),YC P ops D oi v ({ a with defers:=d::a.defers }.put oj.dst u):=fun u d=>by
    have h4:=keep u;unfold YC at *;have e1:({ a with defers:=d::a.defers }:Act).put oj.dst u={ a.put oj.dst u with defers:=d::a.defers }:=by
      unfold Act.put;split <;> rfl
    rw[e1];exact h4
  unfold wpOp at *;simp only[hj] at *;rw[wanted_put oj a oi.dst v h1] at h;split
  ·rename_i hw;rw[if_pos hw] at h;rcases h with h | ⟨_,a',w',hf⟩
   ·refine .inl ?_;unfold Oper.wp at *;rw[execOp_put oj hsj a oi.dst v h1] at h;generalize (execOp a.eval oj).run P w=r at *;cases r with
    | ok x w' =>
      cases x <;> simp only[Oper.upon] at h ⊢ <;> first | exact h.elim | skip
      case value u=>exact⟨keep u,by rw[<- Act.put_comm a v u h2];exact h⟩
      case skip=>exact⟨keep _,by rw[<- Act.put_comm a v undef h2];exact h⟩
      case defer d =>
        refine⟨keepD _ d,?_⟩;have e1:(({ a with defers:=d::a.defers }:Act).put oj.dst undef).put oi.dst v=({ a.put oi.dst v with defers:=d::(a.put oi.dst v).defers }:Act).put oj.dst undef:=by
          rw[<- Act.put_comm _ v undef h2];unfold Act.put;cases oi.dst <;> rfl
        rw[e1];exact h
      case enter f args =>
        refine h.mono fun e w'' he=>?_;cases e with
        | returned u=>exact⟨keep u,by rw[<- Act.put_comm a v u h2];exact he⟩
        | panicked c=>exact he
        | outgrown=>exact he
      case row row args =>
        refine h.mono fun u w'' he=>⟨keep u,by rw[<- Act.put_comm a v u h2];exact he⟩
    | halt x w'=>cases x <;> simp only[Oper.upon] at h ⊢ <;> exact h
   ·exact hf.elim
  ·rename_i hw;rw[if_neg hw] at h;exact⟨keep _,by rw[<- Act.put_comm a v undef h2];exact h⟩
def asks (ops:Array Oper)(j i:Nat):Bool:=match ops[j]? with
  | some o=>o.after.any fun e=>Region.binds .any e&&e.on == i
  | none=>false
def LD (ops:Array Oper)(lst:Nat->Bool)(j i:Nat):Bool:=asks ops j i||match ops[j]? with
  | some o=>o.after.any fun e=>Region.binds .any e&&!lst e.on&&asks ops e.on i
  | none=>false
def ahead (ops:Array Oper)(Ls:List Nat)(listed:Array Bool)(i:Nat):Nat:=(Ls.filter fun j=>!listed.getD j true&&!LD ops (fun x=>listed.getD x false) j i).length
theorem asks_not {i j:Nat}{oj:Oper}(hj:ops[j]?=some oj)(hnot:∀ e ∈ oj.after,Region.binds .any e=true->e.on≠i):asks ops j i=false:=by
  unfold asks;rw[hj];simp only[Array.any_eq_false'];intro e he;have:=hnot e he;cases hb:Region.binds .any e with
  | false=>simp
  | true=>simpa using this hb
theorem XO {listed:Array Bool}{i j:Nat}(hj:j ∈ Region.ready .any ops listed)(hi:listed.getD i true=false):LD ops (fun x=>listed.getD x false) j i=false:=by
  obtain⟨hjun,oj,hoj,hall⟩:=mem_ready.1 hj;have hi':listed.getD i false=false:=by
    rcases Nat.lt_or_ge i listed.size with h' | h'
    ·simp[h'] at hi ⊢;exact hi
    ·simp[Array.getElem?_eq_none h']
  unfold LD;rw[asks_not hoj (fun e he hb heq=>by have:=hall e he hb;rw[heq,hi'] at this;cases this),hoj];simp only[Bool.false_or,Array.any_eq_false'];intro e he;cases hb:Region.binds .any e with
  | false=>simp
  | true=>simp only[hall e he hb];simp
theorem XP {listed:Array Bool}{i j x:Nat}(hj:j ∈ Region.ready .any ops listed)(hi:listed.getD i true=false)(h:LD ops (fun x=>listed.getD x false) x i=true):LD ops (fun y=>(listed.setIfInBounds j true).getD y false) x i=true:=by
  have hji:asks ops j i=false:=by
    have:=XO hj hi;unfold LD at this;rw[Bool.or_eq_false_iff] at this;exact this.1
  unfold LD at h ⊢;rw[Bool.or_eq_true] at h ⊢;rcases h with h | h
  ·exact .inl h
  ·refine .inr ?_;cases ho:ops[x]? with
   | none=>rw[ho] at h;cases h
   | some o =>
     rw[ho] at h;simp only[Array.any_eq_true'] at h ⊢;obtain⟨e,he,hq⟩:=h;refine⟨e,he,?_⟩;simp only[Bool.and_eq_true,Bool.not_eq_true'] at hq ⊢;obtain⟨⟨h1,h2⟩,h3⟩:=hq;refine⟨⟨h1,?_⟩,h3⟩;by_cases hje:j=e.on
     ·rw[<- hje,hji] at h3;cases h3
     ·rw[getD_set_ne false hje];exact h2
theorem ahead_le {listed:Array Bool}{i j:Nat}(hr:j ∈ Region.ready .any ops listed)(hi:listed.getD i true=false):ahead ops Ls (listed.setIfInBounds j true) i<=ahead ops Ls listed i:=by
  unfold ahead;rw[<- List.countP_eq_length_filter,<-List.countP_eq_length_filter];refine List.countP_mono_left fun x _ hx=>?_;simp only[Bool.and_eq_true,Bool.not_eq_true'] at hx ⊢;refine⟨?_,?_⟩
  ·by_cases hxj:j=x
   ·subst hxj;have:=hx.1;rcases Nat.lt_or_ge j listed.size with h | h
    ·simp[h] at this
    ·simp[Array.getElem?_eq_none h] at this
   ·rw[getD_set_ne true hxj] at hx;exact hx.1
  ·cases hq:LD ops (fun x=>listed.getD x false) x i with
   | false=>rfl
   | true=>rw[XP hr hi hq] at hx;exact absurd hx.2 (by decide)
theorem ahead_lt {listed:Array Bool}{i j:Nat}(hr:j ∈ Region.ready .any ops listed)(hi:listed.getD i true=false)(hj:Ls.contains j=true)(hun:listed.getD j true=false):ahead ops Ls (listed.setIfInBounds j true) i+1<=ahead ops Ls listed i:=by
  have hna:=XO hr hi;unfold ahead;rw[<- List.countP_eq_length_filter,<-List.countP_eq_length_filter];have key:∀ l:List Nat,l.countP (fun x=>!(listed.setIfInBounds j true).getD x true&&!LD ops (fun y=>(listed.setIfInBounds j true).getD y false) x i)<=l.countP (fun x=>!listed.getD x true&&!LD ops (fun y=>listed.getD y false) x i):=fun l=>by
    refine List.countP_mono_left fun x _ hx=>?_;simp only[Bool.and_eq_true,Bool.not_eq_true'] at hx ⊢;refine⟨?_,?_⟩
    ·by_cases hxj:j=x
     ·subst hxj;exact hun
     ·rw[getD_set_ne true hxj] at hx;exact hx.1
    ·cases hq:LD ops (fun x=>listed.getD x false) x i with
     | false=>rfl
     | true=>rw[XP hr hi hq] at hx;exact absurd hx.2 (by decide)
  have hjs:(listed.setIfInBounds j true).getD j true=true:=by
    rcases Nat.lt_or_ge j listed.size with h | h
    ·simp[h]
    ·simp[Array.getElem?_eq_none h]
  induction Ls with
  | nil=>simp at hj
  | cons x l ih =>
    rw[List.countP_cons,List.countP_cons];by_cases hx:x=j
    ·subst hx;have:=key l;simp only[hjs,hun,hna,Bool.not_true,Bool.false_and,Bool.not_false,Bool.and_self,if_true];simp only[Bool.false_eq_true,if_false];omega
    ·have h1:l.contains j=true:=by
       simp only[List.contains_cons,Bool.or_eq_true,beq_iff_eq] at hj;exact hj.resolve_left (fun e=>hx e.symm)
     have:=ih h1;have hm:(if(!(listed.setIfInBounds j true).getD x true&&!LD ops (fun y=>(listed.setIfInBounds j true).getD y false) x i)=true then 1 else 0)<=(if(!listed.getD x true&&!LD ops (fun y=>listed.getD y false) x i)=true then 1 else 0):=by
       have:=key [x];simpa [List.countP_cons] using this
     omega
theorem XQ {Q:Act->World->Prop}{i m:Nat}{oi:Oper}{v:Value}(hmono:∀ p q x,p<=q->C p x->C q x)(hi:ops[i]?=some oi)(hil:Ls.contains i=false)(hsel:∀ (j:Nat) (o:Oper) cs b,ops[j]?=some o->o.op≠.select cs b) :
    ∀ (k p:Nat) (listed:Array Bool) (a:Act) (w:World),C p w->p+ahead ops Ls listed i<=m ->
      (∀ j oj,ops[j]?=some oj->j≠i->listed.getD j true=false->(∀ e ∈ oj.after,Region.binds .any e=true->e.on≠i)->oi.apart ops oj=true) ->
      i ∈ Region.ready .any ops listed->YC P ops (C m) oi v a ->
      wpC P ops Ls C Q k p (listed.setIfInBounds i true) (a.put oi.dst v) w->wpC P ops Ls C Q (k+1) p listed a w:=by
  have hni:∀ p,nx Ls p i=p:=fun p=>by unfold nx;rw[hil];rfl
  intro k
  induction k with
  | zero =>
    intro p listed a w hw hm _ hr hy H;refine⟨fun h=>(by rw[h] at hr;cases hr),fun j hj=>?_⟩;by_cases hji:j=i
    ·subst hji;rw[hni];exact hy.op hi (hmono p m w (by omega) hw) ⟨hw,H⟩
    ·have:=ready_mono hj hji;rw[H.1] at this;cases this
  | succ k ih =>
    intro p listed a w hw hm hfree hr hy H;refine⟨fun h=>(by rw[h] at hr;cases hr),fun j hj=>?_⟩;by_cases hji:j=i
    ·subst hji;rw[hni];exact hy.op hi (hmono p m w (by omega) hw) ⟨hw,H⟩
    ·have h1:=H.2 j (ready_mono hj hji);obtain⟨hjun,oj,hoj,hall⟩:=mem_ready.1 hj;have hnot:∀ e ∈ oj.after,Region.binds .any e=true->e.on≠i:=fun e he hb heq=>by
       have h1:=hall e he hb;have h0:=(mem_ready.1 hr).1;rw[heq] at h1;rcases Nat.lt_or_ge i listed.size with h' | h'
       ·simp[h'] at h0 h1;rw[h0] at h1;cases h1
       ·simp[Array.getElem?_eq_none h'] at h1
     have h2:=wpOp_put hoj (hfree j oj hoj hji hjun hnot) (fun cs b=>hsel i oi cs b hi) (fun cs b=>hsel j oj cs b hoj) hy h1;have hfree':∀ m om,ops[m]?=some om->m≠i->(listed.setIfInBounds j true).getD m true=false ->
         (∀ e ∈ om.after,Region.binds .any e=true->e.on≠i)->oi.apart ops om=true:=fun m om hm hmi hun hno=>by
       refine hfree m om hm hmi ?_ hno;by_cases hjm:j=m
       ·subst hjm;exact hjun
       ·rw[getD_set_ne true hjm] at hun;exact hun
     have hm':nx Ls p j+ahead ops Ls (listed.setIfInBounds j true) i<=m:=by
       unfold nx;split
       ·rename_i hc;have:=ahead_lt (ops:=ops) (Ls:=Ls) hj (mem_ready.1 hr).1 hc hjun;omega
       ·have:=ahead_le (ops:=ops) (Ls:=Ls) hj (mem_ready.1 hr).1;omega
     refine wpOp_mono (fun a' w' h3=>?_) h2;obtain⟨hy',hw',h4⟩:=h3;refine⟨hw',ih _ (listed.setIfInBounds j true) a' w' hw' hm' hfree' (ready_mono hr (Ne.symm hji)) hy' ?_⟩;rw[Array.setIfInBounds_comm _ _ hji];exact h4
def cls:List (World->Prop)->Nat->World->Prop
  | [],_,_=>True
  | c::_,0,x=>c x
  | _::cs,p+1,x=>cls cs p x
def Xl:List (World->Prop)->Prop
  | c::d::cs=>(∀ x,c x->d x)/\Xl (d::cs)
  | _=>True
theorem Xl.step:∀ (l:List (World->Prop))(p:Nat)(x:World),Xl l->cls l p x->cls l (p+1) x
  | [],_,_,_,_=>trivial
  | [_],0,_,_,_=>trivial
  | [_],_+1,_,_,_=>trivial
  | _::_::_,0,x,h,hx=>h.1 x hx
  | _::d::cs,p+1,x,h,hx=>Xl.step (d::cs) p x h.2 hx
theorem Xl.le {l:List (World->Prop)}(h:Xl l):∀ p q x,p<=q->cls l p x->cls l q x:=by
  intro p q x hpq hx;obtain⟨d,rfl⟩:=Nat.exists_eq_add_of_le hpq
  induction d with
  | zero=>exact hx
  | succ d ih=>exact Xl.step l _ x h (ih (by omega))
inductive MT where
  | nil
  | q (i m:Nat) (r:MT)
  | op (i:Nat) (r:MT)
  | br (i j:Nat) (ri rj:MT)
def MT.depth:MT->Nat
  | .nil=>0
  | .q _ _ r=>r.depth+1
  | .op _ r=>r.depth+1
  | .br _ _ r _=>r.depth+1
def MT.drop:Nat->MT->MT
  | k+1,.q _ _ r=>r.drop k
  | _,π=>π
def Pn (ops:Array Oper)(Ls:List Nat):MT->Nat->Array Bool->Bool
  | .nil,_,listed=>(Region.ready .any ops listed).isEmpty
  | .q i m π,p,listed=>(Region.ready .any ops listed).contains i&&Region.free .any ops listed i&&!Ls.contains i&&decide (p+ahead ops Ls listed i<=m)&&Pn ops Ls π p (listed.setIfInBounds i true)
  | .op i π,p,listed=>Region.ready .any ops listed == [i]&&Pn ops Ls π (nx Ls p i) (listed.setIfInBounds i true)
  | .br i j ri rj,p,listed=>Region.ready .any ops listed == [i,j]&&rj.depth == ri.depth&&Pn ops Ls ri (nx Ls p i) (listed.setIfInBounds i true)&&Pn ops Ls rj (nx Ls p j) (listed.setIfInBounds j true)
def MX (P:Program)(n:Nat)(ops:Array Oper)(Ls:List Nat)(C:List (World->Prop))(Q:Act->World->Prop)(π:MT)(p:Nat)(listed:Array Bool)(L:List En)(w:World):Prop :=
  Region.noSelect ops=true->Xl C->Pn ops Ls π p listed=true->cls C p w->∀ a,Fu n a L->wpC P ops Ls (cls C) Q π.depth p listed a w
variable {C:List (World->Prop)}
theorem lX {n p:Nat}{Q:Act->World->Prop}{listed:Array Bool}{L:St}{w:World}(h:At n Q L w):MX P n ops Ls C Q .nil p listed (Kn L) w :=
  fun _ _ hB _ a ha=>⟨by simpa [Pn] using hB,h a ha⟩
def qops (ops:Array Oper)(m:Nat):Nat->MT->Option (List Oper)
  | 0,_=>some []
  | k+1,.q i m' r=>if m'=m then match ops[i]?,qops ops m k r with
    | some o,some l=>some (o::l)
    | _,_=>none else none
  | _+1,_=>none
theorem MX_quiet' {n p m:Nat}{Q:Act->World->Prop}{ss:List Nat}{w:World}{L':List En}:∀ (k:Nat) (π:MT) (l:List Oper) (listed:Array Bool) (L:List En) (os os':List SV) (cs:List Cond),
    qops ops m k π=some l->evs P n ops ss l L os=some (L',cs,os')->(∀ w,cls C m w->∀ c ∈ cs,c w)->(∀ listed',MX P n ops Ls C Q (π.drop k) p listed' L' w)->MX P n ops Ls C Q π p listed L w:=by
  intro k
  induction k with
  | zero =>
    intro π l listed L os os' cs hq h hc hk;simp only[qops,Option.some.injEq] at hq;subst hq;simp only[evs,Option.some.injEq,Prod.mk.injEq] at h;obtain⟨rfl,rfl,rfl⟩:=h;have e:π.drop 0=π:=by cases π <;> rfl
    rw[e] at hk;exact hk listed
  | succ k ih =>
    intro π l listed L os os' cs hq h hc hk;cases π with
    | q i m' π =>
      simp only[qops] at hq;split at hq
      ·rename_i hmm;subst hmm;split at hq
       ·rename_i o l' ho hl';simp only[Option.some.injEq] at hq;subst hq;simp only[evs] at h;split at h
        ·rename_i L1 c1 os1 h1;split at h
         ·rename_i L2 c2 os2 h2;simp only[Option.some.injEq,Prod.mk.injEq] at h;obtain⟨rfl,rfl,rfl⟩:=h;intro hns hmo hB hw a ha;simp only[Pn,Bool.and_eq_true,decide_eq_true_eq,Bool.not_eq_true'] at hB;obtain⟨⟨⟨⟨hr,hf⟩,hnl⟩,hah⟩,hB⟩:=hB;have hrest:=ih π l' (listed.setIfInBounds i true) L1 os1 _ c2 hl' h2 (fun w hw c hcm=>hc w hw c (List.mem_append_right _ hcm)) hk hns hmo hB hw;rcases Ub ha h1 with⟨hwt,v,hrun,hf'⟩ | ⟨hwt,hf'⟩
          ·exact XQ hmo.le ho hnl (Region.noSelect_spec hns) _ p listed a w hw hah (Region.free_spec ho hf) (by simpa using hr) (.inl ⟨hwt,fun w' hw'=>hrun w' fun c hcm=>hc w' hw' c (List.mem_append_left _ hcm)⟩) (hrest _ hf')
          ·exact XQ hmo.le ho hnl (Region.noSelect_spec hns) _ p listed a w hw hah (Region.free_spec ho hf) (by simpa using hr) (.inr ⟨hwt,rfl⟩) (hrest _ hf')
         ·cases h
        ·cases h
       ·cases hq
      ·cases hq
    | _=>cases hq
theorem MX_q {n p:Nat}{Q:Act->World->Prop}{w:World}{π:MT}{listed:Array Bool}{L:St}(k m:Nat)(ss:List Nat)(os:List SV)(L':St)(cs:List Cond)
    (hs:((qops ops m k π).bind fun l=>evs P n ops ss l (Kn L) os).map (fun r=>(L'.map fun e=>(look r.1 e.1).map fun e=>(e.g,e.x.val),r.2.1,r.2.2))=some (L'.map fun p=>some (none,p.2.val),cs,[]))
    (hc:∀ w,cls C m w->All cs w) (h:∀ listed',MX P n ops Ls C Q (π.drop k) p listed' (Kn L') w):MX P n ops Ls C Q π p listed (Kn L) w:=by
  rw[Option.map_bind] at hs;simp only[Option.bind_eq_some_iff] at hs;obtain⟨l,hl,hs⟩:=hs;obtain⟨Lc,he,hk⟩:=Seg.keep (P:=P) (n:=n) (ops:=ops) (ss:=ss) (l:=l) (L:=L) (os:=os) (L':=L') (cs:=cs) hs;refine MX_quiet' k π l listed (Kn L) os [] cs hl he (fun w hw=>SA (hc w hw)) fun listed'=>?_;intro hns hmo hB hw a ha;exact h listed' hns hmo hB hw a (hk a ha)
theorem jo {n p:Nat}{Q:Act->World->Prop}{w:World}{π:MT}{listed:Array Bool}{L:St}{i:Nat}{o:Oper}(hl:Ls.contains i=true)(ho:ops[i]?=some o)
    (h:Nz P n ops L w o fun L' w'=>cls C (p+1) w'/\∀ listed',MX P n ops Ls C Q π (p+1) listed' (Kn L') w'):MX P n ops Ls C Q (.op i π) p listed (Kn L) w:=by
  intro hns hmo hB hw a ha;have hnx:nx Ls p i=p+1:=by unfold nx;rw[if_pos hl]
  simp only[Pn,Bool.and_eq_true,beq_iff_eq,hnx] at hB;obtain⟨hr,hB⟩:=hB;obtain⟨h1,h2⟩:=h a ha;refine⟨fun h0=>(by rw[h0] at hr;cases hr),fun j hj=>?_⟩;rw[hr] at hj;simp only[List.mem_singleton] at hj;subst hj;unfold wpOp;simp only[ho,hnx];rw[if_pos h1];refine .inl (Oper.wp_mono ?_ h2);rintro a' w' ⟨L',hf,hc,hk⟩;exact⟨hc,hk _ hns hmo hB hc a' hf⟩
theorem MX_br {n p:Nat}{Q:Act->World->Prop}{w:World}{πi πj:MT}{listed:Array Bool}{L:St}{i j:Nat}{oi oj:Oper}(hli:Ls.contains i=true)(hlj:Ls.contains j=true)(hi:ops[i]?=some oi)(hj:ops[j]?=some oj)
    (h:Nz P n ops L w oi fun L' w'=>cls C (p+1) w'/\∀ listed',MX P n ops Ls C Q πi (p+1) listed' (Kn L') w')
    (h':Nz P n ops L w oj fun L' w'=>cls C (p+1) w'/\∀ listed',MX P n ops Ls C Q πj (p+1) listed' (Kn L') w'):MX P n ops Ls C Q (.br i j πi πj) p listed (Kn L) w:=by
  intro hns hmo hB hw a ha;have hnx:nx Ls p i=p+1:=by unfold nx;rw[if_pos hli]
  have hnx':nx Ls p j=p+1:=by unfold nx;rw[if_pos hlj]
  simp only[Pn,Bool.and_eq_true,beq_iff_eq,hnx,hnx'] at hB;obtain⟨⟨⟨hr,hd⟩,hB1⟩,hB2⟩:=hB;refine⟨fun h0=>(by rw[h0] at hr;cases hr),fun k hk=>?_⟩;rw[hr] at hk;simp only[List.mem_cons,List.not_mem_nil,or_false] at hk;rcases hk with rfl | rfl
  ·obtain⟨h1,h2⟩:=h a ha;unfold wpOp;simp only[hi,hnx];rw[if_pos h1];refine .inl (Oper.wp_mono ?_ h2);rintro a' w' ⟨L',hf,hc,hk⟩;exact⟨hc,hk _ hns hmo hB1 hc a' hf⟩
  ·obtain⟨h1,h2⟩:=h' a ha;unfold wpOp;simp only[hj,hnx'];rw[if_pos h1];refine .inl (Oper.wp_mono ?_ h2);rintro a' w' ⟨L',hf,hc,hk⟩;have:=hk _ hns hmo hB2 hc a' hf;rw[hd] at this;exact⟨hc,this⟩
theorem W_mix {n id:Nat}{l:List Oper}{Q:Exit->Act->World->Prop}{L:St}{w:World}(hm:P.follows .mixedOrders=true)(π:MT)(Ls:List Nat)(C:List (World->Prop))
    (hB:(Region.noSelect l.toArray,Pn l.toArray Ls π 0 (Array.replicate l.length false),π.depth == l.length)=(true,true,true)) (hmo:Xl C) (hC:cls C 0 (w.drewN 1)) (h:∀ listed,MX P n l.toArray Ls C (Q .normal) π 0 listed (Kn L) (w.drewN 1)) :
    W P n (.region id l.toArray true) Q L w:=by
  intro a ha;simp only[Prod.mk.injEq,beq_iff_eq] at hB;obtain⟨h1,h2,h3⟩:=hB;refine wp_region_any hm ?_;have:=h (Array.replicate l.length false) h1 hmo h2 hC a ha;rw[h3] at this;exact VU (fun _ _ hq=>hq) _ _ _ _ _ (by rw[show l.toArray.size=l.length from by simp];exact this)
end
end Go.Sx
namespace Go.Sx
open Go.RowKit
set_option linter.unusedSimpArgs false
set_option linter.unusedVariables false
variable {α β:Type}
instance {n:Nat} [Inhabited α]:Inhabited (Vec α n):=⟨Vec.rep n default⟩
def Vec.of [Inhabited α](n:Nat)(l:List α):Vec α n:=if h:l.length=n then⟨l,h⟩ else Vec.rep n default
def appz (xs:List α)(l:Int)(z:α)(b:Nat):Option (List α):=if 0<=l/\(xs.length+l.toNat)*b<=140737488355328 then some (xs++List.replicate l.toNat z) else none
theorem appz_some {xs ys:List α}{l:Int}{z:α}{b:Nat}(h:appz xs l z b=some ys):0<=l/\(xs.length+l.toNat)*b<=140737488355328/\ys=xs++List.replicate l.toNat z:=by
  unfold appz at h;split at h
  ·rename_i hc;simp only[Option.some.injEq] at h;exact⟨hc.1,hc.2,h.symm⟩
  ·cases h
abbrev SV.ar (E:Enc α){n:Nat}(x:Vec α n):SV:=.vec (n*E.sz) (E.vec x)
section
variable {P:Program}{n:Nat}{Q:Exit->Act->World->Prop}{ops:Array Oper}{L:St}{w w0:World}{F O:Nat->Prop}{hs:List HP}{K:St->World->Prop}
theorem W_cutr {x:Code}(K:St->World->Prop)(h1:W P n x (Exit.then (fun a w=>∃ L,Fu n a (Kn L)/\K L w) Q) L w)(h2:∀ L w,K L w->At n (Q .normal) L w):W P n x Q L w:=by
  intro a ha;refine wp_mono (h1 a ha) ?_;intro e a' w' hq;cases e with
  | normal=>obtain⟨L',hf,hk⟩:=hq;exact h2 L' w' hk a' hf
  | _=>exact hq
theorem Rd.nil (E:Enc α)(w:World):Rd w none (E.all ([]:List α)):=⟨fun h=>absurd rfl h,fun _ _ _ h=>by cases h⟩
theorem Ro.SE (E:Enc α):Ro F w none (E.all ([]:List α)):=Ro.nil (A:=none)
theorem Src.sl {E:Enc α}{A:Option Addr}{xs:List α}{m c sz:Nat}(h:Rd w A (E.all xs))(hn:xs.length=m)(hs:E.sz=sz):Src P sz w (.slice A m c) m (E.all xs) :=
  Src.slice h (by rw[Enc.lT,hn,hs])
theorem Vg {xs ys:List α}{lo hi:Int}(h:Ve xs lo hi=some ys)(h0:lo=0):ys=xs.take ys.length:=by
  obtain⟨h1,h2,h3,h4⟩:=yN h;have hl:=Eu h;rw[hl];subst h0;rw[h4];simp
theorem ar_ix {E:Enc α}{m:Nat}{x:Vec α m}{i:Int}{y:α}{v:Value}(h:iT x.l i=some y)(hv:(E.f y)[0]?=some v):(0<=i/\i < ((m:Nat):Int))/\(SV.cl [SV.ar E x])[i.toNat*E.sz]?=some v:=by
  have h1:=vz h;rw[x.h] at h1;refine⟨h1,?_⟩;rw[H8];have:=E.ZQ (kR h).2 hv;simp only[SV.cl,List.append_nil];show(E.all x.l)[i.toNat*E.sz]?=some v;simpa using this
theorem ar_ixs {E:Enc α}{m:Nat}{x:Vec α m}{i:Int}{y:α}{vs:List Value}(h:iT x.l i=some y)(hv:E.f y=vs):(0<=i/\i < ((m:Nat):Int))/\((SV.cl [SV.ar E x]).drop (i.toNat*E.sz)).take E.sz=vs:=by
  have h1:=vz h;rw[x.h] at h1;refine⟨h1,?_⟩;rw[H8,<-hv];simp only[SV.cl,List.append_nil];exact E.Yr (kR h).2
theorem At_end {fn:Func}{R:Ending->World->Prop}(os xs:List SV)(cs:List Cond)(hr:UT P fn.results.toList L os=some (xs,cs,[]))(hc:All cs w)(h:R (.returned (XM xs).val) w):At n (bodyPost P fn R .normal) L w :=
  At_ret (P:=P) (fn:=fn) os xs cs hr hc h
theorem cl_ar {E:Enc α}{m:Nat}(x:Vec α m):SV.cl [SV.ar E x]=(eV E m).f x:=by
  rw[H8];show E.all x.l++[]=E.all x.l;rw[List.append_nil]
theorem Rd.elV {w:World}{A p:Option Addr}{E:Enc α}{m:Nat}{xs:List (Vec α m)}{i:Int}{x:Vec α m}(h:Rd w A ((eV E m).all xs))(hg:iT xs i=some x)(hp:Pt A (i.toNat*(eV E m).sz+0) p)(hm:0 < (eV E m).sz):∃ a,p=some a/\Rd w (some a) (SV.cl [SV.ar E x]):=by
  rw[cl_ar];refine h.els hg hp ?_ hm (by omega);rw[List.drop_zero];have:=(eV E m).len x;rw[<- this,List.take_length]
theorem ar_ixV {E:Enc α}{k m:Nat}{x:Vec (Vec α k) m}{i:Int}{y:Vec α k}(h:iT x.l i=some y):(0<=i/\i < ((m:Nat):Int))/\((SV.cl [SV.ar (eV E k) x]).drop (i.toNat*(eV E k).sz)).take (eV E k).sz=SV.cl [SV.ar E y] :=
  ar_ixs h (cl_ar y).symm
theorem Cx.Xm {t:TypeId}{g:Nat}{ys:List SV}(k:Cx F O w0 w hs)(i:Nat)(hi:hs[i]?=some (Bx t g ys))(off:Nat)(v:SV)(h:(cellS off ys).map SV.val=some v.val):∃ a,some (⟨g,off,none⟩:Addr)=some a/\w.cell? a=some v.val:=by
  simp only[Option.map_eq_some_iff] at h;obtain⟨x,hx,he⟩:=h;rw[<- he];exact(k.Lp i hi).cellP (Pt.at g off) (VE hx).1
theorem Cx.blds {t:TypeId}{g:Nat}{ys:List SV}(k:Cx F O w0 w hs)(i:Nat)(hi:hs[i]?=some (Bx t g ys))(off m:Nat)(zs:List SV)(h:(TZ off m ys).map SV.cl=some (SV.cl zs))(hm:0 < m):∃ a,some (⟨g,off,none⟩:Addr)=some a/\Rd w (some a) (SV.cl zs):=by
  simp only[Option.map_eq_some_iff] at h;obtain⟨x,hx,he⟩:=h;obtain⟨e1,e2,e3⟩:=UG hx;rw[<- he,<-e1];exact(k.Lp i hi).partP (Pt.at g off) (by rw[n_];exact e3) hm
theorem Op_bput {ty t:TypeId}{p x:Operand}{pos:String}{yM:Array Edge}{g:Option (Nat×Bool)}(ss:List Nat)(i:Nat){pa:Option Addr}{sv:SV}{svs:List SV}{bt:TypeId}{b:Nat}{ys:List SV}(zs:List SV){off:Nat}
    (hside:(OI ops ss L (⟨none,.store t p x,ty,pos,yM,g⟩:Oper),(none:Option Nat),(toSS [p,x] (lk L)).map SV.vals,H_ P t,cellsS sv,svs.all SV.one1)=(true,none,some [.pointer pa,sv.val],some (SV.width svs),some svs,true))
    (hp:Pt (some ⟨b,0,none⟩) off pa) (k:Cx F O w0 w hs) (hi:hs[i]?=some (Bx bt b ys)) (hz:(putS off (SV.width svs) svs ys).map SV.cl=some (SV.cl zs))
    (hk:∀ w',Cx F O w0 w' (hs.set i (Bx bt b zs))->K L w') :
    Nz P n ops L w ⟨none,.store t p x,ty,pos,yM,g⟩ K:=by
  simp only[Option.map_eq_some_iff] at hz;obtain⟨zs',hput,he⟩:=hz;obtain⟨e1,e2,e3,e4⟩:=XI hput;refine Op_bst ss i zs hside hp k hi ?_ e4 hk;rw[<- he,e1];unfold pat;rw[n_]
end
end Go.Sx
namespace Go.Sx
open Go.RowKit
set_option linter.unusedSimpArgs false
set_option linter.unusedVariables false
inductive Bl:St->St->Prop
  | a {l}:Bl l l
  | z {l}:Bl l []
  | k {x l l'}:Bl l l'->Bl (x::l) (x::l')
  | s {x l l'}:Bl l l'->Bl (x::l) l'
  | n {l l'} (i:Nat) (v:SV):Bl l l'->Bl l ((i,v)::l')
theorem Bl.kk {x y l l'}(h:Bl l l'):Bl (x::y::l) (x::y::l'):=.k (.k h)
theorem Bl.Fe {x y z l l'}(h:Bl l l'):Bl (x::y::z::l) (x::y::z::l'):=.k (.kk h)
theorem Bl.bC {x y z u l l'}(h:Bl l l'):Bl (x::y::z::u::l) (x::y::z::u::l'):=.kk (.kk h)
theorem Bl.ss {x y l l'}(h:Bl l l'):Bl (x::y::l) l':=.s (.s h)
theorem Bl.wZ {x y z l l'}(h:Bl l l'):Bl (x::y::z::l) l':=.s (.ss h)
theorem Bl.nD {x y z u l l'}(h:Bl l l'):Bl (x::y::z::u::l) l':=.ss (.ss h)
section
variable {α β σ ρ:Type}{P:Program}{n:Nat}{Q:Exit->Act->World->Prop}{ops:Array Oper}{L L':St}{w w0:World}{os:List SV}{cs:List Cond}{F O:Nat->Prop}{hs:List HP}
structure Ask (os:List SV)(cs:List Cond)(w:World):Prop where
  h:All cs w
def dp (p:Prop):Cond:=fun _=>p
def dS (A:Option Addr):Cond:=fun _=>A.isSome=true
def dI (i:Int)(n:Nat)(A:Option Addr):Cond:=fun _=>0<=i/\i < (n:Int)/\A.isSome=true
def dC (p:Option Addr)(v:SV):Cond:=fun w=>∃ a,p=some a/\w.cell? a=some v.val
def dR (p:Option Addr)(cs:List SV):Cond:=fun w=>∃ a,p=some a/\Rd w (some a) (SV.cl cs)
theorem qe:Ask [] [] w:=⟨trivial⟩
theorem qo (v:SV)(r:Ask os cs w):Ask (v::os) cs w:=⟨r.h⟩
theorem qc (c:Cond)(p:c w)(r:Ask os cs w):Ask os (c::cs) w:=⟨p,r.h⟩
theorem qp (p:Prop)(h:p)(r:Ask os cs w):Ask os (dp p::cs) w:=⟨h,r.h⟩
theorem qs (g off:Nat)(r:Ask os cs w):Ask os (dS (some ⟨g,off,none⟩)::cs) w:=⟨rfl,r.h⟩
theorem qS {A:Option Addr}(h:A.isSome=true)(r:Ask os cs w):Ask os (dS A::cs) w:=⟨h,r.h⟩
theorem qI {m:Nat}{v:Vec α m}{i:Int}{x:α}(g off:Nat)(h:iT v.l i=some x)(r:Ask os cs w):Ask os (dI i m (some ⟨g,off,none⟩)::cs) w :=
  ⟨⟨(vz h).1,by have:=(vz h).2;have:=v.h;omega,rfl⟩,r.h⟩
class Pos (E:Enc α):Prop where h:0 < E.sz
instance:Pos e8:=⟨by decide⟩
instance:Pos e16:=⟨by decide⟩
instance:Pos e32:=⟨by decide⟩
instance:Pos e64:=⟨by decide⟩
instance:Pos eI:=⟨by decide⟩
instance:Pos eS:=⟨by decide⟩
instance:Pos eB:=⟨by decide⟩
instance {a:Enc α} {b:Enc β} [h:Pos a]:Pos (eP a b):=⟨Nat.lt_of_lt_of_le h.h (Nat.le_add_right _ _)⟩
instance {E:Enc α} {m:Nat} [h:Pos E]:Pos (eV E (m+1)):=⟨Nat.mul_pos (Nat.succ_pos m) h.h⟩
theorem qJ {E:Enc α}[he:Pos E]{A:Option Addr}{xs:List α}{i:Int}{x:α}{m:Nat}(rd:Rd w A (E.all xs))(h:iT xs i=some x)(hl:xs.length=m)(r:Ask os cs w):Ask os (dI i m A::cs) w :=
  ⟨rd.ix h hl he.h,r.h⟩
theorem qJp {A:Option Addr}{i:Int}{m:Nat}(h:0<=i/\i < (m:Int)/\A.isSome=true)(r:Ask os cs w):Ask os (dI i m A::cs) w:=⟨h,r.h⟩
theorem qC {p:Option Addr}(v:SV)(h:∃ a,p=some a/\w.cell? a=some v.val)(r:Ask os cs w):Ask (v::os) (dC p v::cs) w:=⟨h,r.h⟩
theorem qR {p:Option Addr}(zs:List SV)(h:∃ a,p=some a/\Rd w (some a) (SV.cl zs))(r:Ask os cs w):Ask (.agg zs::os) (dR p zs::cs) w:=⟨h,r.h⟩
theorem qB {t:TypeId}{g:Nat}{ys:List SV}(k:Cx F O w0 w hs)(i:Nat)(hi:hs[i]?=some (Bx t g ys))(off:Nat)(v:SV)(h:(cellS off ys).map SV.val=some v.val)(r:Ask os cs w):Ask (v::os) (dC (some ⟨g,off,none⟩) v::cs) w:=⟨k.Xm i hi off v h,r.h⟩
theorem Cx.vrd {t:TypeId}{g m:Nat}{ys:List SV}(k:Cx F O w0 w hs)(i:Nat)(hi:hs[i]?=some (Bx t g ys))(E:Enc α)(x:Vec α m)(off:Nat)(hd:((LC off ys).bind List.head?).map (fun v=>(v.QO,v.val))=some (true,.agg ⟨E.all x.l⟩)):Rd w (some ⟨g,off,none⟩) (E.all x.l):=(k.Lp i hi).vec hd
theorem qV {E:Enc α}{A:Option Addr}{m:Nat}{xs:Vec α m}{i:Int}{x:α}(rd:Rd w A (E.all xs.l))(h:iT xs.l i=some x)(hA:A.isSome=true)(s:SV)(hs:E.f x=[s.val])(r:Ask os cs w):Ask (s::os) (dI i m A::dC (BA A i E.sz) s::cs) w :=
  ⟨⟨(vz h).1,by have:=(vz h).2;have:=xs.h;omega,hA⟩,rd.el h (k:=0) (Pt.OJ A i E.sz) (by rw[hs];rfl),r.h⟩
theorem qW {E:Enc α}[he:Pos E]{A:Option Addr}{xs:List α}{i:Int}{x:α}{m:Nat}(rd:Rd w A (E.all xs))(h:iT xs i=some x)(hl:xs.length=m)(s:SV)(hs:E.f x=[s.val])(r:Ask os cs w):Ask (s::os) (dI i m A::dC (BA A i E.sz) s::cs) w :=
  ⟨rd.ix h hl he.h,rd.el h (k:=0) (Pt.OJ A i E.sz) (by rw[hs];rfl),r.h⟩
theorem qX {xs:List UInt8}{i:Int}{y:UInt8}(h:iT xs i=some y)(r:Ask os cs w):Ask (.u8 y::os) (dp (0<=i/\xs[i.toNat]?=some y)::cs) w:=⟨kR h,r.h⟩
theorem qT {t:TypeId}{g:Nat}{ys:List SV}(k:Cx F O w0 w hs)(i:Nat)(hi:hs[i]?=some (Bx t g ys))(off m:Nat)(zs:List SV)(h:(TZ off m ys).map SV.cl=some (SV.cl zs))(hm:0 < m)(r:Ask os cs w):Ask (.agg zs::os) (dR (some ⟨g,off,none⟩) zs::cs) w:=⟨k.blds i hi off m zs h hm,r.h⟩
theorem FO {l:List Oper}(k:Nat)(ss:List Nat)(b:Bl L L')(q:Ask os cs w)(hs:(evs P n ops ss (l.take k) (Kn L) os).map (fun r=>(L'.map fun e=>(look r.1 e.1).map fun e=>(e.g,e.x.val),r.2.1,r.2.2))=some (L'.map fun p=>some (none,p.2.val),cs,[]))(h:WL P n ops Q (l.drop k) L' w):WL P n ops Q l L w:=WL_seg k ss os L' cs hs q.h h
theorem zA {id:Nat}{l:List Oper}(ss:List Nat)(b:Bl L L')(q:Ask os cs w)(hs:(evs P n l.toArray ss l (Kn L) os).map (fun r=>(L'.map fun e=>(look r.1 e.1).map fun e=>(e.g,e.x.val),r.2.1,r.2.2))=some (L'.map fun p=>some (none,p.2.val),cs,[]))(h:At n (Q .normal) L' w):W P n (.region id l.toArray false) Q L w:=W_quiet ss os L' cs hs q.h h
theorem W_d {id:Nat}{l:List Oper}(hm:P.follows .mixedOrders=true)(hB:Region.lexB .any l.toArray=true)(b:Bl L L')(q:∀ m,Ask os cs (w.drewN m))(hs:(evs P n l.toArray [] l (Kn L) os).map (fun r=>(L'.map fun e=>(look r.1 e.1).map fun e=>(e.g,e.x.val),r.2.1,r.2.2))=some (L'.map fun p=>some (none,p.2.val),cs,[]))(h:∀ m,At n (Q .normal) L' (w.drewN m)):W P n (.region id l.toArray true) Q L w:=W_draw hm os L' cs hB hs (fun m=>(q m).h) h
theorem MXq {p:Nat}{Ls:List Nat}{C:List (World->Prop)}{Q:Act->World->Prop}{π:MT}{listed:Array Bool}(k m:Nat)(ss:List Nat)(b:Bl L L')(q:∀ w,cls C m w->Ask os cs w)
    (hs:((qops ops m k π).bind fun l=>evs P n ops ss l (Kn L) os).map (fun r=>(L'.map fun e=>(look r.1 e.1).map fun e=>(e.g,e.x.val),r.2.1,r.2.2))=some (L'.map fun p=>some (none,p.2.val),cs,[])) (h:∀ listed',MX P n ops Ls C Q (π.drop k) p listed' (Kn L') w):MX P n ops Ls C Q π p listed (Kn L) w:=MX_q k m ss os L' cs hs (fun w hw=>(q w hw).h) h
theorem At_c {Q:Exit->Act->World->Prop}{K:St->World->Prop}(h:K L' w)(hk:L'.map (fun p=>(find L p.1).map SV.val)=L'.map (fun p=>some p.2.val)):At n (Exit.then (fun a w=>∃ L,Fu n a (Kn L)/\K L w) Q .normal) L w:=Qi L' hk (At_cut h)
theorem At_rd {Q:Exit->Act->World->Prop}{rel:σ->St->World->Prop}{y:σ⊕ρ}(s':σ)(hy:y=.inl s')(h:rel s' L' w)(hk:L'.map (fun p=>(find L p.1).map SV.val)=L'.map (fun p=>some p.2.val)):At n (Exit.then (fun a w=>∃ s' L',y=.inl s'/\Fu n a (Kn L')/\rel s' L' w) Q .normal) L w:=Qi L' hk (At_round s' hy h)
theorem W_lp {c:Code}(step:σ->Option (σ⊕ρ))(rel:σ->St->World->Prop)(s0:σ)(r:ρ)(hm:gY step s0=some r)(h0:rel s0 L' w0)(hk:L'.map (fun p=>(find L p.1).map SV.val)=L'.map (fun p=>some p.2.val))
    (hb:∀ s L w y,rel s L w->step s=some y->(∀ r',y=.inr r'->r'=r)->W P n c (Exit.then (fun a w=>∃ s' L',y=.inl s'/\Fu n a (Kn L')/\rel s' L' w) Q) L w):W P n (.loop c) Q L w0:=W_forget L' hk (W_loop step rel s0 r hm h0 hb)
theorem At_rt {fn:Func}{R:Ending->World->Prop}(xs:List SV)(q:Ask os cs w)(hr:UT P fn.results.toList L os=some (xs,cs,[]))(h:R (.returned (XM xs).val) w):At n (bodyPost P fn R .ret) L w:=At_ret os xs cs hr q.h h
theorem Gq {fn:Func}{R:Ending->World->Prop}(xs:List SV)(q:Ask os cs w)(hr:UT P fn.results.toList L os=some (xs,cs,[]))(h:R (.returned (XM xs).val) w):At n (bodyPost P fn R .normal) L w:=At_end os xs cs hr q.h h
theorem IV {l:List Oper}(k:Nat)(c:Bool)(b:Bl L L')(hk:((k,SV.b c)::L').map (fun p=>(find L p.1).map SV.val)=((k,SV.b c)::L').map (fun p=>some p.2.val))
    (h1:c=true->WL P n ops Q l ((k,.b true)::L') w) (h2:c=false->WL P n ops Q l ((k,.b false)::L') w):WL P n ops Q l L w:=by
  have key:WL P n ops Q l ((k,SV.b c)::L') w->WL P n ops Q l L w:=fun h=>Qi (q:=fun a w=>wpList P ops Q l a w) ((k,SV.b c)::L') hk h;cases c with
  | true=>exact key (h1 rfl)
  | false=>exact key (h2 rfl)
theorem ob {a:Option α}{f:α->Option β}{r:β}(h:a.bind f=some r):∃ x,a=some x/\f x=some r:=Option.bind_eq_some_iff.1 h
theorem nm {a:α}{f:α->Option β}{r:β}(h:(some a).bind f=some r):∃ x,a=x/\f x=some r:=⟨a,rfl,h⟩
inductive Xe {β:Type}:List β->List β->Prop
  | e:Xe [] []
  | z {l}:Xe l []
  | k {x l l'}:Xe l l'->Xe (x::l) (x::l')
  | s {x l l'}:Xe l l'->Xe (x::l) l'
theorem Xe.kk {β:Type}{x y:β}{l l'}(h:Xe l l'):Xe (x::y::l) (x::y::l'):=.k (.k h)
theorem Xe.bC {β:Type}{x y z u:β}{l l'}(h:Xe l l'):Xe (x::y::z::u::l) (x::y::z::u::l'):=.kk (.kk h)
theorem Xe.ss {β:Type}{x y:β}{l l'}(h:Xe l l'):Xe (x::y::l) l':=.s (.s h)
theorem Xe.nD {β:Type}{x y z u:β}{l l'}(h:Xe l l'):Xe (x::y::z::u::l) l':=.ss (.ss h)
inductive Pick {β:Type}:List β->β->List β->Prop
  | h {x l}:Pick (x::l) x l
  | t {x y l l'}:Pick l x l'->Pick (y::l) x (y::l')
inductive UL {β:Type}:List β->List β->List β->Prop
  | e:UL [] [] []
  | i {x l a b}:UL l a b->UL (x::l) (x::a) b
  | r {x l a b}:UL l a b->UL (x::l) a (x::b)
inductive App {β:Type}:List β->List β->List β->Prop
  | n {l}:App [] l l
  | c {x a b l}:App a b l->App (x::a) b (x::l)
theorem App.eq {β:Type}{a b l:List β}(h:App a b l):l=a++b:=by induction h <;> simp_all
theorem UL.perm {β:Type}{l a b:List β}(h:UL l a b):l.Perm (a++b):=by
  induction h with
  | e=>exact .nil
  | i _ ih=>exact .cons _ ih
  | r _ ih=>exact(List.Perm.cons _ ih).trans (List.perm_middle.symm)
theorem Pick.perm {β:Type}{x:β}{l l':List β}(h:Pick l x l'):l.Perm (x::l'):=by
  induction h with
  | h=>exact .refl _
  | t _ ih=>exact(List.Perm.cons _ ih).trans (.swap _ _ _)
theorem Sep.perm {w:World}{a b:List HP}(h:a.Perm b):∀ {U V:Nat->Prop},Sep w a U V->Sep w b U V:=by
  induction h with
  | nil=>exact fun h=>h
  | cons x _ ih =>
    rintro U V ⟨S,R,U',V',h1,h2,h3⟩;exact⟨S,R,U',V',h1,ih h2,h3⟩
  | swap x y l =>
    intro U V h;exact Sep.cut (i:=1) (h:=x) rfl h
  | trans _ _ ih1 ih2=>exact fun h=>ih2 (ih1 h)
theorem Cx.perm {a b:List HP}(k:Cx F O w0 w a)(h:a.Perm b):Cx F O w0 w b:=by
  obtain⟨U,V,h1,h2,h3⟩:=k.sep;exact⟨k.os,k.tape,k.output,k.size,k.block,k.fin,k.ZI,U,V,Sep.perm h h1,h2,h3⟩
theorem Cx.tl {x:HP}(k:Cx F O w0 w (x::hs)):Cx F O w0 w hs:=k.drop 0
theorem Xe.sub {a b:List HP}(h:Xe a b):∃ c,a.Perm (c++b):=by
  induction h with
  | e=>exact⟨[],.refl _⟩
  | z=>rename_i l;exact⟨l,by rw[List.append_nil]⟩
  | k _ ih=>obtain⟨c,hc⟩:=ih;exact⟨c,(List.Perm.cons _ hc).trans List.perm_middle.symm⟩
  | s _ ih=>rename_i x _ _ _;obtain⟨c,hc⟩:=ih;exact⟨x::c,.cons _ hc⟩
theorem Cx.dropl {a b:List HP}(k:Cx F O w0 w (a++b)):Cx F O w0 w b:=by
  induction a with
  | nil=>exact k
  | cons x l ih=>exact ih k.tl
theorem Cx.gJ {hs':List HP}(k:Cx F O w0 w hs)(h:Xe hs hs'):Cx F O w0 w hs':=by
  obtain⟨c,hc⟩:=h.sub;exact(k.perm hc).dropl
theorem Cx.pk {x:HP}{hs':List HP}(k:Cx F O w0 w hs)(h:Pick hs x hs'):Cx F O w0 w (x::hs'):=k.perm h.perm
theorem Cx.go {ins rest:List HP}(k:Cx F O w0 w hs)(p:UL hs ins rest):∃ F1 O1:Nat->Prop,Cx F1 O1 w w ins/\(∀ b,O b->O1 b)/\(∀ (i:Nat) (h:HP),rest[i]?=some h->∃ S R,h.p w S R/\(∀ b,R b->O1 b)/\∀ b,S b->¬ F1 b)/\(∀ b,F1 b->F b∨w0.heap.size<=b) /\
    ∀ w' outs all,Cx F1 O1 w w' outs->App outs rest all->Cx F O w0 w' all:=by
  obtain⟨F1,O1,h1,h2,h3,h4,h5⟩:=(k.perm p.perm).enter;exact⟨F1,O1,h1,h2,h3,h4,fun w' outs all hk ha=>ha.eq▸h5 w' outs hk⟩
inductive Chain (F O:Nat->Prop)(w0:World):List HP->List (World->Prop)->Prop
  | l {h:List HP}:Chain F O w0 h [fun x=>Cx F O w0 x h]
  | c {h h':List HP} {C:List (World->Prop)}:Xe h h'->Chain F O w0 h' C->Chain F O w0 h ((fun x=>Cx F O w0 x h)::C)
theorem Chain.spec {hs:List HP}{C:List (World->Prop)}(h:Chain F O w0 hs C):Xl C/\∀ w,cls C 0 w ↔ Cx F O w0 w hs:=by
  induction h with
  | l=>exact⟨trivial,fun w=>Iff.rfl⟩
  | c h1 hc ih =>
    cases hc with
    | l=>exact⟨⟨fun x hx=>Cx.gJ hx h1,trivial⟩,fun w=>Iff.rfl⟩
    | c h2 h3=>exact⟨⟨fun x hx=>Cx.gJ hx h1,ih.1⟩,fun w=>Iff.rfl⟩
theorem Gs {id:Nat}{l:List Oper}{C:List (World->Prop)}(hm:P.follows .mixedOrders=true)(π:MT)(Ls:List Nat)(k:Cx F O w0 (w.drewN 1) hs)(ch:Chain F O w0 hs C)
    (hB:(Region.noSelect l.toArray,Pn l.toArray Ls π 0 (Array.replicate l.length false),π.depth == l.length)=(true,true,true)) (h:∀ listed,MX P n l.toArray Ls C (Q .normal) π 0 listed (Kn L) (w.drewN 1)) :
    W P n (.region id l.toArray true) Q L w:=W_mix hm π Ls C hB ch.spec.1 ((ch.spec.2 _).2 k) h
inductive Mid:List SV->List SV->List SV->Prop
  | k {s y ys zs}:Mid s ys zs->Mid s (y::ys) (y::zs)
  | h {s y ys}:Mid [s] (y::ys) (s::ys)
  | h2 {s t y u ys}:Mid [s,t] (y::u::ys) (s::t::ys)
  | h3 {s t r y u v ys}:Mid [s,t,r] (y::u::v::ys) (s::t::r::ys)
  | h4 {s t r q y u v x ys}:Mid [s,t,r,q] (y::u::v::x::ys) (s::t::r::q::ys)
  | all {s ys}:Mid s ys s
theorem Mid.kk {s y u ys zs}(h:Mid s ys zs):Mid s (y::u::ys) (y::u::zs):=.k (.k h)
theorem Mid.bC {s y u v x ys zs}(h:Mid s ys zs):Mid s (y::u::v::x::ys) (y::u::v::x::zs):=.kk (.kk h)
theorem Op_b {K:St->World->Prop}{ty t:TypeId}{p x:Operand}{pos:String}{yM:Array Edge}{g:Option (Nat×Bool)}(ss:List Nat)(i:Nat){pa:Option Addr}(sv:SV)(svs:List SV){bt:TypeId}{b:Nat}{ys zs:List SV}{off:Nat}
    (hp:Pt (some ⟨b,0,none⟩) off pa) (k:Cx F O w0 w hs) (hi:hs[i]?=some (Bx bt b ys)) (md:Mid svs ys zs)
    (hside:(OI ops ss L (⟨none,.store t p x,ty,pos,yM,g⟩:Oper),(none:Option Nat),(toSS [p,x] (lk L)).map SV.vals,H_ P t,cellsS sv,svs.all SV.one1)=(true,none,some [.pointer pa,sv.val],some (SV.width svs),some svs,true))
    (hz:(putS off (SV.width svs) svs ys).map SV.cl=some (SV.cl zs))
    (hk:∀ w',Cx F O w0 w' (hs.set i (Bx bt b zs))->K L w') :
    Nz P n ops L w ⟨none,.store t p x,ty,pos,yM,g⟩ K:=Op_bput ss i zs hside hp k hi hz hk
inductive Vup:List SV->Enc α->{m:Nat}->Vec α m->Vec α m->Nat->List SV->Prop
  | h {E:Enc α} {m:Nat} {x y:Vec α m} {ys}:Vup (.ar E x::ys) E x y 0 (.ar E y::ys)
  | t {E:Enc α} {m o:Nat} {x y:Vec α m} {u ys zs}:Vup ys E x y o zs->Vup (u::ys) E x y (SV.width [u]+o) (u::zs)
theorem Vup.split {E:Enc α}{m o:Nat}{x y:Vec α m}{ys zs:List SV}(h:Vup ys E x y o zs):∃ pre post,ys=pre++.ar E x::post/\zs=pre++.ar E y::post/\o=SV.width pre:=by
  induction h with
  | h=>exact⟨[],_,rfl,rfl,rfl⟩
  | t _ ih =>
    obtain⟨p,q,rfl,rfl,rfl⟩:=ih;exact⟨_::p,q,rfl,rfl,(Qj [_] p).symm⟩
theorem Op_vs {K:St->World->Prop}{ty t:TypeId}{p x:Operand}{pos:String}{yM:Array Edge}{g:Option (Nat×Bool)}{E:Enc α}(ss:List Nat)(i:Nat){pa:Option Addr}(sv:SV)(svs:List SV){bt:TypeId}{b m o o':Nat}{x0 x1:Vec α m}{ys zs:List SV}{j:Int}{e0 y:α}{kk:Nat}
    (hv:DR x0 j y=x1) (hx:iT x0.l j=some e0) (hp:Pt (some ⟨b,0,none⟩) (o'+(j.toNat*E.sz+kk)) pa) (k:Cx F O w0 w hs) (hi:hs[i]?=some (Bx bt b ys)) (vu:Vup ys E x0 x1 o zs) (hy:E.f y=pat (E.f e0) kk (SV.cl svs))
    (hside:(OI ops ss L (⟨none,.store t p x,ty,pos,yM,g⟩:Oper),(none:Option Nat),(toSS [p,x] (lk L)).map SV.vals,H_ P t,cellsS sv,svs.all SV.one1,o')=(true,none,some [.pointer pa,sv.val],some (SV.width svs),some svs,true,o))
    (hl:Nat.ble (kk+SV.width svs) E.sz=true)
    (hk:∀ w',Cx F O w0 w' (hs.set i (Bx bt b zs))->K L w') :
    Nz P n ops L w ⟨none,.store t p x,ty,pos,yM,g⟩ K:=by
  obtain⟨pre,post,rfl,rfl,rfl⟩:=vu.split;simp only[Prod.mk.injEq] at hside;obtain⟨s1,s2,s3,s4,s5,s6,rfl⟩:=hside;subst hv;exact Op_vst (E:=E) (kk:=kk) (sv:=sv) (svs:=svs) ss i pre post x0 y (by rw[s1,s3,s4,s5,s6]) hp k hi hx hy (Nat.le_of_ble_eq_true hl) hk
end
end Go.Sx
namespace Go.Sx
open Go.RowKit
set_option linter.unusedSimpArgs false
set_option linter.unusedVariables false
variable {α β:Type}
abbrev Hd:=Option Addr×Nat×Nat
def eH:Enc Hd:=⟨1,fun h=>[.slice h.1 h.2.1 h.2.2],fun _=>rfl,fun x v h=>by rw[List.mem_singleton.1 h];rfl⟩
instance:Pos eH:=⟨by decide⟩
def rows (E:Enc α):List Hd->List (List α)->List HP
  | h::hs,x::xs=>Ow E h.1 h.2.1 h.2.2 x::rows E hs xs
  | _,_=>[]
section
variable {F O:Nat->Prop}{w0 w w':World}{hs rest:List HP}
theorem Ow.lec' {E:Enc α}{A:Option Addr}{n c:Nat}{xs:List α}{S R:Nat->Prop}(h:(Ow E A n c xs).p w S R):n<=c:=by
  rcases h.2 with⟨_,h1,h2⟩ | ⟨g,t,cur,_,_,h3,_⟩ <;> omega
end
section
variable {F O F1 O1:Nat->Prop}{w0 w w':World}{hs rest:List HP}{E:Enc α}{A:Option Addr}{hd:List Hd}{xss:List (List α)}
end
section
variable {P:Program}{n:Nat}{ops:Array Oper}{L:St}{w w0:World}{F O:Nat->Prop}{hs rest:List HP}{K:St->World->Prop}
end
section
variable {P:Program}{n:Nat}{Q:Act->World->Prop}{ops:Array Oper}{Ls:List Nat}{C:List (World->Prop)}{L L':St}{w:World}{π:MT}{p:Nat}
theorem MX_forget (L':St)(hk:L'.map (fun p=>(find L p.1).map SV.val)=L'.map (fun p=>some p.2.val)){listed:Array Bool}(h:MX P n ops Ls C Q π p listed (Kn L') w):MX P n ops Ls C Q π p listed (Kn L) w :=
  fun hns hmo hB hw=>Qi (q:=fun a w=>wpC P ops Ls (cls C) Q π.depth p listed a w) L' hk (fun a ha=>h hns hmo hB hw a ha)
theorem MX_sp (k:Nat)(c:Bool)(b:Bl L L')(hk:((k,SV.b c)::L').map (fun p=>(find L p.1).map SV.val)=((k,SV.b c)::L').map (fun p=>some p.2.val))
    (h1:c=true->∀ listed,MX P n ops Ls C Q π p listed (Kn ((k,.b true)::L')) w) (h2:c=false->∀ listed,MX P n ops Ls C Q π p listed (Kn ((k,.b false)::L')) w) {listed:Array Bool}:MX P n ops Ls C Q π p listed (Kn L) w:=by
  refine MX_forget ((k,SV.b c)::L') hk ?_;cases c with
  | true=>exact h1 rfl listed
  | false=>exact h2 rfl listed
theorem MX_off {i:Nat}{o:Oper}(d:Nat)(ss:List Nat)(hl:Ls.contains i=true)(ho:ops[i]?=some o)(hs:((ZN ops o).map (settled ss (Kn L)),o.dst,decide (d < n),L.any fun p=>p.1 == d)=(some (some false),some d,true,false))
    (h:∀ listed,MX P n ops Ls C Q π (p+1) listed (Kn ((d,.yj [])::L)) w) {listed:Array Bool}:MX P n ops Ls C Q (.op i π) p listed (Kn L) w:=by
  intro hns hmo hB hw a ha;simp only[Prod.mk.injEq,decide_eq_true_eq,Option.map_eq_some_iff] at hs;obtain⟨⟨g,hg,hse⟩,hd,hn,hnew⟩:=hs;have hnx:nx Ls p i=p+1:=by unfold nx;rw[if_pos hl]
  simp only[Pn,Bool.and_eq_true,beq_iff_eq,hnx] at hB;obtain⟨hr,hB⟩:=hB;obtain⟨k,wv,rfl,_,h2⟩:=JS ha hse;have hnw:Region.wanted o (yielded ops a.tmps)=false:=by
    cases hwant:Region.wanted o (yielded ops a.tmps) with
    | true=>exact absurd ((JR hg).1 hwant k wv rfl) (h2 rfl)
    | false=>rfl
  refine⟨fun h0=>(by rw[h0] at hr;cases hr),fun j hj=>?_⟩;rw[hr] at hj;simp only[List.mem_singleton] at hj;subst hj;have hc:=hmo.le p (p+1) w (by omega) hw;unfold wpOp;simp only[ho,hnx];rw[if_neg (by simp[hnw]),hd];exact⟨hc,h _ hns hmo hB hc _ (ha.more (x:=.yj []) hn hnew)⟩
end
end Go.Sx
namespace Go.Sx
open Go.ChangeShapes Go.WideShapes Go.ChangeAt Go.RowKit
set_option linter.unusedSimpArgs false
set_option linter.unusedVariables false
variable {α σ ρ:Type}
theorem nN {n:Int}(h:-9223372036854775808<=n/\n < 9223372036854775808):dU n=n:=by
  simp only[dU,IntKind.wrap,IntKind.signed,IntKind.bits,reduceIte];simp only[show(2:Int) ^ 64=18446744073709551616 from rfl,show(2:Int) ^ 63=9223372036854775808 from rfl,show(2:Nat) ^ 64=18446744073709551616 from rfl,show(2:Nat) ^ 63=9223372036854775808 from rfl,show(64 - 1:Nat)=63 from rfl]
  first | omega | (simp;omega)
theorem yT {xs ys:List α}{b:Nat}(h:(xs.length+ys.length)*b<=140737488355328):app xs ys b=some (xs++ys):=by
  unfold app;rw[if_pos h]
theorem vT {p:Prop}[Decidable p](h:p):need p=some ():=by
  unfold need;rw[if_pos h]
theorem Kw {xs:List α}{lo hi:Int}(h:0<=lo/\lo<=hi/\hi<=xs.length):Ve xs lo hi=some ((xs.take hi.toNat).drop lo.toNat):=by
  unfold Ve;rw[if_pos h]
theorem whileO_inv {f:σ->Option (σ⊕ρ)}(P:Nat->σ->Prop)(Q:ρ->Prop)(n:Nat)
    (h:∀ i s,P i s->(i < n/\∃ s',f s=some (.inl s')/\P (i+1) s')∨∃ r,f s=some (.inr r)/\Q r) :
    ∀ s,P 0 s->∃ r,gY f s=some r/\Q r:=by
  have key:∀ k i s,n - i<=k->P i s->∃ r,gY f s=some r/\Q r:=by
    intro k
    induction k with
    | zero =>
      intro i s hk hp;rcases h i s hp with⟨hi,_⟩ | ⟨r,hr,hq⟩
      ·omega
      ·exact⟨r,mV hr,hq⟩
    | succ k ih =>
      intro i s hk hp;rcases h i s hp with⟨hi,s',hs',hp'⟩ | ⟨r,hr,hq⟩
      ·rw[ry hs'];exact ih (i+1) s' (by omega) hp'
      ·exact⟨r,mV hr,hq⟩
  exact fun s hp=>key n 0 s (by omega) hp
theorem Ia {f:σ->Option (σ⊕ρ)}(P:Nat->σ->Prop)(r:ρ)(n:Nat)(s:σ)(h0:P 0 s)
    (h:∀ i s,P i s->(i < n/\∃ s',f s=some (.inl s')/\P (i+1) s')∨f s=some (.inr r)):gY f s=some r:=by
  obtain⟨r',h1,rfl⟩:=whileO_inv P (fun r'=>r'=r) n (fun i s hp=>(h i s hp).imp id fun e=>⟨r,e,rfl⟩) s h0;exact h1
theorem oV {f:σ->Option (σ⊕ρ)}(s:Nat->σ)(n:Nat){r:ρ}(h:∀ i,i < n->f (s i)=some (.inl (s (i+1))))(he:f (s n)=some (.inr r)):gY f (s 0)=some r :=
  Ia (fun i x=>x=s i/\i<=n) r n (s 0) ⟨rfl,by omega⟩ (by
    rintro i x ⟨rfl,hi⟩;by_cases hlt:i < n
    ·exact .inl ⟨hlt,_,h i hlt,rfl,by omega⟩
    ·obtain rfl:i=n:=by omega
     exact .inr he)
def IsRow (k:IntKind)(w:World)(a:Option Addr)(len cap:Nat)(zs:List Int):Prop :=
  (a=none/\len=0/\cap=0/\zs=[]) ∨
  ∃ x,a=some x/\len<=cap/\cap<=maxLen/\zs.length=cap/\(∀ i,i < zs.length->w.cell? (x.add i)=some (.int k (zs.getD i 0)))/\∀ n ∈ zs,(Lit.int k n).wf=true
theorem wf_u8 {n:Int}(h:(Lit.int .u8 n).wf=true):0<=n/\n<=255:=by
  simpa [Lit.wf,IntKind.min,IntKind.max,IntKind.signed,IntKind.bits] using h
theorem wf_u64 {n:Int}(h:(Lit.int .u64 n).wf=true):0<=n/\n<=18446744073709551615:=by
  simpa [Lit.wf,IntKind.min,IntKind.max,IntKind.signed,IntKind.bits] using h
theorem wf_i64 {n:Int}(h:(Lit.int .i64 n).wf=true):-9223372036854775808<=n/\n<=9223372036854775807:=by
  simpa [Lit.wf,IntKind.min,IntKind.max,IntKind.signed,IntKind.bits] using h
theorem get_u8 {n:Int}(h:(Lit.int .u8 n).wf=true):∃ x:UInt8,Value.int .u8 n=SV.val (.u8 x):=by
  have:=wf_u8 h;refine⟨UInt8.ofNat n.toNat,?_⟩;simp only[SV.val,Value.int.injEq,true_and];simp;omega
theorem get_u64 {n:Int}(h:(Lit.int .u64 n).wf=true):∃ x:UInt64,Value.int .u64 n=SV.val (.u64 x):=by
  have:=wf_u64 h;refine⟨UInt64.ofNat n.toNat,?_⟩;simp only[SV.val,Value.int.injEq,true_and];simp;omega
theorem row_list {k:IntKind}{β:Type}{φ:β->Value}{w:World}{a:Option Addr}{len cap:Nat}{zs:List Int}(h:IsRow k w a len cap zs)
    (hg:∀ n:Int,(Lit.int k n).wf=true->∃ x:β,Value.int k n=φ x):∃ b:List β,Rd w a (b.map φ)/\b.length=len/\len<=cap:=by
  rcases h with⟨rfl,rfl,rfl,rfl⟩ | ⟨x,rfl,hl,hm,hz,hc,hw⟩
  ·exact⟨[],⟨fun h=>absurd rfl h,fun _ _ _ h=>by cases h⟩,rfl,by omega⟩
  ·have key:∀ zs:List Int,(∀ n ∈ zs,(Lit.int k n).wf=true)->∃ b:List β,b.length=zs.length/\∀ (i:Nat) (n:Int),zs[i]?=some n->∃ y:β,b[i]?=some y/\Value.int k n=φ y:=by
     intro zs
     induction zs with
     | nil=>intro _;exact⟨[],rfl,fun i n h=>by simp at h⟩
     | cons z zs ih =>
       intro hw;obtain⟨b,hb,hi⟩:=ih fun n hn=>hw n (List.mem_cons_of_mem _ hn);obtain⟨y,hy⟩:=hg z (hw z List.mem_cons_self);refine⟨y::b,by simp[hb],fun i n hin=>?_⟩;cases i with
       | zero=>simp at hin;subst hin;exact⟨y,by simp,hy⟩
       | succ i=>simp at hin;obtain⟨y',h1,h2⟩:=hi i n hin;exact⟨y',by simpa using h1,h2⟩
   obtain⟨b,hb,hi⟩:=key zs hw;refine⟨b.take len,⟨fun _=>⟨x,rfl⟩,fun a j u ha hu=>?_⟩,by simp;omega,hl⟩;cases ha;rw[List.map_take,List.getElem?_take] at hu;split at hu
   ·rename_i hj;have hjz:j < zs.length:=by omega
    obtain⟨y,h1,h2⟩:=hi j zs[j] (by simp[hjz]);rw[List.getElem?_map,h1] at hu;simp only[Option.map_some,Option.some.injEq] at hu;rw[hc j hjz,<-hu,<-h2];simp[hjz]
   ·cases hu
theorem row_u8 {w:World}{a:Option Addr}{len cap:Nat}{zs:List Int}(h:IsRow .u8 w a len cap zs):∃ b:List UInt8,Rd w a (b.map bV)/\b.length=len/\len<=cap :=
  row_list h fun n hn=>by obtain⟨x,hx⟩:=get_u8 hn;exact⟨x,hx⟩
section
variable {H:Type}{enc:TypeId×Value->H}{P:Program}{w:World}{held:Bool}
theorem open_row {t e:TypeId}{k:IntKind}{fuel:Nat}{cs:List Value}{x:DataW H×List MemPlace}(ht:P.underlying t=some (.slice e))(he:P.underlying e=some (.int k))(hc:P.cellsOf e=1)
    (h:DataW.trod enc P w 0 (fun _=>true) held fuel t cs=some x) :
    ∃ a len cap zs,cs=[.slice a len cap]/\IsRow k w a len cap zs/\(len=0∨(x.1=.slice (lits k (zs.take len)) (lits k (zs.drop len))/\len<=zs.length)):=by
  rcases open_ints ht he hc h with⟨rfl,_⟩ | ⟨x',l,c,zs,rfl,_,hl,hm,hz,hxx,hcell,hwz⟩
  ·exact⟨none,0,0,[],rfl,.inl ⟨rfl,rfl,rfl,rfl⟩,.inl rfl⟩
  ·simp only[if_true] at hz;refine⟨some x',l,c,zs,rfl,.inr ⟨_,rfl,hl,hm,by simpa using hz,hcell,hwz⟩,.inr ⟨by rw[hxx],by omega⟩⟩
theorem open_fld {t:TypeId}{fs:Array Field}{fuel:Nat}{cs:List Value}{x:DataW H×List MemPlace}(ht:P.underlying t=some (.struct fs))(h:DataW.trod enc P w 0 (fun _=>true) held fuel t cs=some x) :
    ∃ (xs:List (DataW H×List MemPlace)) (n:Nat),x.1=.agg (xs.map (·.1))/\cs.length=P.cellsOf t/\∀ (i:Nat) (f:Field) (ft:TypeId) (off len:Nat),fs[i]?=some f->f.type=ft->f.offset=off->P.cellsOf ft=len ->
      ∃ y,y.1 ∈ xs.map (·.1)/\DataW.trod enc P w 0 (fun _=>true) held n ft ((cs.drop off).take len)=some y:=by
  obtain⟨xs,n,_,rfl,hl,hlen,hf⟩:=DataW.trod_struct ht h;refine⟨xs,n,rfl,hl,?_⟩;rintro i f ft off len hi rfl rfl rfl;have hlt:i < xs.length:=by
    rw[hlen];have:=(Array.getElem?_eq_some_iff.1 hi).1;exact this
  refine⟨xs[i],List.mem_map.2 ⟨xs[i],List.getElem_mem hlt,rfl⟩,?_⟩;rw[hf i f hi];simp[hlt]
end
theorem Po (cs:List Value)(off n off2:Nat)(h:off+n=off2):cs.drop off=(cs.drop off).take n++cs.drop off2:=by
  subst h;rw[<- List.drop_drop,List.take_append_drop]
theorem cut_end (cs:List Value)(n m:Nat)(h:cs.length=n)(hm:n=m):cs.drop m=[]:=by
  subst hm;subst h;simp
end Go.Sx
namespace Go.Sx
open Go.RowKit Go.ChangeShapes Go.WideShapes Go.ChangeAt
set_option linter.unusedSimpArgs false
set_option linter.unusedVariables false
section
variable {P:Program}{n:Nat}{ops:Array Oper}{L:St}{w:World}{K:St->World->Prop}
end
section
variable {α:Type}{F O:Nat->Prop}{w0 w:World}{hs:List HP}
end
section
variable {α:Type}{F O:Nat->Prop}{w0 w:World}{hs rest:List HP}{E:Enc α}{A:Option Addr}{n c m:Nat}{hd:List Hd}{xss:List (List α)}
end
section
variable {P:Program}{n:Nat}{ops:Array Oper}{L:St}{w w0:World}{F O:Nat->Prop}{hs:List HP}{K:St->World->Prop}
end
section
variable {P:Program}{n:Nat}{Q:Exit->Act->World->Prop}{L L':St}{w:World}{c:Code}
end
section
variable {P:Program}{n:Nat}{ops:Array Oper}{L:St}{w:World}{K:St->World->Prop}
structure IsFb (P:Program)(f:FuncId):Prop where
  ok : ∃ fn, P.funcs[f]? = some fn /\ (fn.name == "runtime.NumGoroutine") = false /\ fn.body.isNone = true /\ Extern.findNext fn = none /\ Extern.find fn = some Extern.MathFloatBits.float64bits
theorem Op_fbits {dst:Option Nat}{f:FuncId}{xs:Array Operand}{ats:Array TypeId}{ty:TypeId}{pos:String}{yM:Array Edge}{g:Option (Nat×Bool)}(hf:IsFb P f)(ss:List Nat)(d b:Nat)(hb:b < 18446744073709551616)
    (hs:(OI ops ss L ⟨dst,.call ⟨.value (.func f),xs,ats⟩,ty,pos,yM,g⟩,dst,(decide (d < n)),(L.any fun p=>p.1 == d),(toSS xs.toList (lk L)).map SV.vals)=(true,some d,true,false,some [.float .f64 b]))
    (hk:K ((d,.u64 (UInt64.ofNat b))::L) w):Nz P n ops L w ⟨dst,.call ⟨.value (.func f),xs,ats⟩,ty,pos,yM,g⟩ K:=by
  simp only[Prod.mk.injEq,Option.map_eq_some_iff,decide_eq_true_eq] at hs;obtain⟨s1,s2,s3,s4,⟨vs,s5,s6⟩⟩:=hs;subst s2;refine Ku (xs:=xs.toList) (svs:=vs) ss (d:=d) (by simp[Side,s1,s3,s4,s5]) fun a ha he=>?_;rw[s6] at he;have hargs:(#[]++xs.map a.eval++#[]:Array Value)=#[.float .f64 b]:=by
    apply Array.ext';simpa using he
  obtain⟨fn,h1,h2,h3,h4,h5⟩:=hf.ok;have hrun:(execOp a.eval ⟨some d,.call ⟨.value (.func f),xs,ats⟩,ty,pos,yM,g⟩).run P w=.ok (.value (SV.val (.u64 (UInt64.ofNat b)))) w:=by
    show(callFunc f (#[]++xs.map a.eval++#[])).run P w=_;rw[hargs,run_callFunc_extern h1 h2 h3 h4 h5];have e:(UInt64.ofNat b).toNat=b:=by simp only[UInt64.toNat_ofNat'];omega
    simp only[SV.val,e];rfl
  unfold Oper.wp;rw[hrun];exact⟨_,rfl,hk⟩
end
section
variable {P:Program}{n:Nat}{ops:Array Oper}{L:St}{w:World}{K:St->World->Prop}
end
def eQ:Enc (Option Addr):=⟨1,fun a=>[.pointer a],fun _=>rfl,fun x v h=>by rw[List.mem_singleton.1 h];rfl⟩
instance:Pos eQ:=⟨by decide⟩
theorem exlist {β:Type}{Q:Nat->β->Prop}:∀ (n:Nat),(∀ i,i < n->∃ y,Q i y)->∃ l:List β,l.length=n/\∀ (i:Nat) (y:β),l[i]?=some y->Q i y
  | 0,_=>⟨[],rfl,fun i y h=>by cases h⟩
  | n+1,h=>by
    obtain⟨l,hl,hQ⟩:=exlist n fun i hi=>h i (by omega);obtain⟨y,hy⟩:=h n (by omega);refine⟨l++[y],by simp[hl],fun i z hz=>?_⟩;rw[List.getElem?_append] at hz;split at hz
    ·exact hQ i z hz
    ·have hi:i=n:=by
       have:=(List.getElem?_eq_some_iff.1 hz).1;simp at this;omega
     subst hi;rw[hl] at hz;simp at hz;subst hz;exact hy
def Tot:List (List UInt8)->Nat
  | []=>0
  | x::xs=>x.length+1+Tot xs
section
variable {H:Type}{enc:TypeId×Value->H}{P:Program}{w:World}{held:Bool}
def Fam:List (DataW H)->List (List UInt8)->Prop
  | [],[]=>True
  | d::ds,x::xs=>(x=[]∨∃ zs:List Int,d=.slice (lits .u8 (zs.take x.length)) (lits .u8 (zs.drop x.length))/\x.length<=zs.length)/\Fam ds xs
  | _,_=>False
end
section
variable {ops:Array Oper}{Ls:List Nat}
def Yy (ops:Array Oper)(m i:Nat):Bool:=!m.testBit i&&((ops[i]?).map (·.after.all fun e=>!Region.binds .any e||m.testBit e.on)).getD false
def freeN (ops:Array Oper)(m i:Nat):Bool :=
  match ops[i]? with
  | none=>false
  | some oi=>(List.range ops.size).all fun j=>j == i||m.testBit j||match ops[j]? with
      | some oj=>oj.after.any (fun e=>Region.binds .any e&&e.on == i)||oi.apart ops oj
      | none=>true
def aheadN (ops:Array Oper)(Ls:List Nat)(m i:Nat):Nat:=(Ls.filter fun j=>decide (j < ops.size)&&!m.testBit j&&!LD ops m.testBit j i).length
def Xn (ops:Array Oper)(Ls:List Nat):MT->Nat->Nat->Bool
  | .nil,_,m=>(List.range ops.size).all fun i=>!Yy ops m i
  | .q i k π,p,m=>decide (i < ops.size)&&Yy ops m i&&freeN ops m i&&!Ls.contains i&&decide (p+aheadN ops Ls m i<=k)&&Xn ops Ls π p (m|||2 ^ i)
  | .op i π,p,m=>((List.range ops.size).filter fun j=>Yy ops m j) == [i]&&Xn ops Ls π (nx Ls p i) (m|||2 ^ i)
  | .br i j ri rj,p,m=>((List.range ops.size).filter fun j=>Yy ops m j) == [i,j]&&rj.depth == ri.depth&&Xn ops Ls ri (nx Ls p i) (m|||2 ^ i)&&Xn ops Ls rj (nx Ls p j) (m|||2 ^ j)
def Rel (ops:Array Oper)(listed:Array Bool)(m:Nat):Prop:=listed.size=ops.size/\∀ j,listed.getD j false=m.testBit j
theorem Rel.lt {listed:Array Bool}{m:Nat}(h:Rel ops listed m){j:Nat}(hj:j < ops.size):listed.getD j true=m.testBit j:=by
  rw[<- h.2 j,Array.getD_eq_getD_getElem?,Array.getD_eq_getD_getElem?,Array.getElem?_eq_getElem (by rw[h.1];exact hj)];rfl
theorem Rel.ge {listed:Array Bool}{m:Nat}(h:Rel ops listed m){j:Nat}(hj:¬ j < ops.size):listed.getD j true=true:=by
  rw[Array.getD_eq_getD_getElem?,Array.getElem?_eq_none (by rw[h.1];omega)];rfl
theorem Rel.ready {listed:Array Bool}{m:Nat}(h:Rel ops listed m):Region.ready .any ops listed=(List.range ops.size).filter fun j=>Yy ops m j:=by
  unfold Region.ready;refine List.filter_congr fun i hi=>?_;rw[List.mem_range] at hi;unfold Yy;rw[h.lt hi];simp only[h.2]
theorem Rel.free {listed:Array Bool}{m i:Nat}(h:Rel ops listed m):Region.free .any ops listed i=freeN ops m i:=by
  unfold Region.free freeN;cases ho:ops[i]? with
  | none=>rfl
  | some oi =>
    simp only[];rw[Bool.eq_iff_iff,List.all_eq_true,List.all_eq_true];refine⟨fun hq j hj=>?_,fun hq j hj=>?_⟩
    ·have:=hq j hj;rw[h.lt (List.mem_range.1 hj)] at this;exact this
    ·have:=hq j hj;rw[h.lt (List.mem_range.1 hj)];exact this
theorem Rel.ahd {listed:Array Bool}{m i:Nat}(h:Rel ops listed m):ahead ops Ls listed i=aheadN ops Ls m i:=by
  unfold ahead aheadN;congr 1;refine List.filter_congr fun j _=>?_;have hf:(fun x=>listed.getD x false)=m.testBit:=funext h.2;rw[hf];by_cases hj:j < ops.size
  ·rw[h.lt hj,decide_eq_true hj];rfl
  ·rw[h.ge hj,decide_eq_false hj];rfl
theorem Rel.step {listed:Array Bool}{m i:Nat}(h:Rel ops listed m)(hi:i < ops.size):Rel ops (listed.setIfInBounds i true) (m|||2 ^ i):=by
  refine⟨by simpa using h.1,fun j=>?_⟩;rw[Nat.testBit_or,Nat.testBit_two_pow];by_cases hij:i=j
  ·subst hij;rw[Array.getD_eq_getD_getElem?,Array.getElem?_setIfInBounds_self_of_lt (by rw[h.1];exact hi)];simp
  ·rw[<- h.2 j,Array.getD_eq_getD_getElem?,Array.getElem?_setIfInBounds_ne hij,<-Array.getD_eq_getD_getElem?];simp[hij]
theorem VV:∀ (π:MT) (p m:Nat) (listed:Array Bool),Rel ops listed m->Xn ops Ls π p m=true->Pn ops Ls π p listed=true
  | .nil,p,m,listed,h,hq=>by
    simp only[Pn,h.ready,List.isEmpty_iff,List.filter_eq_nil_iff];simp only[Xn,List.all_eq_true,Bool.not_eq_true'] at hq;intro a ha;rw[hq a ha];exact Bool.false_ne_true
  | .q i k π,p,m,listed,h,hq=>by
    simp only[Xn,Bool.and_eq_true,decide_eq_true_eq,Bool.not_eq_true'] at hq;obtain⟨⟨⟨⟨⟨h1,h2⟩,h3⟩,h4⟩,h5⟩,h6⟩:=hq;simp only[Pn,Bool.and_eq_true,decide_eq_true_eq,Bool.not_eq_true'];refine⟨⟨⟨⟨?_,by rw[h.free];exact h3⟩,h4⟩,by rw[h.ahd];exact h5⟩,VV π p _ _ (h.step h1) h6⟩;rw[h.ready,List.contains_iff_mem,List.mem_filter];exact⟨List.mem_range.2 h1,h2⟩
  | .op i π,p,m,listed,h,hq=>by
    simp only[Xn,Bool.and_eq_true] at hq;simp only[Pn,Bool.and_eq_true];have hi:i < ops.size:=by
      have:i ∈ (List.range ops.size).filter fun j=>Yy ops m j:=by rw[beq_iff_eq.1 hq.1];exact List.mem_singleton.2 rfl
      exact List.mem_range.1 (List.mem_filter.1 this).1
    exact⟨by rw[h.ready];exact hq.1,VV π _ _ _ (h.step hi) hq.2⟩
  | .br i j ri rj,p,m,listed,h,hq=>by
    simp only[Xn,Bool.and_eq_true] at hq;obtain⟨⟨⟨h1,h2⟩,h3⟩,h4⟩:=hq;simp only[Pn,Bool.and_eq_true];have hi:i < ops.size:=by
      have:i ∈ (List.range ops.size).filter fun j=>Yy ops m j:=by rw[beq_iff_eq.1 h1];simp
      exact List.mem_range.1 (List.mem_filter.1 this).1
    have hj:j < ops.size:=by
      have:j ∈ (List.range ops.size).filter fun j=>Yy ops m j:=by rw[beq_iff_eq.1 h1];simp
      exact List.mem_range.1 (List.mem_filter.1 this).1
    exact⟨⟨⟨by rw[h.ready];exact h1,h2⟩,VV ri _ _ _ (h.step hi) h3⟩,VV rj _ _ _ (h.step hj) h4⟩
end
theorem W_mN {P:Program}{n:Nat}{Q:Exit->Act->World->Prop}{L:St}{w w0:World}{F O:Nat->Prop}{hs:List HP}{id:Nat}{l:List Oper}{C:List (World->Prop)}(hm:P.follows .mixedOrders=true)(π:MT)(Ls:List Nat)(k:Cx F O w0 (w.drewN 1) hs)(ch:Chain F O w0 hs C)
    (hB:(Region.noSelect l.toArray,Xn l.toArray Ls π 0 0,π.depth == l.length)=(true,true,true)) (h:∀ listed,MX P n l.toArray Ls C (Q .normal) π 0 listed (Kn L) (w.drewN 1)) :
    W P n (.region id l.toArray true) Q L w:=by
  simp only[Prod.mk.injEq] at hB;refine Gs hm π Ls k ch ?_ h;rw[hB.1,hB.2.2,VV π 0 0 (Array.replicate l.length false) ⟨by simp,fun j=>?_⟩ hB.2.1];rw[Array.getD_eq_getD_getElem?,Nat.zero_testBit];by_cases hj:j < l.length
  ·simp[hj]
  ·simp[hj]
end Go.Sx
namespace Go.Sx
open Go.RowKit Go.MapKept
set_option linter.unusedSimpArgs false
set_option linter.unusedVariables false
section
variable {P:Program}{n:Nat}{ops:Array Oper}{L:St}{w w0:World}{F O:Nat->Prop}{hs:List HP}{K:St->World->Prop}
end
end Go.Sx
namespace Go.Sx
open Go.RowKit
set_option linter.unusedSimpArgs false
set_option linter.unusedVariables false
variable {α β γ δ:Type}
def RH (F:Nat->Prop)(w:World)(E:Enc α)(h:Hd)(x:List α):Prop:=h.2.1=x.length/\x.length<=h.2.2/\Ro F w h.1 (E.all x)
def RQ (y x:α):Prop:=y=x
def RP (r:α->β->Prop)(q:γ->δ->Prop)(y:α×γ)(x:β×δ):Prop:=r y.1 x.1/\q y.2 x.2
structure RoG (F:Nat->Prop)(w:World)(E:Enc γ)(r:γ->δ->Prop)(A:Option Addr)(ys:List γ)(xs:List δ):Prop where
  ro:Ro F w A (E.all ys)
  len:ys.length=xs.length
  el:∀ (j:Nat) (y:γ) (x:δ),ys[j]?=some y->xs[j]?=some x->r y x
section
variable {F O F1 O1:Nat->Prop}{w0 w w':World}{hs:List HP}
theorem RoG.at {E:Enc γ}{r:γ->δ->Prop}{A:Option Addr}{ys:List γ}{xs:List δ}(h:RoG F w E r A ys xs){j:Int}{x:δ}(hx:iT xs j=some x):∃ y,iT ys j=some y/\r y x:=by
  obtain⟨h0,h1⟩:=kR hx;have hlt:=(List.getElem?_eq_some_iff.1 h1).1;have hh:ys[j.toNat]?=some (ys[j.toNat]'(h.len▸hlt)):=List.getElem?_eq_getElem _;refine⟨ys[j.toNat]'(h.len▸hlt),?_,h.el _ _ _ hh h1⟩;unfold iT;rw[if_pos h0,hh]
theorem RoG.nil {E:Enc γ}{r:γ->δ->Prop}:RoG F w E r Option.none [] []:=⟨Ro.SE E,rfl,fun _ _ _ h=>by cases h⟩
end
def hV (h:Hd):Value:=.slice h.1 h.2.1 h.2.2
section
variable {F O:Nat->Prop}{w0 w:World}{hs rest:List HP}{E:Enc α}{b:Nat}{ks:List (List UInt8)}{hd:List Hd}{xss:List (List α)}
end
section
variable {P:Program}{n:Nat}{ops:Array Oper}{L:St}{w w0:World}{F O:Nat->Prop}{hs rest:List HP}{K:St->World->Prop}{E:Enc α}
end
end Go.Sx
namespace Go.Sx
open Go.RowKit Go.MapKept
set_option linter.unusedSimpArgs false
set_option linter.unusedVariables false
variable {α:Type}
section
variable {P:Program}{n:Nat}{ops:Array Oper}{L:St}{w w0:World}{F O:Nat->Prop}{hs rest:List HP}{K:St->World->Prop}
variable {E:Enc α}{b r:Nat}{ks left:List (List UInt8)}{hd:List Hd}{xss:List (List α)}
end
section
variable {P:Program}{n:Nat}{Q:Exit->Act->World->Prop}{L L':St}{w:World}
end
end Go.Sx
namespace Go.Sx
open Go.RowKit
set_option linter.unusedSimpArgs false
set_option linter.unusedVariables false
variable {α β γ δ ε ζ:Type}
structure Rl (γ δ:Type) where
  r:World->(Nat->Prop)->γ->δ->Prop
  loc:∀ w w' R y x,r w R y x->(∀ b,R b->w'.heap[b]?=w.heap[b]?)->r w' R y x
  mono:∀ w R R' y x,(∀ b,R b->R' b)->r w R y x->r w R' y x
def SH (E:Enc α):Rl Hd (List α) where
  r w R h x:=h.2.1=x.length/\x.length<=h.2.2/\Rd w h.1 (E.all x)/\(E.all x≠[]->∀ a,h.1=some a->R a.block)
  loc:=by
    rintro w w' R y x ⟨h1,h2,h3,h4⟩ hk;refine⟨h1,h2,⟨h3.1,fun a j u ha hu=>?_⟩,h4⟩;have h5:=h3.2 a j u ha hu;have hne:E.all x≠[]:=fun e=>by rw[e] at hu;cases hu
    have h6:=hk (a.add j).block (by rw[DN];exact h4 hne a ha);rw[World.cell?_of_block h6];exact h5
  mono:=by
    rintro w R R' y x hR ⟨h1,h2,h3,h4⟩;exact⟨h1,h2,h3,fun hne a ha=>hR _ (h4 hne a ha)⟩
def Sh (q:Rl γ δ)(ys:List γ)(xs:List δ):HP where
  p w S R:=(∀ b,¬ S b)/\ys.length=xs.length/\∀ (j:Nat) (y:γ) (x:δ),ys[j]?=some y->xs[j]?=some x->q.r w R y x
  loc:=by
    rintro w w' S R ⟨h0,h1,h2⟩ hk;exact⟨h0,h1,fun j y x e1 e2=>q.loc _ _ _ _ _ (h2 j y x e1 e2) fun b hb=>hk b (.inr hb)⟩
section
variable {F O:Nat->Prop}{w0 w w':World}{hs rest:List HP}
theorem Cx.dup {h h':HP}(k:Cx F O w0 w hs)(i:Nat)(hi:hs[i]?=some h)(hp:∀ w S R,h.p w S R->h'.p w (fun _=>False) R):Cx F O w0 w (h'::hs):=by
  obtain⟨U,V,h1,hU,hV⟩:=k.sep;obtain⟨S,R,U',V',e1,e2,e3,e4,e5,e6⟩:=Sep.cut hi h1;refine⟨k.os,k.tape,k.output,k.size,k.block,k.fin,k.ZI,U,V,⟨_,R,U,V,hp _ _ _ e1,h1,fun b=>⟨.inr,fun h=>h.elim (fun h=>h.elim) id⟩,fun b=>⟨.inr,fun h=>h.elim (fun h=>(e4 b).2 (.inl h)) id⟩,fun b hb=>hb.elim,fun b hb hu=>?_⟩,hU,hV⟩;exact Sep.apart h1 b hu ((e4 b).2 (.inl hb))
theorem Cx.share {E:Enc α}{A:Option Addr}{n c:Nat}{xs:List α}(k:Cx F O w0 w (Ow E A n c xs::rest)):Cx F O w0 w (Sh (SH E) [(A,n,c)] [xs]::rest):=by
  have:=k.upd (h':=Sh (SH E) [(A,n,c)] [xs]) 0 rfl Option.none ⟨rfl,rfl,rfl,Nat.le_refl _,fun _ _ _=>rfl⟩ fun S R h1 h2 h3=>by
    refine⟨fun g hg=>(by cases hg),fun _=>False,fun b=>R b∨S b,⟨fun _ h=>h,rfl,fun j y x e1 e2=>?_⟩,fun b hb=>hb.elim,fun b hb=>⟨h3 b (hb.elim .inr .inl),hb.elim .inl (fun h=>.inr (.inl h))⟩⟩;cases j with
    | succ j=>cases e1
    | zero =>
      obtain rfl:=Option.some.inj e1;obtain rfl:=Option.some.inj e2;refine⟨h1.1.symm,by rw[h1.1];exact Ow.lec' h1,Ow.rd' h1,fun hne a ha=>?_⟩;rcases h1.2 with⟨h4,_⟩ | ⟨g,t,cur,h4,_,_,_,_,_,h5⟩
      ·rw[h4] at ha;cases ha
      ·rw[h4] at ha;obtain rfl:=Option.some.inj ha;exact .inr h5
  simpa only [List.set_cons_zero] using this
theorem Cx.shold (k:Cx F O w0 w hs)(q:Rl γ δ){y:γ}{x:δ}(h:q.r w0 O y x):Cx F O w0 w (Sh q [y] [x]::hs):=by
  obtain⟨U,V,h1,hU,hV⟩:=k.sep;have hw:q.r w O y x:=q.loc _ _ _ _ _ h fun b hb=>k.block b (k.ZI b hb) fun hf=>(k.fin b hf).2 hb;refine⟨k.os,k.tape,k.output,k.size,k.block,k.fin,k.ZI,U,fun b=>O b∨V b,⟨fun _=>False,O,U,V,⟨fun _ h=>h,rfl,fun j y' x' e1 e2=>?_⟩,h1,fun b=>⟨.inr,fun h=>h.elim (fun h=>h.elim) id⟩,fun b=>Iff.rfl,fun b hb=>hb.elim,fun b hb hu=>?_⟩,hU,fun b hb=>hb.elim (fun h=>.inl (.inl h)) (hV b)⟩
  ·cases j with
   | succ j=>cases e1
   | zero =>
     obtain rfl:=Option.some.inj e1;obtain rfl:=Option.some.inj e2;exact hw
  ·rcases hU b hu with h | h
   ·exact(k.fin b h).2 hb
   ·have:=k.ZI b hb;omega
variable {E:Enc γ}{q:Rl γ δ}{A:Option Addr}{n c:Nat}{ys:List γ}{xs:List δ}
end
section
variable {F O:Nat->Prop}{w0 w:World}{hs:List HP}
theorem Cx.kX {q:Rl γ δ}{ys:List γ}{xs:List δ}(k:Cx F O w0 w hs)(i:Nat)(hi:hs[i]?=some (Sh q ys xs)):Cx F O w0 w (Sh q ys xs::hs) :=
  k.dup i hi fun _ _ _ h=>⟨fun _ h=>h,h.2.1,h.2.2⟩
theorem Cx.bu {E:Enc α}{A:Option Addr}{n c:Nat}{x:List α}(k:Cx F O w0 w hs)(i:Nat)(hi:hs[i]?=some (Sh (SH E) [(A,n,c)] [x])):x.length=n:=by
  obtain⟨S,R,h⟩:=k.get i hi;exact((h.2.2 0 _ _ rfl rfl).1).symm
theorem Cx.tK {E:Enc α}{A:Option Addr}{n c:Nat}{x:List α}(k:Cx F O w0 w hs)(i:Nat)(hi:hs[i]?=some (Sh (SH E) [(A,n,c)] [x])):n<=c:=by
  obtain⟨S,R,h⟩:=k.get i hi;have h1:=h.2.2 0 _ _ rfl rfl;have h2:n=x.length:=h1.1;have h3:x.length<=c:=h1.2.1;omega
theorem Cx.shrd {E:Enc α}{A:Option Addr}{n c:Nat}{x:List α}(k:Cx F O w0 w hs)(i:Nat)(hi:hs[i]?=some (Sh (SH E) [(A,n,c)] [x])):Rd w A (E.all x):=by
  obtain⟨S,R,h⟩:=k.get i hi;exact(h.2.2 0 _ _ rfl rfl).2.2.1
end
section
variable {F O F1 O1:Nat->Prop}{w0 w w':World}{hs rest:List HP}{E:Enc γ}{q:Rl γ δ}{A:Option Addr}{ys:List γ}{xs:List δ}
theorem Cx.off (k:Cx F O w0 w hs):∀ b,O b->¬ F b:=fun b ho hf=>(k.fin b hf).2 ho
end
section
variable {P:Program}{n:Nat}{ops:Array Oper}{L:St}{w w0:World}{F O:Nat->Prop}{hs rest:List HP}{K:St->World->Prop}{E:Enc γ}{q:Rl γ δ}
end
end Go.Sx
namespace Go.Sx
open Go.RowKit
set_option linter.unusedSimpArgs false
set_option linter.unusedVariables false
variable {γ δ:Type}
def TotG (wt:δ->Nat):List δ->Nat
  | []=>0
  | x::xs=>wt x+TotG wt xs
def Q9 {H:Type}(m:DataW H->δ->Prop):List (DataW H)->List δ->Prop
  | [],[]=>True
  | d::ds,x::xs=>m d x/\Q9 m ds xs
  | _,_=>False
theorem Q9.of {H:Type}{m:DataW H->δ->Prop}:∀ (ds:List (DataW H)) (xs:List δ),ds.length=xs.length->(∀ (i:Nat) (d:DataW H) (x:δ),ds[i]?=some d->xs[i]?=some x->m d x)->Q9 m ds xs
  | [],[],_,_=>trivial
  | [],_::_,h,_=>by cases h
  | _::_,[],h,_=>by cases h
  | d::ds,x::xs,h,hq=>⟨hq 0 d x rfl rfl,Q9.of ds xs (by simpa using h) fun i d' x' h1 h2=>hq (i+1) d' x' h1 h2⟩
theorem Q9.tot {H:Type}{wt:δ->Nat}{bulk:DataW H->Nat}{bulkAll:List (DataW H)->Nat}(h0:∀ d ds,bulkAll (d::ds)=bulk d+bulkAll ds):∀ (ds:List (DataW H)) (xs:List δ),Q9 (fun d x=>wt x<=bulk d) ds xs->TotG wt xs<=bulkAll ds
  | [],[],_=>Nat.zero_le _
  | [],_::_,h=>h.elim
  | _::_,[],h=>h.elim
  | d::ds,x::xs,⟨h,hr⟩=>by
    have:=Q9.tot h0 ds xs hr;simp only[TotG,h0];omega
section
variable {H:Type}{enc:TypeId×Value->H}{P:Program}{w:World}{held:Bool}
theorem open_rg {t e:TypeId}{fuel:Nat}{cs:List Value}{x:DataW H×List MemPlace}(E:Enc γ)(r:γ->δ->Prop)(m:DataW H->δ->Prop)(ht:P.underlying t=some (.slice e))(hce:P.cellsOf e=E.sz)
    (hel:∀ fuel cs (x:DataW H×List MemPlace),DataW.trod enc P w 0 (fun _=>true) held fuel e cs=some x->∃ (y:γ) (z:δ),cs=E.f y/\r y z/\m x.1 z)
    (h:DataW.trod enc P w 0 (fun _=>true) held fuel t cs=some x) :
    ∃ (A:Option Addr) (len cap:Nat) (ys:List γ) (xs:List δ),cs=[.slice A len cap]/\RoG N0 w E r A ys xs/\xs.length=len/\len<=cap/\(xs=[]∨∃ ds rest,x.1=.slice ds rest/\Q9 m ds xs):=by
  rcases DataW.trod_slice ht h with⟨rfl,rfl⟩ | ⟨a,len,cap,elems,rest,n,rfl,rfl,rfl,_,hl,_,hlen,hel2,_,_⟩
  ·exact⟨Option.none,0,0,[],[],rfl,RoG.nil,rfl,by omega,.inl rfl⟩
  ·have key:∀ i,i < len->∃ y:γ×δ,w.cells? 0 (a.add (i*E.sz)) E.sz=some (E.f y.1)/\r y.1 y.2/\∃ d,elems[i]?=some d/\m d.1 y.2:=by
     intro i hi;have h1:=hel2 i hi;have h2:elems[i]?=some (elems[i]'(by omega)):=List.getElem?_eq_getElem _;rw[h2,hce,Option.bind_eq_some_iff] at h1;obtain⟨cs',hcs,hy⟩:=h1;obtain⟨y,z,rfl,hr,hm⟩:=hel _ _ _ hy;exact⟨(y,z),hcs,hr,_,h2,hm⟩
   obtain⟨l,hll,hl2⟩:=exlist len key;have hget:∀ (j:Nat) (y:γ) (x:δ),(l.map (·.1))[j]?=some y->(l.map (·.2))[j]?=some x->l[j]?=some (y,x):=by
     intro j h x h1 h2;rw[List.getElem?_map,Option.map_eq_some_iff] at h1 h2;obtain⟨y,hy,rfl⟩:=h1;obtain⟨y',hy',rfl⟩:=h2;rw[hy] at hy';obtain rfl:=Option.some.inj hy';exact hy
   refine⟨some a,len,cap,l.map (·.1),l.map (·.2),rfl,⟨Ro.n0 ⟨fun _=>⟨a,rfl⟩,?_⟩,by simp,?_⟩,by simp[hll],hl,.inr ⟨_,_,rfl,?_⟩⟩
   ·intro a' j u ha hu;obtain rfl:=Option.some.inj ha;by_cases hz:E.sz=0
    ·have hq:=(List.getElem?_eq_some_iff.1 hu).1;rw[Enc.lT,hz,Nat.mul_zero] at hq;omega
    ·have hq:=(List.getElem?_eq_some_iff.1 hu).1;rw[Enc.lT,List.length_map] at hq;have hi:j / E.sz < l.length:=Nat.div_lt_of_lt_mul (by rw[Nat.mul_comm];exact hq);have hmod:j % E.sz < E.sz:=Nat.mod_lt _ (by omega);have hy:l[j / E.sz]?=some (l[j / E.sz]):=List.getElem?_eq_getElem _;obtain⟨h1,_⟩:=hl2 _ _ hy;obtain⟨_,h3,h4⟩:=World.cells?_some h1;have h5:=h4 (j % E.sz) hmod;rw[Addr.add_add,Nat.mul_comm,Nat.div_add_mod] at h5;rw[h5];have h6:=Enc.Yr E (xs:=l.map (·.1)) (j:=j / E.sz) (x:=(l[j / E.sz]).1) (by rw[List.getElem?_map,hy];rfl);rw[<- h6,List.getElem?_take_of_lt hmod,List.getElem?_drop,Nat.mul_comm,Nat.div_add_mod];exact hu
   ·intro j h x h1 h2;exact(hl2 j _ (hget j h x h1 h2)).2.1
   ·refine Q9.of _ _ (by simp[hll,hlen]) fun i d x h1 h2=>?_;rw[List.getElem?_map,Option.map_eq_some_iff] at h1 h2;obtain⟨y,hy,rfl⟩:=h1;obtain⟨z,hz,rfl⟩:=h2;obtain⟨_,_,d',hd',hq⟩:=hl2 i z hz;rw[hy] at hd';obtain rfl:=Option.some.inj hd';exact hq
end
end Go.Sx
namespace Go.Sx
open Go.RowKit
set_option linter.unusedSimpArgs false
set_option linter.unusedVariables false
variable {α β γ δ:Type}
section
variable {F O F1 O1:Nat->Prop}{w0 w w':World}{hs rest:List HP}{E:Enc α}{A:Option Addr}{n c:Nat}{x:List α}
theorem Ro.uX (hO:∀ b,O1 b->¬ F1 b)(hr:∀ (i:Nat) (h:HP),rest[i]?=some h->∃ S R,h.p w S R/\(∀ b,R b->O1 b)/\∀ b,S b->¬ F1 b)(i:Nat)(hi:rest[i]?=some (Sh (SH E) [(A,n,c)] [x])):Ro F1 w A (E.all x):=by
  obtain⟨S,R,h,hR,hS⟩:=hr i _ hi;have h1:=h.2.2 0 _ _ rfl rfl;exact⟨h1.2.2.1,fun hne a ha hf=>hO _ (hR _ (h1.2.2.2 hne a ha)) hf⟩
theorem Cx.owsome (k:Cx F O w0 w hs)(i:Nat)(hi:hs[i]?=some (Ow E A n c x))(h:x≠[]):∃ g,A=some ⟨g,0,Option.none⟩:=by
  obtain⟨S,R,h0,h1⟩:=k.get i hi;rcases h1 with⟨_,h2,_⟩ | ⟨g,t,cur,h2,_⟩
  ·exact absurd (List.eq_nil_of_length_eq_zero (h0.trans h2)) h
  ·exact⟨g,h2⟩
end
theorem Q9.len {H:Type}{m:DataW H->δ->Prop}{bulk:DataW H->Nat}{bulkAll:List (DataW H)->Nat}(h0:∀ d ds,bulkAll (d::ds)=bulk d+bulkAll ds)(h1:∀ d,1<=bulk d):∀ (ds:List (DataW H)) (xs:List δ),Q9 m ds xs->xs.length<=bulkAll ds
  | [],[],_=>Nat.zero_le _
  | [],_::_,h=>h.elim
  | _::_,[],h=>h.elim
  | d::ds,x::xs,⟨_,hr⟩=>by
    have:=Q9.len h0 h1 ds xs hr;have:=h1 d;simp only[List.length_cons,h0];omega
section
variable {σ ρ:Type}{P:Program}{n:Nat}{Q:Exit->Act->World->Prop}{c:Code}{L L':St}{w0:World}
end
end Go.Sx
namespace Go.Sx
open Go.RowKit
set_option linter.unusedSimpArgs false
set_option linter.unusedVariables false
section
variable {α β σ ρ:Type}{P:Program}{n:Nat}{Q:Exit->Act->World->Prop}{ops:Array Oper}{L L':St}{w w0:World}{os:List SV}{cs:List Cond}{F O:Nat->Prop}{hs:List HP}{rest:List Oper}
theorem Wa {id:Nat}{l:List Oper}{y:Code}(b:Bl L L')(q:Ask os cs w)(h:W P n y Q L' w)(hs:(evs P n l.toArray [] l (Kn L) os).map (fun r=>(L'.map fun e=>(look r.1 e.1).map fun e=>(e.g,e.x.val),r.2.1,r.2.2))=some (L'.map fun p=>some (none,p.2.val),cs,[]):=by kernel_rfl):W P n (.region id l.toArray false) (Exit.then (y.wp P Q) Q) L w:=zA [] b q hs (aJ h)
theorem Wq {id:Nat}{l:List Oper}{y:Code}(b:Bl L L')(h:W P n y Q L' w)(hs:(evs P n l.toArray [] l (Kn L) []).map (fun r=>(L'.map fun e=>(look r.1 e.1).map fun e=>(e.g,e.x.val),r.2.1,r.2.2))=some (L'.map fun p=>some (none,p.2.val),[],[]):=by kernel_rfl):W P n (.region id l.toArray false) (Exit.then (y.wp P Q) Q) L w:=Wa b qe h hs
theorem Wl {l:List Oper}(k:Nat)(b:Bl L L')(q:Ask os cs w)(h:WL P n ops Q (l.drop k) L' w)(hs:(evs P n ops [] (l.take k) (Kn L) os).map (fun r=>(L'.map fun e=>(look r.1 e.1).map fun e=>(e.g,e.x.val),r.2.1,r.2.2))=some (L'.map fun p=>some (none,p.2.val),cs,[]):=by kernel_rfl):WL P n ops Q l L w:=FO k [] b q hs h
theorem We {l:List Oper}(k:Nat)(b:Bl L L')(h:WL P n ops Q (l.drop k) L' w)(hs:(evs P n ops [] (l.take k) (Kn L) []).map (fun r=>(L'.map fun e=>(look r.1 e.1).map fun e=>(e.g,e.x.val),r.2.1,r.2.2))=some (L'.map fun p=>some (none,p.2.val),[],[]):=by kernel_rfl):WL P n ops Q l L w:=FO k [] b qe hs h
theorem Wn {ops:Array Oper}{y:Code}(h:W P n y Q L w):WL P n ops (Exit.then (y.wp P Q) Q) [] L w:=lK (aJ h)
theorem jU {f:FuncId}{fn:Func}{c:Code}{R:Ending->World->Prop}(xs:List SV)(hf:P.funcs[f]?=some fn)(hb:fn.body=some c)(h:W P fn.ntmps c (bodyPost P fn R) (numbered 0 xs) w)(hn:decide (xs.length<=fn.ntmps)=true:=by kernel_rfl):Calls P f (vals xs) w R:=calls xs hf hb (of_decide_eq_true hn) h
theorem aU {fn:Func}{R:Ending->World->Prop}(xs:List SV)(q:Ask os cs w)(h:R (.returned (XM xs).val) w)(hr:UT P fn.results.toList L os=some (xs,cs,[]):=by kernel_rfl):At n (bodyPost P fn R .ret) L w:=At_rt xs q hr h
theorem jV {Q:Exit->Act->World->Prop}{K:St->World->Prop}(h:K L' w)(hk:L'.map (fun p=>(find L p.1).map SV.val)=L'.map (fun p=>some p.2.val):=by kernel_rfl):At n (Exit.then (fun a w=>∃ L,Fu n a (Kn L)/\K L w) Q .normal) L w:=At_c h hk
theorem si {a b:α}(h:some a=some b):a=b:=Option.some.inj h
theorem W_cz {k:Nat}{x y:Code}(c:Bool)(h1:c=true->W P n x Q L w)(h2:c=false->W P n y Q L w)(hf:find L k=some (.b c):=by kernel_rfl):W P n (.cond (.tmp k) x y) Q L w:=lJ c hf h1 h2
theorem jH {p:Nat}{Ls:List Nat}{C:List (World->Prop)}{Q:Act->World->Prop}{π:MT}{listed:Array Bool}(k m:Nat)(b:Bl L L')(q:∀ w,cls C m w->Ask os cs w)
    (h:∀ listed',MX P n ops Ls C Q (π.drop k) p listed' (Kn L') w) (hs:((qops ops m k π).bind fun l=>evs P n ops [] l (Kn L) os).map (fun r=>(L'.map fun e=>(look r.1 e.1).map fun e=>(e.g,e.x.val),r.2.1,r.2.2))=some (L'.map fun p=>some (none,p.2.val),cs,[]):=by kernel_rfl):MX P n ops Ls C Q π p listed (Kn L) w:=MXq k m [] b q hs h
theorem bM {K:St->World->Prop}{dst:Option Nat}{f:FuncId}{xs:Array Operand}{ats:Array TypeId}{ty:TypeId}{pos:String}{yM:Array Edge}{g:Option (Nat×Bool)}(d:Nat){svs:List SV}{R:Ending->World->Prop}(hgo:kL P f)(hc:Calls P f (vals svs) w R)
    (hk:∀ e w',R e w'->∃ x,e=.returned x.val/\K ((d,x)::L) w')
    (hs:(OI ops [] L ⟨dst,.call ⟨.value (.func f),xs,ats⟩,ty,pos,yM,g⟩,dst,(decide (d < n)),(L.any fun p=>p.1 == d),(toSS xs.toList (lk L)).map SV.vals)=(true,some d,true,false,some (SV.vals svs)):=by kernel_rfl) :
    Nz P n ops L w ⟨dst,.call ⟨.value (.func f),xs,ats⟩,ty,pos,yM,g⟩ K:=Dp [] d svs hgo hs hc hk
theorem mY {K:St->World->Prop}{ty t:TypeId}{p x:Operand}{pos:String}{yM:Array Edge}{g:Option (Nat×Bool)}(i:Nat){pa:Option Addr}(sv:SV)(svs:List SV){bt:TypeId}{b:Nat}{ys zs:List SV}{off:Nat}
    (hp:Pt (some ⟨b,0,none⟩) off pa) (k:Cx F O w0 w hs) (hi:hs[i]?=some (Bx bt b ys)) (md:Mid svs ys zs)
    (hk:∀ w',Cx F O w0 w' (hs.set i (Bx bt b zs))->K L w')
    (hside:(OI ops [] L (⟨none,.store t p x,ty,pos,yM,g⟩:Oper),(none:Option Nat),(toSS [p,x] (lk L)).map SV.vals,H_ P t,cellsS sv,svs.all SV.one1)=(true,none,some [.pointer pa,sv.val],some (SV.width svs),some svs,true):=by kernel_rfl)
    (hz:(putS off (SV.width svs) svs ys).map SV.cl=some (SV.cl zs):=by kernel_rfl) :
    Nz P n ops L w ⟨none,.store t p x,ty,pos,yM,g⟩ K:=Op_b [] i sv svs hp k hi md hside hz hk
theorem xR {K:St->World->Prop}{ty t:TypeId}{p x:Operand}{pos:String}{yM:Array Edge}{g:Option (Nat×Bool)}{E:Enc α}(i:Nat){pa:Option Addr}(sv:SV)(svs:List SV){bt:TypeId}{b m o o':Nat}{x0 x1:Vec α m}{ys zs:List SV}{j:Int}{e0 y:α}
    (hv:DR x0 j y=x1) (hx:iT x0.l j=some e0) (hp:Pt (some ⟨b,0,none⟩) (o'+(j.toNat*E.sz+0)) pa) (k:Cx F O w0 w hs) (hi:hs[i]?=some (Bx bt b ys)) (vu:Vup ys E x0 x1 o zs) (hy:E.f y=pat (E.f e0) 0 (SV.cl svs))
    (hk:∀ w',Cx F O w0 w' (hs.set i (Bx bt b zs))->K L w')
    (hside:(OI ops [] L (⟨none,.store t p x,ty,pos,yM,g⟩:Oper),(none:Option Nat),(toSS [p,x] (lk L)).map SV.vals,H_ P t,cellsS sv,svs.all SV.one1,o')=(true,none,some [.pointer pa,sv.val],some (SV.width svs),some svs,true,o):=by kernel_rfl)
    (hl:Nat.ble (0+SV.width svs) E.sz=true:=by kernel_rfl) :
    Nz P n ops L w ⟨none,.store t p x,ty,pos,yM,g⟩ K:=Op_vs (kk:=0) [] i sv svs hv hx hp k hi vu hy hside hl hk
end
end Go.Sx
namespace Go.Sx
open Go.RowKit
set_option linter.unusedSimpArgs false
set_option linter.unusedVariables false
section
variable {α β γ σ ρ:Type}{P:Program}{n:Nat}{Q:Exit->Act->World->Prop}{ops:Array Oper}{L L':St}{w w0:World}{os:List SV}{cs:List Cond}{F O:Nat->Prop}{hs:List HP}{rest:List Oper}
theorem fK {G:Prop}{a:Option α}{f:α->Option β}{r:β}(h:a.bind f=some r)(k:∀ x,a=some x->f x=some r->G):G:=by
  obtain⟨x,h1,h2⟩:=ob h;exact k x h1 h2
theorem jf {k:Nat}{x y:Code}{p:Prop}[hd:Decidable p]{a b:Option γ}{r:γ}(hm:(if p then a else b)=some r)(h1:p->a=some r->W P n x Q L w)(h2:¬ p->b=some r->W P n y Q L w)(hf:find L k=some (.b (decide p)):=by kernel_rfl):W P n (.cond (.tmp k) x y) Q L w :=
  W_condp p hf (fun h=>h1 h (by rwa [if_pos h] at hm)) (fun h=>h2 h (by rwa [if_neg h] at hm))
theorem ql {k:Nat}{x y:Code}{c:Bool}{a b:Option γ}{r:γ}(hm:(if c=true then a else b)=some r)(h1:c=true->a=some r->W P n x Q L w)(h2:c=false->b=some r->W P n y Q L w)(hf:find L k=some (.b c):=by kernel_rfl):W P n (.cond (.tmp k) x y) Q L w :=
  lJ c hf (fun h=>h1 h (by rwa [if_pos h] at hm)) (fun h=>h2 h (by rwa [if_neg (by rw[h];decide)] at hm))
theorem xJ {c:Code}{step:σ->Option (σ⊕ρ)}{s0:σ}{r:ρ}(hm:gY step s0=some r)(rel:σ->St->World->Prop)(h0:rel s0 L' w0)
    (hb:∀ s L w y,rel s L w->step s=some y->(∀ r',y=.inr r'->r'=r)->W P n c (Exit.then (fun a w=>∃ s' L',y=.inl s'/\Fu n a (Kn L')/\rel s' L' w) Q) L w)
    (hk:L'.map (fun p=>(find L p.1).map SV.val)=L'.map (fun p=>some p.2.val):=by kernel_rfl):W P n (.loop c) Q L w0:=W_lp step rel s0 r hm h0 hk hb
theorem qj {Q:Exit->Act->World->Prop}{rel:σ->St->World->Prop}{y:σ⊕ρ}{v:σ}(hm:some (.inl v)=some y)(h:rel v L' w)(hk:L'.map (fun p=>(find L p.1).map SV.val)=L'.map (fun p=>some p.2.val):=by kernel_rfl):At n (Exit.then (fun a w=>∃ s' L',y=.inl s'/\Fu n a (Kn L')/\rel s' L' w) Q .normal) L w :=
  At_rd v (Option.some.inj hm).symm h hk
theorem qh:Cx N0 N0 w w []:=Cx.refl _
theorem lu {t:TypeId}{g:Nat}{ys:List SV}(k:Cx F O w0 w hs)(i:Nat)(hi:hs[i]?=some (Bx t g ys))(off:Nat)(v:SV)(r:Ask os cs w)(h:(cellS off ys).map SV.val=some v.val:=by kernel_rfl):Ask (v::os) (dC (some ⟨g,off,none⟩) v::cs) w:=qB k i hi off v h r
theorem DT {t:TypeId}{g:Nat}{ys:List SV}(k:Cx F O w0 w hs)(i:Nat)(hi:hs[i]?=some (Bx t g ys))(off m:Nat)(zs:List SV)(r:Ask os cs w)(h:(TZ off m ys).map SV.cl=some (SV.cl zs):=by kernel_rfl)(hm:0 < m:=by decide):Ask (.agg zs::os) (dR (some ⟨g,off,none⟩) zs::cs) w:=qT k i hi off m zs h hm r
theorem uU (g off:Nat)(r:Ask os cs w):Ask os (dS (some ⟨g,off,none⟩)::dS (some ⟨g,off,none⟩)::cs) w:=qs g off (qs g off r)
theorem Cx.EU {t:TypeId}{g m:Nat}{ys:List SV}(k:Cx F O w0 w hs)(i:Nat)(hi:hs[i]?=some (Bx t g ys))(E:Enc α)(x:Vec α m)(off:Nat)(hd:((LC off ys).bind List.head?).map (fun v=>(v.QO,v.val))=some (true,.agg ⟨E.all x.l⟩):=by kernel_rfl):Rd w (some ⟨g,off,Option.none⟩) (E.all x.l):=k.vrd i hi E x off hd
theorem uQ {K:St->World->Prop}{dst:Option Nat}{ty t:TypeId}{x:Operand}{pos:String}{yM:Array Edge}{g:Option (Nat×Bool)}(d:Nat)(cs:List SV)(k:Cx F O w0 w hs)(hk:∀ b w',Cx F O w0 w' (hs++[Bx t b cs])->K ((d,.v (.pointer (some ⟨b,0,none⟩)))::L) w')
    (hside:(OI ops [] L ⟨dst,.box t x,ty,pos,yM,g⟩,dst,(decide (d < n)),(L.any fun p=>p.1 == d),(toSS [x] (lk L)).map SV.vals,(cellsS (.agg cs)).map SV.cl)=(true,some d,true,false,some [SV.val (.agg cs)],some (SV.cl cs)):=by kernel_rfl) :
    Nz P n ops L w ⟨dst,.box t x,ty,pos,yM,g⟩ K:=Q8 [] d (.agg cs) cs hside k hk
theorem oU {K:St->World->Prop}{ty t:TypeId}{p x:Operand}{pos:String}{yM:Array Edge}{g:Option (Nat×Bool)}(i:Nat){pa:Option Addr}(sv:SV){bt:TypeId}{b:Nat}{ys zs:List SV}{off:Nat}
    (hp:Pt (some ⟨b,0,none⟩) off pa) (k:Cx F O w0 w hs) (hi:hs[i]?=some (Bx bt b ys)) (md:Mid [sv] ys zs)
    (hk:∀ w',Cx F O w0 w' (hs.set i (Bx bt b zs))->K L w')
    (hside:(OI ops [] L (⟨none,.store t p x,ty,pos,yM,g⟩:Oper),(none:Option Nat),(toSS [p,x] (lk L)).map SV.vals,H_ P t,cellsS sv,[sv].all SV.one1)=(true,none,some [.pointer pa,sv.val],some (SV.width [sv]),some [sv],true):=by kernel_rfl)
    (hz:(putS off (SV.width [sv]) [sv] ys).map SV.cl=some (SV.cl zs):=by kernel_rfl) :
    Nz P n ops L w ⟨none,.store t p x,ty,pos,yM,g⟩ K:=Op_b [] i sv [sv] hp k hi md hside hz hk
end
end Go.Sx
namespace Go.Sx
open Go.RowKit
set_option linter.unusedSimpArgs false
set_option linter.unusedVariables false
noncomputable def OV (l:List Int):List Int:=l.mergeSort fun x y=>decide (x<=y)
theorem UM (l:List Int):(OV l).length=l.length:=by simp[OV]
theorem eI_all (l:List Int):eI.all l=l.map (Value.int .i64):=by
  induction l with
  | nil=>rfl
  | cons x l ih=>show _::_=_::_;rw[show(eI.all l)=l.map (Value.int .i64) from ih];rfl
open Go.Sort Go.Proofs Go.Shelf in
theorem c_sortI {P:Program}{ρ:Ren}(Ly:Lays.n189 P ρ){F O:Nat->Prop}{w0 w:World}{hs:List HP}{i:Nat}{A:Option Addr}{n c:Nat}{xs:List Int}(k:Cx F O w0 w hs)(hi:hs[i]?=some (Ow eI A n c xs))(hsz:n < 4611686018427387904) :
    Calls P (ρ.f 189) #[.slice A n c] w (fun e w'=>e=.returned (.tuple #[])/\Cx F O w0 w' (hs.set i (Ow eI A n c (OV xs)))):=by
  obtain⟨S,R,hl,hh⟩:=k.get i hi;by_cases h0:n=0
  ·subst h0;have hx:xs=[]:=List.eq_nil_of_length_eq_zero hl;subst hx;refine(Any.slices_Sort_int_none Ly A c w).mono ?_;rintro e w' ⟨rfl,rfl⟩;refine⟨rfl,?_⟩;have:OV []=[]:=by simp[OV]
   rw[this];have e2:hs.set i (Ow eI A 0 c [])=hs:=by
     obtain⟨h1,h2⟩:=List.getElem?_eq_some_iff.1 hi;rw[<- h2];exact List.set_getElem_self h1
   rw[e2];exact k
  ·rcases hh with⟨_,h1,_⟩ | ⟨g,t,cur,rfl,⟨fr,hb,hnf⟩,h3,h4,h5,h6,h7⟩
   ·exact absurd h1 h0
   ·subst hl;have hsz1:eI.sz=1:=rfl;rw[hsz1,Nat.mul_one] at h5 h6;rw[eI_all] at h6;have hH:Holds (Value.int .i64) w g 0 xs.toArray:=by
      intro j hj;have hj':j < xs.length:=by simpa using hj
      have hfz:w.frozen? ⟨g,0+j,none⟩=false:=by
        have:j < cur.size:=by omega
        simp only[World.frozen?,hb];rcases hnf with h | h
        ·simp;omega
        ·simp;omega
      refine⟨?_,hfz⟩;have h1:(cur.toList.take xs.length)[j]?=(xs.map (Value.int .i64))[j]?:=by rw[h6]
      rw[List.getElem?_take_of_lt hj'] at h1;simp only[World.cell?,hb,Nat.zero_add];simp only[Option.isSome_none,Bool.false_eq_true,if_false];rw[<- Array.getElem?_toList,h1];simp[hj']
    refine(Any.slices_Sort_int Ly g 0 c xs w hH (Array.getElem?_eq_some_iff.1 hb).1 hsz).mono ?_;rintro e w' ⟨rfl,m,os,rfl⟩;refine⟨rfl,?_⟩;refine k.upd1 i hi (some g) (grownBy_sortedI _) fun S R hS hlt=>?_;obtain⟨hl',hh'⟩:=hS;rcases hh' with⟨h1,_⟩ | ⟨g',t',cur',q1,⟨fr',q2,q3⟩,_,_,q4,_,q5⟩
    ·cases h1
    ·simp only[Option.some.injEq,Addr.mk.injEq,and_true] at q1;subst q1;rw[hb] at q2;simp only[Option.some.injEq,Obj.cells.injEq] at q2;obtain⟨rfl,rfl,rfl⟩:=q2;have hsl:(OV xs).length=xs.length:=UM xs;refine⟨fun q hq=>(by simp only[Option.some.injEq] at hq;subst hq;exact q5),S,fun _=>False,⟨hsl,.inr ⟨g,t,putCells (Value.int .i64) 0 (OV xs).toArray cur,rfl,⟨fr,heap_sortedI _ hb,?_⟩,h3,h4,?_,?_,q5⟩⟩,fun q hq=>⟨?_,.inl hq⟩,fun _ h=>h⟩
     ·simpa [putCells] using hnf
     ·rw[hsz1,Nat.mul_one];simpa [putCells] using h5
     ·rw[hsz1,Nat.mul_one,eI_all,<-hsl];exact take_putCellsI cur (OV xs) (by omega)
     ·exact Nat.lt_of_lt_of_le (hlt q hq) (grownBy_sortedI (w:=w) (g:=g) (n:=m) (os:=os) (OV xs).toArray).size
section
variable {P:Program}{n:Nat}{ops:Array Oper}{L:St}{w w0:World}{F O:Nat->Prop}{hs:List HP}{K:St->World->Prop}
end
end Go.Sx
namespace Go.Sx
open Go.RowKit
set_option linter.unusedSimpArgs false
set_option linter.unusedVariables false
def Q_:Nat:=9221120237041090561
def uI (b:Nat):Nat:=if(Ieee.double.read b).isNaN then Q_ else b
def Fl (x b:Nat):Prop:=b < 18446744073709551616/\uI b=x
def far (op:BinOp)(x y:Nat):Nat:=(floatBits op .f64 x y).getD Q_
def qN (op:BinOp)(x y:Nat):Bool :=
  match op with
  | .eql=>Ieee.double.order x y == some .eq
  | .neq=>Ieee.double.order x y != some .eq
  | .lss=>Ieee.double.order x y == some .lt
  | .leq=>Ieee.double.order x y == some .lt||Ieee.double.order x y == some .eq
  | .gtr=>Ieee.double.order x y == some .gt
  | .geq=>Ieee.double.order x y == some .gt||Ieee.double.order x y == some .eq
  | _=>false
def UU (n:Int):Nat:=floatOfInt .f64 n
theorem MS (b:Nat):(∃ s f,Ieee.double.read b=.nan s f/\Ieee.double.read (uI b)=.nan false 2251799813685249)∨(uI b=b/\(Ieee.double.read b).isNaN=false):=by
  unfold uI;cases h:Ieee.double.read b with
  | nan s f=>left;exact⟨s,f,rfl,by show Ieee.double.read Q_=_;decide⟩
  | number s m e=>right;exact⟨rfl,rfl⟩
  | infinity s=>right;exact⟨rfl,rfl⟩
theorem Vh (d:Ieee.Datum)(s:Bool)(f:Nat):d.sum (.nan s f)=none/\d.product (.nan s f)=none/\(∀ k,d.quotient k (.nan s f)=none)/\d.order (.nan s f)=none:=by
  cases d <;> exact⟨rfl,rfl,fun _=>rfl,rfl⟩
theorem Vj (d:Ieee.Datum)(s:Bool)(f:Nat):(Ieee.Datum.nan s f).sum d=none/\(Ieee.Datum.nan s f).product d=none/\(∀ k,(Ieee.Datum.nan s f).quotient k d=none)/\(Ieee.Datum.nan s f).order d=none:=by
  cases d <;> exact⟨rfl,rfl,fun _=>rfl,rfl⟩
theorem opp_nan (s:Bool)(f:Nat):(Ieee.Datum.nan s f).opposite=.nan (!s) f:=rfl
theorem order_can (a b:Nat):Ieee.double.order (uI a) (uI b)=Ieee.double.order a b:=by
  unfold Ieee.Format.order;rcases MS a with⟨s,f,h1,h2⟩ | ⟨h1,_⟩ <;> rcases MS b with⟨s',f',h3,h4⟩ | ⟨h3,_⟩
  ·rw[h1,h2,h3,h4];rfl
  ·rw[h1,h2,(Vj _ _ _).2.2.2,(Vj _ _ _).2.2.2]
  ·rw[h3,h4,(Vh _ _ _).2.2.2,(Vh _ _ _).2.2.2]
  ·rw[h1,h3]
theorem fcmp_can (op:BinOp)(a b:Nat):qN op (uI a) (uI b)=qN op a b:=by
  unfold qN;rw[order_can]
theorem bits_can (op:BinOp)(a b:Nat):floatBits op .f64 (uI a) (uI b)=floatBits op .f64 a b:=by
  unfold floatBits;have e:(FloatKind.f64).format=Ieee.double:=rfl;rw[e];cases op <;> simp only[Ieee.Format.add,Ieee.Format.sub,Ieee.Format.mul,Ieee.Format.div]
  all_goals
    rcases MS a with⟨s,f,h1,h2⟩ | ⟨h1,_⟩ <;> rcases MS b with⟨s',f',h3,h4⟩ | ⟨h3,_⟩
    ·rw[h1,h2,h3,h4];rfl
    ·rw[h1,h2];simp[Vj]
    ·rw[h3,h4];simp[Vh,opp_nan]
    ·rw[h1,h3]
theorem Ue (neg:Bool){rung:Nat}(h:rung<=Ieee.double.infRung):(Ieee.double.read (Ieee.double.word neg rung)).isNaN=false:=by
  have h1:Ieee.double.word neg rung % Ieee.double.signWeight=rung:=by
    have hs:Ieee.double.infRung < Ieee.double.signWeight:=by decide
    unfold Ieee.Format.word;split
    ·rw[Nat.add_mod_left,Nat.mod_eq_of_lt (by omega)]
    ·rw[Nat.mod_eq_of_lt (by omega)]
  unfold Ieee.Format.read;dsimp only;rw[h1];split
  ·rfl
  ·split
   ·rfl
   ·split
    ·rfl
    ·omega
theorem MV {d:Ieee.Datum}(h:d.isNaN=false):(Ieee.double.read (Ieee.double.write d)).isNaN=false:=by
  cases d with
  | nan=>cases h
  | infinity s=>exact Ue s (Nat.le_refl _)
  | number s m e =>
    unfold Ieee.Format.write Ieee.Format.nearest;dsimp only;split
    ·exact Ue s (Nat.zero_le _)
    ·exact Ue s (Nat.min_le_right ..)
theorem sum_ok {a b d:Ieee.Datum}(h:a.sum b=some d):d.isNaN=false:=by
  cases a <;> cases b <;> simp only[Ieee.Datum.sum] at h <;> first | cases h;done | skip
  ·simp only[Option.some.injEq] at h;subst h;rfl
  ·simp only[Option.some.injEq] at h;subst h;rfl
  ·simp only[Option.some.injEq] at h;subst h;rfl
  ·split at h
   ·simp only[Option.some.injEq] at h;subst h;rfl
   ·cases h
theorem product_ok {a b d:Ieee.Datum}(h:a.product b=some d):d.isNaN=false:=by
  cases a <;> cases b <;> simp only[Ieee.Datum.product] at h <;> first | (cases h;done) | skip
  all_goals first
    | (simp only[Option.some.injEq] at h;subst h;rfl)
    | (split at h
       ·cases h
       ·simp only[Option.some.injEq] at h;subst h;rfl)
theorem ZV {k:Nat}{a b d:Ieee.Datum}(h:a.quotient k b=some d):d.isNaN=false:=by
  cases a <;> cases b <;> simp only[Ieee.Datum.quotient] at h <;> first | (cases h;done) | skip
  all_goals first
    | (simp only[Option.some.injEq] at h;subst h;rfl)
    | (split at h
       ·split at h
        ·cases h
        ·simp only[Option.some.injEq] at h;subst h;rfl
       ·simp only[Option.some.injEq] at h;subst h;rfl)
theorem bits_ok {op:BinOp}{a b r:Nat}(h:floatBits op .f64 a b=some r):Fl r r:=by
  refine⟨?_,?_⟩
  ·have:=floatBits_wf h;simpa [Lit.wf] using this
  ·have h1:(Ieee.double.read r).isNaN=false:=by
     unfold floatBits at h;have e:(FloatKind.f64).format=Ieee.double:=rfl;rw[e] at h;split at h
     ·obtain⟨d,h2,rfl⟩:=Option.map_eq_some_iff.1 h;exact MV (sum_ok h2)
     ·obtain⟨d,h2,rfl⟩:=Option.map_eq_some_iff.1 h;exact MV (sum_ok h2)
     ·obtain⟨d,h2,rfl⟩:=Option.map_eq_some_iff.1 h;exact MV (product_ok h2)
     ·obtain⟨d,h2,rfl⟩:=Option.map_eq_some_iff.1 h;exact MV (ZV h2)
     ·cases h
   unfold uI;rw[h1];rfl
theorem cut_nan (q:Question)(t k:Nat)(hq:∃ x y,q=.nanBits .f64 x y):Fl Q_ (q.cut t):=by
  obtain⟨x,y,rfl⟩:=hq;simp only[Question.cut];have h1:t % 2 < 2:=Nat.mod_lt _ (by decide);have h2:t / 2 % (2 ^ 52 - 1) < 2 ^ 52 - 1:=Nat.mod_lt _ (by decide);generalize t % 2=u at *;generalize t / 2 % (2 ^ 52 - 1)=v at *;refine⟨by omega,?_⟩;unfold uI;have h3:(Ieee.double.read (u*2 ^ 63+0x7ff0000000000000+1+v)).isNaN=true:=by
    have hw:Ieee.double.signWeight=2 ^ 63:=by decide
    have hi:Ieee.double.infRung=0x7ff0000000000000:=by decide
    have hb:Ieee.double.binade=2 ^ 52:=by decide
    unfold Ieee.Format.read;dsimp only;rw[hw,hi,hb];have h4:(u*2 ^ 63+0x7ff0000000000000+1+v) % 2 ^ 63=0x7ff0000000000000+1+v:=by omega
    rw[h4,if_neg (by omega),if_neg (by omega),if_neg (by omega)];rfl
  rw[h3];rfl
theorem far_run {P:Program}{w:World}{op:BinOp}{t:TypeId}{x y a b:Nat}(hop:op=.add∨op=.sub∨op=.mul∨op=.quo)(hx:Fl x a)(hy:Fl y b) :
    ∃ r w',(binOp op t (.float .f64 a) (.float .f64 b)).run P w=.ok (.float .f64 r) w'/\Fl (far op x y) r/\(w'=w∨w'=w.drewN 1):=by
  have e:floatBits op .f64 x y=floatBits op .f64 a b:=by rw[<- hx.2,<-hy.2,bits_can]
  cases h:floatBits op .f64 a b with
  | some r =>
    refine⟨r,w,run_float_arith w op t .f64 a b r h,?_,.inl rfl⟩;unfold far;rw[e,h];exact bits_ok h
  | none =>
    refine⟨(Question.nanBits .f64 a b).cut (w.tape w.drawn (.nanBits .f64 a b)),w.drewN 1,?_,?_,.inr rfl⟩
    ·have h':=h;unfold floatBits at h';rcases hop with rfl | rfl | rfl | rfl <;> simp only at h' <;> simp[binOp,Op.floatArith,h',choose,Sem.run,Question.forced,World.drewN]
    ·unfold far;rw[e,h];exact cut_nan _ _ 0 ⟨_,_,rfl⟩
theorem fcmp_run {P:Program}{w:World}{op:BinOp}{t:TypeId}{x y a b:Nat}(hop:op=.eql∨op=.neq∨op=.lss∨op=.leq∨op=.gtr∨op=.geq)(hx:Fl x a)(hy:Fl y b) :
    (binOp op t (.float .f64 a) (.float .f64 b)).run P w=.ok (SV.val (.b (qN op x y))) w:=by
  rw[<- hx.2,<-hy.2,fcmp_can];rcases hop with rfl | rfl | rfl | rfl | rfl | rfl <;> simp[binOp,Op.floatCmp,SV.val,qN,FloatKind.format]
theorem fofI_run {P:Program}{w:World}{src dst:TypeId}{n:Int}{q:IntKind}(hs:(P.underlying src).isSome=true)(hd:P.underlying dst=some (.float .f64)) :
    (convert src dst (.int q n)).run P w=.ok (.float .f64 (UU n)) w:=run_convert_int_float w src dst q .f64 n hs hd
theorem write_fl {d:Ieee.Datum}(hd:d.isNaN=false):Fl (Ieee.double.write d) (Ieee.double.write d):=by
  have h2:Ieee.double.write d < 2 ^ Ieee.double.width:=Ieee.Format.write_lt _ _;have h4:(Ieee.double.read (Ieee.double.write d)).isNaN=false:=MV hd;have h3:(2 ^ Ieee.double.width:Nat)=18446744073709551616:=by decide
  rw[h3] at h2;refine⟨h2,?_⟩;unfold uI;rw[if_neg (by rw[h4];decide)]
theorem fofI_eq (n:Int):UU n=Ieee.double.write (.number (n < 0) n.natAbs 0):=by
  unfold UU floatOfInt FloatKind.nearest FloatKind.encode FloatKind.format;rfl
theorem fofI_fl (n:Int):Fl (UU n) (UU n):=by
  rw[fofI_eq];exact write_fl rfl
def eF:Enc UInt64:=⟨1,fun a=>[.float .f64 a.toNat],fun _=>rfl,fun x v h=>by rw[List.mem_singleton.1 h];rfl⟩
instance:Pos eF:=⟨by decide⟩
theorem Fl.u (x:UInt64):Fl (uI x.toNat) x.toNat:=⟨x.toNat_lt,rfl⟩
theorem Fl.lit {c:Nat}(h:(decide (c < 18446744073709551616)&&(uI c == c))=true):Fl c c:=by
  simp only[Bool.and_eq_true,decide_eq_true_eq,beq_iff_eq] at h;exact⟨h.1,h.2⟩
theorem Fl.bits {x b:Nat}(h:Fl x b)(hn:x≠Q_):b=x:=by
  rcases MS b with⟨s,f,h1,h2⟩ | ⟨h1,h2⟩
  ·exfalso;apply hn;rw[<- h.2];unfold uI;rw[h1];rfl
  ·rw[<- h1,h.2]
section
variable {P:Program}{n:Nat}{ops:Array Oper}{L:St}{w w0:World}{F O:Nat->Prop}{hps:List HP}{K:St->World->Prop}
theorem zB {dst:Option Nat}{XR:BinOp}{t ty:TypeId}{x y:Operand}{pp:TypeId}{pos:String}{yM:Array Edge}{g:Option (Nat×Bool)}(ss:List Nat)(d:Nat){X Y u v:Nat}
    (hs:(OI ops ss L ⟨dst,.binOp XR t x y pp,ty,pos,yM,g⟩,dst,(decide (d < n)),(L.any fun p=>p.1 == d),(toSS [x,y] (lk L)).map SV.vals)=(true,some d,true,false,some [.float .f64 u,.float .f64 v]))
    (hop:XR=.add∨XR=.sub∨XR=.mul∨XR=.quo) (hx:Fl X u) (hy:Fl Y v) (k:Cx F O w0 w hps) (hk:∀ r w',Fl (far XR X Y) r->Cx F O w0 w' hps->K ((d,.v (.float .f64 r))::L) w') :
    Nz P n ops L w ⟨dst,.binOp XR t x y pp,ty,pos,yM,g⟩ K:=by
  simp only[Prod.mk.injEq,Option.map_eq_some_iff,decide_eq_true_eq] at hs;obtain⟨s1,rfl,s3,s4,⟨svs,s5,s6⟩⟩:=hs;refine Ku (xs:=[x,y]) (svs:=svs) ss (d:=d) (by simp[Side,s1,s3,s4,s5]) fun a ha he=>?_;rw[s6] at he;simp only[List.map_cons,List.map_nil,List.cons.injEq,and_true] at he;obtain⟨r,w',h1,h2,h3⟩:=far_run (P:=P) (w:=w) (t:=t) hop hx hy;have hg:(eqGuard XR t x y (.float .f64 u) (.float .f64 v)).run P w=.ok () w:=by
    rcases hop with rfl | rfl | rfl | rfl <;> rfl
  unfold Oper.wp execOp;simp only[he.1,he.2,Sem.run_bind,hg,h1,Result.andThen_ok,Sem.run_pure];refine⟨.v (.float .f64 r),rfl,hk r w' h2 ?_⟩;rcases h3 with rfl | rfl
  ·exact k
  ·exact k.drew 1
theorem Bf {dst:Option Nat}{XR:BinOp}{t ty:TypeId}{x y:Operand}{pp:TypeId}{pos:String}{yM:Array Edge}{g:Option (Nat×Bool)}(ss:List Nat)(d:Nat){X Y u v:Nat}
    (hs:(OI ops ss L ⟨dst,.binOp XR t x y pp,ty,pos,yM,g⟩,dst,(decide (d < n)),(L.any fun p=>p.1 == d),(toSS [x,y] (lk L)).map SV.vals)=(true,some d,true,false,some [.float .f64 u,.float .f64 v]))
    (hop:XR=.eql∨XR=.neq∨XR=.lss∨XR=.leq∨XR=.gtr∨XR=.geq) (hx:Fl X u) (hy:Fl Y v) (hk:K ((d,.b (qN XR X Y))::L) w) :
    Nz P n ops L w ⟨dst,.binOp XR t x y pp,ty,pos,yM,g⟩ K:=by
  simp only[Prod.mk.injEq,Option.map_eq_some_iff,decide_eq_true_eq] at hs;obtain⟨s1,rfl,s3,s4,⟨svs,s5,s6⟩⟩:=hs;refine Ku (xs:=[x,y]) (svs:=svs) ss (d:=d) (by simp[Side,s1,s3,s4,s5]) fun a ha he=>?_;rw[s6] at he;simp only[List.map_cons,List.map_nil,List.cons.injEq,and_true] at he;have h1:=fcmp_run (P:=P) (w:=w) (t:=t) hop hx hy;have hg:(eqGuard XR t x y (.float .f64 u) (.float .f64 v)).run P w=.ok () w:=by
    rcases hop with rfl | rfl | rfl | rfl | rfl | rfl <;> rfl
  unfold Oper.wp execOp;simp only[he.1,he.2,Sem.run_bind,hg,h1,Result.andThen_ok,Sem.run_pure];exact⟨.b (qN XR X Y),rfl,hk⟩
theorem Op_fofI {dst:Option Nat}{src t ty:TypeId}{x:Operand}{pos:String}{yM:Array Edge}{g:Option (Nat×Bool)}(ss:List Nat)(d:Nat){q:IntKind}{m:Int}
    (hs:(OI ops ss L ⟨dst,.convert src t x,ty,pos,yM,g⟩,dst,(decide (d < n)),(L.any fun p=>p.1 == d),(toSS [x] (lk L)).map SV.vals,(P.underlying src).isSome,P.underlying t)=(true,some d,true,false,some [.int q m],true,some (.float .f64)))
    (hk:K ((d,.v (.float .f64 (UU m)))::L) w):Nz P n ops L w ⟨dst,.convert src t x,ty,pos,yM,g⟩ K:=by
  simp only[Prod.mk.injEq,Option.map_eq_some_iff,decide_eq_true_eq] at hs;obtain⟨s1,rfl,s3,s4,⟨svs,s5,s6⟩,s7,s8⟩:=hs;refine Ku (xs:=[x]) (svs:=svs) ss (d:=d) (by simp[Side,s1,s3,s4,s5]) fun a ha he=>?_;rw[s6] at he;simp only[List.map_cons,List.map_nil,List.cons.injEq,and_true] at he;unfold Oper.wp execOp;simp only[he,Sem.run_bind,fofI_run s7 s8,Result.andThen_ok,Sem.run_pure];exact⟨.v (.float .f64 (UU m)),rfl,hk⟩
theorem XT {dst:Option Nat}{f:FuncId}{xs:Array Operand}{ats:Array TypeId}{ty:TypeId}{pos:String}{yM:Array Edge}{g:Option (Nat×Bool)}(hf:IsFb P f)(ss:List Nat)(d:Nat){X u:Nat}(hx:Fl X u)(hn:X≠Q_)
    (hs:(OI ops ss L ⟨dst,.call ⟨.value (.func f),xs,ats⟩,ty,pos,yM,g⟩,dst,(decide (d < n)),(L.any fun p=>p.1 == d),(toSS xs.toList (lk L)).map SV.vals)=(true,some d,true,false,some [.float .f64 u]))
    (hk:K ((d,.u64 (UInt64.ofNat X))::L) w):Nz P n ops L w ⟨dst,.call ⟨.value (.func f),xs,ats⟩,ty,pos,yM,g⟩ K:=by
  obtain rfl:=hx.bits hn;exact Op_fbits hf ss d _ hx.1 hs hk
end
structure IsFf (P:Program)(f:FuncId):Prop where
  ok : ∃ fn, P.funcs[f]? = some fn /\ (fn.name == "runtime.NumGoroutine") = false /\ fn.body.isNone = true /\ Extern.findNext fn = none /\ Extern.find fn = some Extern.MathFloatBits.float64frombits
section
variable {P:Program}{n:Nat}{ops:Array Oper}{L:St}{w:World}{K:St->World->Prop}
theorem Op_ffrom {dst:Option Nat}{f:FuncId}{xs:Array Operand}{ats:Array TypeId}{ty:TypeId}{pos:String}{yM:Array Edge}{g:Option (Nat×Bool)}(hf:IsFf P f)(ss:List Nat)(d:Nat)(u:UInt64)
    (hs:(OI ops ss L ⟨dst,.call ⟨.value (.func f),xs,ats⟩,ty,pos,yM,g⟩,dst,(decide (d < n)),(L.any fun p=>p.1 == d),(toSS xs.toList (lk L)).map SV.vals)=(true,some d,true,false,some [.int .u64 u.toNat]))
    (hk:K ((d,.v (.float .f64 u.toNat))::L) w):Nz P n ops L w ⟨dst,.call ⟨.value (.func f),xs,ats⟩,ty,pos,yM,g⟩ K:=by
  simp only[Prod.mk.injEq,Option.map_eq_some_iff,decide_eq_true_eq] at hs;obtain⟨s1,s2,s3,s4,⟨vs,s5,s6⟩⟩:=hs;subst s2;refine Ku (xs:=xs.toList) (svs:=vs) ss (d:=d) (by simp[Side,s1,s3,s4,s5]) fun a ha he=>?_;rw[s6] at he;have hargs:(#[]++xs.map a.eval++#[]:Array Value)=#[.int .u64 u.toNat]:=by
    apply Array.ext';simpa using he
  obtain⟨fn,h1,h2,h3,h4,h5⟩:=hf.ok;have hrun:(execOp a.eval ⟨some d,.call ⟨.value (.func f),xs,ats⟩,ty,pos,yM,g⟩).run P w=.ok (.value (.float .f64 u.toNat)) w:=by
    show(callFunc f (#[]++xs.map a.eval++#[])).run P w=_;rw[hargs,run_callFunc_extern h1 h2 h3 h4 h5];rfl
  unfold Oper.wp;rw[hrun];exact⟨.v (.float .f64 u.toNat),rfl,hk⟩
end
end Go.Sx
namespace Go.Sx
open Go.RowKit
set_option linter.unusedSimpArgs false
set_option linter.unusedVariables false
section
variable {H:Type}{enc:TypeId×Value->H}{P:Program}{w:World}{held:Bool}
theorem Rf {k:FloatKind}{t:TypeId}{base:Nat}{spare:Nat->Bool}{fuel:Nat}{cs:List Value}{x:DataW H×List MemPlace}(ht:P.underlying t=some (.float k))(h:DataW.trod enc P w base spare held fuel t cs=some x):∃ b,cs=[.float k b]/\x=(.lit (.float k b),[])/\(Lit.float k b).wf=true:=by
  cases fuel with
  | zero=>simp[DataW.trod] at h
  | succ n =>
    unfold DataW.trod at h;rw[ht] at h;split at h <;> simp_all
theorem wf_f64 {b:Nat}(h:(Lit.float .f64 b).wf=true):b < 18446744073709551616:=by
  simpa [Lit.wf] using h
theorem open_rowF {t e:TypeId}{fuel:Nat}{cs:List Value}{x:DataW H×List MemPlace}(ht:P.underlying t=some (.slice e))(he:P.underlying e=some (.float .f64))(hce:P.cellsOf e=1)
    (h:DataW.trod enc P w 0 (fun _=>true) held fuel t cs=some x) :
    ∃ (A:Option Addr) (len cap:Nat) (xs:List UInt64),cs=[.slice A len cap]/\Ro N0 w A (eF.all xs)/\xs.length=len/\len<=cap/\(xs=[]∨∃ ds rest,x.1=.slice ds rest/\xs.length=ds.length):=by
  obtain⟨A,len,cap,ys,xs,h1,h2,h3,h4,h5⟩:=open_rg eF (fun y z=>y=z) (fun _ _=>True) ht hce (fun f c x hx=>by
    obtain⟨b,rfl,_,hw⟩:=Rf he hx;refine⟨UInt64.ofNat b,UInt64.ofNat b,?_,rfl,trivial⟩;show _=[Value.float .f64 (UInt64.ofNat b).toNat]
    rw[UInt64.toNat_ofNat_of_lt' (wf_f64 hw)]) h
  have e:ys=xs:=by
    refine List.ext_getElem h2.len fun i q1 q2=>?_;exact h2.el i _ _ (List.getElem?_eq_getElem q1) (List.getElem?_eq_getElem q2)
  subst e;refine⟨A,len,cap,ys,h1,h2.ro,h3,h4,?_⟩;rcases h5 with h | ⟨ds,rest,h6,h7⟩
  ·exact .inl h
  ·refine .inr ⟨ds,rest,h6,?_⟩;have key:∀ (ds:List (DataW H)) (xs:List UInt64),Q9 (fun _ _=>True) ds xs->xs.length=ds.length:=by
     intro ds
     induction ds with
     | nil=>intro xs hq;cases xs with
       | nil=>rfl
       | cons=>exact hq.elim
     | cons d ds ih=>intro xs hq;cases xs with
       | nil=>exact hq.elim
       | cons x xs=>simp[ih xs hq.2]
   exact key _ _ h7
end
end Go.Sx
namespace Go.Sx
open Go.RowKit Go.MapKept
set_option linter.unusedSimpArgs false
set_option linter.unusedVariables false
variable {α β γ δ ε ζ σ:Type}
abbrev Ky:=List UInt8
abbrev Mp (δ:Type):=List (List UInt8×δ)
end Go.Sx
namespace Go.Sx
open Go.RowKit Go.MapKept
set_option linter.unusedSimpArgs false
set_option linter.unusedVariables false
variable {α β γ δ ε ζ σ ι:Type}
section
variable {F O:Nat->Prop}{w0 w w':World}{hs rest:List HP}
end
structure Vl (γ δ:Type) where
  V:γ->Value
  q:Rl γ δ
  inj:∀ a b,V a=V b->a=b
def kx (e:Ky×γ×δ):Ky×δ:=(e.1,e.2.2)
section
variable {F O:Nat->Prop}{w0 w w':World}{hs rest:List HP}
end
section
variable {P:Program}{n:Nat}{ops:Array Oper}{L:St}{w w0:World}{F O:Nat->Prop}{hs rest:List HP}{K:St->World->Prop}{v:Vl γ δ}{b:Nat}{m:Mp δ}
end
end Go.Sx
namespace Go.Sx
open Go.RowKit Go.MapKept
set_option linter.unusedSimpArgs false
set_option linter.unusedVariables false
variable {α β γ δ ε ζ σ ι:Type}
section
variable {P:Program}{n:Nat}{ops:Array Oper}{L:St}{w w0:World}{F O:Nat->Prop}{hs rest:List HP}{K:St->World->Prop}
end
section
variable {P:Program}{n:Nat}{ops:Array Oper}{L:St}{w w0:World}{F O:Nat->Prop}{hs rest:List HP}{K:St->World->Prop}{v:Vl γ δ}{b r:Nat}{m left:Mp δ}{cur:Option (Ky×δ)}{sh:Bool}
end
end Go.Sx
namespace Go.Sx
open Go.RowKit Go.MapKept
set_option linter.unusedSimpArgs false
set_option linter.unusedVariables false
variable {α β γ δ ε ζ σ ι:Type}
section
variable {P:Program}{n:Nat}{ops:Array Oper}{L:St}{w w0:World}{F O:Nat->Prop}{hs rest:List HP}{K:St->World->Prop}{b:Nat}
end
section
variable {F O F1 O1:Nat->Prop}{w0 w w':World}{hs rest:List HP}{E:Enc α}
variable {A:Option Addr}{n c:Nat}{ys:List Hd}{xs:List (List α)}
theorem Cx.shnil (k:Cx F O w0 w hs)(E:Enc α):Cx F O w0 w (Sh (SH E) [(Option.none,0,0)] [[]]::hs):=by
  obtain⟨U,V,h1,hU,hV⟩:=k.sep;refine⟨k.os,k.tape,k.output,k.size,k.block,k.fin,k.ZI,U,V,⟨fun _=>False,fun _=>False,U,V,⟨fun _ h=>h,rfl,fun j y x e1 e2=>?_⟩,h1,by simp,by simp,fun b hb=>hb.elim,fun b hb=>hb.elim⟩,hU,hV⟩;cases j with
  | succ j=>cases e1
  | zero =>
    obtain rfl:=Option.some.inj e1;obtain rfl:=Option.some.inj e2;exact⟨rfl,Nat.le_refl _,Rd.nil E w,fun hne=>absurd rfl hne⟩
end
end Go.Sx
namespace Go.Sx
open Go.RowKit
set_option linter.unusedVariables false
variable {δ σ:Type}
end Go.Sx
namespace Go.Sx
open Go.RowKit Go.Proofs
set_option linter.unusedVariables false
variable {α γ δ:Type}
def BW (w:World)(b:Nat):Prop:=b < w.heap.size
theorem Cx.refl1 (w:World):Cx N0 (BW w) w w []:=⟨rfl,rfl,rfl,Nat.le_refl _,fun _ _ _=>rfl,fun _ h=>h.elim,fun _ h=>h,N0,N0,⟨fun _ h=>h,fun _ h=>h⟩,fun _ h=>h.elim,fun _ h=>h.elim⟩
theorem RH.sh {w:World}{E:Enc α}{y:Hd}{x:List α}(h:RH N0 w E y x):(SH E).r w (BW w) y x:=by
  obtain⟨h1,h2,h3,h4⟩:=h;refine⟨h1,h2,h3,fun hne a ha=>?_⟩;cases hx:E.all x with
  | nil=>exact absurd hx hne
  | cons c cs =>
    have h5:=h3.2 a 0 c ha (by rw[hx];rfl);have hb:(a.add 0).block < w.heap.size:=World.block_lt_of_cell? w _ h5
    rwa [DN] at hb
end Go.Sx
namespace Go.Sx
open Go.RowKit
set_option linter.unusedVariables false
variable {α γ δ:Type}{F O:Nat->Prop}{w0 w:World}{hs:List HP}
end Go.Sx
namespace Go.Sx
open Go.RowKit Go.MapKept
set_option linter.unusedVariables false
set_option linter.unusedSimpArgs false
variable {α γ δ:Type}{F O:Nat->Prop}{w0 w:World}{hs rest:List HP}
end Go.Sx
namespace Go.Sx
open Go.RowKit Go.MapKept
set_option linter.unusedVariables false
set_option linter.unusedSimpArgs false
variable {P:Program}{n:Nat}{ops:Array Oper}{L:St}{w:World}{K:St->World->Prop}
end Go.Sx
namespace Go.Sx
open Go.RowKit
set_option linter.unusedSimpArgs false
set_option linter.unusedVariables false
variable {α β γ δ ε ζ:Type}
section
variable {F O:Nat->Prop}{w0 w w':World}{hs rest:List HP}{E:Enc γ}{q:Rl γ δ}{A:Option Addr}{n c:Nat}{ys:List γ}{xs:List δ}
end
end Go.Sx
namespace Go.Sx
open Go.RowKit Go.Proofs
set_option linter.unusedVariables false
variable {α:Type}{F O:Nat->Prop}{w0 w:World}{hs:List HP}
def mQ (x:List α)(g:Nat):Option Addr:=match x with | []=>Option.none | _::_=>some ⟨g,0,Option.none⟩
theorem mb_p {x:List α}{g:Nat}(h:(mQ x g).isNone=true):x=[]:=by cases x <;> simp_all [mQ]
theorem mb_n {x:List α}{g:Nat}(h:(mQ x g).isNone=false):¬ x=[]:=by cases x <;> simp_all [mQ]
theorem mb_q {x:List α}{g:Nat}(h:(mQ x g).isSome=true):¬ x=[]:=by cases x <;> simp_all [mQ]
theorem mb_o {x:List α}{g:Nat}(h:(mQ x g).isSome=false):x=[]:=by cases x <;> simp_all [mQ]
theorem Cx.owmb {E:Enc α}{A:Option Addr}{n c:Nat}{x:List α}(k:Cx F O w0 w hs)(i:Nat)(hi:hs[i]?=some (Ow E A n c x))(h:x≠[]):∃ g,A=mQ x g:=by
  obtain⟨g,e⟩:=k.owsome i hi h;refine⟨g,?_⟩;cases x with
  | nil=>exact absurd rfl h
  | cons a t=>exact e
end Go.Sx
