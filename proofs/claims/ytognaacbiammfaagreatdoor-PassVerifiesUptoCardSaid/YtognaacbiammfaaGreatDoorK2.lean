import Derived.OpenShut
import Derived.ShutString
import Derived.ChangeOld
import Derived.Below
import Derived.JoinedCond
import Derived.MapKept
import Derived.Maps.RangeRun
import Derived.Sort.OwnSorted
import Derived.Sort.KeysCollected
import Derived.Shelf.Sort.Plain
import Derived.Shelf.Slices.In.SortNone
import Derived.Sort.OwnSortedInts
import Derived.Shelf.Strconv.Itoa3
import Derived.Laws.FloatArith
import Derived.Shelf.Strings.Builder1
import Derived.Test.YtognaacbiammfaaGreatDoorK1
namespace Go.Sx
open Go.RowKit
set_option linter.unusedSimpArgs false
set_option linter.unusedVariables false
def QF:Exit->Act->World->Prop:=fun _ _ _=>False
section
variable {P:Program}{ops:Array Oper}{Ls:List Nat}{C:Nat->World->Prop}
def nx (Ls:List Nat)(p i:Nat):Nat:=if Ls.contains i then p+1 else p
def wpC (P:Program)(ops:Array Oper)(Ls:List Nat)(C:Nat->World->Prop)(Q:Act->World->Prop):Nat->Nat->Array Bool->Act->World->Prop
  | 0,_,listed,a,w=>Region.ready .any ops listed=[]/\Q a w
  | k+1,p,listed,a,w=>(Region.ready .any ops listed=[]->Q a w) /\
      ∀ i ∈ Region.ready .any ops listed,wpOp P ops QF i (fun a' w'=>C (nx Ls p i) w'/\wpC P ops Ls C Q k (nx Ls p i) (listed.setIfInBounds i true) a' w') a w
theorem wpOp_Q {i:Nat}{a:Act}{w:World}{K:Act->World->Prop}{Q:Exit->Act->World->Prop}(h:wpOp P ops QF i K a w):wpOp P ops Q i K a w:=by
  unfold wpOp at *;split
  ·rename_i ho;simp only[ho] at h;exact h
  ·rename_i o ho;simp only[ho] at h;split
   ·rename_i hw;rw[if_pos hw] at h;rcases h with h | ⟨_,a',w',hf⟩
    ·exact .inl (Oper.wp_Q (fun _ _ _ hf=>hf.elim) h)
    ·exact hf.elim
   ·rename_i hw;rw[if_neg hw] at h;exact h
theorem Oy {Q:Act->World->Prop}{Q':Exit->Act->World->Prop}(hq:∀ a w,Q a w->Q' .normal a w):∀ (k p:Nat) (listed:Array Bool) (a:Act) (w:World),wpC P ops Ls C Q k p listed a w->wpAny P .any ops Q' k listed a w
  | 0,_,_,_,_,h=>⟨h.1,hq _ _ h.2⟩
  | k+1,_,_,_,_,h=>⟨fun h0=>hq _ _ (h.1 h0),fun i hi=>wpOp_mono (fun a' w' h'=>Oy hq k _ _ a' w' h'.2) (wpOp_Q (h.2 i hi))⟩
def YC (P:Program)(ops:Array Oper)(C:World->Prop)(o:Oper)(v:Value)(a:Act):Prop :=
  (Region.wanted o (yielded ops a.tmps)=true/\∀ w,C w->(execOp a.eval o).run P w=.ok (.value v) w)∨(Region.wanted o (yielded ops a.tmps)=false/\v=undef)
theorem YC.op {D:World->Prop}{i:Nat}{o:Oper}{v:Value}{a:Act}{w:World}{Q:Exit->Act->World->Prop}(hi:ops[i]?=some o)(hy:YC P ops D o v a)(hw:D w){K:Act->World->Prop}(h:K (a.put o.dst v) w):wpOp P ops Q i K a w:=by
  unfold wpOp;simp only[hi];rcases hy with⟨h1,h2⟩ | ⟨h1,rfl⟩
  ·rw[if_pos h1];refine .inl ?_;unfold Oper.wp;rw[h2 w hw];exact h
  ·rw[if_neg (by simp[h1])];exact h
theorem wpOp_put {D:World->Prop}{j:Nat}{oi oj:Oper}{v:Value}{w:World}(hj:ops[j]?=some oj)(hap:oi.apart ops oj=true)(hsi:∀ cs b,oi.op≠.select cs b)(hsj:∀ cs b,oj.op≠.select cs b){K:Act->World->Prop}{a:Act}
    (hy:YC P ops D oi v a) (h:wpOp P ops QF j K (a.put oi.dst v) w):wpOp P ops QF j (fun a' w'=>YC P ops D oi v a'/\K (a'.put oi.dst v) w') a w:=by
  obtain⟨h1,h2,h3⟩:=Oper.apart_spec hap;have keep:∀ (u:Value),YC P ops D oi v (a.put oj.dst u):=fun u=>by
    unfold YC at *;rw[execOp_put oi hsi a oj.dst u h3,wanted_put oi a oj.dst u h3];exact hy
  have keepD:∀ (u:Value) (d:Deferred),YC P ops D oi v ({ a with defers:=d::a.defers }.put oj.dst u):=fun u d=>by
    have h4:=keep u;unfold YC at *;have e1:({ a with defers:=d::a.defers }:Act).put oj.dst u={ a.put oj.dst u with defers:=d::a.defers }:=by
      unfold Act.put;split <;> rfl
    rw[e1];exact h4
  unfold wpOp at *;simp only[hj] at *;rw[wanted_put oj a oi.dst v h1] at h;split
  ·rename_i hw;rw[if_pos hw] at h;rcases h with h | ⟨_,a',w',hf⟩
   ·refine .inl ?_;unfold Oper.wp at *;rw[execOp_put oj hsj a oi.dst v h1] at h;generalize (execOp a.eval oj).run P w=r at *;cases r with
    | ok x w' =>
      cases x <;> simp only[Oper.upon] at h ⊢ <;> first | exact h.elim | skip
      case value u=>exact⟨keep u,by rw[<- Act.put_comm a v u h2];exact h⟩
      case skip=>exact⟨keep _,by rw[<- Act.put_comm a v undef h2];exact h⟩
      case defer d =>
        refine⟨keepD _ d,?_⟩;have e1:(({ a with defers:=d::a.defers }:Act).put oj.dst undef).put oi.dst v=({ a.put oi.dst v with defers:=d::(a.put oi.dst v).defers }:Act).put oj.dst undef:=by
          rw[<- Act.put_comm _ v undef h2];unfold Act.put;cases oi.dst <;> rfl
        rw[e1];exact h
      case enter f args =>
        refine h.mono fun e w'' he=>?_;cases e with
        | returned u=>exact⟨keep u,by rw[<- Act.put_comm a v u h2];exact he⟩
        | panicked c=>exact he
        | outgrown=>exact he
      case row row args =>
        refine h.mono fun u w'' he=>⟨keep u,by rw[<- Act.put_comm a v u h2];exact he⟩
    | halt x w'=>cases x <;> simp only[Oper.upon] at h ⊢ <;> exact h
   ·exact hf.elim
  ·rename_i hw;rw[if_neg hw] at h;exact⟨keep _,by rw[<- Act.put_comm a v undef h2];exact h⟩
def asks (ops:Array Oper)(j i:Nat):Bool:=match ops[j]? with
  | some o=>o.after.any fun e=>Region.binds .any e&&e.on == i
  | none=>false
def Ey (ops:Array Oper)(lst:Nat->Bool)(j i:Nat):Bool:=asks ops j i||match ops[j]? with
  | some o=>o.after.any fun e=>Region.binds .any e&&!lst e.on&&asks ops e.on i
  | none=>false
def ahead (ops:Array Oper)(Ls:List Nat)(listed:Array Bool)(i:Nat):Nat:=(Ls.filter fun j=>!listed.getD j true&&!Ey ops (fun x=>listed.getD x false) j i).length
theorem Zm {i j:Nat}{oj:Oper}(hj:ops[j]?=some oj)(hnot:∀ e ∈ oj.after,Region.binds .any e=true->e.on≠i):asks ops j i=false:=by
  unfold asks;rw[hj];simp only[Array.any_eq_false'];intro e he;have:=hnot e he;cases hb:Region.binds .any e with
  | false=>simp
  | true=>simpa using this hb
theorem Qo {listed:Array Bool}{i j:Nat}(hj:j ∈ Region.ready .any ops listed)(hi:listed.getD i true=false):Ey ops (fun x=>listed.getD x false) j i=false:=by
  obtain⟨hjun,oj,hoj,hall⟩:=mem_ready.1 hj;have hi':listed.getD i false=false:=by
    rcases Nat.lt_or_ge i listed.size with h' | h'
    ·simp[h'] at hi ⊢;exact hi
    ·simp[Array.getElem?_eq_none h']
  unfold Ey;rw[Zm hoj (fun e he hb heq=>by have:=hall e he hb;rw[heq,hi'] at this;cases this),hoj];simp only[Bool.false_or,Array.any_eq_false'];intro e he;cases hb:Region.binds .any e with
  | false=>simp
  | true=>simp only[hall e he hb];simp
theorem Qp {listed:Array Bool}{i j x:Nat}(hj:j ∈ Region.ready .any ops listed)(hi:listed.getD i true=false)(h:Ey ops (fun x=>listed.getD x false) x i=true):Ey ops (fun y=>(listed.setIfInBounds j true).getD y false) x i=true:=by
  have hji:asks ops j i=false:=by
    have:=Qo hj hi;unfold Ey at this;rw[Bool.or_eq_false_iff] at this;exact this.1
  unfold Ey at h ⊢;rw[Bool.or_eq_true] at h ⊢;rcases h with h | h
  ·exact .inl h
  ·refine .inr ?_;cases ho:ops[x]? with
   | none=>rw[ho] at h;cases h
   | some o =>
     rw[ho] at h;simp only[Array.any_eq_true'] at h ⊢;obtain⟨e,he,hq⟩:=h;refine⟨e,he,?_⟩;simp only[Bool.and_eq_true,Bool.not_eq_true'] at hq ⊢;obtain⟨⟨h1,h2⟩,h3⟩:=hq;refine⟨⟨h1,?_⟩,h3⟩;by_cases hje:j=e.on
     ·rw[<- hje,hji] at h3;cases h3
     ·rw[getD_set_ne false hje];exact h2
theorem Zn {listed:Array Bool}{i j:Nat}(hr:j ∈ Region.ready .any ops listed)(hi:listed.getD i true=false):ahead ops Ls (listed.setIfInBounds j true) i<=ahead ops Ls listed i:=by
  unfold ahead;rw[<- List.countP_eq_length_filter,<-List.countP_eq_length_filter];refine List.countP_mono_left fun x _ hx=>?_;simp only[Bool.and_eq_true,Bool.not_eq_true'] at hx ⊢;refine⟨?_,?_⟩
  ·by_cases hxj:j=x
   ·subst hxj;have:=hx.1;rcases Nat.lt_or_ge j listed.size with h | h
    ·simp[h] at this
    ·simp[Array.getElem?_eq_none h] at this
   ·rw[getD_set_ne true hxj] at hx;exact hx.1
  ·cases hq:Ey ops (fun x=>listed.getD x false) x i with
   | false=>rfl
   | true=>rw[Qp hr hi hq] at hx;exact absurd hx.2 (by decide)
theorem Zo {listed:Array Bool}{i j:Nat}(hr:j ∈ Region.ready .any ops listed)(hi:listed.getD i true=false)(hj:Ls.contains j=true)(hun:listed.getD j true=false):ahead ops Ls (listed.setIfInBounds j true) i+1<=ahead ops Ls listed i:=by
  have hna:=Qo hr hi;unfold ahead;rw[<- List.countP_eq_length_filter,<-List.countP_eq_length_filter];have key:∀ l:List Nat,l.countP (fun x=>!(listed.setIfInBounds j true).getD x true&&!Ey ops (fun y=>(listed.setIfInBounds j true).getD y false) x i)<=l.countP (fun x=>!listed.getD x true&&!Ey ops (fun y=>listed.getD y false) x i):=fun l=>by
    refine List.countP_mono_left fun x _ hx=>?_;simp only[Bool.and_eq_true,Bool.not_eq_true'] at hx ⊢;refine⟨?_,?_⟩
    ·by_cases hxj:j=x
     ·subst hxj;exact hun
     ·rw[getD_set_ne true hxj] at hx;exact hx.1
    ·cases hq:Ey ops (fun x=>listed.getD x false) x i with
     | false=>rfl
     | true=>rw[Qp hr hi hq] at hx;exact absurd hx.2 (by decide)
  have hjs:(listed.setIfInBounds j true).getD j true=true:=by
    rcases Nat.lt_or_ge j listed.size with h | h
    ·simp[h]
    ·simp[Array.getElem?_eq_none h]
  induction Ls with
  | nil=>simp at hj
  | cons x l ih =>
    rw[List.countP_cons,List.countP_cons];by_cases hx:x=j
    ·subst hx;have:=key l;simp only[hjs,hun,hna,Bool.not_true,Bool.false_and,Bool.not_false,Bool.and_self,if_true];simp only[Bool.false_eq_true,if_false];omega
    ·have h1:l.contains j=true:=by
       simp only[List.contains_cons,Bool.or_eq_true,beq_iff_eq] at hj;exact hj.resolve_left (fun e=>hx e.symm)
     have:=ih h1;have hm:(if(!(listed.setIfInBounds j true).getD x true&&!Ey ops (fun y=>(listed.setIfInBounds j true).getD y false) x i)=true then 1 else 0)<=(if(!listed.getD x true&&!Ey ops (fun y=>listed.getD y false) x i)=true then 1 else 0):=by
       have:=key [x];simpa [List.countP_cons] using this
     omega
theorem Qq {Q:Act->World->Prop}{i m:Nat}{oi:Oper}{v:Value}(hmono:∀ p q x,p<=q->C p x->C q x)(hi:ops[i]?=some oi)(hil:Ls.contains i=false)(hsel:∀ (j:Nat) (o:Oper) cs b,ops[j]?=some o->o.op≠.select cs b) :
    ∀ (k p:Nat) (listed:Array Bool) (a:Act) (w:World),C p w->p+ahead ops Ls listed i<=m ->
      (∀ j oj,ops[j]?=some oj->j≠i->listed.getD j true=false->(∀ e ∈ oj.after,Region.binds .any e=true->e.on≠i)->oi.apart ops oj=true) ->
      i ∈ Region.ready .any ops listed->YC P ops (C m) oi v a ->
      wpC P ops Ls C Q k p (listed.setIfInBounds i true) (a.put oi.dst v) w->wpC P ops Ls C Q (k+1) p listed a w:=by
  have hni:∀ p,nx Ls p i=p:=fun p=>by unfold nx;rw[hil];rfl
  intro k
  induction k with
  | zero =>
    intro p listed a w hw hm _ hr hy H;refine⟨fun h=>(by rw[h] at hr;cases hr),fun j hj=>?_⟩;by_cases hji:j=i
    ·subst hji;rw[hni];exact hy.op hi (hmono p m w (by omega) hw) ⟨hw,H⟩
    ·have:=ready_mono hj hji;rw[H.1] at this;cases this
  | succ k ih =>
    intro p listed a w hw hm hfree hr hy H;refine⟨fun h=>(by rw[h] at hr;cases hr),fun j hj=>?_⟩;by_cases hji:j=i
    ·subst hji;rw[hni];exact hy.op hi (hmono p m w (by omega) hw) ⟨hw,H⟩
    ·have h1:=H.2 j (ready_mono hj hji);obtain⟨hjun,oj,hoj,hall⟩:=mem_ready.1 hj;have hnot:∀ e ∈ oj.after,Region.binds .any e=true->e.on≠i:=fun e he hb heq=>by
       have h1:=hall e he hb;have h0:=(mem_ready.1 hr).1;rw[heq] at h1;rcases Nat.lt_or_ge i listed.size with h' | h'
       ·simp[h'] at h0 h1;rw[h0] at h1;cases h1
       ·simp[Array.getElem?_eq_none h'] at h1
     have h2:=wpOp_put hoj (hfree j oj hoj hji hjun hnot) (fun cs b=>hsel i oi cs b hi) (fun cs b=>hsel j oj cs b hoj) hy h1;have hfree':∀ m om,ops[m]?=some om->m≠i->(listed.setIfInBounds j true).getD m true=false ->
         (∀ e ∈ om.after,Region.binds .any e=true->e.on≠i)->oi.apart ops om=true:=fun m om hm hmi hun hno=>by
       refine hfree m om hm hmi ?_ hno;by_cases hjm:j=m
       ·subst hjm;exact hjun
       ·rw[getD_set_ne true hjm] at hun;exact hun
     have hm':nx Ls p j+ahead ops Ls (listed.setIfInBounds j true) i<=m:=by
       unfold nx;split
       ·rename_i hc;have:=Zo (ops:=ops) (Ls:=Ls) hj (mem_ready.1 hr).1 hc hjun;omega
       ·have:=Zn (ops:=ops) (Ls:=Ls) hj (mem_ready.1 hr).1;omega
     refine wpOp_mono (fun a' w' h3=>?_) h2;obtain⟨hy',hw',h4⟩:=h3;refine⟨hw',ih _ (listed.setIfInBounds j true) a' w' hw' hm' hfree' (ready_mono hr (Ne.symm hji)) hy' ?_⟩;rw[Array.setIfInBounds_comm _ _ hji];exact h4
def cls:List (World->Prop)->Nat->World->Prop
  | [],_,_=>True
  | c::_,0,x=>c x
  | _::cs,p+1,x=>cls cs p x
def PY:List (World->Prop)->Prop
  | c::d::cs=>(∀ x,c x->d x)/\PY (d::cs)
  | _=>True
theorem PY.step:∀ (l:List (World->Prop)) (p:Nat) (x:World),PY l->cls l p x->cls l (p+1) x
  | [],_,_,_,_=>trivial
  | [_],0,_,_,_=>trivial
  | [_],_+1,_,_,_=>trivial
  | _::_::_,0,x,h,hx=>h.1 x hx
  | _::d::cs,p+1,x,h,hx=>PY.step (d::cs) p x h.2 hx
theorem PY.le {l:List (World->Prop)}(h:PY l):∀ p q x,p<=q->cls l p x->cls l q x:=by
  intro p q x hpq hx;obtain⟨d,rfl⟩:=Nat.exists_eq_add_of_le hpq
  induction d with
  | zero=>exact hx
  | succ d ih=>exact PY.step l _ x h (ih (by omega))
inductive MT where
  | nil
  | q (i m:Nat) (r:MT)
  | op (i:Nat) (r:MT)
  | br (i j:Nat) (ri rj:MT)
def MT.depth:MT->Nat
  | .nil=>0
  | .q _ _ r=>r.depth+1
  | .op _ r=>r.depth+1
  | .br _ _ r _=>r.depth+1
def MT.drop:Nat->MT->MT
  | k+1,.q _ _ r=>r.drop k
  | _,π=>π
def Hf (ops:Array Oper)(Ls:List Nat):MT->Nat->Array Bool->Bool
  | .nil,_,listed=>(Region.ready .any ops listed).isEmpty
  | .q i m π,p,listed=>(Region.ready .any ops listed).contains i&&Region.free .any ops listed i&&!Ls.contains i&&decide (p+ahead ops Ls listed i<=m)&&Hf ops Ls π p (listed.setIfInBounds i true)
  | .op i π,p,listed=>Region.ready .any ops listed == [i]&&Hf ops Ls π (nx Ls p i) (listed.setIfInBounds i true)
  | .br i j ri rj,p,listed=>Region.ready .any ops listed == [i,j]&&rj.depth == ri.depth&&Hf ops Ls ri (nx Ls p i) (listed.setIfInBounds i true)&&Hf ops Ls rj (nx Ls p j) (listed.setIfInBounds j true)
def MX (P:Program)(n:Nat)(ops:Array Oper)(Ls:List Nat)(C:List (World->Prop))(Q:Act->World->Prop)(π:MT)(p:Nat)(listed:Array Bool)(L:List En)(w:World):Prop :=
  Region.noSelect ops=true->PY C->Hf ops Ls π p listed=true->cls C p w->∀ a,Fu n a L->wpC P ops Ls (cls C) Q π.depth p listed a w
variable {C:List (World->Prop)}
theorem fH {n p:Nat}{Q:Act->World->Prop}{listed:Array Bool}{L:St}{w:World}(h:At n Q L w):MX P n ops Ls C Q .nil p listed (Kn L) w :=
  fun _ _ hB _ a ha=>⟨by simpa [Hf] using hB,h a ha⟩
def VQ (ops:Array Oper)(m:Nat):Nat->MT->Option (List Oper)
  | 0,_=>some []
  | k+1,.q i m' r=>if m'=m then match ops[i]?,VQ ops m k r with
    | some o,some l=>some (o::l)
    | _,_=>none else none
  | _+1,_=>none
theorem Yk {n p m:Nat}{Q:Act->World->Prop}{ss:List Nat}{w:World}{L':List En}:∀ (k:Nat) (π:MT) (l:List Oper) (listed:Array Bool) (L:List En) (os os':List SV) (cs:List Cond),
    VQ ops m k π=some l->evs P n ops ss l L os=some (L',cs,os')->(∀ w,cls C m w->∀ c ∈ cs,c w)->(∀ listed',MX P n ops Ls C Q (π.drop k) p listed' L' w)->MX P n ops Ls C Q π p listed L w:=by
  intro k
  induction k with
  | zero =>
    intro π l listed L os os' cs hq h hc hk;simp only[VQ,Option.some.injEq] at hq;subst hq;simp only[evs,Option.some.injEq,Prod.mk.injEq] at h;obtain⟨rfl,rfl,rfl⟩:=h;have e:π.drop 0=π:=by cases π <;> rfl
    rw[e] at hk;exact hk listed
  | succ k ih =>
    intro π l listed L os os' cs hq h hc hk;cases π with
    | q i m' π =>
      simp only[VQ] at hq;split at hq
      ·rename_i hmm;subst hmm;split at hq
       ·rename_i o l' ho hl';simp only[Option.some.injEq] at hq;subst hq;simp only[evs] at h;split at h
        ·rename_i L1 c1 os1 h1;split at h
         ·rename_i L2 c2 os2 h2;simp only[Option.some.injEq,Prod.mk.injEq] at h;obtain⟨rfl,rfl,rfl⟩:=h;intro hns hmo hB hw a ha;simp only[Hf,Bool.and_eq_true,decide_eq_true_eq,Bool.not_eq_true'] at hB;obtain⟨⟨⟨⟨hr,hf⟩,hnl⟩,hah⟩,hB⟩:=hB;have hrest:=ih π l' (listed.setIfInBounds i true) L1 os1 _ c2 hl' h2 (fun w hw c hcm=>hc w hw c (List.mem_append_right _ hcm)) hk hns hmo hB hw;rcases Lu ha h1 with⟨hwt,v,hrun,hf'⟩ | ⟨hwt,hf'⟩
          ·exact Qq hmo.le ho hnl (Region.noSelect_spec hns) _ p listed a w hw hah (Region.free_spec ho hf) (by simpa using hr) (.inl ⟨hwt,fun w' hw'=>hrun w' fun c hcm=>hc w' hw' c (List.mem_append_left _ hcm)⟩) (hrest _ hf')
          ·exact Qq hmo.le ho hnl (Region.noSelect_spec hns) _ p listed a w hw hah (Region.free_spec ho hf) (by simpa using hr) (.inr ⟨hwt,rfl⟩) (hrest _ hf')
         ·cases h
        ·cases h
       ·cases hq
      ·cases hq
    | _=>cases hq
theorem MX_q {n p:Nat}{Q:Act->World->Prop}{w:World}{π:MT}{listed:Array Bool}{L:St}(k m:Nat)(ss:List Nat)(os:List SV)(L':St)(cs:List Cond)
    (hs:((VQ ops m k π).bind fun l=>evs P n ops ss l (Kn L) os).map (fun r=>(L'.map fun e=>(look r.1 e.1).map fun e=>(e.g,e.x.val),r.2.1,r.2.2))=some (L'.map fun p=>some (none,p.2.val),cs,[]))
    (hc:∀ w,cls C m w->All cs w) (h:∀ listed',MX P n ops Ls C Q (π.drop k) p listed' (Kn L') w):MX P n ops Ls C Q π p listed (Kn L) w:=by
  rw[Option.map_bind] at hs;simp only[Option.bind_eq_some_iff] at hs;obtain⟨l,hl,hs⟩:=hs;obtain⟨Lc,he,hk⟩:=Seg.keep (P:=P) (n:=n) (ops:=ops) (ss:=ss) (l:=l) (L:=L) (os:=os) (L':=L') (cs:=cs) hs;refine Yk k π l listed (Kn L) os [] cs hl he (fun w hw=>JU (hc w hw)) fun listed'=>?_;intro hns hmo hB hw a ha;exact h listed' hns hmo hB hw a (hk a ha)
theorem dM {n p:Nat}{Q:Act->World->Prop}{w:World}{π:MT}{listed:Array Bool}{L:St}{i:Nat}{o:Oper}(hl:Ls.contains i=true)(ho:ops[i]?=some o)
    (h:FK P n ops L w o fun L' w'=>cls C (p+1) w'/\∀ listed',MX P n ops Ls C Q π (p+1) listed' (Kn L') w'):MX P n ops Ls C Q (.op i π) p listed (Kn L) w:=by
  intro hns hmo hB hw a ha;have hnx:nx Ls p i=p+1:=by unfold nx;rw[if_pos hl]
  simp only[Hf,Bool.and_eq_true,beq_iff_eq,hnx] at hB;obtain⟨hr,hB⟩:=hB;obtain⟨h1,h2⟩:=h a ha;refine⟨fun h0=>(by rw[h0] at hr;cases hr),fun j hj=>?_⟩;rw[hr] at hj;simp only[List.mem_singleton] at hj;subst hj;unfold wpOp;simp only[ho,hnx];rw[if_pos h1];refine .inl (Oper.wp_mono ?_ h2);rintro a' w' ⟨L',hf,hc,hk⟩;exact⟨hc,hk _ hns hmo hB hc a' hf⟩
theorem Zp {n p:Nat}{Q:Act->World->Prop}{w:World}{πi πj:MT}{listed:Array Bool}{L:St}{i j:Nat}{oi oj:Oper}(hli:Ls.contains i=true)(hlj:Ls.contains j=true)(hi:ops[i]?=some oi)(hj:ops[j]?=some oj)
    (h:FK P n ops L w oi fun L' w'=>cls C (p+1) w'/\∀ listed',MX P n ops Ls C Q πi (p+1) listed' (Kn L') w')
    (h':FK P n ops L w oj fun L' w'=>cls C (p+1) w'/\∀ listed',MX P n ops Ls C Q πj (p+1) listed' (Kn L') w'):MX P n ops Ls C Q (.br i j πi πj) p listed (Kn L) w:=by
  intro hns hmo hB hw a ha;have hnx:nx Ls p i=p+1:=by unfold nx;rw[if_pos hli]
  have hnx':nx Ls p j=p+1:=by unfold nx;rw[if_pos hlj]
  simp only[Hf,Bool.and_eq_true,beq_iff_eq,hnx,hnx'] at hB;obtain⟨⟨⟨hr,hd⟩,hB1⟩,hB2⟩:=hB;refine⟨fun h0=>(by rw[h0] at hr;cases hr),fun k hk=>?_⟩;rw[hr] at hk;simp only[List.mem_cons,List.not_mem_nil,or_false] at hk;rcases hk with rfl | rfl
  ·obtain⟨h1,h2⟩:=h a ha;unfold wpOp;simp only[hi,hnx];rw[if_pos h1];refine .inl (Oper.wp_mono ?_ h2);rintro a' w' ⟨L',hf,hc,hk⟩;exact⟨hc,hk _ hns hmo hB1 hc a' hf⟩
  ·obtain⟨h1,h2⟩:=h' a ha;unfold wpOp;simp only[hj,hnx'];rw[if_pos h1];refine .inl (Oper.wp_mono ?_ h2);rintro a' w' ⟨L',hf,hc,hk⟩;have:=hk _ hns hmo hB2 hc a' hf;rw[hd] at this;exact⟨hc,this⟩
theorem W_mix {n:Nat}{id:Nat}{l:List Oper}{Q:Exit->Act->World->Prop}{L:St}{w:World}(hm:P.follows .mixedOrders=true)(π:MT)(Ls:List Nat)(C:List (World->Prop))
    (hB:(Region.noSelect l.toArray,Hf l.toArray Ls π 0 (Array.replicate l.length false),π.depth == l.length)=(true,true,true)) (hmo:PY C) (hC:cls C 0 (w.drewN 1)) (h:∀ listed,MX P n l.toArray Ls C (Q .normal) π 0 listed (Kn L) (w.drewN 1)) :
    W P n (.region id l.toArray true) Q L w:=by
  intro a ha;simp only[Prod.mk.injEq,beq_iff_eq] at hB;obtain⟨h1,h2,h3⟩:=hB;refine wp_region_any hm ?_;have:=h (Array.replicate l.length false) h1 hmo h2 hC a ha;rw[h3] at this;exact Oy (fun _ _ hq=>hq) _ _ _ _ _ (by rw[show l.toArray.size=l.length from by simp];exact this)
end
end Go.Sx
namespace Go.Sx
open Go.RowKit
set_option linter.unusedSimpArgs false
set_option linter.unusedVariables false
variable {α β:Type}
instance {n:Nat} [Inhabited α]:Inhabited (Vec α n):=⟨Vec.rep n default⟩
def Vec.of [Inhabited α](n:Nat)(l:List α):Vec α n:=if h:l.length=n then⟨l,h⟩ else Vec.rep n default
def appz (xs:List α)(l:Int)(z:α)(b:Nat):Option (List α):=if 0<=l/\(xs.length+l.toNat)*b<=140737488355328 then some (xs++List.replicate l.toNat z) else none
theorem Yl {xs ys:List α}{l:Int}{z:α}{b:Nat}(h:appz xs l z b=some ys):0<=l/\(xs.length+l.toNat)*b<=140737488355328/\ys=xs++List.replicate l.toNat z:=by
  unfold appz at h;split at h
  ·rename_i hc;simp only[Option.some.injEq] at h;exact⟨hc.1,hc.2,h.symm⟩
  ·cases h
abbrev SV.ar (E:Enc α){n:Nat}(x:Vec α n):SV:=.vec (n*E.sz) (E.vec x)
section
variable {P:Program}{n:Nat}{Q:Exit->Act->World->Prop}{ops:Array Oper}{L:St}{w w0:World}{F O:Nat->Prop}{hs:List HP}{K:St->World->Prop}
theorem VR {x:Code}(K:St->World->Prop)(h1:W P n x (Exit.then (fun a w=>∃ L,Fu n a (Kn L)/\K L w) Q) L w)(h2:∀ L w,K L w->At n (Q .normal) L w):W P n x Q L w:=by
  intro a ha;refine wp_mono (h1 a ha) ?_;intro e a' w' hq;cases e with
  | normal=>obtain⟨L',hf,hk⟩:=hq;exact h2 L' w' hk a' hf
  | _=>exact hq
theorem Ro.Ff (E:Enc α):Ro F w none (E.all ([]:List α)):=Ro.nil (A:=none)
theorem Src.sl {E:Enc α}{A:Option Addr}{xs:List α}{m c sz:Nat}(h:Rd w A (E.all xs))(hn:xs.length=m)(hs:E.sz=sz):Src P sz w (.slice A m c) m (E.all xs) :=
  Src.slice h (by rw[Enc.fK,hn,hs])
theorem QZ {xs ys:List α}{lo hi:Int}(h:FM xs lo hi=some ys)(h0:lo=0):ys=xs.take ys.length:=by
  obtain⟨h1,h2,h3,h4⟩:=ji h;have hl:=pX h;rw[hl];subst h0;rw[h4];simp
theorem JW {E:Enc α}{m:Nat}{x:Vec α m}{i:Int}{y:α}{v:Value}(h:aT x.l i=some y)(hv:(E.f y)[0]?=some v):(0<=i/\i < ((m:Nat):Int))/\(SV.cl [SV.ar E x])[i.toNat*E.sz]?=some v:=by
  have h1:=gm h;rw[x.h] at h1;refine⟨h1,?_⟩;rw[z_];have:=E.TL (bz h).2 hv;simp only[SV.cl,List.append_nil];show(E.all x.l)[i.toNat*E.sz]?=some v;simpa using this
theorem ar_ixs {E:Enc α}{m:Nat}{x:Vec α m}{i:Int}{y:α}{vs:List Value}(h:aT x.l i=some y)(hv:E.f y=vs):(0<=i/\i < ((m:Nat):Int))/\((SV.cl [SV.ar E x]).drop (i.toNat*E.sz)).take E.sz=vs:=by
  have h1:=gm h;rw[x.h] at h1;refine⟨h1,?_⟩;rw[z_,<-hv];simp only[SV.cl,List.append_nil];exact E.VN (bz h).2
theorem At_end {fn:Func}{R:Ending->World->Prop}(os:List SV)(xs:List SV)(cs:List Cond)(hr:Nu P fn.results.toList L os=some (xs,cs,[]))(hc:All cs w)(h:R (.returned (Qm xs).val) w):At n (bodyPost P fn R .normal) L w :=
  Zd (P:=P) (fn:=fn) os xs cs hr hc h
theorem TS {E:Enc α}{m:Nat}(x:Vec α m):SV.cl [SV.ar E x]=(eV E m).f x:=by
  rw[z_];show E.all x.l++[]=E.all x.l;rw[List.append_nil]
theorem Rd.elV {w:World}{A p:Option Addr}{E:Enc α}{m:Nat}{xs:List (Vec α m)}{i:Int}{x:Vec α m}(h:Rd w A ((eV E m).all xs))(hg:aT xs i=some x)(hp:Pt A (i.toNat*(eV E m).sz+0) p)(hm:0 < (eV E m).sz):∃ a,p=some a/\Rd w (some a) (SV.cl [SV.ar E x]):=by
  rw[TS];refine h.els hg hp ?_ hm (by omega);rw[List.drop_zero];have:=(eV E m).len x;rw[<- this,List.take_length]
theorem Zq {E:Enc α}{k m:Nat}{x:Vec (Vec α k) m}{i:Int}{y:Vec α k}(h:aT x.l i=some y):(0<=i/\i < ((m:Nat):Int))/\((SV.cl [SV.ar (eV E k) x]).drop (i.toNat*(eV E k).sz)).take (eV E k).sz=SV.cl [SV.ar E y] :=
  ar_ixs h (TS y).symm
theorem Cx.yK {t:TypeId}{g:Nat}{ys:List SV}(k:Cx F O w0 w hs)(i:Nat)(hi:hs[i]?=some (Bx t g ys))(off:Nat)(v:SV)(h:(cellS off ys).map SV.val=some v.val):∃ a,some (⟨g,off,none⟩:Addr)=some a/\w.cell? a=some v.val:=by
  simp only[Option.map_eq_some_iff] at h;obtain⟨x,hx,he⟩:=h;rw[<- he];exact(k.Es i hi).cellP (Pt.at g off) (Oa hx).1
theorem Cx.blds {t:TypeId}{g:Nat}{ys:List SV}(k:Cx F O w0 w hs)(i:Nat)(hi:hs[i]?=some (Bx t g ys))(off m:Nat)(zs:List SV)(h:(Lr off m ys).map SV.cl=some (SV.cl zs))(hm:0 < m):∃ a,some (⟨g,off,none⟩:Addr)=some a/\Rd w (some a) (SV.cl zs):=by
  simp only[Option.map_eq_some_iff] at h;obtain⟨x,hx,he⟩:=h;obtain⟨e1,e2,e3⟩:=MN hx;rw[<- he,<-e1];exact(k.Es i hi).partP (Pt.at g off) (by rw[iq];exact e3) hm
theorem Op_bput {ty t:TypeId}{p x:Operand}{pos:String}{nM:Array Edge}{g:Option (Nat×Bool)}(ss:List Nat)(i:Nat){pa:Option Addr}{sv:SV}{svs:List SV}{bt:TypeId}{b:Nat}{ys:List SV}(zs:List SV){off:Nat}
    (hside:(Gy ops ss L (⟨none,.store t p x,ty,pos,nM,g⟩:Oper),(none:Option Nat),(toSS [p,x] (lk L)).map SV.vals,zU P t,cellsS sv,svs.all SV.one1)=(true,none,some [.pointer pa,sv.val],some (SV.width svs),some svs,true))
    (hp:Pt (some ⟨b,0,none⟩) off pa) (k:Cx F O w0 w hs) (hi:hs[i]?=some (Bx bt b ys)) (hz:(Vz off (SV.width svs) svs ys).map SV.cl=some (SV.cl zs))
    (hk:∀ w',Cx F O w0 w' (hs.set i (Bx bt b zs))->K L w') :
    FK P n ops L w ⟨none,.store t p x,ty,pos,nM,g⟩ K:=by
  simp only[Option.map_eq_some_iff] at hz;obtain⟨zs',hput,he⟩:=hz;obtain⟨e1,e2,e3,e4⟩:=Qi hput;refine Zh ss i zs hside hp k hi ?_ e4 hk;rw[<- he,e1];unfold pat;rw[iq]
end
end Go.Sx
namespace Go.Sx
open Go.RowKit
set_option linter.unusedSimpArgs false
set_option linter.unusedVariables false
inductive Bl:St->St->Prop
  | a {l}:Bl l l
  | z {l}:Bl l []
  | k {x l l'}:Bl l l'->Bl (x::l) (x::l')
  | s {x l l'}:Bl l l'->Bl (x::l) l'
  | n {l l'} (i:Nat) (v:SV):Bl l l'->Bl l ((i,v)::l')
theorem Bl.kk {x y l l'}(h:Bl l l'):Bl (x::y::l) (x::y::l'):=.k (.k h)
theorem Bl.pY {x y z l l'}(h:Bl l l'):Bl (x::y::z::l) (x::y::z::l'):=.k (.kk h)
theorem Bl.dO {x y z u l l'}(h:Bl l l'):Bl (x::y::z::u::l) (x::y::z::u::l'):=.kk (.kk h)
theorem Bl.ss {x y l l'}(h:Bl l l'):Bl (x::y::l) l':=.s (.s h)
theorem Bl.mX {x y z l l'}(h:Bl l l'):Bl (x::y::z::l) l':=.s (.ss h)
theorem Bl.fJ {x y z u l l'}(h:Bl l l'):Bl (x::y::z::u::l) l':=.ss (.ss h)
section
variable {α β σ ρ:Type}{P:Program}{n:Nat}{Q:Exit->Act->World->Prop}{ops:Array Oper}{L L':St}{w w0:World}{os:List SV}{cs:List Cond}{F O:Nat->Prop}{hs:List HP}
structure Ask (os:List SV)(cs:List Cond)(w:World):Prop where
  h:All cs w
def dp (p:Prop):Cond:=fun _=>p
def dS (A:Option Addr):Cond:=fun _=>A.isSome=true
def dI (i:Int)(n:Nat)(A:Option Addr):Cond:=fun _=>0<=i/\i < (n:Int)/\A.isSome=true
def dC (p:Option Addr)(v:SV):Cond:=fun w=>∃ a,p=some a/\w.cell? a=some v.val
def dR (p:Option Addr)(cs:List SV):Cond:=fun w=>∃ a,p=some a/\Rd w (some a) (SV.cl cs)
theorem qe:Ask [] [] w:=⟨trivial⟩
theorem qo (v:SV)(r:Ask os cs w):Ask (v::os) cs w:=⟨r.h⟩
theorem qc (c:Cond)(p:c w)(r:Ask os cs w):Ask os (c::cs) w:=⟨p,r.h⟩
theorem qp (p:Prop)(h:p)(r:Ask os cs w):Ask os (dp p::cs) w:=⟨h,r.h⟩
theorem qs (g off:Nat)(r:Ask os cs w):Ask os (dS (some ⟨g,off,none⟩)::cs) w:=⟨rfl,r.h⟩
theorem qS {A:Option Addr}(h:A.isSome=true)(r:Ask os cs w):Ask os (dS A::cs) w:=⟨h,r.h⟩
theorem qI {m:Nat}{v:Vec α m}{i:Int}{x:α}(g off:Nat)(h:aT v.l i=some x)(r:Ask os cs w):Ask os (dI i m (some ⟨g,off,none⟩)::cs) w :=
  ⟨⟨(gm h).1,by have:=(gm h).2;have:=v.h;omega,rfl⟩,r.h⟩
class Pos (E:Enc α):Prop where h:0 < E.sz
instance:Pos e8:=⟨by decide⟩
instance:Pos e16:=⟨by decide⟩
instance:Pos e32:=⟨by decide⟩
instance:Pos e64:=⟨by decide⟩
instance:Pos eI:=⟨by decide⟩
instance:Pos eS:=⟨by decide⟩
instance:Pos eB:=⟨by decide⟩
instance {a:Enc α} {b:Enc β} [h:Pos a]:Pos (eP a b):=⟨Nat.lt_of_lt_of_le h.h (Nat.le_add_right _ _)⟩
instance {E:Enc α} {m:Nat} [h:Pos E]:Pos (eV E (m+1)):=⟨Nat.mul_pos (Nat.succ_pos m) h.h⟩
theorem qJ {E:Enc α}[he:Pos E]{A:Option Addr}{xs:List α}{i:Int}{x:α}{m:Nat}(rd:Rd w A (E.all xs))(h:aT xs i=some x)(hl:xs.length=m)(r:Ask os cs w):Ask os (dI i m A::cs) w :=
  ⟨rd.ix h hl he.h,r.h⟩
theorem Ym {A:Option Addr}{i:Int}{m:Nat}(h:0<=i/\i < (m:Int)/\A.isSome=true)(r:Ask os cs w):Ask os (dI i m A::cs) w:=⟨h,r.h⟩
theorem qC {p:Option Addr}(v:SV)(h:∃ a,p=some a/\w.cell? a=some v.val)(r:Ask os cs w):Ask (v::os) (dC p v::cs) w:=⟨h,r.h⟩
theorem qR {p:Option Addr}(zs:List SV)(h:∃ a,p=some a/\Rd w (some a) (SV.cl zs))(r:Ask os cs w):Ask (.agg zs::os) (dR p zs::cs) w:=⟨h,r.h⟩
theorem qB {t:TypeId}{g:Nat}{ys:List SV}(k:Cx F O w0 w hs)(i:Nat)(hi:hs[i]?=some (Bx t g ys))(off:Nat)(v:SV)(h:(cellS off ys).map SV.val=some v.val)(r:Ask os cs w):Ask (v::os) (dC (some ⟨g,off,none⟩) v::cs) w:=⟨k.yK i hi off v h,r.h⟩
theorem Cx.vrd {t:TypeId}{g m:Nat}{ys:List SV}(k:Cx F O w0 w hs)(i:Nat)(hi:hs[i]?=some (Bx t g ys))(E:Enc α)(x:Vec α m)(off:Nat)(hd:((Et off ys).bind List.head?).map (fun v=>(v.I9,v.val))=some (true,.agg ⟨E.all x.l⟩)):Rd w (some ⟨g,off,none⟩) (E.all x.l):=(k.Es i hi).vec hd
theorem qV {E:Enc α}{A:Option Addr}{m:Nat}{xs:Vec α m}{i:Int}{x:α}(rd:Rd w A (E.all xs.l))(h:aT xs.l i=some x)(hA:A.isSome=true)(s:SV)(hs:E.f x=[s.val])(r:Ask os cs w):Ask (s::os) (dI i m A::dC (iO A i E.sz) s::cs) w :=
  ⟨⟨(gm h).1,by have:=(gm h).2;have:=xs.h;omega,hA⟩,rd.el h (k:=0) (Pt.wX A i E.sz) (by rw[hs];rfl),r.h⟩
theorem qW {E:Enc α}[he:Pos E]{A:Option Addr}{xs:List α}{i:Int}{x:α}{m:Nat}(rd:Rd w A (E.all xs))(h:aT xs i=some x)(hl:xs.length=m)(s:SV)(hs:E.f x=[s.val])(r:Ask os cs w):Ask (s::os) (dI i m A::dC (iO A i E.sz) s::cs) w :=
  ⟨rd.ix h hl he.h,rd.el h (k:=0) (Pt.wX A i E.sz) (by rw[hs];rfl),r.h⟩
theorem qX {xs:List UInt8}{i:Int}{y:UInt8}(h:aT xs i=some y)(r:Ask os cs w):Ask (.u8 y::os) (dp (0<=i/\xs[i.toNat]?=some y)::cs) w:=⟨bz h,r.h⟩
theorem qT {t:TypeId}{g:Nat}{ys:List SV}(k:Cx F O w0 w hs)(i:Nat)(hi:hs[i]?=some (Bx t g ys))(off m:Nat)(zs:List SV)(h:(Lr off m ys).map SV.cl=some (SV.cl zs))(hm:0 < m)(r:Ask os cs w):Ask (.agg zs::os) (dR (some ⟨g,off,none⟩) zs::cs) w:=⟨k.blds i hi off m zs h hm,r.h⟩
theorem Gz {l:List Oper}(k:Nat)(ss:List Nat)(b:Bl L L')(q:Ask os cs w)(hs:(evs P n ops ss (l.take k) (Kn L) os).map (fun r=>(L'.map fun e=>(look r.1 e.1).map fun e=>(e.g,e.x.val),r.2.1,r.2.2))=some (L'.map fun p=>some (none,p.2.val),cs,[]))(h:WL P n ops Q (l.drop k) L' w):WL P n ops Q l L w:=WL_seg k ss os L' cs hs q.h h
theorem j_ {id:Nat}{l:List Oper}(ss:List Nat)(b:Bl L L')(q:Ask os cs w)(hs:(evs P n l.toArray ss l (Kn L) os).map (fun r=>(L'.map fun e=>(look r.1 e.1).map fun e=>(e.g,e.x.val),r.2.1,r.2.2))=some (L'.map fun p=>some (none,p.2.val),cs,[]))(h:At n (Q .normal) L' w):W P n (.region id l.toArray false) Q L w:=W_quiet ss os L' cs hs q.h h
theorem Zr {id:Nat}{l:List Oper}(hm:P.follows .mixedOrders=true)(hB:Region.lexB .any l.toArray=true)(b:Bl L L')(q:∀ m,Ask os cs (w.drewN m))(hs:(evs P n l.toArray [] l (Kn L) os).map (fun r=>(L'.map fun e=>(look r.1 e.1).map fun e=>(e.g,e.x.val),r.2.1,r.2.2))=some (L'.map fun p=>some (none,p.2.val),cs,[]))(h:∀ m,At n (Q .normal) L' (w.drewN m)):W P n (.region id l.toArray true) Q L w:=W_draw hm os L' cs hB hs (fun m=>(q m).h) h
theorem MXq {p:Nat}{Ls:List Nat}{C:List (World->Prop)}{Q:Act->World->Prop}{π:MT}{listed:Array Bool}(k m:Nat)(ss:List Nat)(b:Bl L L')(q:∀ w,cls C m w->Ask os cs w)
    (hs:((VQ ops m k π).bind fun l=>evs P n ops ss l (Kn L) os).map (fun r=>(L'.map fun e=>(look r.1 e.1).map fun e=>(e.g,e.x.val),r.2.1,r.2.2))=some (L'.map fun p=>some (none,p.2.val),cs,[])) (h:∀ listed',MX P n ops Ls C Q (π.drop k) p listed' (Kn L') w):MX P n ops Ls C Q π p listed (Kn L) w:=MX_q k m ss os L' cs hs (fun w hw=>(q w hw).h) h
theorem At_c {Q:Exit->Act->World->Prop}{K:St->World->Prop}(h:K L' w)(hk:L'.map (fun p=>(find L p.1).map SV.val)=L'.map (fun p=>some p.2.val)):At n (Exit.then (fun a w=>∃ L,Fu n a (Kn L)/\K L w) Q .normal) L w:=Iy L' hk (At_cut h)
theorem At_rd {Q:Exit->Act->World->Prop}{rel:σ->St->World->Prop}{y:σ⊕ρ}(s':σ)(hy:y=.inl s')(h:rel s' L' w)(hk:L'.map (fun p=>(find L p.1).map SV.val)=L'.map (fun p=>some p.2.val)):At n (Exit.then (fun a w=>∃ s' L',y=.inl s'/\Fu n a (Kn L')/\rel s' L' w) Q .normal) L w:=Iy L' hk (Zf s' hy h)
theorem W_lp {c:Code}(step:σ->Option (σ⊕ρ))(rel:σ->St->World->Prop)(s0:σ)(r:ρ)(hm:aZ step s0=some r)(h0:rel s0 L' w0)(hk:L'.map (fun p=>(find L p.1).map SV.val)=L'.map (fun p=>some p.2.val))
    (hb:∀ s L w y,rel s L w->step s=some y->(∀ r',y=.inr r'->r'=r)->W P n c (Exit.then (fun a w=>∃ s' L',y=.inl s'/\Fu n a (Kn L')/\rel s' L' w) Q) L w):W P n (.loop c) Q L w0:=Zc L' hk (W_loop step rel s0 r hm h0 hb)
theorem At_rt {fn:Func}{R:Ending->World->Prop}(xs:List SV)(q:Ask os cs w)(hr:Nu P fn.results.toList L os=some (xs,cs,[]))(h:R (.returned (Qm xs).val) w):At n (bodyPost P fn R .ret) L w:=Zd os xs cs hr q.h h
theorem Bh {fn:Func}{R:Ending->World->Prop}(xs:List SV)(q:Ask os cs w)(hr:Nu P fn.results.toList L os=some (xs,cs,[]))(h:R (.returned (Qm xs).val) w):At n (bodyPost P fn R .normal) L w:=At_end os xs cs hr q.h h
theorem Hg {l:List Oper}(k:Nat)(c:Bool)(b:Bl L L')(hk:((k,SV.b c)::L').map (fun p=>(find L p.1).map SV.val)=((k,SV.b c)::L').map (fun p=>some p.2.val))
    (h1:c=true->WL P n ops Q l ((k,.b true)::L') w) (h2:c=false->WL P n ops Q l ((k,.b false)::L') w):WL P n ops Q l L w:=by
  have key:WL P n ops Q l ((k,SV.b c)::L') w->WL P n ops Q l L w:=fun h=>Iy (q:=fun a w=>wpList P ops Q l a w) ((k,SV.b c)::L') hk h;cases c with
  | true=>exact key (h1 rfl)
  | false=>exact key (h2 rfl)
theorem ob {a:Option α}{f:α->Option β}{r:β}(h:a.bind f=some r):∃ x,a=some x/\f x=some r:=Option.bind_eq_some_iff.1 h
theorem nm {a:α}{f:α->Option β}{r:β}(h:(some a).bind f=some r):∃ x,a=x/\f x=some r:=⟨a,rfl,h⟩
inductive PV {β:Type}:List β->List β->Prop
  | e:PV [] []
  | z {l}:PV l []
  | k {x l l'}:PV l l'->PV (x::l) (x::l')
  | s {x l l'}:PV l l'->PV (x::l) l'
theorem PV.kk {β:Type}{x y:β}{l l'}(h:PV l l'):PV (x::y::l) (x::y::l'):=.k (.k h)
theorem PV.dO {β:Type}{x y z u:β}{l l'}(h:PV l l'):PV (x::y::z::u::l) (x::y::z::u::l'):=.kk (.kk h)
theorem PV.ss {β:Type}{x y:β}{l l'}(h:PV l l'):PV (x::y::l) l':=.s (.s h)
theorem PV.fJ {β:Type}{x y z u:β}{l l'}(h:PV l l'):PV (x::y::z::u::l) l':=.ss (.ss h)
inductive Pick {β:Type}:List β->β->List β->Prop
  | h {x l}:Pick (x::l) x l
  | t {x y l l'}:Pick l x l'->Pick (y::l) x (y::l')
inductive MS {β:Type}:List β->List β->List β->Prop
  | e:MS [] [] []
  | i {x l a b}:MS l a b->MS (x::l) (x::a) b
  | r {x l a b}:MS l a b->MS (x::l) a (x::b)
inductive App {β:Type}:List β->List β->List β->Prop
  | n {l}:App [] l l
  | c {x a b l}:App a b l->App (x::a) b (x::l)
theorem App.eq {β:Type}{a b l:List β}(h:App a b l):l=a++b:=by induction h <;> simp_all
theorem MS.perm {β:Type}{l a b:List β}(h:MS l a b):l.Perm (a++b):=by
  induction h with
  | e=>exact .nil
  | i _ ih=>exact .cons _ ih
  | r _ ih=>exact(List.Perm.cons _ ih).trans (List.perm_middle.symm)
theorem Pick.perm {β:Type}{x:β}{l l':List β}(h:Pick l x l'):l.Perm (x::l'):=by
  induction h with
  | h=>exact .refl _
  | t _ ih=>exact(List.Perm.cons _ ih).trans (.swap _ _ _)
theorem Sep.perm {w:World}{a b:List HP}(h:a.Perm b):∀ {U V:Nat->Prop},Sep w a U V->Sep w b U V:=by
  induction h with
  | nil=>exact fun h=>h
  | cons x _ ih =>
    rintro U V ⟨S,R,U',V',h1,h2,h3⟩;exact⟨S,R,U',V',h1,ih h2,h3⟩
  | swap x y l =>
    intro U V h;exact Sep.cut (i:=1) (h:=x) rfl h
  | trans _ _ ih1 ih2=>exact fun h=>ih2 (ih1 h)
theorem Cx.perm {a b:List HP}(k:Cx F O w0 w a)(h:a.Perm b):Cx F O w0 w b:=by
  obtain⟨U,V,h1,h2,h3⟩:=k.sep;exact⟨k.os,k.tape,k.output,k.size,k.block,k.fin,k.VM,U,V,Sep.perm h h1,h2,h3⟩
theorem Cx.tl {x:HP}(k:Cx F O w0 w (x::hs)):Cx F O w0 w hs:=k.drop 0
theorem PV.sub {a b:List HP}(h:PV a b):∃ c,a.Perm (c++b):=by
  induction h with
  | e=>exact⟨[],.refl _⟩
  | z=>rename_i l;exact⟨l,by rw[List.append_nil]⟩
  | k _ ih=>obtain⟨c,hc⟩:=ih;exact⟨c,(List.Perm.cons _ hc).trans List.perm_middle.symm⟩
  | s _ ih=>rename_i x _ _ _;obtain⟨c,hc⟩:=ih;exact⟨x::c,.cons _ hc⟩
theorem Cx.dropl {a b:List HP}(k:Cx F O w0 w (a++b)):Cx F O w0 w b:=by
  induction a with
  | nil=>exact k
  | cons x l ih=>exact ih k.tl
theorem Cx.bP {hs':List HP}(k:Cx F O w0 w hs)(h:PV hs hs'):Cx F O w0 w hs':=by
  obtain⟨c,hc⟩:=h.sub;exact(k.perm hc).dropl
theorem Cx.pk {x:HP}{hs':List HP}(k:Cx F O w0 w hs)(h:Pick hs x hs'):Cx F O w0 w (x::hs'):=k.perm h.perm
theorem Cx.go {ins rest:List HP}(k:Cx F O w0 w hs)(p:MS hs ins rest):∃ F1 O1:Nat->Prop,Cx F1 O1 w w ins/\(∀ b,O b->O1 b)/\(∀ (i:Nat) (h:HP),rest[i]?=some h->∃ S R,h.p w S R/\(∀ b,R b->O1 b)/\∀ b,S b->¬ F1 b)/\(∀ b,F1 b->F b∨w0.heap.size<=b) /\
    ∀ w' outs all,Cx F1 O1 w w' outs->App outs rest all->Cx F O w0 w' all:=by
  obtain⟨F1,O1,h1,h2,h3,h4,h5⟩:=(k.perm p.perm).enter;exact⟨F1,O1,h1,h2,h3,h4,fun w' outs all hk ha=>ha.eq▸h5 w' outs hk⟩
inductive Chain (F O:Nat->Prop)(w0:World):List HP->List (World->Prop)->Prop
  | l {h:List HP}:Chain F O w0 h [fun x=>Cx F O w0 x h]
  | c {h h':List HP} {C:List (World->Prop)}:PV h h'->Chain F O w0 h' C->Chain F O w0 h ((fun x=>Cx F O w0 x h)::C)
theorem Chain.spec {hs:List HP}{C:List (World->Prop)}(h:Chain F O w0 hs C):PY C/\∀ w,cls C 0 w ↔ Cx F O w0 w hs:=by
  induction h with
  | l=>exact⟨trivial,fun w=>Iff.rfl⟩
  | c h1 hc ih =>
    cases hc with
    | l=>exact⟨⟨fun x hx=>Cx.bP hx h1,trivial⟩,fun w=>Iff.rfl⟩
    | c h2 h3=>exact⟨⟨fun x hx=>Cx.bP hx h1,ih.1⟩,fun w=>Iff.rfl⟩
theorem zT {id:Nat}{l:List Oper}{C:List (World->Prop)}(hm:P.follows .mixedOrders=true)(π:MT)(Ls:List Nat)(k:Cx F O w0 (w.drewN 1) hs)(ch:Chain F O w0 hs C)
    (hB:(Region.noSelect l.toArray,Hf l.toArray Ls π 0 (Array.replicate l.length false),π.depth == l.length)=(true,true,true)) (h:∀ listed,MX P n l.toArray Ls C (Q .normal) π 0 listed (Kn L) (w.drewN 1)) :
    W P n (.region id l.toArray true) Q L w:=W_mix hm π Ls C hB ch.spec.1 ((ch.spec.2 _).2 k) h
inductive Mid:List SV->List SV->List SV->Prop
  | k {s y ys zs}:Mid s ys zs->Mid s (y::ys) (y::zs)
  | h {s y ys}:Mid [s] (y::ys) (s::ys)
  | h2 {s t y u ys}:Mid [s,t] (y::u::ys) (s::t::ys)
  | h3 {s t r y u v ys}:Mid [s,t,r] (y::u::v::ys) (s::t::r::ys)
  | h4 {s t r q y u v x ys}:Mid [s,t,r,q] (y::u::v::x::ys) (s::t::r::q::ys)
  | all {s ys}:Mid s ys s
theorem Mid.kk {s y u ys zs}(h:Mid s ys zs):Mid s (y::u::ys) (y::u::zs):=.k (.k h)
theorem Mid.dO {s y u v x ys zs}(h:Mid s ys zs):Mid s (y::u::v::x::ys) (y::u::v::x::zs):=.kk (.kk h)
theorem Op_b {K:St->World->Prop}{ty t:TypeId}{p x:Operand}{pos:String}{nM:Array Edge}{g:Option (Nat×Bool)}(ss:List Nat)(i:Nat){pa:Option Addr}(sv:SV)(svs:List SV){bt:TypeId}{b:Nat}{ys zs:List SV}{off:Nat}
    (hp:Pt (some ⟨b,0,none⟩) off pa) (k:Cx F O w0 w hs) (hi:hs[i]?=some (Bx bt b ys)) (md:Mid svs ys zs)
    (hside:(Gy ops ss L (⟨none,.store t p x,ty,pos,nM,g⟩:Oper),(none:Option Nat),(toSS [p,x] (lk L)).map SV.vals,zU P t,cellsS sv,svs.all SV.one1)=(true,none,some [.pointer pa,sv.val],some (SV.width svs),some svs,true))
    (hz:(Vz off (SV.width svs) svs ys).map SV.cl=some (SV.cl zs))
    (hk:∀ w',Cx F O w0 w' (hs.set i (Bx bt b zs))->K L w') :
    FK P n ops L w ⟨none,.store t p x,ty,pos,nM,g⟩ K:=Op_bput ss i zs hside hp k hi hz hk
inductive Vup:List SV->Enc α->{m:Nat}->Vec α m->Vec α m->Nat->List SV->Prop
  | h {E:Enc α} {m:Nat} {x y:Vec α m} {ys}:Vup (.ar E x::ys) E x y 0 (.ar E y::ys)
  | t {E:Enc α} {m o:Nat} {x y:Vec α m} {u ys zs}:Vup ys E x y o zs->Vup (u::ys) E x y (SV.width [u]+o) (u::zs)
theorem Vup.split {E:Enc α}{m o:Nat}{x y:Vec α m}{ys zs:List SV}(h:Vup ys E x y o zs):∃ pre post,ys=pre++.ar E x::post/\zs=pre++.ar E y::post/\o=SV.width pre:=by
  induction h with
  | h=>exact⟨[],_,rfl,rfl,rfl⟩
  | t _ ih =>
    obtain⟨p,q,rfl,rfl,rfl⟩:=ih;exact⟨_::p,q,rfl,rfl,(IA [_] p).symm⟩
theorem Op_vs {K:St->World->Prop}{ty t:TypeId}{p x:Operand}{pos:String}{nM:Array Edge}{g:Option (Nat×Bool)}{E:Enc α}(ss:List Nat)(i:Nat){pa:Option Addr}(sv:SV)(svs:List SV){bt:TypeId}{b:Nat}{m o o':Nat}{x0 x1:Vec α m}{ys zs:List SV}{j:Int}{e0 y:α}{kk:Nat}
    (hv:lD x0 j y=x1) (hx:aT x0.l j=some e0) (hp:Pt (some ⟨b,0,none⟩) (o'+(j.toNat*E.sz+kk)) pa) (k:Cx F O w0 w hs) (hi:hs[i]?=some (Bx bt b ys)) (vu:Vup ys E x0 x1 o zs) (hy:E.f y=pat (E.f e0) kk (SV.cl svs))
    (hside:(Gy ops ss L (⟨none,.store t p x,ty,pos,nM,g⟩:Oper),(none:Option Nat),(toSS [p,x] (lk L)).map SV.vals,zU P t,cellsS sv,svs.all SV.one1,o')=(true,none,some [.pointer pa,sv.val],some (SV.width svs),some svs,true,o))
    (hl:Nat.ble (kk+SV.width svs) E.sz=true)
    (hk:∀ w',Cx F O w0 w' (hs.set i (Bx bt b zs))->K L w') :
    FK P n ops L w ⟨none,.store t p x,ty,pos,nM,g⟩ K:=by
  obtain⟨pre,post,rfl,rfl,rfl⟩:=vu.split;simp only[Prod.mk.injEq] at hside;obtain⟨s1,s2,s3,s4,s5,s6,rfl⟩:=hside;subst hv;exact Op_vst (E:=E) (kk:=kk) (sv:=sv) (svs:=svs) ss i pre post x0 y (by rw[s1,s3,s4,s5,s6]) hp k hi hx hy (Nat.le_of_ble_eq_true hl) hk
end
end Go.Sx
namespace Go.Sx
open Go.RowKit
set_option linter.unusedSimpArgs false
set_option linter.unusedVariables false
variable {α β:Type}
abbrev Hd:=Option Addr×Nat×Nat
def eH:Enc Hd:=⟨1,fun h=>[.slice h.1 h.2.1 h.2.2],fun _=>rfl,fun x v h=>by rw[List.mem_singleton.1 h];rfl⟩
instance:Pos eH:=⟨by decide⟩
def rows (E:Enc α):List Hd->List (List α)->List HP
  | h::hs,x::xs=>Ow E h.1 h.2.1 h.2.2 x::rows E hs xs
  | _,_=>[]
theorem TT {E:Enc α}{hd:List Hd}{xe:List (List α)}{i:Nat}{h:Hd}{x:List α}(h1:hd[i]?=some h)(h2:xe[i]?=some x):(rows E hd xe)[i]?=some (Ow E h.1 h.2.1 h.2.2 x):=by
  induction hd generalizing xe i with
  | nil=>cases h1
  | cons a az ih =>
    cases xe with
    | nil=>cases h2
    | cons b bs =>
      cases i with
      | zero =>
        simp only[List.getElem?_cons_zero,Option.some.injEq] at h1 h2;subst h1;subst h2;rfl
      | succ i =>
        simp only[List.getElem?_cons_succ] at h1 h2;exact ih h1 h2
theorem Oz {E:Enc α}:∀ (hd:List Hd) (xe:List (List α)) (i:Nat) (h:Hd) (x:List α),hd.length=xe.length->(rows E hd xe).set i (Ow E h.1 h.2.1 h.2.2 x)=rows E (hd.set i h) (xe.set i x)
  | [],xe,_,_,_,_=>rfl
  | _::_,[],_,_,_,h=>by cases h
  | a::az,b::bs,0,h,x,_=>rfl
  | a::az,b::bs,i+1,h,x,hl=>by
    simp only[List.length_cons,Nat.add_right_cancel_iff] at hl;simp only[rows,List.set_cons_succ,Oz az bs i h x hl]
theorem TU {E:Enc α}:∀ (hd hd2:List Hd) (xe Nv:List (List α)),hd.length=xe.length->rows E (hd++hd2) (xe++Nv)=rows E hd xe++rows E hd2 Nv
  | [],hd2,[],Nv,_=>rfl
  | [],_,_::_,_,h=>by cases h
  | _::_,_,[],_,h=>by cases h
  | a::az,hd2,b::bs,Nv,hl=>by
    simp only[List.length_cons,Nat.add_right_cancel_iff] at hl;simp only[List.cons_append,rows,TU az hd2 bs Nv hl]
theorem Hl {E:Enc α}:∀ (hd:List Hd) (xe:List (List α)),hd.length=xe.length->(rows E hd xe).length=hd.length
  | [],_,_=>by simp[rows]
  | _::_,[],h=>by cases h
  | a::az,b::bs,hl=>by
    simp only[List.length_cons,Nat.add_right_cancel_iff] at hl;simp[rows,Hl az bs hl]
def Pk (q:Prop)(l:List HP):HP where
  p w S R:=q/\Sep w l S R
  loc:=by
    rintro w w' S R ⟨h0,h⟩ hk;exact⟨h0,h.keep hk⟩
def O2 (E:Enc α)(A:Option Addr)(n c:Nat)(hd:List Hd)(xe:List (List α)):HP:=Pk (hd.length=xe.length) (Ow eH A n c hd::rows E hd xe)
def O2x (E:Enc α)(A:Option Addr)(n c:Nat)(hd:List Hd)(xe:List (List α))(i:Nat):HP:=Pk (hd.length=xe.length) (Ow eH A n c hd::(rows E hd xe).eraseIdx i)
section
variable {F O:Nat->Prop}{w0 w w':World}{hs rest:List HP}
theorem TV {β:Type}{l:List β}{i:Nat}{x:β}(h:l[i]?=some x):l.Perm (x::l.eraseIdx i):=by
  induction l generalizing i with
  | nil=>cases h
  | cons y l ih =>
    cases i with
    | zero =>
      simp only[List.getElem?_cons_zero,Option.some.injEq] at h;subst h;exact .refl _
    | succ i =>
      simp only[List.getElem?_cons_succ] at h;simp only[List.eraseIdx_cons_succ];exact(List.Perm.cons _ (ih h)).trans (.swap _ _ _)
theorem TW {β:Type}{l:List β}{i:Nat}(x:β)(h:i < l.length):(x::l.eraseIdx i).Perm (l.set i x):=by
  have h1:(l.set i x)[i]?=some x:=by simp[h]
  have h2:=TV h1;rw[List.eraseIdx_set_eq] at h2;exact h2.symm
theorem Cx.Zt {q:Prop}{l:List HP}(k:Cx F O w0 w (Pk q l::rest)):q/\Cx F O w0 w (l++rest):=by
  obtain⟨U,V,⟨S,R,U',V',⟨hq,h1⟩,h2,h3,h4,h5,h6⟩,hU,hV⟩:=k.sep;refine⟨hq,k.os,k.tape,k.output,k.size,k.block,k.fin,k.VM,_,_,Sep.join h1 h2 (fun b hb=>⟨(h5 b hb).1,(h5 b hb).2.2⟩) h6,fun b hb=>hU b ((h3 b).2 hb),fun b hb=>hV b ((h4 b).2 hb)⟩
theorem Cx.Yn {q:Prop}{l:List HP}(hq:q)(k:Cx F O w0 w (l++rest)):Cx F O w0 w (Pk q l::rest):=by
  obtain⟨U,V,h,hU,hV⟩:=k.sep;obtain⟨U1,V1,U2,V2,e1,e2,e3,e4,e5,e6⟩:=Sep.split h;refine⟨k.os,k.tape,k.output,k.size,k.block,k.fin,k.VM,U,V,⟨U1,V1,U2,V2,⟨hq,e1⟩,e2,e3,e4,fun b hb=>⟨(e5 b hb).1,fun hr=>Sep.apart e1 b hb hr,(e5 b hb).2⟩,e6⟩,hU,hV⟩
theorem O2.parts {E:Enc α}{A:Option Addr}{n c:Nat}{hd:List Hd}{xe:List (List α)}{S R:Nat->Prop}(h:(O2 E A n c hd xe).p w S R) :
    hd.length=xe.length/\(∃ S' R',(Ow eH A n c hd).p w S' R'/\∀ b,S' b->S b)/\∀ (j:Nat) (h:Hd) (x:List α),hd[j]?=some h->xe[j]?=some x->∃ S' R',(Ow E h.1 h.2.1 h.2.2 x).p w S' R'/\∀ b,S' b->S b:=by
  obtain⟨hl,hS⟩:=h;refine⟨hl,?_,fun j h x h1 h2=>?_⟩
  ·obtain⟨S',R',U',V',e1,e2,e3,_⟩:=Sep.cut (i:=0) rfl hS;exact⟨S',R',e1,fun b hb=>(e3 b).2 (.inl hb)⟩
  ·obtain⟨S',R',U',V',e1,e2,e3,_⟩:=Sep.cut (i:=j+1) (by rw[List.getElem?_cons_succ];exact TT h1 h2) hS;exact⟨S',R',e1,fun b hb=>(e3 b).2 (.inl hb)⟩
theorem Cx.hd2 {E:Enc α}{A:Option Addr}{n c:Nat}{hd:List Hd}{xe:List (List α)}(k:Cx F O w0 w hs)(i:Nat)(hi:hs[i]?=some (O2 E A n c hd xe)):Rd w A (eH.all hd):=by
  obtain⟨S,R,h⟩:=k.get i hi;obtain⟨_,⟨S',R',h1,_⟩,_⟩:=O2.parts h;exact Ow.rd' h1
theorem Cx.ny {E:Enc α}{A:Option Addr}{n c:Nat}{hd:List Hd}{xe:List (List α)}(k:Cx F O w0 w hs)(i:Nat)(hi:hs[i]?=some (O2 E A n c hd xe)):xe.length=n:=by
  obtain⟨S,R,h⟩:=k.get i hi;obtain⟨hl,⟨S',R',h1,_⟩,_⟩:=O2.parts h;rw[<- hl];exact h1.1
theorem Cx.hlen2 {E:Enc α}{A:Option Addr}{n c:Nat}{hd:List Hd}{xe:List (List α)}(k:Cx F O w0 w hs)(i:Nat)(hi:hs[i]?=some (O2 E A n c hd xe)):hd.length=n:=by
  obtain⟨S,R,h⟩:=k.get i hi;obtain⟨hl,⟨S',R',h1,_⟩,_⟩:=O2.parts h;exact h1.1
theorem Ow.lec' {E:Enc α}{A:Option Addr}{n c:Nat}{xs:List α}{S R:Nat->Prop}(h:(Ow E A n c xs).p w S R):n<=c:=by
  rcases h.2 with⟨_,h1,h2⟩ | ⟨g,t,cur,_,_,h3,_⟩ <;> omega
theorem Cx.at2 {E:Enc α}{A:Option Addr}{n c:Nat}{hd:List Hd}{xe:List (List α)}{j:Int}{x:List α}(k:Cx F O w0 w hs)(i:Nat)(hi:hs[i]?=some (O2 E A n c hd xe))(hx:aT xe j=some x):∃ B d,aT hd j=some (B,x.length,d)/\x.length<=d:=by
  obtain⟨S,R,h⟩:=k.get i hi;obtain⟨hl,_,h2⟩:=O2.parts h;obtain⟨h0,h1⟩:=bz hx;have hlt:=(List.getElem?_eq_some_iff.1 h1).1;have hh:hd[j.toNat]?=some (hd[j.toNat]'(hl▸hlt)):=List.getElem?_eq_getElem _;obtain⟨S',R',hp,_⟩:=h2 _ _ _ hh h1;refine⟨(hd[j.toNat]'(hl▸hlt)).1,(hd[j.toNat]'(hl▸hlt)).2.2,?_,?_⟩
  ·unfold aT;rw[if_pos h0,hh,hp.1]
  ·rw[hp.1];exact Ow.lec' hp
theorem C_ {β:Type}{l:List β}{j:Int}{x:β}(h:aT l j=some x):l[j.toNat]?=some x:=(bz h).2
theorem Cx.in2 {E:Enc α}{A:Option Addr}{n c m:Nat}{hd:List Hd}{xe:List (List α)}{j:Int}{x:List α}{B:Option Addr}{d:Nat}(k:Cx F O w0 w hs)(i:Nat)(hi:hs[i]?=some (O2 E A n c hd xe))(hx:aT xe j=some x)(hh:aT hd j=some (B,m,d)):Rd w B (E.all x):=by
  obtain⟨S,R,h⟩:=k.get i hi;obtain⟨hl,_,h2⟩:=O2.parts h;obtain⟨S',R',hp,_⟩:=h2 _ _ _ (C_ hh) (C_ hx);exact Ow.rd' hp
theorem Cx.Qr {E:Enc α}{A:Option Addr}{n c m:Nat}{hd:List Hd}{xe:List (List α)}{j:Int}{x:List α}{B:Option Addr}{d:Nat}(k:Cx F O w0 w (O2 E A n c hd xe::rest))(hx:aT xe j=some x)(hh:aT hd j=some (B,m,d)):Cx F O w0 w (O2x E A n c hd xe j.toNat::Ow E B m d x::rest):=by
  obtain⟨hl,k1⟩:=k.Zt;have hg:=TT (E:=E) (C_ hh) (C_ hx);refine Cx.Yn hl (k1.perm ?_);simp only[List.cons_append];refine .cons _ (List.Perm.trans (List.Perm.append_right rest (TV hg)) ?_);simp only[List.cons_append];exact List.perm_middle.symm
theorem Cx.Q3 {E:Enc α}{A:Option Addr}{n c m:Nat}{hd:List Hd}{xe:List (List α)}{j:Int}{x y:List α}{B:Option Addr}{d:Nat}(hx:aT xe j=some x)(hh:aT hd j=some (B,m,d))(k:Cx F O w0 w (O2x E A n c hd xe j.toNat::Ow E B m d y::rest)):Cx F O w0 w (O2 E A n c hd (xe.set j.toNat y)::rest):=by
  obtain⟨hl,k1⟩:=k.Zt;refine Cx.Yn (by simpa using hl) (k1.perm ?_);have hs:hd.set j.toNat (B,m,d)=hd:=by
    obtain⟨h1,h2⟩:=List.getElem?_eq_some_iff.1 (C_ hh);rw[<- h2];exact List.set_getElem_self h1
  have hr:=Oz (E:=E) hd xe j.toNat (B,m,d) y hl;rw[hs] at hr;simp only[List.cons_append];refine .cons _ (List.Perm.trans List.perm_middle ?_);rw[<- hr,<-List.cons_append];exact List.Perm.append_right rest (TW _ (by rw[Hl _ _ hl];exact(List.getElem?_eq_some_iff.1 (C_ hh)).1))
theorem Cx.nil2 (k:Cx F O w0 w hs)(E:Enc α):Cx F O w0 w (hs++[O2 E Option.none 0 0 [] []]):=by
  have k1:=k.nil eH;have k2:Cx F O w0 w (([Ow eH Option.none 0 0 []]:List HP)++hs):=k1.perm List.perm_append_comm;have k3:=Cx.Yn (q:=([]:List Hd).length=([]:List (List α)).length) rfl k2;exact k3.perm (List.perm_append_comm (l₁:=[_]))
end
section
variable {F O F1 O1:Nat->Prop}{w0 w w':World}{hs rest:List HP}{E:Enc α}{A:Option Addr}{hd:List Hd}{xe:List (List α)}
end
section
variable {P:Program}{n:Nat}{ops:Array Oper}{L:St}{w w0:World}{F O:Nat->Prop}{hs rest:List HP}{K:St->World->Prop}
theorem Op_mk2 {dst:Option Nat}{t ty:TypeId}{len:Nat}{parts:Array (Nat×Operand)}{pos:String}{nM:Array Edge}{g:Option (Nat×Bool)}{e:TypeId}{zs:List Value}{bytes:Nat}(tf:TF P t e zs bytes)
    (E:Enc α) (ss:List Nat) (d:Nat) (hd:List Hd) (xe:List (List α)) (ps:List (Nat×SV)) (svs:List SV)
    (hside:(Gy ops ss L ⟨dst,.buildSlice t len parts,ty,pos,nM,g⟩,dst,(decide (d < n)),(L.any fun p=>p.1 == d),(toPS parts.toList (lk L)).map (·.map fun p=>(p.1,p.2.val)))=(true,some d,true,false,some (ps.map fun p=>(p.1,p.2.val))))
    (hf:(JS (fun i=>some (i*zs.length,zs.length)) ((List.replicate len zs).flatten.map Jo) ps,decide (len*zs.length<=16777216),hd.length,eH.sz)=(some svs,true,len,zs.length)) (hx:SV.cl svs=eH.all hd) (hl:hd.length=xe.length)
    (k:Cx F O w0 w (rows E hd xe++rest)) (hk:∀ A w',Cx F O w0 w' (O2 E A len len hd xe::rest)->K ((d,.v (.slice A len len))::L) w') :
    FK P n ops L w ⟨dst,.buildSlice t len parts,ty,pos,nM,g⟩ K:=by
  refine yu tf eH ss d hd ps svs hside hf hx k fun A w' k'=>hk A w' (Cx.Yn hl (k'.perm ?_));exact(List.perm_append_comm (l₂:=[_])).trans (List.Perm.refl _)
theorem VS {dst:Option Nat}{x y:Operand}{t t2 ty:TypeId}{pos:String}{nM:Array Edge}{g:Option (Nat×Bool)}{e:TypeId}{zs:List Value}{bytes:Nat}(tf:TF P t e zs bytes)
    {E:Enc α} (ss:List Nat) (d:Nat) {A A2:Option Addr} {n1 n2 c c2:Nat} {hd hd2:List Hd} {xe Nv:List (List α)}
    (hside:(Gy ops ss L ⟨dst,.call ⟨.builtin .append,#[x,y],#[t,t2]⟩,ty,pos,nM,g⟩,dst,(decide (d < n)),(L.any fun p=>p.1 == d),(toSS [x,y] (lk L)).map SV.vals,(match P.underlying t2 with | some (.slice _)=>true | some .string=>true | _=>false),1)=(true,some d,true,false,some [.slice A n1 c,.slice A2 n2 c2],true,zs.length))
    (k:Cx F O w0 w (O2 E A n1 c hd xe::O2 E A2 n2 c2 hd2 Nv::rest)) (hroom:(n1+n2)*bytes<=140737488355328)
    (hk:∀ A' c' w',Cx F O w0 w' (O2 E A' (n1+n2) c' (hd++hd2) (xe++Nv)::rest)->K ((d,.v (.slice A' (n1+n2) c'))::L) w') :
    FK P n ops L w ⟨dst,.call ⟨.builtin .append,#[x,y],#[t,t2]⟩,ty,pos,nM,g⟩ K:=by
  have hl2:hd2.length=n2:=k.hlen2 1 rfl;have hrd:=k.hd2 1 rfl;obtain⟨hl,k1⟩:=k.Zt;have k2:Cx F O w0 w (O2 E A2 n2 c2 hd2 Nv::((Ow eH A n1 c hd::rows E hd xe)++rest)):=k1.perm (by simp only[List.cons_append];exact List.perm_middle (l₁:=_::_));obtain⟨hl',k3⟩:=k2.Zt;have hz:(1:Nat)=zs.length:=by simp only[Prod.mk.injEq] at hside;exact hside.2.2.2.2.2.2
  have k4:Cx F O w0 w (Ow eH A n1 c hd::(Ow eH A2 n2 c2 hd2::(rows E hd2 Nv++(rows E hd xe++rest)))):=k3.perm (by
    simp only[List.cons_append];exact(List.Perm.cons _ List.perm_middle).trans (.swap _ _ _))
  refine di (E:=eH) (v:=.v (.slice A2 n2 c2)) (ys:=hd2) tf ss d 0 hside k4 rfl (Src.sl hrd hl2 hz) hl2 hroom fun A' c' w' k'=>hk A' c' w' ?_;have k5:Cx F O w0 w' (Ow eH A' (n1+n2) c' (hd++hd2)::(rows E hd2 Nv++(rows E hd xe++rest))):=(k'.perm (.swap _ _ _)).tl;refine Cx.Yn (by simp[hl,hl']) (k5.perm ?_);rw[TU hd hd2 xe Nv hl];simp only[List.cons_append,List.append_assoc];refine .cons _ ?_;rw[<- List.append_assoc,<-List.append_assoc];exact List.Perm.append_right rest List.perm_append_comm
theorem Zu {ty t:TypeId}{p x:Operand}{pos:String}{nM:Array Edge}{g:Option (Nat×Bool)}{E:Enc α}(ss:List Nat){pa:Option Addr}{A B A2:Option Addr}{n1 c m d m2 d2:Nat}{hd:List Hd}{xe:List (List α)}{j:Int}{y:List α}
    (hside:(Gy ops ss L (⟨none,.store t p x,ty,pos,nM,g⟩:Oper),(none:Option Nat),(toSS [p,x] (lk L)).map SV.vals,zU P t)=(true,none,some [.pointer pa,.slice A2 m2 d2],some 1))
    (hp:Pt A (j.toNat*eH.sz+0) pa) (hh:aT hd j=some (B,m,d)) (k:Cx F O w0 w (O2x E A n1 c hd xe j.toNat::Ow E A2 m2 d2 y::rest))
    (hk:∀ w',Cx F O w0 w' (O2 E A n1 c (hd.set j.toNat (A2,m2,d2)) (xe.set j.toNat y)::rest)->K L w') :
    FK P n ops L w ⟨none,.store t p x,ty,pos,nM,g⟩ K:=by
  obtain⟨hl,k1⟩:=k.Zt;simp only[List.cons_append] at k1;have hA:A.isSome=true:=rD (E:=eH) (k1.rd 0 rfl) (by decide) (gm hh).1 (C_ hh);refine yL (E:=eH) (kk:=0) (sv:=.v (.slice A2 m2 d2)) (svs:=[.v (.slice A2 m2 d2)]) ss 0 (j:=j.toNat) (x0:=(B,m,d)) (A2,m2,d2) (by
    simp only[Prod.mk.injEq] at hside ⊢;exact⟨hside.1,hside.2.1,hside.2.2.1,hside.2.2.2,rfl,rfl⟩) hp k1 rfl (C_ hh) hA rfl (Nat.le_refl 1) fun w' k'=>hk w' (Cx.Yn (by simpa using hl) ?_)
  rw[List.set_cons_zero] at k';refine k'.perm ?_;simp only[List.cons_append];refine .cons _ (List.Perm.trans List.perm_middle ?_);have hr:=Oz (E:=E) hd xe j.toNat (A2,m2,d2) y hl;rw[<- hr,<-List.cons_append];exact List.Perm.append_right rest (TW _ (by rw[Hl _ _ hl];exact(List.getElem?_eq_some_iff.1 (C_ hh)).1))
end
section
variable {P:Program}{n:Nat}{Q:Act->World->Prop}{ops:Array Oper}{Ls:List Nat}{C:List (World->Prop)}{L L':St}{w:World}{π:MT}{p:Nat}
theorem Yo (L':St)(hk:L'.map (fun p=>(find L p.1).map SV.val)=L'.map (fun p=>some p.2.val)){listed:Array Bool}(h:MX P n ops Ls C Q π p listed (Kn L') w):MX P n ops Ls C Q π p listed (Kn L) w :=
  fun hns hmo hB hw=>Iy (q:=fun a w=>wpC P ops Ls (cls C) Q π.depth p listed a w) L' hk (fun a ha=>h hns hmo hB hw a ha)
theorem MX_sp (k:Nat)(c:Bool)(b:Bl L L')(hk:((k,SV.b c)::L').map (fun p=>(find L p.1).map SV.val)=((k,SV.b c)::L').map (fun p=>some p.2.val))
    (h1:c=true->∀ listed,MX P n ops Ls C Q π p listed (Kn ((k,.b true)::L')) w) (h2:c=false->∀ listed,MX P n ops Ls C Q π p listed (Kn ((k,.b false)::L')) w) {listed:Array Bool}:MX P n ops Ls C Q π p listed (Kn L) w:=by
  refine Yo ((k,SV.b c)::L') hk ?_;cases c with
  | true=>exact h1 rfl listed
  | false=>exact h2 rfl listed
theorem MX_off {i:Nat}{o:Oper}(d:Nat)(ss:List Nat)(hl:Ls.contains i=true)(ho:ops[i]?=some o)(hs:((TI ops o).map (settled ss (Kn L)),o.dst,decide (d < n),L.any fun p=>p.1 == d)=(some (some false),some d,true,false))
    (h:∀ listed,MX P n ops Ls C Q π (p+1) listed (Kn ((d,.qK [])::L)) w) {listed:Array Bool}:MX P n ops Ls C Q (.op i π) p listed (Kn L) w:=by
  intro hns hmo hB hw a ha;simp only[Prod.mk.injEq,decide_eq_true_eq,Option.map_eq_some_iff] at hs;obtain⟨⟨g,hg,hse⟩,hd,hn,hnew⟩:=hs;have hnx:nx Ls p i=p+1:=by unfold nx;rw[if_pos hl]
  simp only[Hf,Bool.and_eq_true,beq_iff_eq,hnx] at hB;obtain⟨hr,hB⟩:=hB;obtain⟨k,wv,rfl,_,h2⟩:=C9 ha hse;have hnw:Region.wanted o (yielded ops a.tmps)=false:=by
    cases hwant:Region.wanted o (yielded ops a.tmps) with
    | true=>exact absurd ((CZ hg).1 hwant k wv rfl) (h2 rfl)
    | false=>rfl
  refine⟨fun h0=>(by rw[h0] at hr;cases hr),fun j hj=>?_⟩;rw[hr] at hj;simp only[List.mem_singleton] at hj;subst hj;have hc:=hmo.le p (p+1) w (by omega) hw;unfold wpOp;simp only[ho,hnx];rw[if_neg (by simp[hnw]),hd];exact⟨hc,h _ hns hmo hB hc _ (ha.more (x:=.qK []) hn hnew)⟩
end
theorem Rd.nilA {w:World}{A:Option Addr}{cs:List Value}(h:Rd w A cs)(hA:A.isNone=true):cs=[]:=by
  cases cs with
  | nil=>rfl
  | cons v vs =>
    have:=h.isSome (off:=0) (v:=v) rfl;cases A <;> simp_all
theorem all_nil {E:Enc α}[hp:Pos E]{xs:List α}(h:E.all xs=[]):xs=[]:=by
  cases xs with
  | nil=>rfl
  | cons x xs =>
    have:=congrArg List.length h;rw[Enc.fK] at this;have hq:=hp.1;simp only[List.length_cons,List.length_nil] at this;exact absurd this (Nat.ne_of_gt (Nat.mul_pos (Nat.succ_pos _) hq))
end Go.Sx
namespace Go.Sx
open Go.ChangeShapes Go.WideShapes Go.ChangeAt Go.RowKit
set_option linter.unusedSimpArgs false
set_option linter.unusedVariables false
variable {α σ ρ:Type}
theorem bn {n:Int}(h:-9223372036854775808<=n/\n < 9223372036854775808):ay n=n:=by
  simp only[ay,IntKind.wrap,IntKind.signed,IntKind.bits,reduceIte];simp only[show(2:Int) ^ 64=18446744073709551616 from rfl,show(2:Int) ^ 63=9223372036854775808 from rfl,show(2:Nat) ^ 64=18446744073709551616 from rfl,show(2:Nat) ^ 63=9223372036854775808 from rfl,show(64 - 1:Nat)=63 from rfl]
  first | omega | (simp;omega)
theorem JX {xs:List α}{i:Nat}{x:α}(h:xs[i]?=some x):aT xs (i:Int)=some x:=by
  unfold aT;rw[if_pos (by omega)];simpa using h
theorem gB {xs ys:List α}{b:Nat}(h:(xs.length+ys.length)*b<=140737488355328):app xs ys b=some (xs++ys):=by
  unfold app;rw[if_pos h]
theorem jy {p:Prop}[Decidable p](h:p):need p=some ():=by
  unfold need;rw[if_pos h]
theorem yM {xs:List α}{lo hi:Int}(h:0<=lo/\lo<=hi/\hi<=xs.length):FM xs lo hi=some ((xs.take hi.toNat).drop lo.toNat):=by
  unfold FM;rw[if_pos h]
theorem mi {f:σ->Option (σ⊕ρ)}(P:Nat->σ->Prop)(Q:ρ->Prop)(n:Nat)
    (h:∀ i s,P i s->(i < n/\∃ s',f s=some (.inl s')/\P (i+1) s')∨∃ r,f s=some (.inr r)/\Q r) :
    ∀ s,P 0 s->∃ r,aZ f s=some r/\Q r:=by
  have key:∀ k i s,n - i<=k->P i s->∃ r,aZ f s=some r/\Q r:=by
    intro k
    induction k with
    | zero =>
      intro i s hk hp;rcases h i s hp with⟨hi,_⟩ | ⟨r,hr,hq⟩
      ·omega
      ·exact⟨r,je hr,hq⟩
    | succ k ih =>
      intro i s hk hp;rcases h i s hp with⟨hi,s',hs',hp'⟩ | ⟨r,hr,hq⟩
      ·rw[lX hs'];exact ih (i+1) s' (by omega) hp'
      ·exact⟨r,je hr,hq⟩
  exact fun s hp=>key n 0 s (by omega) hp
theorem mr {f:σ->Option (σ⊕ρ)}(P:Nat->σ->Prop)(r:ρ)(n:Nat)(s:σ)(h0:P 0 s)
    (h:∀ i s,P i s->(i < n/\∃ s',f s=some (.inl s')/\P (i+1) s')∨f s=some (.inr r)):aZ f s=some r:=by
  obtain⟨r',h1,rfl⟩:=mi P (fun r'=>r'=r) n (fun i s hp=>(h i s hp).imp id fun e=>⟨r,e,rfl⟩) s h0;exact h1
theorem gJ {f:σ->Option (σ⊕ρ)}(s:Nat->σ)(n:Nat){r:ρ}(h:∀ i,i < n->f (s i)=some (.inl (s (i+1))))(he:f (s n)=some (.inr r)):aZ f (s 0)=some r :=
  mr (fun i x=>x=s i/\i<=n) r n (s 0) ⟨rfl,by omega⟩ (by
    rintro i x ⟨rfl,hi⟩;by_cases hlt:i < n
    ·exact .inl ⟨hlt,_,h i hlt,rfl,by omega⟩
    ·obtain rfl:i=n:=by omega
     exact .inr he)
def Zv (k:IntKind)(w:World)(a:Option Addr)(len cap:Nat)(zs:List Int):Prop :=
  (a=none/\len=0/\cap=0/\zs=[]) ∨
  ∃ x,a=some x/\len<=cap/\cap<=maxLen/\zs.length=cap/\(∀ i,i < zs.length->w.cell? (x.add i)=some (.int k (zs.getD i 0)))/\∀ n ∈ zs,(Lit.int k n).wf=true
theorem wf_u8 {n:Int}(h:(Lit.int .u8 n).wf=true):0<=n/\n<=255:=by
  simpa [Lit.wf,IntKind.min,IntKind.max,IntKind.signed,IntKind.bits] using h
theorem wf_i64 {n:Int}(h:(Lit.int .i64 n).wf=true):-9223372036854775808<=n/\n<=9223372036854775807:=by
  simpa [Lit.wf,IntKind.min,IntKind.max,IntKind.signed,IntKind.bits] using h
theorem get_u8 {n:Int}(h:(Lit.int .u8 n).wf=true):∃ x:UInt8,Value.int .u8 n=SV.val (.u8 x):=by
  have:=wf_u8 h;refine⟨UInt8.ofNat n.toNat,?_⟩;simp only[SV.val,Value.int.injEq,true_and];simp;omega
theorem Zw {k:IntKind}{β:Type}{φ:β->Value}{w:World}{a:Option Addr}{len cap:Nat}{zs:List Int}(h:Zv k w a len cap zs)
    (hg:∀ n:Int,(Lit.int k n).wf=true->∃ x:β,Value.int k n=φ x):∃ b:List β,Rd w a (b.map φ)/\b.length=len/\len<=cap:=by
  rcases h with⟨rfl,rfl,rfl,rfl⟩ | ⟨x,rfl,hl,hm,hz,hc,hw⟩
  ·exact⟨[],⟨fun h=>absurd rfl h,fun _ _ _ h=>by cases h⟩,rfl,by omega⟩
  ·have key:∀ zs:List Int,(∀ n ∈ zs,(Lit.int k n).wf=true)->∃ b:List β,b.length=zs.length/\∀ (i:Nat) (n:Int),zs[i]?=some n->∃ y:β,b[i]?=some y/\Value.int k n=φ y:=by
     intro zs
     induction zs with
     | nil=>intro _;exact⟨[],rfl,fun i n h=>by simp at h⟩
     | cons z zs ih =>
       intro hw;obtain⟨b,hb,hi⟩:=ih fun n hn=>hw n (List.mem_cons_of_mem _ hn);obtain⟨y,hy⟩:=hg z (hw z List.mem_cons_self);refine⟨y::b,by simp[hb],fun i n hin=>?_⟩;cases i with
       | zero=>simp at hin;subst hin;exact⟨y,by simp,hy⟩
       | succ i=>simp at hin;obtain⟨y',h1,h2⟩:=hi i n hin;exact⟨y',by simpa using h1,h2⟩
   obtain⟨b,hb,hi⟩:=key zs hw;refine⟨b.take len,⟨fun _=>⟨x,rfl⟩,fun a j u ha hu=>?_⟩,by simp;omega,hl⟩;cases ha;rw[List.map_take,List.getElem?_take] at hu;split at hu
   ·rename_i hj;have hjz:j < zs.length:=by omega
    obtain⟨y,h1,h2⟩:=hi j zs[j] (by simp[hjz]);rw[List.getElem?_map,h1] at hu;simp only[Option.map_some,Option.some.injEq] at hu;rw[hc j hjz,<-hu,<-h2];simp[hjz]
   ·cases hu
theorem VT {w:World}{a:Option Addr}{len cap:Nat}{zs:List Int}(h:Zv .u8 w a len cap zs):∃ b:List UInt8,Rd w a (b.map bV)/\b.length=len/\len<=cap :=
  Zw h fun n hn=>by obtain⟨x,hx⟩:=get_u8 hn;exact⟨x,hx⟩
section
variable {H:Type}{enc:TypeId×Value->H}{P:Program}{w:World}{held:Bool}
theorem open_row {t e:TypeId}{k:IntKind}{fuel:Nat}{cs:List Value}{x:DataW H×List MemPlace}(ht:P.underlying t=some (.slice e))(he:P.underlying e=some (.int k))(hc:P.cellsOf e=1)
    (h:DataW.trod enc P w 0 (fun _=>true) held fuel t cs=some x) :
    ∃ a len cap zs,cs=[.slice a len cap]/\Zv k w a len cap zs/\(len=0∨(x.1=.slice (lits k (zs.take len)) (lits k (zs.drop len))/\len<=zs.length)):=by
  rcases open_ints ht he hc h with⟨rfl,_⟩ | ⟨x',l,c,zs,rfl,_,hl,hm,hz,hxx,hcell,hwz⟩
  ·exact⟨none,0,0,[],rfl,.inl ⟨rfl,rfl,rfl,rfl⟩,.inl rfl⟩
  ·simp only[if_true] at hz;refine⟨some x',l,c,zs,rfl,.inr ⟨_,rfl,hl,hm,by simpa using hz,hcell,hwz⟩,.inr ⟨by rw[hxx],by omega⟩⟩
theorem Zx {t:TypeId}{fs:Array Field}{fuel:Nat}{cs:List Value}{x:DataW H×List MemPlace}(ht:P.underlying t=some (.struct fs))(h:DataW.trod enc P w 0 (fun _=>true) held fuel t cs=some x) :
    ∃ (xs:List (DataW H×List MemPlace)) (n:Nat),x.1=.agg (xs.map (·.1))/\cs.length=P.cellsOf t/\∀ (i:Nat) (f:Field) (ft:TypeId) (off len:Nat),fs[i]?=some f->f.type=ft->f.offset=off->P.cellsOf ft=len ->
      ∃ y,y.1 ∈ xs.map (·.1)/\DataW.trod enc P w 0 (fun _=>true) held n ft ((cs.drop off).take len)=some y:=by
  obtain⟨xs,n,_,rfl,hl,hlen,hf⟩:=DataW.trod_struct ht h;refine⟨xs,n,rfl,hl,?_⟩;rintro i f ft off len hi rfl rfl rfl;have hlt:i < xs.length:=by
    rw[hlen];have:=(Array.getElem?_eq_some_iff.1 hi).1;exact this
  refine⟨xs[i],List.mem_map.2 ⟨xs[i],List.getElem_mem hlt,rfl⟩,?_⟩;rw[hf i f hi];simp[hlt]
end
theorem OA (cs:List Value)(off n off2:Nat)(h:off+n=off2):cs.drop off=(cs.drop off).take n++cs.drop off2:=by
  subst h;rw[<- List.drop_drop,List.take_append_drop]
theorem cut_end (cs:List Value)(n m:Nat)(h:cs.length=n)(hm:n=m):cs.drop m=[]:=by
  subst hm;subst h;simp
end Go.Sx
namespace Go.Sx
open Go.RowKit Go.ChangeShapes Go.WideShapes Go.ChangeAt
set_option linter.unusedSimpArgs false
set_option linter.unusedVariables false
section
variable {P:Program}{n:Nat}{ops:Array Oper}{L:St}{w:World}{K:St->World->Prop}
end
section
variable {α:Type}{F O:Nat->Prop}{w0 w:World}{hs:List HP}
end
section
variable {α:Type}{F O:Nat->Prop}{w0 w:World}{hs rest:List HP}{E:Enc α}{A:Option Addr}{n c m:Nat}{hd:List Hd}{xe:List (List α)}
end
section
variable {P:Program}{n:Nat}{ops:Array Oper}{L:St}{w w0:World}{F O:Nat->Prop}{hs:List HP}{K:St->World->Prop}
end
section
variable {P:Program}{n:Nat}{Q:Exit->Act->World->Prop}{L L':St}{w:World}{c:Code}
def Lp (P:Program)(c:Code)(Q:Exit->Act->World->Prop)(a:Act)(w:World):Prop :=
  ∀ b k cs,∃ e a' w',Q e a' w'/\Arrives P (lone (b.at a (.code c::.inLoop c::k)) cs w) b k cs e a' w'
theorem Lp.start {a:Act}(h:Lp P c Q a w):(Code.loop c).wp P Q a w:=by
  intro b k cs;obtain⟨e,a',w',hq,harr⟩:=h b k cs;exact⟨e,a',w',hq,.of_steps (.one step_loop) harr⟩
theorem Lp.round {a:Act}(h:c.wp P (Exit.then (Lp P c Q) Q) a w):Lp P c Q a w:=by
  intro b k cs;obtain⟨e,a₁,w₁,hq,harr⟩:=h b (.inLoop c::k) cs;cases e with
  | normal =>
    obtain⟨e₂,a₂,w₂,hq₂,harr₂⟩:=hq b k cs;exact⟨e₂,a₂,w₂,hq₂,.of_steps (Steps.trans harr (.one step_inLoop)) harr₂⟩
  | exit id=>exact⟨_,a₁,w₁,hq,.pass (x:=.inLoop c) rfl (fun _ _=>.inl (by simp)) harr⟩
  | goto l=>exact⟨_,a₁,w₁,hq,.pass (x:=.inLoop c) rfl (fun _ _=>.inl (by simp)) harr⟩
  | ret=>exact⟨_,a₁,w₁,hq,.pass (x:=.inLoop c) rfl (fun _ _=>.inl (by simp)) harr⟩
  | panic ch=>exact⟨_,a₁,w₁,hq,.pass (x:=.inLoop c) rfl (fun _ _=>.inl (by simp)) harr⟩
  | outgrown=>exact⟨_,a₁,w₁,hq,.pass (x:=.inLoop c) rfl (fun _ _=>.inl (by simp)) harr⟩
theorem Yp (h:W P n c (Exit.then (Lp P c Q) Q) L w):W P n (.loop c) Q L w:=fun a ha=>Lp.start (Lp.round (h a ha))
theorem tK (h:W P n c (Exit.then (Lp P c Q) Q) L w):At n (Exit.then (Lp P c Q) Q .normal) L w:=fun a ha=>Lp.round (h a ha)
end
section
variable {P:Program}{n:Nat}{ops:Array Oper}{L:St}{w:World}{K:St->World->Prop}
end
def Q4 (s:List UInt8)(c:UInt8):Int:=firstIdx ⟨⟨s⟩⟩ c
structure IsIx (P:Program)(f:FuncId):Prop where
  ok : ∃ fn, P.funcs[f]? = some fn /\ (fn.name == "runtime.NumGoroutine") = false /\ fn.body.isNone = true /\ Extern.findNext fn = none /\ Extern.find fn = some Extern.BytealgIndexByte.indexByte
section
variable {P:Program}{n:Nat}{ops:Array Oper}{L:St}{w:World}{K:St->World->Prop}
theorem Op_idxb {dst:Option Nat}{f:FuncId}{xs:Array Operand}{ats:Array TypeId}{ty:TypeId}{pos:String}{nM:Array Edge}{g:Option (Nat×Bool)}(hf:IsIx P f)(ss:List Nat)(d:Nat)(s:List UInt8)(c:UInt8)
    (hs:(Gy ops ss L ⟨dst,.call ⟨.value (.func f),xs,ats⟩,ty,pos,nM,g⟩,dst,(decide (d < n)),(L.any fun p=>p.1 == d),(toSS xs.toList (lk L)).map SV.vals)=(true,some d,true,false,some [.string ⟨⟨s⟩⟩,.int .u8 c.toNat]))
    (hk:K ((d,I (Q4 s c))::L) w):FK P n ops L w ⟨dst,.call ⟨.value (.func f),xs,ats⟩,ty,pos,nM,g⟩ K:=by
  simp only[Prod.mk.injEq,Option.map_eq_some_iff,decide_eq_true_eq] at hs;obtain⟨s1,s2,s3,s4,⟨vs,s5,s6⟩⟩:=hs;subst s2;refine Fa (xs:=xs.toList) (svs:=vs) ss (d:=d) (by simp[Side,s1,s3,s4,s5]) fun a ha he=>?_;rw[s6] at he;have hargs:(#[]++xs.map a.eval++#[]:Array Value)=#[.string ⟨⟨s⟩⟩,.int .u8 c.toNat]:=by
    apply Array.ext';simpa using he
  obtain⟨fn,h1,h2,h3,h4,h5⟩:=hf.ok;have hrun:(execOp a.eval ⟨some d,.call ⟨.value (.func f),xs,ats⟩,ty,pos,nM,g⟩).run P w=.ok (.value (SV.val (I (Q4 s c)))) w:=by
    show(callFunc f (#[]++xs.map a.eval++#[])).run P w=_;rw[hargs,run_callFunc_extern h1 h2 h3 h4 h5,run_indexByte_string];have e:((c.toNat:Int)).toNat.toUInt8=c:=by simp
    rw[e];rfl
  unfold Oper.wp;rw[hrun];exact⟨_,rfl,hk⟩
end
def eQ:Enc (Option Addr):=⟨1,fun a=>[.pointer a],fun _=>rfl,fun x v h=>by rw[List.mem_singleton.1 h];rfl⟩
instance:Pos eQ:=⟨by decide⟩
def Tot:List (List UInt8)->Nat
  | []=>0
  | x::xs=>x.length+1+Tot xs
section
variable {H:Type}{enc:TypeId×Value->H}{P:Program}{w:World}{held:Bool}
def Fam:List (DataW H)->List (List UInt8)->Prop
  | [],[]=>True
  | d::ds,x::xs=>(x=[]∨∃ zs:List Int,d=.slice (lits .u8 (zs.take x.length)) (lits .u8 (zs.drop x.length))/\x.length<=zs.length)/\Fam ds xs
  | _,_=>False
end
section
variable {ops:Array Oper}{Ls:List Nat}
def Q5 (ops:Array Oper)(m:Nat)(i:Nat):Bool:=!m.testBit i&&((ops[i]?).map (·.after.all fun e=>!Region.binds .any e||m.testBit e.on)).getD false
def Zy (ops:Array Oper)(m:Nat)(i:Nat):Bool :=
  match ops[i]? with
  | none=>false
  | some oi=>(List.range ops.size).all fun j=>j == i||m.testBit j||match ops[j]? with
      | some oj=>oj.after.any (fun e=>Region.binds .any e&&e.on == i)||oi.apart ops oj
      | none=>true
def VU (ops:Array Oper)(Ls:List Nat)(m:Nat)(i:Nat):Nat:=(Ls.filter fun j=>decide (j < ops.size)&&!m.testBit j&&!Ey ops m.testBit j i).length
def PZ (ops:Array Oper)(Ls:List Nat):MT->Nat->Nat->Bool
  | .nil,_,m=>(List.range ops.size).all fun i=>!Q5 ops m i
  | .q i k π,p,m=>decide (i < ops.size)&&Q5 ops m i&&Zy ops m i&&!Ls.contains i&&decide (p+VU ops Ls m i<=k)&&PZ ops Ls π p (m|||2 ^ i)
  | .op i π,p,m=>((List.range ops.size).filter fun j=>Q5 ops m j) == [i]&&PZ ops Ls π (nx Ls p i) (m|||2 ^ i)
  | .br i j ri rj,p,m=>((List.range ops.size).filter fun j=>Q5 ops m j) == [i,j]&&rj.depth == ri.depth&&PZ ops Ls ri (nx Ls p i) (m|||2 ^ i)&&PZ ops Ls rj (nx Ls p j) (m|||2 ^ j)
def Rel (ops:Array Oper)(listed:Array Bool)(m:Nat):Prop:=listed.size=ops.size/\∀ j,listed.getD j false=m.testBit j
theorem Rel.lt {listed:Array Bool}{m:Nat}(h:Rel ops listed m){j:Nat}(hj:j < ops.size):listed.getD j true=m.testBit j:=by
  rw[<- h.2 j,Array.getD_eq_getD_getElem?,Array.getD_eq_getD_getElem?,Array.getElem?_eq_getElem (by rw[h.1];exact hj)];rfl
theorem Rel.ge {listed:Array Bool}{m:Nat}(h:Rel ops listed m){j:Nat}(hj:¬ j < ops.size):listed.getD j true=true:=by
  rw[Array.getD_eq_getD_getElem?,Array.getElem?_eq_none (by rw[h.1];omega)];rfl
theorem Rel.ready {listed:Array Bool}{m:Nat}(h:Rel ops listed m):Region.ready .any ops listed=(List.range ops.size).filter fun j=>Q5 ops m j:=by
  unfold Region.ready;refine List.filter_congr fun i hi=>?_;rw[List.mem_range] at hi;unfold Q5;rw[h.lt hi];simp only[h.2]
theorem Rel.free {listed:Array Bool}{m i:Nat}(h:Rel ops listed m):Region.free .any ops listed i=Zy ops m i:=by
  unfold Region.free Zy;cases ho:ops[i]? with
  | none=>rfl
  | some oi =>
    simp only[];rw[Bool.eq_iff_iff,List.all_eq_true,List.all_eq_true];refine⟨fun hq j hj=>?_,fun hq j hj=>?_⟩
    ·have:=hq j hj;rw[h.lt (List.mem_range.1 hj)] at this;exact this
    ·have:=hq j hj;rw[h.lt (List.mem_range.1 hj)];exact this
theorem Rel.ahd {listed:Array Bool}{m i:Nat}(h:Rel ops listed m):ahead ops Ls listed i=VU ops Ls m i:=by
  unfold ahead VU;congr 1;refine List.filter_congr fun j _=>?_;have hf:(fun x=>listed.getD x false)=m.testBit:=funext h.2;rw[hf];by_cases hj:j < ops.size
  ·rw[h.lt hj,decide_eq_true hj];rfl
  ·rw[h.ge hj,decide_eq_false hj];rfl
theorem Rel.step {listed:Array Bool}{m i:Nat}(h:Rel ops listed m)(hi:i < ops.size):Rel ops (listed.setIfInBounds i true) (m|||2 ^ i):=by
  refine⟨by simpa using h.1,fun j=>?_⟩;rw[Nat.testBit_or,Nat.testBit_two_pow];by_cases hij:i=j
  ·subst hij;rw[Array.getD_eq_getD_getElem?,Array.getElem?_setIfInBounds_self_of_lt (by rw[h.1];exact hi)];simp
  ·rw[<- h.2 j,Array.getD_eq_getD_getElem?,Array.getElem?_setIfInBounds_ne hij,<-Array.getD_eq_getD_getElem?];simp[hij]
theorem OB:∀ (π:MT) (p m:Nat) (listed:Array Bool),Rel ops listed m->PZ ops Ls π p m=true->Hf ops Ls π p listed=true
  | .nil,p,m,listed,h,hq=>by
    simp only[Hf,h.ready,List.isEmpty_iff,List.filter_eq_nil_iff];simp only[PZ,List.all_eq_true,Bool.not_eq_true'] at hq;intro a ha;rw[hq a ha];exact Bool.false_ne_true
  | .q i k π,p,m,listed,h,hq=>by
    simp only[PZ,Bool.and_eq_true,decide_eq_true_eq,Bool.not_eq_true'] at hq;obtain⟨⟨⟨⟨⟨h1,h2⟩,h3⟩,h4⟩,h5⟩,h6⟩:=hq;simp only[Hf,Bool.and_eq_true,decide_eq_true_eq,Bool.not_eq_true'];refine⟨⟨⟨⟨?_,by rw[h.free];exact h3⟩,h4⟩,by rw[h.ahd];exact h5⟩,OB π p _ _ (h.step h1) h6⟩;rw[h.ready,List.contains_iff_mem,List.mem_filter];exact⟨List.mem_range.2 h1,h2⟩
  | .op i π,p,m,listed,h,hq=>by
    simp only[PZ,Bool.and_eq_true] at hq;simp only[Hf,Bool.and_eq_true];have hi:i < ops.size:=by
      have:i ∈ (List.range ops.size).filter fun j=>Q5 ops m j:=by rw[beq_iff_eq.1 hq.1];exact List.mem_singleton.2 rfl
      exact List.mem_range.1 (List.mem_filter.1 this).1
    exact⟨by rw[h.ready];exact hq.1,OB π _ _ _ (h.step hi) hq.2⟩
  | .br i j ri rj,p,m,listed,h,hq=>by
    simp only[PZ,Bool.and_eq_true] at hq;obtain⟨⟨⟨h1,h2⟩,h3⟩,h4⟩:=hq;simp only[Hf,Bool.and_eq_true];have hi:i < ops.size:=by
      have:i ∈ (List.range ops.size).filter fun j=>Q5 ops m j:=by rw[beq_iff_eq.1 h1];simp
      exact List.mem_range.1 (List.mem_filter.1 this).1
    have hj:j < ops.size:=by
      have:j ∈ (List.range ops.size).filter fun j=>Q5 ops m j:=by rw[beq_iff_eq.1 h1];simp
      exact List.mem_range.1 (List.mem_filter.1 this).1
    exact⟨⟨⟨by rw[h.ready];exact h1,h2⟩,OB ri _ _ _ (h.step hi) h3⟩,OB rj _ _ _ (h.step hj) h4⟩
end
theorem W_mN {P:Program}{n:Nat}{Q:Exit->Act->World->Prop}{L:St}{w w0:World}{F O:Nat->Prop}{hs:List HP}{id:Nat}{l:List Oper}{C:List (World->Prop)}(hm:P.follows .mixedOrders=true)(π:MT)(Ls:List Nat)(k:Cx F O w0 (w.drewN 1) hs)(ch:Chain F O w0 hs C)
    (hB:(Region.noSelect l.toArray,PZ l.toArray Ls π 0 0,π.depth == l.length)=(true,true,true)) (h:∀ listed,MX P n l.toArray Ls C (Q .normal) π 0 listed (Kn L) (w.drewN 1)) :
    W P n (.region id l.toArray true) Q L w:=by
  simp only[Prod.mk.injEq] at hB;refine zT hm π Ls k ch ?_ h;rw[hB.1,hB.2.2,OB π 0 0 (Array.replicate l.length false) ⟨by simp,fun j=>?_⟩ hB.2.1];rw[Array.getD_eq_getD_getElem?,Nat.zero_testBit];by_cases hj:j < l.length
  ·simp[hj]
  ·simp[hj]
end Go.Sx
namespace Go.Sx
open Go.RowKit Go.MapKept
set_option linter.unusedSimpArgs false
set_option linter.unusedVariables false
section
variable {P:Program}{n:Nat}{ops:Array Oper}{L:St}{w w0:World}{F O:Nat->Prop}{hs:List HP}{K:St->World->Prop}
end
end Go.Sx
namespace Go.Sx
open Go.RowKit
set_option linter.unusedSimpArgs false
set_option linter.unusedVariables false
variable {α β γ δ:Type}
section
variable {F O F1 O1:Nat->Prop}{w0 w w':World}{hs:List HP}
end
def hV (h:Hd):Value:=.slice h.1 h.2.1 h.2.2
section
variable {F O:Nat->Prop}{w0 w:World}{hs rest:List HP}{E:Enc α}{b:Nat}{ks:List (List UInt8)}{hd:List Hd}{xe:List (List α)}
end
section
variable {P:Program}{n:Nat}{ops:Array Oper}{L:St}{w w0:World}{F O:Nat->Prop}{hs rest:List HP}{K:St->World->Prop}{E:Enc α}
end
end Go.Sx
namespace Go.Sx
open Go.RowKit Go.MapKept
set_option linter.unusedSimpArgs false
set_option linter.unusedVariables false
variable {α:Type}
section
variable {P:Program}{n:Nat}{ops:Array Oper}{L:St}{w w0:World}{F O:Nat->Prop}{hs rest:List HP}{K:St->World->Prop}
variable {E:Enc α}{b r:Nat}{ks left:List (List UInt8)}{hd:List Hd}{xe:List (List α)}
end
section
variable {P:Program}{n:Nat}{Q:Exit->Act->World->Prop}{L L':St}{w:World}
end
end Go.Sx
namespace Go.Sx
open Go.RowKit
set_option linter.unusedSimpArgs false
set_option linter.unusedVariables false
variable {α β γ δ ε ζ:Type}
structure Rl (γ δ:Type) where
  r:World->(Nat->Prop)->γ->δ->Prop
  loc:∀ w w' R y x,r w R y x->(∀ b,R b->w'.heap[b]?=w.heap[b]?)->r w' R y x
  mono:∀ w R R' y x,(∀ b,R b->R' b)->r w R y x->r w R' y x
section
variable {F O:Nat->Prop}{w0 w w':World}{hs rest:List HP}
variable {E:Enc γ}{q:Rl γ δ}{A:Option Addr}{n c:Nat}{ys:List γ}{xs:List δ}
end
section
variable {F O:Nat->Prop}{w0 w:World}{hs:List HP}
end
section
variable {F O F1 O1:Nat->Prop}{w0 w w':World}{hs rest:List HP}{E:Enc γ}{q:Rl γ δ}{A:Option Addr}{ys:List γ}{xs:List δ}
end
section
variable {P:Program}{n:Nat}{ops:Array Oper}{L:St}{w w0:World}{F O:Nat->Prop}{hs rest:List HP}{K:St->World->Prop}{E:Enc γ}{q:Rl γ δ}
end
end Go.Sx
namespace Go.Sx
open Go.RowKit
set_option linter.unusedSimpArgs false
set_option linter.unusedVariables false
variable {γ δ:Type}
section
variable {H:Type}{enc:TypeId×Value->H}{P:Program}{w:World}{held:Bool}
end
end Go.Sx
namespace Go.Sx
open Go.RowKit
set_option linter.unusedSimpArgs false
set_option linter.unusedVariables false
variable {α β γ δ:Type}
section
variable {F O F1 O1:Nat->Prop}{w0 w w':World}{hs rest:List HP}{E:Enc α}{A:Option Addr}{n c:Nat}{x:List α}
end
section
variable {σ ρ:Type}{P:Program}{n:Nat}{Q:Exit->Act->World->Prop}{c:Code}{L L':St}{w0:World}
end
end Go.Sx
namespace Go.Sx
open Go.RowKit
set_option linter.unusedSimpArgs false
set_option linter.unusedVariables false
section
variable {α β σ ρ:Type}{P:Program}{n:Nat}{Q:Exit->Act->World->Prop}{ops:Array Oper}{L L':St}{w w0:World}{os:List SV}{cs:List Cond}{F O:Nat->Prop}{hs:List HP}{rest:List Oper}
theorem Wa {id:Nat}{l:List Oper}{y:Code}(b:Bl L L')(q:Ask os cs w)(h:W P n y Q L' w)(hs:(evs P n l.toArray [] l (Kn L) os).map (fun r=>(L'.map fun e=>(look r.1 e.1).map fun e=>(e.g,e.x.val),r.2.1,r.2.2))=some (L'.map fun p=>some (none,p.2.val),cs,[]):=by kernel_rfl):W P n (.region id l.toArray false) (Exit.then (y.wp P Q) Q) L w:=j_ [] b q hs (au h)
theorem Wq {id:Nat}{l:List Oper}{y:Code}(b:Bl L L')(h:W P n y Q L' w)(hs:(evs P n l.toArray [] l (Kn L) []).map (fun r=>(L'.map fun e=>(look r.1 e.1).map fun e=>(e.g,e.x.val),r.2.1,r.2.2))=some (L'.map fun p=>some (none,p.2.val),[],[]):=by kernel_rfl):W P n (.region id l.toArray false) (Exit.then (y.wp P Q) Q) L w:=Wa b qe h hs
theorem Wl {l:List Oper}(k:Nat)(b:Bl L L')(q:Ask os cs w)(h:WL P n ops Q (l.drop k) L' w)(hs:(evs P n ops [] (l.take k) (Kn L) os).map (fun r=>(L'.map fun e=>(look r.1 e.1).map fun e=>(e.g,e.x.val),r.2.1,r.2.2))=some (L'.map fun p=>some (none,p.2.val),cs,[]):=by kernel_rfl):WL P n ops Q l L w:=Gz k [] b q hs h
theorem We {l:List Oper}(k:Nat)(b:Bl L L')(h:WL P n ops Q (l.drop k) L' w)(hs:(evs P n ops [] (l.take k) (Kn L) []).map (fun r=>(L'.map fun e=>(look r.1 e.1).map fun e=>(e.g,e.x.val),r.2.1,r.2.2))=some (L'.map fun p=>some (none,p.2.val),[],[]):=by kernel_rfl):WL P n ops Q l L w:=Gz k [] b qe hs h
theorem Wn {ops:Array Oper}{y:Code}(h:W P n y Q L w):WL P n ops (Exit.then (y.wp P Q) Q) [] L w:=bZ (au h)
theorem dY {f:FuncId}{fn:Func}{c:Code}{R:Ending->World->Prop}(xs:List SV)(hf:P.funcs[f]?=some fn)(hb:fn.body=some c)(h:W P fn.ntmps c (bodyPost P fn R) (numbered 0 xs) w)(hn:decide (xs.length<=fn.ntmps)=true:=by kernel_rfl):Calls P f (vals xs) w R:=calls xs hf hb (of_decide_eq_true hn) h
theorem aH {fn:Func}{R:Ending->World->Prop}(xs:List SV)(q:Ask os cs w)(h:R (.returned (Qm xs).val) w)(hr:Nu P fn.results.toList L os=some (xs,cs,[]):=by kernel_rfl):At n (bodyPost P fn R .ret) L w:=At_rt xs q hr h
theorem fC {Q:Exit->Act->World->Prop}{K:St->World->Prop}(h:K L' w)(hk:L'.map (fun p=>(find L p.1).map SV.val)=L'.map (fun p=>some p.2.val):=by kernel_rfl):At n (Exit.then (fun a w=>∃ L,Fu n a (Kn L)/\K L w) Q .normal) L w:=At_c h hk
theorem si {a b:α}(h:some a=some b):a=b:=Option.some.inj h
theorem W_cz {k:Nat}{x y:Code}(c:Bool)(h1:c=true->W P n x Q L w)(h2:c=false->W P n y Q L w)(hf:find L k=some (.b c):=by kernel_rfl):W P n (.cond (.tmp k) x y) Q L w:=iK c hf h1 h2
theorem d_ {p:Nat}{Ls:List Nat}{C:List (World->Prop)}{Q:Act->World->Prop}{π:MT}{listed:Array Bool}(k m:Nat)(b:Bl L L')(q:∀ w,cls C m w->Ask os cs w)
    (h:∀ listed',MX P n ops Ls C Q (π.drop k) p listed' (Kn L') w) (hs:((VQ ops m k π).bind fun l=>evs P n ops [] l (Kn L) os).map (fun r=>(L'.map fun e=>(look r.1 e.1).map fun e=>(e.g,e.x.val),r.2.1,r.2.2))=some (L'.map fun p=>some (none,p.2.val),cs,[]):=by kernel_rfl):MX P n ops Ls C Q π p listed (Kn L) w:=MXq k m [] b q hs h
theorem aI {K:St->World->Prop}{dst:Option Nat}{f:FuncId}{xs:Array Operand}{ats:Array TypeId}{ty:TypeId}{pos:String}{nM:Array Edge}{g:Option (Nat×Bool)}(d:Nat){svs:List SV}{R:Ending->World->Prop}(hgo:dX P f)(hc:Calls P f (vals svs) w R)
    (hk:∀ e w',R e w'->∃ x,e=.returned x.val/\K ((d,x)::L) w')
    (hs:(Gy ops [] L ⟨dst,.call ⟨.value (.func f),xs,ats⟩,ty,pos,nM,g⟩,dst,(decide (d < n)),(L.any fun p=>p.1 == d),(toSS xs.toList (lk L)).map SV.vals)=(true,some d,true,false,some (SV.vals svs)):=by kernel_rfl) :
    FK P n ops L w ⟨dst,.call ⟨.value (.func f),xs,ats⟩,ty,pos,nM,g⟩ K:=vZ [] d svs hgo hs hc hk
theorem fQ {K:St->World->Prop}{ty t:TypeId}{p x:Operand}{pos:String}{nM:Array Edge}{g:Option (Nat×Bool)}(i:Nat){pa:Option Addr}(sv:SV)(svs:List SV){bt:TypeId}{b:Nat}{ys zs:List SV}{off:Nat}
    (hp:Pt (some ⟨b,0,none⟩) off pa) (k:Cx F O w0 w hs) (hi:hs[i]?=some (Bx bt b ys)) (md:Mid svs ys zs)
    (hk:∀ w',Cx F O w0 w' (hs.set i (Bx bt b zs))->K L w')
    (hside:(Gy ops [] L (⟨none,.store t p x,ty,pos,nM,g⟩:Oper),(none:Option Nat),(toSS [p,x] (lk L)).map SV.vals,zU P t,cellsS sv,svs.all SV.one1)=(true,none,some [.pointer pa,sv.val],some (SV.width svs),some svs,true):=by kernel_rfl)
    (hz:(Vz off (SV.width svs) svs ys).map SV.cl=some (SV.cl zs):=by kernel_rfl) :
    FK P n ops L w ⟨none,.store t p x,ty,pos,nM,g⟩ K:=Op_b [] i sv svs hp k hi md hside hz hk
theorem jH {K:St->World->Prop}{ty t:TypeId}{p x:Operand}{pos:String}{nM:Array Edge}{g:Option (Nat×Bool)}{E:Enc α}(i:Nat){pa:Option Addr}(sv:SV)(svs:List SV){bt:TypeId}{b:Nat}{m o o':Nat}{x0 x1:Vec α m}{ys zs:List SV}{j:Int}{e0 y:α}
    (hv:lD x0 j y=x1) (hx:aT x0.l j=some e0) (hp:Pt (some ⟨b,0,none⟩) (o'+(j.toNat*E.sz+0)) pa) (k:Cx F O w0 w hs) (hi:hs[i]?=some (Bx bt b ys)) (vu:Vup ys E x0 x1 o zs) (hy:E.f y=pat (E.f e0) 0 (SV.cl svs))
    (hk:∀ w',Cx F O w0 w' (hs.set i (Bx bt b zs))->K L w')
    (hside:(Gy ops [] L (⟨none,.store t p x,ty,pos,nM,g⟩:Oper),(none:Option Nat),(toSS [p,x] (lk L)).map SV.vals,zU P t,cellsS sv,svs.all SV.one1,o')=(true,none,some [.pointer pa,sv.val],some (SV.width svs),some svs,true,o):=by kernel_rfl)
    (hl:Nat.ble (0+SV.width svs) E.sz=true:=by kernel_rfl) :
    FK P n ops L w ⟨none,.store t p x,ty,pos,nM,g⟩ K:=Op_vs (kk:=0) [] i sv svs hv hx hp k hi vu hy hside hl hk
end
end Go.Sx
namespace Go.Sx
open Go.RowKit
set_option linter.unusedSimpArgs false
set_option linter.unusedVariables false
section
variable {α β γ σ ρ:Type}{P:Program}{n:Nat}{Q:Exit->Act->World->Prop}{ops:Array Oper}{L L':St}{w w0:World}{os:List SV}{cs:List Cond}{F O:Nat->Prop}{hs:List HP}{rest:List Oper}
theorem aV {G:Prop}{a:Option α}{f:α->Option β}{r:β}(h:a.bind f=some r)(k:∀ x,a=some x->f x=some r->G):G:=by
  obtain⟨x,h1,h2⟩:=ob h;exact k x h1 h2
theorem cO {k:Nat}{x y:Code}{p:Prop}[hd:Decidable p]{a b:Option γ}{r:γ}(hm:(if p then a else b)=some r)(h1:p->a=some r->W P n x Q L w)(h2:¬ p->b=some r->W P n y Q L w)(hf:find L k=some (.b (decide p)):=by kernel_rfl):W P n (.cond (.tmp k) x y) Q L w :=
  W_condp p hf (fun h=>h1 h (by rwa [if_pos h] at hm)) (fun h=>h2 h (by rwa [if_neg h] at hm))
theorem jC {k:Nat}{x y:Code}{c:Bool}{a b:Option γ}{r:γ}(hm:(if c=true then a else b)=some r)(h1:c=true->a=some r->W P n x Q L w)(h2:c=false->b=some r->W P n y Q L w)(hf:find L k=some (.b c):=by kernel_rfl):W P n (.cond (.tmp k) x y) Q L w :=
  iK c hf (fun h=>h1 h (by rwa [if_pos h] at hm)) (fun h=>h2 h (by rwa [if_neg (by rw[h];decide)] at hm))
theorem iY {c:Code}{step:σ->Option (σ⊕ρ)}{s0:σ}{r:ρ}(hm:aZ step s0=some r)(rel:σ->St->World->Prop)(h0:rel s0 L' w0)
    (hb:∀ s L w y,rel s L w->step s=some y->(∀ r',y=.inr r'->r'=r)->W P n c (Exit.then (fun a w=>∃ s' L',y=.inl s'/\Fu n a (Kn L')/\rel s' L' w) Q) L w)
    (hk:L'.map (fun p=>(find L p.1).map SV.val)=L'.map (fun p=>some p.2.val):=by kernel_rfl):W P n (.loop c) Q L w0:=W_lp step rel s0 r hm h0 hk hb
theorem fA {Q:Exit->Act->World->Prop}{rel:σ->St->World->Prop}{y:σ⊕ρ}{v:σ}(hm:some (.inl v)=some y)(h:rel v L' w)(hk:L'.map (fun p=>(find L p.1).map SV.val)=L'.map (fun p=>some p.2.val):=by kernel_rfl):At n (Exit.then (fun a w=>∃ s' L',y=.inl s'/\Fu n a (Kn L')/\rel s' L' w) Q .normal) L w :=
  At_rd v (Option.some.inj hm).symm h hk
theorem fM:Cx N0 N0 w w []:=Cx.refl _
theorem gY {t:TypeId}{g:Nat}{ys:List SV}(k:Cx F O w0 w hs)(i:Nat)(hi:hs[i]?=some (Bx t g ys))(off:Nat)(v:SV)(r:Ask os cs w)(h:(cellS off ys).map SV.val=some v.val:=by kernel_rfl):Ask (v::os) (dC (some ⟨g,off,none⟩) v::cs) w:=qB k i hi off v h r
theorem lV {t:TypeId}{g:Nat}{ys:List SV}(k:Cx F O w0 w hs)(i:Nat)(hi:hs[i]?=some (Bx t g ys))(off m:Nat)(zs:List SV)(r:Ask os cs w)(h:(Lr off m ys).map SV.cl=some (SV.cl zs):=by kernel_rfl)(hm:0 < m:=by decide):Ask (.agg zs::os) (dR (some ⟨g,off,none⟩) zs::cs) w:=qT k i hi off m zs h hm r
theorem oJ (g off:Nat)(r:Ask os cs w):Ask os (dS (some ⟨g,off,none⟩)::dS (some ⟨g,off,none⟩)::cs) w:=qs g off (qs g off r)
theorem Cx.nN {t:TypeId}{g m:Nat}{ys:List SV}(k:Cx F O w0 w hs)(i:Nat)(hi:hs[i]?=some (Bx t g ys))(E:Enc α)(x:Vec α m)(off:Nat)(hd:((Et off ys).bind List.head?).map (fun v=>(v.I9,v.val))=some (true,.agg ⟨E.all x.l⟩):=by kernel_rfl):Rd w (some ⟨g,off,Option.none⟩) (E.all x.l):=k.vrd i hi E x off hd
theorem iI {K:St->World->Prop}{dst:Option Nat}{ty t:TypeId}{x:Operand}{pos:String}{nM:Array Edge}{g:Option (Nat×Bool)}(d:Nat)(cs:List SV)(k:Cx F O w0 w hs)(hk:∀ b w',Cx F O w0 w' (hs++[Bx t b cs])->K ((d,.v (.pointer (some ⟨b,0,none⟩)))::L) w')
    (hside:(Gy ops [] L ⟨dst,.box t x,ty,pos,nM,g⟩,dst,(decide (d < n)),(L.any fun p=>p.1 == d),(toSS [x] (lk L)).map SV.vals,(cellsS (.agg cs)).map SV.cl)=(true,some d,true,false,some [SV.val (.agg cs)],some (SV.cl cs)):=by kernel_rfl) :
    FK P n ops L w ⟨dst,.box t x,ty,pos,nM,g⟩ K:=Zi [] d (.agg cs) cs hside k hk
theorem nJ {K:St->World->Prop}{ty t:TypeId}{p x:Operand}{pos:String}{nM:Array Edge}{g:Option (Nat×Bool)}(i:Nat){pa:Option Addr}(sv:SV){bt:TypeId}{b:Nat}{ys zs:List SV}{off:Nat}
    (hp:Pt (some ⟨b,0,none⟩) off pa) (k:Cx F O w0 w hs) (hi:hs[i]?=some (Bx bt b ys)) (md:Mid [sv] ys zs)
    (hk:∀ w',Cx F O w0 w' (hs.set i (Bx bt b zs))->K L w')
    (hside:(Gy ops [] L (⟨none,.store t p x,ty,pos,nM,g⟩:Oper),(none:Option Nat),(toSS [p,x] (lk L)).map SV.vals,zU P t,cellsS sv,[sv].all SV.one1)=(true,none,some [.pointer pa,sv.val],some (SV.width [sv]),some [sv],true):=by kernel_rfl)
    (hz:(Vz off (SV.width [sv]) [sv] ys).map SV.cl=some (SV.cl zs):=by kernel_rfl) :
    FK P n ops L w ⟨none,.store t p x,ty,pos,nM,g⟩ K:=Op_b [] i sv [sv] hp k hi md hside hz hk
end
end Go.Sx
namespace Go.Sx
open Go.RowKit
set_option linter.unusedSimpArgs false
set_option linter.unusedVariables false
section
variable {P:Program}{n:Nat}{ops:Array Oper}{L:St}{w w0:World}{F O:Nat->Prop}{hs:List HP}{K:St->World->Prop}
theorem Q7 {dst:Option Nat}{t ty:TypeId}{len:Nat}{parts:Array (Nat×Operand)}{pos:String}{nM:Array Edge}{g:Option (Nat×Bool)}{e:TypeId}{zs:List Value}{bytes:Nat}(tf:TF P t e zs bytes)
    (ss:List Nat) (d:Nat) (ps:List (Nat×SV)) (ys:List SV)
    (hside:(Gy ops ss L ⟨dst,.buildSlice t len parts,ty,pos,nM,g⟩,dst,(decide (d < n)),(L.any fun p=>p.1 == d),(toPS parts.toList (lk L)).map (·.map fun p=>(p.1,p.2.val)))=(true,some d,true,false,some (ps.map fun p=>(p.1,p.2.val))))
    (hf:((JS (fun i=>some (i*zs.length,zs.length)) ((List.replicate len zs).flatten.map Jo) ps).map SV.cl,decide (len*zs.length<=16777216),decide (0 < len))=(some (SV.cl ys),true,true)) (hz:len*zs.length≠0)
    (k:Cx F O w0 w hs) (hk:∀ b w',Cx F O w0 w' (hs++[Bx e b ys])->K ((d,.v (.slice (some ⟨b,0,none⟩) len len))::L) w') :
    FK P n ops L w ⟨dst,.buildSlice t len parts,ty,pos,nM,g⟩ K:=by
  simp only[Prod.mk.injEq,decide_eq_true_eq,Option.map_eq_some_iff] at hside hf;obtain⟨h1,rfl,h3,h4,⟨ps',h5,h6⟩⟩:=hside;obtain⟨⟨svs,hf,hx⟩,hlen,hl0⟩:=hf;refine Fa (xs:=[]) (svs:=[]) ss (d:=d) (by simp[Side,h1,h3,h4,toSS]) fun a ha _=>?_;have hps:=toPS_spec (fun o x hx=>NT ha hx) h5;rw[h6] at hps;obtain⟨i,z,hi,hz',hzc,hsz,hby⟩:=tf.parts;have TN:=FU (place:=fun i=>some (i*zs.length,zs.length)) ps _ _ hf;rw[NS] at TN;have He:(sizeOf e).run P w=.ok zs.length w:=by rw[<- hsz];exact u_ hi w
  have hrun:(Instr.buildSlice t len (parts.map fun(i,x)=>(i,a.eval x))).run P w=.ok (.slice (some ⟨w.heap.size,0,none⟩) len len) (w.alloc (.cells ⟨SV.cl ys⟩ e)):=by
    have e1:(parts.map fun(i,x)=>(i,a.eval x)).toList=ps.map fun p=>(p.1,p.2.val):=by rw[<- hps];simp
    have hfl:Instr.fill (fun i=>some (i*zs.length,zs.length)) ⟨(List.replicate len zs).flatten⟩ (parts.map fun(i,x)=>(i,a.eval x)).toList=some ⟨SV.cl ys⟩:=by rw[e1,TN,hx]
    simp only[Instr.buildSlice,Sem.run_bind,run_underlying tf.ht,Result.andThen_ok,He];rw[if_neg (by omega)];split
    ·rename_i h0;exact absurd h0 hz
    ·have hzv:(zeroValue e).run P w=.ok z w:=by simp[zeroValue,typeInfo,hi,hz']
     simp only[Sem.run_bind,Sem.run_pure,Result.andThen_ok,hzv,hzc];have hr:=Iz zs len;simp only[show(⟨zs⟩:Array Value).size=zs.length from rfl,hr,hfl];rfl
  unfold Oper.wp execOp;simp only[Sem.run_bind,hrun,Result.andThen_ok,Sem.run_pure];exact⟨.v (.slice (some ⟨w.heap.size,0,none⟩) len len),rfl,hk w.heap.size _ (k.new _ (Bx e w.heap.size ys) ⟨Rw.new w _ _,rfl⟩)⟩
end
end Go.Sx
namespace Go.Sx
open Go.RowKit
set_option linter.unusedSimpArgs false
set_option linter.unusedVariables false
def OC (P : Program) (F : Nat -> Prop) (w : World) : Prop := Lib.TabIs P w "internal/strconv.uint64pow10" .u64 Lib.pow10Tab /\ ∃ g, P.globalNamed "internal/strconv.uint64pow10" = some g /\ ¬ F g
theorem OC.cx {P : Program} {F O : Nat -> Prop} {w0 w : World} {hs : List HP} (h : OC P F w0) (k : Cx F O w0 w hs) : Lib.TabIs P w "internal/strconv.uint64pow10" .u64 Lib.pow10Tab := by
  obtain⟨h,g,hg,hF⟩:=h;unfold Lib.TabIs World.var? at h ⊢;rw[hg] at h ⊢;simp only[Option.bind_some] at h ⊢;have hlt:g < w0.heap.size:=by
    rcases Nat.lt_or_ge g w0.heap.size with h' | h'
    ·exact h'
    ·rw[Array.getElem?_eq_none h'] at h;cases h
  rw[k.block g hlt hF];exact h
theorem OC.at {P:Program}{F O:Nat->Prop}{w0 w:World}{hs:List HP}(h:OC P F w0)(k:Cx F O w0 w hs):OC P N0 w :=
  ⟨h.cx k,h.2.elim fun g hg=>⟨g,hg.1,fun q=>q⟩⟩
open Go.Sort in
theorem Cx.more (w:World)(m:Nat)(os:Array Obj):Cx N0 N0 w (grow (w.drewN m) os) [] :=
  ⟨rfl,rfl,rfl,by simp[grow],fun b hb _=>by
    show((w.drewN m).heap++os)[b]?=w.heap[b]?;rw[show(w.drewN m).heap=w.heap from rfl,Array.getElem?_append_left hb],fun _ h=>h.elim,fun _ h=>h.elim,N0,N0,⟨fun _ h=>h,fun _ h=>h⟩,fun _ h=>h.elim,fun _ h=>h.elim⟩
open Go.Sort Go.Proofs Go.Shelf in
theorem c_itoa {P : Program} {ρ : Ren} (Ly : LaysM.n171 P ρ) {F O : Nat -> Prop} {w0 w : World} {hs : List HP} (k : Cx F O w0 w hs) {n : Int} (hn : -9223372036854775808 <= n /\ n <= 9223372036854775807) (hT : Lib.TabIs P w "internal/strconv.uint64pow10" .u64 Lib.pow10Tab) :
    Calls P (ρ.f 171) (vals [I n]) w (fun e w'=>e=.returned (SV.val (.s (Lib.itoa n)))/\Cx F O w0 w' hs):=by
  refine(Any.strconv_Itoa Ly n hn.1 hn.2 w hT).mono ?_;rintro e w' ⟨rfl,m,os,rfl⟩;refine⟨rfl,?_⟩;have:=k.call (Cx.more w m os);rw[List.append_nil] at this;exact this
end Go.Sx
namespace Go.Sx
open Go.RowKit
set_option linter.unusedSimpArgs false
set_option linter.unusedVariables false
def eF:Enc UInt64:=⟨1,fun a=>[.float .f64 a.toNat],fun _=>rfl,fun x v h=>by rw[List.mem_singleton.1 h];rfl⟩
instance:Pos eF:=⟨by decide⟩
section
variable {P:Program}{n:Nat}{ops:Array Oper}{L:St}{w w0:World}{F O:Nat->Prop}{hps:List HP}{K:St->World->Prop}
end
section
variable {P:Program}{n:Nat}{ops:Array Oper}{L:St}{w:World}{K:St->World->Prop}
end
end Go.Sx
namespace Go.Sx
open Go.RowKit
set_option linter.unusedSimpArgs false
set_option linter.unusedVariables false
section
variable {H:Type}{enc:TypeId×Value->H}{P:Program}{w:World}{held:Bool}
end
end Go.Sx
namespace Go.Sx
open Go.RowKit Go.MapKept
set_option linter.unusedSimpArgs false
set_option linter.unusedVariables false
variable {α β γ δ ε ζ σ:Type}
abbrev Ky:=List UInt8
abbrev Mp (δ:Type):=List (List UInt8×δ)
end Go.Sx
namespace Go.Sx
open Go.RowKit Go.MapKept
set_option linter.unusedSimpArgs false
set_option linter.unusedVariables false
variable {α β γ δ ε ζ σ ι:Type}
section
variable {F O:Nat->Prop}{w0 w w':World}{hs rest:List HP}
end
structure Vl (γ δ:Type) where
  V:γ->Value
  q:Rl γ δ
  inj:∀ a b,V a=V b->a=b
def kx (e:Ky×γ×δ):Ky×δ:=(e.1,e.2.2)
section
variable {F O:Nat->Prop}{w0 w w':World}{hs rest:List HP}
end
section
variable {P:Program}{n:Nat}{ops:Array Oper}{L:St}{w w0:World}{F O:Nat->Prop}{hs rest:List HP}{K:St->World->Prop}{v:Vl γ δ}{b:Nat}{m:Mp δ}
end
end Go.Sx
namespace Go.Sx
open Go.RowKit Go.MapKept
set_option linter.unusedSimpArgs false
set_option linter.unusedVariables false
variable {α β γ δ ε ζ σ ι:Type}
section
variable {P:Program}{n:Nat}{ops:Array Oper}{L:St}{w w0:World}{F O:Nat->Prop}{hs rest:List HP}{K:St->World->Prop}
end
section
variable {P:Program}{n:Nat}{ops:Array Oper}{L:St}{w w0:World}{F O:Nat->Prop}{hs rest:List HP}{K:St->World->Prop}{v:Vl γ δ}{b r:Nat}{m left:Mp δ}{cur:Option (Ky×δ)}{sh:Bool}
end
end Go.Sx
namespace Go.Sx
open Go.RowKit Go.MapKept
set_option linter.unusedSimpArgs false
set_option linter.unusedVariables false
variable {α β γ δ ε ζ σ ι:Type}
section
variable {P:Program}{n:Nat}{ops:Array Oper}{L:St}{w w0:World}{F O:Nat->Prop}{hs rest:List HP}{K:St->World->Prop}{b:Nat}
end
section
variable {F O F1 O1:Nat->Prop}{w0 w w':World}{hs rest:List HP}{E:Enc α}
variable {A:Option Addr}{n c:Nat}{ys:List Hd}{xs:List (List α)}
end
end Go.Sx
namespace Go.Sx
open Go.RowKit
set_option linter.unusedVariables false
variable {δ σ:Type}
end Go.Sx
namespace Go.Sx
open Go.RowKit Go.Proofs
set_option linter.unusedVariables false
variable {α γ δ:Type}
end Go.Sx
namespace Go.Sx
open Go.RowKit
set_option linter.unusedVariables false
variable {α γ δ:Type}{F O:Nat->Prop}{w0 w:World}{hs:List HP}
end Go.Sx
namespace Go.Sx
open Go.RowKit Go.MapKept
set_option linter.unusedVariables false
set_option linter.unusedSimpArgs false
variable {α γ δ:Type}{F O:Nat->Prop}{w0 w:World}{hs rest:List HP}
end Go.Sx
namespace Go.Sx
open Go.RowKit Go.MapKept
set_option linter.unusedVariables false
set_option linter.unusedSimpArgs false
variable {P:Program}{n:Nat}{ops:Array Oper}{L:St}{w:World}{K:St->World->Prop}
end Go.Sx
namespace Go.Sx
open Go.RowKit
set_option linter.unusedSimpArgs false
set_option linter.unusedVariables false
variable {α β γ δ ε ζ:Type}
section
variable {F O:Nat->Prop}{w0 w w':World}{hs rest:List HP}{E:Enc γ}{q:Rl γ δ}{A:Option Addr}{n c:Nat}{ys:List γ}{xs:List δ}
end
end Go.Sx
namespace Go.Sx
open Go.RowKit
set_option linter.unusedSimpArgs false
set_option linter.unusedVariables false
section
variable {P:Program}{n:Nat}{ops:Array Oper}{L:St}{w w0:World}{F O:Nat->Prop}{hs:List HP}{K:St->World->Prop}
end
end Go.Sx
namespace Go.Sx
open Go.RowKit
set_option linter.unusedSimpArgs false
set_option linter.unusedVariables false
variable {α:Type}
def yN (N:Nat)(xs:List α):Option (Vec α N):=if h:N<=xs.length then some ⟨xs.take N,by rw[List.length_take];omega⟩ else none
theorem x8 {N:Nat}{xs:List α}{v:Vec α N}(h:yN N xs=some v):N<=xs.length/\v.l=xs.take N:=by
  unfold yN at h;split at h
  ·simp only[Option.some.injEq] at h;subst h;exact⟨by assumption,rfl⟩
  ·cases h
theorem Rd.yN {w:World}{A:Option Addr}{E:Enc α}{N:Nat}{xs:List α}{v:Vec α N}(h:Rd w A (E.all xs))(hv:yN N xs=some v)(hN:0 < N*E.sz):∃ a,A=some a/\Rd w (some a) (SV.cl [SV.ar E v]):=by
  obtain⟨h1,h2⟩:=x8 hv;have hp:E.all v.l=(E.all xs).take (N*E.sz):=by rw[h2,Enc.Be]
  have hl:(E.all v.l).length=N*E.sz:=by rw[Enc.fK,v.h]
  have hne:E.all xs≠[]:=fun e=>by
    rw[hp,e,List.take_nil,List.length_nil] at hl;omega
  obtain⟨a,ha⟩:=h.1 hne;refine⟨a,ha,fun _=>⟨a,rfl⟩,fun b j u hb hu=>?_⟩;cases hb;rw[TS] at hu;have hu:((E.all xs).take (N*E.sz))[j]?=some u:=by rw[<- hp];exact hu
  refine h.2 a j u ha ?_;rw[List.getElem?_take] at hu;split at hu
  ·exact hu
  ·cases hu
section
variable {P:Program}{n:Nat}{ops:Array Oper}{L:St}{w:World}{K:St->World->Prop}
theorem IB {dst:Option Nat}{x:Operand}{t ty:TypeId}{pos:String}{nM:Array Edge}{g:Option (Nat×Bool)}(ss:List Nat)(d:Nat){A:Option Addr}{m c N:Nat}{e:TypeId}
    (hside:(Gy ops ss L ⟨dst,.sliceToArrayPointer t x,ty,pos,nM,g⟩,dst,(decide (d < n)),(L.any fun p=>p.1 == d),(toSS [x] (lk L)).map SV.vals,P.underlying t)=(true,some d,true,false,some [.slice A m c],some (.array N e)))
    (hN:N<=m) (hk:K ((d,.v (.pointer A))::L) w) :
    FK P n ops L w ⟨dst,.sliceToArrayPointer t x,ty,pos,nM,g⟩ K:=by
  simp only[Prod.mk.injEq,Option.map_eq_some_iff,decide_eq_true_eq] at hside;obtain⟨s1,rfl,s3,s4,⟨svs,s5,s6⟩,s7⟩:=hside;refine Fa (xs:=[x]) (svs:=svs) ss (d:=d) (by simp[Side,s1,s3,s4,s5]) fun a ha he=>?_;rw[s6] at he;simp only[List.map_cons,List.map_nil,List.cons.injEq,and_true] at he;have hrun:(Instr.arrayAt t (.slice A m c)).run P w=.ok (.pointer A) w:=by
    unfold Instr.arrayAt;have h1:¬ m < N:=by omega
    simp[run_underlying s7,h1,hN]
  unfold Oper.wp execOp;simp only[he,Sem.run_bind,hrun,Result.andThen_ok,Sem.run_pure];exact⟨.v (.pointer A),rfl,hk⟩
end
theorem Rd.elA {w:World}{A p:Option Addr}{E:Enc α}{m:Nat}{xs:List (Vec α m)}{i:Int}{x:Vec α m}(h:Rd w A ((eV E m).all xs))(hg:aT xs i=some x)(hp:Pt A (i.toNat*(eV E m).sz) p)(hm:0 < (eV E m).sz):Rd w p (E.all x.l):=by
  obtain⟨a,rfl,h2⟩:=Rd.elV h hg (by rwa [Nat.add_zero]) hm
  rwa [TS] at h2
theorem Rd.LH {w:World}{A p:Option Addr}{E:Enc α}{m z:Nat}{xs:List (Vec α m)}{i:Int}{x:Vec α m}(hz:(eV E m).sz=z)(h:Rd w A ((eV E m).all xs))(hg:aT xs i=some x)(hp:Pt A (i.toNat*z+0) p)(hm:0 < z):Rd w p (E.all x.l):=by
  subst hz;exact h.elA hg (by rwa [Nat.add_zero] at hp) hm
theorem JY {E:Enc α}{m:Nat}(v x:Vec α m):(eV E m).f v=pat ((eV E m).f x) 0 (SV.cl [SV.ar E v]):=by
  have h1:((eV E m).f v).length=m*E.sz:=(eV E m).len v;have h2:((eV E m).f x).length=m*E.sz:=(eV E m).len x;rw[TS,pat,List.take_zero,List.nil_append,List.drop_of_length_le (by omega),List.append_nil]
theorem Zz {hd:List Hd}{i:Int}{B B2:Option Addr}{n n2 c c2:Nat}(h:aT hd i=some (B,n,c))(h2:aT hd i=some (B2,n2,c2)):n2=n/\c2=c:=by
  rw[h] at h2;simp only[Option.some.injEq,Prod.mk.injEq] at h2;exact⟨h2.2.1.symm,h2.2.2.symm⟩
theorem TY {E:Enc α}{w:World}:∀ m:Nat,Sep w (rows E (List.replicate m ((Option.none,0,0):Hd)) (List.replicate m [])) (fun _=>False) (fun _=>False)
  | 0=>⟨fun _ h=>h,fun _ h=>h⟩
  | m+1=>by
    rw[List.replicate_succ,List.replicate_succ];exact⟨fun _=>False,fun _=>False,fun _=>False,fun _=>False,⟨rfl,.inl ⟨rfl,rfl,rfl⟩⟩,TY m,by simp,by simp,by simp,by simp⟩
theorem Cx.mk2nil {F O:Nat->Prop}{w0 w:World}{hs:List HP}{A:Option Addr}{n c m:Nat}(E:Enc α)(k:Cx F O w0 w (hs++[Ow eH A n c (List.replicate m ((Option.none,0,0):Hd))])) :
    Cx F O w0 w (hs++[O2 E A n c (List.replicate m ((Option.none,0,0):Hd)) (List.replicate m [])]):=by
  have h:=k.upd (h':=O2 E A n c (List.replicate m ((Option.none,0,0):Hd)) (List.replicate m [])) hs.length (by simp) Option.none (w':=w) ⟨rfl,rfl,rfl,Nat.le_refl _,fun _ _ _=>rfl⟩ (fun S R h hd hlt=>⟨fun g hg=>(by cases hg),S,R,
    ⟨by simp,S,R,fun _=>False,fun _=>False,h,TY m,by simp,by simp,fun b hb=>⟨fun q=>q,hd b hb,fun q=>q⟩,by simp⟩,fun b hb=>⟨hlt b (.inl hb),hd b hb,.inl hb⟩,fun b hb=>⟨hlt b (.inr hb),.inl hb⟩⟩)
  simpa using h
end Go.Sx
namespace Go.Sx
open Go.RowKit
set_option linter.unusedVariables false
noncomputable def yO (ai:Int)(ah:Int)(af:Int)(ag:Int)(ax:Int):Option (List (Int×Int×Int)) :=
  some ([(ai,(0:Int),(2:Int)),(ag,(1:Int),(8:Int)),(af,(1:Int),(16:Int)),(ax,(4:Int),(1024:Int)),(ah,(8:Int),(4096:Int))]:List (Int×Int×Int))
noncomputable def rE (ah:Int)(ag:Int)(r_:(List (Int×Int×Int))):Int->Option (Int⊕Bool)
  | aU=>if aU < ((r_.length:Nat):Int) then((aT r_ aU).bind fun x_1=>if((decide (x_1.1 < x_1.2.1))||(decide (x_1.2.2 < x_1.1)))=true then(Option.map Sum.inr (some false)) else(some (.inl (ay (aU+1))))) else(Option.map Sum.inr (some (decide ((ay (8*ag))<=ah))))
noncomputable def yw (ai:Int)(ah:Int)(af:Int)(ag:Int)(ax:Int):Option Bool :=
  (yO ai ah af ag ax).bind fun r_=>aZ (rE ah ag r_) (0:Int)
noncomputable def qM (ai:Int)(ah:Int)(af:Int)(ag:Int)(ax:Int)(aO:List UInt8):Option Int :=
  (yw ai ah af ag ax).bind fun r_=>if(!r_)=true then(some (200:Int)) else(if((decide (((aO.length:Nat):Int) < 8))||(decide (64 < ((aO.length:Nat):Int))))=true then(some (201:Int)) else(some (0:Int)))
noncomputable def v_ (eG:Int)(aX:Int)(bg:Int)(bG:Int)(fU:Int)(nz:List UInt8)(tN:List UInt8):Option Int :=
  (qM eG aX bg bG fU nz).bind fun r_=>if r_≠0 then(some r_) else(if((tN.length:Nat):Int)≠fU then(some (1:Int)) else(some (0:Int)))
noncomputable def Bi (k_:Int):Option (List UInt8) :=
  (aT (⟨[([100]:List UInt8),([105]:List UInt8),([105,100]:List UInt8)],rfl⟩:Vec (List UInt8) 3).l k_).bind fun aU=>some aU
noncomputable def wo (i:Int)(FN:List UInt8):Option ((List UInt8×Int)⊕(List UInt8)) :=
  some (.inl (FN,ay (i+3)))
noncomputable def Ac (b:List UInt8)(i:Int)(v1:UInt32):(List UInt8×Int)->Option ((List UInt8×Int)⊕((List UInt8×Int)⊕(List UInt8)))
  | (TZ,jA)=>if jA < (ay ((if ay (((b.length:Nat):Int) - i) < 3 then ay (((b.length:Nat):Int) - i) else 3)+1)) then((need (0<=ay (18 - (ay (6*jA))))).bind fun u=>(aT ([65,66,67,68,69,70,71,72,73,74,75,76,77,78,79,80,81,82,83,84,85,86,87,88,89,90,97,98,99,100,101,102,103,104,105,106,107,108,109,110,111,112,113,114,115,116,117,118,119,120,121,122,48,49,50,51,52,53,54,55,56,57,43,47]:List UInt8) (((mO v1 (Int.toNat (ay (18 - (ay (6*jA))))))&&&63).toNat:Int)).bind fun c3=>(app TZ ([c3]:List UInt8) 1).bind fun s_3=>some (.inl (s_3,ay (jA+1)))) else(Option.map Sum.inr (wo i TZ))
noncomputable def n_ (b:List UInt8)(s_:List UInt8)(i:Int)(v1:UInt32):Option ((List UInt8×Int)⊕(List UInt8)) :=
  aZ (Ac b i v1) (s_,(0:Int))
noncomputable def og (b:List UInt8)(s_:List UInt8)(i:Int)(v:UInt32):Option ((List UInt8×Int)⊕(List UInt8)) :=
  if 2 < (if ay (((b.length:Nat):Int) - i) < 3 then ay (((b.length:Nat):Int) - i) else 3) then((aT b (ay (i+2))).bind fun iF=>n_ b s_ i (v|||(UInt32.ofNat iF.toNat))) else(n_ b s_ i v)
noncomputable def Ad (b:List UInt8):(List UInt8×Int)->Option ((List UInt8×Int)⊕(List UInt8))
  | (s_,i)=>if i < ((b.length:Nat):Int) then((aT b i).bind fun aU=>if 1 < (if ay (((b.length:Nat):Int) - i) < 3 then ay (((b.length:Nat):Int) - i) else 3) then((aT b (ay (i+1))).bind fun x_1=>og b s_ i ((nI (UInt32.ofNat aU.toNat) ((16:UInt64).toNat))|||(nI (UInt32.ofNat x_1.toNat) ((8:UInt64).toNat)))) else(og b s_ i (nI (UInt32.ofNat aU.toNat) ((16:UInt64).toNat)))) else(Option.map Sum.inr (some s_))
noncomputable def um (b:List UInt8):Option (List UInt8) :=
  aZ (Ad b) (([]:List UInt8),(0:Int))
noncomputable def yP (eG:Int)(aX:Int)(bg:Int)(bG:Int)(fU:Int)(nz:List UInt8)(tN:List UInt8):Option (List UInt8×Int) :=
  (v_ eG aX bg bG fU nz tN).bind fun r_=>if r_≠0 then(some (([]:List UInt8),r_)) else((Bi eG).bind fun aS=>(need (([36,97,114,103,111,110,50]:List UInt8).length+aS.length<=9223372036854775807)).bind fun u=>(need ((([36,97,114,103,111,110,50]:List UInt8)++aS).length+([36,118,61,49,57,36,109,61]:List UInt8).length<=9223372036854775807)).bind fun u1=>(need (-9223372036854775808<=aX/\aX<=9223372036854775807)).bind fun u2=>(need (((([36,97,114,103,111,110,50]:List UInt8)++aS)++([36,118,61,49,57,36,109,61]:List UInt8)).length+(Lib.itoa aX).length<=9223372036854775807)).bind fun u3=>(need ((((([36,97,114,103,111,110,50]:List UInt8)++aS)++([36,118,61,49,57,36,109,61]:List UInt8))++(Lib.itoa aX)).length+([44,116,61]:List UInt8).length<=9223372036854775807)).bind fun u4=>(need (-9223372036854775808<=bg/\bg<=9223372036854775807)).bind fun u5=>(need (((((([36,97,114,103,111,110,50]:List UInt8)++aS)++([36,118,61,49,57,36,109,61]:List UInt8))++(Lib.itoa aX))++([44,116,61]:List UInt8)).length+(Lib.itoa bg).length<=9223372036854775807)).bind fun u6=>(need ((((((([36,97,114,103,111,110,50]:List UInt8)++aS)++([36,118,61,49,57,36,109,61]:List UInt8))++(Lib.itoa aX))++([44,116,61]:List UInt8))++(Lib.itoa bg)).length+([44,112,61]:List UInt8).length<=9223372036854775807)).bind fun u7=>(need (-9223372036854775808<=bG/\bG<=9223372036854775807)).bind fun u8=>(need (((((((([36,97,114,103,111,110,50]:List UInt8)++aS)++([36,118,61,49,57,36,109,61]:List UInt8))++(Lib.itoa aX))++([44,116,61]:List UInt8))++(Lib.itoa bg))++([44,112,61]:List UInt8)).length+(Lib.itoa bG).length<=9223372036854775807)).bind fun u9=>(need ((((((((([36,97,114,103,111,110,50]:List UInt8)++aS)++([36,118,61,49,57,36,109,61]:List UInt8))++(Lib.itoa aX))++([44,116,61]:List UInt8))++(Lib.itoa bg))++([44,112,61]:List UInt8))++(Lib.itoa bG)).length+([36]:List UInt8).length<=9223372036854775807)).bind fun u10=>(um nz).bind fun dN=>(need (((((((((([36,97,114,103,111,110,50]:List UInt8)++aS)++([36,118,61,49,57,36,109,61]:List UInt8))++(Lib.itoa aX))++([44,116,61]:List UInt8))++(Lib.itoa bg))++([44,112,61]:List UInt8))++(Lib.itoa bG))++([36]:List UInt8)).length+dN.length<=9223372036854775807)).bind fun u11=>(need ((((((((((([36,97,114,103,111,110,50]:List UInt8)++aS)++([36,118,61,49,57,36,109,61]:List UInt8))++(Lib.itoa aX))++([44,116,61]:List UInt8))++(Lib.itoa bg))++([44,112,61]:List UInt8))++(Lib.itoa bG))++([36]:List UInt8))++dN).length+([36]:List UInt8).length<=9223372036854775807)).bind fun u12=>(um tN).bind fun fP=>(need (((((((((((([36,97,114,103,111,110,50]:List UInt8)++aS)++([36,118,61,49,57,36,109,61]:List UInt8))++(Lib.itoa aX))++([44,116,61]:List UInt8))++(Lib.itoa bg))++([44,112,61]:List UInt8))++(Lib.itoa bG))++([36]:List UInt8))++dN)++([36]:List UInt8)).length+fP.length<=9223372036854775807)).bind fun u13=>some (((((((((((([36,97,114,103,111,110,50]:List UInt8)++aS)++([36,118,61,49,57,36,109,61]:List UInt8))++(Lib.itoa aX))++([44,116,61]:List UInt8))++(Lib.itoa bg))++([44,112,61]:List UInt8))++(Lib.itoa bG))++([36]:List UInt8))++dN)++([36]:List UInt8))++fP,(0:Int)))
noncomputable def mY (ai:Int)(ah:Int)(af:Int)(ag:Int)(ax:Int):Option Int :=
  if((((((((((decide (ai < 0))||(decide (2 < ai)))||(decide (ag < 1)))||(decide (8 < ag)))||(decide (ah < (ay (8*ag)))))||(decide (4096 < ah)))||(decide (af < 1)))||(decide (16 < af)))||(decide (ax < 4)))||(decide (1024 < ax)))=true then(some (200:Int)) else(some (0:Int))
noncomputable def vk (ai:Int)(ah:Int)(af:Int)(ag:Int)(ax:Int)(aO:List UInt8):Option Int :=
  (mY ai ah af ag ax).bind fun r_=>if r_≠0 then(some r_) else(if((decide (((aO.length:Nat):Int) < 8))||(decide (64 < ((aO.length:Nat):Int))))=true then(some (201:Int)) else(some (0:Int)))
noncomputable def pJ  : (UInt64×List UInt8)->Option ((UInt64×List UInt8)⊕(List UInt8))
  | (n1,s_)=>(need (([UInt8.ofNat ((48:UInt64)+(n1 % 10)).toNat]:List UInt8).length+s_.length<=9223372036854775807)).bind fun u=>if(n1 / 10)=0 then(Option.map Sum.inr (some (([UInt8.ofNat ((48:UInt64)+(n1 % 10)).toNat]:List UInt8)++s_))) else(some (.inl (n1 / 10,([UInt8.ofNat ((48:UInt64)+(n1 % 10)).toNat]:List UInt8)++s_)))
noncomputable def yQ (n:UInt64):Option (List UInt8) :=
  aZ (pJ) (n,([]:List UInt8))
noncomputable def xK (bY:Int)(TZ:List UInt8)(have_2:Int)(worth2:Int):Option ((List UInt8×Int×Int×Int)⊕((List UInt8×Int×Int×Int)⊕(List UInt8))) :=
  some (.inl (TZ,have_2,worth2,ay (bY - 1)))
noncomputable def Ci (b:List UInt8)(i:Int):(List UInt8×Int×Int×Int)->Option ((List UInt8×Int×Int×Int)⊕((List UInt8×Int×Int×Int)⊕(List UInt8)))
  | (FN,have_1,VV,bY)=>if 0<=bY then((aT b i).bind fun aU=>(need (0<=bY)).bind fun u=>if(ay (have_1+1))=6 then((aT ([65,66,67,68,69,70,71,72,73,74,75,76,77,78,79,80,81,82,83,84,85,86,87,88,89,90,97,98,99,100,101,102,103,104,105,106,107,108,109,110,111,112,113,114,115,116,117,118,119,120,121,122,48,49,50,51,52,53,54,55,56,57,43,47]:List UInt8) (ay ((ay (2*VV))+(Int.tmod ((QH aU (Int.toNat bY)).toNat:Int) 2)))).bind fun c3=>(app FN ([c3]:List UInt8) 1).bind fun s_3=>xK bY s_3 (0:Int) (0:Int)) else(xK bY FN (ay (have_1+1)) (ay ((ay (2*VV))+(Int.tmod ((QH aU (Int.toNat bY)).toNat:Int) 2))))) else(Option.map Sum.inr (some (.inl (FN,have_1,VV,ay (i+1)))))
noncomputable def xM (s_4:List UInt8):Option (List UInt8) :=
  some s_4
noncomputable def Cj (s_:List UInt8):(Int×Int)->Option ((Int×Int)⊕(List UInt8))
  | (ZA,ZB)=>if ZA < 6 then(some (.inl (ay (ZA+1),ay (2*ZB)))) else(Option.map Sum.inr ((aT ([65,66,67,68,69,70,71,72,73,74,75,76,77,78,79,80,81,82,83,84,85,86,87,88,89,90,97,98,99,100,101,102,103,104,105,106,107,108,109,110,111,112,113,114,115,116,117,118,119,120,121,122,48,49,50,51,52,53,54,55,56,57,43,47]:List UInt8) ZB).bind fun c6=>(app s_ ([c6]:List UInt8) 1).bind fun s_5=>xM s_5))
noncomputable def GG (b:List UInt8):(List UInt8×Int×Int×Int)->Option ((List UInt8×Int×Int×Int)⊕(List UInt8))
  | (s_,sK,worth,i)=>if i < ((b.length:Nat):Int) then(aZ (Ci b i) (s_,sK,worth,(7:Int))) else(Option.map Sum.inr (if 0 < sK then(aZ (Cj s_) (sK,worth)) else(xM s_)))
noncomputable def Dc (b:List UInt8):Option (List UInt8) :=
  aZ (GG b) (([]:List UInt8),(0:Int),(0:Int),(0:Int))
noncomputable def Hm (eG:Int)(aX:Int)(bg:Int)(bG:Int)(fU:Int)(nz:List UInt8)(tN:List UInt8):Option (List UInt8×Int) :=
  (vk eG aX bg bG fU nz).bind fun r_=>if r_≠0 then(some (([]:List UInt8),r_)) else(if((tN.length:Nat):Int)≠fU then(some (([]:List UInt8),(1:Int))) else((aT ([([100]:List UInt8),([105]:List UInt8),([105,100]:List UInt8)]:List (List UInt8)) eG).bind fun aU=>(need (([36,97,114,103,111,110,50]:List UInt8).length+aU.length<=9223372036854775807)).bind fun u=>(need ((([36,97,114,103,111,110,50]:List UInt8)++aU).length+([36,118,61,49,57,36,109,61]:List UInt8).length<=9223372036854775807)).bind fun u1=>(yQ (UInt64.ofInt aX)).bind fun aS=>(need (((([36,97,114,103,111,110,50]:List UInt8)++aU)++([36,118,61,49,57,36,109,61]:List UInt8)).length+aS.length<=9223372036854775807)).bind fun u2=>(need ((((([36,97,114,103,111,110,50]:List UInt8)++aU)++([36,118,61,49,57,36,109,61]:List UInt8))++aS).length+([44,116,61]:List UInt8).length<=9223372036854775807)).bind fun u3=>(yQ (UInt64.ofInt bg)).bind fun dN=>(need (((((([36,97,114,103,111,110,50]:List UInt8)++aU)++([36,118,61,49,57,36,109,61]:List UInt8))++aS)++([44,116,61]:List UInt8)).length+dN.length<=9223372036854775807)).bind fun u4=>(need ((((((([36,97,114,103,111,110,50]:List UInt8)++aU)++([36,118,61,49,57,36,109,61]:List UInt8))++aS)++([44,116,61]:List UInt8))++dN).length+([44,112,61]:List UInt8).length<=9223372036854775807)).bind fun u5=>(yQ (UInt64.ofInt bG)).bind fun fP=>(need (((((((([36,97,114,103,111,110,50]:List UInt8)++aU)++([36,118,61,49,57,36,109,61]:List UInt8))++aS)++([44,116,61]:List UInt8))++dN)++([44,112,61]:List UInt8)).length+fP.length<=9223372036854775807)).bind fun u6=>(need ((((((((([36,97,114,103,111,110,50]:List UInt8)++aU)++([36,118,61,49,57,36,109,61]:List UInt8))++aS)++([44,116,61]:List UInt8))++dN)++([44,112,61]:List UInt8))++fP).length+([36]:List UInt8).length<=9223372036854775807)).bind fun u7=>(Dc nz).bind fun iL=>(need (((((((((([36,97,114,103,111,110,50]:List UInt8)++aU)++([36,118,61,49,57,36,109,61]:List UInt8))++aS)++([44,116,61]:List UInt8))++dN)++([44,112,61]:List UInt8))++fP)++([36]:List UInt8)).length+iL.length<=9223372036854775807)).bind fun u8=>(need ((((((((((([36,97,114,103,111,110,50]:List UInt8)++aU)++([36,118,61,49,57,36,109,61]:List UInt8))++aS)++([44,116,61]:List UInt8))++dN)++([44,112,61]:List UInt8))++fP)++([36]:List UInt8))++iL).length+([36]:List UInt8).length<=9223372036854775807)).bind fun u9=>(Dc tN).bind fun kM=>(need (((((((((((([36,97,114,103,111,110,50]:List UInt8)++aU)++([36,118,61,49,57,36,109,61]:List UInt8))++aS)++([44,116,61]:List UInt8))++dN)++([44,112,61]:List UInt8))++fP)++([36]:List UInt8))++iL)++([36]:List UInt8)).length+kM.length<=9223372036854775807)).bind fun u10=>some (((((((((((([36,97,114,103,111,110,50]:List UInt8)++aU)++([36,118,61,49,57,36,109,61]:List UInt8))++aS)++([44,116,61]:List UInt8))++dN)++([44,112,61]:List UInt8))++fP)++([36]:List UInt8))++iL)++([36]:List UInt8))++kM,(0:Int))))
noncomputable def kL (lF:List UInt8)(qN:Bool)(t:List UInt8):(Int×Int)->Option ((Int×Int)⊕(List UInt8×Int×Bool))
  | (p,i)=>if((decide (i < (t.length:Int)))&&qN)=true then((Ep (!(decide ((lF.length:Int)<=p))) (aT lF p)).bind fun c=>(Ep (!(decide ((lF.length:Int)<=p))) (aT t i)).bind fun c1=>if((decide ((lF.length:Int)<=p))||(decide (c≠c1)))=true then(Option.map Sum.inr (some (lF,p,false))) else(some (.inl (ay (p+1),ay (i+1))))) else(Option.map Sum.inr (some (lF,p,qN)))
noncomputable def iP (lF:List UInt8)(pF:Int)(qN:Bool)(t:List UInt8):Option (List UInt8×Int×Bool) :=
  aZ (kL lF qN t) (pF,(0:Int))
noncomputable def iQ (s_:List UInt8)(lC:List UInt8):Option Bool :=
  (Ep (decide ((lC.length:Int)<=(s_.length:Int))) (FM s_ 0 (lC.length:Int))).bind fun FN=>some ((decide ((lC.length:Int)<=(s_.length:Int)))&&(decide (FN=lC)))
noncomputable def jg (s_:List UInt8)(lC:List UInt8):Option Bool :=
  (iQ s_ lC).bind fun r_=>some r_
noncomputable def jD (lF:List UInt8)(pF:Int):(Int×UInt64)->Option ((Int×UInt64)⊕(UInt64×List UInt8×Int×Bool))
  | (p,v)=>(Ep (decide (p < (lF.length:Int))) (aT lF p)).bind fun c=>(Ep ((decide (p < (lF.length:Int)))&&(decide ((48:UInt8)<=c))) (aT lF p)).bind fun c1=>if(((decide (p < (lF.length:Int)))&&(decide ((48:UInt8)<=c)))&&(decide (c1<=57)))=true then((aT lF p).bind fun c2=>if(((decide (pF < p))&&(decide (v=0)))||(decide ((((18446744073709551615:UInt64) - (UInt64.ofNat (c2 - 48).toNat)) / 10) < v)))=true then(Option.map Sum.inr (some ((0:UInt64),lF,p,false))) else(some (.inl (ay (p+1),((10:UInt64)*v)+(UInt64.ofNat (c2 - 48).toNat))))) else(Option.map Sum.inr (some (v,lF,p,decide (pF < p))))
noncomputable def lG (lF:List UInt8)(pF:Int)(qN:Bool):Option (UInt64×List UInt8×Int×Bool) :=
  if(!qN)=true then(some ((0:UInt64),lF,pF,qN)) else(aZ (jD lF pF) (pF,(0:UInt64)))
noncomputable def sQ (v:UInt64):Option Int :=
  if(9223372036854775807:UInt64) < v then(some (-1:Int)) else(some (ay v.toNat))
noncomputable def lH (s_:List UInt8)(c:UInt8):Option Int :=
  some (Q4 s_ c)
noncomputable def rq (s_:List UInt8)(c:UInt8):Option Int :=
  (lH s_ c).bind fun r_=>some r_
noncomputable def jM (lF:List UInt8)(pF:Int)(qN:Bool):Int->Option (Int⊕(List UInt8×Int×List UInt8×Int×Bool))
  | p=>if(qN&&(decide (p < (lF.length:Int))))=true then((aT lF p).bind fun c=>(rq ([43,47]:List UInt8) c).bind fun r_=>(Ep (!(decide (0<=r_))) (aT lF p)).bind fun c1=>(Ep (!(decide (0<=r_))) (Ep (decide ((48:UInt8)<=c1)) (aT lF p))).bind fun c2=>(Ep (!((decide (0<=r_))||((decide ((48:UInt8)<=c1))&&(decide (c2<=57))))) (aT lF p)).bind fun c3=>(Ep (!((decide (0<=r_))||((decide ((48:UInt8)<=c1))&&(decide (c2<=57))))) (Ep (decide ((65:UInt8)<=c3)) (aT lF p))).bind fun c4=>(Ep (!(((decide (0<=r_))||((decide ((48:UInt8)<=c1))&&(decide (c2<=57))))||((decide ((65:UInt8)<=c3))&&(decide (c4<=90))))) (aT lF p)).bind fun c5=>(Ep (!(((decide (0<=r_))||((decide ((48:UInt8)<=c1))&&(decide (c2<=57))))||((decide ((65:UInt8)<=c3))&&(decide (c4<=90))))) (Ep (decide ((97:UInt8)<=c5)) (aT lF p))).bind fun c6=>if((((decide (0<=r_))||((decide ((48:UInt8)<=c1))&&(decide (c2<=57))))||((decide ((65:UInt8)<=c3))&&(decide (c4<=90))))||((decide ((97:UInt8)<=c5))&&(decide (c6<=122))))=true then(some (.inl (ay (p+1)))) else(Option.map Sum.inr ((FM lF pF p).bind fun s_=>some (s_,pF,lF,p,qN)))) else(Option.map Sum.inr ((FM lF pF p).bind fun FN=>some (FN,pF,lF,p,qN)))
noncomputable def mD (lF:List UInt8)(pF:Int)(qN:Bool):Option (List UInt8×Int×List UInt8×Int×Bool) :=
  aZ (jM lF pF qN) pF
noncomputable def uo (c:UInt8):Option (UInt32×Bool) :=
  if((decide ((65:UInt8)<=c))&&(decide (c<=90)))=true then(some (UInt32.ofNat (c - 65).toNat,true)) else(if((decide ((97:UInt8)<=c))&&(decide (c<=122)))=true then(some ((UInt32.ofNat (c - 97).toNat)+26,true)) else(if((decide ((48:UInt8)<=c))&&(decide (c<=57)))=true then(some ((UInt32.ofNat (c - 48).toNat)+52,true)) else(if c=43 then(some ((62:UInt32),true)) else(if c=47 then(some ((63:UInt32),true)) else(some ((0:UInt32),false))))))
noncomputable def mF (aU:Int)(b1:List UInt8)(have_1:Int)(v1:UInt32):Option ((List UInt8×Int×UInt32×Int)⊕(List UInt8×Int×Int)) :=
  some (.inl (b1,have_1,v1,ay (aU+1)))
noncomputable def x9 (s_:List UInt8):(List UInt8×Int×UInt32×Int)->Option ((List UInt8×Int×UInt32×Int)⊕(List UInt8×Int×Int))
  | (b,sK,v,aU)=>if aU < (s_.length:Int) then((aT s_ aU).bind fun c2=>(uo c2).bind fun r_=>if(!r_.2)=true then(Option.map Sum.inr (some (([]:List UInt8),aU,(4:Int)))) else(if 8<=(ay (sK+6)) then((need (0<=ay ((ay (sK+6)) - 8))).bind fun u=>(app b ([UInt8.ofNat (mO ((nI v ((6:UInt64).toNat))|||r_.1) (Int.toNat (ay ((ay (sK+6)) - 8)))).toNat]:List UInt8) 1).bind fun b2=>(need (0<=ay ((ay (sK+6)) - 8))).bind fun u1=>mF aU b2 (ay ((ay (sK+6)) - 8)) (((nI v ((6:UInt64).toNat))|||r_.1)&&&((nI 1 (Int.toNat (ay ((ay (sK+6)) - 8)))) - 1))) else(mF aU b (ay (sK+6)) ((nI v ((6:UInt64).toNat))|||r_.1)))) else(Option.map Sum.inr (if(Int.tmod (s_.length:Int) 4)=1 then(some (([]:List UInt8),(s_.length:Int),(4:Int))) else(if v≠0 then(some (([]:List UInt8),ay ((s_.length:Int) - 1),(4:Int))) else(some (b,(0:Int),(0:Int))))))
noncomputable def pK (s_:List UInt8):Option (List UInt8×Int×Int) :=
  aZ (x9 s_) (([]:List UInt8),(0:Int),(0:UInt32),(0:Int))
noncomputable def jh (s_:List UInt8)(p:List UInt8)(p1:Int)(p2:Bool)(t:Int):Option (Int×Int×Int×Int×Int×List UInt8×List UInt8×Int×Int) :=
  (iP p p1 p2 ([36,118,61,49,57,36,109,61]:List UInt8)).bind fun GM=>(lG GM.1 GM.2.1 GM.2.2).bind fun JZ=>(sQ JZ.1).bind fun Ae=>(iP JZ.2.1 JZ.2.2.1 JZ.2.2.2 ([44,116,61]:List UInt8)).bind fun Ho=>(lG Ho.1 Ho.2.1 Ho.2.2).bind fun LJ=>(sQ LJ.1).bind fun LK=>(iP LJ.2.1 LJ.2.2.1 LJ.2.2.2 ([44,112,61]:List UInt8)).bind fun r_14=>(lG r_14.1 r_14.2.1 r_14.2.2).bind fun ZC=>(sQ ZC.1).bind fun LM=>(iP ZC.2.1 ZC.2.2.1 ZC.2.2.2 ([36]:List UInt8)).bind fun r_17=>(mD r_17.1 r_17.2.1 r_17.2.2).bind fun Nw=>(iP Nw.2.2.1 Nw.2.2.2.1 Nw.2.2.2.2 ([36]:List UInt8)).bind fun r_19=>(mD r_19.1 r_19.2.1 r_19.2.2).bind fun Cm=>if((!Cm.2.2.2.2)||(decide (Cm.2.2.2.1 < (s_.length:Int))))=true then(some ((0:Int),(0:Int),(0:Int),(0:Int),(0:Int),([]:List UInt8),([]:List UInt8),Cm.2.2.2.1,(4:Int))) else((pK Nw.1).bind fun GN=>if GN.2.2≠0 then(some ((0:Int),(0:Int),(0:Int),(0:Int),(0:Int),([]:List UInt8),([]:List UInt8),Nw.2.1,(4:Int))) else((pK Cm.1).bind fun xw=>if xw.2.2≠0 then(some ((0:Int),(0:Int),(0:Int),(0:Int),(0:Int),([]:List UInt8),([]:List UInt8),Cm.2.1,(4:Int))) else((v_ t Ae LK LM ((xw.1.length:Nat):Int) GN.1 xw.1).bind fun r_23=>if r_23≠0 then(some ((0:Int),(0:Int),(0:Int),(0:Int),(0:Int),([]:List UInt8),([]:List UInt8),(0:Int),(1:Int))) else(some (t,Ae,LK,LM,((xw.1.length:Nat):Int),GN.1,xw.1,(0:Int),(0:Int))))))
noncomputable def p_ (s_:List UInt8):Option (Int×Int×Int×Int×Int×List UInt8×List UInt8×Int×Int) :=
  (iP s_ (0:Int) true ([36,97,114,103,111,110,50]:List UInt8)).bind fun r_=>if r_.2.2=true then((FM s_ r_.2.1 (s_.length:Int)).bind fun FN=>(jg FN ([105,100]:List UInt8)).bind fun aS=>if aS=true then(jh s_ r_.1 (ay (r_.2.1+2)) r_.2.2 (2:Int)) else(if r_.2.2=true then((FM s_ r_.2.1 (s_.length:Int)).bind fun TZ=>(jg TZ ([105]:List UInt8)).bind fun dN=>if dN=true then(jh s_ r_.1 (ay (r_.2.1+1)) r_.2.2 (1:Int)) else((iP r_.1 r_.2.1 r_.2.2 ([100]:List UInt8)).bind fun fP=>jh s_ fP.1 fP.2.1 fP.2.2 (0:Int))) else((iP r_.1 r_.2.1 r_.2.2 ([100]:List UInt8)).bind fun iL=>jh s_ iL.1 iL.2.1 iL.2.2 (0:Int)))) else(if r_.2.2=true then((FM s_ r_.2.1 (s_.length:Int)).bind fun s_3=>(jg s_3 ([105]:List UInt8)).bind fun kM=>if kM=true then(jh s_ r_.1 (ay (r_.2.1+1)) r_.2.2 (1:Int)) else((iP r_.1 r_.2.1 r_.2.2 ([100]:List UInt8)).bind fun pG=>jh s_ pG.1 pG.2.1 pG.2.2 (0:Int))) else((iP r_.1 r_.2.1 r_.2.2 ([100]:List UInt8)).bind fun qZ=>jh s_ qZ.1 qZ.2.1 qZ.2.2 (0:Int)))
noncomputable def EO (a_:List UInt8)(b:List UInt8):Int->Option (Int⊕Bool)
  | i=>if i < ((a_.length:Nat):Int) then((aT a_ i).bind fun aU=>(aT b i).bind fun x_1=>if aU≠x_1 then(Option.map Sum.inr (some false)) else(some (.inl (ay (i+1))))) else(Option.map Sum.inr (some true))
noncomputable def DR (a_:List UInt8)(b:List UInt8):Option Bool :=
  if((a_.length:Nat):Int)≠((b.length:Nat):Int) then(some false) else(aZ (EO a_ b) (0:Int))
noncomputable def FX (a_:List UInt8)(b:List UInt8):Option Bool :=
  (DR a_ b).bind fun r_=>some r_
noncomputable def Bj  : Option Bool :=
  (p_ ([36,97,114,103,111,110,50,105,100,36,118,61,49,56]:List UInt8)).bind fun r_=>some ((decide (r_.2.2.2.2.2.2.2.1=13))&&(decide (r_.2.2.2.2.2.2.2.2=4)))
noncomputable def nU (k_:Int):Option (Int×Int×Int) :=
  if k_=1 then(some ((64:Int),(64:Int),(16:Int))) else(if k_=2 then(some ((32:Int),(32:Int),(8:Int))) else(some ((0:Int),(0:Int),(0:Int))))
noncomputable def Df (k_:Int):Option (Int×Int) :=
  (nU k_).bind fun r_=>if r_.1=0 then(some ((0:Int),(1:Int))) else(some (r_.1,(0:Int)))
noncomputable def lI (n:Int)(lo:Int)(hi:Int):Option Bool :=
  some ((decide (lo<=n))&&(decide (n<=hi)))
noncomputable def wu  : Option Int :=
  some (0:Int)
noncomputable def rG (k_:Int)(bD:UInt32)(aA:Int)(aY:Int)(bC:List UInt8)(aC:List UInt8)(r_:(Int×Int×Int))(aU:Bool):Option Int :=
  if aU=true then(some (23:Int)) else(if((decide (k_=2))&&(decide ((65535:UInt32) < bD)))=true then(some (24:Int)) else((lI aA (0:Int) (255:Int)).bind fun kM=>if(!kM)=true then(some (25:Int)) else((lI aY (0:Int) r_.2.1).bind fun pG=>if(!pG)=true then(some (26:Int)) else(if r_.2.2 < ((bC.length:Nat):Int) then(some (27:Int)) else(if r_.2.2 < ((aC.length:Nat):Int) then(some (28:Int)) else(wu))))))
noncomputable def oh (k_:Int)(aP:Int)(cZ:Int)(aQ:Int)(aW:Int)(aJ:UInt64)(bD:UInt32)(aA:Int)(aY:Int)(bC:List UInt8)(aC:List UInt8)(r_:(Int×Int×Int))(least:Int):Option Int :=
  (lI aP (1:Int) r_.2.1).bind fun aS=>if(!aS)=true then(some (20:Int)) else((lI cZ (0:Int) r_.2.1).bind fun dN=>if(!dN)=true then(some (8:Int)) else((lI aQ (0:Int) (255:Int)).bind fun fP=>if(!fP)=true then(some (21:Int)) else((lI aW least (255:Int)).bind fun iL=>if(!iL)=true then(some (22:Int)) else(if((decide (bD≠0))&&(decide ((4294967296:UInt64)<=aJ)))=true then(rG k_ bD aA aY bC aC r_ ((decide (bD≠0))&&(decide ((4294967296:UInt64)<=aJ)))) else(rG k_ bD aA aY bC aC r_ (((decide (bD=0))&&(decide (k_=2)))&&(decide ((281474976710656:UInt64)<=aJ))))))))
noncomputable def nV (k_:Int)(aP:Int)(cZ:Int)(aQ:Int)(aW:Int)(bU:UInt32)(aJ:UInt64)(bD:UInt32)(aA:Int)(aY:Int)(bC:List UInt8)(aC:List UInt8):Option Int :=
  (nU k_).bind fun r_=>if r_.2.1=0 then(some (1:Int)) else(if bD≠0 then(oh k_ aP cZ aQ aW aJ bD aA aY bC aC r_ (0:Int)) else(oh k_ aP cZ aQ aW aJ bD aA aY bC aC r_ (1:Int)))
noncomputable def sS (k_:Int):Option (List (Int×Int×Int×List UInt8×Int)) :=
  if k_=1 then(some ([((1:Int),(0:Int),(1:Int),([100,105,103,101,115,116]:List UInt8),(20:Int)),((2:Int),(1:Int),(1:Int),([107,101,121]:List UInt8),(8:Int)),((3:Int),(2:Int),(1:Int),([102,97,110,111,117,116]:List UInt8),(21:Int)),((4:Int),(3:Int),(1:Int),([100,101,112,116,104]:List UInt8),(22:Int)),((5:Int),(4:Int),(4:Int),([108,101,97,102]:List UInt8),(1:Int)),((6:Int),(8:Int),(8:Int),([111,102,102,115,101,116]:List UInt8),(23:Int)),((7:Int),(12:Int),(4:Int),([120,111,102]:List UInt8),(24:Int)),((8:Int),(16:Int),(1:Int),([110,111,100,101]:List UInt8),(25:Int)),((9:Int),(17:Int),(1:Int),([105,110,110,101,114]:List UInt8),(26:Int))]:List (Int×Int×Int×List UInt8×Int))) else((aT ([((1:Int),(0:Int),(1:Int),([100,105,103,101,115,116]:List UInt8),(20:Int)),((2:Int),(1:Int),(1:Int),([107,101,121]:List UInt8),(8:Int)),((3:Int),(2:Int),(1:Int),([102,97,110,111,117,116]:List UInt8),(21:Int)),((4:Int),(3:Int),(1:Int),([100,101,112,116,104]:List UInt8),(22:Int)),((5:Int),(4:Int),(4:Int),([108,101,97,102]:List UInt8),(1:Int)),((6:Int),(8:Int),(8:Int),([111,102,102,115,101,116]:List UInt8),(23:Int)),((7:Int),(12:Int),(4:Int),([120,111,102]:List UInt8),(24:Int)),((8:Int),(16:Int),(1:Int),([110,111,100,101]:List UInt8),(25:Int)),((9:Int),(17:Int),(1:Int),([105,110,110,101,114]:List UInt8),(26:Int))]:List (Int×Int×Int×List UInt8×Int)) (5:Int)).bind fun aU=>(aT (([((1:Int),(0:Int),(1:Int),([100,105,103,101,115,116]:List UInt8),(20:Int)),((2:Int),(1:Int),(1:Int),([107,101,121]:List UInt8),(8:Int)),((3:Int),(2:Int),(1:Int),([102,97,110,111,117,116]:List UInt8),(21:Int)),((4:Int),(3:Int),(1:Int),([100,101,112,116,104]:List UInt8),(22:Int)),((5:Int),(4:Int),(4:Int),([108,101,97,102]:List UInt8),(1:Int)),((6:Int),(8:Int),(8:Int),([111,102,102,115,101,116]:List UInt8),(23:Int)),((7:Int),(12:Int),(4:Int),([120,111,102]:List UInt8),(24:Int)),((8:Int),(16:Int),(1:Int),([110,111,100,101]:List UInt8),(25:Int)),((9:Int),(17:Int),(1:Int),([105,110,110,101,114]:List UInt8),(26:Int))]:List (Int×Int×Int×List UInt8×Int)).set (Int.toNat (5:Int)) (aU.1,aU.2.1,(6:Int),aU.2.2.2.1,aU.2.2.2.2)) (6:Int)).bind fun x_1=>(aT ((([((1:Int),(0:Int),(1:Int),([100,105,103,101,115,116]:List UInt8),(20:Int)),((2:Int),(1:Int),(1:Int),([107,101,121]:List UInt8),(8:Int)),((3:Int),(2:Int),(1:Int),([102,97,110,111,117,116]:List UInt8),(21:Int)),((4:Int),(3:Int),(1:Int),([100,101,112,116,104]:List UInt8),(22:Int)),((5:Int),(4:Int),(4:Int),([108,101,97,102]:List UInt8),(1:Int)),((6:Int),(8:Int),(8:Int),([111,102,102,115,101,116]:List UInt8),(23:Int)),((7:Int),(12:Int),(4:Int),([120,111,102]:List UInt8),(24:Int)),((8:Int),(16:Int),(1:Int),([110,111,100,101]:List UInt8),(25:Int)),((9:Int),(17:Int),(1:Int),([105,110,110,101,114]:List UInt8),(26:Int))]:List (Int×Int×Int×List UInt8×Int)).set (Int.toNat (5:Int)) (aU.1,aU.2.1,(6:Int),aU.2.2.2.1,aU.2.2.2.2)).set (Int.toNat (6:Int)) (x_1.1,x_1.2.1,(2:Int),x_1.2.2.2.1,x_1.2.2.2.2)) (7:Int)).bind fun iF=>(aT (((([((1:Int),(0:Int),(1:Int),([100,105,103,101,115,116]:List UInt8),(20:Int)),((2:Int),(1:Int),(1:Int),([107,101,121]:List UInt8),(8:Int)),((3:Int),(2:Int),(1:Int),([102,97,110,111,117,116]:List UInt8),(21:Int)),((4:Int),(3:Int),(1:Int),([100,101,112,116,104]:List UInt8),(22:Int)),((5:Int),(4:Int),(4:Int),([108,101,97,102]:List UInt8),(1:Int)),((6:Int),(8:Int),(8:Int),([111,102,102,115,101,116]:List UInt8),(23:Int)),((7:Int),(12:Int),(4:Int),([120,111,102]:List UInt8),(24:Int)),((8:Int),(16:Int),(1:Int),([110,111,100,101]:List UInt8),(25:Int)),((9:Int),(17:Int),(1:Int),([105,110,110,101,114]:List UInt8),(26:Int))]:List (Int×Int×Int×List UInt8×Int)).set (Int.toNat (5:Int)) (aU.1,aU.2.1,(6:Int),aU.2.2.2.1,aU.2.2.2.2)).set (Int.toNat (6:Int)) (x_1.1,x_1.2.1,(2:Int),x_1.2.2.2.1,x_1.2.2.2.2)).set (Int.toNat (7:Int)) (iF.1,(14:Int),iF.2.2.1,iF.2.2.2.1,iF.2.2.2.2)) (8:Int)).bind fun jA=>some ((((([((1:Int),(0:Int),(1:Int),([100,105,103,101,115,116]:List UInt8),(20:Int)),((2:Int),(1:Int),(1:Int),([107,101,121]:List UInt8),(8:Int)),((3:Int),(2:Int),(1:Int),([102,97,110,111,117,116]:List UInt8),(21:Int)),((4:Int),(3:Int),(1:Int),([100,101,112,116,104]:List UInt8),(22:Int)),((5:Int),(4:Int),(4:Int),([108,101,97,102]:List UInt8),(1:Int)),((6:Int),(8:Int),(8:Int),([111,102,102,115,101,116]:List UInt8),(23:Int)),((7:Int),(12:Int),(4:Int),([120,111,102]:List UInt8),(24:Int)),((8:Int),(16:Int),(1:Int),([110,111,100,101]:List UInt8),(25:Int)),((9:Int),(17:Int),(1:Int),([105,110,110,101,114]:List UInt8),(26:Int))]:List (Int×Int×Int×List UInt8×Int)).set (Int.toNat (5:Int)) (aU.1,aU.2.1,(6:Int),aU.2.2.2.1,aU.2.2.2.2)).set (Int.toNat (6:Int)) (x_1.1,x_1.2.1,(2:Int),x_1.2.2.2.1,x_1.2.2.2.2)).set (Int.toNat (7:Int)) (iF.1,(14:Int),iF.2.2.1,iF.2.2.2.1,iF.2.2.2.2)).set (Int.toNat (8:Int)) (jA.1,(15:Int),jA.2.2.1,jA.2.2.2.1,jA.2.2.2.2)))
noncomputable def AA (aP:Int)(cZ:Int)(aQ:Int)(aW:Int)(bU:UInt32)(aJ:UInt64)(bD:UInt32)(aA:Int)(aY:Int)(bC:List UInt8)(aC:List UInt8)(field:Int):Option UInt64 :=
  if field=1 then(some (UInt64.ofInt aP)) else(if field=2 then(some (UInt64.ofInt cZ)) else(if field=3 then(some (UInt64.ofInt aQ)) else(if field=4 then(some (UInt64.ofInt aW)) else(if field=5 then(some (UInt64.ofNat bU.toNat)) else(if field=6 then(some aJ) else(if field=7 then(some (UInt64.ofNat bD.toNat)) else(if field=8 then(some (UInt64.ofInt aA)) else(some (UInt64.ofInt aY)))))))))
noncomputable def yR (at_:Int)(size:Int)(v:UInt64):(List UInt8×Int)->Option ((List UInt8×Int)⊕(List UInt8))
  | (b1,aU)=>if aU < size then((need (0<=ay (8*aU))).bind fun u=>(aT b1 (ay (at_+aU))).bind fun x_1=>some (.inl (b1.set (Int.toNat (ay (at_+aU))) (UInt8.ofNat (iD v (Int.toNat (ay (8*aU)))).toNat),ay (aU+1)))) else(Option.map Sum.inr (some b1))
noncomputable def Bo (b:List UInt8)(at_:Int)(size:Int)(v:UInt64):Option (List UInt8) :=
  aZ (yR at_ size v) (b,(0:Int))
noncomputable def uT (aU:Int)(b1:List UInt8):Option ((List UInt8×Int)⊕(List UInt8×Int)) :=
  some (.inl (b1,ay (aU+1)))
noncomputable def qf (aU:Int)(b2:List UInt8):Option ((List UInt8×Int)⊕(List UInt8×Int)) :=
  uT aU b2
noncomputable def qg (aP:Int)(cZ:Int)(aQ:Int)(aW:Int)(bU:UInt32)(aJ:UInt64)(bD:UInt32)(aA:Int)(aY:Int)(bC:List UInt8)(aC:List UInt8)(aS:(Int×Int×Int))(dN:(List (Int×Int×Int×List UInt8×Int))):(List UInt8×Int)->Option ((List UInt8×Int)⊕(List UInt8×Int))
  | (b,aU)=>if aU < ((dN.length:Nat):Int) then((aT dN aU).bind fun iF=>if((decide (iF.1=7))&&(decide (bD=0)))=true then(qf aU b) else((AA aP cZ aQ aW bU aJ bD aA aY bC aC iF.1).bind fun fP=>(Bo b iF.2.1 iF.2.2.1 fP).bind fun iL=>qf aU iL)) else(Option.map Sum.inr ((FM b (ay (aS.1 - (ay (2*aS.2.2)))) ((Int.toNat aS.1:Nat):Int)).bind fun b3=>(FM (Xg b (Int.toNat (ay (aS.1 - (ay (2*aS.2.2))))) b3.length bC) (ay (aS.1 - aS.2.2)) ((Int.toNat aS.1:Nat):Int)).bind fun b4=>some (Xg (Xg b (Int.toNat (ay (aS.1 - (ay (2*aS.2.2))))) b3.length bC) (Int.toNat (ay (aS.1 - aS.2.2))) b4.length aC,(0:Int))))
noncomputable def oK (k_:Int)(aP:Int)(cZ:Int)(aQ:Int)(aW:Int)(bU:UInt32)(aJ:UInt64)(bD:UInt32)(aA:Int)(aY:Int)(bC:List UInt8)(aC:List UInt8):Option (List UInt8×Int) :=
  (nV k_ aP cZ aQ aW bU aJ bD aA aY bC aC).bind fun r_=>if r_≠0 then(some (([]:List UInt8),r_)) else((nU k_).bind fun aS=>(need ((0:Int)<=aS.1/\(aS.1:Int)<=aS.1/\Int.toNat aS.1*1<=140737488355328)).bind fun u=>(sS k_).bind fun dN=>aZ (qg aP cZ aQ aW bU aJ bD aA aY bC aC aS dN) (List.replicate (Int.toNat aS.1) (0:UInt8),(0:Int)))
noncomputable def Fg  : Option (Vec UInt64 8) :=
  some (⟨[(7640891576956012808:UInt64),(13503953896175478587:UInt64),(4354685564936845355:UInt64),(11912009170470909681:UInt64),(5840696475078001361:UInt64),(11170449401992604703:UInt64),(2270897969802886507:UInt64),(6620516959819538809:UInt64)],rfl⟩:Vec UInt64 8)
noncomputable def DT (b:List UInt8)(at_:Int)(n:Int):(UInt64×Int)->Option ((UInt64×Int)⊕(UInt64×Int))
  | (w_,aU)=>if aU < n then((aT b (ay (at_+aU))).bind fun iF=>(need (0<=ay (8*aU))).bind fun u=>some (.inl (w_|||(Bd (UInt64.ofNat iF.toNat) (Int.toNat (ay (8*aU)))),ay (aU+1)))) else(Option.map Sum.inr (some (w_,(0:Int))))
noncomputable def yx (b:List UInt8)(at_:Int)(n:Int):Option (UInt64×Int) :=
  if at_ < 0 then(some ((0:UInt64),(1:Int))) else(if((decide (((b.length:Nat):Int) < at_))||(decide ((ay (((b.length:Nat):Int) - at_)) < n)))=true then(some ((0:UInt64),(3:Int))) else(aZ (DT b at_ n) ((0:UInt64),(0:Int))))
noncomputable def ku (b:List UInt8)(at_:Int):Option (UInt64×Int) :=
  (yx b at_ (8:Int)).bind fun r_=>some (r_.1,r_.2)
noncomputable def CB (block:List UInt8):(Vec UInt64 8×Int)->Option ((Vec UInt64 8×Int)⊕(Vec UInt64 8×Int))
  | (h,aU)=>if aU < 8 then((ku block (ay (8*aU))).bind fun aS=>(aT h.l aU).bind fun iF=>(aT h.l aU).bind fun jA=>(some (lD h aU (iF^^^aS.1))).bind fun v=>some (.inl (v,ay (aU+1)))) else(Option.map Sum.inr (some (h,(0:Int))))
noncomputable def yS (block:List UInt8):Option (Vec UInt64 8×Int) :=
  if((block.length:Nat):Int)≠64 then(some ((Vec.rep 8 ((0:UInt64):UInt64)),(1:Int))) else((Fg).bind fun r_=>aZ (CB block) (r_,(0:Int)))
noncomputable def Q8 (b:List UInt8)(n:Int):Option Int :=
  if((b.length:Nat):Int) < n then(some (3:Int)) else(if n < ((b.length:Nat):Int) then(some (2:Int)) else(some (0:Int)))
noncomputable def P5 (b:List UInt8)(at_:Int):Option (UInt32×Int) :=
  (yx b at_ (4:Int)).bind fun r_=>some (UInt32.ofNat r_.1.toNat,r_.2)
noncomputable def Ny (m_:List UInt32)(b:List UInt8):(List UInt32×Int)->Option ((List UInt32×Int)⊕(List UInt32))
  | (wY,aU)=>if aU < ((m_.length:Nat):Int) then((P5 b (ay (4*aU))).bind fun r_=>(aT wY aU).bind fun x_1=>some (.inl (wY.set (Int.toNat aU) r_.1,ay (aU+1)))) else(Option.map Sum.inr (some wY))
noncomputable def Q9 (m_:List UInt32)(b:List UInt8):Option (List UInt32) :=
  aZ (Ny m_ b) (m_,(0:Int))
noncomputable def Yq  : Option (Vec UInt32 8) :=
  some (⟨[(1779033703:UInt32),(3144134277:UInt32),(1013904242:UInt32),(2773480762:UInt32),(1359893119:UInt32),(2600822924:UInt32),(528734635:UInt32),(1541459225:UInt32)],rfl⟩:Vec UInt32 8)
noncomputable def Nz (aS:(List UInt32)):(Vec UInt32 8×Int)->Option ((Vec UInt32 8×Int)⊕(Vec UInt32 8×Int))
  | (h,aU)=>if aU < 8 then((aT h.l aU).bind fun iF=>(aT (Vec.of 8 aS).l aU).bind fun jA=>(aT h.l aU).bind fun kz=>(some (lD h aU (iF^^^jA))).bind fun v=>some (.inl (v,ay (aU+1)))) else(Option.map Sum.inr (some (h,(0:Int))))
noncomputable def m_mixs_Start (block:List UInt8):Option (Vec UInt32 8×Int) :=
  (Q8 block (32:Int)).bind fun r_=>if r_≠0 then(some ((Vec.rep 8 ((0:UInt32):UInt32)),r_)) else((Q9 ((Vec.rep 8 (0:UInt32)).l) block).bind fun aS=>(Yq).bind fun dN=>aZ (Nz aS) (dN,(0:Int)))
noncomputable def Dh (k_:Int)(block:List UInt8):Option (Vec UInt64 8×List UInt8) :=
  if k_=1 then((yS block).bind fun r_=>some (r_.1,([]:List UInt8))) else none
noncomputable def rH (k_:Int):Option Int :=
  if k_=1 then(some (128:Int)) else(some (64:Int))
noncomputable def uq (b:List UInt8)(n:Int):Option (List UInt8) :=
  (need ((0:Int)<=(0:Int)/\((0:Int):Int)<=n/\Int.toNat n*1<=140737488355328)).bind fun u=>(app (List.replicate (Int.toNat (0:Int)) (0:UInt8)) b 1).bind fun b1=>(appz b1 (ay (n - ((b.length:Nat):Int))) (0:UInt8) 1).bind fun b2=>some b2
noncomputable def yc (GR:UInt64)(GU:UInt64)(n:UInt64):Option (UInt64×UInt64×Bool) :=
  (TQ GR n (0:UInt64)).bind fun r_=>(TQ GU (0:UInt64) r_.2).bind fun aS=>some (r_.1,aS.1,decide (aS.2=1))
noncomputable def xN (b:List UInt8):(Vec UInt64 16×Int)->Option ((Vec UInt64 16×Int)⊕(Vec UInt64 16×Int))
  | (m_,aU)=>if aU < 16 then((ku b (ay (8*aU))).bind fun r_=>(aT m_.l aU).bind fun iF=>(some (lD m_ aU r_.1)).bind fun v=>some (.inl (v,ay (aU+1)))) else(Option.map Sum.inr (some (m_,(0:Int))))
noncomputable def yT (b:List UInt8):Option (Vec UInt64 16×Int) :=
  if((b.length:Nat):Int)≠128 then(some ((Vec.rep 16 (0:UInt64)),(1:Int))) else(aZ (xN b) ((Vec.rep 16 (0:UInt64)),(0:Int)))
noncomputable def yU (v4:Vec UInt64 16):Option (Vec UInt64 16) :=
  some v4
noncomputable def yV (node:Bool)(v2:Vec UInt64 16):Option (Vec UInt64 16) :=
  if node=true then((aT v2.l (15:Int)).bind fun lJ=>(aT v2.l (15:Int)).bind fun pg=>(some (lD v2 (15:Int) (18446744073709551615^^^lJ))).bind fun v5=>yU v5) else(yU v2)
noncomputable def Ez (h:Vec UInt64 8)(lK:UInt64)(lL:UInt64)(last:Bool)(node:Bool):Option (Vec UInt64 16) :=
  (FM ((Vec.rep 16 (0:UInt64)).l) 0 (8:Int)).bind fun b=>(Fg).bind fun r_=>(FM ((TA (Vec.rep 16 (0:UInt64)) 0 b.length h.l).l) (8:Int) ((16:Nat):Int)).bind fun b1=>(aT (TA (TA (Vec.rep 16 (0:UInt64)) 0 b.length h.l) (Int.toNat (8:Int)) b1.length r_.l).l (12:Int)).bind fun aU=>(aT (TA (TA (Vec.rep 16 (0:UInt64)) 0 b.length h.l) (Int.toNat (8:Int)) b1.length r_.l).l (12:Int)).bind fun x_1=>(some (lD (TA (TA (Vec.rep 16 (0:UInt64)) 0 b.length h.l) (Int.toNat (8:Int)) b1.length r_.l) (12:Int) (aU^^^lK))).bind fun v=>(aT v.l (13:Int)).bind fun iF=>(aT v.l (13:Int)).bind fun jA=>(some (lD v (13:Int) (iF^^^lL))).bind fun v1=>if last=true then((aT v1.l (14:Int)).bind fun kz=>(aT v1.l (14:Int)).bind fun kU=>(some (lD v1 (14:Int) (18446744073709551615^^^kz))).bind fun v3=>yV node v3) else(yV node v1)
noncomputable def Di (round:Int):Option (Vec Int 16) :=
  (aT (⟨[(⟨[(0:Int),(1:Int),(2:Int),(3:Int),(4:Int),(5:Int),(6:Int),(7:Int),(8:Int),(9:Int),(10:Int),(11:Int),(12:Int),(13:Int),(14:Int),(15:Int)],rfl⟩:Vec Int 16),(⟨[(14:Int),(10:Int),(4:Int),(8:Int),(9:Int),(15:Int),(13:Int),(6:Int),(1:Int),(12:Int),(0:Int),(2:Int),(11:Int),(7:Int),(5:Int),(3:Int)],rfl⟩:Vec Int 16),(⟨[(11:Int),(8:Int),(12:Int),(0:Int),(5:Int),(2:Int),(15:Int),(13:Int),(10:Int),(14:Int),(3:Int),(6:Int),(7:Int),(1:Int),(9:Int),(4:Int)],rfl⟩:Vec Int 16),(⟨[(7:Int),(9:Int),(3:Int),(1:Int),(13:Int),(12:Int),(11:Int),(14:Int),(2:Int),(6:Int),(5:Int),(10:Int),(4:Int),(0:Int),(15:Int),(8:Int)],rfl⟩:Vec Int 16),(⟨[(9:Int),(0:Int),(5:Int),(7:Int),(2:Int),(4:Int),(10:Int),(15:Int),(14:Int),(1:Int),(11:Int),(12:Int),(6:Int),(8:Int),(3:Int),(13:Int)],rfl⟩:Vec Int 16),(⟨[(2:Int),(12:Int),(6:Int),(10:Int),(0:Int),(11:Int),(8:Int),(3:Int),(4:Int),(13:Int),(7:Int),(5:Int),(15:Int),(14:Int),(1:Int),(9:Int)],rfl⟩:Vec Int 16),(⟨[(12:Int),(5:Int),(1:Int),(15:Int),(14:Int),(13:Int),(4:Int),(10:Int),(0:Int),(7:Int),(6:Int),(3:Int),(9:Int),(2:Int),(8:Int),(11:Int)],rfl⟩:Vec Int 16),(⟨[(13:Int),(11:Int),(7:Int),(14:Int),(12:Int),(1:Int),(3:Int),(9:Int),(5:Int),(0:Int),(15:Int),(4:Int),(8:Int),(6:Int),(2:Int),(10:Int)],rfl⟩:Vec Int 16),(⟨[(6:Int),(15:Int),(14:Int),(9:Int),(11:Int),(3:Int),(0:Int),(8:Int),(12:Int),(2:Int),(13:Int),(7:Int),(1:Int),(4:Int),(10:Int),(5:Int)],rfl⟩:Vec Int 16),(⟨[(10:Int),(2:Int),(8:Int),(4:Int),(7:Int),(6:Int),(1:Int),(5:Int),(15:Int),(11:Int),(9:Int),(14:Int),(3:Int),(12:Int),(13:Int),(0:Int)],rfl⟩:Vec Int 16)],rfl⟩:Vec (Vec Int 16) 10).l (Int.tmod (ay ((Int.tmod round 10)+10)) 10)).bind fun aU=>some aU
noncomputable def AB  : Option (Vec (Vec Int 4) 8) :=
  some (⟨[(⟨[(0:Int),(4:Int),(8:Int),(12:Int)],rfl⟩:Vec Int 4),(⟨[(1:Int),(5:Int),(9:Int),(13:Int)],rfl⟩:Vec Int 4),(⟨[(2:Int),(6:Int),(10:Int),(14:Int)],rfl⟩:Vec Int 4),(⟨[(3:Int),(7:Int),(11:Int),(15:Int)],rfl⟩:Vec Int 4),(⟨[(0:Int),(5:Int),(10:Int),(15:Int)],rfl⟩:Vec Int 4),(⟨[(1:Int),(6:Int),(11:Int),(12:Int)],rfl⟩:Vec Int 4),(⟨[(2:Int),(7:Int),(8:Int),(13:Int)],rfl⟩:Vec Int 4),(⟨[(3:Int),(4:Int),(9:Int),(14:Int)],rfl⟩:Vec Int 4)],rfl⟩:Vec (Vec Int 4) 8)
noncomputable def fO (x_:UInt64)(k_:Int):Option UInt64 :=
  some ((Bd x_ (((UInt64.ofInt k_)&&&63).toNat))|||(iD x_ (((64:UInt64) - ((UInt64.ofInt k_)&&&63)).toNat)))
noncomputable def Bv (v:Vec UInt64 16)(p:Vec Int 4)(x_:UInt64)(y_:UInt64):Option (Vec UInt64 16) :=
  (aT p.l (0:Int)).bind fun iF=>(aT p.l (1:Int)).bind fun jA=>(aT p.l (2:Int)).bind fun kz=>(aT p.l (3:Int)).bind fun kU=>(aT v.l iF).bind fun lJ=>(aT v.l jA).bind fun pg=>(aT v.l iF).bind fun EP=>(some (lD v iF (lJ+(pg+x_)))).bind fun v1=>(aT v1.l kU).bind fun Af=>(aT v1.l iF).bind fun uO=>(fO (Af^^^uO) (-32:Int)).bind fun r_=>(aT v1.l kU).bind fun lM=>(some (lD v1 kU r_)).bind fun v2=>(aT v2.l kz).bind fun Dj=>(aT v2.l kU).bind fun jk=>(aT v2.l kz).bind fun J3=>(some (lD v2 kz (Dj+jk))).bind fun v3=>(aT v3.l jA).bind fun GV=>(aT v3.l kz).bind fun Jt=>(fO (GV^^^Jt) (-24:Int)).bind fun aS=>(aT v3.l jA).bind fun Q_=>(some (lD v3 jA aS)).bind fun v4=>(aT v4.l iF).bind fun GX=>(aT v4.l jA).bind fun LP=>(aT v4.l iF).bind fun x_20=>(some (lD v4 iF (GX+(LP+y_)))).bind fun v5=>(aT v5.l kU).bind fun NC=>(aT v5.l iF).bind fun OD=>(fO (NC^^^OD) (-16:Int)).bind fun dN=>(aT v5.l kU).bind fun x_23=>(some (lD v5 kU dN)).bind fun v6=>(aT v6.l kz).bind fun ND=>(aT v6.l kU).bind fun OE=>(aT v6.l kz).bind fun x_26=>(some (lD v6 kz (ND+OE))).bind fun v7=>(aT v7.l jA).bind fun ZE=>(aT v7.l kz).bind fun x_28=>(fO (ZE^^^x_28) (-63:Int)).bind fun fP=>(aT v7.l jA).bind fun x_29=>(some (lD v7 jA fP)).bind fun v8=>some v8
noncomputable def DU (m_:Vec UInt64 16)(r_:(Vec Int 16))(aS:(Vec (Vec Int 4) 8)):(Vec UInt64 16×Int)->Option ((Vec UInt64 16×Int)⊕(Vec UInt64 16×Vec UInt64 16))
  | (v1,aU)=>if aU < 8 then((aT aS.l aU).bind fun iF=>(aT r_.l (ay (2*aU))).bind fun jA=>(aT m_.l jA).bind fun kz=>(aT r_.l (ay ((ay (2*aU))+1))).bind fun kU=>(aT m_.l kU).bind fun lJ=>(Bv v1 iF kz lJ).bind fun dN=>some (.inl (dN,ay (aU+1)))) else(Option.map Sum.inr (some (v1,m_)))
noncomputable def Bz (v:Vec UInt64 16)(m_:Vec UInt64 16)(round:Int):Option (Vec UInt64 16×Vec UInt64 16) :=
  (Di round).bind fun r_=>(AB).bind fun aS=>aZ (DU m_ r_ aS) (v,(0:Int))
noncomputable def EC (v:Vec UInt64 16):(Vec UInt64 8×Int)->Option ((Vec UInt64 8×Int)⊕(Vec UInt64 8))
  | (h1,x_1)=>if x_1 < 8 then((aT h1.l x_1).bind fun iF=>(aT v.l x_1).bind fun jA=>(aT v.l (ay (x_1+8))).bind fun kz=>(aT h1.l x_1).bind fun kU=>(some (lD h1 x_1 (iF^^^(jA^^^kz)))).bind fun v1=>some (.inl (v1,ay (x_1+1)))) else(Option.map Sum.inr (some h1))
noncomputable def ED (h:Vec UInt64 8):(Vec UInt64 16×Vec UInt64 16×Int)->Option ((Vec UInt64 16×Vec UInt64 16×Int)⊕(Vec UInt64 8))
  | (wY,v,aU)=>if aU < 12 then((Bz v wY aU).bind fun aS=>some (.inl (aS.2,aS.1,ay (aU+1)))) else(Option.map Sum.inr (aZ (EC v) (h,(0:Int))))
noncomputable def Hq (h:Vec UInt64 8)(m_:Vec UInt64 16)(lK:UInt64)(lL:UInt64)(last:Bool)(node:Bool):Option (Vec UInt64 8) :=
  (Ez h lK lL last node).bind fun r_=>aZ (ED h) (m_,r_,(0:Int))
noncomputable def uu (h:Vec UInt64 8)(b:List UInt8)(GR:UInt64)(GU:UInt64)(last:Bool)(node:Bool):Option (Vec UInt64 8) :=
  (yT b).bind fun r_=>(Hq h r_.1 GR GU last node).bind fun aS=>some aS
noncomputable def jc (ed:Int)(b1:List UInt8)(EP:Vec UInt64 8)(Af:UInt64)(uO:UInt64)(lM:List UInt8):Option ((Vec UInt64 8×UInt64×UInt64×List UInt8×List UInt8)⊕(Vec UInt64 8×UInt64×UInt64×List UInt8×Int)) :=
  (FM b1 0 (if ay (ed - ((lM.length:Nat):Int)) < ((b1.length:Nat):Int) then ay (ed - ((lM.length:Nat):Int)) else((b1.length:Nat):Int))).bind fun b3=>(app lM b3 1).bind fun b4=>(FM b1 (if ay (ed - ((lM.length:Nat):Int)) < ((b1.length:Nat):Int) then ay (ed - ((lM.length:Nat):Int)) else((b1.length:Nat):Int)) ((b1.length:Nat):Int)).bind fun b5=>some (.inl (EP,Af,uO,b4,b5))
noncomputable def nO (ed:Int):(Vec UInt64 8×UInt64×UInt64×List UInt8×List UInt8)->Option ((Vec UInt64 8×UInt64×UInt64×List UInt8×List UInt8)⊕(Vec UInt64 8×UInt64×UInt64×List UInt8×Int))
  | (aU,kU,lJ,pg,b1)=>if 0 < ((b1.length:Nat):Int) then(if((pg.length:Nat):Int)=ed then((yc kU lJ (UInt64.ofInt ed)).bind fun r_=>(uu aU pg r_.1 r_.2.1 false false).bind fun aS=>(FM pg 0 (0:Int)).bind fun b2=>jc ed b1 aS r_.1 r_.2.1 b2) else(jc ed b1 aU kU lJ pg)) else(Option.map Sum.inr (some (aU,kU,lJ,pg,ed)))
noncomputable def jJ (T_:Vec UInt64 8)(kH:UInt64)(kJ:UInt64)(pI:List UInt8)(ed:Int)(b:List UInt8):Option (Vec UInt64 8×UInt64×UInt64×List UInt8×Int) :=
  aZ (nO ed) (T_,kH,kJ,pI,b)
noncomputable def qh (qO:Int)(oL:Int)(jd:List UInt8)(jB:List UInt8)(Ag:Bool)(oq:UInt64):Option (Int×Int×List UInt8×List UInt8×Vec UInt64 8×UInt64×UInt64×List UInt8×Int) :=
  (Dh qO jd).bind fun r_=>if 0 < ((jB.length:Nat):Int) then((rH qO).bind fun aS=>(uq jB aS).bind fun dN=>(jJ r_.1 (0:UInt64) (0:UInt64) r_.2 (128:Int) dN).bind fun fP=>some (qO,oL,jd,jB,fP.1,fP.2.1,fP.2.2.1,fP.2.2.2.1,fP.2.2.2.2)) else(some (qO,oL,jd,jB,r_.1,(0:UInt64),(0:UInt64),r_.2,(128:Int)))
noncomputable def EE (k_:Int)(block:List UInt8)(digest:Int)(key:List UInt8):Option (Int×Int×List UInt8×List UInt8×Vec UInt64 8×UInt64×UInt64×List UInt8×Int) :=
  (app ([]:List UInt8) block 1).bind fun b=>(app ([]:List UInt8) key 1).bind fun b1=>(qh k_ digest b b1 false (0:UInt64)).bind fun r_=>some (r_.1,r_.2.1,r_.2.2.1,r_.2.2.2.1,r_.2.2.2.2.1,r_.2.2.2.2.2.1,r_.2.2.2.2.2.2.1,r_.2.2.2.2.2.2.2.1,r_.2.2.2.2.2.2.2.2)
noncomputable def FY (k_:Int)(aP:Int)(cZ:Int)(aQ:Int)(aW:Int)(bU:UInt32)(aJ:UInt64)(bD:UInt32)(aA:Int)(aY:Int)(bC:List UInt8)(aC:List UInt8)(key:List UInt8):Option (Int⊕(Int×Int×List UInt8×List UInt8×Vec UInt64 8×UInt64×UInt64×List UInt8×Int)) :=
  (oK k_ aP cZ aQ aW bU aJ bD aA aY bC aC).bind fun r_=>if r_.2≠0 then(some (Sum.inl r_.2)) else(if((decide (((key.length:Nat):Int)≠0))&&(decide (((key.length:Nat):Int)≠cZ)))=true then(some (Sum.inl (8:Int))) else((EE k_ r_.1 aP key).bind fun aS=>some (Sum.inr (aS.1,aS.2.1,aS.2.2.1,aS.2.2.2.1,aS.2.2.2.2.1,aS.2.2.2.2.2.1,aS.2.2.2.2.2.2.1,aS.2.2.2.2.2.2.2.1,aS.2.2.2.2.2.2.2.2))))
noncomputable def wz (qO:Int)(oL:Int)(jd:List UInt8)(jB:List UInt8)(Ag:Bool)(oq:UInt64)(J4:Vec UInt64 8)(nP:UInt64)(nR:UInt64)(yX:List UInt8)(wB:Int):Option (Vec UInt64 8×UInt64×UInt64×List UInt8×Int×Int×Int×List UInt8×List UInt8×Bool×UInt64) :=
  some (J4,nP,nR,yX,wB,qO,oL,jd,jB,Ag,oq)
noncomputable def yY (w_:UInt64):(List UInt8×Int)->Option ((List UInt8×Int)⊕(List UInt8))
  | (b,aU)=>if aU < 8 then((need (0<=ay (8*aU))).bind fun u=>(aT b aU).bind fun x_1=>some (.inl (b.set (Int.toNat aU) (UInt8.ofNat (iD w_ (Int.toNat (ay (8*aU)))).toNat),ay (aU+1)))) else(Option.map Sum.inr (some b))
noncomputable def rJ (w_:UInt64):Option (List UInt8) :=
  aZ (yY w_) (List.replicate (Int.toNat (8:Int)) (0:UInt8),(0:Int))
noncomputable def CE (h:Vec UInt64 8):(List UInt8×Int)->Option ((List UInt8×Int)⊕(List UInt8))
  | (b,aU)=>if aU < 8 then((aT h.l aU).bind fun x_1=>(rJ x_1).bind fun r_=>(app b r_ 1).bind fun b1=>some (.inl (b1,ay (aU+1)))) else(Option.map Sum.inr (some b))
noncomputable def yZ (h:Vec UInt64 8):Option (List UInt8) :=
  aZ (CE h) (List.replicate (Int.toNat (0:Int)) (0:UInt8),(0:Int))
noncomputable def lZ (T_:Vec UInt64 8)(kH:UInt64)(kJ:UInt64)(pI:List UInt8)(ed:Int)(node:Bool)(c0:UInt64)(c2:UInt64):Option (List UInt8×Vec UInt64 8×UInt64×UInt64×List UInt8×Int) :=
  (uq pI ed).bind fun aS=>(uu T_ aS c0 c2 true node).bind fun dN=>(yZ dN).bind fun fP=>some (fP,T_,kH,kJ,pI,ed)
noncomputable def lN (T_:Vec UInt64 8)(kH:UInt64)(kJ:UInt64)(pI:List UInt8)(ed:Int)(node:Bool):Option (List UInt8×Vec UInt64 8×UInt64×UInt64×List UInt8×Int) :=
  (yc kH kJ (UInt64.ofInt ((pI.length:Nat):Int))).bind fun r_=>lZ T_ kH kJ pI ed node r_.1 r_.2.1
noncomputable def tV (qO:Int)(oL:Int)(jd:List UInt8)(jB:List UInt8)(Ag:Bool)(oq:UInt64)(J4:Vec UInt64 8)(nP:UInt64)(nR:UInt64)(yX:List UInt8)(wB:Int)(most:Int):Option (List UInt8×Int×Vec UInt64 8×UInt64×UInt64×List UInt8×Int×Int×Int×List UInt8×List UInt8×Bool×UInt64) :=
  (wz qO oL jd jB Ag oq J4 nP nR yX wB).bind fun r_=>if most < 1 then(some (([]:List UInt8),(1:Int),r_.1,r_.2.1,r_.2.2.1,r_.2.2.2.1,r_.2.2.2.2.1,r_.2.2.2.2.2.1,r_.2.2.2.2.2.2.1,r_.2.2.2.2.2.2.2.1,r_.2.2.2.2.2.2.2.2.1,r_.2.2.2.2.2.2.2.2.2.1,r_.2.2.2.2.2.2.2.2.2.2)) else((rH r_.2.2.2.2.2.1).bind fun aS=>if(ay (Int.tdiv aS 2)) < most then(some (([]:List UInt8),(1:Int),r_.1,r_.2.1,r_.2.2.1,r_.2.2.2.1,r_.2.2.2.2.1,r_.2.2.2.2.2.1,r_.2.2.2.2.2.2.1,r_.2.2.2.2.2.2.2.1,r_.2.2.2.2.2.2.2.2.1,r_.2.2.2.2.2.2.2.2.2.1,r_.2.2.2.2.2.2.2.2.2.2)) else((lN r_.1 r_.2.1 r_.2.2.1 r_.2.2.2.1 r_.2.2.2.2.1 r_.2.2.2.2.2.2.2.2.2.1).bind fun dN=>(FM dN.1 0 most).bind fun b=>(need (most<=most/\most<=((dN.1.length:Nat):Int))).bind fun u=>some (b,(0:Int),dN.2.1,dN.2.2.1,dN.2.2.2.1,dN.2.2.2.2.1,dN.2.2.2.2.2,r_.2.2.2.2.2.1,r_.2.2.2.2.2.2.1,r_.2.2.2.2.2.2.2.1,r_.2.2.2.2.2.2.2.2.1,r_.2.2.2.2.2.2.2.2.2.1,r_.2.2.2.2.2.2.2.2.2.2)))
noncomputable def qi (k_:Int)(aP:Int)(cZ:Int)(aQ:Int)(aW:Int)(bU:UInt32)(aJ:UInt64)(bD:UInt32)(aA:Int)(aY:Int)(bC:List UInt8)(aC:List UInt8)(key:List UInt8)(last:Bool)(out:Int)(data:List UInt8):Option (List UInt8×Int) :=
  (FY k_ aP cZ aQ aW bU aJ bD aA aY bC aC key).bind fun r_=>(Sum.elim (fun aS=>if aS≠0 then(some (([]:List UInt8),aS)) else none) (fun dN=>if 0≠0 then(some (([]:List UInt8),(0:Int))) else((jJ dN.2.2.2.2.1 dN.2.2.2.2.2.1 dN.2.2.2.2.2.2.1 dN.2.2.2.2.2.2.2.1 dN.2.2.2.2.2.2.2.2 data).bind fun fP=>(tV dN.1 dN.2.1 dN.2.2.1 dN.2.2.2.1 last (0:UInt64) fP.1 fP.2.1 fP.2.2.1 fP.2.2.2.1 fP.2.2.2.2 out).bind fun iL=>some (iL.1,iL.2.1)))) r_
noncomputable def Dk (k_:Int)(n:Int)(key:List UInt8)(aO:List UInt8)(iR:List UInt8)(data:List UInt8):Option (List UInt8×Int) :=
  (Df k_).bind fun r_=>if r_.2≠0 then(some (([]:List UInt8),(1:Int))) else((nV k_ n ((key.length:Nat):Int) (1:Int) (1:Int) (0:UInt32) (0:UInt64) (0:UInt32) (0:Int) (0:Int) aO iR).bind fun aS=>if aS≠0 then(some (([]:List UInt8),aS)) else((qi k_ n ((key.length:Nat):Int) (1:Int) (1:Int) (0:UInt32) (0:UInt64) (0:UInt32) (0:Int) (0:Int) aO iR key false n data).bind fun dN=>some (dN.1,dN.2)))
noncomputable def oM (kind:Int):Option Int :=
  if kind=1 then(some (64:Int)) else(if kind=2 then(some (32:Int)) else(some (0:Int)))
noncomputable def jf (kind:Int)(aP:Int)(cZ:Int)(aQ:Int)(aW:Int)(bU:UInt32)(aJ:UInt64)(bD:UInt32)(aA:Int)(aY:Int)(bC:List UInt8)(aC:List UInt8):Option Int :=
  (oM kind).bind fun r_=>if r_=0 then(some (1:Int)) else(if((decide (aP < 1))||(decide (r_ < aP)))=true then(some (20:Int)) else(if((decide (cZ < 0))||(decide (r_ < cZ)))=true then(some (8:Int)) else(if((decide (aQ < 0))||(decide (255 < aQ)))=true then(some (21:Int)) else(if(((decide (aW < 0))||(decide (255 < aW)))||((decide (aW=0))&&(decide (bD=0))))=true then(some (22:Int)) else(if(((decide (bD≠0))&&(decide ((4294967295:UInt64) < aJ)))||(((decide (bD=0))&&(decide (kind=2)))&&(decide ((281474976710655:UInt64) < aJ))))=true then(some (23:Int)) else(if((decide (kind=2))&&(decide ((65535:UInt32) < bD)))=true then(some (24:Int)) else(if((decide (aA < 0))||(decide (255 < aA)))=true then(some (25:Int)) else(if((decide (aY < 0))||(decide (r_ < aY)))=true then(some (26:Int)) else(if(ay (Int.tdiv r_ 4)) < ((bC.length:Nat):Int) then(some (27:Int)) else(if(ay (Int.tdiv r_ 4)) < ((aC.length:Nat):Int) then(some (28:Int)) else(some (0:Int))))))))))))
noncomputable def vw (kind:Int):Option Int :=
  if kind=1 then(some (128:Int)) else(some (64:Int))
noncomputable def y5 (i:Int)(b1:List UInt8):Option ((List UInt8×Int)⊕(List UInt8)) :=
  some (.inl (b1,ay (i+1)))
noncomputable def vz (b:List UInt8)(i:Int)(c2:UInt8):Option ((List UInt8×Int)⊕(List UInt8)) :=
  (app b ([c2]:List UInt8) 1).bind fun b2=>y5 i b2
noncomputable def vC (kind:Int)(key:List UInt8):(List UInt8×Int)->Option ((List UInt8×Int)⊕(List UInt8))
  | (b,i)=>(vw kind).bind fun r_=>if i < r_ then(if i < ((key.length:Nat):Int) then((aT key i).bind fun aU=>vz b i aU) else(vz b i (0:UInt8))) else(Option.map Sum.inr (some b))
noncomputable def yz (kind:Int)(key:List UInt8):Option (List UInt8) :=
  if((key.length:Nat):Int)=0 then(some ([]:List UInt8)) else(aZ (vC kind key) (([]:List UInt8),(0:Int)))
noncomputable def IC (kind:Int)(aP:Int)(cZ:Int)(aQ:Int)(aW:Int)(bU:UInt32)(aJ:UInt64)(bD:UInt32)(aA:Int)(aY:Int)(bC:List UInt8)(aC:List UInt8)(key:List UInt8):Option (Int⊕(Int×Int×Int×Int×Int×UInt32×UInt64×UInt32×Int×Int×Vec UInt64 16×List UInt8)) :=
  (jf kind aP cZ aQ aW bU aJ bD aA aY bC aC).bind fun r_=>if r_≠0 then(some (Sum.inl r_)) else(if((decide (((key.length:Nat):Int)≠0))&&(decide (((key.length:Nat):Int)≠cZ)))=true then(some (Sum.inl (8:Int))) else((yz kind key).bind fun aS=>some (Sum.inr (kind,aP,cZ,aQ,aW,bU,aJ,bD,aA,aY,(Vec.rep 16 (0:UInt64)),aS))))
noncomputable def yf (kind:Int):Option Int :=
  if kind=1 then(some (64:Int)) else(some (32:Int))
noncomputable def ru (kQ:Int)(gp:Int)(jO:Int)(gq:Int)(iw:Int)(iT:UInt32)(gu:UInt64)(jP:UInt32)(dU:Int)(iy:Int)(mZ:Bool)(kC:Vec UInt64 16)(qj:Bool)(BA:UInt64)(BB:UInt64)(jQ:UInt64)(b:List UInt8):(List UInt8×Int)->Option ((List UInt8×Int)⊕(Int×Int×Int×Int×Int×UInt32×UInt64×UInt32×Int×Int×Bool×Vec UInt64 16×Bool×UInt64×UInt64×List UInt8×UInt64))
  | (n0,i)=>if i < ((b.length:Nat):Int) then((aT b i).bind fun aU=>(app n0 ([aU]:List UInt8) 1).bind fun b1=>some (.inl (b1,ay (i+1)))) else(Option.map Sum.inr (some (kQ,gp,jO,gq,iw,iT,gu,jP,dU,iy,mZ,kC,qj,BA,BB,n0,jQ+(UInt64.ofInt ((b.length:Nat):Int)))))
noncomputable def rM (kQ:Int)(gp:Int)(jO:Int)(gq:Int)(iw:Int)(iT:UInt32)(gu:UInt64)(jP:UInt32)(dU:Int)(iy:Int)(jl:List UInt8)(eU:List UInt8)(uU:List UInt8)(mZ:Bool)(kC:Vec UInt64 16)(qj:Bool)(BA:UInt64)(BB:UInt64)(tX:List UInt8)(jQ:UInt64)(b:List UInt8):Option (Int×Int×Int×Int×Int×UInt32×UInt64×UInt32×Int×Int×Bool×Vec UInt64 16×Bool×UInt64×UInt64×List UInt8×UInt64) :=
  aZ (ru kQ gp jO gq iw iT gu jP dU iy mZ kC qj BA BB jQ b) (tX,(0:Int))
noncomputable def Ju (kind:Int):Option Int :=
  (oM kind).bind fun r_=>some r_
noncomputable def EF (kind:Int)(field:Int):Option (Int×Int) :=
  if((decide (1<=field))&&(decide (field<=4)))=true then(some (ay (field - 1),(1:Int))) else(if field=5 then(some ((4:Int),(4:Int))) else(if((decide (field=6))&&(decide (kind=1)))=true then(some ((8:Int),(8:Int))) else(if field=6 then(some ((8:Int),(6:Int))) else(if((decide (field=7))&&(decide (kind=1)))=true then(some ((12:Int),(4:Int))) else(if field=7 then(some ((12:Int),(2:Int))) else(if((decide (field=8))&&(decide (kind=1)))=true then(some ((16:Int),(1:Int))) else(if field=8 then(some ((14:Int),(1:Int))) else(if((decide (field=9))&&(decide (kind=1)))=true then(some ((17:Int),(1:Int))) else(if field=9 then(some ((15:Int),(1:Int))) else(some ((0:Int),(0:Int))))))))))))
noncomputable def Dl (at_:Int)(n:Int)(v:UInt64):(List UInt8×Int)->Option ((List UInt8×Int)⊕(List UInt8))
  | (b1,i)=>if i < n then((aT b1 (ay (at_+i))).bind fun aU=>some (.inl (b1.set (Int.toNat (ay (at_+i))) (UInt8.ofNat (iD v (((8:UInt64)*(UInt64.ofInt i)).toNat)).toNat),ay (i+1)))) else(Option.map Sum.inr (some b1))
noncomputable def Fh (b:List UInt8)(at_:Int)(n:Int)(v:UInt64):Option (List UInt8) :=
  aZ (Dl at_ n v) (b,(0:Int))
noncomputable def xO (f:Int)(b1:List UInt8):Option ((List UInt8×Int)⊕(List UInt8×Int)) :=
  some (.inl (b1,ay (f+1)))
noncomputable def tY (f:Int)(b2:List UInt8):Option ((List UInt8×Int)⊕(List UInt8×Int)) :=
  xO f b2
noncomputable def tZ (aC:List UInt8)(iL:Int):(List UInt8×Int)->Option ((List UInt8×Int)⊕(List UInt8×Int))
  | (b4,i1)=>if i1 < ((aC.length:Nat):Int) then((aT aC i1).bind fun kz=>(aT b4 (ay ((ay (3*(ay (Int.tdiv iL 4))))+i1))).bind fun kU=>some (.inl (b4.set (Int.toNat (ay ((ay (3*(ay (Int.tdiv iL 4))))+i1))) kz,ay (i1+1)))) else(Option.map Sum.inr (some (b4,(0:Int))))
noncomputable def t_ (bC:List UInt8)(aC:List UInt8)(iL:Int):(List UInt8×Int)->Option ((List UInt8×Int)⊕(List UInt8×Int))
  | (b3,i)=>if i < ((bC.length:Nat):Int) then((aT bC i).bind fun iF=>(aT b3 (ay ((ay (2*(ay (Int.tdiv iL 4))))+i))).bind fun jA=>some (.inl (b3.set (Int.toNat (ay ((ay (2*(ay (Int.tdiv iL 4))))+i))) iF,ay (i+1)))) else(Option.map Sum.inr (aZ (tZ aC iL) (b3,(0:Int))))
noncomputable def uf (kind:Int)(aP:Int)(cZ:Int)(aQ:Int)(aW:Int)(bU:UInt32)(aJ:UInt64)(bD:UInt32)(aA:Int)(aY:Int)(bC:List UInt8)(aC:List UInt8):(List UInt8×Int)->Option ((List UInt8×Int)⊕(List UInt8×Int))
  | (b,f)=>if f<=9 then(if((decide (f=7))&&(decide (bD=0)))=true then(tY f b) else((EF kind f).bind fun dN=>(aT ([UInt64.ofInt aP,UInt64.ofInt cZ,UInt64.ofInt aQ,UInt64.ofInt aW,UInt64.ofNat bU.toNat,aJ,UInt64.ofNat bD.toNat,UInt64.ofInt aA,UInt64.ofInt aY]:List UInt64) (ay (f - 1))).bind fun aU=>(Fh b dN.1 dN.2 aU).bind fun fP=>tY f fP)) else(Option.map Sum.inr ((oM kind).bind fun iL=>aZ (t_ bC aC iL) (b,(0:Int))))
noncomputable def lQ (kind:Int)(aP:Int)(cZ:Int)(aQ:Int)(aW:Int)(bU:UInt32)(aJ:UInt64)(bD:UInt32)(aA:Int)(aY:Int)(bC:List UInt8)(aC:List UInt8):Option (List UInt8×Int) :=
  (jf kind aP cZ aQ aW bU aJ bD aA aY bC aC).bind fun r_=>if r_≠0 then(some (([]:List UInt8),r_)) else((Ju kind).bind fun aS=>(need ((0:Int)<=aS/\(aS:Int)<=aS/\Int.toNat aS*1<=140737488355328)).bind fun u=>aZ (uf kind aP cZ aQ aW bU aJ bD aA aY bC aC) (List.replicate (Int.toNat aS) (0:UInt8),(1:Int)))
noncomputable def ER (b:List UInt8)(at_:Int):(UInt64×Int)->Option ((UInt64×Int)⊕(UInt64×Int))
  | (w_,i)=>if 0<=i then((aT b (ay (at_+i))).bind fun aU=>some (.inl ((w_*256)+(UInt64.ofNat aU.toNat),ay (i - 1)))) else(Option.map Sum.inr (some (w_,(0:Int))))
noncomputable def qP (b:List UInt8)(at_:Int)(n:Int):Option (UInt64×Int) :=
  if at_ < 0 then(some ((0:UInt64),(1:Int))) else(if((decide (((b.length:Nat):Int) < at_))||(decide ((ay (((b.length:Nat):Int) - at_)) < n)))=true then(some ((0:UInt64),(3:Int))) else(aZ (ER b at_) ((0:UInt64),ay (n - 1))))
noncomputable def Hr (i:Int):Option UInt64 :=
  (aT (⟨[(7640891576956012808:UInt64),(13503953896175478587:UInt64),(4354685564936845355:UInt64),(11912009170470909681:UInt64),(5840696475078001361:UInt64),(11170449401992604703:UInt64),(2270897969802886507:UInt64),(6620516959819538809:UInt64)],rfl⟩:Vec UInt64 8).l (Int.tmod i 8)).bind fun aU=>some aU
noncomputable def y7 (block:List UInt8):(Vec UInt64 8×Int)->Option ((Vec UInt64 8×Int)⊕(Vec UInt64 8×Int))
  | (h,i)=>if i < 8 then((qP block (ay (8*i)) (8:Int)).bind fun r_=>(Hr i).bind fun aS=>(aT h.l i).bind fun aU=>(some (lD h i (aS^^^r_.1))).bind fun v=>some (.inl (v,ay (i+1)))) else(Option.map Sum.inr (some (h,(0:Int))))
noncomputable def BC (block:List UInt8):Option (Vec UInt64 8×Int) :=
  if((block.length:Nat):Int)≠64 then(some ((Vec.rep 8 (0:UInt64)),(1:Int))) else(aZ (y7 block) ((Vec.rep 8 (0:UInt64)),(0:Int)))
noncomputable def ry (kQ:Int)(gp:Int)(jO:Int)(gq:Int)(iw:Int)(iT:UInt32)(gu:UInt64)(jP:UInt32)(dU:Int)(iy:Int)(mZ:Bool)(kC:Vec UInt64 16)(qj:Bool)(BA:UInt64)(BB:UInt64)(tX:List UInt8)(jQ:UInt64)(aS:(Vec UInt64 8×Int)):(Vec UInt64 16×Int)->Option ((Vec UInt64 16×Int)⊕(Vec UInt64 16×Int×Int×Int×Int×Int×UInt32×UInt64×UInt32×Int×Int×Bool×Vec UInt64 16×Bool×UInt64×UInt64×List UInt8×UInt64))
  | (h,i)=>if i < 8 then((aT aS.1.l i).bind fun aU=>(aT h.l i).bind fun GX=>(some (lD h i aU)).bind fun v=>some (.inl (v,ay (i+1)))) else(Option.map Sum.inr (some (h,kQ,gp,jO,gq,iw,iT,gu,jP,dU,iy,mZ,kC,qj,BA,BB,tX,jQ)))
noncomputable def ou (kQ:Int)(gp:Int)(jO:Int)(gq:Int)(iw:Int)(iT:UInt32)(gu:UInt64)(jP:UInt32)(dU:Int)(iy:Int)(jl:List UInt8)(eU:List UInt8)(uU:List UInt8)(mZ:Bool)(kC:Vec UInt64 16)(qj:Bool)(BA:UInt64)(BB:UInt64)(tX:List UInt8)(jQ:UInt64):Option (Vec UInt64 16×Int×Int×Int×Int×Int×UInt32×UInt64×UInt32×Int×Int×Bool×Vec UInt64 16×Bool×UInt64×UInt64×List UInt8×UInt64) :=
  if qj=true then(some (kC,kQ,gp,jO,gq,iw,iT,gu,jP,dU,iy,mZ,kC,qj,BA,BB,tX,jQ)) else((lQ kQ gp jO gq iw iT gu jP dU iy jl eU).bind fun r_=>if kQ=1 then((BC r_.1).bind fun aS=>aZ (ry kQ gp jO gq iw iT gu jP dU iy mZ kC qj BA BB tX jQ aS) ((Vec.rep 16 (0:UInt64)),(0:Int))) else none)
noncomputable def Ah (lo:UInt64)(hi:UInt64)(n:UInt64):Option (UInt64×UInt64×Bool) :=
  if lo<=(lo+n) then(some (lo+n,hi,false)) else(some (lo+n,hi+1,decide ((hi+1)=0)))
noncomputable def Dn (i:Int)(out1:List UInt8):Option ((List UInt8×Int)⊕(List UInt8)) :=
  some (.inl (out1,ay (i+1)))
noncomputable def y9 (out:List UInt8)(i:Int)(c2:UInt8):Option ((List UInt8×Int)⊕(List UInt8)) :=
  (app out ([c2]:List UInt8) 1).bind fun Ua=>Dn i Ua
noncomputable def zf (b:List UInt8)(at_:Int)(size:Int):(List UInt8×Int)->Option ((List UInt8×Int)⊕(List UInt8))
  | (out,i)=>if i < size then(if(ay (at_+i)) < ((b.length:Nat):Int) then((aT b (ay (at_+i))).bind fun aU=>y9 out i aU) else(y9 out i (0:UInt8))) else(Option.map Sum.inr (some out))
noncomputable def DJ (b:List UInt8)(at_:Int)(size:Int):Option (List UInt8) :=
  aZ (zf b at_ size) (([]:List UInt8),(0:Int))
noncomputable def zg (b:List UInt8):(Vec UInt64 16×Int)->Option ((Vec UInt64 16×Int)⊕(Vec UInt64 16×Int))
  | (m_,i)=>if i < 16 then((qP b (ay (8*i)) (8:Int)).bind fun r_=>(aT m_.l i).bind fun aU=>(some (lD m_ i r_.1)).bind fun v=>some (.inl (v,ay (i+1)))) else(Option.map Sum.inr (some (m_,(0:Int))))
noncomputable def BD (b:List UInt8):Option (Vec UInt64 16×Int) :=
  if((b.length:Nat):Int)≠128 then(some ((Vec.rep 16 (0:UInt64)),(1:Int))) else(aZ (zg b) ((Vec.rep 16 (0:UInt64)),(0:Int)))
noncomputable def AL (v7:Vec UInt64 16):Option (Vec UInt64 16) :=
  some v7
noncomputable def AO (node:Bool)(v5:Vec UInt64 16):Option (Vec UInt64 16) :=
  if node=true then((aT v5.l (15:Int)).bind fun Af=>(aT v5.l (15:Int)).bind fun uO=>(some (lD v5 (15:Int) (18446744073709551615^^^Af))).bind fun v8=>AL v8) else(AL v5)
noncomputable def ES (h:Vec UInt64 8)(lo:UInt64)(hi:UInt64)(last:Bool)(node:Bool):(Vec UInt64 16×Int)->Option ((Vec UInt64 16×Int)⊕(Vec UInt64 16))
  | (v,i)=>if i < 8 then((aT h.l i).bind fun aU=>(aT v.l i).bind fun x_1=>(some (lD v i aU)).bind fun v1=>(Hr i).bind fun r_=>(aT v1.l (ay (i+8))).bind fun iF=>(some (lD v1 (ay (i+8)) r_)).bind fun v2=>some (.inl (v2,ay (i+1)))) else(Option.map Sum.inr ((aT v.l (12:Int)).bind fun jA=>(aT v.l (12:Int)).bind fun kz=>(some (lD v (12:Int) (jA^^^lo))).bind fun v3=>(aT v3.l (13:Int)).bind fun kU=>(aT v3.l (13:Int)).bind fun lJ=>(some (lD v3 (13:Int) (kU^^^hi))).bind fun v4=>if last=true then((aT v4.l (14:Int)).bind fun pg=>(aT v4.l (14:Int)).bind fun EP=>(some (lD v4 (14:Int) (18446744073709551615^^^pg))).bind fun v6=>AO node v6) else(AO node v4)))
noncomputable def DV (h:Vec UInt64 8)(lo:UInt64)(hi:UInt64)(last:Bool)(node:Bool):Option (Vec UInt64 16) :=
  aZ (ES h lo hi last node) ((Vec.rep 16 (0:UInt64)),(0:Int))
noncomputable def wC (i:Int):Option (Vec Int 4) :=
  (aT (⟨[(⟨[(0:Int),(4:Int),(8:Int),(12:Int)],rfl⟩:Vec Int 4),(⟨[(1:Int),(5:Int),(9:Int),(13:Int)],rfl⟩:Vec Int 4),(⟨[(2:Int),(6:Int),(10:Int),(14:Int)],rfl⟩:Vec Int 4),(⟨[(3:Int),(7:Int),(11:Int),(15:Int)],rfl⟩:Vec Int 4),(⟨[(0:Int),(5:Int),(10:Int),(15:Int)],rfl⟩:Vec Int 4),(⟨[(1:Int),(6:Int),(11:Int),(12:Int)],rfl⟩:Vec Int 4),(⟨[(2:Int),(7:Int),(8:Int),(13:Int)],rfl⟩:Vec Int 4),(⟨[(3:Int),(4:Int),(9:Int),(14:Int)],rfl⟩:Vec Int 4)],rfl⟩:Vec (Vec Int 4) 8).l (Int.tmod i 8)).bind fun aU=>some aU
noncomputable def AP (r_:Int):Option Int :=
  some r_
noncomputable def FZ (n:Int)(m_:Int):Option Int :=
  (need (m_≠0)).bind fun u=>if(Int.tmod n m_) < 0 then(AP (ay ((Int.tmod n m_)+m_))) else(AP (Int.tmod n m_))
noncomputable def Ht (c:UInt8):Option Int :=
  if((decide ((48:UInt8)<=c))&&(decide (c<=57)))=true then(some ((c - 48).toNat:Int)) else(if((decide ((97:UInt8)<=c))&&(decide (c<=102)))=true then(some (ay (((c - 97).toNat:Int)+10))) else(if((decide ((65:UInt8)<=c))&&(decide (c<=70)))=true then(some (ay (((c - 65).toNat:Int)+10))) else(some (-1:Int))))
noncomputable def BF (round:Int)(i:Int):Option Int :=
  (FZ round (10:Int)).bind fun r_=>(aT ([48,49,50,51,52,53,54,55,56,57,97,98,99,100,101,102,101,97,52,56,57,102,100,54,49,99,48,50,98,55,53,51,98,56,99,48,53,50,102,100,97,101,51,54,55,49,57,52,55,57,51,49,100,99,98,101,50,54,53,97,52,48,102,56,57,48,53,55,50,52,97,102,101,49,98,99,54,56,51,100,50,99,54,97,48,98,56,51,52,100,55,53,102,101,49,57,99,53,49,102,101,100,52,97,48,55,54,51,57,50,56,98,100,98,55,101,99,49,51,57,53,48,102,52,56,54,50,97,54,102,101,57,98,51,48,56,99,50,100,55,49,52,97,53,97,50,56,52,55,54,49,53,102,98,57,101,51,99,100,48]:List UInt8) (ay ((ay (16*r_))+i))).bind fun c=>(Ht c).bind fun aS=>some aS
noncomputable def sN (a_:Int):Option Bool :=
  some ((decide (0<=a_))&&(decide (a_<=15)))
noncomputable def jR (w_:UInt64)(n:Int):Option UInt64 :=
  (FZ n (64:Int)).bind fun r_=>if r_=0 then(some w_) else((need (0<=r_)).bind fun u=>(need (0<=ay (64 - r_))).bind fun u1=>some ((iD w_ (Int.toNat r_))|||(Bd w_ (Int.toNat (ay (64 - r_))))))
noncomputable def J5 (v:Vec UInt64 16)(a_:Int)(b:Int)(c:Int)(d:Int)(x_:UInt64)(y_:UInt64):Option (Vec UInt64 16×Int) :=
  (sN a_).bind fun r_=>if(!r_)=true then(some ((Vec.rep 16 ((0:UInt64):UInt64)),(1:Int))) else((sN b).bind fun aS=>if(!aS)=true then(some ((Vec.rep 16 ((0:UInt64):UInt64)),(1:Int))) else((sN c).bind fun dN=>if(!dN)=true then(some ((Vec.rep 16 ((0:UInt64):UInt64)),(1:Int))) else((sN d).bind fun fP=>if(((((((!fP)||(decide (a_=b)))||(decide (a_=c)))||(decide (a_=d)))||(decide (b=c)))||(decide (b=d)))||(decide (c=d)))=true then(some ((Vec.rep 16 ((0:UInt64):UInt64)),(1:Int))) else((aT v.l a_).bind fun jA=>(aT v.l b).bind fun kz=>(aT v.l a_).bind fun kU=>(some (lD v a_ ((jA+kz)+x_))).bind fun v1=>(aT v1.l d).bind fun lJ=>(aT v1.l a_).bind fun pg=>(jR (lJ^^^pg) (32:Int)).bind fun iL=>(aT v1.l d).bind fun EP=>(some (lD v1 d iL)).bind fun v2=>(aT v2.l c).bind fun Af=>(aT v2.l d).bind fun uO=>(aT v2.l c).bind fun lM=>(some (lD v2 c (Af+uO))).bind fun v3=>(aT v3.l b).bind fun Dj=>(aT v3.l c).bind fun jk=>(jR (Dj^^^jk) (24:Int)).bind fun kM=>(aT v3.l b).bind fun J3=>(some (lD v3 b kM)).bind fun v4=>(aT v4.l a_).bind fun GV=>(aT v4.l b).bind fun Jt=>(aT v4.l a_).bind fun Q_=>(some (lD v4 a_ ((GV+Jt)+y_))).bind fun v5=>(aT v5.l d).bind fun GX=>(aT v5.l a_).bind fun LP=>(jR (GX^^^LP) (16:Int)).bind fun pG=>(aT v5.l d).bind fun x_20=>(some (lD v5 d pG)).bind fun v6=>(aT v6.l c).bind fun NC=>(aT v6.l d).bind fun OD=>(aT v6.l c).bind fun x_23=>(some (lD v6 c (NC+OD))).bind fun v7=>(aT v7.l b).bind fun ND=>(aT v7.l c).bind fun OE=>(jR (ND^^^OE) (63:Int)).bind fun qZ=>(aT v7.l b).bind fun x_26=>(some (lD v7 b qZ)).bind fun v8=>some (v8,(0:Int))))))
noncomputable def DW (m_:Vec UInt64 16)(round:Int):(Vec UInt64 16×Int)->Option ((Vec UInt64 16×Int)⊕(Vec UInt64 16×Int))
  | (v1,i)=>if i < 8 then((wC i).bind fun r_=>(aT r_.l (0:Int)).bind fun aU=>(aT r_.l (1:Int)).bind fun iF=>(aT r_.l (2:Int)).bind fun jA=>(aT r_.l (3:Int)).bind fun kz=>(BF round (ay (2*i))).bind fun aS=>(aT m_.l aS).bind fun kU=>(BF round (ay ((ay (2*i))+1))).bind fun dN=>(aT m_.l dN).bind fun lJ=>(J5 v1 aU iF jA kz kU lJ).bind fun fP=>some (.inl (fP.1,ay (i+1)))) else(Option.map Sum.inr (some (v1,(0:Int))))
noncomputable def BG (v:Vec UInt64 16)(m_:Vec UInt64 16)(round:Int):Option (Vec UInt64 16×Int) :=
  if((decide (round < 0))||(decide (11 < round)))=true then(some ((Vec.rep 16 ((0:UInt64):UInt64)),(1:Int))) else(aZ (DW m_ round) (v,(0:Int)))
noncomputable def F5 (v:Vec UInt64 16):(Vec UInt64 8×Int)->Option ((Vec UInt64 8×Int)⊕(Vec UInt64 8))
  | (h1,i)=>if i < 8 then((aT h1.l i).bind fun aU=>(aT v.l i).bind fun x_1=>(aT v.l (ay (i+8))).bind fun iF=>(aT h1.l i).bind fun jA=>(some (lD h1 i ((aU^^^x_1)^^^iF))).bind fun v1=>some (.inl (v1,ay (i+1)))) else(Option.map Sum.inr (some h1))
noncomputable def F6 (h:Vec UInt64 8)(m_:Vec UInt64 16):(Vec UInt64 16×Int)->Option ((Vec UInt64 16×Int)⊕(Vec UInt64 8))
  | (v,aS)=>if aS < 12 then((BG v m_ aS).bind fun dN=>some (.inl (dN.1,ay (aS+1)))) else(Option.map Sum.inr (aZ (F5 v) (h,(0:Int))))
noncomputable def J6 (h:Vec UInt64 8)(m_:Vec UInt64 16)(lo:UInt64)(hi:UInt64)(last:Bool)(node:Bool):Option (Vec UInt64 8) :=
  (DV h lo hi last node).bind fun r_=>aZ (F6 h m_) (r_,(0:Int))
noncomputable def BH (aS:(Vec UInt64 8)):(Vec UInt64 16×Int)->Option ((Vec UInt64 16×Int)⊕(Vec UInt64 16))
  | (h1,i1)=>if i1 < 8 then((aT aS.l i1).bind fun iF=>(aT h1.l i1).bind fun jA=>(some (lD h1 i1 iF)).bind fun v1=>some (.inl (v1,ay (i1+1)))) else(Option.map Sum.inr (some h1))
noncomputable def EG (h:Vec UInt64 16)(b:List UInt8)(lo:UInt64)(hi:UInt64)(last:Bool)(node:Bool):(Vec UInt64 8×Int)->Option ((Vec UInt64 8×Int)⊕(Vec UInt64 16))
  | (s_,i)=>if i < 8 then((aT h.l i).bind fun aU=>(aT s_.l i).bind fun x_1=>(some (lD s_ i aU)).bind fun v=>some (.inl (v,ay (i+1)))) else(Option.map Sum.inr ((BD b).bind fun r_=>(J6 s_ r_.1 lo hi last node).bind fun aS=>aZ (BH aS) (h,(0:Int))))
noncomputable def MV (h:Vec UInt64 16):(Vec UInt32 8×Int)->Option ((Vec UInt32 8×Int)⊕(Vec UInt64 16))
  | (FN,i2)=>if i2 < 8 then((aT h.l i2).bind fun kz=>(aT FN.l i2).bind fun kU=>(some (lD FN i2 (UInt32.ofNat kz.toNat))).bind fun v2=>some (.inl (v2,ay (i2+1)))) else none
noncomputable def DX (kind:Int)(h:Vec UInt64 16)(b:List UInt8)(lo:UInt64)(hi:UInt64)(last:Bool)(node:Bool):Option (Vec UInt64 16) :=
  if kind=1 then(aZ (EG h b lo hi last node) ((Vec.rep 8 (0:UInt64)),(0:Int))) else(aZ (MV h) ((Vec.rep 8 (0:UInt32)),(0:Int)))
noncomputable def vF (r_:(Vec UInt64 16×Int×Int×Int×Int×Int×UInt32×UInt64×UInt32×Int×Int×Bool×Vec UInt64 16×Bool×UInt64×UInt64×List UInt8×UInt64))(aS:Int):(Vec UInt64 16×UInt64×UInt64×Int)->Option ((Vec UInt64 16×UInt64×UInt64×Int)⊕(Vec UInt64 16×UInt64×UInt64×Int×Int×Int×Int×Int×Int×UInt32×UInt64×UInt32×Int×Int×Bool×Vec UInt64 16×Bool×UInt64×UInt64×List UInt8×UInt64))
  | (h,lo,hi,at_)=>if(ay (at_+aS)) < ((r_.2.2.2.2.2.2.2.2.2.2.2.2.2.2.2.2.1.length:Nat):Int) then((Ah lo hi (UInt64.ofInt aS)).bind fun dN=>(DJ r_.2.2.2.2.2.2.2.2.2.2.2.2.2.2.2.2.1 at_ aS).bind fun fP=>(DX r_.2.1 h fP dN.1 dN.2.1 false false).bind fun iL=>some (.inl (iL,dN.1,dN.2.1,ay (at_+aS)))) else(Option.map Sum.inr (some (h,lo,hi,at_,r_.2.1,r_.2.2.1,r_.2.2.2.1,r_.2.2.2.2.1,r_.2.2.2.2.2.1,r_.2.2.2.2.2.2.1,r_.2.2.2.2.2.2.2.1,r_.2.2.2.2.2.2.2.2.1,r_.2.2.2.2.2.2.2.2.2.1,r_.2.2.2.2.2.2.2.2.2.2.1,r_.2.2.2.2.2.2.2.2.2.2.2.1,r_.2.2.2.2.2.2.2.2.2.2.2.2.1,r_.2.2.2.2.2.2.2.2.2.2.2.2.2.1,r_.2.2.2.2.2.2.2.2.2.2.2.2.2.2.1,r_.2.2.2.2.2.2.2.2.2.2.2.2.2.2.2.1,r_.2.2.2.2.2.2.2.2.2.2.2.2.2.2.2.2.1,r_.2.2.2.2.2.2.2.2.2.2.2.2.2.2.2.2.2)))
noncomputable def ql (kQ:Int)(gp:Int)(jO:Int)(gq:Int)(iw:Int)(iT:UInt32)(gu:UInt64)(jP:UInt32)(dU:Int)(iy:Int)(jl:List UInt8)(eU:List UInt8)(uU:List UInt8)(mZ:Bool)(kC:Vec UInt64 16)(qj:Bool)(BA:UInt64)(BB:UInt64)(tX:List UInt8)(jQ:UInt64):Option (Vec UInt64 16×UInt64×UInt64×Int×Int×Int×Int×Int×Int×UInt32×UInt64×UInt32×Int×Int×Bool×Vec UInt64 16×Bool×UInt64×UInt64×List UInt8×UInt64) :=
  (ou kQ gp jO gq iw iT gu jP dU iy jl eU uU mZ kC qj BA BB tX jQ).bind fun r_=>(vw r_.2.1).bind fun aS=>aZ (vF r_ aS) (r_.1,r_.2.2.2.2.2.2.2.2.2.2.2.2.2.2.1,r_.2.2.2.2.2.2.2.2.2.2.2.2.2.2.2.1,(0:Int))
noncomputable def DY (n:Int):(UInt64×List UInt8×Int)->Option ((UInt64×List UInt8×Int)⊕(List UInt8))
  | (kV,b,i)=>if i < n then((app b ([UInt8.ofNat (kV % 256).toNat]:List UInt8) 1).bind fun b1=>some (.inl (kV / 256,b1,ay (i+1)))) else(Option.map Sum.inr (some b))
noncomputable def nX (w_:UInt64)(n:Int):Option (List UInt8) :=
  aZ (DY n) (w_,([]:List UInt8),(0:Int))
noncomputable def DZ (kind:Int)(h:Vec UInt64 16):(List UInt8×Int)->Option ((List UInt8×Int)⊕(List UInt8))
  | (b,i)=>if i < 8 then((aT h.l i).bind fun aU=>(yf kind).bind fun r_=>(nX aU (ay (Int.tdiv r_ 8))).bind fun aS=>(app b aS 1).bind fun b1=>some (.inl (b1,ay (i+1)))) else(Option.map Sum.inr (some b))
noncomputable def yA (kind:Int)(h:Vec UInt64 16):Option (List UInt8) :=
  aZ (DZ kind h) (([]:List UInt8),(0:Int))
noncomputable def vG (kQ:Int)(gp:Int)(jO:Int)(gq:Int)(iw:Int)(iT:UInt32)(gu:UInt64)(jP:UInt32)(dU:Int)(iy:Int)(jl:List UInt8)(eU:List UInt8)(uU:List UInt8)(mZ:Bool)(kC:Vec UInt64 16)(qj:Bool)(BA:UInt64)(BB:UInt64)(tX:List UInt8)(jQ:UInt64):Option (List UInt8×Int×Int×Int×Int×Int×UInt32×UInt64×UInt32×Int×Int×Bool×Vec UInt64 16×Bool×UInt64×UInt64×List UInt8×UInt64) :=
  (ql kQ gp jO gq iw iT gu jP dU iy jl eU uU mZ kC qj BA BB tX jQ).bind fun r_=>(Ah r_.2.1 r_.2.2.1 (UInt64.ofInt (ay (((r_.2.2.2.2.2.2.2.2.2.2.2.2.2.2.2.2.2.2.2.1.length:Nat):Int) - r_.2.2.2.1)))).bind fun aS=>(vw r_.2.2.2.2.1).bind fun dN=>(DJ r_.2.2.2.2.2.2.2.2.2.2.2.2.2.2.2.2.2.2.2.1 r_.2.2.2.1 dN).bind fun fP=>(DX r_.2.2.2.2.1 r_.1 fP aS.1 aS.2.1 true r_.2.2.2.2.2.2.2.2.2.2.2.2.2.2.1).bind fun iL=>(yA r_.2.2.2.2.1 iL).bind fun kM=>some (kM,r_.2.2.2.2.1,r_.2.2.2.2.2.1,r_.2.2.2.2.2.2.1,r_.2.2.2.2.2.2.2.1,r_.2.2.2.2.2.2.2.2.1,r_.2.2.2.2.2.2.2.2.2.1,r_.2.2.2.2.2.2.2.2.2.2.1,r_.2.2.2.2.2.2.2.2.2.2.2.1,r_.2.2.2.2.2.2.2.2.2.2.2.2.1,r_.2.2.2.2.2.2.2.2.2.2.2.2.2.1,r_.2.2.2.2.2.2.2.2.2.2.2.2.2.2.1,r_.2.2.2.2.2.2.2.2.2.2.2.2.2.2.2.1,r_.2.2.2.2.2.2.2.2.2.2.2.2.2.2.2.2.1,r_.2.2.2.2.2.2.2.2.2.2.2.2.2.2.2.2.2.1,r_.2.2.2.2.2.2.2.2.2.2.2.2.2.2.2.2.2.2.1,r_.2.2.2.2.2.2.2.2.2.2.2.2.2.2.2.2.2.2.2.1,r_.2.2.2.2.2.2.2.2.2.2.2.2.2.2.2.2.2.2.2.2)
noncomputable def vH (kind:Int)(aP:Int)(cZ:Int)(aQ:Int)(aW:Int)(bU:UInt32)(aJ:UInt64)(bD:UInt32)(aA:Int)(aY:Int)(bC:List UInt8)(aC:List UInt8)(key:List UInt8)(last:Bool)(out:Int)(data:List UInt8):Option (List UInt8×Int) :=
  (IC kind aP cZ aQ aW bU aJ bD aA aY bC aC key).bind fun r_=>(Sum.elim (fun aS=>if aS≠0 then(some (([]:List UInt8),aS)) else(if out < 1 then(some (([]:List UInt8),(1:Int))) else((yf kind).bind fun fP=>if fP < out then(some (([]:List UInt8),(1:Int))) else none))) (fun dN=>if 0≠0 then(some (([]:List UInt8),(0:Int))) else(if out < 1 then(some (([]:List UInt8),(1:Int))) else((yf kind).bind fun iL=>if iL < out then(some (([]:List UInt8),(1:Int))) else((rM dN.1 dN.2.1 dN.2.2.1 dN.2.2.2.1 dN.2.2.2.2.1 dN.2.2.2.2.2.1 dN.2.2.2.2.2.2.1 dN.2.2.2.2.2.2.2.1 dN.2.2.2.2.2.2.2.2.1 dN.2.2.2.2.2.2.2.2.2.1 bC aC key last dN.2.2.2.2.2.2.2.2.2.2.1 false (0:UInt64) (0:UInt64) dN.2.2.2.2.2.2.2.2.2.2.2 (0:UInt64) data).bind fun kM=>(vG kM.1 kM.2.1 kM.2.2.1 kM.2.2.2.1 kM.2.2.2.2.1 kM.2.2.2.2.2.1 kM.2.2.2.2.2.2.1 kM.2.2.2.2.2.2.2.1 kM.2.2.2.2.2.2.2.2.1 kM.2.2.2.2.2.2.2.2.2.1 bC aC key kM.2.2.2.2.2.2.2.2.2.2.1 kM.2.2.2.2.2.2.2.2.2.2.2.1 kM.2.2.2.2.2.2.2.2.2.2.2.2.1 kM.2.2.2.2.2.2.2.2.2.2.2.2.2.1 kM.2.2.2.2.2.2.2.2.2.2.2.2.2.2.1 kM.2.2.2.2.2.2.2.2.2.2.2.2.2.2.2.1 kM.2.2.2.2.2.2.2.2.2.2.2.2.2.2.2.2).bind fun pG=>(FM pG.1 0 out).bind fun b=>some (b,(0:Int))))))) r_
noncomputable def F7 (kind:Int)(n:Int)(key:List UInt8)(aO:List UInt8)(iR:List UInt8)(data:List UInt8):Option (List UInt8×Int) :=
  (jf kind n ((key.length:Nat):Int) (1:Int) (1:Int) (0:UInt32) (0:UInt64) (0:UInt32) (0:Int) (0:Int) aO iR).bind fun r_=>if r_≠0 then(some (([]:List UInt8),r_)) else((vH kind n ((key.length:Nat):Int) (1:Int) (1:Int) (0:UInt32) (0:UInt64) (0:UInt32) (0:Int) (0:Int) aO iR key false n data).bind fun aS=>some (aS.1,aS.2))
noncomputable def Fj (k_:Int)(n:Int)(data:List UInt8):Option (List UInt8×Int) :=
  (Dk k_ n ([]:List UInt8) ([]:List UInt8) ([]:List UInt8) data).bind fun r_=>some (r_.1,r_.2)
noncomputable def OG (b:List UInt8):(List (List UInt8)×Int)->Option ((List (List UInt8)×Int)⊕(List (List UInt8)×Int×Int))
  | (parts,at_)=>if at_ < ((b.length:Nat):Int) then((ku b at_).bind fun r_=>if r_.2≠0 then(Option.map Sum.inr (some (([]:List (List UInt8)),at_,(4:Int)))) else(if(UInt64.ofInt (ay (((b.length:Nat):Int) - (ay (at_+8))))) < r_.1 then(Option.map Sum.inr (some (([]:List (List UInt8)),ay (at_+8),(4:Int)))) else((FM b (ay (at_+8)) (ay ((ay (at_+8))+(ay r_.1.toNat)))).bind fun b1=>(app ([]:List UInt8) b1 1).bind fun b2=>(app parts ([b2]:List (List UInt8)) 24).bind fun parts1=>some (.inl (parts1,ay ((ay (at_+8))+(ay r_.1.toNat))))))) else(Option.map Sum.inr (some (parts,(0:Int),(0:Int))))
noncomputable def m_mac_Unrow (b:List UInt8):Option (List (List UInt8)×Int×Int) :=
  if 16777216 < ((b.length:Nat):Int) then(some (([]:List (List UInt8)),(0:Int),(2:Int))) else(aZ (OG b) (([]:List (List UInt8)),(0:Int)))
noncomputable def rO (w_:UInt32):Option (List UInt8) :=
  some ([UInt8.ofNat w_.toNat,UInt8.ofNat (mO w_ ((8:UInt64).toNat)).toNat,UInt8.ofNat (mO w_ ((16:UInt64).toNat)).toNat,UInt8.ofNat (mO w_ ((24:UInt64).toNat)).toNat]:List UInt8)
noncomputable def jK (b:List UInt8)(n:Int):Option (List UInt8) :=
  (rO (UInt32.ofInt n)).bind fun r_=>(app b r_ 1).bind fun b1=>some b1
noncomputable def wE (ai:Int)(ah:Int)(af:Int)(ag:Int)(ax:Int)(pass:List UInt8)(aO:List UInt8)(secret:List UInt8)(extra:List UInt8):Option (List UInt8×Int) :=
  (aT (⟨[ag,ax,ah,af,(19:Int),ai],rfl⟩:Vec Int 6).l (0:Int)).bind fun iF=>(jK ([]:List UInt8) iF).bind fun dN=>(aT (⟨[ag,ax,ah,af,(19:Int),ai],rfl⟩:Vec Int 6).l (1:Int)).bind fun jA=>(jK dN jA).bind fun fP=>(aT (⟨[ag,ax,ah,af,(19:Int),ai],rfl⟩:Vec Int 6).l (2:Int)).bind fun kz=>(jK fP kz).bind fun iL=>(aT (⟨[ag,ax,ah,af,(19:Int),ai],rfl⟩:Vec Int 6).l (3:Int)).bind fun kU=>(jK iL kU).bind fun kM=>(aT (⟨[ag,ax,ah,af,(19:Int),ai],rfl⟩:Vec Int 6).l (4:Int)).bind fun lJ=>(jK kM lJ).bind fun pG=>(aT (⟨[ag,ax,ah,af,(19:Int),ai],rfl⟩:Vec Int 6).l (5:Int)).bind fun pg=>(jK pG pg).bind fun qZ=>(jK qZ ((pass.length:Nat):Int)).bind fun GM=>(app GM pass 1).bind fun b=>(jK b ((aO.length:Nat):Int)).bind fun JZ=>(app JZ aO 1).bind fun b1=>(jK b1 ((secret.length:Nat):Int)).bind fun Ae=>(app Ae secret 1).bind fun b2=>(jK b2 ((extra.length:Nat):Int)).bind fun Ho=>(app Ho extra 1).bind fun b3=>(Fj (1:Int) (64:Int) b3).bind fun LJ=>some (LJ.1,LJ.2)
noncomputable def rP (ai:Int)(ah:Int)(af:Int)(ag:Int)(ax:Int)(pass:List UInt8)(aO:List UInt8)(secret:List UInt8)(extra:List UInt8)(aU:Bool):Option (List UInt8×Int) :=
  if aU=true then(some (([]:List UInt8),(2:Int))) else(wE ai ah af ag ax pass aO secret extra)
noncomputable def mQ (ai:Int)(ah:Int)(af:Int)(ag:Int)(ax:Int)(pass:List UInt8)(aO:List UInt8)(secret:List UInt8)(extra:List UInt8):Option (List UInt8×Int) :=
  (yw ai ah af ag ax).bind fun r_=>if(!r_)=true then(some (([]:List UInt8),(200:Int))) else(if 65536 < ((pass.length:Nat):Int) then(some (([]:List UInt8),(2:Int))) else((qM ai ah af ag ax aO).bind fun aS=>if aS≠0 then(some (([]:List UInt8),(201:Int))) else(if 64 < ((secret.length:Nat):Int) then(rP ai ah af ag ax pass aO secret extra (decide (64 < ((secret.length:Nat):Int)))) else(rP ai ah af ag ax pass aO secret extra (decide (1024 < ((extra.length:Nat):Int)))))))
noncomputable def kW (ai:Int)(ah:Int)(af:Int)(ag:Int)(ax:Int):Option Int :=
  (need ((ay (4*ag))≠0)).bind fun u=>some (ay (Int.tdiv ah (ay (4*ag))))
noncomputable def nC (ai:Int)(ah:Int)(af:Int)(ag:Int)(ax:Int):Option Int :=
  (kW ai ah af ag ax).bind fun r_=>some (ay (4*r_))
noncomputable def qm (n:Int)(b:List UInt8):Option (List UInt8) :=
  (qi (1:Int) n (0:Int) (1:Int) (1:Int) (0:UInt32) (0:UInt64) (0:UInt32) (0:Int) (0:Int) ([]:List UInt8) ([]:List UInt8) ([]:List UInt8) false n b).bind fun r_=>some r_.1
noncomputable def zh (size:Int):(List UInt8×List UInt8×Int)->Option ((List UInt8×List UInt8×Int)⊕(List UInt8×Int))
  | (v,out,aU)=>if aU < (ay ((ay ((ay (Int.tdiv (ay (size+31)) 32)) - 2)) - 1)) then((qm (64:Int) v).bind fun fP=>(FM fP 0 (32:Int)).bind fun b3=>(app out b3 1).bind fun out1=>some (.inl (fP,out1,ay (aU+1)))) else(Option.map Sum.inr ((qm (ay (size - (ay (32*(ay ((ay (Int.tdiv (ay (size+31)) 32)) - 2)))))) v).bind fun iL=>(app out iL 1).bind fun b4=>some (b4,(0:Int))))
noncomputable def yB (size:Int)(data:List UInt8):Option (List UInt8×Int) :=
  if((decide (size < 1))||(decide (1048576 < size)))=true then(some (([]:List UInt8),(1:Int))) else((rO (UInt32.ofInt size)).bind fun r_=>(app r_ data 1).bind fun b=>if size<=64 then((qm size b).bind fun aS=>some (aS,(0:Int))) else((qm (64:Int) b).bind fun dN=>(FM dN 0 (32:Int)).bind fun b1=>(app ([]:List UInt8) b1 1).bind fun b2=>aZ (zh size) (dN,b2,(0:Int))))
noncomputable def oz (start:List UInt8)(m_:List (List (Vec UInt8 1024)))(aU:Int):(List (Vec UInt8 1024)×Int)->Option ((List (Vec UInt8 1024)×Int)⊕((List (List (Vec UInt8 1024))×Int)⊕(Int×Int×Int×Int×Int×List (List (Vec UInt8 1024)))))
  | (l,lJ)=>if lJ < 2 then((app ([]:List UInt8) start 1).bind fun b=>(jK b lJ).bind fun aS=>(jK aS aU).bind fun dN=>(yB (1024:Int) dN).bind fun fP=>(yN 1024 fP.1).bind fun v=>(aT l lJ).bind fun pg=>some (.inl (l.set (Int.toNat lJ) v,ay (lJ+1)))) else(Option.map Sum.inr ((app m_ ([l]:List (List (Vec UInt8 1024))) 24).bind fun b1=>some (.inl (b1,ay (aU+1)))))
noncomputable def rQ (ai:Int)(ah:Int)(af:Int)(ag:Int)(ax:Int)(start:List UInt8):(List (List (Vec UInt8 1024))×Int)->Option ((List (List (Vec UInt8 1024))×Int)⊕(Int×Int×Int×Int×Int×List (List (Vec UInt8 1024))))
  | (m_,aU)=>if aU < ag then((nC ai ah af ag ax).bind fun r_=>(need ((0:Int)<=r_/\(r_:Int)<=r_/\Int.toNat r_*1024<=140737488355328)).bind fun u=>aZ (oz start m_ aU) (List.replicate (Int.toNat r_) (Vec.rep 1024 (0:UInt8)),(0:Int))) else(Option.map Sum.inr (some (ai,ah,af,ag,ax,m_)))
noncomputable def xx (ai:Int)(ah:Int)(af:Int)(ag:Int)(ax:Int)(start:List UInt8):Option (Int×Int×Int×Int×Int×List (List (Vec UInt8 1024))) :=
  aZ (rQ ai ah af ag ax start) (([]:List (List (Vec UInt8 1024))),(0:Int))
noncomputable def uw (Ub:List UInt8)(Uc:List UInt8):Option Bool :=
  if((Ub.length:Nat):Int)≠1024 then(some false) else(if((Uc.length:Nat):Int)≠1024 then(some false) else(some true))
noncomputable def xP (b:List UInt8):(Vec UInt64 128×Int)->Option ((Vec UInt64 128×Int)⊕(Vec UInt64 128))
  | (mW,aU)=>if aU < 128 then((ku b (ay (8*aU))).bind fun r_=>(aT mW.l aU).bind fun x_1=>(some (lD mW aU r_.1)).bind fun v=>some (.inl (v,ay (aU+1)))) else(Option.map Sum.inr (some mW))
noncomputable def wG (b:List UInt8):Option (Vec UInt64 128) :=
  aZ (xP b) ((Vec.rep 128 (0:UInt64)),(0:Int))
noncomputable def wH (k_:Int)(p:Int):Option (Int×Int) :=
  some (ay ((ay (16*p))+k_),p)
noncomputable def oN (x_:UInt64)(y_:UInt64):Option UInt64 :=
  some (((2:UInt64)*(x_&&&4294967295))*(y_&&&4294967295))
noncomputable def zi (a_:UInt64)(b:UInt64)(c:UInt64)(d:UInt64):Option (UInt64×UInt64×UInt64×UInt64) :=
  (oN a_ b).bind fun r_=>(fO (d^^^(a_+(b+r_))) (-32:Int)).bind fun aS=>(oN c aS).bind fun dN=>(fO (b^^^(c+(aS+dN))) (-24:Int)).bind fun fP=>(oN (a_+(b+r_)) fP).bind fun iL=>(fO (aS^^^((a_+(b+r_))+(fP+iL))) (-16:Int)).bind fun kM=>(oN (c+(aS+dN)) kM).bind fun pG=>(fO (fP^^^((c+(aS+dN))+(kM+pG))) (-63:Int)).bind fun qZ=>some ((a_+(b+r_))+(fP+iL),qZ,(c+(aS+dN))+(kM+pG),kM)
noncomputable def zk  : (Vec UInt64 16×Int)->Option ((Vec UInt64 16×Int)⊕(Vec UInt64 16))
  | (v1,aU)=>if aU < 8 then((aT (⟨[(⟨[(0:Int),(4:Int),(8:Int),(12:Int)],rfl⟩:Vec Int 4),(⟨[(1:Int),(5:Int),(9:Int),(13:Int)],rfl⟩:Vec Int 4),(⟨[(2:Int),(6:Int),(10:Int),(14:Int)],rfl⟩:Vec Int 4),(⟨[(3:Int),(7:Int),(11:Int),(15:Int)],rfl⟩:Vec Int 4),(⟨[(0:Int),(5:Int),(10:Int),(15:Int)],rfl⟩:Vec Int 4),(⟨[(1:Int),(6:Int),(11:Int),(12:Int)],rfl⟩:Vec Int 4),(⟨[(2:Int),(7:Int),(8:Int),(13:Int)],rfl⟩:Vec Int 4),(⟨[(3:Int),(4:Int),(9:Int),(14:Int)],rfl⟩:Vec Int 4)],rfl⟩:Vec (Vec Int 4) 8).l aU).bind fun x_1=>(aT x_1.l (0:Int)).bind fun iF=>(aT x_1.l (0:Int)).bind fun jA=>(aT v1.l jA).bind fun kz=>(aT x_1.l (1:Int)).bind fun kU=>(aT v1.l kU).bind fun lJ=>(aT x_1.l (2:Int)).bind fun pg=>(aT v1.l pg).bind fun EP=>(aT x_1.l (3:Int)).bind fun Af=>(aT v1.l Af).bind fun uO=>(aT x_1.l (1:Int)).bind fun lM=>(aT x_1.l (2:Int)).bind fun Dj=>(aT x_1.l (3:Int)).bind fun jk=>(zi kz lJ EP uO).bind fun r_=>(aT v1.l iF).bind fun J3=>(some (lD v1 iF r_.1)).bind fun v2=>(aT v2.l lM).bind fun GV=>(some (lD v2 lM r_.2.1)).bind fun v3=>(aT v3.l Dj).bind fun Jt=>(some (lD v3 Dj r_.2.2.1)).bind fun v4=>(aT v4.l jk).bind fun Q_=>(some (lD v4 jk r_.2.2.2)).bind fun v5=>some (.inl (v5,ay (aU+1)))) else(Option.map Sum.inr (some v1))
noncomputable def yC (v:Vec UInt64 16):Option (Vec UInt64 16) :=
  aZ (zk) (v,(0:Int))
noncomputable def ug (aS:(Vec UInt64 16)):(Int×Vec UInt64 128×Int)->Option ((Int×Vec UInt64 128×Int)⊕(Int×Vec UInt64 128))
  | (Ai,kz,kU)=>if kU < 16 then((aT aS.l kU).bind fun lJ=>(wH kU Ai).bind fun dN=>(aT kz.l dN.1).bind fun pg=>(some (lD kz dN.1 lJ)).bind fun v2=>some (.inl (dN.2,v2,ay (kU+1)))) else(Option.map Sum.inr (some (Ai,kz)))
noncomputable def xQ (p:Vec UInt64 128):(Int×Vec UInt64 16×Int)->Option ((Int×Vec UInt64 16×Int)⊕(Int×Vec UInt64 128))
  | (Aj,v,aU)=>if aU < 16 then((wH aU Aj).bind fun r_=>(aT p.l r_.1).bind fun iF=>(aT v.l aU).bind fun jA=>(some (lD v aU iF)).bind fun v1=>some (.inl (r_.2,v1,ay (aU+1)))) else(Option.map Sum.inr ((yC v).bind fun aS=>aZ (ug aS) (Aj,p,(0:Int))))
noncomputable def zl (place:Int)(p:Vec UInt64 128):Option (Int×Vec UInt64 128) :=
  aZ (xQ p) (place,(Vec.rep 16 (0:UInt64)),(0:Int))
noncomputable def wI (k_:Int)(p:Int):Option (Int×Int) :=
  some (ay ((ay ((ay (2*p))+(ay (16*(ay (Int.tdiv k_ 2))))))+(Int.tmod k_ 2)),p)
noncomputable def oP (aS:(Vec UInt64 16)):(Int×Vec UInt64 128×Int)->Option ((Int×Vec UInt64 128×Int)⊕(Int×Vec UInt64 128))
  | (Ai,kz,kU)=>if kU < 16 then((aT aS.l kU).bind fun lJ=>(wI kU Ai).bind fun dN=>(aT kz.l dN.1).bind fun pg=>(some (lD kz dN.1 lJ)).bind fun v2=>some (.inl (dN.2,v2,ay (kU+1)))) else(Option.map Sum.inr (some (Ai,kz)))
noncomputable def sU (p:Vec UInt64 128):(Int×Vec UInt64 16×Int)->Option ((Int×Vec UInt64 16×Int)⊕(Int×Vec UInt64 128))
  | (Aj,v,aU)=>if aU < 16 then((wI aU Aj).bind fun r_=>(aT p.l r_.1).bind fun iF=>(aT v.l aU).bind fun jA=>(some (lD v aU iF)).bind fun v1=>some (.inl (r_.2,v1,ay (aU+1)))) else(Option.map Sum.inr ((yC v).bind fun aS=>aZ (oP aS) (Aj,p,(0:Int))))
noncomputable def uh (place:Int)(p:Vec UInt64 128):Option (Int×Vec UInt64 128) :=
  aZ (sU p) (place,(Vec.rep 16 (0:UInt64)),(0:Int))
noncomputable def rU (aU:Int)(iF:UInt64):(List UInt8×Int)->Option ((List UInt8×Int)⊕((List UInt8×Int)⊕(List UInt8×Vec UInt64 128)))
  | (b1,s_)=>if s_ < 64 then((need (0<=s_)).bind fun u=>(app b1 ([UInt8.ofNat (iD iF (Int.toNat s_)).toNat]:List UInt8) 1).bind fun b2=>some (.inl (b2,ay (s_+8)))) else(Option.map Sum.inr (some (.inl (b1,ay (aU+1)))))
noncomputable def zn (w_:Vec UInt64 128):(List UInt8×Int)->Option ((List UInt8×Int)⊕(List UInt8×Vec UInt64 128))
  | (b,aU)=>if aU < 128 then((aT w_.l aU).bind fun iF=>aZ (rU aU iF) (b,(0:Int))) else(Option.map Sum.inr (some (b,w_)))
noncomputable def BI (w_:Vec UInt64 128):Option (List UInt8×Vec UInt64 128) :=
  aZ (zn w_) (List.replicate (Int.toNat (0:Int)) (0:UInt8),(0:Int))
noncomputable def xy (fP:Vec UInt64 128):(Vec UInt64 128×Int)->Option ((Vec UInt64 128×Int)⊕(List UInt8×Int))
  | (z2,Af)=>if Af < 128 then((aT z2.l Af).bind fun uO=>(aT fP.l Af).bind fun lM=>(aT z2.l Af).bind fun Dj=>(some (lD z2 Af (uO^^^lM))).bind fun v1=>some (.inl (v1,ay (Af+1)))) else(Option.map Sum.inr ((BI z2).bind fun pG=>some (pG.1,(0:Int))))
noncomputable def xA (fP:Vec UInt64 128):(Vec UInt64 128×Int)->Option ((Vec UInt64 128×Int)⊕(List UInt8×Int))
  | (z1,EP)=>if EP < 8 then((uh EP z1).bind fun kM=>some (.inl (kM.2,ay (EP+1)))) else(Option.map Sum.inr (aZ (xy fP) (z1,(0:Int))))
noncomputable def xB (fP:Vec UInt64 128):(Vec UInt64 128×Int)->Option ((Vec UInt64 128×Int)⊕(List UInt8×Int))
  | (z,pg)=>if pg < 8 then((zl pg z).bind fun iL=>some (.inl (iL.2,ay (pg+1)))) else(Option.map Sum.inr (aZ (xA fP) (z,(0:Int))))
noncomputable def AQ (dN:(Vec UInt64 128)):(Vec UInt64 128×Int)->Option ((Vec UInt64 128×Int)⊕(List UInt8×Int))
  | (fP,jA)=>if jA < 128 then((aT fP.l jA).bind fun kz=>(aT dN.l jA).bind fun kU=>(aT fP.l jA).bind fun lJ=>(some (lD fP jA (kz^^^kU))).bind fun v=>some (.inl (v,ay (jA+1)))) else(Option.map Sum.inr (aZ (xB fP) (fP,(0:Int))))
noncomputable def sV (x_:List UInt8)(y_:List UInt8):Option (List UInt8×Int) :=
  (uw x_ y_).bind fun r_=>if(!r_)=true then(some (([]:List UInt8),(1:Int))) else((wG x_).bind fun aS=>(wG y_).bind fun dN=>aZ (AQ dN) (aS,(0:Int)))
noncomputable def ng (ai:Int)(ah:Int)(af:Int)(ag:Int)(ax:Int)(n1:Int)(iL:(List UInt8×Int)):(List UInt64×Int)->Option ((List UInt64×Int)⊕((List UInt64×Int)⊕(List UInt64)))
  | (l1,i)=>if i < 128 then((kW ai ah af ag ax).bind fun kM=>if((l1.length:Nat):Int) < kM then((ku iL.1 (ay (8*i))).bind fun pG=>(app l1 ([pG.1]:List UInt64) 8).bind fun l2=>some (.inl (l2,ay (i+1)))) else(Option.map Sum.inr (some (.inl (l1,ay (n1+1)))))) else(Option.map Sum.inr (some (.inl (l1,ay (n1+1)))))
noncomputable def ni (ai:Int)(ah:Int)(af:Int)(ag:Int)(ax:Int)(pass:Int)(slice:Int)(lane:Int)(l:List UInt64)(n1:Int)(aS:Int):(List UInt8×Int)->Option ((List UInt8×Int)⊕((List UInt64×Int)⊕(List UInt64)))
  | (Qs,aU)=>if aU < 7 then((aT (⟨[pass,lane,slice,ay (ag*aS),af,ai,n1],rfl⟩:Vec Int 7).l aU).bind fun x_1=>(rJ (UInt64.ofInt x_1)).bind fun dN=>(app Qs dN 1).bind fun in_1=>some (.inl (in_1,ay (aU+1)))) else(Option.map Sum.inr ((FM (List.replicate (Int.toNat (1024:Int)) (0:UInt8)) ((Qs.length:Nat):Int) ((Int.toNat (1024:Int):Nat):Int)).bind fun b=>(app Qs b 1).bind fun in_2=>(sV (List.replicate (Int.toNat (1024:Int)) (0:UInt8)) in_2).bind fun fP=>(sV (List.replicate (Int.toNat (1024:Int)) (0:UInt8)) fP.1).bind fun iL=>aZ (ng ai ah af ag ax n1 iL) (l,(0:Int))))
noncomputable def qw (ai:Int)(ah:Int)(af:Int)(ag:Int)(ax:Int)(pass:Int)(slice:Int)(lane:Int):(List UInt64×Int)->Option ((List UInt64×Int)⊕(List UInt64))
  | (l,n1)=>(kW ai ah af ag ax).bind fun r_=>if((l.length:Nat):Int) < r_ then((nC ai ah af ag ax).bind fun aS=>aZ (ni ai ah af ag ax pass slice lane l n1 aS) (List.replicate (Int.toNat (0:Int)) (0:UInt8),(0:Int))) else(Option.map Sum.inr (some l))
noncomputable def qx (ai:Int)(ah:Int)(af:Int)(ag:Int)(ax:Int)(pass:Int)(slice:Int)(lane:Int):Option (List UInt64) :=
  aZ (qw ai ah af ag ax pass slice lane) (([]:List UInt64),(1:Int))
noncomputable def mG (ai:Int)(ah:Int)(af:Int)(ag:Int)(ax:Int)(j:UInt64)(l:Int)(start:Int)(area:Int):Option (Int×Int) :=
  (nC ai ah af ag ax).bind fun aS=>(need (aS≠0)).bind fun u1=>some (l,Int.tmod (ay ((ay ((ay (start+area)) - 1)) - (ay (iD ((UInt64.ofInt area)*(iD ((j&&&4294967295)*(j&&&4294967295)) ((32:UInt64).toNat))) ((32:UInt64).toNat)).toNat))) aS)
noncomputable def oC (ai:Int)(ah:Int)(af:Int)(ag:Int)(ax:Int)(lane:Int)(x_:Int)(j:UInt64)(l:Int)(whole:Int)(start:Int):Option (Int×Int) :=
  if l=lane then(mG ai ah af ag ax j l start (ay (whole+(ay (x_ - 1))))) else(if x_=0 then(mG ai ah af ag ax j l start (ay (whole - 1))) else(mG ai ah af ag ax j l start whole))
noncomputable def oD (ai:Int)(ah:Int)(af:Int)(ag:Int)(ax:Int)(pass:Int)(slice:Int)(lane:Int)(x_:Int)(j:UInt64)(l:Int)(r_:Int)(whole:Int):Option (Int×Int) :=
  if((decide (pass=0))||(decide (slice=3)))=true then(oC ai ah af ag ax lane x_ j l whole (0:Int)) else(oC ai ah af ag ax lane x_ j l whole (ay ((ay (slice+1))*r_)))
noncomputable def oG (ai:Int)(ah:Int)(af:Int)(ag:Int)(ax:Int)(pass:Int)(slice:Int)(lane:Int)(x_:Int)(j:UInt64)(l:Int):Option (Int×Int) :=
  (kW ai ah af ag ax).bind fun r_=>if pass=0 then(oD ai ah af ag ax pass slice lane x_ j l r_ (ay (slice*r_))) else(oD ai ah af ag ax pass slice lane x_ j l r_ (ay (3*r_)))
noncomputable def uy (ai:Int)(ah:Int)(af:Int)(ag:Int)(ax:Int)(pass:Int)(slice:Int)(lane:Int)(x_:Int)(j:UInt64):Option (Int×Int) :=
  (need ((UInt64.ofInt ag)≠0)).bind fun u=>if((decide (pass=0))&&(decide (slice=0)))=true then(oG ai ah af ag ax pass slice lane x_ j lane) else(oG ai ah af ag ax pass slice lane x_ j (ay ((iD j ((32:UInt64).toNat)) % (UInt64.ofInt ag)).toNat))
noncomputable def wJ (Ub:List UInt8)(Uc:List UInt8)(l_2:List UInt8):Option Bool :=
  if((Ub.length:Nat):Int)≠1024 then(some false) else(if((Uc.length:Nat):Int)≠1024 then(some false) else(if((l_2.length:Nat):Int)≠1024 then(some false) else(some true)))
noncomputable def AU (x_:List UInt8)(y_:List UInt8):(List UInt8×Int)->Option ((List UInt8×Int)⊕(List UInt8×Int))
  | (b,jA)=>if jA < ((Int.toNat (1024:Int):Nat):Int) then((aT x_ jA).bind fun kz=>(aT y_ jA).bind fun kU=>(aT b jA).bind fun lJ=>some (.inl (b.set (Int.toNat jA) (kz^^^kU),ay (jA+1)))) else(Option.map Sum.inr (some (b,(0:Int))))
noncomputable def Ak (x_:List UInt8)(y_:List UInt8):Option (List UInt8×Int) :=
  (uw x_ y_).bind fun r_=>if(!r_)=true then(some (([]:List UInt8),(1:Int))) else(aZ (AU x_ y_) (List.replicate (Int.toNat (1024:Int)) (0:UInt8),(0:Int)))
noncomputable def yD (x_:List UInt8)(y_:List UInt8)(old:List UInt8):Option (List UInt8×Int) :=
  (wJ x_ y_ old).bind fun r_=>if(!r_)=true then(some (([]:List UInt8),(1:Int))) else((sV x_ y_).bind fun aS=>(Ak aS.1 old).bind fun dN=>some (dN.1,dN.2))
noncomputable def iU (aU:Int)(wY:List (List (Vec UInt8 1024))):Option ((List (List (Vec UInt8 1024))×Int)⊕(Int×Int×Int×Int×Int×List (List (Vec UInt8 1024)))) :=
  some (.inl (wY,ay (aU+1)))
noncomputable def lS (dm:Int)(bQ:Int)(bF:Int)(dA:Int)(eu:Int)(pass:Int)(slice:Int)(lane:Int)(s_:Int)(aS:(List UInt64))(b:List (Vec UInt8 1024)):(List (List (Vec UInt8 1024))×Int)->Option ((List (List (Vec UInt8 1024))×Int)⊕(Int×Int×Int×Int×Int×List (List (Vec UInt8 1024))))
  | (m_,aU)=>if aU < s_ then(if((decide (pass=0))&&(decide ((ay ((ay (slice*s_))+aU)) < 2)))=true then(iU aU m_) else((aT m_ lane).bind fun b1=>(need (((b.length:Nat):Int)≠0)).bind fun u=>(aT b1 (Int.tmod (ay ((ay ((ay ((ay (slice*s_))+aU))+((b.length:Nat):Int))) - 1)) ((b.length:Nat):Int))).bind fun lJ=>(FM lJ.l 0 (8:Int)).bind fun b2=>(ku b2 (0:Int)).bind fun dN=>(aT aS aU).bind fun pg=>(uy dm bQ bF dA eu pass slice lane aU pg).bind fun fP=>if pass=0 then((aT m_ fP.1).bind fun b3=>(aT b3 fP.2).bind fun EP=>(sV lJ.l EP.l).bind fun iL=>(yN 1024 iL.1).bind fun v=>(aT b1 (ay ((ay (slice*s_))+aU))).bind fun Af=>iU aU (m_.set (Int.toNat lane) (b1.set (Int.toNat (ay ((ay (slice*s_))+aU))) v))) else((aT m_ fP.1).bind fun b4=>(aT b4 fP.2).bind fun uO=>(aT b1 (ay ((ay (slice*s_))+aU))).bind fun lM=>(yD lJ.l uO.l lM.l).bind fun kM=>(yN 1024 kM.1).bind fun v1=>(aT b1 (ay ((ay (slice*s_))+aU))).bind fun Dj=>iU aU (m_.set (Int.toNat lane) (b1.set (Int.toNat (ay ((ay (slice*s_))+aU))) v1))))) else(Option.map Sum.inr (some (dm,bQ,bF,dA,eu,m_)))
noncomputable def iV (jk:Int)(Lj:List (List (Vec UInt8 1024))):Option ((List (List (Vec UInt8 1024))×Int)⊕(Int×Int×Int×Int×Int×List (List (Vec UInt8 1024)))) :=
  some (.inl (Lj,ay (jk+1)))
noncomputable def lT (dm:Int)(bQ:Int)(bF:Int)(dA:Int)(eu:Int)(pass:Int)(slice:Int)(lane:Int)(s_:Int)(b5:List (Vec UInt8 1024)):(List (List (Vec UInt8 1024))×Int)->Option ((List (List (Vec UInt8 1024))×Int)⊕(Int×Int×Int×Int×Int×List (List (Vec UInt8 1024))))
  | (GH,jk)=>if jk < s_ then(if((decide (pass=0))&&(decide ((ay ((ay (slice*s_))+jk)) < 2)))=true then(iV jk GH) else((aT GH lane).bind fun b6=>(need (((b5.length:Nat):Int)≠0)).bind fun u1=>(aT b6 (Int.tmod (ay ((ay ((ay ((ay (slice*s_))+jk))+((b5.length:Nat):Int))) - 1)) ((b5.length:Nat):Int))).bind fun J3=>(FM J3.l 0 (8:Int)).bind fun b7=>(ku b7 (0:Int)).bind fun pG=>(uy dm bQ bF dA eu pass slice lane jk pG.1).bind fun qZ=>if pass=0 then((aT GH qZ.1).bind fun b8=>(aT b8 qZ.2).bind fun GV=>(sV J3.l GV.l).bind fun GM=>(yN 1024 GM.1).bind fun v2=>(aT b6 (ay ((ay (slice*s_))+jk))).bind fun Jt=>iV jk (GH.set (Int.toNat lane) (b6.set (Int.toNat (ay ((ay (slice*s_))+jk))) v2))) else((aT GH qZ.1).bind fun b9=>(aT b9 qZ.2).bind fun Q_=>(aT b6 (ay ((ay (slice*s_))+jk))).bind fun GX=>(yD J3.l Q_.l GX.l).bind fun JZ=>(yN 1024 JZ.1).bind fun v3=>(aT b6 (ay ((ay (slice*s_))+jk))).bind fun LP=>iV jk (GH.set (Int.toNat lane) (b6.set (Int.toNat (ay ((ay (slice*s_))+jk))) v3))))) else(Option.map Sum.inr (some (dm,bQ,bF,dA,eu,GH)))
noncomputable def nS (dm:Int)(bQ:Int)(bF:Int)(dA:Int)(eu:Int)(iJ:List (List (Vec UInt8 1024)))(pass:Int)(slice:Int)(lane:Int)(s_:Int):Option (Int×Int×Int×Int×Int×List (List (Vec UInt8 1024))) :=
  if((decide (dm=1))||(((decide (dm=2))&&(decide (pass=0)))&&(decide (slice < 2))))=true then((qx dm bQ bF dA eu pass slice lane).bind fun aS=>(aT iJ lane).bind fun b=>aZ (lS dm bQ bF dA eu pass slice lane s_ aS b) (iJ,(0:Int))) else((aT iJ lane).bind fun b5=>aZ (lT dm bQ bF dA eu pass slice lane s_ b5) (iJ,(0:Int)))
noncomputable def nK (dm:Int)(bQ:Int)(bF:Int)(dA:Int)(eu:Int)(iJ:List (List (Vec UInt8 1024)))(pass:Int)(slice:Int)(lane:Int):Option (Int×Int×Int×Int×Int×List (List (Vec UInt8 1024))) :=
  (kW dm bQ bF dA eu).bind fun r_=>nS dm bQ bF dA eu iJ pass slice lane r_
noncomputable def qy (lane:Int)(J7:Int)(F8:Int)(F9:Int)(IE:Int)(NU:Int)(NV:List (List (Vec UInt8 1024)))(p:Int)(p1:Int):Option (Int×Int×Int×Int×Int×List (List (Vec UInt8 1024))×Int×Int) :=
  (nK J7 F8 F9 IE NU NV p p1 lane).bind fun r_=>some (r_.1,r_.2.1,r_.2.2.1,r_.2.2.2.1,r_.2.2.2.2.1,r_.2.2.2.2.2,p,p1)
noncomputable def qA (lanes:Int):(Int×Int×Int×Int×Int×List (List (Vec UInt8 1024))×Int×Int×Int)->Option ((Int×Int×Int×Int×Int×List (List (Vec UInt8 1024))×Int×Int×Int)⊕(Int×Int×Int×Int×Int×List (List (Vec UInt8 1024))×Int×Int))
  | (Yr,Yt,Yu,Yv,Yw,VW,Yx,Yy,aU)=>if aU < lanes then((qy aU Yr Yt Yu Yv Yw VW Yx Yy).bind fun r_=>some (.inl (r_.1,r_.2.1,r_.2.2.1,r_.2.2.2.1,r_.2.2.2.2.1,r_.2.2.2.2.2.1,r_.2.2.2.2.2.2.1,r_.2.2.2.2.2.2.2,ay (aU+1)))) else(Option.map Sum.inr (some (Yr,Yt,Yu,Yv,Yw,VW,Yx,Yy)))
noncomputable def vI (lanes:Int)(F_:Int)(Dp:Int)(Dq:Int)(EH:Int)(IG:Int)(II:List (List (Vec UInt8 1024)))(one:Int)(one1:Int):Option (Int×Int×Int×Int×Int×List (List (Vec UInt8 1024))×Int×Int) :=
  aZ (qA lanes) (F_,Dp,Dq,EH,IG,II,one,one1,(0:Int))
noncomputable def kP (aU:Int):(Int×Int×Int×Int×Int×List (List (Vec UInt8 1024))×Int×Int)->Option ((Int×Int×Int×Int×Int×List (List (Vec UInt8 1024))×Int×Int)⊕((Int×Int×Int×Int×Int×List (List (Vec UInt8 1024))×Int)⊕(Int×Int×Int×Int×Int×List (List (Vec UInt8 1024)))))
  | (m_6,m_7,m_8,m_9,Yz,VX,pass,lJ)=>if lJ < 4 then((vI m_9 m_6 m_7 m_8 m_9 Yz VX pass lJ).bind fun r_=>some (.inl (r_.1,r_.2.1,r_.2.2.1,r_.2.2.2.1,r_.2.2.2.2.1,r_.2.2.2.2.2.1,r_.2.2.2.2.2.2.1,ay (lJ+1)))) else(Option.map Sum.inr (some (.inl (m_6,m_7,m_8,m_9,Yz,VX,ay (aU+1)))))
noncomputable def mf (bF:Int):(Int×Int×Int×Int×Int×List (List (Vec UInt8 1024))×Int)->Option ((Int×Int×Int×Int×Int×List (List (Vec UInt8 1024))×Int)⊕(Int×Int×Int×Int×Int×List (List (Vec UInt8 1024))))
  | (m_,wY,GH,Lj,VY,m_5,aU)=>if aU < bF then(aZ (kP aU) (m_,wY,GH,Lj,VY,m_5,aU,(0:Int))) else(Option.map Sum.inr (some (m_,wY,GH,Lj,VY,m_5)))
noncomputable def oQ (dm:Int)(bQ:Int)(bF:Int)(dA:Int)(eu:Int)(iJ:List (List (Vec UInt8 1024))):Option (Int×Int×Int×Int×Int×List (List (Vec UInt8 1024))) :=
  aZ (mf bF) (dm,bQ,bF,dA,eu,iJ,(0:Int))
noncomputable def o7 (dm:Int)(bQ:Int)(bF:Int)(dA:Int)(eu:Int)(iJ:List (List (Vec UInt8 1024))):(Vec UInt8 1024×Int)->Option ((Vec UInt8 1024×Int)⊕(List UInt8×Int×Int×Int×Int×Int×List (List (Vec UInt8 1024))))
  | (aU,pg)=>if pg < ((iJ.length:Nat):Int) then((aT iJ pg).bind fun b=>(aT b (ay (((b.length:Nat):Int) - 1))).bind fun EP=>(Ak aU.l EP.l).bind fun r_=>(yN 1024 r_.1).bind fun v=>some (.inl (v,ay (pg+1)))) else(Option.map Sum.inr ((yB eu aU.l).bind fun aS=>some (aS.1,dm,bQ,bF,dA,eu,iJ)))
noncomputable def oU (dm:Int)(bQ:Int)(bF:Int)(dA:Int)(eu:Int)(iJ:List (List (Vec UInt8 1024))):Option (List UInt8×Int×Int×Int×Int×Int×List (List (Vec UInt8 1024))) :=
  aZ (o7 dm bQ bF dA eu iJ) ((Vec.rep 1024 (0:UInt8)),(0:Int))
noncomputable def zo (ai:Int)(ah:Int)(af:Int)(ag:Int)(ax:Int)(pass:List UInt8)(aO:List UInt8)(secret:List UInt8)(extra:List UInt8):Option (List UInt8×Int) :=
  (mQ ai ah af ag ax pass aO secret extra).bind fun r_=>if r_.2≠0 then(some (([]:List UInt8),r_.2)) else((xx ai ah af ag ax r_.1).bind fun aS=>(oQ aS.1 aS.2.1 aS.2.2.1 aS.2.2.2.1 aS.2.2.2.2.1 aS.2.2.2.2.2).bind fun dN=>(oU dN.1 dN.2.1 dN.2.2.1 dN.2.2.2.1 dN.2.2.2.2.1 dN.2.2.2.2.2).bind fun fP=>some (fP.1,(0:Int)))
noncomputable def qE (ai:Int)(ah:Int)(af:Int)(ag:Int)(ax:Int)(pass:List UInt8)(aO:List UInt8)(secret:List UInt8)(extra:List UInt8):Option (List UInt8×Int) :=
  (zo ai ah af ag ax pass aO secret extra).bind fun r_=>some (r_.1,r_.2)
noncomputable def BJ (ai:Int)(ah:Int)(af:Int)(ag:Int)(ax:Int)(w_:List UInt8)(aO:List UInt8):Option (List UInt8×Int) :=
  (qE ai ah af ag ax w_ aO ([]:List UInt8) ([]:List UInt8)).bind fun r_=>if r_.2≠0 then(some (([]:List UInt8),r_.2)) else((yP ai ah af ag ax aO r_.1).bind fun aS=>some (aS.1,aS.2))
noncomputable def wK (ai:Int)(ah:Int)(af:Int)(ag:Int)(ax:Int)(pass:List UInt8)(aO:List UInt8)(secret:List UInt8)(extra:List UInt8):Option Int :=
  (mY ai ah af ag ax).bind fun r_=>if r_≠0 then(some (200:Int)) else(if 65536 < ((pass.length:Nat):Int) then(some (2:Int)) else((vk ai ah af ag ax aO).bind fun aS=>if aS≠0 then(some (201:Int)) else(if((decide (64 < ((secret.length:Nat):Int)))||(decide (1024 < ((extra.length:Nat):Int))))=true then(some (2:Int)) else(some (0:Int)))))
noncomputable def lW (n:Int):Option (List UInt8) :=
  (nX (UInt64.ofInt n) (4:Int)).bind fun r_=>some r_
noncomputable def Fp (kind:Int)(n:Int)(data:List UInt8):Option (List UInt8×Int) :=
  (F7 kind n ([]:List UInt8) ([]:List UInt8) ([]:List UInt8) data).bind fun r_=>some (r_.1,r_.2)
noncomputable def vJ (ai:Int)(ah:Int)(af:Int)(ag:Int)(ax:Int)(pass:List UInt8)(aO:List UInt8)(secret:List UInt8)(extra:List UInt8):Option (List UInt8×Int) :=
  (wK ai ah af ag ax pass aO secret extra).bind fun r_=>if r_≠0 then(some (([]:List UInt8),r_)) else((aT ([ag,ax,ah,af,(19:Int),ai]:List Int) (0:Int)).bind fun aU=>(lW aU).bind fun aS=>(app ([]:List UInt8) aS 1).bind fun b=>(aT ([ag,ax,ah,af,(19:Int),ai]:List Int) (1:Int)).bind fun iF=>(lW iF).bind fun dN=>(app b dN 1).bind fun b1=>(aT ([ag,ax,ah,af,(19:Int),ai]:List Int) (2:Int)).bind fun jA=>(lW jA).bind fun fP=>(app b1 fP 1).bind fun b2=>(aT ([ag,ax,ah,af,(19:Int),ai]:List Int) (3:Int)).bind fun kz=>(lW kz).bind fun iL=>(app b2 iL 1).bind fun b3=>(aT ([ag,ax,ah,af,(19:Int),ai]:List Int) (4:Int)).bind fun kU=>(lW kU).bind fun kM=>(app b3 kM 1).bind fun b4=>(aT ([ag,ax,ah,af,(19:Int),ai]:List Int) (5:Int)).bind fun lJ=>(lW lJ).bind fun pG=>(app b4 pG 1).bind fun b5=>(lW ((pass.length:Nat):Int)).bind fun qZ=>(app b5 qZ 1).bind fun b6=>(app b6 pass 1).bind fun b7=>(lW ((aO.length:Nat):Int)).bind fun GM=>(app b7 GM 1).bind fun b8=>(app b8 aO 1).bind fun b9=>(lW ((secret.length:Nat):Int)).bind fun JZ=>(app b9 JZ 1).bind fun b10=>(app b10 secret 1).bind fun b11=>(lW ((extra.length:Nat):Int)).bind fun Ae=>(app b11 Ae 1).bind fun b12=>(app b12 extra 1).bind fun b13=>(Fp (1:Int) (64:Int) b13).bind fun Ho=>some (Ho.1,Ho.2))
noncomputable def nY (ai:Int)(ah:Int)(af:Int)(ag:Int)(ax:Int):Option (Int×Int) :=
  (mY ai ah af ag ax).bind fun r_=>if r_≠0 then(some ((0:Int),r_)) else((need ((ay (4*ag))≠0)).bind fun u=>some (ay ((ay (Int.tdiv ah (ay (4*ag))))*4),(0:Int)))
noncomputable def qF (n:Int)(b:List UInt8):Option (List UInt8) :=
  (vH (1:Int) n (0:Int) (1:Int) (1:Int) (0:UInt32) (0:UInt64) (0:UInt32) (0:Int) (0:Int) ([]:List UInt8) ([]:List UInt8) ([]:List UInt8) false n b).bind fun r_=>some r_.1
noncomputable def uz  : (List UInt8×Int×List UInt8)->Option ((List UInt8×Int×List UInt8)⊕(List UInt8×Int))
  | (out,left,v)=>if 96 < left then((FM v 0 (32:Int)).bind fun b=>(app out b 1).bind fun out1=>(qF (64:Int) v).bind fun fP=>some (.inl (out1,ay (left - 32),fP))) else(Option.map Sum.inr ((FM v 0 (32:Int)).bind fun b1=>(app out b1 1).bind fun Ua=>(qF (ay (left - 32)) v).bind fun iL=>(app Ua iL 1).bind fun b2=>some (b2,(0:Int))))
noncomputable def xC (size:Int)(data:List UInt8):(List UInt8×Int)->Option ((List UInt8×Int)⊕(List UInt8×Int))
  | (s_,i)=>if i < ((data.length:Nat):Int) then((aT data i).bind fun aU=>(app s_ ([aU]:List UInt8) 1).bind fun FN=>some (.inl (FN,ay (i+1)))) else(Option.map Sum.inr (if size<=64 then((qF size s_).bind fun aS=>some (aS,(0:Int))) else((qF (64:Int) s_).bind fun dN=>aZ (uz) (([]:List UInt8),size,dN))))
noncomputable def Am (size:Int)(data:List UInt8):Option (List UInt8×Int) :=
  if((decide (size < 1))||(decide (1048576 < size)))=true then(some (([]:List UInt8),(1:Int))) else((nX (UInt64.ofInt size) (4:Int)).bind fun r_=>aZ (xC size data) (r_,(0:Int)))
noncomputable def uA (ai:Int)(ah:Int)(af:Int)(ag:Int)(ax:Int):Option Int :=
  (nY ai ah af ag ax).bind fun r_=>some (ay (Int.tdiv r_.1 4))
noncomputable def Dt (x_:List UInt8)(y_:List UInt8):(List UInt8×Int)->Option ((List UInt8×Int)⊕(List UInt8×Int))
  | (b,i)=>if i < 1024 then((aT x_ i).bind fun jA=>(aT y_ i).bind fun kz=>(app b ([jA^^^kz]:List UInt8) 1).bind fun b1=>some (.inl (b1,ay (i+1)))) else(Option.map Sum.inr (some (b,(0:Int))))
noncomputable def wL (x_:List UInt8)(y_:List UInt8):Option (List UInt8×Int) :=
  if((decide (((x_.length:Nat):Int)≠1024))||(decide (((y_.length:Nat):Int)≠1024)))=true then(some (([]:List UInt8),(1:Int))) else(aZ (Dt x_ y_) (([]:List UInt8),(0:Int)))
noncomputable def Ap (a_:UInt64)(b:UInt64):Option UInt64 :=
  some (((2:UInt64)*(a_ % 4294967296))*(b % 4294967296))
noncomputable def BK (a_:UInt64)(b:UInt64)(c:UInt64)(d:UInt64):Option (Vec UInt64 4) :=
  (Ap a_ b).bind fun r_=>(jR (d^^^((a_+b)+r_)) (32:Int)).bind fun aS=>(Ap c aS).bind fun dN=>(jR (b^^^((c+aS)+dN)) (24:Int)).bind fun fP=>(Ap ((a_+b)+r_) fP).bind fun iL=>(jR (aS^^^((((a_+b)+r_)+fP)+iL)) (16:Int)).bind fun kM=>(Ap ((c+aS)+dN) kM).bind fun pG=>(jR (fP^^^((((c+aS)+dN)+kM)+pG)) (63:Int)).bind fun qZ=>some (⟨[(((a_+b)+r_)+fP)+iL,qZ,(((c+aS)+dN)+kM)+pG,kM],rfl⟩:Vec UInt64 4)
noncomputable def nZ (i:Int)(r_:(Vec Int 4))(aS:Vec UInt64 4):(Vec UInt64 16×Int)->Option ((Vec UInt64 16×Int)⊕((Vec UInt64 16×Int)⊕(Vec UInt64 16)))
  | (v2,eX)=>if eX < 4 then((aT r_.l eX).bind fun EP=>(aT aS.l eX).bind fun Af=>(aT v2.l EP).bind fun uO=>(some (lD v2 EP Af)).bind fun v3=>some (.inl (v3,ay (eX+1)))) else(Option.map Sum.inr (some (.inl (v2,ay (i+1)))))
noncomputable def AV (v1:Vec UInt64 16)(i:Int)(r_:(Vec Int 4))(aS:Vec UInt64 4):Option ((Vec UInt64 16×Int)⊕(Vec UInt64 16)) :=
  aZ (nZ i r_ aS) (v1,(0:Int))
noncomputable def AX  : (Vec UInt64 16×Int)->Option ((Vec UInt64 16×Int)⊕(Vec UInt64 16))
  | (v1,i)=>if i < 8 then((wC i).bind fun r_=>(aT r_.l (0:Int)).bind fun aU=>(aT v1.l aU).bind fun x_1=>(aT r_.l (1:Int)).bind fun iF=>(aT v1.l iF).bind fun jA=>(aT r_.l (2:Int)).bind fun kz=>(aT v1.l kz).bind fun kU=>(aT r_.l (3:Int)).bind fun lJ=>(aT v1.l lJ).bind fun pg=>(BK x_1 jA kU pg).bind fun dN=>AV v1 i r_ dN) else(Option.map Sum.inr (some v1))
noncomputable def D5 (v:Vec UInt64 16):Option (Vec UInt64 16) :=
  aZ (AX) (v,(0:Int))
noncomputable def zq (at_:Vec Int 16)(r_:(Vec UInt64 16)):(List UInt64×Int)->Option ((List UInt64×Int)⊕(List UInt64))
  | (z1,gZ)=>if gZ < 16 then((aT at_.l gZ).bind fun jA=>(aT r_.l gZ).bind fun kz=>(aT z1 jA).bind fun kU=>some (.inl (z1.set (Int.toNat jA) kz,ay (gZ+1)))) else(Option.map Sum.inr (some z1))
noncomputable def Du (z:List UInt64)(at_:Vec Int 16):(Vec UInt64 16×Int)->Option ((Vec UInt64 16×Int)⊕(List UInt64))
  | (v,bY)=>if bY < 16 then((aT at_.l bY).bind fun aU=>(aT z aU).bind fun x_1=>(aT v.l bY).bind fun iF=>(some (lD v bY x_1)).bind fun v1=>some (.inl (v1,ay (bY+1)))) else(Option.map Sum.inr ((D5 v).bind fun r_=>aZ (zq at_ r_) (z,(0:Int))))
noncomputable def DK (z:List UInt64)(at_:Vec Int 16):Option (List UInt64) :=
  aZ (Du z at_) ((Vec.rep 16 (0:UInt64)),(0:Int))
noncomputable def zt (z2:List UInt64)(i1:Int):(Vec Int 16×Int)->Option ((Vec Int 16×Int)⊕((List UInt64×Int)⊕(List UInt8×Int)))
  | (at_,dK)=>if dK < 16 then((aT at_.l dK).bind fun jA=>(some (lD at_ dK (ay ((ay (16*i1))+dK)))).bind fun v=>some (.inl (v,ay (dK+1)))) else(Option.map Sum.inr ((DK z2 at_).bind fun dN=>some (.inl (dN,ay (i1+1)))))
noncomputable def zu (z3:List UInt64)(i2:Int):(Vec Int 16×Int)->Option ((Vec Int 16×Int)⊕((List UInt64×Int)⊕(List UInt8×Int)))
  | (Rf,jT)=>if jT < 16 then((aT Rf.l jT).bind fun kz=>(some (lD Rf jT (ay ((ay ((ay (2*i2))+(ay (16*(ay (Int.tdiv jT 2))))))+(Int.tmod jT 2))))).bind fun v1=>some (.inl (v1,ay (jT+1)))) else(Option.map Sum.inr ((DK z3 Rf).bind fun fP=>some (.inl (fP,ay (i2+1)))))
noncomputable def zy (r_:(List UInt8×Int))(z3:List UInt64):(List UInt8×Int)->Option ((List UInt8×Int)⊕(List UInt8×Int))
  | (b,i3)=>if i3 < 128 then((aT z3 i3).bind fun kU=>(nX kU (8:Int)).bind fun iL=>(app b iL 1).bind fun b1=>some (.inl (b1,ay (i3+1)))) else(Option.map Sum.inr ((wL r_.1 b).bind fun kM=>some (kM.1,kM.2)))
noncomputable def zA (r_:(List UInt8×Int)):(List UInt64×Int)->Option ((List UInt64×Int)⊕(List UInt8×Int))
  | (z3,i2)=>if i2 < 8 then(aZ (zu z3 i2) ((Vec.rep 16 (0:Int)),(0:Int))) else(Option.map Sum.inr (aZ (zy r_ z3) (([]:List UInt8),(0:Int))))
noncomputable def wM (r_:(List UInt8×Int)):(List UInt64×Int)->Option ((List UInt64×Int)⊕(List UInt8×Int))
  | (z2,i1)=>if i1 < 8 then(aZ (zt z2 i1) ((Vec.rep 16 (0:Int)),(0:Int))) else(Option.map Sum.inr (aZ (zA r_) (z2,(0:Int))))
noncomputable def Dv (r_:(List UInt8×Int)):(List UInt64×Int)->Option ((List UInt64×Int)⊕(List UInt8×Int))
  | (z,i)=>if i < 128 then((qP r_.1 (ay (8*i)) (8:Int)).bind fun aS=>(app z ([aS.1]:List UInt64) 8).bind fun z1=>some (.inl (z1,ay (i+1)))) else(Option.map Sum.inr (aZ (wM r_) (z,(0:Int))))
noncomputable def Aq (x_:List UInt8)(y_:List UInt8):Option (List UInt8×Int) :=
  (wL x_ y_).bind fun r_=>if r_.2≠0 then(some (([]:List UInt8),r_.2)) else(aZ (Dv r_) (([]:List UInt64),(0:Int)))
noncomputable def rV  : (List UInt8)->Option ((List UInt8)⊕(List UInt8))
  | b2=>if((b2.length:Nat):Int) < 1024 then((app b2 ([(0:UInt8)]:List UInt8) 1).bind fun b3=>some (.inl b3)) else(Option.map Sum.inr ((Aq (List.replicate (Int.toNat (1024:Int)) (0:UInt8)) b2).bind fun aS=>(Aq (List.replicate (Int.toNat (1024:Int)) (0:UInt8)) aS.1).bind fun dN=>some dN.1))
noncomputable def wO (ai:Int)(af:Int)(ag:Int)(pass:Int)(slice:Int)(lane:Int)(columns:Int)(n:Int):(List UInt8×Int)->Option ((List UInt8×Int)⊕(List UInt8))
  | (b,i)=>if i < ((7:Nat):Int) then((aT ([pass,lane,slice,ay (ag*columns),af,ai,n]:List Int) i).bind fun aU=>(nX (UInt64.ofInt aU) (8:Int)).bind fun r_=>(app b r_ 1).bind fun b1=>some (.inl (b1,ay (i+1)))) else(Option.map Sum.inr (aZ (rV) b))
noncomputable def xE (ai:Int)(ah:Int)(af:Int)(ag:Int)(ax:Int)(pass:Int)(slice:Int)(lane:Int)(columns:Int)(n:Int):Option (List UInt8) :=
  aZ (wO ai af ag pass slice lane columns n) (([]:List UInt8),(0:Int))
noncomputable def sW (aU:Int)(out1:List UInt64)(b1:List UInt8):Option ((List UInt64×List UInt8×Int)⊕(List UInt64×Int)) :=
  some (.inl (out1,b1,ay (aU+1)))
noncomputable def mJ (out:List UInt64)(aU:Int)(b2:List UInt8):Option ((List UInt64×List UInt8×Int)⊕(List UInt64×Int)) :=
  (qP b2 (ay (8*(Int.tmod aU 128))) (8:Int)).bind fun iL=>(app out ([iL.1]:List UInt64) 8).bind fun Ua=>sW aU Ua b2
noncomputable def sZ (ai:Int)(ah:Int)(af:Int)(ag:Int)(ax:Int)(pass:Int)(slice:Int)(lane:Int)(aS:(Int×Int)):(List UInt64×List UInt8×Int)->Option ((List UInt64×List UInt8×Int)⊕(List UInt64×Int))
  | (out,b,aU)=>(uA ai ah af ag ax).bind fun dN=>if aU < dN then(if(Int.tmod aU 128)=0 then((xE ai ah af ag ax pass slice lane aS.1 (ay ((ay (Int.tdiv aU 128))+1))).bind fun fP=>mJ out aU fP) else(mJ out aU b)) else(Option.map Sum.inr (some (out,(0:Int))))
noncomputable def ui (ai:Int)(ah:Int)(af:Int)(ag:Int)(ax:Int)(pass:Int)(slice:Int)(lane:Int):Option (List UInt64×Int) :=
  (mY ai ah af ag ax).bind fun r_=>if r_≠0 then(some (([]:List UInt64),r_)) else(if((((((decide (pass < 0))||(decide (af<=pass)))||(decide (slice < 0)))||(decide (3 < slice)))||(decide (lane < 0)))||(decide (ag<=lane)))=true then(some (([]:List UInt64),(1:Int))) else((nY ai ah af ag ax).bind fun aS=>aZ (sZ ai ah af ag ax pass slice lane aS) (([]:List UInt64),([]:List UInt8),(0:Int))))
noncomputable def rW (j:UInt64)(aS:Int)(l:Int)(CS:Int)(start:Int):Option (Int×Int×Int) :=
  (need ((ay (4*aS))≠0)).bind fun u1=>some (l,Int.tmod (ay ((ay ((ay (start+CS)) - 1)) - (ay (iD ((UInt64.ofInt CS)*(iD ((j % 4294967296)*(j % 4294967296)) ((32:UInt64).toNat))) ((32:UInt64).toNat)).toNat))) (ay (4*aS)),(0:Int))
noncomputable def oV (pass:Int)(slice:Int)(j:UInt64)(aS:Int)(l:Int)(CS:Int):Option (Int×Int×Int) :=
  if((decide (0 < pass))&&(decide (slice < 3)))=true then(rW j aS l CS (ay ((ay (slice+1))*aS))) else(rW j aS l CS (0:Int))
noncomputable def rX (pass:Int)(slice:Int)(lane:Int)(x_:Int)(j:UInt64)(aS:Int)(l:Int)(area:Int):Option (Int×Int×Int) :=
  if l=lane then(oV pass slice j aS l (ay ((ay (area+x_)) - 1))) else(if x_=0 then(oV pass slice j aS l (ay (area - 1))) else(oV pass slice j aS l area))
noncomputable def rY (pass:Int)(slice:Int)(lane:Int)(x_:Int)(j:UInt64)(aS:Int)(l:Int):Option (Int×Int×Int) :=
  if pass=0 then(rX pass slice lane x_ j aS l (ay (slice*aS))) else(rX pass slice lane x_ j aS l (ay (3*aS)))
noncomputable def BL (ai:Int)(ah:Int)(af:Int)(ag:Int)(ax:Int)(pass:Int)(slice:Int)(lane:Int)(x_:Int)(j:UInt64):Option (Int×Int×Int) :=
  (mY ai ah af ag ax).bind fun r_=>if r_≠0 then(some ((0:Int),(0:Int),r_)) else((uA ai ah af ag ax).bind fun aS=>if(((((((((decide (pass < 0))||(decide (af<=pass)))||(decide (slice < 0)))||(decide (3 < slice)))||(decide (lane < 0)))||(decide (ag<=lane)))||(decide (x_ < 0)))||(decide (aS<=x_)))||(((decide (pass=0))&&(decide (slice=0)))&&(decide (x_ < 2))))=true then(some ((0:Int),(0:Int),(1:Int))) else((need ((UInt64.ofInt ag)≠0)).bind fun u=>if((decide (pass=0))&&(decide (slice=0)))=true then(rY pass slice lane x_ j aS lane) else(rY pass slice lane x_ j aS (ay ((iD j ((32:UInt64).toNat)) % (UInt64.ofInt ag)).toNat))))
noncomputable def xG (aU:Int)(GH:List (List UInt8)):Option ((List (List UInt8)×Int)⊕(List (List UInt8))) :=
  some (.inl (GH,ay (aU+1)))
noncomputable def uB (aU:Int)(Lj:List (List UInt8)):Option ((List (List UInt8)×Int)⊕(List (List UInt8))) :=
  xG aU Lj
noncomputable def uC (slice:Int)(lane:Int)(columns:Int)(wY:List (List UInt8))(aU:Int)(b2:List UInt8):Option ((List (List UInt8)×Int)⊕(List (List UInt8))) :=
  (aT wY (ay ((ay (lane*columns))+(ay ((ay (slice*(ay (Int.tdiv columns 4))))+aU))))).bind fun b4=>uB aU (wY.set (Int.toNat (ay ((ay (lane*columns))+(ay ((ay (slice*(ay (Int.tdiv columns 4))))+aU))))) b2)
noncomputable def qQ (ai:Int)(ah:Int)(af:Int)(ag:Int)(ax:Int)(pass:Int)(slice:Int)(lane:Int)(columns:Int)(wY:List (List UInt8))(aU:Int)(b:List UInt8)(j:UInt64):Option ((List (List UInt8)×Int)⊕(List (List UInt8))) :=
  (BL ai ah af ag ax pass slice lane aU j).bind fun dN=>(aT wY (ay ((ay (dN.1*columns))+dN.2.1))).bind fun b1=>(Aq b b1).bind fun fP=>if 0 < pass then((aT wY (ay ((ay (lane*columns))+(ay ((ay (slice*(ay (Int.tdiv columns 4))))+aU))))).bind fun b3=>(wL fP.1 b3).bind fun iL=>uC slice lane columns wY aU iL.1) else(uC slice lane columns wY aU fP.1)
noncomputable def xH (ai:Int)(ah:Int)(af:Int)(ag:Int)(ax:Int)(pass:Int)(slice:Int)(lane:Int)(columns:Int)(drawn:List UInt64):(List (List UInt8)×Int)->Option ((List (List UInt8)×Int)⊕(List (List UInt8)))
  | (wY,aU)=>if aU < (ay (Int.tdiv columns 4)) then(if(((decide (pass=0))&&(decide (slice=0)))&&(decide (aU < 2)))=true then(uB aU wY) else((need (columns≠0)).bind fun u=>(aT wY (ay ((ay (lane*columns))+(Int.tmod (ay ((ay ((ay ((ay (slice*(ay (Int.tdiv columns 4))))+aU))+columns)) - 1)) columns)))).bind fun b=>if((decide (ai=0))||((decide (ai=2))&&((decide (0 < pass))||(decide (1 < slice)))))=true then((qP b (0:Int) (8:Int)).bind fun aS=>qQ ai ah af ag ax pass slice lane columns wY aU b aS.1) else((aT drawn aU).bind fun x_1=>qQ ai ah af ag ax pass slice lane columns wY aU b x_1))) else(Option.map Sum.inr (some wY))
noncomputable def uD (ai:Int)(ah:Int)(af:Int)(ag:Int)(ax:Int)(m_:List (List UInt8))(pass:Int)(slice:Int)(lane:Int)(columns:Int)(drawn:List UInt64):Option (List (List UInt8)) :=
  aZ (xH ai ah af ag ax pass slice lane columns drawn) (m_,(0:Int))
noncomputable def D6 (ai:Int)(ah:Int)(af:Int)(ag:Int)(ax:Int)(m_:List (List UInt8))(pass:Int)(slice:Int)(lane:Int)(columns:Int):Option (List (List UInt8)) :=
  if(!((decide (ai=0))||((decide (ai=2))&&((decide (0 < pass))||(decide (1 < slice))))))=true then((ui ai ah af ag ax pass slice lane).bind fun r_=>uD ai ah af ag ax m_ pass slice lane columns r_.1) else(uD ai ah af ag ax m_ pass slice lane columns ([]:List UInt64))
noncomputable def uF (start:List UInt8)(r_:(Int×Int))(lane:Int):(List (List UInt8)×Int)->Option ((List (List UInt8)×Int)⊕((List (List UInt8)×Int)⊕(List (List UInt8)×Int)))
  | (wY,c2)=>if c2 < 2 then((app ([]:List UInt8) start 1).bind fun b=>(lW c2).bind fun aS=>(app b aS 1).bind fun b1=>(lW lane).bind fun dN=>(app b1 dN 1).bind fun b2=>(Am (1024:Int) b2).bind fun fP=>(aT wY (ay ((ay (lane*r_.1))+c2))).bind fun b3=>some (.inl (wY.set (Int.toNat (ay ((ay (lane*r_.1))+c2))) fP.1,ay (c2+1)))) else(Option.map Sum.inr (some (.inl (wY,ay (lane+1)))))
noncomputable def uG (ai:Int)(ah:Int)(af:Int)(ag:Int)(ax:Int)(r_:(Int×Int))(pass:Int)(slice:Int):(List (List UInt8)×Int)->Option ((List (List UInt8)×Int)⊕((List (List UInt8)×Int)⊕((List (List UInt8)×Int)⊕(List (List UInt8)×Int))))
  | (VY,Ja)=>if Ja < ag then((D6 ai ah af ag ax VY pass slice Ja r_.1).bind fun iL=>some (.inl (iL,ay (Ja+1)))) else(Option.map Sum.inr (some (.inl (VY,ay (slice+1)))))
noncomputable def uH (ai:Int)(ah:Int)(af:Int)(ag:Int)(ax:Int)(r_:(Int×Int))(pass:Int):(List (List UInt8)×Int)->Option ((List (List UInt8)×Int)⊕((List (List UInt8)×Int)⊕(List (List UInt8)×Int)))
  | (Lj,slice)=>if slice < 4 then(aZ (uG ai ah af ag ax r_ pass slice) (Lj,(0:Int))) else(Option.map Sum.inr (some (.inl (Lj,ay (pass+1)))))
noncomputable def uI (ai:Int)(ah:Int)(af:Int)(ag:Int)(ax:Int)(r_:(Int×Int)):(List (List UInt8)×Int)->Option ((List (List UInt8)×Int)⊕(List (List UInt8)×Int))
  | (GH,pass)=>if pass < af then(aZ (uH ai ah af ag ax r_ pass) (GH,(0:Int))) else(Option.map Sum.inr (some (GH,(0:Int))))
noncomputable def xI (ai:Int)(ah:Int)(af:Int)(ag:Int)(ax:Int)(start:List UInt8)(r_:(Int×Int)):(List (List UInt8)×Int)->Option ((List (List UInt8)×Int)⊕(List (List UInt8)×Int))
  | (m_,lane)=>if lane < ag then(aZ (uF start r_ lane) (m_,(0:Int))) else(Option.map Sum.inr (aZ (uI ai ah af ag ax r_) (m_,(0:Int))))
noncomputable def D7 (ai:Int)(ah:Int)(af:Int)(ag:Int)(ax:Int)(start:List UInt8):Option (List (List UInt8)×Int) :=
  (nY ai ah af ag ax).bind fun r_=>if r_.2≠0 then(some (([]:List (List UInt8)),r_.2)) else(if((start.length:Nat):Int)≠64 then(some (([]:List (List UInt8)),(1:Int))) else((need ((0:Int)<=ay (ag*r_.1)/\(ay (ag*r_.1):Int)<=ay (ag*r_.1)/\Int.toNat (ay (ag*r_.1))*24<=140737488355328)).bind fun u=>aZ (xI ai ah af ag ax start r_) (List.replicate (Int.toNat (ay (ag*r_.1))) ([]:List UInt8),(0:Int))))
noncomputable def AY (ag:Int)(ax:Int)(aS:(List (List UInt8)×Int))(dN:(Int×Int)):(List UInt8×Int)->Option ((List UInt8×Int)⊕(List UInt8×Int))
  | (b,lane)=>if lane < ag then((aT aS.1 (ay ((ay ((ay (lane*dN.1))+dN.1)) - 1))).bind fun b1=>(wL b b1).bind fun fP=>some (.inl (fP.1,ay (lane+1)))) else(Option.map Sum.inr ((Am ax b).bind fun iL=>some (iL.1,iL.2)))
noncomputable def oW (ai:Int)(ah:Int)(af:Int)(ag:Int)(ax:Int)(pass:List UInt8)(aO:List UInt8)(secret:List UInt8)(extra:List UInt8):Option (List UInt8×Int) :=
  (vJ ai ah af ag ax pass aO secret extra).bind fun r_=>if r_.2≠0 then(some (([]:List UInt8),r_.2)) else((D7 ai ah af ag ax r_.1).bind fun aS=>(nY ai ah af ag ax).bind fun dN=>aZ (AY ag ax aS dN) (List.replicate (Int.toNat (1024:Int)) (0:UInt8),(0:Int)))
noncomputable def OH (ai:Int)(ah:Int)(af:Int)(ag:Int)(ax:Int)(word:List UInt8)(aO:List UInt8):Option (List UInt8×Int) :=
  (oW ai ah af ag ax word aO ([]:List UInt8) ([]:List UInt8)).bind fun r_=>if r_.2≠0 then(some (([]:List UInt8),r_.2)) else((Hm ai ah af ag ax aO r_.1).bind fun aS=>some (aS.1,aS.2))
noncomputable def Hu (a_:List UInt8)(b:List UInt8):Option Bool :=
  some (decide (a_=b))
noncomputable def zB (ai:Int)(ah:Int)(af:Int)(ag:Int)(ax:Int)(tag:List UInt8)(pass:List UInt8)(aO:List UInt8)(secret:List UInt8)(extra:List UInt8):Option (Bool×Int) :=
  (mQ ai ah af ag ax pass aO secret extra).bind fun r_=>if r_.2≠0 then(some (false,r_.2)) else(if((tag.length:Nat):Int)≠ax then(some (false,(60:Int))) else((qE ai ah af ag ax pass aO secret extra).bind fun aS=>(Hu aS.1 tag).bind fun dN=>some (dN,aS.2)))
noncomputable def uJ (s_:List UInt8)(w_:List UInt8):Option (Bool×Int) :=
  (p_ s_).bind fun r_=>if r_.2.2.2.2.2.2.2.2≠0 then(some (false,r_.2.2.2.2.2.2.2.2)) else((zB r_.1 r_.2.1 r_.2.2.1 r_.2.2.2.1 r_.2.2.2.2.1 r_.2.2.2.2.2.2.1 w_ r_.2.2.2.2.2.1 ([]:List UInt8) ([]:List UInt8)).bind fun aS=>some (aS.1,aS.2))
noncomputable def zC (s_:List UInt8)(ai:Int)(ah:Int)(af:Int)(ag:Int)(ax:Int):Option (Bool×Int) :=
  (p_ s_).bind fun r_=>if r_.2.2.2.2.2.2.2.2≠0 then(some (false,r_.2.2.2.2.2.2.2.2)) else((qM ai ah af ag ax r_.2.2.2.2.2.1).bind fun aS=>if aS≠0 then(some (false,aS)) else(some (!(decide (r_.1=ai)&&(decide (r_.2.1=ah)&&(decide (r_.2.2.1=af)&&(decide (r_.2.2.2.1=ag)&&(decide (r_.2.2.2.2.1=ax)&&true))))),(0:Int))))
noncomputable def tq (ai:Int)(ah:Int)(af:Int)(ag:Int)(ax:Int)(word:List UInt8)(other:List UInt8)(aO:List UInt8):Option Bool :=
  (Bj).bind fun r_=>if(!r_)=true then(some false) else((BJ ai ah af ag ax word aO).bind fun aS=>(vk ai ah af ag ax aO).bind fun dN=>if((decide (dN≠0))||(decide (65536 < ((word.length:Nat):Int))))=true then(some ((decide (aS.2≠0))&&(decide (aS.1=([]:List UInt8))))) else((uJ aS.1 word).bind fun fP=>(zC aS.1 ai ah af ag ax).bind fun iL=>if((((((decide (aS.2≠0))||(decide (fP.2≠0)))||(!fP.1))||(decide (iL.2≠0)))||iL.1)||(decide (65536 < ((other.length:Nat):Int))))=true then(some (((((decide (aS.2=0))&&(decide (fP.2=0)))&&fP.1)&&(decide (iL.2=0)))&&(!iL.1))) else((oW ai ah af ag ax word aO ([]:List UInt8) ([]:List UInt8)).bind fun kM=>(oW ai ah af ag ax other aO ([]:List UInt8) ([]:List UInt8)).bind fun pG=>(uJ aS.1 other).bind fun qZ=>if qZ.2=0 then((FX kM.1 pG.1).bind fun GM=>some (decide (qZ.1=GM))) else(some false))))
end Go.Sx
