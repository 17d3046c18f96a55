import Derived.OpenShut
import Derived.ShutString
import Derived.ChangeOld
import Derived.Below
import Derived.JoinedCond
import Derived.MapKept
import Derived.Maps.RangeRun
import Derived.Sort.OwnSorted
import Derived.Sort.KeysCollected
import Derived.Shelf.Sort.Plain
import Derived.Shelf.Slices.In.SortNone
import Derived.Sort.OwnSortedInts
import Derived.Shelf.Strconv.Itoa3
import Derived.Laws.FloatArith
import Derived.Shelf.Strings.Builder1
import Derived.Test.YtognaacbiammfaaGreatDoorK1
namespace Go.Sx
open Go.RowKit
set_option linter.unusedSimpArgs false
set_option linter.unusedVariables false
def QF:Exit->Act->World->Prop:=fun _ _ _=>False
section
variable {P:Program}{ops:Array Oper}{Ls:List Nat}{C:Nat->World->Prop}
def nx (Ls:List Nat)(p i:Nat):Nat:=if Ls.contains i then p+1 else p
def wpC (P:Program)(ops:Array Oper)(Ls:List Nat)(C:Nat->World->Prop)(Q:Act->World->Prop):Nat->Nat->Array Bool->Act->World->Prop
  | 0,_,listed,a,w=>Region.ready .any ops listed=[]/\Q a w
  | k+1,p,listed,a,w=>(Region.ready .any ops listed=[]->Q a w) /\
      ∀ i ∈ Region.ready .any ops listed,wpOp P ops QF i (fun a' w'=>C (nx Ls p i) w'/\wpC P ops Ls C Q k (nx Ls p i) (listed.setIfInBounds i true) a' w') a w
theorem wpOp_Q {i:Nat}{a:Act}{w:World}{K:Act->World->Prop}{Q:Exit->Act->World->Prop}(h:wpOp P ops QF i K a w):wpOp P ops Q i K a w:=by
  unfold wpOp at *;split
  ·rename_i ho;simp only[ho] at h;exact h
  ·rename_i o ho;simp only[ho] at h;split
   ·rename_i hw;rw[if_pos hw] at h;rcases h with h | ⟨_,a',w',hf⟩
    ·exact .inl (Oper.wp_Q (fun _ _ _ hf=>hf.elim) h)
    ·exact hf.elim
   ·rename_i hw;rw[if_neg hw] at h;exact h
theorem Qk {Q:Act->World->Prop}{Q':Exit->Act->World->Prop}(hq:∀ a w,Q a w->Q' .normal a w):∀ (k p:Nat) (listed:Array Bool) (a:Act) (w:World),wpC P ops Ls C Q k p listed a w->wpAny P .any ops Q' k listed a w
  | 0,_,_,_,_,h=>⟨h.1,hq _ _ h.2⟩
  | k+1,_,_,_,_,h=>⟨fun h0=>hq _ _ (h.1 h0),fun i hi=>wpOp_mono (fun a' w' h'=>Qk hq k _ _ a' w' h'.2) (wpOp_Q (h.2 i hi))⟩
def YC (P:Program)(ops:Array Oper)(C:World->Prop)(o:Oper)(v:Value)(a:Act):Prop :=
  (Region.wanted o (yielded ops a.tmps)=true/\∀ w,C w->(execOp a.eval o).run P w=.ok (.value v) w)∨(Region.wanted o (yielded ops a.tmps)=false/\v=undef)
theorem YC.op {D:World->Prop}{i:Nat}{o:Oper}{v:Value}{a:Act}{w:World}{Q:Exit->Act->World->Prop}(hi:ops[i]?=some o)(hy:YC P ops D o v a)(hw:D w){K:Act->World->Prop}(h:K (a.put o.dst v) w):wpOp P ops Q i K a w:=by
  unfold wpOp;simp only[hi];rcases hy with⟨h1,h2⟩ | ⟨h1,rfl⟩
  ·rw[if_pos h1];refine .inl ?_;unfold Oper.wp;rw[h2 w hw];exact h
  ·rw[if_neg (by simp[h1])];exact h
theorem wpOp_put {D:World->Prop}{j:Nat}{oi oj:Oper}{v:Value}{w:World}(hj:ops[j]?=some oj)(hap:oi.apart ops oj=true)(hsi:∀ cs b,oi.op≠.select cs b)(hsj:∀ cs b,oj.op≠.select cs b){K:Act->World->Prop}{a:Act}
    (hy:YC P ops D oi v a) (h:wpOp P ops QF j K (a.put oi.dst v) w):wpOp P ops QF j (fun a' w'=>YC P ops D oi v a'/\K (a'.put oi.dst v) w') a w:=by
  obtain⟨h1,h2,h3⟩:=Oper.apart_spec hap;have keep:∀ (u:Value),YC P ops D oi v (a.put oj.dst u):=fun u=>by
    unfold YC at *;rw[execOp_put oi hsi a oj.dst u h3,wanted_put oi a oj.dst u h3];exact hy
  have keepD:∀ (u:Value) (d:Deferred),YC P ops D oi v ({ a with defers:=d::a.defers }.put oj.dst u):=fun u d=>by
    have h4:=keep u;unfold YC at *;have e1:({ a with defers:=d::a.defers }:Act).put oj.dst u={ a.put oj.dst u with defers:=d::a.defers }:=by
      unfold Act.put;split <;> rfl
    rw[e1];exact h4
  unfold wpOp at *;simp only[hj] at *;rw[wanted_put oj a oi.dst v h1] at h;split
  ·rename_i hw;rw[if_pos hw] at h;rcases h with h | ⟨_,a',w',hf⟩
   ·refine .inl ?_;unfold Oper.wp at *;rw[execOp_put oj hsj a oi.dst v h1] at h;generalize (execOp a.eval oj).run P w=r at *;cases r with
    | ok x w' =>
      cases x <;> simp only[Oper.upon] at h ⊢ <;> first | exact h.elim | skip
      case value u=>exact⟨keep u,by rw[<- Act.put_comm a v u h2];exact h⟩
      case skip=>exact⟨keep _,by rw[<- Act.put_comm a v undef h2];exact h⟩
      case defer d =>
        refine⟨keepD _ d,?_⟩;have e1:(({ a with defers:=d::a.defers }:Act).put oj.dst undef).put oi.dst v=({ a.put oi.dst v with defers:=d::(a.put oi.dst v).defers }:Act).put oj.dst undef:=by
          rw[<- Act.put_comm _ v undef h2];unfold Act.put;cases oi.dst <;> rfl
        rw[e1];exact h
      case enter f args =>
        refine h.mono fun e w'' he=>?_;cases e with
        | returned u=>exact⟨keep u,by rw[<- Act.put_comm a v u h2];exact he⟩
        | panicked c=>exact he
        | outgrown=>exact he
      case row row args =>
        refine h.mono fun u w'' he=>⟨keep u,by rw[<- Act.put_comm a v u h2];exact he⟩
    | halt x w'=>cases x <;> simp only[Oper.upon] at h ⊢ <;> exact h
   ·exact hf.elim
  ·rename_i hw;rw[if_neg hw] at h;exact⟨keep _,by rw[<- Act.put_comm a v undef h2];exact h⟩
def asks (ops:Array Oper)(j i:Nat):Bool:=match ops[j]? with
  | some o=>o.after.any fun e=>Region.binds .any e&&e.on == i
  | none=>false
def Gg (ops:Array Oper)(lst:Nat->Bool)(j i:Nat):Bool:=asks ops j i||match ops[j]? with
  | some o=>o.after.any fun e=>Region.binds .any e&&!lst e.on&&asks ops e.on i
  | none=>false
def ahead (ops:Array Oper)(Ls:List Nat)(listed:Array Bool)(i:Nat):Nat:=(Ls.filter fun j=>!listed.getD j true&&!Gg ops (fun x=>listed.getD x false) j i).length
theorem asks_not {i j:Nat}{oj:Oper}(hj:ops[j]?=some oj)(hnot:∀ e ∈ oj.after,Region.binds .any e=true->e.on≠i):asks ops j i=false:=by
  unfold asks;rw[hj];simp only[Array.any_eq_false'];intro e he;have:=hnot e he;cases hb:Region.binds .any e with
  | false=>simp
  | true=>simpa using this hb
theorem Sv {listed:Array Bool}{i j:Nat}(hj:j ∈ Region.ready .any ops listed)(hi:listed.getD i true=false):Gg ops (fun x=>listed.getD x false) j i=false:=by
  obtain⟨hjun,oj,hoj,hall⟩:=mem_ready.1 hj;have hi':listed.getD i false=false:=by
    rcases Nat.lt_or_ge i listed.size with h' | h'
    ·simp[h'] at hi ⊢;exact hi
    ·simp[Array.getElem?_eq_none h']
  unfold Gg;rw[asks_not hoj (fun e he hb heq=>by have:=hall e he hb;rw[heq,hi'] at this;cases this),hoj];simp only[Bool.false_or,Array.any_eq_false'];intro e he;cases hb:Region.binds .any e with
  | false=>simp
  | true=>simp only[hall e he hb];simp
theorem Sz {listed:Array Bool}{i j x:Nat}(hj:j ∈ Region.ready .any ops listed)(hi:listed.getD i true=false)(h:Gg ops (fun x=>listed.getD x false) x i=true):Gg ops (fun y=>(listed.setIfInBounds j true).getD y false) x i=true:=by
  have hji:asks ops j i=false:=by
    have:=Sv hj hi;unfold Gg at this;rw[Bool.or_eq_false_iff] at this;exact this.1
  unfold Gg at h ⊢;rw[Bool.or_eq_true] at h ⊢;rcases h with h | h
  ·exact .inl h
  ·refine .inr ?_;cases ho:ops[x]? with
   | none=>rw[ho] at h;cases h
   | some o =>
     rw[ho] at h;simp only[Array.any_eq_true'] at h ⊢;obtain⟨e,he,hq⟩:=h;refine⟨e,he,?_⟩;simp only[Bool.and_eq_true,Bool.not_eq_true'] at hq ⊢;obtain⟨⟨h1,h2⟩,h3⟩:=hq;refine⟨⟨h1,?_⟩,h3⟩;by_cases hje:j=e.on
     ·rw[<- hje,hji] at h3;cases h3
     ·rw[getD_set_ne false hje];exact h2
theorem ahead_le {listed:Array Bool}{i j:Nat}(hr:j ∈ Region.ready .any ops listed)(hi:listed.getD i true=false):ahead ops Ls (listed.setIfInBounds j true) i<=ahead ops Ls listed i:=by
  unfold ahead;rw[<- List.countP_eq_length_filter,<-List.countP_eq_length_filter];refine List.countP_mono_left fun x _ hx=>?_;simp only[Bool.and_eq_true,Bool.not_eq_true'] at hx ⊢;refine⟨?_,?_⟩
  ·by_cases hxj:j=x
   ·subst hxj;have:=hx.1;rcases Nat.lt_or_ge j listed.size with h | h
    ·simp[h] at this
    ·simp[Array.getElem?_eq_none h] at this
   ·rw[getD_set_ne true hxj] at hx;exact hx.1
  ·cases hq:Gg ops (fun x=>listed.getD x false) x i with
   | false=>rfl
   | true=>rw[Sz hr hi hq] at hx;exact absurd hx.2 (by decide)
theorem ahead_lt {listed:Array Bool}{i j:Nat}(hr:j ∈ Region.ready .any ops listed)(hi:listed.getD i true=false)(hj:Ls.contains j=true)(hun:listed.getD j true=false):ahead ops Ls (listed.setIfInBounds j true) i+1<=ahead ops Ls listed i:=by
  have hna:=Sv hr hi;unfold ahead;rw[<- List.countP_eq_length_filter,<-List.countP_eq_length_filter];have key:∀ l:List Nat,l.countP (fun x=>!(listed.setIfInBounds j true).getD x true&&!Gg ops (fun y=>(listed.setIfInBounds j true).getD y false) x i)<=l.countP (fun x=>!listed.getD x true&&!Gg ops (fun y=>listed.getD y false) x i):=fun l=>by
    refine List.countP_mono_left fun x _ hx=>?_;simp only[Bool.and_eq_true,Bool.not_eq_true'] at hx ⊢;refine⟨?_,?_⟩
    ·by_cases hxj:j=x
     ·subst hxj;exact hun
     ·rw[getD_set_ne true hxj] at hx;exact hx.1
    ·cases hq:Gg ops (fun x=>listed.getD x false) x i with
     | false=>rfl
     | true=>rw[Sz hr hi hq] at hx;exact absurd hx.2 (by decide)
  have hjs:(listed.setIfInBounds j true).getD j true=true:=by
    rcases Nat.lt_or_ge j listed.size with h | h
    ·simp[h]
    ·simp[Array.getElem?_eq_none h]
  induction Ls with
  | nil=>simp at hj
  | cons x l ih =>
    rw[List.countP_cons,List.countP_cons];by_cases hx:x=j
    ·subst hx;have:=key l;simp only[hjs,hun,hna,Bool.not_true,Bool.false_and,Bool.not_false,Bool.and_self,if_true];simp only[Bool.false_eq_true,if_false];omega
    ·have h1:l.contains j=true:=by
       simp only[List.contains_cons,Bool.or_eq_true,beq_iff_eq] at hj;exact hj.resolve_left (fun e=>hx e.symm)
     have:=ih h1;have hm:(if(!(listed.setIfInBounds j true).getD x true&&!Gg ops (fun y=>(listed.setIfInBounds j true).getD y false) x i)=true then 1 else 0)<=(if(!listed.getD x true&&!Gg ops (fun y=>listed.getD y false) x i)=true then 1 else 0):=by
       have:=key [x];simpa [List.countP_cons] using this
     omega
theorem SA {Q:Act->World->Prop}{i m:Nat}{oi:Oper}{v:Value}(hmono:∀ p q x,p<=q->C p x->C q x)(hi:ops[i]?=some oi)(hil:Ls.contains i=false)(hsel:∀ (j:Nat) (o:Oper) cs b,ops[j]?=some o->o.op≠.select cs b) :
    ∀ (k p:Nat) (listed:Array Bool) (a:Act) (w:World),C p w->p+ahead ops Ls listed i<=m ->
      (∀ j oj,ops[j]?=some oj->j≠i->listed.getD j true=false->(∀ e ∈ oj.after,Region.binds .any e=true->e.on≠i)->oi.apart ops oj=true) ->
      i ∈ Region.ready .any ops listed->YC P ops (C m) oi v a ->
      wpC P ops Ls C Q k p (listed.setIfInBounds i true) (a.put oi.dst v) w->wpC P ops Ls C Q (k+1) p listed a w:=by
  have hni:∀ p,nx Ls p i=p:=fun p=>by unfold nx;rw[hil];rfl
  intro k
  induction k with
  | zero =>
    intro p listed a w hw hm _ hr hy H;refine⟨fun h=>(by rw[h] at hr;cases hr),fun j hj=>?_⟩;by_cases hji:j=i
    ·subst hji;rw[hni];exact hy.op hi (hmono p m w (by omega) hw) ⟨hw,H⟩
    ·have:=ready_mono hj hji;rw[H.1] at this;cases this
  | succ k ih =>
    intro p listed a w hw hm hfree hr hy H;refine⟨fun h=>(by rw[h] at hr;cases hr),fun j hj=>?_⟩;by_cases hji:j=i
    ·subst hji;rw[hni];exact hy.op hi (hmono p m w (by omega) hw) ⟨hw,H⟩
    ·have h1:=H.2 j (ready_mono hj hji);obtain⟨hjun,oj,hoj,hall⟩:=mem_ready.1 hj;have hnot:∀ e ∈ oj.after,Region.binds .any e=true->e.on≠i:=fun e he hb heq=>by
       have h1:=hall e he hb;have h0:=(mem_ready.1 hr).1;rw[heq] at h1;rcases Nat.lt_or_ge i listed.size with h' | h'
       ·simp[h'] at h0 h1;rw[h0] at h1;cases h1
       ·simp[Array.getElem?_eq_none h'] at h1
     have h2:=wpOp_put hoj (hfree j oj hoj hji hjun hnot) (fun cs b=>hsel i oi cs b hi) (fun cs b=>hsel j oj cs b hoj) hy h1;have hfree':∀ m om,ops[m]?=some om->m≠i->(listed.setIfInBounds j true).getD m true=false ->
         (∀ e ∈ om.after,Region.binds .any e=true->e.on≠i)->oi.apart ops om=true:=fun m om hm hmi hun hno=>by
       refine hfree m om hm hmi ?_ hno;by_cases hjm:j=m
       ·subst hjm;exact hjun
       ·rw[getD_set_ne true hjm] at hun;exact hun
     have hm':nx Ls p j+ahead ops Ls (listed.setIfInBounds j true) i<=m:=by
       unfold nx;split
       ·rename_i hc;have:=ahead_lt (ops:=ops) (Ls:=Ls) hj (mem_ready.1 hr).1 hc hjun;omega
       ·have:=ahead_le (ops:=ops) (Ls:=Ls) hj (mem_ready.1 hr).1;omega
     refine wpOp_mono (fun a' w' h3=>?_) h2;obtain⟨hy',hw',h4⟩:=h3;refine⟨hw',ih _ (listed.setIfInBounds j true) a' w' hw' hm' hfree' (ready_mono hr (Ne.symm hji)) hy' ?_⟩;rw[Array.setIfInBounds_comm _ _ hji];exact h4
def cls:List (World->Prop)->Nat->World->Prop
  | [],_,_=>True
  | c::_,0,x=>c x
  | _::cs,p+1,x=>cls cs p x
def RF:List (World->Prop)->Prop
  | c::d::cs=>(∀ x,c x->d x)/\RF (d::cs)
  | _=>True
theorem RF.step:∀ (l:List (World->Prop)) (p:Nat) (x:World),RF l->cls l p x->cls l (p+1) x
  | [],_,_,_,_=>trivial
  | [_],0,_,_,_=>trivial
  | [_],_+1,_,_,_=>trivial
  | _::_::_,0,x,h,hx=>h.1 x hx
  | _::d::cs,p+1,x,h,hx=>RF.step (d::cs) p x h.2 hx
theorem RF.le {l:List (World->Prop)}(h:RF l):∀ p q x,p<=q->cls l p x->cls l q x:=by
  intro p q x hpq hx;obtain⟨d,rfl⟩:=Nat.exists_eq_add_of_le hpq
  induction d with
  | zero=>exact hx
  | succ d ih=>exact RF.step l _ x h (ih (by omega))
inductive MT where
  | nil
  | q (i m:Nat) (r:MT)
  | op (i:Nat) (r:MT)
  | br (i j:Nat) (ri rj:MT)
def MT.depth:MT->Nat
  | .nil=>0
  | .q _ _ r=>r.depth+1
  | .op _ r=>r.depth+1
  | .br _ _ r _=>r.depth+1
def MT.drop:Nat->MT->MT
  | k+1,.q _ _ r=>r.drop k
  | _,π=>π
def Jh (ops:Array Oper)(Ls:List Nat):MT->Nat->Array Bool->Bool
  | .nil,_,listed=>(Region.ready .any ops listed).isEmpty
  | .q i m π,p,listed=>(Region.ready .any ops listed).contains i&&Region.free .any ops listed i&&!Ls.contains i&&decide (p+ahead ops Ls listed i<=m)&&Jh ops Ls π p (listed.setIfInBounds i true)
  | .op i π,p,listed=>Region.ready .any ops listed == [i]&&Jh ops Ls π (nx Ls p i) (listed.setIfInBounds i true)
  | .br i j ri rj,p,listed=>Region.ready .any ops listed == [i,j]&&rj.depth == ri.depth&&Jh ops Ls ri (nx Ls p i) (listed.setIfInBounds i true)&&Jh ops Ls rj (nx Ls p j) (listed.setIfInBounds j true)
def MX (P:Program)(n:Nat)(ops:Array Oper)(Ls:List Nat)(C:List (World->Prop))(Q:Act->World->Prop)(π:MT)(p:Nat)(listed:Array Bool)(L:List En)(w:World):Prop :=
  Region.noSelect ops=true->RF C->Jh ops Ls π p listed=true->cls C p w->∀ a,Fu n a L->wpC P ops Ls (cls C) Q π.depth p listed a w
variable {C:List (World->Prop)}
theorem eX {n p:Nat}{Q:Act->World->Prop}{listed:Array Bool}{L:St}{w:World}(h:At n Q L w):MX P n ops Ls C Q .nil p listed (Kn L) w :=
  fun _ _ hB _ a ha=>⟨by simpa [Jh] using hB,h a ha⟩
def XT (ops:Array Oper)(m:Nat):Nat->MT->Option (List Oper)
  | 0,_=>some []
  | k+1,.q i m' r=>if m'=m then match ops[i]?,XT ops m k r with
    | some o,some l=>some (o::l)
    | _,_=>none else none
  | _+1,_=>none
theorem ZW {n p m:Nat}{Q:Act->World->Prop}{ss:List Nat}{w:World}{L':List En}:∀ (k:Nat) (π:MT) (l:List Oper) (listed:Array Bool) (L:List En) (os os':List SV) (cs:List Cond),
    XT ops m k π=some l->evs P n ops ss l L os=some (L',cs,os')->(∀ w,cls C m w->∀ c ∈ cs,c w)->(∀ listed',MX P n ops Ls C Q (π.drop k) p listed' L' w)->MX P n ops Ls C Q π p listed L w:=by
  intro k
  induction k with
  | zero =>
    intro π l listed L os os' cs hq h hc hk;simp only[XT,Option.some.injEq] at hq;subst hq;simp only[evs,Option.some.injEq,Prod.mk.injEq] at h;obtain⟨rfl,rfl,rfl⟩:=h;have e:π.drop 0=π:=by cases π <;> rfl
    rw[e] at hk;exact hk listed
  | succ k ih =>
    intro π l listed L os os' cs hq h hc hk;cases π with
    | q i m' π =>
      simp only[XT] at hq;split at hq
      ·rename_i hmm;subst hmm;split at hq
       ·rename_i o l' ho hl';simp only[Option.some.injEq] at hq;subst hq;simp only[evs] at h;split at h
        ·rename_i L1 c1 os1 h1;split at h
         ·rename_i L2 c2 os2 h2;simp only[Option.some.injEq,Prod.mk.injEq] at h;obtain⟨rfl,rfl,rfl⟩:=h;intro hns hmo hB hw a ha;simp only[Jh,Bool.and_eq_true,decide_eq_true_eq,Bool.not_eq_true'] at hB;obtain⟨⟨⟨⟨hr,hf⟩,hnl⟩,hah⟩,hB⟩:=hB;have hrest:=ih π l' (listed.setIfInBounds i true) L1 os1 _ c2 hl' h2 (fun w hw c hcm=>hc w hw c (List.mem_append_right _ hcm)) hk hns hmo hB hw;rcases NY ha h1 with⟨hwt,v,hrun,hf'⟩ | ⟨hwt,hf'⟩
          ·exact SA hmo.le ho hnl (Region.noSelect_spec hns) _ p listed a w hw hah (Region.free_spec ho hf) (by simpa using hr) (.inl ⟨hwt,fun w' hw'=>hrun w' fun c hcm=>hc w' hw' c (List.mem_append_left _ hcm)⟩) (hrest _ hf')
          ·exact SA hmo.le ho hnl (Region.noSelect_spec hns) _ p listed a w hw hah (Region.free_spec ho hf) (by simpa using hr) (.inr ⟨hwt,rfl⟩) (hrest _ hf')
         ·cases h
        ·cases h
       ·cases hq
      ·cases hq
    | _=>cases hq
theorem MX_q {n p:Nat}{Q:Act->World->Prop}{w:World}{π:MT}{listed:Array Bool}{L:St}(k m:Nat)(ss:List Nat)(os:List SV)(L':St)(cs:List Cond)
    (hs:((XT ops m k π).bind fun l=>evs P n ops ss l (Kn L) os).map (fun r=>(L'.map fun e=>(look r.1 e.1).map fun e=>(e.g,e.x.val),r.2.1,r.2.2))=some (L'.map fun p=>some (none,p.2.val),cs,[]))
    (hc:∀ w,cls C m w->All cs w) (h:∀ listed',MX P n ops Ls C Q (π.drop k) p listed' (Kn L') w):MX P n ops Ls C Q π p listed (Kn L) w:=by
  rw[Option.map_bind] at hs;simp only[Option.bind_eq_some_iff] at hs;obtain⟨l,hl,hs⟩:=hs;obtain⟨Lc,he,hk⟩:=Seg.keep (P:=P) (n:=n) (ops:=ops) (ss:=ss) (l:=l) (L:=L) (os:=os) (L':=L') (cs:=cs) hs;refine ZW k π l listed (Kn L) os [] cs hl he (fun w hw=>MF (hc w hw)) fun listed'=>?_;intro hns hmo hB hw a ha;exact h listed' hns hmo hB hw a (hk a ha)
theorem dM {n p:Nat}{Q:Act->World->Prop}{w:World}{π:MT}{listed:Array Bool}{L:St}{i:Nat}{o:Oper}(hl:Ls.contains i=true)(ho:ops[i]?=some o)
    (h:H8 P n ops L w o fun L' w'=>cls C (p+1) w'/\∀ listed',MX P n ops Ls C Q π (p+1) listed' (Kn L') w'):MX P n ops Ls C Q (.op i π) p listed (Kn L) w:=by
  intro hns hmo hB hw a ha;have hnx:nx Ls p i=p+1:=by unfold nx;rw[if_pos hl]
  simp only[Jh,Bool.and_eq_true,beq_iff_eq,hnx] at hB;obtain⟨hr,hB⟩:=hB;obtain⟨h1,h2⟩:=h a ha;refine⟨fun h0=>(by rw[h0] at hr;cases hr),fun j hj=>?_⟩;rw[hr] at hj;simp only[List.mem_singleton] at hj;subst hj;unfold wpOp;simp only[ho,hnx];rw[if_pos h1];refine .inl (Oper.wp_mono ?_ h2);rintro a' w' ⟨L',hf,hc,hk⟩;exact⟨hc,hk _ hns hmo hB hc a' hf⟩
theorem MX_br {n p:Nat}{Q:Act->World->Prop}{w:World}{πi πj:MT}{listed:Array Bool}{L:St}{i j:Nat}{oi oj:Oper}(hli:Ls.contains i=true)(hlj:Ls.contains j=true)(hi:ops[i]?=some oi)(hj:ops[j]?=some oj)
    (h:H8 P n ops L w oi fun L' w'=>cls C (p+1) w'/\∀ listed',MX P n ops Ls C Q πi (p+1) listed' (Kn L') w')
    (h':H8 P n ops L w oj fun L' w'=>cls C (p+1) w'/\∀ listed',MX P n ops Ls C Q πj (p+1) listed' (Kn L') w'):MX P n ops Ls C Q (.br i j πi πj) p listed (Kn L) w:=by
  intro hns hmo hB hw a ha;have hnx:nx Ls p i=p+1:=by unfold nx;rw[if_pos hli]
  have hnx':nx Ls p j=p+1:=by unfold nx;rw[if_pos hlj]
  simp only[Jh,Bool.and_eq_true,beq_iff_eq,hnx,hnx'] at hB;obtain⟨⟨⟨hr,hd⟩,hB1⟩,hB2⟩:=hB;refine⟨fun h0=>(by rw[h0] at hr;cases hr),fun k hk=>?_⟩;rw[hr] at hk;simp only[List.mem_cons,List.not_mem_nil,or_false] at hk;rcases hk with rfl | rfl
  ·obtain⟨h1,h2⟩:=h a ha;unfold wpOp;simp only[hi,hnx];rw[if_pos h1];refine .inl (Oper.wp_mono ?_ h2);rintro a' w' ⟨L',hf,hc,hk⟩;exact⟨hc,hk _ hns hmo hB1 hc a' hf⟩
  ·obtain⟨h1,h2⟩:=h' a ha;unfold wpOp;simp only[hj,hnx'];rw[if_pos h1];refine .inl (Oper.wp_mono ?_ h2);rintro a' w' ⟨L',hf,hc,hk⟩;have:=hk _ hns hmo hB2 hc a' hf;rw[hd] at this;exact⟨hc,this⟩
theorem W_mix {n:Nat}{id:Nat}{l:List Oper}{Q:Exit->Act->World->Prop}{L:St}{w:World}(hm:P.follows .mixedOrders=true)(π:MT)(Ls:List Nat)(C:List (World->Prop))
    (hB:(Region.noSelect l.toArray,Jh l.toArray Ls π 0 (Array.replicate l.length false),π.depth == l.length)=(true,true,true)) (hmo:RF C) (hC:cls C 0 (w.drewN 1)) (h:∀ listed,MX P n l.toArray Ls C (Q .normal) π 0 listed (Kn L) (w.drewN 1)) :
    W P n (.region id l.toArray true) Q L w:=by
  intro a ha;simp only[Prod.mk.injEq,beq_iff_eq] at hB;obtain⟨h1,h2,h3⟩:=hB;refine wp_region_any hm ?_;have:=h (Array.replicate l.length false) h1 hmo h2 hC a ha;rw[h3] at this;exact Qk (fun _ _ hq=>hq) _ _ _ _ _ (by rw[show l.toArray.size=l.length from by simp];exact this)
end
end Go.Sx
namespace Go.Sx
open Go.RowKit
set_option linter.unusedSimpArgs false
set_option linter.unusedVariables false
variable {α β:Type}
instance {n:Nat} [Inhabited α]:Inhabited (Vec α n):=⟨Vec.rep n default⟩
def Vec.of [Inhabited α](n:Nat)(l:List α):Vec α n:=if h:l.length=n then⟨l,h⟩ else Vec.rep n default
def appz (xs:List α)(l:Int)(z:α)(b:Nat):Option (List α):=if 0<=l/\(xs.length+l.toNat)*b<=140737488355328 then some (xs++List.replicate l.toNat z) else none
theorem ZX {xs ys:List α}{l:Int}{z:α}{b:Nat}(h:appz xs l z b=some ys):0<=l/\(xs.length+l.toNat)*b<=140737488355328/\ys=xs++List.replicate l.toNat z:=by
  unfold appz at h;split at h
  ·rename_i hc;simp only[Option.some.injEq] at h;exact⟨hc.1,hc.2,h.symm⟩
  ·cases h
abbrev SV.ar (E:Enc α){n:Nat}(x:Vec α n):SV:=.vec (n*E.sz) (E.vec x)
section
variable {P:Program}{n:Nat}{Q:Exit->Act->World->Prop}{ops:Array Oper}{L:St}{w w0:World}{F O:Nat->Prop}{hs:List HP}{K:St->World->Prop}
theorem XU {x:Code}(K:St->World->Prop)(h1:W P n x (Exit.then (fun a w=>∃ L,Fu n a (Kn L)/\K L w) Q) L w)(h2:∀ L w,K L w->At n (Q .normal) L w):W P n x Q L w:=by
  intro a ha;refine wp_mono (h1 a ha) ?_;intro e a' w' hq;cases e with
  | normal=>obtain⟨L',hf,hk⟩:=hq;exact h2 L' w' hk a' hf
  | _=>exact hq
theorem Ro.Hf (E:Enc α):Ro F w none (E.all ([]:List α)):=Ro.nil (A:=none)
theorem Src.sl {E:Enc α}{A:Option Addr}{xs:List α}{m c sz:Nat}(h:Rd w A (E.all xs))(hn:xs.length=m)(hs:E.sz=sz):Src P sz w (.slice A m c) m (E.all xs) :=
  Src.slice h (by rw[Enc.gp,hn,hs])
theorem TG {xs ys:List α}{lo hi:Int}(h:G6 xs lo hi=some ys)(h0:lo=0):ys=xs.take ys.length:=by
  obtain⟨h1,h2,h3,h4⟩:=iW h;have hl:=rD h;rw[hl];subst h0;rw[h4];simp
theorem MH {E:Enc α}{m:Nat}{x:Vec α m}{i:Int}{y:α}{v:Value}(h:aV x.l i=some y)(hv:(E.f y)[0]?=some v):(0<=i/\i < ((m:Nat):Int))/\(SV.cl [SV.ar E x])[i.toNat*E.sz]?=some v:=by
  have h1:=gI h;rw[x.h] at h1;refine⟨h1,?_⟩;rw[BR];have:=E.Vp (bD h).2 hv;simp only[SV.cl,List.append_nil];show(E.all x.l)[i.toNat*E.sz]?=some v;simpa using this
theorem ar_ixs {E:Enc α}{m:Nat}{x:Vec α m}{i:Int}{y:α}{vs:List Value}(h:aV x.l i=some y)(hv:E.f y=vs):(0<=i/\i < ((m:Nat):Int))/\((SV.cl [SV.ar E x]).drop (i.toNat*E.sz)).take E.sz=vs:=by
  have h1:=gI h;rw[x.h] at h1;refine⟨h1,?_⟩;rw[BR,<-hv];simp only[SV.cl,List.append_nil];exact E.XP (bD h).2
theorem At_end {fn:Func}{R:Ending->World->Prop}(os:List SV)(xs:List SV)(cs:List Cond)(hr:O5 P fn.results.toList L os=some (xs,cs,[]))(hc:All cs w)(h:R (.returned (Sr xs).val) w):At n (bodyPost P fn R .normal) L w :=
  At_ret (P:=P) (fn:=fn) os xs cs hr hc h
theorem Vw {E:Enc α}{m:Nat}(x:Vec α m):SV.cl [SV.ar E x]=(eV E m).f x:=by
  rw[BR];show E.all x.l++[]=E.all x.l;rw[List.append_nil]
theorem Rd.elV {w:World}{A p:Option Addr}{E:Enc α}{m:Nat}{xs:List (Vec α m)}{i:Int}{x:Vec α m}(h:Rd w A ((eV E m).all xs))(hg:aV xs i=some x)(hp:Pt A (i.toNat*(eV E m).sz+0) p)(hm:0 < (eV E m).sz):∃ a,p=some a/\Rd w (some a) (SV.cl [SV.ar E x]):=by
  rw[Vw];refine h.els hg hp ?_ hm (by omega);rw[List.drop_zero];have:=(eV E m).len x;rw[<- this,List.take_length]
theorem ar_ixV {E:Enc α}{k m:Nat}{x:Vec (Vec α k) m}{i:Int}{y:Vec α k}(h:aV x.l i=some y):(0<=i/\i < ((m:Nat):Int))/\((SV.cl [SV.ar (eV E k) x]).drop (i.toNat*(eV E k).sz)).take (eV E k).sz=SV.cl [SV.ar E y] :=
  ar_ixs h (Vw y).symm
theorem Cx.wJ {t:TypeId}{g:Nat}{ys:List SV}(k:Cx F O w0 w hs)(i:Nat)(hi:hs[i]?=some (Bx t g ys))(off:Nat)(v:SV)(h:(cellS off ys).map SV.val=some v.val):∃ a,some (⟨g,off,none⟩:Addr)=some a/\w.cell? a=some v.val:=by
  simp only[Option.map_eq_some_iff] at h;obtain⟨x,hx,he⟩:=h;rw[<- he];exact(k.Ep i hi).cellP (Pt.at g off) (PZ hx).1
theorem Cx.blds {t:TypeId}{g:Nat}{ys:List SV}(k:Cx F O w0 w hs)(i:Nat)(hi:hs[i]?=some (Bx t g ys))(off m:Nat)(zs:List SV)(h:(NU off m ys).map SV.cl=some (SV.cl zs))(hm:0 < m):∃ a,some (⟨g,off,none⟩:Addr)=some a/\Rd w (some a) (SV.cl zs):=by
  simp only[Option.map_eq_some_iff] at h;obtain⟨x,hx,he⟩:=h;obtain⟨e1,e2,e3⟩:=OD hx;rw[<- he,<-e1];exact(k.Ep i hi).partP (Pt.at g off) (by rw[iC];exact e3) hm
theorem Op_bput {ty t:TypeId}{p x:Operand}{pos:String}{oJ:Array Edge}{g:Option (Nat×Bool)}(ss:List Nat)(i:Nat){pa:Option Addr}{sv:SV}{svs:List SV}{bt:TypeId}{b:Nat}{ys:List SV}(zs:List SV){off:Nat}
    (hside:(IP ops ss L (⟨none,.store t p x,ty,pos,oJ,g⟩:Oper),(none:Option Nat),(toSS [p,x] (lk L)).map SV.vals,BL P t,cellsS sv,svs.all SV.one1)=(true,none,some [.pointer pa,sv.val],some (SV.width svs),some svs,true))
    (hp:Pt (some ⟨b,0,none⟩) off pa) (k:Cx F O w0 w hs) (hi:hs[i]?=some (Bx bt b ys)) (hz:(XB off (SV.width svs) svs ys).map SV.cl=some (SV.cl zs))
    (hk:∀ w',Cx F O w0 w' (hs.set i (Bx bt b zs))->K L w') :
    H8 P n ops L w ⟨none,.store t p x,ty,pos,oJ,g⟩ K:=by
  simp only[Option.map_eq_some_iff] at hz;obtain⟨zs',hput,he⟩:=hz;obtain⟨e1,e2,e3,e4⟩:=R_ hput;refine Op_bst ss i zs hside hp k hi ?_ e4 hk;rw[<- he,e1];unfold pat;rw[iC]
end
end Go.Sx
namespace Go.Sx
open Go.RowKit
set_option linter.unusedSimpArgs false
set_option linter.unusedVariables false
inductive Bl:St->St->Prop
  | a {l}:Bl l l
  | z {l}:Bl l []
  | k {x l l'}:Bl l l'->Bl (x::l) (x::l')
  | s {x l l'}:Bl l l'->Bl (x::l) l'
  | n {l l'} (i:Nat) (v:SV):Bl l l'->Bl l ((i,v)::l')
theorem Bl.kk {x y l l'}(h:Bl l l'):Bl (x::y::l) (x::y::l'):=.k (.k h)
theorem Bl.oV {x y z l l'}(h:Bl l l'):Bl (x::y::z::l) (x::y::z::l'):=.k (.kk h)
theorem Bl.dO {x y z u l l'}(h:Bl l l'):Bl (x::y::z::u::l) (x::y::z::u::l'):=.kk (.kk h)
theorem Bl.ss {x y l l'}(h:Bl l l'):Bl (x::y::l) l':=.s (.s h)
theorem Bl.l_ {x y z l l'}(h:Bl l l'):Bl (x::y::z::l) l':=.s (.ss h)
theorem Bl.fF {x y z u l l'}(h:Bl l l'):Bl (x::y::z::u::l) l':=.ss (.ss h)
section
variable {α β σ ρ:Type}{P:Program}{n:Nat}{Q:Exit->Act->World->Prop}{ops:Array Oper}{L L':St}{w w0:World}{os:List SV}{cs:List Cond}{F O:Nat->Prop}{hs:List HP}
structure Ask (os:List SV)(cs:List Cond)(w:World):Prop where
  h:All cs w
def dp (p:Prop):Cond:=fun _=>p
def dS (A:Option Addr):Cond:=fun _=>A.isSome=true
def dI (i:Int)(n:Nat)(A:Option Addr):Cond:=fun _=>0<=i/\i < (n:Int)/\A.isSome=true
def dC (p:Option Addr)(v:SV):Cond:=fun w=>∃ a,p=some a/\w.cell? a=some v.val
def dR (p:Option Addr)(cs:List SV):Cond:=fun w=>∃ a,p=some a/\Rd w (some a) (SV.cl cs)
theorem qe:Ask [] [] w:=⟨trivial⟩
theorem qo (v:SV)(r:Ask os cs w):Ask (v::os) cs w:=⟨r.h⟩
theorem qc (c:Cond)(p:c w)(r:Ask os cs w):Ask os (c::cs) w:=⟨p,r.h⟩
theorem qp (p:Prop)(h:p)(r:Ask os cs w):Ask os (dp p::cs) w:=⟨h,r.h⟩
theorem qs (g off:Nat)(r:Ask os cs w):Ask os (dS (some ⟨g,off,none⟩)::cs) w:=⟨rfl,r.h⟩
theorem qS {A:Option Addr}(h:A.isSome=true)(r:Ask os cs w):Ask os (dS A::cs) w:=⟨h,r.h⟩
theorem qI {m:Nat}{v:Vec α m}{i:Int}{x:α}(g off:Nat)(h:aV v.l i=some x)(r:Ask os cs w):Ask os (dI i m (some ⟨g,off,none⟩)::cs) w :=
  ⟨⟨(gI h).1,by have:=(gI h).2;have:=v.h;omega,rfl⟩,r.h⟩
class Pos (E:Enc α):Prop where h:0 < E.sz
instance:Pos e8:=⟨by decide⟩
instance:Pos e16:=⟨by decide⟩
instance:Pos e32:=⟨by decide⟩
instance:Pos e64:=⟨by decide⟩
instance:Pos eI:=⟨by decide⟩
instance:Pos eS:=⟨by decide⟩
instance:Pos eB:=⟨by decide⟩
instance {a:Enc α} {b:Enc β} [h:Pos a]:Pos (eP a b):=⟨Nat.lt_of_lt_of_le h.h (Nat.le_add_right _ _)⟩
instance {E:Enc α} {m:Nat} [h:Pos E]:Pos (eV E (m+1)):=⟨Nat.mul_pos (Nat.succ_pos m) h.h⟩
theorem qJ {E:Enc α}[he:Pos E]{A:Option Addr}{xs:List α}{i:Int}{x:α}{m:Nat}(rd:Rd w A (E.all xs))(h:aV xs i=some x)(hl:xs.length=m)(r:Ask os cs w):Ask os (dI i m A::cs) w :=
  ⟨rd.ix h hl he.h,r.h⟩
theorem ZY {A:Option Addr}{i:Int}{m:Nat}(h:0<=i/\i < (m:Int)/\A.isSome=true)(r:Ask os cs w):Ask os (dI i m A::cs) w:=⟨h,r.h⟩
theorem qC {p:Option Addr}(v:SV)(h:∃ a,p=some a/\w.cell? a=some v.val)(r:Ask os cs w):Ask (v::os) (dC p v::cs) w:=⟨h,r.h⟩
theorem qR {p:Option Addr}(zs:List SV)(h:∃ a,p=some a/\Rd w (some a) (SV.cl zs))(r:Ask os cs w):Ask (.agg zs::os) (dR p zs::cs) w:=⟨h,r.h⟩
theorem qB {t:TypeId}{g:Nat}{ys:List SV}(k:Cx F O w0 w hs)(i:Nat)(hi:hs[i]?=some (Bx t g ys))(off:Nat)(v:SV)(h:(cellS off ys).map SV.val=some v.val)(r:Ask os cs w):Ask (v::os) (dC (some ⟨g,off,none⟩) v::cs) w:=⟨k.wJ i hi off v h,r.h⟩
theorem Cx.vrd {t:TypeId}{g m:Nat}{ys:List SV}(k:Cx F O w0 w hs)(i:Nat)(hi:hs[i]?=some (Bx t g ys))(E:Enc α)(x:Vec α m)(off:Nat)(hd:((F_ off ys).bind List.head?).map (fun v=>(v.KI,v.val))=some (true,.agg ⟨E.all x.l⟩)):Rd w (some ⟨g,off,none⟩) (E.all x.l):=(k.Ep i hi).vec hd
theorem qV {E:Enc α}{A:Option Addr}{m:Nat}{xs:Vec α m}{i:Int}{x:α}(rd:Rd w A (E.all xs.l))(h:aV xs.l i=some x)(hA:A.isSome=true)(s:SV)(hs:E.f x=[s.val])(r:Ask os cs w):Ask (s::os) (dI i m A::dC (iV A i E.sz) s::cs) w :=
  ⟨⟨(gI h).1,by have:=(gI h).2;have:=xs.h;omega,hA⟩,rd.el h (k:=0) (Pt.yC A i E.sz) (by rw[hs];rfl),r.h⟩
theorem qW {E:Enc α}[he:Pos E]{A:Option Addr}{xs:List α}{i:Int}{x:α}{m:Nat}(rd:Rd w A (E.all xs))(h:aV xs i=some x)(hl:xs.length=m)(s:SV)(hs:E.f x=[s.val])(r:Ask os cs w):Ask (s::os) (dI i m A::dC (iV A i E.sz) s::cs) w :=
  ⟨rd.ix h hl he.h,rd.el h (k:=0) (Pt.yC A i E.sz) (by rw[hs];rfl),r.h⟩
theorem qX {xs:List UInt8}{i:Int}{y:UInt8}(h:aV xs i=some y)(r:Ask os cs w):Ask (.u8 y::os) (dp (0<=i/\xs[i.toNat]?=some y)::cs) w:=⟨bD h,r.h⟩
theorem qT {t:TypeId}{g:Nat}{ys:List SV}(k:Cx F O w0 w hs)(i:Nat)(hi:hs[i]?=some (Bx t g ys))(off m:Nat)(zs:List SV)(h:(NU off m ys).map SV.cl=some (SV.cl zs))(hm:0 < m)(r:Ask os cs w):Ask (.agg zs::os) (dR (some ⟨g,off,none⟩) zs::cs) w:=⟨k.blds i hi off m zs h hm,r.h⟩
theorem IW {l:List Oper}(k:Nat)(ss:List Nat)(b:Bl L L')(q:Ask os cs w)(hs:(evs P n ops ss (l.take k) (Kn L) os).map (fun r=>(L'.map fun e=>(look r.1 e.1).map fun e=>(e.g,e.x.val),r.2.1,r.2.2))=some (L'.map fun p=>some (none,p.2.val),cs,[]))(h:WL P n ops Q (l.drop k) L' w):WL P n ops Q l L w:=WL_seg k ss os L' cs hs q.h h
theorem jR {id:Nat}{l:List Oper}(ss:List Nat)(b:Bl L L')(q:Ask os cs w)(hs:(evs P n l.toArray ss l (Kn L) os).map (fun r=>(L'.map fun e=>(look r.1 e.1).map fun e=>(e.g,e.x.val),r.2.1,r.2.2))=some (L'.map fun p=>some (none,p.2.val),cs,[]))(h:At n (Q .normal) L' w):W P n (.region id l.toArray false) Q L w:=W_quiet ss os L' cs hs q.h h
theorem TI {id:Nat}{l:List Oper}(hm:P.follows .mixedOrders=true)(hB:Region.lexB .any l.toArray=true)(b:Bl L L')(q:∀ m,Ask os cs (w.drewN m))(hs:(evs P n l.toArray [] l (Kn L) os).map (fun r=>(L'.map fun e=>(look r.1 e.1).map fun e=>(e.g,e.x.val),r.2.1,r.2.2))=some (L'.map fun p=>some (none,p.2.val),cs,[]))(h:∀ m,At n (Q .normal) L' (w.drewN m)):W P n (.region id l.toArray true) Q L w:=W_draw hm os L' cs hB hs (fun m=>(q m).h) h
theorem Vx {p:Nat}{Ls:List Nat}{C:List (World->Prop)}{Q:Act->World->Prop}{π:MT}{listed:Array Bool}(k m:Nat)(ss:List Nat)(b:Bl L L')(q:∀ w,cls C m w->Ask os cs w)
    (hs:((XT ops m k π).bind fun l=>evs P n ops ss l (Kn L) os).map (fun r=>(L'.map fun e=>(look r.1 e.1).map fun e=>(e.g,e.x.val),r.2.1,r.2.2))=some (L'.map fun p=>some (none,p.2.val),cs,[])) (h:∀ listed',MX P n ops Ls C Q (π.drop k) p listed' (Kn L') w):MX P n ops Ls C Q π p listed (Kn L) w:=MX_q k m ss os L' cs hs (fun w hw=>(q w hw).h) h
theorem At_c {Q:Exit->Act->World->Prop}{K:St->World->Prop}(h:K L' w)(hk:L'.map (fun p=>(find L p.1).map SV.val)=L'.map (fun p=>some p.2.val)):At n (Exit.then (fun a w=>∃ L,Fu n a (Kn L)/\K L w) Q .normal) L w:=JY L' hk (At_cut h)
theorem At_rd {Q:Exit->Act->World->Prop}{rel:σ->St->World->Prop}{y:σ⊕ρ}(s':σ)(hy:y=.inl s')(h:rel s' L' w)(hk:L'.map (fun p=>(find L p.1).map SV.val)=L'.map (fun p=>some p.2.val)):At n (Exit.then (fun a w=>∃ s' L',y=.inl s'/\Fu n a (Kn L')/\rel s' L' w) Q .normal) L w:=JY L' hk (At_round s' hy h)
theorem W_lp {c:Code}(step:σ->Option (σ⊕ρ))(rel:σ->St->World->Prop)(s0:σ)(r:ρ)(hm:aZ step s0=some r)(h0:rel s0 L' w0)(hk:L'.map (fun p=>(find L p.1).map SV.val)=L'.map (fun p=>some p.2.val))
    (hb:∀ s L w y,rel s L w->step s=some y->(∀ r',y=.inr r'->r'=r)->W P n c (Exit.then (fun a w=>∃ s' L',y=.inl s'/\Fu n a (Kn L')/\rel s' L' w) Q) L w):W P n (.loop c) Q L w0:=W_forget L' hk (W_loop step rel s0 r hm h0 hb)
theorem At_rt {fn:Func}{R:Ending->World->Prop}(xs:List SV)(q:Ask os cs w)(hr:O5 P fn.results.toList L os=some (xs,cs,[]))(h:R (.returned (Sr xs).val) w):At n (bodyPost P fn R .ret) L w:=At_ret os xs cs hr q.h h
theorem BP {fn:Func}{R:Ending->World->Prop}(xs:List SV)(q:Ask os cs w)(hr:O5 P fn.results.toList L os=some (xs,cs,[]))(h:R (.returned (Sr xs).val) w):At n (bodyPost P fn R .normal) L w:=At_end os xs cs hr q.h h
theorem Ji {l:List Oper}(k:Nat)(c:Bool)(b:Bl L L')(hk:((k,SV.b c)::L').map (fun p=>(find L p.1).map SV.val)=((k,SV.b c)::L').map (fun p=>some p.2.val))
    (h1:c=true->WL P n ops Q l ((k,.b true)::L') w) (h2:c=false->WL P n ops Q l ((k,.b false)::L') w):WL P n ops Q l L w:=by
  have key:WL P n ops Q l ((k,SV.b c)::L') w->WL P n ops Q l L w:=fun h=>JY (q:=fun a w=>wpList P ops Q l a w) ((k,SV.b c)::L') hk h;cases c with
  | true=>exact key (h1 rfl)
  | false=>exact key (h2 rfl)
theorem ob {a:Option α}{f:α->Option β}{r:β}(h:a.bind f=some r):∃ x,a=some x/\f x=some r:=Option.bind_eq_some_iff.1 h
theorem nm {a:α}{f:α->Option β}{r:β}(h:(some a).bind f=some r):∃ x,a=x/\f x=some r:=⟨a,rfl,h⟩
inductive Rt {β:Type}:List β->List β->Prop
  | e:Rt [] []
  | z {l}:Rt l []
  | k {x l l'}:Rt l l'->Rt (x::l) (x::l')
  | s {x l l'}:Rt l l'->Rt (x::l) l'
theorem Rt.kk {β:Type}{x y:β}{l l'}(h:Rt l l'):Rt (x::y::l) (x::y::l'):=.k (.k h)
theorem Rt.dO {β:Type}{x y z u:β}{l l'}(h:Rt l l'):Rt (x::y::z::u::l) (x::y::z::u::l'):=.kk (.kk h)
theorem Rt.ss {β:Type}{x y:β}{l l'}(h:Rt l l'):Rt (x::y::l) l':=.s (.s h)
theorem Rt.fF {β:Type}{x y z u:β}{l l'}(h:Rt l l'):Rt (x::y::z::u::l) l':=.ss (.ss h)
inductive Pick {β:Type}:List β->β->List β->Prop
  | h {x l}:Pick (x::l) x l
  | t {x y l l'}:Pick l x l'->Pick (y::l) x (y::l')
inductive OJ {β:Type}:List β->List β->List β->Prop
  | e:OJ [] [] []
  | i {x l a b}:OJ l a b->OJ (x::l) (x::a) b
  | r {x l a b}:OJ l a b->OJ (x::l) a (x::b)
inductive App {β:Type}:List β->List β->List β->Prop
  | n {l}:App [] l l
  | c {x a b l}:App a b l->App (x::a) b (x::l)
theorem App.eq {β:Type}{a b l:List β}(h:App a b l):l=a++b:=by induction h <;> simp_all
theorem OJ.perm {β:Type}{l a b:List β}(h:OJ l a b):l.Perm (a++b):=by
  induction h with
  | e=>exact .nil
  | i _ ih=>exact .cons _ ih
  | r _ ih=>exact(List.Perm.cons _ ih).trans (List.perm_middle.symm)
theorem Pick.perm {β:Type}{x:β}{l l':List β}(h:Pick l x l'):l.Perm (x::l'):=by
  induction h with
  | h=>exact .refl _
  | t _ ih=>exact(List.Perm.cons _ ih).trans (.swap _ _ _)
theorem Sep.perm {w:World}{a b:List HP}(h:a.Perm b):∀ {U V:Nat->Prop},Sep w a U V->Sep w b U V:=by
  induction h with
  | nil=>exact fun h=>h
  | cons x _ ih =>
    rintro U V ⟨S,R,U',V',h1,h2,h3⟩;exact⟨S,R,U',V',h1,ih h2,h3⟩
  | swap x y l =>
    intro U V h;exact Sep.cut (i:=1) (h:=x) rfl h
  | trans _ _ ih1 ih2=>exact fun h=>ih2 (ih1 h)
theorem Cx.perm {a b:List HP}(k:Cx F O w0 w a)(h:a.Perm b):Cx F O w0 w b:=by
  obtain⟨U,V,h1,h2,h3⟩:=k.sep;exact⟨k.os,k.tape,k.output,k.size,k.block,k.fin,k.XO,U,V,Sep.perm h h1,h2,h3⟩
theorem Cx.tl {x:HP}(k:Cx F O w0 w (x::hs)):Cx F O w0 w hs:=k.drop 0
theorem Rt.sub {a b:List HP}(h:Rt a b):∃ c,a.Perm (c++b):=by
  induction h with
  | e=>exact⟨[],.refl _⟩
  | z=>rename_i l;exact⟨l,by rw[List.append_nil]⟩
  | k _ ih=>obtain⟨c,hc⟩:=ih;exact⟨c,(List.Perm.cons _ hc).trans List.perm_middle.symm⟩
  | s _ ih=>rename_i x _ _ _;obtain⟨c,hc⟩:=ih;exact⟨x::c,.cons _ hc⟩
theorem Cx.dropl {a b:List HP}(k:Cx F O w0 w (a++b)):Cx F O w0 w b:=by
  induction a with
  | nil=>exact k
  | cons x l ih=>exact ih k.tl
theorem Cx.bJ {hs':List HP}(k:Cx F O w0 w hs)(h:Rt hs hs'):Cx F O w0 w hs':=by
  obtain⟨c,hc⟩:=h.sub;exact(k.perm hc).dropl
theorem Cx.pk {x:HP}{hs':List HP}(k:Cx F O w0 w hs)(h:Pick hs x hs'):Cx F O w0 w (x::hs'):=k.perm h.perm
theorem Cx.go {ins rest:List HP}(k:Cx F O w0 w hs)(p:OJ hs ins rest):∃ F1 O1:Nat->Prop,Cx F1 O1 w w ins/\(∀ b,O b->O1 b)/\(∀ (i:Nat) (h:HP),rest[i]?=some h->∃ S R,h.p w S R/\(∀ b,R b->O1 b)/\∀ b,S b->¬ F1 b)/\(∀ b,F1 b->F b∨w0.heap.size<=b) /\
    ∀ w' outs all,Cx F1 O1 w w' outs->App outs rest all->Cx F O w0 w' all:=by
  obtain⟨F1,O1,h1,h2,h3,h4,h5⟩:=(k.perm p.perm).enter;exact⟨F1,O1,h1,h2,h3,h4,fun w' outs all hk ha=>ha.eq▸h5 w' outs hk⟩
inductive Chain (F O:Nat->Prop)(w0:World):List HP->List (World->Prop)->Prop
  | l {h:List HP}:Chain F O w0 h [fun x=>Cx F O w0 x h]
  | c {h h':List HP} {C:List (World->Prop)}:Rt h h'->Chain F O w0 h' C->Chain F O w0 h ((fun x=>Cx F O w0 x h)::C)
theorem Chain.spec {hs:List HP}{C:List (World->Prop)}(h:Chain F O w0 hs C):RF C/\∀ w,cls C 0 w ↔ Cx F O w0 w hs:=by
  induction h with
  | l=>exact⟨trivial,fun w=>Iff.rfl⟩
  | c h1 hc ih =>
    cases hc with
    | l=>exact⟨⟨fun x hx=>Cx.bJ hx h1,trivial⟩,fun w=>Iff.rfl⟩
    | c h2 h3=>exact⟨⟨fun x hx=>Cx.bJ hx h1,ih.1⟩,fun w=>Iff.rfl⟩
theorem yY {id:Nat}{l:List Oper}{C:List (World->Prop)}(hm:P.follows .mixedOrders=true)(π:MT)(Ls:List Nat)(k:Cx F O w0 (w.drewN 1) hs)(ch:Chain F O w0 hs C)
    (hB:(Region.noSelect l.toArray,Jh l.toArray Ls π 0 (Array.replicate l.length false),π.depth == l.length)=(true,true,true)) (h:∀ listed,MX P n l.toArray Ls C (Q .normal) π 0 listed (Kn L) (w.drewN 1)) :
    W P n (.region id l.toArray true) Q L w:=W_mix hm π Ls C hB ch.spec.1 ((ch.spec.2 _).2 k) h
inductive Mid:List SV->List SV->List SV->Prop
  | k {s y ys zs}:Mid s ys zs->Mid s (y::ys) (y::zs)
  | h {s y ys}:Mid [s] (y::ys) (s::ys)
  | h2 {s t y u ys}:Mid [s,t] (y::u::ys) (s::t::ys)
  | h3 {s t r y u v ys}:Mid [s,t,r] (y::u::v::ys) (s::t::r::ys)
  | h4 {s t r q y u v x ys}:Mid [s,t,r,q] (y::u::v::x::ys) (s::t::r::q::ys)
  | all {s ys}:Mid s ys s
theorem Mid.kk {s y u ys zs}(h:Mid s ys zs):Mid s (y::u::ys) (y::u::zs):=.k (.k h)
theorem Mid.dO {s y u v x ys zs}(h:Mid s ys zs):Mid s (y::u::v::x::ys) (y::u::v::x::zs):=.kk (.kk h)
theorem Op_b {K:St->World->Prop}{ty t:TypeId}{p x:Operand}{pos:String}{oJ:Array Edge}{g:Option (Nat×Bool)}(ss:List Nat)(i:Nat){pa:Option Addr}(sv:SV)(svs:List SV){bt:TypeId}{b:Nat}{ys zs:List SV}{off:Nat}
    (hp:Pt (some ⟨b,0,none⟩) off pa) (k:Cx F O w0 w hs) (hi:hs[i]?=some (Bx bt b ys)) (md:Mid svs ys zs)
    (hside:(IP ops ss L (⟨none,.store t p x,ty,pos,oJ,g⟩:Oper),(none:Option Nat),(toSS [p,x] (lk L)).map SV.vals,BL P t,cellsS sv,svs.all SV.one1)=(true,none,some [.pointer pa,sv.val],some (SV.width svs),some svs,true))
    (hz:(XB off (SV.width svs) svs ys).map SV.cl=some (SV.cl zs))
    (hk:∀ w',Cx F O w0 w' (hs.set i (Bx bt b zs))->K L w') :
    H8 P n ops L w ⟨none,.store t p x,ty,pos,oJ,g⟩ K:=Op_bput ss i zs hside hp k hi hz hk
inductive Vup:List SV->Enc α->{m:Nat}->Vec α m->Vec α m->Nat->List SV->Prop
  | h {E:Enc α} {m:Nat} {x y:Vec α m} {ys}:Vup (.ar E x::ys) E x y 0 (.ar E y::ys)
  | t {E:Enc α} {m o:Nat} {x y:Vec α m} {u ys zs}:Vup ys E x y o zs->Vup (u::ys) E x y (SV.width [u]+o) (u::zs)
theorem Vup.split {E:Enc α}{m o:Nat}{x y:Vec α m}{ys zs:List SV}(h:Vup ys E x y o zs):∃ pre post,ys=pre++.ar E x::post/\zs=pre++.ar E y::post/\o=SV.width pre:=by
  induction h with
  | h=>exact⟨[],_,rfl,rfl,rfl⟩
  | t _ ih =>
    obtain⟨p,q,rfl,rfl,rfl⟩:=ih;exact⟨_::p,q,rfl,rfl,(J3 [_] p).symm⟩
theorem Op_vs {K:St->World->Prop}{ty t:TypeId}{p x:Operand}{pos:String}{oJ:Array Edge}{g:Option (Nat×Bool)}{E:Enc α}(ss:List Nat)(i:Nat){pa:Option Addr}(sv:SV)(svs:List SV){bt:TypeId}{b:Nat}{m o o':Nat}{x0 x1:Vec α m}{ys zs:List SV}{j:Int}{e0 y:α}{kk:Nat}
    (hv:lZ x0 j y=x1) (hx:aV x0.l j=some e0) (hp:Pt (some ⟨b,0,none⟩) (o'+(j.toNat*E.sz+kk)) pa) (k:Cx F O w0 w hs) (hi:hs[i]?=some (Bx bt b ys)) (vu:Vup ys E x0 x1 o zs) (hy:E.f y=pat (E.f e0) kk (SV.cl svs))
    (hside:(IP ops ss L (⟨none,.store t p x,ty,pos,oJ,g⟩:Oper),(none:Option Nat),(toSS [p,x] (lk L)).map SV.vals,BL P t,cellsS sv,svs.all SV.one1,o')=(true,none,some [.pointer pa,sv.val],some (SV.width svs),some svs,true,o))
    (hl:Nat.ble (kk+SV.width svs) E.sz=true)
    (hk:∀ w',Cx F O w0 w' (hs.set i (Bx bt b zs))->K L w') :
    H8 P n ops L w ⟨none,.store t p x,ty,pos,oJ,g⟩ K:=by
  obtain⟨pre,post,rfl,rfl,rfl⟩:=vu.split;simp only[Prod.mk.injEq] at hside;obtain⟨s1,s2,s3,s4,s5,s6,rfl⟩:=hside;subst hv;exact Op_vst (E:=E) (kk:=kk) (sv:=sv) (svs:=svs) ss i pre post x0 y (by rw[s1,s3,s4,s5,s6]) hp k hi hx hy (Nat.le_of_ble_eq_true hl) hk
end
end Go.Sx
namespace Go.Sx
open Go.RowKit
set_option linter.unusedSimpArgs false
set_option linter.unusedVariables false
variable {α β:Type}
abbrev Hd:=Option Addr×Nat×Nat
def eH:Enc Hd:=⟨1,fun h=>[.slice h.1 h.2.1 h.2.2],fun _=>rfl,fun x v h=>by rw[List.mem_singleton.1 h];rfl⟩
instance:Pos eH:=⟨by decide⟩
def rows (E:Enc α):List Hd->List (List α)->List HP
  | h::hs,x::xs=>Ow E h.1 h.2.1 h.2.2 x::rows E hs xs
  | _,_=>[]
theorem Vy {E:Enc α}{hd:List Hd}{yE:List (List α)}{i:Nat}{h:Hd}{x:List α}(h1:hd[i]?=some h)(h2:yE[i]?=some x):(rows E hd yE)[i]?=some (Ow E h.1 h.2.1 h.2.2 x):=by
  induction hd generalizing yE i with
  | nil=>cases h1
  | cons a az ih =>
    cases yE with
    | nil=>cases h2
    | cons b bs =>
      cases i with
      | zero =>
        simp only[List.getElem?_cons_zero,Option.some.injEq] at h1 h2;subst h1;subst h2;rfl
      | succ i =>
        simp only[List.getElem?_cons_succ] at h1 h2;exact ih h1 h2
theorem Ql {E:Enc α}:∀ (hd:List Hd) (yE:List (List α)) (i:Nat) (h:Hd) (x:List α),hd.length=yE.length->(rows E hd yE).set i (Ow E h.1 h.2.1 h.2.2 x)=rows E (hd.set i h) (yE.set i x)
  | [],yE,_,_,_,_=>rfl
  | _::_,[],_,_,_,h=>by cases h
  | a::az,b::bs,0,h,x,_=>rfl
  | a::az,b::bs,i+1,h,x,hl=>by
    simp only[List.length_cons,Nat.add_right_cancel_iff] at hl;simp only[rows,List.set_cons_succ,Ql az bs i h x hl]
theorem Vz {E:Enc α}:∀ (hd hd2:List Hd) (yE O6:List (List α)),hd.length=yE.length->rows E (hd++hd2) (yE++O6)=rows E hd yE++rows E hd2 O6
  | [],hd2,[],O6,_=>rfl
  | [],_,_::_,_,h=>by cases h
  | _::_,_,[],_,h=>by cases h
  | a::az,hd2,b::bs,O6,hl=>by
    simp only[List.length_cons,Nat.add_right_cancel_iff] at hl;simp only[List.cons_append,rows,Vz az hd2 bs O6 hl]
theorem Jj {E:Enc α}:∀ (hd:List Hd) (yE:List (List α)),hd.length=yE.length->(rows E hd yE).length=hd.length
  | [],_,_=>by simp[rows]
  | _::_,[],h=>by cases h
  | a::az,b::bs,hl=>by
    simp only[List.length_cons,Nat.add_right_cancel_iff] at hl;simp[rows,Jj az bs hl]
def Pk (q:Prop)(l:List HP):HP where
  p w S R:=q/\Sep w l S R
  loc:=by
    rintro w w' S R ⟨h0,h⟩ hk;exact⟨h0,h.keep hk⟩
def O2 (E:Enc α)(A:Option Addr)(n c:Nat)(hd:List Hd)(yE:List (List α)):HP:=Pk (hd.length=yE.length) (Ow eH A n c hd::rows E hd yE)
def O2x (E:Enc α)(A:Option Addr)(n c:Nat)(hd:List Hd)(yE:List (List α))(i:Nat):HP:=Pk (hd.length=yE.length) (Ow eH A n c hd::(rows E hd yE).eraseIdx i)
section
variable {F O:Nat->Prop}{w0 w w':World}{hs rest:List HP}
theorem VA {β:Type}{l:List β}{i:Nat}{x:β}(h:l[i]?=some x):l.Perm (x::l.eraseIdx i):=by
  induction l generalizing i with
  | nil=>cases h
  | cons y l ih =>
    cases i with
    | zero =>
      simp only[List.getElem?_cons_zero,Option.some.injEq] at h;subst h;exact .refl _
    | succ i =>
      simp only[List.getElem?_cons_succ] at h;simp only[List.eraseIdx_cons_succ];exact(List.Perm.cons _ (ih h)).trans (.swap _ _ _)
theorem VB {β:Type}{l:List β}{i:Nat}(x:β)(h:i < l.length):(x::l.eraseIdx i).Perm (l.set i x):=by
  have h1:(l.set i x)[i]?=some x:=by simp[h]
  have h2:=VA h1;rw[List.eraseIdx_set_eq] at h2;exact h2.symm
theorem Cx.unpk {q:Prop}{l:List HP}(k:Cx F O w0 w (Pk q l::rest)):q/\Cx F O w0 w (l++rest):=by
  obtain⟨U,V,⟨S,R,U',V',⟨hq,h1⟩,h2,h3,h4,h5,h6⟩,hU,hV⟩:=k.sep;refine⟨hq,k.os,k.tape,k.output,k.size,k.block,k.fin,k.XO,_,_,Sep.join h1 h2 (fun b hb=>⟨(h5 b hb).1,(h5 b hb).2.2⟩) h6,fun b hb=>hU b ((h3 b).2 hb),fun b hb=>hV b ((h4 b).2 hb)⟩
theorem Cx.ZZ {q:Prop}{l:List HP}(hq:q)(k:Cx F O w0 w (l++rest)):Cx F O w0 w (Pk q l::rest):=by
  obtain⟨U,V,h,hU,hV⟩:=k.sep;obtain⟨U1,V1,U2,V2,e1,e2,e3,e4,e5,e6⟩:=Sep.split h;refine⟨k.os,k.tape,k.output,k.size,k.block,k.fin,k.XO,U,V,⟨U1,V1,U2,V2,⟨hq,e1⟩,e2,e3,e4,fun b hb=>⟨(e5 b hb).1,fun hr=>Sep.apart e1 b hb hr,(e5 b hb).2⟩,e6⟩,hU,hV⟩
theorem O2.parts {E:Enc α}{A:Option Addr}{n c:Nat}{hd:List Hd}{yE:List (List α)}{S R:Nat->Prop}(h:(O2 E A n c hd yE).p w S R) :
    hd.length=yE.length/\(∃ S' R',(Ow eH A n c hd).p w S' R'/\∀ b,S' b->S b)/\∀ (j:Nat) (h:Hd) (x:List α),hd[j]?=some h->yE[j]?=some x->∃ S' R',(Ow E h.1 h.2.1 h.2.2 x).p w S' R'/\∀ b,S' b->S b:=by
  obtain⟨hl,hS⟩:=h;refine⟨hl,?_,fun j h x h1 h2=>?_⟩
  ·obtain⟨S',R',U',V',e1,e2,e3,_⟩:=Sep.cut (i:=0) rfl hS;exact⟨S',R',e1,fun b hb=>(e3 b).2 (.inl hb)⟩
  ·obtain⟨S',R',U',V',e1,e2,e3,_⟩:=Sep.cut (i:=j+1) (by rw[List.getElem?_cons_succ];exact Vy h1 h2) hS;exact⟨S',R',e1,fun b hb=>(e3 b).2 (.inl hb)⟩
theorem Cx.hd2 {E:Enc α}{A:Option Addr}{n c:Nat}{hd:List Hd}{yE:List (List α)}(k:Cx F O w0 w hs)(i:Nat)(hi:hs[i]?=some (O2 E A n c hd yE)):Rd w A (eH.all hd):=by
  obtain⟨S,R,h⟩:=k.get i hi;obtain⟨_,⟨S',R',h1,_⟩,_⟩:=O2.parts h;exact Ow.rd' h1
theorem Cx.og {E:Enc α}{A:Option Addr}{n c:Nat}{hd:List Hd}{yE:List (List α)}(k:Cx F O w0 w hs)(i:Nat)(hi:hs[i]?=some (O2 E A n c hd yE)):yE.length=n:=by
  obtain⟨S,R,h⟩:=k.get i hi;obtain⟨hl,⟨S',R',h1,_⟩,_⟩:=O2.parts h;rw[<- hl];exact h1.1
theorem Cx.hlen2 {E:Enc α}{A:Option Addr}{n c:Nat}{hd:List Hd}{yE:List (List α)}(k:Cx F O w0 w hs)(i:Nat)(hi:hs[i]?=some (O2 E A n c hd yE)):hd.length=n:=by
  obtain⟨S,R,h⟩:=k.get i hi;obtain⟨hl,⟨S',R',h1,_⟩,_⟩:=O2.parts h;exact h1.1
theorem Ow.lec' {E:Enc α}{A:Option Addr}{n c:Nat}{xs:List α}{S R:Nat->Prop}(h:(Ow E A n c xs).p w S R):n<=c:=by
  rcases h.2 with⟨_,h1,h2⟩ | ⟨g,t,cur,_,_,h3,_⟩ <;> omega
theorem Cx.at2 {E:Enc α}{A:Option Addr}{n c:Nat}{hd:List Hd}{yE:List (List α)}{j:Int}{x:List α}(k:Cx F O w0 w hs)(i:Nat)(hi:hs[i]?=some (O2 E A n c hd yE))(hx:aV yE j=some x):∃ B d,aV hd j=some (B,x.length,d)/\x.length<=d:=by
  obtain⟨S,R,h⟩:=k.get i hi;obtain⟨hl,_,h2⟩:=O2.parts h;obtain⟨h0,h1⟩:=bD hx;have hlt:=(List.getElem?_eq_some_iff.1 h1).1;have hh:hd[j.toNat]?=some (hd[j.toNat]'(hl▸hlt)):=List.getElem?_eq_getElem _;obtain⟨S',R',hp,_⟩:=h2 _ _ _ hh h1;refine⟨(hd[j.toNat]'(hl▸hlt)).1,(hd[j.toNat]'(hl▸hlt)).2.2,?_,?_⟩
  ·unfold aV;rw[if_pos h0,hh,hp.1]
  ·rw[hp.1];exact Ow.lec' hp
theorem EF {β:Type}{l:List β}{j:Int}{x:β}(h:aV l j=some x):l[j.toNat]?=some x:=(bD h).2
theorem Cx.in2 {E:Enc α}{A:Option Addr}{n c m:Nat}{hd:List Hd}{yE:List (List α)}{j:Int}{x:List α}{B:Option Addr}{d:Nat}(k:Cx F O w0 w hs)(i:Nat)(hi:hs[i]?=some (O2 E A n c hd yE))(hx:aV yE j=some x)(hh:aV hd j=some (B,m,d)):Rd w B (E.all x):=by
  obtain⟨S,R,h⟩:=k.get i hi;obtain⟨hl,_,h2⟩:=O2.parts h;obtain⟨S',R',hp,_⟩:=h2 _ _ _ (EF hh) (EF hx);exact Ow.rd' hp
theorem Cx.SB {E:Enc α}{A:Option Addr}{n c m:Nat}{hd:List Hd}{yE:List (List α)}{j:Int}{x:List α}{B:Option Addr}{d:Nat}(k:Cx F O w0 w (O2 E A n c hd yE::rest))(hx:aV yE j=some x)(hh:aV hd j=some (B,m,d)):Cx F O w0 w (O2x E A n c hd yE j.toNat::Ow E B m d x::rest):=by
  obtain⟨hl,k1⟩:=k.unpk;have hg:=Vy (E:=E) (EF hh) (EF hx);refine Cx.ZZ hl (k1.perm ?_);simp only[List.cons_append];refine .cons _ (List.Perm.trans (List.Perm.append_right rest (VA hg)) ?_);simp only[List.cons_append];exact List.perm_middle.symm
theorem Cx.TJ {E:Enc α}{A:Option Addr}{n c m:Nat}{hd:List Hd}{yE:List (List α)}{j:Int}{x y:List α}{B:Option Addr}{d:Nat}(hx:aV yE j=some x)(hh:aV hd j=some (B,m,d))(k:Cx F O w0 w (O2x E A n c hd yE j.toNat::Ow E B m d y::rest)):Cx F O w0 w (O2 E A n c hd (yE.set j.toNat y)::rest):=by
  obtain⟨hl,k1⟩:=k.unpk;refine Cx.ZZ (by simpa using hl) (k1.perm ?_);have hs:hd.set j.toNat (B,m,d)=hd:=by
    obtain⟨h1,h2⟩:=List.getElem?_eq_some_iff.1 (EF hh);rw[<- h2];exact List.set_getElem_self h1
  have hr:=Ql (E:=E) hd yE j.toNat (B,m,d) y hl;rw[hs] at hr;simp only[List.cons_append];refine .cons _ (List.Perm.trans List.perm_middle ?_);rw[<- hr,<-List.cons_append];exact List.Perm.append_right rest (VB _ (by rw[Jj _ _ hl];exact(List.getElem?_eq_some_iff.1 (EF hh)).1))
theorem Cx.nil2 (k:Cx F O w0 w hs)(E:Enc α):Cx F O w0 w (hs++[O2 E Option.none 0 0 [] []]):=by
  have k1:=k.nil eH;have k2:Cx F O w0 w (([Ow eH Option.none 0 0 []]:List HP)++hs):=k1.perm List.perm_append_comm;have k3:=Cx.ZZ (q:=([]:List Hd).length=([]:List (List α)).length) rfl k2;exact k3.perm (List.perm_append_comm (l₁:=[_]))
end
section
variable {F O F1 O1:Nat->Prop}{w0 w w':World}{hs rest:List HP}{E:Enc α}{A:Option Addr}{hd:List Hd}{yE:List (List α)}
end
section
variable {P:Program}{n:Nat}{ops:Array Oper}{L:St}{w w0:World}{F O:Nat->Prop}{hs rest:List HP}{K:St->World->Prop}
theorem Op_mk2 {dst:Option Nat}{t ty:TypeId}{len:Nat}{parts:Array (Nat×Operand)}{pos:String}{oJ:Array Edge}{g:Option (Nat×Bool)}{e:TypeId}{zs:List Value}{bytes:Nat}(tf:TF P t e zs bytes)
    (E:Enc α) (ss:List Nat) (d:Nat) (hd:List Hd) (yE:List (List α)) (ps:List (Nat×SV)) (svs:List SV)
    (hside:(IP ops ss L ⟨dst,.buildSlice t len parts,ty,pos,oJ,g⟩,dst,(decide (d < n)),(L.any fun p=>p.1 == d),(toPS parts.toList (lk L)).map (·.map fun p=>(p.1,p.2.val)))=(true,some d,true,false,some (ps.map fun p=>(p.1,p.2.val))))
    (hf:(MC (fun i=>some (i*zs.length,zs.length)) ((List.replicate len zs).flatten.map Le) ps,decide (len*zs.length<=16777216),hd.length,eH.sz)=(some svs,true,len,zs.length)) (hx:SV.cl svs=eH.all hd) (hl:hd.length=yE.length)
    (k:Cx F O w0 w (rows E hd yE++rest)) (hk:∀ A w',Cx F O w0 w' (O2 E A len len hd yE::rest)->K ((d,.v (.slice A len len))::L) w') :
    H8 P n ops L w ⟨dst,.buildSlice t len parts,ty,pos,oJ,g⟩ K:=by
  refine uX tf eH ss d hd ps svs hside hf hx k fun A w' k'=>hk A w' (Cx.ZZ hl (k'.perm ?_));exact(List.perm_append_comm (l₂:=[_])).trans (List.Perm.refl _)
theorem XV {dst:Option Nat}{x y:Operand}{t t2 ty:TypeId}{pos:String}{oJ:Array Edge}{g:Option (Nat×Bool)}{e:TypeId}{zs:List Value}{bytes:Nat}(tf:TF P t e zs bytes)
    {E:Enc α} (ss:List Nat) (d:Nat) {A A2:Option Addr} {n1 n2 c c2:Nat} {hd hd2:List Hd} {yE O6:List (List α)}
    (hside:(IP ops ss L ⟨dst,.call ⟨.builtin .append,#[x,y],#[t,t2]⟩,ty,pos,oJ,g⟩,dst,(decide (d < n)),(L.any fun p=>p.1 == d),(toSS [x,y] (lk L)).map SV.vals,(match P.underlying t2 with | some (.slice _)=>true | some .string=>true | _=>false),1)=(true,some d,true,false,some [.slice A n1 c,.slice A2 n2 c2],true,zs.length))
    (k:Cx F O w0 w (O2 E A n1 c hd yE::O2 E A2 n2 c2 hd2 O6::rest)) (hroom:(n1+n2)*bytes<=140737488355328)
    (hk:∀ A' c' w',Cx F O w0 w' (O2 E A' (n1+n2) c' (hd++hd2) (yE++O6)::rest)->K ((d,.v (.slice A' (n1+n2) c'))::L) w') :
    H8 P n ops L w ⟨dst,.call ⟨.builtin .append,#[x,y],#[t,t2]⟩,ty,pos,oJ,g⟩ K:=by
  have hl2:hd2.length=n2:=k.hlen2 1 rfl;have hrd:=k.hd2 1 rfl;obtain⟨hl,k1⟩:=k.unpk;have k2:Cx F O w0 w (O2 E A2 n2 c2 hd2 O6::((Ow eH A n1 c hd::rows E hd yE)++rest)):=k1.perm (by simp only[List.cons_append];exact List.perm_middle (l₁:=_::_));obtain⟨hl',k3⟩:=k2.unpk;have hz:(1:Nat)=zs.length:=by simp only[Prod.mk.injEq] at hside;exact hside.2.2.2.2.2.2
  have k4:Cx F O w0 w (Ow eH A n1 c hd::(Ow eH A2 n2 c2 hd2::(rows E hd2 O6++(rows E hd yE++rest)))):=k3.perm (by
    simp only[List.cons_append];exact(List.Perm.cons _ List.perm_middle).trans (.swap _ _ _))
  refine dm (E:=eH) (v:=.v (.slice A2 n2 c2)) (ys:=hd2) tf ss d 0 hside k4 rfl (Src.sl hrd hl2 hz) hl2 hroom fun A' c' w' k'=>hk A' c' w' ?_;have k5:Cx F O w0 w' (Ow eH A' (n1+n2) c' (hd++hd2)::(rows E hd2 O6++(rows E hd yE++rest))):=(k'.perm (.swap _ _ _)).tl;refine Cx.ZZ (by simp[hl,hl']) (k5.perm ?_);rw[Vz hd hd2 yE O6 hl];simp only[List.cons_append,List.append_assoc];refine .cons _ ?_;rw[<- List.append_assoc,<-List.append_assoc];exact List.Perm.append_right rest List.perm_append_comm
theorem Op_st2 {ty t:TypeId}{p x:Operand}{pos:String}{oJ:Array Edge}{g:Option (Nat×Bool)}{E:Enc α}(ss:List Nat){pa:Option Addr}{A B A2:Option Addr}{n1 c m d m2 d2:Nat}{hd:List Hd}{yE:List (List α)}{j:Int}{y:List α}
    (hside:(IP ops ss L (⟨none,.store t p x,ty,pos,oJ,g⟩:Oper),(none:Option Nat),(toSS [p,x] (lk L)).map SV.vals,BL P t)=(true,none,some [.pointer pa,.slice A2 m2 d2],some 1))
    (hp:Pt A (j.toNat*eH.sz+0) pa) (hh:aV hd j=some (B,m,d)) (k:Cx F O w0 w (O2x E A n1 c hd yE j.toNat::Ow E A2 m2 d2 y::rest))
    (hk:∀ w',Cx F O w0 w' (O2 E A n1 c (hd.set j.toNat (A2,m2,d2)) (yE.set j.toNat y)::rest)->K L w') :
    H8 P n ops L w ⟨none,.store t p x,ty,pos,oJ,g⟩ K:=by
  obtain⟨hl,k1⟩:=k.unpk;simp only[List.cons_append] at k1;have hA:A.isSome=true:=tH (E:=eH) (k1.rd 0 rfl) (by decide) (gI hh).1 (EF hh);refine Ac (E:=eH) (kk:=0) (sv:=.v (.slice A2 m2 d2)) (svs:=[.v (.slice A2 m2 d2)]) ss 0 (j:=j.toNat) (x0:=(B,m,d)) (A2,m2,d2) (by
    simp only[Prod.mk.injEq] at hside ⊢;exact⟨hside.1,hside.2.1,hside.2.2.1,hside.2.2.2,rfl,rfl⟩) hp k1 rfl (EF hh) hA rfl (Nat.le_refl 1) fun w' k'=>hk w' (Cx.ZZ (by simpa using hl) ?_)
  rw[List.set_cons_zero] at k';refine k'.perm ?_;simp only[List.cons_append];refine .cons _ (List.Perm.trans List.perm_middle ?_);have hr:=Ql (E:=E) hd yE j.toNat (A2,m2,d2) y hl;rw[<- hr,<-List.cons_append];exact List.Perm.append_right rest (VB _ (by rw[Jj _ _ hl];exact(List.getElem?_eq_some_iff.1 (EF hh)).1))
end
section
variable {P:Program}{n:Nat}{Q:Act->World->Prop}{ops:Array Oper}{Ls:List Nat}{C:List (World->Prop)}{L L':St}{w:World}{π:MT}{p:Nat}
theorem Z4 (L':St)(hk:L'.map (fun p=>(find L p.1).map SV.val)=L'.map (fun p=>some p.2.val)){listed:Array Bool}(h:MX P n ops Ls C Q π p listed (Kn L') w):MX P n ops Ls C Q π p listed (Kn L) w :=
  fun hns hmo hB hw=>JY (q:=fun a w=>wpC P ops Ls (cls C) Q π.depth p listed a w) L' hk (fun a ha=>h hns hmo hB hw a ha)
theorem YU (k:Nat)(c:Bool)(b:Bl L L')(hk:((k,SV.b c)::L').map (fun p=>(find L p.1).map SV.val)=((k,SV.b c)::L').map (fun p=>some p.2.val))
    (h1:c=true->∀ listed,MX P n ops Ls C Q π p listed (Kn ((k,.b true)::L')) w) (h2:c=false->∀ listed,MX P n ops Ls C Q π p listed (Kn ((k,.b false)::L')) w) {listed:Array Bool}:MX P n ops Ls C Q π p listed (Kn L) w:=by
  refine Z4 ((k,SV.b c)::L') hk ?_;cases c with
  | true=>exact h1 rfl listed
  | false=>exact h2 rfl listed
theorem TK {i:Nat}{o:Oper}(d:Nat)(ss:List Nat)(hl:Ls.contains i=true)(ho:ops[i]?=some o)(hs:((Vj ops o).map (settled ss (Kn L)),o.dst,decide (d < n),L.any fun p=>p.1 == d)=(some (some false),some d,true,false))
    (h:∀ listed,MX P n ops Ls C Q π (p+1) listed (Kn ((d,.oU [])::L)) w) {listed:Array Bool}:MX P n ops Ls C Q (.op i π) p listed (Kn L) w:=by
  intro hns hmo hB hw a ha;simp only[Prod.mk.injEq,decide_eq_true_eq,Option.map_eq_some_iff] at hs;obtain⟨⟨g,hg,hse⟩,hd,hn,hnew⟩:=hs;have hnx:nx Ls p i=p+1:=by unfold nx;rw[if_pos hl]
  simp only[Jh,Bool.and_eq_true,beq_iff_eq,hnx] at hB;obtain⟨hr,hB⟩:=hB;obtain⟨k,wv,rfl,_,h2⟩:=ED ha hse;have hnw:Region.wanted o (yielded ops a.tmps)=false:=by
    cases hwant:Region.wanted o (yielded ops a.tmps) with
    | true=>exact absurd ((EC hg).1 hwant k wv rfl) (h2 rfl)
    | false=>rfl
  refine⟨fun h0=>(by rw[h0] at hr;cases hr),fun j hj=>?_⟩;rw[hr] at hj;simp only[List.mem_singleton] at hj;subst hj;have hc:=hmo.le p (p+1) w (by omega) hw;unfold wpOp;simp only[ho,hnx];rw[if_neg (by simp[hnw]),hd];exact⟨hc,h _ hns hmo hB hc _ (ha.more (x:=.oU []) hn hnew)⟩
end
theorem Rd.nilA {w:World}{A:Option Addr}{cs:List Value}(h:Rd w A cs)(hA:A.isNone=true):cs=[]:=by
  cases cs with
  | nil=>rfl
  | cons v vs =>
    have:=h.isSome (off:=0) (v:=v) rfl;cases A <;> simp_all
theorem all_nil {E:Enc α}[hp:Pos E]{xs:List α}(h:E.all xs=[]):xs=[]:=by
  cases xs with
  | nil=>rfl
  | cons x xs =>
    have:=congrArg List.length h;rw[Enc.gp] at this;have hq:=hp.1;simp only[List.length_cons,List.length_nil] at this;exact absurd this (Nat.ne_of_gt (Nat.mul_pos (Nat.succ_pos _) hq))
end Go.Sx
namespace Go.Sx
open Go.ChangeShapes Go.WideShapes Go.ChangeAt Go.RowKit
set_option linter.unusedSimpArgs false
set_option linter.unusedVariables false
variable {α σ ρ:Type}
theorem bz {n:Int}(h:-9223372036854775808<=n/\n < 9223372036854775808):ay n=n:=by
  simp only[ay,IntKind.wrap,IntKind.signed,IntKind.bits,reduceIte];simp only[show(2:Int) ^ 64=18446744073709551616 from rfl,show(2:Int) ^ 63=9223372036854775808 from rfl,show(2:Nat) ^ 64=18446744073709551616 from rfl,show(2:Nat) ^ 63=9223372036854775808 from rfl,show(64 - 1:Nat)=63 from rfl]
  first | omega | (simp;omega)
theorem MI {xs:List α}{i:Nat}{x:α}(h:xs[i]?=some x):aV xs (i:Int)=some x:=by
  unfold aV;rw[if_pos (by omega)];simpa using h
theorem gJ {xs ys:List α}{b:Nat}(h:(xs.length+ys.length)*b<=140737488355328):app xs ys b=some (xs++ys):=by
  unfold app;rw[if_pos h]
theorem jo {p:Prop}[Decidable p](h:p):need p=some ():=by
  unfold need;rw[if_pos h]
theorem Ad {xs:List α}{lo hi:Int}(h:0<=lo/\lo<=hi/\hi<=xs.length):G6 xs lo hi=some ((xs.take hi.toNat).drop lo.toNat):=by
  unfold G6;rw[if_pos h]
theorem nJ {f:σ->Option (σ⊕ρ)}(P:Nat->σ->Prop)(Q:ρ->Prop)(n:Nat)
    (h:∀ i s,P i s->(i < n/\∃ s',f s=some (.inl s')/\P (i+1) s')∨∃ r,f s=some (.inr r)/\Q r) :
    ∀ s,P 0 s->∃ r,aZ f s=some r/\Q r:=by
  have key:∀ k i s,n - i<=k->P i s->∃ r,aZ f s=some r/\Q r:=by
    intro k
    induction k with
    | zero =>
      intro i s hk hp;rcases h i s hp with⟨hi,_⟩ | ⟨r,hr,hq⟩
      ·omega
      ·exact⟨r,gm hr,hq⟩
    | succ k ih =>
      intro i s hk hp;rcases h i s hp with⟨hi,s',hs',hp'⟩ | ⟨r,hr,hq⟩
      ·rw[kH hs'];exact ih (i+1) s' (by omega) hp'
      ·exact⟨r,gm hr,hq⟩
  exact fun s hp=>key n 0 s (by omega) hp
theorem kQ {f:σ->Option (σ⊕ρ)}(P:Nat->σ->Prop)(r:ρ)(n:Nat)(s:σ)(h0:P 0 s)
    (h:∀ i s,P i s->(i < n/\∃ s',f s=some (.inl s')/\P (i+1) s')∨f s=some (.inr r)):aZ f s=some r:=by
  obtain⟨r',h1,rfl⟩:=nJ P (fun r'=>r'=r) n (fun i s hp=>(h i s hp).imp id fun e=>⟨r,e,rfl⟩) s h0;exact h1
theorem gZ {f:σ->Option (σ⊕ρ)}(s:Nat->σ)(n:Nat){r:ρ}(h:∀ i,i < n->f (s i)=some (.inl (s (i+1))))(he:f (s n)=some (.inr r)):aZ f (s 0)=some r :=
  kQ (fun i x=>x=s i/\i<=n) r n (s 0) ⟨rfl,by omega⟩ (by
    rintro i x ⟨rfl,hi⟩;by_cases hlt:i < n
    ·exact .inl ⟨hlt,_,h i hlt,rfl,by omega⟩
    ·obtain rfl:i=n:=by omega
     exact .inr he)
def IsRow (k:IntKind)(w:World)(a:Option Addr)(len cap:Nat)(zs:List Int):Prop :=
  (a=none/\len=0/\cap=0/\zs=[]) ∨
  ∃ x,a=some x/\len<=cap/\cap<=maxLen/\zs.length=cap/\(∀ i,i < zs.length->w.cell? (x.add i)=some (.int k (zs.getD i 0)))/\∀ n ∈ zs,(Lit.int k n).wf=true
theorem wf_u8 {n:Int}(h:(Lit.int .u8 n).wf=true):0<=n/\n<=255:=by
  simpa [Lit.wf,IntKind.min,IntKind.max,IntKind.signed,IntKind.bits] using h
theorem wf_i64 {n:Int}(h:(Lit.int .i64 n).wf=true):-9223372036854775808<=n/\n<=9223372036854775807:=by
  simpa [Lit.wf,IntKind.min,IntKind.max,IntKind.signed,IntKind.bits] using h
theorem get_u8 {n:Int}(h:(Lit.int .u8 n).wf=true):∃ x:UInt8,Value.int .u8 n=SV.val (.u8 x):=by
  have:=wf_u8 h;refine⟨UInt8.ofNat n.toNat,?_⟩;simp only[SV.val,Value.int.injEq,true_and];simp;omega
theorem row_list {k:IntKind}{β:Type}{φ:β->Value}{w:World}{a:Option Addr}{len cap:Nat}{zs:List Int}(h:IsRow k w a len cap zs)
    (hg:∀ n:Int,(Lit.int k n).wf=true->∃ x:β,Value.int k n=φ x):∃ b:List β,Rd w a (b.map φ)/\b.length=len/\len<=cap:=by
  rcases h with⟨rfl,rfl,rfl,rfl⟩ | ⟨x,rfl,hl,hm,hz,hc,hw⟩
  ·exact⟨[],⟨fun h=>absurd rfl h,fun _ _ _ h=>by cases h⟩,rfl,by omega⟩
  ·have key:∀ zs:List Int,(∀ n ∈ zs,(Lit.int k n).wf=true)->∃ b:List β,b.length=zs.length/\∀ (i:Nat) (n:Int),zs[i]?=some n->∃ y:β,b[i]?=some y/\Value.int k n=φ y:=by
     intro zs
     induction zs with
     | nil=>intro _;exact⟨[],rfl,fun i n h=>by simp at h⟩
     | cons z zs ih =>
       intro hw;obtain⟨b,hb,hi⟩:=ih fun n hn=>hw n (List.mem_cons_of_mem _ hn);obtain⟨y,hy⟩:=hg z (hw z List.mem_cons_self);refine⟨y::b,by simp[hb],fun i n hin=>?_⟩;cases i with
       | zero=>simp at hin;subst hin;exact⟨y,by simp,hy⟩
       | succ i=>simp at hin;obtain⟨y',h1,h2⟩:=hi i n hin;exact⟨y',by simpa using h1,h2⟩
   obtain⟨b,hb,hi⟩:=key zs hw;refine⟨b.take len,⟨fun _=>⟨x,rfl⟩,fun a j u ha hu=>?_⟩,by simp;omega,hl⟩;cases ha;rw[List.map_take,List.getElem?_take] at hu;split at hu
   ·rename_i hj;have hjz:j < zs.length:=by omega
    obtain⟨y,h1,h2⟩:=hi j zs[j] (by simp[hjz]);rw[List.getElem?_map,h1] at hu;simp only[Option.map_some,Option.some.injEq] at hu;rw[hc j hjz,<-hu,<-h2];simp[hjz]
   ·cases hu
theorem row_u8 {w:World}{a:Option Addr}{len cap:Nat}{zs:List Int}(h:IsRow .u8 w a len cap zs):∃ b:List UInt8,Rd w a (b.map bV)/\b.length=len/\len<=cap :=
  row_list h fun n hn=>by obtain⟨x,hx⟩:=get_u8 hn;exact⟨x,hx⟩
theorem get_str (s:ByteArray):∃ l:List UInt8,Value.string s=SV.val (.s l)/\l.length=s.size:=by
  obtain⟨⟨l⟩⟩:=s;exact⟨l,rfl,rfl⟩
section
variable {H:Type}{enc:TypeId×Value->H}{P:Program}{w:World}{held:Bool}
theorem open_row {t e:TypeId}{k:IntKind}{fuel:Nat}{cs:List Value}{x:DataW H×List MemPlace}(ht:P.underlying t=some (.slice e))(he:P.underlying e=some (.int k))(hc:P.cellsOf e=1)
    (h:DataW.trod enc P w 0 (fun _=>true) held fuel t cs=some x) :
    ∃ a len cap zs,cs=[.slice a len cap]/\IsRow k w a len cap zs/\(len=0∨(x.1=.slice (lits k (zs.take len)) (lits k (zs.drop len))/\len<=zs.length)):=by
  rcases open_ints ht he hc h with⟨rfl,_⟩ | ⟨x',l,c,zs,rfl,_,hl,hm,hz,hxx,hcell,hwz⟩
  ·exact⟨none,0,0,[],rfl,.inl ⟨rfl,rfl,rfl,rfl⟩,.inl rfl⟩
  ·simp only[if_true] at hz;refine⟨some x',l,c,zs,rfl,.inr ⟨_,rfl,hl,hm,by simpa using hz,hcell,hwz⟩,.inr ⟨by rw[hxx],by omega⟩⟩
theorem VC {t:TypeId}{fs:Array Field}{fuel:Nat}{cs:List Value}{x:DataW H×List MemPlace}(ht:P.underlying t=some (.struct fs))(h:DataW.trod enc P w 0 (fun _=>true) held fuel t cs=some x) :
    ∃ (xs:List (DataW H×List MemPlace)) (n:Nat),x.1=.agg (xs.map (·.1))/\cs.length=P.cellsOf t/\∀ (i:Nat) (f:Field) (ft:TypeId) (off len:Nat),fs[i]?=some f->f.type=ft->f.offset=off->P.cellsOf ft=len ->
      ∃ y,y.1 ∈ xs.map (·.1)/\DataW.trod enc P w 0 (fun _=>true) held n ft ((cs.drop off).take len)=some y:=by
  obtain⟨xs,n,_,rfl,hl,hlen,hf⟩:=DataW.trod_struct ht h;refine⟨xs,n,rfl,hl,?_⟩;rintro i f ft off len hi rfl rfl rfl;have hlt:i < xs.length:=by
    rw[hlen];have:=(Array.getElem?_eq_some_iff.1 hi).1;exact this
  refine⟨xs[i],List.mem_map.2 ⟨xs[i],List.getElem_mem hlt,rfl⟩,?_⟩;rw[hf i f hi];simp[hlt]
end
theorem GG (cs:List Value)(off n off2:Nat)(h:off+n=off2):cs.drop off=(cs.drop off).take n++cs.drop off2:=by
  subst h;rw[<- List.drop_drop,List.take_append_drop]
theorem YV (cs:List Value)(n m:Nat)(h:cs.length=n)(hm:n=m):cs.drop m=[]:=by
  subst hm;subst h;simp
end Go.Sx
namespace Go.Sx
open Go.RowKit Go.ChangeShapes Go.WideShapes Go.ChangeAt
set_option linter.unusedSimpArgs false
set_option linter.unusedVariables false
section
variable {P:Program}{n:Nat}{ops:Array Oper}{L:St}{w:World}{K:St->World->Prop}
end
section
variable {α:Type}{F O:Nat->Prop}{w0 w:World}{hs:List HP}
end
section
variable {α:Type}{F O:Nat->Prop}{w0 w:World}{hs rest:List HP}{E:Enc α}{A:Option Addr}{n c m:Nat}{hd:List Hd}{yE:List (List α)}
end
section
variable {P:Program}{n:Nat}{ops:Array Oper}{L:St}{w w0:World}{F O:Nat->Prop}{hs:List HP}{K:St->World->Prop}
end
section
variable {P:Program}{n:Nat}{Q:Exit->Act->World->Prop}{L L':St}{w:World}{c:Code}
def Lp (P:Program)(c:Code)(Q:Exit->Act->World->Prop)(a:Act)(w:World):Prop :=
  ∀ b k cs,∃ e a' w',Q e a' w'/\Arrives P (lone (b.at a (.code c::.inLoop c::k)) cs w) b k cs e a' w'
theorem Lp.start {a:Act}(h:Lp P c Q a w):(Code.loop c).wp P Q a w:=by
  intro b k cs;obtain⟨e,a',w',hq,harr⟩:=h b k cs;exact⟨e,a',w',hq,.of_steps (.one step_loop) harr⟩
theorem Lp.round {a:Act}(h:c.wp P (Exit.then (Lp P c Q) Q) a w):Lp P c Q a w:=by
  intro b k cs;obtain⟨e,a₁,w₁,hq,harr⟩:=h b (.inLoop c::k) cs;cases e with
  | normal =>
    obtain⟨e₂,a₂,w₂,hq₂,harr₂⟩:=hq b k cs;exact⟨e₂,a₂,w₂,hq₂,.of_steps (Steps.trans harr (.one step_inLoop)) harr₂⟩
  | exit id=>exact⟨_,a₁,w₁,hq,.pass (x:=.inLoop c) rfl (fun _ _=>.inl (by simp)) harr⟩
  | goto l=>exact⟨_,a₁,w₁,hq,.pass (x:=.inLoop c) rfl (fun _ _=>.inl (by simp)) harr⟩
  | ret=>exact⟨_,a₁,w₁,hq,.pass (x:=.inLoop c) rfl (fun _ _=>.inl (by simp)) harr⟩
  | panic ch=>exact⟨_,a₁,w₁,hq,.pass (x:=.inLoop c) rfl (fun _ _=>.inl (by simp)) harr⟩
  | outgrown=>exact⟨_,a₁,w₁,hq,.pass (x:=.inLoop c) rfl (fun _ _=>.inl (by simp)) harr⟩
theorem Z5 (h:W P n c (Exit.then (Lp P c Q) Q) L w):W P n (.loop c) Q L w:=fun a ha=>Lp.start (Lp.round (h a ha))
theorem uY (h:W P n c (Exit.then (Lp P c Q) Q) L w):At n (Exit.then (Lp P c Q) Q .normal) L w:=fun a ha=>Lp.round (h a ha)
end
section
variable {P:Program}{n:Nat}{ops:Array Oper}{L:St}{w:World}{K:St->World->Prop}
end
def TL (s:List UInt8)(c:UInt8):Int:=firstIdx ⟨⟨s⟩⟩ c
structure IsIx (P:Program)(f:FuncId):Prop where
  ok : ∃ fn, P.funcs[f]? = some fn /\ (fn.name == "runtime.NumGoroutine") = false /\ fn.body.isNone = true /\ Extern.findNext fn = none /\ Extern.find fn = some Extern.BytealgIndexByte.indexByte
section
variable {P:Program}{n:Nat}{ops:Array Oper}{L:St}{w:World}{K:St->World->Prop}
theorem Op_idxb {dst:Option Nat}{f:FuncId}{xs:Array Operand}{ats:Array TypeId}{ty:TypeId}{pos:String}{oJ:Array Edge}{g:Option (Nat×Bool)}(hf:IsIx P f)(ss:List Nat)(d:Nat)(s:List UInt8)(c:UInt8)
    (hs:(IP ops ss L ⟨dst,.call ⟨.value (.func f),xs,ats⟩,ty,pos,oJ,g⟩,dst,(decide (d < n)),(L.any fun p=>p.1 == d),(toSS xs.toList (lk L)).map SV.vals)=(true,some d,true,false,some [.string ⟨⟨s⟩⟩,.int .u8 c.toNat]))
    (hk:K ((d,I (TL s c))::L) w):H8 P n ops L w ⟨dst,.call ⟨.value (.func f),xs,ats⟩,ty,pos,oJ,g⟩ K:=by
  simp only[Prod.mk.injEq,Option.map_eq_some_iff,decide_eq_true_eq] at hs;obtain⟨s1,s2,s3,s4,⟨vs,s5,s6⟩⟩:=hs;subst s2;refine He (xs:=xs.toList) (svs:=vs) ss (d:=d) (by simp[Side,s1,s3,s4,s5]) fun a ha he=>?_;rw[s6] at he;have hargs:(#[]++xs.map a.eval++#[]:Array Value)=#[.string ⟨⟨s⟩⟩,.int .u8 c.toNat]:=by
    apply Array.ext';simpa using he
  obtain⟨fn,h1,h2,h3,h4,h5⟩:=hf.ok;have hrun:(execOp a.eval ⟨some d,.call ⟨.value (.func f),xs,ats⟩,ty,pos,oJ,g⟩).run P w=.ok (.value (SV.val (I (TL s c)))) w:=by
    show(callFunc f (#[]++xs.map a.eval++#[])).run P w=_;rw[hargs,run_callFunc_extern h1 h2 h3 h4 h5,run_indexByte_string];have e:((c.toNat:Int)).toNat.toUInt8=c:=by simp
    rw[e];rfl
  unfold Oper.wp;rw[hrun];exact⟨_,rfl,hk⟩
end
def eQ:Enc (Option Addr):=⟨1,fun a=>[.pointer a],fun _=>rfl,fun x v h=>by rw[List.mem_singleton.1 h];rfl⟩
instance:Pos eQ:=⟨by decide⟩
def Tot:List (List UInt8)->Nat
  | []=>0
  | x::xs=>x.length+1+Tot xs
section
variable {H:Type}{enc:TypeId×Value->H}{P:Program}{w:World}{held:Bool}
def Fam:List (DataW H)->List (List UInt8)->Prop
  | [],[]=>True
  | d::ds,x::xs=>(x=[]∨∃ zs:List Int,d=.slice (lits .u8 (zs.take x.length)) (lits .u8 (zs.drop x.length))/\x.length<=zs.length)/\Fam ds xs
  | _,_=>False
end
section
variable {ops:Array Oper}{Ls:List Nat}
def TM (ops:Array Oper)(m:Nat)(i:Nat):Bool:=!m.testBit i&&((ops[i]?).map (·.after.all fun e=>!Region.binds .any e||m.testBit e.on)).getD false
def freeN (ops:Array Oper)(m:Nat)(i:Nat):Bool :=
  match ops[i]? with
  | none=>false
  | some oi=>(List.range ops.size).all fun j=>j == i||m.testBit j||match ops[j]? with
      | some oj=>oj.after.any (fun e=>Region.binds .any e&&e.on == i)||oi.apart ops oj
      | none=>true
def XW (ops:Array Oper)(Ls:List Nat)(m:Nat)(i:Nat):Nat:=(Ls.filter fun j=>decide (j < ops.size)&&!m.testBit j&&!Gg ops m.testBit j i).length
def RG (ops:Array Oper)(Ls:List Nat):MT->Nat->Nat->Bool
  | .nil,_,m=>(List.range ops.size).all fun i=>!TM ops m i
  | .q i k π,p,m=>decide (i < ops.size)&&TM ops m i&&freeN ops m i&&!Ls.contains i&&decide (p+XW ops Ls m i<=k)&&RG ops Ls π p (m|||2 ^ i)
  | .op i π,p,m=>((List.range ops.size).filter fun j=>TM ops m j) == [i]&&RG ops Ls π (nx Ls p i) (m|||2 ^ i)
  | .br i j ri rj,p,m=>((List.range ops.size).filter fun j=>TM ops m j) == [i,j]&&rj.depth == ri.depth&&RG ops Ls ri (nx Ls p i) (m|||2 ^ i)&&RG ops Ls rj (nx Ls p j) (m|||2 ^ j)
def Rel (ops:Array Oper)(listed:Array Bool)(m:Nat):Prop:=listed.size=ops.size/\∀ j,listed.getD j false=m.testBit j
theorem Rel.lt {listed:Array Bool}{m:Nat}(h:Rel ops listed m){j:Nat}(hj:j < ops.size):listed.getD j true=m.testBit j:=by
  rw[<- h.2 j,Array.getD_eq_getD_getElem?,Array.getD_eq_getD_getElem?,Array.getElem?_eq_getElem (by rw[h.1];exact hj)];rfl
theorem Rel.ge {listed:Array Bool}{m:Nat}(h:Rel ops listed m){j:Nat}(hj:¬ j < ops.size):listed.getD j true=true:=by
  rw[Array.getD_eq_getD_getElem?,Array.getElem?_eq_none (by rw[h.1];omega)];rfl
theorem Rel.ready {listed:Array Bool}{m:Nat}(h:Rel ops listed m):Region.ready .any ops listed=(List.range ops.size).filter fun j=>TM ops m j:=by
  unfold Region.ready;refine List.filter_congr fun i hi=>?_;rw[List.mem_range] at hi;unfold TM;rw[h.lt hi];simp only[h.2]
theorem Rel.free {listed:Array Bool}{m i:Nat}(h:Rel ops listed m):Region.free .any ops listed i=freeN ops m i:=by
  unfold Region.free freeN;cases ho:ops[i]? with
  | none=>rfl
  | some oi =>
    simp only[];rw[Bool.eq_iff_iff,List.all_eq_true,List.all_eq_true];refine⟨fun hq j hj=>?_,fun hq j hj=>?_⟩
    ·have:=hq j hj;rw[h.lt (List.mem_range.1 hj)] at this;exact this
    ·have:=hq j hj;rw[h.lt (List.mem_range.1 hj)];exact this
theorem Rel.ahd {listed:Array Bool}{m i:Nat}(h:Rel ops listed m):ahead ops Ls listed i=XW ops Ls m i:=by
  unfold ahead XW;congr 1;refine List.filter_congr fun j _=>?_;have hf:(fun x=>listed.getD x false)=m.testBit:=funext h.2;rw[hf];by_cases hj:j < ops.size
  ·rw[h.lt hj,decide_eq_true hj];rfl
  ·rw[h.ge hj,decide_eq_false hj];rfl
theorem Rel.step {listed:Array Bool}{m i:Nat}(h:Rel ops listed m)(hi:i < ops.size):Rel ops (listed.setIfInBounds i true) (m|||2 ^ i):=by
  refine⟨by simpa using h.1,fun j=>?_⟩;rw[Nat.testBit_or,Nat.testBit_two_pow];by_cases hij:i=j
  ·subst hij;rw[Array.getD_eq_getD_getElem?,Array.getElem?_setIfInBounds_self_of_lt (by rw[h.1];exact hi)];simp
  ·rw[<- h.2 j,Array.getD_eq_getD_getElem?,Array.getElem?_setIfInBounds_ne hij,<-Array.getD_eq_getD_getElem?];simp[hij]
theorem Qm:∀ (π:MT) (p m:Nat) (listed:Array Bool),Rel ops listed m->RG ops Ls π p m=true->Jh ops Ls π p listed=true
  | .nil,p,m,listed,h,hq=>by
    simp only[Jh,h.ready,List.isEmpty_iff,List.filter_eq_nil_iff];simp only[RG,List.all_eq_true,Bool.not_eq_true'] at hq;intro a ha;rw[hq a ha];exact Bool.false_ne_true
  | .q i k π,p,m,listed,h,hq=>by
    simp only[RG,Bool.and_eq_true,decide_eq_true_eq,Bool.not_eq_true'] at hq;obtain⟨⟨⟨⟨⟨h1,h2⟩,h3⟩,h4⟩,h5⟩,h6⟩:=hq;simp only[Jh,Bool.and_eq_true,decide_eq_true_eq,Bool.not_eq_true'];refine⟨⟨⟨⟨?_,by rw[h.free];exact h3⟩,h4⟩,by rw[h.ahd];exact h5⟩,Qm π p _ _ (h.step h1) h6⟩;rw[h.ready,List.contains_iff_mem,List.mem_filter];exact⟨List.mem_range.2 h1,h2⟩
  | .op i π,p,m,listed,h,hq=>by
    simp only[RG,Bool.and_eq_true] at hq;simp only[Jh,Bool.and_eq_true];have hi:i < ops.size:=by
      have:i ∈ (List.range ops.size).filter fun j=>TM ops m j:=by rw[beq_iff_eq.1 hq.1];exact List.mem_singleton.2 rfl
      exact List.mem_range.1 (List.mem_filter.1 this).1
    exact⟨by rw[h.ready];exact hq.1,Qm π _ _ _ (h.step hi) hq.2⟩
  | .br i j ri rj,p,m,listed,h,hq=>by
    simp only[RG,Bool.and_eq_true] at hq;obtain⟨⟨⟨h1,h2⟩,h3⟩,h4⟩:=hq;simp only[Jh,Bool.and_eq_true];have hi:i < ops.size:=by
      have:i ∈ (List.range ops.size).filter fun j=>TM ops m j:=by rw[beq_iff_eq.1 h1];simp
      exact List.mem_range.1 (List.mem_filter.1 this).1
    have hj:j < ops.size:=by
      have:j ∈ (List.range ops.size).filter fun j=>TM ops m j:=by rw[beq_iff_eq.1 h1];simp
      exact List.mem_range.1 (List.mem_filter.1 this).1
    exact⟨⟨⟨by rw[h.ready];exact h1,h2⟩,Qm ri _ _ _ (h.step hi) h3⟩,Qm rj _ _ _ (h.step hj) h4⟩
end
theorem W_mN {P:Program}{n:Nat}{Q:Exit->Act->World->Prop}{L:St}{w w0:World}{F O:Nat->Prop}{hs:List HP}{id:Nat}{l:List Oper}{C:List (World->Prop)}(hm:P.follows .mixedOrders=true)(π:MT)(Ls:List Nat)(k:Cx F O w0 (w.drewN 1) hs)(ch:Chain F O w0 hs C)
    (hB:(Region.noSelect l.toArray,RG l.toArray Ls π 0 0,π.depth == l.length)=(true,true,true)) (h:∀ listed,MX P n l.toArray Ls C (Q .normal) π 0 listed (Kn L) (w.drewN 1)) :
    W P n (.region id l.toArray true) Q L w:=by
  simp only[Prod.mk.injEq] at hB;refine yY hm π Ls k ch ?_ h;rw[hB.1,hB.2.2,Qm π 0 0 (Array.replicate l.length false) ⟨by simp,fun j=>?_⟩ hB.2.1];rw[Array.getD_eq_getD_getElem?,Nat.zero_testBit];by_cases hj:j < l.length
  ·simp[hj]
  ·simp[hj]
end Go.Sx
namespace Go.Sx
open Go.RowKit Go.MapKept
set_option linter.unusedSimpArgs false
set_option linter.unusedVariables false
section
variable {P:Program}{n:Nat}{ops:Array Oper}{L:St}{w w0:World}{F O:Nat->Prop}{hs:List HP}{K:St->World->Prop}
end
end Go.Sx
namespace Go.Sx
open Go.RowKit
set_option linter.unusedSimpArgs false
set_option linter.unusedVariables false
variable {α β γ δ:Type}
section
variable {F O F1 O1:Nat->Prop}{w0 w w':World}{hs:List HP}
end
def hV (h:Hd):Value:=.slice h.1 h.2.1 h.2.2
section
variable {F O:Nat->Prop}{w0 w:World}{hs rest:List HP}{E:Enc α}{b:Nat}{ks:List (List UInt8)}{hd:List Hd}{yE:List (List α)}
end
section
variable {P:Program}{n:Nat}{ops:Array Oper}{L:St}{w w0:World}{F O:Nat->Prop}{hs rest:List HP}{K:St->World->Prop}{E:Enc α}
end
end Go.Sx
namespace Go.Sx
open Go.RowKit Go.MapKept
set_option linter.unusedSimpArgs false
set_option linter.unusedVariables false
variable {α:Type}
section
variable {P:Program}{n:Nat}{ops:Array Oper}{L:St}{w w0:World}{F O:Nat->Prop}{hs rest:List HP}{K:St->World->Prop}
variable {E:Enc α}{b r:Nat}{ks left:List (List UInt8)}{hd:List Hd}{yE:List (List α)}
end
section
variable {P:Program}{n:Nat}{Q:Exit->Act->World->Prop}{L L':St}{w:World}
end
end Go.Sx
namespace Go.Sx
open Go.RowKit
set_option linter.unusedSimpArgs false
set_option linter.unusedVariables false
variable {α β γ δ ε ζ:Type}
structure Rl (γ δ:Type) where
  r:World->(Nat->Prop)->γ->δ->Prop
  loc:∀ w w' R y x,r w R y x->(∀ b,R b->w'.heap[b]?=w.heap[b]?)->r w' R y x
  mono:∀ w R R' y x,(∀ b,R b->R' b)->r w R y x->r w R' y x
section
variable {F O:Nat->Prop}{w0 w w':World}{hs rest:List HP}
variable {E:Enc γ}{q:Rl γ δ}{A:Option Addr}{n c:Nat}{ys:List γ}{xs:List δ}
end
section
variable {F O:Nat->Prop}{w0 w:World}{hs:List HP}
end
section
variable {F O F1 O1:Nat->Prop}{w0 w w':World}{hs rest:List HP}{E:Enc γ}{q:Rl γ δ}{A:Option Addr}{ys:List γ}{xs:List δ}
end
section
variable {P:Program}{n:Nat}{ops:Array Oper}{L:St}{w w0:World}{F O:Nat->Prop}{hs rest:List HP}{K:St->World->Prop}{E:Enc γ}{q:Rl γ δ}
end
end Go.Sx
namespace Go.Sx
open Go.RowKit
set_option linter.unusedSimpArgs false
set_option linter.unusedVariables false
variable {γ δ:Type}
section
variable {H:Type}{enc:TypeId×Value->H}{P:Program}{w:World}{held:Bool}
end
end Go.Sx
namespace Go.Sx
open Go.RowKit
set_option linter.unusedSimpArgs false
set_option linter.unusedVariables false
variable {α β γ δ:Type}
section
variable {F O F1 O1:Nat->Prop}{w0 w w':World}{hs rest:List HP}{E:Enc α}{A:Option Addr}{n c:Nat}{x:List α}
end
section
variable {σ ρ:Type}{P:Program}{n:Nat}{Q:Exit->Act->World->Prop}{c:Code}{L L':St}{w0:World}
end
end Go.Sx
namespace Go.Sx
open Go.RowKit
set_option linter.unusedSimpArgs false
set_option linter.unusedVariables false
section
variable {α β σ ρ:Type}{P:Program}{n:Nat}{Q:Exit->Act->World->Prop}{ops:Array Oper}{L L':St}{w w0:World}{os:List SV}{cs:List Cond}{F O:Nat->Prop}{hs:List HP}{rest:List Oper}
theorem Wa {id:Nat}{l:List Oper}{y:Code}(b:Bl L L')(q:Ask os cs w)(h:W P n y Q L' w)(hs:(evs P n l.toArray [] l (Kn L) os).map (fun r=>(L'.map fun e=>(look r.1 e.1).map fun e=>(e.g,e.x.val),r.2.1,r.2.2))=some (L'.map fun p=>some (none,p.2.val),cs,[]):=by kernel_rfl):W P n (.region id l.toArray false) (Exit.then (y.wp P Q) Q) L w:=jR [] b q hs (au h)
theorem Wq {id:Nat}{l:List Oper}{y:Code}(b:Bl L L')(h:W P n y Q L' w)(hs:(evs P n l.toArray [] l (Kn L) []).map (fun r=>(L'.map fun e=>(look r.1 e.1).map fun e=>(e.g,e.x.val),r.2.1,r.2.2))=some (L'.map fun p=>some (none,p.2.val),[],[]):=by kernel_rfl):W P n (.region id l.toArray false) (Exit.then (y.wp P Q) Q) L w:=Wa b qe h hs
theorem Wl {l:List Oper}(k:Nat)(b:Bl L L')(q:Ask os cs w)(h:WL P n ops Q (l.drop k) L' w)(hs:(evs P n ops [] (l.take k) (Kn L) os).map (fun r=>(L'.map fun e=>(look r.1 e.1).map fun e=>(e.g,e.x.val),r.2.1,r.2.2))=some (L'.map fun p=>some (none,p.2.val),cs,[]):=by kernel_rfl):WL P n ops Q l L w:=IW k [] b q hs h
theorem We {l:List Oper}(k:Nat)(b:Bl L L')(h:WL P n ops Q (l.drop k) L' w)(hs:(evs P n ops [] (l.take k) (Kn L) []).map (fun r=>(L'.map fun e=>(look r.1 e.1).map fun e=>(e.g,e.x.val),r.2.1,r.2.2))=some (L'.map fun p=>some (none,p.2.val),[],[]):=by kernel_rfl):WL P n ops Q l L w:=IW k [] b qe hs h
theorem Wn {ops:Array Oper}{y:Code}(h:W P n y Q L w):WL P n ops (Exit.then (y.wp P Q) Q) [] L w:=cO (au h)
theorem dX {f:FuncId}{fn:Func}{c:Code}{R:Ending->World->Prop}(xs:List SV)(hf:P.funcs[f]?=some fn)(hb:fn.body=some c)(h:W P fn.ntmps c (bodyPost P fn R) (numbered 0 xs) w)(hn:decide (xs.length<=fn.ntmps)=true:=by kernel_rfl):Calls P f (vals xs) w R:=calls xs hf hb (of_decide_eq_true hn) h
theorem aH {fn:Func}{R:Ending->World->Prop}(xs:List SV)(q:Ask os cs w)(h:R (.returned (Sr xs).val) w)(hr:O5 P fn.results.toList L os=some (xs,cs,[]):=by kernel_rfl):At n (bodyPost P fn R .ret) L w:=At_rt xs q hr h
theorem fD {Q:Exit->Act->World->Prop}{K:St->World->Prop}(h:K L' w)(hk:L'.map (fun p=>(find L p.1).map SV.val)=L'.map (fun p=>some p.2.val):=by kernel_rfl):At n (Exit.then (fun a w=>∃ L,Fu n a (Kn L)/\K L w) Q .normal) L w:=At_c h hk
theorem si {a b:α}(h:some a=some b):a=b:=Option.some.inj h
theorem W_cz {k:Nat}{x y:Code}(c:Bool)(h1:c=true->W P n x Q L w)(h2:c=false->W P n y Q L w)(hf:find L k=some (.b c):=by kernel_rfl):W P n (.cond (.tmp k) x y) Q L w:=iI c hf h1 h2
theorem d_ {p:Nat}{Ls:List Nat}{C:List (World->Prop)}{Q:Act->World->Prop}{π:MT}{listed:Array Bool}(k m:Nat)(b:Bl L L')(q:∀ w,cls C m w->Ask os cs w)
    (h:∀ listed',MX P n ops Ls C Q (π.drop k) p listed' (Kn L') w) (hs:((XT ops m k π).bind fun l=>evs P n ops [] l (Kn L) os).map (fun r=>(L'.map fun e=>(look r.1 e.1).map fun e=>(e.g,e.x.val),r.2.1,r.2.2))=some (L'.map fun p=>some (none,p.2.val),cs,[]):=by kernel_rfl):MX P n ops Ls C Q π p listed (Kn L) w:=Vx k m [] b q hs h
theorem aI {K:St->World->Prop}{dst:Option Nat}{f:FuncId}{xs:Array Operand}{ats:Array TypeId}{ty:TypeId}{pos:String}{oJ:Array Edge}{g:Option (Nat×Bool)}(d:Nat){svs:List SV}{R:Ending->World->Prop}(hgo:dW P f)(hc:Calls P f (vals svs) w R)
    (hk:∀ e w',R e w'->∃ x,e=.returned x.val/\K ((d,x)::L) w')
    (hs:(IP ops [] L ⟨dst,.call ⟨.value (.func f),xs,ats⟩,ty,pos,oJ,g⟩,dst,(decide (d < n)),(L.any fun p=>p.1 == d),(toSS xs.toList (lk L)).map SV.vals)=(true,some d,true,false,some (SV.vals svs)):=by kernel_rfl) :
    H8 P n ops L w ⟨dst,.call ⟨.value (.func f),xs,ats⟩,ty,pos,oJ,g⟩ K:=sV [] d svs hgo hs hc hk
theorem fM {K:St->World->Prop}{ty t:TypeId}{p x:Operand}{pos:String}{oJ:Array Edge}{g:Option (Nat×Bool)}(i:Nat){pa:Option Addr}(sv:SV)(svs:List SV){bt:TypeId}{b:Nat}{ys zs:List SV}{off:Nat}
    (hp:Pt (some ⟨b,0,none⟩) off pa) (k:Cx F O w0 w hs) (hi:hs[i]?=some (Bx bt b ys)) (md:Mid svs ys zs)
    (hk:∀ w',Cx F O w0 w' (hs.set i (Bx bt b zs))->K L w')
    (hside:(IP ops [] L (⟨none,.store t p x,ty,pos,oJ,g⟩:Oper),(none:Option Nat),(toSS [p,x] (lk L)).map SV.vals,BL P t,cellsS sv,svs.all SV.one1)=(true,none,some [.pointer pa,sv.val],some (SV.width svs),some svs,true):=by kernel_rfl)
    (hz:(XB off (SV.width svs) svs ys).map SV.cl=some (SV.cl zs):=by kernel_rfl) :
    H8 P n ops L w ⟨none,.store t p x,ty,pos,oJ,g⟩ K:=Op_b [] i sv svs hp k hi md hside hz hk
theorem jO {K:St->World->Prop}{ty t:TypeId}{p x:Operand}{pos:String}{oJ:Array Edge}{g:Option (Nat×Bool)}{E:Enc α}(i:Nat){pa:Option Addr}(sv:SV)(svs:List SV){bt:TypeId}{b:Nat}{m o o':Nat}{x0 x1:Vec α m}{ys zs:List SV}{j:Int}{e0 y:α}
    (hv:lZ x0 j y=x1) (hx:aV x0.l j=some e0) (hp:Pt (some ⟨b,0,none⟩) (o'+(j.toNat*E.sz+0)) pa) (k:Cx F O w0 w hs) (hi:hs[i]?=some (Bx bt b ys)) (vu:Vup ys E x0 x1 o zs) (hy:E.f y=pat (E.f e0) 0 (SV.cl svs))
    (hk:∀ w',Cx F O w0 w' (hs.set i (Bx bt b zs))->K L w')
    (hside:(IP ops [] L (⟨none,.store t p x,ty,pos,oJ,g⟩:Oper),(none:Option Nat),(toSS [p,x] (lk L)).map SV.vals,BL P t,cellsS sv,svs.all SV.one1,o')=(true,none,some [.pointer pa,sv.val],some (SV.width svs),some svs,true,o):=by kernel_rfl)
    (hl:Nat.ble (0+SV.width svs) E.sz=true:=by kernel_rfl) :
    H8 P n ops L w ⟨none,.store t p x,ty,pos,oJ,g⟩ K:=Op_vs (kk:=0) [] i sv svs hv hx hp k hi vu hy hside hl hk
end
end Go.Sx
namespace Go.Sx
open Go.RowKit
set_option linter.unusedSimpArgs false
set_option linter.unusedVariables false
section
variable {α β γ σ ρ:Type}{P:Program}{n:Nat}{Q:Exit->Act->World->Prop}{ops:Array Oper}{L L':St}{w w0:World}{os:List SV}{cs:List Cond}{F O:Nat->Prop}{hs:List HP}{rest:List Oper}
theorem aS {G:Prop}{a:Option α}{f:α->Option β}{r:β}(h:a.bind f=some r)(k:∀ x,a=some x->f x=some r->G):G:=by
  obtain⟨x,h1,h2⟩:=ob h;exact k x h1 h2
theorem bT {k:Nat}{x y:Code}{p:Prop}[hd:Decidable p]{a b:Option γ}{r:γ}(hm:(if p then a else b)=some r)(h1:p->a=some r->W P n x Q L w)(h2:¬ p->b=some r->W P n y Q L w)(hf:find L k=some (.b (decide p)):=by kernel_rfl):W P n (.cond (.tmp k) x y) Q L w :=
  W_condp p hf (fun h=>h1 h (by rwa [if_pos h] at hm)) (fun h=>h2 h (by rwa [if_neg h] at hm))
theorem je {k:Nat}{x y:Code}{c:Bool}{a b:Option γ}{r:γ}(hm:(if c=true then a else b)=some r)(h1:c=true->a=some r->W P n x Q L w)(h2:c=false->b=some r->W P n y Q L w)(hf:find L k=some (.b c):=by kernel_rfl):W P n (.cond (.tmp k) x y) Q L w :=
  iI c hf (fun h=>h1 h (by rwa [if_pos h] at hm)) (fun h=>h2 h (by rwa [if_neg (by rw[h];decide)] at hm))
theorem iJ {c:Code}{step:σ->Option (σ⊕ρ)}{s0:σ}{r:ρ}(hm:aZ step s0=some r)(rel:σ->St->World->Prop)(h0:rel s0 L' w0)
    (hb:∀ s L w y,rel s L w->step s=some y->(∀ r',y=.inr r'->r'=r)->W P n c (Exit.then (fun a w=>∃ s' L',y=.inl s'/\Fu n a (Kn L')/\rel s' L' w) Q) L w)
    (hk:L'.map (fun p=>(find L p.1).map SV.val)=L'.map (fun p=>some p.2.val):=by kernel_rfl):W P n (.loop c) Q L w0:=W_lp step rel s0 r hm h0 hk hb
theorem eG {Q:Exit->Act->World->Prop}{rel:σ->St->World->Prop}{y:σ⊕ρ}{v:σ}(hm:some (.inl v)=some y)(h:rel v L' w)(hk:L'.map (fun p=>(find L p.1).map SV.val)=L'.map (fun p=>some p.2.val):=by kernel_rfl):At n (Exit.then (fun a w=>∃ s' L',y=.inl s'/\Fu n a (Kn L')/\rel s' L' w) Q .normal) L w :=
  At_rd v (Option.some.inj hm).symm h hk
theorem fJ:Cx N0 N0 w w []:=Cx.refl _
theorem f_ {t:TypeId}{g:Nat}{ys:List SV}(k:Cx F O w0 w hs)(i:Nat)(hi:hs[i]?=some (Bx t g ys))(off:Nat)(v:SV)(r:Ask os cs w)(h:(cellS off ys).map SV.val=some v.val:=by kernel_rfl):Ask (v::os) (dC (some ⟨g,off,none⟩) v::cs) w:=qB k i hi off v h r
theorem lU {t:TypeId}{g:Nat}{ys:List SV}(k:Cx F O w0 w hs)(i:Nat)(hi:hs[i]?=some (Bx t g ys))(off m:Nat)(zs:List SV)(r:Ask os cs w)(h:(NU off m ys).map SV.cl=some (SV.cl zs):=by kernel_rfl)(hm:0 < m:=by decide):Ask (.agg zs::os) (dR (some ⟨g,off,none⟩) zs::cs) w:=qT k i hi off m zs h hm r
theorem kE (g off:Nat)(r:Ask os cs w):Ask os (dS (some ⟨g,off,none⟩)::dS (some ⟨g,off,none⟩)::cs) w:=qs g off (qs g off r)
theorem Cx.oK {t:TypeId}{g m:Nat}{ys:List SV}(k:Cx F O w0 w hs)(i:Nat)(hi:hs[i]?=some (Bx t g ys))(E:Enc α)(x:Vec α m)(off:Nat)(hd:((F_ off ys).bind List.head?).map (fun v=>(v.KI,v.val))=some (true,.agg ⟨E.all x.l⟩):=by kernel_rfl):Rd w (some ⟨g,off,Option.none⟩) (E.all x.l):=k.vrd i hi E x off hd
theorem iD {K:St->World->Prop}{dst:Option Nat}{ty t:TypeId}{x:Operand}{pos:String}{oJ:Array Edge}{g:Option (Nat×Bool)}(d:Nat)(cs:List SV)(k:Cx F O w0 w hs)(hk:∀ b w',Cx F O w0 w' (hs++[Bx t b cs])->K ((d,.v (.pointer (some ⟨b,0,none⟩)))::L) w')
    (hside:(IP ops [] L ⟨dst,.box t x,ty,pos,oJ,g⟩,dst,(decide (d < n)),(L.any fun p=>p.1 == d),(toSS [x] (lk L)).map SV.vals,(cellsS (.agg cs)).map SV.cl)=(true,some d,true,false,some [SV.val (.agg cs)],some (SV.cl cs)):=by kernel_rfl) :
    H8 P n ops L w ⟨dst,.box t x,ty,pos,oJ,g⟩ K:=Op_box [] d (.agg cs) cs hside k hk
theorem lq {K:St->World->Prop}{ty t:TypeId}{p x:Operand}{pos:String}{oJ:Array Edge}{g:Option (Nat×Bool)}(i:Nat){pa:Option Addr}(sv:SV){bt:TypeId}{b:Nat}{ys zs:List SV}{off:Nat}
    (hp:Pt (some ⟨b,0,none⟩) off pa) (k:Cx F O w0 w hs) (hi:hs[i]?=some (Bx bt b ys)) (md:Mid [sv] ys zs)
    (hk:∀ w',Cx F O w0 w' (hs.set i (Bx bt b zs))->K L w')
    (hside:(IP ops [] L (⟨none,.store t p x,ty,pos,oJ,g⟩:Oper),(none:Option Nat),(toSS [p,x] (lk L)).map SV.vals,BL P t,cellsS sv,[sv].all SV.one1)=(true,none,some [.pointer pa,sv.val],some (SV.width [sv]),some [sv],true):=by kernel_rfl)
    (hz:(XB off (SV.width [sv]) [sv] ys).map SV.cl=some (SV.cl zs):=by kernel_rfl) :
    H8 P n ops L w ⟨none,.store t p x,ty,pos,oJ,g⟩ K:=Op_b [] i sv [sv] hp k hi md hside hz hk
end
end Go.Sx
namespace Go.Sx
open Go.RowKit
set_option linter.unusedSimpArgs false
set_option linter.unusedVariables false
section
variable {P:Program}{n:Nat}{ops:Array Oper}{L:St}{w w0:World}{F O:Nat->Prop}{hs:List HP}{K:St->World->Prop}
theorem TN {dst:Option Nat}{t ty:TypeId}{len:Nat}{parts:Array (Nat×Operand)}{pos:String}{oJ:Array Edge}{g:Option (Nat×Bool)}{e:TypeId}{zs:List Value}{bytes:Nat}(tf:TF P t e zs bytes)
    (ss:List Nat) (d:Nat) (ps:List (Nat×SV)) (ys:List SV)
    (hside:(IP ops ss L ⟨dst,.buildSlice t len parts,ty,pos,oJ,g⟩,dst,(decide (d < n)),(L.any fun p=>p.1 == d),(toPS parts.toList (lk L)).map (·.map fun p=>(p.1,p.2.val)))=(true,some d,true,false,some (ps.map fun p=>(p.1,p.2.val))))
    (hf:((MC (fun i=>some (i*zs.length,zs.length)) ((List.replicate len zs).flatten.map Le) ps).map SV.cl,decide (len*zs.length<=16777216),decide (0 < len))=(some (SV.cl ys),true,true)) (hz:len*zs.length≠0)
    (k:Cx F O w0 w hs) (hk:∀ b w',Cx F O w0 w' (hs++[Bx e b ys])->K ((d,.v (.slice (some ⟨b,0,none⟩) len len))::L) w') :
    H8 P n ops L w ⟨dst,.buildSlice t len parts,ty,pos,oJ,g⟩ K:=by
  simp only[Prod.mk.injEq,decide_eq_true_eq,Option.map_eq_some_iff] at hside hf;obtain⟨h1,rfl,h3,h4,⟨ps',h5,h6⟩⟩:=hside;obtain⟨⟨svs,hf,hx⟩,hlen,hl0⟩:=hf;refine He (xs:=[]) (svs:=[]) ss (d:=d) (by simp[Side,h1,h3,h4,toSS]) fun a ha _=>?_;have hps:=toPS_spec (fun o x hx=>PG ha hx) h5;rw[h6] at hps;obtain⟨i,z,hi,hz',hzc,hsz,hby⟩:=tf.parts;have Vr:=Ig (place:=fun i=>some (i*zs.length,zs.length)) ps _ _ hf;rw[PE] at Vr;have Jg:(sizeOf e).run P w=.ok zs.length w:=by rw[<- hsz];exact wU hi w
  have hrun:(Instr.buildSlice t len (parts.map fun(i,x)=>(i,a.eval x))).run P w=.ok (.slice (some ⟨w.heap.size,0,none⟩) len len) (w.alloc (.cells ⟨SV.cl ys⟩ e)):=by
    have e1:(parts.map fun(i,x)=>(i,a.eval x)).toList=ps.map fun p=>(p.1,p.2.val):=by rw[<- hps];simp
    have hfl:Instr.fill (fun i=>some (i*zs.length,zs.length)) ⟨(List.replicate len zs).flatten⟩ (parts.map fun(i,x)=>(i,a.eval x)).toList=some ⟨SV.cl ys⟩:=by rw[e1,Vr,hx]
    simp only[Instr.buildSlice,Sem.run_bind,run_underlying tf.ht,Result.andThen_ok,Jg];rw[if_neg (by omega)];split
    ·rename_i h0;exact absurd h0 hz
    ·have hzv:(zeroValue e).run P w=.ok z w:=by simp[zeroValue,typeInfo,hi,hz']
     simp only[Sem.run_bind,Sem.run_pure,Result.andThen_ok,hzv,hzc];have hr:=JZ zs len;simp only[show(⟨zs⟩:Array Value).size=zs.length from rfl,hr,hfl];rfl
  unfold Oper.wp execOp;simp only[Sem.run_bind,hrun,Result.andThen_ok,Sem.run_pure];exact⟨.v (.slice (some ⟨w.heap.size,0,none⟩) len len),rfl,hk w.heap.size _ (k.new _ (Bx e w.heap.size ys) ⟨Rw.new w _ _,rfl⟩)⟩
end
end Go.Sx
namespace Go.Sx
open Go.RowKit
set_option linter.unusedSimpArgs false
set_option linter.unusedVariables false
def Qn (P : Program) (F : Nat -> Prop) (w : World) : Prop := Lib.TabIs P w "internal/strconv.uint64pow10" .u64 Lib.pow10Tab /\ ∃ g, P.globalNamed "internal/strconv.uint64pow10" = some g /\ ¬ F g
theorem Qn.cx {P : Program} {F O : Nat -> Prop} {w0 w : World} {hs : List HP} (h : Qn P F w0) (k : Cx F O w0 w hs) : Lib.TabIs P w "internal/strconv.uint64pow10" .u64 Lib.pow10Tab := by
  obtain⟨h,g,hg,hF⟩:=h;unfold Lib.TabIs World.var? at h ⊢;rw[hg] at h ⊢;simp only[Option.bind_some] at h ⊢;have hlt:g < w0.heap.size:=by
    rcases Nat.lt_or_ge g w0.heap.size with h' | h'
    ·exact h'
    ·rw[Array.getElem?_eq_none h'] at h;cases h
  rw[k.block g hlt hF];exact h
theorem Qn.at {P:Program}{F O:Nat->Prop}{w0 w:World}{hs:List HP}(h:Qn P F w0)(k:Cx F O w0 w hs):Qn P N0 w :=
  ⟨h.cx k,h.2.elim fun g hg=>⟨g,hg.1,fun q=>q⟩⟩
open Go.Sort in
theorem Cx.more (w:World)(m:Nat)(os:Array Obj):Cx N0 N0 w (grow (w.drewN m) os) [] :=
  ⟨rfl,rfl,rfl,by simp[grow],fun b hb _=>by
    show((w.drewN m).heap++os)[b]?=w.heap[b]?;rw[show(w.drewN m).heap=w.heap from rfl,Array.getElem?_append_left hb],fun _ h=>h.elim,fun _ h=>h.elim,N0,N0,⟨fun _ h=>h,fun _ h=>h⟩,fun _ h=>h.elim,fun _ h=>h.elim⟩
open Go.Sort Go.Proofs Go.Shelf in
theorem c_itoa {P : Program} {ρ : Ren} (Ly : LaysM.n171 P ρ) {F O : Nat -> Prop} {w0 w : World} {hs : List HP} (k : Cx F O w0 w hs) {n : Int} (hn : -9223372036854775808 <= n /\ n <= 9223372036854775807) (hT : Lib.TabIs P w "internal/strconv.uint64pow10" .u64 Lib.pow10Tab) :
    Calls P (ρ.f 171) (vals [I n]) w (fun e w'=>e=.returned (SV.val (.s (Lib.itoa n)))/\Cx F O w0 w' hs):=by
  refine(Any.strconv_Itoa Ly n hn.1 hn.2 w hT).mono ?_;rintro e w' ⟨rfl,m,os,rfl⟩;refine⟨rfl,?_⟩;have:=k.call (Cx.more w m os);rw[List.append_nil] at this;exact this
end Go.Sx
namespace Go.Sx
open Go.RowKit
set_option linter.unusedSimpArgs false
set_option linter.unusedVariables false
def eF:Enc UInt64:=⟨1,fun a=>[.float .f64 a.toNat],fun _=>rfl,fun x v h=>by rw[List.mem_singleton.1 h];rfl⟩
instance:Pos eF:=⟨by decide⟩
section
variable {P:Program}{n:Nat}{ops:Array Oper}{L:St}{w w0:World}{F O:Nat->Prop}{hps:List HP}{K:St->World->Prop}
end
section
variable {P:Program}{n:Nat}{ops:Array Oper}{L:St}{w:World}{K:St->World->Prop}
end
end Go.Sx
namespace Go.Sx
open Go.RowKit
set_option linter.unusedSimpArgs false
set_option linter.unusedVariables false
section
variable {H:Type}{enc:TypeId×Value->H}{P:Program}{w:World}{held:Bool}
end
end Go.Sx
namespace Go.Sx
open Go.RowKit Go.MapKept
set_option linter.unusedSimpArgs false
set_option linter.unusedVariables false
variable {α β γ δ ε ζ σ:Type}
abbrev Ky:=List UInt8
abbrev Mp (δ:Type):=List (List UInt8×δ)
end Go.Sx
namespace Go.Sx
open Go.RowKit Go.MapKept
set_option linter.unusedSimpArgs false
set_option linter.unusedVariables false
variable {α β γ δ ε ζ σ ι:Type}
section
variable {F O:Nat->Prop}{w0 w w':World}{hs rest:List HP}
end
structure Vl (γ δ:Type) where
  V:γ->Value
  q:Rl γ δ
  inj:∀ a b,V a=V b->a=b
def kx (e:Ky×γ×δ):Ky×δ:=(e.1,e.2.2)
section
variable {F O:Nat->Prop}{w0 w w':World}{hs rest:List HP}
end
section
variable {P:Program}{n:Nat}{ops:Array Oper}{L:St}{w w0:World}{F O:Nat->Prop}{hs rest:List HP}{K:St->World->Prop}{v:Vl γ δ}{b:Nat}{m:Mp δ}
end
end Go.Sx
namespace Go.Sx
open Go.RowKit Go.MapKept
set_option linter.unusedSimpArgs false
set_option linter.unusedVariables false
variable {α β γ δ ε ζ σ ι:Type}
section
variable {P:Program}{n:Nat}{ops:Array Oper}{L:St}{w w0:World}{F O:Nat->Prop}{hs rest:List HP}{K:St->World->Prop}
end
section
variable {P:Program}{n:Nat}{ops:Array Oper}{L:St}{w w0:World}{F O:Nat->Prop}{hs rest:List HP}{K:St->World->Prop}{v:Vl γ δ}{b r:Nat}{m left:Mp δ}{cur:Option (Ky×δ)}{sh:Bool}
end
end Go.Sx
namespace Go.Sx
open Go.RowKit Go.MapKept
set_option linter.unusedSimpArgs false
set_option linter.unusedVariables false
variable {α β γ δ ε ζ σ ι:Type}
section
variable {P:Program}{n:Nat}{ops:Array Oper}{L:St}{w w0:World}{F O:Nat->Prop}{hs rest:List HP}{K:St->World->Prop}{b:Nat}
end
section
variable {F O F1 O1:Nat->Prop}{w0 w w':World}{hs rest:List HP}{E:Enc α}
variable {A:Option Addr}{n c:Nat}{ys:List Hd}{xs:List (List α)}
end
end Go.Sx
namespace Go.Sx
open Go.RowKit
set_option linter.unusedVariables false
variable {δ σ:Type}
end Go.Sx
namespace Go.Sx
open Go.RowKit Go.Proofs
set_option linter.unusedVariables false
variable {α γ δ:Type}
end Go.Sx
namespace Go.Sx
open Go.RowKit
set_option linter.unusedVariables false
variable {α γ δ:Type}{F O:Nat->Prop}{w0 w:World}{hs:List HP}
end Go.Sx
namespace Go.Sx
open Go.RowKit Go.MapKept
set_option linter.unusedVariables false
set_option linter.unusedSimpArgs false
variable {α γ δ:Type}{F O:Nat->Prop}{w0 w:World}{hs rest:List HP}
end Go.Sx
namespace Go.Sx
open Go.RowKit Go.MapKept
set_option linter.unusedVariables false
set_option linter.unusedSimpArgs false
variable {P:Program}{n:Nat}{ops:Array Oper}{L:St}{w:World}{K:St->World->Prop}
end Go.Sx
namespace Go.Sx
open Go.RowKit
set_option linter.unusedSimpArgs false
set_option linter.unusedVariables false
variable {α β γ δ ε ζ:Type}
section
variable {F O:Nat->Prop}{w0 w w':World}{hs rest:List HP}{E:Enc γ}{q:Rl γ δ}{A:Option Addr}{n c:Nat}{ys:List γ}{xs:List δ}
end
end Go.Sx
namespace Go.Sx
open Go.RowKit
set_option linter.unusedSimpArgs false
set_option linter.unusedVariables false
section
variable {P:Program}{n:Nat}{ops:Array Oper}{L:St}{w w0:World}{F O:Nat->Prop}{hs:List HP}{K:St->World->Prop}
end
end Go.Sx
namespace Go.Sx
open Go.RowKit
set_option linter.unusedSimpArgs false
set_option linter.unusedVariables false
variable {α:Type}
def Ae (N:Nat)(xs:List α):Option (Vec α N):=if h:N<=xs.length then some ⟨xs.take N,by rw[List.length_take];omega⟩ else none
theorem zu {N:Nat}{xs:List α}{v:Vec α N}(h:Ae N xs=some v):N<=xs.length/\v.l=xs.take N:=by
  unfold Ae at h;split at h
  ·simp only[Option.some.injEq] at h;subst h;exact⟨by assumption,rfl⟩
  ·cases h
theorem Rd.Ae {w:World}{A:Option Addr}{E:Enc α}{N:Nat}{xs:List α}{v:Vec α N}(h:Rd w A (E.all xs))(hv:Ae N xs=some v)(hN:0 < N*E.sz):∃ a,A=some a/\Rd w (some a) (SV.cl [SV.ar E v]):=by
  obtain⟨h1,h2⟩:=zu hv;have hp:E.all v.l=(E.all xs).take (N*E.sz):=by rw[h2,Enc.Dp]
  have hl:(E.all v.l).length=N*E.sz:=by rw[Enc.gp,v.h]
  have hne:E.all xs≠[]:=fun e=>by
    rw[hp,e,List.take_nil,List.length_nil] at hl;omega
  obtain⟨a,ha⟩:=h.1 hne;refine⟨a,ha,fun _=>⟨a,rfl⟩,fun b j u hb hu=>?_⟩;cases hb;rw[Vw] at hu;have hu:((E.all xs).take (N*E.sz))[j]?=some u:=by rw[<- hp];exact hu
  refine h.2 a j u ha ?_;rw[List.getElem?_take] at hu;split at hu
  ·exact hu
  ·cases hu
section
variable {P:Program}{n:Nat}{ops:Array Oper}{L:St}{w:World}{K:St->World->Prop}
theorem J4 {dst:Option Nat}{x:Operand}{t ty:TypeId}{pos:String}{oJ:Array Edge}{g:Option (Nat×Bool)}(ss:List Nat)(d:Nat){A:Option Addr}{m c N:Nat}{e:TypeId}
    (hside:(IP ops ss L ⟨dst,.sliceToArrayPointer t x,ty,pos,oJ,g⟩,dst,(decide (d < n)),(L.any fun p=>p.1 == d),(toSS [x] (lk L)).map SV.vals,P.underlying t)=(true,some d,true,false,some [.slice A m c],some (.array N e)))
    (hN:N<=m) (hk:K ((d,.v (.pointer A))::L) w) :
    H8 P n ops L w ⟨dst,.sliceToArrayPointer t x,ty,pos,oJ,g⟩ K:=by
  simp only[Prod.mk.injEq,Option.map_eq_some_iff,decide_eq_true_eq] at hside;obtain⟨s1,rfl,s3,s4,⟨svs,s5,s6⟩,s7⟩:=hside;refine He (xs:=[x]) (svs:=svs) ss (d:=d) (by simp[Side,s1,s3,s4,s5]) fun a ha he=>?_;rw[s6] at he;simp only[List.map_cons,List.map_nil,List.cons.injEq,and_true] at he;have hrun:(Instr.arrayAt t (.slice A m c)).run P w=.ok (.pointer A) w:=by
    unfold Instr.arrayAt;have h1:¬ m < N:=by omega
    simp[run_underlying s7,h1,hN]
  unfold Oper.wp execOp;simp only[he,Sem.run_bind,hrun,Result.andThen_ok,Sem.run_pure];exact⟨.v (.pointer A),rfl,hk⟩
end
theorem Rd.elA {w:World}{A p:Option Addr}{E:Enc α}{m:Nat}{xs:List (Vec α m)}{i:Int}{x:Vec α m}(h:Rd w A ((eV E m).all xs))(hg:aV xs i=some x)(hp:Pt A (i.toNat*(eV E m).sz) p)(hm:0 < (eV E m).sz):Rd w p (E.all x.l):=by
  obtain⟨a,rfl,h2⟩:=Rd.elV h hg (by rwa [Nat.add_zero]) hm
  rwa [Vw] at h2
theorem Rd.N8 {w:World}{A p:Option Addr}{E:Enc α}{m z:Nat}{xs:List (Vec α m)}{i:Int}{x:Vec α m}(hz:(eV E m).sz=z)(h:Rd w A ((eV E m).all xs))(hg:aV xs i=some x)(hp:Pt A (i.toNat*z+0) p)(hm:0 < z):Rd w p (E.all x.l):=by
  subst hz;exact h.elA hg (by rwa [Nat.add_zero] at hp) hm
theorem MJ {E:Enc α}{m:Nat}(v x:Vec α m):(eV E m).f v=pat ((eV E m).f x) 0 (SV.cl [SV.ar E v]):=by
  have h1:((eV E m).f v).length=m*E.sz:=(eV E m).len v;have h2:((eV E m).f x).length=m*E.sz:=(eV E m).len x;rw[Vw,pat,List.take_zero,List.nil_append,List.drop_of_length_le (by omega),List.append_nil]
theorem lin_eq {hd:List Hd}{i:Int}{B B2:Option Addr}{n n2 c c2:Nat}(h:aV hd i=some (B,n,c))(h2:aV hd i=some (B2,n2,c2)):n2=n/\c2=c:=by
  rw[h] at h2;simp only[Option.some.injEq,Prod.mk.injEq] at h2;exact⟨h2.2.1.symm,h2.2.2.symm⟩
theorem VD {E:Enc α}{w:World}:∀ m:Nat,Sep w (rows E (List.replicate m ((Option.none,0,0):Hd)) (List.replicate m [])) (fun _=>False) (fun _=>False)
  | 0=>⟨fun _ h=>h,fun _ h=>h⟩
  | m+1=>by
    rw[List.replicate_succ,List.replicate_succ];exact⟨fun _=>False,fun _=>False,fun _=>False,fun _=>False,⟨rfl,.inl ⟨rfl,rfl,rfl⟩⟩,VD m,by simp,by simp,by simp,by simp⟩
theorem Cx.mk2nil {F O:Nat->Prop}{w0 w:World}{hs:List HP}{A:Option Addr}{n c m:Nat}(E:Enc α)(k:Cx F O w0 w (hs++[Ow eH A n c (List.replicate m ((Option.none,0,0):Hd))])) :
    Cx F O w0 w (hs++[O2 E A n c (List.replicate m ((Option.none,0,0):Hd)) (List.replicate m [])]):=by
  have h:=k.upd (h':=O2 E A n c (List.replicate m ((Option.none,0,0):Hd)) (List.replicate m [])) hs.length (by simp) Option.none (w':=w) ⟨rfl,rfl,rfl,Nat.le_refl _,fun _ _ _=>rfl⟩ (fun S R h hd hlt=>⟨fun g hg=>(by cases hg),S,R,
    ⟨by simp,S,R,fun _=>False,fun _=>False,h,VD m,by simp,by simp,fun b hb=>⟨fun q=>q,hd b hb,fun q=>q⟩,by simp⟩,fun b hb=>⟨hlt b (.inl hb),hd b hb,.inl hb⟩,fun b hb=>⟨hlt b (.inr hb),.inl hb⟩⟩)
  simpa using h
end Go.Sx
namespace Go.Sx
open Go.RowKit
set_option linter.unusedVariables false
noncomputable def Af (aj:Int)(ah:Int)(af:Int)(ag:Int)(ax:Int):Option (List (Int×Int×Int)) :=
  some ([(aj,(0:Int),(2:Int)),(ag,(1:Int),(8:Int)),(af,(1:Int),(16:Int)),(ax,(4:Int),(1024:Int)),(ah,(8:Int),(4096:Int))]:List (Int×Int×Int))
noncomputable def tJ (ah:Int)(ag:Int)(r_:(List (Int×Int×Int))):Int->Option (Int⊕Bool)
  | aW=>if aW < ((r_.length:Nat):Int) then((aV r_ aW).bind fun x_1=>if((decide (x_1.1 < x_1.2.1))||(decide (x_1.2.2 < x_1.1)))=true then(Option.map Sum.inr (some false)) else(some (.inl (ay (aW+1))))) else(Option.map Sum.inr (some (decide ((ay (8*ag))<=ah))))
noncomputable def zJ (aj:Int)(ah:Int)(af:Int)(ag:Int)(ax:Int):Option Bool :=
  (Af aj ah af ag ax).bind fun r_=>aZ (tJ ah ag r_) (0:Int)
noncomputable def sH (aj:Int)(ah:Int)(af:Int)(ag:Int)(ax:Int)(aQ:List UInt8):Option Int :=
  (zJ aj ah af ag ax).bind fun r_=>if(!r_)=true then(some (200:Int)) else(if((decide (((aQ.length:Nat):Int) < 8))||(decide (64 < ((aQ.length:Nat):Int))))=true then(some (201:Int)) else(some (0:Int)))
noncomputable def xQ (dN:Int)(aP:Int)(aX:Int)(bu:Int)(dY:Int)(kK:List UInt8)(nU:List UInt8):Option Int :=
  (sH dN aP aX bu dY kK).bind fun r_=>if r_≠0 then(some r_) else(if((nU.length:Nat):Int)≠dY then(some (1:Int)) else(some (0:Int)))
noncomputable def Dv (k_:Int):Option (List UInt8) :=
  (aV (⟨[([100]:List UInt8),([105]:List UInt8),([105,100]:List UInt8)],rfl⟩:Vec (List UInt8) 3).l k_).bind fun aW=>some aW
noncomputable def xR (i:Int)(CU:List UInt8):Option ((List UInt8×Int)⊕(List UInt8)) :=
  some (.inl (CU,ay (i+3)))
noncomputable def BV (b:List UInt8)(i:Int)(v1:UInt32):(List UInt8×Int)->Option ((List UInt8×Int)⊕((List UInt8×Int)⊕(List UInt8)))
  | (Ru,jG)=>if jG < (ay ((if ay (((b.length:Nat):Int) - i) < 3 then ay (((b.length:Nat):Int) - i) else 3)+1)) then((need (0<=ay (18 - (ay (6*jG))))).bind fun u=>(aV ([65,66,67,68,69,70,71,72,73,74,75,76,77,78,79,80,81,82,83,84,85,86,87,88,89,90,97,98,99,100,101,102,103,104,105,106,107,108,109,110,111,112,113,114,115,116,117,118,119,120,121,122,48,49,50,51,52,53,54,55,56,57,43,47]:List UInt8) (((nR v1 (Int.toNat (ay (18 - (ay (6*jG))))))&&&63).toNat:Int)).bind fun c3=>(app Ru ([c3]:List UInt8) 1).bind fun s_3=>some (.inl (s_3,ay (jG+1)))) else(Option.map Sum.inr (xR i Ru))
noncomputable def pz (b:List UInt8)(s_:List UInt8)(i:Int)(v1:UInt32):Option ((List UInt8×Int)⊕(List UInt8)) :=
  aZ (BV b i v1) (s_,(0:Int))
noncomputable def pF (b:List UInt8)(s_:List UInt8)(i:Int)(v:UInt32):Option ((List UInt8×Int)⊕(List UInt8)) :=
  if 2 < (if ay (((b.length:Nat):Int) - i) < 3 then ay (((b.length:Nat):Int) - i) else 3) then((aV b (ay (i+2))).bind fun iL=>pz b s_ i (v|||(UInt32.ofNat iL.toNat))) else(pz b s_ i v)
noncomputable def BX (b:List UInt8):(List UInt8×Int)->Option ((List UInt8×Int)⊕(List UInt8))
  | (s_,i)=>if i < ((b.length:Nat):Int) then((aV b i).bind fun aW=>if 1 < (if ay (((b.length:Nat):Int) - i) < 3 then ay (((b.length:Nat):Int) - i) else 3) then((aV b (ay (i+1))).bind fun x_1=>pF b s_ i ((oG (UInt32.ofNat aW.toNat) ((16:UInt64).toNat))|||(oG (UInt32.ofNat x_1.toNat) ((8:UInt64).toNat)))) else(pF b s_ i (oG (UInt32.ofNat aW.toNat) ((16:UInt64).toNat)))) else(Option.map Sum.inr (some s_))
noncomputable def vN (b:List UInt8):Option (List UInt8) :=
  aZ (BX b) (([]:List UInt8),(0:Int))
noncomputable def Ag (dN:Int)(aP:Int)(aX:Int)(bu:Int)(dY:Int)(kK:List UInt8)(nU:List UInt8):Option (List UInt8×Int) :=
  (xQ dN aP aX bu dY kK nU).bind fun r_=>if r_≠0 then(some (([]:List UInt8),r_)) else((Dv dN).bind fun aO=>(need (([36,97,114,103,111,110,50]:List UInt8).length+aO.length<=9223372036854775807)).bind fun u=>(need ((([36,97,114,103,111,110,50]:List UInt8)++aO).length+([36,118,61,49,57,36,109,61]:List UInt8).length<=9223372036854775807)).bind fun u1=>(need (-9223372036854775808<=aP/\aP<=9223372036854775807)).bind fun u2=>(need (((([36,97,114,103,111,110,50]:List UInt8)++aO)++([36,118,61,49,57,36,109,61]:List UInt8)).length+(Lib.itoa aP).length<=9223372036854775807)).bind fun u3=>(need ((((([36,97,114,103,111,110,50]:List UInt8)++aO)++([36,118,61,49,57,36,109,61]:List UInt8))++(Lib.itoa aP)).length+([44,116,61]:List UInt8).length<=9223372036854775807)).bind fun u4=>(need (-9223372036854775808<=aX/\aX<=9223372036854775807)).bind fun u5=>(need (((((([36,97,114,103,111,110,50]:List UInt8)++aO)++([36,118,61,49,57,36,109,61]:List UInt8))++(Lib.itoa aP))++([44,116,61]:List UInt8)).length+(Lib.itoa aX).length<=9223372036854775807)).bind fun u6=>(need ((((((([36,97,114,103,111,110,50]:List UInt8)++aO)++([36,118,61,49,57,36,109,61]:List UInt8))++(Lib.itoa aP))++([44,116,61]:List UInt8))++(Lib.itoa aX)).length+([44,112,61]:List UInt8).length<=9223372036854775807)).bind fun u7=>(need (-9223372036854775808<=bu/\bu<=9223372036854775807)).bind fun u8=>(need (((((((([36,97,114,103,111,110,50]:List UInt8)++aO)++([36,118,61,49,57,36,109,61]:List UInt8))++(Lib.itoa aP))++([44,116,61]:List UInt8))++(Lib.itoa aX))++([44,112,61]:List UInt8)).length+(Lib.itoa bu).length<=9223372036854775807)).bind fun u9=>(need ((((((((([36,97,114,103,111,110,50]:List UInt8)++aO)++([36,118,61,49,57,36,109,61]:List UInt8))++(Lib.itoa aP))++([44,116,61]:List UInt8))++(Lib.itoa aX))++([44,112,61]:List UInt8))++(Lib.itoa bu)).length+([36]:List UInt8).length<=9223372036854775807)).bind fun u10=>(vN kK).bind fun dL=>(need (((((((((([36,97,114,103,111,110,50]:List UInt8)++aO)++([36,118,61,49,57,36,109,61]:List UInt8))++(Lib.itoa aP))++([44,116,61]:List UInt8))++(Lib.itoa aX))++([44,112,61]:List UInt8))++(Lib.itoa bu))++([36]:List UInt8)).length+dL.length<=9223372036854775807)).bind fun u11=>(need ((((((((((([36,97,114,103,111,110,50]:List UInt8)++aO)++([36,118,61,49,57,36,109,61]:List UInt8))++(Lib.itoa aP))++([44,116,61]:List UInt8))++(Lib.itoa aX))++([44,112,61]:List UInt8))++(Lib.itoa bu))++([36]:List UInt8))++dL).length+([36]:List UInt8).length<=9223372036854775807)).bind fun u12=>(vN nU).bind fun fP=>(need (((((((((((([36,97,114,103,111,110,50]:List UInt8)++aO)++([36,118,61,49,57,36,109,61]:List UInt8))++(Lib.itoa aP))++([44,116,61]:List UInt8))++(Lib.itoa aX))++([44,112,61]:List UInt8))++(Lib.itoa bu))++([36]:List UInt8))++dL)++([36]:List UInt8)).length+fP.length<=9223372036854775807)).bind fun u13=>some (((((((((((([36,97,114,103,111,110,50]:List UInt8)++aO)++([36,118,61,49,57,36,109,61]:List UInt8))++(Lib.itoa aP))++([44,116,61]:List UInt8))++(Lib.itoa aX))++([44,112,61]:List UInt8))++(Lib.itoa bu))++([36]:List UInt8))++dL)++([36]:List UInt8))++fP,(0:Int)))
noncomputable def nV (aj:Int)(ah:Int)(af:Int)(ag:Int)(ax:Int):Option Int :=
  if((((((((((decide (aj < 0))||(decide (2 < aj)))||(decide (ag < 1)))||(decide (8 < ag)))||(decide (ah < (ay (8*ag)))))||(decide (4096 < ah)))||(decide (af < 1)))||(decide (16 < af)))||(decide (ax < 4)))||(decide (1024 < ax)))=true then(some (200:Int)) else(some (0:Int))
noncomputable def uB (aj:Int)(ah:Int)(af:Int)(ag:Int)(ax:Int)(aQ:List UInt8):Option Int :=
  (nV aj ah af ag ax).bind fun r_=>if r_≠0 then(some r_) else(if((decide (((aQ.length:Nat):Int) < 8))||(decide (64 < ((aQ.length:Nat):Int))))=true then(some (201:Int)) else(some (0:Int)))
noncomputable def oq  : (UInt64×List UInt8)->Option ((UInt64×List UInt8)⊕(List UInt8))
  | (n1,s_)=>(need (([UInt8.ofNat ((48:UInt64)+(n1 % 10)).toNat]:List UInt8).length+s_.length<=9223372036854775807)).bind fun u=>if(n1 / 10)=0 then(Option.map Sum.inr (some (([UInt8.ofNat ((48:UInt64)+(n1 % 10)).toNat]:List UInt8)++s_))) else(some (.inl (n1 / 10,([UInt8.ofNat ((48:UInt64)+(n1 % 10)).toNat]:List UInt8)++s_)))
noncomputable def uG (n:UInt64):Option (List UInt8) :=
  aZ (oq) (n,([]:List UInt8))
noncomputable def qP (bW:Int)(Ru:List UInt8)(Ff:Int)(Fg:Int):Option ((List UInt8×Int×Int×Int)⊕((List UInt8×Int×Int×Int)⊕(List UInt8))) :=
  some (.inl (Ru,Ff,Fg,ay (bW - 1)))
noncomputable def yZ (b:List UInt8)(i:Int):(List UInt8×Int×Int×Int)->Option ((List UInt8×Int×Int×Int)⊕((List UInt8×Int×Int×Int)⊕(List UInt8)))
  | (CU,have_1,pW,bW)=>if 0<=bW then((aV b i).bind fun aW=>(need (0<=bW)).bind fun u=>if(ay (have_1+1))=6 then((aV ([65,66,67,68,69,70,71,72,73,74,75,76,77,78,79,80,81,82,83,84,85,86,87,88,89,90,97,98,99,100,101,102,103,104,105,106,107,108,109,110,111,112,113,114,115,116,117,118,119,120,121,122,48,49,50,51,52,53,54,55,56,57,43,47]:List UInt8) (ay ((ay (2*pW))+(Int.tmod ((Rz aW (Int.toNat bW)).toNat:Int) 2)))).bind fun c3=>(app CU ([c3]:List UInt8) 1).bind fun s_3=>qP bW s_3 (0:Int) (0:Int)) else(qP bW CU (ay (have_1+1)) (ay ((ay (2*pW))+(Int.tmod ((Rz aW (Int.toNat bW)).toNat:Int) 2))))) else(Option.map Sum.inr (some (.inl (CU,have_1,pW,ay (i+1)))))
noncomputable def qQ (Z7:List UInt8):Option (List UInt8) :=
  some Z7
noncomputable def y5 (s_:List UInt8):(Int×Int)->Option ((Int×Int)⊕(List UInt8))
  | (Jk,Lt)=>if Jk < 6 then(some (.inl (ay (Jk+1),ay (2*Lt)))) else(Option.map Sum.inr ((aV ([65,66,67,68,69,70,71,72,73,74,75,76,77,78,79,80,81,82,83,84,85,86,87,88,89,90,97,98,99,100,101,102,103,104,105,106,107,108,109,110,111,112,113,114,115,116,117,118,119,120,121,122,48,49,50,51,52,53,54,55,56,57,43,47]:List UInt8) Lt).bind fun c6=>(app s_ ([c6]:List UInt8) 1).bind fun s_5=>qQ s_5))
noncomputable def Ee (b:List UInt8):(List UInt8×Int×Int×Int)->Option ((List UInt8×Int×Int×Int)⊕(List UInt8))
  | (s_,nG,Gh,i)=>if i < ((b.length:Nat):Int) then(aZ (yZ b i) (s_,nG,Gh,(7:Int))) else(Option.map Sum.inr (if 0 < nG then(aZ (y5 s_) (nG,Gh)) else(qQ s_)))
noncomputable def xU (b:List UInt8):Option (List UInt8) :=
  aZ (Ee b) (([]:List UInt8),(0:Int),(0:Int),(0:Int))
noncomputable def Dw (dN:Int)(aP:Int)(aX:Int)(bu:Int)(dY:Int)(kK:List UInt8)(nU:List UInt8):Option (List UInt8×Int) :=
  (uB dN aP aX bu dY kK).bind fun r_=>if r_≠0 then(some (([]:List UInt8),r_)) else(if((nU.length:Nat):Int)≠dY then(some (([]:List UInt8),(1:Int))) else((aV ([([100]:List UInt8),([105]:List UInt8),([105,100]:List UInt8)]:List (List UInt8)) dN).bind fun aW=>(need (([36,97,114,103,111,110,50]:List UInt8).length+aW.length<=9223372036854775807)).bind fun u=>(need ((([36,97,114,103,111,110,50]:List UInt8)++aW).length+([36,118,61,49,57,36,109,61]:List UInt8).length<=9223372036854775807)).bind fun u1=>(uG (UInt64.ofInt aP)).bind fun aO=>(need (((([36,97,114,103,111,110,50]:List UInt8)++aW)++([36,118,61,49,57,36,109,61]:List UInt8)).length+aO.length<=9223372036854775807)).bind fun u2=>(need ((((([36,97,114,103,111,110,50]:List UInt8)++aW)++([36,118,61,49,57,36,109,61]:List UInt8))++aO).length+([44,116,61]:List UInt8).length<=9223372036854775807)).bind fun u3=>(uG (UInt64.ofInt aX)).bind fun dL=>(need (((((([36,97,114,103,111,110,50]:List UInt8)++aW)++([36,118,61,49,57,36,109,61]:List UInt8))++aO)++([44,116,61]:List UInt8)).length+dL.length<=9223372036854775807)).bind fun u4=>(need ((((((([36,97,114,103,111,110,50]:List UInt8)++aW)++([36,118,61,49,57,36,109,61]:List UInt8))++aO)++([44,116,61]:List UInt8))++dL).length+([44,112,61]:List UInt8).length<=9223372036854775807)).bind fun u5=>(uG (UInt64.ofInt bu)).bind fun fP=>(need (((((((([36,97,114,103,111,110,50]:List UInt8)++aW)++([36,118,61,49,57,36,109,61]:List UInt8))++aO)++([44,116,61]:List UInt8))++dL)++([44,112,61]:List UInt8)).length+fP.length<=9223372036854775807)).bind fun u6=>(need ((((((((([36,97,114,103,111,110,50]:List UInt8)++aW)++([36,118,61,49,57,36,109,61]:List UInt8))++aO)++([44,116,61]:List UInt8))++dL)++([44,112,61]:List UInt8))++fP).length+([36]:List UInt8).length<=9223372036854775807)).bind fun u7=>(xU kK).bind fun iP=>(need (((((((((([36,97,114,103,111,110,50]:List UInt8)++aW)++([36,118,61,49,57,36,109,61]:List UInt8))++aO)++([44,116,61]:List UInt8))++dL)++([44,112,61]:List UInt8))++fP)++([36]:List UInt8)).length+iP.length<=9223372036854775807)).bind fun u8=>(need ((((((((((([36,97,114,103,111,110,50]:List UInt8)++aW)++([36,118,61,49,57,36,109,61]:List UInt8))++aO)++([44,116,61]:List UInt8))++dL)++([44,112,61]:List UInt8))++fP)++([36]:List UInt8))++iP).length+([36]:List UInt8).length<=9223372036854775807)).bind fun u9=>(xU nU).bind fun jW=>(need (((((((((((([36,97,114,103,111,110,50]:List UInt8)++aW)++([36,118,61,49,57,36,109,61]:List UInt8))++aO)++([44,116,61]:List UInt8))++dL)++([44,112,61]:List UInt8))++fP)++([36]:List UInt8))++iP)++([36]:List UInt8)).length+jW.length<=9223372036854775807)).bind fun u10=>some (((((((((((([36,97,114,103,111,110,50]:List UInt8)++aW)++([36,118,61,49,57,36,109,61]:List UInt8))++aO)++([44,116,61]:List UInt8))++dL)++([44,112,61]:List UInt8))++fP)++([36]:List UInt8))++iP)++([36]:List UInt8))++jW,(0:Int))))
noncomputable def lu (l9:List UInt8)(sJ:Bool)(t:List UInt8):(Int×Int)->Option ((Int×Int)⊕(List UInt8×Int×Bool))
  | (p,i)=>if((decide (i < (t.length:Int)))&&sJ)=true then((EE (!(decide ((l9.length:Int)<=p))) (aV l9 p)).bind fun c=>(EE (!(decide ((l9.length:Int)<=p))) (aV t i)).bind fun c1=>if((decide ((l9.length:Int)<=p))||(decide (c≠c1)))=true then(Option.map Sum.inr (some (l9,p,false))) else(some (.inl (ay (p+1),ay (i+1))))) else(Option.map Sum.inr (some (l9,p,sJ)))
noncomputable def iY (l9:List UInt8)(qN:Int)(sJ:Bool)(t:List UInt8):Option (List UInt8×Int×Bool) :=
  aZ (lu l9 sJ t) (qN,(0:Int))
noncomputable def iZ (s_:List UInt8)(lY:List UInt8):Option Bool :=
  (EE (decide ((lY.length:Int)<=(s_.length:Int))) (G6 s_ 0 (lY.length:Int))).bind fun CU=>some ((decide ((lY.length:Int)<=(s_.length:Int)))&&(decide (CU=lY)))
noncomputable def jq (s_:List UInt8)(lY:List UInt8):Option Bool :=
  (iZ s_ lY).bind fun r_=>some r_
noncomputable def jI (l9:List UInt8)(qN:Int):(Int×UInt64)->Option ((Int×UInt64)⊕(UInt64×List UInt8×Int×Bool))
  | (p,v)=>(EE (decide (p < (l9.length:Int))) (aV l9 p)).bind fun c=>(EE ((decide (p < (l9.length:Int)))&&(decide ((48:UInt8)<=c))) (aV l9 p)).bind fun c1=>if(((decide (p < (l9.length:Int)))&&(decide ((48:UInt8)<=c)))&&(decide (c1<=57)))=true then((aV l9 p).bind fun c2=>if(((decide (qN < p))&&(decide (v=0)))||(decide ((((18446744073709551615:UInt64) - (UInt64.ofNat (c2 - 48).toNat)) / 10) < v)))=true then(Option.map Sum.inr (some ((0:UInt64),l9,p,false))) else(some (.inl (ay (p+1),((10:UInt64)*v)+(UInt64.ofNat (c2 - 48).toNat))))) else(Option.map Sum.inr (some (v,l9,p,decide (qN < p))))
noncomputable def mi (l9:List UInt8)(qN:Int)(sJ:Bool):Option (UInt64×List UInt8×Int×Bool) :=
  if(!sJ)=true then(some ((0:UInt64),l9,qN,sJ)) else(aZ (jI l9 qN) (qN,(0:UInt64)))
noncomputable def uH (v:UInt64):Option Int :=
  if(9223372036854775807:UInt64) < v then(some (-1:Int)) else(some (ay v.toNat))
noncomputable def mr (s_:List UInt8)(c:UInt8):Option Int :=
  some (TL s_ c)
noncomputable def sW (s_:List UInt8)(c:UInt8):Option Int :=
  (mr s_ c).bind fun r_=>some r_
noncomputable def jV (l9:List UInt8)(qN:Int)(sJ:Bool):Int->Option (Int⊕(List UInt8×Int×List UInt8×Int×Bool))
  | p=>if(sJ&&(decide (p < (l9.length:Int))))=true then((aV l9 p).bind fun c=>(sW ([43,47]:List UInt8) c).bind fun r_=>(EE (!(decide (0<=r_))) (aV l9 p)).bind fun c1=>(EE (!(decide (0<=r_))) (EE (decide ((48:UInt8)<=c1)) (aV l9 p))).bind fun c2=>(EE (!((decide (0<=r_))||((decide ((48:UInt8)<=c1))&&(decide (c2<=57))))) (aV l9 p)).bind fun c3=>(EE (!((decide (0<=r_))||((decide ((48:UInt8)<=c1))&&(decide (c2<=57))))) (EE (decide ((65:UInt8)<=c3)) (aV l9 p))).bind fun c4=>(EE (!(((decide (0<=r_))||((decide ((48:UInt8)<=c1))&&(decide (c2<=57))))||((decide ((65:UInt8)<=c3))&&(decide (c4<=90))))) (aV l9 p)).bind fun c5=>(EE (!(((decide (0<=r_))||((decide ((48:UInt8)<=c1))&&(decide (c2<=57))))||((decide ((65:UInt8)<=c3))&&(decide (c4<=90))))) (EE (decide ((97:UInt8)<=c5)) (aV l9 p))).bind fun c6=>if((((decide (0<=r_))||((decide ((48:UInt8)<=c1))&&(decide (c2<=57))))||((decide ((65:UInt8)<=c3))&&(decide (c4<=90))))||((decide ((97:UInt8)<=c5))&&(decide (c6<=122))))=true then(some (.inl (ay (p+1)))) else(Option.map Sum.inr ((G6 l9 qN p).bind fun s_=>some (s_,qN,l9,p,sJ)))) else(Option.map Sum.inr ((G6 l9 qN p).bind fun CU=>some (CU,qN,l9,p,sJ)))
noncomputable def nK (l9:List UInt8)(qN:Int)(sJ:Bool):Option (List UInt8×Int×List UInt8×Int×Bool) :=
  aZ (jV l9 qN sJ) qN
noncomputable def vO (c:UInt8):Option (UInt32×Bool) :=
  if((decide ((65:UInt8)<=c))&&(decide (c<=90)))=true then(some (UInt32.ofNat (c - 65).toNat,true)) else(if((decide ((97:UInt8)<=c))&&(decide (c<=122)))=true then(some ((UInt32.ofNat (c - 97).toNat)+26,true)) else(if((decide ((48:UInt8)<=c))&&(decide (c<=57)))=true then(some ((UInt32.ofNat (c - 48).toNat)+52,true)) else(if c=43 then(some ((62:UInt32),true)) else(if c=47 then(some ((63:UInt32),true)) else(some ((0:UInt32),false))))))
noncomputable def nM (aW:Int)(b1:List UInt8)(have_1:Int)(v1:UInt32):Option ((List UInt8×Int×UInt32×Int)⊕(List UInt8×Int×Int)) :=
  some (.inl (b1,have_1,v1,ay (aW+1)))
noncomputable def zy (s_:List UInt8):(List UInt8×Int×UInt32×Int)->Option ((List UInt8×Int×UInt32×Int)⊕(List UInt8×Int×Int))
  | (b,nG,v,aW)=>if aW < (s_.length:Int) then((aV s_ aW).bind fun c2=>(vO c2).bind fun r_=>if(!r_.2)=true then(Option.map Sum.inr (some (([]:List UInt8),aW,(4:Int)))) else(if 8<=(ay (nG+6)) then((need (0<=ay ((ay (nG+6)) - 8))).bind fun u=>(app b ([UInt8.ofNat (nR ((oG v ((6:UInt64).toNat))|||r_.1) (Int.toNat (ay ((ay (nG+6)) - 8)))).toNat]:List UInt8) 1).bind fun b2=>(need (0<=ay ((ay (nG+6)) - 8))).bind fun u1=>nM aW b2 (ay ((ay (nG+6)) - 8)) (((oG v ((6:UInt64).toNat))|||r_.1)&&&((oG 1 (Int.toNat (ay ((ay (nG+6)) - 8)))) - 1))) else(nM aW b (ay (nG+6)) ((oG v ((6:UInt64).toNat))|||r_.1)))) else(Option.map Sum.inr (if(Int.tmod (s_.length:Int) 4)=1 then(some (([]:List UInt8),(s_.length:Int),(4:Int))) else(if v≠0 then(some (([]:List UInt8),ay ((s_.length:Int) - 1),(4:Int))) else(some (b,(0:Int),(0:Int))))))
noncomputable def qY (s_:List UInt8):Option (List UInt8×Int×Int) :=
  aZ (zy s_) (([]:List UInt8),(0:Int),(0:UInt32),(0:Int))
noncomputable def jw (s_:List UInt8)(p:List UInt8)(p1:Int)(p2:Bool)(t:Int):Option (Int×Int×Int×Int×Int×List UInt8×List UInt8×Int×Int) :=
  (iY p p1 p2 ([36,118,61,49,57,36,109,61]:List UInt8)).bind fun GH=>(mi GH.1 GH.2.1 GH.2.2).bind fun IX=>(uH IX.1).bind fun uZ=>(iY IX.2.1 IX.2.2.1 IX.2.2.2 ([44,116,61]:List UInt8)).bind fun u_=>(mi u_.1 u_.2.1 u_.2.2).bind fun yF=>(uH yF.1).bind fun rE=>(iY yF.2.1 yF.2.2.1 yF.2.2.2 ([44,112,61]:List UInt8)).bind fun Hg=>(mi Hg.1 Hg.2.1 Hg.2.2).bind fun GI=>(uH GI.1).bind fun Ah=>(iY GI.2.1 GI.2.2.1 GI.2.2.2 ([36]:List UInt8)).bind fun VE=>(nK VE.1 VE.2.1 VE.2.2).bind fun O7=>(iY O7.2.2.1 O7.2.2.2.1 O7.2.2.2.2 ([36]:List UInt8)).bind fun r_19=>(nK r_19.1 r_19.2.1 r_19.2.2).bind fun Ef=>if((!Ef.2.2.2.2)||(decide (Ef.2.2.2.1 < (s_.length:Int))))=true then(some ((0:Int),(0:Int),(0:Int),(0:Int),(0:Int),([]:List UInt8),([]:List UInt8),Ef.2.2.2.1,(4:Int))) else((qY O7.1).bind fun IY=>if IY.2.2≠0 then(some ((0:Int),(0:Int),(0:Int),(0:Int),(0:Int),([]:List UInt8),([]:List UInt8),O7.2.1,(4:Int))) else((qY Ef.1).bind fun yJ=>if yJ.2.2≠0 then(some ((0:Int),(0:Int),(0:Int),(0:Int),(0:Int),([]:List UInt8),([]:List UInt8),Ef.2.1,(4:Int))) else((xQ t uZ rE Ah ((yJ.1.length:Nat):Int) IY.1 yJ.1).bind fun r_23=>if r_23≠0 then(some ((0:Int),(0:Int),(0:Int),(0:Int),(0:Int),([]:List UInt8),([]:List UInt8),(0:Int),(1:Int))) else(some (t,uZ,rE,Ah,((yJ.1.length:Nat):Int),IY.1,yJ.1,(0:Int),(0:Int))))))
noncomputable def rG (s_:List UInt8):Option (Int×Int×Int×Int×Int×List UInt8×List UInt8×Int×Int) :=
  (iY s_ (0:Int) true ([36,97,114,103,111,110,50]:List UInt8)).bind fun r_=>if r_.2.2=true then((G6 s_ r_.2.1 (s_.length:Int)).bind fun CU=>(jq CU ([105,100]:List UInt8)).bind fun aO=>if aO=true then(jw s_ r_.1 (ay (r_.2.1+2)) r_.2.2 (2:Int)) else(if r_.2.2=true then((G6 s_ r_.2.1 (s_.length:Int)).bind fun Ru=>(jq Ru ([105]:List UInt8)).bind fun dL=>if dL=true then(jw s_ r_.1 (ay (r_.2.1+1)) r_.2.2 (1:Int)) else((iY r_.1 r_.2.1 r_.2.2 ([100]:List UInt8)).bind fun fP=>jw s_ fP.1 fP.2.1 fP.2.2 (0:Int))) else((iY r_.1 r_.2.1 r_.2.2 ([100]:List UInt8)).bind fun iP=>jw s_ iP.1 iP.2.1 iP.2.2 (0:Int)))) else(if r_.2.2=true then((G6 s_ r_.2.1 (s_.length:Int)).bind fun s_3=>(jq s_3 ([105]:List UInt8)).bind fun jW=>if jW=true then(jw s_ r_.1 (ay (r_.2.1+1)) r_.2.2 (1:Int)) else((iY r_.1 r_.2.1 r_.2.2 ([100]:List UInt8)).bind fun pV=>jw s_ pV.1 pV.2.1 pV.2.2 (0:Int))) else((iY r_.1 r_.2.1 r_.2.2 ([100]:List UInt8)).bind fun tK=>jw s_ tK.1 tK.2.1 tK.2.2 (0:Int)))
noncomputable def jl (oW:List UInt8)(iq:Bool)(w_:List UInt8):(Int×Int)->Option ((Int×Int)⊕(List UInt8×Int×Bool))
  | (r_,i)=>if((decide (i < (w_.length:Int)))&&(!iq))=true then((EE (!(decide ((oW.length:Int)<=r_))) (aV oW r_)).bind fun c=>(EE (!(decide ((oW.length:Int)<=r_))) (aV w_ i)).bind fun c1=>if((decide ((oW.length:Int)<=r_))||(decide (c≠c1)))=true then(Option.map Sum.inr (some (oW,r_,true))) else(some (.inl (ay (r_+1),ay (i+1))))) else(Option.map Sum.inr (some (oW,r_,iq)))
noncomputable def iG (oW:List UInt8)(r_at:Int)(iq:Bool)(w_:List UInt8):Option (List UInt8×Int×Bool) :=
  aZ (jl oW iq w_) (r_at,(0:Int))
noncomputable def pX (oW:List UInt8)(r_at:Int)(iq:Bool):Option (Int×List UInt8×Int×Bool) :=
  if(iq||(decide ((oW.length:Int)<=r_at)))=true then(some ((0:Int),oW,r_at,true)) else((aV oW r_at).bind fun c=>if c=100 then(some ((0:Int),oW,ay (r_at+1),iq)) else((iG oW r_at iq ([105]:List UInt8)).bind fun r_=>(EE ((!r_.2.2)&&(decide (r_.2.1 < (r_.1.length:Int)))) (aV r_.1 r_.2.1)).bind fun c1=>if(((!r_.2.2)&&(decide (r_.2.1 < (r_.1.length:Int))))&&(decide (c1=100)))=true then(some ((2:Int),r_.1,ay (r_.2.1+1),r_.2.2)) else(some ((1:Int),r_.1,r_.2.1,r_.2.2))))
noncomputable def zK (c:UInt8):Option Bool :=
  some ((decide ((48:UInt8)<=c))&&(decide (c<=57)))
noncomputable def kF (oW:List UInt8)(iq:Bool)(c1:UInt8):(Int×UInt64)->Option ((Int×UInt64)⊕(UInt64×List UInt8×Int×Bool))
  | (aO,n)=>if aO < (oW.length:Int) then((aV oW aO).bind fun c2=>(zK c2).bind fun dL=>if dL=true then((aV oW aO).bind fun c3=>if((decide ((UInt64.ofNat (c1 - 48).toNat)=0))||(decide ((((18446744073709551615:UInt64) - (UInt64.ofNat (c3 - 48).toNat)) / 10) < n)))=true then(Option.map Sum.inr (some ((0:UInt64),oW,aO,true))) else(some (.inl (ay (aO+1),((10:UInt64)*n)+(UInt64.ofNat (c3 - 48).toNat))))) else(Option.map Sum.inr (some (n,oW,aO,iq)))) else(Option.map Sum.inr (some (n,oW,aO,iq)))
noncomputable def kL (oW:List UInt8)(r_at:Int)(iq:Bool):Option (UInt64×List UInt8×Int×Bool) :=
  if(iq||(decide ((oW.length:Int)<=r_at)))=true then(some ((0:UInt64),oW,r_at,true)) else((aV oW r_at).bind fun c=>(zK c).bind fun r_=>if(!r_)=true then(some ((0:UInt64),oW,r_at,true)) else((aV oW r_at).bind fun c1=>aZ (kF oW iq c1) (ay (r_at+1),UInt64.ofNat (c1 - 48).toNat)))
noncomputable def y7 (c:UInt8):Int->Option (Int⊕Int)
  | i=>if i < 64 then((aV ([65,66,67,68,69,70,71,72,73,74,75,76,77,78,79,80,81,82,83,84,85,86,87,88,89,90,97,98,99,100,101,102,103,104,105,106,107,108,109,110,111,112,113,114,115,116,117,118,119,120,121,122,48,49,50,51,52,53,54,55,56,57,43,47]:List UInt8) i).bind fun c1=>if c1=c then(Option.map Sum.inr (some i)) else(some (.inl (ay (i+1))))) else(Option.map Sum.inr (some (-1:Int)))
noncomputable def uI (c:UInt8):Option Int :=
  aZ (y7 c) (0:Int)
noncomputable def jf (oW:List UInt8)(r_at:Int)(iq:Bool):Int->Option (Int⊕(List UInt8×List UInt8×Int×Bool))
  | r_=>if((!iq)&&(decide (r_ < (oW.length:Int))))=true then((aV oW r_).bind fun c=>(uI c).bind fun aO=>if 0<=aO then(some (.inl (ay (r_+1)))) else(Option.map Sum.inr ((G6 oW r_at r_).bind fun s_=>some (s_,oW,r_,iq)))) else(Option.map Sum.inr ((G6 oW r_at r_).bind fun CU=>some (CU,oW,r_,iq)))
noncomputable def lF (oW:List UInt8)(r_at:Int)(iq:Bool):Option (List UInt8×List UInt8×Int×Bool) :=
  aZ (jf oW r_at iq) r_at
noncomputable def oh (fV:Int)(b2:List UInt8)(Ff:Int)(Fg:Int):Option ((List UInt8×Int×Int×Int)⊕((List UInt8×Int×Int×Int)⊕(List UInt8×Int×Int))) :=
  some (.inl (b2,Ff,Fg,ay (fV - 1)))
noncomputable def wK (s_:List UInt8)(i1:Int):(List UInt8×Int×Int×Int)->Option ((List UInt8×Int×Int×Int)⊕((List UInt8×Int×Int×Int)⊕(List UInt8×Int×Int)))
  | (b1,have_1,pW,fV)=>if 0<=fV then((aV s_ i1).bind fun c4=>(uI c4).bind fun aO=>(need (0<=fV)).bind fun u=>if(ay (have_1+1))=8 then((app b1 ([UInt8.ofInt (ay ((ay (2*pW))+(Int.tmod (NV .i64 aO (Int.toNat fV)) 2)))]:List UInt8) 1).bind fun b3=>oh fV b3 (0:Int) (0:Int)) else(oh fV b1 (ay (have_1+1)) (ay ((ay (2*pW))+(Int.tmod (NV .i64 aO (Int.toNat fV)) 2))))) else(Option.map Sum.inr (some (.inl (b1,have_1,pW,ay (i1+1)))))
noncomputable def wL (s_:List UInt8):(List UInt8×Int×Int×Int)->Option ((List UInt8×Int×Int×Int)⊕(List UInt8×Int×Int))
  | (b,nG,Gh,i1)=>if i1 < (s_.length:Int) then(aZ (wK s_ i1) (b,nG,Gh,(5:Int))) else(Option.map Sum.inr (if Gh≠0 then(some (([]:List UInt8),ay ((s_.length:Int) - 1),(4:Int))) else(some (b,(0:Int),(0:Int)))))
noncomputable def Ai (s_:List UInt8):Int->Option (Int⊕(List UInt8×Int×Int))
  | i=>if i < (s_.length:Int) then((aV s_ i).bind fun c0=>(uI c0).bind fun r_=>if r_ < 0 then(Option.map Sum.inr (some (([]:List UInt8),i,(4:Int)))) else(some (.inl (ay (i+1))))) else(Option.map Sum.inr (if(Int.tmod (s_.length:Int) 4)=1 then(some (([]:List UInt8),(s_.length:Int),(4:Int))) else(aZ (wL s_) (([]:List UInt8),(0:Int),(0:Int),(0:Int)))))
noncomputable def tN (s_:List UInt8):Option (List UInt8×Int×Int) :=
  aZ (Ai s_) (0:Int)
noncomputable def wX (n:UInt64):Option Int :=
  if(9223372036854775807:UInt64) < n then(some (-1:Int)) else(some (ay n.toNat))
noncomputable def zL (s_:List UInt8):Option (Int×Int×Int×Int×Int×List UInt8×List UInt8×Int×Int) :=
  (iG s_ (0:Int) false ([36,97,114,103,111,110,50]:List UInt8)).bind fun r_=>(pX r_.1 r_.2.1 r_.2.2).bind fun aO=>(iG aO.2.1 aO.2.2.1 aO.2.2.2 ([36,118,61,49,57,36,109,61]:List UInt8)).bind fun dL=>(kL dL.1 dL.2.1 dL.2.2).bind fun fP=>(iG fP.2.1 fP.2.2.1 fP.2.2.2 ([44,116,61]:List UInt8)).bind fun iP=>(kL iP.1 iP.2.1 iP.2.2).bind fun jW=>(iG jW.2.1 jW.2.2.1 jW.2.2.2 ([44,112,61]:List UInt8)).bind fun pV=>(kL pV.1 pV.2.1 pV.2.2).bind fun tK=>(iG tK.2.1 tK.2.2.1 tK.2.2.2 ([36]:List UInt8)).bind fun GH=>(lF GH.1 GH.2.1 GH.2.2).bind fun IX=>(iG IX.2.1 IX.2.2.1 IX.2.2.2 ([36]:List UInt8)).bind fun uZ=>(lF uZ.1 uZ.2.1 uZ.2.2).bind fun u_=>if(u_.2.2.2||(decide (u_.2.2.1 < (s_.length:Int))))=true then(some ((0:Int),(0:Int),(0:Int),(0:Int),(0:Int),([]:List UInt8),([]:List UInt8),u_.2.2.1,(4:Int))) else((tN IX.1).bind fun yF=>if yF.2.2≠0 then(some ((0:Int),(0:Int),(0:Int),(0:Int),(0:Int),([]:List UInt8),([]:List UInt8),GH.2.1,(4:Int))) else((tN u_.1).bind fun rE=>if rE.2.2≠0 then(some ((0:Int),(0:Int),(0:Int),(0:Int),(0:Int),([]:List UInt8),([]:List UInt8),uZ.2.1,(4:Int))) else((wX fP.1).bind fun Hg=>(wX jW.1).bind fun GI=>(wX tK.1).bind fun Ah=>(uB aO.1 Hg GI Ah ((rE.1.length:Nat):Int) yF.1).bind fun VE=>if VE≠0 then(some ((0:Int),(0:Int),(0:Int),(0:Int),(0:Int),([]:List UInt8),([]:List UInt8),(0:Int),(1:Int))) else(some (aO.1,Hg,GI,Ah,((rE.1.length:Nat):Int),yF.1,rE.1,(0:Int),(0:Int))))))
noncomputable def GK (a_:List UInt8)(b:List UInt8):Int->Option (Int⊕Bool)
  | i=>if i < ((a_.length:Nat):Int) then((aV a_ i).bind fun aW=>(aV b i).bind fun x_1=>if aW≠x_1 then(Option.map Sum.inr (some false)) else(some (.inl (ay (i+1))))) else(Option.map Sum.inr (some true))
noncomputable def Fh (a_:List UInt8)(b:List UInt8):Option Bool :=
  if((a_.length:Nat):Int)≠((b.length:Nat):Int) then(some false) else(aZ (GK a_ b) (0:Int))
noncomputable def Dx  : Option Bool :=
  (rG ([36,97,114,103,111,110,50,105,100,36,118,61,49,56]:List UInt8)).bind fun r_=>some ((decide (r_.2.2.2.2.2.2.2.1=13))&&(decide (r_.2.2.2.2.2.2.2.2=4)))
noncomputable def oZ (k_:Int):Option (Int×Int×Int) :=
  if k_=1 then(some ((64:Int),(64:Int),(16:Int))) else(if k_=2 then(some ((32:Int),(32:Int),(8:Int))) else(some ((0:Int),(0:Int),(0:Int))))
noncomputable def EG (k_:Int):Option (Int×Int) :=
  (oZ k_).bind fun r_=>if r_.1=0 then(some ((0:Int),(1:Int))) else(some (r_.1,(0:Int)))
noncomputable def mD (n:Int)(lo:Int)(hi:Int):Option Bool :=
  some ((decide (lo<=n))&&(decide (n<=hi)))
noncomputable def xW  : Option Int :=
  some (0:Int)
noncomputable def tV (k_:Int)(bH:UInt32)(aB:Int)(bn:Int)(bF:List UInt8)(aF:List UInt8)(r_:(Int×Int×Int))(aW:Bool):Option Int :=
  if aW=true then(some (23:Int)) else(if((decide (k_=2))&&(decide ((65535:UInt32) < bH)))=true then(some (24:Int)) else((mD aB (0:Int) (255:Int)).bind fun jW=>if(!jW)=true then(some (25:Int)) else((mD bn (0:Int) r_.2.1).bind fun pV=>if(!pV)=true then(some (26:Int)) else(if r_.2.2 < ((bF.length:Nat):Int) then(some (27:Int)) else(if r_.2.2 < ((aF.length:Nat):Int) then(some (28:Int)) else(xW))))))
noncomputable def pG (k_:Int)(aT:Int)(dA:Int)(aU:Int)(aY:Int)(aJ:UInt64)(bH:UInt32)(aB:Int)(bn:Int)(bF:List UInt8)(aF:List UInt8)(r_:(Int×Int×Int))(least:Int):Option Int :=
  (mD aT (1:Int) r_.2.1).bind fun aO=>if(!aO)=true then(some (20:Int)) else((mD dA (0:Int) r_.2.1).bind fun dL=>if(!dL)=true then(some (8:Int)) else((mD aU (0:Int) (255:Int)).bind fun fP=>if(!fP)=true then(some (21:Int)) else((mD aY least (255:Int)).bind fun iP=>if(!iP)=true then(some (22:Int)) else(if((decide (bH≠0))&&(decide ((4294967296:UInt64)<=aJ)))=true then(tV k_ bH aB bn bF aF r_ ((decide (bH≠0))&&(decide ((4294967296:UInt64)<=aJ)))) else(tV k_ bH aB bn bF aF r_ (((decide (bH=0))&&(decide (k_=2)))&&(decide ((281474976710656:UInt64)<=aJ))))))))
noncomputable def o9 (k_:Int)(aT:Int)(dA:Int)(aU:Int)(aY:Int)(cZ:UInt32)(aJ:UInt64)(bH:UInt32)(aB:Int)(bn:Int)(bF:List UInt8)(aF:List UInt8):Option Int :=
  (oZ k_).bind fun r_=>if r_.2.1=0 then(some (1:Int)) else(if bH≠0 then(pG k_ aT dA aU aY aJ bH aB bn bF aF r_ (0:Int)) else(pG k_ aT dA aU aY aJ bH aB bn bF aF r_ (1:Int)))
noncomputable def uJ (k_:Int):Option (List (Int×Int×Int×List UInt8×Int)) :=
  if k_=1 then(some ([((1:Int),(0:Int),(1:Int),([100,105,103,101,115,116]:List UInt8),(20:Int)),((2:Int),(1:Int),(1:Int),([107,101,121]:List UInt8),(8:Int)),((3:Int),(2:Int),(1:Int),([102,97,110,111,117,116]:List UInt8),(21:Int)),((4:Int),(3:Int),(1:Int),([100,101,112,116,104]:List UInt8),(22:Int)),((5:Int),(4:Int),(4:Int),([108,101,97,102]:List UInt8),(1:Int)),((6:Int),(8:Int),(8:Int),([111,102,102,115,101,116]:List UInt8),(23:Int)),((7:Int),(12:Int),(4:Int),([120,111,102]:List UInt8),(24:Int)),((8:Int),(16:Int),(1:Int),([110,111,100,101]:List UInt8),(25:Int)),((9:Int),(17:Int),(1:Int),([105,110,110,101,114]:List UInt8),(26:Int))]:List (Int×Int×Int×List UInt8×Int))) else((aV ([((1:Int),(0:Int),(1:Int),([100,105,103,101,115,116]:List UInt8),(20:Int)),((2:Int),(1:Int),(1:Int),([107,101,121]:List UInt8),(8:Int)),((3:Int),(2:Int),(1:Int),([102,97,110,111,117,116]:List UInt8),(21:Int)),((4:Int),(3:Int),(1:Int),([100,101,112,116,104]:List UInt8),(22:Int)),((5:Int),(4:Int),(4:Int),([108,101,97,102]:List UInt8),(1:Int)),((6:Int),(8:Int),(8:Int),([111,102,102,115,101,116]:List UInt8),(23:Int)),((7:Int),(12:Int),(4:Int),([120,111,102]:List UInt8),(24:Int)),((8:Int),(16:Int),(1:Int),([110,111,100,101]:List UInt8),(25:Int)),((9:Int),(17:Int),(1:Int),([105,110,110,101,114]:List UInt8),(26:Int))]:List (Int×Int×Int×List UInt8×Int)) (5:Int)).bind fun aW=>(aV (([((1:Int),(0:Int),(1:Int),([100,105,103,101,115,116]:List UInt8),(20:Int)),((2:Int),(1:Int),(1:Int),([107,101,121]:List UInt8),(8:Int)),((3:Int),(2:Int),(1:Int),([102,97,110,111,117,116]:List UInt8),(21:Int)),((4:Int),(3:Int),(1:Int),([100,101,112,116,104]:List UInt8),(22:Int)),((5:Int),(4:Int),(4:Int),([108,101,97,102]:List UInt8),(1:Int)),((6:Int),(8:Int),(8:Int),([111,102,102,115,101,116]:List UInt8),(23:Int)),((7:Int),(12:Int),(4:Int),([120,111,102]:List UInt8),(24:Int)),((8:Int),(16:Int),(1:Int),([110,111,100,101]:List UInt8),(25:Int)),((9:Int),(17:Int),(1:Int),([105,110,110,101,114]:List UInt8),(26:Int))]:List (Int×Int×Int×List UInt8×Int)).set (Int.toNat (5:Int)) (aW.1,aW.2.1,(6:Int),aW.2.2.2.1,aW.2.2.2.2)) (6:Int)).bind fun x_1=>(aV ((([((1:Int),(0:Int),(1:Int),([100,105,103,101,115,116]:List UInt8),(20:Int)),((2:Int),(1:Int),(1:Int),([107,101,121]:List UInt8),(8:Int)),((3:Int),(2:Int),(1:Int),([102,97,110,111,117,116]:List UInt8),(21:Int)),((4:Int),(3:Int),(1:Int),([100,101,112,116,104]:List UInt8),(22:Int)),((5:Int),(4:Int),(4:Int),([108,101,97,102]:List UInt8),(1:Int)),((6:Int),(8:Int),(8:Int),([111,102,102,115,101,116]:List UInt8),(23:Int)),((7:Int),(12:Int),(4:Int),([120,111,102]:List UInt8),(24:Int)),((8:Int),(16:Int),(1:Int),([110,111,100,101]:List UInt8),(25:Int)),((9:Int),(17:Int),(1:Int),([105,110,110,101,114]:List UInt8),(26:Int))]:List (Int×Int×Int×List UInt8×Int)).set (Int.toNat (5:Int)) (aW.1,aW.2.1,(6:Int),aW.2.2.2.1,aW.2.2.2.2)).set (Int.toNat (6:Int)) (x_1.1,x_1.2.1,(2:Int),x_1.2.2.2.1,x_1.2.2.2.2)) (7:Int)).bind fun iL=>(aV (((([((1:Int),(0:Int),(1:Int),([100,105,103,101,115,116]:List UInt8),(20:Int)),((2:Int),(1:Int),(1:Int),([107,101,121]:List UInt8),(8:Int)),((3:Int),(2:Int),(1:Int),([102,97,110,111,117,116]:List UInt8),(21:Int)),((4:Int),(3:Int),(1:Int),([100,101,112,116,104]:List UInt8),(22:Int)),((5:Int),(4:Int),(4:Int),([108,101,97,102]:List UInt8),(1:Int)),((6:Int),(8:Int),(8:Int),([111,102,102,115,101,116]:List UInt8),(23:Int)),((7:Int),(12:Int),(4:Int),([120,111,102]:List UInt8),(24:Int)),((8:Int),(16:Int),(1:Int),([110,111,100,101]:List UInt8),(25:Int)),((9:Int),(17:Int),(1:Int),([105,110,110,101,114]:List UInt8),(26:Int))]:List (Int×Int×Int×List UInt8×Int)).set (Int.toNat (5:Int)) (aW.1,aW.2.1,(6:Int),aW.2.2.2.1,aW.2.2.2.2)).set (Int.toNat (6:Int)) (x_1.1,x_1.2.1,(2:Int),x_1.2.2.2.1,x_1.2.2.2.2)).set (Int.toNat (7:Int)) (iL.1,(14:Int),iL.2.2.1,iL.2.2.2.1,iL.2.2.2.2)) (8:Int)).bind fun jG=>some ((((([((1:Int),(0:Int),(1:Int),([100,105,103,101,115,116]:List UInt8),(20:Int)),((2:Int),(1:Int),(1:Int),([107,101,121]:List UInt8),(8:Int)),((3:Int),(2:Int),(1:Int),([102,97,110,111,117,116]:List UInt8),(21:Int)),((4:Int),(3:Int),(1:Int),([100,101,112,116,104]:List UInt8),(22:Int)),((5:Int),(4:Int),(4:Int),([108,101,97,102]:List UInt8),(1:Int)),((6:Int),(8:Int),(8:Int),([111,102,102,115,101,116]:List UInt8),(23:Int)),((7:Int),(12:Int),(4:Int),([120,111,102]:List UInt8),(24:Int)),((8:Int),(16:Int),(1:Int),([110,111,100,101]:List UInt8),(25:Int)),((9:Int),(17:Int),(1:Int),([105,110,110,101,114]:List UInt8),(26:Int))]:List (Int×Int×Int×List UInt8×Int)).set (Int.toNat (5:Int)) (aW.1,aW.2.1,(6:Int),aW.2.2.2.1,aW.2.2.2.2)).set (Int.toNat (6:Int)) (x_1.1,x_1.2.1,(2:Int),x_1.2.2.2.1,x_1.2.2.2.2)).set (Int.toNat (7:Int)) (iL.1,(14:Int),iL.2.2.1,iL.2.2.2.1,iL.2.2.2.2)).set (Int.toNat (8:Int)) (jG.1,(15:Int),jG.2.2.1,jG.2.2.2.1,jG.2.2.2.2)))
noncomputable def CV (aT:Int)(dA:Int)(aU:Int)(aY:Int)(cZ:UInt32)(aJ:UInt64)(bH:UInt32)(aB:Int)(bn:Int)(bF:List UInt8)(aF:List UInt8)(field:Int):Option UInt64 :=
  if field=1 then(some (UInt64.ofInt aT)) else(if field=2 then(some (UInt64.ofInt dA)) else(if field=3 then(some (UInt64.ofInt aU)) else(if field=4 then(some (UInt64.ofInt aY)) else(if field=5 then(some (UInt64.ofNat cZ.toNat)) else(if field=6 then(some aJ) else(if field=7 then(some (UInt64.ofNat bH.toNat)) else(if field=8 then(some (UInt64.ofInt aB)) else(some (UInt64.ofInt bn)))))))))
noncomputable def Aj (at_:Int)(size:Int)(v:UInt64):(List UInt8×Int)->Option ((List UInt8×Int)⊕(List UInt8))
  | (b1,aW)=>if aW < size then((need (0<=ay (8*aW))).bind fun u=>(aV b1 (ay (at_+aW))).bind fun x_1=>some (.inl (b1.set (Int.toNat (ay (at_+aW))) (UInt8.ofNat (iH v (Int.toNat (ay (8*aW)))).toNat),ay (aW+1)))) else(Option.map Sum.inr (some b1))
noncomputable def Dy (b:List UInt8)(at_:Int)(size:Int)(v:UInt64):Option (List UInt8) :=
  aZ (Aj at_ size v) (b,(0:Int))
noncomputable def wM (aW:Int)(b1:List UInt8):Option ((List UInt8×Int)⊕(List UInt8×Int)) :=
  some (.inl (b1,ay (aW+1)))
noncomputable def rH (aW:Int)(b2:List UInt8):Option ((List UInt8×Int)⊕(List UInt8×Int)) :=
  wM aW b2
noncomputable def rJ (aT:Int)(dA:Int)(aU:Int)(aY:Int)(cZ:UInt32)(aJ:UInt64)(bH:UInt32)(aB:Int)(bn:Int)(bF:List UInt8)(aF:List UInt8)(aO:(Int×Int×Int))(dL:(List (Int×Int×Int×List UInt8×Int))):(List UInt8×Int)->Option ((List UInt8×Int)⊕(List UInt8×Int))
  | (b,aW)=>if aW < ((dL.length:Nat):Int) then((aV dL aW).bind fun iL=>if((decide (iL.1=7))&&(decide (bH=0)))=true then(rH aW b) else((CV aT dA aU aY cZ aJ bH aB bn bF aF iL.1).bind fun fP=>(Dy b iL.2.1 iL.2.2.1 fP).bind fun iP=>rH aW iP)) else(Option.map Sum.inr ((G6 b (ay (aO.1 - (ay (2*aO.2.2)))) ((Int.toNat aO.1:Nat):Int)).bind fun b3=>(G6 (YP b (Int.toNat (ay (aO.1 - (ay (2*aO.2.2))))) b3.length bF) (ay (aO.1 - aO.2.2)) ((Int.toNat aO.1:Nat):Int)).bind fun b4=>some (YP (YP b (Int.toNat (ay (aO.1 - (ay (2*aO.2.2))))) b3.length bF) (Int.toNat (ay (aO.1 - aO.2.2))) b4.length aF,(0:Int))))
noncomputable def pY (k_:Int)(aT:Int)(dA:Int)(aU:Int)(aY:Int)(cZ:UInt32)(aJ:UInt64)(bH:UInt32)(aB:Int)(bn:Int)(bF:List UInt8)(aF:List UInt8):Option (List UInt8×Int) :=
  (o9 k_ aT dA aU aY cZ aJ bH aB bn bF aF).bind fun r_=>if r_≠0 then(some (([]:List UInt8),r_)) else((oZ k_).bind fun aO=>(need ((0:Int)<=aO.1/\(aO.1:Int)<=aO.1/\Int.toNat aO.1*1<=140737488355328)).bind fun u=>(uJ k_).bind fun dL=>aZ (rJ aT dA aU aY cZ aJ bH aB bn bF aF aO dL) (List.replicate (Int.toNat aO.1) (0:UInt8),(0:Int)))
noncomputable def Hl  : Option (Vec UInt64 8) :=
  some (⟨[(7640891576956012808:UInt64),(13503953896175478587:UInt64),(4354685564936845355:UInt64),(11912009170470909681:UInt64),(5840696475078001361:UInt64),(11170449401992604703:UInt64),(2270897969802886507:UInt64),(6620516959819538809:UInt64)],rfl⟩:Vec UInt64 8)
noncomputable def Fj (b:List UInt8)(at_:Int)(n:Int):(UInt64×Int)->Option ((UInt64×Int)⊕(UInt64×Int))
  | (w_,aW)=>if aW < n then((aV b (ay (at_+aW))).bind fun iL=>(need (0<=ay (8*aW))).bind fun u=>some (.inl (w_|||(Dn (UInt64.ofNat iL.toNat) (Int.toNat (ay (8*aW)))),ay (aW+1)))) else(Option.map Sum.inr (some (w_,(0:Int))))
noncomputable def zM (b:List UInt8)(at_:Int)(n:Int):Option (UInt64×Int) :=
  if at_ < 0 then(some ((0:UInt64),(1:Int))) else(if((decide (((b.length:Nat):Int) < at_))||(decide ((ay (((b.length:Nat):Int) - at_)) < n)))=true then(some ((0:UInt64),(3:Int))) else(aZ (Fj b at_ n) ((0:UInt64),(0:Int))))
noncomputable def kM (b:List UInt8)(at_:Int):Option (UInt64×Int) :=
  (zM b at_ (8:Int)).bind fun r_=>some (r_.1,r_.2)
noncomputable def Eg (block:List UInt8):(Vec UInt64 8×Int)->Option ((Vec UInt64 8×Int)⊕(Vec UInt64 8×Int))
  | (h,aW)=>if aW < 8 then((kM block (ay (8*aW))).bind fun aO=>(aV h.l aW).bind fun iL=>(aV h.l aW).bind fun jG=>(some (lZ h aW (iL^^^aO.1))).bind fun v=>some (.inl (v,ay (aW+1)))) else(Option.map Sum.inr (some (h,(0:Int))))
noncomputable def Ak (block:List UInt8):Option (Vec UInt64 8×Int) :=
  if((block.length:Nat):Int)≠64 then(some ((Vec.rep 8 ((0:UInt64):UInt64)),(1:Int))) else((Hl).bind fun r_=>aZ (Eg block) (r_,(0:Int)))
noncomputable def TP (b:List UInt8)(n:Int):Option Int :=
  if((b.length:Nat):Int) < n then(some (3:Int)) else(if n < ((b.length:Nat):Int) then(some (2:Int)) else(some (0:Int)))
noncomputable def RH (b:List UInt8)(at_:Int):Option (UInt32×Int) :=
  (zM b at_ (4:Int)).bind fun r_=>some (UInt32.ofNat r_.1.toNat,r_.2)
noncomputable def O8 (m_:List UInt32)(b:List UInt8):(List UInt32×Int)->Option ((List UInt32×Int)⊕(List UInt32))
  | (wO,aW)=>if aW < ((m_.length:Nat):Int) then((RH b (ay (4*aW))).bind fun r_=>(aV wO aW).bind fun x_1=>some (.inl (wO.set (Int.toNat aW) r_.1,ay (aW+1)))) else(Option.map Sum.inr (some wO))
noncomputable def TQ (m_:List UInt32)(b:List UInt8):Option (List UInt32) :=
  aZ (O8 m_ b) (m_,(0:Int))
noncomputable def Z8  : Option (Vec UInt32 8) :=
  some (⟨[(1779033703:UInt32),(3144134277:UInt32),(1013904242:UInt32),(2773480762:UInt32),(1359893119:UInt32),(2600822924:UInt32),(528734635:UInt32),(1541459225:UInt32)],rfl⟩:Vec UInt32 8)
noncomputable def O9 (aO:(List UInt32)):(Vec UInt32 8×Int)->Option ((Vec UInt32 8×Int)⊕(Vec UInt32 8×Int))
  | (h,aW)=>if aW < 8 then((aV h.l aW).bind fun iL=>(aV (Vec.of 8 aO).l aW).bind fun jG=>(aV h.l aW).bind fun kN=>(some (lZ h aW (iL^^^jG))).bind fun v=>some (.inl (v,ay (aW+1)))) else(Option.map Sum.inr (some (h,(0:Int))))
noncomputable def m_mixs_Start (block:List UInt8):Option (Vec UInt32 8×Int) :=
  (TP block (32:Int)).bind fun r_=>if r_≠0 then(some ((Vec.rep 8 ((0:UInt32):UInt32)),r_)) else((TQ ((Vec.rep 8 (0:UInt32)).l) block).bind fun aO=>(Z8).bind fun dL=>aZ (O9 aO) (dL,(0:Int)))
noncomputable def EH (k_:Int)(block:List UInt8):Option (Vec UInt64 8×List UInt8) :=
  if k_=1 then((Ak block).bind fun r_=>some (r_.1,([]:List UInt8))) else none
noncomputable def tX (k_:Int):Option Int :=
  if k_=1 then(some (128:Int)) else(some (64:Int))
noncomputable def vP (b:List UInt8)(n:Int):Option (List UInt8) :=
  (need ((0:Int)<=(0:Int)/\((0:Int):Int)<=n/\Int.toNat n*1<=140737488355328)).bind fun u=>(app (List.replicate (Int.toNat (0:Int)) (0:UInt8)) b 1).bind fun b1=>(appz b1 (ay (n - ((b.length:Nat):Int))) (0:UInt8) 1).bind fun b2=>some b2
noncomputable def zA (IZ:UInt64)(I4:UInt64)(n:UInt64):Option (UInt64×UInt64×Bool) :=
  (Vt IZ n (0:UInt64)).bind fun r_=>(Vt I4 (0:UInt64) r_.2).bind fun aO=>some (r_.1,aO.1,decide (aO.2=1))
noncomputable def y9 (b:List UInt8):(Vec UInt64 16×Int)->Option ((Vec UInt64 16×Int)⊕(Vec UInt64 16×Int))
  | (m_,aW)=>if aW < 16 then((kM b (ay (8*aW))).bind fun r_=>(aV m_.l aW).bind fun iL=>(some (lZ m_ aW r_.1)).bind fun v=>some (.inl (v,ay (aW+1)))) else(Option.map Sum.inr (some (m_,(0:Int))))
noncomputable def Am (b:List UInt8):Option (Vec UInt64 16×Int) :=
  if((b.length:Nat):Int)≠128 then(some ((Vec.rep 16 (0:UInt64)),(1:Int))) else(aZ (y9 b) ((Vec.rep 16 (0:UInt64)),(0:Int)))
noncomputable def Ap (v4:Vec UInt64 16):Option (Vec UInt64 16) :=
  some v4
noncomputable def Aq (node:Bool)(v2:Vec UInt64 16):Option (Vec UInt64 16) :=
  if node=true then((aV v2.l (15:Int)).bind fun mF=>(aV v2.l (15:Int)).bind fun qH=>(some (lZ v2 (15:Int) (18446744073709551615^^^mF))).bind fun v5=>Ap v5) else(Ap v2)
noncomputable def Gi (h:Vec UInt64 8)(mG:UInt64)(mJ:UInt64)(last:Bool)(node:Bool):Option (Vec UInt64 16) :=
  (G6 ((Vec.rep 16 (0:UInt64)).l) 0 (8:Int)).bind fun b=>(Hl).bind fun r_=>(G6 ((Vb (Vec.rep 16 (0:UInt64)) 0 b.length h.l).l) (8:Int) ((16:Nat):Int)).bind fun b1=>(aV (Vb (Vb (Vec.rep 16 (0:UInt64)) 0 b.length h.l) (Int.toNat (8:Int)) b1.length r_.l).l (12:Int)).bind fun aW=>(aV (Vb (Vb (Vec.rep 16 (0:UInt64)) 0 b.length h.l) (Int.toNat (8:Int)) b1.length r_.l).l (12:Int)).bind fun x_1=>(some (lZ (Vb (Vb (Vec.rep 16 (0:UInt64)) 0 b.length h.l) (Int.toNat (8:Int)) b1.length r_.l) (12:Int) (aW^^^mG))).bind fun v=>(aV v.l (13:Int)).bind fun iL=>(aV v.l (13:Int)).bind fun jG=>(some (lZ v (13:Int) (iL^^^mJ))).bind fun v1=>if last=true then((aV v1.l (14:Int)).bind fun kN=>(aV v1.l (14:Int)).bind fun lJ=>(some (lZ v1 (14:Int) (18446744073709551615^^^kN))).bind fun v3=>Aq node v3) else(Aq node v1)
noncomputable def EI (round:Int):Option (Vec Int 16) :=
  (aV (⟨[(⟨[(0:Int),(1:Int),(2:Int),(3:Int),(4:Int),(5:Int),(6:Int),(7:Int),(8:Int),(9:Int),(10:Int),(11:Int),(12:Int),(13:Int),(14:Int),(15:Int)],rfl⟩:Vec Int 16),(⟨[(14:Int),(10:Int),(4:Int),(8:Int),(9:Int),(15:Int),(13:Int),(6:Int),(1:Int),(12:Int),(0:Int),(2:Int),(11:Int),(7:Int),(5:Int),(3:Int)],rfl⟩:Vec Int 16),(⟨[(11:Int),(8:Int),(12:Int),(0:Int),(5:Int),(2:Int),(15:Int),(13:Int),(10:Int),(14:Int),(3:Int),(6:Int),(7:Int),(1:Int),(9:Int),(4:Int)],rfl⟩:Vec Int 16),(⟨[(7:Int),(9:Int),(3:Int),(1:Int),(13:Int),(12:Int),(11:Int),(14:Int),(2:Int),(6:Int),(5:Int),(10:Int),(4:Int),(0:Int),(15:Int),(8:Int)],rfl⟩:Vec Int 16),(⟨[(9:Int),(0:Int),(5:Int),(7:Int),(2:Int),(4:Int),(10:Int),(15:Int),(14:Int),(1:Int),(11:Int),(12:Int),(6:Int),(8:Int),(3:Int),(13:Int)],rfl⟩:Vec Int 16),(⟨[(2:Int),(12:Int),(6:Int),(10:Int),(0:Int),(11:Int),(8:Int),(3:Int),(4:Int),(13:Int),(7:Int),(5:Int),(15:Int),(14:Int),(1:Int),(9:Int)],rfl⟩:Vec Int 16),(⟨[(12:Int),(5:Int),(1:Int),(15:Int),(14:Int),(13:Int),(4:Int),(10:Int),(0:Int),(7:Int),(6:Int),(3:Int),(9:Int),(2:Int),(8:Int),(11:Int)],rfl⟩:Vec Int 16),(⟨[(13:Int),(11:Int),(7:Int),(14:Int),(12:Int),(1:Int),(3:Int),(9:Int),(5:Int),(0:Int),(15:Int),(4:Int),(8:Int),(6:Int),(2:Int),(10:Int)],rfl⟩:Vec Int 16),(⟨[(6:Int),(15:Int),(14:Int),(9:Int),(11:Int),(3:Int),(0:Int),(8:Int),(12:Int),(2:Int),(13:Int),(7:Int),(1:Int),(4:Int),(10:Int),(5:Int)],rfl⟩:Vec Int 16),(⟨[(10:Int),(2:Int),(8:Int),(4:Int),(7:Int),(6:Int),(1:Int),(5:Int),(15:Int),(11:Int),(9:Int),(14:Int),(3:Int),(12:Int),(13:Int),(0:Int)],rfl⟩:Vec Int 16)],rfl⟩:Vec (Vec Int 16) 10).l (Int.tmod (ay ((Int.tmod round 10)+10)) 10)).bind fun aW=>some aW
noncomputable def CW  : Option (Vec (Vec Int 4) 8) :=
  some (⟨[(⟨[(0:Int),(4:Int),(8:Int),(12:Int)],rfl⟩:Vec Int 4),(⟨[(1:Int),(5:Int),(9:Int),(13:Int)],rfl⟩:Vec Int 4),(⟨[(2:Int),(6:Int),(10:Int),(14:Int)],rfl⟩:Vec Int 4),(⟨[(3:Int),(7:Int),(11:Int),(15:Int)],rfl⟩:Vec Int 4),(⟨[(0:Int),(5:Int),(10:Int),(15:Int)],rfl⟩:Vec Int 4),(⟨[(1:Int),(6:Int),(11:Int),(12:Int)],rfl⟩:Vec Int 4),(⟨[(2:Int),(7:Int),(8:Int),(13:Int)],rfl⟩:Vec Int 4),(⟨[(3:Int),(4:Int),(9:Int),(14:Int)],rfl⟩:Vec Int 4)],rfl⟩:Vec (Vec Int 4) 8)
noncomputable def gq (x_:UInt64)(k_:Int):Option UInt64 :=
  some ((Dn x_ (((UInt64.ofInt k_)&&&63).toNat))|||(iH x_ (((64:UInt64) - ((UInt64.ofInt k_)&&&63)).toNat)))
noncomputable def Dz (v:Vec UInt64 16)(p:Vec Int 4)(x_:UInt64)(y_:UInt64):Option (Vec UInt64 16) :=
  (aV p.l (0:Int)).bind fun iL=>(aV p.l (1:Int)).bind fun jG=>(aV p.l (2:Int)).bind fun kN=>(aV p.l (3:Int)).bind fun lJ=>(aV v.l iL).bind fun mF=>(aV v.l jG).bind fun qH=>(aV v.l iL).bind fun GL=>(some (lZ v iL (mF+(qH+x_)))).bind fun v1=>(aV v1.l lJ).bind fun BZ=>(aV v1.l iL).bind fun wH=>(gq (BZ^^^wH) (-32:Int)).bind fun r_=>(aV v1.l lJ).bind fun mM=>(some (lZ v1 lJ r_)).bind fun v2=>(aV v2.l kN).bind fun EJ=>(aV v2.l lJ).bind fun jy=>(aV v2.l kN).bind fun MK=>(some (lZ v2 kN (EJ+jy))).bind fun v3=>(aV v3.l jG).bind fun I5=>(aV v3.l kN).bind fun Lu=>(gq (I5^^^Lu) (-24:Int)).bind fun aO=>(aV v3.l jG).bind fun TR=>(some (lZ v3 jG aO)).bind fun v4=>(aV v4.l iL).bind fun I7=>(aV v4.l jG).bind fun N9=>(aV v4.l iL).bind fun x_20=>(some (lZ v4 iL (I7+(N9+y_)))).bind fun v5=>(aV v5.l lJ).bind fun O_=>(aV v5.l iL).bind fun Qo=>(gq (O_^^^Qo) (-16:Int)).bind fun dL=>(aV v5.l lJ).bind fun x_23=>(some (lZ v5 lJ dL)).bind fun v6=>(aV v6.l kN).bind fun Pe=>(aV v6.l lJ).bind fun Qp=>(aV v6.l kN).bind fun x_26=>(some (lZ v6 kN (Pe+Qp))).bind fun v7=>(aV v7.l jG).bind fun x_27=>(aV v7.l kN).bind fun x_28=>(gq (x_27^^^x_28) (-63:Int)).bind fun fP=>(aV v7.l jG).bind fun x_29=>(some (lZ v7 jG fP)).bind fun v8=>some v8
noncomputable def Fp (m_:Vec UInt64 16)(r_:(Vec Int 16))(aO:(Vec (Vec Int 4) 8)):(Vec UInt64 16×Int)->Option ((Vec UInt64 16×Int)⊕(Vec UInt64 16×Vec UInt64 16))
  | (v1,aW)=>if aW < 8 then((aV aO.l aW).bind fun iL=>(aV r_.l (ay (2*aW))).bind fun jG=>(aV m_.l jG).bind fun kN=>(aV r_.l (ay ((ay (2*aW))+1))).bind fun lJ=>(aV m_.l lJ).bind fun mF=>(Dz v1 iL kN mF).bind fun dL=>some (.inl (dL,ay (aW+1)))) else(Option.map Sum.inr (some (v1,m_)))
noncomputable def DC (v:Vec UInt64 16)(m_:Vec UInt64 16)(round:Int):Option (Vec UInt64 16×Vec UInt64 16) :=
  (EI round).bind fun r_=>(CW).bind fun aO=>aZ (Fp m_ r_ aO) (v,(0:Int))
noncomputable def Gj (v:Vec UInt64 16):(Vec UInt64 8×Int)->Option ((Vec UInt64 8×Int)⊕(Vec UInt64 8))
  | (h1,x_1)=>if x_1 < 8 then((aV h1.l x_1).bind fun iL=>(aV v.l x_1).bind fun jG=>(aV v.l (ay (x_1+8))).bind fun kN=>(aV h1.l x_1).bind fun lJ=>(some (lZ h1 x_1 (iL^^^(jG^^^kN)))).bind fun v1=>some (.inl (v1,ay (x_1+1)))) else(Option.map Sum.inr (some h1))
noncomputable def Gl (h:Vec UInt64 8):(Vec UInt64 16×Vec UInt64 16×Int)->Option ((Vec UInt64 16×Vec UInt64 16×Int)⊕(Vec UInt64 8))
  | (wO,v,aW)=>if aW < 12 then((DC v wO aW).bind fun aO=>some (.inl (aO.2,aO.1,ay (aW+1)))) else(Option.map Sum.inr (aZ (Gj v) (h,(0:Int))))
noncomputable def Jl (h:Vec UInt64 8)(m_:Vec UInt64 16)(mG:UInt64)(mJ:UInt64)(last:Bool)(node:Bool):Option (Vec UInt64 8) :=
  (Gi h mG mJ last node).bind fun r_=>aZ (Gl h) (m_,r_,(0:Int))
noncomputable def vS (h:Vec UInt64 8)(b:List UInt8)(IZ:UInt64)(I4:UInt64)(last:Bool)(node:Bool):Option (Vec UInt64 8) :=
  (Am b).bind fun r_=>(Jl h r_.1 IZ I4 last node).bind fun aO=>some aO
noncomputable def ji (fC:Int)(b1:List UInt8)(GL:Vec UInt64 8)(BZ:UInt64)(wH:UInt64)(mM:List UInt8):Option ((Vec UInt64 8×UInt64×UInt64×List UInt8×List UInt8)⊕(Vec UInt64 8×UInt64×UInt64×List UInt8×Int)) :=
  (G6 b1 0 (if ay (fC - ((mM.length:Nat):Int)) < ((b1.length:Nat):Int) then ay (fC - ((mM.length:Nat):Int)) else((b1.length:Nat):Int))).bind fun b3=>(app mM b3 1).bind fun b4=>(G6 b1 (if ay (fC - ((mM.length:Nat):Int)) < ((b1.length:Nat):Int) then ay (fC - ((mM.length:Nat):Int)) else((b1.length:Nat):Int)) ((b1.length:Nat):Int)).bind fun b5=>some (.inl (GL,BZ,wH,b4,b5))
noncomputable def oL (fC:Int):(Vec UInt64 8×UInt64×UInt64×List UInt8×List UInt8)->Option ((Vec UInt64 8×UInt64×UInt64×List UInt8×List UInt8)⊕(Vec UInt64 8×UInt64×UInt64×List UInt8×Int))
  | (aW,lJ,mF,qH,b1)=>if 0 < ((b1.length:Nat):Int) then(if((qH.length:Nat):Int)=fC then((zA lJ mF (UInt64.ofInt fC)).bind fun r_=>(vS aW qH r_.1 r_.2.1 false false).bind fun aO=>(G6 qH 0 (0:Int)).bind fun b2=>ji fC b1 aO r_.1 r_.2.1 b2) else(ji fC b1 aW lJ mF qH)) else(Option.map Sum.inr (some (aW,lJ,mF,qH,fC)))
noncomputable def jQ (VF:Vec UInt64 8)(kX:UInt64)(kY:UInt64)(qO:List UInt8)(fC:Int)(b:List UInt8):Option (Vec UInt64 8×UInt64×UInt64×List UInt8×Int) :=
  aZ (oL fC) (VF,kX,kY,qO,b)
noncomputable def rM (sK:Int)(p_:Int)(jk:List UInt8)(jH:List UInt8)(B_:Bool)(pI:UInt64):Option (Int×Int×List UInt8×List UInt8×Vec UInt64 8×UInt64×UInt64×List UInt8×Int) :=
  (EH sK jk).bind fun r_=>if 0 < ((jH.length:Nat):Int) then((tX sK).bind fun aO=>(vP jH aO).bind fun dL=>(jQ r_.1 (0:UInt64) (0:UInt64) r_.2 (128:Int) dL).bind fun fP=>some (sK,p_,jk,jH,fP.1,fP.2.1,fP.2.2.1,fP.2.2.2.1,fP.2.2.2.2)) else(some (sK,p_,jk,jH,r_.1,(0:UInt64),(0:UInt64),r_.2,(128:Int)))
noncomputable def Gm (k_:Int)(block:List UInt8)(digest:Int)(key:List UInt8):Option (Int×Int×List UInt8×List UInt8×Vec UInt64 8×UInt64×UInt64×List UInt8×Int) :=
  (app ([]:List UInt8) block 1).bind fun b=>(app ([]:List UInt8) key 1).bind fun b1=>(rM k_ digest b b1 false (0:UInt64)).bind fun r_=>some (r_.1,r_.2.1,r_.2.2.1,r_.2.2.2.1,r_.2.2.2.2.1,r_.2.2.2.2.2.1,r_.2.2.2.2.2.2.1,r_.2.2.2.2.2.2.2.1,r_.2.2.2.2.2.2.2.2)
noncomputable def Ij (k_:Int)(aT:Int)(dA:Int)(aU:Int)(aY:Int)(cZ:UInt32)(aJ:UInt64)(bH:UInt32)(aB:Int)(bn:Int)(bF:List UInt8)(aF:List UInt8)(key:List UInt8):Option (Int⊕(Int×Int×List UInt8×List UInt8×Vec UInt64 8×UInt64×UInt64×List UInt8×Int)) :=
  (pY k_ aT dA aU aY cZ aJ bH aB bn bF aF).bind fun r_=>if r_.2≠0 then(some (Sum.inl r_.2)) else(if((decide (((key.length:Nat):Int)≠0))&&(decide (((key.length:Nat):Int)≠dA)))=true then(some (Sum.inl (8:Int))) else((Gm k_ r_.1 aT key).bind fun aO=>some (Sum.inr (aO.1,aO.2.1,aO.2.2.1,aO.2.2.2.1,aO.2.2.2.2.1,aO.2.2.2.2.2.1,aO.2.2.2.2.2.2.1,aO.2.2.2.2.2.2.2.1,aO.2.2.2.2.2.2.2.2))))
noncomputable def xX (sK:Int)(p_:Int)(jk:List UInt8)(jH:List UInt8)(B_:Bool)(pI:UInt64)(ML:Vec UInt64 8)(oM:UInt64)(oN:UInt64)(Ar:List UInt8)(xY:Int):Option (Vec UInt64 8×UInt64×UInt64×List UInt8×Int×Int×Int×List UInt8×List UInt8×Bool×UInt64) :=
  some (ML,oM,oN,Ar,xY,sK,p_,jk,jH,B_,pI)
noncomputable def Au (w_:UInt64):(List UInt8×Int)->Option ((List UInt8×Int)⊕(List UInt8))
  | (b,aW)=>if aW < 8 then((need (0<=ay (8*aW))).bind fun u=>(aV b aW).bind fun x_1=>some (.inl (b.set (Int.toNat aW) (UInt8.ofNat (iH w_ (Int.toNat (ay (8*aW)))).toNat),ay (aW+1)))) else(Option.map Sum.inr (some b))
noncomputable def tY (w_:UInt64):Option (List UInt8) :=
  aZ (Au w_) (List.replicate (Int.toNat (8:Int)) (0:UInt8),(0:Int))
noncomputable def Eh (h:Vec UInt64 8):(List UInt8×Int)->Option ((List UInt8×Int)⊕(List UInt8))
  | (b,aW)=>if aW < 8 then((aV h.l aW).bind fun x_1=>(tY x_1).bind fun r_=>(app b r_ 1).bind fun b1=>some (.inl (b1,ay (aW+1)))) else(Option.map Sum.inr (some b))
noncomputable def Aw (h:Vec UInt64 8):Option (List UInt8) :=
  aZ (Eh h) (List.replicate (Int.toNat (0:Int)) (0:UInt8),(0:Int))
noncomputable def ni (VF:Vec UInt64 8)(kX:UInt64)(kY:UInt64)(qO:List UInt8)(fC:Int)(node:Bool)(c0:UInt64)(c2:UInt64):Option (List UInt8×Vec UInt64 8×UInt64×UInt64×List UInt8×Int) :=
  (vP qO fC).bind fun aO=>(vS VF aO c0 c2 true node).bind fun dL=>(Aw dL).bind fun fP=>some (fP,VF,kX,kY,qO,fC)
noncomputable def mO (VF:Vec UInt64 8)(kX:UInt64)(kY:UInt64)(qO:List UInt8)(fC:Int)(node:Bool):Option (List UInt8×Vec UInt64 8×UInt64×UInt64×List UInt8×Int) :=
  (zA kX kY (UInt64.ofInt ((qO.length:Nat):Int))).bind fun r_=>ni VF kX kY qO fC node r_.1 r_.2.1
noncomputable def ve (sK:Int)(p_:Int)(jk:List UInt8)(jH:List UInt8)(B_:Bool)(pI:UInt64)(ML:Vec UInt64 8)(oM:UInt64)(oN:UInt64)(Ar:List UInt8)(xY:Int)(most:Int):Option (List UInt8×Int×Vec UInt64 8×UInt64×UInt64×List UInt8×Int×Int×Int×List UInt8×List UInt8×Bool×UInt64) :=
  (xX sK p_ jk jH B_ pI ML oM oN Ar xY).bind fun r_=>if most < 1 then(some (([]:List UInt8),(1:Int),r_.1,r_.2.1,r_.2.2.1,r_.2.2.2.1,r_.2.2.2.2.1,r_.2.2.2.2.2.1,r_.2.2.2.2.2.2.1,r_.2.2.2.2.2.2.2.1,r_.2.2.2.2.2.2.2.2.1,r_.2.2.2.2.2.2.2.2.2.1,r_.2.2.2.2.2.2.2.2.2.2)) else((tX r_.2.2.2.2.2.1).bind fun aO=>if(ay (Int.tdiv aO 2)) < most then(some (([]:List UInt8),(1:Int),r_.1,r_.2.1,r_.2.2.1,r_.2.2.2.1,r_.2.2.2.2.1,r_.2.2.2.2.2.1,r_.2.2.2.2.2.2.1,r_.2.2.2.2.2.2.2.1,r_.2.2.2.2.2.2.2.2.1,r_.2.2.2.2.2.2.2.2.2.1,r_.2.2.2.2.2.2.2.2.2.2)) else((mO r_.1 r_.2.1 r_.2.2.1 r_.2.2.2.1 r_.2.2.2.2.1 r_.2.2.2.2.2.2.2.2.2.1).bind fun dL=>(G6 dL.1 0 most).bind fun b=>(need (most<=most/\most<=((dL.1.length:Nat):Int))).bind fun u=>some (b,(0:Int),dL.2.1,dL.2.2.1,dL.2.2.2.1,dL.2.2.2.2.1,dL.2.2.2.2.2,r_.2.2.2.2.2.1,r_.2.2.2.2.2.2.1,r_.2.2.2.2.2.2.2.1,r_.2.2.2.2.2.2.2.2.1,r_.2.2.2.2.2.2.2.2.2.1,r_.2.2.2.2.2.2.2.2.2.2)))
noncomputable def rO (k_:Int)(aT:Int)(dA:Int)(aU:Int)(aY:Int)(cZ:UInt32)(aJ:UInt64)(bH:UInt32)(aB:Int)(bn:Int)(bF:List UInt8)(aF:List UInt8)(key:List UInt8)(last:Bool)(out:Int)(data:List UInt8):Option (List UInt8×Int) :=
  (Ij k_ aT dA aU aY cZ aJ bH aB bn bF aF key).bind fun r_=>(Sum.elim (fun aO=>if aO≠0 then(some (([]:List UInt8),aO)) else none) (fun dL=>if 0≠0 then(some (([]:List UInt8),(0:Int))) else((jQ dL.2.2.2.2.1 dL.2.2.2.2.2.1 dL.2.2.2.2.2.2.1 dL.2.2.2.2.2.2.2.1 dL.2.2.2.2.2.2.2.2 data).bind fun fP=>(ve dL.1 dL.2.1 dL.2.2.1 dL.2.2.2.1 last (0:UInt64) fP.1 fP.2.1 fP.2.2.1 fP.2.2.2.1 fP.2.2.2.2 out).bind fun iP=>some (iP.1,iP.2.1)))) r_
noncomputable def EK (k_:Int)(n:Int)(key:List UInt8)(aQ:List UInt8)(ja:List UInt8)(data:List UInt8):Option (List UInt8×Int) :=
  (EG k_).bind fun r_=>if r_.2≠0 then(some (([]:List UInt8),(1:Int))) else((o9 k_ n ((key.length:Nat):Int) (1:Int) (1:Int) (0:UInt32) (0:UInt64) (0:UInt32) (0:Int) (0:Int) aQ ja).bind fun aO=>if aO≠0 then(some (([]:List UInt8),aO)) else((rO k_ n ((key.length:Nat):Int) (1:Int) (1:Int) (0:UInt32) (0:UInt64) (0:UInt32) (0:Int) (0:Int) aQ ja key false n data).bind fun dL=>some (dL.1,dL.2)))
noncomputable def qf (kind:Int):Option Int :=
  if kind=1 then(some (64:Int)) else(if kind=2 then(some (32:Int)) else(some (0:Int)))
noncomputable def jm (kind:Int)(aT:Int)(dA:Int)(aU:Int)(aY:Int)(cZ:UInt32)(aJ:UInt64)(bH:UInt32)(aB:Int)(bn:Int)(bF:List UInt8)(aF:List UInt8):Option Int :=
  (qf kind).bind fun r_=>if r_=0 then(some (1:Int)) else(if((decide (aT < 1))||(decide (r_ < aT)))=true then(some (20:Int)) else(if((decide (dA < 0))||(decide (r_ < dA)))=true then(some (8:Int)) else(if((decide (aU < 0))||(decide (255 < aU)))=true then(some (21:Int)) else(if(((decide (aY < 0))||(decide (255 < aY)))||((decide (aY=0))&&(decide (bH=0))))=true then(some (22:Int)) else(if(((decide (bH≠0))&&(decide ((4294967295:UInt64) < aJ)))||(((decide (bH=0))&&(decide (kind=2)))&&(decide ((281474976710655:UInt64) < aJ))))=true then(some (23:Int)) else(if((decide (kind=2))&&(decide ((65535:UInt32) < bH)))=true then(some (24:Int)) else(if((decide (aB < 0))||(decide (255 < aB)))=true then(some (25:Int)) else(if((decide (bn < 0))||(decide (r_ < bn)))=true then(some (26:Int)) else(if(ay (Int.tdiv r_ 4)) < ((bF.length:Nat):Int) then(some (27:Int)) else(if(ay (Int.tdiv r_ 4)) < ((aF.length:Nat):Int) then(some (28:Int)) else(some (0:Int))))))))))))
noncomputable def wY (kind:Int):Option Int :=
  if kind=1 then(some (128:Int)) else(some (64:Int))
noncomputable def Az (i:Int)(b1:List UInt8):Option ((List UInt8×Int)⊕(List UInt8)) :=
  some (.inl (b1,ay (i+1)))
noncomputable def wZ (b:List UInt8)(i:Int)(c2:UInt8):Option ((List UInt8×Int)⊕(List UInt8)) :=
  (app b ([c2]:List UInt8) 1).bind fun b2=>Az i b2
noncomputable def xe (kind:Int)(key:List UInt8):(List UInt8×Int)->Option ((List UInt8×Int)⊕(List UInt8))
  | (b,i)=>(wY kind).bind fun r_=>if i < r_ then(if i < ((key.length:Nat):Int) then((aV key i).bind fun aW=>wZ b i aW) else(wZ b i (0:UInt8))) else(Option.map Sum.inr (some b))
noncomputable def zN (kind:Int)(key:List UInt8):Option (List UInt8) :=
  if((key.length:Nat):Int)=0 then(some ([]:List UInt8)) else(aZ (xe kind key) (([]:List UInt8),(0:Int)))
noncomputable def J5 (kind:Int)(aT:Int)(dA:Int)(aU:Int)(aY:Int)(cZ:UInt32)(aJ:UInt64)(bH:UInt32)(aB:Int)(bn:Int)(bF:List UInt8)(aF:List UInt8)(key:List UInt8):Option (Int⊕(Int×Int×Int×Int×Int×UInt32×UInt64×UInt32×Int×Int×Vec UInt64 16×List UInt8)) :=
  (jm kind aT dA aU aY cZ aJ bH aB bn bF aF).bind fun r_=>if r_≠0 then(some (Sum.inl r_)) else(if((decide (((key.length:Nat):Int)≠0))&&(decide (((key.length:Nat):Int)≠dA)))=true then(some (Sum.inl (8:Int))) else((zN kind key).bind fun aO=>some (Sum.inr (kind,aT,dA,aU,aY,cZ,aJ,bH,aB,bn,(Vec.rep 16 (0:UInt64)),aO))))
noncomputable def zB (kind:Int):Option Int :=
  if kind=1 then(some (64:Int)) else(some (32:Int))
noncomputable def sZ (lH:Int)(gK:Int)(jX:Int)(gQ:Int)(iE:Int)(jb:UInt32)(gW:UInt64)(jY:UInt32)(dZ:Int)(iF:Int)(nX:Bool)(kR:Vec UInt64 16)(rP:Bool)(DD:UInt64)(DF:UInt64)(jZ:UInt64)(b:List UInt8):(List UInt8×Int)->Option ((List UInt8×Int)⊕(Int×Int×Int×Int×Int×UInt32×UInt64×UInt32×Int×Int×Bool×Vec UInt64 16×Bool×UInt64×UInt64×List UInt8×UInt64))
  | (n0,i)=>if i < ((b.length:Nat):Int) then((aV b i).bind fun aW=>(app n0 ([aW]:List UInt8) 1).bind fun b1=>some (.inl (b1,ay (i+1)))) else(Option.map Sum.inr (some (lH,gK,jX,gQ,iE,jb,gW,jY,dZ,iF,nX,kR,rP,DD,DF,n0,jZ+(UInt64.ofInt ((b.length:Nat):Int)))))
noncomputable def tZ (lH:Int)(gK:Int)(jX:Int)(gQ:Int)(iE:Int)(jb:UInt32)(gW:UInt64)(jY:UInt32)(dZ:Int)(iF:Int)(jA:List UInt8)(fH:List UInt8)(wP:List UInt8)(nX:Bool)(kR:Vec UInt64 16)(rP:Bool)(DD:UInt64)(DF:UInt64)(vg:List UInt8)(jZ:UInt64)(b:List UInt8):Option (Int×Int×Int×Int×Int×UInt32×UInt64×UInt32×Int×Int×Bool×Vec UInt64 16×Bool×UInt64×UInt64×List UInt8×UInt64) :=
  aZ (sZ lH gK jX gQ iE jb gW jY dZ iF nX kR rP DD DF jZ b) (vg,(0:Int))
noncomputable def LC (kind:Int):Option Int :=
  (qf kind).bind fun r_=>some r_
noncomputable def Gn (kind:Int)(field:Int):Option (Int×Int) :=
  if((decide (1<=field))&&(decide (field<=4)))=true then(some (ay (field - 1),(1:Int))) else(if field=5 then(some ((4:Int),(4:Int))) else(if((decide (field=6))&&(decide (kind=1)))=true then(some ((8:Int),(8:Int))) else(if field=6 then(some ((8:Int),(6:Int))) else(if((decide (field=7))&&(decide (kind=1)))=true then(some ((12:Int),(4:Int))) else(if field=7 then(some ((12:Int),(2:Int))) else(if((decide (field=8))&&(decide (kind=1)))=true then(some ((16:Int),(1:Int))) else(if field=8 then(some ((14:Int),(1:Int))) else(if((decide (field=9))&&(decide (kind=1)))=true then(some ((17:Int),(1:Int))) else(if field=9 then(some ((15:Int),(1:Int))) else(some ((0:Int),(0:Int))))))))))))
noncomputable def EL (at_:Int)(n:Int)(v:UInt64):(List UInt8×Int)->Option ((List UInt8×Int)⊕(List UInt8))
  | (b1,i)=>if i < n then((aV b1 (ay (at_+i))).bind fun aW=>some (.inl (b1.set (Int.toNat (ay (at_+i))) (UInt8.ofNat (iH v (((8:UInt64)*(UInt64.ofInt i)).toNat)).toNat),ay (i+1)))) else(Option.map Sum.inr (some b1))
noncomputable def Hm (b:List UInt8)(at_:Int)(n:Int)(v:UInt64):Option (List UInt8) :=
  aZ (EL at_ n v) (b,(0:Int))
noncomputable def zf (f:Int)(b1:List UInt8):Option ((List UInt8×Int)⊕(List UInt8×Int)) :=
  some (.inl (b1,ay (f+1)))
noncomputable def vk (f:Int)(b2:List UInt8):Option ((List UInt8×Int)⊕(List UInt8×Int)) :=
  zf f b2
noncomputable def vw (aF:List UInt8)(iP:Int):(List UInt8×Int)->Option ((List UInt8×Int)⊕(List UInt8×Int))
  | (b4,i1)=>if i1 < ((aF.length:Nat):Int) then((aV aF i1).bind fun kN=>(aV b4 (ay ((ay (3*(ay (Int.tdiv iP 4))))+i1))).bind fun lJ=>some (.inl (b4.set (Int.toNat (ay ((ay (3*(ay (Int.tdiv iP 4))))+i1))) kN,ay (i1+1)))) else(Option.map Sum.inr (some (b4,(0:Int))))
noncomputable def vz (bF:List UInt8)(aF:List UInt8)(iP:Int):(List UInt8×Int)->Option ((List UInt8×Int)⊕(List UInt8×Int))
  | (b3,i)=>if i < ((bF.length:Nat):Int) then((aV bF i).bind fun iL=>(aV b3 (ay ((ay (2*(ay (Int.tdiv iP 4))))+i))).bind fun jG=>some (.inl (b3.set (Int.toNat (ay ((ay (2*(ay (Int.tdiv iP 4))))+i))) iL,ay (i+1)))) else(Option.map Sum.inr (aZ (vw aF iP) (b3,(0:Int))))
noncomputable def vC (kind:Int)(aT:Int)(dA:Int)(aU:Int)(aY:Int)(cZ:UInt32)(aJ:UInt64)(bH:UInt32)(aB:Int)(bn:Int)(bF:List UInt8)(aF:List UInt8):(List UInt8×Int)->Option ((List UInt8×Int)⊕(List UInt8×Int))
  | (b,f)=>if f<=9 then(if((decide (f=7))&&(decide (bH=0)))=true then(vk f b) else((Gn kind f).bind fun dL=>(aV ([UInt64.ofInt aT,UInt64.ofInt dA,UInt64.ofInt aU,UInt64.ofInt aY,UInt64.ofNat cZ.toNat,aJ,UInt64.ofNat bH.toNat,UInt64.ofInt aB,UInt64.ofInt bn]:List UInt64) (ay (f - 1))).bind fun aW=>(Hm b dL.1 dL.2 aW).bind fun fP=>vk f fP)) else(Option.map Sum.inr ((qf kind).bind fun iP=>aZ (vz bF aF iP) (b,(0:Int))))
noncomputable def mP (kind:Int)(aT:Int)(dA:Int)(aU:Int)(aY:Int)(cZ:UInt32)(aJ:UInt64)(bH:UInt32)(aB:Int)(bn:Int)(bF:List UInt8)(aF:List UInt8):Option (List UInt8×Int) :=
  (jm kind aT dA aU aY cZ aJ bH aB bn bF aF).bind fun r_=>if r_≠0 then(some (([]:List UInt8),r_)) else((LC kind).bind fun aO=>(need ((0:Int)<=aO/\(aO:Int)<=aO/\Int.toNat aO*1<=140737488355328)).bind fun u=>aZ (vC kind aT dA aU aY cZ aJ bH aB bn bF aF) (List.replicate (Int.toNat aO) (0:UInt8),(1:Int)))
noncomputable def GM (b:List UInt8)(at_:Int):(UInt64×Int)->Option ((UInt64×Int)⊕(UInt64×Int))
  | (w_,i)=>if 0<=i then((aV b (ay (at_+i))).bind fun aW=>some (.inl ((w_*256)+(UInt64.ofNat aW.toNat),ay (i - 1)))) else(Option.map Sum.inr (some (w_,(0:Int))))
noncomputable def sN (b:List UInt8)(at_:Int)(n:Int):Option (UInt64×Int) :=
  if at_ < 0 then(some ((0:UInt64),(1:Int))) else(if((decide (((b.length:Nat):Int) < at_))||(decide ((ay (((b.length:Nat):Int) - at_)) < n)))=true then(some ((0:UInt64),(3:Int))) else(aZ (GM b at_) ((0:UInt64),ay (n - 1))))
noncomputable def Jm (i:Int):Option UInt64 :=
  (aV (⟨[(7640891576956012808:UInt64),(13503953896175478587:UInt64),(4354685564936845355:UInt64),(11912009170470909681:UInt64),(5840696475078001361:UInt64),(11170449401992604703:UInt64),(2270897969802886507:UInt64),(6620516959819538809:UInt64)],rfl⟩:Vec UInt64 8).l (Int.tmod i 8)).bind fun aW=>some aW
noncomputable def AA (block:List UInt8):(Vec UInt64 8×Int)->Option ((Vec UInt64 8×Int)⊕(Vec UInt64 8×Int))
  | (h,i)=>if i < 8 then((sN block (ay (8*i)) (8:Int)).bind fun r_=>(Jm i).bind fun aO=>(aV h.l i).bind fun aW=>(some (lZ h i (aO^^^r_.1))).bind fun v=>some (.inl (v,ay (i+1)))) else(Option.map Sum.inr (some (h,(0:Int))))
noncomputable def DI (block:List UInt8):Option (Vec UInt64 8×Int) :=
  if((block.length:Nat):Int)≠64 then(some ((Vec.rep 8 (0:UInt64)),(1:Int))) else(aZ (AA block) ((Vec.rep 8 (0:UInt64)),(0:Int)))
noncomputable def tq (lH:Int)(gK:Int)(jX:Int)(gQ:Int)(iE:Int)(jb:UInt32)(gW:UInt64)(jY:UInt32)(dZ:Int)(iF:Int)(nX:Bool)(kR:Vec UInt64 16)(rP:Bool)(DD:UInt64)(DF:UInt64)(vg:List UInt8)(jZ:UInt64)(aO:(Vec UInt64 8×Int)):(Vec UInt64 16×Int)->Option ((Vec UInt64 16×Int)⊕(Vec UInt64 16×Int×Int×Int×Int×Int×UInt32×UInt64×UInt32×Int×Int×Bool×Vec UInt64 16×Bool×UInt64×UInt64×List UInt8×UInt64))
  | (h,i)=>if i < 8 then((aV aO.1.l i).bind fun aW=>(aV h.l i).bind fun I7=>(some (lZ h i aW)).bind fun v=>some (.inl (v,ay (i+1)))) else(Option.map Sum.inr (some (h,lH,gK,jX,gQ,iE,jb,gW,jY,dZ,iF,nX,kR,rP,DD,DF,vg,jZ)))
noncomputable def pJ (lH:Int)(gK:Int)(jX:Int)(gQ:Int)(iE:Int)(jb:UInt32)(gW:UInt64)(jY:UInt32)(dZ:Int)(iF:Int)(jA:List UInt8)(fH:List UInt8)(wP:List UInt8)(nX:Bool)(kR:Vec UInt64 16)(rP:Bool)(DD:UInt64)(DF:UInt64)(vg:List UInt8)(jZ:UInt64):Option (Vec UInt64 16×Int×Int×Int×Int×Int×UInt32×UInt64×UInt32×Int×Int×Bool×Vec UInt64 16×Bool×UInt64×UInt64×List UInt8×UInt64) :=
  if rP=true then(some (kR,lH,gK,jX,gQ,iE,jb,gW,jY,dZ,iF,nX,kR,rP,DD,DF,vg,jZ)) else((mP lH gK jX gQ iE jb gW jY dZ iF jA fH).bind fun r_=>if lH=1 then((DI r_.1).bind fun aO=>aZ (tq lH gK jX gQ iE jb gW jY dZ iF nX kR rP DD DF vg jZ aO) ((Vec.rep 16 (0:UInt64)),(0:Int))) else none)
noncomputable def Cb (lo:UInt64)(hi:UInt64)(n:UInt64):Option (UInt64×UInt64×Bool) :=
  if lo<=(lo+n) then(some (lo+n,hi,false)) else(some (lo+n,hi+1,decide ((hi+1)=0)))
noncomputable def EM (i:Int)(out1:List UInt8):Option ((List UInt8×Int)⊕(List UInt8)) :=
  some (.inl (out1,ay (i+1)))
noncomputable def AB (out:List UInt8)(i:Int)(c2:UInt8):Option ((List UInt8×Int)⊕(List UInt8)) :=
  (app out ([c2]:List UInt8) 1).bind fun VG=>EM i VG
noncomputable def AL (b:List UInt8)(at_:Int)(size:Int):(List UInt8×Int)->Option ((List UInt8×Int)⊕(List UInt8))
  | (out,i)=>if i < size then(if(ay (at_+i)) < ((b.length:Nat):Int) then((aV b (ay (at_+i))).bind fun aW=>AB out i aW) else(AB out i (0:UInt8))) else(Option.map Sum.inr (some out))
noncomputable def E8 (b:List UInt8)(at_:Int)(size:Int):Option (List UInt8) :=
  aZ (AL b at_ size) (([]:List UInt8),(0:Int))
noncomputable def AO (b:List UInt8):(Vec UInt64 16×Int)->Option ((Vec UInt64 16×Int)⊕(Vec UInt64 16×Int))
  | (m_,i)=>if i < 16 then((sN b (ay (8*i)) (8:Int)).bind fun r_=>(aV m_.l i).bind fun aW=>(some (lZ m_ i r_.1)).bind fun v=>some (.inl (v,ay (i+1)))) else(Option.map Sum.inr (some (m_,(0:Int))))
noncomputable def DJ (b:List UInt8):Option (Vec UInt64 16×Int) :=
  if((b.length:Nat):Int)≠128 then(some ((Vec.rep 16 (0:UInt64)),(1:Int))) else(aZ (AO b) ((Vec.rep 16 (0:UInt64)),(0:Int)))
noncomputable def CX (v7:Vec UInt64 16):Option (Vec UInt64 16) :=
  some v7
noncomputable def CY (node:Bool)(v5:Vec UInt64 16):Option (Vec UInt64 16) :=
  if node=true then((aV v5.l (15:Int)).bind fun BZ=>(aV v5.l (15:Int)).bind fun wH=>(some (lZ v5 (15:Int) (18446744073709551615^^^BZ))).bind fun v8=>CX v8) else(CX v5)
noncomputable def GN (h:Vec UInt64 8)(lo:UInt64)(hi:UInt64)(last:Bool)(node:Bool):(Vec UInt64 16×Int)->Option ((Vec UInt64 16×Int)⊕(Vec UInt64 16))
  | (v,i)=>if i < 8 then((aV h.l i).bind fun aW=>(aV v.l i).bind fun x_1=>(some (lZ v i aW)).bind fun v1=>(Jm i).bind fun r_=>(aV v1.l (ay (i+8))).bind fun iL=>(some (lZ v1 (ay (i+8)) r_)).bind fun v2=>some (.inl (v2,ay (i+1)))) else(Option.map Sum.inr ((aV v.l (12:Int)).bind fun jG=>(aV v.l (12:Int)).bind fun kN=>(some (lZ v (12:Int) (jG^^^lo))).bind fun v3=>(aV v3.l (13:Int)).bind fun lJ=>(aV v3.l (13:Int)).bind fun mF=>(some (lZ v3 (13:Int) (lJ^^^hi))).bind fun v4=>if last=true then((aV v4.l (14:Int)).bind fun qH=>(aV v4.l (14:Int)).bind fun GL=>(some (lZ v4 (14:Int) (18446744073709551615^^^qH))).bind fun v6=>CY node v6) else(CY node v4)))
noncomputable def Fq (h:Vec UInt64 8)(lo:UInt64)(hi:UInt64)(last:Bool)(node:Bool):Option (Vec UInt64 16) :=
  aZ (GN h lo hi last node) ((Vec.rep 16 (0:UInt64)),(0:Int))
noncomputable def xZ (i:Int):Option (Vec Int 4) :=
  (aV (⟨[(⟨[(0:Int),(4:Int),(8:Int),(12:Int)],rfl⟩:Vec Int 4),(⟨[(1:Int),(5:Int),(9:Int),(13:Int)],rfl⟩:Vec Int 4),(⟨[(2:Int),(6:Int),(10:Int),(14:Int)],rfl⟩:Vec Int 4),(⟨[(3:Int),(7:Int),(11:Int),(15:Int)],rfl⟩:Vec Int 4),(⟨[(0:Int),(5:Int),(10:Int),(15:Int)],rfl⟩:Vec Int 4),(⟨[(1:Int),(6:Int),(11:Int),(12:Int)],rfl⟩:Vec Int 4),(⟨[(2:Int),(7:Int),(8:Int),(13:Int)],rfl⟩:Vec Int 4),(⟨[(3:Int),(4:Int),(9:Int),(14:Int)],rfl⟩:Vec Int 4)],rfl⟩:Vec (Vec Int 4) 8).l (Int.tmod i 8)).bind fun aW=>some aW
noncomputable def CZ (r_:Int):Option Int :=
  some r_
noncomputable def Ik (n:Int)(m_:Int):Option Int :=
  (need (m_≠0)).bind fun u=>if(Int.tmod n m_) < 0 then(CZ (ay ((Int.tmod n m_)+m_))) else(CZ (Int.tmod n m_))
noncomputable def Jn (c:UInt8):Option Int :=
  if((decide ((48:UInt8)<=c))&&(decide (c<=57)))=true then(some ((c - 48).toNat:Int)) else(if((decide ((97:UInt8)<=c))&&(decide (c<=102)))=true then(some (ay (((c - 97).toNat:Int)+10))) else(if((decide ((65:UInt8)<=c))&&(decide (c<=70)))=true then(some (ay (((c - 65).toNat:Int)+10))) else(some (-1:Int))))
noncomputable def DK (round:Int)(i:Int):Option Int :=
  (Ik round (10:Int)).bind fun r_=>(aV ([48,49,50,51,52,53,54,55,56,57,97,98,99,100,101,102,101,97,52,56,57,102,100,54,49,99,48,50,98,55,53,51,98,56,99,48,53,50,102,100,97,101,51,54,55,49,57,52,55,57,51,49,100,99,98,101,50,54,53,97,52,48,102,56,57,48,53,55,50,52,97,102,101,49,98,99,54,56,51,100,50,99,54,97,48,98,56,51,52,100,55,53,102,101,49,57,99,53,49,102,101,100,52,97,48,55,54,51,57,50,56,98,100,98,55,101,99,49,51,57,53,48,102,52,56,54,50,97,54,102,101,57,98,51,48,56,99,50,100,55,49,52,97,53,97,50,56,52,55,54,49,53,102,98,57,101,51,99,100,48]:List UInt8) (ay ((ay (16*r_))+i))).bind fun c=>(Jn c).bind fun aO=>some aO
noncomputable def uC (a_:Int):Option Bool :=
  some ((decide (0<=a_))&&(decide (a_<=15)))
noncomputable def j_ (w_:UInt64)(n:Int):Option UInt64 :=
  (Ik n (64:Int)).bind fun r_=>if r_=0 then(some w_) else((need (0<=r_)).bind fun u=>(need (0<=ay (64 - r_))).bind fun u1=>some ((iH w_ (Int.toNat r_))|||(Dn w_ (Int.toNat (ay (64 - r_))))))
noncomputable def MM (v:Vec UInt64 16)(a_:Int)(b:Int)(c:Int)(d:Int)(x_:UInt64)(y_:UInt64):Option (Vec UInt64 16×Int) :=
  (uC a_).bind fun r_=>if(!r_)=true then(some ((Vec.rep 16 ((0:UInt64):UInt64)),(1:Int))) else((uC b).bind fun aO=>if(!aO)=true then(some ((Vec.rep 16 ((0:UInt64):UInt64)),(1:Int))) else((uC c).bind fun dL=>if(!dL)=true then(some ((Vec.rep 16 ((0:UInt64):UInt64)),(1:Int))) else((uC d).bind fun fP=>if(((((((!fP)||(decide (a_=b)))||(decide (a_=c)))||(decide (a_=d)))||(decide (b=c)))||(decide (b=d)))||(decide (c=d)))=true then(some ((Vec.rep 16 ((0:UInt64):UInt64)),(1:Int))) else((aV v.l a_).bind fun jG=>(aV v.l b).bind fun kN=>(aV v.l a_).bind fun lJ=>(some (lZ v a_ ((jG+kN)+x_))).bind fun v1=>(aV v1.l d).bind fun mF=>(aV v1.l a_).bind fun qH=>(j_ (mF^^^qH) (32:Int)).bind fun iP=>(aV v1.l d).bind fun GL=>(some (lZ v1 d iP)).bind fun v2=>(aV v2.l c).bind fun BZ=>(aV v2.l d).bind fun wH=>(aV v2.l c).bind fun mM=>(some (lZ v2 c (BZ+wH))).bind fun v3=>(aV v3.l b).bind fun EJ=>(aV v3.l c).bind fun jy=>(j_ (EJ^^^jy) (24:Int)).bind fun jW=>(aV v3.l b).bind fun MK=>(some (lZ v3 b jW)).bind fun v4=>(aV v4.l a_).bind fun I5=>(aV v4.l b).bind fun Lu=>(aV v4.l a_).bind fun TR=>(some (lZ v4 a_ ((I5+Lu)+y_))).bind fun v5=>(aV v5.l d).bind fun I7=>(aV v5.l a_).bind fun N9=>(j_ (I7^^^N9) (16:Int)).bind fun pV=>(aV v5.l d).bind fun x_20=>(some (lZ v5 d pV)).bind fun v6=>(aV v6.l c).bind fun O_=>(aV v6.l d).bind fun Qo=>(aV v6.l c).bind fun x_23=>(some (lZ v6 c (O_+Qo))).bind fun v7=>(aV v7.l b).bind fun Pe=>(aV v7.l c).bind fun Qp=>(j_ (Pe^^^Qp) (63:Int)).bind fun tK=>(aV v7.l b).bind fun x_26=>(some (lZ v7 b tK)).bind fun v8=>some (v8,(0:Int))))))
noncomputable def Fv (m_:Vec UInt64 16)(round:Int):(Vec UInt64 16×Int)->Option ((Vec UInt64 16×Int)⊕(Vec UInt64 16×Int))
  | (v1,i)=>if i < 8 then((xZ i).bind fun r_=>(aV r_.l (0:Int)).bind fun aW=>(aV r_.l (1:Int)).bind fun iL=>(aV r_.l (2:Int)).bind fun jG=>(aV r_.l (3:Int)).bind fun kN=>(DK round (ay (2*i))).bind fun aO=>(aV m_.l aO).bind fun lJ=>(DK round (ay ((ay (2*i))+1))).bind fun dL=>(aV m_.l dL).bind fun mF=>(MM v1 aW iL jG kN lJ mF).bind fun fP=>some (.inl (fP.1,ay (i+1)))) else(Option.map Sum.inr (some (v1,(0:Int))))
noncomputable def DL (v:Vec UInt64 16)(m_:Vec UInt64 16)(round:Int):Option (Vec UInt64 16×Int) :=
  if((decide (round < 0))||(decide (11 < round)))=true then(some ((Vec.rep 16 ((0:UInt64):UInt64)),(1:Int))) else(aZ (Fv m_ round) (v,(0:Int)))
noncomputable def Il (v:Vec UInt64 16):(Vec UInt64 8×Int)->Option ((Vec UInt64 8×Int)⊕(Vec UInt64 8))
  | (h1,i)=>if i < 8 then((aV h1.l i).bind fun aW=>(aV v.l i).bind fun x_1=>(aV v.l (ay (i+8))).bind fun iL=>(aV h1.l i).bind fun jG=>(some (lZ h1 i ((aW^^^x_1)^^^iL))).bind fun v1=>some (.inl (v1,ay (i+1)))) else(Option.map Sum.inr (some h1))
noncomputable def Io (h:Vec UInt64 8)(m_:Vec UInt64 16):(Vec UInt64 16×Int)->Option ((Vec UInt64 16×Int)⊕(Vec UInt64 8))
  | (v,aO)=>if aO < 12 then((DL v m_ aO).bind fun dL=>some (.inl (dL.1,ay (aO+1)))) else(Option.map Sum.inr (aZ (Il v) (h,(0:Int))))
noncomputable def MN (h:Vec UInt64 8)(m_:Vec UInt64 16)(lo:UInt64)(hi:UInt64)(last:Bool)(node:Bool):Option (Vec UInt64 8) :=
  (Fq h lo hi last node).bind fun r_=>aZ (Io h m_) (r_,(0:Int))
noncomputable def DN (aO:(Vec UInt64 8)):(Vec UInt64 16×Int)->Option ((Vec UInt64 16×Int)⊕(Vec UInt64 16))
  | (h1,i1)=>if i1 < 8 then((aV aO.l i1).bind fun iL=>(aV h1.l i1).bind fun jG=>(some (lZ h1 i1 iL)).bind fun v1=>some (.inl (v1,ay (i1+1)))) else(Option.map Sum.inr (some h1))
noncomputable def Gp (h:Vec UInt64 16)(b:List UInt8)(lo:UInt64)(hi:UInt64)(last:Bool)(node:Bool):(Vec UInt64 8×Int)->Option ((Vec UInt64 8×Int)⊕(Vec UInt64 16))
  | (s_,i)=>if i < 8 then((aV h.l i).bind fun aW=>(aV s_.l i).bind fun x_1=>(some (lZ s_ i aW)).bind fun v=>some (.inl (v,ay (i+1)))) else(Option.map Sum.inr ((DJ b).bind fun r_=>(MN s_ r_.1 lo hi last node).bind fun aO=>aZ (DN aO) (h,(0:Int))))
noncomputable def OL (h:Vec UInt64 16):(Vec UInt32 8×Int)->Option ((Vec UInt32 8×Int)⊕(Vec UInt64 16))
  | (CU,i2)=>if i2 < 8 then((aV h.l i2).bind fun kN=>(aV CU.l i2).bind fun lJ=>(some (lZ CU i2 (UInt32.ofNat kN.toNat))).bind fun v2=>some (.inl (v2,ay (i2+1)))) else none
noncomputable def Fz (kind:Int)(h:Vec UInt64 16)(b:List UInt8)(lo:UInt64)(hi:UInt64)(last:Bool)(node:Bool):Option (Vec UInt64 16) :=
  if kind=1 then(aZ (Gp h b lo hi last node) ((Vec.rep 8 (0:UInt64)),(0:Int))) else(aZ (OL h) ((Vec.rep 8 (0:UInt32)),(0:Int)))
noncomputable def xg (r_:(Vec UInt64 16×Int×Int×Int×Int×Int×UInt32×UInt64×UInt32×Int×Int×Bool×Vec UInt64 16×Bool×UInt64×UInt64×List UInt8×UInt64))(aO:Int):(Vec UInt64 16×UInt64×UInt64×Int)->Option ((Vec UInt64 16×UInt64×UInt64×Int)⊕(Vec UInt64 16×UInt64×UInt64×Int×Int×Int×Int×Int×Int×UInt32×UInt64×UInt32×Int×Int×Bool×Vec UInt64 16×Bool×UInt64×UInt64×List UInt8×UInt64))
  | (h,lo,hi,at_)=>if(ay (at_+aO)) < ((r_.2.2.2.2.2.2.2.2.2.2.2.2.2.2.2.2.1.length:Nat):Int) then((Cb lo hi (UInt64.ofInt aO)).bind fun dL=>(E8 r_.2.2.2.2.2.2.2.2.2.2.2.2.2.2.2.2.1 at_ aO).bind fun fP=>(Fz r_.2.1 h fP dL.1 dL.2.1 false false).bind fun iP=>some (.inl (iP,dL.1,dL.2.1,ay (at_+aO)))) else(Option.map Sum.inr (some (h,lo,hi,at_,r_.2.1,r_.2.2.1,r_.2.2.2.1,r_.2.2.2.2.1,r_.2.2.2.2.2.1,r_.2.2.2.2.2.2.1,r_.2.2.2.2.2.2.2.1,r_.2.2.2.2.2.2.2.2.1,r_.2.2.2.2.2.2.2.2.2.1,r_.2.2.2.2.2.2.2.2.2.2.1,r_.2.2.2.2.2.2.2.2.2.2.2.1,r_.2.2.2.2.2.2.2.2.2.2.2.2.1,r_.2.2.2.2.2.2.2.2.2.2.2.2.2.1,r_.2.2.2.2.2.2.2.2.2.2.2.2.2.2.1,r_.2.2.2.2.2.2.2.2.2.2.2.2.2.2.2.1,r_.2.2.2.2.2.2.2.2.2.2.2.2.2.2.2.2.1,r_.2.2.2.2.2.2.2.2.2.2.2.2.2.2.2.2.2)))
noncomputable def rQ (lH:Int)(gK:Int)(jX:Int)(gQ:Int)(iE:Int)(jb:UInt32)(gW:UInt64)(jY:UInt32)(dZ:Int)(iF:Int)(jA:List UInt8)(fH:List UInt8)(wP:List UInt8)(nX:Bool)(kR:Vec UInt64 16)(rP:Bool)(DD:UInt64)(DF:UInt64)(vg:List UInt8)(jZ:UInt64):Option (Vec UInt64 16×UInt64×UInt64×Int×Int×Int×Int×Int×Int×UInt32×UInt64×UInt32×Int×Int×Bool×Vec UInt64 16×Bool×UInt64×UInt64×List UInt8×UInt64) :=
  (pJ lH gK jX gQ iE jb gW jY dZ iF jA fH wP nX kR rP DD DF vg jZ).bind fun r_=>(wY r_.2.1).bind fun aO=>aZ (xg r_ aO) (r_.1,r_.2.2.2.2.2.2.2.2.2.2.2.2.2.2.1,r_.2.2.2.2.2.2.2.2.2.2.2.2.2.2.2.1,(0:Int))
noncomputable def FB (n:Int):(UInt64×List UInt8×Int)->Option ((UInt64×List UInt8×Int)⊕(List UInt8))
  | (kP,b,i)=>if i < n then((app b ([UInt8.ofNat (kP % 256).toNat]:List UInt8) 1).bind fun b1=>some (.inl (kP / 256,b1,ay (i+1)))) else(Option.map Sum.inr (some b))
noncomputable def o_ (w_:UInt64)(n:Int):Option (List UInt8) :=
  aZ (FB n) (w_,([]:List UInt8),(0:Int))
noncomputable def FC (kind:Int)(h:Vec UInt64 16):(List UInt8×Int)->Option ((List UInt8×Int)⊕(List UInt8))
  | (b,i)=>if i < 8 then((aV h.l i).bind fun aW=>(zB kind).bind fun r_=>(o_ aW (ay (Int.tdiv r_ 8))).bind fun aO=>(app b aO 1).bind fun b1=>some (.inl (b1,ay (i+1)))) else(Option.map Sum.inr (some b))
noncomputable def zO (kind:Int)(h:Vec UInt64 16):Option (List UInt8) :=
  aZ (FC kind h) (([]:List UInt8),(0:Int))
noncomputable def xk (lH:Int)(gK:Int)(jX:Int)(gQ:Int)(iE:Int)(jb:UInt32)(gW:UInt64)(jY:UInt32)(dZ:Int)(iF:Int)(jA:List UInt8)(fH:List UInt8)(wP:List UInt8)(nX:Bool)(kR:Vec UInt64 16)(rP:Bool)(DD:UInt64)(DF:UInt64)(vg:List UInt8)(jZ:UInt64):Option (List UInt8×Int×Int×Int×Int×Int×UInt32×UInt64×UInt32×Int×Int×Bool×Vec UInt64 16×Bool×UInt64×UInt64×List UInt8×UInt64) :=
  (rQ lH gK jX gQ iE jb gW jY dZ iF jA fH wP nX kR rP DD DF vg jZ).bind fun r_=>(Cb r_.2.1 r_.2.2.1 (UInt64.ofInt (ay (((r_.2.2.2.2.2.2.2.2.2.2.2.2.2.2.2.2.2.2.2.1.length:Nat):Int) - r_.2.2.2.1)))).bind fun aO=>(wY r_.2.2.2.2.1).bind fun dL=>(E8 r_.2.2.2.2.2.2.2.2.2.2.2.2.2.2.2.2.2.2.2.1 r_.2.2.2.1 dL).bind fun fP=>(Fz r_.2.2.2.2.1 r_.1 fP aO.1 aO.2.1 true r_.2.2.2.2.2.2.2.2.2.2.2.2.2.2.1).bind fun iP=>(zO r_.2.2.2.2.1 iP).bind fun jW=>some (jW,r_.2.2.2.2.1,r_.2.2.2.2.2.1,r_.2.2.2.2.2.2.1,r_.2.2.2.2.2.2.2.1,r_.2.2.2.2.2.2.2.2.1,r_.2.2.2.2.2.2.2.2.2.1,r_.2.2.2.2.2.2.2.2.2.2.1,r_.2.2.2.2.2.2.2.2.2.2.2.1,r_.2.2.2.2.2.2.2.2.2.2.2.2.1,r_.2.2.2.2.2.2.2.2.2.2.2.2.2.1,r_.2.2.2.2.2.2.2.2.2.2.2.2.2.2.1,r_.2.2.2.2.2.2.2.2.2.2.2.2.2.2.2.1,r_.2.2.2.2.2.2.2.2.2.2.2.2.2.2.2.2.1,r_.2.2.2.2.2.2.2.2.2.2.2.2.2.2.2.2.2.1,r_.2.2.2.2.2.2.2.2.2.2.2.2.2.2.2.2.2.2.1,r_.2.2.2.2.2.2.2.2.2.2.2.2.2.2.2.2.2.2.2.1,r_.2.2.2.2.2.2.2.2.2.2.2.2.2.2.2.2.2.2.2.2)
noncomputable def xn (kind:Int)(aT:Int)(dA:Int)(aU:Int)(aY:Int)(cZ:UInt32)(aJ:UInt64)(bH:UInt32)(aB:Int)(bn:Int)(bF:List UInt8)(aF:List UInt8)(key:List UInt8)(last:Bool)(out:Int)(data:List UInt8):Option (List UInt8×Int) :=
  (J5 kind aT dA aU aY cZ aJ bH aB bn bF aF key).bind fun r_=>(Sum.elim (fun aO=>if aO≠0 then(some (([]:List UInt8),aO)) else(if out < 1 then(some (([]:List UInt8),(1:Int))) else((zB kind).bind fun fP=>if fP < out then(some (([]:List UInt8),(1:Int))) else none))) (fun dL=>if 0≠0 then(some (([]:List UInt8),(0:Int))) else(if out < 1 then(some (([]:List UInt8),(1:Int))) else((zB kind).bind fun iP=>if iP < out then(some (([]:List UInt8),(1:Int))) else((tZ dL.1 dL.2.1 dL.2.2.1 dL.2.2.2.1 dL.2.2.2.2.1 dL.2.2.2.2.2.1 dL.2.2.2.2.2.2.1 dL.2.2.2.2.2.2.2.1 dL.2.2.2.2.2.2.2.2.1 dL.2.2.2.2.2.2.2.2.2.1 bF aF key last dL.2.2.2.2.2.2.2.2.2.2.1 false (0:UInt64) (0:UInt64) dL.2.2.2.2.2.2.2.2.2.2.2 (0:UInt64) data).bind fun jW=>(xk jW.1 jW.2.1 jW.2.2.1 jW.2.2.2.1 jW.2.2.2.2.1 jW.2.2.2.2.2.1 jW.2.2.2.2.2.2.1 jW.2.2.2.2.2.2.2.1 jW.2.2.2.2.2.2.2.2.1 jW.2.2.2.2.2.2.2.2.2.1 bF aF key jW.2.2.2.2.2.2.2.2.2.2.1 jW.2.2.2.2.2.2.2.2.2.2.2.1 jW.2.2.2.2.2.2.2.2.2.2.2.2.1 jW.2.2.2.2.2.2.2.2.2.2.2.2.2.1 jW.2.2.2.2.2.2.2.2.2.2.2.2.2.2.1 jW.2.2.2.2.2.2.2.2.2.2.2.2.2.2.2.1 jW.2.2.2.2.2.2.2.2.2.2.2.2.2.2.2.2).bind fun pV=>(G6 pV.1 0 out).bind fun b=>some (b,(0:Int))))))) r_
noncomputable def Ip (kind:Int)(n:Int)(key:List UInt8)(aQ:List UInt8)(ja:List UInt8)(data:List UInt8):Option (List UInt8×Int) :=
  (jm kind n ((key.length:Nat):Int) (1:Int) (1:Int) (0:UInt32) (0:UInt64) (0:UInt32) (0:Int) (0:Int) aQ ja).bind fun r_=>if r_≠0 then(some (([]:List UInt8),r_)) else((xn kind n ((key.length:Nat):Int) (1:Int) (1:Int) (0:UInt32) (0:UInt64) (0:UInt32) (0:Int) (0:Int) aQ ja key false n data).bind fun aO=>some (aO.1,aO.2))
noncomputable def Ho (k_:Int)(n:Int)(data:List UInt8):Option (List UInt8×Int) :=
  (EK k_ n ([]:List UInt8) ([]:List UInt8) ([]:List UInt8) data).bind fun r_=>some (r_.1,r_.2)
noncomputable def Qq (b:List UInt8):(List (List UInt8)×Int)->Option ((List (List UInt8)×Int)⊕(List (List UInt8)×Int×Int))
  | (parts,at_)=>if at_ < ((b.length:Nat):Int) then((kM b at_).bind fun r_=>if r_.2≠0 then(Option.map Sum.inr (some (([]:List (List UInt8)),at_,(4:Int)))) else(if(UInt64.ofInt (ay (((b.length:Nat):Int) - (ay (at_+8))))) < r_.1 then(Option.map Sum.inr (some (([]:List (List UInt8)),ay (at_+8),(4:Int)))) else((G6 b (ay (at_+8)) (ay ((ay (at_+8))+(ay r_.1.toNat)))).bind fun b1=>(app ([]:List UInt8) b1 1).bind fun b2=>(app parts ([b2]:List (List UInt8)) 24).bind fun parts1=>some (.inl (parts1,ay ((ay (at_+8))+(ay r_.1.toNat))))))) else(Option.map Sum.inr (some (parts,(0:Int),(0:Int))))
noncomputable def m_mac_Unrow (b:List UInt8):Option (List (List UInt8)×Int×Int) :=
  if 16777216 < ((b.length:Nat):Int) then(some (([]:List (List UInt8)),(0:Int),(2:Int))) else(aZ (Qq b) (([]:List (List UInt8)),(0:Int)))
noncomputable def t_ (w_:UInt32):Option (List UInt8) :=
  some ([UInt8.ofNat w_.toNat,UInt8.ofNat (nR w_ ((8:UInt64).toNat)).toNat,UInt8.ofNat (nR w_ ((16:UInt64).toNat)).toNat,UInt8.ofNat (nR w_ ((24:UInt64).toNat)).toNat]:List UInt8)
noncomputable def jT (b:List UInt8)(n:Int):Option (List UInt8) :=
  (t_ (UInt32.ofInt n)).bind fun r_=>(app b r_ 1).bind fun b1=>some b1
noncomputable def x8 (aj:Int)(ah:Int)(af:Int)(ag:Int)(ax:Int)(pass:List UInt8)(aQ:List UInt8)(secret:List UInt8)(extra:List UInt8):Option (List UInt8×Int) :=
  (aV (⟨[ag,ax,ah,af,(19:Int),aj],rfl⟩:Vec Int 6).l (0:Int)).bind fun iL=>(jT ([]:List UInt8) iL).bind fun dL=>(aV (⟨[ag,ax,ah,af,(19:Int),aj],rfl⟩:Vec Int 6).l (1:Int)).bind fun jG=>(jT dL jG).bind fun fP=>(aV (⟨[ag,ax,ah,af,(19:Int),aj],rfl⟩:Vec Int 6).l (2:Int)).bind fun kN=>(jT fP kN).bind fun iP=>(aV (⟨[ag,ax,ah,af,(19:Int),aj],rfl⟩:Vec Int 6).l (3:Int)).bind fun lJ=>(jT iP lJ).bind fun jW=>(aV (⟨[ag,ax,ah,af,(19:Int),aj],rfl⟩:Vec Int 6).l (4:Int)).bind fun mF=>(jT jW mF).bind fun pV=>(aV (⟨[ag,ax,ah,af,(19:Int),aj],rfl⟩:Vec Int 6).l (5:Int)).bind fun qH=>(jT pV qH).bind fun tK=>(jT tK ((pass.length:Nat):Int)).bind fun GH=>(app GH pass 1).bind fun b=>(jT b ((aQ.length:Nat):Int)).bind fun IX=>(app IX aQ 1).bind fun b1=>(jT b1 ((secret.length:Nat):Int)).bind fun uZ=>(app uZ secret 1).bind fun b2=>(jT b2 ((extra.length:Nat):Int)).bind fun u_=>(app u_ extra 1).bind fun b3=>(Ho (1:Int) (64:Int) b3).bind fun yF=>some (yF.1,yF.2)
noncomputable def uf (aj:Int)(ah:Int)(af:Int)(ag:Int)(ax:Int)(pass:List UInt8)(aQ:List UInt8)(secret:List UInt8)(extra:List UInt8)(aW:Bool):Option (List UInt8×Int) :=
  if aW=true then(some (([]:List UInt8),(2:Int))) else(x8 aj ah af ag ax pass aQ secret extra)
noncomputable def nS (aj:Int)(ah:Int)(af:Int)(ag:Int)(ax:Int)(pass:List UInt8)(aQ:List UInt8)(secret:List UInt8)(extra:List UInt8):Option (List UInt8×Int) :=
  (zJ aj ah af ag ax).bind fun r_=>if(!r_)=true then(some (([]:List UInt8),(200:Int))) else(if 65536 < ((pass.length:Nat):Int) then(some (([]:List UInt8),(2:Int))) else((sH aj ah af ag ax aQ).bind fun aO=>if aO≠0 then(some (([]:List UInt8),(201:Int))) else(if 64 < ((secret.length:Nat):Int) then(uf aj ah af ag ax pass aQ secret extra (decide (64 < ((secret.length:Nat):Int)))) else(uf aj ah af ag ax pass aQ secret extra (decide (1024 < ((extra.length:Nat):Int)))))))
noncomputable def lK (aj:Int)(ah:Int)(af:Int)(ag:Int)(ax:Int):Option Int :=
  (need ((ay (4*ag))≠0)).bind fun u=>some (ay (Int.tdiv ah (ay (4*ag))))
noncomputable def ou (aj:Int)(ah:Int)(af:Int)(ag:Int)(ax:Int):Option Int :=
  (lK aj ah af ag ax).bind fun r_=>some (ay (4*r_))
noncomputable def rU (n:Int)(b:List UInt8):Option (List UInt8) :=
  (rO (1:Int) n (0:Int) (1:Int) (1:Int) (0:UInt32) (0:UInt64) (0:UInt32) (0:Int) (0:Int) ([]:List UInt8) ([]:List UInt8) ([]:List UInt8) false n b).bind fun r_=>some r_.1
noncomputable def AP (size:Int):(List UInt8×List UInt8×Int)->Option ((List UInt8×List UInt8×Int)⊕(List UInt8×Int))
  | (v,out,aW)=>if aW < (ay ((ay ((ay (Int.tdiv (ay (size+31)) 32)) - 2)) - 1)) then((rU (64:Int) v).bind fun fP=>(G6 fP 0 (32:Int)).bind fun b3=>(app out b3 1).bind fun out1=>some (.inl (fP,out1,ay (aW+1)))) else(Option.map Sum.inr ((rU (ay (size - (ay (32*(ay ((ay (Int.tdiv (ay (size+31)) 32)) - 2)))))) v).bind fun iP=>(app out iP 1).bind fun b4=>some (b4,(0:Int))))
noncomputable def zQ (size:Int)(data:List UInt8):Option (List UInt8×Int) :=
  if((decide (size < 1))||(decide (1048576 < size)))=true then(some (([]:List UInt8),(1:Int))) else((t_ (UInt32.ofInt size)).bind fun r_=>(app r_ data 1).bind fun b=>if size<=64 then((rU size b).bind fun aO=>some (aO,(0:Int))) else((rU (64:Int) b).bind fun dL=>(G6 dL 0 (32:Int)).bind fun b1=>(app ([]:List UInt8) b1 1).bind fun b2=>aZ (AP size) (dL,b2,(0:Int))))
noncomputable def pK (start:List UInt8)(m_:List (List (Vec UInt8 1024)))(aW:Int):(List (Vec UInt8 1024)×Int)->Option ((List (Vec UInt8 1024)×Int)⊕((List (List (Vec UInt8 1024))×Int)⊕(Int×Int×Int×Int×Int×List (List (Vec UInt8 1024)))))
  | (l,mF)=>if mF < 2 then((app ([]:List UInt8) start 1).bind fun b=>(jT b mF).bind fun aO=>(jT aO aW).bind fun dL=>(zQ (1024:Int) dL).bind fun fP=>(Ae 1024 fP.1).bind fun v=>(aV l mF).bind fun qH=>some (.inl (l.set (Int.toNat mF) v,ay (mF+1)))) else(Option.map Sum.inr ((app m_ ([l]:List (List (Vec UInt8 1024))) 24).bind fun b1=>some (.inl (b1,ay (aW+1)))))
noncomputable def ug (aj:Int)(ah:Int)(af:Int)(ag:Int)(ax:Int)(start:List UInt8):(List (List (Vec UInt8 1024))×Int)->Option ((List (List (Vec UInt8 1024))×Int)⊕(Int×Int×Int×Int×Int×List (List (Vec UInt8 1024))))
  | (m_,aW)=>if aW < ag then((ou aj ah af ag ax).bind fun r_=>(need ((0:Int)<=r_/\(r_:Int)<=r_/\Int.toNat r_*1024<=140737488355328)).bind fun u=>aZ (pK start m_ aW) (List.replicate (Int.toNat r_) (Vec.rep 1024 (0:UInt8)),(0:Int))) else(Option.map Sum.inr (some (aj,ah,af,ag,ax,m_)))
noncomputable def yK (aj:Int)(ah:Int)(af:Int)(ag:Int)(ax:Int)(start:List UInt8):Option (Int×Int×Int×Int×Int×List (List (Vec UInt8 1024))) :=
  aZ (ug aj ah af ag ax start) (([]:List (List (Vec UInt8 1024))),(0:Int))
noncomputable def vT (VH:List UInt8)(VI:List UInt8):Option Bool :=
  if((VH.length:Nat):Int)≠1024 then(some false) else(if((VI.length:Nat):Int)≠1024 then(some false) else(some true))
noncomputable def zg (b:List UInt8):(Vec UInt64 128×Int)->Option ((Vec UInt64 128×Int)⊕(Vec UInt64 128))
  | (mf,aW)=>if aW < 128 then((kM b (ay (8*aW))).bind fun r_=>(aV mf.l aW).bind fun x_1=>(some (lZ mf aW r_.1)).bind fun v=>some (.inl (v,ay (aW+1)))) else(Option.map Sum.inr (some mf))
noncomputable def x9 (b:List UInt8):Option (Vec UInt64 128) :=
  aZ (zg b) ((Vec.rep 128 (0:UInt64)),(0:Int))
noncomputable def yc (k_:Int)(p:Int):Option (Int×Int) :=
  some (ay ((ay (16*p))+k_),p)
noncomputable def qg (x_:UInt64)(y_:UInt64):Option UInt64 :=
  some (((2:UInt64)*(x_&&&4294967295))*(y_&&&4294967295))
noncomputable def AQ (a_:UInt64)(b:UInt64)(c:UInt64)(d:UInt64):Option (UInt64×UInt64×UInt64×UInt64) :=
  (qg a_ b).bind fun r_=>(gq (d^^^(a_+(b+r_))) (-32:Int)).bind fun aO=>(qg c aO).bind fun dL=>(gq (b^^^(c+(aO+dL))) (-24:Int)).bind fun fP=>(qg (a_+(b+r_)) fP).bind fun iP=>(gq (aO^^^((a_+(b+r_))+(fP+iP))) (-16:Int)).bind fun jW=>(qg (c+(aO+dL)) jW).bind fun pV=>(gq (fP^^^((c+(aO+dL))+(jW+pV))) (-63:Int)).bind fun tK=>some ((a_+(b+r_))+(fP+iP),tK,(c+(aO+dL))+(jW+pV),jW)
noncomputable def AU  : (Vec UInt64 16×Int)->Option ((Vec UInt64 16×Int)⊕(Vec UInt64 16))
  | (v1,aW)=>if aW < 8 then((aV (⟨[(⟨[(0:Int),(4:Int),(8:Int),(12:Int)],rfl⟩:Vec Int 4),(⟨[(1:Int),(5:Int),(9:Int),(13:Int)],rfl⟩:Vec Int 4),(⟨[(2:Int),(6:Int),(10:Int),(14:Int)],rfl⟩:Vec Int 4),(⟨[(3:Int),(7:Int),(11:Int),(15:Int)],rfl⟩:Vec Int 4),(⟨[(0:Int),(5:Int),(10:Int),(15:Int)],rfl⟩:Vec Int 4),(⟨[(1:Int),(6:Int),(11:Int),(12:Int)],rfl⟩:Vec Int 4),(⟨[(2:Int),(7:Int),(8:Int),(13:Int)],rfl⟩:Vec Int 4),(⟨[(3:Int),(4:Int),(9:Int),(14:Int)],rfl⟩:Vec Int 4)],rfl⟩:Vec (Vec Int 4) 8).l aW).bind fun x_1=>(aV x_1.l (0:Int)).bind fun iL=>(aV x_1.l (0:Int)).bind fun jG=>(aV v1.l jG).bind fun kN=>(aV x_1.l (1:Int)).bind fun lJ=>(aV v1.l lJ).bind fun mF=>(aV x_1.l (2:Int)).bind fun qH=>(aV v1.l qH).bind fun GL=>(aV x_1.l (3:Int)).bind fun BZ=>(aV v1.l BZ).bind fun wH=>(aV x_1.l (1:Int)).bind fun mM=>(aV x_1.l (2:Int)).bind fun EJ=>(aV x_1.l (3:Int)).bind fun jy=>(AQ kN mF GL wH).bind fun r_=>(aV v1.l iL).bind fun MK=>(some (lZ v1 iL r_.1)).bind fun v2=>(aV v2.l mM).bind fun I5=>(some (lZ v2 mM r_.2.1)).bind fun v3=>(aV v3.l EJ).bind fun Lu=>(some (lZ v3 EJ r_.2.2.1)).bind fun v4=>(aV v4.l jy).bind fun TR=>(some (lZ v4 jy r_.2.2.2)).bind fun v5=>some (.inl (v5,ay (aW+1)))) else(Option.map Sum.inr (some v1))
noncomputable def zS (v:Vec UInt64 16):Option (Vec UInt64 16) :=
  aZ (AU) (v,(0:Int))
noncomputable def vF (aO:(Vec UInt64 16)):(Int×Vec UInt64 128×Int)->Option ((Int×Vec UInt64 128×Int)⊕(Int×Vec UInt64 128))
  | (Cc,kN,lJ)=>if lJ < 16 then((aV aO.l lJ).bind fun mF=>(yc lJ Cc).bind fun dL=>(aV kN.l dL.1).bind fun qH=>(some (lZ kN dL.1 mF)).bind fun v2=>some (.inl (dL.2,v2,ay (lJ+1)))) else(Option.map Sum.inr (some (Cc,kN)))
noncomputable def zh (p:Vec UInt64 128):(Int×Vec UInt64 16×Int)->Option ((Int×Vec UInt64 16×Int)⊕(Int×Vec UInt64 128))
  | (Ce,v,aW)=>if aW < 16 then((yc aW Ce).bind fun r_=>(aV p.l r_.1).bind fun iL=>(aV v.l aW).bind fun jG=>(some (lZ v aW iL)).bind fun v1=>some (.inl (r_.2,v1,ay (aW+1)))) else(Option.map Sum.inr ((zS v).bind fun aO=>aZ (vF aO) (Ce,p,(0:Int))))
noncomputable def AV (place:Int)(p:Vec UInt64 128):Option (Int×Vec UInt64 128) :=
  aZ (zh p) (place,(Vec.rep 16 (0:UInt64)),(0:Int))
noncomputable def yf (k_:Int)(p:Int):Option (Int×Int) :=
  some (ay ((ay ((ay (2*p))+(ay (16*(ay (Int.tdiv k_ 2))))))+(Int.tmod k_ 2)),p)
noncomputable def qh (aO:(Vec UInt64 16)):(Int×Vec UInt64 128×Int)->Option ((Int×Vec UInt64 128×Int)⊕(Int×Vec UInt64 128))
  | (Cc,kN,lJ)=>if lJ < 16 then((aV aO.l lJ).bind fun mF=>(yf lJ Cc).bind fun dL=>(aV kN.l dL.1).bind fun qH=>(some (lZ kN dL.1 mF)).bind fun v2=>some (.inl (dL.2,v2,ay (lJ+1)))) else(Option.map Sum.inr (some (Cc,kN)))
noncomputable def uK (p:Vec UInt64 128):(Int×Vec UInt64 16×Int)->Option ((Int×Vec UInt64 16×Int)⊕(Int×Vec UInt64 128))
  | (Ce,v,aW)=>if aW < 16 then((yf aW Ce).bind fun r_=>(aV p.l r_.1).bind fun iL=>(aV v.l aW).bind fun jG=>(some (lZ v aW iL)).bind fun v1=>some (.inl (r_.2,v1,ay (aW+1)))) else(Option.map Sum.inr ((zS v).bind fun aO=>aZ (qh aO) (Ce,p,(0:Int))))
noncomputable def vG (place:Int)(p:Vec UInt64 128):Option (Int×Vec UInt64 128) :=
  aZ (uK p) (place,(Vec.rep 16 (0:UInt64)),(0:Int))
noncomputable def uh (aW:Int)(iL:UInt64):(List UInt8×Int)->Option ((List UInt8×Int)⊕((List UInt8×Int)⊕(List UInt8×Vec UInt64 128)))
  | (b1,s_)=>if s_ < 64 then((need (0<=s_)).bind fun u=>(app b1 ([UInt8.ofNat (iH iL (Int.toNat s_)).toNat]:List UInt8) 1).bind fun b2=>some (.inl (b2,ay (s_+8)))) else(Option.map Sum.inr (some (.inl (b1,ay (aW+1)))))
noncomputable def AX (w_:Vec UInt64 128):(List UInt8×Int)->Option ((List UInt8×Int)⊕(List UInt8×Vec UInt64 128))
  | (b,aW)=>if aW < 128 then((aV w_.l aW).bind fun iL=>aZ (uh aW iL) (b,(0:Int))) else(Option.map Sum.inr (some (b,w_)))
noncomputable def DR (w_:Vec UInt64 128):Option (List UInt8×Vec UInt64 128) :=
  aZ (AX w_) (List.replicate (Int.toNat (0:Int)) (0:UInt8),(0:Int))
noncomputable def yL (fP:Vec UInt64 128):(Vec UInt64 128×Int)->Option ((Vec UInt64 128×Int)⊕(List UInt8×Int))
  | (z2,BZ)=>if BZ < 128 then((aV z2.l BZ).bind fun wH=>(aV fP.l BZ).bind fun mM=>(aV z2.l BZ).bind fun EJ=>(some (lZ z2 BZ (wH^^^mM))).bind fun v1=>some (.inl (v1,ay (BZ+1)))) else(Option.map Sum.inr ((DR z2).bind fun pV=>some (pV.1,(0:Int))))
noncomputable def yM (fP:Vec UInt64 128):(Vec UInt64 128×Int)->Option ((Vec UInt64 128×Int)⊕(List UInt8×Int))
  | (z1,GL)=>if GL < 8 then((vG GL z1).bind fun jW=>some (.inl (jW.2,ay (GL+1)))) else(Option.map Sum.inr (aZ (yL fP) (z1,(0:Int))))
noncomputable def yN (fP:Vec UInt64 128):(Vec UInt64 128×Int)->Option ((Vec UInt64 128×Int)⊕(List UInt8×Int))
  | (z,qH)=>if qH < 8 then((AV qH z).bind fun iP=>some (.inl (iP.2,ay (qH+1)))) else(Option.map Sum.inr (aZ (yM fP) (z,(0:Int))))
noncomputable def C9 (dL:(Vec UInt64 128)):(Vec UInt64 128×Int)->Option ((Vec UInt64 128×Int)⊕(List UInt8×Int))
  | (fP,jG)=>if jG < 128 then((aV fP.l jG).bind fun kN=>(aV dL.l jG).bind fun lJ=>(aV fP.l jG).bind fun mF=>(some (lZ fP jG (kN^^^lJ))).bind fun v=>some (.inl (v,ay (jG+1)))) else(Option.map Sum.inr (aZ (yN fP) (fP,(0:Int))))
noncomputable def uM (x_:List UInt8)(y_:List UInt8):Option (List UInt8×Int) :=
  (vT x_ y_).bind fun r_=>if(!r_)=true then(some (([]:List UInt8),(1:Int))) else((x9 x_).bind fun aO=>(x9 y_).bind fun dL=>aZ (C9 dL) (aO,(0:Int)))
noncomputable def nY (aj:Int)(ah:Int)(af:Int)(ag:Int)(ax:Int)(n1:Int)(iP:(List UInt8×Int)):(List UInt64×Int)->Option ((List UInt64×Int)⊕((List UInt64×Int)⊕(List UInt64)))
  | (l1,i)=>if i < 128 then((lK aj ah af ag ax).bind fun jW=>if((l1.length:Nat):Int) < jW then((kM iP.1 (ay (8*i))).bind fun pV=>(app l1 ([pV.1]:List UInt64) 8).bind fun l2=>some (.inl (l2,ay (i+1)))) else(Option.map Sum.inr (some (.inl (l1,ay (n1+1)))))) else(Option.map Sum.inr (some (.inl (l1,ay (n1+1)))))
noncomputable def nZ (aj:Int)(ah:Int)(af:Int)(ag:Int)(ax:Int)(pass:Int)(slice:Int)(lane:Int)(l:List UInt64)(n1:Int)(aO:Int):(List UInt8×Int)->Option ((List UInt8×Int)⊕((List UInt64×Int)⊕(List UInt64)))
  | (SC,aW)=>if aW < 7 then((aV (⟨[pass,lane,slice,ay (ag*aO),af,aj,n1],rfl⟩:Vec Int 7).l aW).bind fun x_1=>(tY (UInt64.ofInt x_1)).bind fun dL=>(app SC dL 1).bind fun in_1=>some (.inl (in_1,ay (aW+1)))) else(Option.map Sum.inr ((G6 (List.replicate (Int.toNat (1024:Int)) (0:UInt8)) ((SC.length:Nat):Int) ((Int.toNat (1024:Int):Nat):Int)).bind fun b=>(app SC b 1).bind fun in_2=>(uM (List.replicate (Int.toNat (1024:Int)) (0:UInt8)) in_2).bind fun fP=>(uM (List.replicate (Int.toNat (1024:Int)) (0:UInt8)) fP.1).bind fun iP=>aZ (nY aj ah af ag ax n1 iP) (l,(0:Int))))
noncomputable def rV (aj:Int)(ah:Int)(af:Int)(ag:Int)(ax:Int)(pass:Int)(slice:Int)(lane:Int):(List UInt64×Int)->Option ((List UInt64×Int)⊕(List UInt64))
  | (l,n1)=>(lK aj ah af ag ax).bind fun r_=>if((l.length:Nat):Int) < r_ then((ou aj ah af ag ax).bind fun aO=>aZ (nZ aj ah af ag ax pass slice lane l n1 aO) (List.replicate (Int.toNat (0:Int)) (0:UInt8),(0:Int))) else(Option.map Sum.inr (some l))
noncomputable def rW (aj:Int)(ah:Int)(af:Int)(ag:Int)(ax:Int)(pass:Int)(slice:Int)(lane:Int):Option (List UInt64) :=
  aZ (rV aj ah af ag ax pass slice lane) (([]:List UInt64),(1:Int))
noncomputable def nN (aj:Int)(ah:Int)(af:Int)(ag:Int)(ax:Int)(j:UInt64)(l:Int)(start:Int)(area:Int):Option (Int×Int) :=
  (ou aj ah af ag ax).bind fun aO=>(need (aO≠0)).bind fun u1=>some (l,Int.tmod (ay ((ay ((ay (start+area)) - 1)) - (ay (iH ((UInt64.ofInt area)*(iH ((j&&&4294967295)*(j&&&4294967295)) ((32:UInt64).toNat))) ((32:UInt64).toNat)).toNat))) aO)
noncomputable def pM (aj:Int)(ah:Int)(af:Int)(ag:Int)(ax:Int)(lane:Int)(x_:Int)(j:UInt64)(l:Int)(whole:Int)(start:Int):Option (Int×Int) :=
  if l=lane then(nN aj ah af ag ax j l start (ay (whole+(ay (x_ - 1))))) else(if x_=0 then(nN aj ah af ag ax j l start (ay (whole - 1))) else(nN aj ah af ag ax j l start whole))
noncomputable def pO (aj:Int)(ah:Int)(af:Int)(ag:Int)(ax:Int)(pass:Int)(slice:Int)(lane:Int)(x_:Int)(j:UInt64)(l:Int)(r_:Int)(whole:Int):Option (Int×Int) :=
  if((decide (pass=0))||(decide (slice=3)))=true then(pM aj ah af ag ax lane x_ j l whole (0:Int)) else(pM aj ah af ag ax lane x_ j l whole (ay ((ay (slice+1))*r_)))
noncomputable def pR (aj:Int)(ah:Int)(af:Int)(ag:Int)(ax:Int)(pass:Int)(slice:Int)(lane:Int)(x_:Int)(j:UInt64)(l:Int):Option (Int×Int) :=
  (lK aj ah af ag ax).bind fun r_=>if pass=0 then(pO aj ah af ag ax pass slice lane x_ j l r_ (ay (slice*r_))) else(pO aj ah af ag ax pass slice lane x_ j l r_ (ay (3*r_)))
noncomputable def vU (aj:Int)(ah:Int)(af:Int)(ag:Int)(ax:Int)(pass:Int)(slice:Int)(lane:Int)(x_:Int)(j:UInt64):Option (Int×Int) :=
  (need ((UInt64.ofInt ag)≠0)).bind fun u=>if((decide (pass=0))&&(decide (slice=0)))=true then(pR aj ah af ag ax pass slice lane x_ j lane) else(pR aj ah af ag ax pass slice lane x_ j (ay ((iH j ((32:UInt64).toNat)) % (UInt64.ofInt ag)).toNat))
noncomputable def yg (VH:List UInt8)(VI:List UInt8)(l_2:List UInt8):Option Bool :=
  if((VH.length:Nat):Int)≠1024 then(some false) else(if((VI.length:Nat):Int)≠1024 then(some false) else(if((l_2.length:Nat):Int)≠1024 then(some false) else(some true)))
noncomputable def C_ (x_:List UInt8)(y_:List UInt8):(List UInt8×Int)->Option ((List UInt8×Int)⊕(List UInt8×Int))
  | (b,jG)=>if jG < ((Int.toNat (1024:Int):Nat):Int) then((aV x_ jG).bind fun kN=>(aV y_ jG).bind fun lJ=>(aV b jG).bind fun mF=>some (.inl (b.set (Int.toNat jG) (kN^^^lJ),ay (jG+1)))) else(Option.map Sum.inr (some (b,(0:Int))))
noncomputable def Cf (x_:List UInt8)(y_:List UInt8):Option (List UInt8×Int) :=
  (vT x_ y_).bind fun r_=>if(!r_)=true then(some (([]:List UInt8),(1:Int))) else(aZ (C_ x_ y_) (List.replicate (Int.toNat (1024:Int)) (0:UInt8),(0:Int)))
noncomputable def zT (x_:List UInt8)(y_:List UInt8)(old:List UInt8):Option (List UInt8×Int) :=
  (yg x_ y_ old).bind fun r_=>if(!r_)=true then(some (([]:List UInt8),(1:Int))) else((uM x_ y_).bind fun aO=>(Cf aO.1 old).bind fun dL=>some (dL.1,dL.2))
noncomputable def jc (aW:Int)(wO:List (List (Vec UInt8 1024))):Option ((List (List (Vec UInt8 1024))×Int)⊕(Int×Int×Int×Int×Int×List (List (Vec UInt8 1024)))) :=
  some (.inl (wO,ay (aW+1)))
noncomputable def mQ (dD:Int)(cu:Int)(bK:Int)(dG:Int)(fE:Int)(pass:Int)(slice:Int)(lane:Int)(s_:Int)(aO:(List UInt64))(b:List (Vec UInt8 1024)):(List (List (Vec UInt8 1024))×Int)->Option ((List (List (Vec UInt8 1024))×Int)⊕(Int×Int×Int×Int×Int×List (List (Vec UInt8 1024))))
  | (m_,aW)=>if aW < s_ then(if((decide (pass=0))&&(decide ((ay ((ay (slice*s_))+aW)) < 2)))=true then(jc aW m_) else((aV m_ lane).bind fun b1=>(need (((b.length:Nat):Int)≠0)).bind fun u=>(aV b1 (Int.tmod (ay ((ay ((ay ((ay (slice*s_))+aW))+((b.length:Nat):Int))) - 1)) ((b.length:Nat):Int))).bind fun mF=>(G6 mF.l 0 (8:Int)).bind fun b2=>(kM b2 (0:Int)).bind fun dL=>(aV aO aW).bind fun qH=>(vU dD cu bK dG fE pass slice lane aW qH).bind fun fP=>if pass=0 then((aV m_ fP.1).bind fun b3=>(aV b3 fP.2).bind fun GL=>(uM mF.l GL.l).bind fun iP=>(Ae 1024 iP.1).bind fun v=>(aV b1 (ay ((ay (slice*s_))+aW))).bind fun BZ=>jc aW (m_.set (Int.toNat lane) (b1.set (Int.toNat (ay ((ay (slice*s_))+aW))) v))) else((aV m_ fP.1).bind fun b4=>(aV b4 fP.2).bind fun wH=>(aV b1 (ay ((ay (slice*s_))+aW))).bind fun mM=>(zT mF.l wH.l mM.l).bind fun jW=>(Ae 1024 jW.1).bind fun v1=>(aV b1 (ay ((ay (slice*s_))+aW))).bind fun EJ=>jc aW (m_.set (Int.toNat lane) (b1.set (Int.toNat (ay ((ay (slice*s_))+aW))) v1))))) else(Option.map Sum.inr (some (dD,cu,bK,dG,fE,m_)))
noncomputable def jd (jy:Int)(NR:List (List (Vec UInt8 1024))):Option ((List (List (Vec UInt8 1024))×Int)⊕(Int×Int×Int×Int×Int×List (List (Vec UInt8 1024)))) :=
  some (.inl (NR,ay (jy+1)))
noncomputable def mV (dD:Int)(cu:Int)(bK:Int)(dG:Int)(fE:Int)(pass:Int)(slice:Int)(lane:Int)(s_:Int)(b5:List (Vec UInt8 1024)):(List (List (Vec UInt8 1024))×Int)->Option ((List (List (Vec UInt8 1024))×Int)⊕(Int×Int×Int×Int×Int×List (List (Vec UInt8 1024))))
  | (H9,jy)=>if jy < s_ then(if((decide (pass=0))&&(decide ((ay ((ay (slice*s_))+jy)) < 2)))=true then(jd jy H9) else((aV H9 lane).bind fun b6=>(need (((b5.length:Nat):Int)≠0)).bind fun u1=>(aV b6 (Int.tmod (ay ((ay ((ay ((ay (slice*s_))+jy))+((b5.length:Nat):Int))) - 1)) ((b5.length:Nat):Int))).bind fun MK=>(G6 MK.l 0 (8:Int)).bind fun b7=>(kM b7 (0:Int)).bind fun pV=>(vU dD cu bK dG fE pass slice lane jy pV.1).bind fun tK=>if pass=0 then((aV H9 tK.1).bind fun b8=>(aV b8 tK.2).bind fun I5=>(uM MK.l I5.l).bind fun GH=>(Ae 1024 GH.1).bind fun v2=>(aV b6 (ay ((ay (slice*s_))+jy))).bind fun Lu=>jd jy (H9.set (Int.toNat lane) (b6.set (Int.toNat (ay ((ay (slice*s_))+jy))) v2))) else((aV H9 tK.1).bind fun b9=>(aV b9 tK.2).bind fun TR=>(aV b6 (ay ((ay (slice*s_))+jy))).bind fun I7=>(zT MK.l TR.l I7.l).bind fun IX=>(Ae 1024 IX.1).bind fun v3=>(aV b6 (ay ((ay (slice*s_))+jy))).bind fun N9=>jd jy (H9.set (Int.toNat lane) (b6.set (Int.toNat (ay ((ay (slice*s_))+jy))) v3))))) else(Option.map Sum.inr (some (dD,cu,bK,dG,fE,H9)))
noncomputable def oP (dD:Int)(cu:Int)(bK:Int)(dG:Int)(fE:Int)(iR:List (List (Vec UInt8 1024)))(pass:Int)(slice:Int)(lane:Int)(s_:Int):Option (Int×Int×Int×Int×Int×List (List (Vec UInt8 1024))) :=
  if((decide (dD=1))||(((decide (dD=2))&&(decide (pass=0)))&&(decide (slice < 2))))=true then((rW dD cu bK dG fE pass slice lane).bind fun aO=>(aV iR lane).bind fun b=>aZ (mQ dD cu bK dG fE pass slice lane s_ aO b) (iR,(0:Int))) else((aV iR lane).bind fun b5=>aZ (mV dD cu bK dG fE pass slice lane s_ b5) (iR,(0:Int)))
noncomputable def oH (dD:Int)(cu:Int)(bK:Int)(dG:Int)(fE:Int)(iR:List (List (Vec UInt8 1024)))(pass:Int)(slice:Int)(lane:Int):Option (Int×Int×Int×Int×Int×List (List (Vec UInt8 1024))) :=
  (lK dD cu bK dG fE).bind fun r_=>oP dD cu bK dG fE iR pass slice lane r_
noncomputable def rX (lane:Int)(MO:Int)(Iq:Int)(Ir:Int)(J6:Int)(PH:Int)(PI:List (List (Vec UInt8 1024)))(p:Int)(p1:Int):Option (Int×Int×Int×Int×Int×List (List (Vec UInt8 1024))×Int×Int) :=
  (oH MO Iq Ir J6 PH PI p p1 lane).bind fun r_=>some (r_.1,r_.2.1,r_.2.2.1,r_.2.2.2.1,r_.2.2.2.2.1,r_.2.2.2.2.2,p,p1)
noncomputable def rY (lanes:Int):(Int×Int×Int×Int×Int×List (List (Vec UInt8 1024))×Int×Int×Int)->Option ((Int×Int×Int×Int×Int×List (List (Vec UInt8 1024))×Int×Int×Int)⊕(Int×Int×Int×Int×Int×List (List (Vec UInt8 1024))×Int×Int))
  | (Z9,Z_,aab,aac,aad,XX,aae,aaf,aW)=>if aW < lanes then((rX aW Z9 Z_ aab aac aad XX aae aaf).bind fun r_=>some (.inl (r_.1,r_.2.1,r_.2.2.1,r_.2.2.2.1,r_.2.2.2.2.1,r_.2.2.2.2.2.1,r_.2.2.2.2.2.2.1,r_.2.2.2.2.2.2.2,ay (aW+1)))) else(Option.map Sum.inr (some (Z9,Z_,aab,aac,aad,XX,aae,aaf)))
noncomputable def xq (lanes:Int)(Iu:Int)(EN:Int)(EO:Int)(Gq:Int)(J7:Int)(J8:List (List (Vec UInt8 1024)))(one:Int)(one1:Int):Option (Int×Int×Int×Int×Int×List (List (Vec UInt8 1024))×Int×Int) :=
  aZ (rY lanes) (Iu,EN,EO,Gq,J7,J8,one,one1,(0:Int))
noncomputable def lG (aW:Int):(Int×Int×Int×Int×Int×List (List (Vec UInt8 1024))×Int×Int)->Option ((Int×Int×Int×Int×Int×List (List (Vec UInt8 1024))×Int×Int)⊕((Int×Int×Int×Int×Int×List (List (Vec UInt8 1024))×Int)⊕(Int×Int×Int×Int×Int×List (List (Vec UInt8 1024)))))
  | (m_6,m_7,m_8,m_9,aag,XY,pass,mF)=>if mF < 4 then((xq m_9 m_6 m_7 m_8 m_9 aag XY pass mF).bind fun r_=>some (.inl (r_.1,r_.2.1,r_.2.2.1,r_.2.2.2.1,r_.2.2.2.2.1,r_.2.2.2.2.2.1,r_.2.2.2.2.2.2.1,ay (mF+1)))) else(Option.map Sum.inr (some (.inl (m_6,m_7,m_8,m_9,aag,XY,ay (aW+1)))))
noncomputable def nH (bK:Int):(Int×Int×Int×Int×Int×List (List (Vec UInt8 1024))×Int)->Option ((Int×Int×Int×Int×Int×List (List (Vec UInt8 1024))×Int)⊕(Int×Int×Int×Int×Int×List (List (Vec UInt8 1024))))
  | (m_,wO,H9,NR,XZ,m_5,aW)=>if aW < bK then(aZ (lG aW) (m_,wO,H9,NR,XZ,m_5,aW,(0:Int))) else(Option.map Sum.inr (some (m_,wO,H9,NR,XZ,m_5)))
noncomputable def qi (dD:Int)(cu:Int)(bK:Int)(dG:Int)(fE:Int)(iR:List (List (Vec UInt8 1024))):Option (Int×Int×Int×Int×Int×List (List (Vec UInt8 1024))) :=
  aZ (nH bK) (dD,cu,bK,dG,fE,iR,(0:Int))
noncomputable def qy (dD:Int)(cu:Int)(bK:Int)(dG:Int)(fE:Int)(iR:List (List (Vec UInt8 1024))):(Vec UInt8 1024×Int)->Option ((Vec UInt8 1024×Int)⊕(List UInt8×Int×Int×Int×Int×Int×List (List (Vec UInt8 1024))))
  | (aW,qH)=>if qH < ((iR.length:Nat):Int) then((aV iR qH).bind fun b=>(aV b (ay (((b.length:Nat):Int) - 1))).bind fun GL=>(Cf aW.l GL.l).bind fun r_=>(Ae 1024 r_.1).bind fun v=>some (.inl (v,ay (qH+1)))) else(Option.map Sum.inr ((zQ fE aW.l).bind fun aO=>some (aO.1,dD,cu,bK,dG,fE,iR)))
noncomputable def qj (dD:Int)(cu:Int)(bK:Int)(dG:Int)(fE:Int)(iR:List (List (Vec UInt8 1024))):Option (List UInt8×Int×Int×Int×Int×Int×List (List (Vec UInt8 1024))) :=
  aZ (qy dD cu bK dG fE iR) ((Vec.rep 1024 (0:UInt8)),(0:Int))
noncomputable def AY (aj:Int)(ah:Int)(af:Int)(ag:Int)(ax:Int)(pass:List UInt8)(aQ:List UInt8)(secret:List UInt8)(extra:List UInt8):Option (List UInt8×Int) :=
  (nS aj ah af ag ax pass aQ secret extra).bind fun r_=>if r_.2≠0 then(some (([]:List UInt8),r_.2)) else((yK aj ah af ag ax r_.1).bind fun aO=>(qi aO.1 aO.2.1 aO.2.2.1 aO.2.2.2.1 aO.2.2.2.2.1 aO.2.2.2.2.2).bind fun dL=>(qj dL.1 dL.2.1 dL.2.2.1 dL.2.2.2.1 dL.2.2.2.2.1 dL.2.2.2.2.2).bind fun fP=>some (fP.1,(0:Int)))
noncomputable def rZ (aj:Int)(ah:Int)(af:Int)(ag:Int)(ax:Int)(pass:List UInt8)(aQ:List UInt8)(secret:List UInt8)(extra:List UInt8):Option (List UInt8×Int) :=
  (AY aj ah af ag ax pass aQ secret extra).bind fun r_=>some (r_.1,r_.2)
noncomputable def DT (aj:Int)(ah:Int)(af:Int)(ag:Int)(ax:Int)(w_:List UInt8)(aQ:List UInt8):Option (List UInt8×Int) :=
  (rZ aj ah af ag ax w_ aQ ([]:List UInt8) ([]:List UInt8)).bind fun r_=>if r_.2≠0 then(some (([]:List UInt8),r_.2)) else((Ag aj ah af ag ax aQ r_.1).bind fun aO=>some (aO.1,aO.2))
noncomputable def yh (aj:Int)(ah:Int)(af:Int)(ag:Int)(ax:Int)(pass:List UInt8)(aQ:List UInt8)(secret:List UInt8)(extra:List UInt8):Option Int :=
  (nV aj ah af ag ax).bind fun r_=>if r_≠0 then(some (200:Int)) else(if 65536 < ((pass.length:Nat):Int) then(some (2:Int)) else((uB aj ah af ag ax aQ).bind fun aO=>if aO≠0 then(some (201:Int)) else(if((decide (64 < ((secret.length:Nat):Int)))||(decide (1024 < ((extra.length:Nat):Int))))=true then(some (2:Int)) else(some (0:Int)))))
noncomputable def mZ (n:Int):Option (List UInt8) :=
  (o_ (UInt64.ofInt n) (4:Int)).bind fun r_=>some r_
noncomputable def Hq (kind:Int)(n:Int)(data:List UInt8):Option (List UInt8×Int) :=
  (Ip kind n ([]:List UInt8) ([]:List UInt8) ([]:List UInt8) data).bind fun r_=>some (r_.1,r_.2)
noncomputable def xu (aj:Int)(ah:Int)(af:Int)(ag:Int)(ax:Int)(pass:List UInt8)(aQ:List UInt8)(secret:List UInt8)(extra:List UInt8):Option (List UInt8×Int) :=
  (yh aj ah af ag ax pass aQ secret extra).bind fun r_=>if r_≠0 then(some (([]:List UInt8),r_)) else((aV ([ag,ax,ah,af,(19:Int),aj]:List Int) (0:Int)).bind fun aW=>(mZ aW).bind fun aO=>(app ([]:List UInt8) aO 1).bind fun b=>(aV ([ag,ax,ah,af,(19:Int),aj]:List Int) (1:Int)).bind fun iL=>(mZ iL).bind fun dL=>(app b dL 1).bind fun b1=>(aV ([ag,ax,ah,af,(19:Int),aj]:List Int) (2:Int)).bind fun jG=>(mZ jG).bind fun fP=>(app b1 fP 1).bind fun b2=>(aV ([ag,ax,ah,af,(19:Int),aj]:List Int) (3:Int)).bind fun kN=>(mZ kN).bind fun iP=>(app b2 iP 1).bind fun b3=>(aV ([ag,ax,ah,af,(19:Int),aj]:List Int) (4:Int)).bind fun lJ=>(mZ lJ).bind fun jW=>(app b3 jW 1).bind fun b4=>(aV ([ag,ax,ah,af,(19:Int),aj]:List Int) (5:Int)).bind fun mF=>(mZ mF).bind fun pV=>(app b4 pV 1).bind fun b5=>(mZ ((pass.length:Nat):Int)).bind fun tK=>(app b5 tK 1).bind fun b6=>(app b6 pass 1).bind fun b7=>(mZ ((aQ.length:Nat):Int)).bind fun GH=>(app b7 GH 1).bind fun b8=>(app b8 aQ 1).bind fun b9=>(mZ ((secret.length:Nat):Int)).bind fun IX=>(app b9 IX 1).bind fun b10=>(app b10 secret 1).bind fun b11=>(mZ ((extra.length:Nat):Int)).bind fun uZ=>(app b11 uZ 1).bind fun b12=>(app b12 extra 1).bind fun b13=>(Hq (1:Int) (64:Int) b13).bind fun u_=>some (u_.1,u_.2))
noncomputable def pg (aj:Int)(ah:Int)(af:Int)(ag:Int)(ax:Int):Option (Int×Int) :=
  (nV aj ah af ag ax).bind fun r_=>if r_≠0 then(some ((0:Int),r_)) else((need ((ay (4*ag))≠0)).bind fun u=>some (ay ((ay (Int.tdiv ah (ay (4*ag))))*4),(0:Int)))
noncomputable def su (n:Int)(b:List UInt8):Option (List UInt8) :=
  (xn (1:Int) n (0:Int) (1:Int) (1:Int) (0:UInt32) (0:UInt64) (0:UInt32) (0:Int) (0:Int) ([]:List UInt8) ([]:List UInt8) ([]:List UInt8) false n b).bind fun r_=>some r_.1
noncomputable def vV  : (List UInt8×Int×List UInt8)->Option ((List UInt8×Int×List UInt8)⊕(List UInt8×Int))
  | (out,left,v)=>if 96 < left then((G6 v 0 (32:Int)).bind fun b=>(app out b 1).bind fun out1=>(su (64:Int) v).bind fun fP=>some (.inl (out1,ay (left - 32),fP))) else(Option.map Sum.inr ((G6 v 0 (32:Int)).bind fun b1=>(app out b1 1).bind fun VG=>(su (ay (left - 32)) v).bind fun iP=>(app VG iP 1).bind fun b2=>some (b2,(0:Int))))
noncomputable def yO (size:Int)(data:List UInt8):(List UInt8×Int)->Option ((List UInt8×Int)⊕(List UInt8×Int))
  | (s_,i)=>if i < ((data.length:Nat):Int) then((aV data i).bind fun aW=>(app s_ ([aW]:List UInt8) 1).bind fun CU=>some (.inl (CU,ay (i+1)))) else(Option.map Sum.inr (if size<=64 then((su size s_).bind fun aO=>some (aO,(0:Int))) else((su (64:Int) s_).bind fun dL=>aZ (vV) (([]:List UInt8),size,dL))))
noncomputable def Ci (size:Int)(data:List UInt8):Option (List UInt8×Int) :=
  if((decide (size < 1))||(decide (1048576 < size)))=true then(some (([]:List UInt8),(1:Int))) else((o_ (UInt64.ofInt size) (4:Int)).bind fun r_=>aZ (yO size data) (r_,(0:Int)))
noncomputable def vW (aj:Int)(ah:Int)(af:Int)(ag:Int)(ax:Int):Option Int :=
  (pg aj ah af ag ax).bind fun r_=>some (ay (Int.tdiv r_.1 4))
noncomputable def EP (x_:List UInt8)(y_:List UInt8):(List UInt8×Int)->Option ((List UInt8×Int)⊕(List UInt8×Int))
  | (b,i)=>if i < 1024 then((aV x_ i).bind fun jG=>(aV y_ i).bind fun kN=>(app b ([jG^^^kN]:List UInt8) 1).bind fun b1=>some (.inl (b1,ay (i+1)))) else(Option.map Sum.inr (some (b,(0:Int))))
noncomputable def yj (x_:List UInt8)(y_:List UInt8):Option (List UInt8×Int) :=
  if((decide (((x_.length:Nat):Int)≠1024))||(decide (((y_.length:Nat):Int)≠1024)))=true then(some (([]:List UInt8),(1:Int))) else(aZ (EP x_ y_) (([]:List UInt8),(0:Int)))
noncomputable def Cj (a_:UInt64)(b:UInt64):Option UInt64 :=
  some (((2:UInt64)*(a_ % 4294967296))*(b % 4294967296))
noncomputable def DU (a_:UInt64)(b:UInt64)(c:UInt64)(d:UInt64):Option (Vec UInt64 4) :=
  (Cj a_ b).bind fun r_=>(j_ (d^^^((a_+b)+r_)) (32:Int)).bind fun aO=>(Cj c aO).bind fun dL=>(j_ (b^^^((c+aO)+dL)) (24:Int)).bind fun fP=>(Cj ((a_+b)+r_) fP).bind fun iP=>(j_ (aO^^^((((a_+b)+r_)+fP)+iP)) (16:Int)).bind fun jW=>(Cj ((c+aO)+dL) jW).bind fun pV=>(j_ (fP^^^((((c+aO)+dL)+jW)+pV)) (63:Int)).bind fun tK=>some (⟨[(((a_+b)+r_)+fP)+iP,tK,(((c+aO)+dL)+jW)+pV,jW],rfl⟩:Vec UInt64 4)
noncomputable def pq (i:Int)(r_:(Vec Int 4))(aO:Vec UInt64 4):(Vec UInt64 16×Int)->Option ((Vec UInt64 16×Int)⊕((Vec UInt64 16×Int)⊕(Vec UInt64 16)))
  | (v2,eU)=>if eU < 4 then((aV r_.l eU).bind fun GL=>(aV aO.l eU).bind fun BZ=>(aV v2.l GL).bind fun wH=>(some (lZ v2 GL BZ)).bind fun v3=>some (.inl (v3,ay (eU+1)))) else(Option.map Sum.inr (some (.inl (v2,ay (i+1)))))
noncomputable def Dc (v1:Vec UInt64 16)(i:Int)(r_:(Vec Int 4))(aO:Vec UInt64 4):Option ((Vec UInt64 16×Int)⊕(Vec UInt64 16)) :=
  aZ (pq i r_ aO) (v1,(0:Int))
noncomputable def Df  : (Vec UInt64 16×Int)->Option ((Vec UInt64 16×Int)⊕(Vec UInt64 16))
  | (v1,i)=>if i < 8 then((xZ i).bind fun r_=>(aV r_.l (0:Int)).bind fun aW=>(aV v1.l aW).bind fun x_1=>(aV r_.l (1:Int)).bind fun iL=>(aV v1.l iL).bind fun jG=>(aV r_.l (2:Int)).bind fun kN=>(aV v1.l kN).bind fun lJ=>(aV r_.l (3:Int)).bind fun mF=>(aV v1.l mF).bind fun qH=>(DU x_1 jG lJ qH).bind fun dL=>Dc v1 i r_ dL) else(Option.map Sum.inr (some v1))
noncomputable def FD (v:Vec UInt64 16):Option (Vec UInt64 16) :=
  aZ (Df) (v,(0:Int))
noncomputable def AZ (at_:Vec Int 16)(r_:(Vec UInt64 16)):(List UInt64×Int)->Option ((List UInt64×Int)⊕(List UInt64))
  | (z1,gG)=>if gG < 16 then((aV at_.l gG).bind fun jG=>(aV r_.l gG).bind fun kN=>(aV z1 jG).bind fun lJ=>some (.inl (z1.set (Int.toNat jG) kN,ay (gG+1)))) else(Option.map Sum.inr (some z1))
noncomputable def ER (z:List UInt64)(at_:Vec Int 16):(Vec UInt64 16×Int)->Option ((Vec UInt64 16×Int)⊕(List UInt64))
  | (v,bW)=>if bW < 16 then((aV at_.l bW).bind fun aW=>(aV z aW).bind fun x_1=>(aV v.l bW).bind fun iL=>(some (lZ v bW x_1)).bind fun v1=>some (.inl (v1,ay (bW+1)))) else(Option.map Sum.inr ((FD v).bind fun r_=>aZ (AZ at_ r_) (z,(0:Int))))
noncomputable def E_ (z:List UInt64)(at_:Vec Int 16):Option (List UInt64) :=
  aZ (ER z at_) ((Vec.rep 16 (0:UInt64)),(0:Int))
noncomputable def A_ (z2:List UInt64)(i1:Int):(Vec Int 16×Int)->Option ((Vec Int 16×Int)⊕((List UInt64×Int)⊕(List UInt8×Int)))
  | (at_,dP)=>if dP < 16 then((aV at_.l dP).bind fun jG=>(some (lZ at_ dP (ay ((ay (16*i1))+dP)))).bind fun v=>some (.inl (v,ay (dP+1)))) else(Option.map Sum.inr ((E_ z2 at_).bind fun dL=>some (.inl (dL,ay (i1+1)))))
noncomputable def Ba (z3:List UInt64)(i2:Int):(Vec Int 16×Int)->Option ((Vec Int 16×Int)⊕((List UInt64×Int)⊕(List UInt8×Int)))
  | (TS,ku)=>if ku < 16 then((aV TS.l ku).bind fun kN=>(some (lZ TS ku (ay ((ay ((ay (2*i2))+(ay (16*(ay (Int.tdiv ku 2))))))+(Int.tmod ku 2))))).bind fun v1=>some (.inl (v1,ay (ku+1)))) else(Option.map Sum.inr ((E_ z3 TS).bind fun fP=>some (.inl (fP,ay (i2+1)))))
noncomputable def Bc (r_:(List UInt8×Int))(z3:List UInt64):(List UInt8×Int)->Option ((List UInt8×Int)⊕(List UInt8×Int))
  | (b,i3)=>if i3 < 128 then((aV z3 i3).bind fun lJ=>(o_ lJ (8:Int)).bind fun iP=>(app b iP 1).bind fun b1=>some (.inl (b1,ay (i3+1)))) else(Option.map Sum.inr ((yj r_.1 b).bind fun jW=>some (jW.1,jW.2)))
noncomputable def Bd (r_:(List UInt8×Int)):(List UInt64×Int)->Option ((List UInt64×Int)⊕(List UInt8×Int))
  | (z3,i2)=>if i2 < 8 then(aZ (Ba z3 i2) ((Vec.rep 16 (0:Int)),(0:Int))) else(Option.map Sum.inr (aZ (Bc r_ z3) (([]:List UInt8),(0:Int))))
noncomputable def yl (r_:(List UInt8×Int)):(List UInt64×Int)->Option ((List UInt64×Int)⊕(List UInt8×Int))
  | (z2,i1)=>if i1 < 8 then(aZ (A_ z2 i1) ((Vec.rep 16 (0:Int)),(0:Int))) else(Option.map Sum.inr (aZ (Bd r_) (z2,(0:Int))))
noncomputable def ES (r_:(List UInt8×Int)):(List UInt64×Int)->Option ((List UInt64×Int)⊕(List UInt8×Int))
  | (z,i)=>if i < 128 then((sN r_.1 (ay (8*i)) (8:Int)).bind fun aO=>(app z ([aO.1]:List UInt64) 8).bind fun z1=>some (.inl (z1,ay (i+1)))) else(Option.map Sum.inr (aZ (yl r_) (z,(0:Int))))
noncomputable def Cm (x_:List UInt8)(y_:List UInt8):Option (List UInt8×Int) :=
  (yj x_ y_).bind fun r_=>if r_.2≠0 then(some (([]:List UInt8),r_.2)) else(aZ (ES r_) (([]:List UInt64),(0:Int)))
noncomputable def ui  : (List UInt8)->Option ((List UInt8)⊕(List UInt8))
  | b2=>if((b2.length:Nat):Int) < 1024 then((app b2 ([(0:UInt8)]:List UInt8) 1).bind fun b3=>some (.inl b3)) else(Option.map Sum.inr ((Cm (List.replicate (Int.toNat (1024:Int)) (0:UInt8)) b2).bind fun aO=>(Cm (List.replicate (Int.toNat (1024:Int)) (0:UInt8)) aO.1).bind fun dL=>some dL.1))
noncomputable def yt (aj:Int)(af:Int)(ag:Int)(pass:Int)(slice:Int)(lane:Int)(columns:Int)(n:Int):(List UInt8×Int)->Option ((List UInt8×Int)⊕(List UInt8))
  | (b,i)=>if i < ((7:Nat):Int) then((aV ([pass,lane,slice,ay (ag*columns),af,aj,n]:List Int) i).bind fun aW=>(o_ (UInt64.ofInt aW) (8:Int)).bind fun r_=>(app b r_ 1).bind fun b1=>some (.inl (b1,ay (i+1)))) else(Option.map Sum.inr (aZ (ui) b))
noncomputable def yP (aj:Int)(ah:Int)(af:Int)(ag:Int)(ax:Int)(pass:Int)(slice:Int)(lane:Int)(columns:Int)(n:Int):Option (List UInt8) :=
  aZ (yt aj af ag pass slice lane columns n) (([]:List UInt8),(0:Int))
noncomputable def uN (aW:Int)(out1:List UInt64)(b1:List UInt8):Option ((List UInt64×List UInt8×Int)⊕(List UInt64×Int)) :=
  some (.inl (out1,b1,ay (aW+1)))
noncomputable def nO (out:List UInt64)(aW:Int)(b2:List UInt8):Option ((List UInt64×List UInt8×Int)⊕(List UInt64×Int)) :=
  (sN b2 (ay (8*(Int.tmod aW 128))) (8:Int)).bind fun iP=>(app out ([iP.1]:List UInt64) 8).bind fun VG=>uN aW VG b2
noncomputable def uO (aj:Int)(ah:Int)(af:Int)(ag:Int)(ax:Int)(pass:Int)(slice:Int)(lane:Int)(aO:(Int×Int)):(List UInt64×List UInt8×Int)->Option ((List UInt64×List UInt8×Int)⊕(List UInt64×Int))
  | (out,b,aW)=>(vW aj ah af ag ax).bind fun dL=>if aW < dL then(if(Int.tmod aW 128)=0 then((yP aj ah af ag ax pass slice lane aO.1 (ay ((ay (Int.tdiv aW 128))+1))).bind fun fP=>nO out aW fP) else(nO out aW b)) else(Option.map Sum.inr (some (out,(0:Int))))
noncomputable def vH (aj:Int)(ah:Int)(af:Int)(ag:Int)(ax:Int)(pass:Int)(slice:Int)(lane:Int):Option (List UInt64×Int) :=
  (nV aj ah af ag ax).bind fun r_=>if r_≠0 then(some (([]:List UInt64),r_)) else(if((((((decide (pass < 0))||(decide (af<=pass)))||(decide (slice < 0)))||(decide (3 < slice)))||(decide (lane < 0)))||(decide (ag<=lane)))=true then(some (([]:List UInt64),(1:Int))) else((pg aj ah af ag ax).bind fun aO=>aZ (uO aj ah af ag ax pass slice lane aO) (([]:List UInt64),([]:List UInt8),(0:Int))))
noncomputable def uj (j:UInt64)(aO:Int)(l:Int)(Es:Int)(start:Int):Option (Int×Int×Int) :=
  (need ((ay (4*aO))≠0)).bind fun u1=>some (l,Int.tmod (ay ((ay ((ay (start+Es)) - 1)) - (ay (iH ((UInt64.ofInt Es)*(iH ((j % 4294967296)*(j % 4294967296)) ((32:UInt64).toNat))) ((32:UInt64).toNat)).toNat))) (ay (4*aO)),(0:Int))
noncomputable def ql (pass:Int)(slice:Int)(j:UInt64)(aO:Int)(l:Int)(Es:Int):Option (Int×Int×Int) :=
  if((decide (0 < pass))&&(decide (slice < 3)))=true then(uj j aO l Es (ay ((ay (slice+1))*aO))) else(uj j aO l Es (0:Int))
noncomputable def uk (pass:Int)(slice:Int)(lane:Int)(x_:Int)(j:UInt64)(aO:Int)(l:Int)(area:Int):Option (Int×Int×Int) :=
  if l=lane then(ql pass slice j aO l (ay ((ay (area+x_)) - 1))) else(if x_=0 then(ql pass slice j aO l (ay (area - 1))) else(ql pass slice j aO l area))
noncomputable def um (pass:Int)(slice:Int)(lane:Int)(x_:Int)(j:UInt64)(aO:Int)(l:Int):Option (Int×Int×Int) :=
  if pass=0 then(uk pass slice lane x_ j aO l (ay (slice*aO))) else(uk pass slice lane x_ j aO l (ay (3*aO)))
noncomputable def DV (aj:Int)(ah:Int)(af:Int)(ag:Int)(ax:Int)(pass:Int)(slice:Int)(lane:Int)(x_:Int)(j:UInt64):Option (Int×Int×Int) :=
  (nV aj ah af ag ax).bind fun r_=>if r_≠0 then(some ((0:Int),(0:Int),r_)) else((vW aj ah af ag ax).bind fun aO=>if(((((((((decide (pass < 0))||(decide (af<=pass)))||(decide (slice < 0)))||(decide (3 < slice)))||(decide (lane < 0)))||(decide (ag<=lane)))||(decide (x_ < 0)))||(decide (aO<=x_)))||(((decide (pass=0))&&(decide (slice=0)))&&(decide (x_ < 2))))=true then(some ((0:Int),(0:Int),(1:Int))) else((need ((UInt64.ofInt ag)≠0)).bind fun u=>if((decide (pass=0))&&(decide (slice=0)))=true then(um pass slice lane x_ j aO lane) else(um pass slice lane x_ j aO (ay ((iH j ((32:UInt64).toNat)) % (UInt64.ofInt ag)).toNat))))
noncomputable def yQ (aW:Int)(H9:List (List UInt8)):Option ((List (List UInt8)×Int)⊕(List (List UInt8))) :=
  some (.inl (H9,ay (aW+1)))
noncomputable def vX (aW:Int)(NR:List (List UInt8)):Option ((List (List UInt8)×Int)⊕(List (List UInt8))) :=
  yQ aW NR
noncomputable def vY (slice:Int)(lane:Int)(columns:Int)(wO:List (List UInt8))(aW:Int)(b2:List UInt8):Option ((List (List UInt8)×Int)⊕(List (List UInt8))) :=
  (aV wO (ay ((ay (lane*columns))+(ay ((ay (slice*(ay (Int.tdiv columns 4))))+aW))))).bind fun b4=>vX aW (wO.set (Int.toNat (ay ((ay (lane*columns))+(ay ((ay (slice*(ay (Int.tdiv columns 4))))+aW))))) b2)
noncomputable def sO (aj:Int)(ah:Int)(af:Int)(ag:Int)(ax:Int)(pass:Int)(slice:Int)(lane:Int)(columns:Int)(wO:List (List UInt8))(aW:Int)(b:List UInt8)(j:UInt64):Option ((List (List UInt8)×Int)⊕(List (List UInt8))) :=
  (DV aj ah af ag ax pass slice lane aW j).bind fun dL=>(aV wO (ay ((ay (dL.1*columns))+dL.2.1))).bind fun b1=>(Cm b b1).bind fun fP=>if 0 < pass then((aV wO (ay ((ay (lane*columns))+(ay ((ay (slice*(ay (Int.tdiv columns 4))))+aW))))).bind fun b3=>(yj fP.1 b3).bind fun iP=>vY slice lane columns wO aW iP.1) else(vY slice lane columns wO aW fP.1)
noncomputable def yR (aj:Int)(ah:Int)(af:Int)(ag:Int)(ax:Int)(pass:Int)(slice:Int)(lane:Int)(columns:Int)(drawn:List UInt64):(List (List UInt8)×Int)->Option ((List (List UInt8)×Int)⊕(List (List UInt8)))
  | (wO,aW)=>if aW < (ay (Int.tdiv columns 4)) then(if(((decide (pass=0))&&(decide (slice=0)))&&(decide (aW < 2)))=true then(vX aW wO) else((need (columns≠0)).bind fun u=>(aV wO (ay ((ay (lane*columns))+(Int.tmod (ay ((ay ((ay ((ay (slice*(ay (Int.tdiv columns 4))))+aW))+columns)) - 1)) columns)))).bind fun b=>if((decide (aj=0))||((decide (aj=2))&&((decide (0 < pass))||(decide (1 < slice)))))=true then((sN b (0:Int) (8:Int)).bind fun aO=>sO aj ah af ag ax pass slice lane columns wO aW b aO.1) else((aV drawn aW).bind fun x_1=>sO aj ah af ag ax pass slice lane columns wO aW b x_1))) else(Option.map Sum.inr (some wO))
noncomputable def vZ (aj:Int)(ah:Int)(af:Int)(ag:Int)(ax:Int)(m_:List (List UInt8))(pass:Int)(slice:Int)(lane:Int)(columns:Int)(drawn:List UInt64):Option (List (List UInt8)) :=
  aZ (yR aj ah af ag ax pass slice lane columns drawn) (m_,(0:Int))
noncomputable def FH (aj:Int)(ah:Int)(af:Int)(ag:Int)(ax:Int)(m_:List (List UInt8))(pass:Int)(slice:Int)(lane:Int)(columns:Int):Option (List (List UInt8)) :=
  if(!((decide (aj=0))||((decide (aj=2))&&((decide (0 < pass))||(decide (1 < slice))))))=true then((vH aj ah af ag ax pass slice lane).bind fun r_=>vZ aj ah af ag ax m_ pass slice lane columns r_.1) else(vZ aj ah af ag ax m_ pass slice lane columns ([]:List UInt64))
noncomputable def v_ (start:List UInt8)(r_:(Int×Int))(lane:Int):(List (List UInt8)×Int)->Option ((List (List UInt8)×Int)⊕((List (List UInt8)×Int)⊕(List (List UInt8)×Int)))
  | (wO,c2)=>if c2 < 2 then((app ([]:List UInt8) start 1).bind fun b=>(mZ c2).bind fun aO=>(app b aO 1).bind fun b1=>(mZ lane).bind fun dL=>(app b1 dL 1).bind fun b2=>(Ci (1024:Int) b2).bind fun fP=>(aV wO (ay ((ay (lane*r_.1))+c2))).bind fun b3=>some (.inl (wO.set (Int.toNat (ay ((ay (lane*r_.1))+c2))) fP.1,ay (c2+1)))) else(Option.map Sum.inr (some (.inl (wO,ay (lane+1)))))
noncomputable def wo (aj:Int)(ah:Int)(af:Int)(ag:Int)(ax:Int)(r_:(Int×Int))(pass:Int)(slice:Int):(List (List UInt8)×Int)->Option ((List (List UInt8)×Int)⊕((List (List UInt8)×Int)⊕((List (List UInt8)×Int)⊕(List (List UInt8)×Int))))
  | (XZ,KL)=>if KL < ag then((FH aj ah af ag ax XZ pass slice KL r_.1).bind fun iP=>some (.inl (iP,ay (KL+1)))) else(Option.map Sum.inr (some (.inl (XZ,ay (slice+1)))))
noncomputable def wu (aj:Int)(ah:Int)(af:Int)(ag:Int)(ax:Int)(r_:(Int×Int))(pass:Int):(List (List UInt8)×Int)->Option ((List (List UInt8)×Int)⊕((List (List UInt8)×Int)⊕(List (List UInt8)×Int)))
  | (NR,slice)=>if slice < 4 then(aZ (wo aj ah af ag ax r_ pass slice) (NR,(0:Int))) else(Option.map Sum.inr (some (.inl (NR,ay (pass+1)))))
noncomputable def wz (aj:Int)(ah:Int)(af:Int)(ag:Int)(ax:Int)(r_:(Int×Int)):(List (List UInt8)×Int)->Option ((List (List UInt8)×Int)⊕(List (List UInt8)×Int))
  | (H9,pass)=>if pass < af then(aZ (wu aj ah af ag ax r_ pass) (H9,(0:Int))) else(Option.map Sum.inr (some (H9,(0:Int))))
noncomputable def yS (aj:Int)(ah:Int)(af:Int)(ag:Int)(ax:Int)(start:List UInt8)(r_:(Int×Int)):(List (List UInt8)×Int)->Option ((List (List UInt8)×Int)⊕(List (List UInt8)×Int))
  | (m_,lane)=>if lane < ag then(aZ (v_ start r_ lane) (m_,(0:Int))) else(Option.map Sum.inr (aZ (wz aj ah af ag ax r_) (m_,(0:Int))))
noncomputable def FI (aj:Int)(ah:Int)(af:Int)(ag:Int)(ax:Int)(start:List UInt8):Option (List (List UInt8)×Int) :=
  (pg aj ah af ag ax).bind fun r_=>if r_.2≠0 then(some (([]:List (List UInt8)),r_.2)) else(if((start.length:Nat):Int)≠64 then(some (([]:List (List UInt8)),(1:Int))) else((need ((0:Int)<=ay (ag*r_.1)/\(ay (ag*r_.1):Int)<=ay (ag*r_.1)/\Int.toNat (ay (ag*r_.1))*24<=140737488355328)).bind fun u=>aZ (yS aj ah af ag ax start r_) (List.replicate (Int.toNat (ay (ag*r_.1))) ([]:List UInt8),(0:Int))))
noncomputable def Dh (ag:Int)(ax:Int)(aO:(List (List UInt8)×Int))(dL:(Int×Int)):(List UInt8×Int)->Option ((List UInt8×Int)⊕(List UInt8×Int))
  | (b,lane)=>if lane < ag then((aV aO.1 (ay ((ay ((ay (lane*dL.1))+dL.1)) - 1))).bind fun b1=>(yj b b1).bind fun fP=>some (.inl (fP.1,ay (lane+1)))) else(Option.map Sum.inr ((Ci ax b).bind fun iP=>some (iP.1,iP.2)))
noncomputable def uP (aj:Int)(ah:Int)(af:Int)(ag:Int)(ax:Int)(pass:List UInt8)(aQ:List UInt8)(secret:List UInt8)(extra:List UInt8):Option (List UInt8×Int) :=
  (xu aj ah af ag ax pass aQ secret extra).bind fun r_=>if r_.2≠0 then(some (([]:List UInt8),r_.2)) else((FI aj ah af ag ax r_.1).bind fun aO=>(pg aj ah af ag ax).bind fun dL=>aZ (Dh ag ax aO dL) (List.replicate (Int.toNat (1024:Int)) (0:UInt8),(0:Int)))
noncomputable def FK (aj:Int)(ah:Int)(af:Int)(ag:Int)(ax:Int)(word:List UInt8)(aQ:List UInt8):Option (List UInt8×Int) :=
  (uP aj ah af ag ax word aQ ([]:List UInt8) ([]:List UInt8)).bind fun r_=>if r_.2≠0 then(some (([]:List UInt8),r_.2)) else((Dw aj ah af ag ax aQ r_.1).bind fun aO=>some (aO.1,aO.2))
noncomputable def Gs (a_:List UInt8)(b:List UInt8):Option Bool :=
  some (decide (a_=b))
noncomputable def Be (aj:Int)(ah:Int)(af:Int)(ag:Int)(ax:Int)(tag:List UInt8)(pass:List UInt8)(aQ:List UInt8)(secret:List UInt8)(extra:List UInt8):Option (Bool×Int) :=
  (nS aj ah af ag ax pass aQ secret extra).bind fun r_=>if r_.2≠0 then(some (false,r_.2)) else(if((tag.length:Nat):Int)≠ax then(some (false,(60:Int))) else((rZ aj ah af ag ax pass aQ secret extra).bind fun aO=>(Gs aO.1 tag).bind fun dL=>some (dL,aO.2)))
noncomputable def yT (s_:List UInt8)(w_:List UInt8):Option (Bool×Int) :=
  (rG s_).bind fun r_=>if r_.2.2.2.2.2.2.2.2≠0 then(some (false,r_.2.2.2.2.2.2.2.2)) else((Be r_.1 r_.2.1 r_.2.2.1 r_.2.2.2.1 r_.2.2.2.2.1 r_.2.2.2.2.2.2.1 w_ r_.2.2.2.2.2.1 ([]:List UInt8) ([]:List UInt8)).bind fun aO=>some (aO.1,aO.2))
noncomputable def Bf (s_:List UInt8)(word:List UInt8):Option (Bool×Int) :=
  (zL s_).bind fun r_=>if r_.2.2.2.2.2.2.2.2≠0 then(some (false,r_.2.2.2.2.2.2.2.2)) else((uP r_.1 r_.2.1 r_.2.2.1 r_.2.2.2.1 r_.2.2.2.2.1 word r_.2.2.2.2.2.1 ([]:List UInt8) ([]:List UInt8)).bind fun aO=>if aO.2≠0 then(some (false,aO.2)) else((Fh aO.1 r_.2.2.2.2.2.2.1).bind fun dL=>some (dL,(0:Int))))
noncomputable def Bg (s_:List UInt8)(aj:Int)(ah:Int)(af:Int)(ag:Int)(ax:Int):Option (Bool×Int) :=
  (rG s_).bind fun r_=>if r_.2.2.2.2.2.2.2.2≠0 then(some (false,r_.2.2.2.2.2.2.2.2)) else((sH aj ah af ag ax r_.2.2.2.2.2.1).bind fun aO=>if aO≠0 then(some (false,aO)) else(some (!(decide (r_.1=aj)&&(decide (r_.2.1=ah)&&(decide (r_.2.2.1=af)&&(decide (r_.2.2.2.1=ag)&&(decide (r_.2.2.2.2.1=ax)&&true))))),(0:Int))))
noncomputable def zU (s_:List UInt8)(aj:Int)(ah:Int)(af:Int)(ag:Int)(ax:Int):Option (Bool×Int) :=
  (zL s_).bind fun r_=>if r_.2.2.2.2.2.2.2.2≠0 then(some (false,r_.2.2.2.2.2.2.2.2)) else((uB aj ah af ag ax r_.2.2.2.2.2.1).bind fun aO=>if aO≠0 then(some (false,aO)) else(some (!(decide (r_.1=aj)&&(decide (r_.2.1=ah)&&(decide (r_.2.2.1=af)&&(decide (r_.2.2.2.1=ag)&&(decide (r_.2.2.2.2.1=ax)&&true))))),(0:Int))))
noncomputable def zi (aj:Int)(ah:Int)(af:Int)(ag:Int)(ax:Int)(word:List UInt8)(aQ:List UInt8)(s_:List UInt8)(qm:Int)(mW:Int)(mX:Int)(n_:Int)(uo:Int):Option Bool :=
  (DT aj ah af ag ax word aQ).bind fun r_=>(FK aj ah af ag ax word aQ).bind fun aO=>if((decide (r_.1≠aO.1))||(decide (r_.2≠aO.2)))=true then(some false) else((yT s_ word).bind fun dL=>(Bf s_ word).bind fun fP=>if((decide (dL.1≠fP.1))||(decide (dL.2≠fP.2)))=true then(some false) else((Bg s_ qm mW mX n_ uo).bind fun iP=>(zU s_ qm mW mX n_ uo).bind fun jW=>if((decide (iP.1=jW.1))&&(decide (iP.2=jW.2)))=true then((Dx).bind fun pV=>some pV) else(some false)))
end Go.Sx
