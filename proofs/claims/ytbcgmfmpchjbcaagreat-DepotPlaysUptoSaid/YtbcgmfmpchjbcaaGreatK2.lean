import Derived.OpenShut
import Derived.ShutString
import Derived.ChangeOld
import Derived.Below
import Derived.JoinedCond
import Derived.MapKept
import Derived.Maps.RangeRun
import Derived.Sort.OwnSorted
import Derived.Sort.KeysCollected
import Derived.Shelf.Sort.Plain
import Derived.Shelf.Slices.In.SortNone
import Derived.Sort.OwnSortedInts
import Derived.Shelf.Strconv.Itoa3
import Derived.Laws.FloatArith
import Derived.Test.YtbcgmfmpchjbcaaGreatK1
namespace Go.Sx
open Go.RowKit
set_option linter.unusedSimpArgs false
set_option linter.unusedVariables false
section
def QF:Exit->Act->World->Prop:=fun _ _ _=>False
section
variable {P:Program}{ops:Array Oper}{Ls:A01}{C:Nat->World->Prop}
def nx (Ls:A01)(p i:Nat):Nat:=if Ls.contains i then p+1 else p
def wpC (P:Program)(ops:Array Oper)(Ls:A01)(C:Nat->World->Prop)(Q:Act->World->Prop):Nat->Nat->Array Bool->Act->World->Prop
  | 0,_,listed,a,w=>Region.ready .any ops listed=[]/\Q a w
  | k+1,p,listed,a,w=>(Region.ready .any ops listed=[]->Q a w) /\
      ∀ i ∈ Region.ready .any ops listed,wpOp P ops QF i (fun a' w'=>C (nx Ls p i) w'/\wpC P ops Ls C Q k (nx Ls p i) (listed.setIfInBounds i true) a' w') a w
theorem wpOp_Q {i:Nat}{a:Act}{w:World}{K:Act->World->Prop}{Q:Exit->Act->World->Prop}(h:wpOp P ops QF i K a w):wpOp P ops Q i K a w:=by
  unfold wpOp at *;split
  ·rename_i ho;simp only[ho] at h;exact h
  ·rename_i o ho;simp only[ho] at h;split
   ·rename_i hw;rw[if_pos hw] at h;rcases h with h | ⟨_,a',w',hf⟩
    ·exact .inl (Oper.wp_Q (fun _ _ _ hf=>hf.elim) h)
    ·exact hf.elim
   ·rename_i hw;rw[if_neg hw] at h;exact h
theorem Uu {Q:Act->World->Prop}{Q':Exit->Act->World->Prop}(hq:∀ a w,Q a w->Q' .normal a w):∀ (k p:Nat) (listed:Array Bool) (a:Act) (w:World),wpC P ops Ls C Q k p listed a w->wpAny P .any ops Q' k listed a w
  | 0,_,_,_,_,h=>⟨h.1,hq _ _ h.2⟩
  | k+1,_,_,_,_,h=>⟨fun h0=>hq _ _ (h.1 h0),fun i hi=>wpOp_mono (fun a' w' h'=>Uu hq k _ _ a' w' h'.2) (wpOp_Q (h.2 i hi))⟩
def YC (P:Program)(ops:Array Oper)(C:World->Prop)(o:Oper)(v:Value)(a:Act):Prop :=
  (Region.wanted o (yielded ops a.tmps)=true/\∀ w,C w->(execOp a.eval o).run P w=.ok (.value v) w)∨(Region.wanted o (yielded ops a.tmps)=false/\v=undef)
theorem YC.op {D:World->Prop}{i:Nat}{o:Oper}{v:Value}{a:Act}{w:World}{Q:Exit->Act->World->Prop}(hi:ops[i]?=some o)(hy:YC P ops D o v a)(hw:D w){K:Act->World->Prop}(h:K (a.put o.dst v) w):wpOp P ops Q i K a w:=by
  unfold wpOp;simp only[hi];rcases hy with⟨h1,h2⟩ | ⟨h1,rfl⟩
  ·rw[if_pos h1];refine .inl ?_;unfold Oper.wp;rw[h2 w hw];exact h
  ·rw[if_neg (by simp[h1])];exact h
theorem wpOp_put {D:World->Prop}{j:Nat}{oi oj:Oper}{v:Value}{w:World}(hj:ops[j]?=some oj)(hap:oi.apart ops oj=true)(hsi:∀ cs b,oi.op≠.select cs b)(hsj:∀ cs b,oj.op≠.select cs b){K:Act->World->Prop}{a:Act}
    (hy:YC P ops D oi v a) (h:wpOp P ops QF j K (a.put oi.dst v) w):wpOp P ops QF j (fun a' w'=>YC P ops D oi v a'/\K (a'.put oi.dst v) w') a w:=by
  obtain⟨h1,h2,h3⟩:=Oper.apart_spec hap;have keep:∀ (u:Value),YC P ops D oi v (a.put oj.dst u):=fun u=>by
    unfold YC at *;rw[execOp_put oi hsi a oj.dst u h3,wanted_put oi a oj.dst u h3];exact hy
  have keepD:∀ (u:Value) (d:Deferred),YC P ops D oi v ({ a with defers:=d::a.defers }.put oj.dst u):=fun u d=>by
    have h4:=keep u;unfold YC at *;have e1:({ a with defers:=d::a.defers }:Act).put oj.dst u={ a.put oj.dst u with defers:=d::a.defers }:=by
      unfold Act.put;split <;> rfl
    rw[e1];exact h4
  unfold wpOp at *;simp only[hj] at *;rw[wanted_put oj a oi.dst v h1] at h;split
  ·rename_i hw;rw[if_pos hw] at h;rcases h with h | ⟨_,a',w',hf⟩
   ·refine .inl ?_;unfold Oper.wp at *;rw[execOp_put oj hsj a oi.dst v h1] at h;generalize (execOp a.eval oj).run P w=r at *;cases r with
    | ok x w' =>
      cases x <;> simp only[Oper.upon] at h ⊢ <;> first | exact h.elim | skip
      case value u=>exact⟨keep u,by rw[<- Act.put_comm a v u h2];exact h⟩
      case skip=>exact⟨keep _,by rw[<- Act.put_comm a v undef h2];exact h⟩
      case defer d =>
        refine⟨keepD _ d,?_⟩;have e1:(({ a with defers:=d::a.defers }:Act).put oj.dst undef).put oi.dst v=({ a.put oi.dst v with defers:=d::(a.put oi.dst v).defers }:Act).put oj.dst undef:=by
          rw[<- Act.put_comm _ v undef h2];unfold Act.put;cases oi.dst <;> rfl
        rw[e1];exact h
      case enter f args =>
        refine h.mono fun e w'' he=>?_;cases e with
        | returned u=>exact⟨keep u,by rw[<- Act.put_comm a v u h2];exact he⟩
        | panicked c=>exact he
        | outgrown=>exact he
      case row row args =>
        refine h.mono fun u w'' he=>⟨keep u,by rw[<- Act.put_comm a v u h2];exact he⟩
    | halt x w'=>cases x <;> simp only[Oper.upon] at h ⊢ <;> exact h
   ·exact hf.elim
  ·rename_i hw;rw[if_neg hw] at h;exact⟨keep _,by rw[<- Act.put_comm a v undef h2];exact h⟩
def asks (ops:Array Oper)(j i:Nat):Bool:=match ops[j]? with
  | some o=>o.after.any fun e=>Region.binds .any e&&e.on == i
  | none=>false
def Iu (ops:Array Oper)(lst:Nat->Bool)(j i:Nat):Bool:=asks ops j i||match ops[j]? with
  | some o=>o.after.any fun e=>Region.binds .any e&&!lst e.on&&asks ops e.on i
  | none=>false
def ahead (ops:Array Oper)(Ls:A01)(listed:Array Bool)(i:Nat):Nat:=(Ls.filter fun j=>!listed.getD j true&&!Iu ops (fun x=>listed.getD x false) j i).length
theorem asks_not {i j:Nat}{oj:Oper}(hj:ops[j]?=some oj)(hnot:∀ e ∈ oj.after,Region.binds .any e=true->e.on≠i):asks ops j i=false:=by
  unfold asks;rw[hj];simp only[Array.any_eq_false'];intro e he;have:=hnot e he;cases hb:Region.binds .any e with
  | false=>simp
  | true=>simpa using this hb
theorem WJ {listed:Array Bool}{i j:Nat}(hj:j ∈ Region.ready .any ops listed)(hi:listed.getD i true=false):Iu ops (fun x=>listed.getD x false) j i=false:=by
  obtain⟨hjun,oj,hoj,hall⟩:=mem_ready.1 hj;have hi':listed.getD i false=false:=by
    rcases Nat.lt_or_ge i listed.size with h' | h'
    ·simp[h'] at hi ⊢;exact hi
    ·simp[Array.getElem?_eq_none h']
  unfold Iu;rw[asks_not hoj (fun e he hb heq=>by have:=hall e he hb;rw[heq,hi'] at this;cases this),hoj];simp only[Bool.false_or,Array.any_eq_false'];intro e he;cases hb:Region.binds .any e with
  | false=>simp
  | true=>simp only[hall e he hb];simp
theorem WM {listed:Array Bool}{i j x:Nat}(hj:j ∈ Region.ready .any ops listed)(hi:listed.getD i true=false)(h:Iu ops (fun x=>listed.getD x false) x i=true):Iu ops (fun y=>(listed.setIfInBounds j true).getD y false) x i=true:=by
  have hji:asks ops j i=false:=by
    have:=WJ hj hi;unfold Iu at this;rw[Bool.or_eq_false_iff] at this;exact this.1
  unfold Iu at h ⊢;rw[Bool.or_eq_true] at h ⊢;rcases h with h | h
  ·exact .inl h
  ·refine .inr ?_;cases ho:ops[x]? with
   | none=>rw[ho] at h;cases h
   | some o =>
     rw[ho] at h;simp only[Array.any_eq_true'] at h ⊢;obtain⟨e,he,hq⟩:=h;refine⟨e,he,?_⟩;simp only[A0k,Bool.not_eq_true'] at hq ⊢;obtain⟨⟨h1,h2⟩,h3⟩:=hq;refine⟨⟨h1,?_⟩,h3⟩;by_cases hje:j=e.on
     ·rw[<- hje,hji] at h3;cases h3
     ·rw[getD_set_ne false hje];exact h2
theorem ahead_le {listed:Array Bool}{i j:Nat}(hr:j ∈ Region.ready .any ops listed)(hi:listed.getD i true=false):ahead ops Ls (listed.setIfInBounds j true) i<=ahead ops Ls listed i:=by
  unfold ahead;rw[<- List.countP_eq_length_filter,<-List.countP_eq_length_filter];refine List.countP_mono_left fun x _ hx=>?_;simp only[A0k,Bool.not_eq_true'] at hx ⊢;refine⟨?_,?_⟩
  ·by_cases hxj:j=x
   ·subst hxj;have:=hx.1;rcases Nat.lt_or_ge j listed.size with h | h
    ·simp[h] at this
    ·simp[Array.getElem?_eq_none h] at this
   ·rw[getD_set_ne true hxj] at hx;exact hx.1
  ·cases hq:Iu ops (fun x=>listed.getD x false) x i with
   | false=>rfl
   | true=>rw[WM hr hi hq] at hx;exact absurd hx.2 (by decide)
theorem ahead_lt {listed:Array Bool}{i j:Nat}(hr:j ∈ Region.ready .any ops listed)(hi:listed.getD i true=false)(hj:Ls.contains j=true)(hun:listed.getD j true=false):ahead ops Ls (listed.setIfInBounds j true) i+1<=ahead ops Ls listed i:=by
  have hna:=WJ hr hi;unfold ahead;rw[<- List.countP_eq_length_filter,<-List.countP_eq_length_filter];have key:∀ l:A01,l.countP (fun x=>!(listed.setIfInBounds j true).getD x true&&!Iu ops (fun y=>(listed.setIfInBounds j true).getD y false) x i)<=l.countP (fun x=>!listed.getD x true&&!Iu ops (fun y=>listed.getD y false) x i):=fun l=>by
    refine List.countP_mono_left fun x _ hx=>?_;simp only[A0k,Bool.not_eq_true'] at hx ⊢;refine⟨?_,?_⟩
    ·by_cases hxj:j=x
     ·subst hxj;exact hun
     ·rw[getD_set_ne true hxj] at hx;exact hx.1
    ·cases hq:Iu ops (fun x=>listed.getD x false) x i with
     | false=>rfl
     | true=>rw[WM hr hi hq] at hx;exact absurd hx.2 (by decide)
  have hjs:(listed.setIfInBounds j true).getD j true=true:=by
    rcases Nat.lt_or_ge j listed.size with h | h
    ·simp[h]
    ·simp[Array.getElem?_eq_none h]
  induction Ls with
  | nil=>simp at hj
  | cons x l ih =>
    rw[List.countP_cons,List.countP_cons];by_cases hx:x=j
    ·subst hx;have:=key l;simp only[hjs,hun,hna,Bool.not_true,Bool.false_and,Bool.not_false,Bool.and_self,if_true];simp only[A0z,if_false];omega
    ·have h1:l.contains j=true:=by
       simp only[List.contains_cons,Bool.or_eq_true,beq_iff_eq] at hj;exact hj.resolve_left (fun e=>hx e.symm)
     have:=ih h1;have hm:(if(!(listed.setIfInBounds j true).getD x true&&!Iu ops (fun y=>(listed.setIfInBounds j true).getD y false) x i)=true then 1 else 0)<=(if(!listed.getD x true&&!Iu ops (fun y=>listed.getD y false) x i)=true then 1 else 0):=by
       have:=key [x];simpa [List.countP_cons] using this
     omega
theorem WN {Q:Act->World->Prop}{i m:Nat}{oi:Oper}{v:Value}(hmono:∀ p q x,p<=q->C p x->C q x)(hi:ops[i]?=some oi)(hil:Ls.contains i=false)(hsel:∀ (j:Nat) (o:Oper) cs b,ops[j]?=some o->o.op≠.select cs b) :
    ∀ (k p:Nat) (listed:Array Bool) (a:Act) (w:World),C p w->p+ahead ops Ls listed i<=m ->
      (∀ j oj,ops[j]?=some oj->j≠i->listed.getD j true=false->(∀ e ∈ oj.after,Region.binds .any e=true->e.on≠i)->oi.apart ops oj=true) ->
      i ∈ Region.ready .any ops listed->YC P ops (C m) oi v a ->
      wpC P ops Ls C Q k p (listed.setIfInBounds i true) (a.put oi.dst v) w->wpC P ops Ls C Q (k+1) p listed a w:=by
  have hni:∀ p,nx Ls p i=p:=fun p=>by unfold nx;rw[hil];rfl
  intro k
  induction k with
  | zero =>
    intro p listed a w hw hm _ hr hy H;refine⟨fun h=>(by rw[h] at hr;cases hr),fun j hj=>?_⟩;by_cases hji:j=i
    ·subst hji;rw[hni];exact hy.op hi (hmono p m w (by omega) hw) ⟨hw,H⟩
    ·have:=ready_mono hj hji;rw[H.1] at this;cases this
  | succ k ih =>
    intro p listed a w hw hm hfree hr hy H;refine⟨fun h=>(by rw[h] at hr;cases hr),fun j hj=>?_⟩;by_cases hji:j=i
    ·subst hji;rw[hni];exact hy.op hi (hmono p m w (by omega) hw) ⟨hw,H⟩
    ·have h1:=H.2 j (ready_mono hj hji);obtain⟨hjun,oj,hoj,hall⟩:=mem_ready.1 hj;have hnot:∀ e ∈ oj.after,Region.binds .any e=true->e.on≠i:=fun e he hb heq=>by
       have h1:=hall e he hb;have h0:=(mem_ready.1 hr).1;rw[heq] at h1;rcases Nat.lt_or_ge i listed.size with h' | h'
       ·simp[h'] at h0 h1;rw[h0] at h1;cases h1
       ·simp[Array.getElem?_eq_none h'] at h1
     have h2:=wpOp_put hoj (hfree j oj hoj hji hjun hnot) (fun cs b=>hsel i oi cs b hi) (fun cs b=>hsel j oj cs b hoj) hy h1;have hfree':∀ m om,ops[m]?=some om->m≠i->(listed.setIfInBounds j true).getD m true=false ->
         (∀ e ∈ om.after,Region.binds .any e=true->e.on≠i)->oi.apart ops om=true:=fun m om hm hmi hun hno=>by
       refine hfree m om hm hmi ?_ hno;by_cases hjm:j=m
       ·subst hjm;exact hjun
       ·rw[getD_set_ne true hjm] at hun;exact hun
     have hm':nx Ls p j+ahead ops Ls (listed.setIfInBounds j true) i<=m:=by
       unfold nx;split
       ·rename_i hc;have:=ahead_lt (ops:=ops) (Ls:=Ls) hj (mem_ready.1 hr).1 hc hjun;omega
       ·have:=ahead_le (ops:=ops) (Ls:=Ls) hj (mem_ready.1 hr).1;omega
     refine wpOp_mono (fun a' w' h3=>?_) h2;obtain⟨hy',hw',h4⟩:=h3;refine⟨hw',ih _ (listed.setIfInBounds j true) a' w' hw' hm' hfree' (ready_mono hr (Ne.symm hji)) hy' ?_⟩;rw[Array.setIfInBounds_comm _ _ hji];exact h4
def cls:List (World->Prop)->Nat->World->Prop
  | [],_,_=>True
  | c::_,0,x=>c x
  | _::cs,p+1,x=>cls cs p x
def VV:List (World->Prop)->Prop
  | c::d::cs=>(∀ x,c x->d x)/\VV (d::cs)
  | _=>True
theorem VV.step:∀ (l:List (World->Prop))(p:Nat)(x:World),VV l->cls l p x->cls l (p+1) x
  | [],_,_,_,_=>trivial
  | [_],0,_,_,_=>trivial
  | [_],_+1,_,_,_=>trivial
  | _::_::_,0,x,h,hx=>h.1 x hx
  | _::d::cs,p+1,x,h,hx=>VV.step (d::cs) p x h.2 hx
theorem VV.le {l:List (World->Prop)}(h:VV l):∀ p q x,p<=q->cls l p x->cls l q x:=by
  intro p q x hpq hx;obtain⟨d,rfl⟩:=Nat.exists_eq_add_of_le hpq
  induction d with
  | zero=>exact hx
  | succ d ih=>exact VV.step l _ x h (ih (by omega))
inductive MT where
  | nil
  | q (i m:Nat) (r:MT)
  | op (i:Nat) (r:MT)
  | br (i j:Nat) (ri rj:MT)
def MT.depth:MT->Nat
  | .nil=>0
  | .q _ _ r=>r.depth+1
  | .op _ r=>r.depth+1
  | .br _ _ r _=>r.depth+1
def MT.drop:Nat->MT->MT
  | k+1,.q _ _ r=>r.drop k
  | _,π=>π
def KT (ops:Array Oper)(Ls:A01):MT->Nat->Array Bool->Bool
  | .nil,_,listed=>(Region.ready .any ops listed).isEmpty
  | .q i m π,p,listed=>(Region.ready .any ops listed).contains i&&Region.free .any ops listed i&&!Ls.contains i&&decide (p+ahead ops Ls listed i<=m)&&KT ops Ls π p (listed.setIfInBounds i true)
  | .op i π,p,listed=>Region.ready .any ops listed == [i]&&KT ops Ls π (nx Ls p i) (listed.setIfInBounds i true)
  | .br i j ri rj,p,listed=>Region.ready .any ops listed == [i,j]&&rj.depth == ri.depth&&KT ops Ls ri (nx Ls p i) (listed.setIfInBounds i true)&&KT ops Ls rj (nx Ls p j) (listed.setIfInBounds j true)
def MX (P:Program)(n:Nat)(ops:Array Oper)(Ls:A01)(C:List (World->Prop))(Q:Act->World->Prop)(π:MT)(p:Nat)(listed:Array Bool)(L:List En)(w:World):Prop :=
  Region.noSelect ops=true->VV C->KT ops Ls π p listed=true->cls C p w->∀ a,Fu n a L->wpC P ops Ls (cls C) Q π.depth p listed a w
variable {C:List (World->Prop)}
theorem gu {n p:Nat}{Q:Act->World->Prop}{listed:Array Bool}{L:St}{w:World}(h:At n Q L w):MX P n ops Ls C Q .nil p listed (Kn L) w :=
  fun _ _ hB _ a ha=>⟨by simpa [KT] using hB,h a ha⟩
def qops (ops:Array Oper)(m:Nat):Nat->MT->Option (List Oper)
  | 0,_=>some []
  | k+1,.q i m' r=>if m'=m then match ops[i]?,qops ops m k r with
    | some o,some l=>some (o::l)
    | _,_=>none else none
  | _+1,_=>none
theorem MX_quiet' {n p m:Nat}{Q:Act->World->Prop}{ss:A01}{w:World}{L':List En}:∀ (k:Nat) (π:MT) (l:List Oper) (listed:Array Bool) (L:List En) (os os':List SV) (cs:List Cond),
    qops ops m k π=some l->evs P n ops ss l L os=some (L',cs,os')->(∀ w,cls C m w->∀ c ∈ cs,c w)->(∀ listed',MX P n ops Ls C Q (π.drop k) p listed' L' w)->MX P n ops Ls C Q π p listed L w:=by
  intro k
  induction k with
  | zero =>
    intro π l listed L os os' cs hq h hc hk;simp only[qops,Option.some.injEq] at hq;subst hq;simp only[evs,Option.some.injEq,Prod.mk.injEq] at h;obtain⟨rfl,rfl,rfl⟩:=h;have e:π.drop 0=π:=by cases π <;> rfl
    rw[e] at hk;exact hk listed
  | succ k ih =>
    intro π l listed L os os' cs hq h hc hk;cases π with
    | q i m' π =>
      simp only[qops] at hq;split at hq
      ·rename_i hmm;subst hmm;split at hq
       ·rename_i o l' ho hl';simp only[Option.some.injEq] at hq;subst hq;simp only[evs] at h;split at h
        ·rename_i L1 c1 os1 h1;split at h
         ·rename_i L2 c2 os2 h2;simp only[Option.some.injEq,Prod.mk.injEq] at h;obtain⟨rfl,rfl,rfl⟩:=h;intro hns hmo hB hw a ha;simp only[KT,A0k,lm,Bool.not_eq_true'] at hB;obtain⟨⟨⟨⟨hr,hf⟩,hnl⟩,hah⟩,hB⟩:=hB;have hrest:=ih π l' (listed.setIfInBounds i true) L1 os1 _ c2 hl' h2 (fun w hw c hcm=>hc w hw c (List.mem_append_right _ hcm)) hk hns hmo hB hw;rcases QZ ha h1 with⟨hwt,v,hrun,hf'⟩ | ⟨hwt,hf'⟩
          ·exact WN hmo.le ho hnl (Region.noSelect_spec hns) _ p listed a w hw hah (Region.free_spec ho hf) (by simpa using hr) (.inl ⟨hwt,fun w' hw'=>hrun w' fun c hcm=>hc w' hw' c (List.mem_append_left _ hcm)⟩) (hrest _ hf')
          ·exact WN hmo.le ho hnl (Region.noSelect_spec hns) _ p listed a w hw hah (Region.free_spec ho hf) (by simpa using hr) (.inr ⟨hwt,rfl⟩) (hrest _ hf')
         ·cases h
        ·cases h
       ·cases hq
      ·cases hq
    | _=>cases hq
theorem MX_q {n p:Nat}{Q:Act->World->Prop}{w:World}{π:MT}{listed:Array Bool}{L:St}(k m:Nat)(ss:A01)(os:List SV)(L':St)(cs:List Cond)
    (hs:((qops ops m k π).bind fun l=>evs P n ops ss l (Kn L) os).map (fun r=>(L'.map fun e=>(look r.1 e.1).map fun e=>(e.g,e.x.val),r.2.1,r.2.2))=some (L'.map fun p=>some (none,p.2.val),cs,[]))
    (hc:∀ w,cls C m w->All cs w) (h:∀ listed',MX P n ops Ls C Q (π.drop k) p listed' (Kn L') w):MX P n ops Ls C Q π p listed (Kn L) w:=by
  rw[Option.map_bind] at hs;simp only[A0v] at hs;obtain⟨l,hl,hs⟩:=hs;obtain⟨Lc,he,hk⟩:=Seg.keep (P:=P) (n:=n) (ops:=ops) (ss:=ss) (l:=l) (L:=L) (os:=os) (L':=L') (cs:=cs) hs;refine MX_quiet' k π l listed (Kn L) os [] cs hl he (fun w hw=>PL (hc w hw)) fun listed'=>?_;intro hns hmo hB hw a ha;exact h listed' hns hmo hB hw a (hk a ha)
theorem MX_op {n p:Nat}{Q:Act->World->Prop}{w:World}{π:MT}{listed:Array Bool}{L:St}{i:Nat}{o:Oper}(hl:Ls.contains i=true)(ho:ops[i]?=some o)
    (h:yE P n ops L w o fun L' w'=>cls C (p+1) w'/\∀ listed',MX P n ops Ls C Q π (p+1) listed' (Kn L') w'):MX P n ops Ls C Q (.op i π) p listed (Kn L) w:=by
  intro hns hmo hB hw a ha;have hnx:nx Ls p i=p+1:=by unfold nx;rw[if_pos hl]
  simp only[KT,A0k,beq_iff_eq,hnx] at hB;obtain⟨hr,hB⟩:=hB;obtain⟨h1,h2⟩:=h a ha;refine⟨fun h0=>(by rw[h0] at hr;cases hr),fun j hj=>?_⟩;rw[hr] at hj;simp only[A0d] at hj;subst hj;unfold wpOp;simp only[ho,hnx];rw[if_pos h1];refine .inl (Oper.wp_mono ?_ h2);rintro a' w' ⟨L',hf,hc,hk⟩;exact⟨hc,hk _ hns hmo hB hc a' hf⟩
theorem MX_br {n p:Nat}{Q:Act->World->Prop}{w:World}{πi πj:MT}{listed:Array Bool}{L:St}{i j:Nat}{oi oj:Oper}(hli:Ls.contains i=true)(hlj:Ls.contains j=true)(hi:ops[i]?=some oi)(hj:ops[j]?=some oj)
    (h:yE P n ops L w oi fun L' w'=>cls C (p+1) w'/\∀ listed',MX P n ops Ls C Q πi (p+1) listed' (Kn L') w')
    (h':yE P n ops L w oj fun L' w'=>cls C (p+1) w'/\∀ listed',MX P n ops Ls C Q πj (p+1) listed' (Kn L') w'):MX P n ops Ls C Q (.br i j πi πj) p listed (Kn L) w:=by
  intro hns hmo hB hw a ha;have hnx:nx Ls p i=p+1:=by unfold nx;rw[if_pos hli]
  have hnx':nx Ls p j=p+1:=by unfold nx;rw[if_pos hlj]
  simp only[KT,A0k,beq_iff_eq,hnx,hnx'] at hB;obtain⟨⟨⟨hr,hd⟩,hB1⟩,hB2⟩:=hB;refine⟨fun h0=>(by rw[h0] at hr;cases hr),fun k hk=>?_⟩;rw[hr] at hk;simp only[ut,List.not_mem_nil,or_false] at hk;rcases hk with rfl | rfl
  ·obtain⟨h1,h2⟩:=h a ha;unfold wpOp;simp only[hi,hnx];rw[if_pos h1];refine .inl (Oper.wp_mono ?_ h2);rintro a' w' ⟨L',hf,hc,hk⟩;exact⟨hc,hk _ hns hmo hB1 hc a' hf⟩
  ·obtain⟨h1,h2⟩:=h' a ha;unfold wpOp;simp only[hj,hnx'];rw[if_pos h1];refine .inl (Oper.wp_mono ?_ h2);rintro a' w' ⟨L',hf,hc,hk⟩;have:=hk _ hns hmo hB2 hc a' hf;rw[hd] at this;exact⟨hc,this⟩
theorem W_mix {n id:Nat}{l:List Oper}{Q:Exit->Act->World->Prop}{L:St}{w:World}(hm:P.follows .mixedOrders=true)(π:MT)(Ls:A01)(C:List (World->Prop))
    (hB:(Region.noSelect l.toArray,KT l.toArray Ls π 0 (Array.replicate l.length false),π.depth == l.length)=(true,true,true)) (hmo:VV C) (hC:cls C 0 (w.drewN 1)) (h:∀ listed,MX P n l.toArray Ls C (Q .normal) π 0 listed (Kn L) (w.drewN 1)) :
    W P n (.region id l.toArray true) Q L w:=by
  intro a ha;simp only[Prod.mk.injEq,beq_iff_eq] at hB;obtain⟨h1,h2,h3⟩:=hB;refine wp_region_any hm ?_;have:=h (Array.replicate l.length false) h1 hmo h2 hC a ha;rw[h3] at this;exact Uu (fun _ _ hq=>hq) _ _ _ _ _ (by rw[show l.toArray.size=l.length from by simp];exact this)
end
end
section
variable {α β:Type}
instance {n:Nat} [Inhabited α]:Inhabited (Vec α n):=⟨Vec.rep n default⟩
def Vec.of [Inhabited α](n:Nat)(l:List α):Vec α n:=if h:l.length=n then⟨l,h⟩ else Vec.rep n default
def appz (xs:List α)(l:Int)(z:α)(b:Nat):Option (List α):=if 0<=l/\(xs.length+l.toNat)*b<=140737488355328 then some (xs++List.replicate l.toNat z) else none
theorem appz_some {xs ys:List α}{l:Int}{z:α}{b:Nat}(h:appz xs l z b=some ys):0<=l/\(xs.length+l.toNat)*b<=140737488355328/\ys=xs++List.replicate l.toNat z:=by
  unfold appz at h;split at h
  ·rename_i hc;simp only[Option.some.injEq] at h;exact⟨hc.1,hc.2,h.symm⟩
  ·cases h
abbrev SV.ar (E:Enc α){n:Nat}(x:Vec α n):SV:=.vec (n*E.sz) (E.vec x)
section
variable {P:Program}{n:Nat}{Q:Exit->Act->World->Prop}{ops:Array Oper}{L:St}{w w0:World}{F O:Nat->Prop}{hs:List HP}{K:St->World->Prop}
theorem W_cutr {x:Code}(K:St->World->Prop)(h1:W P n x (Exit.then (fun a w=>∃ L,Fu n a (Kn L)/\K L w) Q) L w)(h2:∀ L w,K L w->At n (Q .normal) L w):W P n x Q L w:=by
  intro a ha;refine wp_mono (h1 a ha) ?_;intro e a' w' hq;cases e with
  | normal=>obtain⟨L',hf,hk⟩:=hq;exact h2 L' w' hk a' hf
  | _=>exact hq
theorem Rd.nil (E:Enc α)(w:World):Rd w none (E.all ([]:List α)):=⟨fun h=>absurd rfl h,fun _ _ _ h=>by cases h⟩
theorem Ro.VW (E:Enc α):Ro F w none (E.all ([]:List α)):=Ro.nil (A:=none)
theorem Src.sl {E:Enc α}{A:EQ}{xs:List α}{m c sz:Nat}(h:Rd w A (E.all xs))(hn:xs.length=m)(hs:E.sz=sz):Src P sz w (.slice A m c) m (E.all xs) :=
  Src.slice h (by rw[Enc.iy,hn,hs])
theorem TS {xs ys:List α}{lo hi:Int}(h:OL xs lo hi=some ys)(h0:lo=0):ys=xs.take ys.length:=by
  obtain⟨h1,h2,h3,h4⟩:=nz h;have hl:=y8 h;rw[hl];subst h0;rw[h4];simp
theorem ar_ix {E:Enc α}{m:Nat}{x:Vec α m}{i:Int}{y:α}{v:Value}(h:aW x.l i=some y)(hv:(E.f y)[0]?=some v):(0<=i/\i < ((m:Nat):Int))/\(SV.cl [SV.ar E x])[i.toNat*E.sz]?=some v:=by
  have h1:=dD h;rw[x.h] at h1;refine⟨h1,?_⟩;rw[Ec];have:=E.Zj (aS h).2 hv;simp only[SV.cl,List.append_nil];show(E.all x.l)[i.toNat*E.sz]?=some v;simpa using this
theorem ar_ixs {E:Enc α}{m:Nat}{x:Vec α m}{i:Int}{y:α}{vs:List Value}(h:aW x.l i=some y)(hv:E.f y=vs):(0<=i/\i < ((m:Nat):Int))/\((SV.cl [SV.ar E x]).drop (i.toNat*E.sz)).take E.sz=vs:=by
  have h1:=dD h;rw[x.h] at h1;refine⟨h1,?_⟩;rw[Ec,<-hv];simp only[SV.cl,List.append_nil];exact E.XR (aS h).2
theorem At_end {fn:Func}{R:Ending->World->Prop}(os xs:List SV)(cs:List Cond)(hr:Tu P fn.results.toList L os=some (xs,cs,[]))(hc:All cs w)(h:R (.returned (WH xs).val) w):At n (bodyPost P fn R .normal) L w :=
  At_ret (P:=P) (fn:=fn) os xs cs hr hc h
theorem cl_ar {E:Enc α}{m:Nat}(x:Vec α m):SV.cl [SV.ar E x]=(eV E m).f x:=by
  rw[Ec];show E.all x.l++[]=E.all x.l;rw[List.append_nil]
theorem Rd.elV {w:World}{A p:EQ}{E:Enc α}{m:Nat}{xs:List (Vec α m)}{i:Int}{x:Vec α m}(h:Rd w A ((eV E m).all xs))(hg:aW xs i=some x)(hp:Pt A (i.toNat*(eV E m).sz+0) p)(hm:0 < (eV E m).sz):∃ a,p=some a/\Rd w (some a) (SV.cl [SV.ar E x]):=by
  rw[cl_ar];refine h.els hg hp ?_ hm (by omega);rw[A1C];have:=(eV E m).len x;rw[<- this,A0h]
theorem ar_ixV {E:Enc α}{k m:Nat}{x:Vec (Vec α k) m}{i:Int}{y:Vec α k}(h:aW x.l i=some y):(0<=i/\i < ((m:Nat):Int))/\((SV.cl [SV.ar (eV E k) x]).drop (i.toNat*(eV E k).sz)).take (eV E k).sz=SV.cl [SV.ar E y] :=
  ar_ixs h (cl_ar y).symm
theorem Cx.OM {t:TypeId}{g:Nat}{ys:List SV}(k:Cx F O w0 w hs)(i:Nat)(hi:hs[i]?=some (Bx t g ys))(off:Nat)(v:SV)(h:(cellS off ys).map SV.val=some v.val):∃ a,some (⟨g,off,none⟩:Addr)=some a/\w.cell? a=some v.val:=by
  simp only[A0c] at h;obtain⟨x,hx,he⟩:=h;rw[<- he];exact(k.Ld i hi).cellP (Pt.at g off) (Uc hx).1
theorem Cx.blds {t:TypeId}{g:Nat}{ys:List SV}(k:Cx F O w0 w hs)(i:Nat)(hi:hs[i]?=some (Bx t g ys))(off m:Nat)(zs:List SV)(h:(QX off m ys).map SV.cl=some (SV.cl zs))(hm:0 < m):∃ a,some (⟨g,off,none⟩:Addr)=some a/\Rd w (some a) (SV.cl zs):=by
  simp only[A0c] at h;obtain⟨x,hx,he⟩:=h;obtain⟨e1,e2,e3⟩:=SC hx;rw[<- he,<-e1];exact(k.Ld i hi).partP (Pt.at g off) (by rw[jg];exact e3) hm
theorem Op_bput {ty t:TypeId}{p x:Operand}{pos:String}{jf:Array Edge}{g:UV}(ss:A01)(i:Nat){pa:EQ}{sv:SV}{svs:List SV}{bt:TypeId}{b:Nat}{ys:List SV}(zs:List SV){off:Nat}
    (hside:(y7 ops ss L (⟨none,.store t p x,ty,pos,jf,g⟩:Oper),(none:A03),(toSS [p,x] (lk L)).map SV.vals,D9 P t,cellsS sv,svs.all SV.one1)=(true,none,some [.pointer pa,sv.val],some (SV.width svs),some svs,true))
    (hp:Pt (some ⟨b,0,none⟩) off pa) (k:Cx F O w0 w hs) (hi:hs[i]?=some (Bx bt b ys)) (hz:(putS off (SV.width svs) svs ys).map SV.cl=some (SV.cl zs))
    (hk:∀ w',Cx F O w0 w' (hs.set i (Bx bt b zs))->K L w') :
    yE P n ops L w ⟨none,.store t p x,ty,pos,jf,g⟩ K:=by
  simp only[A0c] at hz;obtain⟨zs',hput,he⟩:=hz;obtain⟨e1,e2,e3,e4⟩:=WB hput;refine Op_bst ss i zs hside hp k hi ?_ e4 hk;rw[<- he,e1];unfold pat;rw[jg]
end
end
section
inductive Bl:St->St->Prop
  | a {l}:Bl l l
  | z {l}:Bl l []
  | k {x l l'}:Bl l l'->Bl (x::l) (x::l')
  | s {x l l'}:Bl l l'->Bl (x::l) l'
  | n {l l'} (i:Nat) (v:SV):Bl l l'->Bl l ((i,v)::l')
theorem Bl.kk {x y l l'}(h:Bl l l'):Bl (x::y::l) (x::y::l'):=.k (.k h)
theorem Bl.wH {x y z l l'}(h:Bl l l'):Bl (x::y::z::l) (x::y::z::l'):=.k (.kk h)
theorem Bl.aP {x y z u l l'}(h:Bl l l'):Bl (x::y::z::u::l) (x::y::z::u::l'):=.kk (.kk h)
theorem Bl.ss {x y l l'}(h:Bl l l'):Bl (x::y::l) l':=.s (.s h)
theorem Bl.mV {x y z l l'}(h:Bl l l'):Bl (x::y::z::l) l':=.s (.ss h)
theorem Bl.gI {x y z u l l'}(h:Bl l l'):Bl (x::y::z::u::l) l':=.ss (.ss h)
section
variable {α β σ ρ:Type}{P:Program}{n:Nat}{Q:Exit->Act->World->Prop}{ops:Array Oper}{L L':St}{w w0:World}{os:List SV}{cs:List Cond}{F O:Nat->Prop}{hs:List HP}
structure Ask (os:List SV)(cs:List Cond)(w:World):Prop where
  h:All cs w
def dp (p:Prop):Cond:=fun _=>p
def dS (A:EQ):Cond:=fun _=>A.isSome=true
def dI (i:Int)(n:Nat)(A:EQ):Cond:=fun _=>0<=i/\i < (n:Int)/\A.isSome=true
def dC (p:EQ)(v:SV):Cond:=fun w=>∃ a,p=some a/\w.cell? a=some v.val
def dR (p:EQ)(cs:List SV):Cond:=fun w=>∃ a,p=some a/\Rd w (some a) (SV.cl cs)
theorem qe:Ask [] [] w:=⟨trivial⟩
theorem qo (v:SV)(r:Ask os cs w):Ask (v::os) cs w:=⟨r.h⟩
theorem qc (c:Cond)(p:c w)(r:Ask os cs w):Ask os (c::cs) w:=⟨p,r.h⟩
theorem qp (p:Prop)(h:p)(r:Ask os cs w):Ask os (dp p::cs) w:=⟨h,r.h⟩
theorem qs (g off:Nat)(r:Ask os cs w):Ask os (dS (some ⟨g,off,none⟩)::cs) w:=⟨rfl,r.h⟩
theorem qS {A:EQ}(h:A.isSome=true)(r:Ask os cs w):Ask os (dS A::cs) w:=⟨h,r.h⟩
theorem qI {m:Nat}{v:Vec α m}{i:Int}{x:α}(g off:Nat)(h:aW v.l i=some x)(r:Ask os cs w):Ask os (dI i m (some ⟨g,off,none⟩)::cs) w :=
  ⟨⟨(dD h).1,by have:=(dD h).2;have:=v.h;omega,rfl⟩,r.h⟩
class Pos (E:Enc α):Prop where h:0 < E.sz
instance:Pos e8:=⟨by decide⟩
instance:Pos e16:=⟨by decide⟩
instance:Pos e32:=⟨by decide⟩
instance:Pos e64:=⟨by decide⟩
instance:Pos eI:=⟨by decide⟩
instance:Pos eS:=⟨by decide⟩
instance:Pos eB:=⟨by decide⟩
instance {a:Enc α} {b:Enc β} [h:Pos a]:Pos (eP a b):=⟨A0u h.h (Nat.le_add_right _ _)⟩
instance {E:Enc α} {m:Nat} [h:Pos E]:Pos (eV E (m+1)):=⟨Nat.mul_pos (Nat.succ_pos m) h.h⟩
theorem qJ {E:Enc α}[he:Pos E]{A:EQ}{xs:List α}{i:Int}{x:α}{m:Nat}(rd:Rd w A (E.all xs))(h:aW xs i=some x)(hl:xs.length=m)(r:Ask os cs w):Ask os (dI i m A::cs) w :=
  ⟨rd.ix h hl he.h,r.h⟩
theorem qC {p:EQ}(v:SV)(h:∃ a,p=some a/\w.cell? a=some v.val)(r:Ask os cs w):Ask (v::os) (dC p v::cs) w:=⟨h,r.h⟩
theorem qR {p:EQ}(zs:List SV)(h:∃ a,p=some a/\Rd w (some a) (SV.cl zs))(r:Ask os cs w):Ask (.agg zs::os) (dR p zs::cs) w:=⟨h,r.h⟩
theorem qB {t:TypeId}{g:Nat}{ys:List SV}(k:Cx F O w0 w hs)(i:Nat)(hi:hs[i]?=some (Bx t g ys))(off:Nat)(v:SV)(h:(cellS off ys).map SV.val=some v.val)(r:Ask os cs w):Ask (v::os) (dC (some ⟨g,off,none⟩) v::cs) w:=⟨k.OM i hi off v h,r.h⟩
theorem Cx.vrd {t:TypeId}{g m:Nat}{ys:List SV}(k:Cx F O w0 w hs)(i:Nat)(hi:hs[i]?=some (Bx t g ys))(E:Enc α)(x:Vec α m)(off:Nat)(hd:((Iq off ys).bind List.head?).map (fun v=>(v.Oh,v.val))=some (true,.agg ⟨E.all x.l⟩)):Rd w (some ⟨g,off,none⟩) (E.all x.l):=(k.Ld i hi).vec hd
theorem qV {E:Enc α}{A:EQ}{m:Nat}{xs:Vec α m}{i:Int}{x:α}(rd:Rd w A (E.all xs.l))(h:aW xs.l i=some x)(hA:A.isSome=true)(s:SV)(hs:E.f x=[s.val])(r:Ask os cs w):Ask (s::os) (dI i m A::dC (lh A i E.sz) s::cs) w :=
  ⟨⟨(dD h).1,by have:=(dD h).2;have:=xs.h;omega,hA⟩,rd.el h (k:=0) (Pt.nC A i E.sz) (by rw[hs];rfl),r.h⟩
theorem qW {E:Enc α}[he:Pos E]{A:EQ}{xs:List α}{i:Int}{x:α}{m:Nat}(rd:Rd w A (E.all xs))(h:aW xs i=some x)(hl:xs.length=m)(s:SV)(hs:E.f x=[s.val])(r:Ask os cs w):Ask (s::os) (dI i m A::dC (lh A i E.sz) s::cs) w :=
  ⟨rd.ix h hl he.h,rd.el h (k:=0) (Pt.nC A i E.sz) (by rw[hs];rfl),r.h⟩
theorem qX {xs:AC}{i:Int}{y:UInt8}(h:aW xs i=some y)(r:Ask os cs w):Ask (.u8 y::os) (dp (0<=i/\xs[i.toNat]?=some y)::cs) w:=⟨aS h,r.h⟩
theorem qT {t:TypeId}{g:Nat}{ys:List SV}(k:Cx F O w0 w hs)(i:Nat)(hi:hs[i]?=some (Bx t g ys))(off m:Nat)(zs:List SV)(h:(QX off m ys).map SV.cl=some (SV.cl zs))(hm:0 < m)(r:Ask os cs w):Ask (.agg zs::os) (dR (some ⟨g,off,none⟩) zs::cs) w:=⟨k.blds i hi off m zs h hm,r.h⟩
theorem J4 {l:List Oper}(k:Nat)(ss:A01)(b:Bl L L')(q:Ask os cs w)(hs:(evs P n ops ss (l.take k) (Kn L) os).map (fun r=>(L'.map fun e=>(look r.1 e.1).map fun e=>(e.g,e.x.val),r.2.1,r.2.2))=some (L'.map fun p=>some (none,p.2.val),cs,[]))(h:WL P n ops Q (l.drop k) L' w):WL P n ops Q l L w:=WL_seg k ss os L' cs hs q.h h
theorem PR {id:Nat}{l:List Oper}(ss:A01)(b:Bl L L')(q:Ask os cs w)(hs:(evs P n l.toArray ss l (Kn L) os).map (fun r=>(L'.map fun e=>(look r.1 e.1).map fun e=>(e.g,e.x.val),r.2.1,r.2.2))=some (L'.map fun p=>some (none,p.2.val),cs,[]))(h:At n (Q .normal) L' w):W P n (.region id l.toArray false) Q L w:=W_quiet ss os L' cs hs q.h h
theorem W_d {id:Nat}{l:List Oper}(hm:P.follows .mixedOrders=true)(hB:Region.lexB .any l.toArray=true)(b:Bl L L')(q:∀ m,Ask os cs (w.drewN m))(hs:(evs P n l.toArray [] l (Kn L) os).map (fun r=>(L'.map fun e=>(look r.1 e.1).map fun e=>(e.g,e.x.val),r.2.1,r.2.2))=some (L'.map fun p=>some (none,p.2.val),cs,[]))(h:∀ m,At n (Q .normal) L' (w.drewN m)):W P n (.region id l.toArray true) Q L w:=W_draw hm os L' cs hB hs (fun m=>(q m).h) h
theorem Q7 {p:Nat}{Ls:A01}{C:List (World->Prop)}{Q:Act->World->Prop}{π:MT}{listed:Array Bool}(k m:Nat)(ss:A01)(b:Bl L L')(q:∀ w,cls C m w->Ask os cs w)
    (hs:((qops ops m k π).bind fun l=>evs P n ops ss l (Kn L) os).map (fun r=>(L'.map fun e=>(look r.1 e.1).map fun e=>(e.g,e.x.val),r.2.1,r.2.2))=some (L'.map fun p=>some (none,p.2.val),cs,[])) (h:∀ listed',MX P n ops Ls C Q (π.drop k) p listed' (Kn L') w):MX P n ops Ls C Q π p listed (Kn L) w:=MX_q k m ss os L' cs hs (fun w hw=>(q w hw).h) h
theorem At_c {Q:Exit->Act->World->Prop}{K:St->World->Prop}(h:K L' w)(hk:L'.map (fun p=>(find L p.1).map SV.val)=L'.map (fun p=>some p.2.val)):At n (Exit.then (fun a w=>∃ L,Fu n a (Kn L)/\K L w) Q .normal) L w:=Ji L' hk (At_cut h)
theorem At_rd {Q:Exit->Act->World->Prop}{rel:σ->St->World->Prop}{y:σ⊕ρ}(s':σ)(hy:y=.inl s')(h:rel s' L' w)(hk:L'.map (fun p=>(find L p.1).map SV.val)=L'.map (fun p=>some p.2.val)):At n (Exit.then (fun a w=>∃ s' L',y=.inl s'/\Fu n a (Kn L')/\rel s' L' w) Q .normal) L w:=Ji L' hk (At_round s' hy h)
theorem W_lp {c:Code}(step:σ->Option (σ⊕ρ))(rel:σ->St->World->Prop)(s0:σ)(r:ρ)(hm:aQ step s0=some r)(h0:rel s0 L' w0)(hk:L'.map (fun p=>(find L p.1).map SV.val)=L'.map (fun p=>some p.2.val))
    (hb:∀ s L w y,rel s L w->step s=some y->(∀ r',y=.inr r'->r'=r)->W P n c (Exit.then (fun a w=>∃ s' L',y=.inl s'/\Fu n a (Kn L')/\rel s' L' w) Q) L w):W P n (.loop c) Q L w0:=Zi L' hk (W_loop step rel s0 r hm h0 hb)
theorem At_rt {fn:Func}{R:Ending->World->Prop}(xs:List SV)(q:Ask os cs w)(hr:Tu P fn.results.toList L os=some (xs,cs,[]))(h:R (.returned (WH xs).val) w):At n (bodyPost P fn R .ret) L w:=At_ret os xs cs hr q.h h
theorem KO {fn:Func}{R:Ending->World->Prop}(xs:List SV)(q:Ask os cs w)(hr:Tu P fn.results.toList L os=some (xs,cs,[]))(h:R (.returned (WH xs).val) w):At n (bodyPost P fn R .normal) L w:=At_end os xs cs hr q.h h
theorem LD {l:List Oper}(k:Nat)(c:Bool)(b:Bl L L')(hk:((k,SV.b c)::L').map (fun p=>(find L p.1).map SV.val)=((k,SV.b c)::L').map (fun p=>some p.2.val))
    (h1:c=true->WL P n ops Q l ((k,.b true)::L') w) (h2:c=false->WL P n ops Q l ((k,.b false)::L') w):WL P n ops Q l L w:=by
  have key:WL P n ops Q l ((k,SV.b c)::L') w->WL P n ops Q l L w:=fun h=>Ji (q:=fun a w=>wpList P ops Q l a w) ((k,SV.b c)::L') hk h;cases c with
  | true=>exact key (h1 rfl)
  | false=>exact key (h2 rfl)
theorem ob {a:Option α}{f:α->Option β}{r:β}(h:a.bind f=some r):∃ x,a=some x/\f x=some r:=A0v.1 h
theorem nm {a:α}{f:α->Option β}{r:β}(h:(some a).bind f=some r):∃ x,a=x/\f x=some r:=⟨a,rfl,h⟩
inductive VO {β:Type}:List β->List β->Prop
  | e:VO [] []
  | z {l}:VO l []
  | k {x l l'}:VO l l'->VO (x::l) (x::l')
  | s {x l l'}:VO l l'->VO (x::l) l'
theorem VO.kk {β:Type}{x y:β}{l l'}(h:VO l l'):VO (x::y::l) (x::y::l'):=.k (.k h)
theorem VO.aP {β:Type}{x y z u:β}{l l'}(h:VO l l'):VO (x::y::z::u::l) (x::y::z::u::l'):=.kk (.kk h)
theorem VO.ss {β:Type}{x y:β}{l l'}(h:VO l l'):VO (x::y::l) l':=.s (.s h)
theorem VO.gI {β:Type}{x y z u:β}{l l'}(h:VO l l'):VO (x::y::z::u::l) l':=.ss (.ss h)
inductive Pick {β:Type}:List β->β->List β->Prop
  | h {x l}:Pick (x::l) x l
  | t {x y l l'}:Pick l x l'->Pick (y::l) x (y::l')
inductive SL {β:Type}:List β->List β->List β->Prop
  | e:SL [] [] []
  | i {x l a b}:SL l a b->SL (x::l) (x::a) b
  | r {x l a b}:SL l a b->SL (x::l) a (x::b)
inductive App {β:Type}:List β->List β->List β->Prop
  | n {l}:App [] l l
  | c {x a b l}:App a b l->App (x::a) b (x::l)
theorem App.eq {β:Type}{a b l:List β}(h:App a b l):l=a++b:=by induction h <;> simp_all
theorem SL.perm {β:Type}{l a b:List β}(h:SL l a b):l.Perm (a++b):=by
  induction h with
  | e=>exact .nil
  | i _ ih=>exact .cons _ ih
  | r _ ih=>exact(List.Perm.cons _ ih).trans (List.perm_middle.symm)
theorem Pick.perm {β:Type}{x:β}{l l':List β}(h:Pick l x l'):l.Perm (x::l'):=by
  induction h with
  | h=>exact .refl _
  | t _ ih=>exact(List.Perm.cons _ ih).trans (.swap _ _ _)
theorem Sep.perm {w:World}{a b:List HP}(h:a.Perm b):∀ {U V:Nat->Prop},Sep w a U V->Sep w b U V:=by
  induction h with
  | nil=>exact fun h=>h
  | cons x _ ih =>
    rintro U V ⟨S,R,U',V',h1,h2,h3⟩;exact⟨S,R,U',V',h1,ih h2,h3⟩
  | swap x y l =>
    intro U V h;exact Sep.cut (i:=1) (h:=x) rfl h
  | trans _ _ ih1 ih2=>exact fun h=>ih2 (ih1 h)
theorem Cx.perm {a b:List HP}(k:Cx F O w0 w a)(h:a.Perm b):Cx F O w0 w b:=by
  obtain⟨U,V,h1,h2,h3⟩:=k.sep;exact⟨k.os,k.tape,k.output,k.size,k.block,k.fin,k.QT,U,V,Sep.perm h h1,h2,h3⟩
theorem Cx.tl {x:HP}(k:Cx F O w0 w (x::hs)):Cx F O w0 w hs:=k.drop 0
theorem VO.sub {a b:List HP}(h:VO a b):∃ c,a.Perm (c++b):=by
  induction h with
  | e=>exact⟨[],.refl _⟩
  | z=>rename_i l;exact⟨l,by rw[List.append_nil]⟩
  | k _ ih=>obtain⟨c,hc⟩:=ih;exact⟨c,(List.Perm.cons _ hc).trans List.perm_middle.symm⟩
  | s _ ih=>rename_i x _ _ _;obtain⟨c,hc⟩:=ih;exact⟨x::c,.cons _ hc⟩
theorem Cx.dropl {a b:List HP}(k:Cx F O w0 w (a++b)):Cx F O w0 w b:=by
  induction a with
  | nil=>exact k
  | cons x l ih=>exact ih k.tl
theorem Cx.bP {hs':List HP}(k:Cx F O w0 w hs)(h:VO hs hs'):Cx F O w0 w hs':=by
  obtain⟨c,hc⟩:=h.sub;exact(k.perm hc).dropl
theorem Cx.pk {x:HP}{hs':List HP}(k:Cx F O w0 w hs)(h:Pick hs x hs'):Cx F O w0 w (x::hs'):=k.perm h.perm
theorem Cx.go {ins rest:List HP}(k:Cx F O w0 w hs)(p:SL hs ins rest):∃ F1 O1:Nat->Prop,Cx F1 O1 w w ins/\(∀ b,O b->O1 b)/\(∀ (i:Nat) (h:HP),rest[i]?=some h->∃ S R,h.p w S R/\(∀ b,R b->O1 b)/\∀ b,S b->¬ F1 b)/\(∀ b,F1 b->F b∨w0.heap.size<=b) /\
    ∀ w' outs all,Cx F1 O1 w w' outs->App outs rest all->Cx F O w0 w' all:=by
  obtain⟨F1,O1,h1,h2,h3,h4,h5⟩:=(k.perm p.perm).enter;exact⟨F1,O1,h1,h2,h3,h4,fun w' outs all hk ha=>ha.eq▸h5 w' outs hk⟩
inductive Chain (F O:Nat->Prop)(w0:World):List HP->List (World->Prop)->Prop
  | l {h:List HP}:Chain F O w0 h [fun x=>Cx F O w0 x h]
  | c {h h':List HP} {C:List (World->Prop)}:VO h h'->Chain F O w0 h' C->Chain F O w0 h ((fun x=>Cx F O w0 x h)::C)
theorem Chain.spec {hs:List HP}{C:List (World->Prop)}(h:Chain F O w0 hs C):VV C/\∀ w,cls C 0 w ↔ Cx F O w0 w hs:=by
  induction h with
  | l=>exact⟨trivial,fun w=>Iff.rfl⟩
  | c h1 hc ih =>
    cases hc with
    | l=>exact⟨⟨fun x hx=>Cx.bP hx h1,trivial⟩,fun w=>Iff.rfl⟩
    | c h2 h3=>exact⟨⟨fun x hx=>Cx.bP hx h1,ih.1⟩,fun w=>Iff.rfl⟩
theorem W_m {id:Nat}{l:List Oper}{C:List (World->Prop)}(hm:P.follows .mixedOrders=true)(π:MT)(Ls:A01)(k:Cx F O w0 (w.drewN 1) hs)(ch:Chain F O w0 hs C)
    (hB:(Region.noSelect l.toArray,KT l.toArray Ls π 0 (Array.replicate l.length false),π.depth == l.length)=(true,true,true)) (h:∀ listed,MX P n l.toArray Ls C (Q .normal) π 0 listed (Kn L) (w.drewN 1)) :
    W P n (.region id l.toArray true) Q L w:=W_mix hm π Ls C hB ch.spec.1 ((ch.spec.2 _).2 k) h
inductive Mid:List SV->List SV->List SV->Prop
  | k {s y ys zs}:Mid s ys zs->Mid s (y::ys) (y::zs)
  | h {s y ys}:Mid [s] (y::ys) (s::ys)
  | h2 {s t y u ys}:Mid [s,t] (y::u::ys) (s::t::ys)
  | h3 {s t r y u v ys}:Mid [s,t,r] (y::u::v::ys) (s::t::r::ys)
  | h4 {s t r q y u v x ys}:Mid [s,t,r,q] (y::u::v::x::ys) (s::t::r::q::ys)
  | all {s ys}:Mid s ys s
theorem Mid.kk {s y u ys zs}(h:Mid s ys zs):Mid s (y::u::ys) (y::u::zs):=.k (.k h)
theorem Mid.aP {s y u v x ys zs}(h:Mid s ys zs):Mid s (y::u::v::x::ys) (y::u::v::x::zs):=.kk (.kk h)
theorem Op_b {K:St->World->Prop}{ty t:TypeId}{p x:Operand}{pos:String}{jf:Array Edge}{g:UV}(ss:A01)(i:Nat){pa:EQ}(sv:SV)(svs:List SV){bt:TypeId}{b:Nat}{ys zs:List SV}{off:Nat}
    (hp:Pt (some ⟨b,0,none⟩) off pa) (k:Cx F O w0 w hs) (hi:hs[i]?=some (Bx bt b ys)) (md:Mid svs ys zs)
    (hside:(y7 ops ss L (⟨none,.store t p x,ty,pos,jf,g⟩:Oper),(none:A03),(toSS [p,x] (lk L)).map SV.vals,D9 P t,cellsS sv,svs.all SV.one1)=(true,none,some [.pointer pa,sv.val],some (SV.width svs),some svs,true))
    (hz:(putS off (SV.width svs) svs ys).map SV.cl=some (SV.cl zs))
    (hk:∀ w',Cx F O w0 w' (hs.set i (Bx bt b zs))->K L w') :
    yE P n ops L w ⟨none,.store t p x,ty,pos,jf,g⟩ K:=Op_bput ss i zs hside hp k hi hz hk
inductive Vup:List SV->Enc α->{m:Nat}->Vec α m->Vec α m->Nat->List SV->Prop
  | h {E:Enc α} {m:Nat} {x y:Vec α m} {ys}:Vup (.ar E x::ys) E x y 0 (.ar E y::ys)
  | t {E:Enc α} {m o:Nat} {x y:Vec α m} {u ys zs}:Vup ys E x y o zs->Vup (u::ys) E x y (SV.width [u]+o) (u::zs)
theorem Vup.split {E:Enc α}{m o:Nat}{x y:Vec α m}{ys zs:List SV}(h:Vup ys E x y o zs):∃ pre post,ys=pre++.ar E x::post/\zs=pre++.ar E y::post/\o=SV.width pre:=by
  induction h with
  | h=>exact⟨[],_,rfl,rfl,rfl⟩
  | t _ ih =>
    obtain⟨p,q,rfl,rfl,rfl⟩:=ih;exact⟨_::p,q,rfl,rfl,(Np [_] p).symm⟩
theorem Op_vs {K:St->World->Prop}{ty t:TypeId}{p x:Operand}{pos:String}{jf:Array Edge}{g:UV}{E:Enc α}(ss:A01)(i:Nat){pa:EQ}(sv:SV)(svs:List SV){bt:TypeId}{b m o o':Nat}{x0 x1:Vec α m}{ys zs:List SV}{j:Int}{e0 y:α}{kk:Nat}
    (hv:zA x0 j y=x1) (hx:aW x0.l j=some e0) (hp:Pt (some ⟨b,0,none⟩) (o'+(j.toNat*E.sz+kk)) pa) (k:Cx F O w0 w hs) (hi:hs[i]?=some (Bx bt b ys)) (vu:Vup ys E x0 x1 o zs) (hy:E.f y=pat (E.f e0) kk (SV.cl svs))
    (hside:(y7 ops ss L (⟨none,.store t p x,ty,pos,jf,g⟩:Oper),(none:A03),(toSS [p,x] (lk L)).map SV.vals,D9 P t,cellsS sv,svs.all SV.one1,o')=(true,none,some [.pointer pa,sv.val],some (SV.width svs),some svs,true,o))
    (hl:Nat.ble (kk+SV.width svs) E.sz=true)
    (hk:∀ w',Cx F O w0 w' (hs.set i (Bx bt b zs))->K L w') :
    yE P n ops L w ⟨none,.store t p x,ty,pos,jf,g⟩ K:=by
  obtain⟨pre,post,rfl,rfl,rfl⟩:=vu.split;simp only[Prod.mk.injEq] at hside;obtain⟨s1,s2,s3,s4,s5,s6,rfl⟩:=hside;subst hv;exact Op_vst (E:=E) (kk:=kk) (sv:=sv) (svs:=svs) ss i pre post x0 y (by rw[s1,s3,s4,s5,s6]) hp k hi hx hy (Nat.le_of_ble_eq_true hl) hk
end
end
section
variable {α β:Type}
abbrev Hd:=EQ×Nat×Nat
def eH:Enc Hd:=⟨1,fun h=>[.slice h.1 h.2.1 h.2.2],fun _=>rfl,fun x v h=>by rw[A0d.1 h];rfl⟩
instance:Pos eH:=⟨by decide⟩
def rows (E:Enc α):List Hd->List (List α)->List HP
  | h::hs,x::xs=>Ow E h.1 h.2.1 h.2.2 x::rows E hs xs
  | _,_=>[]
theorem Zn {E:Enc α}{hd:List Hd}{sD:List (List α)}{i:Nat}{h:Hd}{x:List α}(h1:hd[i]?=some h)(h2:sD[i]?=some x):(rows E hd sD)[i]?=some (Ow E h.1 h.2.1 h.2.2 x):=by
  induction hd generalizing sD i with
  | nil=>cases h1
  | cons a az ih =>
    cases sD with
    | nil=>cases h2
    | cons b bs =>
      cases i with
      | zero =>
        simp only[List.getElem?_cons_zero,Option.some.injEq] at h1 h2;subst h1;subst h2;rfl
      | succ i =>
        simp only[List.getElem?_cons_succ] at h1 h2;exact ih h1 h2
theorem Uw {E:Enc α}:∀ (hd:List Hd) (sD:List (List α)) (i:Nat) (h:Hd) (x:List α),hd.length=sD.length->(rows E hd sD).set i (Ow E h.1 h.2.1 h.2.2 x)=rows E (hd.set i h) (sD.set i x)
  | [],sD,_,_,_,_=>rfl
  | _::_,[],_,_,_,h=>by cases h
  | a::az,b::bs,0,h,x,_=>rfl
  | a::az,b::bs,i+1,h,x,hl=>by
    simp only[bi,Nat.add_right_cancel_iff] at hl;simp only[rows,List.set_cons_succ,Uw az bs i h x hl]
theorem Zo {E:Enc α}:∀ (hd hd2:List Hd) (sD Tv:List (List α)),hd.length=sD.length->rows E (hd++hd2) (sD++Tv)=rows E hd sD++rows E hd2 Tv
  | [],hd2,[],Tv,_=>rfl
  | [],_,_::_,_,h=>by cases h
  | _::_,_,[],_,h=>by cases h
  | a::az,hd2,b::bs,Tv,hl=>by
    simp only[bi,Nat.add_right_cancel_iff] at hl;simp only[A0x,rows,Zo az hd2 bs Tv hl]
theorem LG {E:Enc α}:∀ (hd:List Hd) (sD:List (List α)),hd.length=sD.length->(rows E hd sD).length=hd.length
  | [],_,_=>by simp[rows]
  | _::_,[],h=>by cases h
  | a::az,b::bs,hl=>by
    simp only[bi,Nat.add_right_cancel_iff] at hl;simp[rows,LG az bs hl]
def Pk (q:Prop)(l:List HP):HP where
  p w S R:=q/\Sep w l S R
  loc:=by
    rintro w w' S R ⟨h0,h⟩ hk;exact⟨h0,h.keep hk⟩
def O2 (E:Enc α)(A:EQ)(n c:Nat)(hd:List Hd)(sD:List (List α)):HP:=Pk (hd.length=sD.length) (Ow eH A n c hd::rows E hd sD)
def O2x (E:Enc α)(A:EQ)(n c:Nat)(hd:List Hd)(sD:List (List α))(i:Nat):HP:=Pk (hd.length=sD.length) (Ow eH A n c hd::(rows E hd sD).eraseIdx i)
section
variable {F O:Nat->Prop}{w0 w w':World}{hs rest:List HP}
theorem GV {β:Type}{l:List β}{i:Nat}{x:β}(h:l[i]?=some x):l.Perm (x::l.eraseIdx i):=by
  induction l generalizing i with
  | nil=>cases h
  | cons y l ih =>
    cases i with
    | zero =>
      simp only[List.getElem?_cons_zero,Option.some.injEq] at h;subst h;exact .refl _
    | succ i =>
      simp only[List.getElem?_cons_succ] at h;simp only[List.eraseIdx_cons_succ];exact(List.Perm.cons _ (ih h)).trans (.swap _ _ _)
theorem PS {β:Type}{l:List β}{i:Nat}(x:β)(h:i < l.length):(x::l.eraseIdx i).Perm (l.set i x):=by
  have h1:(l.set i x)[i]?=some x:=by simp[h]
  have h2:=GV h1;rw[List.eraseIdx_set_eq] at h2;exact h2.symm
theorem Cx.OO {q:Prop}{l:List HP}(k:Cx F O w0 w (Pk q l::rest)):q/\Cx F O w0 w (l++rest):=by
  obtain⟨U,V,⟨S,R,U',V',⟨hq,h1⟩,h2,h3,h4,h5,h6⟩,hU,hV⟩:=k.sep;refine⟨hq,k.os,k.tape,k.output,k.size,k.block,k.fin,k.QT,_,_,Sep.join h1 h2 (fun b hb=>⟨(h5 b hb).1,(h5 b hb).2.2⟩) h6,fun b hb=>hU b ((h3 b).2 hb),fun b hb=>hV b ((h4 b).2 hb)⟩
theorem Cx.LH {q:Prop}{l:List HP}(hq:q)(k:Cx F O w0 w (l++rest)):Cx F O w0 w (Pk q l::rest):=by
  obtain⟨U,V,h,hU,hV⟩:=k.sep;obtain⟨U1,V1,U2,V2,e1,e2,e3,e4,e5,e6⟩:=Sep.split h;refine⟨k.os,k.tape,k.output,k.size,k.block,k.fin,k.QT,U,V,⟨U1,V1,U2,V2,⟨hq,e1⟩,e2,e3,e4,fun b hb=>⟨(e5 b hb).1,fun hr=>Sep.apart e1 b hb hr,(e5 b hb).2⟩,e6⟩,hU,hV⟩
theorem O2.parts {E:Enc α}{A:EQ}{n c:Nat}{hd:List Hd}{sD:List (List α)}{S R:Nat->Prop}(h:(O2 E A n c hd sD).p w S R) :
    hd.length=sD.length/\(∃ S' R',(Ow eH A n c hd).p w S' R'/\∀ b,S' b->S b)/\∀ (j:Nat) (h:Hd) (x:List α),hd[j]?=some h->sD[j]?=some x->∃ S' R',(Ow E h.1 h.2.1 h.2.2 x).p w S' R'/\∀ b,S' b->S b:=by
  obtain⟨hl,hS⟩:=h;refine⟨hl,?_,fun j h x h1 h2=>?_⟩
  ·obtain⟨S',R',U',V',e1,e2,e3,_⟩:=Sep.cut (i:=0) rfl hS;exact⟨S',R',e1,fun b hb=>(e3 b).2 (.inl hb)⟩
  ·obtain⟨S',R',U',V',e1,e2,e3,_⟩:=Sep.cut (i:=j+1) (by rw[List.getElem?_cons_succ];exact Zn h1 h2) hS;exact⟨S',R',e1,fun b hb=>(e3 b).2 (.inl hb)⟩
theorem Cx.hd2 {E:Enc α}{A:EQ}{n c:Nat}{hd:List Hd}{sD:List (List α)}(k:Cx F O w0 w hs)(i:Nat)(hi:hs[i]?=some (O2 E A n c hd sD)):Rd w A (eH.all hd):=by
  obtain⟨S,R,h⟩:=k.get i hi;obtain⟨_,⟨S',R',h1,_⟩,_⟩:=O2.parts h;exact Ow.rd' h1
theorem Cx.uI {E:Enc α}{A:EQ}{n c:Nat}{hd:List Hd}{sD:List (List α)}(k:Cx F O w0 w hs)(i:Nat)(hi:hs[i]?=some (O2 E A n c hd sD)):sD.length=n:=by
  obtain⟨S,R,h⟩:=k.get i hi;obtain⟨hl,⟨S',R',h1,_⟩,_⟩:=O2.parts h;rw[<- hl];exact h1.1
theorem Cx.hlen2 {E:Enc α}{A:EQ}{n c:Nat}{hd:List Hd}{sD:List (List α)}(k:Cx F O w0 w hs)(i:Nat)(hi:hs[i]?=some (O2 E A n c hd sD)):hd.length=n:=by
  obtain⟨S,R,h⟩:=k.get i hi;obtain⟨hl,⟨S',R',h1,_⟩,_⟩:=O2.parts h;exact h1.1
theorem Ow.XY {E:Enc α}{A:EQ}{n c:Nat}{xs:List α}{S R:Nat->Prop}(h:(Ow E A n c xs).p w S R):n<=c:=by
  rcases h.2 with⟨_,h1,h2⟩ | ⟨g,t,cur,_,_,h3,_⟩ <;> omega
theorem Cx.lec2 {E:Enc α}{A:EQ}{n c:Nat}{hd:List Hd}{sD:List (List α)}(k:Cx F O w0 w hs)(i:Nat)(hi:hs[i]?=some (O2 E A n c hd sD)):n<=c:=by
  obtain⟨S,R,h⟩:=k.get i hi;obtain⟨hl,⟨S',R',h1,_⟩,_⟩:=O2.parts h;exact Ow.XY h1
theorem Cx.at2 {E:Enc α}{A:EQ}{n c:Nat}{hd:List Hd}{sD:List (List α)}{j:Int}{x:List α}(k:Cx F O w0 w hs)(i:Nat)(hi:hs[i]?=some (O2 E A n c hd sD))(hx:aW sD j=some x):∃ B d,aW hd j=some (B,x.length,d)/\x.length<=d:=by
  obtain⟨S,R,h⟩:=k.get i hi;obtain⟨hl,_,h2⟩:=O2.parts h;obtain⟨h0,h1⟩:=aS hx;have hlt:=(A0w.1 h1).1;have hh:hd[j.toNat]?=some (hd[j.toNat]'(hl▸hlt)):=A0l _;obtain⟨S',R',hp,_⟩:=h2 _ _ _ hh h1;refine⟨(hd[j.toNat]'(hl▸hlt)).1,(hd[j.toNat]'(hl▸hlt)).2.2,?_,?_⟩
  ·unfold aW;rw[if_pos h0,hh,hp.1]
  ·rw[hp.1];exact Ow.XY hp
theorem pK {β:Type}{l:List β}{j:Int}{x:β}(h:aW l j=some x):l[j.toNat]?=some x:=(aS h).2
theorem Cx.in2 {E:Enc α}{A:EQ}{n c m:Nat}{hd:List Hd}{sD:List (List α)}{j:Int}{x:List α}{B:EQ}{d:Nat}(k:Cx F O w0 w hs)(i:Nat)(hi:hs[i]?=some (O2 E A n c hd sD))(hx:aW sD j=some x)(hh:aW hd j=some (B,m,d)):Rd w B (E.all x):=by
  obtain⟨S,R,h⟩:=k.get i hi;obtain⟨hl,_,h2⟩:=O2.parts h;obtain⟨S',R',hp,_⟩:=h2 _ _ _ (pK hh) (pK hx);exact Ow.rd' hp
theorem Cx.open2 {E:Enc α}{A:EQ}{n c m:Nat}{hd:List Hd}{sD:List (List α)}{j:Int}{x:List α}{B:EQ}{d:Nat}(k:Cx F O w0 w (O2 E A n c hd sD::rest))(hx:aW sD j=some x)(hh:aW hd j=some (B,m,d)):Cx F O w0 w (O2x E A n c hd sD j.toNat::Ow E B m d x::rest):=by
  obtain⟨hl,k1⟩:=k.OO;have hg:=Zn (E:=E) (pK hh) (pK hx);refine Cx.LH hl (k1.perm ?_);simp only[A0x];refine .cons _ (List.Perm.trans (List.Perm.append_right rest (GV hg)) ?_);simp only[A0x];exact List.perm_middle.symm
theorem Cx.close2 {E:Enc α}{A:EQ}{n c m:Nat}{hd:List Hd}{sD:List (List α)}{j:Int}{x y:List α}{B:EQ}{d:Nat}(hx:aW sD j=some x)(hh:aW hd j=some (B,m,d))(k:Cx F O w0 w (O2x E A n c hd sD j.toNat::Ow E B m d y::rest)):Cx F O w0 w (O2 E A n c hd (sD.set j.toNat y)::rest):=by
  obtain⟨hl,k1⟩:=k.OO;refine Cx.LH (by simpa using hl) (k1.perm ?_);have hs:hd.set j.toNat (B,m,d)=hd:=by
    obtain⟨h1,h2⟩:=A0w.1 (pK hh);rw[<- h2];exact List.set_getElem_self h1
  have hr:=Uw (E:=E) hd sD j.toNat (B,m,d) y hl;rw[hs] at hr;simp only[A0x];refine .cons _ (List.Perm.trans List.perm_middle ?_);rw[<- hr,<-A0x];exact List.Perm.append_right rest (PS _ (by rw[LG _ _ hl];exact(A0w.1 (pK hh)).1))
theorem Cx.Zp (k:Cx F O w0 w hs)(E:Enc α):Cx F O w0 w (hs++[O2 E Option.none 0 0 [] []]):=by
  have k1:=k.nil eH;have k2:Cx F O w0 w (([Ow eH Option.none 0 0 []]:List HP)++hs):=k1.perm A0t;have k3:=Cx.LH (q:=([]:List Hd).length=([]:List (List α)).length) rfl k2;exact k3.perm (A0t (l₁:=[_]))
end
structure YZ (F:Nat->Prop)(w:World)(E:Enc α)(A:Option Addr)(hd:List Hd)(sD:List (List α)):Prop where
  ro:Ro F w A (eH.all hd)
  len:hd.length=sD.length
  el:∀ (j:Nat) (h:Hd) (x:List α),hd[j]?=some h->sD[j]?=some x->h.2.1=x.length/\x.length<=h.2.2/\Ro F w h.1 (E.all x)
section
variable {F O F1 O1:Nat->Prop}{w0 w w':World}{hs rest:List HP}{E:Enc α}{A:EQ}{hd:List Hd}{sD:List (List α)}
theorem YZ.at (r:YZ F w E A hd sD){j:Int}{x:List α}(hx:aW sD j=some x):∃ B d,aW hd j=some (B,x.length,d)/\x.length<=d/\Ro F w B (E.all x):=by
  obtain⟨h0,h1⟩:=aS hx;have hlt:=(A0w.1 h1).1;have hh:hd[j.toNat]?=some (hd[j.toNat]'(r.len▸hlt)):=A0l _;obtain⟨e1,e2,e3⟩:=r.el _ _ _ hh h1;refine⟨(hd[j.toNat]'(r.len▸hlt)).1,(hd[j.toNat]'(r.len▸hlt)).2.2,?_,e2,e3⟩;unfold aW;rw[if_pos h0,hh,<-e1]
theorem LJ {n c:Nat}{xs:List α}{S R:Nat->Prop}(h:(Ow E A n c xs).p w S R)(hS:∀ b,S b->¬ F1 b):Ro F1 w A (E.all xs):=by
  refine⟨Ow.rd' h,fun _ a ha=>?_⟩;rcases h.2 with⟨h1,_⟩ | ⟨g,t,cur,h1,_,_,_,_,_,h7⟩
  ·rw[h1] at ha;cases ha
  ·rw[h1] at ha;simp only[Option.some.injEq] at ha;subst ha;exact hS g h7
theorem YZ.of_p {n c:Nat}{S R:Nat->Prop}(h:(O2 E A n c hd sD).p w S R)(hS:∀ b,S b->¬ F1 b):YZ F1 w E A hd sD:=by
  obtain⟨hl,⟨S',R',h1,h2⟩,h3⟩:=O2.parts h;refine⟨LJ h1 (fun b hb=>hS b (h2 b hb)),hl,fun j h x e1 e2=>?_⟩;obtain⟨S',R',f1,f2⟩:=h3 j h x e1 e2;exact⟨f1.1.symm,by rw[f1.1];exact Ow.XY f1,LJ f1 (fun b hb=>hS b (f2 b hb))⟩
theorem YZ.yu (h:YZ F w0 E A hd sD)(k:Cx F O w0 w hs)(hF:∀ b,F1 b->F b∨w0.heap.size<=b):YZ F1 w E A hd sD :=
  ⟨Ro.yu h.ro k hF,h.len,fun j a x e1 e2=>⟨(h.el j a x e1 e2).1,(h.el j a x e1 e2).2.1,Ro.yu (h.el j a x e1 e2).2.2 k hF⟩⟩
theorem YZ.n0 (h:YZ F w0 E A hd sD)(k:Cx F O w0 w hs):YZ N0 w E A hd sD:=h.yu k fun _ h=>h.elim
theorem Cx.ro2 {n c:Nat}(k:Cx F O w0 w hs)(i:Nat)(hi:hs[i]?=some (O2 E A n c hd sD)):YZ N0 w E A hd sD:=by
  obtain⟨S,R,h⟩:=k.get i hi;exact YZ.of_p h fun _ _ h=>h
end
section
variable {P:Program}{n:Nat}{ops:Array Oper}{L:St}{w w0:World}{F O:Nat->Prop}{hs rest:List HP}{K:St->World->Prop}
theorem Q8 {dst:A03}{t ty:TypeId}{len:Nat}{parts:Array (Nat×Operand)}{pos:String}{jf:Array Edge}{g:UV}{e:TypeId}{zs:List Value}{bytes:Nat}(tf:TF P t e zs bytes)
    (E:Enc α) (ss:A01) (d:Nat) (hd:List Hd) (sD:List (List α)) (ps:List (Nat×SV)) (svs:List SV)
    (hside:(y7 ops ss L ⟨dst,.buildSlice t len parts,ty,pos,jf,g⟩,dst,(decide (d < n)),(L.any fun p=>p.1 == d),(toPS parts.toList (lk L)).map (·.map fun p=>(p.1,p.2.val)))=(true,some d,true,false,some (ps.map fun p=>(p.1,p.2.val))))
    (hf:(PK (fun i=>some (i*zs.length,zs.length)) ((List.replicate len zs).flatten.map OB) ps,decide (len*zs.length<=16777216),hd.length,eH.sz)=(some svs,true,len,zs.length)) (hx:SV.cl svs=eH.all hd) (hl:hd.length=sD.length)
    (k:Cx F O w0 w (rows E hd sD++rest)) (hk:∀ A w',Cx F O w0 w' (O2 E A len len hd sD::rest)->K ((d,.v (.slice A len len))::L) w') :
    yE P n ops L w ⟨dst,.buildSlice t len parts,ty,pos,jf,g⟩ K:=by
  refine Op_mk tf eH ss d hd ps svs hside hf hx k fun A w' k'=>hk A w' (Cx.LH hl (k'.perm ?_));exact(A0t (l₂:=[_])).trans (List.Perm.refl _)
theorem Ef {dst:A03}{x y:Operand}{t t2 ty:TypeId}{pos:String}{jf:Array Edge}{g:UV}{e:TypeId}{zs:List Value}{bytes:Nat}(tf:TF P t e zs bytes)
    {E:Enc α} (ss:A01) (d:Nat) {A A2:EQ} {n1 n2 c c2:Nat} {hd hd2:List Hd} {sD Tv:List (List α)}
    (hside:(y7 ops ss L ⟨dst,.call ⟨.builtin .append,#[x,y],#[t,t2]⟩,ty,pos,jf,g⟩,dst,(decide (d < n)),(L.any fun p=>p.1 == d),(toSS [x,y] (lk L)).map SV.vals,(match P.underlying t2 with | some (.slice _)=>true | some .string=>true | _=>false),1)=(true,some d,true,false,some [.slice A n1 c,.slice A2 n2 c2],true,zs.length))
    (k:Cx F O w0 w (O2 E A n1 c hd sD::O2 E A2 n2 c2 hd2 Tv::rest)) (hroom:(n1+n2)*bytes<=140737488355328)
    (hk:∀ A' c' w',Cx F O w0 w' (O2 E A' (n1+n2) c' (hd++hd2) (sD++Tv)::rest)->K ((d,.v (.slice A' (n1+n2) c'))::L) w') :
    yE P n ops L w ⟨dst,.call ⟨.builtin .append,#[x,y],#[t,t2]⟩,ty,pos,jf,g⟩ K:=by
  have hl2:hd2.length=n2:=k.hlen2 1 rfl;have hrd:=k.hd2 1 rfl;obtain⟨hl,k1⟩:=k.OO;have k2:Cx F O w0 w (O2 E A2 n2 c2 hd2 Tv::((Ow eH A n1 c hd::rows E hd sD)++rest)):=k1.perm (by simp only[A0x];exact List.perm_middle (l₁:=_::_));obtain⟨hl',k3⟩:=k2.OO;have hz:(1:Nat)=zs.length:=by simp only[Prod.mk.injEq] at hside;exact hside.2.2.2.2.2.2
  have k4:Cx F O w0 w (Ow eH A n1 c hd::(Ow eH A2 n2 c2 hd2::(rows E hd2 Tv++(rows E hd sD++rest)))):=k3.perm (by
    simp only[A0x];exact(List.Perm.cons _ List.perm_middle).trans (.swap _ _ _))
  refine dK (E:=eH) (v:=.v (.slice A2 n2 c2)) (ys:=hd2) tf ss d 0 hside k4 rfl (Src.sl hrd hl2 hz) hl2 hroom fun A' c' w' k'=>hk A' c' w' ?_;have k5:Cx F O w0 w' (Ow eH A' (n1+n2) c' (hd++hd2)::(rows E hd2 Tv++(rows E hd sD++rest))):=(k'.perm (.swap _ _ _)).tl;refine Cx.LH (by simp[hl,hl']) (k5.perm ?_);rw[Zo hd hd2 sD Tv hl];simp only[A0x,ul];refine .cons _ ?_;rw[<- ul,<-ul];exact List.Perm.append_right rest A0t
theorem Op_st2 {ty t:TypeId}{p x:Operand}{pos:String}{jf:Array Edge}{g:UV}{E:Enc α}(ss:A01){pa A B A2:EQ}{n1 c m d m2 d2:Nat}{hd:List Hd}{sD:List (List α)}{j:Int}{y:List α}
    (hside:(y7 ops ss L (⟨none,.store t p x,ty,pos,jf,g⟩:Oper),(none:A03),(toSS [p,x] (lk L)).map SV.vals,D9 P t)=(true,none,some [.pointer pa,.slice A2 m2 d2],some 1))
    (hp:Pt A (j.toNat*eH.sz+0) pa) (hh:aW hd j=some (B,m,d)) (k:Cx F O w0 w (O2x E A n1 c hd sD j.toNat::Ow E A2 m2 d2 y::rest))
    (hk:∀ w',Cx F O w0 w' (O2 E A n1 c (hd.set j.toNat (A2,m2,d2)) (sD.set j.toNat y)::rest)->K L w') :
    yE P n ops L w ⟨none,.store t p x,ty,pos,jf,g⟩ K:=by
  obtain⟨hl,k1⟩:=k.OO;simp only[A0x] at k1;have hA:A.isSome=true:=kY (E:=eH) (k1.rd 0 rfl) (by decide) (dD hh).1 (pK hh);refine Ee (E:=eH) (kk:=0) (sv:=.v (.slice A2 m2 d2)) (svs:=[.v (.slice A2 m2 d2)]) ss 0 (j:=j.toNat) (x0:=(B,m,d)) (A2,m2,d2) (by
    simp only[Prod.mk.injEq] at hside ⊢;exact⟨hside.1,hside.2.1,hside.2.2.1,hside.2.2.2,rfl,rfl⟩) hp k1 rfl (pK hh) hA rfl (Nat.le_refl 1) fun w' k'=>hk w' (Cx.LH (by simpa using hl) ?_)
  rw[A0y] at k';refine k'.perm ?_;simp only[A0x];refine .cons _ (List.Perm.trans List.perm_middle ?_);have hr:=Uw (E:=E) hd sD j.toNat (A2,m2,d2) y hl;rw[<- hr,<-A0x];exact List.Perm.append_right rest (PS _ (by rw[LG _ _ hl];exact(A0w.1 (pK hh)).1))
end
section
variable {P:Program}{n:Nat}{Q:Act->World->Prop}{ops:Array Oper}{Ls:A01}{C:List (World->Prop)}{L L':St}{w:World}{π:MT}{p:Nat}
theorem MX_forget (L':St)(hk:L'.map (fun p=>(find L p.1).map SV.val)=L'.map (fun p=>some p.2.val)){listed:Array Bool}(h:MX P n ops Ls C Q π p listed (Kn L') w):MX P n ops Ls C Q π p listed (Kn L) w :=
  fun hns hmo hB hw=>Ji (q:=fun a w=>wpC P ops Ls (cls C) Q π.depth p listed a w) L' hk (fun a ha=>h hns hmo hB hw a ha)
theorem Zq (k:Nat)(c:Bool)(b:Bl L L')(hk:((k,SV.b c)::L').map (fun p=>(find L p.1).map SV.val)=((k,SV.b c)::L').map (fun p=>some p.2.val))
    (h1:c=true->∀ listed,MX P n ops Ls C Q π p listed (Kn ((k,.b true)::L')) w) (h2:c=false->∀ listed,MX P n ops Ls C Q π p listed (Kn ((k,.b false)::L')) w) {listed:Array Bool}:MX P n ops Ls C Q π p listed (Kn L) w:=by
  refine MX_forget ((k,SV.b c)::L') hk ?_;cases c with
  | true=>exact h1 rfl listed
  | false=>exact h2 rfl listed
theorem Dh {i:Nat}{o:Oper}(d:Nat)(ss:A01)(hl:Ls.contains i=true)(ho:ops[i]?=some o)(hs:((Zf ops o).map (settled ss (Kn L)),o.dst,decide (d < n),L.any fun p=>p.1 == d)=(some (some false),some d,true,false))
    (h:∀ listed,MX P n ops Ls C Q π (p+1) listed (Kn ((d,.qA [])::L)) w) {listed:Array Bool}:MX P n ops Ls C Q (.op i π) p listed (Kn L) w:=by
  intro hns hmo hB hw a ha;simp only[Prod.mk.injEq,lm,A0c] at hs;obtain⟨⟨g,hg,hse⟩,hd,hn,hnew⟩:=hs;have hnx:nx Ls p i=p+1:=by unfold nx;rw[if_pos hl]
  simp only[KT,A0k,beq_iff_eq,hnx] at hB;obtain⟨hr,hB⟩:=hB;obtain⟨k,wv,rfl,_,h2⟩:=Gm ha hse;have hnw:Region.wanted o (yielded ops a.tmps)=false:=by
    cases hwant:Region.wanted o (yielded ops a.tmps) with
    | true=>exact absurd ((Gl hg).1 hwant k wv rfl) (h2 rfl)
    | false=>rfl
  refine⟨fun h0=>(by rw[h0] at hr;cases hr),fun j hj=>?_⟩;rw[hr] at hj;simp only[A0d] at hj;subst hj;have hc:=hmo.le p (p+1) w (by omega) hw;unfold wpOp;simp only[ho,hnx];rw[if_neg (by simp[hnw]),hd];exact⟨hc,h _ hns hmo hB hc _ (ha.more (x:=.qA []) hn hnew)⟩
end
end
section
open Go.ChangeShapes Go.WideShapes Go.ChangeAt Go.RowKit
set_option linter.unusedSimpArgs false
set_option linter.unusedVariables false
variable {α σ ρ:Type}
theorem jP {n:Int}(h:-9223372036854775808<=n/\n < 9223372036854775808):bC n=n:=by
  simp only[bC,IntKind.wrap,IntKind.signed,IntKind.bits,reduceIte];simp only[show(2:Int) ^ 64=18446744073709551616 from rfl,show(2:Int) ^ 63=9223372036854775808 from rfl,show(2:Nat) ^ 64=18446744073709551616 from rfl,show(2:Nat) ^ 63=9223372036854775808 from rfl,show(64 - 1:Nat)=63 from rfl]
  first | omega | (simp;omega)
theorem uJ {xs ys:List α}{b:Nat}(h:(xs.length+ys.length)*b<=140737488355328):app xs ys b=some (xs++ys):=by
  unfold app;rw[if_pos h]
theorem kH {p:Prop}[Decidable p](h:p):need p=some ():=by
  unfold need;rw[if_pos h]
theorem Eg {xs:List α}{lo hi:Int}(h:0<=lo/\lo<=hi/\hi<=xs.length):OL xs lo hi=some ((xs.take hi.toNat).drop lo.toNat):=by
  unfold OL;rw[if_pos h]
theorem whileO_inv {f:σ->Option (σ⊕ρ)}(P:Nat->σ->Prop)(Q:ρ->Prop)(n:Nat)
    (h:∀ i s,P i s->(i < n/\∃ s',f s=some (.inl s')/\P (i+1) s')∨∃ r,f s=some (.inr r)/\Q r) :
    ∀ s,P 0 s->∃ r,aQ f s=some r/\Q r:=by
  have key:∀ k i s,n - i<=k->P i s->∃ r,aQ f s=some r/\Q r:=by
    intro k
    induction k with
    | zero =>
      intro i s hk hp;rcases h i s hp with⟨hi,_⟩ | ⟨r,hr,hq⟩
      ·omega
      ·exact⟨r,fZ hr,hq⟩
    | succ k ih =>
      intro i s hk hp;rcases h i s hp with⟨hi,s',hs',hp'⟩ | ⟨r,hr,hq⟩
      ·rw[fE hs'];exact ih (i+1) s' (by omega) hp'
      ·exact⟨r,fZ hr,hq⟩
  exact fun s hp=>key n 0 s (by omega) hp
theorem Ai {f:σ->Option (σ⊕ρ)}(P:Nat->σ->Prop)(r:ρ)(n:Nat)(s:σ)(h0:P 0 s)
    (h:∀ i s,P i s->(i < n/\∃ s',f s=some (.inl s')/\P (i+1) s')∨f s=some (.inr r)):aQ f s=some r:=by
  obtain⟨r',h1,rfl⟩:=whileO_inv P (fun r'=>r'=r) n (fun i s hp=>(h i s hp).imp id fun e=>⟨r,e,rfl⟩) s h0;exact h1
theorem gm {f:σ->Option (σ⊕ρ)}(s:Nat->σ)(n:Nat){r:ρ}(h:∀ i,i < n->f (s i)=some (.inl (s (i+1))))(he:f (s n)=some (.inr r)):aQ f (s 0)=some r :=
  Ai (fun i x=>x=s i/\i<=n) r n (s 0) ⟨rfl,by omega⟩ (by
    rintro i x ⟨rfl,hi⟩;by_cases hlt:i < n
    ·exact .inl ⟨hlt,_,h i hlt,rfl,by omega⟩
    ·obtain rfl:i=n:=by omega
     exact .inr he)
def IsRow (k:IntKind)(w:World)(a:EQ)(len cap:Nat)(zs:List Int):Prop :=
  (a=none/\len=0/\cap=0/\zs=[]) ∨
  ∃ x,a=some x/\len<=cap/\cap<=maxLen/\zs.length=cap/\(∀ i,i < zs.length->w.cell? (x.add i)=some (.int k (zs.getD i 0)))/\∀ n ∈ zs,(Lit.int k n).wf=true
theorem wf_u8 {n:Int}(h:(Lit.int .u8 n).wf=true):0<=n/\n<=255:=by
  simpa [Lit.wf,IntKind.min,IntKind.max,IntKind.signed,IntKind.bits] using h
theorem wf_i64 {n:Int}(h:(Lit.int .i64 n).wf=true):-9223372036854775808<=n/\n<=9223372036854775807:=by
  simpa [Lit.wf,IntKind.min,IntKind.max,IntKind.signed,IntKind.bits] using h
theorem get_u8 {n:Int}(h:(Lit.int .u8 n).wf=true):∃ x:UInt8,Value.int .u8 n=SV.val (.u8 x):=by
  have:=wf_u8 h;refine⟨UInt8.ofNat n.toNat,?_⟩;simp only[SV.val,Value.int.injEq,true_and];simp;omega
theorem row_list {k:IntKind}{β:Type}{φ:β->Value}{w:World}{a:EQ}{len cap:Nat}{zs:List Int}(h:IsRow k w a len cap zs)
    (hg:∀ n:Int,(Lit.int k n).wf=true->∃ x:β,Value.int k n=φ x):∃ b:List β,Rd w a (b.map φ)/\b.length=len/\len<=cap:=by
  rcases h with⟨rfl,rfl,rfl,rfl⟩ | ⟨x,rfl,hl,hm,hz,hc,hw⟩
  ·exact⟨[],⟨fun h=>absurd rfl h,fun _ _ _ h=>by cases h⟩,rfl,by omega⟩
  ·have key:∀ zs:List Int,(∀ n ∈ zs,(Lit.int k n).wf=true)->∃ b:List β,b.length=zs.length/\∀ (i:Nat) (n:Int),zs[i]?=some n->∃ y:β,b[i]?=some y/\Value.int k n=φ y:=by
     intro zs
     induction zs with
     | nil=>intro _;exact⟨[],rfl,fun i n h=>by simp at h⟩
     | cons z zs ih =>
       intro hw;obtain⟨b,hb,hi⟩:=ih fun n hn=>hw n (A0e _ hn);obtain⟨y,hy⟩:=hg z (hw z A0g);refine⟨y::b,by simp[hb],fun i n hin=>?_⟩;cases i with
       | zero=>simp at hin;subst hin;exact⟨y,by simp,hy⟩
       | succ i=>simp at hin;obtain⟨y',h1,h2⟩:=hi i n hin;exact⟨y',by simpa using h1,h2⟩
   obtain⟨b,hb,hi⟩:=key zs hw;refine⟨b.take len,⟨fun _=>⟨x,rfl⟩,fun a j u ha hu=>?_⟩,by simp;omega,hl⟩;cases ha;rw[List.map_take,List.getElem?_take] at hu;split at hu
   ·rename_i hj;have hjz:j < zs.length:=by omega
    obtain⟨y,h1,h2⟩:=hi j zs[j] (by simp[hjz]);rw[List.getElem?_map,h1] at hu;simp only[Option.map_some,Option.some.injEq] at hu;rw[hc j hjz,<-hu,<-h2];simp[hjz]
   ·cases hu
theorem row_u8 {w:World}{a:EQ}{len cap:Nat}{zs:List Int}(h:IsRow .u8 w a len cap zs):∃ b:AC,Rd w a (b.map bV)/\b.length=len/\len<=cap :=
  row_list h fun n hn=>by obtain⟨x,hx⟩:=get_u8 hn;exact⟨x,hx⟩
theorem XZ (s:ByteArray):∃ l:AC,Value.string s=SV.val (.s l)/\l.length=s.size:=by
  obtain⟨⟨l⟩⟩:=s;exact⟨l,rfl,rfl⟩
section
variable {H:Type}{enc:TypeId×Value->H}{P:Program}{w:World}{held:Bool}
theorem open_row {t e:TypeId}{k:IntKind}{fuel:Nat}{cs:List Value}{x:DataW H×List MemPlace}(ht:P.underlying t=some (.slice e))(he:P.underlying e=some (.int k))(hc:P.cellsOf e=1)
    (h:DataW.trod enc P w 0 (fun _=>true) held fuel t cs=some x) :
    ∃ a len cap zs,cs=[.slice a len cap]/\IsRow k w a len cap zs/\(len=0∨(x.1=.slice (lits k (zs.take len)) (lits k (zs.drop len))/\len<=zs.length)):=by
  rcases open_ints ht he hc h with⟨rfl,_⟩ | ⟨x',l,c,zs,rfl,_,hl,hm,hz,hxx,hcell,hwz⟩
  ·exact⟨none,0,0,[],rfl,.inl ⟨rfl,rfl,rfl,rfl⟩,.inl rfl⟩
  ·simp only[if_true] at hz;refine⟨some x',l,c,zs,rfl,.inr ⟨_,rfl,hl,hm,by simpa using hz,hcell,hwz⟩,.inr ⟨by rw[hxx],by omega⟩⟩
theorem Zr {t:TypeId}{fs:Array Field}{fuel:Nat}{cs:List Value}{x:DataW H×List MemPlace}(ht:P.underlying t=some (.struct fs))(h:DataW.trod enc P w 0 (fun _=>true) held fuel t cs=some x) :
    ∃ (xs:List (DataW H×List MemPlace)) (n:Nat),x.1=.agg (xs.map (·.1))/\cs.length=P.cellsOf t/\∀ (i:Nat) (f:Field) (ft:TypeId) (off len:Nat),fs[i]?=some f->f.type=ft->f.offset=off->P.cellsOf ft=len ->
      ∃ y,y.1 ∈ xs.map (·.1)/\DataW.trod enc P w 0 (fun _=>true) held n ft ((cs.drop off).take len)=some y:=by
  obtain⟨xs,n,_,rfl,hl,hlen,hf⟩:=DataW.trod_struct ht h;refine⟨xs,n,rfl,hl,?_⟩;rintro i f ft off len hi rfl rfl rfl;have hlt:i < xs.length:=by
    rw[hlen];have:=(Array.getElem?_eq_some_iff.1 hi).1;exact this
  refine⟨xs[i],ww.2 ⟨xs[i],lw hlt,rfl⟩,?_⟩;rw[hf i f hi];simp[hlt]
end
theorem OQ (cs:List Value)(off n off2:Nat)(h:off+n=off2):cs.drop off=(cs.drop off).take n++cs.drop off2:=by
  subst h;rw[<- List.drop_drop,List.take_append_drop]
theorem cut_end (cs:List Value)(n m:Nat)(h:cs.length=n)(hm:n=m):cs.drop m=[]:=by
  subst hm;subst h;simp
end
section
open Go.RowKit Go.ChangeShapes Go.WideShapes Go.ChangeAt
set_option linter.unusedSimpArgs false
set_option linter.unusedVariables false
section
variable {P:Program}{n:Nat}{ops:Array Oper}{L:St}{w:World}{K:St->World->Prop}
end
section
variable {α:Type}{F O:Nat->Prop}{w0 w:World}{hs:List HP}
theorem Cx.hd2x {E:Enc α}{A:EQ}{n c j:Nat}{hd:List Hd}{sD:List (List α)}(k:Cx F O w0 w hs)(i:Nat)(hi:hs[i]?=some (O2x E A n c hd sD j)):Rd w A (eH.all hd):=by
  obtain⟨S,R,h⟩:=k.get i hi;obtain⟨hl,hS⟩:=h;obtain⟨S',R',U',V',e1,_⟩:=Sep.cut (i:=0) rfl hS;exact Ow.rd' e1
theorem Cx.hlen2x {E:Enc α}{A:EQ}{n c j:Nat}{hd:List Hd}{sD:List (List α)}(k:Cx F O w0 w hs)(i:Nat)(hi:hs[i]?=some (O2x E A n c hd sD j)):hd.length=n:=by
  obtain⟨S,R,h⟩:=k.get i hi;obtain⟨hl,hS⟩:=h;obtain⟨S',R',U',V',e1,_⟩:=Sep.cut (i:=0) rfl hS;exact e1.1
end
section
variable {α:Type}{F O:Nat->Prop}{w0 w:World}{hs rest:List HP}{E:Enc α}{A:EQ}{n c m:Nat}{hd:List Hd}{sD:List (List α)}
theorem Cx.dropp:∀ (l:List HP),Cx F O w0 w (l++rest)->Cx F O w0 w rest
  | [],k=>k
  | _::l,k=>Cx.dropp l k.tl
end
theorem dl_step {α:Type}{X:Int}{sD:List α}{x:α}(h:aW sD X=some x)(hm:sD.length<=maxLen):X.toNat+1<=(bC (X+1)).toNat:=by
  have h1:=dD h;unfold maxLen at hm;rw[jP (by omega)];omega
theorem Zt {P:Program}{w:World}{g:Nat}{cur:Array Value}{t:TypeId}(h:Rw w g cur t):∃ w',(markStringish ⟨g,0,Option.none⟩).run P w=.ok () w'/\Rw w' g cur t/\w.grownBy w' (some g)/\w'.heap.size=w.heap.size:=by
  obtain⟨⟨lo,hi⟩,h,hn⟩:=h;have hsh:w.shape? g=some (t,cur.size):=by simp[World.shape?,h]
  refine⟨w.freeze { block:=g,off:=cur.size } 1,?_,⟨if lo == hi then(cur.size,cur.size+1) else(min lo cur.size,max hi (cur.size+1)),?_,?_⟩,⟨rfl,rfl,rfl,by simp[World.freeze],fun k hk hne=>?_⟩,by simp[World.freeze]⟩
  ·simp[markStringish,shape,Sem.run,hsh,freeze]
  ·simp[World.freeze,Array.getElem?_modify,h]
  ·unfold NF at *;split
   ·exact .inr (Nat.le_refl _)
   ·rename_i hne;right;have hne':lo≠hi:=by simpa using hne
    rcases hn with h1 | h1
    ·exact absurd h1.symm hne'
    ·simp only at h1 ⊢;omega
  ·have:¬ g=k:=fun e=>hne (by rw[e]);simp[World.freeze,Array.getElem?_modify,this]
section
variable {P:Program}{n:Nat}{ops:Array Oper}{L:St}{w w0:World}{F O:Nat->Prop}{hs:List HP}{K:St->World->Prop}
theorem Op_cb {dst:A03}{x:Operand}{t ty:TypeId}{pos:String}{jf:Array Edge}{g:UV}(e:TypeId)(ss:A01)(d i:Nat){A:EQ}{n1 c:Nat}{xs:AC}
    (hside:(y7 ops ss L ⟨dst,.convert t t x,ty,pos,jf,g⟩,dst,(decide (d < n)),(L.any fun p=>p.1 == d),(toSS [x] (lk L)).map SV.vals,P.underlying t,P.underlying e)=(true,some d,true,false,some [.slice A n1 c],some (.slice e),some (.int .u8)))
    (k:Cx F O w0 w hs) (hi:hs[i]?=some (Ow e8 A n1 c xs)) (hn:0 < n1) (hk:∀ w',Cx F O w0 w' (hs.set i (Ow e8 A n1 c xs))->K ((d,.v (.slice A n1 c))::L) w') :
    yE P n ops L w ⟨dst,.convert t t x,ty,pos,jf,g⟩ K:=by
  simp only[Prod.mk.injEq,A0c,lm] at hside;obtain⟨s1,rfl,s3,s4,⟨svs,s5,s6⟩,h1,h2⟩:=hside;refine zu (xs:=[x]) (svs:=svs) ss (d:=d) (by simp[Side,s1,s3,s4,s5]) fun a ha he=>?_;rw[s6] at he;simp only[kw,List.map_nil,List.cons.injEq,and_true] at he;obtain⟨S,R,hS⟩:=k.get i hi;rcases hS.2 with⟨_,h0,_⟩ | ⟨g',t',cur,rfl,hr,hrest⟩
  ·omega
  obtain⟨w',hm1,hm2,hm3,hm4⟩:=Zt (P:=P) hr;have hrun:(execOp a.eval ⟨some d,.convert t t x,ty,pos,jf,g⟩).run P w=.ok (.value (.slice (some ⟨g',0,Option.none⟩) n1 c)) w':=by
    unfold execOp;simp only[he,convert,Sem.run_bind,run_underlying h1,run_underlying h2,Result.andThen_ok,beq_self_eq_true,hm1,Sem.run_pure]
  unfold Oper.wp;rw[hrun];refine⟨.v (.slice (some ⟨g',0,Option.none⟩) n1 c),rfl,hk w' ?_⟩;refine k.Ul i hi (some g') hm3 fun S R hS hlt=>?_;rcases hS.2 with⟨h0,_⟩ | ⟨g2,t2,cur2,e1,hr2,hrest2⟩
  ·cases h0
  ·simp only[Option.some.injEq,Addr.mk.injEq,and_true] at e1;subst e1;obtain⟨w2,hm1',hm2',_,_⟩:=Zt (P:=P) hr2;rw[hm1] at hm1';simp only[Result.ok.injEq,true_and] at hm1';subst hm1';refine⟨fun g3 hg=>(by simp only[Option.some.injEq] at hg;subst hg;exact hrest2.2.2.2.2),S,fun _=>False,⟨hS.1,.inr ⟨g',t2,cur2,rfl,hm2',hrest2⟩⟩,fun b hb=>⟨by rw[hm4];exact hlt b hb,.inl hb⟩,fun _ h=>h⟩
end
section
variable {P:Program}{n:Nat}{Q:Exit->Act->World->Prop}{L L':St}{w:World}{c:Code}
end
section
variable {P:Program}{n:Nat}{ops:Array Oper}{L:St}{w:World}{K:St->World->Prop}
structure IsFb (P:Program)(f:FuncId):Prop where
  ok : ∃ fn, P.funcs[f]? = some fn /\ (fn.name == "runtime.NumGoroutine") = false /\ fn.body.isNone = true /\ Extern.findNext fn = none /\ Extern.find fn = some Extern.MathFloatBits.float64bits
theorem Op_fbits {dst:A03}{f:FuncId}{xs:Array Operand}{ats:Array TypeId}{ty:TypeId}{pos:String}{jf:Array Edge}{g:UV}(hf:IsFb P f)(ss:A01)(d b:Nat)(hb:b < 18446744073709551616)
    (hs:(y7 ops ss L ⟨dst,.call ⟨.value (.func f),xs,ats⟩,ty,pos,jf,g⟩,dst,(decide (d < n)),(L.any fun p=>p.1 == d),(toSS xs.toList (lk L)).map SV.vals)=(true,some d,true,false,some [.float .f64 b]))
    (hk:K ((d,.u64 (UInt64.ofNat b))::L) w):yE P n ops L w ⟨dst,.call ⟨.value (.func f),xs,ats⟩,ty,pos,jf,g⟩ K:=by
  simp only[Prod.mk.injEq,A0c,lm] at hs;obtain⟨s1,s2,s3,s4,⟨vs,s5,s6⟩⟩:=hs;subst s2;refine zu (xs:=xs.toList) (svs:=vs) ss (d:=d) (by simp[Side,s1,s3,s4,s5]) fun a ha he=>?_;rw[s6] at he;have hargs:(#[]++xs.map a.eval++#[]:Array Value)=#[.float .f64 b]:=by
    apply Array.ext';simpa using he
  obtain⟨fn,h1,h2,h3,h4,h5⟩:=hf.ok;have hrun:(execOp a.eval ⟨some d,.call ⟨.value (.func f),xs,ats⟩,ty,pos,jf,g⟩).run P w=.ok (.value (SV.val (.u64 (UInt64.ofNat b)))) w:=by
    show(callFunc f (#[]++xs.map a.eval++#[])).run P w=_;rw[hargs,run_callFunc_extern h1 h2 h3 h4 h5];have e:(UInt64.ofNat b).toNat=b:=by simp only[UInt64.toNat_ofNat'];omega
    simp only[SV.val,e];rfl
  unfold Oper.wp;rw[hrun];exact⟨_,rfl,hk⟩
end
section
variable {P:Program}{n:Nat}{ops:Array Oper}{L:St}{w:World}{K:St->World->Prop}
end
def eQ:Enc (EQ):=⟨1,fun a=>[.pointer a],fun _=>rfl,fun x v h=>by rw[A0d.1 h];rfl⟩
instance:Pos eQ:=⟨by decide⟩
theorem exlist {β:Type}{Q:Nat->β->Prop}:∀ (n:Nat),(∀ i,i < n->∃ y,Q i y)->∃ l:List β,l.length=n/\∀ (i:Nat) (y:β),l[i]?=some y->Q i y
  | 0,_=>⟨[],rfl,fun i y h=>by cases h⟩
  | n+1,h=>by
    obtain⟨l,hl,hQ⟩:=exlist n fun i hi=>h i (by omega);obtain⟨y,hy⟩:=h n (by omega);refine⟨l++[y],by simp[hl],fun i z hz=>?_⟩;rw[List.getElem?_append] at hz;split at hz
    ·exact hQ i z hz
    ·have hi:i=n:=by
       have:=(A0w.1 hz).1;simp at this;omega
     subst hi;rw[hl] at hz;simp at hz;subst hz;exact hy
def Tot:WP->Nat
  | []=>0
  | x::xs=>x.length+1+Tot xs
section
variable {H:Type}{enc:TypeId×Value->H}{P:Program}{w:World}{held:Bool}
def Fam:List (DataW H)->WP->Prop
  | [],[]=>True
  | d::ds,x::xs=>(x=[]∨∃ zs:List Int,d=.slice (lits .u8 (zs.take x.length)) (lits .u8 (zs.drop x.length))/\x.length<=zs.length)/\Fam ds xs
  | _,_=>False
end
section
variable {ops:Array Oper}{Ls:A01}
def X0 (ops:Array Oper)(m i:Nat):Bool:=!m.testBit i&&((ops[i]?).map (·.after.all fun e=>!Region.binds .any e||m.testBit e.on)).getD false
def freeN (ops:Array Oper)(m i:Nat):Bool :=
  match ops[i]? with
  | none=>false
  | some oi=>(List.range ops.size).all fun j=>j == i||m.testBit j||match ops[j]? with
      | some oj=>oj.after.any (fun e=>Region.binds .any e&&e.on == i)||oi.apart ops oj
      | none=>true
def aheadN (ops:Array Oper)(Ls:A01)(m i:Nat):Nat:=(Ls.filter fun j=>decide (j < ops.size)&&!m.testBit j&&!Iu ops m.testBit j i).length
def VX (ops:Array Oper)(Ls:A01):MT->Nat->Nat->Bool
  | .nil,_,m=>(List.range ops.size).all fun i=>!X0 ops m i
  | .q i k π,p,m=>decide (i < ops.size)&&X0 ops m i&&freeN ops m i&&!Ls.contains i&&decide (p+aheadN ops Ls m i<=k)&&VX ops Ls π p (m|||2 ^ i)
  | .op i π,p,m=>((List.range ops.size).filter fun j=>X0 ops m j) == [i]&&VX ops Ls π (nx Ls p i) (m|||2 ^ i)
  | .br i j ri rj,p,m=>((List.range ops.size).filter fun j=>X0 ops m j) == [i,j]&&rj.depth == ri.depth&&VX ops Ls ri (nx Ls p i) (m|||2 ^ i)&&VX ops Ls rj (nx Ls p j) (m|||2 ^ j)
def Rel (ops:Array Oper)(listed:Array Bool)(m:Nat):Prop:=listed.size=ops.size/\∀ j,listed.getD j false=m.testBit j
theorem Rel.lt {listed:Array Bool}{m:Nat}(h:Rel ops listed m){j:Nat}(hj:j < ops.size):listed.getD j true=m.testBit j:=by
  rw[<- h.2 j,Array.getD_eq_getD_getElem?,Array.getD_eq_getD_getElem?,Array.getElem?_eq_getElem (by rw[h.1];exact hj)];rfl
theorem Rel.ge {listed:Array Bool}{m:Nat}(h:Rel ops listed m){j:Nat}(hj:¬ j < ops.size):listed.getD j true=true:=by
  rw[Array.getD_eq_getD_getElem?,Array.getElem?_eq_none (by rw[h.1];omega)];rfl
theorem Rel.ready {listed:Array Bool}{m:Nat}(h:Rel ops listed m):Region.ready .any ops listed=(List.range ops.size).filter fun j=>X0 ops m j:=by
  unfold Region.ready;refine List.filter_congr fun i hi=>?_;rw[List.mem_range] at hi;unfold X0;rw[h.lt hi];simp only[h.2]
theorem Rel.free {listed:Array Bool}{m i:Nat}(h:Rel ops listed m):Region.free .any ops listed i=freeN ops m i:=by
  unfold Region.free freeN;cases ho:ops[i]? with
  | none=>rfl
  | some oi =>
    simp only[];rw[Bool.eq_iff_iff,List.all_eq_true,List.all_eq_true];refine⟨fun hq j hj=>?_,fun hq j hj=>?_⟩
    ·have:=hq j hj;rw[h.lt (List.mem_range.1 hj)] at this;exact this
    ·have:=hq j hj;rw[h.lt (List.mem_range.1 hj)];exact this
theorem Rel.ahd {listed:Array Bool}{m i:Nat}(h:Rel ops listed m):ahead ops Ls listed i=aheadN ops Ls m i:=by
  unfold ahead aheadN;congr 1;refine List.filter_congr fun j _=>?_;have hf:(fun x=>listed.getD x false)=m.testBit:=funext h.2;rw[hf];by_cases hj:j < ops.size
  ·rw[h.lt hj,A0p hj];rfl
  ·rw[h.ge hj,A0q hj];rfl
theorem Rel.step {listed:Array Bool}{m i:Nat}(h:Rel ops listed m)(hi:i < ops.size):Rel ops (listed.setIfInBounds i true) (m|||2 ^ i):=by
  refine⟨by simpa using h.1,fun j=>?_⟩;rw[Nat.testBit_or,Nat.testBit_two_pow];by_cases hij:i=j
  ·subst hij;rw[Array.getD_eq_getD_getElem?,Array.getElem?_setIfInBounds_self_of_lt (by rw[h.1];exact hi)];simp
  ·rw[<- h.2 j,Array.getD_eq_getD_getElem?,Array.getElem?_setIfInBounds_ne hij,<-Array.getD_eq_getD_getElem?];simp[hij]
theorem Ux:∀ (π:MT) (p m:Nat) (listed:Array Bool),Rel ops listed m->VX ops Ls π p m=true->KT ops Ls π p listed=true
  | .nil,p,m,listed,h,hq=>by
    simp only[KT,h.ready,List.isEmpty_iff,List.filter_eq_nil_iff];simp only[VX,List.all_eq_true,Bool.not_eq_true'] at hq;intro a ha;rw[hq a ha];exact Bool.false_ne_true
  | .q i k π,p,m,listed,h,hq=>by
    simp only[VX,A0k,lm,Bool.not_eq_true'] at hq;obtain⟨⟨⟨⟨⟨h1,h2⟩,h3⟩,h4⟩,h5⟩,h6⟩:=hq;simp only[KT,A0k,lm,Bool.not_eq_true'];refine⟨⟨⟨⟨?_,by rw[h.free];exact h3⟩,h4⟩,by rw[h.ahd];exact h5⟩,Ux π p _ _ (h.step h1) h6⟩;rw[h.ready,List.contains_iff_mem,List.mem_filter];exact⟨List.mem_range.2 h1,h2⟩
  | .op i π,p,m,listed,h,hq=>by
    simp only[VX,A0k] at hq;simp only[KT,A0k];have hi:i < ops.size:=by
      have:i ∈ (List.range ops.size).filter fun j=>X0 ops m j:=by rw[beq_iff_eq.1 hq.1];exact A0d.2 rfl
      exact List.mem_range.1 (List.mem_filter.1 this).1
    exact⟨by rw[h.ready];exact hq.1,Ux π _ _ _ (h.step hi) hq.2⟩
  | .br i j ri rj,p,m,listed,h,hq=>by
    simp only[VX,A0k] at hq;obtain⟨⟨⟨h1,h2⟩,h3⟩,h4⟩:=hq;simp only[KT,A0k];have hi:i < ops.size:=by
      have:i ∈ (List.range ops.size).filter fun j=>X0 ops m j:=by rw[beq_iff_eq.1 h1];simp
      exact List.mem_range.1 (List.mem_filter.1 this).1
    have hj:j < ops.size:=by
      have:j ∈ (List.range ops.size).filter fun j=>X0 ops m j:=by rw[beq_iff_eq.1 h1];simp
      exact List.mem_range.1 (List.mem_filter.1 this).1
    exact⟨⟨⟨by rw[h.ready];exact h1,h2⟩,Ux ri _ _ _ (h.step hi) h3⟩,Ux rj _ _ _ (h.step hj) h4⟩
end
theorem W_mN {P:Program}{n:Nat}{Q:Exit->Act->World->Prop}{L:St}{w w0:World}{F O:Nat->Prop}{hs:List HP}{id:Nat}{l:List Oper}{C:List (World->Prop)}(hm:P.follows .mixedOrders=true)(π:MT)(Ls:A01)(k:Cx F O w0 (w.drewN 1) hs)(ch:Chain F O w0 hs C)
    (hB:(Region.noSelect l.toArray,VX l.toArray Ls π 0 0,π.depth == l.length)=(true,true,true)) (h:∀ listed,MX P n l.toArray Ls C (Q .normal) π 0 listed (Kn L) (w.drewN 1)) :
    W P n (.region id l.toArray true) Q L w:=by
  simp only[Prod.mk.injEq] at hB;refine W_m hm π Ls k ch ?_ h;rw[hB.1,hB.2.2,Ux π 0 0 (Array.replicate l.length false) ⟨by simp,fun j=>?_⟩ hB.2.1];rw[Array.getD_eq_getD_getElem?,Nat.zero_testBit];by_cases hj:j < l.length
  ·simp[hj]
  ·simp[hj]
end
section
open Go.RowKit Go.MapKept
set_option linter.unusedSimpArgs false
set_option linter.unusedVariables false
def kV (k:AC):Value:=.string ⟨⟨k⟩⟩
theorem LK {a b:AC}(h:kV a=kV b):a=b:=by
  unfold kV at h;simp only[Value.string.injEq,ByteArray.mk.injEq,Array.mk.injEq] at h;exact h
def Mb (b:Nat)(ks:WP)(vs:List Value):HP where
  p w S R:=ks.length=vs.length/\(∃ (es:Array MapEntry) (clock:Nat),w.heap[b]?=some (.map es clock)/\es.toList.map (·.key)=ks.map kV/\es.toList.map (·.val)=vs/\Stamped es clock)/\S b
  loc:=by
    rintro w w' S R ⟨h0,⟨es,clock,h1,h2⟩,h3⟩ hk;exact⟨h0,⟨es,clock,by rw[hk b (.inl h3)];exact h1,h2⟩,h3⟩
def Cj (ks:WP)(k:AC):A03:=match ks with
  | []=>none
  | x::r=>if x=k then some 0 else(Cj r k).map (·+1)
theorem J5 {ks:WP}{k:AC}:Cj ks k=none ↔ k ∉ ks:=by
  induction ks with
  | nil=>simp[Cj]
  | cons x r ih =>
    unfold Cj;by_cases h:x=k
    ·subst h;simp
    ·rw[if_neg h];simp only[Option.map_eq_none_iff,ih,ut,not_or];exact⟨fun hr=>⟨fun e=>h e.symm,hr⟩,fun hr=>hr.2⟩
theorem Uy {ks:WP}{k:AC}{j:Nat}(h:Cj ks k=some j):ks[j]?=some k:=by
  induction ks generalizing j with
  | nil=>cases h
  | cons x r ih =>
    unfold Cj at h;by_cases hx:x=k
    ·rw[if_pos hx] at h;obtain rfl:=Option.some.inj h;simp[hx]
    ·rw[if_neg hx,A0c] at h;obtain⟨i,hi,rfl⟩:=h;simpa using ih hi
theorem PT {d:TypeDesc}(hd:d=.string){es:Array MapEntry}{ks:WP}{k:AC}(hk:es.toList.map (·.key)=ks.map kV)(hn:(es.toList.map (·.key)).Nodup) :
    (Cj ks k=none/\Instr.findNow d (kV k) es.toList 0=some none)∨∃ j e,Cj ks k=some j/\Instr.findNow d (kV k) es.toList 0=some (some (j,e.val))/\es.toList[j]?=some e/\e.key=kV k:=by
  subst hd;have hkey:∀ x ∈ es.toList,IsKey .string x.key:=fun x hx=>by
    have:x.key ∈ es.toList.map (·.key):=ww.2 ⟨x,hx,rfl⟩;rw[hk] at this;obtain⟨q,_,hq⟩:=ww.1 this;rw[<- hq];exact trivial
  rcases findNow_spec (d:=.string) (k:=kV k) trivial es.toList 0 hkey with⟨h1,h2⟩ | ⟨j,e,h1,h2,h3⟩
  ·refine .inl ⟨J5.2 fun hm=>?_,h1⟩;have:kV k ∈ es.toList.map (·.key):=by rw[hk];exact ww.2 ⟨k,hm,rfl⟩
   obtain⟨x,hx,hxe⟩:=ww.1 this;exact h2 x hx hxe
  ·rw[Nat.zero_add] at h1;have hj:(ks.map kV)[j]?=some (kV k):=by rw[<- hk,List.getElem?_map,h2];simp[h3]
   have hkj:ks[j]?=some k:=by
     rw[List.getElem?_map,A0c] at hj;obtain⟨q,hq,hqe⟩:=hj;rw[hq,LK hqe]
   cases hf:Cj ks k with
   | none=>exact absurd (List.mem_of_getElem? hkj) (J5.1 hf)
   | some i =>
     have hi:=Uy hf;have hnd:ks.Nodup:=by
       rw[hk,List.Nodup,List.pairwise_map] at hn;exact hn.imp fun hne e=>hne (by rw[e])
     have:i=j:=by
       have h4:=(A0w.1 hi).1;exact(List.getElem?_inj h4 hnd).1 (by rw[hi,hkj])
     subst this;exact .inr ⟨i,e,rfl,h1,h2,h3⟩
section
variable {P:Program}{n:Nat}{ops:Array Oper}{L:St}{w w0:World}{F O:Nat->Prop}{hs:List HP}{K:St->World->Prop}
theorem Ba {dst:A03}{t ty:TypeId}{pos:String}{jf:Array Edge}{g:UV}(ss:A01)(d:Nat)
    (hside:(y7 ops ss L ⟨dst,.makeMap t none,ty,pos,jf,g⟩,dst,(decide (d < n)),(L.any fun p=>p.1 == d))=(true,some d,true,false))
    (k:Cx F O w0 w hs) (hk:∀ b w',Cx F O w0 w' (hs++[Mb b [] []])->K ((d,.v (.map (some b)))::L) w') :
    yE P n ops L w ⟨dst,.makeMap t none,ty,pos,jf,g⟩ K:=by
  simp only[Prod.mk.injEq,lm] at hside;obtain⟨s1,rfl,s3,s4⟩:=hside;refine zu (xs:=[]) (svs:=[]) ss (d:=d) (by simp[Side,s1,s3,s4,toSS]) fun a ha he=>?_;have hrun:(Instr.makeMap t none).run P w=.ok (.map (some w.heap.size)) (w.alloc (.map #[] 0)):=rfl;unfold Oper.wp execOp;simp only[Option.map_none,Sem.run_bind,hrun,Result.andThen_ok,Sem.run_pure];refine⟨.v (.map (some w.heap.size)),rfl,hk w.heap.size _ (k.new _ (Mb w.heap.size [] []) ⟨rfl,⟨#[],0,?_,rfl,rfl,stamped_empty 0⟩,rfl⟩)⟩;exact(heap_alloc w _).1
theorem Jj {w:World}{b:Nat}{es es':Array MapEntry}{clock clock':Nat}(hb:w.heap[b]?=some (.map es clock)):w.grownBy { w with heap:=w.heap.setIfInBounds b (.map es' clock') } (some b)/\({ w with heap:=w.heap.setIfInBounds b (.map es' clock') }:World).heap.size=w.heap.size/\({ w with heap:=w.heap.setIfInBounds b (.map es' clock') }:World).heap[b]?=some (.map es' clock'):=by
  refine⟨⟨rfl,rfl,rfl,by simp,fun k hk hne=>?_⟩,by simp,(heap_set hb).1⟩;exact(heap_set hb).2 k fun e=>hne (by rw[e])
def LM (ks:WP)(k:AC):WP:=match Cj ks k with | some _=>ks | none=>ks++[k]
def LP {β:Type}(ks:WP)(vs:List β)(k:AC)(v:β):List β:=match Cj ks k with | some j=>vs.set j v | none=>vs++[v]
theorem Op_upd {t kt e ty:TypeId}{m y x:Operand}{pos:String}{jf:Array Edge}{g:UV}(ss:A01)(i:Nat){b:Nat}{key:AC}{ks:WP}{vs:List Value}(v:Value)
    (hside:(y7 ops ss L (⟨none,.mapUpdate t m y x,ty,pos,jf,g⟩:Oper),(toSS [m,y,x] (lk L)).map SV.vals,P.underlying t,P.underlying kt)=(true,some [.map (some b),kV key,v],some (.map kt e),some .string))
    (k:Cx F O w0 w hs) (hi:hs[i]?=some (Mb b ks vs)) (hk:∀ w',Cx F O w0 w' (hs.set i (Mb b (LM ks key) (LP ks vs key v)))->K L w') :
    yE P n ops L w ⟨none,.mapUpdate t m y x,ty,pos,jf,g⟩ K:=by
  simp only[Prod.mk.injEq,A0c] at hside;obtain⟨s1,⟨svs,s5,s6⟩,s7,s8⟩:=hside;refine XQ (xs:=[m,y,x]) (svs:=svs) ss (by simp[s1,s5]) fun a ha he=>?_;rw[s6] at he;simp only[kw,List.map_nil,List.cons.injEq,and_true] at he;obtain⟨S,R,hl,⟨es,clock,m1,m2,m3,m4⟩,hS⟩:=k.get i hi;have hck:=run_checkKey (P:=P) (w:=w) s8 (show IsKey .string (kV key) from trivial) false 9999;rcases PT (d:=.string) rfl (k:=key) m2 m4.2.2 with⟨f1,f2⟩ | ⟨j,en,f1,f2,f3,f4⟩
  ·obtain⟨g1,g2,g3⟩:=Jj (es':=es.push { key:=kV key,val:=v,born:=clock }) (clock':=clock+1) m1;have hrun:(Instr.mapUpdate t (.map (some b)) (kV key) v).run P w=.ok () { w with heap:=w.heap.setIfInBounds b (.map (es.push { key:=kV key,val:=v,born:=clock }) (clock+1)) }:=by
     unfold Instr.mapUpdate;simp only[Sem.run_bind,run_underlying s7,Result.andThen_ok,MapKept.run_getObj_map m1,Sem.run_pure,hck,run_findKey s8 f2,MapKept.run_setObj_map _ m1]
   unfold Oper.wp execOp;simp only[he.1,he.2.1,he.2.2,Sem.run_bind,hrun,Result.andThen_ok,Sem.run_pure];refine⟨rfl,hk _ (k.Ul i hi (some b) g1 fun S R hS hlt=>?_)⟩;obtain⟨hl,⟨es1,c1,q1,q2,q3,q4⟩,hS⟩:=hS;rw[m1] at q1;simp only[Option.some.injEq,Obj.map.injEq] at q1;obtain⟨rfl,rfl⟩:=q1;have hnk:∀ x ∈ es.toList,x.key≠kV key:=fun x hx hxe=>by
     have:kV key ∈ es.toList.map (·.key):=ww.2 ⟨x,hx,hxe⟩;rw[q2] at this;obtain⟨q,hq,hqe⟩:=ww.1 this;exact J5.1 f1 (LK hqe▸hq)
   refine⟨fun g' hg=>(by simp only[Option.some.injEq] at hg;subst hg;exact hS),S,fun _=>False,⟨?_,⟨_,_,g3,?_,?_,stamped_push q4 hnk⟩,hS⟩,fun b' hb'=>⟨by rw[g2];exact hlt b' hb',.inl hb'⟩,fun _ h=>h⟩
   ·unfold LM LP;rw[f1];simp[hl]
   ·unfold LM;rw[f1];simp[q2]
   ·unfold LP;rw[f1];simp[q3]
  ·obtain⟨g1,g2,g3⟩:=Jj (es':=es.modify j fun e=>{ e with key:=kV key,val:=v }) (clock':=clock) m1;have hst:(Instr.keyThatStays (((es[j]?).map (·.key)).getD (kV key)) (kV key)).run P w=.ok (kV key) w:=by
     have e1:es[j]?=some en:=by rw[<- Array.getElem?_toList];exact f3
     rw[e1];simp only[Option.map_some,Option.getD_some,f4];exact MapKept.run_keyThatStays (d:=.string) (k:=kV key) trivial
   have hrun:(Instr.mapUpdate t (.map (some b)) (kV key) v).run P w=.ok () { w with heap:=w.heap.setIfInBounds b (.map (es.modify j fun e=>{ e with key:=kV key,val:=v }) clock) }:=by
     unfold Instr.mapUpdate;simp only[Sem.run_bind,run_underlying s7,Result.andThen_ok,MapKept.run_getObj_map m1,Sem.run_pure,hck,run_findKey s8 f2,hst,MapKept.run_setObj_map _ m1]
   unfold Oper.wp execOp;simp only[he.1,he.2.1,he.2.2,Sem.run_bind,hrun,Result.andThen_ok,Sem.run_pure];refine⟨rfl,hk _ (k.Ul i hi (some b) g1 fun S R hS hlt=>?_)⟩;obtain⟨hl,⟨es1,c1,q1,q2,q3,q4⟩,hS⟩:=hS;rw[m1] at q1;simp only[Option.some.injEq,Obj.map.injEq] at q1;obtain⟨rfl,rfl⟩:=q1;have hkey:∀ e ∈ es.toList,es[j]?=some e->({ e with key:=kV key,val:=v }:MapEntry).key=e.key:=fun e _ he=>by
     rw[<- Array.getElem?_toList,f3] at he;obtain rfl:=Option.some.inj he;exact f4.symm
   refine⟨fun g' hg=>(by simp only[Option.some.injEq] at hg;subst hg;exact hS),S,fun _=>False,⟨?_,⟨_,_,g3,?_,?_,stamped_modify q4 j _ (fun _ _=>rfl) hkey⟩,hS⟩,fun b' hb'=>⟨by rw[g2];exact hlt b' hb',.inl hb'⟩,fun _ h=>h⟩
   ·unfold LM LP;rw[f1];simp[hl]
   ·unfold LM;rw[f1];rw[modify_keys j _ (fun e he=>hkey e (by rw[<- Array.getElem?_toList] at he;exact List.mem_of_getElem? he) he),q2]
   ·unfold LP;rw[f1];simp only;rw[<- q3,Array.toList_modify];apply List.ext_getElem?;intro q;simp only[List.getElem?_map,List.getElem?_modify,List.getElem?_set,A0a];by_cases hqj:j=q
    ·subst hqj;have h5:j < es.size:=by simpa using (A0w.1 f3).1
     simp[h5]
    ·simp[hqj]
theorem uw {β γ:Type}(f:β->γ):∀ (l:List β) (i:Nat),(l.eraseIdx i).map f=(l.map f).eraseIdx i
  | [],_=>rfl
  | _::_,0=>rfl
  | x::l,i+1=>by simp[uw f l i]
def Cm (ks:WP)(k:AC):WP:=match Cj ks k with | some j=>ks.eraseIdx j | none=>ks
def CB {β:Type}(ks:WP)(vs:List β)(k:AC):List β:=match Cj ks k with | some j=>vs.eraseIdx j | none=>vs
theorem Op_del {x y:Operand}{t t2 kt e ty:TypeId}{pos:String}{jf:Array Edge}{g:UV}(ss:A01)(i:Nat){b:Nat}{key:AC}{ks:WP}{vs:List Value}
    (hside:(y7 ops ss L (⟨none,.call ⟨.builtin .delete,#[x,y],#[t,t2]⟩,ty,pos,jf,g⟩:Oper),(toSS [x,y] (lk L)).map SV.vals,P.underlying t,P.underlying kt)=(true,some [.map (some b),kV key],some (.map kt e),some .string))
    (k:Cx F O w0 w hs) (hi:hs[i]?=some (Mb b ks vs)) (hk:∀ w',Cx F O w0 w' (hs.set i (Mb b (Cm ks key) (CB ks vs key)))->K L w') :
    yE P n ops L w ⟨none,.call ⟨.builtin .delete,#[x,y],#[t,t2]⟩,ty,pos,jf,g⟩ K:=by
  simp only[Prod.mk.injEq,A0c] at hside;obtain⟨s1,⟨svs,s5,s6⟩,s7,s8⟩:=hside;refine XQ (xs:=[x,y]) (svs:=svs) ss (by simp[s1,s5]) fun a ha he=>?_;rw[s6] at he;simp only[kw,List.map_nil,List.cons.injEq,and_true] at he;obtain⟨S,R,hl,⟨es,clock,m1,m2,m3,m4⟩,hS⟩:=k.get i hi;have hck:=run_checkKey (P:=P) (w:=w) s8 (show IsKey .string (kV key) from trivial) es.isEmpty 9999;rcases PT (d:=.string) rfl (k:=key) m2 m4.2.2 with⟨f1,f2⟩ | ⟨j,en,f1,f2,f3,f4⟩
  ·obtain⟨g1,g2,g3⟩:=Jj (es':=es) (clock':=clock) m1;have hrun:(Builtin.delete_ #[t,t2] ty #[.map (some b),kV key]).run P w=.ok (.tuple #[]) { w with heap:=w.heap.setIfInBounds b (.map es clock) }:=by
     unfold Builtin.delete_;simp[Sem.run_bind,run_underlying s7,Result.andThen_ok,MapKept.run_getObj_map m1,hck,run_findKey s8 f2,MapKept.run_setObj_map _ m1,Result.andThen]
   unfold Oper.wp execOp;simp only[resolve,invoke,builtin,Sem.run_bind,Sem.run_pure,Result.andThen_ok,List.map_toArray,kw,List.map_nil,he.1,he.2,hrun];refine⟨rfl,hk _ (k.Ul i hi (some b) g1 fun S R hS hlt=>?_)⟩;obtain⟨hl,⟨es1,c1,q1,q2,q3,q4⟩,hS⟩:=hS;rw[m1] at q1;simp only[Option.some.injEq,Obj.map.injEq] at q1;obtain⟨rfl,rfl⟩:=q1;refine⟨fun g' hg=>(by simp only[Option.some.injEq] at hg;subst hg;exact hS),S,fun _=>False,⟨?_,⟨_,_,g3,?_,?_,q4⟩,hS⟩,fun b' hb'=>⟨by rw[g2];exact hlt b' hb',.inl hb'⟩,fun _ h=>h⟩
   ·unfold Cm CB;rw[f1];exact hl
   ·unfold Cm;rw[f1];exact q2
   ·unfold CB;rw[f1];exact q3
  ·obtain⟨g1,g2,g3⟩:=Jj (es':=es.eraseIdxIfInBounds j) (clock':=clock) m1;have hrun:(Builtin.delete_ #[t,t2] ty #[.map (some b),kV key]).run P w=.ok (.tuple #[]) { w with heap:=w.heap.setIfInBounds b (.map (es.eraseIdxIfInBounds j) clock) }:=by
     unfold Builtin.delete_;simp[Sem.run_bind,run_underlying s7,Result.andThen_ok,MapKept.run_getObj_map m1,hck,run_findKey s8 f2,MapKept.run_setObj_map _ m1,Result.andThen]
   unfold Oper.wp execOp;simp only[resolve,invoke,builtin,Sem.run_bind,Sem.run_pure,Result.andThen_ok,List.map_toArray,kw,List.map_nil,he.1,he.2,hrun];refine⟨rfl,hk _ (k.Ul i hi (some b) g1 fun S R hS hlt=>?_)⟩;obtain⟨hl,⟨es1,c1,q1,q2,q3,q4⟩,hS⟩:=hS;rw[m1] at q1;simp only[Option.some.injEq,Obj.map.injEq] at q1;obtain⟨rfl,rfl⟩:=q1;have hj:j < es.size:=by simpa using (A0w.1 f3).1
   have htl:(es.eraseIdxIfInBounds j).toList=es.toList.eraseIdx j:=by
     unfold Array.eraseIdxIfInBounds;rw[dif_pos hj,Array.toList_eraseIdx]
   refine⟨fun g' hg=>(by simp only[Option.some.injEq] at hg;subst hg;exact hS),S,fun _=>False,⟨?_,⟨_,_,g3,?_,?_,stamped_erase q4 j⟩,hS⟩,fun b' hb'=>⟨by rw[g2];exact hlt b' hb',.inl hb'⟩,fun _ h=>h⟩
   ·unfold Cm CB;rw[f1];simp only[List.length_eraseIdx,hl]
   ·unfold Cm;rw[f1,htl,uw,q2,uw]
   ·unfold CB;rw[f1,htl,uw,q3]
end
end
section
variable {α β γ δ:Type}
def RH (F:Nat->Prop)(w:World)(E:Enc α)(h:Hd)(x:List α):Prop:=h.2.1=x.length/\x.length<=h.2.2/\Ro F w h.1 (E.all x)
def RQ (y x:α):Prop:=y=x
def RP (r:α->β->Prop)(q:γ->δ->Prop)(y:α×γ)(x:β×δ):Prop:=r y.1 x.1/\q y.2 x.2
structure Nq (F:Nat->Prop)(w:World)(E:Enc γ)(r:γ->δ->Prop)(A:Option Addr)(ys:List γ)(xs:List δ):Prop where
  ro:Ro F w A (E.all ys)
  len:ys.length=xs.length
  el:∀ (j:Nat) (y:γ) (x:δ),ys[j]?=some y->xs[j]?=some x->r y x
section
variable {F O F1 O1:Nat->Prop}{w0 w w':World}{hs:List HP}
theorem Nq.at {E:Enc γ}{r:γ->δ->Prop}{A:EQ}{ys:List γ}{xs:List δ}(h:Nq F w E r A ys xs){j:Int}{x:δ}(hx:aW xs j=some x):∃ y,aW ys j=some y/\r y x:=by
  obtain⟨h0,h1⟩:=aS hx;have hlt:=(A0w.1 h1).1;have hh:ys[j.toNat]?=some (ys[j.toNat]'(h.len▸hlt)):=A0l _;refine⟨ys[j.toNat]'(h.len▸hlt),?_,h.el _ _ _ hh h1⟩;unfold aW;rw[if_pos h0,hh]
theorem Nq.mono {E:Enc γ}{r r':γ->δ->Prop}{A:EQ}{ys:List γ}{xs:List δ}(h:Nq F w E r A ys xs)(hro:Ro F w A (E.all ys)->Ro F1 w' A (E.all ys))(hr:∀ y x,r y x->r' y x):Nq F1 w' E r' A ys xs :=
  ⟨hro h.ro,h.len,fun j y x h1 h2=>hr y x (h.el j y x h1 h2)⟩
theorem RH.old {E:Enc α}{h:Hd}{x:List α}(q:RH F w0 E h x)(k:Cx F O w0 w hs)(hF:∀ b,F1 b->F b∨w0.heap.size<=b):RH F1 w E h x:=⟨q.1,q.2.1,Ro.yu q.2.2 k hF⟩
theorem RH.cx {E:Enc α}{h:Hd}{x:List α}(q:RH F w0 E h x)(k:Cx F O w0 w hs):RH N0 w E h x:=q.old k fun _ h=>h.elim
theorem Nq.nil {E:Enc γ}{r:γ->δ->Prop}:Nq F w E r Option.none [] []:=⟨Ro.VW E,rfl,fun _ _ _ h=>by cases h⟩
end
def hV (h:Hd):Value:=.slice h.1 h.2.1 h.2.2
section
variable {F O:Nat->Prop}{w0 w:World}{hs rest:List HP}{E:Enc α}{b:Nat}{ks:WP}{hd:List Hd}{sD:List (List α)}
end
section
variable {P:Program}{n:Nat}{ops:Array Oper}{L:St}{w w0:World}{F O:Nat->Prop}{hs rest:List HP}{K:St->World->Prop}{E:Enc α}
end
end
section
open Go.RowKit Go.MapKept
set_option linter.unusedSimpArgs false
set_option linter.unusedVariables false
variable {α:Type}
theorem left_perm {es:Array MapEntry}{seen:Array Nat}{e:MapEntry}(hn:(es.toList.map (·.born)).Nodup)(he:e ∈ (leftOf es seen).toList):(leftOf es seen).toList.Perm (e::(leftOf es (seen.push e.born)).toList):=by
  obtain⟨h1,h2⟩:=mem_left he;unfold leftOf;rw[Array.toList_filter,Array.toList_filter];generalize es.toList=l at *
  induction l with
  | nil=>cases h1
  | cons x l ih =>
    simp only[kw,List.nodup_cons] at hn;by_cases hx:x.born=e.born
    ·have hxe:x=e:=by
       rcases ut.1 h1 with rfl | h
       ·rfl
       ·exact absurd (ww.2 ⟨e,h,hx.symm⟩) hn.1
     subst hxe;rw[List.filter_cons,if_pos (by rw[h2];rfl),List.filter_cons,if_neg (by rw[contains_push];simp)];refine .cons _ (.of_eq ?_);apply List.filter_congr;intro y hy;rw[contains_push];have:(y.born == x.born)=false:=by
       cases hc:y.born == x.born with
       | false=>rfl
       | true=>exact absurd (ww.2 ⟨y,hy,beq_iff_eq.1 hc⟩) hn.1
     rw[this,Bool.or_false]
    ·have hel:e ∈ l:=by
       rcases ut.1 h1 with rfl | h
       ·exact absurd rfl hx
       ·exact h
     have hxe:(x.born == e.born)=false:=by simpa using hx
     have hc2:(seen.push e.born).contains x.born=seen.contains x.born:=by rw[contains_push,hxe,Bool.or_false]
     have ih':=ih hn.2 hel;rw[List.filter_cons,List.filter_cons,hc2];split
     ·exact(List.Perm.cons _ ih').trans (.swap _ _ _)
     ·exact ih'
section
variable {P:Program}{n:Nat}{ops:Array Oper}{L:St}{w w0:World}{F O:Nat->Prop}{hs rest:List HP}{K:St->World->Prop}
theorem key_of {es:Array MapEntry}{ks:WP}(h:es.toList.map (·.key)=ks.map kV){e:MapEntry}(he:e ∈ es.toList):∃ k ∈ ks,e.key=kV k:=by
  have:e.key ∈ es.toList.map (·.key):=ww.2 ⟨e,he,rfl⟩;rw[h] at this;obtain⟨k,hk,hke⟩:=ww.1 this;exact⟨k,hk,hke.symm⟩
theorem Cx.weak {h h':HP}(k:Cx F O w0 w hs)(i:Nat)(hi:hs[i]?=some h)(hp:∀ w S R,h.p w S R->h'.p w S R):Cx F O w0 w (hs.set i h') :=
  k.upd i hi Option.none ⟨rfl,rfl,rfl,Nat.le_refl _,fun _ _ _=>rfl⟩ fun S R h1 h2 h3=>⟨fun g hg=>(by cases hg),S,R,hp _ _ _ h1,fun b hb=>⟨h3 b (.inl hb),h2 b hb,.inl hb⟩,fun b hb=>⟨h3 b (.inr hb),.inl hb⟩⟩
variable {E:Enc α}{b r:Nat}{ks left:WP}{hd:List Hd}{sD:List (List α)}
end
section
variable {P:Program}{n:Nat}{Q:Exit->Act->World->Prop}{L L':St}{w:World}
open Classical in
theorem Q9 {c:Code}(J:Nat->St->World->Prop)(k0:Nat)(h0:J k0 L' w)(hk:L'.map (fun p=>(find L p.1).map SV.val)=L'.map (fun p=>some p.2.val))
    (hb:∀ k L w,J k L w->W P n c (Exit.then (fun a w=>∃ k' L',k' < k/\Fu n a (Kn L')/\J k' L' w) Q) L w):W P n (.loop c) Q L w:=by
  refine Zi L' hk fun a0 ha0=>?_
  let I:Nat->Act->World->Prop:=fun k a w=>∃ L,Fu n a (Kn L)/\J k L w
  let μ:Act->World->Nat:=fun a w=>if h:∃ k,I k a w then Classical.choose (least h) else 0
  refine wp_loop (fun a w=>∃ k,I k a w) μ ⟨k0,L',ha0,h0⟩ ?_;intro a w hI;have hμ:μ a w=Classical.choose (least hI):=dif_pos hI;obtain⟨L1,hf,hJ⟩:=(Classical.choose_spec (least hI)).1;rw[<- hμ] at hJ;refine wp_mono (hb _ L1 w hJ a hf) ?_;intro e a' w' hq;cases e with
  | normal =>
    obtain⟨k',L2,hlt,hf2,hJ2⟩:=hq;have hE:∃ k,I k a' w':=⟨k',L2,hf2,hJ2⟩
    refine⟨hE,?_⟩;have h1:μ a' w'=Classical.choose (least hE):=dif_pos hE;have h2:Classical.choose (least hE)<=k':=(Classical.choose_spec (least hE)).2 k' ⟨L2,hf2,hJ2⟩;omega
  | _=>exact hq
theorem Iw {J:Nat->St->World->Prop}{k:Nat}(k':Nat)(hlt:k' < k)(h:J k' L' w)(hk:L'.map (fun p=>(find L p.1).map SV.val)=L'.map (fun p=>some p.2.val)):At n (Exit.then (fun a w=>∃ k' L',k' < k/\Fu n a (Kn L')/\J k' L' w) Q .normal) L w :=
  Ji L' hk fun _ ha=>⟨k',L',hlt,ha,h⟩
end
noncomputable def Di (l:WP):WP:=l.mergeSort fun x y=>decide (x<=y)
theorem PU {l l':WP}(h:l.Perm l'):Di l=Di l':=by
  have:=mergeSort_of_perm h;exact this
theorem srt_length (l:WP):(Di l).length=l.length:=by simp[Di]
theorem eS_all (l:WP):eS.all l=l.map Go.Proofs.encStr:=by
  induction l with
  | nil=>rfl
  | cons x l ih=>show _::_=_::_;rw[show(eS.all l)=l.map Go.Proofs.encStr from ih];rfl
open Go.Sort Go.Proofs Go.Shelf in
theorem c_sort {P:Program}{ρ:Ren}(Ly:Lays.n190 P ρ){F O:Nat->Prop}{w0 w:World}{hs:List HP}{i:Nat}{A:EQ}{n c:Nat}{xs:WP}(k:Cx F O w0 w hs)(hi:hs[i]?=some (Ow eS A n c xs))(hsz:n < 4611686018427387904) :
    Calls P (ρ.f 190) #[.slice A n c] w (fun e w'=>e=.returned (.tuple #[])/\Cx F O w0 w' (hs.set i (Ow eS A n c (Di xs)))):=by
  obtain⟨S,R,hl,hh⟩:=k.get i hi;by_cases h0:n=0
  ·subst h0;have hx:xs=[]:=List.eq_nil_of_length_eq_zero hl;subst hx;refine(Any.slices_Sort_string_none Ly A c w).mono ?_;rintro e w' ⟨rfl,rfl⟩;refine⟨rfl,?_⟩;have:Di []=[]:=by simp[Di]
   rw[this];have e2:hs.set i (Ow eS A 0 c [])=hs:=by
     obtain⟨h1,h2⟩:=A0w.1 hi;rw[<- h2];exact List.set_getElem_self h1
   rw[e2];exact k
  ·rcases hh with⟨_,h1,_⟩ | ⟨g,t,cur,rfl,⟨fr,hb,hnf⟩,h3,h4,h5,h6,h7⟩
   ·exact absurd h1 h0
   ·subst hl;have hsz1:eS.sz=1:=rfl;rw[hsz1,Nat.mul_one] at h5 h6;rw[eS_all] at h6;have hH:Holds encStr w g 0 xs.toArray:=by
      intro j hj;have hj':j < xs.length:=by simpa using hj
      have hfz:w.frozen? ⟨g,0+j,none⟩=false:=by
        have:j < cur.size:=by omega
        simp only[World.frozen?,hb];rcases hnf with h | h
        ·simp;omega
        ·simp;omega
      refine⟨?_,hfz⟩;have h1:(cur.toList.take xs.length)[j]?=(xs.map encStr)[j]?:=by rw[h6]
      rw[List.getElem?_take_of_lt hj'] at h1;simp only[World.cell?,hb,Nat.zero_add];simp only[Option.isSome_none,A0z,if_false];rw[<- Array.getElem?_toList,h1];simp[hj']
    refine(Any.slices_Sort_string Ly g 0 c xs w hH (Array.getElem?_eq_some_iff.1 hb).1 hsz).mono ?_;rintro e w' ⟨rfl,m,os,rfl⟩;refine⟨rfl,?_⟩;refine k.Ul i hi (some g) (grownBy_sorted _) fun S R hS hlt=>?_;obtain⟨hl',hh'⟩:=hS;rcases hh' with⟨h1,_⟩ | ⟨g',t',cur',q1,⟨fr',q2,q3⟩,_,_,q4,_,q5⟩
    ·cases h1
    ·simp only[Option.some.injEq,Addr.mk.injEq,and_true] at q1;subst q1;rw[hb] at q2;simp only[Option.some.injEq,Obj.cells.injEq] at q2;obtain⟨rfl,rfl,rfl⟩:=q2;have hsl:(Di xs).length=xs.length:=srt_length xs;refine⟨fun q hq=>(by simp only[Option.some.injEq] at hq;subst hq;exact q5),S,fun _=>False,⟨hsl,.inr ⟨g,t,putCells encStr 0 (Di xs).toArray cur,rfl,⟨fr,heap_sorted _ hb,?_⟩,h3,h4,?_,?_,q5⟩⟩,fun q hq=>⟨?_,.inl hq⟩,fun _ h=>h⟩
     ·simpa [putCells] using hnf
     ·rw[hsz1,Nat.mul_one];simpa [putCells] using h5
     ·rw[hsz1,Nat.mul_one,eS_all,<-hsl];exact take_putCells cur (Di xs) (by omega)
     ·exact A0u (hlt q hq) (grownBy_sorted (w:=w) (g:=g) (n:=m) (os:=os) (Di xs).toArray).size
end
section
variable {α β γ δ ε ζ:Type}
structure Rl (γ δ:Type) where
  r:World->(Nat->Prop)->γ->δ->Prop
  loc:∀ w w' R y x,r w R y x->(∀ b,R b->w'.heap[b]?=w.heap[b]?)->r w' R y x
  mono:∀ w R R' y x,(∀ b,R b->R' b)->r w R y x->r w R' y x
def SQ:Rl α α:=⟨fun _ _ y x=>y=x,fun _ _ _ _ _ h _=>h,fun _ _ _ _ _ _ h=>h⟩
def SH (E:Enc α):Rl Hd (List α) where
  r w R h x:=h.2.1=x.length/\x.length<=h.2.2/\Rd w h.1 (E.all x)/\(E.all x≠[]->∀ a,h.1=some a->R a.block)
  loc:=by
    rintro w w' R y x ⟨h1,h2,h3,h4⟩ hk;refine⟨h1,h2,⟨h3.1,fun a j u ha hu=>?_⟩,h4⟩;have h5:=h3.2 a j u ha hu;have hne:E.all x≠[]:=fun e=>by rw[e] at hu;cases hu
    have h6:=hk (a.add j).block (by rw[uH];exact h4 hne a ha);rw[World.cell?_of_block h6];exact h5
  mono:=by
    rintro w R R' y x hR ⟨h1,h2,h3,h4⟩;exact⟨h1,h2,h3,fun hne a ha=>hR _ (h4 hne a ha)⟩
def SP (q:Rl α β)(p:Rl γ δ):Rl (α×γ) (β×δ) where
  r w R y x:=q.r w R y.1 x.1/\p.r w R y.2 x.2
  loc:=by rintro w w' R y x ⟨h1,h2⟩ hk;exact⟨q.loc _ _ _ _ _ h1 hk,p.loc _ _ _ _ _ h2 hk⟩
  mono:=by rintro w R R' y x hR ⟨h1,h2⟩;exact⟨q.mono _ _ _ _ _ hR h1,p.mono _ _ _ _ _ hR h2⟩
def Sh (q:Rl γ δ)(ys:List γ)(xs:List δ):HP where
  p w S R:=(∀ b,¬ S b)/\ys.length=xs.length/\∀ (j:Nat) (y:γ) (x:δ),ys[j]?=some y->xs[j]?=some x->q.r w R y x
  loc:=by
    rintro w w' S R ⟨h0,h1,h2⟩ hk;exact⟨h0,h1,fun j y x e1 e2=>q.loc _ _ _ _ _ (h2 j y x e1 e2) fun b hb=>hk b (.inr hb)⟩
def OG (E:Enc γ)(q:Rl γ δ)(A:EQ)(n c:Nat)(ys:List γ)(xs:List δ):HP:=Pk True [Ow E A n c ys,Sh q ys xs]
section
variable {F O:Nat->Prop}{w0 w w':World}{hs rest:List HP}
theorem Cx.merge {h1 h2 h3:HP}(k:Cx F O w0 w (h1::h2::rest))(hp:∀ w S1 R1 S2 R2,h1.p w S1 R1->h2.p w S2 R2->h3.p w (fun b=>S1 b∨S2 b) (fun b=>R1 b∨R2 b)):Cx F O w0 w (h3::rest):=by
  obtain⟨U,V,⟨S1,R1,U1,V1,e1,⟨S2,R2,U2,V2,g1,g2,g3,g4,g5,g6⟩,e3,e4,e5,e6⟩,hU,hV⟩:=k.sep;refine⟨k.os,k.tape,k.output,k.size,k.block,k.fin,k.QT,U,V,⟨_,_,U2,V2,hp _ _ _ _ _ e1 g1,g2,fun b=>?_,fun b=>?_,fun b hb=>?_,fun b hb=>?_⟩,hU,hV⟩
  ·rw[e3,g3,or_assoc]
  ·rw[e4,g4,or_assoc]
  ·rcases hb with hb | hb
   ·have h:=e5 b hb;rw[g3,g4] at h;exact⟨fun q=>h.1 (.inr q),fun q=>q.elim h.2.1 (fun q=>h.2.2 (.inl q)),fun q=>h.2.2 (.inr q)⟩
   ·have h:=g5 b hb;exact⟨h.1,fun q=>q.elim (fun q=>e6 b q ((g3 b).2 (.inl hb))) h.2.1,h.2.2⟩
  ·rcases hb with hb | hb
   ·exact fun q=>e6 b hb ((g3 b).2 (.inr q))
   ·exact g6 b hb
theorem Cx.dup {h h':HP}(k:Cx F O w0 w hs)(i:Nat)(hi:hs[i]?=some h)(hp:∀ w S R,h.p w S R->h'.p w (fun _=>False) R):Cx F O w0 w (h'::hs):=by
  obtain⟨U,V,h1,hU,hV⟩:=k.sep;obtain⟨S,R,U',V',e1,e2,e3,e4,e5,e6⟩:=Sep.cut hi h1;refine⟨k.os,k.tape,k.output,k.size,k.block,k.fin,k.QT,U,V,⟨_,R,U,V,hp _ _ _ e1,h1,fun b=>⟨.inr,fun h=>h.elim (fun h=>h.elim) id⟩,fun b=>⟨.inr,fun h=>h.elim (fun h=>(e4 b).2 (.inl h)) id⟩,fun b hb=>hb.elim,fun b hb hu=>?_⟩,hU,hV⟩;exact Sep.apart h1 b hu ((e4 b).2 (.inl hb))
theorem Cx.share {E:Enc α}{A:EQ}{n c:Nat}{xs:List α}(k:Cx F O w0 w (Ow E A n c xs::rest)):Cx F O w0 w (Sh (SH E) [(A,n,c)] [xs]::rest):=by
  have:=k.upd (h':=Sh (SH E) [(A,n,c)] [xs]) 0 rfl Option.none ⟨rfl,rfl,rfl,Nat.le_refl _,fun _ _ _=>rfl⟩ fun S R h1 h2 h3=>by
    refine⟨fun g hg=>(by cases hg),fun _=>False,fun b=>R b∨S b,⟨fun _ h=>h,rfl,fun j y x e1 e2=>?_⟩,fun b hb=>hb.elim,fun b hb=>⟨h3 b (hb.elim .inr .inl),hb.elim .inl (fun h=>.inr (.inl h))⟩⟩;cases j with
    | succ j=>cases e1
    | zero =>
      obtain rfl:=Option.some.inj e1;obtain rfl:=Option.some.inj e2;refine⟨h1.1.symm,by rw[h1.1];exact Ow.XY h1,Ow.rd' h1,fun hne a ha=>?_⟩;rcases h1.2 with⟨h4,_⟩ | ⟨g,t,cur,h4,_,_,_,_,_,h5⟩
      ·rw[h4] at ha;cases ha
      ·rw[h4] at ha;obtain rfl:=Option.some.inj ha;exact .inr h5
  simpa only [A0y] using this
theorem Cx.shold (k:Cx F O w0 w hs)(q:Rl γ δ){y:γ}{x:δ}(h:q.r w0 O y x):Cx F O w0 w (Sh q [y] [x]::hs):=by
  obtain⟨U,V,h1,hU,hV⟩:=k.sep;have hw:q.r w O y x:=q.loc _ _ _ _ _ h fun b hb=>k.block b (k.QT b hb) fun hf=>(k.fin b hf).2 hb;refine⟨k.os,k.tape,k.output,k.size,k.block,k.fin,k.QT,U,fun b=>O b∨V b,⟨fun _=>False,O,U,V,⟨fun _ h=>h,rfl,fun j y' x' e1 e2=>?_⟩,h1,fun b=>⟨.inr,fun h=>h.elim (fun h=>h.elim) id⟩,fun b=>Iff.rfl,fun b hb=>hb.elim,fun b hb hu=>?_⟩,hU,fun b hb=>hb.elim (fun h=>.inl (.inl h)) (hV b)⟩
  ·cases j with
   | succ j=>cases e1
   | zero =>
     obtain rfl:=Option.some.inj e1;obtain rfl:=Option.some.inj e2;exact hw
  ·rcases hU b hu with h | h
   ·exact(k.fin b h).2 hb
   ·have:=k.QT b hb;omega
theorem Cx.shz (k:Cx F O w0 w hs)(q:Rl γ δ):Cx F O w0 w (Sh q [] []::hs):=by
  obtain⟨U,V,h1,hU,hV⟩:=k.sep;exact⟨k.os,k.tape,k.output,k.size,k.block,k.fin,k.QT,U,V,⟨fun _=>False,fun _=>False,U,V,⟨fun _ h=>h,rfl,fun j y x e1 _=>by cases e1⟩,h1,by simp,by simp,fun b hb=>hb.elim,fun b hb=>hb.elim⟩,hU,hV⟩
theorem Cx.WO (k:Cx F O w0 w hs)(x:α):Cx F O w0 w (Sh SQ [x] [x]::hs):=by
  obtain⟨U,V,h1,hU,hV⟩:=k.sep;refine⟨k.os,k.tape,k.output,k.size,k.block,k.fin,k.QT,U,V,⟨fun _=>False,fun _=>False,U,V,⟨fun _ h=>h,rfl,fun j y x' e1 e2=>?_⟩,h1,by simp,by simp,fun b hb=>hb.elim,fun b hb=>hb.elim⟩,hU,hV⟩;rw[e1] at e2;exact Option.some.inj e2
theorem Cx.X3 {q:Rl α β}{p:Rl γ δ}{y1:α}{x1:β}{y2:γ}{x2:δ}(k:Cx F O w0 w (Sh q [y1] [x1]::Sh p [y2] [x2]::rest)):Cx F O w0 w (Sh (SP q p) [(y1,y2)] [(x1,x2)]::rest) :=
  k.merge fun w S1 R1 S2 R2 h1 h2=>⟨fun b hb=>hb.elim (h1.1 b) (h2.1 b),rfl,fun j y x e1 e2=>by
    cases j with
    | succ j=>cases e1
    | zero =>
      obtain rfl:=Option.some.inj e1;obtain rfl:=Option.some.inj e2;exact⟨q.mono _ _ _ _ _ (fun b hb=>.inl hb) (h1.2.2 0 _ _ rfl rfl),p.mono _ _ _ _ _ (fun b hb=>.inr hb) (h2.2.2 0 _ _ rfl rfl)⟩⟩
theorem Cx.sha {q:Rl γ δ}{ys ys':List γ}{xs xs':List δ}(k:Cx F O w0 w (Sh q ys xs::Sh q ys' xs'::rest)):Cx F O w0 w (Sh q (ys++ys') (xs++xs')::rest) :=
  k.merge fun w S1 R1 S2 R2 h1 h2=>⟨fun b hb=>hb.elim (h1.1 b) (h2.1 b),by simp[h1.2.1,h2.2.1],fun j y x e1 e2=>by
    by_cases hj:j < ys.length
    ·rw[List.getElem?_append_left hj] at e1;rw[List.getElem?_append_left (by have:=h1.2.1;omega)] at e2;exact q.mono _ _ _ _ _ (fun b hb=>.inl hb) (h1.2.2 j _ _ e1 e2)
    ·rw[List.getElem?_append_right (by omega)] at e1;rw[List.getElem?_append_right (by have:=h1.2.1;omega),<-h1.2.1] at e2;exact q.mono _ _ _ _ _ (fun b hb=>.inr hb) (h2.2.2 _ _ _ e1 e2)⟩
theorem Cx.og {E:Enc γ}{q:Rl γ δ}{A:EQ}{n c:Nat}{ys:List γ}{xs:List δ}(k:Cx F O w0 w (Ow E A n c ys::Sh q ys xs::rest)):Cx F O w0 w (OG E q A n c ys xs::rest):=Cx.LH (l:=[_,_]) trivial k
theorem Cx.ogun {E:Enc γ}{q:Rl γ δ}{A:EQ}{n c:Nat}{ys:List γ}{xs:List δ}(k:Cx F O w0 w (OG E q A n c ys xs::rest)):Cx F O w0 w (Ow E A n c ys::Sh q ys xs::rest):=k.OO.2
theorem Cx.LQ (k:Cx F O w0 w hs)(E:Enc γ)(q:Rl γ δ):Cx F O w0 w (OG E q Option.none 0 0 [] []::hs):=by
  refine Cx.og ?_;have k1:=(k.shz q).nil E;exact k1.perm (A0t (l₂:=[_]))
theorem OG.parts {E:Enc γ}{q:Rl γ δ}{A:EQ}{n c:Nat}{ys:List γ}{xs:List δ}{S R:Nat->Prop}(h:(OG E q A n c ys xs).p w S R) :
    (∃ S' R',(Ow E A n c ys).p w S' R'/\∀ b,S' b->S b)/\ys.length=xs.length/\∀ (j:Nat) (y:γ) (x:δ),ys[j]?=some y->xs[j]?=some x->q.r w R y x:=by
  obtain⟨_,hS⟩:=h;obtain⟨S1,R1,U1,V1,e1,e2,e3,e4,_⟩:=Sep.cut (i:=0) rfl hS;obtain⟨S2,R2,U2,V2,g1,g2,g3,g4,_⟩:=Sep.cut (i:=0) rfl e2;refine⟨⟨S1,R1,e1,fun b hb=>(e3 b).2 (.inl hb)⟩,g1.2.1,fun j y x f1 f2=>q.mono _ _ _ _ _ (fun b hb=>(e4 b).2 (.inr ((g4 b).2 (.inl hb)))) (g1.2.2 j y x f1 f2)⟩
variable {E:Enc γ}{q:Rl γ δ}{A:EQ}{n c:Nat}{ys:List γ}{xs:List δ}
theorem Cx.dJ (k:Cx F O w0 w hs)(i:Nat)(hi:hs[i]?=some (OG E q A n c ys xs)):xs.length=n:=by
  obtain⟨S,R,h⟩:=k.get i hi;obtain⟨⟨_,_,h1,_⟩,h2,_⟩:=OG.parts h;rw[<- h2];exact h1.1
theorem Cx.mG (k:Cx F O w0 w hs)(i:Nat)(hi:hs[i]?=some (OG E q A n c ys xs)):ys.length=n:=by
  obtain⟨S,R,h⟩:=k.get i hi;obtain⟨⟨_,_,h1,_⟩,h2,_⟩:=OG.parts h;exact h1.1
theorem Cx.oglec (k:Cx F O w0 w hs)(i:Nat)(hi:hs[i]?=some (OG E q A n c ys xs)):n<=c:=by
  obtain⟨S,R,h⟩:=k.get i hi;obtain⟨⟨_,_,h1,_⟩,h2,_⟩:=OG.parts h;exact Ow.XY h1
theorem Cx.j_ (k:Cx F O w0 w hs)(i:Nat)(hi:hs[i]?=some (OG E q A n c ys xs)):Rd w A (E.all ys):=by
  obtain⟨S,R,h⟩:=k.get i hi;obtain⟨⟨_,_,h1,_⟩,h2,_⟩:=OG.parts h;exact Ow.rd' h1
end
section
variable {F O:Nat->Prop}{w0 w:World}{hs:List HP}
theorem Cx.fD {q:Rl γ δ}{ys:List γ}{xs:List δ}(k:Cx F O w0 w hs)(i:Nat)(hi:hs[i]?=some (Sh q ys xs)):Cx F O w0 w (Sh q ys xs::hs) :=
  k.dup i hi fun _ _ _ h=>⟨fun _ h=>h,h.2.1,h.2.2⟩
theorem Cx.g_ {E:Enc α}{A:EQ}{n c:Nat}{x:List α}(k:Cx F O w0 w hs)(i:Nat)(hi:hs[i]?=some (Sh (SH E) [(A,n,c)] [x])):x.length=n:=by
  obtain⟨S,R,h⟩:=k.get i hi;exact((h.2.2 0 _ _ rfl rfl).1).symm
theorem Cx.Uz {E:Enc α}{A:EQ}{n c:Nat}{x:List α}(k:Cx F O w0 w hs)(i:Nat)(hi:hs[i]?=some (Sh (SH E) [(A,n,c)] [x])):n<=c:=by
  obtain⟨S,R,h⟩:=k.get i hi;have h1:=h.2.2 0 _ _ rfl rfl;have h2:n=x.length:=h1.1;have h3:x.length<=c:=h1.2.1;omega
theorem Cx.IW {E:Enc α}{A:EQ}{n c:Nat}{x:List α}(k:Cx F O w0 w hs)(i:Nat)(hi:hs[i]?=some (Sh (SH E) [(A,n,c)] [x])):Rd w A (E.all x):=by
  obtain⟨S,R,h⟩:=k.get i hi;exact(h.2.2 0 _ _ rfl rfl).2.2.1
end
structure RoH (F O:Nat->Prop)(w:World)(E:Enc γ)(q:Rl γ δ)(A:Option Addr)(ys:List γ)(xs:List δ):Prop where
  ro:Ro F w A (E.all ys)
  len:ys.length=xs.length
  el:∀ (j:Nat) (y:γ) (x:δ),ys[j]?=some y->xs[j]?=some x->q.r w O y x
section
variable {F O F1 O1:Nat->Prop}{w0 w w':World}{hs rest:List HP}{E:Enc γ}{q:Rl γ δ}{A:EQ}{ys:List γ}{xs:List δ}
theorem RoH.at (h:RoH F O w E q A ys xs){j:Int}{x:δ}(hx:aW xs j=some x):∃ y,aW ys j=some y/\q.r w O y x:=by
  obtain⟨h0,h1⟩:=aS hx;have hlt:=(A0w.1 h1).1;have hh:ys[j.toNat]?=some (ys[j.toNat]'(h.len▸hlt)):=A0l _;refine⟨ys[j.toNat]'(h.len▸hlt),?_,h.el _ _ _ hh h1⟩;unfold aW;rw[if_pos h0,hh]
theorem SH.rh {E:Enc α}{R:Nat->Prop}{h:Hd}{x:List α}(q:(SH E).r w R h x)(hR:∀ b,R b->¬ F b):RH F w E h x :=
  ⟨q.1,q.2.1,q.2.2.1,fun hne a ha hf=>hR _ (q.2.2.2 hne a ha) hf⟩
theorem Cx.off (k:Cx F O w0 w hs):∀ b,O b->¬ F b:=fun b ho hf=>(k.fin b hf).2 ho
theorem RoH.rog {r:γ->δ->Prop}(h:RoH F O w E q A ys xs)(hO:∀ b,O b->¬ F b)(conv:∀ (R:Nat->Prop) y x,(∀ b,R b->¬ F b)->q.r w R y x->r y x):Nq F w E r A ys xs :=
  ⟨h.ro,h.len,fun j y x e1 e2=>conv O y x hO (h.el j y x e1 e2)⟩
theorem og_ro {n c:Nat}{S R:Nat->Prop}(h:(OG E q A n c ys xs).p w S R)(hS:∀ b,S b->¬ F1 b):Ro F1 w A (E.all ys):=by
  obtain⟨⟨_,_,h1,h2⟩,_⟩:=OG.parts h;exact LJ h1 fun b hb=>hS b (h2 b hb)
theorem RoH.of_rest {n c:Nat}(hr:∀ (i:Nat) (h:HP),rest[i]?=some h->∃ S R,h.p w S R/\(∀ b,R b->O1 b)/\∀ b,S b->¬ F1 b)(i:Nat)(hi:rest[i]?=some (OG E q A n c ys xs)):RoH F1 O1 w E q A ys xs:=by
  obtain⟨S,R,h,hR,hS⟩:=hr i _ hi;obtain⟨_,h1,h2⟩:=OG.parts h;exact⟨og_ro h hS,h1,fun j y x e1 e2=>q.mono _ _ _ _ _ hR (h2 j y x e1 e2)⟩
theorem Nq.of_rest {n c:Nat}{r:γ->δ->Prop}(hO:∀ b,O1 b->¬ F1 b)(hr:∀ (i:Nat) (h:HP),rest[i]?=some h->∃ S R,h.p w S R/\(∀ b,R b->O1 b)/\∀ b,S b->¬ F1 b)(i:Nat)(hi:rest[i]?=some (OG E q A n c ys xs))(conv:∀ (R:Nat->Prop) y x,(∀ b,R b->¬ F1 b)->q.r w R y x->r y x):Nq F1 w E r A ys xs :=
  (RoH.of_rest hr i hi).rog hO conv
theorem Nq.of_cx {n c:Nat}{r:γ->δ->Prop}(k:Cx F O w0 w hs)(i:Nat)(hi:hs[i]?=some (OG E q A n c ys xs))(conv:∀ (R:Nat->Prop) y x,(∀ b,R b->¬ N0 b)->q.r w R y x->r y x):Nq N0 w E r A ys xs:=by
  obtain⟨S,R,h⟩:=k.get i hi;obtain⟨_,h1,h2⟩:=OG.parts h;exact⟨og_ro h fun _ _ h=>h,h1,fun j y x e1 e2=>conv R y x (fun _ _ h=>h) (h2 j y x e1 e2)⟩
end
section
variable {P:Program}{n:Nat}{ops:Array Oper}{L:St}{w w0:World}{F O:Nat->Prop}{hs rest:List HP}{K:St->World->Prop}{E:Enc γ}{q:Rl γ δ}
theorem oV {dst:A03}{x y:Operand}{t t2 ty:TypeId}{pos:String}{jf:Array Edge}{g:UV}{e:TypeId}{zs:List Value}{bytes:Nat}(tf:TF P t e zs bytes)
    (ss:A01) (d:Nat) {A A2:EQ} {n1 n2 c c2:Nat} {ys C9:List γ} {xs Y0:List δ}
    (hside:(y7 ops ss L ⟨dst,.call ⟨.builtin .append,#[x,y],#[t,t2]⟩,ty,pos,jf,g⟩,dst,(decide (d < n)),(L.any fun p=>p.1 == d),(toSS [x,y] (lk L)).map SV.vals,(match P.underlying t2 with | some (.slice _)=>true | some .string=>true | _=>false),E.sz)=(true,some d,true,false,some [.slice A n1 c,.slice A2 n2 c2],true,zs.length))
    (k:Cx F O w0 w (OG E q A n1 c ys xs::OG E q A2 n2 c2 C9 Y0::rest)) (hroom:(n1+n2)*bytes<=140737488355328)
    (hk:∀ A' c' w',Cx F O w0 w' (OG E q A' (n1+n2) c' (ys++C9) (xs++Y0)::rest)->K ((d,.v (.slice A' (n1+n2) c'))::L) w') :
    yE P n ops L w ⟨dst,.call ⟨.builtin .append,#[x,y],#[t,t2]⟩,ty,pos,jf,g⟩ K:=by
  have hl2:=k.mG 1 rfl;have hrd:=k.j_ 1 rfl;have hz:E.sz=zs.length:=by simp only[Prod.mk.injEq] at hside;exact hside.2.2.2.2.2.2
  have k1:Cx F O w0 w (OG E q A2 n2 c2 C9 Y0::Ow E A n1 c ys::Sh q ys xs::rest):=k.ogun.perm ((List.Perm.cons _ (.swap _ _ _)).trans (.swap _ _ _));have k2:=k1.ogun;have k3:Cx F O w0 w (Ow E A n1 c ys::Sh q C9 Y0::Sh q ys xs::rest):=(k2.tl).perm (.swap _ _ _);refine dK (E:=E) (v:=.v (.slice A2 n2 c2)) (ys:=C9) tf ss d 0 hside k3 rfl (Src.sl hrd hl2 hz) hl2 hroom fun A' c' w' k'=>hk A' c' w' ?_;have k4:Cx F O w0 w' (Sh q ys xs::Sh q C9 Y0::Ow E A' (n1+n2) c' (ys++C9)::rest):=by
    rw[A0y] at k';exact k'.perm ((List.Perm.swap _ _ _).trans ((List.Perm.cons _ (.swap _ _ _)).trans (.swap _ _ _)))
  exact Cx.og ((k4.sha).perm (.swap _ _ _))
end
end
section
variable {γ δ:Type}
def Bc (wt:δ->Nat):List δ->Nat
  | []=>0
  | x::xs=>wt x+Bc wt xs
def N8 {H:Type}(m:DataW H->δ->Prop):List (DataW H)->List δ->Prop
  | [],[]=>True
  | d::ds,x::xs=>m d x/\N8 m ds xs
  | _,_=>False
theorem N8.of {H:Type}{m:DataW H->δ->Prop}:∀ (ds:List (DataW H)) (xs:List δ),ds.length=xs.length->(∀ (i:Nat) (d:DataW H) (x:δ),ds[i]?=some d->xs[i]?=some x->m d x)->N8 m ds xs
  | [],[],_,_=>trivial
  | [],_::_,h,_=>by cases h
  | _::_,[],h,_=>by cases h
  | d::ds,x::xs,h,hq=>⟨hq 0 d x rfl rfl,N8.of ds xs (by simpa using h) fun i d' x' h1 h2=>hq (i+1) d' x' h1 h2⟩
theorem N8.tot {H:Type}{wt:δ->Nat}{bulk:DataW H->Nat}{bulkAll:List (DataW H)->Nat}(h0:∀ d ds,bulkAll (d::ds)=bulk d+bulkAll ds):∀ (ds:List (DataW H)) (xs:List δ),N8 (fun d x=>wt x<=bulk d) ds xs->Bc wt xs<=bulkAll ds
  | [],[],_=>Nat.zero_le _
  | [],_::_,h=>h.elim
  | _::_,[],h=>h.elim
  | d::ds,x::xs,⟨h,hr⟩=>by
    have:=N8.tot h0 ds xs hr;simp only[Bc,h0];omega
section
variable {H:Type}{enc:TypeId×Value->H}{P:Program}{w:World}{held:Bool}
theorem open_rg {t e:TypeId}{fuel:Nat}{cs:List Value}{x:DataW H×List MemPlace}(E:Enc γ)(r:γ->δ->Prop)(m:DataW H->δ->Prop)(ht:P.underlying t=some (.slice e))(hce:P.cellsOf e=E.sz)
    (hel:∀ fuel cs (x:DataW H×List MemPlace),DataW.trod enc P w 0 (fun _=>true) held fuel e cs=some x->∃ (y:γ) (z:δ),cs=E.f y/\r y z/\m x.1 z)
    (h:DataW.trod enc P w 0 (fun _=>true) held fuel t cs=some x) :
    ∃ (A:EQ) (len cap:Nat) (ys:List γ) (xs:List δ),cs=[.slice A len cap]/\Nq N0 w E r A ys xs/\xs.length=len/\len<=cap/\(xs=[]∨∃ ds rest,x.1=.slice ds rest/\N8 m ds xs):=by
  rcases DataW.trod_slice ht h with⟨rfl,rfl⟩ | ⟨a,len,cap,elems,rest,n,rfl,rfl,rfl,_,hl,_,hlen,hel2,_,_⟩
  ·exact⟨Option.none,0,0,[],[],rfl,Nq.nil,rfl,by omega,.inl rfl⟩
  ·have key:∀ i,i < len->∃ y:γ×δ,w.cells? 0 (a.add (i*E.sz)) E.sz=some (E.f y.1)/\r y.1 y.2/\∃ d,elems[i]?=some d/\m d.1 y.2:=by
     intro i hi;have h1:=hel2 i hi;have h2:elems[i]?=some (elems[i]'(by omega)):=A0l _;rw[h2,hce,A0v] at h1;obtain⟨cs',hcs,hy⟩:=h1;obtain⟨y,z,rfl,hr,hm⟩:=hel _ _ _ hy;exact⟨(y,z),hcs,hr,_,h2,hm⟩
   obtain⟨l,hll,hl2⟩:=exlist len key;have hget:∀ (j:Nat) (y:γ) (x:δ),(l.map (·.1))[j]?=some y->(l.map (·.2))[j]?=some x->l[j]?=some (y,x):=by
     intro j h x h1 h2;rw[List.getElem?_map,A0c] at h1 h2;obtain⟨y,hy,rfl⟩:=h1;obtain⟨y',hy',rfl⟩:=h2;rw[hy] at hy';obtain rfl:=Option.some.inj hy';exact hy
   refine⟨some a,len,cap,l.map (·.1),l.map (·.2),rfl,⟨Ro.n0 ⟨fun _=>⟨a,rfl⟩,?_⟩,by simp,?_⟩,by simp[hll],hl,.inr ⟨_,_,rfl,?_⟩⟩
   ·intro a' j u ha hu;obtain rfl:=Option.some.inj ha;by_cases hz:E.sz=0
    ·have hq:=(A0w.1 hu).1;rw[Enc.iy,hz,Nat.mul_zero] at hq;omega
    ·have hq:=(A0w.1 hu).1;rw[Enc.iy,A0a] at hq;have hi:j / E.sz < l.length:=Nat.div_lt_of_lt_mul (by rw[Nat.mul_comm];exact hq);have hmod:j % E.sz < E.sz:=Nat.mod_lt _ (by omega);have hy:l[j / E.sz]?=some (l[j / E.sz]):=A0l _;obtain⟨h1,_⟩:=hl2 _ _ hy;obtain⟨_,h3,h4⟩:=World.cells?_some h1;have h5:=h4 (j % E.sz) hmod;rw[Addr.add_add,Nat.mul_comm,Nat.div_add_mod] at h5;rw[h5];have h6:=Enc.XR E (xs:=l.map (·.1)) (j:=j / E.sz) (x:=(l[j / E.sz]).1) (by rw[List.getElem?_map,hy];rfl);rw[<- h6,List.getElem?_take_of_lt hmod,List.getElem?_drop,Nat.mul_comm,Nat.div_add_mod];exact hu
   ·intro j h x h1 h2;exact(hl2 j _ (hget j h x h1 h2)).2.1
   ·refine N8.of _ _ (by simp[hll,hlen]) fun i d x h1 h2=>?_;rw[List.getElem?_map,A0c] at h1 h2;obtain⟨y,hy,rfl⟩:=h1;obtain⟨z,hz,rfl⟩:=h2;obtain⟨_,_,d',hd',hq⟩:=hl2 i z hz;rw[hy] at hd';obtain rfl:=Option.some.inj hd';exact hq
end
end
section
variable {α β γ δ:Type}
section
variable {F O F1 O1:Nat->Prop}{w0 w w':World}{hs rest:List HP}{E:Enc α}{A:EQ}{n c:Nat}{x:List α}
theorem Ro.of_sh (hO:∀ b,O1 b->¬ F1 b)(hr:∀ (i:Nat) (h:HP),rest[i]?=some h->∃ S R,h.p w S R/\(∀ b,R b->O1 b)/\∀ b,S b->¬ F1 b)(i:Nat)(hi:rest[i]?=some (Sh (SH E) [(A,n,c)] [x])):Ro F1 w A (E.all x):=by
  obtain⟨S,R,h,hR,hS⟩:=hr i _ hi;have h1:=h.2.2 0 _ _ rfl rfl;exact⟨h1.2.2.1,fun hne a ha hf=>hO _ (hR _ (h1.2.2.2 hne a ha)) hf⟩
end
theorem N8.len {H:Type}{m:DataW H->δ->Prop}{bulk:DataW H->Nat}{bulkAll:List (DataW H)->Nat}(h0:∀ d ds,bulkAll (d::ds)=bulk d+bulkAll ds)(h1:∀ d,1<=bulk d):∀ (ds:List (DataW H)) (xs:List δ),N8 m ds xs->xs.length<=bulkAll ds
  | [],[],_=>Nat.zero_le _
  | [],_::_,h=>h.elim
  | _::_,[],h=>h.elim
  | d::ds,x::xs,⟨_,hr⟩=>by
    have:=N8.len h0 h1 ds xs hr;have:=h1 d;simp only[bi,h0];omega
section
variable {σ ρ:Type}{P:Program}{n:Nat}{Q:Exit->Act->World->Prop}{c:Code}{L L':St}{w0:World}
end
end
section
section
variable {P:Program}{n:Nat}{ops:Array Oper}{L:St}{w w0:World}{F O:Nat->Prop}{hs:List HP}{K:St->World->Prop}
end
end
section
def UA:Nat:=9221120237041090561
def OT (b:Nat):Nat:=if(Ieee.double.read b).isNaN then UA else b
def Fl (x b:Nat):Prop:=b < 18446744073709551616/\OT b=x
def far (op:BinOp)(x y:Nat):Nat:=(floatBits op .f64 x y).getD UA
def Q_ (op:BinOp)(x y:Nat):Bool :=
  match op with
  | .eql=>Ieee.double.order x y == some .eq
  | .neq=>Ieee.double.order x y != some .eq
  | .lss=>Ieee.double.order x y == some .lt
  | .leq=>Ieee.double.order x y == some .lt||Ieee.double.order x y == some .eq
  | .gtr=>Ieee.double.order x y == some .gt
  | .geq=>Ieee.double.order x y == some .gt||Ieee.double.order x y == some .eq
  | _=>false
def pF (n:Int):Nat:=floatOfInt .f64 n
theorem Jk (b:Nat):(∃ s f,Ieee.double.read b=.nan s f/\Ieee.double.read (OT b)=.nan false 2251799813685249)∨(OT b=b/\(Ieee.double.read b).isNaN=false):=by
  unfold OT;cases h:Ieee.double.read b with
  | nan s f=>left;exact⟨s,f,rfl,by show Ieee.double.read UA=_;decide⟩
  | number s m e=>right;exact⟨rfl,rfl⟩
  | infinity s=>right;exact⟨rfl,rfl⟩
theorem X4 (d:Ieee.Datum)(s:Bool)(f:Nat):d.sum (.nan s f)=none/\d.product (.nan s f)=none/\(∀ k,d.quotient k (.nan s f)=none)/\d.order (.nan s f)=none:=by
  cases d <;> exact⟨rfl,rfl,fun _=>rfl,rfl⟩
theorem X5 (d:Ieee.Datum)(s:Bool)(f:Nat):(Ieee.Datum.nan s f).sum d=none/\(Ieee.Datum.nan s f).product d=none/\(∀ k,(Ieee.Datum.nan s f).quotient k d=none)/\(Ieee.Datum.nan s f).order d=none:=by
  cases d <;> exact⟨rfl,rfl,fun _=>rfl,rfl⟩
theorem opp_nan (s:Bool)(f:Nat):(Ieee.Datum.nan s f).opposite=.nan (!s) f:=rfl
theorem order_can (a b:Nat):Ieee.double.order (OT a) (OT b)=Ieee.double.order a b:=by
  unfold Ieee.Format.order;rcases Jk a with⟨s,f,h1,h2⟩ | ⟨h1,_⟩ <;> rcases Jk b with⟨s',f',h3,h4⟩ | ⟨h3,_⟩
  ·rw[h1,h2,h3,h4];rfl
  ·rw[h1,h2,(X5 _ _ _).2.2.2,(X5 _ _ _).2.2.2]
  ·rw[h3,h4,(X4 _ _ _).2.2.2,(X4 _ _ _).2.2.2]
  ·rw[h1,h3]
theorem fcmp_can (op:BinOp)(a b:Nat):Q_ op (OT a) (OT b)=Q_ op a b:=by
  unfold Q_;rw[order_can]
theorem bits_can (op:BinOp)(a b:Nat):floatBits op .f64 (OT a) (OT b)=floatBits op .f64 a b:=by
  unfold floatBits;have e:(FloatKind.f64).format=Ieee.double:=rfl;rw[e];cases op <;> simp only[Ieee.Format.add,Ieee.Format.sub,Ieee.Format.mul,Ieee.Format.div]
  all_goals
    rcases Jk a with⟨s,f,h1,h2⟩ | ⟨h1,_⟩ <;> rcases Jk b with⟨s',f',h3,h4⟩ | ⟨h3,_⟩
    ·rw[h1,h2,h3,h4];rfl
    ·rw[h1,h2];simp[X5]
    ·rw[h3,h4];simp[X4,opp_nan]
    ·rw[h1,h3]
theorem Rf (neg:Bool){rung:Nat}(h:rung<=Ieee.double.infRung):(Ieee.double.read (Ieee.double.word neg rung)).isNaN=false:=by
  have h1:Ieee.double.word neg rung % Ieee.double.signWeight=rung:=by
    have hs:Ieee.double.infRung < Ieee.double.signWeight:=by decide
    unfold Ieee.Format.word;split
    ·rw[Nat.add_mod_left,Nat.mod_eq_of_lt (by omega)]
    ·rw[Nat.mod_eq_of_lt (by omega)]
  unfold Ieee.Format.read;dsimp only;rw[h1];split
  ·rfl
  ·split
   ·rfl
   ·split
    ·rfl
    ·omega
theorem Jl {d:Ieee.Datum}(h:d.isNaN=false):(Ieee.double.read (Ieee.double.write d)).isNaN=false:=by
  cases d with
  | nan=>cases h
  | infinity s=>exact Rf s (Nat.le_refl _)
  | number s m e =>
    unfold Ieee.Format.write Ieee.Format.nearest;dsimp only;split
    ·exact Rf s (Nat.zero_le _)
    ·exact Rf s (Nat.min_le_right ..)
theorem sum_ok {a b d:Ieee.Datum}(h:a.sum b=some d):d.isNaN=false:=by
  cases a <;> cases b <;> simp only[Ieee.Datum.sum] at h <;> first | cases h;done | skip
  ·simp only[Option.some.injEq] at h;subst h;rfl
  ·simp only[Option.some.injEq] at h;subst h;rfl
  ·simp only[Option.some.injEq] at h;subst h;rfl
  ·split at h
   ·simp only[Option.some.injEq] at h;subst h;rfl
   ·cases h
theorem product_ok {a b d:Ieee.Datum}(h:a.product b=some d):d.isNaN=false:=by
  cases a <;> cases b <;> simp only[Ieee.Datum.product] at h <;> first | (cases h;done) | skip
  all_goals first
    | (simp only[Option.some.injEq] at h;subst h;rfl)
    | (split at h
       ·cases h
       ·simp only[Option.some.injEq] at h;subst h;rfl)
theorem Zu {k:Nat}{a b d:Ieee.Datum}(h:a.quotient k b=some d):d.isNaN=false:=by
  cases a <;> cases b <;> simp only[Ieee.Datum.quotient] at h <;> first | (cases h;done) | skip
  all_goals first
    | (simp only[Option.some.injEq] at h;subst h;rfl)
    | (split at h
       ·split at h
        ·cases h
        ·simp only[Option.some.injEq] at h;subst h;rfl
       ·simp only[Option.some.injEq] at h;subst h;rfl)
theorem bits_ok {op:BinOp}{a b r:Nat}(h:floatBits op .f64 a b=some r):Fl r r:=by
  refine⟨?_,?_⟩
  ·have:=floatBits_wf h;simpa [Lit.wf] using this
  ·have h1:(Ieee.double.read r).isNaN=false:=by
     unfold floatBits at h;have e:(FloatKind.f64).format=Ieee.double:=rfl;rw[e] at h;split at h
     ·obtain⟨d,h2,rfl⟩:=A0c.1 h;exact Jl (sum_ok h2)
     ·obtain⟨d,h2,rfl⟩:=A0c.1 h;exact Jl (sum_ok h2)
     ·obtain⟨d,h2,rfl⟩:=A0c.1 h;exact Jl (product_ok h2)
     ·obtain⟨d,h2,rfl⟩:=A0c.1 h;exact Jl (Zu h2)
     ·cases h
   unfold OT;rw[h1];rfl
theorem cut_nan (q:Question)(t k:Nat)(hq:∃ x y,q=.nanBits .f64 x y):Fl UA (q.cut t):=by
  obtain⟨x,y,rfl⟩:=hq;simp only[Question.cut];have h1:t % 2 < 2:=Nat.mod_lt _ (by decide);have h2:t / 2 % (2 ^ 52 - 1) < 2 ^ 52 - 1:=Nat.mod_lt _ (by decide);generalize t % 2=u at *;generalize t / 2 % (2 ^ 52 - 1)=v at *;refine⟨by omega,?_⟩;unfold OT;have h3:(Ieee.double.read (u*2 ^ 63+0x7ff0000000000000+1+v)).isNaN=true:=by
    have hw:Ieee.double.signWeight=2 ^ 63:=by decide
    have hi:Ieee.double.infRung=0x7ff0000000000000:=by decide
    have hb:Ieee.double.binade=2 ^ 52:=by decide
    unfold Ieee.Format.read;dsimp only;rw[hw,hi,hb];have h4:(u*2 ^ 63+0x7ff0000000000000+1+v) % 2 ^ 63=0x7ff0000000000000+1+v:=by omega
    rw[h4,if_neg (by omega),if_neg (by omega),if_neg (by omega)];rfl
  rw[h3];rfl
theorem far_run {P:Program}{w:World}{op:BinOp}{t:TypeId}{x y a b:Nat}(hop:op=.add∨op=.sub∨op=.mul∨op=.quo)(hx:Fl x a)(hy:Fl y b) :
    ∃ r w',(binOp op t (.float .f64 a) (.float .f64 b)).run P w=.ok (.float .f64 r) w'/\Fl (far op x y) r/\(w'=w∨w'=w.drewN 1):=by
  have e:floatBits op .f64 x y=floatBits op .f64 a b:=by rw[<- hx.2,<-hy.2,bits_can]
  cases h:floatBits op .f64 a b with
  | some r =>
    refine⟨r,w,run_float_arith w op t .f64 a b r h,?_,.inl rfl⟩;unfold far;rw[e,h];exact bits_ok h
  | none =>
    refine⟨(Question.nanBits .f64 a b).cut (w.tape w.drawn (.nanBits .f64 a b)),w.drewN 1,?_,?_,.inr rfl⟩
    ·have h':=h;unfold floatBits at h';rcases hop with rfl | rfl | rfl | rfl <;> simp only at h' <;> simp[binOp,Op.floatArith,h',choose,Sem.run,Question.forced,World.drewN]
    ·unfold far;rw[e,h];exact cut_nan _ _ 0 ⟨_,_,rfl⟩
theorem fcmp_run {P:Program}{w:World}{op:BinOp}{t:TypeId}{x y a b:Nat}(hop:op=.eql∨op=.neq∨op=.lss∨op=.leq∨op=.gtr∨op=.geq)(hx:Fl x a)(hy:Fl y b) :
    (binOp op t (.float .f64 a) (.float .f64 b)).run P w=.ok (SV.val (.b (Q_ op x y))) w:=by
  rw[<- hx.2,<-hy.2,fcmp_can];rcases hop with rfl | rfl | rfl | rfl | rfl | rfl <;> simp[binOp,Op.floatCmp,SV.val,Q_,FloatKind.format]
theorem fofI_run {P:Program}{w:World}{src dst:TypeId}{n:Int}{q:IntKind}(hs:(P.underlying src).isSome=true)(hd:P.underlying dst=some (.float .f64)) :
    (convert src dst (.int q n)).run P w=.ok (.float .f64 (pF n)) w:=run_convert_int_float w src dst q .f64 n hs hd
theorem write_fl {d:Ieee.Datum}(hd:d.isNaN=false):Fl (Ieee.double.write d) (Ieee.double.write d):=by
  have h2:Ieee.double.write d < 2 ^ Ieee.double.width:=Ieee.Format.write_lt _ _;have h4:(Ieee.double.read (Ieee.double.write d)).isNaN=false:=Jl hd;have h3:(2 ^ Ieee.double.width:Nat)=18446744073709551616:=by decide
  rw[h3] at h2;refine⟨h2,?_⟩;unfold OT;rw[if_neg (by rw[h4];decide)]
theorem fofI_eq (n:Int):pF n=Ieee.double.write (.number (n < 0) n.natAbs 0):=by
  unfold pF floatOfInt FloatKind.nearest FloatKind.encode FloatKind.format;rfl
theorem Aj (n:Int):Fl (pF n) (pF n):=by
  rw[fofI_eq];exact write_fl rfl
def eF:Enc UInt64:=⟨1,fun a=>[.float .f64 a.toNat],fun _=>rfl,fun x v h=>by rw[A0d.1 h];rfl⟩
instance:Pos eF:=⟨by decide⟩
theorem Fl.lit {c:Nat}(h:(decide (c < 18446744073709551616)&&(OT c == c))=true):Fl c c:=by
  simp only[A0k,lm,beq_iff_eq] at h;exact⟨h.1,h.2⟩
theorem Fl.bits {x b:Nat}(h:Fl x b)(hn:x≠UA):b=x:=by
  rcases Jk b with⟨s,f,h1,h2⟩ | ⟨h1,h2⟩
  ·exfalso;apply hn;rw[<- h.2];unfold OT;rw[h1];rfl
  ·rw[<- h1,h.2]
section
variable {P:Program}{n:Nat}{ops:Array Oper}{L:St}{w w0:World}{F O:Nat->Prop}{hps:List HP}{K:St->World->Prop}
theorem zB {dst:A03}{WQ:BinOp}{t ty:TypeId}{x y:Operand}{pp:TypeId}{pos:String}{jf:Array Edge}{g:UV}(ss:A01)(d:Nat){X Y u v:Nat}
    (hs:(y7 ops ss L ⟨dst,.binOp WQ t x y pp,ty,pos,jf,g⟩,dst,(decide (d < n)),(L.any fun p=>p.1 == d),(toSS [x,y] (lk L)).map SV.vals)=(true,some d,true,false,some [.float .f64 u,.float .f64 v]))
    (hop:WQ=.add∨WQ=.sub∨WQ=.mul∨WQ=.quo) (hx:Fl X u) (hy:Fl Y v) (k:Cx F O w0 w hps) (hk:∀ r w',Fl (far WQ X Y) r->Cx F O w0 w' hps->K ((d,.v (.float .f64 r))::L) w') :
    yE P n ops L w ⟨dst,.binOp WQ t x y pp,ty,pos,jf,g⟩ K:=by
  simp only[Prod.mk.injEq,A0c,lm] at hs;obtain⟨s1,rfl,s3,s4,⟨svs,s5,s6⟩⟩:=hs;refine zu (xs:=[x,y]) (svs:=svs) ss (d:=d) (by simp[Side,s1,s3,s4,s5]) fun a ha he=>?_;rw[s6] at he;simp only[kw,List.map_nil,List.cons.injEq,and_true] at he;obtain⟨r,w',h1,h2,h3⟩:=far_run (P:=P) (w:=w) (t:=t) hop hx hy;have hg:(eqGuard WQ t x y (.float .f64 u) (.float .f64 v)).run P w=.ok () w:=by
    rcases hop with rfl | rfl | rfl | rfl <;> rfl
  unfold Oper.wp execOp;simp only[he.1,he.2,Sem.run_bind,hg,h1,Result.andThen_ok,Sem.run_pure];refine⟨.v (.float .f64 r),rfl,hk r w' h2 ?_⟩;rcases h3 with rfl | rfl
  ·exact k
  ·exact k.drew 1
theorem Op_fcmp {dst:A03}{WQ:BinOp}{t ty:TypeId}{x y:Operand}{pp:TypeId}{pos:String}{jf:Array Edge}{g:UV}(ss:A01)(d:Nat){X Y u v:Nat}
    (hs:(y7 ops ss L ⟨dst,.binOp WQ t x y pp,ty,pos,jf,g⟩,dst,(decide (d < n)),(L.any fun p=>p.1 == d),(toSS [x,y] (lk L)).map SV.vals)=(true,some d,true,false,some [.float .f64 u,.float .f64 v]))
    (hop:WQ=.eql∨WQ=.neq∨WQ=.lss∨WQ=.leq∨WQ=.gtr∨WQ=.geq) (hx:Fl X u) (hy:Fl Y v) (hk:K ((d,.b (Q_ WQ X Y))::L) w) :
    yE P n ops L w ⟨dst,.binOp WQ t x y pp,ty,pos,jf,g⟩ K:=by
  simp only[Prod.mk.injEq,A0c,lm] at hs;obtain⟨s1,rfl,s3,s4,⟨svs,s5,s6⟩⟩:=hs;refine zu (xs:=[x,y]) (svs:=svs) ss (d:=d) (by simp[Side,s1,s3,s4,s5]) fun a ha he=>?_;rw[s6] at he;simp only[kw,List.map_nil,List.cons.injEq,and_true] at he;have h1:=fcmp_run (P:=P) (w:=w) (t:=t) hop hx hy;have hg:(eqGuard WQ t x y (.float .f64 u) (.float .f64 v)).run P w=.ok () w:=by
    rcases hop with rfl | rfl | rfl | rfl | rfl | rfl <;> rfl
  unfold Oper.wp execOp;simp only[he.1,he.2,Sem.run_bind,hg,h1,Result.andThen_ok,Sem.run_pure];exact⟨.b (Q_ WQ X Y),rfl,hk⟩
theorem Ak {dst:A03}{src t ty:TypeId}{x:Operand}{pos:String}{jf:Array Edge}{g:UV}(ss:A01)(d:Nat){q:IntKind}{m:Int}
    (hs:(y7 ops ss L ⟨dst,.convert src t x,ty,pos,jf,g⟩,dst,(decide (d < n)),(L.any fun p=>p.1 == d),(toSS [x] (lk L)).map SV.vals,(P.underlying src).isSome,P.underlying t)=(true,some d,true,false,some [.int q m],true,some (.float .f64)))
    (hk:K ((d,.v (.float .f64 (pF m)))::L) w):yE P n ops L w ⟨dst,.convert src t x,ty,pos,jf,g⟩ K:=by
  simp only[Prod.mk.injEq,A0c,lm] at hs;obtain⟨s1,rfl,s3,s4,⟨svs,s5,s6⟩,s7,s8⟩:=hs;refine zu (xs:=[x]) (svs:=svs) ss (d:=d) (by simp[Side,s1,s3,s4,s5]) fun a ha he=>?_;rw[s6] at he;simp only[kw,List.map_nil,List.cons.injEq,and_true] at he;unfold Oper.wp execOp;simp only[he,Sem.run_bind,fofI_run s7 s8,Result.andThen_ok,Sem.run_pure];exact⟨.v (.float .f64 (pF m)),rfl,hk⟩
theorem Op_fbitsF {dst:A03}{f:FuncId}{xs:Array Operand}{ats:Array TypeId}{ty:TypeId}{pos:String}{jf:Array Edge}{g:UV}(hf:IsFb P f)(ss:A01)(d:Nat){X u:Nat}(hx:Fl X u)(hn:X≠UA)
    (hs:(y7 ops ss L ⟨dst,.call ⟨.value (.func f),xs,ats⟩,ty,pos,jf,g⟩,dst,(decide (d < n)),(L.any fun p=>p.1 == d),(toSS xs.toList (lk L)).map SV.vals)=(true,some d,true,false,some [.float .f64 u]))
    (hk:K ((d,.u64 (UInt64.ofNat X))::L) w):yE P n ops L w ⟨dst,.call ⟨.value (.func f),xs,ats⟩,ty,pos,jf,g⟩ K:=by
  obtain rfl:=hx.bits hn;exact Op_fbits hf ss d _ hx.1 hs hk
end
section
variable {P:Program}{n:Nat}{ops:Array Oper}{L:St}{w:World}{K:St->World->Prop}
end
end
section
section
variable {H:Type}{enc:TypeId×Value->H}{P:Program}{w:World}{held:Bool}
end
end
section
open Go.RowKit Go.MapKept
set_option linter.unusedSimpArgs false
set_option linter.unusedVariables false
variable {α β γ δ ε ζ σ:Type}
abbrev Ky:=AC
abbrev Mp (δ:Type):=List (AC×δ)
@[reducible] def A0A:=List (AC×(Hd×List (AC×Int×Hd)))
@[reducible] def A0B:=Mp WF
@[reducible] def A0C:=List (AC×Hd)
@[reducible] def A0D:=Option ((Int×Mp AC×(Mp A0B)×Bool×Int×PP×NE)⊕(Int×(Mp A0B)×Int×PP×NE)⊕(Int×Mp AC×(Mp A0B)×Bool×Int×(Mp A0B)×Int×PP×NE))
@[reducible] def A0E:=Mp AC
@[reducible] def A0F:=Mp A0B
@[reducible] def A0G:=List Ky
@[reducible] def A0H:=Option ((Int×A0E×AC×Int)⊕((Int×A0E×A0B×Int)⊕(Int×Int×A0E×A0F)))
@[reducible] def A0J:=Mp Int
@[reducible] def A0K:=Mp (Option A0B)
def mM (m:Mp δ):Prop:=(m.map (·.1)).Pairwise (· < ·)
def bn (m:Mp δ)(k:Ky):Option δ:=match m with
  | []=>none
  | p::r=>if p.1=k then some p.2 else bn r k
def gQ (m:Mp δ)(k:Ky)(v:δ):Mp δ:=match m with
  | []=>[(k,v)]
  | p::r=>if k=p.1 then(k,v)::r else if k < p.1 then(k,v)::p::r else p::gQ r k v
def xy (m:Mp δ)(k:Ky):Mp δ:=match m with
  | []=>[]
  | p::r=>if p.1=k then r else p::xy r k
theorem LU (a b:Ky):a < b∨a=b∨b < a:=by
  rcases Decidable.em (a < b) with h | h
  ·exact .inl h
  ·rcases Decidable.em (b < a) with h2 | h2
   ·exact .inr (.inr h2)
   ·exact .inr (.inl (List.le_antisymm (List.not_lt.1 h2) (List.not_lt.1 h)))
theorem mM.nil:mM ([]:Mp δ):=List.Pairwise.nil
theorem mM.cons {p:Ky×δ}{r:Mp δ}:mM (p::r) ↔ (∀ q ∈ r,p.1 < q.1)/\mM r:=by
  unfold mM;rw[kw,List.pairwise_cons];simp only[ww,forall_exists_index,and_imp,forall_apply_eq_imp_iff₂]
theorem mM.nodup {m:Mp δ}(h:mM m):(m.map (·.1)).Nodup:=List.Pairwise.imp (fun {a b} hab (e:a=b)=>List.lt_irrefl b (e▸hab)) h
theorem jD {m:Mp δ}{k:Ky}:bn m k=none ↔ k ∉ m.map (·.1):=by
  induction m with
  | nil=>simp[bn]
  | cons p r ih =>
    unfold bn;by_cases h:p.1=k
    ·simp[h]
    ·rw[if_neg h,ih];simp only[kw,ut,not_or];exact⟨fun hr=>⟨fun e=>h e.symm,hr⟩,fun hr=>hr.2⟩
theorem Am {m:Mp δ}{k:Ky}{v:δ}(h:bn m k=some v):(k,v) ∈ m:=by
  induction m with
  | nil=>cases h
  | cons p r ih =>
    unfold bn at h;by_cases hp:p.1=k
    ·rw[if_pos hp] at h;obtain rfl:=Option.some.inj h;subst hp;exact A0g
    ·rw[if_neg hp] at h;exact A0e _ (ih h)
theorem ku {m:Mp δ}{k:Ky}{v:δ}(hn:(m.map (·.1)).Nodup)(h:(k,v) ∈ m):bn m k=some v:=by
  induction m with
  | nil=>cases h
  | cons p r ih =>
    rw[kw,List.nodup_cons] at hn;unfold bn;rcases ut.1 h with rfl | h
    ·rw[if_pos rfl]
    ·rw[if_neg (by intro e;exact hn.1 (by rw[e];exact ww.2 ⟨_,h,rfl⟩)),ih hn.2 h]
theorem mM.eq {m m':Mp δ}(h:mM m)(h':mM m')(hp:m.Perm m'):m=m':=by
  induction m generalizing m' with
  | nil=>exact(List.Perm.nil_eq hp)
  | cons p r ih =>
    cases m' with
    | nil=>exact absurd hp.symm.nil_eq (by simp)
    | cons q s =>
      rw[mM.cons] at h h';have hpq:p=q:=by
        have h1:p ∈ q::s:=hp.mem_iff.1 A0g;have h2:q ∈ p::r:=hp.mem_iff.2 A0g;rcases ut.1 h1 with e | h1
        ·exact e
        ·rcases ut.1 h2 with e | h2
         ·exact e.symm
         ·exact absurd (List.lt_trans (h.1 q h2) (h'.1 p h1)) (List.lt_irrefl _)
      subst hpq;rw[ih h.2 h'.2 (List.Perm.cons_inv hp)]
theorem WR {m:Mp δ}{k:Ky}(v:δ)(h:k ∉ m.map (·.1)):(gQ m k v).Perm ((k,v)::m):=by
  induction m with
  | nil=>exact .refl _
  | cons p r ih =>
    simp only[kw,ut,not_or] at h;unfold gQ;rw[if_neg h.1];split
    ·exact .refl _
    ·exact(List.Perm.cons _ (ih h.2)).trans (.swap _ _ _)
theorem mins_keys {m:Mp δ}{k:Ky}{v:δ}{q:Ky×δ}(h:q ∈ gQ m k v):q=(k,v)∨(q ∈ m/\(mM m->q.1≠k)):=by
  induction m with
  | nil=>exact .inl (A0d.1 h)
  | cons p r ih =>
    unfold gQ at h;split at h
    ·rename_i he;rcases ut.1 h with h | h
     ·exact .inl h
     ·refine .inr ⟨A0e _ h,fun hs e=>?_⟩;rw[mM.cons] at hs;have:=hs.1 q h;rw[e,he] at this;exact List.lt_irrefl _ this
    ·rename_i hne;split at h
     ·rename_i hlt;rcases ut.1 h with h | h
      ·exact .inl h
      ·refine .inr ⟨h,fun hs e=>?_⟩;rw[mM.cons] at hs;rcases ut.1 h with rfl | h
       ·exact hne e.symm
       ·have:=List.lt_trans hlt (hs.1 q h);rw[e] at this;exact List.lt_irrefl _ this
     ·rcases ut.1 h with rfl | h
      ·exact .inr ⟨A0g,fun _ e=>hne e.symm⟩
      ·rcases ih h with e | ⟨h1,h2⟩
       ·exact .inl e
       ·exact .inr ⟨A0e _ h1,fun hs=>h2 (mM.cons.1 hs).2⟩
theorem mM.gQ {m:Mp δ}(h:mM m)(k:Ky)(v:δ):mM (gQ m k v):=by
  induction m with
  | nil=>rw[Sx.gQ,mM.cons];exact⟨fun q hq=>(by cases hq),mM.nil⟩
  | cons p r ih =>
    rw[mM.cons] at h;unfold Sx.gQ;split
    ·rename_i he;rw[mM.cons];exact⟨fun q hq=>by rw[he];exact h.1 q hq,h.2⟩
    ·rename_i hne;split
     ·rename_i hlt;rw[mM.cons,mM.cons];refine⟨fun q hq=>?_,h⟩;rcases ut.1 hq with rfl | hq
      ·exact hlt
      ·exact List.lt_trans hlt (h.1 q hq)
     ·rename_i hnlt;rw[mM.cons];refine⟨fun q hq=>?_,ih h.2⟩;rcases mins_keys hq with rfl | ⟨hq,_⟩
      ·rcases LU k p.1 with q | q | q
       ·exact absurd q hnlt
       ·exact absurd q hne
       ·exact q
      ·exact h.1 q hq
theorem mins_set {m:Mp δ}(h:mM m){k:Ky}{v0:δ}(v:δ)(hm:(k,v0) ∈ m):∃ a b,m=a++(k,v0)::b/\gQ m k v=a++(k,v)::b:=by
  induction m with
  | nil=>cases hm
  | cons p r ih =>
    rw[mM.cons] at h;rcases ut.1 hm with rfl | hm
    ·refine⟨[],r,rfl,?_⟩;unfold gQ;rw[if_pos rfl];rfl
    ·have hlt:=h.1 _ hm;have hne:¬ k=p.1:=fun e=>by
       have h1:p.1 < k:=hlt;rw[e] at h1;exact List.lt_irrefl _ h1
     have hnlt:¬ k < p.1:=fun e=>List.lt_irrefl _ (List.lt_trans hlt e);obtain⟨a,b,e1,e2⟩:=ih h.2 hm;refine⟨p::a,b,by rw[e1];rfl,?_⟩;unfold gQ;rw[if_neg hne,if_neg hnlt,e2];rfl
theorem Nr {m:Mp δ}{k:Ky}(h:k ∉ m.map (·.1)):xy m k=m:=by
  induction m with
  | nil=>rfl
  | cons p r ih =>
    simp only[kw,ut,not_or] at h;unfold xy;rw[if_neg (fun e=>h.1 e.symm),ih h.2]
theorem Zv (m:Mp δ)(k:Ky):(xy m k).Sublist m:=by
  induction m with
  | nil=>exact .refl _
  | cons p r ih =>
    unfold xy;split
    ·exact List.sublist_cons_self _ _
    ·exact ih.cons_cons _
theorem mM.xy {m:Mp δ}(h:mM m)(k:Ky):mM (xy m k):=List.Pairwise.sublist ((Zv m k).map _) h
theorem Rh {m:Mp δ}{k:Ky}{v:δ}(hm:(k,v) ∈ m)(hn:(m.map (·.1)).Nodup):m.Perm ((k,v)::xy m k):=by
  induction m with
  | nil=>cases hm
  | cons p r ih =>
    rw[kw,List.nodup_cons] at hn;unfold xy;rcases ut.1 hm with rfl | hm
    ·rw[if_pos rfl]
    ·rw[if_neg (by intro e;exact hn.1 (by rw[e];exact ww.2 ⟨_,hm,rfl⟩))];exact(List.Perm.cons _ (ih hm hn.2)).trans (.swap _ _ _)
theorem mfind_mdel {m:Mp δ}(h:mM m)(k k':Ky):bn (xy m k) k'=if k=k' then none else bn m k':=by
  induction m with
  | nil=>unfold xy bn;split <;> rfl
  | cons p r ih =>
    have hs:=h;rw[mM.cons] at h;unfold xy;split
    ·rename_i he;by_cases hk:k=k'
     ·rw[if_pos hk,jD];intro hm;obtain⟨q,hq,e⟩:=ww.1 hm;have:=h.1 q hq;rw[he,hk,e] at this;exact List.lt_irrefl _ this
     ·rw[if_neg hk,bn,if_neg (fun e=>hk (he.symm.trans e))]
    ·rename_i hne;rw[bn,bn,ih h.2];by_cases hp:p.1=k'
     ·rw[if_pos hp,if_pos hp,if_neg (fun e=>hne (hp.trans e.symm))]
     ·rw[if_neg hp,if_neg hp]
theorem mM.ext {m m':Mp δ}(h:mM m)(h':mM m')(he:∀ k,bn m k=bn m' k):m=m':=by
  refine h.eq h' ((List.perm_ext_iff_of_nodup ?_ ?_).2 fun p=>?_)
  ·exact(List.pairwise_map.1 h.nodup).imp (fun hne e=>hne (by rw[e]))
  ·exact(List.pairwise_map.1 h'.nodup).imp (fun hne e=>hne (by rw[e]))
  ·obtain⟨k,v⟩:=p;constructor
   ·intro hm;exact Am ((he k)▸ku h.nodup hm)
   ·intro hm;exact Am ((he k).symm▸ku h'.nodup hm)
def jB {ε σ:Type}(f:σ->ε->Option σ):σ->List ε->Option σ
  | s,[]=>some s
  | s,x::l=>(f s x).bind fun s'=>jB f s' l
def Comm (f:σ->Ky×δ->Option σ):Prop:=∀ s a b,a.1≠b.1->(f s a).bind (fun s'=>f s' b)=(f s b).bind (fun s'=>f s' a)
theorem foldO_perm {f:σ->Ky×δ->Option σ}(hc:Comm f){l l':Mp δ}(hp:l.Perm l'):∀ s,(l.map (·.1)).Nodup->jB f s l=jB f s l':=by
  induction hp with
  | nil=>intro s _;rfl
  | cons x _ ih =>
    intro s hn;rw[kw,List.nodup_cons] at hn;simp only[jB];congr 1;funext s';exact ih s' hn.2
  | swap x y l =>
    intro s hn;rw[kw,kw,List.nodup_cons] at hn;simp only[jB];have hne:y.1≠x.1:=fun e=>hn.1 (by rw[e];exact A0g);have:=hc s y x hne;rw[<- Option.bind_assoc,this,Option.bind_assoc]
  | trans h1 h2 ih1 ih2 =>
    intro s hn;rw[ih1 s hn,ih2 s (((h1.map _).nodup_iff).1 hn)]
theorem yw {f:σ->Ky×δ->Option σ}(hc:Comm f){l l':Mp δ}{x:Ky×δ}{s r:σ}(hp:l.Perm (x::l'))(hn:(l.map (·.1)).Nodup)(h:jB f s l=some r):∃ s',f s x=some s'/\jB f s' l'=some r:=by
  rw[foldO_perm hc hp s hn,jB,A0v] at h;exact h
theorem Ap {f:σ->ε->Option σ}{l:List ε}{s r:σ}(hl:l=[])(h:jB f s l=some r):s=r:=by
  subst hl;exact Option.some.inj h
end
section
open Go.RowKit Go.MapKept
set_option linter.unusedSimpArgs false
set_option linter.unusedVariables false
variable {α β γ δ ε ζ σ ι:Type}
def Px (φ:ι->Prop)(l:ι->List HP):HP where
  p w S R:=∃ i,φ i/\Sep w (l i) S R
  loc:=by
    rintro w w' S R ⟨i,h0,h⟩ hk;exact⟨i,h0,h.keep hk⟩
section
variable {F O:Nat->Prop}{w0 w w':World}{hs rest:List HP}
theorem Cx.X6 {φ:ι->Prop}{l:ι->List HP}(k:Cx F O w0 w (Px φ l::rest)):∃ i,φ i/\Cx F O w0 w (l i++rest):=by
  obtain⟨U,V,⟨S,R,U',V',⟨i,hq,h1⟩,h2,h3,h4,h5,h6⟩,hU,hV⟩:=k.sep;exact⟨i,hq,k.os,k.tape,k.output,k.size,k.block,k.fin,k.QT,_,_,Sep.join h1 h2 (fun b hb=>⟨(h5 b hb).1,(h5 b hb).2.2⟩) h6,fun b hb=>hU b ((h3 b).2 hb),fun b hb=>hV b ((h4 b).2 hb)⟩
theorem Cx.dopx {φ:ι->Prop}{l:ι->List HP}(i:ι)(hq:φ i)(k:Cx F O w0 w (l i++rest)):Cx F O w0 w (Px φ l::rest):=by
  obtain⟨U,V,h,hU,hV⟩:=k.sep;obtain⟨U1,V1,U2,V2,e1,e2,e3,e4,e5,e6⟩:=Sep.split h;exact⟨k.os,k.tape,k.output,k.size,k.block,k.fin,k.QT,U,V,⟨U1,V1,U2,V2,⟨i,hq,e1⟩,e2,e3,e4,fun b hb=>⟨(e5 b hb).1,fun hr=>Sep.apart e1 b hb hr,(e5 b hb).2⟩,e6⟩,hU,hV⟩
theorem Cx.dupw {h h':HP}(k:Cx F O w0 w hs)(i:Nat)(hi:hs[i]?=some h)(hp:∀ S R,h.p w S R->h'.p w (fun _=>False) R):Cx F O w0 w (h'::hs):=by
  obtain⟨U,V,h1,hU,hV⟩:=k.sep;obtain⟨S,R,U',V',e1,e2,e3,e4,e5,e6⟩:=Sep.cut hi h1;refine⟨k.os,k.tape,k.output,k.size,k.block,k.fin,k.QT,U,V,⟨_,R,U,V,hp _ _ e1,h1,fun b=>⟨.inr,fun h=>h.elim (fun h=>h.elim) id⟩,fun b=>⟨.inr,fun h=>h.elim (fun h=>(e4 b).2 (.inl h)) id⟩,fun b hb=>hb.elim,fun b hb hu=>?_⟩,hU,hV⟩;exact Sep.apart h1 b hu ((e4 b).2 (.inl hb))
end
structure Vl (γ δ:Type) where
  V:γ->Value
  q:Rl γ δ
  inj:∀ a b,V a=V b->a=b
def vI:Vl Int Int:=⟨fun y=>.int .i64 y,SQ,fun a b h=>by simpa using h⟩
def vH (E:Enc α):Vl Hd (List α):=⟨hV,SH E,fun a b h=>by
  obtain⟨a1,a2,a3⟩:=a;obtain⟨b1,b2,b3⟩:=b;simp only[hV,Value.slice.injEq] at h;obtain⟨rfl,rfl,rfl⟩:=h;rfl⟩
def vS (E:Enc α)(hE:∀ a b,E.f a=E.f b->a=b):Vl α α:=⟨fun y=>.agg ⟨E.f y⟩,SQ,fun a b h=>by
  simp only[Value.agg.injEq,Array.mk.injEq] at h;exact hE a b h⟩
def kx (e:Ky×γ×δ):Ky×δ:=(e.1,e.2.2)
def MbF (w:World)(b:Nat)(ks:A0G)(vs:List Value):Prop :=
  ks.length=vs.length/\∃ (es:Array MapEntry) (clock:Nat),w.heap[b]?=some (.map es clock)/\es.toList.map (·.key)=ks.map kV/\es.toList.map (·.val)=vs/\Stamped es clock
def yg (l:List (Ky×γ×δ)):A0G:=l.map (·.1)
def GG (v:Vl γ δ)(l:List (Ky×γ×δ)):List Value:=l.map fun e=>v.V e.2.1
def Fits (m:Mp δ)(l:List (Ky×γ×δ)):Prop:=(l.map kx).Perm m/\mM m
def MS (v:Vl γ δ)(b:Nat)(m:Mp δ):HP:=Px (Fits (γ:=γ) m) fun l=>[Mb b (yg l) (GG v l),Sh v.q (l.map (·.2.1)) (l.map (·.2.2))]
def RM (v:Vl γ δ):Rl Nat (Mp δ) where
  r w R b m:=R b/\∃ l:List (Ky×γ×δ),Fits m l/\MbF w b (yg l) (GG v l)/\∀ e ∈ l,v.q.r w R e.2.1 e.2.2
  loc:=by
    rintro w w' R b m ⟨h0,l,h1,⟨h2,es,clock,h3,h4⟩,h5⟩ hk;exact⟨h0,l,h1,⟨h2,es,clock,by rw[hk b h0];exact h3,h4⟩,fun e he=>v.q.loc _ _ _ _ _ (h5 e he) hk⟩
  mono:=by
    rintro w R R' b m hR ⟨h0,l,h1,h2,h5⟩;exact⟨hR _ h0,l,h1,h2,fun e he=>v.q.mono _ _ _ _ _ hR (h5 e he)⟩
def vM (v:Vl γ δ):Vl Nat (Mp δ):=⟨fun b=>.map (some b),RM v,fun a b h=>by simpa using h⟩
theorem Fits.none {m:Mp δ}{l:List (Ky×γ×δ)}(h:Fits m l){key:Ky}(hk:Cj (yg l) key=none):bn m key=none:=by
  rw[jD];rw[J5] at hk;intro q;apply hk;obtain⟨p,hp,rfl⟩:=ww.1 q;obtain⟨e,he,rfl⟩:=ww.1 (h.1.mem_iff.2 hp);exact ww.2 ⟨e,he,rfl⟩
theorem Fits.some {m:Mp δ}{l:List (Ky×γ×δ)}(h:Fits m l){key:Ky}{j:Nat}(hk:Cj (yg l) key=some j):∃ e,l[j]?=some e/\e.1=key/\bn m key=some e.2.2:=by
  have h1:=Uy hk;unfold yg at h1;rw[List.getElem?_map,A0c] at h1;obtain⟨e,he,h2⟩:=h1;refine⟨e,he,h2,ku h.2.nodup ?_⟩;rw[<- h2];exact h.1.mem_iff.1 (ww.2 ⟨e,List.mem_of_getElem? he,rfl⟩)
theorem Fits.len {m:Mp δ}{l:List (Ky×γ×δ)}(h:Fits m l):(yg l).length=m.length:=by
  have:=h.1.length_eq;simpa [yg] using this
section
variable {F O:Nat->Prop}{w0 w w':World}{hs rest:List HP}
def Acc (F O:Nat->Prop)(w0 w:World)(v:Vl γ δ)(b:Nat)(m:Mp δ)(hs:List HP):Prop :=
  ∃ l:List (Ky×γ×δ),Fits m l/\MbF w b (yg l) (GG v l)/\∀ e ∈ l,Cx F O w0 w (Sh v.q [e.2.1] [e.2.2]::hs)
theorem mb_f {b:Nat}{ks:A0G}{vs:List Value}{S R:Nat->Prop}(h:(Mb b ks vs).p w S R):MbF w b ks vs:=⟨h.1,h.2.1⟩
theorem Cx.acc {v:Vl γ δ}{b:Nat}{m:Mp δ}(k:Cx F O w0 w (MS v b m::rest)):Acc F O w0 w v b m (MS v b m::rest):=by
  obtain⟨l,hf,k1⟩:=k.X6;obtain⟨S,R,hb⟩:=k1.get 0 rfl;refine⟨l,hf,mb_f hb,fun e he=>?_⟩;refine k.dupw 0 rfl fun S R ⟨l',hf',hs'⟩=>?_;obtain⟨S1,R1,U1,V1,e1,e2,e3,e4,_⟩:=Sep.cut (i:=0) rfl hs';obtain⟨S2,R2,U2,V2,g1,g2,g3,g4,_⟩:=Sep.cut (i:=0) rfl e2;obtain⟨_,es,clock,m1,m2,m3,_⟩:=mb_f hb;obtain⟨_,es',clock',n1,n2,n3,_⟩:=mb_f e1;rw[m1] at n1;obtain⟨rfl,rfl⟩:es=es'/\clock=clock':=by simpa using n1
  obtain⟨j,hj⟩:=List.getElem?_of_mem he;have hk:(yg l)[j]?=(yg l')[j]?:=by
    have:(yg l).map kV=(yg l').map kV:=m2.symm.trans n2;have h1:=congrArg (fun x=>x[j]?) this;simp only[List.getElem?_map] at h1;cases ha:(yg l)[j]? <;> cases hb:(yg l')[j]? <;> rw[ha,hb] at h1 <;> simp at h1 <;> first | rfl | rw[LK h1]
  have hv:(GG v l)[j]?=(GG v l')[j]?:=by rw[<- m3,<-n3]
  unfold yg at hk;unfold GG at hv;rw[List.getElem?_map,List.getElem?_map,hj] at hk hv;cases hj':l'[j]? with
  | none=>rw[hj'] at hk;cases hk
  | some e' =>
    rw[hj'] at hk hv;simp only[Option.map_some,Option.some.injEq] at hk hv;have hy:=v.inj _ _ hv;have hx:e.2.2=e'.2.2:=by
      have q1:=ku hf.2.nodup (hf.1.mem_iff.1 (ww.2 ⟨e,he,rfl⟩));have q2:=ku hf'.2.nodup (hf'.1.mem_iff.1 (ww.2 ⟨e',List.mem_of_getElem? hj',rfl⟩));rw[hk] at q1;exact Option.some.inj (q1.symm.trans q2)
    refine⟨fun _ h=>h,rfl,fun j2 y x h1 h2=>?_⟩;cases j2 with
    | succ j2=>cases h1
    | zero =>
      obtain rfl:=Option.some.inj h1;obtain rfl:=Option.some.inj h2;rw[hy,hx];refine v.q.mono _ _ _ _ _ (fun b hb=>(e4 b).2 (.inr ((g4 b).2 (.inl hb)))) (g1.2.2 j _ _ ?_ ?_)
      ·rw[List.getElem?_map,hj'];rfl
      ·rw[List.getElem?_map,hj'];rfl
theorem Cx.VY {v:Vl γ δ}{b:Nat}{m:Mp δ}(k:Cx F O w0 w hs)(i:Nat)(hi:hs[i]?=some (Sh (RM v) [b] [m])):Acc F O w0 w v b m hs:=by
  obtain⟨S,R,hh⟩:=k.get i hi;obtain⟨_,l,hf,hm,_⟩:=hh.2.2 0 _ _ rfl rfl;refine⟨l,hf,hm,fun e he=>?_⟩;refine k.dupw i hi fun S R hh'=>?_;obtain⟨_,l',hf',hm',hq⟩:=hh'.2.2 0 _ _ rfl rfl;obtain⟨_,es,clock,m1,m2,m3,_⟩:=hm;obtain⟨_,es',clock',n1,n2,n3,_⟩:=hm';rw[m1] at n1;obtain⟨rfl,rfl⟩:es=es'/\clock=clock':=by simpa using n1
  obtain⟨j,hj⟩:=List.getElem?_of_mem he;have hk:(yg l)[j]?=(yg l')[j]?:=by
    have:(yg l).map kV=(yg l').map kV:=m2.symm.trans n2;have h1:=congrArg (fun x=>x[j]?) this;simp only[List.getElem?_map] at h1;cases ha:(yg l)[j]? <;> cases hb:(yg l')[j]? <;> rw[ha,hb] at h1 <;> simp at h1 <;> first | rfl | rw[LK h1]
  have hv:(GG v l)[j]?=(GG v l')[j]?:=by rw[<- m3,<-n3]
  unfold yg at hk;unfold GG at hv;rw[List.getElem?_map,List.getElem?_map,hj] at hk hv;cases hj':l'[j]? with
  | none=>rw[hj'] at hk;cases hk
  | some e' =>
    rw[hj'] at hk hv;simp only[Option.map_some,Option.some.injEq] at hk hv;have hy:=v.inj _ _ hv;have hx:e.2.2=e'.2.2:=by
      have q1:=ku hf.2.nodup (hf.1.mem_iff.1 (ww.2 ⟨e,he,rfl⟩));have q2:=ku hf'.2.nodup (hf'.1.mem_iff.1 (ww.2 ⟨e',List.mem_of_getElem? hj',rfl⟩));rw[hk] at q1;exact Option.some.inj (q1.symm.trans q2)
    refine⟨fun _ h=>h,rfl,fun j2 y x h1 h2=>?_⟩;cases j2 with
    | succ j2=>cases h1
    | zero =>
      obtain rfl:=Option.some.inj h1;obtain rfl:=Option.some.inj h2;rw[hy,hx];exact hq e' (List.mem_of_getElem? hj')
theorem Cx.doms {v:Vl γ δ}{b:Nat}{m:Mp δ}(l:List (Ky×γ×δ))(hf:Fits m l)(k:Cx F O w0 w (Mb b (yg l) (GG v l)::Sh v.q (l.map (·.2.1)) (l.map (·.2.2))::rest)):Cx F O w0 w (MS v b m::rest) :=
  Cx.dopx (φ:=Fits (γ:=γ) m) (l:=fun l=>[Mb b (yg l) (GG v l),Sh v.q (l.map (·.2.1)) (l.map (·.2.2))]) l hf k
theorem Cx.IX {v:Vl γ δ}{b:Nat}(k:Cx F O w0 w (hs++[Mb b [] []])):Cx F O w0 w (MS v b []::hs):=by
  refine Cx.doms [] ⟨.refl _,mM.nil⟩ ?_;have k1:Cx F O w0 w (Mb b [] []::hs):=k.perm (A0t (l₂:=[_]));exact(k1.shz v.q).perm (.swap _ _ _)
theorem Cx.mshare {v:Vl γ δ}{b:Nat}{m:Mp δ}(k:Cx F O w0 w (MS v b m::rest)):Cx F O w0 w (Sh (RM v) [b] [m]::rest):=by
  have:=k.upd (h':=Sh (RM v) [b] [m]) 0 rfl Option.none ⟨rfl,rfl,rfl,Nat.le_refl _,fun _ _ _=>rfl⟩ fun S R h1 h2 h3=>by
    refine⟨fun g hg=>(by cases hg),fun _=>False,fun b=>R b∨S b,⟨fun _ h=>h,rfl,fun j y x e1 e2=>?_⟩,fun b hb=>hb.elim,fun b hb=>⟨h3 b (hb.elim .inr .inl),hb.elim .inl (fun h=>.inr (.inl h))⟩⟩;cases j with
    | succ j=>cases e1
    | zero =>
      obtain rfl:=Option.some.inj e1;obtain rfl:=Option.some.inj e2;obtain⟨l,hf,hs'⟩:=h1;obtain⟨S1,R1,U1,V1,e1,e2,e3,e4,_⟩:=Sep.cut (i:=0) rfl hs';obtain⟨S2,R2,U2,V2,g1,g2,g3,g4,_⟩:=Sep.cut (i:=0) rfl e2;refine⟨.inr ((e3 _).2 (.inl e1.2.2)),l,hf,mb_f e1,fun e he=>?_⟩;obtain⟨j,hj⟩:=List.getElem?_of_mem he;refine v.q.mono _ _ _ _ _ (fun b hb=>.inl ((e4 b).2 (.inr ((g4 b).2 (.inl hb))))) (g1.2.2 j _ _ ?_ ?_)
      ·rw[List.getElem?_map,hj];rfl
      ·rw[List.getElem?_map,hj];rfl
  simpa only [A0y] using this
end
section
variable {P:Program}{n:Nat}{ops:Array Oper}{L:St}{w w0:World}{F O:Nat->Prop}{hs rest:List HP}{K:St->World->Prop}{v:Vl γ δ}{b:Nat}{m:Mp δ}
theorem Zw {t kt e:TypeId}{key:Ky}{ks:A0G}{vs:List Value}{z:Value}(hF:MbF w b ks vs)(s7:P.underlying t=some (.map kt e))(s8:P.underlying kt=some .string)(hz:(zeroValue e).run P w=.ok z w)(ok:Bool) :
    (Cj ks key=none/\(Instr.lookup t (.map (some b)) (kV key) ok).run P w=.ok (if ok then .tuple #[z,.bool false] else z) w) ∨
    ∃ j val,Cj ks key=some j/\vs[j]?=some val/\(Instr.lookup t (.map (some b)) (kV key) ok).run P w=.ok (if ok then .tuple #[val,.bool true] else val) w:=by
  obtain⟨hl,es,clock,m1,m2,m3,m4⟩:=hF;have hck:=run_checkKey (P:=P) (w:=w) s8 (show IsKey .string (kV key) from trivial) es.isEmpty 9999;rcases PT (d:=.string) rfl (k:=key) m2 m4.2.2 with⟨f1,f2⟩ | ⟨j,en,f1,f2,f3,f4⟩
  ·refine .inl ⟨f1,?_⟩;unfold Instr.lookup;simp only[Sem.run_bind,run_underlying s7,Result.andThen_ok,MapKept.run_getObj_map m1,Sem.run_pure,hck,run_findKey s8 f2,hz]
  ·refine .inr ⟨j,en.val,f1,?_,?_⟩
   ·rw[<- m3,List.getElem?_map,f3];rfl
   ·unfold Instr.lookup;simp only[Sem.run_bind,run_underlying s7,Result.andThen_ok,MapKept.run_getObj_map m1,Sem.run_pure,hck,run_findKey s8 f2]
theorem PV {dst:A03}{t kt e ty:TypeId}{x y:Operand}{pos:String}{jf:Array Edge}{g:UV}{ok:Bool}(ss:A01)(d:Nat){key:Ky}{z:Value}
    (hside:(y7 ops ss L ⟨dst,.lookup t x y ok,ty,pos,jf,g⟩,dst,(decide (d < n)),(L.any fun p=>p.1 == d),(toSS [x,y] (lk L)).map SV.vals,P.underlying t,P.underlying kt)=(true,some d,true,false,some [.map (some b),kV key],some (.map kt e),some .string))
    (hz:(zeroValue e).run P w=.ok z w) (hA:Acc F O w0 w v b m hs)
    (h0:bn m key=none->K ((d,if ok then .qA [.v z,.b false] else .v z)::L) w)
    (h1:∀ u a,bn m key=some a->Cx F O w0 w (Sh v.q [u] [a]::hs)->K ((d,if ok then .qA [.v (v.V u),.b true] else .v (v.V u))::L) w) :
    yE P n ops L w ⟨dst,.lookup t x y ok,ty,pos,jf,g⟩ K:=by
  simp only[Prod.mk.injEq,A0c,lm] at hside;obtain⟨s1,rfl,s3,s4,⟨svs,s5,s6⟩,s7,s8⟩:=hside;refine zu (xs:=[x,y]) (svs:=svs) ss (d:=d) (by simp[Side,s1,s3,s4,s5]) fun a ha he=>?_;rw[s6] at he;simp only[kw,List.map_nil,List.cons.injEq,and_true] at he;obtain⟨l,hf,hm,hq⟩:=hA;rcases Zw hm s7 s8 hz ok (key:=key) with⟨f1,f2⟩ | ⟨j,val,f1,f2,f3⟩
  ·unfold Oper.wp execOp;simp only[he.1,he.2,Sem.run_bind,f2,Result.andThen_ok,Sem.run_pure];exact⟨if ok then .qA [.v z,.b false] else .v z,by cases ok <;> rfl,h0 (hf.none f1)⟩
  ·obtain⟨en,e1,e2,e3⟩:=hf.some f1;unfold GG at f2;rw[List.getElem?_map,e1] at f2;obtain rfl:=Option.some.inj f2;unfold Oper.wp execOp;simp only[he.1,he.2,Sem.run_bind,f3,Result.andThen_ok,Sem.run_pure];exact⟨if ok then .qA [.v (v.V en.2.1),.b true] else .v (v.V en.2.1),by cases ok <;> rfl,h1 _ _ e3 (hq en (List.mem_of_getElem? e1))⟩
theorem Zx {dst:A03}{t kt e ty:TypeId}{x y:Operand}{pos:String}{jf:Array Edge}{g:UV}{ok:Bool}{v:Vl α α}{m:Mp α}(hv:v.q=SQ)(ss:A01)(d:Nat){key:Ky}(z:α)(sv:SV)
    (hside:(y7 ops ss L ⟨dst,.lookup t x y ok,ty,pos,jf,g⟩,dst,(decide (d < n)),(L.any fun p=>p.1 == d),(toSS [x,y] (lk L)).map SV.vals,P.underlying t,P.underlying kt)=(true,some d,true,false,some [.map (some b),kV key],some (.map kt e),some .string))
    (hz:(zeroValue e).run P w=.ok (v.V z) w) (hA:Acc F O w0 w v b m hs) (hsv:SV.val sv=v.V ((bn m key).getD z))
    (h1:K ((d,if ok then .qA [sv,.b (bn m key).isSome] else sv)::L) w) :
    yE P n ops L w ⟨dst,.lookup t x y ok,ty,pos,jf,g⟩ K:=by
  simp only[Prod.mk.injEq,A0c,lm] at hside;obtain⟨s1,rfl,s3,s4,⟨svs,s5,s6⟩,s7,s8⟩:=hside;refine zu (xs:=[x,y]) (svs:=svs) ss (d:=d) (by simp[Side,s1,s3,s4,s5]) fun a ha he=>?_;rw[s6] at he;simp only[kw,List.map_nil,List.cons.injEq,and_true] at he;obtain⟨l,hf,hm,hq⟩:=hA;have key2:∃ val is,(Instr.lookup t (.map (some b)) (kV key) ok).run P w=.ok (if ok then .tuple #[val,.bool is] else val) w/\val=SV.val sv/\is=(bn m key).isSome:=by
    rcases Zw hm s7 s8 hz ok (key:=key) with⟨f1,f2⟩ | ⟨j,val,f1,f2,f3⟩
    ·exact⟨v.V z,false,f2,by rw[hsv,hf.none f1];rfl,by rw[hf.none f1];rfl⟩
    ·obtain⟨en,e1,e2,e3⟩:=hf.some f1;unfold GG at f2;rw[List.getElem?_map,e1] at f2;obtain rfl:=Option.some.inj f2;have hk:=hq en (List.mem_of_getElem? e1);obtain⟨S,R,hh⟩:=hk.get 0 rfl;have hr:=hh.2.2 0 _ _ rfl rfl;rw[hv] at hr;have hr':en.2.1=en.2.2:=hr;exact⟨v.V en.2.1,true,f3,by rw[hsv,e3,hr'];rfl,by rw[e3];rfl⟩
  obtain⟨val,is,r1,r2,r3⟩:=key2;unfold Oper.wp execOp;simp only[he.1,he.2,Sem.run_bind,r1,Result.andThen_ok,Sem.run_pure];refine⟨if ok then .qA [sv,.b (bn m key).isSome] else sv,?_,h1⟩;cases ok
  ·simp only[A0z,if_false,r2]
  ·simp only[if_true,r2,r3];rfl
theorem LV {dst:A03}{x:Operand}{t kt e ty:TypeId}{pos:String}{jf:Array Edge}{g:UV}(ss:A01)(d:Nat)
    (hside:(y7 ops ss L ⟨dst,.call ⟨.builtin .len,#[x],#[t]⟩,ty,pos,jf,g⟩,dst,(decide (d < n)),(L.any fun p=>p.1 == d),(toSS [x] (lk L)).map SV.vals,P.underlying t)=(true,some d,true,false,some [.map (some b)],some (.map kt e)))
    (hA:Acc F O w0 w v b m hs) (hk:K ((d,I ((m.length:Nat):Int))::L) w) :
    yE P n ops L w ⟨dst,.call ⟨.builtin .len,#[x],#[t]⟩,ty,pos,jf,g⟩ K:=by
  simp only[Prod.mk.injEq,A0c,lm] at hside;obtain⟨s1,rfl,s3,s4,⟨svs,s5,s6⟩,s7⟩:=hside;refine zu (xs:=[x]) (svs:=svs) ss (d:=d) (by simp[Side,s1,s3,s4,s5]) fun a ha he=>?_;rw[s6] at he;simp only[kw,List.map_nil,List.cons.injEq,and_true] at he;obtain⟨l,hf,⟨hl,es,clock,m1,m2,m3,m4⟩,hq⟩:=hA;have hsz:es.size=m.length:=by
    have:=congrArg List.length m2;rw[<- hf.len];simpa using this
  have hrun:(Builtin.len_ #[t] ty #[.map (some b)]).run P w=.ok (.int .i64 ((m.length:Nat):Int)) w:=by
    unfold Builtin.len_;simp[Sem.run_bind,run_underlying s7,Result.andThen_ok,MapKept.run_getObj_map m1,goInt,hsz,Result.andThen]
  unfold Oper.wp execOp;simp only[resolve,invoke,builtin,Sem.run_bind,Sem.run_pure,Result.andThen_ok,List.map_toArray,kw,List.map_nil,he,hrun];exact⟨_,rfl,hk⟩
theorem Iy {t kt e ty:TypeId}{mo y x:Operand}{pos:String}{jf:Array Edge}{g:UV}(ss:A01){key:Ky}{u:γ}{a:δ}
    (hside:(y7 ops ss L (⟨none,.mapUpdate t mo y x,ty,pos,jf,g⟩:Oper),(toSS [mo,y,x] (lk L)).map SV.vals,P.underlying t,P.underlying kt)=(true,some [.map (some b),kV key,v.V u],some (.map kt e),some .string))
    (k:Cx F O w0 w (MS v b m::Sh v.q [u] [a]::rest)) (hk:∀ w',Cx F O w0 w' (MS v b (gQ m key a)::rest)->K L w') :
    yE P n ops L w ⟨none,.mapUpdate t mo y x,ty,pos,jf,g⟩ K:=by
  obtain⟨l,hf,k1⟩:=k.X6;refine Op_upd ss 0 (v.V u) hside k1 rfl fun w' k'=>hk w' ?_;have k2:Cx F O w0 w' (Sh v.q (l.map (·.2.1)) (l.map (·.2.2))::Sh v.q [u] [a]::Mb b (LM (yg l) key) (LP (yg l) (GG v l) key (v.V u))::rest):=by
    have k3:Cx F O w0 w' (Mb b (LM (yg l) key) (LP (yg l) (GG v l) key (v.V u))::Sh v.q (l.map (·.2.1)) (l.map (·.2.2))::Sh v.q [u] [a]::rest):=k';exact k3.perm ((List.Perm.swap _ _ _).trans (.cons _ (.swap _ _ _)))
  have k3:=k2.sha;cases hfd:Cj (yg l) key with
  | none =>
    have hnk:key ∉ m.map (·.1):=by rw[<- jD];exact hf.none hfd
    refine Cx.doms (l++[(key,u,a)]) ⟨?_,hf.2.gQ key a⟩ ?_
    ·rw[List.map_append];exact(List.perm_append_comm.trans (List.Perm.cons _ hf.1)).trans (WR a hnk).symm
    ·have e1:LM (yg l) key=yg (l++[(key,u,a)]):=by unfold LM;rw[hfd];simp[yg]
     have e2:LP (yg l) (GG v l) key (v.V u)=GG v (l++[(key,u,a)]):=by unfold LP;rw[hfd];simp[GG]
     rw[e1,e2] at k3;have e3:(l++[(key,u,a)]).map (·.2.1)=l.map (·.2.1)++[u]:=by simp
     have e4:(l++[(key,u,a)]).map (·.2.2)=l.map (·.2.2)++[a]:=by simp
     show Cx F O w0 w' (Mb b _ _::Sh v.q _ _::rest);rw[e3,e4];exact k3.perm (.swap _ _ _)
  | some j =>
    obtain⟨en,f1,f2,f3⟩:=hf.some hfd;have hj:j < l.length:=(A0w.1 f1).1;have hen:l[j]=en:=(A0w.1 f1).2;refine Cx.doms (l.set j (key,u,a)) ⟨?_,hf.2.gQ key a⟩ ?_
    ·obtain⟨x1,x2,g1,g2⟩:=mins_set hf.2 a (Am f3);rw[g2];have p1:((l.set j (key,u,a)).map kx).Perm ((key,a)::(l.eraseIdx j).map kx):=by
       have:=PS (l:=l) (i:=j) (key,u,a) hj;exact(this.symm.map kx)
     have p2:(l.map kx).Perm ((key,en.2.2)::(l.eraseIdx j).map kx):=by
       have:=GV f1;refine(this.map kx).trans ?_;rw[kw,show kx en=(key,en.2.2) from by unfold kx;rw[f2]]
     have p3:((key,en.2.2)::(l.eraseIdx j).map kx).Perm ((key,en.2.2)::(x1++x2)):=by
       refine p2.symm.trans (hf.1.trans ?_);rw[g1];exact List.perm_middle
     exact p1.trans ((List.Perm.cons _ (List.Perm.cons_inv p3)).trans List.perm_middle.symm)
    ·have e1:LM (yg l) key=yg (l.set j (key,u,a)):=by
       unfold LM;rw[hfd];unfold yg;rw[List.map_set];apply List.ext_getElem?;intro q;rw[List.getElem?_set];by_cases hq:j=q
       ·subst hq;rw[if_pos rfl,List.getElem?_map,f1];simp[f2,hj]
       ·rw[if_neg hq]
     have e2:LP (yg l) (GG v l) key (v.V u)=GG v (l.set j (key,u,a)):=by unfold LP;rw[hfd];simp[GG]
     rw[e1,e2] at k3;show Cx F O w0 w' (Mb b _ _::Sh v.q _ _::rest);have k4:Cx F O w0 w' (Sh v.q ((l.set j (key,u,a)).map (·.2.1)) ((l.set j (key,u,a)).map (·.2.2))::Mb b (yg (l.set j (key,u,a))) (GG v (l.set j (key,u,a)))::rest):=by
       have:=k3.weak (h':=Sh v.q ((l.set j (key,u,a)).map (·.2.1)) ((l.set j (key,u,a)).map (·.2.2))) 0 rfl fun w S R ⟨h0,h1,h2⟩=>by
         refine⟨h0,by simp,fun i y x g1 g2=>?_⟩;rw[List.map_set,List.getElem?_set] at g1 g2;split at g1
         ·rename_i hji;rw[if_pos hji] at g2;split at g1
          ·rename_i hlt;rw[if_pos (by simpa using hlt)] at g2;obtain rfl:=Option.some.inj g1;obtain rfl:=Option.some.inj g2;exact h2 l.length _ _ (by rw[List.getElem?_append_right (by simp)];simp) (by rw[List.getElem?_append_right (by simp)];simp)
          ·cases g1
         ·rename_i hji;rw[if_neg hji] at g2;refine h2 i y x ?_ ?_
          ·rw[List.getElem?_append_left (A0w.1 g1).1];exact g1
          ·rw[List.getElem?_append_left (A0w.1 g2).1];exact g2
       simpa only [A0y] using this
     exact k4.perm (.swap _ _ _)
theorem Ns {t kt e ty:TypeId}{mo y x:Operand}{pos:String}{jf:Array Edge}{g:UV}{v:Vl α α}{m:Mp α}(hv:v.q=SQ)(ss:A01){key:Ky}(a:α)
    (hside:(y7 ops ss L (⟨none,.mapUpdate t mo y x,ty,pos,jf,g⟩:Oper),(toSS [mo,y,x] (lk L)).map SV.vals,P.underlying t,P.underlying kt)=(true,some [.map (some b),kV key,v.V a],some (.map kt e),some .string))
    (k:Cx F O w0 w (MS v b m::rest)) (hk:∀ w',Cx F O w0 w' (MS v b (gQ m key a)::rest)->K L w') :
    yE P n ops L w ⟨none,.mapUpdate t mo y x,ty,pos,jf,g⟩ K:=by
  have k1:Cx F O w0 w (Sh v.q [a] [a]::MS v b m::rest):=by rw[hv];exact k.WO a
  exact Iy ss hside (k1.perm (.swap _ _ _)) hk
theorem Op_delM {x y:Operand}{t t2 kt e ty:TypeId}{pos:String}{jf:Array Edge}{g:UV}(ss:A01){key:Ky}
    (hside:(y7 ops ss L (⟨none,.call ⟨.builtin .delete,#[x,y],#[t,t2]⟩,ty,pos,jf,g⟩:Oper),(toSS [x,y] (lk L)).map SV.vals,P.underlying t,P.underlying kt)=(true,some [.map (some b),kV key],some (.map kt e),some .string))
    (k:Cx F O w0 w (MS v b m::rest)) (hk:∀ w',Cx F O w0 w' (MS v b (xy m key)::rest)->K L w') :
    yE P n ops L w ⟨none,.call ⟨.builtin .delete,#[x,y],#[t,t2]⟩,ty,pos,jf,g⟩ K:=by
  obtain⟨l,hf,k1⟩:=k.X6;refine Op_del ss 0 hside k1 rfl fun w' k'=>hk w' ?_;have k3:Cx F O w0 w' (Mb b (Cm (yg l) key) (CB (yg l) (GG v l) key)::Sh v.q (l.map (·.2.1)) (l.map (·.2.2))::rest):=k';cases hfd:Cj (yg l) key with
  | none =>
    have hnk:key ∉ m.map (·.1):=by rw[<- jD];exact hf.none hfd
    rw[Nr hnk];refine Cx.doms l hf ?_;have e1:Cm (yg l) key=yg l:=by unfold Cm;rw[hfd]
    have e2:CB (yg l) (GG v l) key=GG v l:=by unfold CB;rw[hfd]
    rw[e1,e2] at k3;exact k3
  | some j =>
    obtain⟨en,f1,f2,f3⟩:=hf.some hfd;refine Cx.doms (l.eraseIdx j) ⟨?_,hf.2.xy key⟩ ?_
    ·have p2:(l.map kx).Perm ((key,en.2.2)::(l.eraseIdx j).map kx):=by
       refine((GV f1).map kx).trans ?_;rw[kw,show kx en=(key,en.2.2) from by unfold kx;rw[f2]]
     exact List.Perm.cons_inv ((p2.symm.trans hf.1).trans (Rh (Am f3) hf.2.nodup))
    ·have e1:Cm (yg l) key=yg (l.eraseIdx j):=by unfold Cm;rw[hfd];unfold yg;rw[uw]
     have e2:CB (yg l) (GG v l) key=GG v (l.eraseIdx j):=by unfold CB;rw[hfd];unfold GG;rw[uw]
     rw[e1,e2] at k3;have:=k3.weak (h':=Sh v.q ((l.eraseIdx j).map (·.2.1)) ((l.eraseIdx j).map (·.2.2))) 1 rfl fun w S R ⟨h0,h1,h2⟩=>by
       refine⟨h0,by simp,fun i y x g1 g2=>?_⟩;rw[uw,List.getElem?_eraseIdx] at g1 g2;split at g1
       ·rename_i hlt;rw[if_pos hlt] at g2;exact h2 _ _ _ g1 g2
       ·rename_i hlt;rw[if_neg hlt] at g2;exact h2 _ _ _ g1 g2
     exact this
end
end
section
open Go.RowKit Go.MapKept
set_option linter.unusedSimpArgs false
set_option linter.unusedVariables false
variable {α β γ δ ε ζ σ ι:Type}
def MiG (sh:Bool)(b r:Nat)(ks:A0G)(vs:List Value)(left:A0G)(cur:Option Ky):HP where
  p w S R:=ks.length=vs.length/\(∃ (es:Array MapEntry) (clock since c0:Nat) (seen:Array Nat),w.heap[b]?=some (.map es clock)/\es.toList.map (·.key)=ks.map kV/\es.toList.map (·.val)=vs/\Stamped es clock /\
    w.heap[r]?=some (.mapIter (some b) since seen c0)/\(∀ x ∈ es.toList,x.born < since)/\since<=c0/\since<=clock/\((leftOf es seen).toList.map (·.key)).Perm (left.map kV) /\
    (∀ k,cur=some k->∃ e ∈ es.toList,e.key=kV k/\c0=clock/\∃ seen0:Array Nat,seen=seen0.push e.born))/\(if sh=true then R b else S b)/\S r
  loc:=by
    rintro w w' S R ⟨h0,⟨es,clock,since,c0,seen,h1,h2,h3,h4,h5,h6⟩,h7,h8⟩ hk;have hb:S b∨R b:=by cases sh;exact .inl h7;exact .inr h7
    exact⟨h0,⟨es,clock,since,c0,seen,by rw[hk b hb];exact h1,h2,h3,h4,by rw[hk r (.inl h8)];exact h5,h6⟩,h7,h8⟩
theorem PW {ε:Type}(p:ε->Bool):∀ (l:List ε) (j:Nat) (x:ε),l[j]?=some x->p x=false->(l.eraseIdx j).filter p=l.filter p
  | [],_,_,h,_=>by cases h
  | a::l,0,x,h,hp=>by
    obtain rfl:=Option.some.inj h;rw[List.eraseIdx_zero,List.tail_cons,List.filter_cons,if_neg (by rw[hp];decide)]
  | a::l,j+1,x,h,hp=>by
    rw[List.eraseIdx_cons_succ,List.filter_cons,List.filter_cons,PW p l j x h hp]
def MbS (b:Nat)(ks:A0G)(vs:List Value):HP where
  p w S R:=(∀ x,¬ S x)/\R b/\MbF w b ks vs
  loc:=by
    rintro w w' S R ⟨h0,h1,h2,es,clock,h3,h4⟩ hk;exact⟨h0,h1,h2,es,clock,by rw[hk b (.inr h1)];exact h3,h4⟩
section
variable {P:Program}{n:Nat}{ops:Array Oper}{L:St}{w w0:World}{F O:Nat->Prop}{hs rest:List HP}{K:St->World->Prop}
theorem WS {dst:A03}{t kt e ty:TypeId}{x:Operand}{pos:String}{jf:Array Edge}{g:UV}(ss:A01)(d i:Nat){b:Nat}{ks:A0G}{vs:List Value}{h:HP}(sh:Bool)
    (hside:(y7 ops ss L ⟨dst,.range t x,ty,pos,jf,g⟩,dst,(decide (d < n)),(L.any fun p=>p.1 == d),(toSS [x] (lk L)).map SV.vals,P.underlying t)=(true,some d,true,false,some [.map (some b)],some (.map kt e)))
    (k:Cx F O w0 w hs) (hi:hs[i]?=some h) (ha:∀ S R,h.p w S R->MbF w b ks vs/\(if sh=true then R b else S b)) (hk:∀ r w',Cx F O w0 w' (hs.set i (MiG sh b r ks vs ks none))->K ((d,.v (.pointer (some ⟨r,0,none⟩)))::L) w') :
    yE P n ops L w ⟨dst,.range t x,ty,pos,jf,g⟩ K:=by
  simp only[Prod.mk.injEq,A0c,lm] at hside;obtain⟨s1,rfl,s3,s4,⟨svs,s5,s6⟩,s7⟩:=hside;refine zu (xs:=[x]) (svs:=svs) ss (d:=d) (by simp[Side,s1,s3,s4,s5]) fun a ha' he=>?_;rw[s6] at he;simp only[kw,List.map_nil,List.cons.injEq,and_true] at he;obtain⟨S,R,hp⟩:=k.get i hi;obtain⟨⟨hl,es,clock,m1,m2,m3,m4⟩,hS⟩:=ha S R hp;have hrun:=run_range_map (P:=P) w t kt e b es clock s7 m1;unfold Oper.wp execOp;simp only[he,Sem.run_bind,hrun,Result.andThen_ok,Sem.run_pure];refine⟨.v (.pointer (some ⟨w.heap.size,0,none⟩)),rfl,hk w.heap.size _ (k.upd i hi none (World.grownBy_alloc w _ none) fun S R hS hd hlt=>?_)⟩;obtain⟨_,hSb⟩:=ha S R hS;have hblt:b < w.heap.size:=by cases sh;exact hlt b (.inl hSb);exact hlt b (.inr hSb)
  refine⟨fun g hg=>(by cases hg),fun q=>S q∨q=w.heap.size,R,⟨hl,⟨es,clock,clock,clock,#[],?_,m2,m3,m4,(heap_alloc w _).1,m4.1,Nat.le_refl _,Nat.le_refl _,?_,fun k hk=>by cases hk⟩,?_,.inr rfl⟩,fun q hq=>?_,fun q hq=>⟨?_,.inl hq⟩⟩
  ·have hq:∀ o:Obj,(w.alloc o).heap[b]?=w.heap[b]?:=fun o=>by first | exact heap_alloc_old w o hblt | exact heap_alloc_old w o b hblt
   rw[hq];exact m1
  ·unfold leftOf;have:es.filter (fun e=>!(#[]:Array Nat).contains e.born)=es:=Array.filter_eq_self.2 (fun x hx=>by simp);rw[this,m2]
  ·cases sh
   ·exact .inl hSb
   ·exact hSb
  ·rcases hq with hq | rfl
   ·exact⟨by rw[World.size_alloc];have:=hlt q (.inl hq);omega,hd q hq,.inl hq⟩
   ·exact⟨by rw[World.size_alloc];omega,fun hr=>by have:=hlt _ (.inr hr);omega,.inr (Nat.le_refl _)⟩
  ·rw[World.size_alloc];have:=hlt q (.inr hq);omega
theorem Op_nextG {dst:A03}{ty:TypeId}{x:Operand}{pos:String}{jf:Array Edge}{g:UV}(ss:A01)(d i:Nat){sh:Bool}{b r:Nat}{ks left:A0G}{vs:List Value}{cur:Option Ky}
    (hside:(y7 ops ss L ⟨dst,.next x false,ty,pos,jf,g⟩,dst,(decide (d < n)),(L.any fun p=>p.1 == d),(toSS [x] (lk L)).map SV.vals)=(true,some d,true,false,some [.pointer (some ⟨r,0,none⟩)]))
    (k:Cx F O w0 w hs) (hi:hs[i]?=some (MiG sh b r ks vs left cur))
    (h0:left=[]->K ((d,.qA [.b false])::L) w)
    (h1:∀ key left' v w',left.Perm (key::left')->Cx F O w0 w' (hs.set i (MiG sh b r ks vs left' (some key)))->K ((d,.qA [.b true,.s key,.v v])::L) w') :
    yE P n ops L w ⟨dst,.next x false,ty,pos,jf,g⟩ K:=by
  simp only[Prod.mk.injEq,A0c,lm] at hside;obtain⟨s1,rfl,s3,s4,⟨svs,s5,s6⟩⟩:=hside;refine zu (xs:=[x]) (svs:=svs) ss (d:=d) (by simp[Side,s1,s3,s4,s5]) fun a ha he=>?_;rw[s6] at he;simp only[kw,List.map_nil,List.cons.injEq,and_true] at he;obtain⟨S,R,hl,⟨es,clock,since,c0,seen,m1,m2,m3,m4,m5,m6,m7,m7',m8,m9⟩,hS,hS2⟩:=k.get i hi;rcases run_next_at (P:=P) w ty r b since c0 seen es clock m5 m1 m6 m7 with⟨f1,hrun⟩ | ⟨e,f1,w1,f2,hrun⟩
  ·unfold Oper.wp execOp;simp only[he,Sem.run_bind,hrun,Result.andThen_ok,Sem.run_pure];refine⟨.qA [.b false],rfl,h0 ?_⟩;have h2:=m8.length_eq;simp only[A0a,Array.length_toList,f1] at h2;exact List.eq_nil_of_length_eq_zero h2.symm
  ·obtain⟨g1,g2⟩:=mem_left f1;obtain⟨key,hk1,hk2⟩:=key_of m2 g1;have hp:=left_perm m4.2.1 f1;have hkl:kV key ∈ left.map kV:=m8.mem_iff.1 (by rw[<- hk2];exact ww.2 ⟨e,f1,rfl⟩);obtain⟨key',hk3,hk4⟩:=ww.1 hkl;obtain rfl:=LK hk4;have hpl:=List.perm_cons_erase hk3;unfold Oper.wp execOp;simp only[he,Sem.run_bind,hrun,Result.andThen_ok,Sem.run_pure];rw[hk2];refine⟨.qA [.b true,.s key',.v e.val],rfl,h1 key' (left.erase key') e.val _ hpl ?_⟩;have hr1:w1.heap[r]?=some (.mapIter (some b) since seen c0):=by rcases f2 with rfl | rfl <;> exact m5
   have hb1:w1.heap[b]?=some (.map es clock):=by rcases f2 with rfl | rfl <;> exact m1
   have hrb:r≠b:=fun h=>by rw[h,m1] at m5;cases m5
   have hgr:w.grownBy (ChangeMaps.setBlock w1 r (.mapIter (some b) since (seen.push e.born) clock)) (some r):=by
     rcases f2 with rfl | rfl
     ·exact⟨rfl,rfl,rfl,by simp[ChangeMaps.setBlock],fun q hq hne=>by
        simp only[ChangeMaps.setBlock];exact(heap_set hr1).2 q fun e=>hne (by rw[e])⟩
     ·exact⟨rfl,rfl,rfl,(by show w.heap.size<=(w.heap.setIfInBounds r _).size;simp),fun q hq hne=>(heap_set m5).2 q fun e=>hne (by rw[e])⟩
   refine k.upd i hi (some r) hgr fun S R hS hd hlt=>?_;obtain⟨hl,⟨es1,clock1,since1,c01,seen1,q1,q2,q3,q4,q5,q6,q7,q7',q8,q9⟩,hS,hS2⟩:=hS;rw[m1] at q1;simp only[Option.some.injEq,Obj.map.injEq] at q1;obtain⟨rfl,rfl⟩:=q1;rw[m5] at q5;simp only[Option.some.injEq,Obj.mapIter.injEq] at q5;obtain⟨_,rfl,rfl,rfl⟩:=q5;have hsz:(ChangeMaps.setBlock w1 r (.mapIter (some b) since (seen.push e.born) clock)).heap.size=w.heap.size:=by
     rcases f2 with h | h
     ·rw[h];simp only[ChangeMaps.setBlock,Array.size_setIfInBounds]
     ·rw[h];simp only[ChangeMaps.setBlock,Array.size_setIfInBounds];rfl
   refine⟨fun g' hg=>(by simp only[Option.some.injEq] at hg;subst hg;exact hS2),S,R,⟨hl,⟨es,clock,since,clock,seen.push e.born,?_,q2,q3,q4,?_,q6,q7',q7',?_,fun k hk=>?_⟩,hS,hS2⟩,fun q hq=>⟨by rw[hsz];exact hlt q (.inl hq),hd q hq,.inl hq⟩,fun q hq=>⟨by rw[hsz];exact hlt q (.inr hq),.inl hq⟩⟩
   ·simp only[ChangeMaps.setBlock];rw[(heap_set hr1).2 b hrb.symm];exact hb1
   ·simp only[ChangeMaps.setBlock];exact(heap_set hr1).1
   ·have p1:=hp.map (·.key);simp only[kw,hk2] at p1;have p2:=hpl.map kV;simp only[kw] at p2;exact List.Perm.cons_inv ((p1.symm.trans q8).trans p2)
   ·obtain rfl:=Option.some.inj hk;exact⟨e,g1,hk2,rfl,seen,rfl⟩
theorem Op_entryG {dst:A03}{ty:TypeId}{x:Operand}{pos:String}{jf:Array Edge}{g:UV}(ss:A01)(d i:Nat){sh:Bool}{b r:Nat}{ks left:A0G}{vs:List Value}{key:Ky}
    (hside:(y7 ops ss L ⟨dst,.entry x,ty,pos,jf,g⟩,dst,(decide (d < n)),(L.any fun p=>p.1 == d),(toSS [x] (lk L)).map SV.vals)=(true,some d,true,false,some [.pointer (some ⟨r,0,none⟩)]))
    (k:Cx F O w0 w hs) (hi:hs[i]?=some (MiG sh b r ks vs left (some key)))
    (h1:∀ (j:Nat) v,ks[j]?=some key->vs[j]?=some v->K ((d,.qA [.s key,.v v])::L) w) :
    yE P n ops L w ⟨dst,.entry x,ty,pos,jf,g⟩ K:=by
  simp only[Prod.mk.injEq,A0c,lm] at hside;obtain⟨s1,rfl,s3,s4,⟨svs,s5,s6⟩⟩:=hside;refine zu (xs:=[x]) (svs:=svs) ss (d:=d) (by simp[Side,s1,s3,s4,s5]) fun a ha he=>?_;rw[s6] at he;simp only[kw,List.map_nil,List.cons.injEq,and_true] at he;obtain⟨S,R,hl,⟨es,clock,since,c0,seen,m1,m2,m3,m4,m5,m6,m7,m7',m8,m9⟩,hS,hS2⟩:=k.get i hi;obtain⟨e,e1,e2,rfl,seen0,rfl⟩:=m9 key rfl;have hrun:=run_entry_at (P:=P) w r b since seen0 es c0 e m5 m1 e1 m4.2.1;unfold Oper.wp execOp;simp only[he,Sem.run_bind,hrun,Result.andThen_ok,Sem.run_pure];rw[e2];obtain⟨j,hj⟩:=List.getElem?_of_mem e1;refine⟨.qA [.s key,.v e.val],rfl,h1 j e.val ?_ ?_⟩
  ·have h1:=congrArg (fun x=>x[j]?) m2;simp only[List.getElem?_map,hj,Option.map_some,e2] at h1;cases hq:ks[j]? with
   | none=>rw[hq] at h1;cases h1
   | some k'=>rw[hq] at h1;simp only[Option.map_some,Option.some.injEq] at h1;rw[LK h1]
  ·rw[<- m3,List.getElem?_map,hj];rfl
theorem Op_delG {x y:Operand}{t t2 kt e ty:TypeId}{pos:String}{jf:Array Edge}{g:UV}(ss:A01)(i:Nat){b r:Nat}{key:Ky}{ks left:A0G}{vs:List Value}{cur:Option Ky}
    (hside:(y7 ops ss L (⟨none,.call ⟨.builtin .delete,#[x,y],#[t,t2]⟩,ty,pos,jf,g⟩:Oper),(toSS [x,y] (lk L)).map SV.vals,P.underlying t,P.underlying kt)=(true,some [.map (some b),kV key],some (.map kt e),some .string))
    (k:Cx F O w0 w hs) (hi:hs[i]?=some (MiG false b r ks vs left cur)) (hnl:key ∉ left) (hk:∀ w',Cx F O w0 w' (hs.set i (MiG false b r (Cm ks key) (CB ks vs key) left none))->K L w') :
    yE P n ops L w ⟨none,.call ⟨.builtin .delete,#[x,y],#[t,t2]⟩,ty,pos,jf,g⟩ K:=by
  simp only[Prod.mk.injEq,A0c] at hside;obtain⟨s1,⟨svs,s5,s6⟩,s7,s8⟩:=hside;refine XQ (xs:=[x,y]) (svs:=svs) ss (by simp[s1,s5]) fun a ha he=>?_;rw[s6] at he;simp only[kw,List.map_nil,List.cons.injEq,and_true] at he;obtain⟨S,R,hl,⟨es,clock,since,c0,seen,m1,m2,m3,m4,m5,m6,m7,m7',m8,m9⟩,hS,hS2⟩:=k.get i hi;have hrb:r≠b:=fun h=>by rw[h,m1] at m5;cases m5
  have hck:=run_checkKey (P:=P) (w:=w) s8 (show IsKey .string (kV key) from trivial) es.isEmpty 9999;have main:∃ es':Array MapEntry,(Builtin.delete_ #[t,t2] ty #[.map (some b),kV key]).run P w=.ok (.tuple #[]) { w with heap:=w.heap.setIfInBounds b (.map es' clock) }/\es'.toList.map (·.key)=(Cm ks key).map kV/\es'.toList.map (·.val)=CB ks vs key/\Stamped es' clock/\(∀ x ∈ es'.toList,x.born < since)/\((leftOf es' seen).toList.map (·.key)).Perm (left.map kV)/\(Cm ks key).length=(CB ks vs key).length:=by
    rcases PT (d:=.string) rfl (k:=key) m2 m4.2.2 with⟨f1,f2⟩ | ⟨j,en,f1,f2,f3,f4⟩
    ·refine⟨es,?_,?_,?_,m4,m6,m8,?_⟩
     ·unfold Builtin.delete_;simp[Sem.run_bind,run_underlying s7,Result.andThen_ok,MapKept.run_getObj_map m1,hck,run_findKey s8 f2,MapKept.run_setObj_map _ m1,Result.andThen]
     ·unfold Cm;rw[f1];exact m2
     ·unfold CB;rw[f1];exact m3
     ·unfold Cm CB;rw[f1];exact hl
    ·have hj:j < es.size:=by simpa using (A0w.1 f3).1
     have htl:(es.eraseIdxIfInBounds j).toList=es.toList.eraseIdx j:=by
       unfold Array.eraseIdxIfInBounds;rw[dif_pos hj,Array.toList_eraseIdx]
     refine⟨es.eraseIdxIfInBounds j,?_,?_,?_,stamped_erase m4 j,?_,?_,?_⟩
     ·unfold Builtin.delete_;simp[Sem.run_bind,run_underlying s7,Result.andThen_ok,MapKept.run_getObj_map m1,hck,run_findKey s8 f2,MapKept.run_setObj_map _ m1,Result.andThen]
     ·unfold Cm;rw[f1,htl,uw,m2,uw]
     ·unfold CB;rw[f1,htl,uw,m3]
     ·intro x hx;rw[htl] at hx;exact m6 x (List.mem_of_mem_eraseIdx hx)
     ·-- what is gone was passed already
      have hseen:seen.contains en.born=true:=by
        cases hc:seen.contains en.born with
        | true=>rfl
        | false =>
          exfalso;have hmem:en ∈ (leftOf es seen).toList:=by
            unfold leftOf;rw[Array.toList_filter,List.mem_filter];exact⟨List.mem_of_getElem? f3,by rw[hc];rfl⟩
          have:kV key ∈ left.map kV:=m8.mem_iff.1 (by rw[<- f4];exact ww.2 ⟨en,hmem,rfl⟩);obtain⟨q,hq,hqe⟩:=ww.1 this;exact hnl (LK hqe▸hq)
      have:(leftOf (es.eraseIdxIfInBounds j) seen).toList=(leftOf es seen).toList:=by
        unfold leftOf;rw[Array.toList_filter,Array.toList_filter,htl];exact PW _ _ _ _ f3 (by rw[hseen];rfl)
      rw[this];exact m8
     ·unfold Cm CB;rw[f1];simp only[List.length_eraseIdx,hl]
  obtain⟨es',hrun,e1,e2,e3,e4,e5,e6⟩:=main;obtain⟨g1,g2,g3⟩:=Jj (es':=es') (clock':=clock) m1;unfold Oper.wp execOp;simp only[resolve,invoke,builtin,Sem.run_bind,Sem.run_pure,Result.andThen_ok,List.map_toArray,kw,List.map_nil,he.1,he.2,hrun];refine⟨rfl,hk _ (k.upd i hi (some b) g1 fun S R hp hd hlt=>?_)⟩;obtain⟨_,⟨es1,clock1,since1,c01,seen1,q1,q2,q3,q4,q5,q6,q7,q7',q8,q9⟩,hS,hS2⟩:=hp;rw[m1] at q1;simp only[Option.some.injEq,Obj.map.injEq] at q1;obtain⟨rfl,rfl⟩:=q1;rw[m5] at q5;simp only[Option.some.injEq,Obj.mapIter.injEq] at q5;obtain⟨_,rfl,rfl,rfl⟩:=q5;simp only[A0z,if_false] at hS;refine⟨fun g' hg=>(by simp only[Option.some.injEq] at hg;subst hg;exact hS),S,R,⟨e6,⟨es',clock,since,c0,seen,g3,e1,e2,e3,?_,e4,m7,m7',e5,fun k hk=>by cases hk⟩,hS,hS2⟩,fun b' hb'=>⟨by rw[g2];exact hlt b' (.inl hb'),hd b' hb',.inl hb'⟩,fun b' hb'=>⟨by rw[g2];exact hlt b' (.inr hb'),.inl hb'⟩⟩;show(w.heap.setIfInBounds b (.map es' clock))[r]?=_;rw[(heap_set m1).2 r hrb];exact m5
end
structure Lft (m:Mp δ)(left:Mp δ)(cur:Option (Ky×δ))(l:List (Ky×γ×δ))(lks:List Ky):Prop where
  fits:Fits m l
  perm:lks.Perm (left.map (·.1))
  nd:(left.map (·.1)).Nodup
  sub:∀ p ∈ left,p ∈ m
  cur:∀ p,cur=some p->p ∈ m/\p.1 ∉ left.map (·.1)
def MV (v:Vl γ δ)(sh:Bool)(b r:Nat)(m left:Mp δ)(cur:Option (Ky×δ)):HP :=
  Px (fun l:List (Ky×γ×δ)×A0G=>Lft m left cur l.1 l.2) fun l=>[MiG sh b r (yg l.1) (GG v l.1) l.2 (cur.map (·.1)),Sh v.q (l.1.map (·.2.1)) (l.1.map (·.2.2))]
section
variable {P:Program}{n:Nat}{ops:Array Oper}{L:St}{w w0:World}{F O:Nat->Prop}{hs rest:List HP}{K:St->World->Prop}{v:Vl γ δ}{b r:Nat}{m left:Mp δ}{cur:Option (Ky×δ)}{sh:Bool}
theorem Lft.start {l:List (Ky×γ×δ)}(h:Fits m l):Lft m m none l (yg l) :=
  ⟨h,by
    have e:yg l=(l.map kx).map (·.1):=by simp[yg,kx,List.map_map,Function.comp_def]
    rw[e];exact h.1.map _,h.2.nodup,fun _ h=>h,fun _ h=>by cases h⟩
theorem Cx.doMV (l:List (Ky×γ×δ))(lks:A0G)(h:Lft m left cur l lks)(k:Cx F O w0 w (MiG sh b r (yg l) (GG v l) lks (cur.map (·.1))::Sh v.q (l.map (·.2.1)) (l.map (·.2.2))::rest)):Cx F O w0 w (MV v sh b r m left cur::rest) :=
  Cx.dopx (φ:=fun l:List (Ky×γ×δ)×A0G=>Lft m left cur l.1 l.2) (l:=fun l=>[MiG sh b r (yg l.1) (GG v l.1) l.2 (cur.map (·.1)),Sh v.q (l.1.map (·.2.1)) (l.1.map (·.2.2))]) (l,lks) h k
theorem CE {dst:A03}{t kt e ty:TypeId}{x:Operand}{pos:String}{jf:Array Edge}{g:UV}(ss:A01)(d:Nat)
    (hside:(y7 ops ss L ⟨dst,.range t x,ty,pos,jf,g⟩,dst,(decide (d < n)),(L.any fun p=>p.1 == d),(toSS [x] (lk L)).map SV.vals,P.underlying t)=(true,some d,true,false,some [.map (some b)],some (.map kt e)))
    (k:Cx F O w0 w (MS v b m::rest)) (hk:∀ r w',Cx F O w0 w' (MV v false b r m m none::rest)->K ((d,.v (.pointer (some ⟨r,0,none⟩)))::L) w') :
    yE P n ops L w ⟨dst,.range t x,ty,pos,jf,g⟩ K:=by
  obtain⟨l,hf,k1⟩:=k.X6;refine WS ss d 0 (ks:=yg l) (vs:=GG v l) false hside k1 rfl (fun S R h=>⟨mb_f h,h.2.2⟩) fun r w' k'=>hk r w' ?_;exact Cx.doMV l (yg l) (Lft.start hf) k'
theorem Jm {dst:A03}{t kt e ty:TypeId}{x:Operand}{pos:String}{jf:Array Edge}{g:UV}(ss:A01)(d i:Nat)
    (hside:(y7 ops ss L ⟨dst,.range t x,ty,pos,jf,g⟩,dst,(decide (d < n)),(L.any fun p=>p.1 == d),(toSS [x] (lk L)).map SV.vals,P.underlying t)=(true,some d,true,false,some [.map (some b)],some (.map kt e)))
    (k:Cx F O w0 w hs) (hi:hs[i]?=some (Sh (RM v) [b] [m])) (hk:∀ r w',Cx F O w0 w' (MV v true b r m m none::hs)->K ((d,.v (.pointer (some ⟨r,0,none⟩)))::L) w') :
    yE P n ops L w ⟨dst,.range t x,ty,pos,jf,g⟩ K:=by
  obtain⟨S,R,hh⟩:=k.get i hi;obtain⟨_,l,hf,hm,_⟩:=hh.2.2 0 _ _ rfl rfl;have k1:Cx F O w0 w (Sh v.q (l.map (·.2.1)) (l.map (·.2.2))::hs):=by
    have key:∀ l':List (Ky×γ×δ),(∀ e ∈ l',e ∈ l)->Cx F O w0 w (Sh v.q (l'.map (·.2.1)) (l'.map (·.2.2))::hs):=by
      intro l'
      induction l' with
      | nil=>intro _;exact k.shz v.q
      | cons e l' ih =>
        intro hsub;have k2:=ih fun e he=>hsub e (A0e _ he);have hA:=Cx.VY (v:=v) (b:=b) (m:=m) k2 (i+1) (by simpa using hi);obtain⟨l2,hf2,hm2,hq2⟩:=hA;have he:=hsub e A0g;have he2:∃ e2 ∈ l2,e2.2.1=e.2.1/\e2.2.2=e.2.2:=by
          obtain⟨_,es,clock,m1,m2,m3,_⟩:=hm;obtain⟨_,es',clock',n1,n2,n3,_⟩:=hm2;rw[m1] at n1;obtain⟨rfl,rfl⟩:es=es'/\clock=clock':=by simpa using n1
          obtain⟨j,hj⟩:=List.getElem?_of_mem he;have hk:(yg l)[j]?=(yg l2)[j]?:=by
            have:(yg l).map kV=(yg l2).map kV:=m2.symm.trans n2;have h1:=congrArg (fun x=>x[j]?) this;simp only[List.getElem?_map] at h1;cases ha:(yg l)[j]? <;> cases hb:(yg l2)[j]? <;> rw[ha,hb] at h1 <;> simp at h1 <;> first | rfl | rw[LK h1]
          have hv:(GG v l)[j]?=(GG v l2)[j]?:=by rw[<- m3,<-n3]
          unfold yg at hk;unfold GG at hv;rw[List.getElem?_map,List.getElem?_map,hj] at hk hv;cases hj':l2[j]? with
          | none=>rw[hj'] at hk;cases hk
          | some e' =>
            rw[hj'] at hk hv;simp only[Option.map_some,Option.some.injEq] at hk hv;refine⟨e',List.mem_of_getElem? hj',(v.inj _ _ hv).symm,?_⟩;have q1:=ku hf.2.nodup (hf.1.mem_iff.1 (ww.2 ⟨e,he,rfl⟩));have q2:=ku hf2.2.nodup (hf2.1.mem_iff.1 (ww.2 ⟨e',List.mem_of_getElem? hj',rfl⟩));rw[hk] at q1;exact Option.some.inj (q2.symm.trans q1)
        obtain⟨e2,h1,h2,h3⟩:=he2;have k3:=hq2 e2 h1;rw[h2,h3] at k3;exact k3.sha
    exact key l fun e he=>he
  have k2:Cx F O w0 w (MbS b (yg l) (GG v l)::Sh v.q (l.map (·.2.1)) (l.map (·.2.2))::hs):=k1.dupw (i+1) (by simpa using hi) fun S R h=>by
    obtain⟨hR,_⟩:=h.2.2 0 _ _ rfl rfl;exact⟨fun _ h=>h,hR,hm⟩
  refine WS ss d 0 (ks:=yg l) (vs:=GG v l) true hside k2 rfl (fun S R h=>⟨h.2.2,h.2.1⟩) fun r w' k'=>hk r w' ?_;exact Cx.doMV l (yg l) (Lft.start hf) k'
theorem xM {dst:A03}{ty:TypeId}{x:Operand}{pos:String}{jf:Array Edge}{g:UV}(ss:A01)(d:Nat)
    (hside:(y7 ops ss L ⟨dst,.next x false,ty,pos,jf,g⟩,dst,(decide (d < n)),(L.any fun p=>p.1 == d),(toSS [x] (lk L)).map SV.vals)=(true,some d,true,false,some [.pointer (some ⟨r,0,none⟩)]))
    (k:Cx F O w0 w (MV v sh b r m left cur::rest))
    (h0:left=[]->Cx F O w0 w (MV v sh b r m left cur::rest)->K ((d,.qA [.b false])::L) w)
    (h1:∀ key a left' val w',left.Perm ((key,a)::left')->(left.map (·.1)).Nodup->Cx F O w0 w' (MV v sh b r m left' (some (key,a))::rest)->K ((d,.qA [.b true,.s key,.v val])::L) w') :
    yE P n ops L w ⟨dst,.next x false,ty,pos,jf,g⟩ K:=by
  obtain⟨⟨l,lks⟩,hf,k1⟩:=k.X6;refine Op_nextG ss d 0 hside k1 rfl (fun hl=>h0 ?_ k) fun key lks' val w' hp k'=>?_
  ·have h2:=hf.perm.length_eq;rw[show lks=[] from hl,A0b,A0a] at h2;exact List.eq_nil_of_length_eq_zero h2.symm
  ·have hkl:key ∈ left.map (·.1):=hf.perm.mem_iff.1 (hp.mem_iff.2 A0g);obtain⟨p,hp1,hp2⟩:=ww.1 hkl;obtain⟨j,hj⟩:=List.getElem?_of_mem hp1;have hpl:=GV hj;obtain⟨pk,pa⟩:=p;simp only at hp2;subst hp2;have hnd:=(hpl.map (·.1)).nodup_iff.1 hf.nd;rw[kw,List.nodup_cons] at hnd;refine h1 pk pa (left.eraseIdx j) val w' hpl hf.nd ?_;refine Cx.doMV l lks' ⟨hf.fits,?_,hnd.2,fun q hq=>hf.sub q (List.mem_of_mem_eraseIdx hq),fun q hq=>?_⟩ k'
   ·exact List.Perm.cons_inv ((hp.symm.trans hf.perm).trans (hpl.map (·.1)))
   ·obtain rfl:=Option.some.inj hq;exact⟨hf.sub _ hp1,hnd.1⟩
theorem Ri {dst:A03}{ty:TypeId}{x:Operand}{pos:String}{jf:Array Edge}{g:UV}(ss:A01)(d:Nat){key:Ky}{a:δ}
    (hside:(y7 ops ss L ⟨dst,.entry x,ty,pos,jf,g⟩,dst,(decide (d < n)),(L.any fun p=>p.1 == d),(toSS [x] (lk L)).map SV.vals)=(true,some d,true,false,some [.pointer (some ⟨r,0,none⟩)]))
    (k:Cx F O w0 w (MV v sh b r m left (some (key,a))::rest))
    (h1:∀ u,Cx F O w0 w (Sh v.q [u] [a]::MV v sh b r m left (some (key,a))::rest)->K ((d,.qA [.s key,.v (v.V u)])::L) w) :
    yE P n ops L w ⟨dst,.entry x,ty,pos,jf,g⟩ K:=by
  obtain⟨⟨l,lks⟩,hf,k1⟩:=k.X6;refine Op_entryG ss d 0 hside k1 rfl fun j val hj hv=>?_;unfold yg at hj;unfold GG at hv;rw[List.getElem?_map,A0c] at hj hv;obtain⟨e,he,hek⟩:=hj;obtain⟨e',he',rfl⟩:=hv;simp only at he he' hek;rw[he] at he';obtain rfl:=Option.some.inj he';have ha:e.2.2=a:=by
    have q1:=ku hf.fits.2.nodup (hf.fits.1.mem_iff.1 (ww.2 ⟨e,List.mem_of_getElem? he,rfl⟩));have q2:=ku hf.fits.2.nodup (hf.cur _ rfl).1;rw[hek] at q1;exact Option.some.inj (q1.symm.trans q2)
  refine h1 e.2.1 ?_;have k2:Cx F O w0 w (Sh v.q [e.2.1] [a]::(MiG sh b r (yg l) (GG v l) lks ((some (key,a)).map (·.1))::Sh v.q (l.map (·.2.1)) (l.map (·.2.2))::rest)):=Cx.dup k1 1 rfl fun w S R h=>by
    refine⟨fun _ h=>h,rfl,fun j2 y x g1 g2=>?_⟩;cases j2 with
    | succ j2=>cases g1
    | zero =>
      obtain rfl:=Option.some.inj g1;obtain rfl:=Option.some.inj g2;exact h.2.2 j _ _ (by rw[List.getElem?_map,he];rfl) (by rw[List.getElem?_map,he,<-ha];rfl)
  have k3:Cx F O w0 w (MiG sh b r (yg l) (GG v l) lks ((some (key,a)).map (·.1))::Sh v.q (l.map (·.2.1)) (l.map (·.2.2))::Sh v.q [e.2.1] [a]::rest):=k2.perm ((List.Perm.swap _ _ _).trans (.cons _ (.swap _ _ _)));exact(Cx.doMV l lks hf k3).perm (.swap _ _ _)
theorem GH {dst:A03}{ty:TypeId}{x:Operand}{pos:String}{jf:Array Edge}{g:UV}{v:Vl α α}{m left:Mp α}(hv:v.q=SQ)(ss:A01)(d:Nat){key:Ky}{a:α}(sv:SV)
    (hside:(y7 ops ss L ⟨dst,.entry x,ty,pos,jf,g⟩,dst,(decide (d < n)),(L.any fun p=>p.1 == d),(toSS [x] (lk L)).map SV.vals)=(true,some d,true,false,some [.pointer (some ⟨r,0,none⟩)]))
    (k:Cx F O w0 w (MV v sh b r m left (some (key,a))::rest)) (hsv:SV.val sv=v.V a)
    (h1:K ((d,.qA [.s key,sv])::L) w) :
    yE P n ops L w ⟨dst,.entry x,ty,pos,jf,g⟩ K:=by
  have main:yE P n ops L w ⟨dst,.entry x,ty,pos,jf,g⟩ fun L' w'=>L'=(d,.qA [.s key,.v (v.V a)])::L/\w'=w:=by
    refine Ri ss d hside k fun u k'=>?_;obtain⟨S,R,hh⟩:=k'.get 0 rfl;have hr:=hh.2.2 0 _ _ rfl rfl;rw[hv] at hr;have hr':u=a:=hr;rw[hr'];exact⟨rfl,rfl⟩
  intro ac hac;obtain⟨q1,q2⟩:=main ac hac;refine⟨q1,Oper.wp_mono ?_ q2⟩;rintro a' w' ⟨L',hf,rfl,rfl⟩;refine⟨_,?_,h1⟩;have e:(Kn ((d,.qA [.s key,.v (v.V a)])::L)).map (fun e=>(e.k,e.g,e.x.val))=(Kn ((d,.qA [.s key,sv])::L)).map (fun e=>(e.k,e.g,e.x.val)):=by
    simp[Kn,SV.val,SV.vals,hsv]
  refine⟨⟨hf.defers,hf.size,fun en he hg=>?_⟩,fun en he g w hg=>?_⟩
  ·simp only[Kn,kw,ut] at he;rcases he with rfl | he
   ·have:=hf.at_ { k:=d,g:=none,x:=.qA [.s key,.v (v.V a)] } (by simp[Kn]) hg;simpa [SV.val,SV.vals,hsv] using this
   ·exact hf.at_ en (by simp only[Kn,kw,ut];exact .inr he) hg
  ·simp only[Kn,kw,ut,ww] at he;rcases he with rfl | ⟨p,_,rfl⟩ <;> cases hg
theorem Cx.SN (k:Cx F O w0 w (MV v false b r m left cur::rest)):Cx F O w0 w (MS v b m::rest):=by
  obtain⟨⟨l,lks⟩,hf,k1⟩:=k.X6;refine Cx.doms l hf.fits ?_;have:=k1.weak (h':=Mb b (yg l) (GG v l)) 0 rfl fun w S R h=>by
    obtain⟨hl,⟨es,clock,since,c0,seen,m1,m2,m3,m4,m5⟩,hS,hS2⟩:=h;exact⟨hl,⟨es,clock,m1,m2,m3,m4⟩,hS⟩
  exact this
theorem Op_delX {x y:Operand}{t t2 kt e ty:TypeId}{pos:String}{jf:Array Edge}{g:UV}(ss:A01){key:Ky}{a:δ}
    (hside:(y7 ops ss L (⟨none,.call ⟨.builtin .delete,#[x,y],#[t,t2]⟩,ty,pos,jf,g⟩:Oper),(toSS [x,y] (lk L)).map SV.vals,P.underlying t,P.underlying kt)=(true,some [.map (some b),kV key],some (.map kt e),some .string))
    (k:Cx F O w0 w (MV v false b r m left (some (key,a))::rest)) (hk:∀ w',Cx F O w0 w' (MV v false b r (xy m key) left none::rest)->K L w') :
    yE P n ops L w ⟨none,.call ⟨.builtin .delete,#[x,y],#[t,t2]⟩,ty,pos,jf,g⟩ K:=by
  obtain⟨⟨l,lks⟩,hf,k1⟩:=k.X6;have hnl:key ∉ left.map (·.1):=(hf.cur _ rfl).2;refine Op_delG ss 0 hside k1 rfl (fun h=>hnl (hf.perm.mem_iff.1 h)) fun w' k'=>hk w' ?_;have hmem:=(hf.cur _ rfl).1;have k3:Cx F O w0 w' (MiG false b r (Cm (yg l) key) (CB (yg l) (GG v l) key) lks none::Sh v.q (l.map (·.2.1)) (l.map (·.2.2))::rest):=k';have hsub:∀ p ∈ left,p ∈ xy m key:=by
    intro p hp;have h1:=hf.sub p hp;have hne:p.1≠key:=fun e=>hnl (e▸ww.2 ⟨p,hp,rfl⟩);have h2:=ku hf.fits.2.nodup h1;have h3:=mfind_mdel hf.fits.2 key p.1;rw[if_neg (fun e=>hne e.symm),h2] at h3;exact Am h3
  cases hfd:Cj (yg l) key with
  | none =>
    have:=hf.fits.none hfd;rw[ku hf.fits.2.nodup hmem] at this;cases this
  | some j =>
    obtain⟨en,f1,f2,f3⟩:=hf.fits.some hfd;refine Cx.doMV (l.eraseIdx j) lks ⟨⟨?_,hf.fits.2.xy key⟩,hf.perm,hf.nd,hsub,fun p h=>by cases h⟩ ?_
    ·have p2:(l.map kx).Perm ((key,en.2.2)::(l.eraseIdx j).map kx):=by
       refine((GV f1).map kx).trans ?_;rw[kw,show kx en=(key,en.2.2) from by unfold kx;rw[f2]]
     exact List.Perm.cons_inv ((p2.symm.trans hf.fits.1).trans (Rh (Am f3) hf.fits.2.nodup))
    ·have e1:Cm (yg l) key=yg (l.eraseIdx j):=by unfold Cm;rw[hfd];unfold yg;rw[uw]
     have e2:CB (yg l) (GG v l) key=GG v (l.eraseIdx j):=by unfold CB;rw[hfd];unfold GG;rw[uw]
     rw[e1,e2] at k3;have:=k3.weak (h':=Sh v.q ((l.eraseIdx j).map (·.2.1)) ((l.eraseIdx j).map (·.2.2))) 1 rfl fun w S R ⟨h0,h1,h2⟩=>by
       refine⟨h0,by simp,fun i y x g1 g2=>?_⟩;rw[uw,List.getElem?_eraseIdx] at g1 g2;split at g1
       ·rename_i hlt;rw[if_pos hlt] at g2;exact h2 _ _ _ g1 g2
       ·rename_i hlt;rw[if_neg hlt] at g2;exact h2 _ _ _ g1 g2
     exact this
end
end
section
open Go.RowKit Go.MapKept
set_option linter.unusedSimpArgs false
set_option linter.unusedVariables false
variable {α β γ δ ε ζ σ ι:Type}
def Inj (E:Enc α):Prop:=∀ a b,E.f a=E.f b->a=b
theorem bU:Inj eI:=fun a b h=>by simpa [eI] using h
theorem bW:Inj eS:=fun a b h=>by simpa [eS] using h
theorem bY {E:Enc α}{F:Enc β}(h1:Inj E)(h2:Inj F):Inj (eP E F):=fun a b h=>by
  have h3:E.f a.1++F.f a.2=E.f b.1++F.f b.2:=h;obtain⟨q1,q2⟩:=List.append_inj h3 (by rw[E.len,E.len]);exact Prod.ext (h1 _ _ q1) (h2 _ _ q2)
section
variable {P:Program}{n:Nat}{ops:Array Oper}{L:St}{w w0:World}{F O:Nat->Prop}{hs rest:List HP}{K:St->World->Prop}{b:Nat}
theorem WT {dst:A03}{t kt e ty:TypeId}{x y:Operand}{pos:String}{jf:Array Edge}{g:UV}{v:Vl α α}{m:Mp α}(hv:v.q=SQ)(ss:A01)(d:Nat){key:Ky}(z:α)(sv:SV)
    (hside:(y7 ops ss L ⟨dst,.lookup t x y true,ty,pos,jf,g⟩,dst,(decide (d < n)),(L.any fun p=>p.1 == d),(toSS [x,y] (lk L)).map SV.vals,P.underlying t,P.underlying kt)=(true,some d,true,false,some [.map (some b),kV key],some (.map kt e),some .string))
    (hz:(zeroValue e).run P w=.ok (v.V z) w) (hA:Acc F O w0 w v b m hs) (hsv:SV.val sv=v.V ((bn m key).getD z))
    (h1:K ((d,.qA [sv,.b (bn m key).isSome])::L) w) :
    yE P n ops L w ⟨dst,.lookup t x y true,ty,pos,jf,g⟩ K:=Zx (ok:=true) hv ss d z sv hside hz hA hsv h1
theorem vV {dst:A03}{t kt e ty:TypeId}{x y:Operand}{pos:String}{jf:Array Edge}{g:UV}{v:Vl α α}{m:Mp α}(hv:v.q=SQ)(ss:A01)(d:Nat){key:Ky}(z:α)(sv:SV)
    (hside:(y7 ops ss L ⟨dst,.lookup t x y false,ty,pos,jf,g⟩,dst,(decide (d < n)),(L.any fun p=>p.1 == d),(toSS [x,y] (lk L)).map SV.vals,P.underlying t,P.underlying kt)=(true,some d,true,false,some [.map (some b),kV key],some (.map kt e),some .string))
    (hz:(zeroValue e).run P w=.ok (v.V z) w) (hA:Acc F O w0 w v b m hs) (hsv:SV.val sv=v.V ((bn m key).getD z))
    (h1:K ((d,sv)::L) w) :
    yE P n ops L w ⟨dst,.lookup t x y false,ty,pos,jf,g⟩ K:=Zx (ok:=false) hv ss d z sv hside hz hA hsv h1
theorem sh_len {E:Enc α}{u:Hd}{a:List α}(k:Cx F O w0 w (Sh (vH E).q [u] [a]::hs)):∃ A c,u=(A,a.length,c):=by
  obtain⟨S,R,hh⟩:=k.get 0 rfl;have hr:=hh.2.2 0 _ _ rfl rfl;obtain⟨u1,u2,u3⟩:=u;have h2:u2=a.length:=hr.1;exact⟨u1,u3,by rw[h2]⟩
theorem Jn {dst:A03}{t kt e ty:TypeId}{x y:Operand}{pos:String}{jf:Array Edge}{g:UV}{E:Enc α}{m:Mp (List α)}(ss:A01)(d:Nat){key:Ky}
    (hside:(y7 ops ss L ⟨dst,.lookup t x y true,ty,pos,jf,g⟩,dst,(decide (d < n)),(L.any fun p=>p.1 == d),(toSS [x,y] (lk L)).map SV.vals,P.underlying t,P.underlying kt)=(true,some d,true,false,some [.map (some b),kV key],some (.map kt e),some .string))
    (hz:(zeroValue e).run P w=.ok (.slice Option.none 0 0) w) (hA:Acc F O w0 w (vH E) b m hs)
    (h0:bn m key=none->K ((d,.qA [.v (.slice Option.none 0 0),.b false])::L) w)
    (h1:∀ A c a,bn m key=some a->Cx F O w0 w (Sh (SH E) [(A,a.length,c)] [a]::hs)->K ((d,.qA [.v (.slice A a.length c),.b true])::L) w) :
    yE P n ops L w ⟨dst,.lookup t x y true,ty,pos,jf,g⟩ K :=
  PV (ok:=true) (v:=vH E) ss d hside hz hA h0 fun u a ha k=>by
    obtain⟨A,c,rfl⟩:=sh_len k;exact h1 A c a ha k
theorem WU {dst:A03}{t kt e ty:TypeId}{x y:Operand}{pos:String}{jf:Array Edge}{g:UV}{E:Enc α}{m:Mp (List α)}(ss:A01)(d:Nat){key:Ky}
    (hside:(y7 ops ss L ⟨dst,.lookup t x y false,ty,pos,jf,g⟩,dst,(decide (d < n)),(L.any fun p=>p.1 == d),(toSS [x,y] (lk L)).map SV.vals,P.underlying t,P.underlying kt)=(true,some d,true,false,some [.map (some b),kV key],some (.map kt e),some .string))
    (hz:(zeroValue e).run P w=.ok (.slice Option.none 0 0) w) (hA:Acc F O w0 w (vH E) b m hs)
    (h0:bn m key=none->K ((d,.v (.slice Option.none 0 0))::L) w)
    (h1:∀ A c a,bn m key=some a->Cx F O w0 w (Sh (SH E) [(A,a.length,c)] [a]::hs)->K ((d,.v (.slice A a.length c))::L) w) :
    yE P n ops L w ⟨dst,.lookup t x y false,ty,pos,jf,g⟩ K :=
  PV (ok:=false) (v:=vH E) ss d hside hz hA h0 fun u a ha k=>by
    obtain⟨A,c,rfl⟩:=sh_len k;exact h1 A c a ha k
theorem Eh {dst:A03}{t kt e ty:TypeId}{x y:Operand}{pos:String}{jf:Array Edge}{g:UV}{v:Vl γ δ}{m:Mp (Mp δ)}(ss:A01)(d:Nat){key:Ky}
    (hside:(y7 ops ss L ⟨dst,.lookup t x y true,ty,pos,jf,g⟩,dst,(decide (d < n)),(L.any fun p=>p.1 == d),(toSS [x,y] (lk L)).map SV.vals,P.underlying t,P.underlying kt)=(true,some d,true,false,some [.map (some b),kV key],some (.map kt e),some .string))
    (hz:(zeroValue e).run P w=.ok (.map none) w) (hA:Acc F O w0 w (vM v) b m hs)
    (h0:bn m key=none->K ((d,.qA [.v (.map none),.b false])::L) w)
    (h1:∀ u a,bn m key=some a->Cx F O w0 w (Sh (RM v) [u] [a]::hs)->K ((d,.qA [.v (.map (some u)),.b true])::L) w) :
    yE P n ops L w ⟨dst,.lookup t x y true,ty,pos,jf,g⟩ K :=
  PV (ok:=true) (v:=vM v) ss d hside hz hA h0 fun u a ha k=>h1 u a ha k
theorem Op_lookMf {dst:A03}{t kt e ty:TypeId}{x y:Operand}{pos:String}{jf:Array Edge}{g:UV}{v:Vl γ δ}{m:Mp (Mp δ)}(ss:A01)(d:Nat){key:Ky}
    (hside:(y7 ops ss L ⟨dst,.lookup t x y false,ty,pos,jf,g⟩,dst,(decide (d < n)),(L.any fun p=>p.1 == d),(toSS [x,y] (lk L)).map SV.vals,P.underlying t,P.underlying kt)=(true,some d,true,false,some [.map (some b),kV key],some (.map kt e),some .string))
    (hz:(zeroValue e).run P w=.ok (.map none) w) (hA:Acc F O w0 w (vM v) b m hs)
    (h0:bn m key=none->K ((d,.v (.map none))::L) w)
    (h1:∀ u a,bn m key=some a->Cx F O w0 w (Sh (RM v) [u] [a]::hs)->K ((d,.v (.map (some u)))::L) w) :
    yE P n ops L w ⟨dst,.lookup t x y false,ty,pos,jf,g⟩ K :=
  PV (ok:=false) (v:=vM v) ss d hside hz hA h0 fun u a ha k=>h1 u a ha k
theorem Nu {dst:A03}{ty:TypeId}{x:Operand}{pos:String}{jf:Array Edge}{g:UV}{E:Enc α}{m left:Mp (List α)}{sh:Bool}{r:Nat}(ss:A01)(d:Nat){key:Ky}{a:List α}
    (hside:(y7 ops ss L ⟨dst,.entry x,ty,pos,jf,g⟩,dst,(decide (d < n)),(L.any fun p=>p.1 == d),(toSS [x] (lk L)).map SV.vals)=(true,some d,true,false,some [.pointer (some ⟨r,0,none⟩)]))
    (k:Cx F O w0 w (MV (vH E) sh b r m left (some (key,a))::rest))
    (h1:∀ A c,Cx F O w0 w (Sh (SH E) [(A,a.length,c)] [a]::MV (vH E) sh b r m left (some (key,a))::rest)->K ((d,.qA [.s key,.v (.slice A a.length c)])::L) w) :
    yE P n ops L w ⟨dst,.entry x,ty,pos,jf,g⟩ K :=
  Ri ss d hside k fun u k'=>by
    obtain⟨A,c,rfl⟩:=sh_len k';exact h1 A c k'
theorem OU {dst:A03}{ty:TypeId}{x:Operand}{pos:String}{jf:Array Edge}{g:UV}{v:Vl γ δ}{m left:Mp (Mp δ)}{sh:Bool}{r:Nat}(ss:A01)(d:Nat){key:Ky}{a:Mp δ}
    (hside:(y7 ops ss L ⟨dst,.entry x,ty,pos,jf,g⟩,dst,(decide (d < n)),(L.any fun p=>p.1 == d),(toSS [x] (lk L)).map SV.vals)=(true,some d,true,false,some [.pointer (some ⟨r,0,none⟩)]))
    (k:Cx F O w0 w (MV (vM v) sh b r m left (some (key,a))::rest))
    (h1:∀ u,Cx F O w0 w (Sh (RM v) [u] [a]::MV (vM v) sh b r m left (some (key,a))::rest)->K ((d,.qA [.s key,.v (.map (some u))])::L) w) :
    yE P n ops L w ⟨dst,.entry x,ty,pos,jf,g⟩ K :=
  Ri ss d hside k h1
end
section
variable {F O F1 O1:Nat->Prop}{w0 w w':World}{hs rest:List HP}{E:Enc α}
theorem Cx.o2g {A:EQ}{n c:Nat}{hd:List Hd}{sD:List (List α)}(k:Cx F O w0 w (O2 E A n c hd sD::rest)):Cx F O w0 w (OG eH (SH E) A n c hd sD::rest):=by
  obtain⟨hl,k1⟩:=k.OO;refine Cx.og ?_;have key:∀ (hd:List Hd) (sD:List (List α)) (hs:List HP),hd.length=sD.length->Cx F O w0 w (rows E hd sD++hs)->Cx F O w0 w (Sh (SH E) hd sD::hs):=by
    intro hd
    induction hd with
    | nil =>
      intro sD hs hq kk;cases sD with
      | nil=>exact Cx.shz kk (SH E)
      | cons=>cases hq
    | cons a tl ih =>
      intro sD hs hq kk;cases sD with
      | nil=>cases hq
      | cons x xs =>
        have k2:Cx F O w0 w (Ow E a.1 a.2.1 a.2.2 x::(rows E tl xs++hs)):=kk;have k3:=k2.share;have k4:Cx F O w0 w (rows E tl xs++(Sh (SH E) [(a.1,a.2.1,a.2.2)] [x]::hs)):=k3.perm (by
          have:=(List.perm_middle (a:=Sh (SH E) [(a.1,a.2.1,a.2.2)] [x]) (l₁:=rows E tl xs) (l₂:=hs)).symm;exact this)
        have k5:=ih xs _ (by simpa using hq) k4;exact(k5.perm (.swap _ _ _)).sha
  have k2:Cx F O w0 w (rows E hd sD++(Ow eH A n c hd::rest)):=k1.perm (by
    have:=(List.perm_middle (a:=Ow eH A n c hd) (l₁:=rows E hd sD) (l₂:=rest)).symm;exact this)
  exact(key hd sD _ hl k2).perm (.swap _ _ _)
variable {A:EQ}{n c:Nat}{ys:List Hd}{xs:List (List α)}
theorem Cx.Zy {j:Int}{x:List α}(k:Cx F O w0 w hs)(i:Nat)(hi:hs[i]?=some (OG eH (SH E) A n c ys xs))(hx:aW xs j=some x):∃ B d,aW ys j=some (B,x.length,d)/\x.length<=d:=by
  obtain⟨S,R,h⟩:=k.get i hi;obtain⟨_,hl,h2⟩:=OG.parts h;obtain⟨h0,h1⟩:=aS hx;have hlt:=(A0w.1 h1).1;have hh:ys[j.toNat]?=some (ys[j.toNat]'(hl▸hlt)):=A0l _;have hr:=h2 _ _ _ hh h1;refine⟨(ys[j.toNat]'(hl▸hlt)).1,(ys[j.toNat]'(hl▸hlt)).2.2,?_,hr.2.1⟩;unfold aW;rw[if_pos h0,hh,<-hr.1]
theorem Cx.og_in {j:Int}{m:Nat}{x:List α}{B:EQ}{d:Nat}(k:Cx F O w0 w hs)(i:Nat)(hi:hs[i]?=some (OG eH (SH E) A n c ys xs))(hx:aW xs j=some x)(hh:aW ys j=some (B,m,d)):Rd w B (E.all x):=by
  obtain⟨S,R,h⟩:=k.get i hi;obtain⟨_,hl,h2⟩:=OG.parts h;exact(h2 _ _ _ (pK hh) (pK hx)).2.2.1
theorem OG.in_rest {j:Int}{m:Nat}{x:List α}{B:EQ}{d:Nat}(hO:∀ b,O1 b->¬ F1 b)(hr:∀ (i:Nat) (h:HP),rest[i]?=some h->∃ S R,h.p w S R/\(∀ b,R b->O1 b)/\∀ b,S b->¬ F1 b)(i:Nat)(hi:rest[i]?=some (OG eH (SH E) A n c ys xs))(hx:aW xs j=some x)(hh:aW ys j=some (B,m,d)):Ro F1 w B (E.all x):=by
  have h:=RoH.of_rest hr i hi;have h2:=h.el _ _ _ (pK hh) (pK hx);exact⟨h2.2.2.1,fun hne a ha hf=>hO _ (h2.2.2.2 hne a ha) hf⟩
theorem Cx.ogdup {j:Int}{m:Nat}{x:List α}{B:EQ}{d:Nat}(k:Cx F O w0 w hs)(i:Nat)(hi:hs[i]?=some (OG eH (SH E) A n c ys xs))(hx:aW xs j=some x)(hh:aW ys j=some (B,m,d)):Cx F O w0 w (Sh (SH E) [(B,m,d)] [x]::hs) :=
  k.dup i hi fun w S R h=>by
    obtain⟨_,hl,h2⟩:=OG.parts h;refine⟨fun _ h=>h,rfl,fun j2 y z e1 e2=>?_⟩;cases j2 with
    | succ j2=>cases e1
    | zero =>
      obtain rfl:=Option.some.inj e1;obtain rfl:=Option.some.inj e2;exact h2 _ _ _ (pK hh) (pK hx)
theorem Cx.shnil (k:Cx F O w0 w hs)(E:Enc α):Cx F O w0 w (Sh (SH E) [(Option.none,0,0)] [[]]::hs):=by
  obtain⟨U,V,h1,hU,hV⟩:=k.sep;refine⟨k.os,k.tape,k.output,k.size,k.block,k.fin,k.QT,U,V,⟨fun _=>False,fun _=>False,U,V,⟨fun _ h=>h,rfl,fun j y x e1 e2=>?_⟩,h1,by simp,by simp,fun b hb=>hb.elim,fun b hb=>hb.elim⟩,hU,hV⟩;cases j with
  | succ j=>cases e1
  | zero =>
    obtain rfl:=Option.some.inj e1;obtain rfl:=Option.some.inj e2;exact⟨rfl,Nat.le_refl _,Rd.nil E w,fun hne=>absurd rfl hne⟩
end
end
end Go.Sx
