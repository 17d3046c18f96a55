import Derived.OpenShut
import Derived.ShutString
import Derived.ChangeOld
import Derived.Below
import Derived.JoinedCond
import Derived.MapKept
import Derived.Maps.RangeRun
import Derived.Sort.OwnSorted
import Derived.Sort.KeysCollected
import Derived.Shelf.Sort.Plain
import Derived.Shelf.Slices.In.SortNone
import Derived.Sort.OwnSortedInts
import Derived.Shelf.Strconv.Itoa3
import Derived.Laws.FloatArith
import Derived.Shelf.Strings.Builder1
import Derived.Test.YtpmdigdlcejkaaaGreatDoorK1
namespace Go.Sx
open Go.RowKit
set_option linter.unusedSimpArgs false
set_option linter.unusedVariables false
section
def QF:Exit->Act->World->Prop:=fun _ _ _=>False
section
variable {P:Program}{ops:Array Oper}{Ls:A00}{C:Nat->World->Prop}
def nx (Ls:A00)(p i:Nat):Nat:=if Ls.contains i then p+1 else p
def wpC (P:Program)(ops:Array Oper)(Ls:A00)(C:Nat->World->Prop)(Q:Act->World->Prop):Nat->Nat->Array Bool->Act->World->Prop
  | 0,_,A26,a,w=>Region.ready .any ops A26=[]/\Q a w
  | k+1,p,A26,a,w=>(Region.ready .any ops A26=[]->Q a w) /\
      ∀ i ∈ Region.ready .any ops A26,wpOp P ops QF i (fun b w'=>C (nx Ls p i) w'/\wpC P ops Ls C Q k (nx Ls p i) (A26.setIfInBounds i true) b w') a w
theorem wpOp_Q{i a w K Q}(h:wpOp P ops QF i K a w):wpOp P ops Q i K a w:=by
  unfold wpOp at *;split
  ·rename_i c;simp only[c] at h;exact h
  ·rename_i o c;simp only[c] at h;split
   ·rename_i b;rw[A3p b] at h;rcases h with h | ⟨_,a',w',d⟩
    ·exact .inl (Oper.wp_Q (fun _ _ _ d=>d.elim) h)
    ·exact d.elim
   ·rename_i b;rw[A3q b] at h;exact h
theorem V4 {Q:Act->World->Prop}{c:Exit->Act->World->Prop}(b:∀ a w,Q a w->c .normal a w):∀ (k p:Nat) (A26:Array Bool) (a:Act) (w:World),wpC P ops Ls C Q k p A26 a w->wpAny P .any ops c k A26 a w
  | 0,_,_,_,_,h=>⟨h.1,b _ _ h.2⟩
  | k+1,_,_,_,_,h=>⟨fun e=>b _ _ (h.1 e),fun i d=>wpOp_mono (fun f w' h'=>V4 b k _ _ f w' h'.2) (wpOp_Q (h.2 i d))⟩
def YC (P:Program)(ops:Array Oper)(C:World->Prop)(o:Oper)(v:Value)(a:Act):Prop :=
  (Region.wanted o (yielded ops a.tmps)=true/\∀ w,C w->(execOp a.eval o).run P w=.ok (.value v) w)∨(Region.wanted o (yielded ops a.tmps)=false/\v=undef)
theorem YC.op{D i o v a w Q}(d:ops[i]?=some o)(hy:YC P ops D o v a)(c:D w){K}(h:K (a.put o.dst v) w):wpOp P ops Q i K a w:=by
  unfold wpOp;simp only[d];rcases hy with⟨b,e⟩ | ⟨b,rfl⟩
  ·rw[A3p b];refine .inl ?_;unfold Oper.wp;rw[e w c];exact h
  ·rw[A3q (by simp[b])];exact h
theorem wpOp_put{D j oi oj v w}(hj:ops[j]?=some oj)(hap:oi.apart ops oj=true)(hsi:∀ cs b,oi.op≠.select cs b)(hsj:∀ cs b,oj.op≠.select cs b){K a}(hy:YC P ops D oi v a)(h:wpOp P ops QF j K (a.put oi.dst v) w):wpOp P ops QF j (fun a' w'=>YC P ops D oi v a'/\K (a'.put oi.dst v) w') a w:=by
  obtain⟨h1,h2,h3⟩:=Oper.apart_spec hap;have keep:∀ (u:Value),YC P ops D oi v (a.put oj.dst u):=fun u=>by
    unfold YC at *;rw[execOp_put oi hsi a oj.dst u h3,wanted_put oi a oj.dst u h3];exact hy
  have keepD:∀ (u:Value) (d:Deferred),YC P ops D oi v ({ a with defers:=d::a.defers }.put oj.dst u):=fun u d=>by
    have h4:=keep u;unfold YC at *;have e1:({ a with defers:=d::a.defers }:Act).put oj.dst u={ a.put oj.dst u with defers:=d::a.defers }:=by
      unfold Act.put;split <;> rfl
    rw[e1];exact h4
  unfold wpOp at *;simp only[hj] at *;rw[wanted_put oj a oi.dst v h1] at h;split
  ·rename_i hw;rw[A3p hw] at h;rcases h with h | ⟨_,a',w',hf⟩
   ·refine .inl ?_;unfold Oper.wp at *;rw[execOp_put oj hsj a oi.dst v h1] at h;generalize (execOp a.eval oj).run P w=r at *;cases r with
    | ok x w' =>
      cases x <;> simp only[Oper.upon] at h ⊢ <;> first | exact h.elim | skip
      case value u=>exact⟨keep u,by rw[<- Act.put_comm a v u h2];exact h⟩
      case skip=>exact⟨keep _,by rw[<- Act.put_comm a v undef h2];exact h⟩
      case defer d =>
        refine⟨keepD _ d,?_⟩;have e1:(({ a with defers:=d::a.defers }:Act).put oj.dst undef).put oi.dst v=({ a.put oi.dst v with defers:=d::(a.put oi.dst v).defers }:Act).put oj.dst undef:=by
          rw[<- Act.put_comm _ v undef h2];unfold Act.put;cases oi.dst <;> rfl
        rw[e1];exact h
      case enter f args =>
        refine h.mono fun e w'' he=>?_;cases e with
        | returned u=>exact⟨keep u,by rw[<- Act.put_comm a v u h2];exact he⟩
        | panicked c=>exact he
        | outgrown=>exact he
      case row row args =>
        refine h.mono fun u w'' he=>⟨keep u,by rw[<- Act.put_comm a v u h2];exact he⟩
    | halt x w'=>cases x <;> simp only[Oper.upon] at h ⊢ <;> exact h
   ·exact hf.elim
  ·rename_i hw;rw[A3q hw] at h;exact⟨keep _,by rw[<- Act.put_comm a v undef h2];exact h⟩
def asks (ops:Array Oper)(j i:Nat):Bool:=match ops[j]? with
  | some o=>o.after.any fun e=>Region.binds .any e&&e.on == i
  | none=>false
def Kr (ops:Array Oper)(a:Nat->Bool)(j i:Nat):Bool:=asks ops j i||match ops[j]? with
  | some o=>o.after.any fun e=>Region.binds .any e&&!a e.on&&asks ops e.on i
  | none=>false
def ahead (ops:Array Oper)(Ls:A00)(A26:Array Bool)(i:Nat):Nat:=(Ls.filter fun j=>!A26.getD j true&&!Kr ops (fun x=>A26.getD x false) j i).length
theorem asks_not{i j b}(c:ops[j]?=some b)(a:∀ e ∈ b.after,Region.binds .any e=true->e.on≠i):asks ops j i=false:=by
  unfold asks;rw[c];simp only[Array.any_eq_false'];intro e d;have:=a e d;cases hb:Region.binds .any e with
  | false=>simp
  | true=>simpa using this hb
theorem Yf{A26 i j}(k:j ∈ Region.ready .any ops A26)(h:A26.getD i true=false):Kr ops (fun x=>A26.getD x false) j i=false:=by
  obtain⟨hjun,oj,b,a⟩:=mem_ready.1 k;have c:A26.getD i false=false:=by
    rcases A3A i A26.size with h' | h'
    ·simp[h'] at h ⊢;exact h
    ·simp[Array.getElem?_eq_none h']
  unfold Kr;rw[asks_not b (fun e f g d=>by have:=a e f g;rw[d,c] at this;cases this),b];simp only[Bool.false_or,Array.any_eq_false'];intro e f;cases g:Region.binds .any e with
  | false=>simp
  | true=>simp only[a e f g];simp
theorem Yg{A26 i j x}(d:j ∈ Region.ready .any ops A26)(f:A26.getD i true=false)(h:Kr ops (fun x=>A26.getD x false) x i=true):Kr ops (fun y=>(A26.setIfInBounds j true).getD y false) x i=true:=by
  have b:asks ops j i=false:=by
    have:=Yf d f;unfold Kr at this;rw[Bool.or_eq_false_iff] at this;exact this.1
  unfold Kr at h ⊢;rw[A2k] at h ⊢;rcases h with h | h
  ·exact .inl h
  ·refine .inr ?_;cases ho:ops[x]? with
   | none=>rw[ho] at h;cases h
   | some o =>
     rw[ho] at h;simp only[Array.any_eq_true'] at h ⊢;obtain⟨e,g,c⟩:=h;refine⟨e,g,?_⟩;simp only[A0U,A2z] at c ⊢;obtain⟨⟨l,k⟩,h3⟩:=c;refine⟨⟨l,?_⟩,h3⟩;by_cases a:j=e.on
     ·rw[<- a,b] at h3;cases h3
     ·rw[getD_set_ne false a];exact k
theorem ahead_le{A26 i j}(b:j ∈ Region.ready .any ops A26)(c:A26.getD i true=false):ahead ops Ls (A26.setIfInBounds j true) i<=ahead ops Ls A26 i:=by
  unfold ahead;rw[<- List.countP_eq_length_filter,<-List.countP_eq_length_filter];refine List.countP_mono_left fun x _ hx=>?_;simp only[A0U,A2z] at hx ⊢;refine⟨?_,?_⟩
  ·by_cases a:j=x
   ·subst a;have:=hx.1;rcases A3A j A26.size with h | h
    ·simp[h] at this
    ·simp[Array.getElem?_eq_none h] at this
   ·rw[getD_set_ne true a] at hx;exact hx.1
  ·cases hq:Kr ops (fun x=>A26.getD x false) x i with
   | false=>rfl
   | true=>rw[Yg b c hq] at hx;exact absurd hx.2 A2H
theorem ahead_lt{A26 i j}(g:j ∈ Region.ready .any ops A26)(k:A26.getD i true=false)(f:Ls.contains j=true)(b:A26.getD j true=false):ahead ops Ls (A26.setIfInBounds j true) i+1<=ahead ops Ls A26 i:=by
  have c:=Yf g k;unfold ahead;rw[<- List.countP_eq_length_filter,<-List.countP_eq_length_filter];have key:∀ l:A00,l.countP (fun x=>!(A26.setIfInBounds j true).getD x true&&!Kr ops (fun y=>(A26.setIfInBounds j true).getD y false) x i)<=l.countP (fun x=>!A26.getD x true&&!Kr ops (fun y=>A26.getD y false) x i):=fun l=>by
    refine List.countP_mono_left fun x _ hx=>?_;simp only[A0U,A2z] at hx ⊢;refine⟨?_,?_⟩
    ·by_cases a:j=x
     ·subst a;exact b
     ·rw[getD_set_ne true a] at hx;exact hx.1
    ·cases hq:Kr ops (fun x=>A26.getD x false) x i with
     | false=>rfl
     | true=>rw[Yg g k hq] at hx;exact absurd hx.2 A2H
  have d:(A26.setIfInBounds j true).getD j true=true:=by
    rcases A3A j A26.size with h | h
    ·simp[h]
    ·simp[Array.getElem?_eq_none h]
  induction Ls with
  | nil=>simp at f
  | cons x l ih =>
    rw[List.countP_cons,List.countP_cons];by_cases hx:x=j
    ·subst hx;have:=key l;simp only[d,b,c,A3K,A43,Bool.not_false,Bool.and_self,if_true];simp only[A0h,A3r];omega
    ·have m:l.contains j=true:=by
       simp only[List.contains_cons,A2k,beq_iff_eq] at f;exact f.resolve_left (fun e=>hx e.symm)
     have:=ih m;have hm:(if(!(A26.setIfInBounds j true).getD x true&&!Kr ops (fun y=>(A26.setIfInBounds j true).getD y false) x i)=true then 1 else 0)<=(if(!A26.getD x true&&!Kr ops (fun y=>A26.getD y false) x i)=true then 1 else 0):=by
       have:=key [x];simpa [List.countP_cons] using this
     omega
theorem Yh{Q i m y v}(d:∀ p q x,p<=q->C p x->C q x)(R:ops[i]?=some y)(O:Ls.contains i=false)(r:∀ (j:Nat) (o:Oper) cs b,ops[j]?=some o->o.op≠.select cs b) :
    ∀ (k p:Nat) (A26:Array Bool) (a:Act) (w:World),C p w->p+ahead ops Ls A26 i<=m ->
      (∀ j s,ops[j]?=some s->j≠i->A26.getD j true=false->(∀ e ∈ s.after,Region.binds .any e=true->e.on≠i)->y.apart ops s=true) ->
      i ∈ Region.ready .any ops A26->YC P ops (C m) y v a ->
      wpC P ops Ls C Q k p (A26.setIfInBounds i true) (a.put y.dst v) w->wpC P ops Ls C Q (k+1) p A26 a w:=by
  have G:∀ p,nx Ls p i=p:=fun p=>by unfold nx;rw[O];rfl
  intro k
  induction k with
  | zero =>
    intro p A26 a w D hm _ l hy H;refine⟨fun h=>(by rw[h] at l;cases l),fun j z=>?_⟩;by_cases c:j=i
    ·subst c;rw[G];exact hy.op R (d p m w Y D) ⟨D,H⟩
    ·have:=ready_mono z c;rw[H.1] at this;cases this
  | succ k ih =>
    intro p A26 a w D hm g l hy H;refine⟨fun h=>(by rw[h] at l;cases l),fun j z=>?_⟩;by_cases c:j=i
    ·subst c;rw[G];exact hy.op R (d p m w Y D) ⟨D,H⟩
    ·have u:=H.2 j (ready_mono z c);obtain⟨f,s,t,J⟩:=mem_ready.1 z;have F:∀ e ∈ s.after,Region.binds .any e=true->e.on≠i:=fun e U W S=>by
       have u:=J e U W;have T:=(mem_ready.1 l).1;rw[S] at u;rcases A3A i A26.size with h' | h'
       ·simp[h'] at T u;rw[T] at u;cases u
       ·simp[Array.getElem?_eq_none h'] at u
     have h2:=wpOp_put t (g j s t c f F) (fun cs b=>r i y cs b R) (fun cs b=>r j s cs b t) hy u;have n:∀ m A,ops[m]?=some A->m≠i->(A26.setIfInBounds j true).getD m true=false ->
         (∀ e ∈ A.after,Region.binds .any e=true->e.on≠i)->y.apart ops A=true:=fun m A hm M E L=>by
       refine g m A hm M ?_ L;by_cases I:j=m
       ·subst I;exact f
       ·rw[getD_set_ne true I] at E;exact E
     have N:nx Ls p j+ahead ops Ls (A26.setIfInBounds j true) i<=m:=by
       unfold nx;split
       ·rename_i V;have:=ahead_lt (ops:=ops) (Ls:=Ls) z (mem_ready.1 l).1 V f;omega
       ·have:=ahead_le (ops:=ops) (Ls:=Ls) z (mem_ready.1 l).1;omega
     refine wpOp_mono (fun a' w' h3=>?_) h2;obtain⟨K,B,X⟩:=h3;refine⟨B,ih _ (A26.setIfInBounds j true) a' w' B N n (ready_mono l (Ne.symm c)) K ?_⟩;rw[Array.setIfInBounds_comm _ _ c];exact X
def cls:List (World->Prop)->Nat->World->Prop
  | [],_,_=>True
  | c::_,0,x=>c x
  | _::cs,p+1,x=>cls cs p x
def XU:List (World->Prop)->Prop
  | c::d::cs=>(∀ x,c x->d x)/\XU (d::cs)
  | _=>True
theorem XU.step:∀ (l:List (World->Prop))(p:Nat)(x:World),XU l->cls l p x->cls l (p+1) x
  | [],_,_,_,_=>trivial
  | [_],0,_,_,_=>trivial
  | [_],_+1,_,_,_=>trivial
  | _::_::_,0,x,h,hx=>h.1 x hx
  | _::d::cs,p+1,x,h,hx=>XU.step (d::cs) p x h.2 hx
theorem XU.le{l}(h:XU l):∀ p q x,p<=q->cls l p x->cls l q x:=by
  intro p q x a hx;obtain⟨d,rfl⟩:=A3k a
  induction d with
  | zero=>exact hx
  | succ d ih=>exact XU.step l _ x h (ih Y)
inductive MT where
  | nil
  | q (i m:Nat) (r:MT)
  | op (i:Nat) (r:MT)
  | br (i j:Nat) (ri rj:MT)
def MT.depth:MT->Nat
  | .nil=>0
  | .q _ _ r=>r.depth+1
  | .op _ r=>r.depth+1
  | .br _ _ r _=>r.depth+1
def MT.drop:Nat->MT->MT
  | k+1,.q _ _ r=>r.drop k
  | _,π=>π
def NT (ops:Array Oper)(Ls:A00):MT->Nat->Array Bool->Bool
  | .nil,_,A26=>(Region.ready .any ops A26).isEmpty
  | .q i m π,p,A26=>(Region.ready .any ops A26).contains i&&Region.free .any ops A26 i&&!Ls.contains i&&decide (p+ahead ops Ls A26 i<=m)&&NT ops Ls π p (A26.setIfInBounds i true)
  | .op i π,p,A26=>Region.ready .any ops A26 == [i]&&NT ops Ls π (nx Ls p i) (A26.setIfInBounds i true)
  | .br i j ri rj,p,A26=>Region.ready .any ops A26 == [i,j]&&rj.depth == ri.depth&&NT ops Ls ri (nx Ls p i) (A26.setIfInBounds i true)&&NT ops Ls rj (nx Ls p j) (A26.setIfInBounds j true)
def MX (P:Program)(n:Nat)(ops:Array Oper)(Ls:A00)(C:List (World->Prop))(Q:Act->World->Prop)(π:MT)(p:Nat)(A26:Array Bool)(L:List En)(w:World):Prop :=
  Region.noSelect ops=true->XU C->NT ops Ls π p A26=true->cls C p w->∀ a,Fu n a L->wpC P ops Ls (cls C) Q π.depth p A26 a w
variable {C:List (World->Prop)}
theorem eY{n p Q A26 L w}(h:At n Q L w):MX P n ops Ls C Q .nil p A26 (Kn L) w :=
  fun _ _ c _ a b=>⟨by simpa [NT] using c,h a b⟩
def qops (ops:Array Oper)(m:Nat):Nat->MT->Option (List Oper)
  | 0,_=>some []
  | k+1,.q i m' r=>if m'=m then match ops[i]?,qops ops m k r with
    | some o,some l=>some (o::l)
    | _,_=>none else none
  | _+1,_=>none
theorem MX_quiet'{n p m Q ss w L'}:∀ (k:Nat) (π:MT) (l:List Oper) (A26:Array Bool) (L:List En) (os os':List SV) (cs:List Cond),
    qops ops m k π=some l->evs P n ops ss l L os=some (L',cs,os')->(∀ w,cls C m w->∀ c ∈ cs,c w)->(∀ b,MX P n ops Ls C Q (π.drop k) p b L' w)->MX P n ops Ls C Q π p A26 L w:=by
  intro k
  induction k with
  | zero =>
    intro π l A26 L os os' cs f h I B;simp only[qops,A2a] at f;subst f;simp only[evs,A2a,A2c] at h;obtain⟨rfl,rfl,rfl⟩:=h;have e:π.drop 0=π:=by cases π <;> rfl
    rw[e] at B;exact B A26
  | succ k ih =>
    intro π l A26 L os os' cs f h I B;cases π with
    | q i m' π =>
      simp only[qops] at f;split at f
      ·rename_i G;subst G;split at f
       ·rename_i o M A H;simp only[A2a] at f;subst f;simp only[evs] at h;split at h
        ·rename_i T c1 E R;split at h
         ·rename_i L2 S os2 O;simp only[A2a,A2c] at h;obtain⟨rfl,rfl,rfl⟩:=h;intro j r D u a N;simp only[NT,A0U,lm,A2z] at D;obtain⟨⟨⟨⟨J,K⟩,y⟩,z⟩,D⟩:=D;have d:=ih π M (A26.setIfInBounds i true) T E _ S H O (fun w u c t=>I w u c (A2x _ t)) B j r D u;rcases TG N R with⟨g,v,x,s⟩ | ⟨g,s⟩
          ·exact Yh r.le A y (Region.noSelect_spec j) _ p A26 a w u z (Region.free_spec A K) (by simpa using J) (.inl ⟨g,fun w' F=>x w' fun c t=>I w' F c (A2v _ t)⟩) (d _ s)
          ·exact Yh r.le A y (Region.noSelect_spec j) _ p A26 a w u z (Region.free_spec A K) (by simpa using J) (.inr ⟨g,rfl⟩) (d _ s)
         ·cases h
        ·cases h
       ·cases f
      ·cases f
    | _=>cases f
theorem MX_q{n p Q w π A26 L}(k m:Nat)(ss:A00)(os:List SV)(L':St)(cs:List Cond)(hs:((qops ops m k π).bind fun l=>evs P n ops ss l (Kn L) os).map (fun r=>(L'.map fun e=>(look r.1 e.1).map fun e=>(e.g,e.x.val),r.2.1,r.2.2))=some (L'.map fun p=>some (none,p.2.val),cs,[]))(o:∀ w,cls C m w->All cs w)(h:∀ b,MX P n ops Ls C Q (π.drop k) p b (Kn L') w):MX P n ops Ls C Q π p A26 (Kn L) w:=by
  rw[Option.map_bind] at hs;simp only[A0d] at hs;obtain⟨l,hl,hs⟩:=hs;obtain⟨Lc,j,i⟩:=Seg.keep (P:=P) (n:=n) (ops:=ops) (ss:=ss) (l:=l) (L:=L) (os:=os) (L':=L') (cs:=cs) hs;refine MX_quiet' k π l A26 (Kn L) os [] cs hl j (fun w c=>Rh (o w c)) fun b=>?_;intro d f s c a q;exact h b d f s c a (i a q)
theorem MX_op{n p Q w π A26 L i o}(hl:Ls.contains i=true)(m:ops[i]?=some o)(h:Dv P n ops L w o fun L' w'=>cls C (p+1) w'/\∀ b,MX P n ops Ls C Q π (p+1) b (Kn L') w'):MX P n ops Ls C Q (.op i π) p A26 (Kn L) w:=by
  intro f g d hw a s;have c:nx Ls p i=p+1:=by unfold nx;rw[A3p hl]
  simp only[NT,A0U,beq_iff_eq,c] at d;obtain⟨e,d⟩:=d;obtain⟨u,t⟩:=h a s;refine⟨fun v=>(by rw[v] at e;cases e),fun j k=>?_⟩;rw[e] at k;simp only[A0N] at k;subst k;unfold wpOp;simp only[m,c];rw[A3p u];refine .inl (Oper.wp_mono ?_ t);rintro x w' ⟨L',r,l,q⟩;exact⟨l,q _ f g d l x r⟩
theorem MX_br{n p Q w πi πj A26 L i j oi oj}(q:Ls.contains i=true)(o:Ls.contains j=true)(B:ops[i]?=some oi)(A:ops[j]?=some oj)(h:Dv P n ops L w oi fun L' w'=>cls C (p+1) w'/\∀ b,MX P n ops Ls C Q πi (p+1) b (Kn L') w')(h':Dv P n ops L w oj fun L' w'=>cls C (p+1) w'/\∀ b,MX P n ops Ls C Q πj (p+1) b (Kn L') w'):MX P n ops Ls C Q (.br i j πi πj) p A26 (Kn L) w:=by
  intro f g z hw a y;have e:nx Ls p i=p+1:=by unfold nx;rw[A3p q]
  have c:nx Ls p j=p+1:=by unfold nx;rw[A3p o]
  simp only[NT,A0U,beq_iff_eq,e,c] at z;obtain⟨⟨⟨m,hd⟩,t⟩,s⟩:=z;refine⟨fun D=>(by rw[D] at m;cases m),fun k d=>?_⟩;rw[m] at d;simp only[ul,List.not_mem_nil,or_false] at d;rcases d with rfl | rfl
  ·obtain⟨v,u⟩:=h a y;unfold wpOp;simp only[B,e];rw[A3p v];refine .inl (Oper.wp_mono ?_ u);rintro x w' ⟨L',r,l,d⟩;exact⟨l,d _ f g t l x r⟩
  ·obtain⟨v,u⟩:=h' a y;unfold wpOp;simp only[A,c];rw[A3p v];refine .inl (Oper.wp_mono ?_ u);rintro x w' ⟨L',r,l,d⟩;have:=d _ f g s l x r;rw[hd] at this;exact⟨l,this⟩
theorem W_mix{n:Nat}{id:Nat}{l:List Oper}{Q:Exit->Act->World->Prop}{L}{w:World}(hm:P.follows .mixedOrders=true)(π:MT)(Ls:A00)(C:List (World->Prop))(c:(Region.noSelect l.toArray,NT l.toArray Ls π 0 (Array.replicate l.length false),π.depth == l.length)=(true,true,true))(b:XU C)(f:cls C 0 (w.drewN 1))(h:∀ A26,MX P n l.toArray Ls C (Q .normal) π 0 A26 (Kn L) (w.drewN 1)) :
    W P n (.region id l.toArray true) Q L w:=by
  intro a e;simp only[A2c,beq_iff_eq] at c;obtain⟨i,g,h3⟩:=c;refine wp_region_any hm ?_;have:=h (Array.replicate l.length false) i b g f a e;rw[h3] at this;exact V4 (fun _ _ d=>d) _ _ _ _ _ (by rw[show l.toArray.size=l.length from by simp];exact this)
end
end
section
variable {α β:Type}
instance {n:Nat} [Inhabited α]:Inhabited (Vec α n):=⟨Vec.rep n default⟩
def Vec.of [Inhabited α](n:Nat)(l:List α):Vec α n:=if h:l.length=n then⟨l,h⟩ else Vec.rep n default
def appz (xs:List α)(l:Int)(z:α)(b:Nat):Option (List α):=if 0<=l/\(xs.length+l.toNat)*b<=140737488355328 then some (xs++List.replicate l.toNat z) else none
theorem appz_some{xs:List α}{ys:List α}{l}{z:α}{b}(h:appz xs l z b=some ys):0<=l/\(xs.length+l.toNat)*b<=140737488355328/\ys=xs++List.replicate l.toNat z:=by
  unfold appz at h;split at h
  ·rename_i a;simp only[A2a] at h;exact⟨a.1,a.2,h.symm⟩
  ·cases h
abbrev SV.ar (E:Enc α){n:Nat}(x:Vec α n):SV:=.vec (n*E.sz) (E.vec x)
section
variable {P:Program}{n:Nat}{Q:Exit->Act->World->Prop}{ops:Array Oper}{L:St}{w w0:World}{F O:Nat->Prop}{hs:List HP}{K:St->World->Prop}
theorem Y3{x}(K:St->World->Prop)(h:W P n x (Exit.then (fun a w=>∃ L,Fu n a (Kn L)/\K L w) Q) L w)(g:∀ L w,K L w->At n (Q .normal) L w):W P n x Q L w:=by
  intro a f;refine wp_mono (h a f) ?_;intro e i w' b;cases e with
  | normal=>obtain⟨L',d,c⟩:=b;exact g L' w' c i d
  | _=>exact b
theorem Ro.KU(E:Enc α):Ro F w none (E.all ([]:List α)):=Ro.nil (A:=none)
theorem Src.sl{E:Enc α}{A}{xs:List α}{m c sz}(h:Rd w A (E.all xs))(hn:xs.length=m)(hs:E.sz=sz):Src P sz w (.slice A m c) m (E.all xs) :=
  Src.slice h (by rw[Enc.g_,hn,hs])
theorem Vg{xs:List α}{ys:List α}{lo a}(h:Iw xs lo a=some ys)(c:lo=0):ys=xs.take ys.length:=by
  obtain⟨h1,h2,h3,b⟩:=jg h;have hl:=rJ h;rw[hl];subst c;rw[b];simp
theorem Rj{E:Enc α}{m}{x:Vec α m}{i}{y:α}{v}(h:aP x.l i=some y)(b:(E.f y)[0]?=some v):(0<=i/\i < (m:Int))/\(SV.cl [SV.ar E x])[i.toNat*E.sz]?=some v:=by
  have a:=fF h;rw[x.h] at a;refine⟨a,?_⟩;rw[F5];have:=E.all_cell (aS h).2 b;simp only[SV.cl,A2n];show(E.all x.l)[i.toNat*E.sz]?=some v;simpa using this
theorem ar_ixs{E:Enc α}{m}{x:Vec α m}{i}{y:α}{vs}(h:aP x.l i=some y)(b:E.f y=vs):(0<=i/\i < (m:Int))/\((SV.cl [SV.ar E x]).drop (i.toNat*E.sz)).take E.sz=vs:=by
  have a:=fF h;rw[x.h] at a;refine⟨a,?_⟩;rw[F5,<-b];simp only[SV.cl,A2n];exact E.YY (aS h).2
theorem At_end{fn R}(os xs:List SV)(cs:List Cond)(a:UN P fn.results.toList L os=some (xs,cs,[]))(b:All cs w)(h:R (.returned (Yd xs).val) w):At n (bodyPost P fn R .normal) L w :=
  At_ret (P:=P) (fn:=fn) os xs cs a b h
theorem cl_ar{E:Enc α}{m}(x:Vec α m):SV.cl [SV.ar E x]=(eV E m).f x:=by
  rw[F5];show E.all x.l++[]=E.all x.l;rw[A2n]
theorem Rd.elV{w A p}{E:Enc α}{m}{xs:List (Vec α m)}{i}{x:Vec α m}(h:Rd w A ((eV E m).all xs))(b:aP xs i=some x)(hp:Pt A (i.toNat*(eV E m).sz+0) p)(hm:0 < (eV E m).sz):∃ a,p=some a/\Rd w (some a) (SV.cl [SV.ar E x]):=by
  rw[cl_ar];refine h.els b hp ?_ hm Y;rw[A0i];have:=(eV E m).len x;rw[<- this,A0S]
theorem ar_ixV{E:Enc α}{k m}{x:Vec (Vec α k) m}{i}{y:Vec α k}(h:aP x.l i=some y):(0<=i/\i < (m:Int))/\((SV.cl [SV.ar (eV E k) x]).drop (i.toNat*(eV E k).sz)).take (eV E k).sz=SV.cl [SV.ar E y] :=
  ar_ixs h (cl_ar y).symm
theorem Cx.yc{t:TypeId}{g ys}(k:Cx F O w0 w hs)(i:Nat)(b:hs[i]?=some (Bx t g ys))(off:Nat)(v:SV)(h:(cellS off ys).map SV.val=some v.val):∃ a,some (⟨g,off,none⟩:Addr)=some a/\w.cell? a=some v.val:=by
  simp only[A0M] at h;obtain⟨x,hx,c⟩:=h;rw[<- c];exact(k.F7 i b).cellP (Pt.at g off) (VN hx).1
theorem Cx.blds{t:TypeId}{g ys}(k:Cx F O w0 w hs)(i:Nat)(c:hs[i]?=some (Bx t g ys))(off m:Nat)(b:List SV)(h:(TC off m ys).map SV.cl=some (SV.cl b))(hm:0 < m):∃ a,some (⟨g,off,none⟩:Addr)=some a/\Rd w (some a) (SV.cl b):=by
  simp only[A0M] at h;obtain⟨x,hx,d⟩:=h;obtain⟨f,e2,e⟩:=Um hx;rw[<- d,<-f];exact(k.F7 i c).partP (Pt.at g off) (by rw[jr];exact e) hm
theorem Op_bput{ty t:TypeId}{p x a f g}(ss:A00)(i:Nat){e sv svs}{bt:TypeId}{b ys}(d:List SV){off}(A28:(Ep ops ss L (⟨none,.store t p x,ty,a,f,g⟩:Oper),(none:A03),(toSS [p,x] (lk L)).map SV.vals,FP P t,cellsS sv,svs.all SV.one1)=(true,none,some [.pointer e,sv.val],some (SV.width svs),some svs,true))(hp:Pt (some ⟨b,0,none⟩) off e)(k:Cx F O w0 w hs)(l:hs[i]?=some (Bx bt b ys))(h:(putS off (SV.width svs) svs ys).map SV.cl=some (SV.cl d))(j:∀ w',Cx F O w0 w' (hs.set i (Bx bt b d))->K L w') :
    Dv P n ops L w ⟨none,.store t p x,ty,a,f,g⟩ K:=by
  simp only[A0M] at h;obtain⟨zs',c,m⟩:=h;obtain⟨q,e2,e3,o⟩:=X_ c;refine Op_bst ss i d A28 hp k l ?_ o j;rw[<- m,q];unfold pat;rw[jr]
end
end
section
inductive Bl:St->St->Prop
  | a {l}:Bl l l
  | z {l}:Bl l []
  | k {x l l'}:Bl l l'->Bl (x::l) (x::l')
  | s {x l l'}:Bl l l'->Bl (x::l) l'
  | n {l l'} (i:Nat) (v:SV):Bl l l'->Bl l ((i,v)::l')
theorem Bl.kk{x y l a}(h:Bl l a):Bl (x::y::l) (x::y::a):=.k (.k h)
theorem Bl.rQ{x y z l a}(h:Bl l a):Bl (x::y::z::l) (x::y::z::a):=.k (.kk h)
theorem Bl.dF{x y z u l a}(h:Bl l a):Bl (x::y::z::u::l) (x::y::z::u::a):=.kk (.kk h)
theorem Bl.ss{x y l a}(h:Bl l a):Bl (x::y::l) a:=.s (.s h)
theorem Bl.lI{x y z l a}(h:Bl l a):Bl (x::y::z::l) a:=.s (.ss h)
theorem Bl.fV{x y z u l a}(h:Bl l a):Bl (x::y::z::u::l) a:=.ss (.ss h)
section
variable {α β σ ρ:Type}{P:Program}{n:Nat}{Q:Exit->Act->World->Prop}{ops:Array Oper}{L L':St}{w w0:World}{os:List SV}{cs:List Cond}{F O:Nat->Prop}{hs:List HP}
structure Ask (os:List SV)(cs:List Cond)(w:World):Prop where
  h:All cs w
def dp (p:Prop):Cond:=fun _=>p
def dS (A:EQ):Cond:=fun _=>A.isSome=true
def dI (i:Int)(n:Nat)(A:EQ):Cond:=fun _=>0<=i/\i < (n:Int)/\A.isSome=true
def dC (p:EQ)(v:SV):Cond:=fun w=>∃ a,p=some a/\w.cell? a=some v.val
def dR (p:EQ)(cs:List SV):Cond:=fun w=>∃ a,p=some a/\Rd w (some a) (SV.cl cs)
theorem qe:Ask [] [] w:=⟨trivial⟩
theorem qo(v:SV)(r:Ask os cs w):Ask (v::os) cs w:=⟨r.h⟩
theorem qc(c:Cond)(p:c w)(r:Ask os cs w):Ask os (c::cs) w:=⟨p,r.h⟩
theorem qp(p:Prop)(h:p)(r:Ask os cs w):Ask os (dp p::cs) w:=⟨h,r.h⟩
theorem qs(g off:Nat)(r:Ask os cs w):Ask os (dS (some ⟨g,off,none⟩)::cs) w:=⟨rfl,r.h⟩
theorem qS{A}(h:A.isSome=true)(r:Ask os cs w):Ask os (dS A::cs) w:=⟨h,r.h⟩
theorem qI{m}{v:Vec α m}{i}{x:α}(g off:Nat)(h:aP v.l i=some x)(r:Ask os cs w):Ask os (dI i m (some ⟨g,off,none⟩)::cs) w :=
  ⟨⟨(fF h).1,by have:=(fF h).2;have:=v.h;omega,rfl⟩,r.h⟩
class Pos (E:Enc α):Prop where h:0 < E.sz
instance:Pos e8:=⟨A2H⟩
instance:Pos e16:=⟨A2H⟩
instance:Pos e32:=⟨A2H⟩
instance:Pos e64:=⟨A2H⟩
instance:Pos eI:=⟨A2H⟩
instance:Pos eS:=⟨A2H⟩
instance:Pos eB:=⟨A2H⟩
instance {a:Enc α} {b:Enc β} [h:Pos a]:Pos (eP a b):=⟨A0c h.h (Nat.le_add_right _ _)⟩
instance {E:Enc α} {m:Nat} [h:Pos E]:Pos (eV E (m+1)):=⟨Nat.mul_pos (Nat.succ_pos m) h.h⟩
theorem qJ{E:Enc α}[he:Pos E]{A}{xs:List α}{i}{x:α}{m}(a:Rd w A (E.all xs))(h:aP xs i=some x)(hl:xs.length=m)(r:Ask os cs w):Ask os (dI i m A::cs) w :=
  ⟨a.ix h hl he.h,r.h⟩
theorem qJp{A:EQ}{i:Int}{m:Nat}(h:0<=i/\i < (m:Int)/\A.isSome=true)(r:Ask os cs w):Ask os (dI i m A::cs) w:=⟨h,r.h⟩
theorem qC{p}(v:SV)(h:∃ a,p=some a/\w.cell? a=some v.val)(r:Ask os cs w):Ask (v::os) (dC p v::cs) w:=⟨h,r.h⟩
theorem qR{p}(b:List SV)(h:∃ a,p=some a/\Rd w (some a) (SV.cl b))(r:Ask os cs w):Ask (.agg b::os) (dR p b::cs) w:=⟨h,r.h⟩
theorem qB{t:TypeId}{g ys}(k:Cx F O w0 w hs)(i:Nat)(a:hs[i]?=some (Bx t g ys))(off:Nat)(v:SV)(h:(cellS off ys).map SV.val=some v.val)(r:Ask os cs w):Ask (v::os) (dC (some ⟨g,off,none⟩) v::cs) w:=⟨k.yc i a off v h,r.h⟩
theorem Cx.vrd{t:TypeId}{g m ys}(k:Cx F O w0 w hs)(i:Nat)(a:hs[i]?=some (Bx t g ys))(E:Enc α)(x:Vec α m)(off:Nat)(hd:((Ko off ys).bind List.head?).map (fun v=>(v.Qa,v.val))=some (true,.agg ⟨E.all x.l⟩)):Rd w (some ⟨g,off,none⟩) (E.all x.l):=(k.F7 i a).vec hd
theorem qV{E:Enc α}{A m}{xs:Vec α m}{i}{x:α}(a:Rd w A (E.all xs.l))(h:aP xs.l i=some x)(b:A.isSome=true)(s:SV)(hs:E.f x=[s.val])(r:Ask os cs w):Ask (s::os) (dI i m A::dC (jA A i E.sz) s::cs) w :=
  ⟨⟨(fF h).1,by have:=(fF h).2;have:=xs.h;omega,b⟩,a.el h (k:=0) (Pt.vH A i E.sz) (by rw[hs];rfl),r.h⟩
theorem qW{E:Enc α}[he:Pos E]{A}{xs:List α}{i}{x:α}{m}(a:Rd w A (E.all xs))(h:aP xs i=some x)(hl:xs.length=m)(s:SV)(hs:E.f x=[s.val])(r:Ask os cs w):Ask (s::os) (dI i m A::dC (jA A i E.sz) s::cs) w :=
  ⟨a.ix h hl he.h,a.el h (k:=0) (Pt.vH A i E.sz) (by rw[hs];rfl),r.h⟩
theorem qX{xs i y}(h:aP xs i=some y)(r:Ask os cs w):Ask (.u8 y::os) (dp (0<=i/\xs[i.toNat]?=some y)::cs) w:=⟨aS h,r.h⟩
theorem qT{t:TypeId}{g ys}(k:Cx F O w0 w hs)(i:Nat)(b:hs[i]?=some (Bx t g ys))(off m:Nat)(a:List SV)(h:(TC off m ys).map SV.cl=some (SV.cl a))(hm:0 < m)(r:Ask os cs w):Ask (.agg a::os) (dR (some ⟨g,off,none⟩) a::cs) w:=⟨k.blds i b off m a h hm,r.h⟩
theorem J5{l}(k:Nat)(ss:A00)(b:Bl L L')(q:Ask os cs w)(hs:(evs P n ops ss (l.take k) (Kn L) os).map (fun r=>(L'.map fun e=>(look r.1 e.1).map fun e=>(e.g,e.x.val),r.2.1,r.2.2))=some (L'.map fun p=>some (none,p.2.val),cs,[]))(h:WL P n ops Q (l.drop k) L' w):WL P n ops Q l L w:=WL_seg k ss os L' cs hs q.h h
theorem W_q{id l}(ss:A00)(b:Bl L L')(q:Ask os cs w)(hs:(evs P n l.toArray ss l (Kn L) os).map (fun r=>(L'.map fun e=>(look r.1 e.1).map fun e=>(e.g,e.x.val),r.2.1,r.2.2))=some (L'.map fun p=>some (none,p.2.val),cs,[]))(h:At n (Q .normal) L' w):W P n (.region id l.toArray false) Q L w:=W_quiet ss os L' cs hs q.h h
theorem Vh{id l}(hm:P.follows .mixedOrders=true)(a:Region.lexB .any l.toArray=true)(b:Bl L L')(q:∀ m,Ask os cs (w.drewN m))(hs:(evs P n l.toArray [] l (Kn L) os).map (fun r=>(L'.map fun e=>(look r.1 e.1).map fun e=>(e.g,e.x.val),r.2.1,r.2.2))=some (L'.map fun p=>some (none,p.2.val),cs,[]))(h:∀ m,At n (Q .normal) L' (w.drewN m)):W P n (.region id l.toArray true) Q L w:=W_draw hm os L' cs a hs (fun m=>(q m).h) h
theorem MXq{p Ls C Q π A26}(k m:Nat)(ss:A00)(b:Bl L L')(q:∀ w,cls C m w->Ask os cs w)(hs:((qops ops m k π).bind fun l=>evs P n ops ss l (Kn L) os).map (fun r=>(L'.map fun e=>(look r.1 e.1).map fun e=>(e.g,e.x.val),r.2.1,r.2.2))=some (L'.map fun p=>some (none,p.2.val),cs,[]))(h:∀ a,MX P n ops Ls C Q (π.drop k) p a (Kn L') w):MX P n ops Ls C Q π p A26 (Kn L) w:=MX_q k m ss os L' cs hs (fun w c=>(q w c).h) h
theorem At_c{Q:Exit->Act->World->Prop}{K:St->World->Prop}(h:K L' w)(b:L'.map (fun p=>(find L p.1).map SV.val)=L'.map (fun p=>some p.2.val)):At n (Exit.then (fun a w=>∃ L,Fu n a (Kn L)/\K L w) Q .normal) L w:=Lt L' b (At_cut h)
theorem At_rd{Q}{b:σ->St->World->Prop}{y:σ⊕ρ}(s':σ)(hy:y=.inl s')(h:b s' L' w)(c:L'.map (fun p=>(find L p.1).map SV.val)=L'.map (fun p=>some p.2.val)):At n (Exit.then (fun a w=>∃ s' L',y=.inl s'/\Fu n a (Kn L')/\b s' L' w) Q .normal) L w:=Lt L' c (At_round s' hy h)
theorem W_lp{c}(b:σ->Option (σ⊕ρ))(d:σ->St->World->Prop)(e:σ)(r:ρ)(hm:aT b e=some r)(i:d e L' w0)(g:L'.map (fun p=>(find L p.1).map SV.val)=L'.map (fun p=>some p.2.val))(h:∀ s L w y,d s L w->b s=some y->(∀ f,y=.inr f->f=r)->W P n c (Exit.then (fun a w=>∃ s' L',y=.inl s'/\Fu n a (Kn L')/\d s' L' w) Q) L w):W P n (.loop c) Q L w0:=W_forget L' g (W_loop b d e r hm i h)
theorem At_rt{fn R}(xs:List SV)(q:Ask os cs w)(a:UN P fn.results.toList L os=some (xs,cs,[]))(h:R (.returned (Yd xs).val) w):At n (bodyPost P fn R .ret) L w:=At_ret os xs cs a q.h h
theorem FX{fn R}(xs:List SV)(q:Ask os cs w)(a:UN P fn.results.toList L os=some (xs,cs,[]))(h:R (.returned (Yd xs).val) w):At n (bodyPost P fn R .normal) L w:=At_end os xs cs a q.h h
theorem Kt{l}(k:Nat)(c:Bool)(b:Bl L L')(d:((k,SV.b c)::L').map (fun p=>(find L p.1).map SV.val)=((k,SV.b c)::L').map (fun p=>some p.2.val))(f:c=true->WL P n ops Q l ((k,.b true)::L') w)(e:c=false->WL P n ops Q l ((k,.b false)::L') w):WL P n ops Q l L w:=by
  have key:WL P n ops Q l ((k,SV.b c)::L') w->WL P n ops Q l L w:=fun h=>Lt (q:=fun a w=>wpList P ops Q l a w) ((k,SV.b c)::L') d h;cases c with
  | true=>exact key (f rfl)
  | false=>exact key (e rfl)
theorem ob{a:Option α}{f:α->Option β}{r:β}(h:a.bind f=some r):∃ x,a=some x/\f x=some r:=A0d.1 h
theorem nm{a:α}{f:α->Option β}{r:β}(h:(some a).bind f=some r):∃ x,a=x/\f x=some r:=⟨a,rfl,h⟩
inductive XO {β:Type}:List β->List β->Prop
  | e:XO [] []
  | z {l}:XO l []
  | k {x l l'}:XO l l'->XO (x::l) (x::l')
  | s {x l l'}:XO l l'->XO (x::l) l'
theorem XO.kk{β:Type}{x:β}{y:β}{l a}(h:XO l a):XO (x::y::l) (x::y::a):=.k (.k h)
theorem XO.dF{β:Type}{x:β}{y:β}{z:β}{u:β}{l a}(h:XO l a):XO (x::y::z::u::l) (x::y::z::u::a):=.kk (.kk h)
theorem XO.ss{β:Type}{x:β}{y:β}{l a}(h:XO l a):XO (x::y::l) a:=.s (.s h)
theorem XO.fV{β:Type}{x:β}{y:β}{z:β}{u:β}{l a}(h:XO l a):XO (x::y::z::u::l) a:=.ss (.ss h)
inductive Pick {β:Type}:List β->β->List β->Prop
  | h {x l}:Pick (x::l) x l
  | t {x y l l'}:Pick l x l'->Pick (y::l) x (y::l')
inductive Ut {β:Type}:List β->List β->List β->Prop
  | e:Ut [] [] []
  | i {x l a b}:Ut l a b->Ut (x::l) (x::a) b
  | r {x l a b}:Ut l a b->Ut (x::l) a (x::b)
inductive App {β:Type}:List β->List β->List β->Prop
  | n {l}:App [] l l
  | c {x a b l}:App a b l->App (x::a) b (x::l)
theorem App.eq{β:Type}{a:List β}{b:List β}{l:List β}(h:App a b l):l=a++b:=by induction h <;> simp_all
theorem Ut.perm{β:Type}{l:List β}{a:List β}{b:List β}(h:Ut l a b):l.Perm (a++b):=by
  induction h with
  | e=>exact .nil
  | i _ ih=>exact .cons _ ih
  | r _ ih=>exact(A3f _ ih).trans (List.perm_middle.symm)
theorem Pick.perm{β:Type}{x:β}{l:List β}{a:List β}(h:Pick l x a):l.Perm (x::a):=by
  induction h with
  | h=>exact .refl _
  | t _ ih=>exact(A3f _ ih).trans (.swap _ _ _)
theorem Sep.perm{w a b}(h:a.Perm b):∀ {U V:Nat->Prop},Sep w a U V->Sep w b U V:=by
  induction h with
  | nil=>exact fun h=>h
  | cons x _ ih =>
    rintro U V ⟨S,R,f,e,d,c,h3⟩;exact⟨S,R,f,e,d,ih c,h3⟩
  | swap x y l =>
    intro U V h;exact Sep.cut (i:=1) (h:=x) rfl h
  | trans _ _ ih1 ih2=>exact fun h=>ih2 (ih1 h)
theorem Cx.perm{a b}(k:Cx F O w0 w a)(h:a.Perm b):Cx F O w0 w b:=by
  obtain⟨U,V,d,c,h3⟩:=k.sep;exact⟨k.os,k.tape,k.output,k.size,k.block,k.fin,k.Vf,U,V,Sep.perm h d,c,h3⟩
theorem Cx.tl{x}(k:Cx F O w0 w (x::hs)):Cx F O w0 w hs:=k.drop 0
theorem XO.sub{a:List HP}{b}(h:XO a b):∃ c,a.Perm (c++b):=by
  induction h with
  | e=>exact⟨[],.refl _⟩
  | z=>rename_i l;exact⟨l,by rw[A2n]⟩
  | k _ ih=>obtain⟨c,d⟩:=ih;exact⟨c,(A3f _ d).trans List.perm_middle.symm⟩
  | s _ ih=>rename_i x _ _ _;obtain⟨c,d⟩:=ih;exact⟨x::c,.cons _ d⟩
theorem Cx.dropl{a b}(k:Cx F O w0 w (a++b)):Cx F O w0 w b:=by
  induction a with
  | nil=>exact k
  | cons x l ih=>exact ih k.tl
theorem Cx.bH {a:List HP}(k:Cx F O w0 w hs)(h:XO hs a):Cx F O w0 w a:=by
  obtain⟨c,b⟩:=h.sub;exact(k.perm b).dropl
theorem Cx.pk{x a}(k:Cx F O w0 w hs)(h:Pick hs x a):Cx F O w0 w (x::a):=k.perm h.perm
theorem Cx.go{ins rest}(k:Cx F O w0 w hs)(p:Ut hs ins rest):∃ F1 O1:Nat->Prop,Cx F1 O1 w w ins/\(∀ b,O b->O1 b)/\(∀ (i:Nat) (h:HP),rest[i]?=some h->∃ S R,h.p w S R/\(∀ b,R b->O1 b)/\∀ b,S b->¬ F1 b)/\(∀ b,F1 b->F b∨w0.heap.size<=b) /\
    ∀ w' a c,Cx F1 O1 w w' a->App a rest c->Cx F O w0 w' c:=by
  obtain⟨F1,O1,l,j,h3,g,f⟩:=(k.perm p.perm).enter;exact⟨F1,O1,l,j,h3,g,fun w' a c d e=>e.eq▸f w' a d⟩
inductive Chain (F O:Nat->Prop)(w0:World):List HP->List (World->Prop)->Prop
  | l {h:List HP}:Chain F O w0 h [fun x=>Cx F O w0 x h]
  | c {h h':List HP} {C:List (World->Prop)}:XO h h'->Chain F O w0 h' C->Chain F O w0 h ((fun x=>Cx F O w0 x h)::C)
theorem Chain.spec{hs C}(h:Chain F O w0 hs C):XU C/\∀ w,cls C 0 w ↔ Cx F O w0 w hs:=by
  induction h with
  | l=>exact⟨trivial,fun w=>Iff.rfl⟩
  | c h1 hc ih =>
    cases hc with
    | l=>exact⟨⟨fun x hx=>Cx.bH hx h1,trivial⟩,fun w=>Iff.rfl⟩
    | c h2 h3=>exact⟨⟨fun x hx=>Cx.bH hx h1,ih.1⟩,fun w=>Iff.rfl⟩
theorem W_m{id:Nat}{l:List Oper}{C:List (World->Prop)}(hm:P.follows .mixedOrders=true)(π:MT)(Ls:A00)(k:Cx F O w0 (w.drewN 1) hs)(a:Chain F O w0 hs C)(b:(Region.noSelect l.toArray,NT l.toArray Ls π 0 (Array.replicate l.length false),π.depth == l.length)=(true,true,true))(h:∀ A26,MX P n l.toArray Ls C (Q .normal) π 0 A26 (Kn L) (w.drewN 1)) :
    W P n (.region id l.toArray true) Q L w:=W_mix hm π Ls C b a.spec.1 ((a.spec.2 _).2 k) h
inductive Mid:List SV->List SV->List SV->Prop
  | k {s y ys zs}:Mid s ys zs->Mid s (y::ys) (y::zs)
  | h {s y ys}:Mid [s] (y::ys) (s::ys)
  | h2 {s t y u ys}:Mid [s,t] (y::u::ys) (s::t::ys)
  | h3 {s t r y u v ys}:Mid [s,t,r] (y::u::v::ys) (s::t::r::ys)
  | h4 {s t r q y u v x ys}:Mid [s,t,r,q] (y::u::v::x::ys) (s::t::r::q::ys)
  | all {s ys}:Mid s ys s
theorem Mid.kk{s y u ys a}(h:Mid s ys a):Mid s (y::u::ys) (y::u::a):=.k (.k h)
theorem Mid.dF{s y u v x ys a}(h:Mid s ys a):Mid s (y::u::v::x::ys) (y::u::v::x::a):=.kk (.kk h)
theorem Op_b{K}{ty t:TypeId}{p x a e g}(ss:A00)(i:Nat){d}(sv:SV)(svs:List SV){bt:TypeId}{b ys c off}(hp:Pt (some ⟨b,0,none⟩) off d)(k:Cx F O w0 w hs)(j:hs[i]?=some (Bx bt b ys))(md:Mid svs ys c)(A28:(Ep ops ss L (⟨none,.store t p x,ty,a,e,g⟩:Oper),(none:A03),(toSS [p,x] (lk L)).map SV.vals,FP P t,cellsS sv,svs.all SV.one1)=(true,none,some [.pointer d,sv.val],some (SV.width svs),some svs,true))(f:(putS off (SV.width svs) svs ys).map SV.cl=some (SV.cl c))(h:∀ w',Cx F O w0 w' (hs.set i (Bx bt b c))->K L w') :
    Dv P n ops L w ⟨none,.store t p x,ty,a,e,g⟩ K:=Op_bput ss i c A28 hp k j f h
inductive Vup:List SV->Enc α->{m:Nat}->Vec α m->Vec α m->Nat->List SV->Prop
  | h {E:Enc α} {m:Nat} {x y:Vec α m} {ys}:Vup (.ar E x::ys) E x y 0 (.ar E y::ys)
  | t {E:Enc α} {m o:Nat} {x y:Vec α m} {u ys zs}:Vup ys E x y o zs->Vup (u::ys) E x y (SV.width [u]+o) (u::zs)
theorem Vup.split{E:Enc α}{m o}{x:Vec α m}{y:Vec α m}{ys c}(h:Vup ys E x y o c):∃ b a,ys=b++.ar E x::a/\c=b++.ar E y::a/\o=SV.width b:=by
  induction h with
  | h=>exact⟨[],_,rfl,rfl,rfl⟩
  | t _ ih =>
    obtain⟨p,q,rfl,rfl,rfl⟩:=ih;exact⟨_::p,q,rfl,rfl,(Pq [_] p).symm⟩
theorem Op_vs{K}{ty t:TypeId}{p x c s g}{E:Enc α}(ss:A00)(i:Nat){q}(sv:SV)(svs:List SV){bt:TypeId}{b m o r}{x0:Vec α m}{h:Vec α m}{ys e j}{u:α}{y:α}{kk}(G:oP x0 j y=h)(hx:aP x0.l j=some u)(hp:Pt (some ⟨b,0,none⟩) (r+(j.toNat*E.sz+kk)) q)(k:Cx F O w0 w hs)(I:hs[i]?=some (Bx bt b ys))(v:Vup ys E x0 h o e)(hy:E.f y=pat (E.f u) kk (SV.cl svs))(A28:(Ep ops ss L (⟨none,.store t p x,ty,c,s,g⟩:Oper),(none:A03),(toSS [p,x] (lk L)).map SV.vals,FP P t,cellsS sv,svs.all SV.one1,r)=(true,none,some [.pointer q,sv.val],some (SV.width svs),some svs,true,o))(hl:Nat.ble (kk+SV.width svs) E.sz=true)(H:∀ w',Cx F O w0 w' (hs.set i (Bx bt b e))->K L w') :
    Dv P n ops L w ⟨none,.store t p x,ty,c,s,g⟩ K:=by
  obtain⟨d,a,rfl,rfl,rfl⟩:=v.split;simp only[A2c] at A28;obtain⟨D,s2,C,B,A,z,rfl⟩:=A28;subst G;exact Op_vst (E:=E) (kk:=kk) (sv:=sv) (svs:=svs) ss i d a x0 y (by rw[D,C,B,A,z]) hp k I hx hy (A2h hl) H
end
end
section
variable {α β:Type}
abbrev Hd:=EQ×Nat×Nat
def eH:Enc Hd:=⟨1,fun h=>[.slice h.1 h.2.1 h.2.2],fun _=>rfl,fun x v h=>by rw[A0N.1 h];rfl⟩
instance:Pos eH:=⟨A2H⟩
def rows (E:Enc α):List Hd->List (List α)->List HP
  | h::hs,x::xs=>Ow E h.1 h.2.1 h.2.2 x::rows E hs xs
  | _,_=>[]
theorem rows_get{E:Enc α}{hd}{Ce:List (List α)}{i:Nat}{h:Hd}{x:List α}(d:hd[i]?=some h)(c:Ce[i]?=some x):(rows E hd Ce)[i]?=some (Ow E h.1 h.2.1 h.2.2 x):=by
  induction hd generalizing Ce i with
  | nil=>cases d
  | cons a az ih =>
    cases Ce with
    | nil=>cases c
    | cons b bs =>
      cases i with
      | zero =>
        simp only[A3l,A2a] at d c;subst d;subst c;rfl
      | succ i =>
        simp only[A3R] at d c;exact ih d c
theorem V5 {E:Enc α}:∀ (hd:List Hd) (Ce:List (List α)) (i:Nat) (h:Hd) (x:List α),hd.length=Ce.length->(rows E hd Ce).set i (Ow E h.1 h.2.1 h.2.2 x)=rows E (hd.set i h) (Ce.set i x)
  | [],Ce,_,_,_,_=>rfl
  | _::_,[],_,_,_,h=>by cases h
  | a::az,b::bs,0,h,x,_=>rfl
  | a::az,b::bs,i+1,h,x,hl=>by
    simp only[bi,Nat.add_right_cancel_iff] at hl;simp only[rows,List.set_cons_succ,V5 az bs i h x hl]
theorem rows_app {E:Enc α}:∀ (hd c:List Hd) (Ce d:List (List α)),hd.length=Ce.length->rows E (hd++c) (Ce++d)=rows E hd Ce++rows E c d
  | [],c,[],d,_=>rfl
  | [],_,_::_,_,h=>by cases h
  | _::_,_,[],_,h=>by cases h
  | a::az,c,b::bs,d,hl=>by
    simp only[bi,Nat.add_right_cancel_iff] at hl;simp only[A0f,rows,rows_app az c bs d hl]
theorem Og {E:Enc α}:∀ (hd:List Hd) (Ce:List (List α)),hd.length=Ce.length->(rows E hd Ce).length=hd.length
  | [],_,_=>by simp[rows]
  | _::_,[],h=>by cases h
  | a::az,b::bs,hl=>by
    simp only[bi,Nat.add_right_cancel_iff] at hl;simp[rows,Og az bs hl]
def Pk (q:Prop)(l:List HP):HP where
  p w S R:=q/\Sep w l S R
  loc:=by
    rintro w w' S R ⟨b,h⟩ a;exact⟨b,h.keep a⟩
def O2 (E:Enc α)(A:EQ)(n c:Nat)(hd:List Hd)(Ce:List (List α)):HP:=Pk (hd.length=Ce.length) (Ow eH A n c hd::rows E hd Ce)
def O2x (E:Enc α)(A:EQ)(n c:Nat)(hd:List Hd)(Ce:List (List α))(i:Nat):HP:=Pk (hd.length=Ce.length) (Ow eH A n c hd::(rows E hd Ce).eraseIdx i)
section
variable {F O:Nat->Prop}{w0 w w':World}{hs rest:List HP}
theorem Oh{β:Type}{l:List β}{i}{x:β}(h:l[i]?=some x):l.Perm (x::l.eraseIdx i):=by
  induction l generalizing i with
  | nil=>cases h
  | cons y l ih =>
    cases i with
    | zero =>
      simp only[A3l,A2a] at h;subst h;exact .refl _
    | succ i =>
      simp only[A3R] at h;simp only[List.eraseIdx_cons_succ];exact(A3f _ (ih h)).trans (.swap _ _ _)
theorem V6{β:Type}{l:List β}{i}(x:β)(h:i < l.length):(x::l.eraseIdx i).Perm (l.set i x):=by
  have b:(l.set i x)[i]?=some x:=by simp[h]
  have a:=Oh b;rw[List.eraseIdx_set_eq] at a;exact a.symm
theorem Cx.unpk{q l}(k:Cx F O w0 w (Pk q l::rest)):q/\Cx F O w0 w (l++rest):=by
  obtain⟨U,V,⟨S,R,U',V',⟨d,i⟩,h,h3,g,c,f⟩,e,hV⟩:=k.sep;refine⟨d,k.os,k.tape,k.output,k.size,k.block,k.fin,k.Vf,_,_,Sep.join i h (fun b a=>⟨(c b a).1,(c b a).2.2⟩) f,fun b a=>e b ((h3 b).2 a),fun b a=>hV b ((g b).2 a)⟩
theorem Cx.dopk{q l}(f:q)(k:Cx F O w0 w (l++rest)):Cx F O w0 w (Pk q l::rest):=by
  obtain⟨U,V,h,g,hV⟩:=k.sep;obtain⟨s,p,r,o,d,n,m,j,c,i⟩:=Sep.split h;refine⟨k.os,k.tape,k.output,k.size,k.block,k.fin,k.Vf,U,V,⟨s,p,r,o,⟨f,d⟩,n,m,j,fun b a=>⟨(c b a).1,fun e=>Sep.apart d b a e,(c b a).2⟩,i⟩,g,hV⟩
theorem O2.parts{E:Enc α}{A n c hd}{Ce:List (List α)}{S R}(h:(O2 E A n c hd Ce).p w S R) :
    hd.length=Ce.length/\(∃ a d,(Ow eH A n c hd).p w a d/\∀ b,a b->S b)/\∀ (j:Nat) (h:Hd) (x:List α),hd[j]?=some h->Ce[j]?=some x->∃ a d,(Ow E h.1 h.2.1 h.2.2 x).p w a d/\∀ b,a b->S b:=by
  obtain⟨hl,k⟩:=h;refine⟨hl,?_,fun j h x m l=>?_⟩
  ·obtain⟨a,d,r,q,g,o,f,_⟩:=Sep.cut (i:=0) rfl k;exact⟨a,d,g,fun b e=>(f b).2 (.inl e)⟩
  ·obtain⟨a,d,r,q,g,o,f,_⟩:=Sep.cut (i:=j+1) (by rw[A3R];exact rows_get m l) k;exact⟨a,d,g,fun b e=>(f b).2 (.inl e)⟩
theorem Cx.hd2{E:Enc α}{A n c hd}{Ce:List (List α)}(k:Cx F O w0 w hs)(i:Nat)(a:hs[i]?=some (O2 E A n c hd Ce)):Rd w A (eH.all hd):=by
  obtain⟨S,R,h⟩:=k.get i a;obtain⟨_,⟨S',R',b,_⟩,_⟩:=O2.parts h;exact Ow.rd' b
theorem Cx.rC{E:Enc α}{A n c hd}{Ce:List (List α)}(k:Cx F O w0 w hs)(i:Nat)(a:hs[i]?=some (O2 E A n c hd Ce)):Ce.length=n:=by
  obtain⟨S,R,h⟩:=k.get i a;obtain⟨hl,⟨S',R',b,_⟩,_⟩:=O2.parts h;rw[<- hl];exact b.1
theorem Cx.hlen2{E:Enc α}{A n c hd}{Ce:List (List α)}(k:Cx F O w0 w hs)(i:Nat)(a:hs[i]?=some (O2 E A n c hd Ce)):hd.length=n:=by
  obtain⟨S,R,h⟩:=k.get i a;obtain⟨hl,⟨S',R',b,_⟩,_⟩:=O2.parts h;exact b.1
theorem Ow.lec'{E:Enc α}{A n c}{xs:List α}{S R}(h:(Ow E A n c xs).p w S R):n<=c:=by
  rcases h.2 with⟨_,h1,h2⟩ | ⟨g,t,cur,_,_,h3,_⟩ <;> omega
theorem Cx.at2{E:Enc α}{A n c hd}{Ce:List (List α)}{j}{x:List α}(k:Cx F O w0 w hs)(i:Nat)(f:hs[i]?=some (O2 E A n c hd Ce))(hx:aP Ce j=some x):∃ B d,aP hd j=some (B,x.length,d)/\x.length<=d:=by
  obtain⟨S,R,h⟩:=k.get i f;obtain⟨hl,_,g⟩:=O2.parts h;obtain⟨l,e⟩:=aS hx;have a:=(A0e.1 e).1;have b:hd[j.toNat]?=some (hd[j.toNat]'(hl▸a)):=A0V _;obtain⟨S',R',hp,_⟩:=g _ _ _ b e;refine⟨(hd[j.toNat]'(hl▸a)).1,(hd[j.toNat]'(hl▸a)).2.2,?_,?_⟩
  ·unfold aP;rw[A3p l,b,hp.1]
  ·rw[hp.1];exact Ow.lec' hp
theorem IX{β:Type}{l:List β}{j}{x:β}(h:aP l j=some x):l[j.toNat]?=some x:=(aS h).2
theorem Cx.in2{E:Enc α}{A n c m hd}{Ce:List (List α)}{j}{x:List α}{B d}(k:Cx F O w0 w hs)(i:Nat)(a:hs[i]?=some (O2 E A n c hd Ce))(hx:aP Ce j=some x)(b:aP hd j=some (B,m,d)):Rd w B (E.all x):=by
  obtain⟨S,R,h⟩:=k.get i a;obtain⟨hl,_,e⟩:=O2.parts h;obtain⟨S',R',hp,_⟩:=e _ _ _ (IX b) (IX hx);exact Ow.rd' hp
theorem Cx.Yi{E:Enc α}{A}{n:Nat}{c:Nat}{m:Nat}{hd}{Ce:List (List α)}{j:Int}{x:List α}{B}{d:Nat}(k:Cx F O w0 w (O2 E A n c hd Ce::rest))(hx:aP Ce j=some x)(b:aP hd j=some (B,m,d)):Cx F O w0 w (O2x E A n c hd Ce j.toNat::Ow E B m d x::rest):=by
  obtain⟨hl,a⟩:=k.unpk;have e:=rows_get (E:=E) (IX b) (IX hx);refine Cx.dopk hl (a.perm ?_);simp only[A0f];refine .cons _ (List.Perm.trans (List.Perm.append_right rest (Oh e)) ?_);simp only[A0f];exact List.perm_middle.symm
theorem Cx.Y4{E:Enc α}{A n c m hd}{Ce:List (List α)}{j}{x:List α}{y:List α}{B d}(hx:aP Ce j=some x)(b:aP hd j=some (B,m,d))(k:Cx F O w0 w (O2x E A n c hd Ce j.toNat::Ow E B m d y::rest)):Cx F O w0 w (O2 E A n c hd (Ce.set j.toNat y)::rest):=by
  obtain⟨hl,e⟩:=k.unpk;refine Cx.dopk (by simpa using hl) (e.perm ?_);have hs:hd.set j.toNat (B,m,d)=hd:=by
    obtain⟨g,f⟩:=A0e.1 (IX b);rw[<- f];exact List.set_getElem_self g
  have a:=V5 (E:=E) hd Ce j.toNat (B,m,d) y hl;rw[hs] at a;simp only[A0f];refine .cons _ (List.Perm.trans List.perm_middle ?_);rw[<- a,<-A0f];exact List.Perm.append_right rest (V6 _ (by rw[Og _ _ hl];exact(A0e.1 (IX b)).1))
theorem Cx.nil2(k:Cx F O w0 w hs)(E:Enc α):Cx F O w0 w (hs++[O2 E Option.none 0 0 [] []]):=by
  have c:=k.nil eH;have b:Cx F O w0 w (([Ow eH Option.none 0 0 []]:List HP)++hs):=c.perm A0b;have a:=Cx.dopk (q:=([]:List Hd).length=([]:List (List α)).length) rfl b;exact a.perm (A0b (l₁:=[_]))
end
section
variable {F O F1 O1:Nat->Prop}{w0 w w':World}{hs rest:List HP}{E:Enc α}{A:EQ}{hd:List Hd}{Ce:List (List α)}
end
section
variable {P:Program}{n:Nat}{ops:Array Oper}{L:St}{w w0:World}{F O:Nat->Prop}{hs rest:List HP}{K:St->World->Prop}
theorem Op_mk2{c}{t ty:TypeId}{a b j l g}{e:TypeId}{h f}(m:TF P t e h f)(E:Enc α)(ss:A00)(d:Nat)(hd:List Hd)(Ce:List (List α))(ps:List (Nat×SV))(svs:List SV)(A28:(Ep ops ss L ⟨c,.buildSlice t a b,ty,j,l,g⟩,c,(decide (d < n)),(L.any fun p=>p.1 == d),(toPS b.toList (lk L)).map (·.map fun p=>(p.1,p.2.val)))=(true,some d,true,false,some (ps.map fun p=>(p.1,p.2.val))))(r:(Qc (fun i=>some (i*h.length,h.length)) ((List.replicate a h).flatten.map PT) ps,decide (a*h.length<=16777216),hd.length,eH.sz)=(some svs,true,a,h.length))(hx:SV.cl svs=eH.all hd)(hl:hd.length=Ce.length)(k:Cx F O w0 w (rows E hd Ce++rest))(q:∀ A w',Cx F O w0 w' (O2 E A a a hd Ce::rest)->K ((d,.v (.slice A a a))::L) w') :
    Dv P n ops L w ⟨c,.buildSlice t a b,ty,j,l,g⟩ K:=by
  refine Op_mk m eH ss d hd ps svs A28 r hx k fun A w' o=>q A w' (Cx.dopk hl (o.perm ?_));exact(A0b (l₂:=[_])).trans (List.Perm.refl _)
theorem Op_append2{j x y}{t t2 ty:TypeId}{m C g}{e:TypeId}{u b}(D:TF P t e u b){E:Enc α}(ss:A00)(d:Nat){A A2 h f c q hd a}{Ce:List (List α)}{l:List (List α)}(A28:(Ep ops ss L ⟨j,.call ⟨.builtin .append,#[x,y],#[t,t2]⟩,ty,m,C,g⟩,j,(decide (d < n)),(L.any fun p=>p.1 == d),(toSS [x,y] (lk L)).map SV.vals,(match P.underlying t2 with | some (.slice _)=>true | some .string=>true | _=>false),1)=(true,some d,true,false,some [.slice A h c,.slice A2 f q],true,u.length))(k:Cx F O w0 w (O2 E A h c hd Ce::O2 E A2 f q a l::rest))(i:(h+f)*b<=140737488355328)(R:∀ s r w',Cx F O w0 w' (O2 E s (h+f) r (hd++a) (Ce++l)::rest)->K ((d,.v (.slice s (h+f) r))::L) w') :
    Dv P n ops L w ⟨j,.call ⟨.builtin .append,#[x,y],#[t,t2]⟩,ty,m,C,g⟩ K:=by
  have o:a.length=f:=k.hlen2 1 rfl;have z:=k.hd2 1 rfl;obtain⟨hl,M⟩:=k.unpk;have J:Cx F O w0 w (O2 E A2 f q a l::((Ow eH A h c hd::rows E hd Ce)++rest)):=M.perm (by simp only[A0f];exact List.perm_middle (l₁:=_::_));obtain⟨B,I⟩:=J.unpk;have Q:(1:Nat)=u.length:=by simp only[A2c] at A28;exact A28.2.2.2.2.2.2
  have H:Cx F O w0 w (Ow eH A h c hd::(Ow eH A2 f q a::(rows E a l++(rows E hd Ce++rest)))):=I.perm (by
    simp only[A0f];exact(A3f _ List.perm_middle).trans (.swap _ _ _))
  refine dA (E:=eH) (v:=.v (.slice A2 f q)) (ys:=a) D ss d 0 A28 H rfl (Src.sl z o Q) o i fun s r w' N=>R s r w' ?_;have G:Cx F O w0 w' (Ow eH s (h+f) r (hd++a)::(rows E a l++(rows E hd Ce++rest))):=(N.perm (.swap _ _ _)).tl;refine Cx.dopk (by simp[hl,B]) (G.perm ?_);rw[rows_app hd a Ce l hl];simp only[A0f,lw];refine .cons _ ?_;rw[<- lw,<-lw];exact List.Perm.append_right rest A0b
theorem Op_st2{ty t:TypeId}{p x e o g}{E:Enc α}(ss:A00){i A B A2 l c m d a b hd}{Ce:List (List α)}{j}{y:List α}(A28:(Ep ops ss L (⟨none,.store t p x,ty,e,o,g⟩:Oper),(none:A03),(toSS [p,x] (lk L)).map SV.vals,FP P t)=(true,none,some [.pointer i,.slice A2 a b],some 1))(hp:Pt A (j.toNat*eH.sz+0) i)(f:aP hd j=some (B,m,d))(k:Cx F O w0 w (O2x E A l c hd Ce j.toNat::Ow E A2 a b y::rest))(s:∀ w',Cx F O w0 w' (O2 E A l c (hd.set j.toNat (A2,a,b)) (Ce.set j.toNat y)::rest)->K L w') :
    Dv P n ops L w ⟨none,.store t p x,ty,e,o,g⟩ K:=by
  obtain⟨hl,h⟩:=k.unpk;simp only[A0f] at h;have u:A.isSome=true:=oh (E:=eH) (h.rd 0 rfl) A2H (fF f).1 (IX f);refine vw (E:=eH) (kk:=0) (sv:=.v (.slice A2 a b)) (svs:=[.v (.slice A2 a b)]) ss 0 (j:=j.toNat) (x0:=(B,m,d)) (A2,a,b) (by
    simp only[A2c] at A28 ⊢;exact⟨A28.1,A28.2.1,A28.2.2.1,A28.2.2.2,rfl,rfl⟩) hp h rfl (IX f) u rfl (A2f 1) fun w' q=>s w' (Cx.dopk (by simpa using hl) ?_)
  rw[A0g] at q;refine q.perm ?_;simp only[A0f];refine .cons _ (List.Perm.trans List.perm_middle ?_);have r:=V5 (E:=E) hd Ce j.toNat (A2,a,b) y hl;rw[<- r,<-A0f];exact List.Perm.append_right rest (V6 _ (by rw[Og _ _ hl];exact(A0e.1 (IX f)).1))
end
section
variable {P:Program}{n:Nat}{Q:Act->World->Prop}{ops:Array Oper}{Ls:A00}{C:List (World->Prop)}{L L':St}{w:World}{π:MT}{p:Nat}
theorem MX_forget(L':St)(e:L'.map (fun p=>(find L p.1).map SV.val)=L'.map (fun p=>some p.2.val)){A26}(h:MX P n ops Ls C Q π p A26 (Kn L') w):MX P n ops Ls C Q π p A26 (Kn L) w :=
  fun b c g d=>Lt (q:=fun a w=>wpC P ops Ls (cls C) Q π.depth p A26 a w) L' e (fun a f=>h b c g d a f)
theorem MX_sp(k:Nat)(c:Bool)(b:Bl L L')(a:((k,SV.b c)::L').map (fun p=>(find L p.1).map SV.val)=((k,SV.b c)::L').map (fun p=>some p.2.val))(e:c=true->∀ A26,MX P n ops Ls C Q π p A26 (Kn ((k,.b true)::L')) w)(d:c=false->∀ A26,MX P n ops Ls C Q π p A26 (Kn ((k,.b false)::L')) w){A26}:MX P n ops Ls C Q π p A26 (Kn L) w:=by
  refine MX_forget ((k,SV.b c)::L') a ?_;cases c with
  | true=>exact e rfl A26
  | false=>exact d rfl A26
theorem Y5{i o}(d:Nat)(ss:A00)(hl:Ls.contains i=true)(y:ops[i]?=some o)(hs:((gslot ops o).map (settled ss (Kn L)),o.dst,decide (d < n),L.any fun p=>p.1 == d)=(some (some false),some d,true,false))(h:∀ A26,MX P n ops Ls C Q π (p+1) A26 (Kn ((d,.og [])::L)) w){A26}:MX P n ops Ls C Q (.op i π) p A26 (Kn L) w:=by
  intro r e f v a u;simp only[A2c,lm,A0M] at hs;obtain⟨⟨g,z,l⟩,hd,hn,c⟩:=hs;have b:nx Ls p i=p+1:=by unfold nx;rw[A3p hl]
  simp only[NT,A0U,beq_iff_eq,b] at f;obtain⟨m,f⟩:=f;obtain⟨k,wv,rfl,_,A⟩:=IW u l;have q:Region.wanted o (yielded ops a.tmps)=false:=by
    cases hwant:Region.wanted o (yielded ops a.tmps) with
    | true=>exact absurd ((IV z).1 hwant k wv rfl) (A rfl)
    | false=>rfl
  refine⟨fun B=>(by rw[B] at m;cases m),fun j s=>?_⟩;rw[m] at s;simp only[A0N] at s;subst s;have t:=e.le p (p+1) w Y v;unfold wpOp;simp only[y,b];rw[A3q (by simp[q]),hd];exact⟨t,h _ r e f t _ (u.more (x:=.og []) hn c)⟩
end
theorem Rd.nilA{w A cs}(h:Rd w A cs)(hA:A.isNone=true):cs=[]:=by
  cases cs with
  | nil=>rfl
  | cons v vs =>
    have:=h.isSome (off:=0) (v:=v) rfl;cases A <;> simp_all
theorem all_nil{E:Enc α}[hp:Pos E]{xs:List α}(h:E.all xs=[]):xs=[]:=by
  cases xs with
  | nil=>rfl
  | cons x xs =>
    have:=A3s List.length h;rw[Enc.g_] at this;have a:=hp.1;simp only[bi,A0L] at this;exact absurd this (Nat.ne_of_gt (Nat.mul_pos (Nat.succ_pos _) a))
end
section
open Go.ChangeShapes Go.WideShapes Go.ChangeAt Go.RowKit
set_option linter.unusedSimpArgs false
set_option linter.unusedVariables false
variable {α σ ρ:Type}
theorem bG{n}(h:-9223372036854775808<=n/\n < 9223372036854775808):ax n=n:=by
  simp only[ax,IntKind.wrap,IntKind.signed,IntKind.bits,reduceIte];simp only[show(2:Int) ^ 64=18446744073709551616 from rfl,show(2:Int) ^ 63=9223372036854775808 from rfl,show(2:Nat) ^ 64=18446744073709551616 from rfl,show(2:Nat) ^ 63=9223372036854775808 from rfl,show(64 - 1:Nat)=63 from rfl]
  first | omega | (simp;omega)
theorem Rk{xs:List α}{i:Nat}{x:α}(h:xs[i]?=some x):aP xs (i:Int)=some x:=by
  unfold aP;rw[A3p Y];simpa using h
theorem iG{xs:List α}{ys:List α}{b}(h:(xs.length+ys.length)*b<=140737488355328):app xs ys b=some (xs++ys):=by
  unfold app;rw[A3p h]
theorem ig{p}[Decidable p](h:p):need p=some ():=by
  unfold need;rw[A3p h]
theorem Ah{xs:List α}{lo:Int}{a:Int}(h:0<=lo/\lo<=a/\a<=xs.length):Iw xs lo a=some ((xs.take a.toNat).drop lo.toNat):=by
  unfold Iw;rw[A3p h]
theorem ql{f:σ->Option (σ⊕ρ)}(P:Nat->σ->Prop)(Q:ρ->Prop)(n:Nat)(h:∀ i s,P i s->(i < n/\∃ s',f s=some (.inl s')/\P (i+1) s')∨∃ r,f s=some (.inr r)/\Q r) :
    ∀ s,P 0 s->∃ r,aT f s=some r/\Q r:=by
  have key:∀ k i s,n - i<=k->P i s->∃ r,aT f s=some r/\Q r:=by
    intro k
    induction k with
    | zero =>
      intro i s e hp;rcases h i s hp with⟨g,_⟩ | ⟨r,b,c⟩
      ·omega
      ·exact⟨r,dm b,c⟩
    | succ k ih =>
      intro i s e hp;rcases h i s hp with⟨g,s',a,d⟩ | ⟨r,b,c⟩
      ·rw[iJ a];exact ih (i+1) s' Y d
      ·exact⟨r,dm b,c⟩
  exact fun s hp=>key n 0 s Y hp
theorem ng{f:σ->Option (σ⊕ρ)}(P:Nat->σ->Prop)(r:ρ)(n:Nat)(s:σ)(c:P 0 s)(h:∀ i s,P i s->(i < n/\∃ s',f s=some (.inl s')/\P (i+1) s')∨f s=some (.inr r)):aT f s=some r:=by
  obtain⟨a,b,rfl⟩:=ql P (fun a=>a=r) n (fun i s hp=>(h i s hp).imp id fun e=>⟨r,e,rfl⟩) s c;exact b
theorem je{f:σ->Option (σ⊕ρ)}(s:Nat->σ)(n:Nat){r:ρ}(h:∀ i,i < n->f (s i)=some (.inl (s (i+1))))(b:f (s n)=some (.inr r)):aT f (s 0)=some r :=
  ng (fun i x=>x=s i/\i<=n) r n (s 0) ⟨rfl,Y⟩ (by
    rintro i x ⟨rfl,hi⟩;by_cases a:i < n
    ·exact .inl ⟨a,_,h i a,rfl,Y⟩
    ·obtain rfl:i=n:=by omega
     exact .inr b)
def IsRow (k:IntKind)(w:World)(a:EQ)(c cap:Nat)(b:List Int):Prop :=
  (a=none/\c=0/\cap=0/\b=[]) ∨
  ∃ x,a=some x/\c<=cap/\cap<=maxLen/\b.length=cap/\(∀ i,i < b.length->w.cell? (x.add i)=some (.int k (b.getD i 0)))/\∀ n ∈ b,(Lit.int k n).wf=true
theorem wf_u8{n}(h:(Lit.int .u8 n).wf=true):0<=n/\n<=255:=by
  simpa [Lit.wf,IntKind.min,IntKind.max,IntKind.signed,IntKind.bits] using h
theorem wf_u64{n}(h:(Lit.int .u64 n).wf=true):0<=n/\n<=18446744073709551615:=by
  simpa [Lit.wf,IntKind.min,IntKind.max,IntKind.signed,IntKind.bits] using h
theorem wf_i64{n}(h:(Lit.int .i64 n).wf=true):-9223372036854775808<=n/\n<=9223372036854775807:=by
  simpa [Lit.wf,IntKind.min,IntKind.max,IntKind.signed,IntKind.bits] using h
theorem get_u8{n}(h:(Lit.int .u8 n).wf=true):∃ x:UInt8,Value.int .u8 n=SV.val (.u8 x):=by
  have:=wf_u8 h;refine⟨UInt8.ofNat n.toNat,?_⟩;simp only[SV.val,Value.int.injEq,true_and];simp;omega
theorem get_u64{n}(h:(Lit.int .u64 n).wf=true):∃ x:UInt64,Value.int .u64 n=SV.val (.u64 x):=by
  have:=wf_u64 h;refine⟨UInt64.ofNat n.toNat,?_⟩;simp only[SV.val,Value.int.injEq,true_and];simp;omega
theorem row_list{k}{β:Type}{φ:β->Value}{w a d cap c}(h:IsRow k w a d cap c)(s:∀ n:Int,(Lit.int k n).wf=true->∃ x:β,Value.int k n=φ x):∃ b:List β,Rd w a (b.map φ)/\b.length=d/\d<=cap:=by
  rcases h with⟨rfl,rfl,rfl,rfl⟩ | ⟨x,rfl,hl,hm,hz,t,l⟩
  ·exact⟨[],⟨fun h=>absurd rfl h,fun _ _ _ h=>by cases h⟩,rfl,Y⟩
  ·have key:∀ c:List Int,(∀ n ∈ c,(Lit.int k n).wf=true)->∃ b:List β,b.length=c.length/\∀ (i:Nat) (n:Int),c[i]?=some n->∃ y:β,b[i]?=some y/\Value.int k n=φ y:=by
     intro c
     induction c with
     | nil=>intro _;exact⟨[],rfl,fun i n h=>by simp at h⟩
     | cons z c ih =>
       intro l;obtain⟨b,q,m⟩:=ih fun n hn=>l n (A0P _ hn);obtain⟨y,hy⟩:=s z (l z A0R);refine⟨y::b,by simp[q],fun i n e=>?_⟩;cases i with
       | zero=>simp at e;subst e;exact⟨y,A2K,hy⟩
       | succ i=>simp at e;obtain⟨r,p,o⟩:=m i n e;exact⟨r,by simpa using p,o⟩
   obtain⟨b,q,m⟩:=key c l;refine⟨b.take d,⟨fun _=>⟨x,rfl⟩,fun a j u v g=>?_⟩,by simp;omega,hl⟩;cases v;rw[List.map_take,List.getElem?_take] at g;split at g
   ·rename_i hj;have f:j < c.length:=Y
    obtain⟨y,p,o⟩:=m j c[j] (by simp[f]);rw[A2r,p] at g;simp only[A31,A2a] at g;rw[t j f,<-g,<-o];simp[f]
   ·cases g
theorem row_u8{w a c cap d}(h:IsRow .u8 w a c cap d):∃ b:AC,Rd w a (b.map bV)/\b.length=c/\c<=cap :=
  row_list h fun n hn=>by obtain⟨x,hx⟩:=get_u8 hn;exact⟨x,hx⟩
theorem get_str(s:ByteArray):∃ l:AC,Value.string s=SV.val (.s l)/\l.length=s.size:=by
  obtain⟨⟨l⟩⟩:=s;exact⟨l,rfl,rfl⟩
section
variable {H:Type}{enc:TypeId×Value->H}{P:Program}{w:World}{held:Bool}
theorem open_row{t e:TypeId}{k g cs x}(o:P.underlying t=some (.slice e))(p:P.underlying e=some (.int k))(q:P.cellsOf e=1)(h:DataW.trod enc P w 0 (fun _=>true) held g t cs=some x) :
    ∃ a b cap f,cs=[.slice a b cap]/\IsRow k w a b cap f/\(b=0∨(x.1=.slice (lits k (f.take b)) (lits k (f.drop b))/\b<=f.length)):=by
  rcases open_ints o p q h with⟨rfl,_⟩ | ⟨n,l,c,f,rfl,_,hl,hm,m,i,d,j⟩
  ·exact⟨none,0,0,[],rfl,.inl ⟨rfl,rfl,rfl,rfl⟩,.inl rfl⟩
  ·simp only[if_true] at m;refine⟨some n,l,c,f,rfl,.inr ⟨_,rfl,hl,hm,by simpa using m,d,j⟩,.inr ⟨by rw[i],Y⟩⟩
theorem open_fld{t:TypeId}{j d cs x}(k:P.underlying t=some (.struct j))(h:DataW.trod enc P w 0 (fun _=>true) held d t cs=some x) :
    ∃ (xs:List (DataW H×List MemPlace)) (n:Nat),x.1=.agg (xs.map (·.1))/\cs.length=P.cellsOf t/\∀ (i:Nat) (f:Field) (e:TypeId) (off a:Nat),j[i]?=some f->f.type=e->f.offset=off->P.cellsOf e=a ->
      ∃ y,y.1 ∈ xs.map (·.1)/\DataW.trod enc P w 0 (fun _=>true) held n e ((cs.drop off).take a)=some y:=by
  obtain⟨xs,n,_,rfl,hl,c,l⟩:=DataW.trod_struct k h;refine⟨xs,n,rfl,hl,?_⟩;rintro i f e off a g rfl rfl rfl;have b:i < xs.length:=by
    rw[c];have:=(Array.getElem?_eq_some_iff.1 g).1;exact this
  refine⟨xs[i],ut.2 ⟨xs[i],List.getElem_mem b,rfl⟩,?_⟩;rw[l i f g];simp[b]
end
theorem Jr(cs:List Value)(off n a:Nat)(h:off+n=a):cs.drop off=(cs.drop off).take n++cs.drop a:=by
  subst h;rw[<- A0j,A32]
theorem cut_end(cs:List Value)(n m:Nat)(h:cs.length=n)(hm:n=m):cs.drop m=[]:=by
  subst hm;subst h;simp
end
section
open Go.RowKit Go.ChangeShapes Go.WideShapes Go.ChangeAt
set_option linter.unusedSimpArgs false
set_option linter.unusedVariables false
section
variable {P:Program}{n:Nat}{ops:Array Oper}{L:St}{w:World}{K:St->World->Prop}
end
section
variable {α:Type}{F O:Nat->Prop}{w0 w:World}{hs:List HP}
end
section
variable {α:Type}{F O:Nat->Prop}{w0 w:World}{hs rest:List HP}{E:Enc α}{A:EQ}{n c m:Nat}{hd:List Hd}{Ce:List (List α)}
end
section
variable {P:Program}{n:Nat}{ops:Array Oper}{L:St}{w w0:World}{F O:Nat->Prop}{hs:List HP}{K:St->World->Prop}
end
section
variable {P:Program}{n:Nat}{Q:Exit->Act->World->Prop}{L L':St}{w:World}{c:Code}
def Lp (P:Program)(c:Code)(Q:Exit->Act->World->Prop)(a:Act)(w:World):Prop :=
  ∀ b k cs,∃ e d w',Q e d w'/\Arrives P (lone (b.at a (.code c::.inLoop c::k)) cs w) b k cs e d w'
theorem Lp.start{a}(h:Lp P c Q a w):(Code.loop c).wp P Q a w:=by
  intro b k cs;obtain⟨e,g,w',f,d⟩:=h b k cs;exact⟨e,g,w',f,.of_steps (.one step_loop) d⟩
theorem Lp.round{a}(h:c.wp P (Exit.then (Lp P c Q) Q) a w):Lp P c Q a w:=by
  intro b k cs;obtain⟨e,j,i,g,d⟩:=h b (.inLoop c::k) cs;cases e with
  | normal =>
    obtain⟨o,p,n,m,f⟩:=g b k cs;exact⟨o,p,n,m,.of_steps (Steps.trans d (.one step_inLoop)) f⟩
  | exit id=>exact⟨_,j,i,g,.pass (x:=.inLoop c) rfl (fun _ _=>.inl A2K) d⟩
  | goto l=>exact⟨_,j,i,g,.pass (x:=.inLoop c) rfl (fun _ _=>.inl A2K) d⟩
  | ret=>exact⟨_,j,i,g,.pass (x:=.inLoop c) rfl (fun _ _=>.inl A2K) d⟩
  | panic ch=>exact⟨_,j,i,g,.pass (x:=.inLoop c) rfl (fun _ _=>.inl A2K) d⟩
  | outgrown=>exact⟨_,j,i,g,.pass (x:=.inLoop c) rfl (fun _ _=>.inl A2K) d⟩
theorem W_un(h:W P n c (Exit.then (Lp P c Q) Q) L w):W P n (.loop c) Q L w:=fun a b=>Lp.start (Lp.round (h a b))
theorem yJ(h:W P n c (Exit.then (Lp P c Q) Q) L w):At n (Exit.then (Lp P c Q) Q .normal) L w:=fun a b=>Lp.round (h a b)
end
section
variable {P:Program}{n:Nat}{ops:Array Oper}{L:St}{w:World}{K:St->World->Prop}
end
def Y6 (s:AC)(c:UInt8):Int:=firstIdx ⟨⟨s⟩⟩ c
structure IsIx (P:Program)(f:FuncId):Prop where
  ok : ∃ fn, P.funcs[f]? = some fn /\ (fn.name == "runtime.NumGoroutine") = false /\ fn.body.isNone = true /\ Extern.findNext fn = none /\ Extern.find fn = some Extern.BytealgIndexByte.indexByte
section
variable {P:Program}{n:Nat}{ops:Array Oper}{L:St}{w:World}{K:St->World->Prop}
theorem Op_idxb{i f xs j}{ty:TypeId}{b l g}(y:IsIx P f)(ss:A00)(d:Nat)(s:AC)(c:UInt8)(hs:(Ep ops ss L ⟨i,.call ⟨.value (.func f),xs,j⟩,ty,b,l,g⟩,i,(decide (d < n)),(L.any fun p=>p.1 == d),(toSS xs.toList (lk L)).map SV.vals)=(true,some d,true,false,some [.string ⟨⟨s⟩⟩,.int .u8 c.toNat]))(x:K ((d,I (Y6 s c))::L) w):Dv P n ops L w ⟨i,.call ⟨.value (.func f),xs,j⟩,ty,b,l,g⟩ K:=by
  simp only[A2c,A0M,lm] at hs;obtain⟨v,u,t,r,⟨vs,q,o⟩⟩:=hs;subst u;refine DU (xs:=xs.toList) (svs:=vs) ss (d:=d) (by simp[Side,v,t,r,q]) fun a ha m=>?_;rw[o] at m;have h:(#[]++xs.map a.eval++#[]:Array Value)=#[.string ⟨⟨s⟩⟩,.int .u8 c.toNat]:=by
    apply Array.ext';simpa using m
  obtain⟨fn,C,B,h3,A,z⟩:=y.ok;have k:(execOp a.eval ⟨some d,.call ⟨.value (.func f),xs,j⟩,ty,b,l,g⟩).run P w=.ok (.value (SV.val (I (Y6 s c)))) w:=by
    show(callFunc f (#[]++xs.map a.eval++#[])).run P w=_;rw[h,run_callFunc_extern C B h3 A z,run_indexByte_string];have e:((c.toNat:Int)).toNat.toUInt8=c:=by simp
    rw[e];rfl
  unfold Oper.wp;rw[k];exact⟨_,rfl,x⟩
end
def eQ:Enc (EQ):=⟨1,fun a=>[.pointer a],fun _=>rfl,fun x v h=>by rw[A0N.1 h];rfl⟩
instance:Pos eQ:=⟨A2H⟩
theorem exlist{β:Type}{Q:Nat->β->Prop}:∀ (n:Nat),(∀ i,i < n->∃ y,Q i y)->∃ l:List β,l.length=n/\∀ (i:Nat) (y:β),l[i]?=some y->Q i y
  | 0,_=>⟨[],rfl,fun i y h=>by cases h⟩
  | n+1,h=>by
    obtain⟨l,hl,hQ⟩:=exlist n fun i b=>h i Y;obtain⟨y,hy⟩:=h n Y;refine⟨l++[y],by simp[hl],fun i z a=>?_⟩;rw[List.getElem?_append] at a;split at a
    ·exact hQ i z a
    ·have b:i=n:=by
       have:=(A0e.1 a).1;simp at this;omega
     subst b;rw[hl] at a;simp at a;subst a;exact hy
def Tot:A02->Nat
  | []=>0
  | x::xs=>x.length+1+Tot xs
section
variable {H:Type}{enc:TypeId×Value->H}{P:Program}{w:World}{held:Bool}
def Fam:List (DataW H)->A02->Prop
  | [],[]=>True
  | d::ds,x::xs=>(x=[]∨∃ a:List Int,d=.slice (lits .u8 (a.take x.length)) (lits .u8 (a.drop x.length))/\x.length<=a.length)/\Fam ds xs
  | _,_=>False
end
section
variable {ops:Array Oper}{Ls:A00}
def Y7 (ops:Array Oper)(m i:Nat):Bool:=!m.testBit i&&((ops[i]?).map (·.after.all fun e=>!Region.binds .any e||m.testBit e.on)).getD false
def freeN (ops:Array Oper)(m i:Nat):Bool :=
  match ops[i]? with
  | none=>false
  | some oi=>(List.range ops.size).all fun j=>j == i||m.testBit j||match ops[j]? with
      | some oj=>oj.after.any (fun e=>Region.binds .any e&&e.on == i)||oi.apart ops oj
      | none=>true
def aheadN (ops:Array Oper)(Ls:A00)(m i:Nat):Nat:=(Ls.filter fun j=>decide (j < ops.size)&&!m.testBit j&&!Kr ops m.testBit j i).length
def XV (ops:Array Oper)(Ls:A00):MT->Nat->Nat->Bool
  | .nil,_,m=>(List.range ops.size).all fun i=>!Y7 ops m i
  | .q i k π,p,m=>decide (i < ops.size)&&Y7 ops m i&&freeN ops m i&&!Ls.contains i&&decide (p+aheadN ops Ls m i<=k)&&XV ops Ls π p (m|||2 ^ i)
  | .op i π,p,m=>((List.range ops.size).filter fun j=>Y7 ops m j) == [i]&&XV ops Ls π (nx Ls p i) (m|||2 ^ i)
  | .br i j ri rj,p,m=>((List.range ops.size).filter fun j=>Y7 ops m j) == [i,j]&&rj.depth == ri.depth&&XV ops Ls ri (nx Ls p i) (m|||2 ^ i)&&XV ops Ls rj (nx Ls p j) (m|||2 ^ j)
def Rel (ops:Array Oper)(A26:Array Bool)(m:Nat):Prop:=A26.size=ops.size/\∀ j,A26.getD j false=m.testBit j
theorem Rel.lt{A26 m}(h:Rel ops A26 m){j}(a:j < ops.size):A26.getD j true=m.testBit j:=by
  rw[<- h.2 j,A2o,A2o,Array.getElem?_eq_getElem (by rw[h.1];exact a)];rfl
theorem Rel.ge{A26 m}(h:Rel ops A26 m){j}(hj:¬ j < ops.size):A26.getD j true=true:=by
  rw[A2o,Array.getElem?_eq_none (by rw[h.1];omega)];rfl
theorem Rel.ready{A26 m}(h:Rel ops A26 m):Region.ready .any ops A26=(List.range ops.size).filter fun j=>Y7 ops m j:=by
  unfold Region.ready;refine List.filter_congr fun i a=>?_;rw[List.mem_range] at a;unfold Y7;rw[h.lt a];simp only[h.2]
theorem Rel.free{A26 m i}(h:Rel ops A26 m):Region.free .any ops A26 i=freeN ops m i:=by
  unfold Region.free freeN;cases ho:ops[i]? with
  | none=>rfl
  | some oi =>
    simp only[];rw[A3B,List.all_eq_true,List.all_eq_true];refine⟨fun b j a=>?_,fun b j a=>?_⟩
    ·have:=b j a;rw[h.lt (List.mem_range.1 a)] at this;exact this
    ·have:=b j a;rw[h.lt (List.mem_range.1 a)];exact this
theorem Rel.ahd{A26 m i}(h:Rel ops A26 m):ahead ops Ls A26 i=aheadN ops Ls m i:=by
  unfold ahead aheadN;congr 1;refine List.filter_congr fun j _=>?_;have b:(fun x=>A26.getD x false)=m.testBit:=funext h.2;rw[b];by_cases a:j < ops.size
  ·rw[h.lt a,A0Y a];rfl
  ·rw[h.ge a,A0Z a];rfl
theorem Rel.step{A26 m i}(h:Rel ops A26 m)(b:i < ops.size):Rel ops (A26.setIfInBounds i true) (m|||2 ^ i):=by
  refine⟨by simpa using h.1,fun j=>?_⟩;rw[Nat.testBit_or,Nat.testBit_two_pow];by_cases a:i=j
  ·subst a;rw[A2o,Array.getElem?_setIfInBounds_self_of_lt (by rw[h.1];exact b)];simp
  ·rw[<- h.2 j,A2o,A3W a,<-A2o];simp[a]
theorem V7:∀(π:MT)(p m:Nat)(A26:Array Bool),Rel ops A26 m->XV ops Ls π p m=true->NT ops Ls π p A26=true
  | .nil,p,m,A26,h,hq=>by
    simp only[NT,h.ready,List.isEmpty_iff,List.filter_eq_nil_iff];simp only[XV,List.all_eq_true,A2z] at hq;intro a g;rw[hq a g];exact Bool.false_ne_true
  | .q i k π,p,m,A26,h,hq=>by
    simp only[XV,A0U,lm,A2z] at hq;obtain⟨⟨⟨⟨⟨b,e⟩,h3⟩,d⟩,n⟩,l⟩:=hq;simp only[NT,A0U,lm,A2z];refine⟨⟨⟨⟨?_,by rw[h.free];exact h3⟩,d⟩,by rw[h.ahd];exact n⟩,V7 π p _ _ (h.step b) l⟩;rw[h.ready,List.contains_iff_mem,List.mem_filter];exact⟨List.mem_range.2 b,e⟩
  | .op i π,p,m,A26,h,hq=>by
    simp only[XV,A0U] at hq;simp only[NT,A0U];have c:i < ops.size:=by
      have:i ∈ (List.range ops.size).filter fun j=>Y7 ops m j:=by rw[beq_iff_eq.1 hq.1];exact A0N.2 rfl
      exact List.mem_range.1 (List.mem_filter.1 this).1
    exact⟨by rw[h.ready];exact hq.1,V7 π _ _ _ (h.step c) hq.2⟩
  | .br i j ri rj,p,m,A26,h,hq=>by
    simp only[XV,A0U] at hq;obtain⟨⟨⟨b,e⟩,h3⟩,d⟩:=hq;simp only[NT,A0U];have c:i < ops.size:=by
      have:i ∈ (List.range ops.size).filter fun j=>Y7 ops m j:=by rw[beq_iff_eq.1 b];simp
      exact List.mem_range.1 (List.mem_filter.1 this).1
    have f:j < ops.size:=by
      have:j ∈ (List.range ops.size).filter fun j=>Y7 ops m j:=by rw[beq_iff_eq.1 b];simp
      exact List.mem_range.1 (List.mem_filter.1 this).1
    exact⟨⟨⟨by rw[h.ready];exact b,e⟩,V7 ri _ _ _ (h.step c) h3⟩,V7 rj _ _ _ (h.step f) d⟩
end
theorem W_mN{P:Program}{n:Nat}{Q:Exit->Act->World->Prop}{L}{w:World}{w0}{F:Nat->Prop}{O:Nat->Prop}{hs}{id:Nat}{l:List Oper}{C:List (World->Prop)}(hm:P.follows .mixedOrders=true)(π:MT)(Ls:A00)(k:Cx F O w0 (w.drewN 1) hs)(c:Chain F O w0 hs C)(a:(Region.noSelect l.toArray,XV l.toArray Ls π 0 0,π.depth == l.length)=(true,true,true))(h:∀ A26,MX P n l.toArray Ls C (Q .normal) π 0 A26 (Kn L) (w.drewN 1)) :
    W P n (.region id l.toArray true) Q L w:=by
  simp only[A2c] at a;refine W_m hm π Ls k c ?_ h;rw[a.1,a.2.2,V7 π 0 0 (Array.replicate l.length false) ⟨A2K,fun j=>?_⟩ a.2.1];rw[A2o,Nat.zero_testBit];by_cases b:j < l.length
  ·simp[b]
  ·simp[b]
end
section
open Go.RowKit Go.MapKept
set_option linter.unusedSimpArgs false
set_option linter.unusedVariables false
def kV (k:AC):Value:=.string ⟨⟨k⟩⟩
theorem V8{a b}(h:kV a=kV b):a=b:=by
  unfold kV at h;simp only[Value.string.injEq,ByteArray.mk.injEq,Array.mk.injEq] at h;exact h
def Mb (b:Nat)(ks:A02)(vs:List Value):HP where
  p w S R:=ks.length=vs.length/\(∃ (c:Array MapEntry) (a:Nat),w.heap[b]?=some (.map c a)/\c.toList.map (·.key)=ks.map kV/\c.toList.map (·.val)=vs/\Stamped c a)/\S b
  loc:=by
    rintro w w' S R ⟨g,⟨c,a,f,e⟩,h3⟩ d;exact⟨g,⟨c,a,by rw[d b (.inl h3)];exact f,e⟩,h3⟩
def Es (ks:A02)(k:AC):A03:=match ks with
  | []=>none
  | x::r=>if x=k then some 0 else(Es r k).map (·+1)
theorem MK{ks k}:Es ks k=none ↔ k ∉ ks:=by
  induction ks with
  | nil=>simp[Es]
  | cons x r ih =>
    unfold Es;by_cases h:x=k
    ·subst h;simp
    ·rw[A3q h];simp only[Option.map_eq_none_iff,ih,ul,not_or];exact⟨fun a=>⟨fun e=>h e.symm,a⟩,fun a=>a.2⟩
theorem V9{ks k j}(h:Es ks k=some j):ks[j]?=some k:=by
  induction ks generalizing j with
  | nil=>cases h
  | cons x r ih =>
    unfold Es at h;by_cases hx:x=k
    ·rw[A3p hx] at h;obtain rfl:=A2j h;simp[hx]
    ·rw[A3q hx,A0M] at h;obtain⟨i,a,rfl⟩:=h;simpa using ih a
theorem V_{d:TypeDesc}(hd:d=.string){a:Array MapEntry}{ks:A02}{k}(f:a.toList.map (·.key)=ks.map kV)(hn:(a.toList.map (·.key)).Nodup) :
    (Es ks k=none/\Instr.findNow d (kV k) a.toList 0=some none)∨∃ j e,Es ks k=some j/\Instr.findNow d (kV k) a.toList 0=some (some (j,e.val))/\a.toList[j]?=some e/\e.key=kV k:=by
  subst hd;have c:∀ x ∈ a.toList,IsKey .string x.key:=fun x hx=>by
    have:x.key ∈ a.toList.map (·.key):=ut.2 ⟨x,hx,rfl⟩;rw[f] at this;obtain⟨q,_,l⟩:=ut.1 this;rw[<- l];exact trivial
  rcases findNow_spec (d:=.string) (k:=kV k) trivial a.toList 0 c with⟨h1,h2⟩ | ⟨j,e,h1,h2,h3⟩
  ·refine .inl ⟨MK.2 fun hm=>?_,h1⟩;have:kV k ∈ a.toList.map (·.key):=by rw[f];exact ut.2 ⟨k,hm,rfl⟩
   obtain⟨x,hx,g⟩:=ut.1 this;exact h2 x hx g
  ·rw[Nat.zero_add] at h1;have n:(ks.map kV)[j]?=some (kV k):=by rw[<- f,A2r,h2];simp[h3]
   have b:ks[j]?=some k:=by
     rw[A2r,A0M] at n;obtain⟨q,l,h⟩:=n;rw[l,V8 h]
   cases hf:Es ks k with
   | none=>exact absurd (A40 b) (MK.1 hf)
   | some i =>
     have o:=V9 hf;have m:ks.Nodup:=by
       rw[f,List.Nodup,List.pairwise_map] at hn;exact hn.imp fun hne e=>hne (by rw[e])
     have:i=j:=by
       have p:=(A0e.1 o).1;exact(List.getElem?_inj p m).1 (by rw[o,b])
     subst this;exact .inr ⟨i,e,rfl,h1,h2,h3⟩
section
variable {P:Program}{n:Nat}{ops:Array Oper}{L:St}{w w0:World}{F O:Nat->Prop}{hs:List HP}{K:St->World->Prop}
theorem Op_mkmap{c}{t ty:TypeId}{e h g}(ss:A00)(d:Nat)(A28:(Ep ops ss L ⟨c,.makeMap t none,ty,e,h,g⟩,c,(decide (d < n)),(L.any fun p=>p.1 == d))=(true,some d,true,false))(k:Cx F O w0 w hs)(m:∀ b w',Cx F O w0 w' (hs++[Mb b [] []])->K ((d,.v (.map (some b)))::L) w') :
    Dv P n ops L w ⟨c,.makeMap t none,ty,e,h,g⟩ K:=by
  simp only[A2c,lm] at A28;obtain⟨l,rfl,j,i⟩:=A28;refine DU (xs:=[]) (svs:=[]) ss (d:=d) (by simp[Side,l,j,i,toSS]) fun a ha he=>?_;have f:(Instr.makeMap t none).run P w=.ok (.map (some w.heap.size)) (w.alloc (.map #[] 0)):=rfl;unfold Oper.wp execOp;simp only[Option.map_none,A2e,f,A2b,A2d];refine⟨.v (.map (some w.heap.size)),rfl,m w.heap.size _ (k.new _ (Mb w.heap.size [] []) ⟨rfl,⟨#[],0,?_,rfl,rfl,stamped_empty 0⟩,rfl⟩)⟩;exact(heap_alloc w _).1
theorem Pv{w:World}{b:Nat}{d es'}{a:Nat}{clock':Nat}(c:w.heap[b]?=some (.map d a)):w.grownBy { w with heap:=w.heap.setIfInBounds b (.map es' clock') } (some b)/\({ w with heap:=w.heap.setIfInBounds b (.map es' clock') }:World).heap.size=w.heap.size/\({ w with heap:=w.heap.setIfInBounds b (.map es' clock') }:World).heap[b]?=some (.map es' clock'):=by
  refine⟨⟨rfl,rfl,rfl,A2K,fun k hk hne=>?_⟩,A2K,(heap_set c).1⟩;exact(heap_set c).2 k fun e=>hne (by rw[e])
def Oi (ks:A02)(k:AC):A02:=match Es ks k with | some _=>ks | none=>ks++[k]
def Oj {β:Type}(ks:A02)(vs:List β)(k:AC)(v:β):List β:=match Es ks k with | some j=>vs.set j v | none=>vs++[v]
theorem Op_upd{t kt e ty:TypeId}{m y x B kX g}(ss:A00)(i:Nat){b:Nat}{key ks vs}(v:Value)(A28:(Ep ops ss L (⟨none,.mapUpdate t m y x,ty,B,kX,g⟩:Oper),(toSS [m,y,x] (lk L)).map SV.vals,P.underlying t,P.underlying kt)=(true,some [.map (some b),kV key,v],some (.map kt e),some .string))(k:Cx F O w0 w hs)(U:hs[i]?=some (Mb b ks vs))(hk:∀ w',Cx F O w0 w' (hs.set i (Mb b (Oi ks key) (Oj ks vs key v)))->K L w') :
    Dv P n ops L w ⟨none,.mapUpdate t m y x,ty,B,kX,g⟩ K:=by
  simp only[A2c,A0M] at A28;obtain⟨s1,⟨svs,s5,s6⟩,s7,H⟩:=A28;refine WL_of0 (xs:=[m,y,x]) (svs:=svs) ss (by simp[s1,s5]) fun a ha f=>?_;rw[s6] at f;simp only[kw,A2q,A2u,A49] at f;obtain⟨S,R,hl,⟨p,c,s,m2,m3,m4⟩,r⟩:=k.get i U;have E:=run_checkKey (P:=P) (w:=w) H (show IsKey .string (kV key) from trivial) false 9999;rcases V_ (d:=.string) rfl (k:=key) m2 m4.2.2 with⟨f1,f2⟩ | ⟨j,en,f1,f2,f3,f4⟩
  ·obtain⟨g1,W,V⟩:=Pv (es':=p.push { key:=kV key,val:=v,born:=c }) (clock':=c+1) s;have l:(Instr.mapUpdate t (.map (some b)) (kV key) v).run P w=.ok () { w with heap:=w.heap.setIfInBounds b (.map (p.push { key:=kV key,val:=v,born:=c }) (c+1)) }:=by
     unfold Instr.mapUpdate;simp only[A2e,run_underlying s7,A2b,MapKept.run_getObj_map s,A2d,E,run_findKey H f2,MapKept.run_setObj_map _ s]
   unfold Oper.wp execOp;simp only[f.1,f.2.1,f.2.2,A2e,l,A2b,A2d];refine⟨rfl,hk _ (k.XT i U (some b) g1 fun S R r A=>?_)⟩;obtain⟨hl,⟨X,c1,z,G,J,I⟩,r⟩:=r;rw[s] at z;simp only[A2a,Obj.map.injEq] at z;obtain⟨rfl,rfl⟩:=z;have T:∀ x ∈ p.toList,x.key≠kV key:=fun x hx M=>by
     have:kV key ∈ p.toList.map (·.key):=ut.2 ⟨x,hx,M⟩;rw[G] at this;obtain⟨q,hq,Q⟩:=ut.1 this;exact MK.1 f1 (V8 Q▸hq)
   refine⟨fun g' D=>(by simp only[A2a] at D;subst D;exact r),S,fun _=>False,⟨?_,⟨_,_,V,?_,?_,stamped_push I T⟩,r⟩,fun b' o=>⟨by rw[W];exact A b' o,.inl o⟩,fun _ h=>h⟩
   ·unfold Oi Oj;rw[f1];simp[hl]
   ·unfold Oi;rw[f1];simp[G]
   ·unfold Oj;rw[f1];simp[J]
  ·obtain⟨g1,W,V⟩:=Pv (es':=p.modify j fun e=>{ e with key:=kV key,val:=v }) (clock':=c) s;have N:(Instr.keyThatStays (((p[j]?).map (·.key)).getD (kV key)) (kV key)).run P w=.ok (kV key) w:=by
     have e1:p[j]?=some en:=by rw[<- Array.getElem?_toList];exact f3
     rw[e1];simp only[A31,A47,f4];exact MapKept.run_keyThatStays (d:=.string) (k:=kV key) trivial
   have l:(Instr.mapUpdate t (.map (some b)) (kV key) v).run P w=.ok () { w with heap:=w.heap.setIfInBounds b (.map (p.modify j fun e=>{ e with key:=kV key,val:=v }) c) }:=by
     unfold Instr.mapUpdate;simp only[A2e,run_underlying s7,A2b,MapKept.run_getObj_map s,A2d,E,run_findKey H f2,N,MapKept.run_setObj_map _ s]
   unfold Oper.wp execOp;simp only[f.1,f.2.1,f.2.2,A2e,l,A2b,A2d];refine⟨rfl,hk _ (k.XT i U (some b) g1 fun S R r A=>?_)⟩;obtain⟨hl,⟨X,c1,z,G,J,I⟩,r⟩:=r;rw[s] at z;simp only[A2a,Obj.map.injEq] at z;obtain⟨rfl,rfl⟩:=z;have u:∀ e ∈ p.toList,p[j]?=some e->({ e with key:=kV key,val:=v }:MapEntry).key=e.key:=fun e _ f=>by
     rw[<- Array.getElem?_toList,f3] at f;obtain rfl:=A2j f;exact f4.symm
   refine⟨fun g' D=>(by simp only[A2a] at D;subst D;exact r),S,fun _=>False,⟨?_,⟨_,_,V,?_,?_,stamped_modify I j _ (fun _ _=>rfl) u⟩,r⟩,fun b' o=>⟨by rw[W];exact A b' o,.inl o⟩,fun _ h=>h⟩
   ·unfold Oi Oj;rw[f1];simp[hl]
   ·unfold Oi;rw[f1];rw[modify_keys j _ (fun e f=>u e (by rw[<- Array.getElem?_toList] at f;exact A40 f) f),G]
   ·unfold Oj;rw[f1];simp only;rw[<- J,Array.toList_modify];apply List.ext_getElem?;intro q;simp only[A2r,List.getElem?_modify,List.getElem?_set,A0K];by_cases C:j=q
    ·subst C;have h5:j < p.size:=by simpa using (A0e.1 f3).1
     simp[h5]
    ·simp[C]
theorem F8 {β γ:Type}(f:β->γ):∀ (l:List β) (i:Nat),(l.eraseIdx i).map f=(l.map f).eraseIdx i
  | [],_=>rfl
  | _::_,0=>rfl
  | x::l,i+1=>by simp[F8 f l i]
def Qd (ks:A02)(k:AC):A02:=match Es ks k with | some j=>ks.eraseIdx j | none=>ks
def Qe {β:Type}(ks:A02)(vs:List β)(k:AC):List β:=match Es ks k with | some j=>vs.eraseIdx j | none=>vs
theorem Op_del{x y}{t t2 kt e ty:TypeId}{u Q g}(ss:A00)(i:Nat){b:Nat}{key ks vs}(A28:(Ep ops ss L (⟨none,.call ⟨.builtin .delete,#[x,y],#[t,t2]⟩,ty,u,Q,g⟩:Oper),(toSS [x,y] (lk L)).map SV.vals,P.underlying t,P.underlying kt)=(true,some [.map (some b),kV key],some (.map kt e),some .string))(k:Cx F O w0 w hs)(G:hs[i]?=some (Mb b ks vs))(T:∀ w',Cx F O w0 w' (hs.set i (Mb b (Qd ks key) (Qe ks vs key)))->K L w') :
    Dv P n ops L w ⟨none,.call ⟨.builtin .delete,#[x,y],#[t,t2]⟩,ty,u,Q,g⟩ K:=by
  simp only[A2c,A0M] at A28;obtain⟨W,⟨svs,V,U⟩,N,B⟩:=A28;refine WL_of0 (xs:=[x,y]) (svs:=svs) ss (by simp[W,V]) fun a ha s=>?_;rw[U] at s;simp only[kw,A2q,A2u,A49] at s;obtain⟨S,R,hl,⟨p,c,o,m2,m3,X⟩,m⟩:=k.get i G;have A:=run_checkKey (P:=P) (w:=w) B (show IsKey .string (kV key) from trivial) p.isEmpty 9999;rcases V_ (d:=.string) rfl (k:=key) m2 X.2.2 with⟨f1,f2⟩ | ⟨j,en,f1,f2,f3,f4⟩
  ·obtain⟨g1,I,H⟩:=Pv (es':=p) (clock':=c) o;have f:(Builtin.delete_ #[t,t2] ty #[.map (some b),kV key]).run P w=.ok (.tuple #[]) { w with heap:=w.heap.setIfInBounds b (.map p c) }:=by
     unfold Builtin.delete_;simp[A2e,run_underlying N,A2b,MapKept.run_getObj_map o,A,run_findKey B f2,MapKept.run_setObj_map _ o,Result.andThen]
   unfold Oper.wp execOp;simp only[resolve,invoke,builtin,A2e,A2d,A2b,A3o,kw,A2q,s.1,s.2,f];refine⟨rfl,T _ (k.XT i G (some b) g1 fun S R m r=>?_)⟩;obtain⟨hl,⟨J,c1,q,E,D,C⟩,m⟩:=m;rw[o] at q;simp only[A2a,Obj.map.injEq] at q;obtain⟨rfl,rfl⟩:=q;refine⟨fun g' z=>(by simp only[A2a] at z;subst z;exact m),S,fun _=>False,⟨?_,⟨_,_,H,?_,?_,C⟩,m⟩,fun M l=>⟨by rw[I];exact r M l,.inl l⟩,fun _ h=>h⟩
   ·unfold Qd Qe;rw[f1];exact hl
   ·unfold Qd;rw[f1];exact E
   ·unfold Qe;rw[f1];exact D
  ·obtain⟨g1,I,H⟩:=Pv (es':=p.eraseIdxIfInBounds j) (clock':=c) o;have f:(Builtin.delete_ #[t,t2] ty #[.map (some b),kV key]).run P w=.ok (.tuple #[]) { w with heap:=w.heap.setIfInBounds b (.map (p.eraseIdxIfInBounds j) c) }:=by
     unfold Builtin.delete_;simp[A2e,run_underlying N,A2b,MapKept.run_getObj_map o,A,run_findKey B f2,MapKept.run_setObj_map _ o,Result.andThen]
   unfold Oper.wp execOp;simp only[resolve,invoke,builtin,A2e,A2d,A2b,A3o,kw,A2q,s.1,s.2,f];refine⟨rfl,T _ (k.XT i G (some b) g1 fun S R m r=>?_)⟩;obtain⟨hl,⟨J,c1,q,E,D,C⟩,m⟩:=m;rw[o] at q;simp only[A2a,Obj.map.injEq] at q;obtain⟨rfl,rfl⟩:=q;have hj:j < p.size:=by simpa using (A0e.1 f3).1
   have v:(p.eraseIdxIfInBounds j).toList=p.toList.eraseIdx j:=by
     unfold Array.eraseIdxIfInBounds;rw[dif_pos hj,Array.toList_eraseIdx]
   refine⟨fun g' z=>(by simp only[A2a] at z;subst z;exact m),S,fun _=>False,⟨?_,⟨_,_,H,?_,?_,stamped_erase C j⟩,m⟩,fun M l=>⟨by rw[I];exact r M l,.inl l⟩,fun _ h=>h⟩
   ·unfold Qd Qe;rw[f1];simp only[List.length_eraseIdx,hl]
   ·unfold Qd;rw[f1,v,F8,E,F8]
   ·unfold Qe;rw[f1,v,F8,D]
end
end
section
variable {α β γ δ:Type}
def RH (F:Nat->Prop)(w:World)(E:Enc α)(h:Hd)(x:List α):Prop:=h.2.1=x.length/\x.length<=h.2.2/\Ro F w h.1 (E.all x)
def RQ (y x:α):Prop:=y=x
def RP (r:α->β->Prop)(q:γ->δ->Prop)(y:α×γ)(x:β×δ):Prop:=r y.1 x.1/\q y.2 x.2
structure RoG (F:Nat->Prop)(w:World)(E:Enc γ)(r:γ->δ->Prop)(A:Option Addr)(ys:List γ)(xs:List δ):Prop where
  ro:Ro F w A (E.all ys)
  len:ys.length=xs.length
  el:∀ (j:Nat) (y:γ) (x:δ),ys[j]?=some y->xs[j]?=some x->r y x
section
variable {F O F1 O1:Nat->Prop}{w0 w w':World}{hs:List HP}
theorem RoG.at{E:Enc γ}{r:γ->δ->Prop}{A}{ys:List γ}{xs:List δ}(h:RoG F w E r A ys xs){j}{x:δ}(hx:aP xs j=some x):∃ y,aP ys j=some y/\r y x:=by
  obtain⟨d,c⟩:=aS hx;have a:=(A0e.1 c).1;have b:ys[j.toNat]?=some (ys[j.toNat]'(h.len▸a)):=A0V _;refine⟨ys[j.toNat]'(h.len▸a),?_,h.el _ _ _ b c⟩;unfold aP;rw[A3p d,b]
theorem RoG.nil{E:Enc γ}{r:γ->δ->Prop}:RoG F w E r Option.none [] []:=⟨Ro.KU E,rfl,fun _ _ _ h=>by cases h⟩
end
def hV (h:Hd):Value:=.slice h.1 h.2.1 h.2.2
section
variable {F O:Nat->Prop}{w0 w:World}{hs rest:List HP}{E:Enc α}{b:Nat}{ks:A02}{hd:List Hd}{Ce:List (List α)}
end
section
variable {P:Program}{n:Nat}{ops:Array Oper}{L:St}{w w0:World}{F O:Nat->Prop}{hs rest:List HP}{K:St->World->Prop}{E:Enc α}
end
end
section
open Go.RowKit Go.MapKept
set_option linter.unusedSimpArgs false
set_option linter.unusedVariables false
variable {α:Type}
theorem left_perm{d a e}(hn:(d.toList.map (·.born)).Nodup)(j:e ∈ (leftOf d a).toList):(leftOf d a).toList.Perm (e::(leftOf d (a.push e.born)).toList):=by
  obtain⟨i,k⟩:=mem_left j;unfold leftOf;rw[Array.toList_filter,Array.toList_filter];generalize d.toList=l at *
  induction l with
  | nil=>cases i
  | cons x l ih =>
    simp only[kw,List.nodup_cons] at hn;by_cases hx:x.born=e.born
    ·have b:x=e:=by
       rcases ul.1 i with rfl | h
       ·rfl
       ·exact absurd (ut.2 ⟨e,h,hx.symm⟩) hn.1
     subst b;rw[List.filter_cons,A3p (by rw[k];rfl),List.filter_cons,A3q (by rw[contains_push];simp)];refine .cons _ (.of_eq ?_);apply List.filter_congr;intro y hy;rw[contains_push];have:(y.born == x.born)=false:=by
       cases hc:y.born == x.born with
       | false=>rfl
       | true=>exact absurd (ut.2 ⟨y,hy,beq_iff_eq.1 hc⟩) hn.1
     rw[this,Bool.or_false]
    ·have f:e ∈ l:=by
       rcases ul.1 i with rfl | h
       ·exact absurd rfl hx
       ·exact h
     have b:(x.born == e.born)=false:=by simpa using hx
     have g:(a.push e.born).contains x.born=a.contains x.born:=by rw[contains_push,b,Bool.or_false]
     have c:=ih hn.2 f;rw[List.filter_cons,List.filter_cons,g];split
     ·exact(A3f _ c).trans (.swap _ _ _)
     ·exact c
section
variable {P:Program}{n:Nat}{ops:Array Oper}{L:St}{w w0:World}{F O:Nat->Prop}{hs rest:List HP}{K:St->World->Prop}
theorem key_of{b:Array MapEntry}{ks:A02}(h:b.toList.map (·.key)=ks.map kV){e:MapEntry}(d:e ∈ b.toList):∃ k ∈ ks,e.key=kV k:=by
  have:e.key ∈ b.toList.map (·.key):=ut.2 ⟨e,d,rfl⟩;rw[h] at this;obtain⟨k,c,a⟩:=ut.1 this;exact⟨k,c,a.symm⟩
theorem Cx.weak{h h'}(k:Cx F O w0 w hs)(i:Nat)(c:hs[i]?=some h)(hp:∀ w S R,h.p w S R->h'.p w S R):Cx F O w0 w (hs.set i h') :=
  k.upd i c Option.none ⟨rfl,rfl,rfl,A2f _,fun _ _ _=>rfl⟩ fun S R f e h3=>⟨fun g d=>(by cases d),S,R,hp _ _ _ f,fun b a=>⟨h3 b (.inl a),e b a,.inl a⟩,fun b a=>⟨h3 b (.inr a),.inl a⟩⟩
variable {E:Enc α}{b r:Nat}{ks left:A02}{hd:List Hd}{Ce:List (List α)}
end
section
variable {P:Program}{n:Nat}{Q:Exit->Act->World->Prop}{L L':St}{w:World}
open Classical in
theorem W_ms{c}(J:Nat->St->World->Prop)(j:Nat)(v:J j L' w)(s:L'.map (fun p=>(find L p.1).map SV.val)=L'.map (fun p=>some p.2.val))(u:∀ k L w,J k L w->W P n c (Exit.then (fun a w=>∃ b L',b < k/\Fu n a (Kn L')/\J b L' w) Q) L w):W P n (.loop c) Q L w:=by
  refine W_forget L' s fun a0 i=>?_
  let I:Nat->Act->World->Prop:=fun k a w=>∃ L,Fu n a (Kn L)/\J k L w
  let μ:Act->World->Nat:=fun a w=>if h:∃ k,I k a w then Classical.choose (least h) else 0
  refine wp_loop (fun a w=>∃ k,I k a w) μ ⟨j,L',i,v⟩ ?_;intro a w hI;have r:μ a w=Classical.choose (least hI):=dif_pos hI;obtain⟨x,t,m⟩:=(Classical.choose_spec (least hI)).1;rw[<- r] at m;refine wp_mono (u _ x w m a t) ?_;intro e o w' l;cases e with
  | normal =>
    obtain⟨b,q,hlt,d,f⟩:=l;have g:∃ k,I k o w':=⟨b,q,d,f⟩
    refine⟨g,?_⟩;have h1:μ o w'=Classical.choose (least g):=dif_pos g;have h2:Classical.choose (least g)<=b:=(Classical.choose_spec (least g)).2 b ⟨q,d,f⟩;omega
  | _=>exact l
theorem At_ms{J:Nat->St->World->Prop}{k:Nat}(b:Nat)(c:b < k)(h:J b L' w)(d:L'.map (fun p=>(find L p.1).map SV.val)=L'.map (fun p=>some p.2.val)):At n (Exit.then (fun a w=>∃ b L',b < k/\Fu n a (Kn L')/\J b L' w) Q .normal) L w :=
  Lt L' d fun _ e=>⟨b,L',c,e,h⟩
end
noncomputable def srt (l:A02):A02:=l.mergeSort fun x y=>decide (x<=y)
theorem srt_perm{l a}(h:l.Perm a):srt l=srt a:=by
  have:=mergeSort_of_perm h;exact this
theorem srt_length(l:A02):(srt l).length=l.length:=by simp[srt]
theorem eS_all(l:A02):eS.all l=l.map Go.Proofs.encStr:=by
  induction l with
  | nil=>rfl
  | cons x l ih=>show _::_=_::_;rw[show(eS.all l)=l.map Go.Proofs.encStr from ih];rfl
open Go.Sort Go.Proofs Go.Shelf in
theorem c_sort{P ρ}(H:Lays.n190 P ρ){F O w0 w hs i A n c xs}(k:Cx F O w0 w hs)(x:hs[i]?=some (Ow eS A n c xs))(u:n < 4611686018427387904) :
    Calls P (ρ.f 190) #[.slice A n c] w (fun e w'=>e=.returned (.tuple #[])/\Cx F O w0 w' (hs.set i (Ow eS A n c (srt xs)))):=by
  obtain⟨S,R,hl,J⟩:=k.get i x;by_cases G:n=0
  ·subst G;have hx:xs=[]:=A2y hl;subst hx;refine(Any.slices_Sort_string_none H A c w).mono ?_;rintro e w' ⟨rfl,rfl⟩;refine⟨rfl,?_⟩;have:srt []=[]:=by simp[srt]
   rw[this];have T:hs.set i (Ow eS A 0 c [])=hs:=by
     obtain⟨b,N⟩:=A0e.1 x;rw[<- N];exact List.set_getElem_self b
   rw[T];exact k
  ·rcases J with⟨_,b,_⟩ | ⟨g,t,cur,rfl,⟨Q,r,o⟩,h3,M,E,B,h7⟩
   ·exact absurd b G
   ·subst hl;have a:eS.sz=1:=rfl;rw[a,Nat.mul_one] at E B;rw[eS_all] at B;have L:Holds encStr w g 0 xs.toArray:=by
      intro j I;have p:j < xs.length:=by simpa using I
      have z:w.frozen? ⟨g,0+j,none⟩=false:=by
        have:j < cur.size:=Y
        simp only[World.frozen?,r];rcases o with h | h
        ·simp;omega
        ·simp;omega
      refine⟨?_,z⟩;have b:(cur.toList.take xs.length)[j]?=(xs.map encStr)[j]?:=by rw[B]
      rw[List.getElem?_take_of_lt p] at b;simp only[World.cell?,r,Nat.zero_add];simp only[Option.isSome_none,A0h,A3r];rw[<- Array.getElem?_toList,b];simp[p]
    refine(Any.slices_Sort_string H g 0 c xs w L (Array.getElem?_eq_some_iff.1 r).1 u).mono ?_;rintro e w' ⟨rfl,m,os,rfl⟩;refine⟨rfl,?_⟩;refine k.XT i x (some g) (grownBy_sorted _) fun S R K v=>?_;obtain⟨hl',y⟩:=K;rcases y with⟨b,_⟩ | ⟨g',t',cur',D,⟨fr',s,q3⟩,_,_,q4,_,C⟩
    ·cases b
    ·simp only[A2a,Addr.mk.injEq,A49] at D;subst D;rw[r] at s;simp only[A2a,Obj.cells.injEq] at s;obtain⟨rfl,rfl,rfl⟩:=s;have d:(srt xs).length=xs.length:=srt_length xs;refine⟨fun q l=>(by simp only[A2a] at l;subst l;exact C),S,fun _=>False,⟨d,.inr ⟨g,t,putCells encStr 0 (srt xs).toArray cur,rfl,⟨Q,heap_sorted _ r,?_⟩,h3,M,?_,?_,C⟩⟩,fun q l=>⟨?_,.inl l⟩,fun _ h=>h⟩
     ·simpa [putCells] using o
     ·rw[a,Nat.mul_one];simpa [putCells] using E
     ·rw[a,Nat.mul_one,eS_all,<-d];exact take_putCells cur (srt xs) Y
     ·exact A0c (v q l) (grownBy_sorted (w:=w) (g:=g) (n:=m) (os:=os) (srt xs).toArray).size
end
section
variable {α β γ δ ε ζ:Type}
structure Rl (γ δ:Type) where
  r:World->(Nat->Prop)->γ->δ->Prop
  loc:∀ w w' R y x,r w R y x->(∀ b,R b->w'.heap[b]?=w.heap[b]?)->r w' R y x
  mono:∀ w R R' y x,(∀ b,R b->R' b)->r w R y x->r w R' y x
def SQ:Rl α α:=⟨fun _ _ y x=>y=x,fun _ _ _ _ _ h _=>h,fun _ _ _ _ _ _ h=>h⟩
def Sh (q:Rl γ δ)(ys:List γ)(xs:List δ):HP where
  p w S R:=(∀ b,¬ S b)/\ys.length=xs.length/\∀ (j:Nat) (y:γ) (x:δ),ys[j]?=some y->xs[j]?=some x->q.r w R y x
  loc:=by
    rintro w w' S R ⟨f,e,d⟩ a;exact⟨f,e,fun j y x h g=>q.loc _ _ _ _ _ (d j y x h g) fun b c=>a b (.inr c)⟩
section
variable {F O:Nat->Prop}{w0 w w':World}{hs rest:List HP}
theorem Cx.merge{j i h3}(k:Cx F O w0 w (j::i::rest))(hp:∀ w e g d f,j.p w e g->i.p w d f->h3.p w (fun b=>e b∨d b) (fun b=>g b∨f b)):Cx F O w0 w (h3::rest):=by
  obtain⟨U,V,⟨e,g,U1,V1,x,⟨d,f,z,y,g1,s,c,l,r,o⟩,v,u,t,m⟩,n,hV⟩:=k.sep;refine⟨k.os,k.tape,k.output,k.size,k.block,k.fin,k.Vf,U,V,⟨_,_,z,y,hp _ _ _ _ _ x g1,s,fun b=>?_,fun b=>?_,fun b a=>?_,fun b a=>?_⟩,n,hV⟩
  ·rw[v,c,or_assoc]
  ·rw[u,l,or_assoc]
  ·rcases a with a | a
   ·have h:=t b a;rw[c,l] at h;exact⟨fun q=>h.1 (.inr q),fun q=>q.elim h.2.1 (fun q=>h.2.2 (.inl q)),fun q=>h.2.2 (.inr q)⟩
   ·have h:=r b a;exact⟨h.1,fun q=>q.elim (fun q=>m b q ((c b).2 (.inl a))) h.2.1,h.2.2⟩
  ·rcases a with a | a
   ·exact fun q=>m b a ((c b).2 (.inr q))
   ·exact o b a
theorem Cx.dup{h h'}(k:Cx F O w0 w hs)(i:Nat)(f:hs[i]?=some h)(hp:∀ w S R,h.p w S R->h'.p w (fun _=>False) R):Cx F O w0 w (h'::hs):=by
  obtain⟨U,V,c,g,hV⟩:=k.sep;obtain⟨S,R,U',V',j,e2,e3,d,e5,e6⟩:=Sep.cut f c;refine⟨k.os,k.tape,k.output,k.size,k.block,k.fin,k.Vf,U,V,⟨_,R,U,V,hp _ _ _ j,c,fun b=>⟨.inr,fun h=>h.elim (fun h=>h.elim) id⟩,fun b=>⟨.inr,fun h=>h.elim (fun h=>(d b).2 (.inl h)) id⟩,fun b a=>a.elim,fun b a e=>?_⟩,g,hV⟩;exact Sep.apart c b e ((d b).2 (.inl a))
theorem Cx.shz(k:Cx F O w0 w hs)(q:Rl γ δ):Cx F O w0 w (Sh q [] []::hs):=by
  obtain⟨U,V,d,c,hV⟩:=k.sep;exact⟨k.os,k.tape,k.output,k.size,k.block,k.fin,k.Vf,U,V,⟨fun _=>False,fun _=>False,U,V,⟨fun _ h=>h,rfl,fun j y x e _=>by cases e⟩,d,A2K,A2K,fun b a=>a.elim,fun b a=>a.elim⟩,c,hV⟩
theorem Cx.shq(k:Cx F O w0 w hs)(x:α):Cx F O w0 w (Sh SQ [x] [x]::hs):=by
  obtain⟨U,V,e,d,hV⟩:=k.sep;refine⟨k.os,k.tape,k.output,k.size,k.block,k.fin,k.Vf,U,V,⟨fun _=>False,fun _=>False,U,V,⟨fun _ h=>h,rfl,fun j y x' f c=>?_⟩,e,A2K,A2K,fun b a=>a.elim,fun b a=>a.elim⟩,d,hV⟩;rw[f] at c;exact A2j c
theorem Cx.sha{q:Rl γ δ}{ys:List γ}{c:List γ}{xs:List δ}{xs':List δ}(k:Cx F O w0 w (Sh q ys xs::Sh q c xs'::rest)):Cx F O w0 w (Sh q (ys++c) (xs++xs')::rest) :=
  k.merge fun w S1 R1 S2 R2 a g=>⟨fun b d=>d.elim (a.1 b) (g.1 b),by simp[a.2.1,g.2.1],fun j y x f e=>by
    by_cases h:j < ys.length
    ·rw[A3M h] at f;rw[A3M (by have:=a.2.1;omega)] at e;exact q.mono _ _ _ _ _ (fun b d=>.inl d) (a.2.2 j _ _ f e)
    ·rw[A3c Y] at f;rw[A3c (by have:=a.2.1;omega),<-a.2.1] at e;exact q.mono _ _ _ _ _ (fun b d=>.inr d) (g.2.2 _ _ _ f e)⟩
variable {E:Enc γ}{q:Rl γ δ}{A:EQ}{n c:Nat}{ys:List γ}{xs:List δ}
end
section
variable {F O:Nat->Prop}{w0 w:World}{hs:List HP}
end
section
variable {F O F1 O1:Nat->Prop}{w0 w w':World}{hs rest:List HP}{E:Enc γ}{q:Rl γ δ}{A:EQ}{ys:List γ}{xs:List δ}
end
section
variable {P:Program}{n:Nat}{ops:Array Oper}{L:St}{w w0:World}{F O:Nat->Prop}{hs rest:List HP}{K:St->World->Prop}{E:Enc γ}{q:Rl γ δ}
end
end
section
variable {γ δ:Type}
def Y8 (a:δ->Nat):List δ->Nat
  | []=>0
  | x::xs=>a x+Y8 a xs
def Rn {H:Type}(m:DataW H->δ->Prop):List (DataW H)->List δ->Prop
  | [],[]=>True
  | d::ds,x::xs=>m d x/\Rn m ds xs
  | _,_=>False
theorem Rn.of {H:Type}{m:DataW H->δ->Prop}:∀ (a:List (DataW H)) (xs:List δ),a.length=xs.length->(∀ (i:Nat) (d:DataW H) (x:δ),a[i]?=some d->xs[i]?=some x->m d x)->Rn m a xs
  | [],[],_,_=>trivial
  | [],_::_,h,_=>by cases h
  | _::_,[],h,_=>by cases h
  | d::a,x::xs,h,hq=>⟨hq 0 d x rfl rfl,Rn.of a xs (by simpa using h) fun i f b e c=>hq (i+1) f b e c⟩
theorem Rn.tot{H:Type}{b:δ->Nat}{bulk:DataW H->Nat}{bulkAll:List (DataW H)->Nat}(c:∀ d a,bulkAll (d::a)=bulk d+bulkAll a):∀ (a:List (DataW H)) (xs:List δ),Rn (fun d x=>b x<=bulk d) a xs->Y8 b xs<=bulkAll a
  | [],[],_=>A2p _
  | [],_::_,h=>h.elim
  | _::_,[],h=>h.elim
  | d::a,x::xs,⟨h,hr⟩=>by
    have:=Rn.tot c a xs hr;simp only[Y8,c];omega
section
variable {H:Type}{enc:TypeId×Value->H}{P:Program}{w:World}{held:Bool}
theorem open_rg{t e:TypeId}{fuel cs x}(E:Enc γ)(r:γ->δ->Prop)(m:DataW H->δ->Prop)(ht:P.underlying t=some (.slice e))(hce:P.cellsOf e=E.sz)(hel:∀ fuel cs (x:DataW H×List MemPlace),DataW.trod enc P w 0 (fun _=>true) held fuel e cs=some x->∃ (y:γ) (z:δ),cs=E.f y/\r y z/\m x.1 z)(h:DataW.trod enc P w 0 (fun _=>true) held fuel t cs=some x) :
    ∃ (A:EQ) (len cap:Nat) (ys:List γ) (xs:List δ),cs=[.slice A len cap]/\RoG N0 w E r A ys xs/\xs.length=len/\len<=cap/\(xs=[]∨∃ ds rest,x.1=.slice ds rest/\Rn m ds xs):=by
  rcases DataW.trod_slice ht h with⟨rfl,rfl⟩ | ⟨a,len,cap,elems,rest,n,rfl,rfl,rfl,_,hl,_,hlen,hel2,_,_⟩
  ·exact⟨Option.none,0,0,[],[],rfl,RoG.nil,rfl,Y,.inl rfl⟩
  ·have key:∀ i,i < len->∃ y:γ×δ,w.cells? 0 (a.add (i*E.sz)) E.sz=some (E.f y.1)/\r y.1 y.2/\∃ d,elems[i]?=some d/\m d.1 y.2:=by
     intro i hi;have h1:=hel2 i hi;have h2:elems[i]?=some (elems[i]'Y):=A0V _;rw[h2,hce,A0d] at h1;obtain⟨cs',hcs,hy⟩:=h1;obtain⟨y,z,rfl,hr,hm⟩:=hel _ _ _ hy;exact⟨(y,z),hcs,hr,_,h2,hm⟩
   obtain⟨l,hll,hl2⟩:=exlist len key;have hget:∀ (j:Nat) (y:γ) (x:δ),(l.map (·.1))[j]?=some y->(l.map (·.2))[j]?=some x->l[j]?=some (y,x):=by
     intro j h x h1 h2;rw[A2r,A0M] at h1 h2;obtain⟨y,hy,rfl⟩:=h1;obtain⟨y',hy',rfl⟩:=h2;rw[hy] at hy';obtain rfl:=A2j hy';exact hy
   refine⟨some a,len,cap,l.map (·.1),l.map (·.2),rfl,⟨Ro.n0 ⟨fun _=>⟨a,rfl⟩,?_⟩,A2K,?_⟩,by simp[hll],hl,.inr ⟨_,_,rfl,?_⟩⟩
   ·intro a' j u ha hu;obtain rfl:=A2j ha;by_cases hz:E.sz=0
    ·have hq:=(A0e.1 hu).1;rw[Enc.g_,hz,Nat.mul_zero] at hq;omega
    ·have hq:=(A0e.1 hu).1;rw[Enc.g_,A0K] at hq;have hi:j / E.sz < l.length:=Nat.div_lt_of_lt_mul (by rw[A3F];exact hq);have hmod:j % E.sz < E.sz:=Nat.mod_lt _ Y;have hy:l[j / E.sz]?=some (l[j / E.sz]):=A0V _;obtain⟨h1,_⟩:=hl2 _ _ hy;obtain⟨_,h3,h4⟩:=World.cells?_some h1;have h5:=h4 (j % E.sz) hmod;rw[Addr.add_add,A3F,Nat.div_add_mod] at h5;rw[h5];have h6:=Enc.YY E (xs:=l.map (·.1)) (j:=j / E.sz) (x:=(l[j / E.sz]).1) (by rw[A2r,hy];rfl);rw[<- h6,List.getElem?_take_of_lt hmod,A3Q,A3F,Nat.div_add_mod];exact hu
   ·intro j h x h1 h2;exact(hl2 j _ (hget j h x h1 h2)).2.1
   ·refine Rn.of _ _ (by simp[hll,hlen]) fun i d x h1 h2=>?_;rw[A2r,A0M] at h1 h2;obtain⟨y,hy,rfl⟩:=h1;obtain⟨z,hz,rfl⟩:=h2;obtain⟨_,_,d',hd',hq⟩:=hl2 i z hz;rw[hy] at hd';obtain rfl:=A2j hd';exact hq
end
end
section
variable {α β γ δ:Type}
section
variable {F O F1 O1:Nat->Prop}{w0 w w':World}{hs rest:List HP}{E:Enc α}{A:EQ}{n c:Nat}{x:List α}
end
theorem Rn.len{H:Type}{m:DataW H->δ->Prop}{bulk:DataW H->Nat}{bulkAll:List (DataW H)->Nat}(c:∀ d a,bulkAll (d::a)=bulk d+bulkAll a)(b:∀ d,1<=bulk d):∀ (a:List (DataW H)) (xs:List δ),Rn m a xs->xs.length<=bulkAll a
  | [],[],_=>A2p _
  | [],_::_,h=>h.elim
  | _::_,[],h=>h.elim
  | d::a,x::xs,⟨_,hr⟩=>by
    have:=Rn.len c b a xs hr;have:=b d;simp only[bi,c];omega
section
variable {σ ρ:Type}{P:Program}{n:Nat}{Q:Exit->Act->World->Prop}{c:Code}{L L':St}{w0:World}
end
end
section
section
variable {P:Program}{n:Nat}{ops:Array Oper}{L:St}{w w0:World}{F O:Nat->Prop}{hs:List HP}{K:St->World->Prop}
theorem Y9{l}{t ty:TypeId}{c f q E g}{e:TypeId}{h m}(D:TF P t e h m)(ss:A00)(d:Nat)(ps:List (Nat×SV))(ys:List SV)(A28:(Ep ops ss L ⟨l,.buildSlice t c f,ty,q,E,g⟩,l,(decide (d < n)),(L.any fun p=>p.1 == d),(toPS f.toList (lk L)).map (·.map fun p=>(p.1,p.2.val)))=(true,some d,true,false,some (ps.map fun p=>(p.1,p.2.val))))(s:((Qc (fun i=>some (i*h.length,h.length)) ((List.replicate c h).flatten.map PT) ps).map SV.cl,decide (c*h.length<=16777216),decide (0 < c))=(some (SV.cl ys),true,true))(H:c*h.length≠0)(k:Cx F O w0 w hs)(J:∀ b w',Cx F O w0 w' (hs++[Bx e b ys])->K ((d,.v (.slice (some ⟨b,0,none⟩) c c))::L) w') :
    Dv P n ops L w ⟨l,.buildSlice t c f,ty,q,E,g⟩ K:=by
  simp only[A2c,lm,A0M] at A28 s;obtain⟨S,rfl,h3,R,⟨ps',Q,N⟩⟩:=A28;obtain⟨⟨svs,s,hx⟩,hlen,hl0⟩:=s;refine DU (xs:=[]) (svs:=[]) ss (d:=d) (by simp[Side,S,h3,R,toSS]) fun a M _=>?_;have hps:=toPS_spec (fun o x hx=>Ve M hx) Q;rw[N] at hps;obtain⟨i,z,G,A,y,B,hby⟩:=D.parts;have j:=MG (place:=fun i=>some (i*h.length,h.length)) ps _ _ s;rw[Vd] at j;have V:(sizeOf e).run P w=.ok h.length w:=by rw[<- B];exact Ad G w
  have r:(Instr.buildSlice t c (f.map fun(i,x)=>(i,a.eval x))).run P w=.ok (.slice (some ⟨w.heap.size,0,none⟩) c c) (w.alloc (.cells ⟨SV.cl ys⟩ e)):=by
    have U:(f.map fun(i,x)=>(i,a.eval x)).toList=ps.map fun p=>(p.1,p.2.val):=by rw[<- hps];simp
    have C:Instr.fill (fun i=>some (i*h.length,h.length)) ⟨(List.replicate c h).flatten⟩ (f.map fun(i,x)=>(i,a.eval x)).toList=some ⟨SV.cl ys⟩:=by rw[U,j,hx]
    simp only[Instr.buildSlice,A2e,run_underlying D.ht,A2b,V];rw[A3q Y];split
    ·rename_i T;exact absurd T H
    ·have u:(zeroValue e).run P w=.ok z w:=by simp[zeroValue,typeInfo,G,A]
     simp only[A2e,A2d,A2b,u,y];have I:=Po h c;simp only[show(⟨h⟩:Array Value).size=h.length from rfl,I,C];rfl
  unfold Oper.wp execOp;simp only[A2e,r,A2b,A2d];exact⟨.v (.slice (some ⟨w.heap.size,0,none⟩) c c),rfl,J w.heap.size _ (k.new _ (Bx e w.heap.size ys) ⟨Rw.new w _ _,rfl⟩)⟩
end
end
section
def J7 (P:Program)(F:Nat -> Prop)(w:World) : Prop := Lib.TabIs P w "internal/strconv.uint64pow10" .u64 Lib.pow10Tab /\ ∃ g, P.globalNamed "internal/strconv.uint64pow10" = some g /\ ¬ F g
theorem J7.cx{P F O w0 w hs}(h:J7 P F w0)(k:Cx F O w0 w hs) : Lib.TabIs P w "internal/strconv.uint64pow10" .u64 Lib.pow10Tab := by
  obtain⟨h,g,hg,hF⟩:=h;unfold Lib.TabIs World.var? at h ⊢;rw[hg] at h ⊢;simp only[A0X] at h ⊢;have hlt:g < w0.heap.size:=by
    rcases A3A g w0.heap.size with h' | h'
    ·exact h'
    ·rw[Array.getElem?_eq_none h'] at h;cases h
  rw[k.block g hlt hF];exact h
theorem J7.at{P F O w0 w hs}(h:J7 P F w0)(k:Cx F O w0 w hs):J7 P N0 w :=
  ⟨h.cx k,h.2.elim fun g a=>⟨g,a.1,fun q=>q⟩⟩
open Go.Sort in
theorem Cx.more(w:World)(m:Nat)(os:Array Obj):Cx N0 N0 w (grow (w.drewN m) os) [] :=
  ⟨rfl,rfl,rfl,by simp[grow],fun b a _=>by
    show((w.drewN m).heap++os)[b]?=w.heap[b]?;rw[show(w.drewN m).heap=w.heap from rfl,Array.getElem?_append_left a],fun _ h=>h.elim,fun _ h=>h.elim,N0,N0,⟨fun _ h=>h,fun _ h=>h⟩,fun _ h=>h.elim,fun _ h=>h.elim⟩
open Go.Sort Go.Proofs Go.Shelf in
theorem c_itoa{P ρ}(Ly : LaysM.n171 P ρ){F O w0 w hs}(k : Cx F O w0 w hs){n}(hn : -9223372036854775808 <= n /\ n <= 9223372036854775807)(hT : Lib.TabIs P w "internal/strconv.uint64pow10" .u64 Lib.pow10Tab) :
    Calls P (ρ.f 171) (vals [I n]) w (fun e w'=>e=.returned (SV.val (.s (Lib.itoa n)))/\Cx F O w0 w' hs):=by
  refine(Any.strconv_Itoa Ly n hn.1 hn.2 w hT).mono ?_;rintro e w' ⟨rfl,m,os,rfl⟩;refine⟨rfl,?_⟩;have:=k.call (Cx.more w m os);rw[A2n] at this;exact this
end
section
def eF:Enc UInt64:=⟨1,fun a=>[.float .f64 a.toNat],fun _=>rfl,fun x v h=>by rw[A0N.1 h];rfl⟩
instance:Pos eF:=⟨A2H⟩
section
variable {P:Program}{n:Nat}{ops:Array Oper}{L:St}{w w0:World}{F O:Nat->Prop}{hps:List HP}{K:St->World->Prop}
end
section
variable {P:Program}{n:Nat}{ops:Array Oper}{L:St}{w:World}{K:St->World->Prop}
end
end
section
section
variable {H:Type}{enc:TypeId×Value->H}{P:Program}{w:World}{held:Bool}
end
end
section
open Go.RowKit Go.MapKept
set_option linter.unusedSimpArgs false
set_option linter.unusedVariables false
variable {α β γ δ ε ζ σ:Type}
abbrev Ky:=AC
abbrev Mp (δ:Type):=List (AC×δ)
@[reducible] def A0C:=Int×Int×Int×Int×Int×Int×Int×UInt64×(Mp WF)
@[reducible] def A0D:=Int×Int×Int×Int×Int×Int×UInt64×(Mp WF)
def PW (m:Mp δ):Prop:=(m.map (·.1)).Pairwise (· < ·)
def oz (m:Mp δ)(k:Ky):Option δ:=match m with
  | []=>none
  | p::r=>if p.1=k then some p.2 else oz r k
def Dw (m:Mp δ)(k:Ky)(v:δ):Mp δ:=match m with
  | []=>[(k,v)]
  | p::r=>if k=p.1 then(k,v)::r else if k < p.1 then(k,v)::p::r else p::Dw r k v
def Ol (m:Mp δ)(k:Ky):Mp δ:=match m with
  | []=>[]
  | p::r=>if p.1=k then r else p::Ol r k
theorem lt_tri(a b:Ky):a < b∨a=b∨b < a:=by
  rcases Decidable.em (a < b) with h | h
  ·exact .inl h
  ·rcases Decidable.em (b < a) with h2 | h2
   ·exact .inr (.inr h2)
   ·exact .inr (.inl (List.le_antisymm (List.not_lt.1 h2) (List.not_lt.1 h)))
theorem PW.nil:PW ([]:Mp δ):=List.Pairwise.nil
theorem PW.cons{p:Ky×δ}{r:Mp δ}:PW (p::r) ↔ (∀ q ∈ r,p.1 < q.1)/\PW r:=by
  unfold PW;rw[kw,List.pairwise_cons];simp only[ut,forall_exists_index,and_imp,forall_apply_eq_imp_iff₂]
theorem PW.nodup{m:Mp δ}(h:PW m):(m.map (·.1)).Nodup:=List.Pairwise.imp (fun {a b} hab (e:a=b)=>A3L b (e▸hab)) h
theorem ML{m:Mp δ}{k}:oz m k=none ↔ k ∉ m.map (·.1):=by
  induction m with
  | nil=>simp[oz]
  | cons p r ih =>
    unfold oz;by_cases h:p.1=k
    ·simp[h]
    ·rw[A3q h,ih];simp only[kw,ul,not_or];exact⟨fun a=>⟨fun e=>h e.symm,a⟩,fun a=>a.2⟩
theorem Yj{m:Mp δ}{k}{v:δ}(h:oz m k=some v):(k,v) ∈ m:=by
  induction m with
  | nil=>cases h
  | cons p r ih =>
    unfold oz at h;by_cases hp:p.1=k
    ·rw[A3p hp] at h;obtain rfl:=A2j h;subst hp;exact A0R
    ·rw[A3q hp] at h;exact A0P _ (ih h)
theorem yh{m:Mp δ}{k}{v:δ}(hn:(m.map (·.1)).Nodup)(h:(k,v) ∈ m):oz m k=some v:=by
  induction m with
  | nil=>cases h
  | cons p r ih =>
    rw[kw,List.nodup_cons] at hn;unfold oz;rcases ul.1 h with rfl | h
    ·rw[A3p rfl]
    ·rw[A3q (by intro e;exact hn.1 (by rw[e];exact ut.2 ⟨_,h,rfl⟩)),ih hn.2 h]
theorem mins_perm{m:Mp δ}{k}(v:δ)(h:k ∉ m.map (·.1)):(Dw m k v).Perm ((k,v)::m):=by
  induction m with
  | nil=>exact .refl _
  | cons p r ih =>
    simp only[kw,ul,not_or] at h;unfold Dw;rw[A3q h.1];split
    ·exact .refl _
    ·exact(A3f _ (ih h.2)).trans (.swap _ _ _)
theorem mins_keys{m:Mp δ}{k}{v:δ}{q:Ky×δ}(h:q ∈ Dw m k v):q=(k,v)∨(q ∈ m/\(PW m->q.1≠k)):=by
  induction m with
  | nil=>exact .inl (A0N.1 h)
  | cons p r b =>
    unfold Dw at h;split at h
    ·rename_i c;rcases ul.1 h with h | h
     ·exact .inl h
     ·refine .inr ⟨A0P _ h,fun hs e=>?_⟩;rw[PW.cons] at hs;have:=hs.1 q h;rw[e,c] at this;exact A3L _ this
    ·rename_i hne;split at h
     ·rename_i a;rcases ul.1 h with h | h
      ·exact .inl h
      ·refine .inr ⟨h,fun hs e=>?_⟩;rw[PW.cons] at hs;rcases ul.1 h with rfl | h
       ·exact hne e.symm
       ·have:=List.lt_trans a (hs.1 q h);rw[e] at this;exact A3L _ this
     ·rcases ul.1 h with rfl | h
      ·exact .inr ⟨A0R,fun _ e=>hne e.symm⟩
      ·rcases b h with e | ⟨f,d⟩
       ·exact .inl e
       ·exact .inr ⟨A0P _ f,fun hs=>d (PW.cons.1 hs).2⟩
theorem PW.Dw{m:Mp δ}(h:PW m)(k:Ky)(v:δ):PW (Dw m k v):=by
  induction m with
  | nil=>rw[Sx.Dw,PW.cons];exact⟨fun q a=>(by cases a),PW.nil⟩
  | cons p r ih =>
    rw[PW.cons] at h;unfold Sx.Dw;split
    ·rename_i d;rw[PW.cons];exact⟨fun q a=>by rw[d];exact h.1 q a,h.2⟩
    ·rename_i hne;split
     ·rename_i c;rw[PW.cons,PW.cons];refine⟨fun q a=>?_,h⟩;rcases ul.1 a with rfl | a
      ·exact c
      ·exact List.lt_trans c (h.1 q a)
     ·rename_i b;rw[PW.cons];refine⟨fun q a=>?_,ih h.2⟩;rcases mins_keys a with rfl | ⟨a,_⟩
      ·rcases lt_tri k p.1 with q | q | q
       ·exact absurd q b
       ·exact absurd q hne
       ·exact q
      ·exact h.1 q a
theorem mins_set{m:Mp δ}(h:PW m){k}{v0:δ}(v:δ)(hm:(k,v0) ∈ m):∃ a b,m=a++(k,v0)::b/\Dw m k v=a++(k,v)::b:=by
  induction m with
  | nil=>cases hm
  | cons p r ih =>
    rw[PW.cons] at h;rcases ul.1 hm with rfl | hm
    ·refine⟨[],r,rfl,?_⟩;unfold Dw;rw[A3p rfl];rfl
    ·have d:=h.1 _ hm;have hne:¬ k=p.1:=fun e=>by
       have f:p.1 < k:=d;rw[e] at f;exact A3L _ f
     have c:¬ k < p.1:=fun e=>A3L _ (List.lt_trans d e);obtain⟨a,b,i,g⟩:=ih h.2 hm;refine⟨p::a,b,by rw[i];rfl,?_⟩;unfold Dw;rw[A3q hne,A3q c,g];rfl
theorem mdel_none{m:Mp δ}{k}(h:k ∉ m.map (·.1)):Ol m k=m:=by
  induction m with
  | nil=>rfl
  | cons p r ih =>
    simp only[kw,ul,not_or] at h;unfold Ol;rw[A3q (fun e=>h.1 e.symm),ih h.2]
theorem mdel_sub(m:Mp δ)(k:Ky):(Ol m k).Sublist m:=by
  induction m with
  | nil=>exact .refl _
  | cons p r ih =>
    unfold Ol;split
    ·exact List.sublist_cons_self _ _
    ·exact ih.cons_cons _
theorem PW.Ol{m:Mp δ}(h:PW m)(k:Ky):PW (Ol m k):=List.Pairwise.sublist ((mdel_sub m k).map _) h
theorem mdel_perm{m:Mp δ}{k}{v:δ}(hm:(k,v) ∈ m)(hn:(m.map (·.1)).Nodup):m.Perm ((k,v)::Ol m k):=by
  induction m with
  | nil=>cases hm
  | cons p r ih =>
    rw[kw,List.nodup_cons] at hn;unfold Ol;rcases ul.1 hm with rfl | hm
    ·rw[A3p rfl]
    ·rw[A3q (by intro e;exact hn.1 (by rw[e];exact ut.2 ⟨_,hm,rfl⟩))];exact(A3f _ (ih hm hn.2)).trans (.swap _ _ _)
end
section
open Go.RowKit Go.MapKept
set_option linter.unusedSimpArgs false
set_option linter.unusedVariables false
variable {α β γ δ ε ζ σ ι:Type}
def Px (φ:ι->Prop)(l:ι->List HP):HP where
  p w S R:=∃ i,φ i/\Sep w (l i) S R
  loc:=by
    rintro w w' S R ⟨i,b,h⟩ a;exact⟨i,b,h.keep a⟩
section
variable {F O:Nat->Prop}{w0 w w':World}{hs rest:List HP}
theorem Cx.unpx{φ:ι->Prop}{l:ι->List HP}(k:Cx F O w0 w (Px φ l::rest)):∃ i,φ i/\Cx F O w0 w (l i++rest):=by
  obtain⟨U,V,⟨S,R,U',V',⟨i,d,j⟩,h,h3,g,c,f⟩,e,hV⟩:=k.sep;exact⟨i,d,k.os,k.tape,k.output,k.size,k.block,k.fin,k.Vf,_,_,Sep.join j h (fun b a=>⟨(c b a).1,(c b a).2.2⟩) f,fun b a=>e b ((h3 b).2 a),fun b a=>hV b ((g b).2 a)⟩
theorem Cx.dopx{φ:ι->Prop}{l:ι->List HP}(i:ι)(f:φ i)(k:Cx F O w0 w (l i++rest)):Cx F O w0 w (Px φ l::rest):=by
  obtain⟨U,V,h,g,hV⟩:=k.sep;obtain⟨s,q,r,p,d,o,n,m,c,j⟩:=Sep.split h;exact⟨k.os,k.tape,k.output,k.size,k.block,k.fin,k.Vf,U,V,⟨s,q,r,p,⟨i,f,d⟩,o,n,m,fun b a=>⟨(c b a).1,fun e=>Sep.apart d b a e,(c b a).2⟩,j⟩,g,hV⟩
theorem Cx.dupw{h h'}(k:Cx F O w0 w hs)(i:Nat)(f:hs[i]?=some h)(hp:∀ S R,h.p w S R->h'.p w (fun _=>False) R):Cx F O w0 w (h'::hs):=by
  obtain⟨U,V,c,g,hV⟩:=k.sep;obtain⟨S,R,U',V',j,e2,e3,d,e5,e6⟩:=Sep.cut f c;refine⟨k.os,k.tape,k.output,k.size,k.block,k.fin,k.Vf,U,V,⟨_,R,U,V,hp _ _ j,c,fun b=>⟨.inr,fun h=>h.elim (fun h=>h.elim) id⟩,fun b=>⟨.inr,fun h=>h.elim (fun h=>(d b).2 (.inl h)) id⟩,fun b a=>a.elim,fun b a e=>?_⟩,g,hV⟩;exact Sep.apart c b e ((d b).2 (.inl a))
end
structure Vl (γ δ:Type) where
  V:γ->Value
  q:Rl γ δ
  inj:∀ a b,V a=V b->a=b
def vS (E:Enc α)(c:∀ a b,E.f a=E.f b->a=b):Vl α α:=⟨fun y=>.agg ⟨E.f y⟩,SQ,fun a b h=>by
  simp only[Value.agg.injEq,Array.mk.injEq] at h;exact c a b h⟩
def kx (e:Ky×γ×δ):Ky×δ:=(e.1,e.2.2)
def MbF (w:World)(b:Nat)(ks:List Ky)(vs:List Value):Prop :=
  ks.length=vs.length/\∃ (c:Array MapEntry) (a:Nat),w.heap[b]?=some (.map c a)/\c.toList.map (·.key)=ks.map kV/\c.toList.map (·.val)=vs/\Stamped c a
def Ir (l:List (Ky×γ×δ)):List Ky:=l.map (·.1)
def Qz (v:Vl γ δ)(l:List (Ky×γ×δ)):List Value:=l.map fun e=>v.V e.2.1
def Fits (m:Mp δ)(l:List (Ky×γ×δ)):Prop:=(l.map kx).Perm m/\PW m
def MS (v:Vl γ δ)(b:Nat)(m:Mp δ):HP:=Px (Fits (γ:=γ) m) fun l=>[Mb b (Ir l) (Qz v l),Sh v.q (l.map (·.2.1)) (l.map (·.2.2))]
theorem Fits.none{m:Mp δ}{l:List (Ky×γ×δ)}(h:Fits m l){key}(a:Es (Ir l) key=none):oz m key=none:=by
  rw[ML];rw[MK] at a;intro q;apply a;obtain⟨p,hp,rfl⟩:=ut.1 q;obtain⟨e,b,rfl⟩:=ut.1 (h.1.mem_iff.2 hp);exact ut.2 ⟨e,b,rfl⟩
theorem Fits.some{m:Mp δ}{l:List (Ky×γ×δ)}(h:Fits m l){key j}(d:Es (Ir l) key=some j):∃ e,l[j]?=some e/\e.1=key/\oz m key=some e.2.2:=by
  have a:=V9 d;unfold Ir at a;rw[A2r,A0M] at a;obtain⟨e,b,c⟩:=a;refine⟨e,b,c,yh h.2.nodup ?_⟩;rw[<- c];exact h.1.mem_iff.1 (ut.2 ⟨e,A40 b,rfl⟩)
theorem Fits.len{m:Mp δ}{l:List (Ky×γ×δ)}(h:Fits m l):(Ir l).length=m.length:=by
  have:=h.1.length_eq;simpa [Ir] using this
section
variable {F O:Nat->Prop}{w0 w w':World}{hs rest:List HP}
def Acc (F O:Nat->Prop)(w0 w:World)(v:Vl γ δ)(b:Nat)(m:Mp δ)(hs:List HP):Prop :=
  ∃ l:List (Ky×γ×δ),Fits m l/\MbF w b (Ir l) (Qz v l)/\∀ e ∈ l,Cx F O w0 w (Sh v.q [e.2.1] [e.2.2]::hs)
theorem mb_f{b ks vs S R}(h:(Mb b ks vs).p w S R):MbF w b ks vs:=⟨h.1,h.2.1⟩
theorem Cx.acc{v:Vl γ δ}{b}{m:Mp δ}(k:Cx F O w0 w (MS v b m::rest)):Acc F O w0 w v b m (MS v b m::rest):=by
  obtain⟨l,n,D⟩:=k.unpx;obtain⟨S,R,f⟩:=D.get 0 rfl;refine⟨l,n,mb_f f,fun e s=>?_⟩;refine k.dupw 0 rfl fun S R ⟨l',hf',hs'⟩=>?_;obtain⟨S1,R1,U1,V1,L,K,e3,J,_⟩:=Sep.cut (i:=0) rfl hs';obtain⟨S2,R2,U2,V2,g1,g2,g3,H,_⟩:=Sep.cut (i:=0) rfl K;obtain⟨_,I,d,C,B,A,_⟩:=mb_f f;obtain⟨_,es',clock',p,z,u,_⟩:=mb_f L;rw[C] at p;obtain⟨rfl,rfl⟩:I=es'/\d=clock':=by simpa using p
  obtain⟨j,E⟩:=List.getElem?_of_mem s;have a:(Ir l)[j]?=(Ir l')[j]?:=by
    have:(Ir l).map kV=(Ir l').map kV:=B.symm.trans z;have c:=A3s (fun x=>x[j]?) this;simp only[A2r] at c;cases ha:(Ir l)[j]? <;> cases f:(Ir l')[j]? <;> rw[ha,f] at c <;> simp at c <;> first | rfl | rw[V8 c]
  have g:(Qz v l)[j]?=(Qz v l')[j]?:=by rw[<- A,<-u]
  unfold Ir at a;unfold Qz at g;rw[A2r,A2r,E] at a g;cases hj':l'[j]? with
  | none=>rw[hj'] at a;cases a
  | some e' =>
    rw[hj'] at a g;simp only[A31,A2a] at a g;have hy:=v.inj _ _ g;have hx:e.2.2=e'.2.2:=by
      have o:=yh n.2.nodup (n.1.mem_iff.1 (ut.2 ⟨e,s,rfl⟩));have t:=yh hf'.2.nodup (hf'.1.mem_iff.1 (ut.2 ⟨e',A40 hj',rfl⟩));rw[a] at o;exact A2j (o.symm.trans t)
    refine⟨fun _ h=>h,rfl,fun r y x c G=>?_⟩;cases r with
    | succ r=>cases c
    | zero =>
      obtain rfl:=A2j c;obtain rfl:=A2j G;rw[hy,hx];refine v.q.mono _ _ _ _ _ (fun b f=>(J b).2 (.inr ((H b).2 (.inl f)))) (g1.2.2 j _ _ ?_ ?_)
      ·rw[A2r,hj'];rfl
      ·rw[A2r,hj'];rfl
theorem Cx.doms{v:Vl γ δ}{b}{m:Mp δ}(l:List (Ky×γ×δ))(a:Fits m l)(k:Cx F O w0 w (Mb b (Ir l) (Qz v l)::Sh v.q (l.map (·.2.1)) (l.map (·.2.2))::rest)):Cx F O w0 w (MS v b m::rest) :=
  Cx.dopx (φ:=Fits (γ:=γ) m) (l:=fun l=>[Mb b (Ir l) (Qz v l),Sh v.q (l.map (·.2.1)) (l.map (·.2.2))]) l a k
theorem Cx.ms_new{v:Vl γ δ}{b}(k:Cx F O w0 w (hs++[Mb b [] []])):Cx F O w0 w (MS v b []::hs):=by
  refine Cx.doms [] ⟨.refl _,PW.nil⟩ ?_;have a:Cx F O w0 w (Mb b [] []::hs):=k.perm (A0b (l₂:=[_]));exact(a.shz v.q).perm (.swap _ _ _)
end
section
variable {P:Program}{n:Nat}{ops:Array Oper}{L:St}{w w0:World}{F O:Nat->Prop}{hs rest:List HP}{K:St->World->Prop}{v:Vl γ δ}{b:Nat}{m:Mp δ}
theorem look_run{t kt e:TypeId}{key ks vs z}(hF:MbF w b ks vs)(s7:P.underlying t=some (.map kt e))(s8:P.underlying kt=some .string)(hz:(zeroValue e).run P w=.ok z w)(ok:Bool) :
    (Es ks key=none/\(Instr.lookup t (.map (some b)) (kV key) ok).run P w=.ok (if ok then .tuple #[z,.bool false] else z) w) ∨
    ∃ j val,Es ks key=some j/\vs[j]?=some val/\(Instr.lookup t (.map (some b)) (kV key) ok).run P w=.ok (if ok then .tuple #[val,.bool true] else val) w:=by
  obtain⟨hl,es,clock,m1,m2,m3,m4⟩:=hF;have hck:=run_checkKey (P:=P) (w:=w) s8 (show IsKey .string (kV key) from trivial) es.isEmpty 9999;rcases V_ (d:=.string) rfl (k:=key) m2 m4.2.2 with⟨f1,f2⟩ | ⟨j,en,f1,f2,f3,f4⟩
  ·refine .inl ⟨f1,?_⟩;unfold Instr.lookup;simp only[A2e,run_underlying s7,A2b,MapKept.run_getObj_map m1,A2d,hck,run_findKey s8 f2,hz]
  ·refine .inr ⟨j,en.val,f1,?_,?_⟩
   ·rw[<- m3,A2r,f3];rfl
   ·unfold Instr.lookup;simp only[A2e,run_underlying s7,A2b,MapKept.run_getObj_map m1,A2d,hck,run_findKey s8 f2]
theorem Op_lookF{c}{t kt e ty:TypeId}{x y f A g ok}{v:Vl α α}{m:Mp α}(W:v.q=SQ)(ss:A00)(d:Nat){key}(z:α)(sv:SV)(A28:(Ep ops ss L ⟨c,.lookup t x y ok,ty,f,A,g⟩,c,(decide (d < n)),(L.any fun p=>p.1 == d),(toSS [x,y] (lk L)).map SV.vals,P.underlying t,P.underlying kt)=(true,some d,true,false,some [.map (some b),kV key],some (.map kt e),some .string))(U:(zeroValue e).run P w=.ok (v.V z) w)(hA:Acc F O w0 w v b m hs)(i:SV.val sv=v.V ((oz m key).getD z))(h1:K ((d,if ok then .og [sv,.b (oz m key).isSome] else sv)::L) w) :
    Dv P n ops L w ⟨c,.lookup t x y ok,ty,f,A,g⟩ K:=by
  simp only[A2c,A0M,lm] at A28;obtain⟨N,rfl,M,J,⟨svs,I,H⟩,G,E⟩:=A28;refine DU (xs:=[x,y]) (svs:=svs) ss (d:=d) (by simp[Side,N,M,J,I]) fun a ha k=>?_;rw[H] at k;simp only[kw,A2q,A2u,A49] at k;obtain⟨l,u,hm,X⟩:=hA;have h:∃ val r,(Instr.lookup t (.map (some b)) (kV key) ok).run P w=.ok (if ok then .tuple #[val,.bool r] else val) w/\val=SV.val sv/\r=(oz m key).isSome:=by
    rcases look_run hm G E U ok (key:=key) with⟨f1,f2⟩ | ⟨j,val,f1,f2,f3⟩
    ·exact⟨v.V z,false,f2,by rw[i,u.none f1];rfl,by rw[u.none f1];rfl⟩
    ·obtain⟨o,D,e2,C⟩:=u.some f1;unfold Qz at f2;rw[A2r,D] at f2;obtain rfl:=A2j f2;have hk:=X o (A40 D);obtain⟨S,R,hh⟩:=hk.get 0 rfl;have B:=hh.2.2 0 _ _ rfl rfl;rw[W] at B;have s:o.2.1=o.2.2:=B;exact⟨v.V o.2.1,true,f3,by rw[i,C,s];rfl,by rw[C];rfl⟩
  obtain⟨val,r,T,r2,Q⟩:=h;unfold Oper.wp execOp;simp only[k.1,k.2,A2e,T,A2b,A2d];refine⟨if ok then .og [sv,.b (oz m key).isSome] else sv,?_,h1⟩;cases ok
  ·simp only[A0h,A3r,r2]
  ·simp only[if_true,r2,Q];rfl
theorem Op_mlenM{c x}{t kt e ty:TypeId}{f k g}(ss:A00)(d:Nat)(A28:(Ep ops ss L ⟨c,.call ⟨.builtin .len,#[x],#[t]⟩,ty,f,k,g⟩,c,(decide (d < n)),(L.any fun p=>p.1 == d),(toSS [x] (lk L)).map SV.vals,P.underlying t)=(true,some d,true,false,some [.map (some b)],some (.map kt e)))(D:Acc F O w0 w v b m hs)(B:K ((d,I (m.length:Int))::L) w) :
    Dv P n ops L w ⟨c,.call ⟨.builtin .len,#[x],#[t]⟩,ty,f,k,g⟩ K:=by
  simp only[A2c,A0M,lm] at A28;obtain⟨y,rfl,u,s,⟨svs,r,q⟩,o⟩:=A28;refine DU (xs:=[x]) (svs:=svs) ss (d:=d) (by simp[Side,y,u,s,r]) fun a ha j=>?_;rw[q] at j;simp only[kw,A2q,A2u,A49] at j;obtain⟨l,C,⟨hl,E,clock,A,z,m3,m4⟩,hq⟩:=D;have i:E.size=m.length:=by
    have:=A3s List.length z;rw[<- C.len];simpa using this
  have h:(Builtin.len_ #[t] ty #[.map (some b)]).run P w=.ok (.int .i64 (m.length:Int)) w:=by
    unfold Builtin.len_;simp[A2e,run_underlying o,A2b,MapKept.run_getObj_map A,goInt,i,Result.andThen]
  unfold Oper.wp execOp;simp only[resolve,invoke,builtin,A2e,A2d,A2b,A3o,kw,A2q,j,h];exact⟨_,rfl,B⟩
theorem Op_updS{t kt e ty:TypeId}{s y x p D g}(ss:A00){key}{u:γ}{a:δ}(A28:(Ep ops ss L (⟨none,.mapUpdate t s y x,ty,p,D,g⟩:Oper),(toSS [s,y,x] (lk L)).map SV.vals,P.underlying t,P.underlying kt)=(true,some [.map (some b),kV key,v.V u],some (.map kt e),some .string))(k:Cx F O w0 w (MS v b m::Sh v.q [u] [a]::rest))(hk:∀ w',Cx F O w0 w' (MS v b (Dw m key a)::rest)->K L w') :
    Dv P n ops L w ⟨none,.mapUpdate t s y x,ty,p,D,g⟩ K:=by
  obtain⟨l,f,W⟩:=k.unpx;refine Op_upd ss 0 (v.V u) A28 W rfl fun w' X=>hk w' ?_;have U:Cx F O w0 w' (Sh v.q (l.map (·.2.1)) (l.map (·.2.2))::Sh v.q [u] [a]::Mb b (Oi (Ir l) key) (Oj (Ir l) (Qz v l) key (v.V u))::rest):=by
    have h:Cx F O w0 w' (Mb b (Oi (Ir l) key) (Oj (Ir l) (Qz v l) key (v.V u))::Sh v.q (l.map (·.2.1)) (l.map (·.2.2))::Sh v.q [u] [a]::rest):=X;exact h.perm ((List.Perm.swap _ _ _).trans (.cons _ (.swap _ _ _)))
  have h:=U.sha;cases hfd:Es (Ir l) key with
  | none =>
    have z:key ∉ m.map (·.1):=by rw[<- ML];exact f.none hfd
    refine Cx.doms (l++[(key,u,a)]) ⟨?_,f.2.Dw key a⟩ ?_
    ·rw[A2g];exact(List.perm_append_comm.trans (A3f _ f.1)).trans (mins_perm a z).symm
    ·have C:Oi (Ir l) key=Ir (l++[(key,u,a)]):=by unfold Oi;rw[hfd];simp[Ir]
     have B:Oj (Ir l) (Qz v l) key (v.V u)=Qz v (l++[(key,u,a)]):=by unfold Oj;rw[hfd];simp[Qz]
     rw[C,B] at h;have e3:(l++[(key,u,a)]).map (·.2.1)=l.map (·.2.1)++[u]:=by simp
     have e4:(l++[(key,u,a)]).map (·.2.2)=l.map (·.2.2)++[a]:=by simp
     show Cx F O w0 w' (Mb b _ _::Sh v.q _ _::rest);rw[e3,e4];exact h.perm (.swap _ _ _)
  | some j =>
    obtain⟨o,r,H,f3⟩:=f.some hfd;have G:j < l.length:=(A0e.1 r).1;have hen:l[j]=o:=(A0e.1 r).2;refine Cx.doms (l.set j (key,u,a)) ⟨?_,f.2.Dw key a⟩ ?_
    ·obtain⟨J,I,g1,c⟩:=mins_set f.2 a (Yj f3);rw[c];have Q:((l.set j (key,u,a)).map kx).Perm ((key,a)::(l.eraseIdx j).map kx):=by
       have:=V6 (l:=l) (i:=j) (key,u,a) G;exact(this.symm.map kx)
     have N:(l.map kx).Perm ((key,o.2.2)::(l.eraseIdx j).map kx):=by
       have:=Oh r;refine(this.map kx).trans ?_;rw[kw,show kx o=(key,o.2.2) from by unfold kx;rw[H]]
     have M:((key,o.2.2)::(l.eraseIdx j).map kx).Perm ((key,o.2.2)::(J++I)):=by
       refine N.symm.trans (f.1.trans ?_);rw[g1];exact List.perm_middle
     exact Q.trans ((A3f _ (List.Perm.cons_inv M)).trans List.perm_middle.symm)
    ·have C:Oi (Ir l) key=Ir (l.set j (key,u,a)):=by
       unfold Oi;rw[hfd];unfold Ir;rw[List.map_set];apply List.ext_getElem?;intro q;rw[List.getElem?_set];by_cases E:j=q
       ·subst E;rw[A3p rfl,A2r,r];simp[H,G]
       ·rw[A3q E]
     have B:Oj (Ir l) (Qz v l) key (v.V u)=Qz v (l.set j (key,u,a)):=by unfold Oj;rw[hfd];simp[Qz]
     rw[C,B] at h;show Cx F O w0 w' (Mb b _ _::Sh v.q _ _::rest);have T:Cx F O w0 w' (Sh v.q ((l.set j (key,u,a)).map (·.2.1)) ((l.set j (key,u,a)).map (·.2.2))::Mb b (Ir (l.set j (key,u,a))) (Qz v (l.set j (key,u,a)))::rest):=by
       have:=h.weak (h':=Sh v.q ((l.set j (key,u,a)).map (·.2.1)) ((l.set j (key,u,a)).map (·.2.2))) 0 rfl fun w S R ⟨h0,h1,h2⟩=>by
         refine⟨h0,A2K,fun i y x g1 c=>?_⟩;rw[List.map_set,List.getElem?_set] at g1 c;split at g1
         ·rename_i d;rw[A3p d] at c;split at g1
          ·rename_i A;rw[A3p (by simpa using A)] at c;obtain rfl:=A2j g1;obtain rfl:=A2j c;exact h2 l.length _ _ (by rw[A3c A2K];simp) (by rw[A3c A2K];simp)
          ·cases g1
         ·rename_i d;rw[A3q d] at c;refine h2 i y x ?_ ?_
          ·rw[A3M (A0e.1 g1).1];exact g1
          ·rw[A3M (A0e.1 c).1];exact c
       simpa only [A0g] using this
     exact T.perm (.swap _ _ _)
theorem Vj{t kt e ty:TypeId}{d y x c f g}{v:Vl α α}{m:Mp α}(i:v.q=SQ)(ss:A00){key}(a:α)(A28:(Ep ops ss L (⟨none,.mapUpdate t d y x,ty,c,f,g⟩:Oper),(toSS [d,y,x] (lk L)).map SV.vals,P.underlying t,P.underlying kt)=(true,some [.map (some b),kV key,v.V a],some (.map kt e),some .string))(k:Cx F O w0 w (MS v b m::rest))(j:∀ w',Cx F O w0 w' (MS v b (Dw m key a)::rest)->K L w') :
    Dv P n ops L w ⟨none,.mapUpdate t d y x,ty,c,f,g⟩ K:=by
  have h:Cx F O w0 w (Sh v.q [a] [a]::MS v b m::rest):=by rw[i];exact k.shq a
  exact Op_updS ss A28 (h.perm (.swap _ _ _)) j
theorem Op_delM{x y}{t t2 kt e ty:TypeId}{d u g}(ss:A00){key}(A28:(Ep ops ss L (⟨none,.call ⟨.builtin .delete,#[x,y],#[t,t2]⟩,ty,d,u,g⟩:Oper),(toSS [x,y] (lk L)).map SV.vals,P.underlying t,P.underlying kt)=(true,some [.map (some b),kV key],some (.map kt e),some .string))(k:Cx F O w0 w (MS v b m::rest))(C:∀ w',Cx F O w0 w' (MS v b (Ol m key)::rest)->K L w') :
    Dv P n ops L w ⟨none,.call ⟨.builtin .delete,#[x,y],#[t,t2]⟩,ty,d,u,g⟩ K:=by
  obtain⟨l,c,A⟩:=k.unpx;refine Op_del ss 0 A28 A rfl fun w' B=>C w' ?_;have h:Cx F O w0 w' (Mb b (Qd (Ir l) key) (Qe (Ir l) (Qz v l) key)::Sh v.q (l.map (·.2.1)) (l.map (·.2.2))::rest):=B;cases hfd:Es (Ir l) key with
  | none =>
    have o:key ∉ m.map (·.1):=by rw[<- ML];exact c.none hfd
    rw[mdel_none o];refine Cx.doms l c ?_;have s:Qd (Ir l) key=Ir l:=by unfold Qd;rw[hfd]
    have r:Qe (Ir l) (Qz v l) key=Qz v l:=by unfold Qe;rw[hfd]
    rw[s,r] at h;exact h
  | some j =>
    obtain⟨p,G,E,D⟩:=c.some hfd;refine Cx.doms (l.eraseIdx j) ⟨?_,c.2.Ol key⟩ ?_
    ·have z:(l.map kx).Perm ((key,p.2.2)::(l.eraseIdx j).map kx):=by
       refine((Oh G).map kx).trans ?_;rw[kw,show kx p=(key,p.2.2) from by unfold kx;rw[E]]
     exact List.Perm.cons_inv ((z.symm.trans c.1).trans (mdel_perm (Yj D) c.2.nodup))
    ·have s:Qd (Ir l) key=Ir (l.eraseIdx j):=by unfold Qd;rw[hfd];unfold Ir;rw[F8]
     have r:Qe (Ir l) (Qz v l) key=Qz v (l.eraseIdx j):=by unfold Qe;rw[hfd];unfold Qz;rw[F8]
     rw[s,r] at h;have:=h.weak (h':=Sh v.q ((l.eraseIdx j).map (·.2.1)) ((l.eraseIdx j).map (·.2.2))) 1 rfl fun w S R ⟨h0,h1,h2⟩=>by
       refine⟨h0,A2K,fun i y x g1 f=>?_⟩;rw[F8,List.getElem?_eraseIdx] at g1 f;split at g1
       ·rename_i a;rw[A3p a] at f;exact h2 _ _ _ g1 f
       ·rename_i a;rw[A3q a] at f;exact h2 _ _ _ g1 f
     exact this
end
end
section
open Go.RowKit Go.MapKept
set_option linter.unusedSimpArgs false
set_option linter.unusedVariables false
variable {α β γ δ ε ζ σ ι:Type}
def MiG (sh:Bool)(b r:Nat)(ks:List Ky)(vs:List Value)(left:List Ky)(cur:Option Ky):HP where
  p w S R:=ks.length=vs.length/\(∃ (f:Array MapEntry) (c a h:Nat) (d:Array Nat),w.heap[b]?=some (.map f c)/\f.toList.map (·.key)=ks.map kV/\f.toList.map (·.val)=vs/\Stamped f c /\
    w.heap[r]?=some (.mapIter (some b) a d h)/\(∀ x ∈ f.toList,x.born < a)/\a<=h/\a<=c/\((leftOf f d).toList.map (·.key)).Perm (left.map kV) /\
    (∀ k,cur=some k->∃ e ∈ f.toList,e.key=kV k/\h=c/\∃ g:Array Nat,d=g.push e.born))/\(if sh=true then R b else S b)/\S r
  loc:=by
    rintro w w' S R ⟨u,⟨f,c,a,h,d,t,s,h3,q,o,n⟩,i,l⟩ j;have m:S b∨R b:=by cases sh;exact .inl i;exact .inr i
    exact⟨u,⟨f,c,a,h,d,by rw[j b m];exact t,s,h3,q,by rw[j r (.inl l)];exact o,n⟩,i,l⟩
section
variable {P:Program}{n:Nat}{ops:Array Oper}{L:St}{w w0:World}{F O:Nat->Prop}{hs rest:List HP}{K:St->World->Prop}
theorem Op_rangeG{s}{t kt e ty:TypeId}{x u G g}(ss:A00)(d i:Nat){b ks vs h}(sh:Bool)(A28:(Ep ops ss L ⟨s,.range t x,ty,u,G,g⟩,s,(decide (d < n)),(L.any fun p=>p.1 == d),(toSS [x] (lk L)).map SV.vals,P.underlying t)=(true,some d,true,false,some [.map (some b)],some (.map kt e)))(k:Cx F O w0 w hs)(H:hs[i]?=some h)(I:∀ S R,h.p w S R->MbF w b ks vs/\(if sh=true then R b else S b))(A:∀ r w',Cx F O w0 w' (hs.set i (MiG sh b r ks vs ks none))->K ((d,.v (.pointer (some ⟨r,0,none⟩)))::L) w') :
    Dv P n ops L w ⟨s,.range t x,ty,u,G,g⟩ K:=by
  simp only[A2c,A0M,lm] at A28;obtain⟨V,rfl,U,T,⟨svs,Q,N⟩,M⟩:=A28;refine DU (xs:=[x]) (svs:=svs) ss (d:=d) (by simp[Side,V,U,T,Q]) fun a ha' B=>?_;rw[N] at B;simp only[kw,A2q,A2u,A49] at B;obtain⟨S,R,hp⟩:=k.get i H;obtain⟨⟨hl,z,c,E,D,W,C⟩,J⟩:=I S R hp;have y:=run_range_map (P:=P) w t kt e b z c M E;unfold Oper.wp execOp;simp only[B,A2e,y,A2b,A2d];refine⟨.v (.pointer (some ⟨w.heap.size,0,none⟩)),rfl,A w.heap.size _ (k.upd i H none (World.grownBy_alloc w _ none) fun S R J hd f=>?_)⟩;obtain⟨_,l⟩:=I S R J;have m:b < w.heap.size:=by cases sh;exact f b (.inl l);exact f b (.inr l)
  refine⟨fun g hg=>(by cases hg),fun q=>S q∨q=w.heap.size,R,⟨hl,⟨z,c,c,c,#[],?_,D,W,C,(heap_alloc w _).1,C.1,A2f _,A2f _,?_,fun k A=>by cases A⟩,?_,.inr rfl⟩,fun q j=>?_,fun q j=>⟨?_,.inl j⟩⟩
  ·have j:∀ o:Obj,(w.alloc o).heap[b]?=w.heap[b]?:=fun o=>by first | exact heap_alloc_old w o m | exact heap_alloc_old w o b m
   rw[j];exact E
  ·unfold leftOf;have:z.filter (fun e=>!(#[]:Array Nat).contains e.born)=z:=Array.filter_eq_self.2 (fun x hx=>by simp);rw[this,D]
  ·cases sh
   ·exact .inl l
   ·exact l
  ·rcases j with j | rfl
   ·exact⟨by rw[World.size_alloc];have:=f q (.inl j);omega,hd q j,.inl j⟩
   ·exact⟨by rw[World.size_alloc];omega,fun X=>by have:=f _ (.inr X);omega,.inr (A2f _)⟩
  ·rw[World.size_alloc];have:=f q (.inr j);omega
theorem Op_nextG{dst}{ty:TypeId}{x pos kX g}(ss:A00)(d i:Nat){sh b r ks left vs cur}(A28:(Ep ops ss L ⟨dst,.next x false,ty,pos,kX,g⟩,dst,(decide (d < n)),(L.any fun p=>p.1 == d),(toSS [x] (lk L)).map SV.vals)=(true,some d,true,false,some [.pointer (some ⟨r,0,none⟩)]))(k:Cx F O w0 w hs)(hi:hs[i]?=some (MiG sh b r ks vs left cur))(h0:left=[]->K ((d,.og [.b false])::L) w)(h1:∀ key left' v w',left.Perm (key::left')->Cx F O w0 w' (hs.set i (MiG sh b r ks vs left' (some key)))->K ((d,.og [.b true,.s key,.v v])::L) w') :
    Dv P n ops L w ⟨dst,.next x false,ty,pos,kX,g⟩ K:=by
  simp only[A2c,A0M,lm] at A28;obtain⟨s1,rfl,s3,s4,⟨svs,s5,s6⟩⟩:=A28;refine DU (xs:=[x]) (svs:=svs) ss (d:=d) (by simp[Side,s1,s3,s4,s5]) fun a ha he=>?_;rw[s6] at he;simp only[kw,A2q,A2u,A49] at he;obtain⟨S,R,hl,⟨es,clock,since,c0,seen,m1,m2,m3,m4,m5,m6,m7,m7',m8,m9⟩,hS,hS2⟩:=k.get i hi;rcases run_next_at (P:=P) w ty r b since c0 seen es clock m5 m1 m6 m7 with⟨f1,hrun⟩ | ⟨e,f1,w1,f2,hrun⟩
  ·unfold Oper.wp execOp;simp only[he,A2e,hrun,A2b,A2d];refine⟨.og [.b false],rfl,h0 ?_⟩;have h2:=m8.length_eq;simp only[A0K,A3h,f1] at h2;exact A2y h2.symm
  ·obtain⟨g1,g2⟩:=mem_left f1;obtain⟨key,hk1,hk2⟩:=key_of m2 g1;have hp:=left_perm m4.2.1 f1;have hkl:kV key ∈ left.map kV:=m8.mem_iff.1 (by rw[<- hk2];exact ut.2 ⟨e,f1,rfl⟩);obtain⟨key',hk3,hk4⟩:=ut.1 hkl;obtain rfl:=V8 hk4;have hpl:=List.perm_cons_erase hk3;unfold Oper.wp execOp;simp only[he,A2e,hrun,A2b,A2d];rw[hk2];refine⟨.og [.b true,.s key',.v e.val],rfl,h1 key' (left.erase key') e.val _ hpl ?_⟩;have hr1:w1.heap[r]?=some (.mapIter (some b) since seen c0):=by rcases f2 with rfl | rfl <;> exact m5
   have hb1:w1.heap[b]?=some (.map es clock):=by rcases f2 with rfl | rfl <;> exact m1
   have hrb:r≠b:=fun h=>by rw[h,m1] at m5;cases m5
   have hgr:w.grownBy (ChangeMaps.setBlock w1 r (.mapIter (some b) since (seen.push e.born) clock)) (some r):=by
     rcases f2 with rfl | rfl
     ·exact⟨rfl,rfl,rfl,by simp[ChangeMaps.setBlock],fun q hq hne=>by
        simp only[ChangeMaps.setBlock];exact(heap_set hr1).2 q fun e=>hne (by rw[e])⟩
     ·exact⟨rfl,rfl,rfl,(by show w.heap.size<=(w.heap.setIfInBounds r _).size;simp),fun q hq hne=>(heap_set m5).2 q fun e=>hne (by rw[e])⟩
   refine k.upd i hi (some r) hgr fun S R hS hd hlt=>?_;obtain⟨hl,⟨es1,clock1,since1,c01,seen1,q1,q2,q3,q4,q5,q6,q7,q7',q8,q9⟩,hS,hS2⟩:=hS;rw[m1] at q1;simp only[A2a,Obj.map.injEq] at q1;obtain⟨rfl,rfl⟩:=q1;rw[m5] at q5;simp only[A2a,Obj.mapIter.injEq] at q5;obtain⟨_,rfl,rfl,rfl⟩:=q5;have hsz:(ChangeMaps.setBlock w1 r (.mapIter (some b) since (seen.push e.born) clock)).heap.size=w.heap.size:=by
     rcases f2 with h | h
     ·rw[h];simp only[ChangeMaps.setBlock,Array.size_setIfInBounds]
     ·rw[h];simp only[ChangeMaps.setBlock,Array.size_setIfInBounds];rfl
   refine⟨fun g' hg=>(by simp only[A2a] at hg;subst hg;exact hS2),S,R,⟨hl,⟨es,clock,since,clock,seen.push e.born,?_,q2,q3,q4,?_,q6,q7',q7',?_,fun k hk=>?_⟩,hS,hS2⟩,fun q hq=>⟨by rw[hsz];exact hlt q (.inl hq),hd q hq,.inl hq⟩,fun q hq=>⟨by rw[hsz];exact hlt q (.inr hq),.inl hq⟩⟩
   ·simp only[ChangeMaps.setBlock];rw[(heap_set hr1).2 b hrb.symm];exact hb1
   ·simp only[ChangeMaps.setBlock];exact(heap_set hr1).1
   ·have p1:=hp.map (·.key);simp only[kw,hk2] at p1;have p2:=hpl.map kV;simp only[kw] at p2;exact List.Perm.cons_inv ((p1.symm.trans q8).trans p2)
   ·obtain rfl:=A2j hk;exact⟨e,g1,hk2,rfl,seen,rfl⟩
theorem Op_entryG{l}{ty:TypeId}{x m t g}(ss:A00)(d i:Nat){sh b r ks left vs key}(A28:(Ep ops ss L ⟨l,.entry x,ty,m,t,g⟩,l,(decide (d < n)),(L.any fun p=>p.1 == d),(toSS [x] (lk L)).map SV.vals)=(true,some d,true,false,some [.pointer (some ⟨r,0,none⟩)]))(k:Cx F O w0 w hs)(Q:hs[i]?=some (MiG sh b r ks vs left (some key)))(c:∀ (j:Nat) v,ks[j]?=some key->vs[j]?=some v->K ((d,.og [.s key,.v v])::L) w) :
    Dv P n ops L w ⟨l,.entry x,ty,m,t,g⟩ K:=by
  simp only[A2c,A0M,lm] at A28;obtain⟨E,rfl,D,C,⟨svs,B,A⟩⟩:=A28;refine DU (xs:=[x]) (svs:=svs) ss (d:=d) (by simp[Side,E,D,C,B]) fun a ha q=>?_;rw[A] at q;simp only[kw,A2q,A2u,A49] at q;obtain⟨S,R,hl,⟨T,clock,f,U,seen,N,M,J,I,H,m6,m7,m7',m8,G⟩,hS,hS2⟩:=k.get i Q;obtain⟨e,z,y,rfl,h,rfl⟩:=G key rfl;have o:=run_entry_at (P:=P) w r b f h T U e H N z I.2.1;unfold Oper.wp execOp;simp only[q,A2e,o,A2b,A2d];rw[y];obtain⟨j,u⟩:=List.getElem?_of_mem z;refine⟨.og [.s key,.v e.val],rfl,c j e.val ?_ ?_⟩
  ·have c:=A3s (fun x=>x[j]?) M;simp only[A2r,u,A31,y] at c;cases hq:ks[j]? with
   | none=>rw[hq] at c;cases c
   | some k'=>rw[hq] at c;simp only[A31,A2a] at c;rw[V8 c]
  ·rw[<- J,A2r,u];rfl
end
structure Lft (m:Mp δ)(left:Mp δ)(cur:Option (Ky×δ))(l:List (Ky×γ×δ))(lks:List Ky):Prop where
  fits:Fits m l
  perm:lks.Perm (left.map (·.1))
  nd:(left.map (·.1)).Nodup
  sub:∀ p ∈ left,p ∈ m
  cur:∀ p,cur=some p->p ∈ m/\p.1 ∉ left.map (·.1)
def MV (v:Vl γ δ)(sh:Bool)(b r:Nat)(m left:Mp δ)(cur:Option (Ky×δ)):HP :=
  Px (fun l:List (Ky×γ×δ)×List Ky=>Lft m left cur l.1 l.2) fun l=>[MiG sh b r (Ir l.1) (Qz v l.1) l.2 (cur.map (·.1)),Sh v.q (l.1.map (·.2.1)) (l.1.map (·.2.2))]
section
variable {P:Program}{n:Nat}{ops:Array Oper}{L:St}{w w0:World}{F O:Nat->Prop}{hs rest:List HP}{K:St->World->Prop}{v:Vl γ δ}{b r:Nat}{m left:Mp δ}{cur:Option (Ky×δ)}{sh:Bool}
theorem Lft.start{l:List (Ky×γ×δ)}(h:Fits m l):Lft m m none l (Ir l) :=
  ⟨h,by
    have e:Ir l=(l.map kx).map (·.1):=by simp[Ir,kx,List.map_map,Function.comp_def]
    rw[e];exact h.1.map _,h.2.nodup,fun _ h=>h,fun _ h=>by cases h⟩
theorem Cx.doMV(l:List (Ky×γ×δ))(a:List Ky)(h:Lft m left cur l a)(k:Cx F O w0 w (MiG sh b r (Ir l) (Qz v l) a (cur.map (·.1))::Sh v.q (l.map (·.2.1)) (l.map (·.2.2))::rest)):Cx F O w0 w (MV v sh b r m left cur::rest) :=
  Cx.dopx (φ:=fun l:List (Ky×γ×δ)×List Ky=>Lft m left cur l.1 l.2) (l:=fun l=>[MiG sh b r (Ir l.1) (Qz v l.1) l.2 (cur.map (·.1)),Sh v.q (l.1.map (·.2.1)) (l.1.map (·.2.2))]) (l,a) h k
theorem Op_rangeM{a}{t kt e ty:TypeId}{x c f g}(ss:A00)(d:Nat)(A28:(Ep ops ss L ⟨a,.range t x,ty,c,f,g⟩,a,(decide (d < n)),(L.any fun p=>p.1 == d),(toSS [x] (lk L)).map SV.vals,P.underlying t)=(true,some d,true,false,some [.map (some b)],some (.map kt e)))(k:Cx F O w0 w (MS v b m::rest))(o:∀ r w',Cx F O w0 w' (MV v false b r m m none::rest)->K ((d,.v (.pointer (some ⟨r,0,none⟩)))::L) w') :
    Dv P n ops L w ⟨a,.range t x,ty,c,f,g⟩ K:=by
  obtain⟨l,q,i⟩:=k.unpx;refine Op_rangeG ss d 0 (ks:=Ir l) (vs:=Qz v l) false A28 i rfl (fun S R h=>⟨mb_f h,h.2.2⟩) fun r w' j=>o r w' ?_;exact Cx.doMV l (Ir l) (Lft.start q) j
theorem Op_nextM{i}{ty:TypeId}{x o C g}(ss:A00)(d:Nat)(A28:(Ep ops ss L ⟨i,.next x false,ty,o,C,g⟩,i,(decide (d < n)),(L.any fun p=>p.1 == d),(toSS [x] (lk L)).map SV.vals)=(true,some d,true,false,some [.pointer (some ⟨r,0,none⟩)]))(k:Cx F O w0 w (MV v sh b r m left cur::rest))(N:left=[]->Cx F O w0 w (MV v sh b r m left cur::rest)->K ((d,.og [.b false])::L) w)(M:∀ key a c val w',left.Perm ((key,a)::c)->(left.map (·.1)).Nodup->Cx F O w0 w' (MV v sh b r m c (some (key,a))::rest)->K ((d,.og [.b true,.s key,.v val])::L) w') :
    Dv P n ops L w ⟨i,.next x false,ty,o,C,g⟩ K:=by
  obtain⟨⟨l,z⟩,e,H⟩:=k.unpx;refine Op_nextG ss d 0 A28 H rfl (fun hl=>N ?_ k) fun key t val w' hp I=>?_
  ·have D:=e.perm.length_eq;rw[show z=[] from hl,A0L,A0K] at D;exact A2y D.symm
  ·have B:key ∈ left.map (·.1):=e.perm.mem_iff.1 (hp.mem_iff.2 A0R);obtain⟨p,y,u⟩:=ut.1 B;obtain⟨j,J⟩:=List.getElem?_of_mem y;have f:=Oh J;obtain⟨E,G⟩:=p;simp only at u;subst u;have h:=(f.map (·.1)).nodup_iff.1 e.nd;rw[kw,List.nodup_cons] at h;refine M E G (left.eraseIdx j) val w' f e.nd ?_;refine Cx.doMV l t ⟨e.fits,?_,h.2,fun q A=>e.sub q (List.mem_of_mem_eraseIdx A),fun q A=>?_⟩ I
   ·exact List.Perm.cons_inv ((hp.symm.trans e.perm).trans (f.map (·.1)))
   ·obtain rfl:=A2j A;exact⟨e.sub _ y,h.1⟩
theorem Op_entryM{i}{ty:TypeId}{x o E g}(ss:A00)(d:Nat){key}{a:δ}(A28:(Ep ops ss L ⟨i,.entry x,ty,o,E,g⟩,i,(decide (d < n)),(L.any fun p=>p.1 == d),(toSS [x] (lk L)).map SV.vals)=(true,some d,true,false,some [.pointer (some ⟨r,0,none⟩)]))(k:Cx F O w0 w (MV v sh b r m left (some (key,a))::rest))(Q:∀ u,Cx F O w0 w (Sh v.q [u] [a]::MV v sh b r m left (some (key,a))::rest)->K ((d,.og [.s key,.v (v.V u)])::L) w) :
    Dv P n ops L w ⟨i,.entry x,ty,o,E,g⟩ K:=by
  obtain⟨⟨l,c⟩,t,G⟩:=k.unpx;refine Op_entryG ss d 0 A28 G rfl fun j val C B=>?_;unfold Ir at C;unfold Qz at B;rw[A2r,A0M] at C B;obtain⟨e,A,z⟩:=C;obtain⟨e',f,rfl⟩:=B;simp only at A f z;rw[A] at f;obtain rfl:=A2j f;have N:e.2.2=a:=by
    have D:=yh t.fits.2.nodup (t.fits.1.mem_iff.1 (ut.2 ⟨e,A40 A,rfl⟩));have I:=yh t.fits.2.nodup (t.cur _ rfl).1;rw[z] at D;exact A2j (D.symm.trans I)
  refine Q e.2.1 ?_;have M:Cx F O w0 w (Sh v.q [e.2.1] [a]::(MiG sh b r (Ir l) (Qz v l) c ((some (key,a)).map (·.1))::Sh v.q (l.map (·.2.1)) (l.map (·.2.2))::rest)):=Cx.dup G 1 rfl fun w S R h=>by
    refine⟨fun _ h=>h,rfl,fun H y x g1 T=>?_⟩;cases H with
    | succ H=>cases g1
    | zero =>
      obtain rfl:=A2j g1;obtain rfl:=A2j T;exact h.2.2 j _ _ (by rw[A2r,A];rfl) (by rw[A2r,A,<-N];rfl)
  have J:Cx F O w0 w (MiG sh b r (Ir l) (Qz v l) c ((some (key,a)).map (·.1))::Sh v.q (l.map (·.2.1)) (l.map (·.2.2))::Sh v.q [e.2.1] [a]::rest):=M.perm ((List.Perm.swap _ _ _).trans (.cons _ (.swap _ _ _)));exact(Cx.doMV l c t J).perm (.swap _ _ _)
theorem Op_entryF{c}{ty:TypeId}{x f t g}{v:Vl α α}{m:Mp α}{left:Mp α}(G:v.q=SQ)(ss:A00)(d:Nat){key}{a:α}(sv:SV)(A28:(Ep ops ss L ⟨c,.entry x,ty,f,t,g⟩,c,(decide (d < n)),(L.any fun p=>p.1 == d),(toSS [x] (lk L)).map SV.vals)=(true,some d,true,false,some [.pointer (some ⟨r,0,none⟩)]))(k:Cx F O w0 w (MV v sh b r m left (some (key,a))::rest))(j:SV.val sv=v.V a)(I:K ((d,.og [.s key,sv])::L) w) :
    Dv P n ops L w ⟨c,.entry x,ty,f,t,g⟩ K:=by
  have i:Dv P n ops L w ⟨c,.entry x,ty,f,t,g⟩ fun L' w'=>L'=(d,.og [.s key,.v (v.V a)])::L/\w'=w:=by
    refine Op_entryM ss d A28 k fun u E=>?_;obtain⟨S,R,H⟩:=E.get 0 rfl;have A:=H.2.2 0 _ _ rfl rfl;rw[G] at A;have y:u=a:=A;rw[y];exact⟨rfl,rfl⟩
  intro ac z;obtain⟨D,C⟩:=i ac z;refine⟨D,Oper.wp_mono ?_ C⟩;rintro a' w' ⟨L',o,rfl,rfl⟩;refine⟨_,?_,I⟩;have e:(Kn ((d,.og [.s key,.v (v.V a)])::L)).map (fun e=>(e.k,e.g,e.x.val))=(Kn ((d,.og [.s key,sv])::L)).map (fun e=>(e.k,e.g,e.x.val)):=by
    simp[Kn,SV.val,SV.vals,j]
  refine⟨⟨o.defers,o.size,fun B h l=>?_⟩,fun B h g w l=>?_⟩
  ·simp only[Kn,kw,ul] at h;rcases h with rfl | h
   ·have:=o.at_ { k:=d,g:=none,x:=.og [.s key,.v (v.V a)] } (by simp[Kn]) l;simpa [SV.val,SV.vals,j] using this
   ·exact o.at_ B (by simp only[Kn,kw,ul];exact .inr h) l
  ·simp only[Kn,kw,ul,ut] at h;rcases h with rfl | ⟨p,_,rfl⟩ <;> cases l
theorem Cx.mxEnd(k:Cx F O w0 w (MV v false b r m left cur::rest)):Cx F O w0 w (MS v b m::rest):=by
  obtain⟨⟨l,lks⟩,i,g⟩:=k.unpx;refine Cx.doms l i.fits ?_;have:=g.weak (h':=Mb b (Ir l) (Qz v l)) 0 rfl fun w S R h=>by
    obtain⟨hl,⟨n,a,since,c0,seen,f,e,d,c,m5⟩,j,hS2⟩:=h;exact⟨hl,⟨n,a,f,e,d,c⟩,j⟩
  exact this
end
end
section
open Go.RowKit Go.MapKept
set_option linter.unusedSimpArgs false
set_option linter.unusedVariables false
variable {α β γ δ ε ζ σ ι:Type}
def Inj (E:Enc α):Prop:=∀ a b,E.f a=E.f b->a=b
theorem oC:Inj eI:=fun a b h=>by simpa [eI] using h
theorem oD:Inj eS:=fun a b h=>by simpa [eS] using h
theorem kF:Inj e64:=fun a b h=>by
  have c:[SV.val (.u64 a)]=[SV.val (.u64 b)]:=h;simp only[SV.val,A2u,Value.int.injEq,A49,true_and] at c;exact A2m.1 Y
theorem iK{E:Enc α}{F:Enc β}(g:Inj E)(e:Inj F):Inj (eP E F):=fun a b h=>by
  have h3:E.f a.1++F.f a.2=E.f b.1++F.f b.2:=h;obtain⟨d,c⟩:=List.append_inj h3 (by rw[E.len,E.len]);exact Prod.ext (g _ _ d) (e _ _ c)
section
variable {P:Program}{n:Nat}{ops:Array Oper}{L:St}{w w0:World}{F O:Nat->Prop}{hs rest:List HP}{K:St->World->Prop}{b:Nat}
theorem Py{a}{t kt e ty:TypeId}{x y c h g}{v:Vl α α}{m:Mp α}(j:v.q=SQ)(ss:A00)(d:Nat){key}(z:α)(sv:SV)(A28:(Ep ops ss L ⟨a,.lookup t x y true,ty,c,h,g⟩,a,(decide (d < n)),(L.any fun p=>p.1 == d),(toSS [x,y] (lk L)).map SV.vals,P.underlying t,P.underlying kt)=(true,some d,true,false,some [.map (some b),kV key],some (.map kt e),some .string))(i:(zeroValue e).run P w=.ok (v.V z) w)(k:Acc F O w0 w v b m hs)(f:SV.val sv=v.V ((oz m key).getD z))(l:K ((d,.og [sv,.b (oz m key).isSome])::L) w) :
    Dv P n ops L w ⟨a,.lookup t x y true,ty,c,h,g⟩ K:=Op_lookF (ok:=true) j ss d z sv A28 i k f l
theorem Yk{a}{t kt e ty:TypeId}{x y c h g}{v:Vl α α}{m:Mp α}(j:v.q=SQ)(ss:A00)(d:Nat){key}(z:α)(sv:SV)(A28:(Ep ops ss L ⟨a,.lookup t x y false,ty,c,h,g⟩,a,(decide (d < n)),(L.any fun p=>p.1 == d),(toSS [x,y] (lk L)).map SV.vals,P.underlying t,P.underlying kt)=(true,some d,true,false,some [.map (some b),kV key],some (.map kt e),some .string))(i:(zeroValue e).run P w=.ok (v.V z) w)(k:Acc F O w0 w v b m hs)(f:SV.val sv=v.V ((oz m key).getD z))(l:K ((d,sv)::L) w) :
    Dv P n ops L w ⟨a,.lookup t x y false,ty,c,h,g⟩ K:=Op_lookF (ok:=false) j ss d z sv A28 i k f l
end
section
variable {F O F1 O1:Nat->Prop}{w0 w w':World}{hs rest:List HP}{E:Enc α}
variable {A:EQ}{n c:Nat}{ys:List Hd}{xs:List (List α)}
end
end
section
variable {δ σ:Type}
end
section
open Go.RowKit Go.Proofs
set_option linter.unusedVariables false
variable {α γ δ:Type}
end
section
variable {α γ δ:Type}{F O:Nat->Prop}{w0 w:World}{hs:List HP}
end
section
open Go.RowKit Go.MapKept
set_option linter.unusedVariables false
set_option linter.unusedSimpArgs false
variable {α γ δ:Type}{F O:Nat->Prop}{w0 w:World}{hs rest:List HP}
end
section
open Go.RowKit Go.MapKept
set_option linter.unusedVariables false
set_option linter.unusedSimpArgs false
variable {P:Program}{n:Nat}{ops:Array Oper}{L:St}{w:World}{K:St->World->Prop}
end
section
variable {α β γ δ ε ζ:Type}
section
variable {F O:Nat->Prop}{w0 w w':World}{hs rest:List HP}{E:Enc γ}{q:Rl γ δ}{A:EQ}{n c:Nat}{ys:List γ}{xs:List δ}
end
end
section
def BP (T e:TypeId)(g:Nat)(xs:AC)(w:World)(S:Nat->Prop):Prop :=
  ∃ p v,(p=Value.pointer none∨p=Value.pointer (some ⟨g,0,none⟩))/\w.heap[g]?=some (.cells #[p,v] T (0,0))/\w.ownsRow 0 e 1 v xs.length (Lib.byteCells xs)/\v.ownBlock≠some g/\S g/\∀ h,v.ownBlock=some h->S h
def Bd (T e:TypeId)(g:Nat)(xs:AC):HP where
  p w S R:=BP T e g xs w S
  loc:=by
    rintro w w' S R ⟨p,v,hp,f,a,hne,c,d⟩ b;refine⟨p,v,hp,by rw[b g (.inl c)];exact f,⟨a.1,?_⟩,hne,c,d⟩;rcases a.2 with h | ⟨h,cap,cur,rfl,j,i,h3⟩
    ·exact .inl h
    ·exact .inr ⟨h,cap,cur,rfl,j,by rw[b h (.inl (d h rfl))];exact i,h3⟩
section
variable {P:Program}{n:Nat}{ops:Array Oper}{L:St}{w w0:World}{F O:Nat->Prop}{hs:List HP}{K:St->World->Prop}
theorem Op_allocB{c}{ty t:TypeId}{f m g}(e:TypeId)(ss:A00)(d:Nat)(A28:(Ep ops ss L ⟨c,.alloc t,ty,f,m,g⟩,c,(decide (d < n)),(L.any fun p=>p.1 == d),(zeroS P t).map SV.cl)=(true,some d,true,false,some [.pointer none,.slice none 0 0]))(k:Cx F O w0 w hs)(x:∀ b w',Cx F O w0 w' (hs++[Bd t e b []])->K ((d,.v (.pointer (some ⟨b,0,none⟩)))::L) w') :
    Dv P n ops L w ⟨c,.alloc t,ty,f,m,g⟩ K:=by
  simp only[A2c,lm,A0M] at A28;obtain⟨u,rfl,s,r,⟨cs',q,o⟩⟩:=A28;refine DU (xs:=[]) (svs:=[]) ss (d:=d) (by simp[Side,u,s,r,toSS]) fun a ha he=>?_;obtain⟨z,l,i⟩:=MH q w;rw[o] at i;have j:(Instr.alloc t true (.tuple #[])).run P w=.ok (.pointer (some ⟨w.heap.size,0,none⟩)) (w.alloc (.cells #[.pointer none,.slice none 0 0] t)):=by
    rw[show(#[Value.pointer none,Value.slice none 0 0]:Array Value)=z.cells from i.symm];simp only[Instr.alloc,A2e,l,A2b];rfl
  unfold Oper.wp execOp;simp only[A2e,j,A2b,A2d];exact⟨.v (.pointer (some ⟨w.heap.size,0,none⟩)),rfl,x w.heap.size _ (k.new _ (Bd t e w.heap.size []) ⟨_,_,.inl rfl,heap_alloc_new w _,World.ownsRow_nil _ _ _ _,by simp[Value.ownBlock],rfl,fun h y=>by cases y⟩)⟩
end
theorem app_str{P}{t u ty e:TypeId}(f:TF P t e [.int .u8 0] 1)(B:(P.info? e).map (fun i=>i.zero)=some (some (.int .u8 0)))(y:P.underlying u=some .string){w v xs}(a:w.ownsRow 0 e 1 v xs.length (Lib.byteCells xs))(s:AC)(J:xs.length+s.length<=140737488355328) :
    ∃ d w',(Builtin.append_ #[t,u] ty #[v,.string ⟨⟨s⟩⟩]).run P w=.ok d w'/\w'.ownsRow 0 e 1 d (xs++s).length (Lib.byteCells (xs++s))/\w.grownBy w' v.ownBlock/\∀ h,d.ownBlock=some h->v.ownBlock=some h∨w.heap.size<=h:=by
  obtain⟨i,z,C,h2,h3,M,L⟩:=f.parts;have k:i.zero=some (.int .u8 0):=by rw[C] at B;simpa using B
  obtain⟨d,w',n,r2,H,r4⟩:=Lib.run_append_own_string (P:=P) w 0 t u ty e i f.ht y C k M L v xs.length (Lib.byteCells xs) a ⟨⟨s⟩⟩ (by show xs.length+s.length<=maxLen;unfold maxLen;omega) J (A2p _);have m:∃ A c,v=.slice A xs.length c/\(Ow e8 A xs.length c xs).p w (fun b=>v.ownBlock=some b) (fun _=>False):=by
    rcases a.2 with⟨rfl,D⟩ | ⟨g,cap,cur,rfl,hb,K,x,r,q,o⟩
    ·exact⟨none,0,by rw[D],rfl,.inl ⟨rfl,D,rfl⟩⟩
    ·refine⟨some ⟨g,0,none⟩,cap,rfl,rfl,.inr ⟨g,e,cur,rfl,⟨(0,0),K,.inl rfl⟩,x,r,?_,?_,rfl⟩⟩
     ·rw[q];exact A2f _
     ·show cur.toList.take (xs.length*1)=_;rw[o,KT];rfl
  obtain⟨A,c,rfl,m⟩:=m;obtain⟨A',c',w2,j,⟨S',G,F⟩,s4⟩:=Qy (P:=P) (t:=t) (t2:=u) (e:=e) (ty:=ty) f (by rw[y]) (E:=e8) rfl m (Src.str s) rfl Y;rw[n] at j;simp only[A3a] at j;obtain⟨rfl,rfl⟩:=j;refine⟨_,_,n,?_,H,fun h l=>?_⟩
  ·rw[Pi,Lib.byteCells_append];exact r2
  ·rcases G.2 with⟨rfl,_⟩ | ⟨g,t',cur,rfl,x,r,q,o,q5,I⟩
   ·cases l
   ·simp only[Value.ownBlock,A2a] at l;subst l;exact(F _ I).2
theorem J7.way{P F F1 O w0 w hs}(h:J7 P F w0)(k:Cx F O w0 w hs)(e:∀ b,F1 b->F b∨w0.heap.size<=b):J7 P F1 w:=by
  obtain⟨a,g,d,f⟩:=h;refine⟨J7.cx ⟨a,g,d,f⟩ k,g,d,fun i=>(e g i).elim f fun c=>?_⟩;unfold Lib.TabIs World.var? at a;rw[d] at a;simp only[A0X] at a;rw[Array.getElem?_eq_none c] at a;cases a
end
section
variable {α:Type}
def Et (N:Nat)(xs:List α):Option (Vec α N):=if h:N<=xs.length then some ⟨xs.take N,by rw[A0T];omega⟩ else none
theorem Dx{N}{xs:List α}{v:Vec α N}(h:Et N xs=some v):N<=xs.length/\v.l=xs.take N:=by
  unfold Et at h;split at h
  ·simp only[A2a] at h;subst h;exact⟨by assumption,rfl⟩
  ·cases h
theorem Rd.Et{w A}{E:Enc α}{N}{xs:List α}{v:Vec α N}(h:Rd w A (E.all xs))(f:Et N xs=some v)(hN:0 < N*E.sz):∃ a,A=some a/\Rd w (some a) (SV.cl [SV.ar E v]):=by
  obtain⟨h1,i⟩:=Dx f;have hp:E.all v.l=(E.all xs).take (N*E.sz):=by rw[i,Enc.G6]
  have hl:(E.all v.l).length=N*E.sz:=by rw[Enc.g_,v.h]
  have hne:E.all xs≠[]:=fun e=>by
    rw[hp,e,List.take_nil,A0L] at hl;omega
  obtain⟨a,d⟩:=h.1 hne;refine⟨a,d,fun _=>⟨a,rfl⟩,fun b j u g c=>?_⟩;cases g;rw[cl_ar] at c;have c:((E.all xs).take (N*E.sz))[j]?=some u:=by rw[<- hp];exact c
  refine h.2 a j u d ?_;rw[List.getElem?_take] at c;split at c
  ·exact c
  ·cases c
section
variable {P:Program}{n:Nat}{ops:Array Oper}{L:St}{w:World}{K:St->World->Prop}
theorem Pz{b x}{t ty:TypeId}{f j g}(ss:A00)(d:Nat){A m c N}{e:TypeId}(A28:(Ep ops ss L ⟨b,.sliceToArrayPointer t x,ty,f,j,g⟩,b,(decide (d < n)),(L.any fun p=>p.1 == d),(toSS [x] (lk L)).map SV.vals,P.underlying t)=(true,some d,true,false,some [.slice A m c],some (.array N e)))(y:N<=m)(u:K ((d,.v (.pointer A))::L) w) :
    Dv P n ops L w ⟨b,.sliceToArrayPointer t x,ty,f,j,g⟩ K:=by
  simp only[A2c,A0M,lm] at A28;obtain⟨s,rfl,r,q,⟨svs,o,l⟩,k⟩:=A28;refine DU (xs:=[x]) (svs:=svs) ss (d:=d) (by simp[Side,s,r,q,o]) fun a ha i=>?_;rw[l] at i;simp only[kw,A2q,A2u,A49] at i;have h:(Instr.arrayAt t (.slice A m c)).run P w=.ok (.pointer A) w:=by
    unfold Instr.arrayAt;have z:¬ m < N:=Y
    simp[run_underlying k,z,y]
  unfold Oper.wp execOp;simp only[i,A2e,h,A2b,A2d];exact⟨.v (.pointer A),rfl,u⟩
end
theorem Rd.elA{w A p}{E:Enc α}{m}{xs:List (Vec α m)}{i}{x:Vec α m}(h:Rd w A ((eV E m).all xs))(b:aP xs i=some x)(hp:Pt A (i.toNat*(eV E m).sz) p)(hm:0 < (eV E m).sz):Rd w p (E.all x.l):=by
  obtain⟨a,rfl,c⟩:=Rd.elV h b (by rwa [A3S]) hm
  rwa [cl_ar] at c
theorem Rd.TL{w A p}{E:Enc α}{m z}{xs:List (Vec α m)}{i}{x:Vec α m}(a:(eV E m).sz=z)(h:Rd w A ((eV E m).all xs))(b:aP xs i=some x)(hp:Pt A (i.toNat*z+0) p)(hm:0 < z):Rd w p (E.all x.l):=by
  subst a;exact h.elA b (by rwa [A3S] at hp) hm
theorem Rq{E:Enc α}{m}(v x:Vec α m):(eV E m).f v=pat ((eV E m).f x) 0 (SV.cl [SV.ar E v]):=by
  have h1:((eV E m).f v).length=m*E.sz:=(eV E m).len v;have h2:((eV E m).f x).length=m*E.sz:=(eV E m).len x;rw[cl_ar,pat,List.take_zero,A37,A3T Y,A2n]
theorem lin_eq {hd:List Hd}{i:Int}{B e:EQ}{n b c d:Nat}(h:aP hd i=some (B,n,c))(a:aP hd i=some (e,b,d)):b=n/\d=c:=by
  rw[h] at a;simp only[A2a,A2c] at a;exact⟨a.2.1.symm,a.2.2.symm⟩
theorem sep_nils {E:Enc α}{w:World}:∀ m:Nat,Sep w (rows E (List.replicate m ((Option.none,0,0):Hd)) (List.replicate m [])) (fun _=>False) (fun _=>False)
  | 0=>⟨fun _ h=>h,fun _ h=>h⟩
  | m+1=>by
    rw[List.replicate_succ,List.replicate_succ];exact⟨fun _=>False,fun _=>False,fun _=>False,fun _=>False,⟨rfl,.inl ⟨rfl,rfl,rfl⟩⟩,sep_nils m,A2K,A2K,A2K,A2K⟩
theorem Cx.mk2nil{F O w0 w hs A n c m}(E:Enc α)(k:Cx F O w0 w (hs++[Ow eH A n c (List.replicate m ((Option.none,0,0):Hd))])) :
    Cx F O w0 w (hs++[O2 E A n c (List.replicate m ((Option.none,0,0):Hd)) (List.replicate m [])]):=by
  have h:=k.upd (h':=O2 E A n c (List.replicate m ((Option.none,0,0):Hd)) (List.replicate m [])) hs.length A2K Option.none (w':=w) ⟨rfl,rfl,rfl,A2f _,fun _ _ _=>rfl⟩ (fun S R h hd d=>⟨fun g e=>(by cases e),S,R,
    ⟨A2K,S,R,fun _=>False,fun _=>False,h,sep_nils m,A2K,A2K,fun b a=>⟨fun q=>q,hd b a,fun q=>q⟩,A2K⟩,fun b a=>⟨d b (.inl a),hd b a,.inl a⟩,fun b a=>⟨d b (.inr a),.inl a⟩⟩)
  simpa using h
end
end Go.Sx
