import Derived.Test.YtpmdigdlcejkaaaGreatDoorK9
namespace Go.Sx
open Go.RowKit
set_option linter.unusedVariables false
set_option linter.unusedSimpArgs false
section
noncomputable def H0 (A1y:AC)(l c:Nat):AC:=IP 1024 ((([]++A1y)++S4 c)++S4 l)
noncomputable def Iq (A1y:AC):Mem:=fun l c=>if c < 2 then H0 A1y l c else zb 1024
theorem H0_len(A1y:AC)(hs:A1y.length=64)(l c:Nat):(H0 A1y l c).length=1024:=YI 1024 Y Y _ (by simp[Gw,hs])
theorem mem0_len(A1y:AC)(hs:A1y.length=64)(l c:Nat):(Iq A1y l c).length=1024:=by
  unfold Iq;split
  ·exact H0_len A1y hs l c
  ·exact Bf _
theorem upd_same(m:Mem)(l c:Nat):upd m l c (m l c)=m:=by
  funext a d;unfold upd;split
  ·rename_i h;rw[h.1,h.2]
  ·rfl
theorem NS.push{L C m a}(h:NS L C m a){row}(b:row.length=C/\∀ c,c < C->∃ v,row[c]?=some v/\v.l=a L c):NS (L+1) C (m++[row]) a:=by
  refine⟨by rw[Pi,h.1];rfl,fun l hl=>?_⟩;by_cases e:l=L
  ·subst e;exact⟨row,by rw[A3c (Nat.le_of_eq h.1),h.1];simp,b.1,b.2⟩
  ·obtain⟨r,f,d⟩:=h.2 l Y;exact⟨r,by rw[A3M (by have:=h.1;omega)];exact f,d⟩
section
variable (K M P L T:Nat)(hm:wZ K M P L T)(A1y:AC)(hs:A1y.length=64)
include hm hs in
theorem wbeg1 (m:List (List (Vec UInt8 1024)))(l:Nat)(hl:l < L)(hM:NS l (4*fK M L) m (Iq A1y)) :
    ∃ m',aT (uh A1y m (l:Int)) (List.replicate (4*fK M L) (Vec.rep 1024 (0:UInt8)),0)=some (.inl (m',((l+1:Nat):Int)))/\NS (l+1) (4*fK M L) m' (Iq A1y):=by
  have hb:=rY K M P L T hm;obtain⟨_,hL1,hL2,_⟩:=qO K M P L T hm;have hin:∀ c:Nat,c < 2->((([]++A1y)++S4 c)++S4 l).length<=11000000:=fun c _=>by simp[Gw,hs]
  obtain⟨v0,t0,u0⟩:=J4 (H0_len A1y hs l 0);obtain⟨v1,t1,u1⟩:=J4 (H0_len A1y hs l 1);have st:∀ (row:List (Vec UInt8 1024)) (c:Nat) (v:Vec UInt8 1024),c < 2->c < row.length->Et 1024 (H0 A1y l c)=some v->uh A1y m (l:Int) (row,(c:Int))=some (.inl (row.set c v,((c+1:Nat):Int))):=by
    intro row c v hc hcl ht;unfold uh;simp only[];rw[if_pos Y,iG A2L];simp only[A0X];rw[Va _ A2L c Y];simp only[A0X];rw[Va _ (by simp[Gw];omega) l Y];simp only[A0X];rw[show(1024:Int)=((1024:Nat):Int) from rfl,wHash 1024 Y Y _ (hin c hc)];simp only[A0X];unfold H0 at ht;rw[ht];simp only[A0X];rw[fG hcl];simp only[A0X];rw[dh c Y,ww]
  have s0:=st (List.replicate (4*fK M L) (Vec.rep 1024 (0:UInt8))) 0 v0 Y A2L t0;have s1:=st ((List.replicate (4*fK M L) (Vec.rep 1024 (0:UInt8))).set 0 v0) 1 v1 Y A2L t1;refine⟨m++[((List.replicate (4*fK M L) (Vec.rep 1024 (0:UInt8))).set 0 v0).set 1 v1],?_,hM.push ⟨A2K,fun c hc=>?_⟩⟩
  ·rw[show(0:Int)=((0:Nat):Int) from rfl,iJ s0,iJ s1];refine dm ?_;unfold uh;simp only[];rw[if_neg Y,iG (by rw[hM.1];simp;omega)];simp only[A0X];rw[dh l Y];rfl
  ·unfold Iq
   match c,hc with
   | 0,_=>exact⟨v0,by rw[List.getElem?_set_ne Y,List.getElem?_set_self A2L],by rw[if_pos Y];exact u0⟩
   | 1,_=>exact⟨v1,by rw[List.getElem?_set_self A2L],by rw[if_pos Y];exact u1⟩
   | c+2,hc=>exact⟨Vec.rep 1024 (0:UInt8),by rw[List.getElem?_set_ne Y,List.getElem?_set_ne Y,List.getElem?_replicate,if_pos Y],by rw[if_neg Y];rfl⟩
include hm hs in
theorem wbegin:∃ m,CP K M P L T A1y=some ((K:Int),(M:Int),(P:Int),(L:Int),(T:Int),m)/\NS L (4*fK M L) m (Iq A1y):=by
  have hb:=rY K M P L T hm;obtain⟨_,hL1,hL2,_⟩:=qO K M P L T hm;unfold CP;obtain⟨r,d,m,rfl,c⟩:=ql (f:=xJ K M P L T A1y) (fun i s=>∃ m,s=(m,(i:Int))/\i<=L/\NS i (4*fK M L) m (Iq A1y)) (fun r=>∃ m,r=((K:Int),(M:Int),(P:Int),(L:Int),(T:Int),m)/\NS L (4*fK M L) m (Iq A1y)) L (by
    rintro l s ⟨m,rfl,hx,b⟩;by_cases a:l < L
    ·refine .inl ⟨a,?_⟩;unfold xJ;simp only[];rw[A3p Y,wcol K M P L T hm];simp only[A0X];rw[ig (by rw[ww];omega)];simp only[A0X];rw[ww];obtain⟨m',g,e⟩:=wbeg1 K M P L T hm A1y hs m l a b;exact⟨_,g,m',rfl,Y,e⟩
    ·right;obtain rfl:l=L:=by omega
     unfold xJ;simp only[];rw[A3q Y];exact⟨_,rfl,m,rfl,b⟩) _ ⟨[],rfl,A2p _,rfl,fun l hl=>by omega⟩
  exact⟨m,d,c⟩
def QX (A1s A1t:Nat)(a:Mem):Mem:=(List.range L).foldl (fun a A1u=>KR K M P L A1s A1t A1u a) a
def XJ (A1s:Nat)(a:Mem):Mem:=(List.range 4).foldl (fun a A1t=>QX K M P L A1s A1t a) a
def allM (a:Mem):Mem:=(List.range P).foldl (fun a A1s=>XJ K M P L A1s a) a
include hm in
theorem wturn(A1s A1t:Nat)(h3:A1t<=3)(m:List (List (Vec UInt8 1024)))(a:Mem)(g:NS L (4*fK M L) m a) :
    ∃ m',Az L K M P L T m A1s A1t=some ((K:Int),(M:Int),(P:Int),(L:Int),(T:Int),m',(A1s:Int),(A1t:Int))/\NS L (4*fK M L) m' (QX K M P L A1s A1t a):=by
  obtain⟨_,hL1,hL2,_⟩:=qO K M P L T hm;unfold Az;obtain⟨r,j,m',rfl,h⟩:=ql (f:=wH L) (fun i s=>∃ m',s=((K:Int),(M:Int),(P:Int),(L:Int),(T:Int),m',(A1s:Int),(A1t:Int),(i:Int))/\i<=L/\NS L (4*fK M L) m' ((List.range i).foldl (fun a A1u=>KR K M P L A1s A1t A1u a) a)) (fun r=>∃ m',r=((K:Int),(M:Int),(P:Int),(L:Int),(T:Int),m',(A1s:Int),(A1t:Int))/\NS L (4*fK M L) m' (QX K M P L A1s A1t a)) L (by
    rintro l s ⟨d,rfl,hx,c⟩;by_cases b:l < L
    ·refine .inl ⟨b,?_⟩;obtain⟨e,n,k⟩:=wfill K M P L T hm A1s A1t l h3 b d _ c;unfold wH;simp only[];rw[A3p Y];unfold wG;rw[n];simp only[A0X];rw[dh l Y];exact⟨_,rfl,e,rfl,Y,by rw[fold_succ];exact k⟩
    ·right;obtain rfl:l=L:=by omega
     unfold wH;simp only[];rw[A3q Y];exact⟨_,rfl,d,rfl,c⟩) _ ⟨m,rfl,A2p _,g⟩
  exact⟨m',j,h⟩
include hm in
theorem wpass(A1s:Nat)(hp:A1s < 100)(m:List (List (Vec UInt8 1024)))(a:Mem)(g:NS L (4*fK M L) m a) :
    ∃ m',aT (nS (A1s:Int)) ((K:Int),(M:Int),(P:Int),(L:Int),(T:Int),m,(A1s:Int),0)=some (.inl ((K:Int),(M:Int),(P:Int),(L:Int),(T:Int),m',((A1s+1:Nat):Int)))/\NS L (4*fK M L) m' (XJ K M P L A1s a):=by
  obtain⟨r,j,m',rfl,h⟩:=ql (f:=nS (A1s:Int)) (fun i s=>∃ m',s=((K:Int),(M:Int),(P:Int),(L:Int),(T:Int),m',(A1s:Int),(i:Int))/\i<=4/\NS L (4*fK M L) m' ((List.range i).foldl (fun a A1t=>QX K M P L A1s A1t a) a)) (fun r=>∃ m',r=.inl ((K:Int),(M:Int),(P:Int),(L:Int),(T:Int),m',((A1s+1:Nat):Int))/\NS L (4*fK M L) m' (XJ K M P L A1s a)) 4 (by
    rintro l s ⟨d,rfl,hx,b⟩;by_cases c:l < 4
    ·refine .inl ⟨c,?_⟩;obtain⟨e,n,k⟩:=wturn K M P L T hm A1s l Y d _ b;unfold nS;simp only[];rw[A3p Y,n];simp only[A0X];rw[dh l Y];exact⟨_,rfl,e,rfl,Y,by rw[fold_succ];exact k⟩
    ·right;obtain rfl:l=4:=by omega
     unfold nS;simp only[];rw[A3q Y,dh A1s Y];exact⟨_,rfl,d,rfl,b⟩) _ ⟨m,rfl,A2p _,g⟩
  exact⟨m',j,h⟩
include hm in
theorem wall(m:List (List (Vec UInt8 1024)))(a:Mem)(g:NS L (4*fK M L) m a) :
    ∃ m',uC K M P L T m=some ((K:Int),(M:Int),(P:Int),(L:Int),(T:Int),m')/\NS L (4*fK M L) m' (allM K M P L a):=by
  obtain⟨_,_,_,_,hP,_⟩:=qO K M P L T hm;unfold uC;obtain⟨r,j,m',rfl,h⟩:=ql (f:=qh (P:Int)) (fun i s=>∃ m',s=((K:Int),(M:Int),(P:Int),(L:Int),(T:Int),m',(i:Int))/\i<=P/\NS L (4*fK M L) m' ((List.range i).foldl (fun a A1s=>XJ K M P L A1s a) a)) (fun r=>∃ m',r=((K:Int),(M:Int),(P:Int),(L:Int),(T:Int),m')/\NS L (4*fK M L) m' (allM K M P L a)) P (by
    rintro l s ⟨d,rfl,hx,b⟩;by_cases c:l < P
    ·refine .inl ⟨c,?_⟩;obtain⟨e,n,k⟩:=wpass K M P L T hm l Y d _ b;unfold qh;simp only[];rw[A3p Y];exact⟨_,n,e,rfl,Y,by rw[fold_succ];exact k⟩
    ·right;obtain rfl:l=P:=by omega
     unfold qh;simp only[];rw[A3q Y];exact⟨_,rfl,d,rfl,b⟩) _ ⟨m,rfl,A2p _,g⟩
  exact⟨m',j,h⟩
def X9 (a:Mem)(n:Nat):AC:=(List.range n).foldl (fun x l=>B_ x (a l (4*fK M L - 1))) (zb 1024)
theorem XK(a:Mem)(hl:∀ l,l < L->(a l (4*fK M L - 1)).length=1024):∀ n,n<=L->(X9 M L a n).length=1024:=by
  intro n
  induction n with
  | zero=>intro _;exact Bf _
  | succ n ih =>
    intro h;unfold X9;rw[fold_succ];exact Be (ih Y) (hl n Y)
include hm in
theorem wtag(m:List (List (Vec UInt8 1024)))(a:Mem)(d:NS L (4*fK M L) m a):uD K M P L T m=some (IP T (X9 M L a L),(K:Int),(M:Int),(P:Int),(L:Int),(T:Int),m):=by
  have hb:=rY K M P L T hm;obtain⟨_,hL1,hL2,_,_,hT1,hT2,_⟩:=qO K M P L T hm;have c:=XK M L a fun l hl=>d.len hl (show 4*fK M L - 1 < 4*fK M L from by omega);unfold uD;refine ng (fun i s=>∃ v:Vec UInt8 1024,s=(v,(i:Int))/\i<=L/\v.l=X9 M L a i) _ L _ ⟨Vec.rep 1024 0,rfl,A2p _,rfl⟩ ?_;rintro l s ⟨x,rfl,hx,hxl⟩;by_cases b:l < L
  ·refine .inl ⟨b,?_⟩;obtain⟨row,g1,k,j⟩:=d.get b;obtain⟨v,g,f⟩:=j (4*fK M L - 1) Y;unfold uT;simp only[];rw[A3p (by rw[d.1];omega),g1];simp only[A0X];rw[k,bG Y,show((4*fK M L:Nat):Int) - 1=((4*fK M L - 1:Nat):Int) from by omega,g];simp only[A0X];rw[wXor _ _ x.h v.h];simp only[A0X];obtain⟨u,e,t2⟩:=J4 (Be x.h v.h);rw[e];simp only[A0X];rw[dh l Y];refine⟨_,rfl,u,rfl,Y,?_⟩;rw[t2,hxl,f];unfold X9;rw[fold_succ]
  ·right;obtain rfl:l=L:=by omega
   unfold uT;simp only[];rw[A3q (by rw[d.1];omega),hxl,wHash T Y Y _ (by rw[c l Y];omega)];rfl
end
end
section
def FdB (A1u k l c:Nat):Prop:=(l < A1u/\c < 2)∨(l=A1u/\c < k)
section
variable (K M P L T:Nat)(hm:wZ K M P L T)(A1y:AC)(hs:A1y.length=64)
include hm hs in
theorem rbeg1 (f:A02)(l:Nat)(hl:l < L)(hM:Mc L (4*fK M L) f (Iq A1y) (FdB l 0)) :
    ∃ f',aT (zG A1y (((4*fK M L:Nat):Int),0) (l:Int)) (f,0)=some (.inl (f',((l+1:Nat):Int)))/\Mc L (4*fK M L) f' (Iq A1y) (FdB (l+1) 0):=by
  have hb:=rY K M P L T hm;obtain⟨_,hL1,hL2,_⟩:=qO K M P L T hm;have hin:∀ c:Nat,c < 2->((([]++A1y)++S4 c)++S4 l).length<=11000000:=fun c _=>by simp[Gw,hs]
  obtain⟨r,h1,f',rfl,h2⟩:=ql (f:=zG A1y (((4*fK M L:Nat):Int),0) (l:Int)) (fun i s=>∃ f',s=(f',(i:Int))/\i<=2/\Mc L (4*fK M L) f' (Iq A1y) (FdB l i)) (fun r=>∃ f',r=.inl (f',((l+1:Nat):Int))/\Mc L (4*fK M L) f' (Iq A1y) (FdB (l+1) 0)) 2 (by
    rintro c s ⟨f1,rfl,hx,hM1⟩;by_cases hlt:c < 2
    ·refine .inl ⟨hlt,?_⟩;unfold zG;simp only[];rw[if_pos Y,iG A2L];simp only[A0X];rw[XD c Y];simp only[A0X];rw[iG (by simp[Gw];omega)];simp only[A0X];rw[XD l Y];simp only[A0X];rw[iG (by simp[Gw];omega)];simp only[A0X];rw[show(1024:Int)=((1024:Nat):Int) from rfl,rHash 1024 Y Y _ (hin c hlt)];simp only[A0X];rw[Mc.idx hl (show c < 4*fK M L from by omega) hb.2.2 _ rfl,fG (by rw[hM1.1];exact XH hl Y)];simp only[A0X];rw[dh c Y,ww];refine⟨_,rfl,_,rfl,Y,?_⟩;have e:IP 1024 ((([]++A1y)++S4 c)++S4 l)=Iq A1y l c:=by unfold Iq;rw[if_pos hlt];rfl
     have h:=hM1.set (Fe:=FdB l (c+1)) hl (show c < 4*fK M L from by omega) (mem0_len A1y hs l c) fun a d h=>by unfold FdB at h ⊢;omega
     rw[upd_same] at h;rw[e];exact h
    ·right;obtain rfl:c=2:=by omega
     unfold zG;simp only[];rw[if_neg Y,dh l Y];exact⟨_,rfl,f1,rfl,hM1.mono fun a _ d _ h=>by unfold FdB at h ⊢;omega⟩) _ ⟨f,rfl,Nat.zero_le _,hM⟩
  exact⟨f',h1,h2⟩
include hm in
theorem rslice(A1s A1t:Nat)(hp:A1s < P)(h3:A1t<=3)(f:A02)(b:Mem)(k:Mc L (4*fK M L) f b (Q5 (fK M L) A1s A1t 0 0)) :
    ∃ c,aT (zH K M P L T (((4*fK M L:Nat):Int),0) (A1s:Int) (A1t:Int)) (f,0)=some (.inl (c,((A1t+1:Nat):Int)))/\Mc L (4*fK M L) c (QX K M P L A1s A1t b) (Q5 (fK M L) A1s (A1t+1) 0 0):=by
  obtain⟨_,hL1,hL2,_⟩:=qO K M P L T hm;obtain⟨r,n,c,rfl,m⟩:=ql (f:=zH K M P L T (((4*fK M L:Nat):Int),0) (A1s:Int) (A1t:Int)) (fun i s=>∃ c,s=(c,(i:Int))/\i<=L/\Mc L (4*fK M L) c ((List.range i).foldl (fun b A1u=>KR K M P L A1s A1t A1u b) b) (Q5 (fK M L) A1s A1t i 0)) (fun r=>∃ c,r=.inl (c,((A1t+1:Nat):Int))/\Mc L (4*fK M L) c (QX K M P L A1s A1t b) (Q5 (fK M L) A1s (A1t+1) 0 0)) L (by
    rintro l s ⟨j,rfl,hx,g⟩;by_cases e:l < L
    ·refine .inl ⟨e,?_⟩;obtain⟨o,q,p⟩:=rfill K M P L T hm A1s A1t l hp h3 e j _ g;unfold zH;simp only[];rw[A3p Y,q];simp only[A0X];rw[dh l Y];refine⟨_,rfl,o,rfl,Y,?_⟩;rw[fold_succ];exact p.mono fun a _ d _ h=>by unfold Q5 at h ⊢;omega
    ·right;obtain rfl:l=L:=by omega
     unfold zH;simp only[];rw[A3q Y,dh A1t Y];refine⟨_,rfl,j,rfl,g.mono fun a ha d _ h=>?_⟩;unfold Q5 at h ⊢;rw[Nat.succ_mul] at h;omega) _ ⟨f,rfl,A2p _,k⟩
  exact⟨c,n,m⟩
include hm in
theorem rpass(A1s:Nat)(hp:A1s < P)(f:A02)(b:Mem)(k:Mc L (4*fK M L) f b (Q5 (fK M L) A1s 0 0 0)) :
    ∃ c,aT (zI K M P L T (((4*fK M L:Nat):Int),0) (A1s:Int)) (f,0)=some (.inl (c,((A1s+1:Nat):Int)))/\Mc L (4*fK M L) c (XJ K M P L A1s b) (Q5 (fK M L) (A1s+1) 0 0 0):=by
  obtain⟨_,_,_,_,hP,_⟩:=qO K M P L T hm;obtain⟨r,n,c,rfl,m⟩:=ql (f:=zI K M P L T (((4*fK M L:Nat):Int),0) (A1s:Int)) (fun i s=>∃ c,s=(c,(i:Int))/\i<=4/\Mc L (4*fK M L) c ((List.range i).foldl (fun b A1t=>QX K M P L A1s A1t b) b) (Q5 (fK M L) A1s i 0 0)) (fun r=>∃ c,r=.inl (c,((A1s+1:Nat):Int))/\Mc L (4*fK M L) c (XJ K M P L A1s b) (Q5 (fK M L) (A1s+1) 0 0 0)) 4 (by
    rintro l s ⟨j,rfl,hx,e⟩;by_cases g:l < 4
    ·refine .inl ⟨g,?_⟩;obtain⟨o,q,p⟩:=rslice K M P L T hm A1s l hp Y j _ e;unfold zI;simp only[];rw[A3p Y];exact⟨_,q,o,rfl,Y,by rw[fold_succ];exact p⟩
    ·right;obtain rfl:l=4:=by omega
     unfold zI;simp only[];rw[A3q Y,dh A1s Y];refine⟨_,rfl,j,rfl,e.mono fun a ha d hd h=>?_⟩;unfold Q5;omega) _ ⟨f,rfl,A2p _,k⟩
  exact⟨c,n,m⟩
include hm hs in
theorem rFillA:∃ f,JH K M P L T A1y=some (f,0)/\Mc L (4*fK M L) f (allM K M P L (Iq A1y)) (fun _ _=>True):=by
  have hb:=rY K M P L T hm;obtain⟨_,hL1,hL2,hP1,hP,_⟩:=qO K M P L T hm;unfold JH;rw[rcol K M P L T hm];simp only[A0X,ne_eq,A3t,A3r];rw[A3q Y,show(L:Int)*((4*fK M L:Nat):Int)=((L*(4*fK M L):Nat):Int) from by simp,bG Y,ig (by rw[ww];omega)];simp only[A0X];rw[ww];have j:∀ f:A02,Mc L (4*fK M L) f (Iq A1y) (FdB L 0)->∃ b,aT (zJ K M P L T (((4*fK M L:Nat):Int),0)) (f,0)=some (b,0)/\Mc L (4*fK M L) b (allM K M P L (Iq A1y)) (fun _ _=>True):=by
    intro f v;have q:Mc L (4*fK M L) f (Iq A1y) (Q5 (fK M L) 0 0 0 0):=v.mono fun a w d hd h=>by
      unfold Q5 at h;rw[Nat.zero_mul] at h;unfold FdB;omega
    obtain⟨r,u,b,rfl,t⟩:=ql (f:=zJ K M P L T (((4*fK M L:Nat):Int),0)) (fun i s=>∃ b,s=(b,(i:Int))/\i<=P/\Mc L (4*fK M L) b ((List.range i).foldl (fun p A1s=>XJ K M P L A1s p) (Iq A1y)) (Q5 (fK M L) i 0 0 0)) (fun r=>∃ b,r=(b,(0:Int))/\Mc L (4*fK M L) b (allM K M P L (Iq A1y)) (fun _ _=>True)) P (by
      rintro l s ⟨m,rfl,hx,g⟩;by_cases e:l < P
      ·refine .inl ⟨e,?_⟩;obtain⟨k,o,n⟩:=rpass K M P L T hm l e m _ g;unfold zJ;simp only[];rw[A3p Y];exact⟨_,o,k,rfl,Y,by rw[fold_succ];exact n⟩
      ·right;obtain rfl:l=P:=by omega
       unfold zJ;simp only[];rw[A3q Y];exact⟨_,rfl,m,rfl,g.mono fun a w d hd h=>.inl Y⟩) _ ⟨f,rfl,A2p _,q⟩
    exact⟨b,u,t⟩
  obtain⟨r,u,b,rfl,t⟩:=ql (f:=CZ K M P L T A1y (((4*fK M L:Nat):Int),0)) (fun i s=>∃ b,s=(b,(i:Int))/\i<=L/\Mc L (4*fK M L) b (Iq A1y) (FdB i 0)) (fun r=>∃ b,r=(b,(0:Int))/\Mc L (4*fK M L) b (allM K M P L (Iq A1y)) (fun _ _=>True)) L (by
    rintro l s ⟨m,rfl,hx,g⟩;by_cases e:l < L
    ·refine .inl ⟨e,?_⟩;obtain⟨k,o,n⟩:=rbeg1 K M P L T hm A1y hs m l e g;unfold CZ;simp only[];rw[A3p Y];exact⟨_,o,k,rfl,Y,n⟩
    ·right;obtain rfl:l=L:=by omega
     obtain⟨k,o,n⟩:=j m g;unfold CZ;simp only[];rw[A3q Y];exact⟨_,A3s (Option.map Sum.inr) o,k,rfl,n⟩) _ ⟨List.replicate (L*(4*fK M L)) [],rfl,A2p _,⟨A2K,fun l _ c _=>mem0_len A1y hs l c,fun l _ c _ h=>by unfold FdB at h;omega⟩⟩
  exact⟨b,u,t⟩
include hm in
theorem rHashA(w aO:AC)(e:w.length<=65536)(c:8<=aO.length/\aO.length<=64):uG K M P L T w aO [] []=some (IP T (X9 M L (allM K M P L (Iq (VI 64 (aab K M P L T w aO)))) L),0):=by
  have hb:=rY K M P L T hm;obtain⟨_,hL1,hL2,_,_,hT1,hT2,_⟩:=qO K M P L T hm;have b:=FM 64 Y Y _ (hdr_le K M P L T w aO e c.2);unfold uG;rw[rStartA K M P L T hm w aO e c];simp only[A0X,ne_eq,A3t,A3r];generalize VI 64 (aab K M P L T w aO)=A1y at b ⊢;obtain⟨f,h,d⟩:=rFillA K M P L T hm A1y b;rw[h,rcol K M P L T hm];simp only[A0X];generalize allM K M P L (Iq A1y)=mem at d ⊢;have a:=XK M L mem fun l hl=>d.2.1 l hl _ (show 4*fK M L - 1 < 4*fK M L from by omega);rw[aae];refine je (fun i=>(X9 M L mem i,(i:Int))) L (fun l hl=>?_) ?_
  ·unfold GR;simp only[];have g:ax ((ax ((ax ((l:Int)*((4*fK M L:Nat):Int)))+((4*fK M L:Nat):Int))) - 1)=((l*(4*fK M L)+(4*fK M L - 1):Nat):Int):=by
     have h2:l*(4*fK M L)<=L*(4*fK M L):=A0k _ Y;rw[show(l:Int)*((4*fK M L:Nat):Int)=((l*(4*fK M L):Nat):Int) from by simp,bG (n:=((l*(4*fK M L):Nat):Int)) Y,bG (n:=((l*(4*fK M L):Nat):Int)+_) Y,bG Y];omega
   rw[A3p Y,g,Rk (d.2.2 l hl _ Y trivial)];simp only[A0X];rw[rXor _ _ (a l Y) (d.2.1 l hl _ Y)];simp only[A0X];rw[dh l Y];unfold X9;rw[fold_succ]
  ·unfold GR;simp only[];rw[A3q Y,rHash T Y Y _ (by rw[a L (A2f _)];omega)];rfl
include hm in
theorem wHashA(w aO:AC)(d:w.length<=65536)(b:8<=aO.length/\aO.length<=64):wI K M P L T w aO [] []=some (IP T (X9 M L (allM K M P L (Iq (VI 64 (aab K M P L T w aO)))) L),0)/\(IP T (X9 M L (allM K M P L (Iq (VI 64 (aab K M P L T w aO)))) L)).length=T:=by
  have hb:=rY K M P L T hm;obtain⟨_,hL1,hL2,_,_,hT1,hT2,_⟩:=qO K M P L T hm;have a:=FM 64 Y Y _ (hdr_le K M P L T w aO d b.2);unfold wI EU;rw[wStartA K M P L T hm w aO d b];simp only[A0X,ne_eq,A3t,A3r];generalize VI 64 (aab K M P L T w aO)=A1y at a ⊢;obtain⟨m,h,f⟩:=wbegin K M P L T hm A1y a;rw[h];simp only[A0X];obtain⟨e,g,c⟩:=wall K M P L T hm m _ f;rw[g];simp only[A0X];rw[wtag K M P L T hm e _ c];refine⟨rfl,YI T Y Y _ ?_⟩;rw[XK M L _ (fun l hl=>c.len hl (show 4*fK M L - 1 < 4*fK M L from by omega)) L (A2f _)];omega
end
def FO (K M P L T:Int)(b a:Nat):Int:=if wZ K M P L T then(if 65536 < b then 2 else if a < 8∨64 < a then 201 else 0) else 200
theorem hErr_ne(K M P L T:Int)(b a:Nat)(h:FO K M P L T b a≠0):(¬ wZ K M P L T/\FO K M P L T b a=200)∨(wZ K M P L T/\65536 < b/\FO K M P L T b a=2)∨(wZ K M P L T/\¬ 65536 < b/\(a < 8∨64 < a)/\FO K M P L T b a=201):=by
  unfold FO at h ⊢;by_cases hm:wZ K M P L T
  ·rw[A3p hm] at h ⊢;by_cases c:65536 < b
   ·rw[A3p c];exact .inr (.inl ⟨hm,c,rfl⟩)
   ·rw[A3q c] at h ⊢;by_cases hs:a < 8∨64 < a
    ·rw[A3p hs];exact .inr (.inr ⟨hm,c,hs,rfl⟩)
    ·rw[A3q hs] at h;exact absurd rfl h
  ·rw[A3q hm];exact .inl ⟨hm,rfl⟩
theorem XL(K M P L T:Int)(w aO:AC)(h:FO K M P L T w.length aO.length≠0):qN K M P L T w aO [] []=some ([],FO K M P L T w.length aO.length):=by
  unfold qN;rw[may_ok,Xt];simp only[A0X];rcases hErr_ne K M P L T _ _ h with⟨hm,e⟩ | ⟨hm,a,e⟩ | ⟨hm,a,hs,e⟩
  ·rw[e,A3p (by rw[A0Z hm];rfl)]
  ·rw[e,A3q (by rw[A0Y hm];decide),A3p Y]
  ·have b:FK K M P L T aO.length=201:=by unfold FK;rw[A3p hm,A3p hs]
   rw[e,A3q (by rw[A0Y hm];decide),A3q Y,A3p (by rw[b];decide)]
theorem rstart_err(K M P L T:Int)(w aO:AC)(h:FO K M P L T w.length aO.length≠0):AB K M P L T w aO [] []=some ([],FO K M P L T w.length aO.length):=by
  have b:BI K M P L T w aO [] []=some (FO K M P L T w.length aO.length):=by
    unfold BI;rw[XE,Uc];simp only[A0X];rcases hErr_ne K M P L T _ _ h with⟨hm,e⟩ | ⟨hm,a,e⟩ | ⟨hm,a,hs,e⟩
    ·rw[e,A3q hm,A3p A2H]
    ·rw[e,A3p hm,A3q A2H,A3p Y]
    ·have c:FK K M P L T aO.length=201:=by unfold FK;rw[A3p hm,A3p hs]
     rw[e,A3p hm,A3q A2H,A3q Y,A3p (by rw[c];decide)]
  unfold AB;rw[b];simp only[A0X];rw[A3p h]
theorem may_cast{K M P L T}(hm:wZ K M P L T):∃ k m p l t:Nat,K=k/\M=m/\P=p/\L=l/\T=t:=by
  unfold wZ at hm;exact⟨K.toNat,M.toNat,P.toNat,L.toNat,T.toNat,Y,Y,Y,Y,Y⟩
theorem hErr0{K M P L T b a}(h:FO K M P L T b a=0):wZ K M P L T/\b<=65536/\8<=a/\a<=64:=by
  unfold FO at h;split at h
  ·rename_i hm;split at h
   ·cases h
   ·split at h
    ·cases h
    ·exact⟨hm,Y,Y,Y⟩
  ·cases h
theorem hash_all(K M P L T:Int)(w aO:AC):∃ x,wI K M P L T w aO [] []=some (x,FO K M P L T w.length aO.length)/\uG K M P L T w aO [] []=some (x,FO K M P L T w.length aO.length)/\(FO K M P L T w.length aO.length=0->(x.length:Int)=T)/\(FO K M P L T w.length aO.length≠0->x=[])/\(FO K M P L T w.length aO.length=0->∃ h,qN K M P L T w aO [] []=some (h,0)):=by
  by_cases h:FO K M P L T w.length aO.length=0
  ·obtain⟨hm,b,c,a⟩:=hErr0 h;obtain⟨k,m,p,l,t,rfl,rfl,rfl,rfl,rfl⟩:=may_cast hm;obtain⟨e,d⟩:=wHashA k m p l t hm w aO b ⟨c,a⟩;rw[h];exact⟨_,e,rHashA k m p l t hm w aO b ⟨c,a⟩,fun _=>by rw[d],fun q=>absurd rfl q,fun _=>⟨_,wStartA k m p l t hm w aO b ⟨c,a⟩⟩⟩
  ·have e:=XL K M P L T w aO h;have d:=rstart_err K M P L T w aO h;refine⟨[],?_,?_,fun q=>absurd q h,fun _=>rfl,fun q=>absurd q h⟩
   ·unfold wI EU;rw[e];simp only[A0X];rw[A3p h];rfl
   ·unfold uG;rw[d];simp only[A0X];rw[A3p h]
end
section
theorem print0{K M P L T aO a s}(h:Bc K M P L T aO a=(s,0)):FK K M P L T aO.length=0/\(a.length:Int)=T:=by
  unfold Bc at h;split at h
  ·rename_i q;exact absurd (A3s Prod.snd h) q
  ·rename_i q;split at h
   ·have:=A3s Prod.snd h;cases this
   ·rename_i b;exact⟨Decidable.of_not_not q,Decidable.of_not_not b⟩
theorem make_ok2(K M P L T:Int)(w aO:AC):∃ x,uG K M P L T w aO [] []=some (x,FO K M P L T w.length aO.length)/\(FO K M P L T w.length aO.length=0->(x.length:Int)=T) /\
    AA K M P L T w aO=some (if FO K M P L T w.length aO.length≠0 then([],FO K M P L T w.length aO.length) else Bc K M P L T aO x) /\
    DF K M P L T w aO=some (if FO K M P L T w.length aO.length≠0 then([],FO K M P L T w.length aO.length) else Bc K M P L T aO x):=by
  obtain⟨x,c,a,b,_,_⟩:=hash_all K M P L T w aO;refine⟨x,a,b,?_,?_⟩
  ·unfold AA;rw[c];simp only[A0X];by_cases h:FO K M P L T w.length aO.length≠0
   ·rw[A3p h,A3p h]
   ·rw[A3q h,A3q h,print_p];rfl
  ·unfold DF;rw[a];simp only[A0X];by_cases h:FO K M P L T w.length aO.length≠0
   ·rw[A3p h,A3p h]
   ·rw[A3q h,A3q h,print_r];rfl
theorem verify_ok(s w:AC)(hs:s.length<=4194304):∃ y,C9 s w=some y/\E_ s w=some y:=by
  obtain⟨K,M,P,L,T,aO,a,c,e,hp⟩:∃ K M P L T aO a c e,pX s=(K,M,P,L,T,aO,a,c,e):=⟨_,_,_,_,_,_,_,_,_,rfl⟩
  have hl:=parse_len s;have d:=QT s;unfold C9 E_;rw[VE s hs,parse_r s hs];rw[hp] at hl d ⊢;simp only[A0X] at hl d ⊢;by_cases h:e≠0
  ·rw[A3p h,A3p h];exact⟨_,rfl,rfl⟩
  ·have k:e=0:=Decidable.of_not_not h;subst k;rw[A3q h,A3q h];obtain⟨i,j⟩:=print0 (d rfl);obtain⟨x,o,n,m,e4,l⟩:=hash_all K M P L T w aO;unfold E8;rw[n];simp only[A0X];by_cases b:FO K M P L T w.length aO.length=0
   ·obtain⟨g,f⟩:=l b;have hx:=m b;rw[f];simp only[A0X];rw[A3q (show ¬ ((0:Int)≠0) by decide),A3q (show ¬ ((a.length:Int)≠T) by rw[j];simp),o];simp only[A0X];rw[A3q (show ¬ (FO K M P L T w.length aO.length≠0) by rw[b];decide)];obtain⟨hm,h8,h64⟩:=chk0 i;unfold wZ at hm;unfold KF;rw[rsame _ _ Y,b];exact⟨_,rfl,rfl⟩
   ·rw[XL K M P L T w aO b];simp only[A0X];rw[A3p b,A3p b];exact⟨_,rfl,rfl⟩
theorem stale_ok(s:AC)(hs:s.length<=4194304)(K M P L T:Int):Fa s K M P L T=Ec s K M P L T/\∃ y,Ec s K M P L T=some y:=by
  unfold Fa Ec;rw[VE s hs,parse_r s hs];simp only[A0X];rw[Xt,Uc];simp only[A0X];refine⟨trivial,?_⟩;split
  ·exact⟨_,rfl⟩
  ·split
   ·exact⟨_,rfl⟩
   ·exact⟨_,rfl⟩
end
section
def annK:AC:=[97,110,110]
def rightK:AC:=[114,105,103,104,116]
def wrongK:AC:=[119,114,111,110,103]
abbrev Rec:=AC×Int×UInt64
def one (t:AC)(a:Int)(u:UInt64):Mp Rec:=[(annK,t,a,u)]
section
variable (aO x y:AC)(hs:aO.length=8)(hx:uG 2 8 1 1 4 rightK aO [] []=some (x,0))(hxl:(x.length:Int)=4)(hy:uG 2 8 1 1 4 wrongK aO [] []=some (y,0))(hne:y≠x)
variable (n:Int)(H:UInt64)
end
end
section
theorem XM{α:Type}(A:List α)(x:α)(B:List α):aP (A++x::B) (A.length:Int)=some x:=by
  rw[fG A2K];simp
theorem smid{α:Type}(A:List α)(x y:α)(B:List α):(A++x::B).set (Int.toNat (A.length:Int)) y=A++y::B:=by
  rw[ww,A3w _ _ (A2f _),Nat.sub_self,A0g]
abbrev RU:=AC×Int×UInt64×AC
theorem find_at(name:AC)(L:List RU)(hL:L.length<=100000):∀ (B A:List RU),L=A++B->(∀ q ∈ A,q.1≠name) ->
    (∃ b x d,L=b++x::d/\x.1=name/\aT (mO L name) (A.length:Int)=some (b.length:Int))∨((∀ q ∈ L,q.1≠name)/\aT (mO L name) (A.length:Int)=some (-1)):=by
  intro B
  induction B with
  | nil =>
    intro A e h;right;rw[A2n] at e;subst e;refine⟨h,dm ?_⟩;simp only[mO];rw[A3q Y];rfl
  | cons x B ih =>
    intro A e h;have hl:A.length < L.length:=by rw[e];simp
    by_cases hx:x.1=name
    ·left;refine⟨A,x,B,e,hx,dm ?_⟩;simp only[mO];rw[A3p Y,e,XM,A0X,A3p hx];rfl
    ·have c:mO L name (A.length:Int)=some (.inl (((A++[x]).length:Nat):Int)):=by
       simp only[mO];rw[A3p Y]
       conv=>lhs;rw[e]
       rw[XM,A0X,A3q hx,wS _ Y,Pi];rfl
     rw[iJ c];refine ih (A++[x]) (by rw[e];simp) fun q a=>?_;rcases A3P.1 a with a | a
     ·exact h q a
     ·rw[A0N.1 a];exact hx
theorem find_ok(K M P L T A1v:Int)(A1z:UInt64)(ac:List US)(hl:ac.length<=100000)(name:AC) :
    (∃ a u b,ac=a++u::b/\u.1=name/\mW K M P L T A1v A1z (ac.map fR) name=some (((a.map fR).length:Nat):Int))∨((∀ q ∈ ac,q.1≠name)/\mW K M P L T A1v A1z (ac.map fR) name=some (-1)):=by
  unfold mW;rcases find_at name (ac.map fR) (by rw[A0K];exact hl) (ac.map fR) [] rfl (fun q c=>by cases c) with⟨A,x,B,e1,e2,e3⟩ | ⟨e1,e2⟩
  ·left;obtain⟨a,b',rfl,e,h3⟩:=List.map_eq_append_iff.1 e1;obtain⟨u,b,rfl,d,h5⟩:=List.map_eq_cons_iff.1 h3;refine⟨a,u,b,rfl,by rw[<- e2,<-d];rfl,?_⟩;rw[e];exact e3
  ·right;exact⟨fun q c=>e1 (fR q) (ut.2 ⟨q,c,rfl⟩),e2⟩
theorem YJ{δ:Type}(k:Ky)(v:δ)(m:Mp δ):∀ a:Mp δ,(∀ q ∈ a,q.1 < k)->Dw (a++m) k v=a++Dw m k v:=by
  intro a
  induction a with
  | nil=>intro _;rfl
  | cons p r ih =>
    intro h;have hp:=h p A0R;rw[A0f,Dw,A3q (fun e=>by rw[e] at hp;exact A3L _ hp),A3q (fun e=>List.lt_asymm hp e),ih (fun q b=>h q (A0P _ b))];rfl
theorem mdel_skip{δ:Type}(k:Ky)(m:Mp δ):∀ a:Mp δ,(∀ q ∈ a,q.1 < k)->Ol (a++m) k=a++Ol m k:=by
  intro a
  induction a with
  | nil=>intro _;rfl
  | cons p r ih =>
    intro h;have hp:=h p A0R;rw[A0f,Ol,A3q (fun e=>by rw[e] at hp;exact A3L _ hp),ih (fun q b=>h q (A0P _ b))];rfl
theorem Rsu{a b u}(h:VG (a++u::b)):(∀ q ∈ a,q.1 < u.1)/\(∀ q ∈ b,u.1 < q.1)/\VG (a++b):=by
  unfold VG at h ⊢;rw[A2g,kw,A3z,List.pairwise_cons] at h;obtain⟨f,⟨e,h3⟩,d⟩:=h;refine⟨fun q c=>d q.1 (ut.2 ⟨q,c,rfl⟩) u.1 A0R,fun q c=>e q.1 (ut.2 ⟨q,c,rfl⟩),?_⟩;rw[A2g,A3z];exact⟨f,h3,fun x hx y hy=>d x hx y (A0P _ hy)⟩
theorem Rsi{a b u}(h:VG (a++b))(f:∀ q ∈ a,q.1 < u.1)(e:∀ q ∈ b,u.1 < q.1):VG (a++u::b):=by
  unfold VG at h ⊢;rw[A2g,A3z] at h;rw[A2g,kw,A3z,List.pairwise_cons];obtain⟨g1,i,g⟩:=h;refine⟨g1,⟨fun k d=>?_,i⟩,fun x hx y hy=>?_⟩
  ·obtain⟨q,c,rfl⟩:=ut.1 d;exact e q c
  ·rcases ul.1 hy with rfl | hy
   ·obtain⟨q,c,rfl⟩:=ut.1 hx;exact f q c
   ·exact g x hx y hy
theorem fP_lt{a:List US}{k}(h:∀ q ∈ a,q.1 < k):∀ q ∈ a.map fP,q.1 < k:=by
  intro q b;obtain⟨x,hx,rfl⟩:=ut.1 b;exact h x hx
theorem fP_srt{ac}(h:VG ac):PW (ac.map fP):=by unfold PW;rw[VH];exact h
theorem Pj{a b u}(h:VG (a++u::b)):oz ((a++u::b).map fP) u.1=some (u.2.2.2,ax u.2.1.toNat,u.2.2.1) :=
  yh (fP_srt h).nodup (ut.2 ⟨u,A2K,rfl⟩)
theorem Tu{ac:List US}{name}(h:∀ q ∈ ac,q.1≠name):oz (ac.map fP) name=none:=by
  rw[ML,VH];intro hm;obtain⟨q,a,e⟩:=ut.1 hm;exact h q a e
theorem mins_mid{a:List US}{b}{u:US}(h:VG (a++u::b))(t un:UInt64)(c:AC)(w:Int)(d:w=ax t.toNat):Dw ((a++u::b).map fP) u.1 (c,w,un)=(a++(u.1,t,un,c)::b).map fP:=by
  rw[A2g,kw,YJ _ _ _ _ (fP_lt (Rsu h).1),Dw,A3p (show u.1=(fP u).1 from rfl),A2g,kw,d];rfl
theorem mdel_mid {a b:List US}{u:US}(h:VG (a++u::b)):Ol ((a++u::b).map fP) u.1=(a++b).map fP:=by
  rw[A2g,kw,mdel_skip _ _ _ (fP_lt (Rsu h).1),Ol,A3p (show(fP u).1=u.1 from rfl),A2g]
theorem split_at{ac}(name:Ky)(h:VG ac)(hn:∀ q ∈ ac,q.1≠name):∃ a b,ac=a++b/\(∀ q ∈ a,q.1 < name)/\(∀ q ∈ b,name < q.1):=by
  induction ac with
  | nil=>exact⟨[],[],rfl,fun q c=>(by cases c),fun q c=>(by cases c)⟩
  | cons x r ih =>
    have h':=h;unfold VG at h;rw[kw,List.pairwise_cons] at h;rcases lt_tri x.1 name with hx | hx | hx
    ·obtain⟨a,b,e,f,d⟩:=ih h.2 (fun q c=>hn q (A0P _ c));refine⟨x::a,b,by rw[e];rfl,fun q c=>?_,d⟩;rcases ul.1 c with rfl | c
     ·exact hx
     ·exact f q c
    ·exact absurd hx (hn x A0R)
    ·refine⟨[],x::r,rfl,fun q c=>(by cases c),fun q c=>?_⟩;rcases ul.1 c with rfl | c
     ·exact hx
     ·exact List.lt_trans hx (h.1 q.1 (ut.2 ⟨q,c,rfl⟩))
theorem mins_new{a:List US}{b}(name:Ky)(f:∀ q ∈ a,q.1 < name)(d:∀ q ∈ b,name < q.1)(c:AC):Dw ((a++b).map fP) name (c,(0:Int),(0:UInt64))=(a++(name,0,0,c)::b).map fP:=by
  rw[A2g,YJ _ _ _ _ (fP_lt f),A2g,kw];have e:Dw (b.map fP) name (c,(0:Int),(0:UInt64))=fP (name,0,0,c)::b.map fP:=by
    cases b with
    | nil=>rfl
    | cons x r =>
      have hx:=d x A0R;rw[kw,Dw,A3q (show ¬ name=(fP x).1 from fun q=>by rw[show(fP x).1=x.1 from rfl] at q;rw[<- q] at hx;exact A3L _ hx),A3p (show name < (fP x).1 from hx)];rfl
  rw[e]
end
section
theorem pcsA_fwd (c:UInt8)(r:AC):∀ (x a:AC),c ∉ x->Ug c a (x++c::r)=(a++x)::UM c r
  | [],a,h=>by rw[A37,Ug,A3p rfl,A2n];rfl
  | y::x,a,h=>by
    rw[ul,not_or] at h;rw[A0f,Ug,A3q (fun e=>h.1 e.symm),pcsA_fwd c r x (a++[y]) h.2,lw];rfl
theorem pcsA_end (c:UInt8):∀ (x a:AC),c ∉ x->Ug c a x=[a++x]
  | [],a,h=>by rw[Ug,A2n]
  | y::x,a,h=>by
    rw[ul,not_or] at h;rw[Ug,A3q (fun e=>h.1 e.symm),pcsA_end c x (a++[y]) h.2,lw];rfl
theorem VK{c x}(r:AC)(h:c ∉ x):UM c (x++c::r)=x::UM c r:=pcsA_fwd c r x [] h
theorem pcs_end{c x}(h:c ∉ x):UM c x=[x]:=pcsA_end c x [] h
theorem numS_g(c:UInt8)(l:AC)(a:Bool)(v:UInt64)(b:U_ c=true)(d:(a&&decide (v=0))=false)(h1:10*v.toNat+(dv c).toNat < 18446744073709551616):pW (c::l) a v=((pW l true (10*v+dv c)).1,(pW l true (10*v+dv c)).2.1+1,(pW l true (10*v+dv c)).2.2):=by
  rw[pW,A3p b,A3q];rw[d,Bool.false_or,lm,A2s];have hd:=YB c b;have e:((18446744073709551615:UInt64) - dv c).toNat=18446744073709551615 - (dv c).toNat:=by
    rw[UInt64.toNat_sub_of_le]
    ·rfl
    ·rw[A38];show(dv c).toNat<=18446744073709551615;omega
  rw[A46,e];show ¬ (18446744073709551615 - (dv c).toNat) / 10 < v.toNat;omega
theorem num_all:∀(n:Nat),n < 18446744073709551616->∀ r:AC,pW (Lib.decDigits n++r) false 0=((pW r true (UInt64.ofNat n)).1,(pW r true (UInt64.ofNat n)).2.1+(Lib.decDigits n).length,(pW r true (UInt64.ofNat n)).2.2):=by
  intro n
  induction n using Nat.strongRecOn with
  | _ n ih =>
    intro hn r;rw[Lib.decDigits];split
    ·rename_i a;obtain⟨f,d,c⟩:=YD n a;rw[A3v,numS_g _ _ _ _ f rfl (by rw[d];show 10*0+n < _;omega),c];rw[show(10:UInt64)*0+UInt64.ofNat n=UInt64.ofNat n from by rw[UInt64.mul_zero,UInt64.zero_add]];rfl
    ·rename_i a;obtain⟨f,d,c⟩:=YD (n % 10) Y;rw[lw,A3v,ih (n / 10) Y Y];have b:(UInt64.ofNat (n / 10)).toNat=n / 10:=u64v _ Y;rw[numS_g _ _ _ _ f (by
       rw[A3g,A3u];intro q;have:=A3s UInt64.toNat q;rw[b] at this;have:n / 10=0:=this;omega) (by rw[b,d];omega)]
     have e:(10:UInt64)*UInt64.ofNat (n / 10)+dv (UInt8.ofNat (48+n % 10))=UInt64.ofNat n:=by
       rw[<- A2m,c,A3H,A44,b,u64v (n % 10) Y,u64v n Y];show(10*(n / 10) % 18446744073709551616+n % 10) % 18446744073709551616=n;omega
     rw[e,Pi,A0W];refine Prod.ext rfl (Prod.ext ?_ rfl);show _+1+_=_+(_+1)
     omega
theorem VL(n:UInt64):rH (Lib.decDigits n.toNat) 0 true=(n,(Lib.decDigits n.toNat).length,true):=by
  unfold rH;have h:=num_all n.toNat n.toNat_lt [];rw[A2n] at h;rw[A3p rfl,A0i,h];simp[pW]
theorem dd20:∀(k n:Nat),n < 10 ^ (k+1)->(Lib.decDigits n).length<=k+1:=by
  intro k
  induction k with
  | zero =>
    intro n h;rw[Lib.decDigits,dif_pos Y];simp
  | succ k ih =>
    intro n h;rw[Lib.decDigits];split
    ·simp
    ·have:=ih (n / 10) (by rw[Nat.pow_succ] at h;omega);rw[Pi,A0W];omega
theorem aag(n:UInt64):(Lib.decDigits n.toNat).length<=20:=dd20 19 n.toNat (by have:=n.toNat_lt;have e:(10:Nat) ^ (19+1)=100000000000000000000:=rfl;omega)
theorem dig_all:∀(k:Nat)(n:UInt64)(l:AC),n.toNat < 10 ^ (k+1)->l.length+k<=1000000->aT kL (n,l)=some (Lib.decDigits n.toNat++l):=by
  intro k
  induction k with
  | zero =>
    intro n l hm hl;have hd:(n / 10).toNat=n.toNat / 10:=by rw[A46];rfl
    have b:((48:UInt64)+n % 10).toNat=48+n.toNat % 10:=by
      rw[A3H,A45,show(48:UInt64).toNat=48 from rfl,show(10:UInt64).toNat=10 from rfl];omega
    have a:n.toNat < 10:=Y
    refine dm ?_;unfold kL;dsimp only;rw[ig A2P,A0X,A3p (A2m.1 (by rw[hd];show n.toNat / 10=0;omega)),b,Lib.decDigits,dif_pos a,A2w a];rfl
  | succ k ih =>
    intro n l hm hl;have hd:(n / 10).toNat=n.toNat / 10:=by rw[A46];rfl
    have b:((48:UInt64)+n % 10).toNat=48+n.toNat % 10:=by
      rw[A3H,A45,show(48:UInt64).toNat=48 from rfl,show(10:UInt64).toNat=10 from rfl];omega
    by_cases a:n.toNat < 10
    ·refine dm ?_;unfold kL;dsimp only;rw[ig A2P,A0X,A3p (A2m.1 (by rw[hd];show n.toNat / 10=0;omega)),b,Lib.decDigits,dif_pos a,A2w a];rfl
    ·have hne:¬ n / 10=0:=fun q=>by
       have:=A3s UInt64.toNat q;rw[hd,show(0:UInt64).toNat=0 from rfl] at this;omega
     have c:kL (n,l)=some (.inl (n / 10,[UInt8.ofNat (48+n.toNat % 10)]++l)):=by
       unfold kL;dsimp only;rw[ig A2P,A0X,A3q hne,b]
     rw[iJ c,ih (n / 10) _ (by rw[hd];rw[Nat.pow_succ] at hm;omega) A2M,hd]
     conv=>rhs;rw[Lib.decDigits,dif_neg a]
     rw[lw]
theorem XN(n:UInt64):oV n=some (Lib.decDigits n.toNat):=by
  unfold oV;rw[dig_all 19 n [] (by have:=n.toNat_lt;have e:(10:Nat) ^ (19+1)=100000000000000000000:=rfl;omega) A2K,A2n]
theorem dd_no(n:Nat):(10:UInt8) ∉ Lib.decDigits n/\(32:UInt8) ∉ Lib.decDigits n :=
  ⟨fun q=>by have:=dd_isD n _ q;revert this;decide,fun q=>by have:=dd_isD n _ q;revert this;decide⟩
theorem parse_nonl(d:AC)(h:(pX d).2.2.2.2.2.2.2.2=0):(10:UInt8) ∉ d:=by
  have a:=QT d h;unfold Bc at a;split at a
  ·rename_i g;simp only[A2c] at a;exact absurd a.2 g
  ·split at a
   ·simp at a
   ·simp only[A2c,A49] at a;rw[<- a];intro hm;have f:∀ n:Nat,(10:UInt8) ∉ Lib.decDigits n:=fun n=>(dd_no n).1;have e:∀ b:AC,(10:UInt8) ∉ enc b:=fun b q=>by have:=ZP b _ q;revert this;decide
    have c:∀ K:Int,(10:UInt8) ∉ kdS K:=fun K=>by unfold kdS;split <;> (try split) <;> decide
    unfold textS at hm;simp only[A3P,f,e,c,or_false,false_or] at hm;revert hm;decide
theorem name_no{a}(h:L6 a=true):(10:UInt8) ∉ a/\(32:UInt8) ∉ a:=by
  unfold L6 at h;simp only[A0U,List.all_eq_true] at h;exact⟨fun q=>by have:=h.2 _ q;revert this;decide,fun q=>by have:=h.2 _ q;revert this;decide⟩
theorem name_len{a}(h:L6 a=true):a.length<=32:=by
  unfold L6 at h;simp only[A0U,lm] at h;exact h.1.2
def Good (A1v:Int)(u:US):Prop:=L6 u.1=true/\(u.2.1.toNat:Int) < A1v/\(pX u.2.2.2).2.2.2.2.2.2.2.2=0/\u.2.2.2.length<=2000
theorem lnT_len{A1v}(hm:A1v<=100){u}(h:Good A1v u):(Lh u).length<=2100:=by
  obtain⟨a,h2,h3,h4⟩:=h;have:=name_len a;have:=aag u.2.1;have:=aag u.2.2.1;unfold Lh;simp only[Pi,bi,A0L];omega
theorem line_fwd{A1v}(hm:1<=A1v/\A1v<=100){u}(h:Good A1v u):lineS (u.1++[32]++Lib.decDigits u.2.1.toNat++[32]++Lib.decDigits u.2.2.1.toNat++[32]++u.2.2.2) A1v=some u:=by
  obtain⟨b,h2,h3,h4⟩:=h;have e:u.1++[32]++Lib.decDigits u.2.1.toNat++[32]++Lib.decDigits u.2.2.1.toNat++[32]++u.2.2.2=u.1++32::(Lib.decDigits u.2.1.toNat++32::(Lib.decDigits u.2.2.1.toNat++32::u.2.2.2)):=by simp
  have hp:UM 32 (u.1++[32]++Lib.decDigits u.2.1.toNat++[32]++Lib.decDigits u.2.2.1.toNat++[32]++u.2.2.2)=[u.1,Lib.decDigits u.2.1.toNat,Lib.decDigits u.2.2.1.toNat,u.2.2.2]:=by
    rw[e,VK _ (name_no b).2,VK _ (dd_no _).2,VK _ (dd_no _).2,pcs_end (Xv _ h3)]
  unfold lineS;rw[hp];dsimp only;have a:(UInt64.ofInt A1v).toNat=A1v.toNat:=by
    unfold UInt64.ofInt;rw[A3X A2Y];omega
  rw[A3p]
  ·rw[VL,VL]
  ·unfold QU;rw[VL,VL,b,h3];simp only[decide_true,Bool.and_self,A3g,A2z,A3u];rw[A38,a];omega
theorem last_lt{a u r}(h:VG (a++u::r))(hd:a≠[]):NR a < u.1:=by
  rcases List.eq_nil_or_concat a with rfl | ⟨i,z,rfl⟩
  ·exact absurd rfl hd
  ·rw[List.concat_eq_append,Uh];exact(Rsu h).1 z A2K
theorem rdS_fwd{A1v}(hm:1<=A1v/\A1v<=100):∀ (rest a:List US) (i:Nat),VG (a++rest)->(a++rest).length<=1024->(∀ q ∈ rest,Good A1v q)->rdS A1v (UM 10 ((rest.map Lh).flatten)) a i=.inr (a++rest):=by
  intro rest
  induction rest with
  | nil =>
    intro a i e d h3;rw[A2q,List.flatten_nil,pcs_end A2K,rdS,A3p rfl,A2n]
  | cons u r ih =>
    intro a i e d h3;have c:=h3 u A0R;rw[kw,A0l,Lh,lw,A3v,VK _ (by
      simp only[A3P,(name_no c.1).1,(dd_no _).1,parse_nonl _ c.2.2.1,or_false,false_or];decide)]
    obtain⟨l',ls,b⟩:=pcs_ne 10 ((r.map Lh).flatten);rw[b,rdS,line_fwd hm c];dsimp only;rw[A3q,<-b,ih (a++[u]) (i+1) (by rw[lw];exact e) (by rw[lw];exact d) (fun q h=>h3 q (A0P _ h)),lw]
    ·rfl
    ·rintro(q | ⟨g,f⟩)
     ·rw[Pi,bi] at d;omega
     ·exact f (last_lt e g)
end
section
def Inv (A1v:Int)(ac:List US):Prop:=VG ac/\ac.length<=1024/\∀ q ∈ ac,Good A1v q
theorem PQ{A1v}(hm:A1v<=100):∀ ac:List US,(∀ q ∈ ac,Good A1v q)->((ac.map Lh).flatten).length<=2100*ac.length
  | [],_=>by simp
  | u::r,h=>by
    have h1:=lnT_len hm (h u A0R);have h2:=PQ hm r (fun q a=>h q (A0P _ a));rw[kw,A0l,Pi,bi];omega
theorem text_p(K M P L T A1v:Int)(hm:1<=A1v/\A1v<=100)(A1z:UInt64){ac}(h:Inv A1v ac):qy K M P L T A1v A1z (ac.map fP)=some ((ac.map Lh).flatten,K,M,P,L,T,A1v,A1z):=by
  obtain⟨a,h2,h3⟩:=h;have hl:=PQ hm.2 ac h3;unfold qy;rw[ZV K M P L T A1v A1z ac a Y,A0X];have:=text_loop ac a (fun q b=>by have:=(h3 q b).2.1;omega) Y (ac.map (·.1),K,M,P,L,T,A1v,A1z) rfl ac.length 0 Y;rw[List.take_zero] at this;exact this
theorem tries_u{A1v}(hm:A1v<=100){u}(h:Good A1v u):UInt64.ofInt (ax (u.2.1.toNat:Int))=u.2.1:=by
  have h2:=h.2.1;rw[bG Y];unfold UInt64.ofInt;rw[<- A2m];have:=u.2.1.toNat_lt;simp only[show(2:Int) ^ 64=18446744073709551616 from rfl];rw[show((u.2.1.toNat:Int) % 18446744073709551616).toNat=u.2.1.toNat from by omega,A3X u.2.1.toNat_lt]
theorem tline(K M P L T A1v:Int)(A1z:UInt64)(Q:List RU)(S a:AC)(w:Int)(t un:UInt64)(b:AC)(i:Nat)(hi:i < Q.length)(hq:Q.length<=2000)(d:aP Q (i:Int)=some (a,w,un,b))(c:UInt64.ofInt w=t)(hS:S.length<=2200000)(hl:a.length+b.length<=3000) :
    oH K M P L T A1v A1z Q (S,(i:Int))=some (.inl (S++(a++[32]++Lib.decDigits t.toNat++[32]++Lib.decDigits un.toNat++[32]++b++[10]),((i+1:Nat):Int))):=by
  have d1:=aag t;have d2:=aag un;simp only[oH];rw[A3p Y,d,A0X];dsimp only;rw[c,XN,XN,wS _ Y];rw[ig Y,A0X];rw[ig A2M,A0X,A0X];rw[ig A2M,A0X];rw[ig A2M,A0X,A0X];rw[ig A2M,A0X];rw[ig A2M,A0X];rw[ig A2M,A0X];rw[ig A2M,A0X];simp only[lw]
theorem text_r(K M P L T A1v:Int)(hm:1<=A1v/\A1v<=100)(A1z:UInt64){ac}(h:Inv A1v ac):yZ K M P L T A1v A1z (ac.map fR)=some ((ac.map Lh).flatten,K,M,P,L,T,A1v,A1z,ac.map fR):=by
  obtain⟨h1,f,h3⟩:=h;have hl:=PQ hm.2 ac h3;have key:∀ (k i:Nat),i+k=ac.length->aT (oH K M P L T A1v A1z (ac.map fR)) (((ac.take i).map Lh).flatten,(i:Int))=some ((ac.map Lh).flatten,K,M,P,L,T,A1v,A1z,ac.map fR):=by
    intro k
    induction k with
    | zero =>
      intro i g;refine dm ?_;simp only[oH];rw[A3q A2R,A2i Y];rfl
    | succ k ih =>
      intro i g;have a:i < ac.length:=Y
      have b:((ac.take (i+1)).map Lh).flatten=((ac.take i).map Lh).flatten++Lh ac[i]:=by
        rw[List.take_add_one,A0V a,Option.toList_some,A2g,List.flatten_append];simp only[kw,A2q,A0l,List.flatten_nil,A2n]
      have d:((ac.take (i+1)).map Lh).flatten.length<=(ac.map Lh).flatten.length:=by
        have h:ac.map Lh=(ac.take (i+1)).map Lh++(ac.drop (i+1)).map Lh:=by rw[<- A2g,A32]
        have f:=A3s (fun x=>x.flatten.length) h;simp only[List.flatten_append,Pi] at f;omega
      rw[b,Pi] at d;have c:=h3 _ (List.getElem_mem a);have hlen:=lnT_len hm.2 c;have e:oH K M P L T A1v A1z (ac.map fR) (((ac.take i).map Lh).flatten,(i:Int))=some (.inl (((ac.take (i+1)).map Lh).flatten,((i+1:Nat):Int))):=by
        have j:((ac.take i).map Lh).flatten.length<=2200000:=Y
        have h4:=name_len c.1;have h5:=c.2.2.2;rw[b];exact tline K M P L T A1v A1z (ac.map fR) _ ac[i].1 (ax ac[i].2.1.toNat) ac[i].2.1 ac[i].2.2.1 ac[i].2.2.2 i (by rw[A0K];exact a) A2R (by rw[fG (by simpa using a),List.getElem_map];rfl) (tries_u hm.2 c) j Y
      rw[iJ e,ih (i+1) Y]
  exact key ac.length 0 Y
theorem nloop(K M P L T A1v:Int)(A1z:UInt64)(ac:List US)(hl:ac.length<=4000000):∀ (k i:Nat),i+k=ac.length->aT (xQ (ac.map (·.1)) K M P L T A1v A1z (ac.map fR)) (i:Int)=some (true,K,M,P,L,T,A1v,A1z,ac.map fR):=by
  intro k
  induction k with
  | zero =>
    intro i b;refine dm ?_;simp only[xQ];rw[A3q A2R];rfl
  | succ k ih =>
    intro i b;have a:i < ac.length:=Y
    have e:xQ (ac.map (·.1)) K M P L T A1v A1z (ac.map fR) (i:Int)=some (.inl ((i+1:Nat):Int)):=by
      simp only[xQ];rw[A3p A2R,fG (by simpa using a),A0X,fG (by simpa using a),A0X,A3q (by simp[fR]),wS _ Y]
    rw[iJ e,ih (i+1) Y]
theorem names_r (K M P L T A1v:Int)(A1z:UInt64)(ac:List US)(hl:ac.length<=4000000):Ed (ac.map (·.1)) K M P L T A1v A1z (ac.map fR)=some (true,K,M,P,L,T,A1v,A1z,ac.map fR):=by
  unfold Ed;rw[if_neg A2K,show(0:Int)=((0:Nat):Int) from rfl,nloop K M P L T A1v A1z ac hl ac.length 0 Y]
theorem mk_ok(K M P L T:Int)(w aO:AC):∃ s e,AA K M P L T w aO=some (s,e)/\DF K M P L T w aO=some (s,e)/\(e=0->(pX s).2.2.2.2.2.2.2.2=0/\s.length<=2000):=by
  obtain⟨x,h1,h2,h3,a⟩:=make_ok2 K M P L T w aO;by_cases h:FO K M P L T w.length aO.length≠0
  ·rw[A3p h] at h3 a;exact⟨_,_,h3,a,fun e=>absurd e h⟩
  ·rw[A3q h] at h3 a;refine⟨(Bc K M P L T aO x).1,(Bc K M P L T aO x).2,h3,a,fun e=>?_⟩;obtain⟨c,d⟩:=print0 (s:=(Bc K M P L T aO x).1) (Prod.ext rfl e);have f:(Bc K M P L T aO x).1=textS K M.toNat P.toNat L.toNat aO x:=by
     unfold Bc;rw[A3q (by rw[c];decide),A3q (by rw[d];simp)]
   rw[f,parse_text K M P L T aO x c d];refine⟨rfl,?_⟩;obtain⟨b,h8,h64⟩:=chk0 c;unfold wZ at b;have g1:=dd20 3 M.toNat (by rw[show(10:Nat) ^ (3+1)=10000 from rfl];omega);have g2:=dd20 3 P.toNat (by rw[show(10:Nat) ^ (3+1)=10000 from rfl];omega);have g3:=dd20 3 L.toNat (by rw[show(10:Nat) ^ (3+1)=10000 from rfl];omega);have g4:=kd_len K;unfold textS;simp only[Pi,KN,bi,A0L];omega
theorem back_ok(K M P L T A1v:Int)(hm:1<=A1v/\A1v<=100)(A1z:UInt64){ac}(h:Inv A1v ac)(hn:Ui K M P L T A1v=0):DZ K M P L T A1v A1z ((ac.map Lh).flatten)=some (.inr (K,M,P,L,T,A1v,A1z,ac.map fP)):=by
  obtain⟨b,a,h3⟩:=h;have hl:=PQ hm.2 ac h3;rw[read_all_p K M P L T A1v A1z _ Y,A3q (fun q=>q hn),rdS_fwd hm ac [] 0 b a h3,A37];rfl
end
section
section
variable (K M P L T A1v:Int)(A1z:UInt64)
variable (Q:List RU)(hQ:Q.length<=10000)(name:AC)(r2:AC×Int)
include hQ in
theorem add3:∀(D C F:List RU),Q=C++D->F.length+D.length<=20000->aT (iU K M P L T A1v A1z Q name r2) (F,true,(C.length:Int))=some (0,K,M,P,L,T,A1v,A1z,F++D):=by
  intro D
  induction D with
  | nil =>
    intro C F e a;rw[A2n] at e;refine dm ?_;simp only[iU];rw[A3q (by rw[e];omega),A3q A2H,A2n];rfl
  | cons y D ih =>
    intro C F e a;have hl:C.length < Q.length:=by rw[e];simp
    have b:aP Q (C.length:Int)=some y:=by rw[e];exact XM C y D
    rw[bi] at a;have c:iU K M P L T A1v A1z Q name r2 (F,true,(C.length:Int))=some (.inl (F++[y],true,(((C++[y]).length:Nat):Int))):=by
      simp only[iU];rw[A3p Y,gifNT,A0X,A3q A2K];unfold pI;rw[b,A0X,iG A2P,A0X];unfold rP;rw[wS _ Y,Pi];rfl
    rw[iJ c,ih (C++[y]) (F++[y]) (by rw[e];simp) (by rw[Pi,A0W];omega),lw];rfl
include hQ in
theorem add2(A B:List RU)(e:Q=A++B)(b:∀ q ∈ B,name < q.1):aT (iU K M P L T A1v A1z Q name r2) (A,false,(A.length:Int))=some (0,K,M,P,L,T,A1v,A1z,A++(name,0,0,r2.1)::B):=by
  cases B with
  | nil =>
    rw[A2n] at e;refine dm ?_;simp only[iU];rw[A3q (by rw[e];omega),A3p A2H,iG (by rw[<- e];simp only[bi,A0L];omega)];rfl
  | cons y D =>
    have hl:A.length < Q.length:=by rw[e];simp
    have a:aP Q (A.length:Int)=some y:=by rw[e];exact XM A y D
    have hlen:Q.length=A.length+(D.length+1):=by rw[e];simp
    have c:iU K M P L T A1v A1z Q name r2 (A,false,(A.length:Int))=some (.inl (A++[(name,0,0,r2.1)]++[y],true,(((A++[y]).length:Nat):Int))):=by
      simp only[iU];rw[A3p Y,NQ,a,A0X,A3p (by rw[blt,A0Y (b y A0R)];rfl),iG A2P,A0X];unfold pI;rw[a,A0X,iG A2M,A0X];unfold rP;rw[wS _ Y,Pi];rfl
    rw[iJ c,add3 K M P L T A1v A1z Q hQ name r2 D (A++[y]) _ (by rw[e];simp) A2M];simp only[lw,A3v,A0f,A37]
include hQ in
theorem add1(A B:List RU)(e:Q=A++B)(c:∀ q ∈ A,q.1 < name):∀ (A2 A1:List RU),A=A1++A2->aT (iU K M P L T A1v A1z Q name r2) (A1,false,(A1.length:Int))=aT (iU K M P L T A1v A1z Q name r2) (A,false,(A.length:Int)):=by
  intro A2
  induction A2 with
  | nil =>
    intro A1 a;rw[A2n] at a;rw[a]
  | cons y D ih =>
    intro A1 a;have hy:y.1 < name:=c y (by rw[a];simp);have hlen:Q.length=A1.length+(D.length+1)+B.length:=by rw[e,a];simp only[Pi,bi]
    have b:aP Q (A1.length:Int)=some y:=by rw[e,a,lw,A0f];exact XM A1 y (D++B)
    have d:iU K M P L T A1v A1z Q name r2 (A1,false,(A1.length:Int))=some (.inl (A1++[y],false,(((A1++[y]).length:Nat):Int))):=by
      simp only[iU];rw[A3p Y,NQ,b,A0X,A3q (by rw[blt,A0Z (List.lt_asymm hy)];decide)];unfold pI;rw[b,A0X,iG A2P,A0X];unfold rP;rw[wS _ Y,Pi];rfl
    rw[iJ d];exact ih (A1++[y]) (by rw[a];simp)
include hQ in
theorem add_all(A B:List RU)(e:Q=A++B)(b:∀ q ∈ A,q.1 < name)(a:∀ q ∈ B,name < q.1):aT (iU K M P L T A1v A1z Q name r2) (([]:List RU),false,(0:Int))=some (0,K,M,P,L,T,A1v,A1z,A++(name,0,0,r2.1)::B):=by
  have c:=add1 K M P L T A1v A1z Q hQ name r2 A B e b A [] rfl;exact c.trans (add2 K M P L T A1v A1z Q hQ name r2 A B e a)
end
section
variable (K M P L T A1v:Int)(hm:1<=A1v/\A1v<=100)(A1z:UInt64){ac:List US}(hI:Inv A1v ac)
include hm hI in
theorem bk_add(name w aO:AC)(hn:name.length<=4194304):∃ e k,yX K M P L T A1v A1z (ac.map fP) name w aO=some (e,K,M,P,L,T,A1v,A1z,k.map fP)/\AL K M P L T A1v A1z (ac.map fR) name w aO=some (e,K,M,P,L,T,A1v,A1z,k.map fR)/\Inv A1v k:=by
  obtain⟨d,g,h3⟩:=hI;unfold yX jR AL;rw[named_p name hn,name_r name hn];simp only[A0X];rcases j:L6 name with _ | _
  ·exact⟨214,ac,rfl,rfl,d,g,h3⟩
  ·simp only[A3K,A0h,A3r];rcases find_ok K M P L T A1v A1z ac Y name with⟨a,u,b,rfl,rfl,p⟩ | ⟨m,r⟩
   ·rw[p,Pj d,A0X,A3p (show(0:Int)<=(((a.map fR).length:Nat):Int) by omega)];exact⟨213,a++u::b,rfl,rfl,d,g,h3⟩
   ·rw[r,Tu m,A0X,A3q (show ¬ ((0:Int)<=-1) by decide)];simp only[Option.isSome_none,A0h,A3r];rw[A0K,A0K];by_cases hl:1024<=ac.length
    ·rw[A3p (show(1024:Int)<=(ac.length:Int) by omega),A3p (show(1024:Int)<=(ac.length:Int) by omega)];exact⟨2,ac,rfl,rfl,d,g,h3⟩
    ·rw[A3q (show ¬ (1024:Int)<=(ac.length:Int) by omega),A3q (show ¬ (1024:Int)<=(ac.length:Int) by omega)];obtain⟨s,e,o,n,l⟩:=mk_ok K M P L T w aO;rw[o,n];simp only[A0X];by_cases f:e=0
     ·rw[A3q (fun q=>q f),A3q (fun q=>q f)];obtain⟨a,b,rfl,i,h⟩:=split_at name d m;refine⟨0,a++(name,0,0,s)::b,?_,?_,Rsi d i h,?_,fun q c=>?_⟩
      ·rw[mins_new name i h]
      ·rw[add_all K M P L T A1v A1z ((a++b).map fR) A2R name (s,e) (a.map fR) (b.map fR) (by rw[A2g]) (fun q c=>?_) (fun q c=>?_)]
       ·rw[A2g,kw];rfl
       ·obtain⟨x,hx,rfl⟩:=ut.1 c;exact i x hx
       ·obtain⟨x,hx,rfl⟩:=ut.1 c;exact h x hx
      ·rw[Pi] at hl;rw[Pi,bi];omega
      ·rcases A3P.1 c with c | c
       ·exact h3 q (A2v _ c)
       ·rcases ul.1 c with rfl | c
        ·exact⟨j,by show(0:Int) < A1v;omega,(l f).1,(l f).2⟩
        ·exact h3 q (A2x _ c)
     ·rw[A3p f,A3p f];exact⟨e,ac,rfl,rfl,d,g,h3⟩
theorem slc_a(A:List RU)(x:RU)(B:List RU):Iw (A++x::B) 0 (A.length:Int)=some A:=by
  rw[Ah (by rw[Pi];omega)];simp
theorem slc_b(A:List RU)(x:RU)(B:List RU)(h:A.length<=10000):Iw (A++x::B) (ax ((A.length:Int)+1)) (((A++x::B).length:Nat):Int)=some B:=by
  rw[wS _ Y,Ah (by rw[Pi,bi];omega),ww,ww,A0S,show A.length+1=(A++[x]).length by simp,show A++x::B=(A++[x])++B by simp,List.drop_left]
theorem Inv_del{a b u}(h:Inv A1v (a++u::b)):Inv A1v (a++b):=by
  obtain⟨e,d,h3⟩:=h;refine⟨(Rsu e).2.2,?_,fun q c=>h3 q ?_⟩
  ·rw[Pi,bi] at d;rw[Pi];omega
  ·rcases A3P.1 c with c | c
   ·exact A2v _ c
   ·exact A2x _ (A0P _ c)
theorem Inv_set{a b u v}(h:Inv A1v (a++u::b))(d:v.1=u.1)(j:Good A1v v):Inv A1v (a++v::b):=by
  obtain⟨k,e,h3⟩:=h;obtain⟨i,g,f⟩:=Rsu k;refine⟨Rsi f (by rw[d];exact i) (by rw[d];exact g),?_,fun q c=>?_⟩
  ·rw[Pi,bi] at e ⊢;exact e
  ·rcases A3P.1 c with c | c
   ·exact h3 q (A2v _ c)
   ·rcases ul.1 c with rfl | c
    ·exact j
    ·exact h3 q (A2x _ (A0P _ c))
include hI in
theorem bk_rem(name:AC):∃ e d,uI K M P L T A1v A1z (ac.map fP) name=some (e,K,M,P,L,T,A1v,A1z,d.map fP)/\wL K M P L T A1v A1z (ac.map fR) name=some (e,K,M,P,L,T,A1v,A1z,d.map fR)/\Inv A1v d:=by
  obtain⟨c,f,h3⟩:=id hI;unfold uI jR wL;simp only[A0X];rcases find_ok K M P L T A1v A1z ac Y name with⟨a,u,b,rfl,rfl,g⟩ | ⟨i,h⟩
  ·rw[g,Pj c,mdel_mid c,A0X,A3q (show ¬ (((a.map fR).length:Nat):Int) < 0 by omega),show(a++u::b).map fR=a.map fR++fR u::b.map fR from by rw[A2g,kw]];rw[Pi,bi] at f;rw[slc_a,A0X,iG (by rw[A0L,A0K];omega),A0X,slc_b _ _ _ A2R,A0X,iG (by rw[A37,A0K,A0K];omega),A0X];refine⟨0,a++b,rfl,?_,Inv_del A1v hI⟩;rw[A37,<-A2g]
  ·rw[h,Tu i,A0X,A3p A2H];exact⟨210,ac,rfl,rfl,c,f,h3⟩
include hI in
theorem bk_old(name:AC):∃ v e,yY K M P L T A1v A1z (ac.map fP) name=some (v,e,K,M,P,L,T,A1v,A1z)/\AO K M P L T A1v A1z (ac.map fR) name=some (v,e,K,M,P,L,T,A1v,A1z,ac.map fR):=by
  obtain⟨h,h2,h3⟩:=id hI;unfold yY jR AO;simp only[A0X];rcases find_ok K M P L T A1v A1z ac Y name with⟨a,u,b,rfl,rfl,i⟩ | ⟨k,j⟩
  ·have f:=h3 u A2K;obtain⟨d,y,c⟩:=stale_ok u.2.2.2 (by have:=f.2.2.2;omega) K M P L T;have g:aP ((a++u::b).map fR) (((a.map fR).length:Nat):Int)=some (fR u):=by rw[A2g,kw,XM]
   rw[i,Pj h,A0X,A3q (show ¬ (((a.map fR).length:Nat):Int) < 0 by omega),g,A0X];simp only[Option.isSome_some,A47,A3K,A0h,A3r];rw[d,show(fR u).2.2.2=u.2.2.2 from rfl,c];exact⟨y.1,y.2,rfl,rfl⟩
  ·rw[j,Tu k,A0X,A3p A2H];exact⟨false,210,rfl,rfl⟩
end
end
section
theorem till_ok(a A1z:UInt64):(if a+A1z < a then(18446744073709551615:UInt64) else a+A1z)=a+YK A1z ((18446744073709551615:UInt64) - a):=by
  have hn:=a.toNat_lt;have hh:=A1z.toNat_lt;have e:((18446744073709551615:UInt64) - a).toNat=18446744073709551615 - a.toNat:=by
    rw[UInt64.toNat_sub_of_le]
    ·rfl
    ·rw[A38];show a.toNat<=18446744073709551615;omega
  have b:(a+A1z).toNat=(a.toNat+A1z.toNat) % 18446744073709551616:=A3H a A1z;unfold YK;by_cases h:a.toNat+A1z.toNat < 18446744073709551616
  ·rw[A3q (by rw[A2s,b];omega),A3q (by rw[A2s,e];omega)]
  ·rw[A3p (by rw[A2s,b];omega),A3p (by rw[A2s,e];omega)];rw[<- A2m,A3H,e];show 18446744073709551615=(a.toNat+(18446744073709551615 - a.toNat)) % 18446744073709551616;omega
theorem w0:(0:Int)=ax (((0:UInt64).toNat:Nat):Int):=(bG ⟨A2H,A2H⟩).symm
theorem good0{A1v}(hm:1<=A1v){u}(h:Good A1v u)(un:UInt64):Good A1v (u.1,0,un,u.2.2.2):=⟨h.1,by show(0:Int) < A1v;omega,h.2.2⟩
section
variable (K M P L T A1v:Int)(hm:1<=A1v/\A1v<=100)(A1z:UInt64){ac:List US}(hI:Inv A1v ac)
include hm hI in
theorem bk_login(name w:AC)(c:UInt64):∃ e l,rO K M P L T A1v A1z (ac.map fP) name w c=some (e,K,M,P,L,T,A1v,A1z,l.map fP)/\um K M P L T A1v A1z (ac.map fR) name w c=some (e,K,M,P,L,T,A1v,A1z,l.map fR)/\Inv A1v l/\(e=0->∃ q ∈ l,q.1=name):=by
  obtain⟨x,h2,h3⟩:=id hI;unfold rO jR um;simp only[A0X];rcases find_ok K M P L T A1v A1z ac Y name with⟨a,u,b,rfl,rfl,D⟩ | ⟨F,E⟩
  ·have h:=h3 u A2K;obtain⟨y,A,v2⟩:=verify_ok u.2.2.2 w (by have:=h.2.2.2;omega);have B:ax (u.2.1.toNat:Int)=(u.2.1.toNat:Int):=bG (by have:=h.2.1;omega);have i:(u.2.1+1).toNat=u.2.1.toNat+1:=by
     rw[A3H,show(1:UInt64).toNat=1 from rfl];have:=h.2.1;omega
   have z:(a++u::b).map fR=a.map fR++fR u::b.map fR:=by rw[A2g,kw]
   have m:=fun(t un:UInt64) (j:Int) (p:j=ax t.toNat)=>mins_mid x t un u.2.2.2 j p;have hs:=fun(t un:UInt64) (C:Good A1v (u.1,t,un,u.2.2.2))=>Inv_set A1v (v:=(u.1,t,un,u.2.2.2)) hI rfl C;have r:∀ t un:UInt64,∃ q ∈ a++(u.1,t,un,u.2.2.2)::b,q.1=u.1:=fun t un=>⟨(u.1,t,un,u.2.2.2),A2K,rfl⟩
   have k:∀ (t un:UInt64) (j:Int),j=ax t.toNat->a.map fR++(u.1,j,un,u.2.2.2)::b.map fR=(a++(u.1,t,un,u.2.2.2)::b).map fR:=by
     intro t un j p;rw[A2g,kw,p];rfl
   rw[D,Pj x,A0X,A3q (show ¬ (((a.map fR).length:Nat):Int) < 0 by omega)];simp only[Option.isSome_some,A47,A3K,A0h,A3r];rw[z,XM,A0X,show(fR u).2.2.1=u.2.2.1 from rfl];by_cases g:c < u.2.2.1
   ·rw[A3p g,A3p g];refine⟨212,a++u::b,rfl,by rw[z],hI,fun q=>?_⟩;cases q
   ·rw[A3q g,A3q g,A0X,show(fR u).2.2.2=u.2.2.2 from rfl,A,v2,A0X,A0X];by_cases hy:y.1=true
    ·rw[A3p hy,A3p hy,A0X,smid];unfold lq;rw[m 0 u.2.2.1 0 w0];exact⟨0,a++(u.1,0,u.2.2.1,u.2.2.2)::b,rfl,by rw[<- k 0 u.2.2.1 0 w0];rfl,hs 0 u.2.2.1 (good0 hm.1 h _),fun _=>r 0 u.2.2.1⟩
    ·rw[A3q hy,A3q hy,A0X,A0X,smid,XM,A0X];simp only[];rw[show(fR u).2.1=ax (u.2.1.toNat:Int) from rfl];have o:ax (ax (u.2.1.toNat:Int)+1)=ax (((u.2.1+1).toNat:Nat):Int):=by rw[B,i,show((u.2.1.toNat+1:Nat):Int)=(u.2.1.toNat:Int)+1 by omega]
     have n:ax (((u.2.1+1).toNat:Nat):Int)=(u.2.1.toNat:Int)+1:=by rw[i,bG (by have:=h.2.1;omega)];omega
     rw[o];by_cases d:A1v<=ax (((u.2.1+1).toNat:Nat):Int)
     ·rw[A3p d,A3p d,A0X,smid,XM,A0X,smid,XM,A0X];unfold lq nI;have s:=till_ok c A1z;generalize hX:c+YK A1z ((18446744073709551615:UInt64) - c)=X at *;rw[m 0 X 0 w0];refine⟨211,a++(u.1,0,X,u.2.2.2)::b,rfl,?_,hs 0 X (good0 hm.1 h X),fun q=>(by cases q)⟩;by_cases f:c+A1z < c
      ·rw[A3p f,A0X,smid,<-k 0 _ 0 w0,<-s,A3p f];rfl
      ·rw[A3q f,<-k 0 _ 0 w0,<-s,A3q f];rfl
     ·rw[A3q d,A3q d];unfold lq nI;rw[m (u.2.1+1) u.2.2.1 _ rfl];refine⟨211,a++(u.1,u.2.1+1,u.2.2.1,u.2.2.2)::b,rfl,?_,hs _ _ ⟨h.1,?_,h.2.2⟩,fun q=>(by cases q)⟩
      ·rw[<- k (u.2.1+1) _ _ rfl];rfl
      ·show(((u.2.1+1).toNat:Nat):Int) < A1v;rw[i];rw[n] at d;omega
  ·rw[E,Tu F,A0X,A3p (show(-1:Int) < 0 by decide)];exact⟨210,ac,rfl,rfl,hI,fun q=>(by cases q)⟩
include hm hI in
theorem bk_change(name d w aO:AC)(f:UInt64):∃ e k,uH K M P L T A1v A1z (ac.map fP) name d w aO f=some (e,K,M,P,L,T,A1v,A1z,k.map fP)/\wK K M P L T A1v A1z (ac.map fR) name d w aO f=some (e,K,M,P,L,T,A1v,A1z,k.map fR)/\Inv A1v k:=by
  obtain⟨e,g,t,r,i,j⟩:=bk_login K M P L T A1v hm A1z hI name d f;unfold uH wK;rw[t,r];simp only[A0X];by_cases h:e=0
  ·rw[A3q (fun q=>q h),A3q (fun q=>q h)];obtain⟨s,n,p,o,l⟩:=mk_ok K M P L T w aO;rw[p,o];simp only[A0X];by_cases c:n=0
   ·rw[A3q (fun q=>q c),A3q (fun q=>q c)];obtain⟨g1,g2,y⟩:=id i;rcases find_ok K M P L T A1v A1z g Y name with⟨a,u,b,rfl,rfl,z⟩ | ⟨A,f2⟩
    ·have m:=y u A2K;rw[z,Pj g1,A0X,show(a++u::b).map fR=a.map fR++fR u::b.map fR from by rw[A2g,kw],XM,A0X,smid];simp only[A47];rw[mins_mid g1 u.2.1 u.2.2.1 s _ rfl];refine⟨0,a++(u.1,u.2.1,u.2.2.1,s)::b,rfl,?_,Inv_set A1v (v:=(u.1,u.2.1,u.2.2.1,s)) i rfl ⟨m.1,m.2.1,(l c).1,(l c).2⟩⟩;rw[A2g,kw];rfl
    ·obtain⟨q,x,B⟩:=j h;exact absurd B (A q x)
   ·rw[A3p c,A3p c];exact⟨n,g,rfl,rfl,i⟩
  ·rw[A3p h,A3p h];exact⟨e,g,rfl,rfl,i⟩
end
end
section
theorem tot_mem{α:Type}(w:α->Nat):∀ (l:List α) (x:α),x ∈ l->w x<=Y8 w l
  | y::l,x,h=>by
    unfold Y8;rcases ul.1 h with rfl | h
    ·omega
    ·have:=tot_mem w l x h;omega
abbrev Opy:=Int×AC×AC×AC×AC×UInt64
def wtY (a:Opy):Nat:=max a.2.1.length (max a.2.2.1.length (max a.2.2.2.1.length (a.2.2.2.2.1.length)))
section
variable (K M P L T A1v:Int)(hm:1<=A1v/\A1v<=100)(hn:Ui K M P L T A1v=0)(A1z:UInt64)
include hm hn in
theorem bk_step{ac}(hI:Inv A1v ac)(w:Int)(nm d nx sl:AC)(b:UInt64)(f:nm.length<=4194304):∃ a,Inv A1v a /\
    (Gq K M P L T A1v A1z (ac.map fP) K M P L T A1v A1z (ac.map fR) w nm d nx sl b=some (.inl (K,M,P,L,T,A1v,A1z,a.map fP,true,K,M,P,L,T,A1v,A1z,a.map fR)) ∨
     Gq K M P L T A1v A1z (ac.map fP) K M P L T A1v A1z (ac.map fR) w nm d nx sl b=some (.inr (.inr (K,M,P,L,T,A1v,A1z,a.map fP,true,K,M,P,L,T,A1v,A1z,K,M,P,L,T,A1v,A1z,a.map fR)))):=by
  unfold Gq;by_cases m:w=0
  ·obtain⟨e,a,a1,a2,c⟩:=bk_add K M P L T A1v hm A1z hI nm d sl f;refine⟨a,c,.inl ?_⟩;rw[A3p m,a1,A0X,a2,A0X];simp only[decide_true]
  rw[A3q m];by_cases l:w=1
  ·obtain⟨e,a,a1,a2,c,_⟩:=bk_login K M P L T A1v hm A1z hI nm d b;refine⟨a,c,.inl ?_⟩;rw[A3p l,a1,A0X,a2,A0X];simp only[decide_true]
  rw[A3q l];by_cases k:w=2
  ·obtain⟨e,a,a1,a2,c⟩:=bk_change K M P L T A1v hm A1z hI nm d nx sl b;refine⟨a,c,.inl ?_⟩;rw[A3p k,a1,A0X,a2,A0X];simp only[decide_true]
  rw[A3q k];by_cases h3:w=3
  ·obtain⟨e,a,a1,a2,c⟩:=bk_rem K M P L T A1v A1z hI nm;refine⟨a,c,.inl ?_⟩;rw[A3p h3,a1,A0X,a2,A0X];simp only[decide_true]
  rw[A3q h3];by_cases j:w=4
  ·obtain⟨v,e,a1,a2⟩:=bk_old K M P L T A1v A1z hI nm;refine⟨ac,hI,.inl ?_⟩;rw[A3p j,a1,A0X,a2,A0X];simp only[decide_true,Bool.and_self]
  rw[A3q j];have hl:ac.length<=4000000:=by have:=hI.2.1;omega
  by_cases i:w=5
  ·refine⟨ac,hI,.inl ?_⟩;rw[A3p i,ZV K M P L T A1v A1z ac hI.1 hl,A0X,names_r K M P L T A1v A1z ac hl,A0X]
  rw[A3q i];by_cases h:w=6
  ·refine⟨ac,hI,.inl ?_⟩;rw[A3p h,text_p K M P L T A1v hm A1z hI,A0X,text_r K M P L T A1v hm A1z hI,A0X];simp only[decide_true]
  rw[A3q h];by_cases g:w=7
  ·refine⟨ac,hI,.inr ?_⟩;rw[A3p g,text_p K M P L T A1v hm A1z hI,A0X,back_ok K M P L T A1v hm A1z hI hn,A0X];simp only[A3C,decide_true,Bool.and_self]
  ·refine⟨ac,hI,.inl ?_⟩;rw[A3q g]
include hm hn in
theorem bk_run(A29:List Opy)(h1:Y8 wtY A29<=1048576)(h2:A29.length<=1048576):∀ (m i:Nat) (ac:List US),i+m=A29.length->Inv A1v ac ->
    aT (qF A29) (K,M,P,L,T,A1v,A1z,ac.map fP,K,M,P,L,T,A1v,A1z,ac.map fR,(i:Int))=some true:=by
  intro m
  induction m with
  | zero =>
    intro i ac c hI;have hl:ac.length<=4000000:=by have:=hI.2.1;omega
    refine dm ?_;simp only[qF];rw[A3q Y,ZV K M P L T A1v A1z ac hI.1 hl,A0X,names_r K M P L T A1v A1z ac hl,A0X,A3p rfl];simp only[];rw[text_p K M P L T A1v hm A1z hI,A0X,text_r K M P L T A1v hm A1z hI,A0X];simp only[decide_true];rfl
  | succ m ih =>
    intro i ac c hI;have a:i < A29.length:=Y
    have hw:=tot_mem wtY A29 A29[i] (List.getElem_mem a);have hwn:A29[i].2.1.length<=wtY A29[i]:=Nat.le_max_left _ _;obtain⟨b,d,hs⟩:=bk_step K M P L T A1v hm hn A1z hI A29[i].1 A29[i].2.1 A29[i].2.2.1 A29[i].2.2.2.1 A29[i].2.2.2.2.1 A29[i].2.2.2.2.2 Y;have e:qF A29 (K,M,P,L,T,A1v,A1z,ac.map fP,K,M,P,L,T,A1v,A1z,ac.map fR,(i:Int))=some (.inl (K,M,P,L,T,A1v,A1z,b.map fP,K,M,P,L,T,A1v,A1z,b.map fR,((i+1:Nat):Int))):=by
      simp only[qF];rw[A3p Y,fG a,A0X];rcases hs with hs | hs
      ·rw[hs,A0X];simp only[A3E,A3K,A0h,A3r];rw[wS _ Y]
      ·rw[hs,A0X];simp only[A3C,A3K,A0h,A3r];rw[wS _ Y]
    rw[iJ e,ih (i+1) b Y d]
end
theorem Vb(K:Int)(_:-9223372036854775808<=K/\K<=9223372036854775807)(M:Int)(_:-9223372036854775808<=M/\M<=9223372036854775807)(P:Int)(_:-9223372036854775808<=P/\P<=9223372036854775807)(L:Int)(_:-9223372036854775808<=L/\L<=9223372036854775807)(T:Int)(_:-9223372036854775808<=T/\T<=9223372036854775807)(A1v:Int)(_:-9223372036854775808<=A1v/\A1v<=9223372036854775807)(A1z:UInt64)(A29:List (Int×AC×AC×AC×AC×UInt64))(c:Y8 wtY A29<=1048576)(b:A29.length<=1048576):Dp K M P L T A1v A1z A29=some true:=by
  unfold Dp;rw[awake_ok,new_p,valid_r];simp only[A0X,A3K,A0h,A3r];by_cases h:Ui K M P L T A1v=0
  ·rw[A3q (fun q=>q h)];simp only[A3C,A0X];rw[h,A3q A2H];exact bk_run K M P L T A1v (YG h) h A1z A29 c b A29.length 0 [] Y ⟨List.Pairwise.nil,A2K,fun q a=>(by cases a)⟩
  ·rw[A3p h];simp only[A3E,A0X];rw[A3q (by simp[h])]
end
end Go.Sx
