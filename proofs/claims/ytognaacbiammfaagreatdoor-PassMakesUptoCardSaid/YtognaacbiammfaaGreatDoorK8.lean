import Derived.Test.YtognaacbiammfaaGreatDoorK7
namespace Go.Sx
open Go.RowKit
set_option linter.unusedVariables false
set_option linter.unusedSimpArgs false
def FdB (lane k l c:Nat):Prop:=(l < lane/\c < 2)∨(l=lane/\c < k)
section
variable (K M P L T:Nat)(hm:uA K M P L T)(start:List UInt8)(hs:start.length=64)
include hm hs in
theorem rbeg1 (f:List (List UInt8))(l:Nat)(hl:l < L)(hM:H6 L (4*dU M L) f (Ec start) (FdB l 0)) :
    ∃ f',aZ (v_ start (((4*dU M L:Nat):Int),0) (l:Int)) (f,0)=some (.inl (f',((l+1:Nat):Int)))/\H6 L (4*dU M L) f' (Ec start) (FdB (l+1) 0):=by
  have hb:=oC K M P L T hm;obtain⟨_,hL1,hL2,_⟩:=nT K M P L T hm;have hin:∀ c:Nat,c < 2->((([]++start)++S4 c)++S4 l).length<=11000000:=fun c _=>by simp[CQ,hs]
  obtain⟨r,h1,f',rfl,h2⟩:=nJ (f:=v_ start (((4*dU M L:Nat):Int),0) (l:Int)) (fun i s=>∃ f',s=(f',(i:Int))/\i<=2/\H6 L (4*dU M L) f' (Ec start) (FdB l i)) (fun r=>∃ f',r=.inl (f',((l+1:Nat):Int))/\H6 L (4*dU M L) f' (Ec start) (FdB (l+1) 0)) 2 (by
    rintro c s ⟨f1,rfl,hx,hM1⟩;by_cases hlt:c < 2
    ·refine .inl ⟨hlt,?_⟩;unfold v_;simp only[];rw[if_pos (by omega),gJ (by simp;omega)];simp only[Option.bind_some];rw[Q9 c (by omega)];simp only[Option.bind_some];rw[gJ (by simp[CQ];omega)];simp only[Option.bind_some];rw[Q9 l (by omega)];simp only[Option.bind_some];rw[gJ (by simp[CQ];omega)];simp only[Option.bind_some];rw[show(1024:Int)=((1024:Nat):Int) from rfl,rHash 1024 (by omega) (by omega) _ (hin c hlt)];simp only[Option.bind_some];rw[H6.idx hl (show c < 4*dU M L from by omega) hb.2.2 _ rfl,fG (by rw[hM1.1];exact Ri hl (by omega))];simp only[Option.bind_some];rw[bQ c (by omega),Int.toNat_natCast];refine⟨_,rfl,_,rfl,by omega,?_⟩;have e:Ew 1024 ((([]++start)++S4 c)++S4 l)=Ec start l c:=by unfold Ec;rw[if_pos hlt];rfl
     have h:=hM1.set (Fe:=FdB l (c+1)) hl (show c < 4*dU M L from by omega) (Xp start hs l c) fun a d h=>by unfold FdB at h ⊢;omega
     rw[upd_same] at h;rw[e];exact h
    ·right;obtain rfl:c=2:=by omega
     unfold v_;simp only[];rw[if_neg (by omega),bQ l (by omega)];exact⟨_,rfl,f1,rfl,hM1.mono fun a _ d _ h=>by unfold FdB at h ⊢;omega⟩) _ ⟨f,rfl,Nat.zero_le _,hM⟩
  exact⟨f',h1,h2⟩
include hm in
theorem rslice (pass slice:Nat)(hp:pass < P)(h3:slice<=3)(f:List (List UInt8))(mem:Mem)(hM:H6 L (4*dU M L) f mem (L8 (dU M L) pass slice 0 0)) :
    ∃ f',aZ (wo K M P L T (((4*dU M L:Nat):Int),0) (pass:Int) (slice:Int)) (f,0)=some (.inl (f',((slice+1:Nat):Int)))/\H6 L (4*dU M L) f' (LY K M P L pass slice mem) (L8 (dU M L) pass (slice+1) 0 0):=by
  obtain⟨_,hL1,hL2,_⟩:=nT K M P L T hm;obtain⟨r,h1,f',rfl,h2⟩:=nJ (f:=wo K M P L T (((4*dU M L:Nat):Int),0) (pass:Int) (slice:Int)) (fun i s=>∃ f',s=(f',(i:Int))/\i<=L/\H6 L (4*dU M L) f' ((List.range i).foldl (fun mem lane=>Gz K M P L pass slice lane mem) mem) (L8 (dU M L) pass slice i 0)) (fun r=>∃ f',r=.inl (f',((slice+1:Nat):Int))/\H6 L (4*dU M L) f' (LY K M P L pass slice mem) (L8 (dU M L) pass (slice+1) 0 0)) L (by
    rintro l s ⟨f1,rfl,hx,hM1⟩;by_cases hlt:l < L
    ·refine .inl ⟨hlt,?_⟩;obtain⟨f2,e1,e2⟩:=rfill K M P L T hm pass slice l hp h3 hlt f1 _ hM1;unfold wo;simp only[];rw[if_pos (by omega),e1];simp only[Option.bind_some];rw[bQ l (by omega)];refine⟨_,rfl,f2,rfl,by omega,?_⟩;rw[fold_succ];exact e2.mono fun a _ d _ h=>by unfold L8 at h ⊢;omega
    ·right;obtain rfl:l=L:=by omega
     unfold wo;simp only[];rw[if_neg (by omega),bQ slice (by omega)];refine⟨_,rfl,f1,rfl,hM1.mono fun a ha d _ h=>?_⟩;unfold L8 at h ⊢;rw[Nat.succ_mul] at h;omega) _ ⟨f,rfl,Nat.zero_le _,hM⟩
  exact⟨f',h1,h2⟩
include hm in
theorem rpass (pass:Nat)(hp:pass < P)(f:List (List UInt8))(mem:Mem)(hM:H6 L (4*dU M L) f mem (L8 (dU M L) pass 0 0 0)) :
    ∃ f',aZ (wu K M P L T (((4*dU M L:Nat):Int),0) (pass:Int)) (f,0)=some (.inl (f',((pass+1:Nat):Int)))/\H6 L (4*dU M L) f' (Rk K M P L pass mem) (L8 (dU M L) (pass+1) 0 0 0):=by
  obtain⟨_,_,_,_,hP,_⟩:=nT K M P L T hm;obtain⟨r,h1,f',rfl,h2⟩:=nJ (f:=wu K M P L T (((4*dU M L:Nat):Int),0) (pass:Int)) (fun i s=>∃ f',s=(f',(i:Int))/\i<=4/\H6 L (4*dU M L) f' ((List.range i).foldl (fun mem slice=>LY K M P L pass slice mem) mem) (L8 (dU M L) pass i 0 0)) (fun r=>∃ f',r=.inl (f',((pass+1:Nat):Int))/\H6 L (4*dU M L) f' (Rk K M P L pass mem) (L8 (dU M L) (pass+1) 0 0 0)) 4 (by
    rintro l s ⟨f1,rfl,hx,hM1⟩;by_cases hlt:l < 4
    ·refine .inl ⟨hlt,?_⟩;obtain⟨f2,e1,e2⟩:=rslice K M P L T hm pass l hp (by omega) f1 _ hM1;unfold wu;simp only[];rw[if_pos (by omega)];exact⟨_,e1,f2,rfl,by omega,by rw[fold_succ];exact e2⟩
    ·right;obtain rfl:l=4:=by omega
     unfold wu;simp only[];rw[if_neg (by omega),bQ pass (by omega)];refine⟨_,rfl,f1,rfl,hM1.mono fun a ha d hd h=>?_⟩;unfold L8;omega) _ ⟨f,rfl,Nat.zero_le _,hM⟩
  exact⟨f',h1,h2⟩
include hm hs in
theorem rFillA:∃ f,FI K M P L T start=some (f,0)/\H6 L (4*dU M L) f (allM K M P L (Ec start)) (fun _ _=>True):=by
  have hb:=oC K M P L T hm;obtain⟨_,hL1,hL2,hP1,hP,_⟩:=nT K M P L T hm;unfold FI;rw[rcol K M P L T hm];simp only[Option.bind_some,ne_eq,not_true_eq_false,if_false];rw[if_neg (by omega),show(L:Int)*((4*dU M L:Nat):Int)=((L*(4*dU M L):Nat):Int) from by simp,bz (by omega),jo (by rw[Int.toNat_natCast];omega)];simp only[Option.bind_some];rw[Int.toNat_natCast];have hpass:∀ f:List (List UInt8),H6 L (4*dU M L) f (Ec start) (FdB L 0)->∃ f',aZ (wz K M P L T (((4*dU M L:Nat):Int),0)) (f,0)=some (f',0)/\H6 L (4*dU M L) f' (allM K M P L (Ec start)) (fun _ _=>True):=by
    intro f hf;have hf0:H6 L (4*dU M L) f (Ec start) (L8 (dU M L) 0 0 0 0):=hf.mono fun a ha d hd h=>by
      unfold L8 at h;rw[Nat.zero_mul] at h;unfold FdB;omega
    obtain⟨r,h1,f',rfl,h2⟩:=nJ (f:=wz K M P L T (((4*dU M L:Nat):Int),0)) (fun i s=>∃ f',s=(f',(i:Int))/\i<=P/\H6 L (4*dU M L) f' ((List.range i).foldl (fun mem pass=>Rk K M P L pass mem) (Ec start)) (L8 (dU M L) i 0 0 0)) (fun r=>∃ f',r=(f',(0:Int))/\H6 L (4*dU M L) f' (allM K M P L (Ec start)) (fun _ _=>True)) P (by
      rintro l s ⟨f1,rfl,hx,hM1⟩;by_cases hlt:l < P
      ·refine .inl ⟨hlt,?_⟩;obtain⟨f2,e1,e2⟩:=rpass K M P L T hm l hlt f1 _ hM1;unfold wz;simp only[];rw[if_pos (by omega)];exact⟨_,e1,f2,rfl,by omega,by rw[fold_succ];exact e2⟩
      ·right;obtain rfl:l=P:=by omega
       unfold wz;simp only[];rw[if_neg (by omega)];exact⟨_,rfl,f1,rfl,hM1.mono fun a ha d hd h=>.inl (by omega)⟩) _ ⟨f,rfl,Nat.zero_le _,hf0⟩
    exact⟨f',h1,h2⟩
  obtain⟨r,h1,f',rfl,h2⟩:=nJ (f:=yS K M P L T start (((4*dU M L:Nat):Int),0)) (fun i s=>∃ f',s=(f',(i:Int))/\i<=L/\H6 L (4*dU M L) f' (Ec start) (FdB i 0)) (fun r=>∃ f',r=(f',(0:Int))/\H6 L (4*dU M L) f' (allM K M P L (Ec start)) (fun _ _=>True)) L (by
    rintro l s ⟨f1,rfl,hx,hM1⟩;by_cases hlt:l < L
    ·refine .inl ⟨hlt,?_⟩;obtain⟨f2,e1,e2⟩:=rbeg1 K M P L T hm start hs f1 l hlt hM1;unfold yS;simp only[];rw[if_pos (by omega)];exact⟨_,e1,f2,rfl,by omega,e2⟩
    ·right;obtain rfl:l=L:=by omega
     obtain⟨f2,e1,e2⟩:=hpass f1 hM1;unfold yS;simp only[];rw[if_neg (by omega)];exact⟨_,congrArg (Option.map Sum.inr) e1,f2,rfl,e2⟩) _ ⟨List.replicate (L*(4*dU M L)) [],rfl,Nat.zero_le _,⟨by simp,fun l _ c _=>Xp start hs l c,fun l _ c _ h=>by unfold FdB at h;omega⟩⟩
  exact⟨f',h1,h2⟩
include hm in
theorem rHashA (w aQ:List UInt8)(hw:w.length<=65536)(hsl:8<=aQ.length/\aQ.length<=64):uP K M P L T w aQ [] []=some (Ew T (RZ M L (allM K M P L (Ec (PW 64 (U7 K M P L T w aQ)))) L),0):=by
  have hb:=oC K M P L T hm;obtain⟨_,hL1,hL2,_,_,hT1,hT2,_⟩:=nT K M P L T hm;have hst:=BJ 64 (by omega) (by omega) _ (hdr_le K M P L T w aQ hw hsl.2);unfold uP;rw[rStartA K M P L T hm w aQ hw hsl];simp only[Option.bind_some,ne_eq,not_true_eq_false,if_false];generalize PW 64 (U7 K M P L T w aQ)=start at hst ⊢;obtain⟨f,e1,hM⟩:=rFillA K M P L T hm start hst;rw[e1,rcol K M P L T hm];simp only[Option.bind_some];generalize allM K M P L (Ec start)=mem at hM ⊢;have hlen:=Rn M L mem fun l hl=>hM.2.1 l hl _ (show 4*dU M L - 1 < 4*dU M L from by omega);rw[U_];refine gZ (fun i=>(RZ M L mem i,(i:Int))) L (fun l hl=>?_) ?_
  ·unfold Dh;simp only[];have hi:ay ((ay ((ay ((l:Int)*((4*dU M L:Nat):Int)))+((4*dU M L:Nat):Int))) - 1)=((l*(4*dU M L)+(4*dU M L - 1):Nat):Int):=by
     have h2:l*(4*dU M L)<=L*(4*dU M L):=Nat.mul_le_mul_right _ (by omega);rw[show(l:Int)*((4*dU M L:Nat):Int)=((l*(4*dU M L):Nat):Int) from by simp,bz (n:=((l*(4*dU M L):Nat):Int)) (by omega),bz (n:=((l*(4*dU M L):Nat):Int)+_) (by omega),bz (by omega)];omega
   rw[if_pos (by omega),hi,MI (hM.2.2 l hl _ (by omega) trivial)];simp only[Option.bind_some];rw[rXor _ _ (hlen l (by omega)) (hM.2.1 l hl _ (by omega))];simp only[Option.bind_some];rw[bQ l (by omega)];unfold RZ;rw[fold_succ]
  ·unfold Dh;simp only[];rw[if_neg (by omega),rHash T (by omega) (by omega) _ (by rw[hlen L (Nat.le_refl _)];omega)];rfl
include hm in
theorem wHashA (w aQ:List UInt8)(hw:w.length<=65536)(hsl:8<=aQ.length/\aQ.length<=64):rZ K M P L T w aQ [] []=some (Ew T (RZ M L (allM K M P L (Ec (PW 64 (U7 K M P L T w aQ)))) L),0)/\(Ew T (RZ M L (allM K M P L (Ec (PW 64 (U7 K M P L T w aQ)))) L)).length=T:=by
  have hb:=oC K M P L T hm;obtain⟨_,hL1,hL2,_,_,hT1,hT2,_⟩:=nT K M P L T hm;have hst:=BJ 64 (by omega) (by omega) _ (hdr_le K M P L T w aQ hw hsl.2);unfold rZ AY;rw[ZJ K M P L T hm w aQ hw hsl];simp only[Option.bind_some,ne_eq,not_true_eq_false,if_false];generalize PW 64 (U7 K M P L T w aQ)=start at hst ⊢;obtain⟨m,e1,hM⟩:=wbegin K M P L T hm start hst;rw[e1];simp only[Option.bind_some];obtain⟨m2,e2,hM2⟩:=wall K M P L T hm m _ hM;rw[e2];simp only[Option.bind_some];rw[wtag K M P L T hm m2 _ hM2];refine⟨rfl,S_ T (by omega) (by omega) _ ?_⟩;rw[Rn M L _ (fun l hl=>hM2.len hl (show 4*dU M L - 1 < 4*dU M L from by omega)) L (Nat.le_refl _)];omega
end
def BO (K M P L T:Int)(nw ns:Nat):Int:=if uA K M P L T then(if 65536 < nw then 2 else if ns < 8∨64 < ns then 201 else 0) else 200
theorem ZL (K M P L T:Int)(nw ns:Nat)(h:BO K M P L T nw ns≠0):(¬ uA K M P L T/\BO K M P L T nw ns=200)∨(uA K M P L T/\65536 < nw/\BO K M P L T nw ns=2)∨(uA K M P L T/\¬ 65536 < nw/\(ns < 8∨64 < ns)/\BO K M P L T nw ns=201):=by
  unfold BO at h ⊢;by_cases hm:uA K M P L T
  ·rw[if_pos hm] at h ⊢;by_cases hw:65536 < nw
   ·rw[if_pos hw];exact .inr (.inl ⟨hm,hw,rfl⟩)
   ·rw[if_neg hw] at h ⊢;by_cases hs:ns < 8∨64 < ns
    ·rw[if_pos hs];exact .inr (.inr ⟨hm,hw,hs,rfl⟩)
    ·rw[if_neg hs] at h;exact absurd rfl h
  ·rw[if_neg hm];exact .inl ⟨hm,rfl⟩
theorem Rq (K M P L T:Int)(w aQ:List UInt8)(h:BO K M P L T w.length aQ.length≠0):nS K M P L T w aQ [] []=some ([],BO K M P L T w.length aQ.length):=by
  unfold nS;rw[YF,UU];simp only[Option.bind_some];rcases ZL K M P L T _ _ h with⟨hm,e⟩ | ⟨hm,hw,e⟩ | ⟨hm,hw,hs,e⟩
  ·rw[e,if_pos (by rw[decide_eq_false hm];rfl)]
  ·rw[e,if_neg (by rw[decide_eq_true hm];decide),if_pos (by omega)]
  ·have hc:EY K M P L T aQ.length=201:=by unfold EY;rw[if_pos hm,if_pos hs]
   rw[e,if_neg (by rw[decide_eq_true hm];decide),if_neg (by omega),if_pos (by rw[hc];decide)]
theorem YK (K M P L T:Int)(w aQ:List UInt8)(h:BO K M P L T w.length aQ.length≠0):xu K M P L T w aQ [] []=some ([],BO K M P L T w.length aQ.length):=by
  have hi:yh K M P L T w aQ [] []=some (BO K M P L T w.length aQ.length):=by
    unfold yh;rw[Q_,Q5];simp only[Option.bind_some];rcases ZL K M P L T _ _ h with⟨hm,e⟩ | ⟨hm,hw,e⟩ | ⟨hm,hw,hs,e⟩
    ·rw[e,if_neg hm,if_pos (by decide)]
    ·rw[e,if_pos hm,if_neg (by decide),if_pos (by omega)]
    ·have hc:EY K M P L T aQ.length=201:=by unfold EY;rw[if_pos hm,if_pos hs]
     rw[e,if_pos hm,if_neg (by decide),if_neg (by omega),if_pos (by rw[hc];decide)]
  unfold xu;rw[hi];simp only[Option.bind_some];rw[if_pos h]
theorem may_cast {K M P L T:Int}(hm:uA K M P L T):∃ k m p l t:Nat,K=k/\M=m/\P=p/\L=l/\T=t:=by
  unfold uA at hm;exact⟨K.toNat,M.toNat,P.toNat,L.toNat,T.toNat,by omega,by omega,by omega,by omega,by omega⟩
theorem hErr0 {K M P L T:Int}{nw ns:Nat}(h:BO K M P L T nw ns=0):uA K M P L T/\nw<=65536/\8<=ns/\ns<=64:=by
  unfold BO at h;split at h
  ·rename_i hm;split at h
   ·cases h
   ·split at h
    ·cases h
    ·exact⟨hm,by omega,by omega,by omega⟩
  ·cases h
theorem Xq (K M P L T:Int)(w aQ:List UInt8):∃ x,rZ K M P L T w aQ [] []=some (x,BO K M P L T w.length aQ.length)/\uP K M P L T w aQ [] []=some (x,BO K M P L T w.length aQ.length)/\(BO K M P L T w.length aQ.length=0->(x.length:Int)=T)/\(BO K M P L T w.length aQ.length≠0->x=[])/\(BO K M P L T w.length aQ.length=0->∃ h,nS K M P L T w aQ [] []=some (h,0)):=by
  by_cases h:BO K M P L T w.length aQ.length=0
  ·obtain⟨hm,hw,h8,h64⟩:=hErr0 h;obtain⟨k,m,p,l,t,rfl,rfl,rfl,rfl,rfl⟩:=may_cast hm;obtain⟨e1,e2⟩:=wHashA k m p l t hm w aQ hw ⟨h8,h64⟩;rw[h];exact⟨_,e1,rHashA k m p l t hm w aQ hw ⟨h8,h64⟩,fun _=>by rw[e2],fun q=>absurd rfl q,fun _=>⟨_,ZJ k m p l t hm w aQ hw ⟨h8,h64⟩⟩⟩
  ·have e1:=Rq K M P L T w aQ h;have e2:=YK K M P L T w aQ h;refine⟨[],?_,?_,fun q=>absurd q h,fun _=>rfl,fun q=>absurd q h⟩
   ·unfold rZ AY;rw[e1];simp only[Option.bind_some];rw[if_pos h];rfl
   ·unfold uP;rw[e2];simp only[Option.bind_some];rw[if_pos h]
end Go.Sx
namespace Go.Sx
open Go.RowKit
set_option linter.unusedVariables false
set_option linter.unusedSimpArgs false
theorem print0 {K M P L T:Int}{aQ sum s:List UInt8}(h:G5 K M P L T aQ sum=(s,0)):EY K M P L T aQ.length=0/\((sum.length:Nat):Int)=T:=by
  unfold G5 at h;split at h
  ·rename_i q;exact absurd (congrArg Prod.snd h) q
  ·rename_i q;split at h
   ·have:=congrArg Prod.snd h;cases this
   ·rename_i q2;exact⟨Decidable.of_not_not q,Decidable.of_not_not q2⟩
theorem make_ok2 (K M P L T:Int)(w aQ:List UInt8):∃ x,uP K M P L T w aQ [] []=some (x,BO K M P L T w.length aQ.length)/\(BO K M P L T w.length aQ.length=0->(x.length:Int)=T) /\
    DT K M P L T w aQ=some (if BO K M P L T w.length aQ.length≠0 then([],BO K M P L T w.length aQ.length) else G5 K M P L T aQ x) /\
    FK K M P L T w aQ=some (if BO K M P L T w.length aQ.length≠0 then([],BO K M P L T w.length aQ.length) else G5 K M P L T aQ x):=by
  obtain⟨x,e1,e2,e3,_,_⟩:=Xq K M P L T w aQ;refine⟨x,e2,e3,?_,?_⟩
  ·unfold DT;rw[e1];simp only[Option.bind_some];by_cases h:BO K M P L T w.length aQ.length≠0
   ·rw[if_pos h,if_pos h]
   ·rw[if_neg h,if_neg h,print_p];rfl
  ·unfold FK;rw[e2];simp only[Option.bind_some];by_cases h:BO K M P L T w.length aQ.length≠0
   ·rw[if_pos h,if_pos h]
   ·rw[if_neg h,if_neg h,print_r];rfl
theorem verify_ok (s w:List UInt8)(hs:s.length<=4194304):∃ y,yT s w=some y/\Bf s w=some y:=by
  obtain⟨K,M,P,L,T,aQ,sum,at_,e,hp⟩:∃ K M P L T aQ sum at_ e,uU s=(K,M,P,L,T,aQ,sum,at_,e):=⟨_,_,_,_,_,_,_,_,_,rfl⟩
  have hl:=parse_len s;have ht:=YG s;unfold yT Bf;rw[UX s hs,Zz s hs];rw[hp] at hl ht ⊢;simp only[Option.bind_some] at hl ht ⊢;by_cases h:e≠0
  ·rw[if_pos h,if_pos h];exact⟨_,rfl,rfl⟩
  ·have h0:e=0:=Decidable.of_not_not h;subst h0;rw[if_neg h,if_neg h];obtain⟨hc,hT⟩:=print0 (ht rfl);obtain⟨x,e1,e2,e3,e4,e5⟩:=Xq K M P L T w aQ;unfold Be;rw[e2];simp only[Option.bind_some];by_cases he:BO K M P L T w.length aQ.length=0
   ·obtain⟨g,hg⟩:=e5 he;have hx:=e3 he;rw[hg];simp only[Option.bind_some];rw[if_neg (show ¬ ((0:Int)≠0) by decide),if_neg (show ¬ (((sum.length:Nat):Int)≠T) by rw[hT];simp),e1];simp only[Option.bind_some];rw[if_neg (show ¬ (BO K M P L T w.length aQ.length≠0) by rw[he];decide)];obtain⟨hm,h8,h64⟩:=chk0 hc;unfold uA at hm;unfold Gs;rw[rsame _ _ (by omega),he];exact⟨_,rfl,rfl⟩
   ·rw[Rq K M P L T w aQ he];simp only[Option.bind_some];rw[if_pos he,if_pos he];exact⟨_,rfl,rfl⟩
theorem stale_ok (s:List UInt8)(hs:s.length<=4194304)(K M P L T:Int):Bg s K M P L T=zU s K M P L T/\∃ y,zU s K M P L T=some y:=by
  unfold Bg zU;rw[UX s hs,Zz s hs];simp only[Option.bind_some];rw[UU,Q5];simp only[Option.bind_some];refine⟨trivial,?_⟩;split
  ·exact⟨_,rfl⟩
  ·split
   ·exact⟨_,rfl⟩
   ·exact⟨_,rfl⟩
theorem PD (K M P L T:Int)(w aQ s:List UInt8)(K2 M2 P2 L2 T2:Int)(hs:s.length<=1048576):zi K M P L T w aQ s K2 M2 P2 L2 T2=some true:=by
  obtain⟨x,_,_,e1,e2⟩:=make_ok2 K M P L T w aQ;obtain⟨y,e3,e4⟩:=verify_ok s w (by omega);obtain⟨e5,z,e6⟩:=stale_ok s (by omega) K2 M2 P2 L2 T2;unfold zi;rw[e1,e2];simp only[Option.bind_some];rw[if_neg (by simp),e3,e4];simp only[Option.bind_some];rw[if_neg (by simp),e5,e6];simp only[Option.bind_some];rw[if_pos (by simp),awake_ok];rfl
end Go.Sx
