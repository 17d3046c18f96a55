import Derived.Test.YtpmdigdlcejkaaaGreatDoorK8
namespace Go.Sx
open Go.RowKit
set_option linter.unusedVariables false
set_option linter.unusedSimpArgs false
section
def dv (c:UInt8):UInt64:=UInt64.ofNat (c - 48).toNat
def U_ (c:UInt8):Bool:=decide ((48:UInt8)<=c)&&decide (c<=57)
def pW:AC->Bool->UInt64->UInt64×Nat×Bool
  | [],st,v=>(v,0,st)
  | c::l,st,v=>if U_ c=true then(if((st&&decide (v=0))||decide (((18446744073709551615:UInt64) - dv c) / 10 < v))=true then(0,0,false) else((pW l true (10*v+dv c)).1,(pW l true (10*v+dv c)).2.1+1,(pW l true (10*v+dv c)).2.2)) else(v,0,st)
theorem numS_le:∀(l:AC)(a:Bool)(v:UInt64),(pW l a v).2.1<=l.length
  | [],a,v=>A2f _
  | c::l,a,v=>by
    unfold pW;split
    ·split
     ·exact A2p _
     ·have:=numS_le l true (10*v+dv c);simp only[bi];omega
    ·exact A2p _
def rH (s:AC)(a:Nat)(ok:Bool):UInt64×Nat×Bool:=if ok=true then((pW (s.drop a) false 0).1,a+(pW (s.drop a) false 0).2.1,(pW (s.drop a) false 0).2.2) else(0,a,false)
theorem KO(s:AC)(a:Nat)(ok:Bool)(b:a<=s.length):(rH s a ok).2.1<=s.length:=by
  unfold rH;split
  ·have:=numS_le (s.drop a) false 0;rw[A0m] at this;show a+_<=_;omega
  ·exact b
theorem YB(c:UInt8)(h:U_ c=true):(dv c).toNat<=9:=by
  have key:∀ n:Nat,n < 256->U_ (UInt8.ofNat n)=true->(dv (UInt8.ofNat n)).toNat<=9:=by decide +kernel
  have:=LY (p:=fun c=>U_ c=true->(dv c).toNat<=9) key c;exact this h
theorem num_in(v:UInt64)(c:UInt8)(h:U_ c=true)(a:¬ ((18446744073709551615:UInt64) - dv c) / 10 < v):(10*v+dv c).toNat=10*v.toNat+(dv c).toNat:=by
  have h9:=YB c h;have hs:((18446744073709551615:UInt64) - dv c).toNat=18446744073709551615 - (dv c).toNat:=by
    rw[UInt64.toNat_sub_of_le _ _ (A38.2 (by show(dv c).toNat<=18446744073709551615;omega))];rfl
  have hd:(((18446744073709551615:UInt64) - dv c) / 10).toNat=(18446744073709551615 - (dv c).toNat) / 10:=by
    rw[A46,hs];rfl
  have hle:v.toNat<=(18446744073709551615 - (dv c).toNat) / 10:=by
    rcases A3A ((18446744073709551615 - (dv c).toNat) / 10) v.toNat with q | q
    ·exact absurd (A2s.2 (by rw[hd];exact q)) a
    ·exact q
  rw[A3H,A44,show(10:UInt64).toNat=10 from rfl];omega
section
variable (s:AC)(hs:s.length<=4194304)
include hs
theorem num_p(a:Nat)(ha:a<=s.length)(ok:Bool):lZ s (a:Int) ok=some ((rH s a ok).1,s,((rH s a ok).2.1:Int),(rH s a ok).2.2):=by
  have key:∀ (j p:Nat) (v:UInt64),p+j=s.length->a<=p->aT (lh s (a:Int)) ((p:Int),v)=some ((pW (s.drop p) (decide (a < p)) v).1,s,((p+(pW (s.drop p) (decide (a < p)) v).2.1:Nat):Int),(pW (s.drop p) (decide (a < p)) v).2.2):=by
    intro j
    induction j with
    | zero =>
      intro p v hp i;obtain rfl:p=s.length:=by omega
      rw[List.drop_length];refine dm ?_;unfold lh;dsimp only;have h:decide ((s.length:Int) < (s.length:Int))=false:=A0Z Y;rw[h,gif0 _ rfl,A0X,A43,gif0 _ rfl,A0X,A3q A2H];rw[show decide ((a:Int) < (s.length:Int))=decide (a < s.length) from decide_eq_decide.2 Y];rfl
    | succ j ih =>
      intro p v hp i;have f:p < s.length:=Y
      rw[A0Q f];have h:decide ((p:Int) < (s.length:Int))=true:=A0Y Y;have k:decide ((a:Int) < (p:Int))=decide (a < p):=decide_eq_decide.2 Y;have d:U_ s[p]=true->lh s (a:Int) ((p:Int),v)=if((decide (a < p)&&decide (v=0))||decide (((18446744073709551615:UInt64) - dv s[p]) / 10 < v))=true then some (.inr (0,s,(p:Int),false)) else some (.inl (((p+1:Nat):Int),10*v+dv s[p])):=by
        intro b;unfold U_ at b;rw[A0U] at b;unfold lh;dsimp only;rw[h,gif1 _ rfl,fG f,A0X,b.1,gif1 (c:=true&&true) _ rfl,A0X,b.2,A3p A2J,A0X,k,wS p Y];rfl
      have e:U_ s[p]=false->lh s (a:Int) ((p:Int),v)=some (.inr (v,s,(p:Int),decide (a < p))):=by
        intro b;unfold U_ at b;unfold lh;dsimp only;rw[h,gif1 _ rfl,fG f,A0X,k];cases h1:decide ((48:UInt8)<=s[p]) with
        | false =>
          rw[gif0 (c:=true&&false) _ rfl,A0X,A3q (ft2 (a:=true&&false) rfl)];rfl
        | true =>
          rw[gif1 (c:=true&&true) _ rfl,A0X];rw[h1,A3g] at b;rw[A3q (ft3 b)];rfl
      cases b:U_ s[p] with
      | false =>
        rw[dm (e b)]
        conv=>rhs;unfold pW
        rw[b];rfl
      | true =>
        unfold pW;rw[A3p b];by_cases g:((decide (a < p)&&decide (v=0))||decide (((18446744073709551615:UInt64) - dv s[p]) / 10 < v))=true
        ·rw[dm ((d b).trans (A3p g)),A3p g];rfl
        ·rw[iJ ((d b).trans (A3q g)),A3q g,ih (p+1) _ Y Y,show decide (a < p+1)=true from A0Y Y];dsimp only;rw[show p+1+(pW (s.drop (p+1)) true (10*v+dv s[p])).2.1=p+((pW (s.drop (p+1)) true (10*v+dv s[p])).2.1+1) from by omega]
  unfold lZ rH;cases ok with
  | false=>rfl
  | true =>
    rw[A3q A2H,A3p rfl,key (s.length - a) a 0 Y (A2f _),show decide (a < a)=false from A0Z Y]
theorem num_r(a:Nat)(ha:a<=s.length)(ok:Bool):mM s (a:Int) (!ok)=some ((rH s a ok).1,s,((rH s a ok).2.1:Int),!(rH s a ok).2.2):=by
  have key:∀ (g:UInt8) (j p:Nat) (v:UInt64),p+j=s.length->(v=0 ↔ dv g=0)->aT (mG s false g) ((p:Int),v)=some ((pW (s.drop p) true v).1,s,((p+(pW (s.drop p) true v).2.1:Nat):Int),!(pW (s.drop p) true v).2.2):=by
    intro g j
    induction j with
    | zero =>
      intro p v hp h;obtain rfl:p=s.length:=by omega
      rw[List.drop_length];refine dm ?_;unfold mG;dsimp only;rw[A3q Y];rfl
    | succ j ih =>
      intro p v hp h;have e:p < s.length:=Y
      rw[A0Q e];have o:decide (UInt64.ofNat (g - 48).toNat=0)=decide (v=0):=decide_eq_decide.2 ⟨fun q=>h.2 q,fun q=>h.1 q⟩;have b:mG s false g ((p:Int),v)=if U_ s[p]=true then(if((true&&decide (v=0))||decide (((18446744073709551615:UInt64) - dv s[p]) / 10 < v))=true then some (.inr (0,s,(p:Int),true)) else some (.inl (((p+1:Nat):Int),10*v+dv s[p]))) else some (.inr (v,s,(p:Int),false)):=by
        unfold mG;dsimp only;rw[A3p Y,fG e,A0X,show vX s[p]=some (U_ s[p]) from rfl,A0X,o,A0X,wS p Y,A3g];rfl
      cases hD:U_ s[p] with
      | false =>
        rw[dm (b.trans (by rw[hD];rfl))]
        conv=>rhs;unfold pW
        rw[hD];rfl
      | true =>
        unfold pW;rw[A3p hD];rw[A3p hD] at b;by_cases c:((true&&decide (v=0))||decide (((18446744073709551615:UInt64) - dv s[p]) / 10 < v))=true
        ·rw[dm (b.trans (A3p c)),A3p c];rfl
        ·have d:¬ v=0:=fun q=>c (by rw[A0Y q];rfl);have i:¬ ((18446744073709551615:UInt64) - dv s[p]) / 10 < v:=fun q=>c (by rw[A0Y q,Bool.or_true]);have k:=num_in v s[p] hD i;rw[iJ (b.trans (A3q c)),A3q c,ih (p+1) _ Y ⟨fun q=>by
           rw[q] at k;have n:(0:UInt64).toNat=0:=rfl;exact absurd (A2m.1 (by omega:v.toNat=(0:UInt64).toNat)) d,fun q=>absurd (h.2 q) d⟩]
         dsimp only;rw[show p+1+(pW (s.drop (p+1)) true (10*v+dv s[p])).2.1=p+((pW (s.drop (p+1)) true (10*v+dv s[p])).2.1+1) from by omega]
  unfold mM rH;cases ok with
  | false=>rfl
  | true =>
    rw[A3p (rfl:true=true)];by_cases f:a < s.length
    ·rw[A3q (tf1 (a:=!true) rfl (A0Z Y)),fG f,A0X,show vX s[a]=some (U_ s[a]) from rfl,A0X,A0X,wS a Y,A0Q f];cases hD:U_ s[a] with
     | false =>
       rw[A3p A2J];unfold pW;rw[hD];rfl
     | true =>
       rw[A3q A2H,show(!true)=false from rfl];have h9:=YB s[a] hD;have c:¬ ((false&&decide ((0:UInt64)=0))||decide (((18446744073709551615:UInt64) - dv s[a]) / 10 < 0))=true:=by
         rw[A0Z (p:=((18446744073709551615:UInt64) - dv s[a]) / 10 < 0) (fun q=>by have:=A2s.1 q;have n:(0:UInt64).toNat=0:=rfl;omega)];decide
       have m:10*(0:UInt64)+dv s[a]=dv s[a]:=by simp
       have l:=key s[a] (s.length - (a+1)) (a+1) (dv s[a]) Y Iff.rfl;unfold pW;rw[A3p hD,A3q c,m];dsimp only;rw[show a+((pW (s.drop (a+1)) true (dv s[a])).2.1+1)=a+1+(pW (s.drop (a+1)) true (dv s[a])).2.1 from by omega];exact l
    ·rw[A3p (tf3 (A0Y Y)),List.drop_eq_nil_of_le Y];rfl
end
end
section
def wZ (K M P L T:Int):Prop:=(0<=K/\K<=2)/\(1<=L/\L<=8)/\(1<=P/\P<=16)/\(4<=T/\T<=1024)/\(8*L<=M/\M<=4096)
instance (K M P L T:Int):Decidable (wZ K M P L T):=by unfold wZ;infer_instance
def FK (K M P L T:Int)(n:Nat):Int:=if wZ K M P L T then(if n < 8∨64 < n then 201 else 0) else 200
theorem may_loop(M L:Int)(r:List A0B)(hr:r.length<=100):∀ (j i:Nat),i+j=r.length->aT (xw M L r) (i:Int)=some ((r.drop i).all (fun x=>decide (x.2.1<=x.1/\x.1<=x.2.2))&&decide (ax (8*L)<=M)):=by
  intro j
  induction j with
  | zero =>
    intro i c;rw[List.drop_eq_nil_of_le Y];refine dm ?_;unfold xw;dsimp only;rw[A3q Y];rfl
  | succ j ih =>
    intro i c;have a:i < r.length:=Y
    rw[A0Q a,List.all_cons];by_cases b:r[i].2.1<=r[i].1/\r[i].1<=r[i].2.2
    ·rw[iJ (s':=((i+1:Nat):Int)) (by
       unfold xw;dsimp only;rw[A3p Y,fG a,A0X,A3q (tf1 (A0Z Y) (A0Z Y)),wS i Y])]
     rw[ih (i+1) Y,A0Y b,A3g]
    ·rw[A0Z b,A43,A43];refine dm ?_;unfold xw;dsimp only;rw[A3p Y,fG a,A0X,A3p (by
       by_cases d:r[i].1 < r[i].2.1
       ·exact tf2 (A0Y d)
       ·exact tf3 (A0Y Y))]
     rfl
theorem may_ok(K M P L T:Int):DV K M P L T=some (decide (wZ K M P L T)):=by
  unfold DV Eu;rw[A0X];refine(may_loop M L [(K,0,2),(L,1,8),(P,1,16),(T,4,1024),(M,8,4096)] A2K 5 0 rfl).trans ?_;congr 1;rw[A0i];simp only[List.all_cons,List.all_nil,Bool.and_true];unfold wZ;by_cases a:1<=L/\L<=8
  ·rw[show ax (8*L)=8*L from by rw[bG] <;> omega];rw[<- Bool.decide_and,<-Bool.decide_and,<-Bool.decide_and,<-Bool.decide_and,<-Bool.decide_and];exact decide_eq_decide.2 Y
  ·rw[A0Z (p:=((1:Int)<=L/\L<=8)) a,A43,Bool.and_false,A43];exact(A0Z Y).symm
theorem Xt(K M P L T:Int)(aO:AC):sW K M P L T aO=some (FK K M P L T aO.length):=by
  unfold sW FK;rw[may_ok,A0X];by_cases h:wZ K M P L T
  ·rw[A0Y h,A3q A2H,A3p h];by_cases a:aO.length < 8∨64 < aO.length
   ·rw[A3p a,A3p (by
      rcases a with q | q
      ·exact tf2 (A0Y Y)
      ·exact tf3 (A0Y Y))]
   ·rw[A3q a,A3q (tf1 (A0Z Y) (A0Z Y))]
  ·rw[A0Z h,A3p A2H,A3q h]
theorem Uc(K M P L T:Int)(aO:AC):vW K M P L T aO=some (FK K M P L T aO.length):=by
  have b:qP K M P L T=some (if wZ K M P L T then 0 else 200):=by
    unfold qP;by_cases h:wZ K M P L T
    ·rw[A3p h];unfold wZ at h;rw[show ax (8*L)=8*L from by rw[bG] <;> omega];rw[A3q (by simp only[A2k,lm];omega)]
    ·rw[A3q h];unfold wZ at h;by_cases hL:1<=L/\L<=8
     ·rw[show ax (8*L)=8*L from by rw[bG] <;> omega];rw[A3p (by simp only[A2k,lm];omega)]
     ·rw[A3p (by simp only[A2k,lm];omega)]
  unfold vW FK;rw[b,A0X];by_cases h:wZ K M P L T
  ·rw[A3p h,A3q A2H,A3p h];by_cases a:aO.length < 8∨64 < aO.length
   ·rw[A3p a,A3p (by
      rcases a with q | q
      ·exact tf2 (A0Y Y)
      ·exact tf3 (A0Y Y))]
   ·rw[A3q a,A3q (tf1 (A0Z Y) (A0Z Y))]
  ·rw[A3q h,A3p A2H,A3q h]
theorem pcheck(K M P L T:Int)(aO a:AC):Bi K M P L T aO a=some (if FK K M P L T aO.length≠0 then FK K M P L T aO.length else if(a.length:Int)≠T then 1 else 0):=by
  unfold Bi;rw[Xt,A0X];split
  ·rfl
  ·split <;> rfl
theorem dig_loop:∀(m:Nat)(n:UInt64)(l:AC),n.toNat<=m->l.length<=1000000000->aT kL (n,l)=some (Lib.decDigits n.toNat++l)∨1000000000<=l.length+m:=by
  intro m
  induction m with
  | zero =>
    intro n l hm hl;left;have hn:n=0:=A2m.1 (by rw[show(0:UInt64).toNat=0 from rfl];omega);subst hn;refine dm ?_;unfold kL;dsimp only;rw[ig A2P,A0X,A3p A2H];rw[show Lib.decDigits (0:UInt64).toNat=[48] from by rw[show(0:UInt64).toNat=0 from rfl,Lib.decDigits,dif_pos Y];rfl];rfl
  | succ m ih =>
    intro n l hm hl;have hd:(n / 10).toNat=n.toNat / 10:=by rw[A46];rfl
    have hmd:((48:UInt64)+n % 10).toNat=48+n.toNat % 10:=by
      rw[A3H,A45,show(48:UInt64).toNat=48 from rfl,show(10:UInt64).toNat=10 from rfl];omega
    by_cases h10:n.toNat < 10
    ·left;refine dm ?_;unfold kL;dsimp only;rw[ig A2P,A0X,A3p (A2m.1 (by rw[hd];show n.toNat / 10=0;omega)),hmd,Lib.decDigits,dif_pos h10,A2w h10];rfl
    ·have hne:¬ n / 10=0:=fun q=>by
       have:=A3s UInt64.toNat q;rw[hd,show(0:UInt64).toNat=0 from rfl] at this;omega
     have step:kL (n,l)=some (.inl (n / 10,[UInt8.ofNat (48+n.toNat % 10)]++l)):=by
       unfold kL;dsimp only;rw[ig A2P,A0X,A3q hne,hmd]
     rw[iJ step];by_cases hl2:l.length+(m+1) < 1000000000
     ·rcases ih (n / 10) ([UInt8.ofNat (48+n.toNat % 10)]++l) (by rw[hd];omega) A2M with q | q
      ·left;rw[q,hd]
       conv=>rhs;rw[Lib.decDigits,dif_neg h10]
       rw[lw]
      ·simp only[Pi,bi,A0L] at q;omega
     ·right;omega
theorem Ud(n:Nat)(h:n<=4096):oV (UInt64.ofInt (n:Int))=some (Lib.decDigits n):=by
  have e:(UInt64.ofInt (n:Int)).toNat=n:=by
    have:UInt64.ofInt (n:Int)=UInt64.ofNat n:=by
      rw[<- A2m];unfold UInt64.ofInt;simp;omega
    rw[this,A3X (by show n < 18446744073709551616;omega)]
  unfold oV;rcases dig_loop n (UInt64.ofInt (n:Int)) [] Y A2K with q | q
  ·rw[q,e,A2n]
  ·simp only[A0L] at q;omega
theorem Ue:∀ n:Nat,(Lib.decDigits n).length<=n+1:=by
  intro n
  induction n using Nat.strongRecOn with
  | _ n ih =>
    rw[Lib.decDigits];split
    ·simp
    ·rw[Pi];have:=ih (n / 10) Y;simp only[bi,A0L];omega
theorem itoa_ok(n:Nat):Lib.itoa (n:Int)=Lib.decDigits n:=by
  unfold Lib.itoa;rw[A3q Y];rfl
def kdS (K:Int):AC:=if K=0 then[100] else if K=1 then[105] else[105,100]
def textS (K:Int)(M P L:Nat)(aO a:AC):AC :=
  ((((((((((([36,97,114,103,111,110,50]:AC)++kdS K)++([36,118,61,49,57,36,109,61]:AC))++Lib.decDigits M)++([44,116,61]:AC))++Lib.decDigits P)++([44,112,61]:AC))++Lib.decDigits L)++([36]:AC))++enc aO)++([36]:AC))++enc a
def Bc (K M P L T:Int)(aO a:AC):AC×Int:=if FK K M P L T aO.length≠0 then([],FK K M P L T aO.length) else if(a.length:Int)≠T then([],1) else(textS K M.toNat P.toNat L.toNat aO a,0)
theorem chk0{K M P L T n}(h:FK K M P L T n=0):wZ K M P L T/\8<=n/\n<=64:=by
  unfold FK at h;split at h
  ·split at h
   ·cases h
   ·exact⟨by assumption,Y,Y⟩
  ·cases h
theorem kd_geti{K}(h:0<=K/\K<=2):aP ([([100]:AC),([105]:AC),([105,100]:AC)]:A02) K=some (kdS K):=by
  obtain rfl | rfl | rfl:K=0∨K=1∨K=2:=by omega
  ·rfl
  ·rfl
  ·rfl
theorem kd_len(K:Int):(kdS K).length<=2:=by
  unfold kdS;split
  ·decide
  ·split <;> decide
theorem print_p(K M P L T:Int)(aO a:AC):Ew K M P L T aO a=some (Bc K M P L T aO a):=by
  unfold Ew Bc;rw[pcheck,A0X];by_cases b:FK K M P L T aO.length≠0
  ·rw[A3p b,A3p b,A3p b]
  ·rw[A3q b,A3q b];by_cases c:(a.length:Int)≠T
   ·rw[A3p c,A3p c,A3p A2H]
   ·rw[A3q c,A3q c,A3q A2H];obtain⟨hm,hs1,hs2⟩:=chk0 (Classical.not_not.1 b);have hT:=Classical.not_not.1 c;unfold wZ at hm;obtain⟨M,rfl⟩:∃ m:Nat,M=(m:Int):=⟨M.toNat,Y⟩
    obtain⟨P,rfl⟩:∃ m:Nat,P=(m:Int):=⟨P.toNat,Y⟩
    obtain⟨L,rfl⟩:∃ m:Nat,L=(m:Int):=⟨L.toNat,Y⟩
    have hM:=Ue M;have hP:=Ue P;have hL:=Ue L;have hk:=kd_len K;have hes:=KN aO;have heu:=KN a;rw[show G8 K=some (kdS K) from by
      unfold G8;rw[show(⟨[([100]:AC),([105]:AC),([105,100]:AC)],rfl⟩:Vec AC 3).l=[([100]:AC),([105]:AC),([105,100]:AC)] from rfl,kd_geti hm.1];rfl,A0X]
    simp only[itoa_ok];rw[wbase64 aO Y,wbase64 a Y];have d:∀ n:Nat,n<=1000000->n<=9223372036854775807:=fun n h=>by omega
    iterate 11 rw[ig (by first | exact⟨Y,Y⟩ | (refine d _ ?_;simp only[Pi,bi,A0L];omega)),A0X]
    rw[A0X]
    iterate 2 rw[ig (by refine d _ ?_;simp only[Pi,bi,A0L];omega),A0X]
    rw[A0X];rw[ig (by refine d _ ?_;simp only[Pi,bi,A0L];omega),A0X];rfl
theorem print_r(K M P L T:Int)(aO a:AC):G9 K M P L T aO a=some (Bc K M P L T aO a):=by
  unfold G9 Bc;rw[Uc,A0X];by_cases d:FK K M P L T aO.length≠0
  ·rw[A3p d,A3p d]
  ·rw[A3q d,A3q d];by_cases c:(a.length:Int)≠T
   ·rw[A3p c,A3p c]
   ·rw[A3q c,A3q c];obtain⟨hm,hs1,hs2⟩:=chk0 (Classical.not_not.1 d);have hT:=Classical.not_not.1 c;unfold wZ at hm;obtain⟨M,rfl⟩:∃ m:Nat,M=(m:Int):=⟨M.toNat,Y⟩
    obtain⟨P,rfl⟩:∃ m:Nat,P=(m:Int):=⟨P.toNat,Y⟩
    obtain⟨L,rfl⟩:∃ m:Nat,L=(m:Int):=⟨L.toNat,Y⟩
    have hM:=Ue M;have hP:=Ue P;have hL:=Ue L;have hk:=kd_len K;have hes:=KN aO;have heu:=KN a;rw[kd_geti hm.1,A0X,Ud M Y,Ud P Y,Ud L Y,rbase64 aO Y,rbase64 a Y];have b:∀ n:Nat,n<=1000000->n<=9223372036854775807:=fun n h=>by omega
    iterate 2 rw[ig (by refine b _ ?_;simp only[Pi,bi,A0L];omega),A0X]
    rw[A0X]
    iterate 2 rw[ig (by refine b _ ?_;simp only[Pi,bi,A0L];omega),A0X]
    rw[A0X]
    iterate 2 rw[ig (by refine b _ ?_;simp only[Pi,bi,A0L];omega),A0X]
    rw[A0X]
    iterate 2 rw[ig (by refine b _ ?_;simp only[Pi,bi,A0L];omega),A0X]
    rw[A0X]
    iterate 2 rw[ig (by refine b _ ?_;simp only[Pi,bi,A0L];omega),A0X]
    rw[A0X];rw[ig (by refine b _ ?_;simp only[Pi,bi,A0L];omega),A0X];rfl
end
section
theorem hpre2(l:AC)(hl:l.length<=4194304):kJ l ([105,100]:AC)=some (decide (l[0]?=some 105/\l[1]?=some 100)):=by
  unfold kJ jU
  match l,hl with
  | [],_=>rfl
  | [x],_ =>
    rw[show decide (((([105,100]:AC).length:Nat):Int)<=(([x].length:Nat):Int))=false from rfl,gif0 _ rfl,A0X,A0X];congr 1;exact(A0Z (fun q=>by cases q.2)).symm
  | x::y::r,hl =>
    have hd:decide (((([105,100]:AC).length:Nat):Int)<=(((x::y::r).length:Nat):Int))=true:=A0Y A2P;rw[hd,gif1 _ rfl,show Iw (x::y::r) 0 ((([105,100]:AC).length:Nat):Int)=some [x,y] from by rw[Ah ⟨Y,A2K,by simp only[bi,A0L];omega⟩];rfl,A0X,A0X,A3g];congr 1;refine decide_eq_decide.2 ⟨fun q=>?_,fun q=>?_⟩
    ·injection q with b a;injection a with c q4;exact⟨by rw[<- b];rfl,by rw[<- c];rfl⟩
    ·have b:=A2j q.1;have a:=A2j q.2;rw[b,a]
theorem hpre1(l:AC)(hl:l.length<=4194304):kJ l ([105]:AC)=some (decide (l[0]?=some 105)):=by
  unfold kJ jU
  match l,hl with
  | [],_=>rfl
  | x::r,hl =>
    have hd:decide (((([105]:AC).length:Nat):Int)<=(((x::r).length:Nat):Int))=true:=A0Y A2P;rw[hd,gif1 _ rfl,show Iw (x::r) 0 ((([105]:AC).length:Nat):Int)=some [x] from by rw[Ah ⟨Y,A2K,by simp only[bi,A0L];omega⟩];rfl,A0X,A0X,A3g];congr 1;refine decide_eq_decide.2 ⟨fun q=>?_,fun q=>?_⟩
    ·injection q with a q2;rw[<- a];rfl
    ·have a:=A2j q;rw[a]
def Cb (s:AC)(a:Nat)(ok:Bool):Int×Nat×Bool :=
  if ok=true then(if s[a]?=some 105 then(if s[a+1]?=some 100 then(2,a+2,true) else(1,a+1,true)) else if s[a]?=some 100 then(0,a+1,true) else(0,a,false)) else(0,a,false)
theorem kindS_le(s:AC)(a:Nat)(ok:Bool)(b:a<=s.length):(Cb s a ok).2.1<=s.length:=by
  unfold Cb;split
  ·split
   ·rename_i h;obtain⟨h2,_⟩:=A0e.1 h;split
    ·rename_i h;obtain⟨h3,_⟩:=A0e.1 h;show a+2<=_;omega
    ·show a+1<=_;omega
   ·split
    ·rename_i h;obtain⟨h3,_⟩:=A0e.1 h;show a+1<=_;omega
    ·exact b
  ·exact b
section
variable (s:AC)(hs:s.length<=4194304)
include hs
theorem kind_r(a:Nat)(k:a<=s.length)(ok:Bool):∃ j,uu s (a:Int) (!ok)=some (j,s,((Cb s a ok).2.1:Int),!(Cb s a ok).2.2)/\((Cb s a ok).2.2=true->j=(Cb s a ok).1):=by
  unfold uu;cases ok with
  | false=>exact⟨0,rfl,fun q=>by cases q⟩
  | true =>
    unfold Cb;rw[A3p (rfl:true=true)];by_cases b:a < s.length
    ·rw[A3q (tf1 (a:=!true) rfl (A0Z Y)),fG b,A0X,A0V b];by_cases f:s[a]=100
     ·rw[A3p f,A3q (by rw[f];decide),A3p (by rw[f]),wS a Y];exact⟨0,rfl,fun _=>rfl⟩
     ·have hl:=Xq s hs ([105]:AC) A2H a k true;rw[A3q f,hl,A0X];by_cases g:s[a]=105
      ·have e:nP s a true [105]=(a+1,true):=by
         unfold nP;rw[A3p rfl,A3p (by rw[A0V b,g])];rfl
       rw[e,A3p (by rw[g])];dsimp only;by_cases d:a+1 < s.length
       ·have i:decide (((a+1:Nat):Int) < (s.length:Int))=true:=A0Y Y;rw[i,gif1 (c:=(!!true)&&true) _ rfl,fG d,A0X,A0V d];by_cases h:s[a+1]=100
        ·rw[A3p (ft1 (a:=(!!true)&&true) rfl (A0Y h)),A3p (by rw[h]),wS (a+1) Y];exact⟨2,rfl,fun _=>rfl⟩
        ·rw[A3q (ft3 (A0Z h)),A3q (fun q=>h (A2j q))];exact⟨1,rfl,fun _=>rfl⟩
       ·have i:decide (((a+1:Nat):Int) < (s.length:Int))=false:=A0Z Y;rw[i,gif0 (c:=(!!true)&&false) _ rfl,A0X,A3q (ft2 (a:=(!!true)&&false) rfl),A3x Y,A3q (fun q=>by cases q)];exact⟨1,rfl,fun _=>rfl⟩
      ·have e:nP s a true [105]=(a,false):=by
         unfold nP;rw[A3p rfl,A3q (by rw[A0V b];exact fun q=>g (A2j q))]
       rw[e,A3q (fun q=>g (A2j q)),A3q (fun q=>f (A2j q))];dsimp only;rw[gif0 (c:=(!!false)&&_) _ rfl,A0X,A3q (ft2 (a:=(!!false)&&_) rfl)];exact⟨1,rfl,fun q=>by cases q⟩
    ·rw[A3p (tf3 (A0Y Y)),A3x Y,A3q (fun q=>by cases q),A3q (fun q=>by cases q)];exact⟨0,rfl,fun q=>by cases q⟩
theorem parse_k:sH s=kM s s ((Cb s (nP s 0 true [36,97,114,103,111,110,50]).1 (nP s 0 true [36,97,114,103,111,110,50]).2).2.1:Int) (Cb s (nP s 0 true [36,97,114,103,111,110,50]).1 (nP s 0 true [36,97,114,103,111,110,50]).2).2.2 (Cb s (nP s 0 true [36,97,114,103,111,110,50]).1 (nP s 0 true [36,97,114,103,111,110,50]).2).1:=by
  have h1:=Xp s hs ([36,97,114,103,111,110,50]:AC) A2H 0 Y true;have hle:=zZ s [36,97,114,103,111,110,50] 0 true Y;unfold sH;rw[show(0:Int)=((0:Nat):Int) from rfl,h1,A0X];generalize nP s 0 true [36,97,114,103,111,110,50]=x at hle ⊢;obtain⟨a,ok⟩:=x;dsimp only at hle ⊢;have hd:Iw s (a:Int) (s.length:Int)=some (s.drop a):=by rw[Xr s a s.length hle (Nat.le_refl _),A0S]
  have hdl:(s.drop a).length<=4194304:=by rw[A0m];omega
  have g0:(s.drop a)[0]?=s[a]?:=by rw[List.getElem?_drop,Nat.add_zero]
  have g1:(s.drop a)[1]?=s[a+1]?:=by rw[List.getElem?_drop]
  have hlit:=Xp s hs ([100]:AC) A2H a hle ok;cases ok with
  | false =>
    rw[if_neg A2H,if_neg A2H,hlit,A0X,Vz];rfl
  | true =>
    rw[if_pos rfl,hd,A0X,hpre2 _ hdl,A0X,g0,g1];unfold Cb;rw[if_pos rfl];by_cases Uf:s[a]?=some 105
    ·obtain⟨hl1,_⟩:=A0e.1 Uf;by_cases P_:s[a+1]?=some 100
     ·obtain⟨hl2,_⟩:=A0e.1 P_;rw[if_pos (A0Y ⟨Uf,P_⟩),if_pos Uf,if_pos P_,show ax ((a:Int)+2)=((a+2:Nat):Int) from by rw[bG] <;> omega];rfl
     ·rw[if_neg (by rw[A0Z (fun q=>P_ q.2)];decide),if_pos rfl,A0X,hpre1 _ hdl,A0X,g0,if_pos (A0Y Uf),if_pos Uf,if_neg P_,wS a Y]
    ·rw[if_neg (by rw[A0Z (fun q=>Uf q.1)];decide),if_pos rfl,A0X,hpre1 _ hdl,A0X,g0,if_neg (by rw[A0Z Uf];decide),hlit,A0X,if_neg Uf];unfold nP;rw[if_pos rfl];by_cases P_:s[a]?=some 100
     ·rw[if_pos P_,if_pos P_];rfl
     ·rw[if_neg P_,if_neg P_];rfl
end
end
section
def VB (v:UInt64):Int:=if(9223372036854775807:UInt64) < v then -1 else ax (v.toNat:Int)
theorem wh_p(v:UInt64):yj v=some (VB v):=by
  unfold yj VB;split <;> rfl
theorem wh_r(v:UInt64):Aj v=some (VB v):=by
  unfold Aj VB;split <;> rfl
def X6 (s:AC)(k d c b:Int)(g:Nat)(a:AC)(f:Nat)(t2:AC)(e:Nat)(ok:Bool):Int×Int×Int×Int×Int×AC×AC×Int×Int :=
  if((!ok)||(decide ((e:Int) < (s.length:Int))))=true then(0,0,0,0,0,[],[],(e:Int),4)
  else if(tV a).2.2≠0 then(0,0,0,0,0,[],[],(g:Int),4)
  else if(tV t2).2.2≠0 then(0,0,0,0,0,[],[],(f:Int),4)
  else if FK k d c b (((tV t2).1.length:Nat):Int) (tV a).1.length≠0 then(0,0,0,0,0,[],[],0,1)
  else(k,d,c,b,(((tV t2).1.length:Nat):Int),(tV a).1,(tV t2).1,0,0)
def midS (s:AC)(k:Int)(a:Nat)(ok:Bool):Int×Int×Int×Int×Int×AC×AC×Int×Int :=
  let i:=nP s a ok [36,118,61,49,57,36,109,61]
  let f:=rH s i.1 i.2
  let h:=nP s f.2.1 f.2.2 [44,116,61]
  let e:=rH s h.1 h.2
  let g:=nP s e.2.1 e.2.2 [44,112,61]
  let d:=rH s g.1 g.2
  let c:=nP s d.2.1 d.2.2 [36]
  let j:=DT s c.1 c.2
  let b:=nP s (c.1+j.length) c.2 [36]
  let t2:=DT s b.1 b.2
  X6 s k (VB f.1) (VB e.1) (VB d.1) c.1 j b.1 t2 (b.1+t2.length) b.2
theorem Tn(s:AC)(a:Nat)(t:AC)(ok:Bool)(h:(nP s a ok t).2=true):ok=true:=by
  cases ok with
  | true=>rfl
  | false=>rw[Vz] at h;exact h
theorem VC(s:AC)(a:Nat)(ok:Bool)(h:(rH s a ok).2.2=true):ok=true:=by
  cases ok with
  | true=>rfl
  | false=>exact h
def pX (s:AC):Int×Int×Int×Int×Int×AC×AC×Int×Int :=
  midS s (Cb s (nP s 0 true [36,97,114,103,111,110,50]).1 (nP s 0 true [36,97,114,103,111,110,50]).2).1 (Cb s (nP s 0 true [36,97,114,103,111,110,50]).1 (nP s 0 true [36,97,114,103,111,110,50]).2).2.1 (Cb s (nP s 0 true [36,97,114,103,111,110,50]).1 (nP s 0 true [36,97,114,103,111,110,50]).2).2.2
section
variable (s:AC)(hs:s.length<=4194304)
include hs
theorem VD(a:Nat)(ok:Bool):(DT s a ok).length<=4194304:=by
  unfold DT;split
  ·have:=(List.takeWhile_prefix (p:=Q3) (l:=s.drop a)).length_le;rw[A0m] at this;omega
  ·exact A2p _
theorem mid_p(k:Int)(a:Nat)(o:a<=s.length)(ok:Bool):kM s s (a:Int) ok k=some (midS s k a ok):=by
  unfold kM midS;dsimp only;rw[Xp s hs _ A2H a o ok,A0X];have l:=zZ s [36,118,61,49,57,36,109,61] a ok o;generalize nP s a ok [36,118,61,49,57,36,109,61]=x1 at l ⊢;dsimp only;rw[num_p s hs x1.1 l x1.2,A0X];have i:=KO s x1.1 x1.2 l;generalize rH s x1.1 x1.2=n1 at i ⊢;dsimp only;rw[wh_p,A0X,Xp s hs _ A2H n1.2.1 i n1.2.2,A0X];have h3:=zZ s [44,116,61] n1.2.1 n1.2.2 i;generalize nP s n1.2.1 n1.2.2 [44,116,61]=x2 at h3 ⊢;dsimp only;rw[num_p s hs x2.1 h3 x2.2,A0X];have h:=KO s x2.1 x2.2 h3;generalize rH s x2.1 x2.2=n2 at h ⊢;dsimp only;rw[wh_p,A0X,Xp s hs _ A2H n2.2.1 h n2.2.2,A0X];have g:=zZ s [44,112,61] n2.2.1 n2.2.2 h;generalize nP s n2.2.1 n2.2.2 [44,112,61]=x3 at g ⊢;dsimp only;rw[num_p s hs x3.1 g x3.2,A0X];have f:=KO s x3.1 x3.2 g;generalize rH s x3.1 x3.2=n3 at f ⊢;dsimp only;rw[wh_p,A0X,Xp s hs _ A2H n3.2.1 f n3.2.2,A0X];have e:=zZ s [36] n3.2.1 n3.2.2 f;generalize nP s n3.2.1 n3.2.2 [36]=x4 at e ⊢;dsimp only;rw[let_p s hs x4.1 e x4.2,A0X];have d:=VA s x4.1 x4.2 e;have n:=VD s hs x4.1 x4.2;generalize DT s x4.1 x4.2=t1 at d n ⊢;dsimp only;rw[Xp s hs _ A2H (x4.1+t1.length) d x4.2,A0X];have c:=zZ s [36] (x4.1+t1.length) x4.2 d
  generalize nP s (x4.1+t1.length) x4.2 [36]=x5 at c ⊢;dsimp only;rw[let_p s hs x5.1 c x5.2,A0X];have j:=VA s x5.1 x5.2 c;have m:=VD s hs x5.1 x5.2;generalize DT s x5.1 x5.2=t2 at j m ⊢;dsimp only;unfold X6;split
  ·rfl
  ·rw[wunb64 t1 n,A0X];split
   ·rfl
   ·rw[wunb64 t2 m,A0X];split
    ·rfl
    ·rw[pcheck,A0X];by_cases b:FK k (VB n1.1) (VB n2.1) (VB n3.1) (((tV t2).1.length:Nat):Int) (tV t1).1.length≠0
     ·rw[A3p b,A3p b,A3p b]
     ·have p:(if FK k (VB n1.1) (VB n2.1) (VB n3.1) (((tV t2).1.length:Nat):Int) (tV t1).1.length≠0 then FK k (VB n1.1) (VB n2.1) (VB n3.1) (((tV t2).1.length:Nat):Int) (tV t1).1.length else if(((tV t2).1.length:Nat):Int)≠(((tV t2).1.length:Nat):Int) then(1:Int) else 0)=0:=by
        rw[A3q b,A3q (fun q=>q rfl)]
      rw[p,A3q (fun q=>q rfl),A3q b]
theorem VE:sH s=some (pX s):=by
  rw[parse_k s hs,mid_p s hs _ _ (kindS_le s _ _ (zZ s _ 0 true Y))];rfl
theorem parse_r:DX s=some (pX s):=by
  have C:jB s (0:Int) false ([36,97,114,103,111,110,50]:AC)=some (s,((nP s 0 true [36,97,114,103,111,110,50]).1:Int),!(nP s 0 true [36,97,114,103,111,110,50]).2):=Xq s hs ([36,97,114,103,111,110,50]:AC) A2H 0 Y true;have b:=zZ s [36,97,114,103,111,110,50] 0 true Y;unfold DX pX;rw[C,A0X];generalize nP s 0 true [36,97,114,103,111,110,50]=x0 at b ⊢;dsimp only;obtain⟨k',B,e⟩:=kind_r s hs x0.1 b x0.2;rw[B,A0X];have c:=kindS_le s x0.1 x0.2 b;generalize Cb s x0.1 x0.2=kx at c e ⊢;dsimp only;unfold midS;dsimp only;rw[Xq s hs _ A2H kx.2.1 c kx.2.2,A0X];have p:=zZ s [36,118,61,49,57,36,109,61] kx.2.1 kx.2.2 c;have y:=Tn s kx.2.1 [36,118,61,49,57,36,109,61] kx.2.2;generalize nP s kx.2.1 kx.2.2 [36,118,61,49,57,36,109,61]=x1 at p y ⊢;dsimp only;rw[num_r s hs x1.1 p x1.2,A0X];have n:=KO s x1.1 x1.2 p;have x:=VC s x1.1 x1.2;generalize rH s x1.1 x1.2=n1 at n x ⊢;dsimp only;rw[Xq s hs _ A2H n1.2.1 n n1.2.2,A0X];have h3:=zZ s [44,116,61] n1.2.1 n1.2.2 n;have w:=Tn s n1.2.1 [44,116,61] n1.2.2;generalize nP s n1.2.1 n1.2.2 [44,116,61]=x2 at h3 w ⊢;dsimp only;rw[num_r s hs x2.1 h3 x2.2,A0X];have m:=KO s x2.1 x2.2 h3;have v:=VC s x2.1 x2.2;generalize rH s x2.1 x2.2=n2 at m v ⊢;dsimp only
  rw[Xq s hs _ A2H n2.2.1 m n2.2.2,A0X];have l:=zZ s [44,112,61] n2.2.1 n2.2.2 m;have u:=Tn s n2.2.1 [44,112,61] n2.2.2;generalize nP s n2.2.1 n2.2.2 [44,112,61]=x3 at l u ⊢;dsimp only;rw[num_r s hs x3.1 l x3.2,A0X];have k:=KO s x3.1 x3.2 l;have t:=VC s x3.1 x3.2;generalize rH s x3.1 x3.2=n3 at k t ⊢;dsimp only;rw[Xq s hs _ A2H n3.2.1 k n3.2.2,A0X];have j:=zZ s [36] n3.2.1 n3.2.2 k;have r:=Tn s n3.2.1 [36] n3.2.2;generalize nP s n3.2.1 n3.2.2 [36]=x4 at j r ⊢;dsimp only;rw[let_r s hs x4.1 j x4.2,A0X];have i:=VA s x4.1 x4.2 j;have A:=VD s hs x4.1 x4.2;generalize DT s x4.1 x4.2=t1 at i A ⊢;dsimp only;rw[Xq s hs _ A2H (x4.1+t1.length) i x4.2,A0X];have g:=zZ s [36] (x4.1+t1.length) x4.2 i;have q:=Tn s (x4.1+t1.length) [36] x4.2;generalize nP s (x4.1+t1.length) x4.2 [36]=x5 at g q ⊢;dsimp only;rw[let_r s hs x5.1 g x5.2,A0X];have o:=VA s x5.1 x5.2 g;have z:=VD s hs x5.1 x5.2;generalize DT s x5.1 x5.2=t2 at o z ⊢;dsimp only;unfold X6;by_cases a:((!x5.2)||(decide (((x5.1+t2.length:Nat):Int) < (s.length:Int))))=true
  ·rw[A3p a,A3p a]
  ·rw[A3q a,A3q a];have f:x5.2=true:=by
     cases h:x5.2 with
     | true=>rfl
     | false=>exact absurd (by rw[h];rfl) a
   have d:=e (y (x (w (v (u (t (r (q f))))))));rw[d,runb64 t1 A,A0X];split
   ·rfl
   ·rw[runb64 t2 z,A0X];split
    ·rfl
    ·rw[wh_r,A0X,wh_r,A0X,wh_r,A0X,Uc,A0X];split <;> rfl
end
theorem parse_len(s:AC):(pX s).2.2.2.2.2.1.length<=s.length/\(pX s).2.2.2.2.2.2.1.length<=s.length:=by
  have hl:∀ a ok,(DT s a ok).length<=s.length:=by
    intro a ok;unfold DT;split
    ·have:=(List.takeWhile_prefix (p:=Q3) (l:=s.drop a)).length_le;rw[A0m] at this;omega
    ·exact A2p _
  unfold pX midS;dsimp only;unfold X6;split
  ·exact⟨A2p _,A2p _⟩
  ·split
   ·exact⟨A2p _,A2p _⟩
   ·split
    ·exact⟨A2p _,A2p _⟩
    ·split
     ·exact⟨A2p _,A2p _⟩
     ·exact⟨A0a (unb64_le _) (hl _ _),A0a (unb64_le _) (hl _ _)⟩
theorem awake_ok:G_=some true:=by
  unfold G_;rw[VE _ A2H,A0X];have:(pX [36,97,114,103,111,110,50,105,100,36,118,61,49,56]).2.2.2.2.2.2.2=(13,4):=by decide +kernel
  rw[show(pX [36,97,114,103,111,110,50,105,100,36,118,61,49,56]).2.2.2.2.2.2.2.1=13 from by rw[this],show(pX [36,97,114,103,111,110,50,105,100,36,118,61,49,56]).2.2.2.2.2.2.2.2=4 from by rw[this]];rfl
end
section
theorem NH(s:AC):∀ (t:AC) (a:Nat) (r:AC),s.drop a=t++r->nP s a true t=(a+t.length,true)/\s.drop (a+t.length)=r
  | [],a,r,h=>⟨rfl,h⟩
  | c::t,a,r,h=>by
    have f:s[a]?=some c:=by
      have:=A3s (fun l=>l[0]?) h;simpa [A3Q] using this
    have d:s.drop (a+1)=t++r:=by
      have:=A3s (List.drop 1) h;simpa [A0j] using this
    have b:=NH s t (a+1) r d;unfold nP;rw[A3p rfl,A3p f];have e:a+1+t.length=a+(c::t).length:=by simp only[bi];omega
    rw[e] at b;exact b
theorem NI(s:AC):∀ (t:AC) (a:Nat) (ok:Bool),(nP s a ok t).2=true->ok=true/\(nP s a ok t).1=a+t.length/\s.drop a=t++s.drop (a+t.length)
  | [],a,ok,h=>⟨h,rfl,rfl⟩
  | c::t,a,ok,h=>by
    unfold nP at h ⊢;by_cases d:ok=true
    ·rw[A3p d] at h ⊢;by_cases b:s[a]?=some c
     ·rw[A3p b] at h ⊢;obtain⟨_,i2,i3⟩:=NI s t (a+1) true h;have e:a+1+t.length=a+(c::t).length:=by simp only[bi];omega
      refine⟨d,by rw[i2,e],?_⟩;obtain⟨hl,f⟩:=A0e.1 b;rw[A0Q hl,f,i3,e];rfl
     ·rw[A3q b] at h;cases h
    ·rw[A3q d] at h;cases h
theorem YD:∀ d:Nat,d < 10->U_ (UInt8.ofNat (48+d))=true/\(dv (UInt8.ofNat (48+d))).toNat=d/\dv (UInt8.ofNat (48+d))=UInt64.ofNat d:=by decide +kernel
theorem dig_u(c:UInt8)(h:U_ c=true):c=UInt8.ofNat (48+(dv c).toNat):=by
  have key:∀ n:Nat,n < 256->U_ (UInt8.ofNat n)=true->UInt8.ofNat n=UInt8.ofNat (48+(dv (UInt8.ofNat n)).toNat):=by decide +kernel
  exact LY (p:=fun c=>U_ c=true->c=UInt8.ofNat (48+(dv c).toNat)) key c h
theorem ZN(c:UInt8)(l:AC)(a:Bool)(v:UInt64)(b:U_ c=true)(d:(a&&decide (v=0))=false)(h1:v.toNat<=1000000):pW (c::l) a v=((pW l true (10*v+dv c)).1,(pW l true (10*v+dv c)).2.1+1,(pW l true (10*v+dv c)).2.2):=by
  rw[pW,A3p b,A3q];rw[d,Bool.false_or,lm,A2s];have hd:=YB c b;have e:((18446744073709551615:UInt64) - dv c).toNat=18446744073709551615 - (dv c).toNat:=by
    rw[UInt64.toNat_sub_of_le]
    ·rfl
    ·rw[A38];show(dv c).toNat<=18446744073709551615;omega
  rw[A46,e];show ¬ (18446744073709551615 - (dv c).toNat) / 10 < v.toNat;omega
theorem u64v(n:Nat)(h:n < 18446744073709551616):(UInt64.ofNat n).toNat=n:=A3X h
theorem num_fwd0:∀(n:Nat),n<=1000000->∀ r:AC,pW (Lib.decDigits n++r) false 0=((pW r true (UInt64.ofNat n)).1,(pW r true (UInt64.ofNat n)).2.1+(Lib.decDigits n).length,(pW r true (UInt64.ofNat n)).2.2):=by
  intro n
  induction n using Nat.strongRecOn with
  | _ n ih =>
    intro hn r;rw[Lib.decDigits];split
    ·rename_i a;obtain⟨c,f,b⟩:=YD n a;rw[A3v,ZN _ _ _ _ c rfl (by show(0:Nat)<=1000000;omega),b];rw[show(10:UInt64)*0+UInt64.ofNat n=UInt64.ofNat n from by rw[UInt64.mul_zero,UInt64.zero_add]];rfl
    ·rename_i a;obtain⟨c,f,b⟩:=YD (n % 10) Y;rw[lw,A3v,ih (n / 10) Y Y];have d:(UInt64.ofNat (n / 10)).toNat=n / 10:=u64v _ Y;rw[ZN _ _ _ _ c (by
       rw[A3g,A3u];intro q;have:=A3s UInt64.toNat q;rw[d] at this;have:n / 10=0:=this;omega) Y]
     have e:(10:UInt64)*UInt64.ofNat (n / 10)+dv (UInt8.ofNat (48+n % 10))=UInt64.ofNat n:=by
       rw[<- A2m,b,A3H,A44,d,u64v (n % 10) Y,u64v n Y];show(10*(n / 10) % 18446744073709551616+n % 10) % 18446744073709551616=n;omega
     rw[e,Pi,A0W];refine Prod.ext rfl (Prod.ext ?_ rfl);show _+1+_=_+(_+1)
     omega
theorem ZO(s:AC)(n:Nat)(hn:n<=1000000)(a:Nat)(c:UInt8)(r:AC)(b:U_ c=false)(h:s.drop a=Lib.decDigits n++(c::r)):rH s a true=(UInt64.ofNat n,a+(Lib.decDigits n).length,true)/\s.drop (a+(Lib.decDigits n).length)=c::r:=by
  refine⟨?_,?_⟩
  ·unfold rH;rw[A3p rfl,h,num_fwd0 n hn];rw[show pW (c::r) true (UInt64.ofNat n)=(UInt64.ofNat n,0,true) from by rw[pW,A3q (by rw[b];decide)]];show(UInt64.ofNat n,a+(0+_),true)=_;rw[Nat.zero_add]
  ·rw[<- A0j,h,List.drop_left]
theorem num_bwd1:∀(l:AC)(v:UInt64),(pW l true v).2.2=true->Lib.decDigits v.toNat++l.take (pW l true v).2.1=Lib.decDigits (pW l true v).1.toNat
  | [],v,h=>by simp[pW]
  | c::l,v,h=>by
    by_cases a:U_ c=true
    ·rw[pW,A3p a] at h ⊢;by_cases b:((true&&decide (v=0))||decide (((18446744073709551615:UInt64) - dv c) / 10 < v))=true
     ·rw[A3p b] at h;cases h
     ·rw[A3q b] at h ⊢;have d:=num_bwd1 l (10*v+dv c) h;rw[A3g,A2k,lm,lm,not_or] at b;have e:=num_in v c a b.2;have hv0:v.toNat≠0:=fun q=>b.1 (A2m.1 q);have hd:=YB c a;rw[e] at d;rw[show Lib.decDigits (10*v.toNat+(dv c).toNat)=Lib.decDigits v.toNat++[c] from by
        rw[Lib.decDigits,dif_neg Y,show(10*v.toNat+(dv c).toNat) / 10=v.toNat from by omega,show(10*v.toNat+(dv c).toNat) % 10=(dv c).toNat from by omega,<-dig_u c a]] at d
      rw[List.take_succ_cons,<-d,lw];rfl
    ·rw[pW,A3q a];simp
theorem num_bwd0(l:AC)(h:(pW l false 0).2.2=true):l.take (pW l false 0).2.1=Lib.decDigits (pW l false 0).1.toNat:=by
  cases l with
  | nil=>cases h
  | cons c l =>
    by_cases a:U_ c=true
    ·rw[ZN c l false 0 a rfl (by show(0:Nat)<=1000000;omega)] at h ⊢;have b:=num_bwd1 l _ h;rw[UInt64.mul_zero,UInt64.zero_add] at *;have hd:=YB c a;rw[Lib.decDigits,dif_pos Y,<-dig_u c a] at b;rw[List.take_succ_cons,<-b];rfl
    ·rw[pW,A3q a] at h;cases h
theorem VF(s:AC)(a:Nat)(ok:Bool)(h:(rH s a ok).2.2=true):ok=true/\s.drop a=Lib.decDigits (rH s a ok).1.toNat++s.drop (rH s a ok).2.1:=by
  have b:=VC s a ok h;subst b;refine⟨rfl,?_⟩;unfold rH at h ⊢;rw[A3p rfl] at h ⊢;have:=num_bwd0 _ h;dsimp only;rw[<- this,<-A0j,A32]
theorem kind_fwd(s:AC)(K:Int)(hK:0<=K/\K<=2)(a:Nat)(r:AC)(h:s.drop a=kdS K++(36::r)):Cb s a true=(K,a+(kdS K).length,true)/\s.drop (a+(kdS K).length)=36::r:=by
  have g:∀ i,s[a+i]?=(kdS K++(36::r))[i]?:=by
    intro i;rw[<- h,A3Q]
  refine⟨?_,by rw[<- A0j,h,List.drop_left]⟩;have b:=g 0;have g1:=g 1;rw[A3S] at b;unfold Cb;rw[A3p rfl,b,g1];obtain rfl | rfl | rfl:K=0∨K=1∨K=2:=by omega
  ·rfl
  ·rfl
  ·rfl
theorem kind_bwd(s:AC)(a:Nat)(ok:Bool)(h:(Cb s a ok).2.2=true):ok=true/\s.drop a=kdS (Cb s a ok).1++s.drop (Cb s a ok).2.1:=by
  have d:∀ (b:Nat) (c:UInt8),s[b]?=some c->s.drop b=c::s.drop (b+1):=by
    intro b c q;obtain⟨hl,i⟩:=A0e.1 q;rw[A0Q hl,i]
  unfold Cb at h ⊢;by_cases g:ok=true
  ·rw[A3p g] at h ⊢;refine⟨g,?_⟩;by_cases e:s[a]?=some 105
   ·rw[A3p e] at h ⊢;by_cases f:s[a+1]?=some 100
    ·rw[A3p f] at h ⊢;rw[d _ _ e,d _ _ f];rfl
    ·rw[A3q f] at h ⊢;rw[d _ _ e];rfl
   ·rw[A3q e] at h ⊢;by_cases h3:s[a]?=some 100
    ·rw[A3p h3] at h ⊢;rw[d _ _ h3];rfl
    ·rw[A3q h3] at h;cases h
  ·rw[A3q g] at h;cases h
theorem ZP(b:AC):∀ c ∈ enc b,Q3 c=true:=by
  intro c a;unfold enc Jl at a;obtain⟨m,_,rfl⟩:=ut.1 a;unfold Q3;have:=wv6 b (6*m);rw[ZK _ this];exact A0Y this
theorem tw_all {p:UInt8->Bool}:∀ (l r:AC),(∀ c ∈ l,p c=true)->(∀ c,r[0]?=some c->p c=false)->(l++r).takeWhile p=l
  | [],[],_,_=>rfl
  | [],c::r,_,h=>by rw[A37,List.takeWhile_cons_of_neg (by rw[h c rfl];decide)]
  | d::l,r,h,h2=>by
    rw[A0f,List.takeWhile_cons_of_pos (h d A0R),tw_all l r (fun c a=>h c (A0P _ a)) h2]
theorem let_fwd(s b:AC)(a:Nat)(r:AC)(d:∀ c,r[0]?=some c->Q3 c=false)(h:s.drop a=enc b++r):DT s a true=enc b/\s.drop (a+(enc b).length)=r:=by
  refine⟨?_,by rw[<- A0j,h,List.drop_left]⟩;unfold DT;rw[A3p rfl,h,tw_all _ _ (ZP b) d]
theorem let_bwd(s:AC)(a:Nat):s.drop a=DT s a true++s.drop (a+(DT s a true).length):=by
  unfold DT;rw[A3p rfl,<-A0j];have:∀ (l:AC),l=l.takeWhile Q3++l.drop (l.takeWhile Q3).length:=by
    intro l;have c:=List.takeWhile_prefix (p:=Q3) (l:=l);obtain⟨t,b⟩:=c;have:l.drop (l.takeWhile Q3).length=t:=by
      conv=>lhs;rw[<- b]
      rw[b]
      conv=>lhs;arg 2;rw[<- b]
      rw[List.drop_left]
    rw[this,b]
  exact this _
theorem ZQ(n:Nat)(h:n<=1000000):VB (UInt64.ofNat n)=(n:Int):=by
  unfold VB;have e:=u64v n Y;rw[A3q (by rw[A2s,e];show ¬ (9223372036854775807:Nat) < n;omega),e,bG] <;> omega
theorem ZR(v:UInt64)(h:0<=VB v):VB v=(v.toNat:Int):=by
  unfold VB at h ⊢;by_cases q:(9223372036854775807:UInt64) < v
  ·rw[A3p q] at h;omega
  ·rw[A3q q];rw[A2s] at q;have:v.toNat<=9223372036854775807:=Nat.le_of_not_lt q;rw[bG] <;> omega
theorem parse_text(K M P L T:Int)(aO a:AC)(k:FK K M P L T aO.length=0)(o:(a.length:Int)=T):pX (textS K M.toNat P.toNat L.toNat aO a)=(K,M,P,L,T,aO,a,0,0):=by
  obtain⟨hm,hs1,hs2⟩:=chk0 k;have b:=hm;unfold wZ at b;obtain⟨m,rfl⟩:∃ m:Nat,M=(m:Int):=⟨M.toNat,Y⟩
  obtain⟨p,rfl⟩:∃ m:Nat,P=(m:Int):=⟨P.toNat,Y⟩
  obtain⟨l,rfl⟩:∃ m:Nat,L=(m:Int):=⟨L.toNat,Y⟩
  simp only[ww];have n:(textS K m p l aO a).drop 0=[36,97,114,103,111,110,50]++(kdS K++(36::([118,61,49,57,36,109,61]++(Lib.decDigits m++(44::([116,61]++(Lib.decDigits p++(44::([112,61]++(Lib.decDigits l++(36::(enc aO++(36::(enc a++[])))))))))))))):=by
    unfold textS;simp only[A0i,lw,A2n,A0f,A37]
  generalize textS K m p l aO a=s at n ⊢;unfold pX;obtain⟨a1,z⟩:=NH s _ _ _ n;rw[a1];obtain⟨a2,y⟩:=kind_fwd s K b.1 _ _ z;rw[a2];unfold midS;dsimp only;obtain⟨a3,x⟩:=NH s [36,118,61,49,57,36,109,61] _ _ y;rw[a3];dsimp only;obtain⟨a4,w⟩:=ZO s m Y _ 44 _ A2H x;rw[a4];dsimp only;obtain⟨a5,v⟩:=NH s [44,116,61] _ _ w;rw[a5];dsimp only;obtain⟨a6,u⟩:=ZO s p Y _ 44 _ A2H v;rw[a6];dsimp only;obtain⟨a7,t⟩:=NH s [44,112,61] _ _ u;rw[a7];dsimp only;obtain⟨a8,e8⟩:=ZO s l Y _ 36 _ A2H t;rw[a8];dsimp only;obtain⟨a9,r⟩:=NH s [36] _ _ e8;rw[a9];dsimp only;obtain⟨j,g⟩:=let_fwd s aO _ (36::(enc a++[])) (fun c d=>by cases d;decide) r;rw[j];obtain⟨i,f⟩:=NH s [36] _ _ g;rw[i];dsimp only;obtain⟨h,e⟩:=let_fwd s a _ [] (fun c d=>by cases d) f;rw[h];have hend:s.length<=_:=List.drop_eq_nil_iff.1 e;unfold X6;rw[A3q (by
    rw[A3K,Bool.false_or,lm];omega)]
  rw[Yz,Yz,A3q (fun q=>q rfl),A3q (fun q=>q rfl),ZQ m Y,ZQ p Y,ZQ l Y];dsimp only;rw[o,A3q (fun q=>q k)]
theorem QT(s:AC)(h:(pX s).2.2.2.2.2.2.2.2=0):Bc (pX s).1 (pX s).2.1 (pX s).2.2.1 (pX s).2.2.2.1 (pX s).2.2.2.2.1 (pX s).2.2.2.2.2.1 (pX s).2.2.2.2.2.2.1=(s,0):=by
  unfold pX at h ⊢;have I:=NI s [36,97,114,103,111,110,50] 0 true;generalize nP s 0 true [36,97,114,103,111,110,50]=x0 at I h ⊢;have H:=kind_bwd s x0.1 x0.2;generalize Cb s x0.1 x0.2=kx at H h ⊢;unfold midS at h ⊢;dsimp only at h ⊢;have G:=NI s [36,118,61,49,57,36,109,61] kx.2.1 kx.2.2;generalize nP s kx.2.1 kx.2.2 [36,118,61,49,57,36,109,61]=x1 at G h ⊢;have F:=VF s x1.1 x1.2;generalize rH s x1.1 x1.2=n1 at F h ⊢;have E:=NI s [44,116,61] n1.2.1 n1.2.2;generalize nP s n1.2.1 n1.2.2 [44,116,61]=x2 at E h ⊢;have D:=VF s x2.1 x2.2;generalize rH s x2.1 x2.2=n2 at D h ⊢;have C:=NI s [44,112,61] n2.2.1 n2.2.2;generalize nP s n2.2.1 n2.2.2 [44,112,61]=x3 at C h ⊢;have B:=VF s x3.1 x3.2;generalize rH s x3.1 x3.2=n3 at B h ⊢;have A:=NI s [36] n3.2.1 n3.2.2;generalize nP s n3.2.1 n3.2.2 [36]=x4 at A h ⊢;have z:=let_bwd s x4.1;have f:=NI s [36] (x4.1+(DT s x4.1 x4.2).length) x4.2;generalize nP s (x4.1+(DT s x4.1 x4.2).length) x4.2 [36]=x5 at f h ⊢;have e:=let_bwd s x5.1;by_cases a:((!x5.2)||(decide (((x5.1+(DT s x5.1 x5.2).length:Nat):Int) < (s.length:Int))))=true
  ·unfold X6 at h;rw[A3p a] at h;cases h
  ·by_cases c:(tV (DT s x4.1 x4.2)).2.2≠0
   ·unfold X6 at h;rw[A3q a,A3p c] at h;cases h
   ·by_cases d:(tV (DT s x5.1 x5.2)).2.2≠0
    ·unfold X6 at h;rw[A3q a,A3q c,A3p d] at h;cases h
    ·by_cases b:FK kx.1 (VB n1.1) (VB n2.1) (VB n3.1) (((tV (DT s x5.1 x5.2)).1.length:Nat):Int) (tV (DT s x4.1 x4.2)).1.length≠0
     ·unfold X6 at h;rw[A3q a,A3q c,A3q d,A3p b] at h;cases h
     ·unfold X6;rw[A3q a,A3q c,A3q d,A3q b];dsimp only;rw[A2k,not_or,A2z,Bool.not_eq_false,lm] at a;obtain⟨a,m⟩:=a;obtain⟨y,x,g⟩:=f a;obtain⟨T,O,r⟩:=A y;obtain⟨U,t⟩:=B T;obtain⟨V,P,u⟩:=C U;obtain⟨W,v⟩:=D V;obtain⟨X,Q,w⟩:=E W;obtain⟨S,p⟩:=F X;obtain⟨ob,N,o⟩:=G S;obtain⟨R,qc⟩:=H ob;obtain⟨od,M,n⟩:=I R;rw[y] at c b x g ⊢;rw[a] at m d b ⊢;have l:=YA _ (Classical.not_not.1 c);have k:=YA _ (Classical.not_not.1 d);have j:=Classical.not_not.1 b;obtain⟨hm,hs1,hs2⟩:=chk0 j;unfold wZ at hm;unfold Bc;rw[A3q b,A3q (fun q=>q rfl)];have L:=ZR n1.1 Y;have K:=ZR n2.1 Y;have J:=ZR n3.1 Y;rw[L,K,J];simp only[ww];refine Prod.ext ?_ rfl;show textS _ _ _ _ _ _=s;unfold textS;rw[l,k];have i:s.drop (x5.1+(DT s x5.1 true).length)=[]:=List.drop_eq_nil_iff.2 Y;rw[i,A2n] at e;rw[<- x,e] at g;rw[g] at z;rw[<- O,z] at r;rw[r] at t;rw[<- P,t] at u;rw[u] at v;rw[<- Q,v] at w;rw[w] at p;rw[<- N,p] at o;rw[o] at qc;rw[<- M,qc,A0i] at n
      conv=>rhs;rw[n]
      simp only[lw]
end
section
def Ug (c:UInt8):AC->AC->A02
  | a,[]=>[a]
  | a,x::l=>if x=c then a::Ug c [] l else Ug c (a++[x]) l
def tw (c:UInt8)(s:AC):AC:=s.takeWhile (fun x=>decide (x≠c))
def YE (c:UInt8)(s:AC):AC:=s.drop ((tw c s).length+1)
theorem tw_le(c:UInt8)(s:AC):(tw c s).length<=s.length:=List.Sublist.length_le (List.takeWhile_sublist _)
theorem ZT(c x:UInt8)(l:AC):tw c (x::l)=if x=c then[] else x::tw c l:=by
  unfold tw;rw[List.takeWhile_cons];by_cases h:x=c <;> simp[h]
theorem Xu{c}:∀ {s:AC},c ∈ s->(tw c s).length < s.length/\tw c s=s.take (tw c s).length/\s=tw c s++c::YE c s
  | x::l,h=>by
    unfold YE;rw[ZT];by_cases hx:x=c
    ·subst hx;simp
    ·rw[A3q hx];rcases ul.1 h with h | h
     ·exact absurd h.symm hx
     ·obtain⟨h1,a,h3⟩:=Xu h;refine⟨by simp only[bi];omega,by simp only[bi,List.take_succ_cons];rw[<- a],?_⟩;simp only[bi,A0f,List.drop_succ_cons];unfold YE at h3;rw[<- h3]
theorem rw_lt{c s}(h:c ∈ s):(YE c s).length < s.length:=by
  have a:=Xu h;have:=A3s List.length a.2.2;rw[Pi,bi] at this;omega
theorem ixb(c:UInt8):∀ s:AC,Lib.indexByte s c=if c ∈ s then((tw c s).length:Int) else -1
  | []=>by simp[Lib.indexByte]
  | x::l=>by
    unfold Lib.indexByte;rw[ixb c l,ZT];by_cases hx:x=c
    ·subst hx;simp
    ·have b:(x == c)=false:=by simpa using hx
     rw[b,A3q hx];by_cases hl:c ∈ l
     ·simp[hl,ul]
     ·have a:¬ c ∈ x::l:=by simp[hl];exact fun e=>hx e.symm
      simp[hl,a]
theorem pcsA_at(c:UInt8):∀ (l a:AC),Ug c a l=if c ∈ l then(a++tw c l)::Ug c [] (YE c l) else[a++l]
  | [],a=>by simp[Ug]
  | x::l,a=>by
    rw[Ug,YE,ZT];by_cases hx:x=c
    ·subst hx;simp
    ·rw[A3q hx,A3q hx,pcsA_at c l (a++[x])];by_cases hl:c ∈ l
     ·simp[hl,YE]
     ·have b:¬ c ∈ x::l:=by simp[hl];exact fun e=>hx e.symm
      simp[hl,b]
def UM (c:UInt8)(s:AC):A02:=Ug c [] s
theorem II(c:UInt8)(s:AC):UM c s=if c ∈ s then tw c s::UM c (YE c s) else[s]:=by
  unfold UM;rw[pcsA_at];simp
theorem cut_p (s:AC)(hs:s.length<=4194304):zo s=some (if 10 ∈ s then(tw 10 s,YE 10 s,true) else(s,[],false)):=by
  unfold zo oZ;rw[ixb];by_cases h:(10:UInt8) ∈ s
  ·have h1:=Xu h;simp only[h,if_true];rw[if_pos Y,show(0:Int)=((0:Nat):Int) from rfl,Xr s 0 _ (Nat.zero_le _) Y,A0X];rw[show(((tw 10 s).length:Int)+(([10]:AC).length:Int))=(((tw 10 s).length:Int)+1) from rfl,wS _ Y,Xr s _ s.length Y (Nat.le_refl _),A0X];simp only[A0X,A0i,A0S];rw[<- h1.2.1];rfl
  ·simp only[h,if_false];rw[if_neg Y];rfl
def ZU:Nat->AC->A02
  | 0,s=>[s]
  | k+1,s=>if 32 ∈ s then tw 32 s::ZU k (YE 32 s) else[s]
theorem J3:∀(k:Nat)(s:AC),s.length<=k->ZU k s=ZU (k+1) s
  | 0,s,h=>by
    have:s=[]:=A2y Y;subst this;simp[ZU]
  | k+1,s,h=>by
    rw[ZU,ZU];split
    ·rename_i hm;rw[J3 k _ (by have:=rw_lt hm;omega)]
    ·rfl
theorem spl_pcs:∀(k:Nat)(s:AC),(UM 32 s).length<=k+1->ZU k s=UM 32 s
  | 0,s,h=>by
    rw[II] at h ⊢;split at h
    ·rename_i hm;rw[bi] at h;have:(UM 32 (YE 32 s)).length≠0:=by
       rw[II];split <;> simp
     omega
    ·rename_i hm;rw[A3q hm];rfl
  | k+1,s,h=>by
    rw[II] at h ⊢;rw[ZU];split
    ·rename_i hm;rw[A3p hm,bi] at h;rw[spl_pcs k _ Y]
    ·rfl
theorem spl_over:∀(k:Nat)(s:AC),k+1 < (UM 32 s).length->∃ a b,ZU k s=a++[b]/\a.length=k/\(32:UInt8) ∈ b
  | 0,s,h=>by
    rw[II] at h;split at h
    ·rename_i hm;exact⟨[],s,rfl,rfl,hm⟩
    ·simp at h
  | k+1,s,h=>by
    rw[II] at h;split at h
    ·rename_i hm;rw[bi] at h;obtain⟨a,b,d,c,h3⟩:=spl_over k (YE 32 s) Y;refine⟨tw 32 s::a,b,?_,by rw[bi,c],h3⟩;rw[ZU,A3p hm,d];rfl
    ·simp at h
end
section
theorem gs_j1(rest:AC)(a:A02)(n:Nat)(hn:0 < n)(hd:a.length<=4):qg rest (a++List.replicate n []) (a.length:Int)=some (a++[rest]):=by
  obtain⟨m,rfl⟩:∃ m,n=m+1:=⟨n - 1,Y⟩
  unfold qg;have hl:a.length < (a++List.replicate (m+1) ([]:AC)).length:=by simp
  rw[fG hl,A0X,wS _ Y,show(0:Int)=(0:Int) from rfl,ww,Ah ⟨Y,Y,by rw[List.length_set];simp;omega⟩,A0X];congr 1;simp only[ww,A0i];rw[List.replicate_succ,A3w _ _ (A2f _),Nat.sub_self,A0g,A48,A2i Y,show a.length+1 - a.length=1 by omega];rfl
theorem gs_loop (s:AC)(hs:s.length<=4194304)(N:Nat)(hN:N=min (s.length+1) 4):∀ (k:Nat) (done:A02) (rest:AC),done.length+k+1=N->rest.length<=s.length ->
    aT (jL s) (rest,done++List.replicate (N - done.length) [],(done.length:Int))=some (done++ZU k rest):=by
  have hE:(if ax ((s.length:Int)+1) < 4 then ax ((s.length:Int)+1) else 4)=(N:Int):=by
    rw[wS _ Y];split <;> omega
  have hE1:ax ((N:Int) - 1)=(N:Int) - 1:=bG Y;intro k
  induction k with
  | zero =>
    intro done rest hd hr;have e:jL s (rest,done++List.replicate (N - done.length) [],(done.length:Int))=some (.inr (done++ZU 0 rest)):=by
      simp only[jL,lY,hE,hE1];rw[if_neg Y,gs_j1 rest done _ Y Y];rfl
    rw[dm e]
  | succ k ih =>
    intro done rest hd hr;by_cases hm:(32:UInt8) ∈ rest
    ·have h1:=Xu hm;have e:jL s (rest,done++List.replicate (N - done.length) [],(done.length:Int))=some (.inl (YE 32 rest,(done++[tw 32 rest])++List.replicate (N - (done++[tw 32 rest]).length) [],((done++[tw 32 rest]).length:Int))):=by
       simp only[jL,lY,yK,hE,hE1];rw[if_pos Y,A0X,ixb,if_pos hm,if_neg Y,show(((tw 32 rest).length:Int)+0)=(((tw 32 rest).length:Nat):Int) by omega,wN _ Y,show(0:Int)=((0:Nat):Int) from rfl,Xr rest 0 _ (Nat.zero_le _) Y,A0X];rw[fG (by rw[Pi,List.length_replicate];omega),A0X];rw[show(((tw 32 rest).length:Int)+(([32]:AC).length:Int))=(((tw 32 rest).length:Int)+1) from rfl,wS _ Y,Xr rest _ rest.length Y (Nat.le_refl _),A0X,wS _ Y,A0i,<-h1.2.1,A0S];obtain⟨m,hm'⟩:∃ m,N - done.length=m+1:=⟨N - done.length - 1,Y⟩
       have hm2:N - (done++[tw 32 rest]).length=m:=by rw[Pi,A0W];omega
       rw[hm',hm2,ww,List.replicate_succ,List.set_append_right _ _ (Nat.le_refl _),Nat.sub_self,A0g,Pi,A0W,lw];rfl
     rw[iJ e,ih (done++[tw 32 rest]) (YE 32 rest) (by rw[Pi,A0W];omega) (by have:=rw_lt hm;omega),ZU,if_pos hm,lw];rfl
    ·have e:jL s (rest,done++List.replicate (N - done.length) [],(done.length:Int))=some (.inr (done++[rest])):=by
       simp only[jL,lY,yK,hE,hE1];rw[if_pos Y,A0X,ixb,if_neg hm,if_pos Y,gs_j1 rest done _ Y Y];rfl
     rw[dm e,ZU,if_neg hm]
theorem spl_min(s:AC):ZU (min (s.length+1) 4 - 1) s=ZU 3 s:=by
  rcases A3A s.length 3 with h | h
  ·rcases A3A s.length 1 with h0 | h0
   ·rw[show min (s.length+1) 4 - 1=0 by omega,J3 0 s Y,J3 1 s Y,J3 2 s Y]
   ·rcases A3A s.length 2 with h1 | h1
    ·rw[show min (s.length+1) 4 - 1=1 by omega,J3 1 s Y,J3 2 s Y]
    ·rw[show min (s.length+1) 4 - 1=2 by omega,J3 2 s Y]
  ·rw[show min (s.length+1) 4 - 1=3 by omega]
theorem splitN_p (s:AC)(hs:s.length<=4194304):xA s=some (ZU 3 s):=by
  unfold xA yu uS;have hE:(if ax ((s.length:Int)+1) < 4 then ax ((s.length:Int)+1) else 4)=((min (s.length+1) 4:Nat):Int):=by
    rw[wS _ Y];split <;> omega
  rw[hE,ig (by refine⟨Y,Y,?_⟩;rw[ww];omega),A0X];have:=gs_loop s hs _ rfl (min (s.length+1) 4 - 1) [] s (by simp only[A0L];omega) (Nat.le_refl _);simp only[List.nil_append,A0L,Nat.sub_zero] at this;rw[ww];rw[show((0:Nat):Int)=(0:Int) from rfl] at this;rw[this,spl_min];rfl
def nmC (c:UInt8):Bool:=(decide ((97:UInt8)<=c)&&decide (c<=122))||(decide ((48:UInt8)<=c)&&decide (c<=57))||decide (c=95)||decide (c=46)||decide (c=45)
def L6 (s:AC):Bool:=decide (1<=s.length)&&decide (s.length<=32)&&s.all nmC
theorem nm_r:∀ c:UInt8,(((((!((decide ((48:UInt8)<=c))&&(decide (c<=57))))&&((decide (c < 97))||(decide ((122:UInt8) < c))))&&(decide (c≠95)))&&(decide (c≠46)))&&(decide (c≠45)))=!nmC c:=by
  refine LY fun n h=>?_;revert n;decide +kernel
theorem named_loop(s:AC)(hs:s.length<=4194304):∀ (k i:Nat),i+k=s.length->aT (oq s) (i:Int)=some ((s.drop i).all nmC):=by
  intro k
  induction k with
  | zero =>
    intro i d;have e:oq s (i:Int)=some (.inr true):=by
      simp only[oq];rw[A3q Y];rfl
    rw[dm e,A3T Y];rfl
  | succ k ih =>
    intro i d;have a:i < s.length:=Y
    rw[A0Q a,List.all_cons];by_cases b:nmC s[i]=true
    ·have e:oq s (i:Int)=some (.inl ((i+1:Nat):Int)):=by
       simp only[oq];rw[A3p Y,fG a,A0X,A3q (by unfold nmC at b;rw[b];decide),wS _ Y]
     rw[iJ e,ih (i+1) Y,b];rfl
    ·have e:oq s (i:Int)=some (.inr false):=by
       simp only[oq];have c:nmC s[i]=false:=by simpa using b
       rw[A3p Y,fG a,A0X,A3p (by unfold nmC at c;rw[c];decide)];rfl
     rw[dm e,show nmC s[i]=false by simpa using b];rfl
theorem named_p (s:AC)(hs:s.length<=4194304):yw s=some (L6 s):=by
  unfold yw L6;by_cases h:1<=s.length/\s.length<=32
  ·rw[if_neg (tf1 A2L A2L),show(0:Int)=((0:Nat):Int) from rfl,named_loop s hs s.length 0 Y];simp[h.1,h.2]
  ·have:(decide ((s.length:Int) < 1)||decide (32 < (s.length:Int)))=true:=by simp;omega
   rw[if_pos this];simp only[Option.some.injEq];symm;simp only[Bool.and_eq_false_iff,decide_eq_false_iff_not];rcases Nat.lt_or_ge s.length 1 with h1 | h1
   ·exact .inl (.inl Y)
   ·exact .inl (.inr Y)
theorem name_loop(s:AC)(hs:s.length<=4194304):∀ (k i:Nat),i+k=s.length->aT (qM s) (i:Int)=some ((s.drop i).all nmC&&(decide (1<=s.length)&&decide (s.length<=32))):=by
  intro k
  induction k with
  | zero =>
    intro i f;have e:qM s (i:Int)=some (.inr (decide (1<=s.length)&&decide (s.length<=32))):=by
      simp only[qM];rw[A3q Y];have h:decide ((1:Int)<=(s.length:Int))=decide (1<=s.length):=decide_eq_decide.2 Y;have g:decide ((s.length:Int)<=32)=decide (s.length<=32):=decide_eq_decide.2 Y;rw[h,g];rfl
    rw[dm e,A3T Y];rfl
  | succ k ih =>
    intro i f;have a:i < s.length:=Y
    rw[A0Q a,List.all_cons];have c:=nm_r s[i];by_cases b:nmC s[i]=true
    ·have e:qM s (i:Int)=some (.inl ((i+1:Nat):Int)):=by
       simp only[qM,vX];rw[A3p Y,fG a,A0X,A0X,A3q (by rw[c,b];decide),wS _ Y]
     rw[iJ e,ih (i+1) Y,b,A3g]
    ·have d:nmC s[i]=false:=by simpa using b
     have e:qM s (i:Int)=some (.inr false):=by
       simp only[qM,vX];rw[A3p Y,fG a,A0X,A0X,A3p (by rw[c,d];decide)];rfl
     rw[dm e,d];rfl
theorem name_r (s:AC)(hs:s.length<=4194304):Jw s=some (L6 s):=by
  unfold Jw L6;rw[show(0:Int)=((0:Nat):Int) from rfl,name_loop s hs s.length 0 Y,A0i,Bool.and_comm]
end
section
def QU (a b c d:AC)(A1v:Int):Bool :=
  L6 a&&((rH b 0 true).2.2&&decide ((rH b 0 true).2.1=b.length))&&((rH c 0 true).2.2&&decide ((rH c 0 true).2.1=c.length))&&decide ((pX d).2.2.2.2.2.2.2.2=0)&&!decide (UInt64.ofInt A1v<=(rH b 0 true).1)
def lineS (s:AC)(A1v:Int):Option (AC×UInt64×UInt64×AC) :=
  match UM 32 s with
  | [a,b,c,d]=>if QU a b c d A1v=true then some (a,(rH b 0 true).1,(rH c 0 true).1,d) else none
  | _=>none
def rL:Option (AC×UInt64×UInt64×AC)->AC×Int×UInt64×AC×Bool
  | some (a,t,u,d)=>(a,ax t.toNat,u,d,true)
  | none=>([],0,0,[],false)
def pL:Option (AC×UInt64×UInt64×AC)->AC×AC×Int×UInt64×Bool
  | some (a,t,u,d)=>(a,d,ax t.toNat,u,true)
  | none=>([],[],0,0,false)
theorem dd_isD:∀ n:Nat,∀ c ∈ Lib.decDigits n,U_ c=true:=by
  intro n
  induction n using Nat.strongRecOn with
  | _ n ih =>
    intro c a;rw[Lib.decDigits] at a;split at a
    ·rw[A0N.1 a];exact(YD n (by assumption)).1
    ·rcases A3P.1 a with h | h
     ·exact ih (n / 10) Y c h
     ·rw[A0N.1 h];exact(YD (n % 10) Y).1
theorem Xv(d:AC)(h:(pX d).2.2.2.2.2.2.2.2=0):(32:UInt8) ∉ d:=by
  have a:=QT d h;unfold Bc at a;split at a
  ·rename_i g;simp only[A2c] at a;exact absurd a.2 g
  ·split at a
   ·simp at a
   ·simp only[A2c,A49] at a;rw[<- a];intro hm;have f:∀ n:Nat,(32:UInt8) ∉ Lib.decDigits n:=fun n q=>by have:=dd_isD n _ q;revert this;decide
    have e:∀ b:AC,(32:UInt8) ∉ enc b:=fun b q=>by have:=ZP b _ q;revert this;decide
    have c:∀ K:Int,(32:UInt8) ∉ kdS K:=fun K=>by unfold kdS;split <;> (try split) <;> decide
    unfold textS at hm;simp only[A3P,f,e,c,or_false,false_or] at hm;revert hm;decide
theorem YF(s:AC)(b:(rH s 0 true).2.2=true)(a:(rH s 0 true).2.1=s.length):s=Lib.decDigits (rH s 0 true).1.toNat:=by
  have:=(VF s 0 true b).2;rw[a,List.drop_length,A2n,A0i] at this;exact this
theorem read4 (a b c d:AC)(A1v:Int)(r:A02)(h0:aP r 0=some a)(h1:aP r 1=some b)(h2:aP r 2=some c)(h3:aP r 3=some d)(ha:a.length<=4194304)(hb:b.length<=4194304)(hc:c.length<=4194304)(hd:d.length<=4194304) :
    ((aP r (0:Int)).bind fun aN=>(yw aN).bind fun aI=>if(!aI)=true then(some (([]:AC),([]:AC),(0:Int),(0:UInt64),false)) else((aP r (1:Int)).bind fun ni=>(aP r (2:Int)).bind fun oG=>Ak A1v r ni oG))
      = some (pL (if QU a b c d A1v=true then some (a,(rH b 0 true).1,(rH c 0 true).1,d) else none)):=by
  unfold Ak;simp only[h0,h1,h2,h3,A0X];rw[named_p a ha,A0X];rw[show(0:Int)=((0:Nat):Int) from rfl,num_p b hb 0 (Nat.zero_le _) true,num_p c hc 0 (Nat.zero_le _) true,VE d hd];simp only[A0X];have hb':=KO b 0 true (Nat.zero_le _);have hc':=KO c 0 true (Nat.zero_le _);have e1:decide (((rH b 0 true).2.1:Int) < (b.length:Int))=!decide ((rH b 0 true).2.1=b.length):=by
    rw[<- decide_not];exact decide_eq_decide.2 Y
  have e2:decide (((rH c 0 true).2.1:Int) < (c.length:Int))=!decide ((rH c 0 true).2.1=c.length):=by
    rw[<- decide_not];exact decide_eq_decide.2 Y
  rw[e1,e2];unfold QU;cases L6 a with
  | false=>simp[pL]
  | true =>
    generalize (rH b 0 true).2.2=x1;generalize decide ((rH b 0 true).2.1=b.length)=x2;generalize (rH c 0 true).2.2=x3;generalize decide ((rH c 0 true).2.1=c.length)=x4;by_cases h5:(pX d).2.2.2.2.2.2.2.2=0
    ·by_cases h4:UInt64.ofInt A1v<=(rH b 0 true).1 <;> cases x1 <;> cases x2 <;> cases x3 <;> cases x4 <;> simp[h5,h4,pL]
    ·cases x1 <;> cases x2 <;> cases x3 <;> cases x4 <;> simp[h5,pL]
theorem spl_len(k:Nat):∀ (s:AC),∀ p ∈ ZU k s,p.length<=s.length:=by
  induction k with
  | zero=>intro s p hp;rw[A0N.1 hp];exact A2f _
  | succ k ih =>
    intro s p hp;rw[ZU] at hp;split at hp
    ·rename_i hm;have:=rw_lt hm;rcases ul.1 hp with rfl | hp
     ·exact tw_le _ _
     ·have:=ih (YE 32 s) p hp;omega
    ·rw[A0N.1 hp];exact A2f _
theorem read_p(s:AC)(A1v:Int)(hs:s.length<=4194304):DY s A1v=some (pL (lineS s A1v)):=by
  unfold DY lineS;rw[splitN_p s hs,A0X];have hl:=spl_len 3 s;by_cases f:(UM 32 s).length<=4
  ·rw[spl_pcs 3 s Y] at hl ⊢;revert hl f;rcases UM 32 s with _ | ⟨a,_ | ⟨b,_ | ⟨c,_ | ⟨d,_ | ⟨e,r⟩⟩⟩⟩⟩ <;> intro hl f
   ·rfl
   ·rfl
   ·rfl
   ·rfl
   ·have j:=hl a A2K;have i:=hl b A2K;have h3:=hl c A2K;have f:=hl d A2K;rw[A3q A2K];exact read4 a b c d A1v _ rfl rfl rfl rfl Y Y Y Y
   ·simp only[bi] at f;omega
  ·obtain⟨w,g,j,i,h3⟩:=spl_over 3 s Y;rw[j] at hl ⊢;obtain⟨a,b,c,rfl⟩:∃ a b c,w=[a,b,c]:=by
     rcases w with _ | ⟨a,_ | ⟨b,_ | ⟨c,_ | ⟨d,r⟩⟩⟩⟩ <;> simp only[bi,A0L] at i <;> first | omega | exact⟨a,b,c,rfl⟩
   have q1:=hl a A2K;have q2:=hl b A2K;have q3:=hl c A2K;have q4:=hl g A2K;rw[A3q A2K,read4 a b c g A1v _ rfl rfl rfl rfl Y Y Y Y];have h:QU a b c g A1v=false:=by
     unfold QU;have:decide ((pX g).2.2.2.2.2.2.2.2=0)=false:=A0Z fun q=>Xv g q h3;rw[this,Bool.and_false,A43]
   rw[h];revert f;rcases UM 32 s with _ | ⟨a,_ | ⟨b,_ | ⟨c,_ | ⟨d,_ | ⟨e,r⟩⟩⟩⟩⟩ <;> intro f <;> first | rfl | (simp only[bi,A0L] at f;omega)
theorem pcs_join:∀(n:Nat)(s a b c d:AC),s.length<=n->UM 32 s=[a,b,c,d]->a++[32]++b++[32]++c++[32]++d=s:=by
  intro n s a b c d _ h;have one:∀ (s x:AC) (r:A02),UM 32 s=x::r->r≠[]->(32:UInt8) ∈ s/\x=tw 32 s/\r=UM 32 (YE 32 s):=by
    intro s x r h p;rw[II] at h;split at h
    ·rename_i hm;simp only[A2u] at h;exact⟨hm,h.1.symm,h.2.symm⟩
    ·simp only[A2u] at h;exact absurd h.2.symm p
  have e:∀ (s x:AC),UM 32 s=[x]->x=s:=by
    intro s x h;rw[II] at h;split at h
    ·rename_i hm;simp only[A2u] at h;rw[II] at h;split at h <;> simp at h
    ·simp only[A2u,A49] at h;exact h.symm
  obtain⟨o,v,k⟩:=one s a _ h A2K;obtain⟨m,u,r2⟩:=one _ b _ k.symm A2K;obtain⟨l,t,j⟩:=one _ c _ r2.symm A2K;have q:=e _ d j.symm;have i:=(Xu o).2.2;have g:=(Xu m).2.2;have f:=(Xu l).2.2;rw[<- v] at i;rw[<- u] at g;rw[<- t,<-q] at f;rw[i,g,f];simp
theorem line_back(s:AC)(A1v:Int)(hm:1<=A1v/\A1v<=100){a d t u}(h:lineS s A1v=some (a,t,u,d)) :
    a++[32]++Lib.decDigits t.toNat++[32]++Lib.decDigits u.toNat++[32]++d=s/\a≠[]/\t.toNat < 100:=by
  unfold lineS at h;split at h
  ·rename_i x b c y hp;split at h
   ·rename_i f;simp only[A2a,A2c] at h;obtain⟨rfl,rfl,rfl,rfl⟩:=h;unfold QU at f;simp only[A0U,lm,A2z,A3u] at f;obtain⟨⟨⟨⟨g,m,h3⟩,l,k⟩,h6⟩,j⟩:=f;refine⟨?_,?_,?_⟩
    ·rw[<- YF b m h3,<-YF c l k];exact pcs_join s.length s x b c y (A2f _) hp
    ·unfold L6 at g;simp only[A0U,lm] at g;intro e;rw[e] at g;simp at g
    ·have i:(UInt64.ofInt A1v).toNat=A1v.toNat:=by
       unfold UInt64.ofInt;rw[A3X A2Y];omega
     rw[A38,i] at j;omega
   ·cases h
  ·cases h
end
section
theorem blt:∀ a b:AC,Op.bytesLess a b=decide (a < b)
  | a,[]=>by
    have:¬ a < []:=List.not_lt_nil a;cases a <;> simp[Op.bytesLess,this]
  | [],y::b=>by
    have:([]:AC) < y::b:=List.nil_lt_cons y b;simp[Op.bytesLess,this]
  | x::a,y::b=>by
    rw[Op.bytesLess,blt a b];have:=List.cons_lt_cons_iff (a:=x) (b:=y) (l₁:=a) (l₂:=b);by_cases c:x < y
    ·simp[c,this]
    ·by_cases d:x=y
     ·subst d;simp[c,this]
     ·simp[c,d,this]
theorem ble(k A2A:AC):(Op.bytesLess k A2A||decide (k=A2A))=!decide (A2A < k):=by
  rw[blt];rcases lt_tri k A2A with h | h | h
  ·have a:¬ A2A < k:=fun q=>A3L _ (List.lt_trans h q);simp[h,a]
  ·subst h;simp[A3L]
  ·have a:¬ k < A2A:=fun q=>A3L _ (List.lt_trans h q);have h3:k≠A2A:=fun e=>by subst e;exact A3L _ h
   simp[h,a,h3]
theorem mins_end{δ:Type}(k:Ky)(v:δ):∀ m:Mp δ,(∀ p ∈ m,p.1 < k)->Dw m k v=m++[(k,v)]
  | [],_=>rfl
  | p::r,h=>by
    have a:=h p A0R;rw[Dw,A3q (fun e=>by rw[e] at a;exact A3L _ a),A3q (fun q=>A3L _ (List.lt_trans a q)),mins_end k v r (fun q b=>h q (A0P _ b))];rfl
abbrev US:=AC×UInt64×UInt64×AC
def fR (x:US):AC×Int×UInt64×AC:=(x.1,ax x.2.1.toNat,x.2.2.1,x.2.2.2)
def fP (x:US):AC×WF:=(x.1,x.2.2.2,ax x.2.1.toNat,x.2.2.1)
def NR (a:List US):AC:=((a.getLast?).map (·.1)).getD []
def VG (a:List US):Prop:=(a.map (·.1)).Pairwise (· < ·)
theorem Uh(a:List US)(x:US):NR (a++[x])=x.1:=by simp[NR]
theorem VG.app{c x}(h:VG c)(hl:c=[]∨NR c < x.1):VG (c++[x])/\∀ q ∈ c,q.1 < x.1:=by
  have f:∀ q ∈ c,q.1 < x.1:=by
    intro q d;rcases List.eq_nil_or_concat c with rfl | ⟨i,z,rfl⟩
    ·cases d
    ·rcases hl with hl | hl
     ·simp at hl
     ·rw[List.concat_eq_append] at *;rw[Uh] at hl;rcases A3P.1 d with d | d
      ·unfold VG at h;rw[A2g,A3z] at h;exact List.lt_trans (h.2.2 q.1 (ut.2 ⟨q,d,rfl⟩) z.1 A2K) hl
      ·rw[A0N.1 d];exact hl
  refine⟨?_,f⟩;unfold VG at h ⊢;rw[A2g,A3z];refine⟨h,A2K,fun a g b e=>?_⟩;obtain⟨q,d,rfl⟩:=ut.1 g;simp only[kw,A2q,A0N] at e;subst e;exact f q d
def rdS (A1v:Int):A02->List US->Nat->Nat⊕List US
  | [],acc,i=>.inr acc
  | [l],acc,i=>if l=[] then .inr acc else .inl (i+1)
  | l::a::ls,acc,i=>match lineS l A1v with
    | none=>.inl (i+1)
    | some u=>if 1024<=acc.length∨(acc≠[]/\¬ NR acc < u.1) then .inl (i+1) else rdS A1v (a::ls) (acc++[u]) (i+1)
def Ui (K M P L T A1v:Int):Int:=if FK K M P L T 16≠0 then FK K M P L T 16 else if A1v < 1∨100 < A1v then 1 else 0
theorem new_p(K M P L T A1v:Int)(A1z:UInt64):Gf K M P L T A1v A1z=some (if Ui K M P L T A1v≠0 then .inl (Ui K M P L T A1v) else .inr (K,M,P,L,T,A1v,A1z,[])):=by
  unfold Gf Ui;rw[Xt,A0X];rw[show(List.replicate (Int.toNat (16:Int)) (0:UInt8)).length=16 from rfl];by_cases h:FK K M P L T 16=0
  ·rw[A3q (fun q=>q h),h];by_cases a:A1v < 1∨100 < A1v
   ·rw[A3p (by simpa using a)];simp[a]
   ·rw[A3q (by simpa using a)];simp[a]
  ·rw[A3p h];simp[h]
theorem valid_r(K M P L T A1v:Int):D5 K M P L T A1v=some (Ui K M P L T A1v):=by
  unfold D5 Ui;rw[Uc,A0X];rw[show(List.replicate (Int.toNat (16:Int)) (0:UInt8)).length=16 from rfl];by_cases h:FK K M P L T 16=0
  ·rw[A3q (fun q=>q h),h];by_cases a:A1v < 1∨100 < A1v
   ·rw[A3p (by simpa using a)];simp[a]
   ·rw[A3q (by simpa using a)];simp[a]
  ·rw[A3p h];simp[h]
end
section
theorem pcs_ne(c:UInt8)(s:AC):∃ x r,UM c s=x::r:=by
  rw[II];split
  ·exact⟨_,_,rfl⟩
  ·exact⟨_,_,rfl⟩
theorem nil_lt{a}(h:a≠[]):([]:AC) < a:=by
  cases a with
  | nil=>exact absurd rfl h
  | cons x l=>exact List.nil_lt_cons x l
theorem pL_some(u:US):pL (some u)=(u.1,u.2.2.2,ax u.2.1.toNat,u.2.2.1,true):=rfl
def resP (r2:Int×Int×Int×Int×Int×Int×UInt64×(Mp WF)):Nat⊕List US->A05⊕A0D
  | .inl n=>.inl ((n:Int),4)
  | .inr ac=>.inr (r2.1,r2.2.1,r2.2.2.1,r2.2.2.2.1,r2.2.2.2.2.1,r2.2.2.2.2.2.1,r2.2.2.2.2.2.2.1,ac.map fP)
theorem read_loop_p(A1v:Int)(m:1<=A1v/\A1v<=100)(r2:Int×Int×Int×Int×Int×Int×UInt64×(Mp WF)):∀ (n:Nat) (b:AC) (c:List US) (i:Nat),b.length<=n->n+i<=4194304->VG c ->
    aT (o9 A1v r2) (b,c.map fP,NR c,((i+1:Nat):Int))=some (resP r2 (rdS A1v (UM 10 b) c i)):=by
  intro n
  induction n with
  | zero =>
    intro b c i hn w k;have g:b=[]:=A2y Y;subst g;have e:o9 A1v r2 (([]:AC),c.map fP,NR c,((i+1:Nat):Int))=some (.inr (resP r2 (.inr c))):=by
      simp only[o9];rw[A3q (fun q=>q rfl)];rfl
    rw[dm e,II,A3q A2K];rfl
  | succ n ih =>
    intro b c i hn w k;by_cases g:b=[]
    ·subst g;exact ih [] c i A2K Y k
    ·by_cases hm:(10:UInt8) ∈ b
     ·have h1:=tw_le 10 b;have h2:=rw_lt hm;have f:o9 A1v r2 (b,c.map fP,NR c,((i+1:Nat):Int))=(if(((!true)||(!(pL (lineS (tw 10 b) A1v)).2.2.2.2))||(Op.bytesLess (pL (lineS (tw 10 b) A1v)).1 (NR c)||decide ((pL (lineS (tw 10 b) A1v)).1=NR c)))=true then(Option.map Sum.inr (some (Sum.inl (((i+1:Nat):Int),(4:Int))))) else(if 1024<=(((c.map fP).length:Nat):Int) then(Option.map Sum.inr (some (Sum.inl (((i+1:Nat):Int),(4:Int))))) else(some (.inl (YE 10 b,Dw (c.map fP) (pL (lineS (tw 10 b) A1v)).1 ((pL (lineS (tw 10 b) A1v)).2.1,(pL (lineS (tw 10 b) A1v)).2.2.1,(pL (lineS (tw 10 b) A1v)).2.2.2.1),(pL (lineS (tw 10 b) A1v)).1,ax (((i+1:Nat):Int)+1)))))):=by
        simp only[o9];rw[A3p g,cut_p b Y,A3p hm,A0X,read_p _ _ (by show(tw 10 b).length<=4194304;omega),A0X]
      rw[ble] at f;have l:UM 10 b=tw 10 b::UM 10 (YE 10 b):=by rw[II,A3p hm]
      obtain⟨l',ls,h⟩:=pcs_ne 10 (YE 10 b);rw[l,h,rdS];rcases s:lineS (tw 10 b) A1v with _ | u
      ·rw[s] at f;have e:=f.trans (A3p (by simp[pL]));rw[dm e];rfl
      ·rw[s,pL_some] at f;have hne:=(line_back (tw 10 b) A1v m (a:=u.1) (t:=u.2.1) (u:=u.2.2.1) (d:=u.2.2.2) s).2.1;simp only at f ⊢;by_cases h3:NR c < u.1
       ·rw[A3q (by simp[h3])] at f;by_cases x:1024<=c.length
        ·rw[A3p A2R] at f;rw[dm f,A3p (.inl x)];rfl
        ·rw[A3q A2R] at f;obtain⟨j,o⟩:=k.app (.inr h3);rw[mins_end u.1 _ (c.map fP) (fun p hp=>by obtain⟨q,v,rfl⟩:=ut.1 hp;exact o q v),wS (i+1) Y] at f;have:=ih (YE 10 b) (c++[u]) (i+1) Y Y j;rw[Uh,A2g,h] at this;rw[iJ f,A3q (by simp[h3];omega)];exact this
       ·have r:c≠[]:=fun e=>h3 (by rw[e];exact nil_lt hne);rw[A3p (by simp[h3])] at f;rw[dm f,A3p (.inr ⟨r,h3⟩)];rfl
     ·have e:o9 A1v r2 (b,c.map fP,NR c,((i+1:Nat):Int))=some (.inr (.inl (((i+1:Nat):Int),4))):=by
        simp only[o9];rw[A3p g,cut_p b Y,A3q hm,A0X,read_p _ _ (by show b.length<=4194304;omega),A0X,A3p A2K];rfl
      rw[dm e,II,A3q hm,rdS,A3q g];rfl
theorem YG{K M P L T A1v}(h:Ui K M P L T A1v=0):1<=A1v/\A1v<=100:=by
  unfold Ui at h;split at h
  ·rename_i q;exact absurd h q
  ·split at h
   ·cases h
   ·omega
theorem read_all_p(K M P L T A1v:Int)(A1z:UInt64)(a:AC)(hs:a.length<=4000000):DZ K M P L T A1v A1z a=some (if Ui K M P L T A1v≠0 then .inl (0,Ui K M P L T A1v) else resP (K,M,P,L,T,A1v,A1z,[]) (rdS A1v (UM 10 a) [] 0)):=by
  unfold DZ;rw[new_p,A0X];by_cases h:Ui K M P L T A1v=0
  ·rw[A3q (fun q=>q h),A3q (fun q=>q h)];simp only[A3C];rw[A3q (fun q=>q rfl)];exact read_loop_p A1v (YG h) (K,M,P,L,T,A1v,A1z,[]) a.length a [] 0 (A2f _) Y List.Pairwise.nil
  ·rw[A3p h,A3p h];simp only[A3E];rw[A3p h]
end
section
def Lh (u:US):AC:=u.1++[32]++Lib.decDigits u.2.1.toNat++[32]++Lib.decDigits u.2.2.1.toNat++[32]++u.2.2.2++[10]
theorem ac_len(ac:List US):ac.length<=((ac.map Lh).flatten).length:=by
  induction ac with
  | nil=>simp
  | cons u l ih =>
    simp only[kw,A0l,bi,Pi,Lh];omega
theorem VH(ac:List US):(ac.map fP).map (·.1)=ac.map (·.1):=by simp[fP,Function.comp_def]
theorem ZV(K M P L T A1v:Int)(A1z:UInt64)(ac:List US)(b:VG ac)(hl:ac.length<=4000000):o_ K M P L T A1v A1z (ac.map fP)=some (ac.map (·.1),K,M,P,L,T,A1v,A1z):=by
  unfold o_ jR;rw[A0X,ig A2R,A0X,VH];have:srt (ac.map (·.1))=ac.map (·.1):=by
    unfold srt;refine List.mergeSort_of_pairwise ?_;unfold VG at b;exact b.imp fun a=>A0Y (List.le_of_lt a)
  rw[this]
theorem line_p(u:US)(ht:u.2.1.toNat < 100)(hl:(Lh u).length<=4000000):yL u.1 u.2.2.2 (ax u.2.1.toNat) u.2.2.1=some (Lh u):=by
  unfold yL;have a:ax (u.2.1.toNat:Int)=(u.2.1.toNat:Int):=bG Y;rw[a,itoa_ok];unfold Lh at hl;simp only[Pi,bi,A0L] at hl;rw[ig A2P,A0X,ig Y,A0X];rw[ig A2M,A0X,ig A2M,A0X];rw[ig A2M,A0X,ig A2M,A0X];rw[ig A2M,A0X,ig A2M,A0X];rfl
theorem text_loop(ac:List US)(j:VG ac)(g:∀ q ∈ ac,q.2.1.toNat < 100)(hl:((ac.map Lh).flatten).length<=4000000)(r:A02×Int×Int×Int×Int×Int×Int×UInt64)(f:r.1=ac.map (·.1)):∀ (k i:Nat),i+k=ac.length ->
    aT (nD (ac.map fP) r) (((ac.take i).map Lh).flatten,(i:Int))=some ((ac.map Lh).flatten,r.2.1,r.2.2.1,r.2.2.2.1,r.2.2.2.2.1,r.2.2.2.2.2.1,r.2.2.2.2.2.2.1,r.2.2.2.2.2.2.2):=by
  have hac:=ac_len ac;have c:PW (ac.map fP):=by unfold PW;rw[VH];exact j
  intro k
  induction k with
  | zero =>
    intro i l;have e:nD (ac.map fP) r (((ac.take i).map Lh).flatten,(i:Int))=some (.inr ((ac.map Lh).flatten,r.2.1,r.2.2.1,r.2.2.2.1,r.2.2.2.2.1,r.2.2.2.2.2.1,r.2.2.2.2.2.2.1,r.2.2.2.2.2.2.2)):=by
      simp only[nD];rw[A3q (by rw[f,A0K];omega),A2i Y];rfl
    rw[dm e]
  | succ k ih =>
    intro i l;have a:i < ac.length:=Y
    have b:((ac.take (i+1)).map Lh).flatten=((ac.take i).map Lh).flatten++Lh ac[i]:=by
      rw[List.take_add_one,A0V a,Option.toList_some,A2g,List.flatten_append];simp only[kw,A2q,A0l,List.flatten_nil,A2n]
    have d:((ac.take (i+1)).map Lh).flatten.length<=(ac.map Lh).flatten.length:=by
      have h:ac.map Lh=(ac.take (i+1)).map Lh++(ac.drop (i+1)).map Lh:=by rw[<- A2g,A32]
      have n:=A3s (fun x=>x.flatten.length) h;simp only[List.flatten_append,Pi] at n;omega
    rw[b,Pi] at d;have m:oz (ac.map fP) ac[i].1=some (fP ac[i]).2:=yh c.nodup (ut.2 ⟨ac[i],List.getElem_mem a,rfl⟩);have e:nD (ac.map fP) r (((ac.take i).map Lh).flatten,(i:Int))=some (.inl (((ac.take (i+1)).map Lh).flatten,((i+1:Nat):Int))):=by
      simp only[nD];rw[A3p (by rw[f,A0K];omega),f,fG (by simpa using a),A0X,List.getElem_map,m,A0X];simp only[A47];rw[show(fP ac[i]).2=(ac[i].2.2.2,ax ac[i].2.1.toNat,ac[i].2.2.1) from rfl];rw[line_p ac[i] (g _ (List.getElem_mem a)) Y,A0X,ig Y,A0X,wS _ Y,b]
    rw[iJ e,ih (i+1) Y]
end
section
section
variable {α σ ρ:Type}
def Vec.g [Inhabited α]{n:Nat}(v:Vec α n)(i:Nat):α:=v.l.getD i default
theorem iC [Inhabited α]{n:Nat}(v:Vec α n)(i:Nat)(h:i < n):aP v.l (i:Int)=some (v.g i):=by
  have hl:i < v.l.length:=by rw[v.h];exact h
  rw[fG hl];simp[Vec.g,A34,hl]
theorem dh(i:Nat)(h:i < 1000000000000000000):ax ((i:Int)+1)=((i+1:Nat):Int):=by rw[bG Y];omega
theorem Cc(a:σ×Int->Option ((σ×Int)⊕ρ))(n:Nat)(F:σ->Nat->σ)(s:σ)(r:ρ)(h:∀ s i,i < n->a (s,(i:Int))=some (.inl (F s i,((i+1:Nat):Int))))(c:a ((List.range n).foldl F s,(n:Int))=some (.inr r)):aT a (s,0)=some r:=by
  refine je (fun i=>((List.range i).foldl F s,(i:Int))) n (fun i b=>?_) c;show a ((List.range i).foldl F s,(i:Int))=some (.inl ((List.range (i+1)).foldl F s,((i+1:Nat):Int)));rw[h _ _ b,A2l,A2t];rfl
theorem vec8{v:Vec α 8}:∃ a b c d e f g h,v=⟨[a,b,c,d,e,f,g,h],rfl⟩:=by
  obtain⟨l,hl⟩:=v
  match l,hl with
  | [a,b,c,d,e,f,g,h],_=>exact⟨a,b,c,d,e,f,g,h,rfl⟩
end
def IM (x:UInt64)(k:Nat):UInt64:=jC x k|||G5 x (64 - k)
theorem rl32(x:UInt64):iL x (-32)=some (IM x 32):=by
  show some (G5 x 32|||jC x 32)=_;rw[UInt64.or_comm];rfl
theorem rl24(x:UInt64):iL x (-24)=some (IM x 24):=by
  show some (G5 x 40|||jC x 24)=_;rw[UInt64.or_comm];rfl
theorem rl16(x:UInt64):iL x (-16)=some (IM x 16):=by
  show some (G5 x 48|||jC x 16)=_;rw[UInt64.or_comm];rfl
theorem rl63(x:UInt64):iL x (-63)=some (IM x 63):=by
  show some (G5 x 1|||jC x 63)=_;rw[UInt64.or_comm];rfl
theorem tn32(x:UInt64):mr x 32=some (IM x 32):=by kernel_rfl
theorem tn24(x:UInt64):mr x 24=some (IM x 24):=by kernel_rfl
theorem tn16(x:UInt64):mr x 16=some (IM x 16):=by kernel_rfl
theorem tn63(x:UInt64):mr x 63=some (IM x 63):=by kernel_rfl
def Gb (v:Vec UInt64 16)(a b c d:Nat)(x y:UInt64):Vec UInt64 16 :=
  let h:=oP v a (v.g a+(v.g b+x))
  let v2:=oP h d (IM (h.g d^^^h.g a) 32)
  let v3:=oP v2 c (v2.g c+v2.g d)
  let v4:=oP v3 b (IM (v3.g b^^^v3.g c) 24)
  let v5:=oP v4 a (v4.g a+(v4.g b+y))
  let f:=oP v5 d (IM (v5.g d^^^v5.g a) 16)
  let e:=oP f c (f.g c+f.g d)
  oP e b (IM (e.g b^^^e.g c) 63)
theorem step_ok(v:Vec UInt64 16)(a b c d:Nat)(x y:UInt64)(g:a < 16)(f:b < 16)(e:c < 16)(hd:d < 16)(p:Vec Int 4)(hp:p.l=[(a:Int),(b:Int),(c:Int),(d:Int)]):He v p x y=some (Gb v a b c d x y):=by
  unfold He;have k:aP p.l 0=some (a:Int):=by rw[hp];rfl
  have j:aP p.l 1=some (b:Int):=by rw[hp];rfl
  have i:aP p.l 2=some (c:Int):=by rw[hp];rfl
  have h:aP p.l 3=some (d:Int):=by rw[hp];rfl
  simp only[k,j,i,h,iC _ a g,iC _ b f,iC _ c e,iC _ d hd,A0X,rl32,rl24,rl16,rl63];rfl
theorem G_ok(v:Vec UInt64 16)(a b c d:Nat)(x y:UInt64)(g:a < 16)(f:b < 16)(e:c < 16)(hd:d < 16)(hn:a≠b/\a≠c/\a≠d/\b≠c/\b≠d/\c≠d):Rx v a b c d x y=some (Gb v a b c d x y,0):=by
  have pl:∀ i:Nat,i < 16->yg (i:Int)=some true:=by
    intro i hi;unfold yg;simp only[A2a,A0U,lm];omega
  unfold Rx;simp only[pl a g,pl b f,pl c e,pl d hd,A0X,A3K,Bool.false_or,A2k,lm,A0h,A3r,false_or];rw[A3q Y];simp only[iC _ a g,iC _ b f,iC _ c e,iC _ d hd,A0X,tn32,tn24,tn16,tn63,UInt64.add_assoc];rfl
def pls:List (Nat×Nat×Nat×Nat):=[(0,4,8,12),(1,5,9,13),(2,6,10,14),(3,7,11,15),(0,5,10,15),(1,6,11,12),(2,7,8,13),(3,4,9,14)]
def pl (i:Nat):Nat×Nat×Nat×Nat:=pls.getD i (0,0,0,0)
theorem pl_ok:∀ i:Nat,i < 8->(pl i).1 < 16/\(pl i).2.1 < 16/\(pl i).2.2.1 < 16/\(pl i).2.2.2 < 16/\(pl i).1≠(pl i).2.1/\(pl i).1≠(pl i).2.2.1/\(pl i).1≠(pl i).2.2.2/\(pl i).2.1≠(pl i).2.2.1/\(pl i).2.1≠(pl i).2.2.2/\(pl i).2.2.1≠(pl i).2.2.2:=by decide
def sgs:A00:=[0,1,2,3,4,5,6,7,8,9,10,11,12,13,14,15,14,10,4,8,9,15,13,6,1,12,0,2,11,7,5,3,11,8,12,0,5,2,15,13,10,14,3,6,7,1,9,4,7,9,3,1,13,12,11,14,2,6,5,10,4,0,15,8,9,0,5,7,2,4,10,15,14,1,11,12,6,8,3,13,2,12,6,10,0,11,8,3,4,13,7,5,15,14,1,9,12,5,1,15,14,13,4,10,0,7,6,3,9,2,8,11,13,11,7,14,12,1,3,9,5,0,15,4,8,6,2,10,6,15,14,9,11,3,0,8,12,2,13,7,1,4,10,5,10,2,8,4,7,6,1,5,15,11,9,14,3,12,13,0]
def sg (r i:Nat):Nat:=sgs.getD (16*(r % 10)+i) 0
theorem sg_lt:∀ r:Nat,r < 12->∀ i:Nat,i < 16->sg r i < 16:=by decide +kernel
theorem rsg:∀ r:Nat,r < 12->∀ i:Nat,i < 16->Hr (r:Int) (i:Int)=some (sg r i:Int):=by decide +kernel
theorem wsg(r:Nat)(a:r < 12):∃ row,I4 (r:Int)=some row/\∀ i:Nat,i < 16->aP row.l (i:Int)=some (sg r i:Int):=by
  match r,a with
  | 0,_=>exact⟨_,rfl,by decide +kernel⟩
  | 1,_=>exact⟨_,rfl,by decide +kernel⟩
  | 2,_=>exact⟨_,rfl,by decide +kernel⟩
  | 3,_=>exact⟨_,rfl,by decide +kernel⟩
  | 4,_=>exact⟨_,rfl,by decide +kernel⟩
  | 5,_=>exact⟨_,rfl,by decide +kernel⟩
  | 6,_=>exact⟨_,rfl,by decide +kernel⟩
  | 7,_=>exact⟨_,rfl,by decide +kernel⟩
  | 8,_=>exact⟨_,rfl,by decide +kernel⟩
  | 9,_=>exact⟨_,rfl,by decide +kernel⟩
  | 10,_=>exact⟨_,rfl,by decide +kernel⟩
  | 11,_=>exact⟨_,rfl,by decide +kernel⟩
def Sb (m:Vec UInt64 16)(r:Nat)(v:Vec UInt64 16)(i:Nat):Vec UInt64 16:=Gb v (pl i).1 (pl i).2.1 (pl i).2.2.1 (pl i).2.2.2 (m.g (sg r (2*i))) (m.g (sg r (2*i+1)))
def Rb (v m:Vec UInt64 16)(r:Nat):Vec UInt64 16:=(List.range 8).foldl (Sb m r) v
theorem two_i(i:Nat)(h:i < 100):ax (2*(i:Int))=((2*i:Nat):Int):=by rw[bG Y];omega
theorem turn_ok(v m:Vec UInt64 16)(r:Nat)(a:r < 12):Hg v m (r:Int)=some (Rb v m r,m):=by
  obtain⟨row,k,c⟩:=wsg r a;unfold Hg;rw[k];simp only[A0X];unfold Gz;simp only[A0X];refine Cc _ 8 (Sb m r) v _ (fun v i b=>?_) ?_
  ·unfold Jz;obtain⟨g,f,e,d,_⟩:=pl_ok i b;simp only[];rw[A3p Y,two_i i Y,dh _ Y,dh _ Y,c _ Y,c _ Y];simp only[A0X];rw[iC _ _ (sg_lt r a _ Y),iC _ _ (sg_lt r a _ Y)];have key:∃ p:Vec Int 4,aP (⟨[(⟨[0,4,8,12],rfl⟩:Vec Int 4),(⟨[1,5,9,13],rfl⟩:Vec Int 4),(⟨[2,6,10,14],rfl⟩:Vec Int 4),(⟨[3,7,11,15],rfl⟩:Vec Int 4),(⟨[0,5,10,15],rfl⟩:Vec Int 4),(⟨[1,6,11,12],rfl⟩:Vec Int 4),(⟨[2,7,8,13],rfl⟩:Vec Int 4),(⟨[3,4,9,14],rfl⟩:Vec Int 4)],rfl⟩:Vec (Vec Int 4) 8).l (i:Int)=some p/\p.l=[((pl i).1:Int),((pl i).2.1:Int),((pl i).2.2.1:Int),((pl i).2.2.2:Int)]:=by
     match i,b with
     | 0,_=>exact⟨_,rfl,rfl⟩
     | 1,_=>exact⟨_,rfl,rfl⟩
     | 2,_=>exact⟨_,rfl,rfl⟩
     | 3,_=>exact⟨_,rfl,rfl⟩
     | 4,_=>exact⟨_,rfl,rfl⟩
     | 5,_=>exact⟨_,rfl,rfl⟩
     | 6,_=>exact⟨_,rfl,rfl⟩
     | 7,_=>exact⟨_,rfl,rfl⟩
   obtain⟨p,j,h⟩:=key;rw[j];simp only[A0X];rw[step_ok v _ _ _ _ _ _ g f e d p h];rfl
  ·rfl
theorem Uj(i:Nat)(a:i < 8):∃ p:Vec Int 4,BB (i:Int)=some p/\p.l=[((pl i).1:Int),((pl i).2.1:Int),((pl i).2.2.1:Int),((pl i).2.2.2:Int)]:=by
  match i,a with
  | 0,_=>exact⟨_,rfl,rfl⟩
  | 1,_=>exact⟨_,rfl,rfl⟩
  | 2,_=>exact⟨_,rfl,rfl⟩
  | 3,_=>exact⟨_,rfl,rfl⟩
  | 4,_=>exact⟨_,rfl,rfl⟩
  | 5,_=>exact⟨_,rfl,rfl⟩
  | 6,_=>exact⟨_,rfl,rfl⟩
  | 7,_=>exact⟨_,rfl,rfl⟩
theorem Round_ok(v m:Vec UInt64 16)(r:Nat)(b:r < 12):Ht v m (r:Int)=some (Rb v m r,0):=by
  unfold Ht;rw[A3q (by simp only[A2k,lm];omega)];refine Cc _ 8 (Sb m r) v _ (fun v i c=>?_) ?_
  ·unfold JB;obtain⟨g,f,e,d,hn⟩:=pl_ok i c;obtain⟨p,h,a⟩:=Uj i c;have o:aP p.l 0=some ((pl i).1:Int):=by rw[a];rfl
   have n:aP p.l 1=some ((pl i).2.1:Int):=by rw[a];rfl
   have k:aP p.l 2=some ((pl i).2.2.1:Int):=by rw[a];rfl
   have j:aP p.l 3=some ((pl i).2.2.2:Int):=by rw[a];rfl
   simp only[];rw[A3p Y,h,two_i i Y,dh _ Y,dh _ Y];simp only[A0X,o,n,k,j];rw[rsg r b _ Y,rsg r b _ Y];simp only[A0X];rw[iC _ _ (sg_lt r b _ Y),iC _ _ (sg_lt r b _ Y)];simp only[A0X];rw[G_ok v _ _ _ _ _ _ g f e d hn];rfl
  ·rfl
end
section
def ivb:A01:=[7640891576956012808,13503953896175478587,4354685564936845355,11912009170470909681,5840696475078001361,11170449401992604703,2270897969802886507,6620516959819538809]
def I0b (h:Vec UInt64 8):Vec UInt64 16:=⟨h.l++ivb,by simp[h.h,ivb]⟩
def Ib (h:Vec UInt64 8)(lo c:UInt64)(A2A a:Bool):Vec UInt64 16 :=
  let v0:=I0b h
  let b:=oP v0 12 (v0.g 12^^^lo)
  let v2:=oP b 13 (b.g 13^^^c)
  let v3:=if A2A then oP v2 14 (18446744073709551615^^^v2.g 14) else v2
  if a then oP v3 15 (18446744073709551615^^^v3.g 15) else v3
theorem wInit(h:Vec UInt64 8)(lo j:UInt64)(A2A i:Bool):Kv h lo j A2A i=some (Ib h lo j A2A i):=by
  obtain⟨a,b,c,d,e,f,g,q,rfl⟩:=vec8 (v:=h);cases A2A <;> cases i <;> kernel_rfl
theorem riv(i:Nat)(a:i < 8):Ov (i:Int)=some (ivb.getD i 0):=by
  match i,a with
  | 0,_=>rfl
  | 1,_=>rfl
  | 2,_=>rfl
  | 3,_=>rfl
  | 4,_=>rfl
  | 5,_=>rfl
  | 6,_=>rfl
  | 7,_=>rfl
theorem ZW(i:Nat)(h:i < 100):ax ((i:Int)+8)=((i+8:Nat):Int):=by rw[bG Y];omega
theorem rInit(h:Vec UInt64 8)(lo k:UInt64)(A2A j:Bool):JA h lo k A2A j=some (Ib h lo k A2A j):=by
  unfold JA;refine Cc _ 8 (fun v i=>oP (oP v i (h.g i)) ((i+8:Nat):Int) (ivb.getD i 0)) _ _ (fun v i k=>?_) ?_
  ·unfold KY;simp only[];rw[A3p Y,iC _ _ k,iC _ _ Y,ZW i Y,dh i Y,riv i k];simp only[A0X];rw[iC _ _ Y];rfl
  ·obtain⟨a,b,c,d,e,f,g,q,rfl⟩:=vec8 (v:=h);cases A2A <;> cases j <;> kernel_rfl
def Eb (v:Vec UInt64 16)(h:Vec UInt64 8)(i:Nat):Vec UInt64 8:=oP h i (h.g i^^^(v.g i^^^v.g (i+8)))
def Fb (h:Vec UInt64 8)(m:Vec UInt64 16)(lo b:UInt64)(A2A a:Bool):Vec UInt64 8 :=
  (List.range 8).foldl (Eb ((List.range 12).foldl (fun v r=>Rb v m r) (Ib h lo b A2A a))) h
theorem wF(h:Vec UInt64 8)(m:Vec UInt64 16)(lo b:UInt64)(A2A a:Bool):Ou h m lo b A2A a=some (Fb h m lo b A2A a):=by
  unfold Ou;rw[wInit];simp only[A0X];refine je (fun i=>(m,(List.range i).foldl (fun v r=>Rb v m r) (Ib h lo b A2A a),(i:Int))) 12 (fun i b=>?_) ?_
  ·unfold Kz;simp only[];rw[A3p Y,turn_ok _ _ _ b,dh i Y,A2l,A2t];rfl
  ·unfold Kz;simp only[];rw[A3q Y];rw[show aT (Kw ((List.range 12).foldl (fun v r=>Rb v m r) (Ib h lo b A2A a))) (h,0)=some (Fb h m lo b A2A a) from ?_]
   ·rfl
   refine Cc _ 8 (Eb ((List.range 12).foldl (fun v r=>Rb v m r) (Ib h lo b A2A a))) _ _ (fun v i b=>?_) ?_
   ·unfold Kw;simp only[];rw[A3p Y,iC _ _ Y,iC _ _ Y,ZW i Y,dh i Y,iC _ _ Y];rfl
   ·rfl
theorem rF(h:Vec UInt64 8)(m:Vec UInt64 16)(lo b:UInt64)(A2A a:Bool):Ry h m lo b A2A a=some (Fb h m lo b A2A a):=by
  unfold Ry;rw[rInit];simp only[A0X];refine Cc _ 12 (fun v r=>Rb v m r) _ _ (fun v i b=>?_) ?_
  ·unfold MQ;simp only[];rw[A3p Y,Round_ok _ _ _ b,dh i Y];rfl
  ·unfold MQ;simp only[];rw[A3q Y];rw[show aT (MP ((List.range 12).foldl (fun v r=>Rb v m r) (Ib h lo b A2A a))) (h,0)=some (Fb h m lo b A2A a) from ?_]
   ·rfl
   refine Cc _ 8 (Eb ((List.range 12).foldl (fun v r=>Rb v m r) (Ib h lo b A2A a))) _ _ (fun v i b=>?_) ?_
   ·unfold MP;simp only[];rw[A3p Y,iC _ _ Y,iC _ _ Y,ZW i Y,dh i Y,iC _ _ Y];simp only[A0X,UInt64.xor_assoc];rfl
   ·rfl
end
section
def word64:AC->UInt64
  | []=>0
  | b::r=>UInt64.ofNat b.toNat+256*word64 r
def QV:AC->Nat
  | []=>0
  | b::r=>b.toNat+256*QV r
theorem leN_lt(l:AC):QV l < 256 ^ l.length:=by
  induction l with
  | nil=>simp[QV]
  | cons b r ih =>
    have:=b.toNat_lt;simp only[QV,bi,Nat.pow_succ];omega
theorem Xw(l:AC)(b:UInt8):QV (l++[b])=QV l+256 ^ l.length*b.toNat:=by
  induction l with
  | nil=>simp[QV]
  | cons x r ih =>
    simp only[A0f,QV,ih,bi,Nat.pow_succ,Nat.mul_add];rw[A3F (256 ^ r.length) 256,Nat.mul_assoc];omega
theorem Xx(n:Nat):256 ^ n=2 ^ (8*n):=by
  rw[show(256:Nat)=2 ^ 8 from rfl,<-Nat.pow_mul]
theorem wload(b:AC)(hb:b.length<=33554432)(c:Int)(ha:-9223372036854775808<=c/\c<=9223372036854775807)(n:Nat)(hn:n<=8) :
    D6 b c n=some (if c < 0 then(0,1) else if(b.length:Int) < c+n then(0,3) else(UInt64.ofNat (QV ((b.drop c.toNat).take n)),0)):=by
  unfold D6;by_cases g:c < 0
  ·rw[A3p g,A3p g]
  rw[A3q g,A3q g];have e:((decide ((b.length:Int) < c))||(decide ((ax ((b.length:Int) - c)) < n)))=true ↔ (b.length:Int) < c+n:=by
    rw[bG Y];simp only[A2k,lm];omega
  by_cases f:(b.length:Int) < c+n
  ·rw[A3p (e.2 f),A3p f]
  rw[A3q (fun h=>f (e.1 h)),A3q f];obtain⟨a,rfl⟩:∃ a:Nat,c=a:=⟨c.toNat,Y⟩
  simp only[ww];refine ng (fun i s=>s=(UInt64.ofNat (QV ((b.drop a).take i)),(i:Int))/\i<=n) _ n _ ⟨by simp[QV],Y⟩ ?_;rintro i s ⟨rfl,hi⟩;unfold Jy;by_cases j:i < n
  ·left;refine⟨j,(UInt64.ofNat (QV ((b.drop a).take (i+1))),((i+1:Nat):Int)),?_,rfl,Y⟩;have r:ax ((a:Int)+(i:Int))=((a+i:Nat):Int):=by rw[bG Y];omega
   have k:a+i < b.length:=Y
   have q:ax (8*(i:Int))=((8*i:Nat):Int):=by rw[bG Y];omega
   have p:ax ((i:Int)+1)=((i+1:Nat):Int):=by rw[bG Y];omega
   simp only[];rw[A3p Y,r,fG k];simp only[A0X];rw[q,ig Y,p];simp only[A0X,ww];congr 3;have hd:(b.drop a).take (i+1)=(b.drop a).take i++[b[a+i]]:=by
     rw[A39 A2L];simp
   rw[hd,Xw,A0T,A0m,A35 Y,Xx];have hx:=(b[a+i]).toNat_lt;have d:=leN_lt ((b.drop a).take i);rw[A0T,A0m,A35 Y,Xx] at d;have hp:2 ^ (8*i)*256=2 ^ (8*(i+1)):=by rw[show 8*(i+1)=8*i+8 from by omega,Nat.pow_add]
   have hq:2 ^ (8*(i+1))<=2 ^ 64:=A3D Y Y;have hr:2 ^ (8*i)*(b[a+i]).toNat < 2 ^ (8*(i+1)):=by
     rw[<- hp];exact Nat.mul_lt_mul_of_pos_left hx (Nat.pow_pos Y)
   apply UInt64.eq_of_toBitVec_eq;apply A36;simp only[UInt64.toBitVec_or,G5,BitVec.toNat_or,A3U];simp only[UInt64.toNat_toBitVec,A33];have o:QV ((b.drop a).take i) % 2 ^ 64=QV ((b.drop a).take i):=A2w Y;have m:(b[a+i]).toNat % 2 ^ 64=(b[a+i]).toNat:=A2w Y;have l:((b[a+i]).toNat <<< (8*i)) % 2 ^ 64=(b[a+i]).toNat <<< (8*i):=by
     apply A2w;rw[A3J,A3F];omega
   rw[o,m,l,Nat.or_comm,<-Nat.shiftLeft_add_eq_or_of_lt d,A3J,A3F];rw[A2w]
   ·omega
   ·have:QV ((b.drop a).take i)+2 ^ (8*i)*(b[a+i]).toNat < 2 ^ (8*(i+1)):=by
      rw[<- hp];have h5:2 ^ (8*i)*(b[a+i]).toNat+2 ^ (8*i)<=2 ^ (8*i)*256:=by
        rw[<- Nat.mul_succ];exact Nat.mul_le_mul_left _ Y
      omega
    omega
  ·right;obtain rfl:i=n:=by omega
   simp
theorem rload(b:AC)(hb:b.length<=33554432)(c:Int)(ha:-9223372036854775808<=c/\c<=9223372036854775807)(n:Nat)(hn:n<=8) :
    wV b c n=some (if c < 0 then(0,1) else if(b.length:Int) < c+n then(0,3) else(UInt64.ofNat (QV ((b.drop c.toNat).take n)),0)):=by
  unfold wV;by_cases f:c < 0
  ·rw[A3p f,A3p f]
  rw[A3q f,A3q f];have e:((decide ((b.length:Int) < c))||(decide ((ax ((b.length:Int) - c)) < n)))=true ↔ (b.length:Int) < c+n:=by
    rw[bG Y];simp only[A2k,lm];omega
  by_cases d:(b.length:Int) < c+n
  ·rw[A3p (e.2 d),A3p d]
  rw[A3q (fun h=>d (e.1 h)),A3q d];obtain⟨a,rfl⟩:∃ a:Nat,c=a:=⟨c.toNat,Y⟩
  simp only[ww];rw[bG Y];refine ng (fun i s=>s=(UInt64.ofNat (QV (((b.drop a).take n).drop (n - i))),(n:Int) - 1 - i)/\i<=n) _ n _ ⟨?_,Y⟩ ?_
  ·have:((b.drop a).take n).drop (n - 0)=[]:=by apply List.drop_eq_nil_of_le;simp;omega
   rw[this];simp[QV]
  rintro i s ⟨rfl,hi⟩;unfold KX;by_cases g:i < n
  ·left;refine⟨g,_,?_,rfl,Y⟩;have l:ax ((a:Int)+((n:Int) - 1 - i))=((a+(n - 1 - i):Nat):Int):=by rw[bG Y];omega
   have k:ax ((n:Int) - 1 - i - 1)=(n:Int) - 1 - ((i+1:Nat):Int):=by rw[bG Y];omega
   simp only[];rw[A3p Y,l,fG (by omega:a+(n - 1 - i) < b.length)];simp only[A0X];rw[k];congr 3;have hd:((b.drop a).take n).drop (n - (i+1))=b[a+(n - 1 - i)]::((b.drop a).take n).drop (n - i):=by
     rw[A0Q A2L];simp only[List.getElem_take,List.getElem_drop];have j:n - (i+1)+1=n - i:=Y
     rw[j];congr 2;omega
   rw[hd,QV];apply UInt64.eq_of_toBitVec_eq;apply A36;simp only[UInt64.toNat_toBitVec,A3H,A44,A33];generalize QV _=y;generalize (b[a+(n - 1 - i)]).toNat=z;have:UInt64.toNat 256=256:=rfl;rw[this];omega
  ·right;obtain rfl:i=n:=by omega
   simp only[];rw[A3q Y];simp
theorem load64 (b:AC)(hb:b.length<=33554432)(at_:Int)(ha:-9223372036854775808<=at_/\at_<=9223372036854775807) :
    mQ b at_=some (if at_ < 0 then(0,1) else if(b.length:Int) < at_+8 then(0,3) else(UInt64.ofNat (QV ((b.drop at_.toNat).take 8)),0)):=by
  unfold mQ;have:=wload b hb at_ ha 8 Y;rw[show((8:Nat):Int)=8 from rfl] at this;rw[this];rfl
theorem store64(w:UInt64):xE w=some ((List.range 8).map fun i=>UInt8.ofNat (w.toNat / 256 ^ i)):=by
  unfold xE;refine ng (fun i s=>s=((List.range i).map (fun i=>UInt8.ofNat (w.toNat / 256 ^ i))++List.replicate (8 - i) 0,(i:Int))/\i<=8) _ 8 _ ⟨A2K,Y⟩ ?_;rintro i s ⟨rfl,hi⟩;unfold EH;by_cases a:i < 8
  ·left;refine⟨a,_,?_,rfl,Y⟩;have d:ax (8*(i:Int))=((8*i:Nat):Int):=by rw[bG Y];omega
   have c:ax ((i:Int)+1)=((i+1:Nat):Int):=by rw[bG Y];omega
   simp only[];rw[A3p Y,d,ig Y,c];simp only[A0X];rw[fG A2L];simp only[A0X,ww];congr 3;have b:List.replicate (8 - i) (0:UInt8)=0::List.replicate (8 - (i+1)) 0:=by
     rw[<- List.replicate_succ];congr 1;omega
   rw[b,A2l,A2g,lw];rw[A3w _ _ A2K];simp only[A0K,List.length_range,Nat.sub_self,A0g,kw,A2q,A0f,A37];congr 2;apply A3i;apply A36;simp only[jC,Xx];simp[A30]
  ·right;obtain rfl:i=8:=by omega
   simp
theorem ZX(w:UInt64)(n:Nat)(hn:n<=8):tJ w n=some ((List.range n).map fun i=>UInt8.ofNat (w.toNat / 256 ^ i)):=by
  unfold tJ;refine ng (fun i s=>s=(UInt64.ofNat (w.toNat / 256 ^ i),(List.range i).map (fun i=>UInt8.ofNat (w.toNat / 256 ^ i)),(i:Int))/\i<=n) _ n _ ⟨A2K,Y⟩ ?_;rintro i s ⟨rfl,hi⟩;unfold JD;have d:=w.toNat_lt;have hd:w.toNat / 256 ^ i<=w.toNat:=Nat.div_le_self _ _;by_cases a:i < n
  ·left;refine⟨a,_,?_,rfl,Y⟩;have e:ax ((i:Int)+1)=((i+1:Nat):Int):=by rw[bG Y];omega
   simp only[];rw[A3p Y,iG A2L,e];simp only[A0X];have c:UInt64.ofNat (w.toNat / 256 ^ i) / 256=UInt64.ofNat (w.toNat / 256 ^ (i+1)):=by
     apply UInt64.eq_of_toBitVec_eq;apply A36;simp only[UInt64.toNat_toBitVec,A46,A33];rw[A2w Y,A2w (Nat.lt_of_le_of_lt (Nat.div_le_self _ _) d),Nat.pow_succ,<-Nat.div_div_eq_div_mul];rfl
   have b:UInt8.ofNat (UInt64.ofNat (w.toNat / 256 ^ i) % 256).toNat=UInt8.ofNat (w.toNat / 256 ^ i):=by
     apply A3i;apply A36;simp only[UInt8.toNat_toBitVec,UInt8.toNat_ofNat',A45,A33];rw[show UInt64.toNat 256=256 from rfl];omega
   rw[c,b,A2l,A2g];rfl
  ·right;obtain rfl:i=n:=by omega
   simp
theorem leN_store(v n:Nat):QV ((List.range n).map fun i=>UInt8.ofNat (v / 256 ^ i))=v % 256 ^ n:=by
  induction n with
  | zero=>simp[QV,Nat.mod_one]
  | succ n ih =>
    rw[A2l,A2g,kw,A2q,Xw,ih];simp only[A0K,List.length_range,UInt8.toNat_ofNat'];rw[show(256:Nat) ^ (n+1)=256 ^ n*256 from Nat.pow_succ _ _,Nat.mod_mul (x:=v) (a:=256 ^ n) (b:=256)]
theorem add_ok(lo a n:UInt64):DC lo a n=some (UInt64.ofNat (lo.toNat+18446744073709551616*a.toNat+n.toNat),UInt64.ofNat ((lo.toNat+18446744073709551616*a.toNat+n.toNat) / 18446744073709551616),decide (340282366920938463463374607431768211456<=lo.toNat+18446744073709551616*a.toNat+n.toNat)):=by
  have hl:=lo.toNat_lt;have hh:=a.toNat_lt;have hn:=n.toNat_lt;unfold DC add64;simp only[show(0:UInt64).toNat=0 from rfl,A2p,if_true,A0X,A3S];have b:(UInt64.ofNat ((lo.toNat+n.toNat) / 18446744073709551616)).toNat=(lo.toNat+n.toNat) / 18446744073709551616:=by
    simp only[A33];omega
  rw[b,A3p Y];simp only[A0X,A2a,A2c];refine⟨?_,?_,?_⟩
  ·rw[<- A2m];simp only[A33];omega
  ·rw[<- A2m];simp only[A33];omega
  ·rw[decide_eq_decide,<-A2m];simp only[A33,show(1:UInt64).toNat=1 from rfl];omega
theorem radd(lo a n:UInt64):Gh lo a n=some (UInt64.ofNat (lo.toNat+18446744073709551616*a.toNat+n.toNat),UInt64.ofNat ((lo.toNat+18446744073709551616*a.toNat+n.toNat) / 18446744073709551616),decide (340282366920938463463374607431768211456<=lo.toNat+18446744073709551616*a.toNat+n.toNat)):=by
  have hl:=lo.toNat_lt;have hh:=a.toNat_lt;have hn:=n.toNat_lt;unfold Gh;have hs:(lo+n).toNat=(lo.toNat+n.toNat) % 18446744073709551616:=A3H lo n;have b:(a+1).toNat=(a.toNat+1) % 18446744073709551616:=A3H a 1;by_cases c:lo<=lo+n
  ·rw[A3p c];rw[A38,hs] at c;simp only[A2a,A2c];refine⟨?_,?_,?_⟩
   ·rw[<- A2m,hs];simp only[A33];omega
   ·rw[<- A2m];simp only[A33];omega
   ·symm;rw[A3u];omega
  ·rw[A3q c];rw[A38,hs] at c;simp only[A2a,A2c];refine⟨?_,?_,?_⟩
   ·rw[<- A2m,hs];simp only[A33];omega
   ·rw[<- A2m,b];simp only[A33];omega
   ·rw[decide_eq_decide,<-A2m,b];simp only[show(0:UInt64).toNat=0 from rfl];omega
def Il (c:UInt64×UInt64)(n:UInt64):UInt64×UInt64:=(UInt64.ofNat (c.1.toNat+18446744073709551616*c.2.toNat+n.toNat),UInt64.ofNat ((c.1.toNat+18446744073709551616*c.2.toNat+n.toNat) / 18446744073709551616))
def x8 (b:AC)(i:Nat):UInt64:=UInt64.ofNat (QV ((b.drop (8*i)).take 8))
def Wb (b:AC):Vec UInt64 16:=(List.range 16).foldl (fun m (i:Nat)=>oP m i (x8 b i)) (Vec.rep 16 0)
theorem mul8(i:Nat)(h:i < 100):ax (8*(i:Int))=((8*i:Nat):Int):=by rw[bG Y];omega
theorem Uk(b:AC)(i:Nat)(a:b.length<=33554432)(hi:8*i+8<=b.length):mQ b ((8*i:Nat):Int)=some (x8 b i,0):=by
  rw[load64 b a _ Y,A3q Y,A3q Y,ww];rfl
theorem Xy (b:AC)(i:Nat)(hb:b.length<=33554432)(hi:8*i+8<=b.length):wV b ((8*i:Nat):Int) 8=some (x8 b i,0):=by
  have:=rload b hb ((8*i:Nat):Int) Y 8 Y;rw[show((8:Nat):Int)=8 from rfl] at this;rw[this,if_neg Y,if_neg Y,ww];rfl
theorem wWords(b:AC)(hb:b.length=128):ED b=some (Wb b,0):=by
  unfold ED;rw[A3q Y];refine Cc _ 16 (fun m (i:Nat)=>oP m i (x8 b i)) _ _ (fun v i a=>?_) (by unfold Dj;simp only[];rw[A3q Y];rfl);unfold Dj;simp only[];rw[A3p Y,mul8 i Y,Uk b i Y Y,iC _ _ a,dh i Y];rfl
theorem rWords(b:AC)(hb:b.length=128):Hq b=some (Wb b,0):=by
  unfold Hq;rw[A3q Y];refine Cc _ 16 (fun m (i:Nat)=>oP m i (x8 b i)) _ _ (fun v i a=>?_) (by unfold EN;simp only[];rw[A3q Y];rfl);unfold EN;simp only[];rw[A3p Y,mul8 i Y,Xy b i Y Y,iC _ _ a,dh i Y];rfl
def Stb (b:AC):Vec UInt64 8:=(List.range 8).foldl (fun h (i:Nat)=>oP h i (ivb.getD i 0^^^x8 b i)) (Vec.rep 8 0)
theorem rStart(b:AC)(hb:b.length=64):Ho b=some (Stb b,0):=by
  unfold Ho;rw[A3q Y];refine Cc _ 8 (fun m (i:Nat)=>oP m i (ivb.getD i 0^^^x8 b i)) _ _ (fun v i a=>?_) (by unfold EK;simp only[];rw[A3q Y];rfl);unfold EK;simp only[];rw[A3p Y,mul8 i Y,Xy b i Y Y,iC _ _ a,dh i Y,riv i a];rfl
theorem wStart(b:AC)(hb:b.length=64):EC b=some (Stb b,0):=by
  unfold EC Lu;rw[A3q Y];simp only[A0X];have key:∀ x:Nat->UInt64,(List.range 8).foldl (fun(h:Vec UInt64 8) (i:Nat)=>oP h i (h.g i^^^x i)) ⟨ivb,rfl⟩=(List.range 8).foldl (fun h (i:Nat)=>oP h i (ivb.getD i 0^^^x i)) (Vec.rep 8 0):=fun x=>rfl;refine Cc _ 8 (fun h (i:Nat)=>oP h i (h.g i^^^x8 b i)) _ _ (fun v i a=>?_) ?_
  ·unfold IA;simp only[];rw[A3p Y,mul8 i Y,Uk b i Y Y,iC _ _ a,dh i Y];rfl
  ·have:=key (x8 b);unfold ivb at this;rw[this];rfl
def Q4 (n:Nat)(w:UInt64):AC:=(List.range n).map fun i=>UInt8.ofNat (w.toNat / 256 ^ i)
def Byb (h:Vec UInt64 8):AC:=(List.range 8).foldl (fun b i=>b++Q4 8 (h.g i)) []
theorem ZY(h:Nat->AC)(k:Nat)(a:∀ i,(h i).length=k):∀ n,((List.range n).foldl (fun b i=>b++h i) []).length=n*k:=by
  intro n
  induction n with
  | zero=>simp
  | succ n ih=>rw[A2l,A2t];simp only[A3b,A42,Pi,ih,a];rw[Nat.succ_mul]
theorem Dt(n:Nat)(w:UInt64):(Q4 n w).length=n:=by simp[Q4]
theorem ZZ(h:Vec UInt64 8):(Byb h).length=64:=by unfold Byb;rw[ZY _ 8 (fun i=>Dt 8 _)]
theorem wBytes(h:Vec UInt64 8):EI h=some (Byb h):=by
  unfold EI;refine je (fun i=>((List.range i).foldl (fun b i=>b++Q4 8 (h.g i)) [],(i:Int))) 8 (fun i c=>?_) rfl;unfold IB;simp only[];rw[A3p Y,iC _ _ c,dh i Y];simp only[A0X];rw[store64];simp only[A0X];have a:(List.range (i+1)).foldl (fun b i=>b++Q4 8 (h.g i)) []=(List.range i).foldl (fun b i=>b++Q4 8 (h.g i)) []++Q4 8 (h.g i):=by rw[A2l,A2t];rfl
  rw[iG (by rw[ZY _ 8 (fun i=>Dt 8 _)];simp;omega),a];rfl
end
section
theorem four_bytes(w:UInt32):[UInt8.ofNat w.toNat,UInt8.ofNat (qK w ((8:UInt64).toNat)).toNat,UInt8.ofNat (qK w ((16:UInt64).toNat)).toNat,UInt8.ofNat (qK w ((24:UInt64).toNat)).toNat]=Q4 4 (UInt64.ofNat w.toNat):=by
  have hw:=w.toNat_lt;have a:(UInt64.ofNat w.toNat).toNat=w.toNat:=by simp only[A33];omega
  unfold Q4;rw[a];simp only[A2l,List.range_zero,A37,A2g,kw,A2q,A0f];simp only[qK];congr 1
  ·simp
  congr 1
  ·apply A3i;apply A36;simp[A30]
  congr 1
  ·apply A3i;apply A36;simp[A30]
  congr 1
  ·apply A3i;apply A36;simp[A30]
end
section
theorem off32(x:UInt64):((4294967296:UInt64)<=x) ↔ ((4294967295:UInt64) < x):=by
  rw[A38,A2s,show(4294967296:UInt64).toNat=4294967296 from rfl,show(4294967295:UInt64).toNat=4294967295 from rfl];omega
theorem off48(x:UInt64):((281474976710656:UInt64)<=x) ↔ ((281474976710655:UInt64) < x):=by
  rw[A38,A2s,show(281474976710656:UInt64).toNat=281474976710656 from rfl,show(281474976710655:UInt64).toNat=281474976710655 from rfl];omega
variable {α:Type}
theorem pick_or{β:Type}(f:Bool->β)(c d:Bool):(if c=true then f c else f d)=f (c||d):=by cases c <;> rfl
theorem ifc{c d}[Decidable c][Decidable d]{x:α}{y:α}{z:α}(h:c ↔ d)(e:y=z):(if c then x else y)=(if d then x else z):=by
  subst e;by_cases hd:d
  ·rw[A3p hd,A3p (h.2 hd)]
  ·rw[A3q hd,A3q fun a=>hd (h.1 a)]
theorem check_at(k S m q d ky f dp:Int)(lf:UInt32)(off:UInt64)(rZ:UInt32)(nd u_:Int)(aO mD:AC)(c:tC k=some (S,m,q))(hm:uz k=some m)(a:m≠0)(b:ax (Int.tdiv m 4)=q):tH k d ky f dp lf off rZ nd u_ aO mD=kH k d ky f dp lf off rZ nd u_ aO mD:=by
  unfold tH kH;rw[c,hm];simp only[A0X];rw[A3q a,A3q a,b];have key:∀ least:Int,(least=0/\rZ≠0∨least=1/\rZ=0)->t_ k d ky f dp off rZ nd u_ aO mD (S,m,q) least=(if((decide (d < 1))||(decide (m < d)))=true then
      (some (20:Int))
    else(if((decide (ky < 0))||(decide (m < ky)))=true then
      (some (8:Int))
    else(if((decide (f < 0))||(decide (255 < f)))=true then
      (some (21:Int))
    else(if(((decide (dp < 0))||(decide (255 < dp)))||((decide (dp=0))&&(decide (rZ=0))))=true then
      (some (22:Int))
    else(if(((decide (rZ≠0))&&(decide ((4294967295:UInt64) < off)))||(((decide (rZ=0))&&(decide (k=2)))&&(decide ((281474976710655:UInt64) < off))))=true then
      (some (23:Int))
    else(if((decide (k=2))&&(decide ((65535:UInt32) < rZ)))=true then
      (some (24:Int))
    else(if((decide (nd < 0))||(decide (255 < nd)))=true then
      (some (25:Int))
    else(if((decide (u_ < 0))||(decide (m < u_)))=true then
      (some (26:Int))
    else(if q < (aO.length:Int) then
      (some (27:Int))
    else(if q < (mD.length:Int) then
      (some (28:Int))
    else(some (0:Int)))))))))))):=by
    intro least hl;unfold t_;rw[pick_or];unfold xB Bv;simp only[pg,A0X];refine ifc (by simp only[A2z,A3G,A3u,A2k,lm];omega) ?_;refine ifc (by simp only[A2z,A3G,A3u,A2k,lm];omega) ?_;refine ifc (by simp only[A2z,A3G,A3u,A2k,lm];omega) ?_;refine ifc (by
      simp only[A2z,A3G,A3u,A2k,lm,A0U];rcases hl with⟨rfl,hx⟩ | ⟨rfl,hx⟩
      ·simp only[hx,and_false,or_false];omega
      ·simp only[hx,A49];omega) ?_
    refine ifc (by simp only[off32,off48]) ?_;refine ifc Iff.rfl ?_;refine ifc (by simp only[A2z,A3G,A3u,A2k,lm];omega) ?_;refine ifc (by simp only[A2z,A3G,A3u,A2k,lm];omega) ?_;rfl
  by_cases hx:rZ=0
  ·rw[A3q (by simpa using hx)];exact key 1 (.inr ⟨rfl,hx⟩)
  ·rw[A3p hx];exact key 0 (.inl ⟨rfl,hx⟩)
theorem Xz(k d ky f dp:Int)(lf:UInt32)(off:UInt64)(rZ:UInt32)(nd u_:Int)(aO mD:AC):tH k d ky f dp lf off rZ nd u_ aO mD=kH k d ky f dp lf off rZ nd u_ aO mD:=by
  by_cases b:k=1
  ·subst b;exact check_at 1 64 64 16 _ _ _ _ _ _ _ _ _ _ _ rfl rfl Y rfl
  ·by_cases a:k=2
   ·subst a;exact check_at 2 32 32 8 _ _ _ _ _ _ _ _ _ _ _ rfl rfl Y rfl
   ·unfold tH tC kH uz;simp only[b,a,A3r,A0X,if_true]
theorem GZ{c:Prop}[Decidable c]{n:Int}{Q:Int->Prop}{e}(b:n≠0)(h:¬ c->∃ r,e=some r/\(r=0->Q r)):∃ r,(if c then some n else e)=some r/\(r=0->Q r):=by
  by_cases a:c
  ·rw[A3p a];exact⟨n,rfl,fun h=>absurd h b⟩
  ·rw[A3q a];exact h a
theorem XA (k d ky f dp:Int)(lf:UInt32)(off:UInt64)(rZ:UInt32)(nd u_:Int)(aO mD:AC):∃ r,kH k d ky f dp lf off rZ nd u_ aO mD=some r/\(r=0->(k=1/\1<=d/\d<=64/\ky<=64/\aO.length<=16/\mD.length<=16)∨(k=2/\1<=d/\d<=32/\ky<=32/\aO.length<=8/\mD.length<=8)):=by
  have i:ax (Int.tdiv 64 4)=16:=by rfl
  have g:ax (Int.tdiv 32 4)=8:=by rfl
  have key:∀ m q:Int,ax (Int.tdiv m 4)=q->uz k=some m->m≠0->∃ r,kH k d ky f dp lf off rZ nd u_ aO mD=some r/\(r=0->(1<=d/\d<=m/\ky<=m/\(aO.length:Int)<=q/\(mD.length:Int)<=q)):=by
    intro m q j hm l;unfold kH;rw[hm];simp only[A0X];rw[A3q l,j];refine GZ (Q:=fun _=>_) Y fun b=>GZ (Q:=fun _=>_) Y fun a=>GZ (Q:=fun _=>_) Y fun h3=>GZ (Q:=fun _=>_) Y fun h4=>GZ (Q:=fun _=>_) Y fun h5=>GZ (Q:=fun _=>_) Y fun h6=>GZ (Q:=fun _=>_) Y fun h7=>GZ (Q:=fun _=>_) Y fun h8=>GZ (Q:=fun _=>_) Y fun h9=>GZ (Q:=fun _=>_) Y fun h10=>⟨0,rfl,fun _=>?_⟩
    simp only[A2k,lm] at b a;omega
  by_cases e:k=1
  ·obtain⟨r,b,a⟩:=key 64 16 i (by rw[e];rfl) Y;exact⟨r,b,fun h=>.inl ⟨e,by have:=a h;omega⟩⟩
  ·by_cases c:k=2
   ·obtain⟨r,b,a⟩:=key 32 8 g (by rw[c];rfl) Y;exact⟨r,b,fun h=>.inr ⟨c,by have:=a h;omega⟩⟩
   ·refine⟨1,?_,fun h=>by omega⟩;unfold kH uz;simp only[e,c,A3r,A0X,if_true]
end
section
def ps (a:Nat)(v:UInt64)(b:AC)(i:Nat):AC:=b.set (a+i) (UInt8.ofNat (jC v (8*i)).toNat)
def pset (b:AC)(a n:Nat)(v:UInt64):AC:=(List.range n).foldl (ps a v) b
theorem ps_len(a:Nat)(v:UInt64)(n:Nat)(b:AC):((List.range n).foldl (ps a v) b).length=b.length:=by
  induction n with
  | zero=>rfl
  | succ n ih=>rw[A2l,A2t];simp only[A3b,A42,ps,List.length_set,ih]
theorem pset_len(b:AC)(a n:Nat)(v:UInt64):(pset b a n v).length=b.length:=ps_len _ _ _ _
theorem at_i(a i:Nat)(h:a < 1000)(hi:i < 1000):ax ((a:Int)+(i:Int))=((a+i:Nat):Int):=by rw[bG Y];omega
theorem wput(b:AC)(a n:Nat)(v:UInt64)(hn:n<=8)(hb:a+n<=b.length)(c:a < 1000):Ha b (a:Int) (n:Int) v=some (pset b a n v):=by
  unfold Ha;refine je (fun i=>((List.range i).foldl (ps a v) b,(i:Int))) n (fun i hi=>?_) ?_
  ·unfold Ez;simp only[];rw[A3p Y,mul8 i Y,ig Y,at_i _ _ c Y,fG (by rw[ps_len];omega),dh i Y,A2l,A2t];rfl
  ·unfold Ez;simp only[];rw[A3q Y];rfl
theorem m8:∀ i:Nat,i < 8->((8:UInt64)*UInt64.ofInt (i:Int)).toNat=8*i:=by decide +kernel
theorem rput(b:AC)(a n:Nat)(v:UInt64)(hn:n<=8)(hb:a+n<=b.length)(c:a < 1000):LC b (a:Int) (n:Int) v=some (pset b a n v):=by
  unfold LC;refine je (fun i=>((List.range i).foldl (ps a v) b,(i:Int))) n (fun i hi=>?_) ?_
  ·unfold I7;simp only[];rw[A3p Y,at_i _ _ c Y,fG (by rw[ps_len];omega),dh i Y,m8 i Y,A2l,A2t];rfl
  ·unfold I7;simp only[];rw[A3q Y];rfl
def cpy (b:AC)(a:Nat)(xs:AC):AC:=(List.range xs.length).foldl (fun(b:AC) (i:Nat)=>b.set (a+i) (xs.getD i 0)) b
theorem cpy_eq(a:Nat)(xs:AC)(n:Nat)(b:AC)(hn:n<=xs.length)(hb:a+n<=b.length):(List.range n).foldl (fun(b:AC) (i:Nat)=>b.set (a+i) (xs.getD i 0)) b=b.take a++xs.take n++b.drop (a+n):=by
  induction n with
  | zero=>simp
  | succ n ih =>
    rw[A2l,A2t,ih Y Y];simp only[A3b,A42];have hd:b.drop (a+n)=b[a+n]::b.drop (a+(n+1)):=A0Q Y;rw[hd,A3w _ _ A2L];have hx:a+n - (b.take a++xs.take n).length=0:=by simp;omega
    rw[hx,A0g,A39 Y];simp only[lw,A0f,A37];congr 3;simp[A34,show n < xs.length from by omega]
theorem KP(b:AC)(a:Nat)(xs:AC)(h:a+xs.length<=b.length):(cpy b a xs).length=b.length:=by
  unfold cpy;rw[cpy_eq a xs xs.length b (A2f _) h];simp;omega
theorem lcp_cpy(b:AC)(a n:Nat)(xs:AC)(hn:xs.length<=n)(h:a+xs.length<=b.length):lcp b a n xs=cpy b a xs:=by
  unfold cpy;rw[cpy_eq a xs xs.length b (A2f _) h,lcp,A0S,A2i hn,A3e hn]
def fpl (k:Int)(i:Nat):Nat×Nat:=if k=1 then[(0,1),(1,1),(2,1),(3,1),(4,4),(8,8),(12,4),(16,1),(17,1)].getD i (0,0) else[(0,1),(1,1),(2,1),(3,1),(4,4),(8,6),(12,2),(14,1),(15,1)].getD i (0,0)
theorem fpl_le(k:Int):∀ i:Nat,i < 9->(fpl k i).1+(fpl k i).2<=18/\(fpl k i).2<=8:=by
  intro i hi;unfold fpl;by_cases a:k=1
  ·simp only[a,if_true];revert i;decide
  ·simp only[a,A3r];revert i;decide
theorem rplace(k:Int)(a:k=1∨k=2):∀ i:Nat,i < 9->KC k ((i+1:Nat):Int)=some (((fpl k i).1:Int),((fpl k i).2:Int)):=by
  rcases a with rfl | rfl <;> decide +kernel
theorem wrows(k:Int):∃ rows,yx k=some rows/\rows.length=9/\∀ i:Nat,i < 9->∃ row,aP rows (i:Int)=some row/\row.1=((i+1:Nat):Int)/\row.2.1=((fpl k i).1:Int)/\row.2.2.1=((fpl k i).2:Int):=by
  by_cases a:k=1
  ·subst a;refine⟨_,rfl,rfl,fun i b=>?_⟩
   match i,b with
   | 0,_=>exact⟨_,rfl,rfl,rfl,rfl⟩
   | 1,_=>exact⟨_,rfl,rfl,rfl,rfl⟩
   | 2,_=>exact⟨_,rfl,rfl,rfl,rfl⟩
   | 3,_=>exact⟨_,rfl,rfl,rfl,rfl⟩
   | 4,_=>exact⟨_,rfl,rfl,rfl,rfl⟩
   | 5,_=>exact⟨_,rfl,rfl,rfl,rfl⟩
   | 6,_=>exact⟨_,rfl,rfl,rfl,rfl⟩
   | 7,_=>exact⟨_,rfl,rfl,rfl,rfl⟩
   | 8,_=>exact⟨_,rfl,rfl,rfl,rfl⟩
  ·have c:∀ i,fpl k i=fpl 2 i:=fun i=>by unfold fpl;simp only[a,A3r];rfl
   have h3:yx k=yx 2:=by unfold yx;rw[A3q a,A3q A2H]
   rw[h3];simp only[c];refine⟨_,rfl,rfl,fun i b=>?_⟩
   match i,b with
   | 0,_=>exact⟨_,rfl,rfl,rfl,rfl⟩
   | 1,_=>exact⟨_,rfl,rfl,rfl,rfl⟩
   | 2,_=>exact⟨_,rfl,rfl,rfl,rfl⟩
   | 3,_=>exact⟨_,rfl,rfl,rfl,rfl⟩
   | 4,_=>exact⟨_,rfl,rfl,rfl,rfl⟩
   | 5,_=>exact⟨_,rfl,rfl,rfl,rfl⟩
   | 6,_=>exact⟨_,rfl,rfl,rfl,rfl⟩
   | 7,_=>exact⟨_,rfl,rfl,rfl,rfl⟩
   | 8,_=>exact⟨_,rfl,rfl,rfl,rfl⟩
section
variable (k d ky f dp:Int)(lf:UInt32)(off:UInt64)(rZ:UInt32)(nd u_:Int)(aO mD:AC)
def pvals:A01:=[UInt64.ofInt d,UInt64.ofInt ky,UInt64.ofInt f,UInt64.ofInt dp,UInt64.ofNat lf.toNat,off,UInt64.ofNat rZ.toNat,UInt64.ofInt nd,UInt64.ofInt u_]
theorem wvalue(i:Nat)(a:i < 9):Gy d ky f dp lf off rZ nd u_ aO mD ((i+1:Nat):Int)=some ((pvals d ky f dp lf off rZ nd u_).getD i 0):=by
  match i,a with
  | 0,_=>rfl
  | 1,_=>rfl
  | 2,_=>rfl
  | 3,_=>rfl
  | 4,_=>rfl
  | 5,_=>rfl
  | 6,_=>rfl
  | 7,_=>rfl
  | 8,_=>rfl
def ens (b:AC)(i:Nat):AC:=if i=6/\rZ=0 then b else pset b (fpl k i).1 (fpl k i).2 ((pvals d ky f dp lf off rZ nd u_).getD i 0)
def X7 (b:AC)(n:Nat):AC:=(List.range n).foldl (ens k d ky f dp lf off rZ nd u_) b
theorem Du(b:AC)(n:Nat):(X7 k d ky f dp lf off rZ nd u_ b n).length=b.length:=by
  unfold X7
  induction n with
  | zero=>rfl
  | succ n ih =>
    rw[A2l,A2t];simp only[A3b,A42,ens];split
    ·exact ih
    ·rw[pset_len,ih]
def enc' (S:Nat):AC:=cpy (cpy (X7 k d ky f dp lf off rZ nd u_ (List.replicate S 0) 9) (S / 2) aO) (S / 4*3) mD
def encB:AC:=enc' k d ky f dp lf off rZ nd u_ aO mD (if k=1 then 64 else 32)
theorem wloop(S q:Nat)(hS:S=64/\q=16∨S=32/\q=8)(m:Int)(hs:aO.length<=q)(hp:mD.length<=q)(rows:A07)(hl:rows.length=9)(l:∀ i:Nat,i < 9->∃ row,aP rows (i:Int)=some row/\row.1=((i+1:Nat):Int)/\row.2.1=((fpl k i).1:Int)/\row.2.2.1=((fpl k i).2:Int)) :
    aT (vZ d ky f dp lf off rZ nd u_ aO mD ((S:Int),m,(q:Int)) rows) (List.replicate S 0,(0:Int))=some (enc' k d ky f dp lf off rZ nd u_ aO mD S,0):=by
  refine je (fun i=>(X7 k d ky f dp lf off rZ nd u_ (List.replicate S 0) i,(i:Int))) 9 (fun i g=>?_) ?_
  ·obtain⟨row,r,p,h3,o⟩:=l i g;obtain⟨g1,s⟩:=fpl_le k i g;unfold vZ vY zT;simp only[];rw[hl,A3p Y,r];simp only[A0X];rw[p,h3,o,dh i Y];have e:X7 k d ky f dp lf off rZ nd u_ (List.replicate S 0) (i+1)=ens k d ky f dp lf off rZ nd u_ (X7 k d ky f dp lf off rZ nd u_ (List.replicate S 0) i) i:=by
     unfold X7;rw[A2l,A2t];rfl
   rw[e];unfold ens;by_cases c:i=6/\rZ=0
   ·rw[A3p (by simp only[A0U,lm];exact⟨Y,c.2⟩),A3p c]
   ·rw[A3q (by simp only[A0U,lm];exact fun h=>c ⟨Y,h.2⟩),A3q c,wvalue _ _ _ _ _ _ _ _ _ _ _ i g];simp only[A0X];rw[wput _ _ _ _ s (by rw[Du];simp;omega) Y];rfl
  ·unfold vZ;simp only[];have b:(X7 k d ky f dp lf off rZ nd u_ (List.replicate S 0) 9).length=S:=by rw[Du];simp
   have u:ax ((S:Int) - ax (2*(q:Int)))=((S / 2:Nat):Int):=by rw[bG (n:=2*(q:Int)) Y,bG Y];omega
   have t:ax ((S:Int) - (q:Int))=((S / 4*3:Nat):Int):=by rw[bG Y];omega
   rw[hl,A3q Y,u,t,ww];rw[Ah (by rw[b];omega)];simp only[A0X,ww];have j:((X7 k d ky f dp lf off rZ nd u_ (List.replicate S 0) 9).take S).drop (S / 2)=(X7 k d ky f dp lf off rZ nd u_ (List.replicate S 0) 9).drop (S / 2):=by rw[A2i Y]
   rw[j,lcp_cpy _ _ _ _ (by rw[A0m,b];omega) (by rw[b];omega)];have a:(cpy (X7 k d ky f dp lf off rZ nd u_ (List.replicate S 0) 9) (S / 2) aO).length=S:=by rw[KP _ _ _ Y,b]
   rw[Ah (by rw[a];omega)];simp only[A0X,ww];rw[A2i Y,lcp_cpy _ _ _ _ (by rw[A0m,a];omega) (by rw[a];omega)];rfl
theorem cset_len(a:Nat)(xs:AC)(n:Nat)(b:AC):((List.range n).foldl (fun(b:AC) (i:Nat)=>b.set (a+i) (xs.getD i 0)) b).length=b.length:=by
  induction n with
  | zero=>rfl
  | succ n ih=>rw[A2l,A2t];simp only[A3b,A42,List.length_set,ih]
theorem getD_in(xs:AC)(i:Nat)(h:i < xs.length):xs.getD i 0=xs[i]:=by simp[A34,h]
theorem rloop(m:k=1∨k=2)(S q:Nat)(o:S=64/\q=16∨S=32/\q=8)(p:uz k=some (S:Int))(hs:aO.length<=q)(hp:mD.length<=q) :
    aT (yS k d ky f dp lf off rZ nd u_ aO mD) (List.replicate S 0,(1:Int))=some (enc' k d ky f dp lf off rZ nd u_ aO mD S,0):=by
  refine je (fun i=>(X7 k d ky f dp lf off rZ nd u_ (List.replicate S 0) i,((i+1:Nat):Int))) 9 (fun i a=>?_) ?_
  ·obtain⟨g1,r⟩:=fpl_le k i a;unfold yS yP Dk;simp only[];rw[A3p Y,dh (i+1) Y];have j:X7 k d ky f dp lf off rZ nd u_ (List.replicate S 0) (i+1)=ens k d ky f dp lf off rZ nd u_ (X7 k d ky f dp lf off rZ nd u_ (List.replicate S 0) i) i:=by
     unfold X7;rw[A2l,A2t];rfl
   rw[j];unfold ens;by_cases g:i=6/\rZ=0
   ·rw[A3p (by simp only[A0U,lm];exact⟨Y,g.2⟩),A3p g]
   ·rw[A3q (by simp only[A0U,lm];exact fun h=>g ⟨Y,h.2⟩),A3q g,rplace k m i a];simp only[A0X];have l:ax (((i+1:Nat):Int) - 1)=(i:Int):=by rw[bG Y];omega
    have n:aP [UInt64.ofInt d,UInt64.ofInt ky,UInt64.ofInt f,UInt64.ofInt dp,UInt64.ofNat lf.toNat,off,UInt64.ofNat rZ.toNat,UInt64.ofInt nd,UInt64.ofInt u_] (i:Int)=some ((pvals d ky f dp lf off rZ nd u_).getD i 0):=by
      rw[fG A2L];simp[pvals,A34,a]
    rw[l,n];simp only[A0X];rw[rput _ _ _ _ r (by rw[Du];simp;omega) Y];rfl
  ·unfold yS;simp only[];have c:(X7 k d ky f dp lf off rZ nd u_ (List.replicate S 0) 9).length=S:=by rw[Du];simp
   rw[A3q Y,p];simp only[A0X];have t4:ax (Int.tdiv (S:Int) 4)=((S / 4:Nat):Int):=by rcases o with⟨rfl,_⟩ | ⟨rfl,_⟩ <;> rfl
   have t:ax (2*((S / 4:Nat):Int))=((S / 2:Nat):Int):=by rw[bG Y];omega
   have s:ax (3*((S / 4:Nat):Int))=((S / 4*3:Nat):Int):=by rw[bG Y];omega
   rw[show aT (yR aO mD (S:Int)) (X7 k d ky f dp lf off rZ nd u_ (List.replicate S 0) 9,0)=some (enc' k d ky f dp lf off rZ nd u_ aO mD S,0) from ?_]
   ·rfl
   refine je (fun i=>((List.range i).foldl (fun(b:AC) (i:Nat)=>b.set (S / 2+i) (aO.getD i 0)) (X7 k d ky f dp lf off rZ nd u_ (List.replicate S 0) 9),(i:Int))) aO.length (fun i a=>?_) ?_
   ·unfold yR;simp only[];rw[A3p Y,t4,t,fG a,at_i _ _ Y Y,fG (by rw[cset_len,c];omega),dh i Y,A2l,A2t];simp only[A0X,A3b,A42,ww,getD_in _ _ a]
   ·unfold yR;simp only[];rw[A3q Y];rw[show aT (yQ mD (S:Int)) ((List.range aO.length).foldl (fun(b:AC) (i:Nat)=>b.set (S / 2+i) (aO.getD i 0)) (X7 k d ky f dp lf off rZ nd u_ (List.replicate S 0) 9),0)=some (enc' k d ky f dp lf off rZ nd u_ aO mD S,0) from ?_]
    ·rfl
    have e:(cpy (X7 k d ky f dp lf off rZ nd u_ (List.replicate S 0) 9) (S / 2) aO).length=S:=by rw[KP _ _ _ Y,c]
    refine je (fun i=>((List.range i).foldl (fun(b:AC) (i:Nat)=>b.set (S / 4*3+i) (mD.getD i 0)) (cpy (X7 k d ky f dp lf off rZ nd u_ (List.replicate S 0) 9) (S / 2) aO),(i:Int))) mD.length (fun i a=>?_) ?_
    ·unfold yQ;simp only[];rw[A3p Y,t4,s,fG a,at_i _ _ Y Y,fG (by rw[cset_len,e];omega),dh i Y,A2l,A2t];simp only[A0X,A3b,A42,ww,getD_in _ _ a]
    ·unfold yQ;simp only[];rw[A3q Y];rfl
theorem enc_ok(h:kH k d ky f dp lf off rZ nd u_ aO mD=some 0) :
    uw k d ky f dp lf off rZ nd u_ aO mD=some (encB k d ky f dp lf off rZ nd u_ aO mD,0)/\pz k d ky f dp lf off rZ nd u_ aO mD=some (encB k d ky f dp lf off rZ nd u_ aO mD,0):=by
  obtain⟨r,c,e⟩:=XA k d ky f dp lf off rZ nd u_ aO mD;rw[h] at c;obtain rfl:=A2j c;obtain⟨rows,b,r2,a⟩:=wrows k;rcases e rfl with⟨rfl,_,_,_,hs,hp⟩ | ⟨rfl,_,_,_,hs,hp⟩
  ·constructor
   ·unfold uw;rw[Xz,h,b];exact wloop 1 d ky f dp lf off rZ nd u_ aO mD 64 16 Y 64 hs hp rows r2 a
   ·unfold pz;rw[h];exact rloop 1 d ky f dp lf off rZ nd u_ aO mD Y 64 16 Y rfl hs hp
  ·constructor
   ·unfold uw;rw[Xz,h,b];exact wloop 2 d ky f dp lf off rZ nd u_ aO mD 32 8 Y 32 hs hp rows r2 a
   ·unfold pz;rw[h];exact rloop 2 d ky f dp lf off rZ nd u_ aO mD Y 32 8 Y rfl hs hp
theorem encB_len(h:(k=1/\aO.length<=16/\mD.length<=16)∨(k=2/\aO.length<=8/\mD.length<=8)):(encB k d ky f dp lf off rZ nd u_ aO mD).length=if k=1 then 64 else 32:=by
  unfold encB enc';rcases h with⟨rfl,hs,hp⟩ | ⟨rfl,hs,hp⟩
  ·simp only[if_true];rw[KP _ _ _ (by rw[KP _ _ _ (by rw[Du];simp;omega),Du];simp;omega),KP _ _ _ (by rw[Du];simp;omega),Du];simp
  ·simp only[show ¬ ((2:Int)=1) from by omega,A3r];rw[KP _ _ _ (by rw[KP _ _ _ (by rw[Du];simp;omega),Du];simp;omega),KP _ _ _ (by rw[Du];simp;omega),Du];simp
end
end
section
section
variable {σ:Type}
def uP (f:σ->AC->UInt64×UInt64->σ)(B:Nat)(h:σ)(c:UInt64×UInt64)(M:AC):σ×(UInt64×UInt64)×AC :=
  if hlt:0 < B/\B < M.length then uP f B (f h (M.take B) (Il c (UInt64.ofNat B))) (Il c (UInt64.ofNat B)) (M.drop B) else(h,c,M)
termination_by M.length
decreasing_by simp only[A0m];omega
theorem Io(f:σ->AC->UInt64×UInt64->σ)(B:Nat)(h:σ)(c:UInt64×UInt64)(M:AC)(hM:M.length<=B):uP f B h c M=(h,c,M):=by
  rw[uP,dif_neg Y]
theorem Ul(f:σ->AC->UInt64×UInt64->σ)(B:Nat)(h:σ)(c:UInt64×UInt64)(M:AC)(b:0 < B)(a:B < M.length):uP f B h c M=uP f B (f h (M.take B) (Il c (UInt64.ofNat B))) (Il c (UInt64.ofNat B)) (M.drop B):=by
  rw[uP,dif_pos ⟨b,a⟩]
theorem absorb_end(f:σ->AC->UInt64×UInt64->σ)(B:Nat)(d:0 < B):∀ (n:Nat) (h:σ) (c:UInt64×UInt64) (M:AC),M.length<=n->(uP f B h c M).2.2.length<=B/\(uP f B h c M).2.2=M.drop (M.length - (uP f B h c M).2.2.length)/\(uP f B h c M).2.2.length<=M.length:=by
  intro n
  induction n with
  | zero=>intro h c M b;rw[Io f B h c M Y];simp;omega
  | succ n ih =>
    intro h c M b;by_cases hl:B < M.length
    ·rw[Ul f B h c M d hl];obtain⟨e,a,h3⟩:=ih (f h (M.take B) (Il c (UInt64.ofNat B))) (Il c (UInt64.ofNat B)) (M.drop B) (by simp only[A0m];omega);refine⟨e,?_,by simp only[A0m] at h3;omega⟩;rw[A0j] at a;simp only[A0m] at a h3;rw[show B+(M.length - B - (uP f B (f h (M.take B) (Il c (UInt64.ofNat B))) (Il c (UInt64.ofNat B)) (M.drop B)).2.2.length)=M.length - (uP f B (f h (M.take B) (Il c (UInt64.ofNat B))) (Il c (UInt64.ofNat B)) (M.drop B)).2.2.length from by omega] at a;exact a
    ·rw[Io f B h c M Y];simp;omega
end
def pad (n:Nat)(xs:AC):AC:=xs++List.replicate (n - xs.length) 0
theorem PN(n:Nat)(xs:AC)(h:xs.length<=n):(pad n xs).length=n:=by simp[pad];omega
theorem Z4(n:Nat):UInt64.ofInt (n:Int)=UInt64.ofNat n:=by
  rw[<- A2m];unfold UInt64.ofInt;simp;omega
theorem wadd(c:UInt64×UInt64)(n:UInt64):∃ o,DC c.1 c.2 n=some ((Il c n).1,(Il c n).2,o):=⟨_,add_ok _ _ _⟩
theorem radd'(c:UInt64×UInt64)(n:UInt64):∃ o,Gh c.1 c.2 n=some ((Il c n).1,(Il c n).2,o):=⟨_,radd _ _ _⟩
theorem wpad(b:AC)(n:Nat)(hb:b.length<=n)(hn:n<=1000):zq b (n:Int)=some (pad n b):=by
  unfold zq;rw[ig Y];simp only[A0X];rw[iG A2L];simp only[A0X];have e:ax ((n:Int) - (b.length:Int))=((n - b.length:Nat):Int):=by rw[bG Y];omega
  rw[e];unfold appz;rw[A3p A2L];simp only[A0X,ww];rfl
theorem cut_ok(b:AC)(a n:Nat)(hb:b.length<=33554432)(ha:a<=b.length)(hn:n<=1000):Jn b (a:Int) (n:Int)=some (pad n ((b.drop a).take n)):=by
  unfold Jn;have hz:∀ i,i<=n->(pad n ((b.drop a).take n)).take i=pad i ((b.drop a).take i):=by
    intro i d;unfold pad;rw[A48,List.take_take,A35 d,List.take_replicate];congr 2;simp only[A0T,A0m];omega
  have hlen:=PN n ((b.drop a).take n) A2L;suffices hsf:aT (EM b (a:Int) (n:Int)) (([]:AC),(0:Int))=some ((pad n ((b.drop a).take n)).take n) by rw[hsf,A2i Y]
  refine je (fun i=>((pad n ((b.drop a).take n)).take i,(i:Int))) n (fun i d=>?_) ?_
  ·unfold EM EL I8;have e:ax ((a:Int)+(i:Int))=((a+i:Nat):Int):=by rw[bG Y];omega
   have hs:(pad n ((b.drop a).take n)).take (i+1)=(pad n ((b.drop a).take n)).take i++[(pad n ((b.drop a).take n))[i]]:=A39 Y;simp only[];rw[A3p Y,e,hs,dh i Y];by_cases c:a+i < b.length
   ·rw[A3p Y,fG c];simp only[A0X];rw[iG A2L];simp only[A0X];have hx:(pad n ((b.drop a).take n))[i]=b[a+i]:=by
      unfold pad;rw[List.getElem_append_left A2L];simp
    rw[hx]
   ·rw[A3q Y,iG A2L];simp only[A0X];have hx:(pad n ((b.drop a).take n))[i]=0:=by
      unfold pad;rw[List.getElem_append_right A2L];simp
    rw[hx]
  ·unfold EM;simp only[];rw[A3q Y];rfl
theorem keyed_ok(k:Int)(B:Nat)(c:Am k=some (B:Int))(hBl:B<=1000)(key:AC)(d:key.length<=B):D7 k key=some (if key=[] then[] else pad B key):=by
  unfold D7;by_cases b:key=[]
  ·subst b;rfl
  rw[A3q (by have:=List.length_pos_iff.2 b;omega),A3q b];have hlen:=PN B key d;suffices hsf:aT (Aq k key) (([]:AC),(0:Int))=some ((pad B key).take B) by rw[hsf,A2i Y]
  refine je (fun i=>((pad B key).take i,(i:Int))) B (fun i hi=>?_) ?_
  ·unfold Aq Ap EJ;have hs:(pad B key).take (i+1)=(pad B key).take i++[(pad B key)[i]]:=A39 Y;simp only[];rw[c];simp only[A0X];rw[A3p Y,hs,dh i Y];by_cases a:i < key.length
   ·rw[A3p Y,fG a];simp only[A0X];rw[iG A2L];simp only[A0X];have hx:(pad B key)[i]=key[i]:=by
      unfold pad;rw[List.getElem_append_left Y]
    rw[hx]
   ·rw[A3q Y,iG A2L];simp only[A0X];have hx:(pad B key)[i]=0:=by
      unfold pad;rw[List.getElem_append_right Y];simp
    rw[hx]
  ·unfold Aq;simp only[];rw[c];simp only[A0X];rw[A3q Y];rfl
end
section
structure Half where
  σ:Type
  k:Int
  B:Nat
  S:Nat
  f:σ->AC->UInt64×UInt64->Bool->Bool->σ
  st:AC->σ
  dig:σ->AC
  emb:σ->Vec UInt64 16
  hk:k=1/\B=128/\S=64∨k=2/\B=64/\S=32
  diglen:∀ h,(dig h).length=S
  hin:∀ h b (c:UInt64×UInt64) A2A node,b.length=B->JC k (emb h) b c.1 c.2 A2A node=some (emb (f h b c A2A node))
  hbytes:∀ h,D8 k (emb h)=some (dig h)
  hfirst:∀ (d ky fn dp:Int) (lf:UInt32) (off:UInt64) (rZ:UInt32) (nd u_:Int) (aO mD key:AC) (A2A:Bool) (from_:Vec UInt64 16) (lo hi:UInt64) (msg:AC) (cn:UInt64) (blk:AC),pz k d ky fn dp lf off rZ nd u_ aO mD=some (blk,0)->blk.length=S ->
    ug k d ky fn dp lf off rZ nd u_ aO mD key A2A from_ false lo hi msg cn=some (emb (st blk),k,d,ky,fn,dp,lf,off,rZ,nd,u_,A2A,from_,false,lo,hi,msg,cn)
theorem Half.hB(H:Half):Am H.k=some (H.B:Int):=by
  rcases H.hk with⟨b,a,_⟩ | ⟨b,a,_⟩ <;> rw[b,a] <;> rfl
theorem Half.hS(H:Half):DD H.k=some (H.S:Int):=by
  rcases H.hk with⟨b,_,a⟩ | ⟨b,_,a⟩ <;> rw[b,a] <;> rfl
def Tq (h:Vec UInt64 8):Vec UInt64 16:=⟨h.l++List.replicate 8 0,by simp[h.h]⟩
theorem embB_g(h:Vec UInt64 8)(i:Nat)(a:i < 8):(Tq h).g i=h.g i:=by
  have hl:i < h.l.length:=by rw[h.h];exact a
  simp[Vec.g,Tq,A34,A3M hl]
theorem embB_in(h r:Vec UInt64 8):(List.range 8).foldl (fun v (i:Nat)=>oP v i (r.g i)) (Tq h)=Tq r:=by
  obtain⟨a,b,c,d,e,f,g,q,rfl⟩:=vec8 (v:=h);obtain⟨a',b',c',d',e',f',g',q',rfl⟩:=vec8 (v:=r);rfl
theorem embB_out(h:Vec UInt64 8):(List.range 8).foldl (fun v (i:Nat)=>oP v i ((Tq h).g i)) (Vec.rep 8 (0:UInt64))=h:=by
  obtain⟨a,b,c,d,e,f,g,q,rfl⟩:=vec8 (v:=h);rfl
theorem embB_0(r:Vec UInt64 8):(List.range 8).foldl (fun v (i:Nat)=>oP v i (r.g i)) (Vec.rep 16 (0:UInt64))=Tq r:=by
  obtain⟨a',b',c',d',e',f',g',q',rfl⟩:=vec8 (v:=r);rfl
theorem rin1(h:Vec UInt64 8)(b:AC)(c:UInt64×UInt64)(A2A a:Bool)(e:b.length=128):JC 1 (Tq h) b c.1 c.2 A2A a=some (Tq (Fb h (Wb b) c.1 c.2 A2A a)):=by
  unfold JC;rw[A3p rfl];refine Cc _ 8 (fun v (i:Nat)=>oP v i ((Tq h).g i)) _ _ (fun v i d=>?_) ?_
  ·unfold KD;simp only[];rw[A3p Y,iC _ _ Y,iC _ _ d,dh i Y];rfl
  ·rw[embB_out];unfold KD;simp only[];rw[A3q Y,rWords b e];simp only[A0X];rw[rF];simp only[A0X];rw[show aT (Hu (Fb h (Wb b) c.1 c.2 A2A a)) (Tq h,0)=some (Tq (Fb h (Wb b) c.1 c.2 A2A a)) from ?_]
   ·rfl
   refine Cc _ 8 (fun v (i:Nat)=>oP v i ((Fb h (Wb b) c.1 c.2 A2A a).g i)) _ _ (fun v i d=>?_) ?_
   ·unfold Hu;simp only[];rw[A3p Y,iC _ _ d,iC _ _ Y,dh i Y];rfl
   ·rw[embB_in];unfold Hu;simp only[];rw[A3q Y];rfl
theorem rbytes1 (h:Vec UInt64 8):D8 1 (Tq h)=some (Byb h):=by
  unfold D8;refine je (fun i=>((List.range i).foldl (fun b i=>b++Q4 8 (h.g i)) [],(i:Int))) 8 (fun i hi=>?_) rfl;unfold JE;simp only[];have hs:=ZX (h.g i) 8 Y;rw[if_pos Y,iC _ _ Y,embB_g h i hi,dh i Y];simp only[A0X];rw[show DD 1=some 64 from rfl];simp only[A0X];rw[show ax (Int.tdiv 64 8)=((8:Nat):Int) from rfl,hs];simp only[A0X];have hq:(List.range (i+1)).foldl (fun b i=>b++Q4 8 (h.g i)) []=(List.range i).foldl (fun b i=>b++Q4 8 (h.g i)) []++Q4 8 (h.g i):=by rw[List.range_succ,List.foldl_append];rfl
  rw[iG (by rw[ZY _ 8 (fun i=>Dt 8 _)];simp;omega),hq];rfl
theorem rfirst1(d ky fn dp:Int)(lf:UInt32)(off:UInt64)(rZ:UInt32)(nd u_:Int)(aO mD key:AC)(A2A:Bool)(from_:Vec UInt64 16)(lo a:UInt64)(msg:AC)(cn:UInt64)(blk:AC)(b:pz 1 d ky fn dp lf off rZ nd u_ aO mD=some (blk,0))(hl:blk.length=64) :
    ug 1 d ky fn dp lf off rZ nd u_ aO mD key A2A from_ false lo a msg cn=some (Tq (Stb blk),1,d,ky,fn,dp,lf,off,rZ,nd,u_,A2A,from_,false,lo,a,msg,cn):=by
  unfold ug;rw[A3q A2H,b];simp only[A0X];rw[A3p trivial,rStart blk hl];simp only[A0X];refine Cc _ 8 (fun v (i:Nat)=>oP v i ((Stb blk).g i)) _ _ (fun v i a=>?_) ?_
  ·unfold xn;simp only[];rw[A3p Y,iC _ _ a,iC _ _ Y,dh i Y];rfl
  ·rw[embB_0];unfold xn;simp only[];rw[A3q Y];rfl
def big:Half:=⟨Vec UInt64 8,1,128,64,fun h b c A2A a=>Fb h (Wb b) c.1 c.2 A2A a,Stb,Byb,Tq,.inl ⟨rfl,rfl,rfl⟩,ZZ,rin1,rbytes1,rfirst1⟩
end
section
def Half.run (H:Half)(blk M:AC):H.σ×(UInt64×UInt64)×AC:=uP (fun h b c=>H.f h b c false false) H.B (H.st blk) (0,0) M
def Half.hash (H:Half)(blk M:AC)(A2A:Bool):AC :=
  H.dig (H.f (H.run blk M).1 (pad H.B (H.run blk M).2.2) (Il (H.run blk M).2.1 (UInt64.ofNat (H.run blk M).2.2.length)) true A2A)
theorem Half.hash_len(H:Half)(blk M:AC)(A2A:Bool):(H.hash blk M A2A).length=H.S:=H.diglen _
theorem Half.bp(H:Half):0 < H.B/\H.B<=128:=by rcases H.hk with⟨_,h,_⟩ | ⟨_,h,_⟩ <;> omega
section
variable (H:Half)(d ky fn dp:Int)(lf:UInt32)(off:UInt64)(rZ:UInt32)(nd u_:Int)(aO mD key:AC)(A2A:Bool)(from_:Vec UInt64 16)(msg:AC)(cn:UInt64)(blk:AC)
theorem passed_ok(n:pz H.k d ky fn dp lf off rZ nd u_ aO mD=some (blk,0))(hl:blk.length=H.S)(hm:msg.length<=16000000) :
    wz H.k d ky fn dp lf off rZ nd u_ aO mD key A2A from_ false 0 0 msg cn =
      some (H.emb (H.run blk msg).1,(H.run blk msg).2.1.1,(H.run blk msg).2.1.2,((msg.length - (H.run blk msg).2.2.length:Nat):Int),H.k,d,ky,fn,dp,lf,off,rZ,nd,u_,A2A,from_,false,0,0,msg,cn):=by
  have m:=H.bp;unfold wz;rw[H.hfirst d ky fn dp lf off rZ nd u_ aO mD key A2A from_ 0 0 msg cn blk n hl];simp only[A0X];rw[H.hB];simp only[A0X];refine ng (fun i s=>∃ (h:H.σ) (c:UInt64×UInt64) (a:Nat),s=(H.emb h,c.1,c.2,(a:Int))/\a<=msg.length/\a=i*H.B/\uP (fun h b c=>H.f h b c false false) H.B h c (msg.drop a)=H.run blk msg) _ msg.length _ ⟨H.st blk,(0,0),0,rfl,Y,Y,rfl⟩ ?_;rintro i s ⟨h,c,a,rfl,ha,l,j⟩;unfold Ar;simp only[];have p:ax ((a:Int)+(H.B:Int))=((a+H.B:Nat):Int):=by rw[bG Y];omega
  rw[p];by_cases hlt:a+H.B < msg.length
  ·left;have hil:i<=i*H.B:=A3j i m.1;obtain⟨o,e⟩:=radd' c (UInt64.ofNat H.B);refine⟨Y,(H.emb (H.f h ((msg.drop a).take H.B) (Il c (UInt64.ofNat H.B)) false false),(Il c (UInt64.ofNat H.B)).1,(Il c (UInt64.ofNat H.B)).2,((a+H.B:Nat):Int)),?_,H.f h ((msg.drop a).take H.B) (Il c (UInt64.ofNat H.B)) false false,Il c (UInt64.ofNat H.B),a+H.B,rfl,Y,by rw[l,Nat.succ_mul],?_⟩
   ·rw[A3p Y,Z4,e];simp only[A0X];rw[cut_ok msg a H.B Y Y Y];simp only[A0X];have hp:pad H.B ((msg.drop a).take H.B)=(msg.drop a).take H.B:=by
      unfold pad;rw[show H.B - ((msg.drop a).take H.B).length=0 from by simp;omega];simp
    rw[hp,H.hin h _ (Il c (UInt64.ofNat H.B)) false false A2L];rfl
   ·rw[<- j,Ul _ H.B h c (msg.drop a) m.1 A2L,A0j]
  ·right;rw[A3q Y];have g:=Io (fun h b c=>H.f h b c false false) H.B h c (msg.drop a) A2L;rw[g] at j;rw[<- j];simp only[A31,A2a,Sum.inr.injEq,A2c,true_and,A49,A0m];omega
theorem Half.held(H:Half)(blk M:AC):(H.run blk M).2.2.length<=H.B/\(H.run blk M).2.2=M.drop (M.length - (H.run blk M).2.2.length)/\(H.run blk M).2.2.length<=M.length :=
  absorb_end _ H.B H.bp.1 M.length _ _ M (A2f _)
theorem rout_ok(c:pz H.k d ky fn dp lf off rZ nd u_ aO mD=some (blk,0))(hl:blk.length=H.S)(hm:msg.length<=16000000) :
    Au H.k d ky fn dp lf off rZ nd u_ aO mD key A2A from_ false 0 0 msg cn=some (H.hash blk msg A2A,H.k,d,ky,fn,dp,lf,off,rZ,nd,u_,A2A,from_,false,0,0,msg,cn):=by
  have hb:=H.bp;unfold Au;rw[passed_ok H d ky fn dp lf off rZ nd u_ aO mD key A2A from_ msg cn blk c hl hm];simp only[A0X];obtain⟨b,e,h3⟩:=H.held blk msg;have f:ax ((msg.length:Int) - ((msg.length - (H.run blk msg).2.2.length:Nat):Int))=(((H.run blk msg).2.2.length:Nat):Int):=by rw[bG Y];omega
  obtain⟨o,a⟩:=radd' (H.run blk msg).2.1 (UInt64.ofNat (H.run blk msg).2.2.length);rw[f,Z4,a];simp only[A0X];rw[H.hB];simp only[A0X];rw[cut_ok msg _ H.B Y Y Y,<-e];simp only[A0X];rw[A2i b];rw[H.hin _ _ _ true A2A (PN _ _ b)];simp only[A0X];rw[H.hbytes];rfl
theorem rwrite_ok(b:AC)(lo c:UInt64)(a:Bool)(hm:msg.length+b.length<=16000000) :
    xG H.k d ky fn dp lf off rZ nd u_ aO mD key A2A from_ a lo c msg cn b=some (H.k,d,ky,fn,dp,lf,off,rZ,nd,u_,A2A,from_,a,lo,c,msg++b,cn+UInt64.ofInt (b.length:Int)):=by
  unfold xG;rw[show((msg,(0:Int)):AC×Int)=(msg++b.take 0,(0:Int)) from by simp];refine je (fun i=>(msg++b.take i,(i:Int))) b.length (fun i c=>?_) ?_
  ·unfold xk;simp only[];rw[A3p Y,fG c];simp only[A0X];rw[iG A2L,dh i Y,A39 c,lw];rfl
  ·unfold xk;simp only[];rw[A3q Y,A0S];rfl
end
def Half.ans (H:Half)(blk M:AC)(A2A:Bool)(a:Int):AC×Int:=if a < 1∨(H.S:Int) < a then([],1) else((H.hash blk M A2A).take a.toNat,0)
def Half.kb (H:Half)(key:AC):AC:=if key=[] then[] else pad H.B key
theorem Half.kb_len(H:Half)(key:AC)(h:key.length<=H.B):(H.kb key).length<=H.B:=by
  unfold Half.kb;split
  ·simp
  ·rw[PN _ _ h];exact A2f _
theorem rhash_ok(H:Half)(d ky fn dp:Int)(lf:UInt32)(off:UInt64)(rZ:UInt32)(nd u_:Int)(aO mD key:AC)(A2A:Bool)(b:Int)(a blk:AC)(j:kH H.k d ky fn dp lf off rZ nd u_ aO mD=some 0)(i:pz H.k d ky fn dp lf off rZ nd u_ aO mD=some (blk,0))(hl:blk.length=H.S)(e:key=[]∨(key.length:Int)=ky)(c:key.length<=H.B)(hd:a.length<=12000000) :
    Aw H.k d ky fn dp lf off rZ nd u_ aO mD key A2A b a=some (H.ans blk (H.kb key++a) A2A b):=by
  have hb:=H.bp;unfold Aw PD;rw[j];simp only[A0X,ne_eq,A3t,A3r];rw[A3q (by
    simp only[A0U,lm];rintro⟨g,f⟩;rcases e with rfl | h
    ·exact g rfl
    ·exact f h)]
  rw[show D7 H.k key=some (H.kb key) from keyed_ok H.k H.B H.hB Y key c];simp only[A0X,A3C];unfold Half.ans;by_cases g:b < 1
  ·rw[A3p g,A3p (.inl g)]
  rw[A3q g,H.hS];simp only[A0X];by_cases f:(H.S:Int) < b
  ·rw[A3p f,A3p (.inr f)]
  rw[A3q f,A3q Y];have hkb:=H.kb_len key c;rw[rwrite_ok H d ky fn dp lf off rZ nd u_ aO mD key A2A (Vec.rep 16 0) (H.kb key) 0 a 0 0 false Y];simp only[A0X];rw[rout_ok H d ky fn dp lf off rZ nd u_ aO mD key A2A _ _ _ blk i hl (by rw[Pi];omega)];simp only[A0X];rw[Ah (by rw[H.hash_len];omega)];simp
end
section
def fB (h:Vec UInt64 8)(b:AC)(c:UInt64×UInt64)(A2A a:Bool):Vec UInt64 8:=Fb h (Wb b) c.1 c.2 A2A a
theorem YH(h:Vec UInt64 8)(b:AC)(c:UInt64×UInt64)(A2A a:Bool)(d:b.length=128):zt h b c.1 c.2 A2A a=some (fB h b c A2A a):=by
  unfold zt;rw[wWords b d];simp only[A0X];rw[wF];rfl
theorem wj0B(b:AC)(h:Vec UInt64 8)(lo a:UInt64)(held:AC)(hb:b.length<=12000000)(hh:held.length<=128) :
    kC 128 b h lo a held=some (.inl (h,lo,a,held++b.take (min (128 - held.length) b.length),b.drop (min (128 - held.length) b.length))):=by
  unfold kC;have d:ax ((128:Int) - (held.length:Int))=((128 - held.length:Nat):Int):=by rw[bG Y];omega
  have c:(if ax ((128:Int) - (held.length:Int)) < (b.length:Int) then ax ((128:Int) - (held.length:Int)) else(b.length:Int))=((min (128 - held.length) b.length:Nat):Int):=by
    rw[d];split <;> omega
  rw[c,Ah Y];simp only[A0X,ww,Int.toNat_zero,A0i];rw[iG A2L,Ah Y];simp only[A0X,ww];rw[A2i (i:=b.length) (A2f _)]
theorem wwriteB(h:Vec UInt64 8)(c:UInt64×UInt64)(held b:AC)(hb:b.length<=12000000)(l:held.length<=128) :
    lQ h c.1 c.2 held 128 b=some ((uP (fun h b c=>fB h b c false false) 128 h c (held++b)).1,(uP (fun h b c=>fB h b c false false) 128 h c (held++b)).2.1.1,(uP (fun h b c=>fB h b c false false) 128 h c (held++b)).2.1.2,(uP (fun h b c=>fB h b c false false) 128 h c (held++b)).2.2,128):=by
  unfold lQ;refine ng (fun i s=>∃ (h':Vec UInt64 8) (e:UInt64×UInt64) (a d:AC),s=(h',e.1,e.2,a,d)/\a.length<=128/\d.length+i<=b.length/\uP (fun h b c=>fB h b c false false) 128 h' e (a++d)=uP (fun h b c=>fB h b c false false) 128 h c (held++b)) _ b.length _ ⟨h,c,held,b,rfl,l,Y,rfl⟩ ?_;rintro i s ⟨h',e,a,d,rfl,f,hbl,k⟩;rw[<- k];unfold sK;simp only[];by_cases m:d.length=0
  ·right;obtain rfl:=List.length_eq_zero_iff.1 m;rw[A3q A2K,A2n,Io _ _ _ _ _ f];rfl
  ·left;refine⟨Y,?_⟩;rw[A3p Y];by_cases j:a.length=128
   ·rw[A3p Y];obtain⟨o,g⟩:=wadd e (UInt64.ofNat 128);have n:UInt64.ofInt 128=UInt64.ofNat 128:=rfl;rw[n,g];simp only[A0X];rw[YH h' a (Il e (UInt64.ofNat 128)) false false j];simp only[A0X];rw[Ah Y];simp only[A0X,Int.toNat_zero,List.take_zero,List.drop_nil];rw[wj0B d _ _ _ [] Y A2K];refine⟨_,rfl,_,Il e (UInt64.ofNat 128),_,_,rfl,by simp;omega,by simp;omega,?_⟩;rw[Ul _ 128 h' e (a++d) Y A2L];rw[show(a++d).take 128=a from by rw[List.take_append_of_le_length Y,A2i Y],show(a++d).drop 128=d from by rw[<- j,List.drop_left]];rw[A37,A32]
   ·rw[A3q Y,wj0B d _ _ _ a Y f];refine⟨_,rfl,_,e,_,_,rfl,by simp;omega,by simp;omega,?_⟩;rw[lw,A32]
theorem woutB (h:Vec UInt64 8)(c:UInt64×UInt64)(held:AC)(node:Bool)(hh:held.length<=128) :
    pq h c.1 c.2 held 128 node=some (Byb (fB h (pad 128 held) (Il c (UInt64.ofNat held.length)) true node),h,c.1,c.2,held,128):=by
  unfold pq p_;obtain⟨o,hadd⟩:=wadd c (UInt64.ofNat held.length);rw[Z4,hadd];simp only[A0X];have:=wpad held 128 hh Y;rw[show((128:Nat):Int)=128 from rfl] at this;rw[this];simp only[A0X];rw[YH h _ (Il c (UInt64.ofNat held.length)) true node (PN _ _ hh)];simp only[A0X];rw[wBytes];rfl
end
section
theorem beginB (d:Int)(blk key:AC)(hl:blk.length=64)(hk:key.length<=128):v_ 1 d blk key false 0=some (1,d,blk,key,Stb blk,0,0,big.kb key,128):=by
  unfold v_ IZ;rw[if_pos rfl];rw[wStart blk hl];simp only[A0X,Sum.elim_inl];unfold Half.kb;by_cases h0:key=[]
  ·subst h0;rfl
  ·rw[if_pos (by have:=List.length_pos_iff.2 h0;omega),if_neg h0];have hp:=wpad key 128 hk Y;rw[show((128:Nat):Int)=128 from rfl] at hp;rw[show xC 1=some 128 from rfl];simp only[A0X];rw[hp];simp only[A0X];have hlen:=PN 128 key hk;rw[wwriteB (Stb blk) (0,0) [] (pad 128 key) Y A2K];rw[List.nil_append,Io _ _ _ _ _ Y];rfl
theorem wouB(d:Int)(blk key:AC)(A2A:Bool)(f:UInt64)(h:Vec UInt64 8)(c:UInt64×UInt64)(held:AC)(g:held.length<=128)(a:Int):∃ t,yN 1 d blk key A2A f h c.1 c.2 held 128 a=some t/\(t.1,t.2.1)=(if a < 1∨(64:Int) < a then([],1) else((Byb (fB h (pad 128 held) (Il c (UInt64.ofNat held.length)) true A2A)).take a.toNat,0)):=by
  unfold yN Bz;simp only[A0X];by_cases e:a < 1
  ·rw[A3p e,A3p (.inl e)];exact⟨_,rfl,rfl⟩
  rw[A3q e,show xC 1=some 128 from rfl];simp only[A0X];rw[show ax (Int.tdiv 128 2)=(64:Int) from rfl];by_cases b:(64:Int) < a
  ·rw[A3p b,A3p (.inr b)];exact⟨_,rfl,rfl⟩
  rw[A3q b,A3q Y,woutB h c held A2A g];simp only[A0X];rw[Ah (by rw[ZZ];omega)];simp only[A0X];rw[ig (by rw[ZZ];omega)];exact⟨_,rfl,A2K⟩
theorem whashB(d ky fn dp:Int)(lf:UInt32)(off:UInt64)(rZ:UInt32)(nd u_:Int)(aO mD key:AC)(A2A:Bool)(e:Int)(a blk:AC)(n:uw 1 d ky fn dp lf off rZ nd u_ aO mD=some (blk,0))(hl:blk.length=64)(g:key=[]∨(key.length:Int)=ky)(f:key.length<=128)(hd:a.length<=12000000) :
    wo 1 d ky fn dp lf off rZ nd u_ aO mD key A2A e a=some (big.ans blk (big.kb key++a) A2A e):=by
  unfold wo MN;rw[n];simp only[A0X,ne_eq,A3t,A3r];rw[A3q (by
    simp only[A0U,lm];rintro⟨l,m⟩;rcases g with rfl | h
    ·exact l rfl
    ·exact m h)]
  unfold KA;rw[iG A2L,iG A2L];simp only[A0X,A37];rw[beginB d blk key hl f];simp only[A0X,A3E,A3C];have k:=big.kb_len key f;rw[wwriteB (Stb blk) (0,0) (big.kb key) a hd k];simp only[A0X];obtain⟨l,m,h3⟩:=big.held blk (big.kb key++a);obtain⟨t,j,i⟩:=wouB d blk key A2A 0 (uP (fun h b c=>fB h b c false false) 128 (Stb blk) (0,0) (big.kb key++a)).1 (uP (fun h b c=>fB h b c false false) 128 (Stb blk) (0,0) (big.kb key++a)).2.1 (uP (fun h b c=>fB h b c false false) 128 (Stb blk) (0,0) (big.kb key++a)).2.2 l e;rw[j];simp only[A0X,A2a];exact i
end
section
theorem hash_ok(d ky fn dp:Int)(lf:UInt32)(off:UInt64)(rZ:UInt32)(nd u_:Int)(aO mD key:AC)(A2A:Bool)(b:Int)(a:AC)(i:kH 1 d ky fn dp lf off rZ nd u_ aO mD=some 0)(c:key=[]∨(key.length:Int)=ky)(hd:a.length<=12000000) :
    ∃ (H:Half) (blk M:AC),H.k=1/\wo 1 d ky fn dp lf off rZ nd u_ aO mD key A2A b a=some (H.ans blk M A2A b)/\Aw 1 d ky fn dp lf off rZ nd u_ aO mD key A2A b a=some (H.ans blk M A2A b):=by
  obtain⟨r,j,l⟩:=XA 1 d ky fn dp lf off rZ nd u_ aO mD;rw[i] at j;obtain rfl:=A2j j;obtain⟨g,f⟩:=enc_ok 1 d ky fn dp lf off rZ nd u_ aO mD i;rcases l rfl with⟨_,_,_,h3,hs,hp⟩ | ⟨h,_⟩
  ·have hl:(encB 1 d ky fn dp lf off rZ nd u_ aO mD).length=64:=by rw[encB_len _ _ _ _ _ _ _ _ _ _ _ _ (.inl ⟨rfl,hs,hp⟩)];rfl
   have e:key.length<=128:=by
     rcases c with rfl | h
     ·simp
     ·omega
   exact⟨big,_,_,rfl,whashB d ky fn dp lf off rZ nd u_ aO mD key A2A b a _ g hl c e hd,rhash_ok big d ky fn dp lf off rZ nd u_ aO mD key A2A b a _ i f hl c e hd⟩
  ·cases h
end
section
section
variable {α σ ρ τ:Type}
theorem O_{f:τ->Option (τ⊕ρ)}(a:σ->Nat->τ)(n:Nat)(F:σ->Nat->σ)(I:Nat->σ->Prop)(s:σ){r:ρ}(d:I 0 s)(h:∀ s i,i < n->I i s->f (a s i)=some (.inl (a (F s i) (i+1)))/\I (i+1) (F s i))(c:I n ((List.range n).foldl F s)->f (a ((List.range n).foldl F s) n)=some (.inr r)):aT f (a s 0)=some r:=by
  have hI:∀ k,k<=n->I k ((List.range k).foldl F s):=by
    intro k
    induction k with
    | zero=>intro _;exact d
    | succ k ih =>
      intro hk;rw[A2l,A2t];exact(h _ k Y (ih Y)).2
  refine je (fun i=>a ((List.range i).foldl F s) i) n (fun i b=>?_) (c (hI n (A2f _)));rw[(h _ i b (hI i Y)).1,A2l,A2t];rfl
theorem vg_at [Inhabited α]{n:Nat}(v:Vec α n)(i:Nat)(h:i < n):v.g i=v.l[i]'(by rw[v.h];exact h):=by
  have hl:i < v.l.length:=by rw[v.h];exact h
  simp[Vec.g,A34,hl]
theorem vext [Inhabited α]{n:Nat}{v w:Vec α n}(h:∀ i,i < n->v.g i=w.g i):v=w:=by
  refine Vec.ext (List.ext_getElem (by rw[v.h,w.h]) fun i b h2=>?_);have a:i < n:=by rw[<- v.h];exact b
  rw[<- vg_at v i a,<-vg_at w i a,h i a]
theorem vst_g [Inhabited α]{n:Nat}(v:Vec α n)(i:Nat)(x:α)(j:Nat)(a:j < n):(oP v (i:Int) x).g j=if i=j then x else v.g j:=by
  rw[vg_at _ _ a,vg_at _ _ a];simp only[oP,ww,List.getElem_set]
def WV [Inhabited α](n:Nat)(f:Nat->α):Vec α n:=⟨(List.range n).map f,A2K⟩
theorem XB [Inhabited α](n:Nat)(f:Nat->α)(i:Nat)(h:i < n):(WV n f).g i=f i:=by
  rw[vg_at _ _ h];simp[WV]
theorem vfold_g [Inhabited α]{n:Nat}(f:Nat->α->α)(v:Vec α n)(j:Nat)(b:j < n):∀ m,((List.range m).foldl (fun(v:Vec α n) (k:Nat)=>oP v (k:Int) (f k (v.g k))) v).g j=if j < m then f j (v.g j) else v.g j:=by
  intro m
  induction m with
  | zero=>simp
  | succ m ih =>
    rw[A2l,A2t,A3b,A42,vst_g _ _ _ _ b];by_cases h:m=j
    ·subst h;rw[A3p rfl,ih,A3q Y,A3p Y]
    ·rw[A3q h,ih];by_cases a:j < m
     ·rw[A3p a,A3p Y]
     ·rw[A3q a,A3q Y]
theorem Ip [Inhabited α]{n:Nat}(f:Nat->α->α)(v:Vec α n):(List.range n).foldl (fun(v:Vec α n) (k:Nat)=>oP v (k:Int) (f k (v.g k))) v=WV n fun k=>f k (v.g k) :=
  vext fun i a=>by rw[vfold_g f v i a,A3p a,XB _ _ _ a]
end
def lowP (a b:UInt64):UInt64:=2*(a % 4294967296)*(b % 4294967296)
theorem and32(x:UInt64):x&&&4294967295=x % 4294967296:=by
  apply A2m.1;rw[UInt64.toNat_and,A45];exact Nat.and_two_pow_sub_one_eq_mod x.toNat 32
def Bq (a b c d:UInt64):UInt64×UInt64×UInt64×UInt64 :=
  let a1:=a+(b+lowP a b)
  let f:=IM (d^^^a1) 32
  let g:=c+(f+lowP c f)
  let h:=IM (b^^^g) 24
  let a2:=a1+(h+lowP a1 h)
  let e:=IM (f^^^a2) 16
  let i:=g+(e+lowP g e)
  let j:=IM (h^^^i) 63
  (a2,j,i,e)
theorem wBl(a b c d:UInt64):EP a b c d=some (Bq a b c d):=by
  unfold EP;simp only[uA,A0X,rl32,rl24,rl16,rl63,and32];rfl
theorem rBl(a b c d:UInt64):Hy a b c d=some ⟨[(Bq a b c d).1,(Bq a b c d).2.1,(Bq a b c d).2.2.1,(Bq a b c d).2.2.2],rfl⟩:=by
  unfold Hy;simp only[Gn,A0X,tn32,tn24,tn16,tn63,UInt64.add_assoc,Bq,lowP]
def Pm1 (v:Vec UInt64 16)(i:Nat):Vec UInt64 16 :=
  let t:=Bq (v.g (pl i).1) (v.g (pl i).2.1) (v.g (pl i).2.2.1) (v.g (pl i).2.2.2)
  oP (oP (oP (oP v ((pl i).1:Int) t.1) ((pl i).2.1:Int) t.2.1) ((pl i).2.2.1:Int) t.2.2.1) ((pl i).2.2.2:Int) t.2.2.2
def Pm (v:Vec UInt64 16):Vec UInt64 16:=(List.range 8).foldl Pm1 v
theorem wPm(v:Vec UInt64 16):D_ v=some (Pm v):=by
  unfold D_;refine Cc _ 8 Pm1 _ _ (fun v i c=>?_) (by unfold ER;simp only[];rw[A3q Y];rfl);unfold ER;simp only[];rw[A3p Y];obtain⟨p,b,a⟩:=Uj i c;unfold BB at b;rw[ZH _ _ Y,A3p Y,show((i:Int) % 8)=i from by omega] at b;obtain⟨q,d,e⟩:=A0d.1 b;obtain rfl:=A2j e;rw[d];obtain⟨h,g,f,hd,_⟩:=pl_ok i c;have n:aP q.l 0=some ((pl i).1:Int):=by rw[a];rfl
  have m:aP q.l 1=some ((pl i).2.1:Int):=by rw[a];rfl
  have k:aP q.l 2=some ((pl i).2.2.1:Int):=by rw[a];rfl
  have j:aP q.l 3=some ((pl i).2.2.2:Int):=by rw[a];rfl
  simp only[n,m,k,j,iC _ _ h,iC _ _ g,iC _ _ f,iC _ _ hd,A0X,wBl];rw[dh i Y];rfl
theorem rPm(v:Vec UInt64 16):JF v=some (Pm v):=by
  unfold JF;refine Cc _ 8 Pm1 _ _ (fun v i b=>?_) (by unfold GN;simp only[];rw[A3q Y];rfl);unfold GN;simp only[];rw[A3p Y];obtain⟨p,m,a⟩:=Uj i b;obtain⟨e,d,c,hd,_⟩:=pl_ok i b;have k:aP p.l 0=some ((pl i).1:Int):=by rw[a];rfl
  have j:aP p.l 1=some ((pl i).2.1:Int):=by rw[a];rfl
  have h:aP p.l 2=some ((pl i).2.2.1:Int):=by rw[a];rfl
  have f:aP p.l 3=some ((pl i).2.2.2:Int):=by rw[a];rfl
  simp only[m,k,j,h,f,iC _ _ e,iC _ _ d,iC _ _ c,iC _ _ hd,A0X,rBl];unfold GM;have key:∀ (t:UInt64×UInt64×UInt64×UInt64),aT (tN (i:Int) p ⟨[t.1,t.2.1,t.2.2.1,t.2.2.2],rfl⟩) (v,0)=some (.inl (oP (oP (oP (oP v ((pl i).1:Int) t.1) ((pl i).2.1:Int) t.2.1) ((pl i).2.2.1:Int) t.2.2.1) ((pl i).2.2.2:Int) t.2.2.2,((i+1:Nat):Int))):=by
    intro t;have q:aP ([t.1,t.2.1,t.2.2.1,t.2.2.2]:A01) 0=some t.1:=rfl;have g1:aP ([t.1,t.2.1,t.2.2.1,t.2.2.2]:A01) 1=some t.2.1:=rfl;have o:aP ([t.1,t.2.1,t.2.2.1,t.2.2.2]:A01) 2=some t.2.2.1:=rfl;have n:aP ([t.1,t.2.1,t.2.2.1,t.2.2.2]:A01) 3=some t.2.2.2:=rfl;rw[iJ (s':=(oP v ((pl i).1:Int) t.1,1)) (by
      unfold tN;simp only[];rw[A3p Y];simp only[k,q,iC _ _ e,A0X];rfl)]
    rw[iJ (s':=(oP (oP v ((pl i).1:Int) t.1) ((pl i).2.1:Int) t.2.1,2)) (by
      unfold tN;simp only[];rw[A3p Y];simp only[j,g1,iC _ _ d,A0X];rfl)]
    rw[iJ (s':=(oP (oP (oP v ((pl i).1:Int) t.1) ((pl i).2.1:Int) t.2.1) ((pl i).2.2.1:Int) t.2.2.1,3)) (by
      unfold tN;simp only[];rw[A3p Y];simp only[h,o,iC _ _ c,A0X];rfl)]
    rw[iJ (s':=(oP (oP (oP (oP v ((pl i).1:Int) t.1) ((pl i).2.1:Int) t.2.1) ((pl i).2.2.1:Int) t.2.2.1) ((pl i).2.2.2:Int) t.2.2.2,4)) (by
      unfold tN;simp only[];rw[A3p Y];simp only[f,n,iC _ _ hd,A0X];rfl)]
    refine dm ?_;unfold tN;simp only[];rw[A3q Y,dh i Y];rfl
  exact key (Bq (v.g (pl i).1) (v.g (pl i).2.1) (v.g (pl i).2.2.1) (v.g (pl i).2.2.2))
end
section
def gat (z:Vec UInt64 128)(a:Nat->Nat):Vec UInt64 16:=WV 16 fun k=>z.g (a k)
def sca (z:Vec UInt64 128)(a:Nat->Nat)(v:Vec UInt64 16):Vec UInt64 128:=(List.range 16).foldl (fun z k=>oP z ((a k:Nat):Int) (v.g k)) z
def Pe (z:Vec UInt64 128)(a:Nat->Nat):Vec UInt64 128:=sca z a (Pm (gat z a))
def L8 (i k:Nat):Nat:=16*i+k
def L9 (i k:Nat):Nat:=2*i+16*(k / 2)+k % 2
theorem Z5(i k:Nat)(hi:i < 8)(hk:k < 16):L8 i k < 128:=by unfold L8;omega
theorem Z7(i k:Nat)(hi:i < 8)(hk:k < 16):L9 i k < 128:=by unfold L9;omega
theorem posR_ok(i k:Nat)(hi:i < 8)(hk:k < 16):ax ((ax (16*(i:Int)))+(k:Int))=((L8 i k:Nat):Int):=by
  unfold L8;rw[bG (n:=16*(i:Int)) Y,bG Y];omega
theorem posC_ok(i k:Nat)(hi:i < 8)(hk:k < 16):ax ((ax ((ax (2*(i:Int)))+(ax (16*(ax (Int.tdiv (k:Int) 2))))))+(Int.tmod (k:Int) 2))=((L9 i k:Nat):Int):=by
  unfold L9;rw[tmod2,show Int.tdiv (k:Int) 2=((k / 2:Nat):Int) from rfl,bG (n:=2*(i:Int)) Y,bG (n:=((k / 2:Nat):Int)) Y,bG (n:=16*((k / 2:Nat):Int)) Y,bG (n:=2*(i:Int)+16*((k / 2:Nat):Int)) Y,bG Y];omega
theorem wputR(z:Vec UInt64 128)(i:Nat)(b:i < 8):ES (i:Int) z=some ((i:Int),Pe z (L8 i)):=by
  have hp:∀ k:Nat,k < 16->∀ p:Int,p=(i:Int)->BF (k:Int) p=some (((L8 i k:Nat):Int),(i:Int)):=by
    rintro k a p rfl;unfold BF;rw[posR_ok i k b a]
  unfold ES;refine O_ (fun(v:Vec UInt64 16) k=>((i:Int),v,(k:Int))) 16 (fun v k=>oP v (k:Int) (z.g (L8 i k))) (fun _ _=>True) (Vec.rep 16 (0:UInt64)) trivial (fun v k a _=>⟨?_,trivial⟩) fun _=>?_
  ·unfold Dn;simp only[];rw[A3p Y,hp k a _ rfl];simp only[A0X,iC _ _ (Z5 i k b a),iC _ _ a];rw[dh k Y]
  ·unfold Dn;simp only[];rw[A3q Y,wPm];simp only[A0X];rw[Ip (fun k _=>z.g (L8 i k)) (Vec.rep 16 (0:UInt64))];show Option.map Sum.inr (aT (yT (Pm (gat z (L8 i)))) ((i:Int),z,(0:Int)))=Option.map Sum.inr (some ((i:Int),Pe z (L8 i)));refine A3s _ (O_ (r:=((i:Int),Pe z (L8 i))) (fun(z:Vec UInt64 128) k=>((i:Int),z,(k:Int))) 16 (fun c k=>oP c ((L8 i k:Nat):Int) ((Pm (gat z (L8 i))).g k)) (fun _ _=>True) z trivial (fun v k a _=>⟨?_,trivial⟩) fun _=>?_)
   ·unfold yT;simp only[];rw[A3p Y,hp k a _ rfl];simp only[A0X,iC _ _ (Z5 i k b a),iC _ _ a];rw[dh k Y]
   ·unfold yT;simp only[];rw[A3q Y];rfl
theorem wputC(z:Vec UInt64 128)(i:Nat)(b:i < 8):yU (i:Int) z=some ((i:Int),Pe z (L9 i)):=by
  have hp:∀ k:Nat,k < 16->∀ p:Int,p=(i:Int)->BG (k:Int) p=some (((L9 i k:Nat):Int),(i:Int)):=by
    rintro k a p rfl;unfold BG;rw[posC_ok i k b a]
  unfold yU;refine O_ (fun(v:Vec UInt64 16) k=>((i:Int),v,(k:Int))) 16 (fun v k=>oP v (k:Int) (z.g (L9 i k))) (fun _ _=>True) (Vec.rep 16 (0:UInt64)) trivial (fun v k a _=>⟨?_,trivial⟩) fun _=>?_
  ·unfold yz;simp only[];rw[A3p Y,hp k a _ rfl];simp only[A0X,iC _ _ (Z7 i k b a),iC _ _ a];rw[dh k Y]
  ·unfold yz;simp only[];rw[A3q Y,wPm];simp only[A0X];rw[Ip (fun k _=>z.g (L9 i k)) (Vec.rep 16 (0:UInt64))];show Option.map Sum.inr (aT (uB (Pm (gat z (L9 i)))) ((i:Int),z,(0:Int)))=Option.map Sum.inr (some ((i:Int),Pe z (L9 i)));refine A3s _ (O_ (r:=((i:Int),Pe z (L9 i))) (fun(z:Vec UInt64 128) k=>((i:Int),z,(k:Int))) 16 (fun c k=>oP c ((L9 i k:Nat):Int) ((Pm (gat z (L9 i))).g k)) (fun _ _=>True) z trivial (fun v k a _=>⟨?_,trivial⟩) fun _=>?_)
   ·unfold uB;simp only[];rw[A3p Y,hp k a _ rfl];simp only[A0X,iC _ _ (Z7 i k b a),iC _ _ a];rw[dh k Y]
   ·unfold uB;simp only[];rw[A3q Y];rfl
theorem rputQ(z:Vec UInt64 128)(b:Nat->Nat)(hp:∀ k,k < 16->b k < 128)(a:Vec Int 16)(f:∀ k,k < 16->a.g k=((b k:Nat):Int)):Jo z.l a=some (Pe z b).l:=by
  have d:∀ k:Nat,k < 16->aP a.l (k:Int)=some ((b k:Nat):Int):=fun k c=>by rw[iC a k c,f k c]
  unfold Jo;refine O_ (fun(v:Vec UInt64 16) k=>(v,(k:Int))) 16 (fun v k=>oP v (k:Int) (z.g (b k))) (fun _ _=>True) (Vec.rep 16 (0:UInt64)) trivial (fun v k c _=>⟨?_,trivial⟩) fun _=>?_
  ·unfold Jb;simp only[];rw[A3p Y,d k c];simp only[A0X,iC _ _ (hp k c),iC _ _ c];rw[dh k Y]
  ·unfold Jb;simp only[];rw[A3q Y,rPm];simp only[A0X];rw[Ip (fun k _=>z.g (b k)) (Vec.rep 16 (0:UInt64))];show Option.map Sum.inr (aT (EW a (Pm (gat z b))) (z.l,(0:Int)))=Option.map Sum.inr (some (Pe z b).l);refine A3s _ (O_ (r:=(Pe z b).l) (fun(z:Vec UInt64 128) k=>(z.l,(k:Int))) 16 (fun e k=>oP e ((b k:Nat):Int) ((Pm (gat z b)).g k)) (fun _ _=>True) z trivial (fun v k c _=>⟨?_,trivial⟩) fun _=>?_)
   ·unfold EW;simp only[];rw[A3p Y,d k c];simp only[A0X,iC _ _ (hp k c),iC _ _ c];rw[dh k Y];rfl
   ·unfold EW;simp only[];rw[A3q Y];rfl
end
section
def B_ (x y:AC):AC:=List.zipWith (fun a b=>a^^^b) x y
theorem Be{x y n}(hx:x.length=n)(hy:y.length=n):(B_ x y).length=n:=by simp[B_,hx,hy]
theorem xorL_comm(x y:AC):B_ x y=B_ y x:=by
  unfold B_;rw[List.zipWith_comm];congr 1;funext a b;exact UInt8.xor_comm _ _
theorem Z8{x y n}(hx:x.length=n)(hy:y.length=n):B_ x y=(List.range n).map fun k=>x.getD k 0^^^y.getD k 0:=by
  refine List.ext_getElem (by rw[Be hx hy];simp) fun i a h2=>?_;rw[Be hx hy] at a;have c:i < x.length:=Y
  have b:i < y.length:=Y
  simp[B_,A34,c,b]
def Fo (f:Nat->AC)(n:Nat):AC:=(List.range n).foldl (fun b i=>b++f i) []
theorem Jm(f:Nat->AC)(n:Nat):Fo f (n+1)=Fo f n++f n:=by
  unfold Fo;rw[A2l,A2t];rfl
theorem XC{f}(a:∀ i,(f i).length=8)(n:Nat):(Fo f n).length=n*8:=ZY f 8 a n
theorem Fo_congr{f g}(n:Nat)(h:∀ i,i < n->f i=g i):Fo f n=Fo g n:=by
  induction n with
  | zero=>rfl
  | succ n ih=>rw[Jm,Jm,ih fun i hi=>h i Y,h n Y]
theorem Fo_xor{f g}(b:∀ i,(f i).length=8)(a:∀ i,(g i).length=8)(n:Nat):Fo (fun i=>B_ (f i) (g i)) n=B_ (Fo f n) (Fo g n):=by
  induction n with
  | zero=>rfl
  | succ n ih =>
    rw[Jm,Jm,Jm,ih];unfold B_;rw[List.zipWith_append (by rw[XC b,XC a])]
theorem Fo_take(X:AC)(n:Nat):Fo (fun i=>(X.drop (8*i)).take 8) n=X.take (8*n):=by
  induction n with
  | zero=>rfl
  | succ n ih=>rw[Jm,ih,Nat.mul_succ,List.take_add]
theorem Fo_part{f}(a:∀ i,(f i).length=8)(i:Nat):∀ n,i < n->((Fo f n).drop (8*i)).take 8=f i:=by
  intro n
  induction n with
  | zero=>intro h;omega
  | succ n ih =>
    intro h;have hl:=XC a n;rw[Jm,List.drop_append,A48];by_cases hn:i=n
    ·subst hn;rw[A3T Y,hl];simp[show 8*i - i*8=0 from by omega,a i,A2i (Nat.le_of_eq (a i))]
    ·rw[ih Y];have:((Fo f n).drop (8*i)).length=n*8 - 8*i:=by rw[A0m,hl]
     rw[this,show 8 - (n*8 - 8*i)=0 from by omega];simp
theorem map_leN:∀(a:AC),(List.range a.length).map (fun i=>UInt8.ofNat (QV a / 256 ^ i))=a
  | []=>rfl
  | b::r=>by
    have c:=map_leN r;have hb:=b.toNat_lt;rw[bi,List.range_succ_eq_map,kw,List.map_map];congr 1
    ·rw[<- UInt8.toNat_inj];simp only[QV,UInt8.toNat_ofNat',Nat.pow_zero,Nat.div_one];omega
    ·refine Eq.trans (List.map_congr_left fun i _=>?_) c;simp only[Function.comp,QV,Nat.pow_succ];rw[A3F (256 ^ i) 256,<-Nat.div_div_eq_div_mul,show(b.toNat+256*QV r) / 256=QV r from by omega]
theorem st8_wd(X:AC)(i:Nat)(h:8*i+8<=X.length):Q4 8 (x8 X i)=(X.drop (8*i)).take 8:=by
  have hl:((X.drop (8*i)).take 8).length=8:=by rw[A0T,A0m];omega
  have b:=map_leN ((X.drop (8*i)).take 8);have a:=leN_lt ((X.drop (8*i)).take 8);rw[hl] at b a;unfold Q4 x8;rw[show(UInt64.ofNat (QV ((X.drop (8*i)).take 8))).toNat=QV ((X.drop (8*i)).take 8) from A3X (by simpa using a)];exact b
theorem wd_st8(X:AC)(i:Nat)(w:UInt64)(h:(X.drop (8*i)).take 8=Q4 8 w):x8 X i=w:=by
  unfold x8;rw[h];unfold Q4;rw[leN_store];apply A2m.1;rw[A33];have:=w.toNat_lt;omega
theorem byx(a b i:Nat):UInt8.ofNat ((a^^^b) / 256 ^ i)=UInt8.ofNat (a / 256 ^ i)^^^UInt8.ofNat (b / 256 ^ i):=by
  apply UInt8.toNat_inj.1;rw[UInt8.toNat_xor];simp only[UInt8.toNat_ofNat'];rw[Xx,Nat.xor_div_two_pow,<-Nat.xor_mod_two_pow (n:=8)]
theorem st8_xor(a b:UInt64):Q4 8 (a^^^b)=B_ (Q4 8 a) (Q4 8 b):=by
  rw[Z8 (Dt 8 a) (Dt 8 b)];unfold Q4;refine List.map_congr_left fun i c=>?_;have c:=List.mem_range.1 c;rw[UInt64.toNat_xor,byx];simp[A34,c]
def X8 (z:Vec UInt64 128):AC:=Fo (fun i=>Q4 8 (z.g i)) 128
theorem StB_len(z:Vec UInt64 128):(X8 z).length=1024:=by
  have h:=XC (f:=fun i=>Q4 8 (z.g i)) (fun i=>Dt 8 _) 128;unfold X8;omega
theorem St_wd(X:AC)(h:X.length=1024):X8 (WV 128 (x8 X))=X:=by
  unfold X8;rw[Fo_congr 128 (g:=fun i=>(X.drop (8*i)).take 8) fun i a=>by rw[XB _ _ _ a,st8_wd X i Y],Fo_take,A2i Y]
theorem wd_St(z:Vec UInt64 128)(i:Nat)(h:i < 128):x8 (X8 z) i=z.g i:=wd_st8 _ _ _ (Fo_part (f:=fun i=>Q4 8 (z.g i)) (fun i=>Dt 8 _) i 128 h)
theorem St_xor(a b:Vec UInt64 128):X8 (WV 128 fun k=>a.g k^^^b.g k)=B_ (X8 a) (X8 b):=by
  unfold X8;rw[<- Fo_xor (fun i=>Dt 8 _) (fun i=>Dt 8 _)];exact Fo_congr 128 fun i c=>by rw[XB _ _ _ c,st8_xor]
theorem wd_xor(x y:AC)(hx:x.length=1024)(hy:y.length=1024)(i:Nat)(a:i < 128):x8 (B_ x y) i=x8 x i^^^x8 y i:=by
  have h:=St_xor (WV 128 (x8 x)) (WV 128 (x8 y));rw[St_wd x hx,St_wd y hy] at h;rw[<- h,wd_St _ _ a,XB _ _ _ a,XB _ _ _ a,XB _ _ _ a]
theorem WV_l{α:Type}[Inhabited α](n:Nat)(f:Nat->α):(WV n f).l=(List.range n).map f:=rfl
theorem rep_l{α:Type}(n:Nat)(x:α):List.replicate n x=(Vec.rep n x).l:=rfl
theorem PO(x:AC)(k:Nat)(h:k < x.length):aP x (k:Int)=some (x.getD k 0):=by
  rw[fG h];simp[A34,h]
theorem wXor(x y:AC)(hx:x.length=1024)(hy:y.length=1024):Gl x y=some (B_ x y,0):=by
  unfold Gl zu;rw[A3q Y,A3q Y];simp only[A0X,A3K,A0h,A3r];have e:B_ x y=((List.range 1024).foldl (fun(v:Vec UInt8 1024) (k:Nat)=>oP v (k:Int) (x.getD k 0^^^y.getD k 0)) (Vec.rep 1024 (0:UInt8))).l:=by
    rw[Ip (fun k _=>x.getD k 0^^^y.getD k 0) (Vec.rep 1024 (0:UInt8)),Z8 hx hy,WV_l]
  rw[show Int.toNat (1024:Int)=1024 from rfl,rep_l];refine O_ (fun(v:Vec UInt8 1024) k=>(v.l,(k:Int))) 1024 (fun v k=>oP v (k:Int) (x.getD k 0^^^y.getD k 0)) (fun _ _=>True) (Vec.rep 1024 (0:UInt8)) trivial (fun v k a _=>⟨?_,trivial⟩) fun _=>?_
  ·unfold GL;simp only[];rw[A3p (by simp only[Int.toNat];omega),PO x k Y,PO y k Y,iC _ _ a];simp only[A0X];rw[dh k Y];rfl
  ·unfold GL;simp only[];rw[A3q (by simp only[Int.toNat];omega),e];rfl
theorem rXor(x y:AC)(hx:x.length=1024)(hy:y.length=1024):BJ x y=some (B_ x y,0):=by
  unfold BJ;rw[A3q (by simp[hx,hy])];rw[Z8 hx hy];refine je (fun i=>((List.range i).map fun k=>x.getD k 0^^^y.getD k 0,(i:Int))) 1024 (fun k hk=>?_) ?_
  ·unfold Ja;simp only[];rw[A3p Y,PO x k Y,PO y k Y];simp only[A0X];rw[iG A2L];simp only[A0X];rw[dh k Y,A2l,A2g];rfl
  ·unfold Ja;simp only[];rw[A3q Y];rfl
end
section
theorem mul8'(i:Nat)(h:i < 1000000):ax (8*(i:Int))=((8*i:Nat):Int):=by rw[bG Y];omega
theorem wwords(b:AC)(hb:b.length=1024):BD b=some (WV 128 (x8 b)):=by
  unfold BD;refine Cc _ 128 (fun m (i:Nat)=>oP m i (x8 b i)) _ _ (fun v i a=>?_) ?_
  ·unfold Dl;simp only[];rw[A3p Y,mul8' i Y,Uk b i Y Y,iC _ _ a,dh i Y];rfl
  ·unfold Dl;simp only[];rw[A3q Y,Ip (fun k _=>x8 b k) (Vec.rep 128 (0:UInt64))];rfl
theorem shrN(x:UInt64)(s:Nat):(jC x s).toNat=x.toNat / 2 ^ s:=by
  show(x.toBitVec >>> s).toNat=_;rw[BitVec.toNat_ushiftRight,A30];rfl
theorem laid1(w:UInt64)(i:Nat)(hi:i < 128)(b:AC)(hb:b.length<=1024):aT (xK (i:Int) w) (b,0)=some (.inl (b++Q4 8 w,((i+1:Nat):Int))):=by
  have h:=je (f:=xK (i:Int) w) (r:=.inl (b++Q4 8 w,((i+1:Nat):Int))) (fun j=>(b++(List.range j).map (fun t=>UInt8.ofNat (w.toNat / 256 ^ t)),((8*j:Nat):Int))) 8 (fun j hj=>?_) ?_
  ·simpa using h
  ·unfold xK;simp only[];rw[A3p Y,ig Y];simp only[A0X];rw[iG A2L];simp only[A0X];rw[bG Y,A2l,A2g,ww,shrN,<-Xx];simp only[kw,A2q,lw];congr 4
  ·unfold xK;simp only[];rw[A3q Y,dh i Y];rfl
theorem wlaid(z:Vec UInt64 128):Hw z=some (X8 z,z):=by
  unfold Hw;refine O_ (fun(b:AC) k=>(b,(k:Int))) 128 (fun b k=>b++Q4 8 (z.g k)) (fun k b=>b.length=8*k) [] rfl (fun b k a hl=>⟨?_,by rw[Pi,hl,Dt];omega⟩) fun _=>?_
  ·unfold ET;simp only[];rw[A3p Y,iC _ _ a];simp only[A0X];rw[laid1 _ k a b Y]
  ·unfold ET;simp only[];rw[A3q Y];rfl
def Rw8 (r:Vec UInt64 128):Vec UInt64 128:=(List.range 8).foldl (fun z i=>Pe z (L8 i)) r
def Cl8 (r:Vec UInt64 128):Vec UInt64 128:=(List.range 8).foldl (fun z i=>Pe z (L9 i)) r
def Z9 (x y:AC):AC:=B_ (B_ x y) (X8 (Cl8 (Rw8 (WV 128 (x8 (B_ x y))))))
theorem zk{x y}(hx:x.length=1024)(hy:y.length=1024):(Z9 x y).length=1024:=Be (Be hx hy) (StB_len _)
theorem WV_congr{α:Type}[Inhabited α]{n}{f:Nat->α}{g:Nat->α}(h:∀ i,i < n->f i=g i):WV n f=WV n g:=vext fun i a=>by rw[XB _ _ _ a,XB _ _ _ a,h i a]
theorem wMix3(r z:Vec UInt64 128):aT (CQ r) (z,0)=some (B_ (X8 z) (X8 r),0):=by
  refine Cc _ 128 (fun z (i:Nat)=>oP z i (z.g i^^^r.g i)) _ _ (fun v i b=>?_) ?_
  ·unfold CQ;simp only[];rw[A3p Y,iC _ _ b,iC _ _ b,dh i Y];rfl
  ·unfold CQ;simp only[];rw[A3q Y,Ip (fun k a=>a^^^r.g k) z,wlaid];simp only[A0X];rw[St_xor];rfl
theorem wMix2(r z:Vec UInt64 128):aT (CS r) (z,0)=some (B_ (X8 (Cl8 z)) (X8 r),0):=by
  refine Cc _ 8 (fun z i=>Pe z (L9 i)) _ _ (fun v i a=>?_) ?_
  ·unfold CS;simp only[];rw[A3p Y,wputC v i a];simp only[A0X];rw[dh i Y]
  ·unfold CS;simp only[];rw[A3q Y,wMix3];rfl
theorem wMix1(r z:Vec UInt64 128):aT (CU r) (z,0)=some (B_ (X8 (Cl8 (Rw8 z))) (X8 r),0):=by
  refine Cc _ 8 (fun z i=>Pe z (L8 i)) _ _ (fun v i a=>?_) ?_
  ·unfold CU;simp only[];rw[A3p Y,wputR v i a];simp only[A0X];rw[dh i Y]
  ·unfold CU;simp only[];rw[A3q Y,wMix2];rfl
theorem wMix(x y:AC)(hx:x.length=1024)(hy:y.length=1024):yA x y=some (Z9 x y,0):=by
  unfold yA zu;rw[A3q Y,A3q Y];simp only[A0X,A3K,A0h,A3r];rw[wwords x hx];simp only[A0X];rw[wwords y hy];simp only[A0X];refine Cc _ 128 (fun z (i:Nat)=>oP z i (z.g i^^^(WV 128 (x8 y)).g i)) _ _ (fun v i b=>?_) ?_
  ·unfold GK;simp only[];rw[A3p Y,iC _ _ b,iC _ _ b,dh i Y];rfl
  ·unfold GK;simp only[];rw[A3q Y,Ip (fun k a=>a^^^(WV 128 (x8 y)).g k) (WV 128 (x8 x))];rw[WV_congr (g:=x8 (B_ x y)) fun i b=>by rw[XB _ _ _ b,XB _ _ _ b,wd_xor x y hx hy i b]];rw[wMix1,St_wd _ (Be hx hy),xorL_comm];rfl
end
section
theorem rMix5 (X:AC)(z:Vec UInt64 128)(hX:X.length=1024):aT (EZ (X,0) z.l) (([]:AC),0)=some (B_ X (X8 z),0):=by
  refine O_ (fun(b:AC) k=>(b,(k:Int))) 128 (fun b k=>b++Q4 8 (z.g k)) (fun k b=>b.length=8*k) [] rfl (fun b k hk hl=>⟨?_,by rw[Pi,hl,Dt];omega⟩) fun _=>?_
  ·unfold EZ;simp only[];rw[if_pos Y,iC _ _ hk];simp only[A0X];have:=ZX (z.g k) 8 Y;rw[show((8:Nat):Int)=8 from rfl] at this;rw[this];simp only[A0X];rw[iG A2L];simp only[A0X];rw[dh k Y];rfl
  ·unfold EZ;simp only[];rw[if_neg Y];show Option.map Sum.inr ((BJ X (X8 z)).bind fun r=>some (r.1,r.2))=_;rw[rXor X _ hX (StB_len z)];rfl
theorem at_fold{n}(f:Nat->Int)(v:Vec Int n):∀ k,k < n->((List.range n).foldl (fun(v:Vec Int n) (k:Nat)=>oP v (k:Int) (f k)) v).g k=f k:=fun k a=>by
  rw[Ip (fun k _=>f k) v,XB _ _ _ a]
theorem rMix4(z:Vec UInt64 128)(i:Nat)(b:i < 8):aT (EY z.l (i:Int)) ((Vec.rep 16 (0:Int)),0)=some (.inl ((Pe z (L9 i)).l,((i+1:Nat):Int))):=by
  refine Cc _ 16 (fun v k=>oP v (k:Int) ((L9 i k:Nat):Int)) _ _ (fun v k a=>?_) ?_
  ·unfold EY;simp only[];rw[A3p Y,iC _ _ a];simp only[A0X];rw[posC_ok i k b a,dh k Y]
  ·unfold EY;simp only[];rw[A3q Y,rputQ z (L9 i) (fun k a=>Z7 i k b a) _ (at_fold (fun k=>((L9 i k:Nat):Int)) _)];simp only[A0X];rw[dh i Y];rfl
theorem rMix2(z:Vec UInt64 128)(i:Nat)(b:i < 8):aT (EX z.l (i:Int)) ((Vec.rep 16 (0:Int)),0)=some (.inl ((Pe z (L8 i)).l,((i+1:Nat):Int))):=by
  refine Cc _ 16 (fun v k=>oP v (k:Int) ((L8 i k:Nat):Int)) _ _ (fun v k a=>?_) ?_
  ·unfold EX;simp only[];rw[A3p Y,iC _ _ a];simp only[A0X];rw[posR_ok i k b a,dh k Y]
  ·unfold EX;simp only[];rw[A3q Y,rputQ z (L8 i) (fun k a=>Z5 i k b a) _ (at_fold (fun k=>((L8 i k:Nat):Int)) _)];simp only[A0X];rw[dh i Y];rfl
theorem rMix3(X:AC)(z:Vec UInt64 128)(b:X.length=1024):aT (E5 (X,0)) (z.l,0)=some (B_ X (X8 (Cl8 z)),0):=by
  refine O_ (fun(z:Vec UInt64 128) k=>(z.l,(k:Int))) 8 (fun z i=>Pe z (L9 i)) (fun _ _=>True) z trivial (fun v k a _=>⟨?_,trivial⟩) fun _=>?_
  ·unfold E5;simp only[];rw[A3p Y,rMix4 v k a]
  ·unfold E5;simp only[];rw[A3q Y,rMix5 X _ b];rfl
theorem rMix1(X:AC)(z:Vec UInt64 128)(b:X.length=1024):aT (BK (X,0)) (z.l,0)=some (B_ X (X8 (Cl8 (Rw8 z))),0):=by
  refine O_ (fun(z:Vec UInt64 128) k=>(z.l,(k:Int))) 8 (fun z i=>Pe z (L8 i)) (fun _ _=>True) z trivial (fun v k a _=>⟨?_,trivial⟩) fun _=>?_
  ·unfold BK;simp only[];rw[A3p Y,rMix2 v k a]
  ·unfold BK;simp only[];rw[A3q Y,rMix3 X _ b];rfl
theorem rMix(x y:AC)(hx:x.length=1024)(hy:y.length=1024):Gp x y=some (Z9 x y,0):=by
  have a:=Be hx hy;unfold Gp;rw[rXor x y hx hy];simp only[A0X];rw[A3q A2H];refine je (fun i=>((List.range i).map (x8 (B_ x y)),(i:Int))) 128 (fun k hk=>?_) ?_
  ·unfold Jc;simp only[];rw[A3p Y,mul8' k Y,Xy _ k Y Y];simp only[A0X];rw[iG A2L];simp only[A0X];rw[dh k Y,A2l,A2g];rfl
  ·unfold Jc;simp only[];rw[A3q Y];have h:=rMix1 (B_ x y) (WV 128 (x8 (B_ x y))) a;rw[WV_l] at h;show Option.map Sum.inr (aT (BK (B_ x y,0)) ((List.range 128).map (x8 (B_ x y)),0))=_;rw[h];rfl
theorem wOver(x y o:AC)(hx:x.length=1024)(hy:y.length=1024)(a:o.length=1024):Ea x y o=some (B_ (Z9 x y) o,0):=by
  unfold Ea BH;rw[A3q Y,A3q Y,A3q Y];simp only[A0X,A3K,A0h,A3r];rw[wMix x y hx hy];simp only[A0X];rw[wXor _ o (zk hx hy) a];rfl
end
section
def spr (s:UInt64)(x:UInt8):UInt64:=2*s+(UInt64.ofNat x.toNat+1)*11400714819323198485
def fullB (n:Nat)(s:UInt64):Bool:=decide (n=1024)||(decide (64<=n)&&decide (jC s ((58:UInt64).toNat)=0))
def cut:AC->AC->UInt64->A02
  | [],_,_=>[]
  | x::r,p,s=>if(fullB (p.length+1) (spr s x)||r.isEmpty)=true then(p++[x])::cut r [] 0 else cut r (p++[x]) (spr s x)
end
section
section
variable {α σ ρ τ:Type}
end
noncomputable def VI (sz:Nat)(b:AC):AC:=((wo 1 sz 0 1 1 0 0 0 0 0 [] [] [] false sz b).getD ([],0)).1
theorem chkD(sz:Nat)(h1:1<=sz)(h2:sz<=64):kH 1 (sz:Int) 0 1 1 0 0 0 0 0 [] []=some 0:=by
  unfold kH;rw[show uz 1=some 64 from rfl];simp only[A0X];rw[A3q A2H,A3q (by simp only[A2k,lm];omega)];rfl
theorem Pg(sz:Nat)(g:1<=sz)(f:sz<=64)(b:AC)(d:b.length<=12000000) :
    wo 1 sz 0 1 1 0 0 0 0 0 [] [] [] false sz b=some (VI sz b,0)/\Aw 1 sz 0 1 1 0 0 0 0 0 [] [] [] false sz b=some (VI sz b,0)/\(VI sz b).length=sz:=by
  obtain⟨H,blk,M,hk,c,i⟩:=hash_ok sz 0 1 1 0 0 0 0 0 [] [] [] false sz b (chkD sz g f) (.inl rfl) d;have e:H.S=64:=by rcases H.hk with⟨_,_,h⟩ | ⟨h,_,_⟩ <;> omega
  have a:H.ans blk M false sz=((H.hash blk M false).take sz,0):=by
    unfold Half.ans;rw[A3q Y,ww]
  have hd:VI sz b=(H.hash blk M false).take sz:=by unfold VI;rw[c,a];rfl
  rw[c,i,a,hd];refine⟨rfl,rfl,?_⟩;rw[A0T,H.hash_len,e];omega
end
noncomputable section
def S4 (n:Nat):AC:=(List.range 4).map fun i=>UInt8.ofNat (n / 256 ^ i)
theorem Gw(n:Nat):(S4 n).length=4:=by simp[S4]
theorem oi32(n:Nat)(h:n < 4294967296):(UInt32.ofInt (n:Int)).toNat=n:=by
  show(UInt32.ofNat ((n:Int) % 2 ^ 32).toNat).toNat=n;rw[UInt32.toNat_ofNat'];omega
theorem oi64(n:Nat)(h:n < 18446744073709551616):(UInt64.ofInt (n:Int)).toNat=n:=by
  show(UInt64.ofNat ((n:Int) % 2 ^ 64).toNat).toNat=n;rw[A33];omega
theorem w32s(n:Nat)(h:n < 4294967296):xH (UInt32.ofInt (n:Int))=some (S4 n):=by
  unfold xH;rw[four_bytes,oi32 n h];unfold Q4 S4;rw[show(UInt64.ofNat n).toNat=n from A3X (by show n < 18446744073709551616;omega)]
theorem r32s (n:Nat)(h:n < 18446744073709551616):tJ (UInt64.ofInt (n:Int)) (4:Int)=some (S4 n):=by
  have:=ZX (UInt64.ofInt (n:Int)) 4 Y;rw[show((4:Nat):Int)=4 from rfl] at this;rw[this,oi64 n h];rfl
theorem Va(b:AC)(hb:b.length<=16000000)(n:Nat)(h:n < 4294967296):lU b (n:Int)=some (b++S4 n):=by
  unfold lU;rw[w32s n h];simp only[A0X];rw[iG (by rw[Gw];omega)];rfl
theorem XD(n:Nat)(h:n < 4294967296):pM (n:Int)=some (S4 n):=by
  unfold pM;rw[r32s n Y];rfl
theorem Z_(n:Nat)(d:1<=n)(c:n<=64)(b:AC)(a:b.length<=12000000):wB (n:Int) b=some (VI n b):=by
  unfold wB;rw[(Pg n d c b a).1];rfl
theorem rdig(n:Nat)(d:1<=n)(c:n<=64)(b:AC)(a:b.length<=12000000):wJ (n:Int) b=some (VI n b):=by
  unfold wJ;rw[(Pg n d c b a).2.1];rfl
theorem FM(n:Nat)(d:1<=n)(c:n<=64)(b:AC)(a:b.length<=12000000):(VI n b).length=n:=(Pg n d c b a).2.2
def Vk (v:AC):Nat->AC
  | 0=>v
  | k+1=>VI 64 (Vk v k)
theorem Ph (v:AC)(a:v.length=64):∀ k,(Vk v k).length=64
  | 0=>a
  | k+1=>FM 64 Y Y _ (by rw[Ph v a k];omega)
def Ok (v:AC):Nat->AC
  | 0=>[]
  | k+1=>Ok v k++(Vk v k).take 32
theorem QW (v:AC)(a:v.length=64):∀ k,(Ok v k).length=32*k
  | 0=>rfl
  | k+1=>by
    show(Ok v k++(Vk v k).take 32).length=_;rw[Pi,QW v a k,A0T,Ph v a k];omega
theorem slc32(v:AC)(h:v.length=64):Iw v 0 (32:Int)=some (v.take 32):=by
  rw[Ah Y];rfl
def IP (n:Nat)(a:AC):AC :=
  if n<=64 then VI n (S4 n++a)
  else Ok (VI 64 (S4 n++a)) ((n+31) / 32 - 2)++VI (n - 32*((n+31) / 32 - 2)) (Vk (VI 64 (S4 n++a)) ((n+31) / 32 - 2 - 1))
theorem YI(n:Nat)(c:1<=n)(h2:n<=1048576)(a:AC)(hd:a.length<=11000000):(IP n a).length=n:=by
  have h4:=Gw n;have hl:(S4 n++a).length<=12000000:=by rw[Pi];omega
  unfold IP;split
  ·exact FM n c Y _ hl
  ·have b:=FM 64 Y Y _ hl;rw[Pi,QW _ b,FM _ Y Y _ (by rw[Ph _ b];omega)];omega
theorem wHash (n:Nat)(h1:1<=n)(h2:n<=1048576)(data:AC)(hd:data.length<=11000000):D9 (n:Int) data=some (IP n data,0):=by
  have h4:=Gw n;have hl:(S4 n++data).length<=12000000:=by rw[Pi];omega
  unfold D9;rw[if_neg A2N,w32s n Y];simp only[A0X];rw[iG (by rw[h4];omega)];simp only[A0X];by_cases h:n<=64
  ·rw[if_pos Y,Z_ n h1 h _ hl];unfold IP;rw[if_pos h];rfl
  ·rw[if_neg Y,show(64:Int)=((64:Nat):Int) from rfl,Z_ 64 Y Y _ hl];have hv:=FM 64 Y Y _ hl;simp only[A0X];rw[slc32 _ hv];simp only[A0X];rw[iG (by rw[A0T,hv];simp)];simp only[A0X];generalize hv0:VI 64 (S4 n++data)=v at hv ⊢;have hr:ax ((ax ((ax (Int.tdiv (ax ((n:Int)+31)) 32)) - 2)))=(((n+31) / 32 - 2:Nat):Int):=by
     rw[bG (n:=(n:Int)+31) Y,show Int.tdiv ((n:Int)+31) 32=(((n+31) / 32:Nat):Int) from rfl,bG (n:=(((n+31) / 32:Nat):Int)) Y,bG (n:=(((n+31) / 32:Nat):Int) - 2) Y,bG Y];omega
   have hr1:ax ((ax (Int.tdiv (ax ((n:Int)+31)) 32)) - 2)=(((n+31) / 32 - 2:Nat):Int):=by
     rw[bG (n:=(n:Int)+31) Y,show Int.tdiv ((n:Int)+31) 32=(((n+31) / 32:Nat):Int) from rfl,bG (n:=(((n+31) / 32:Nat):Int)) Y,bG (n:=(((n+31) / 32:Nat):Int) - 2) Y];omega
   refine je (fun k=>(Vk v k,Ok v (k+1),(k:Int))) ((n+31) / 32 - 2 - 1) (fun k hk=>?_) ?_
   ·unfold EO;simp only[];rw[hr1,bG Y,if_pos Y,show(64:Int)=((64:Nat):Int) from rfl,Z_ 64 Y Y _ (by rw[Ph v hv];omega)];simp only[A0X];rw[slc32 _ (FM 64 Y Y _ (by rw[Ph v hv];omega))];simp only[A0X];rw[iG (by rw[QW v hv,A0T];omega)];simp only[A0X];rw[dh k Y];rfl
   ·unfold EO;simp only[];rw[hr1,bG Y,if_neg Y,bG (n:=32*_) Y,bG Y];rw[show(n:Int) - 32*(((n+31) / 32 - 2:Nat):Int)=((n - 32*((n+31) / 32 - 2):Nat):Int) from by omega];have hvk:=Ph v hv ((n+31) / 32 - 2 - 1);rw[Z_ _ Y Y _ Y];simp only[A0X];rw[iG (by rw[QW v hv,FM _ Y Y _ Y];omega)];simp only[A0X,Option.map_some];unfold IP;rw[if_neg h,hv0,show(n+31) / 32 - 2 - 1+1=(n+31) / 32 - 2 from by omega]
theorem rHash (n:Nat)(h1:1<=n)(h2:n<=1048576)(data:AC)(hd:data.length<=11000000):Gm (n:Int) data=some (IP n data,0):=by
  have h4:=Gw n;have hl:(S4 n++data).length<=12000000:=by rw[Pi];omega
  unfold Gm;rw[if_neg A2N,r32s n Y];simp only[A0X];have h0:=je (f:=CV (n:Int) data) (r:=(IP n data,0)) (fun k=>(S4 n++data.take k,(k:Int))) data.length (fun k hk=>?_) ?_
  ·simpa using h0
  ·unfold CV;simp only[];rw[if_pos Y,fG hk];simp only[A0X];rw[iG (by rw[Pi,h4,A0T];simp;omega)];simp only[A0X];rw[dh k Y,lw,List.take_append_getElem hk]
  ·unfold CV;simp only[];rw[if_neg Y,List.take_of_length_le (Nat.le_refl _)];by_cases h:n<=64
   ·rw[if_pos Y,rdig n h1 h _ hl];unfold IP;rw[if_pos h];rfl
   ·rw[if_neg Y,show(64:Int)=((64:Nat):Int) from rfl,rdig 64 Y Y _ hl];have hv:=FM 64 Y Y _ hl;simp only[A0X];generalize hv0:VI 64 (S4 n++data)=v at hv ⊢;have key:=je (f:=zA) (r:=(IP n data,0)) (fun k=>(Ok v k,((n - 32*k:Nat):Int),Vk v k)) ((n+31) / 32 - 2 - 1) (fun k hk=>?_) ?_
    ·have e:((n - 32*0:Nat):Int)=(n:Int):=Y
     simp only[e] at key;show Option.map Sum.inr (aT zA ([],(n:Int),v))=_;exact congrArg (Option.map Sum.inr) key
    ·unfold zA;simp only[];have hvk:=Ph v hv k;rw[if_pos Y,slc32 _ hvk];simp only[A0X];rw[iG (by rw[QW v hv,A0T];omega)];simp only[A0X];rw[show(64:Int)=((64:Nat):Int) from rfl,rdig 64 Y Y _ Y];simp only[A0X];rw[bG Y,show((n - 32*k:Nat):Int) - 32=((n - 32*(k+1):Nat):Int) from by omega];rfl
    ·unfold zA;simp only[];have hvk:=Ph v hv ((n+31) / 32 - 2 - 1);rw[if_neg Y,slc32 _ hvk];simp only[A0X];rw[iG (by rw[QW v hv,A0T];omega)];simp only[A0X];rw[bG Y,show((n - 32*((n+31) / 32 - 2 - 1):Nat):Int) - 32=((n - 32*((n+31) / 32 - 2):Nat):Int) from by omega];rw[rdig _ Y Y _ Y];simp only[A0X];rw[iG (by rw[Pi,QW v hv,FM _ Y Y _ Y,A0T];omega)];simp only[A0X,Option.map_some];unfold IP;rw[if_neg h,hv0];have e:Ok v ((n+31) / 32 - 2)=Ok v ((n+31) / 32 - 2 - 1)++(Vk v ((n+31) / 32 - 2 - 1)).take 32:=by
       obtain⟨m,hm⟩:∃ m,(n+31) / 32 - 2=m+1:=⟨(n+31) / 32 - 3,Y⟩
       rw[hm];rfl
     rw[e]
end
section
theorem XE(K M P L T:Int):qP K M P L T=some (if wZ K M P L T then 0 else 200):=by
  unfold qP;by_cases h:wZ K M P L T
  ·rw[A3p h];unfold wZ at h;rw[show ax (8*L)=8*L from by rw[bG] <;> omega];rw[A3q (by simp only[A2k,lm];omega)]
  ·rw[A3q h];unfold wZ at h;by_cases hL:1<=L/\L<=8
   ·rw[show ax (8*L)=8*L from by rw[bG] <;> omega];rw[A3p (by simp only[A2k,lm];omega)]
   ·rw[A3p (by simp only[A2k,lm];omega)]
theorem wSum (b:AC)(hb:b.length<=12000000):LD 1 64 b=some (VI 64 b,0):=by
  have h:=(Pg 64 Y Y b hb).1;have hc:=chkD 64 Y Y;rw[show((64:Nat):Int)=64 from rfl] at h hc;unfold LD I5 IY tC;simp only[if_true,A0X];rw[if_neg A2H];simp only[A0X];rw[if_neg A2H,Xz];simp only[A0L];rw[show((0:Nat):Int)=0 from rfl,hc];simp only[A0X];rw[if_neg A2H,h];rfl
theorem rSum (b:AC)(hb:b.length<=12000000):LG 1 64 b=some (VI 64 b,0):=by
  have h:=(Pg 64 Y Y b hb).2.1;have hc:=chkD 64 Y Y;rw[show((64:Nat):Int)=64 from rfl] at h hc;unfold LG MR;simp only[A0L];rw[show((0:Nat):Int)=0 from rfl,hc];simp only[A0X];rw[if_neg A2H,h];rfl
def aab (K M P L T:Nat)(w aO:AC):AC :=
  (((((((((((([]++S4 L)++S4 T)++S4 M)++S4 P)++S4 19)++S4 K)++S4 w.length)++w)++S4 aO.length)++aO)++S4 0)++[])++S4 0++[]
theorem wStartA (K M P L T:Nat)(hm:wZ K M P L T)(w aO:AC)(hw:w.length<=65536)(hs:8<=aO.length/\aO.length<=64):qN K M P L T w aO [] []=some (VI 64 (aab K M P L T w aO),0):=by
  unfold qN;rw[may_ok,A0Y hm];simp only[A0X,Bool.not_true,A0h,if_false];rw[if_neg Y,Xt];unfold FK;rw[if_pos hm,if_neg Y];simp only[A0X,ne_eq,not_true_eq_false,if_false];rw[if_neg A2K];unfold xI;rw[if_neg A2K];unfold wZ at hm;unfold BC;have g0:aP (⟨[(L:Int),(T:Int),(M:Int),(P:Int),(19:Int),(K:Int)],rfl⟩:Vec Int 6).l 0=some (L:Int):=rfl;have g1:aP (⟨[(L:Int),(T:Int),(M:Int),(P:Int),(19:Int),(K:Int)],rfl⟩:Vec Int 6).l 1=some (T:Int):=rfl;have g2:aP (⟨[(L:Int),(T:Int),(M:Int),(P:Int),(19:Int),(K:Int)],rfl⟩:Vec Int 6).l 2=some (M:Int):=rfl;have g3:aP (⟨[(L:Int),(T:Int),(M:Int),(P:Int),(19:Int),(K:Int)],rfl⟩:Vec Int 6).l 3=some (P:Int):=rfl;have g4:aP (⟨[(L:Int),(T:Int),(M:Int),(P:Int),(19:Int),(K:Int)],rfl⟩:Vec Int 6).l 4=some ((19:Nat):Int):=rfl;have g5:aP (⟨[(L:Int),(T:Int),(M:Int),(P:Int),(19:Int),(K:Int)],rfl⟩:Vec Int 6).l 5=some (K:Int):=rfl;have l4:=Gw;rw[g0,A0X,Va _ A2K _ Y,A0X];rw[g1,A0X,Va _ (by simp[l4]) _ Y,A0X];rw[g2,A0X,Va _ (by simp[l4]) _ Y,A0X];rw[g3,A0X,Va _ (by simp[l4]) _ Y,A0X]
  rw[g4,A0X,Va _ (by simp[l4]) _ Y,A0X];rw[g5,A0X,Va _ (by simp[l4]) _ Y,A0X];rw[Va _ (by simp[l4]) _ Y,A0X,iG (by simp[l4];omega),A0X];rw[Va _ (by simp[l4];omega) _ Y,A0X,iG (by simp[l4];omega),A0X];rw[Va _ (by simp[l4];omega) _ A2K,A0X,iG (by simp[l4];omega),A0X];rw[Va _ (by simp[l4];omega) _ A2K,A0X,iG (by simp[l4];omega),A0X];rw[wSum _ (by simp[l4];omega),A0X];rfl
theorem rStartA (K M P L T:Nat)(hm:wZ K M P L T)(w aO:AC)(hw:w.length<=65536)(hs:8<=aO.length/\aO.length<=64):AB K M P L T w aO [] []=some (VI 64 (aab K M P L T w aO),0):=by
  unfold AB BI;rw[XE,if_pos hm];simp only[A0X,ne_eq,not_true_eq_false,if_false];rw[if_neg Y,Uc];unfold FK;rw[if_pos hm,if_neg Y];simp only[A0X,ne_eq,not_true_eq_false,if_false];rw[if_neg A2K];simp only[A0X,ne_eq,not_true_eq_false,if_false];unfold wZ at hm;have g0:aP ([(L:Int),(T:Int),(M:Int),(P:Int),(19:Int),(K:Int)]:List Int) 0=some (L:Int):=rfl;have g1:aP ([(L:Int),(T:Int),(M:Int),(P:Int),(19:Int),(K:Int)]:List Int) 1=some (T:Int):=rfl;have g2:aP ([(L:Int),(T:Int),(M:Int),(P:Int),(19:Int),(K:Int)]:List Int) 2=some (M:Int):=rfl;have g3:aP ([(L:Int),(T:Int),(M:Int),(P:Int),(19:Int),(K:Int)]:List Int) 3=some (P:Int):=rfl;have g4:aP ([(L:Int),(T:Int),(M:Int),(P:Int),(19:Int),(K:Int)]:List Int) 4=some ((19:Nat):Int):=rfl;have g5:aP ([(L:Int),(T:Int),(M:Int),(P:Int),(19:Int),(K:Int)]:List Int) 5=some (K:Int):=rfl;have l4:=Gw;rw[g0,A0X,XD _ Y,A0X,iG (by simp[l4]),A0X];rw[g1,A0X,XD _ Y,A0X,iG (by simp[l4]),A0X];rw[g2,A0X,XD _ Y,A0X,iG (by simp[l4]),A0X];rw[g3,A0X,XD _ Y,A0X,iG (by simp[l4]),A0X]
  rw[g4,A0X,XD _ Y,A0X,iG (by simp[l4]),A0X];rw[g5,A0X,XD _ Y,A0X,iG (by simp[l4]),A0X];rw[XD _ Y,A0X,iG (by simp[l4]),A0X,iG (by simp[l4];omega),A0X];rw[XD _ Y,A0X,iG (by simp[l4];omega),A0X,iG (by simp[l4];omega),A0X];rw[XD _ A2K,A0X,iG (by simp[l4];omega),A0X,iG (by simp[l4];omega),A0X];rw[A0X,iG (by simp[l4];omega),A0X,iG (by simp[l4];omega),A0X];rw[rSum _ (by simp[l4];omega),A0X];rfl
theorem hdr_le(K M P L T:Nat)(w aO:AC)(hw:w.length<=65536)(hs:aO.length<=64):(aab K M P L T w aO).length<=12000000:=by
  unfold aab;simp[Gw];omega
end
section
section
variable (K M P L T:Nat)(hm:wZ K M P L T)
def fK (M L:Nat):Nat:=M / (4*L)
include hm in
theorem qO:K<=2/\1<=L/\L<=8/\1<=P/\P<=16/\4<=T/\T<=1024/\8*L<=M/\M<=4096:=by unfold wZ at hm;omega
include hm in
theorem rY:2<=fK M L/\fK M L<=1024/\L*(4*fK M L)<=4096:=by
  obtain⟨_,h1,h2,_,_,_,_,h3,h4⟩:=qO K M P L T hm;have h5:4*L*(M / (4*L))<=M:=Nat.mul_div_le M (4*L);have a:2<=M / (4*L):=(Nat.le_div_iff_mul_le Y).2 Y;refine⟨a,?_,?_⟩
  ·unfold fK;have:4*(M / (4*L))<=4*L*(M / (4*L)):=A0k _ Y;omega
  ·unfold fK;rw[<- Nat.mul_assoc,A3F L 4];omega
include hm in
theorem wseg:ou K M P L T=some ((fK M L:Nat):Int):=by
  have hb:=rY K M P L T hm;obtain⟨_,h1,h2,_⟩:=qO K M P L T hm;unfold ou;rw[bG (n:=4*(L:Int)) Y,ig Y];simp only[A0X];rw[show Int.tdiv (M:Int) (4*(L:Int))=((fK M L:Nat):Int) from rfl,bG Y]
include hm in
theorem wcol:rV K M P L T=some ((4*fK M L:Nat):Int):=by
  have hb:=rY K M P L T hm;unfold rV;rw[wseg K M P L T hm];simp only[A0X];rw[bG Y];simp
include hm in
theorem rcol:tK K M P L T=some (((4*fK M L:Nat):Int),0):=by
  have hb:=rY K M P L T hm;obtain⟨_,h1,h2,_⟩:=qO K M P L T hm;unfold tK;rw[XE,A3p hm];simp only[A0X,ne_eq,A3t,A3r];rw[bG (n:=4*(L:Int)) Y,ig Y];simp only[A0X];rw[show Int.tdiv (M:Int) (4*(L:Int))=((fK M L:Nat):Int) from rfl,bG (n:=((fK M L:Nat):Int)) Y,bG Y];simp[Int.mul_comm]
include hm in
theorem rseg:zB K M P L T=some ((fK M L:Nat):Int):=by
  have hb:=rY K M P L T hm;unfold zB;rw[rcol K M P L T hm];simp only[A0X];rw[show Int.tdiv ((4*fK M L:Nat):Int) 4=((4*fK M L / 4:Nat):Int) from rfl,show 4*fK M L / 4=fK M L from by omega,bG Y]
end
def qSh (a:Nat)(j:UInt64):Nat:=a*((j.toNat % 4294967296)*(j.toNat % 4294967296) / 4294967296) / 4294967296
theorem qSh_lt(b:Nat)(h:1<=b)(j:UInt64):qSh b j < b:=by
  unfold qSh;have c:j.toNat % 4294967296 < 4294967296:=Nat.mod_lt _ Y;generalize j.toNat % 4294967296=a at c ⊢;have d:a*a / 4294967296 < 4294967296:=Nat.div_lt_of_lt_mul (Nat.mul_lt_mul'' c c);generalize a*a / 4294967296=p at d ⊢;exact Nat.div_lt_of_lt_mul (by rw[A3F];exact Nat.mul_lt_mul_of_pos_right d Y)
theorem qU(b:Nat)(h:b<=65536)(j:UInt64):(jC ((UInt64.ofInt (b:Int))*(jC ((j % 4294967296)*(j % 4294967296)) ((32:UInt64).toNat))) ((32:UInt64).toNat)).toNat=qSh b j:=by
  have c:j.toNat % 4294967296 < 4294967296:=Nat.mod_lt _ Y;have f:(j % 4294967296).toNat=j.toNat % 4294967296:=by rw[A45];rfl
  have e:(jC ((j % 4294967296)*(j % 4294967296)) ((32:UInt64).toNat)).toNat=(j.toNat % 4294967296)*(j.toNat % 4294967296) / 4294967296:=by
    rw[shrN,A44,f,A2w]
    ·rfl
    ·exact A0c (Nat.mul_lt_mul'' c c) A2H
  rw[shrN,A44,e,oi64 b Y];unfold qSh;generalize j.toNat % 4294967296=a at c ⊢;have d:a*a / 4294967296 < 4294967296:=Nat.div_lt_of_lt_mul (Nat.mul_lt_mul'' c c);generalize a*a / 4294967296=p at d ⊢;rw[A2w]
  ·rfl
  ·have:b*p<=65536*4294967296:=Nat.mul_le_mul h Y;omega
def FN (L A1s A1t A1u:Nat)(j:UInt64):Nat:=if A1s=0/\A1t=0 then A1u else j.toNat / 4294967296 % L
def KQ (s A1s A1t A1u x l:Nat):Nat:=if l=A1u then(if A1s=0 then A1t*s else 3*s)+x - 1 else if x=0 then(if A1s=0 then A1t*s else 3*s) - 1 else(if A1s=0 then A1t*s else 3*s)
def aac (s A1s A1t:Nat):Nat:=if A1s=0∨A1t=3 then 0 else(A1t+1)*s
def colS (s A1s A1t A1u x l:Nat)(j:UInt64):Nat:=(aac s A1s A1t+KQ s A1s A1t A1u x l - 1 - qSh (KQ s A1s A1t A1u x l) j) % (4*s)
theorem XF(L A1s A1t A1u:Nat)(j:UInt64)(hL:1<=L)(hl:A1u < L):FN L A1s A1t A1u j < L:=by
  unfold FN;split
  ·exact hl
  ·exact Nat.mod_lt _ Y
theorem XG(s A1s A1t A1u x l:Nat)(hs:2<=s)(h3:A1t<=3)(hx:x < s)(hl:A1s=0/\A1t=0->l=A1u/\2<=x):1<=KQ s A1s A1t A1u x l/\KQ s A1s A1t A1u x l<=4*s:=by
  unfold KQ;have h0:A1t*s<=3*s:=A0k _ h3;have b:A1t≠0->s<=A1t*s:=fun h=>Nat.le_mul_of_pos_left _ Y;by_cases hp:A1s=0
  ·simp only[hp,if_true];by_cases a:A1t=0
   ·obtain⟨rfl,hx2⟩:=hl ⟨hp,a⟩;subst a;simp only[if_true];omega
   ·have:=b a;split
    ·omega
    ·split <;> omega
  ·simp only[hp,A3r];split
   ·omega
   ·split <;> omega
theorem aad(s A1s A1t A1u x l:Nat)(j:UInt64)(hs:2<=s):colS s A1s A1t A1u x l j < 4*s:=Nat.mod_lt _ Y
theorem colS_0(s A1t A1u x l:Nat)(j:UInt64)(hs:2<=s)(h3:A1t<=3)(hx:x < s)(hl:A1t=0->l=A1u/\2<=x):colS s 0 A1t A1u x l j < A1t*s∨(l=A1u/\colS s 0 A1t A1u x l j < A1t*s+x):=by
  have d:=XG s 0 A1t A1u x l hs h3 hx fun h=>hl h.2;have f:=qSh_lt _ d.1 j;have h0:A1t*s<=3*s:=A0k _ h3;have g:A1t≠0->s<=A1t*s:=fun h=>Nat.le_mul_of_pos_left _ Y;unfold colS aac;rw[A3p (.inl rfl)];generalize b:KQ s 0 A1t A1u x l=a at d f ⊢;rw[A2w Y];unfold KQ at b;simp only[if_true] at b;by_cases c:l=A1u
  ·right;rw[A3p c] at b;refine⟨c,?_⟩;omega
  ·left;rw[A3q c] at b;have e:A1t≠0:=fun h=>c (hl h).1;have:=g e;split at b <;> omega
section
variable (K M P L T:Nat)(hm:wZ K M P L T)(A1s A1t A1u x:Nat)(j:UInt64)(hp:A1s < P)(h3:A1t<=3)(hl:A1u < L)(hx:x < fK M L)(h02:A1s=0/\A1t=0->2<=x)
include hm in
theorem wref3(l:Int)(b a:Nat)(d:1<=a)(c:a<=65536)(h4:b<=65536):qA K M P L T j l b a=some (l,(((b+a - 1 - qSh a j) % (4*fK M L):Nat):Int)):=by
  have hb:=rY K M P L T hm;have hq:=qSh_lt a d j;unfold qA;rw[wcol K M P L T hm];simp only[A0X];rw[ig Y];simp only[A0X,and32];rw[qU a c j,bG (n:=(b:Int)+a) Y,bG (n:=(b:Int)+a - 1) Y,bG (n:=((qSh a j:Nat):Int)) Y,bG Y];rw[show(b:Int)+a - 1 - ((qSh a j:Nat):Int)=((b+a - 1 - qSh a j:Nat):Int) from by omega];rfl
include hm in
theorem rref3(l:Int)(b a:Nat)(d:1<=a)(c:a<=65536)(h4:b<=65536):xN j ((fK M L:Nat):Int) l a b=some (l,(((b+a - 1 - qSh a j) % (4*fK M L):Nat):Int),0):=by
  have hb:=rY K M P L T hm;have hq:=qSh_lt a d j;unfold xN;rw[bG (n:=4*((fK M L:Nat):Int)) Y,ig Y];simp only[A0X];rw[qU a c j,bG (n:=(b:Int)+a) Y,bG (n:=(b:Int)+a - 1) Y,bG (n:=((qSh a j:Nat):Int)) Y,bG Y];rw[show(b:Int)+a - 1 - ((qSh a j:Nat):Int)=((b+a - 1 - qSh a j:Nat):Int) from by omega];rfl
include hm h3 hx in
theorem wref0(l:Nat)(h:A1s=0/\A1t=0->l=A1u/\2<=x):uk K M P L T A1s A1t A1u x j l=some ((l:Int),((colS (fK M L) A1s A1t A1u x l j:Nat):Int)):=by
  have p:=rY K M P L T hm;have i:=XG (fK M L) A1s A1t A1u x l p.1 h3 hx h;have h0:A1t*fK M L<=3*fK M L:=A0k _ h3;have h1:(A1t+1)*fK M L<=4*fK M L:=A0k _ Y;have c:∀ e:Nat,e<=4096->∀ a:Nat,a=(if A1s=0 then A1t*fK M L else 3*fK M L)->ui K M P L T A1u x j l a e=some ((l:Int),(((e+KQ (fK M L) A1s A1t A1u x l - 1 - qSh (KQ (fK M L) A1s A1t A1u x l) j) % (4*fK M L):Nat):Int)):=by
    intro e hst a b;have hw:a<=4096:=by rw[b];split <;> omega
    have f:KQ (fK M L) A1s A1t A1u x l=if l=A1u then a+x - 1 else if x=0 then a - 1 else a:=by unfold KQ;rw[b]
    unfold ui;by_cases m:l=A1u
    ·rw[A3p m] at f;rw[A3p Y,bG (n:=(x:Int) - 1) Y,bG Y,show(a:Int)+((x:Int) - 1)=((a+x - 1:Nat):Int) from by omega,<-f];exact wref3 K M P L T hm j l e _ i.1 Y Y
    ·rw[A3q m] at f;rw[A3q Y];by_cases k:x=0
     ·rw[A3p k] at f;rw[A3p Y,bG Y,show(a:Int) - 1=((a - 1:Nat):Int) from by omega,<-f];exact wref3 K M P L T hm j l e _ i.1 Y Y
     ·rw[A3q k] at f;rw[A3q Y,<-f];exact wref3 K M P L T hm j l e _ i.1 Y Y
  have d:∀ a:Nat,a=(if A1s=0 then A1t*fK M L else 3*fK M L)->uj K M P L T A1s A1t A1u x j l ((fK M L:Nat):Int) a=some ((l:Int),((colS (fK M L) A1s A1t A1u x l j:Nat):Int)):=by
    intro a b;unfold uj colS aac;by_cases o:A1s=0∨A1t=3
    ·rw[A3p o,A3p (by simp only[A2k,lm];omega)];exact c 0 Y a b
    ·rw[A3q o,A3q (by simp only[A2k,lm];omega),bG (n:=(A1t:Int)+1) Y,show((A1t:Int)+1)*((fK M L:Nat):Int)=(((A1t+1)*fK M L:Nat):Int) from by simp,bG Y];exact c _ Y a b
  unfold uk;rw[wseg K M P L T hm];simp only[A0X];by_cases g:A1s=0
  ·rw[A3p Y,show(A1t:Int)*((fK M L:Nat):Int)=((A1t*fK M L:Nat):Int) from by simp,bG Y];exact d _ (by rw[A3p g])
  ·rw[A3q Y,show(3:Int)*((fK M L:Nat):Int)=((3*fK M L:Nat):Int) from by simp,bG Y];exact d _ (by rw[A3q g])
include hm h3 hx in
theorem rref0(l:Nat)(g:A1s=0/\A1t=0->l=A1u/\2<=x):xP A1s A1t A1u x j ((fK M L:Nat):Int) l=some ((l:Int),((colS (fK M L) A1s A1t A1u x l j:Nat):Int),0):=by
  have o:=rY K M P L T hm;have m:=XG (fK M L) A1s A1t A1u x l o.1 h3 hx g;have h0:A1t*fK M L<=3*fK M L:=A0k _ h3;have h1:(A1t+1)*fK M L<=4*fK M L:=A0k _ Y;have b:uF A1s A1t j ((fK M L:Nat):Int) l ((KQ (fK M L) A1s A1t A1u x l:Nat):Int)=some ((l:Int),((colS (fK M L) A1s A1t A1u x l j:Nat):Int),0):=by
    unfold uF colS aac;by_cases k:A1s=0∨A1t=3
    ·rw[A3p k,A3q A2Q];exact rref3 K M P L T hm j l 0 _ m.1 Y Y
    ·rw[A3q k,A3p A2Q,bG (n:=(A1t:Int)+1) Y,show((A1t:Int)+1)*((fK M L:Nat):Int)=(((A1t+1)*fK M L:Nat):Int) from by simp,bG Y];exact rref3 K M P L T hm j l _ _ m.1 Y Y
  have c:∀ a:Nat,a=(if A1s=0 then A1t*fK M L else 3*fK M L)->xO A1s A1t A1u x j ((fK M L:Nat):Int) l a=some ((l:Int),((colS (fK M L) A1s A1t A1u x l j:Nat):Int),0):=by
    intro a e;have hw:a<=4096:=by rw[e];split <;> omega
    have d:KQ (fK M L) A1s A1t A1u x l=if l=A1u then a+x - 1 else if x=0 then a - 1 else a:=by unfold KQ;rw[e]
    unfold xO;by_cases i:l=A1u
    ·rw[A3p i] at d;rw[A3p Y,bG (n:=(a:Int)+x) Y,bG Y,show(a:Int)+(x:Int) - 1=((a+x - 1:Nat):Int) from by omega,<-d];exact b
    ·rw[A3q i] at d;rw[A3q Y];by_cases h:x=0
     ·rw[A3p h] at d;rw[A3p Y,bG Y,show(a:Int) - 1=((a - 1:Nat):Int) from by omega,<-d];exact b
     ·rw[A3q h] at d;rw[A3q Y,<-d];exact b
  unfold xP;by_cases f:A1s=0
  ·rw[A3p Y,show(A1t:Int)*((fK M L:Nat):Int)=((A1t*fK M L:Nat):Int) from by simp,bG Y];exact c _ (by rw[A3p f])
  ·rw[A3q Y,show(3:Int)*((fK M L:Nat):Int)=((3*fK M L:Nat):Int) from by simp,bG Y];exact c _ (by rw[A3q f])
include hm in
theorem laneU:ax (((jC j ((32:UInt64).toNat)) % (UInt64.ofInt (L:Int))).toNat:Int)=((j.toNat / 4294967296 % L:Nat):Int):=by
  obtain⟨_,h1,h2,_⟩:=qO K M P L T hm;rw[A45,shrN,oi64 L Y];have:j.toNat / 4294967296 % L < L:=Nat.mod_lt _ Y;show ax ((j.toNat / 4294967296 % L:Nat):Int)=_;rw[bG Y]
include hm in
theorem laneN:(UInt64.ofInt (L:Int))≠0:=by
  obtain⟨_,h1,h2,_⟩:=qO K M P L T hm;intro h;have:=A3s UInt64.toNat h;rw[oi64 L Y] at this;have h0:(0:UInt64).toNat=0:=rfl;omega
include hm h3 hx h02 in
theorem wrefer:zy K M P L T A1s A1t A1u x j=some (((FN L A1s A1t A1u j:Nat):Int),((colS (fK M L) A1s A1t A1u x (FN L A1s A1t A1u j) j:Nat):Int)):=by
  unfold zy;rw[ig (laneN K M P L T hm)];simp only[A0X];by_cases a:A1s=0/\A1t=0
  ·rw[A3p A2Q];unfold FN;rw[A3p a];exact wref0 K M P L T hm A1s A1t A1u x j h3 hx A1u fun h=>⟨rfl,h02 h⟩
  ·rw[A3q A2Q,laneU K M P L T hm];unfold FN;rw[A3q a];exact wref0 K M P L T hm A1s A1t A1u x j h3 hx _ fun h=>absurd h a
include hm hp h3 hl hx h02 in
theorem rrefer:Hz K M P L T A1s A1t A1u x j=some (((FN L A1s A1t A1u j:Nat):Int),((colS (fK M L) A1s A1t A1u x (FN L A1s A1t A1u j) j:Nat):Int),0):=by
  unfold Hz;rw[XE,A3p hm];simp only[A0X,ne_eq,A3t,A3r];rw[rseg K M P L T hm];simp only[A0X];rw[A3q (by simp only[A2k,A0U,lm];omega),ig (laneN K M P L T hm)];simp only[A0X];by_cases a:A1s=0/\A1t=0
  ·rw[A3p A2Q];unfold FN;rw[A3p a];exact rref0 K M P L T hm A1s A1t A1u x j h3 hx A1u fun h=>⟨rfl,h02 h⟩
  ·rw[A3q A2Q,laneU K M P L T hm];unfold FN;rw[A3q a];exact rref0 K M P L T hm A1s A1t A1u x j h3 hx _ fun h=>absurd h a
end
end
section
def zb (n:Nat):AC:=List.replicate n 0
theorem Bf(n:Nat):(zb n).length=n:=by simp[zb]
def w7 (l:A00)(i:Nat):UInt64:=UInt64.ofInt ((l.getD i 0:Nat):Int)
def hd7 (l:A00)(n:Nat):AC:=Fo (fun i=>Q4 8 (w7 l i)) n
theorem Tt(l:A00)(n:Nat):(hd7 l n).length=n*8:=XC (fun i=>Dt 8 _) n
def adr (l:A00):AC:=Z9 (zb 1024) (Z9 (zb 1024) (hd7 l 7++zb 968))
theorem inlen(l:A00):(hd7 l 7++zb 968).length=1024:=by rw[Pi,Tt,Bf]
theorem VJ(l:A00):(adr l).length=1024:=zk (Bf _) (zk (Bf _) (inlen l))
theorem g7(a b c d e f g i:Nat)(h:i < 7):aP ([(a:Int),(b:Int),(c:Int),(d:Int),(e:Int),(f:Int),(g:Int)]:List Int) (i:Int)=some ((([a,b,c,d,e,f,g]:A00).getD i 0:Nat):Int):=by
  match i,h with
  | 0,_=>rfl
  | 1,_=>rfl
  | 2,_=>rfl
  | 3,_=>rfl
  | 4,_=>rfl
  | 5,_=>rfl
  | 6,_=>rfl
theorem aae:List.replicate (Int.toNat (1024:Int)) (0:UInt8)=zb 1024:=rfl
section
variable (K M P L T:Nat)(hm:wZ K M P L T)(A1s A1t A1u:Nat)
def l7 (n:Nat):A00:=[A1s,A1u,A1t,L*(4*fK M L),P,K,n]
def aw (x:Nat):UInt64:=x8 (adr (l7 K M P L A1s A1t A1u (x / 128+1))) (x % 128)
include hm in
theorem LC_ok:ax ((L:Int)*((4*fK M L:Nat):Int))=((L*(4*fK M L):Nat):Int):=by
  have hb:=rY K M P L T hm;rw[show(L:Int)*((4*fK M L:Nat):Int)=((L*(4*fK M L):Nat):Int) from by simp,bG Y]
include hm in
theorem wadr2(q:Nat)(hq:128*q < fK M L):aT (rq K M P L T ((q+1:Nat):Int) (adr (l7 K M P L A1s A1t A1u (q+1)),0)) ((List.range (128*q)).map (aw K M P L A1s A1t A1u),0)=some (.inl ((List.range (min (128*(q+1)) (fK M L))).map (aw K M P L A1s A1t A1u),((q+1+1:Nat):Int))):=by
  have hb:=rY K M P L T hm;have hn:128*q+min 128 (fK M L - 128*q)=min (128*(q+1)) (fK M L):=Y
  refine je (fun i=>((List.range (128*q+i)).map (aw K M P L A1s A1t A1u),(i:Int))) (min 128 (fK M L - 128*q)) (fun i hi=>?_) ?_
  ·unfold rq;simp only[];rw[A3p Y,wseg K M P L T hm];simp only[A0X,A0K,List.length_range];rw[A3p Y,mul8' i Y,Uk _ i (by rw[VJ];omega) (by rw[VJ];omega)];simp only[A0X];rw[iG A2L];simp only[A0X];rw[dh i Y,<-Nat.add_assoc,A2l,A2g];have:aw K M P L A1s A1t A1u (128*q+i)=x8 (adr (l7 K M P L A1s A1t A1u (q+1))) i:=by
     unfold aw;rw[show(128*q+i) / 128=q from by omega,show(128*q+i) % 128=i from by omega]
   rw[kw,A2q,this]
  ·unfold rq;simp only[];rw[hn];by_cases h:min 128 (fK M L - 128*q)=128
   ·rw[A3q Y,dh (q+1) Y];rfl
   ·rw[A3p Y,wseg K M P L T hm];simp only[A0X,A0K,List.length_range];rw[A3q Y,dh (q+1) Y];rfl
include hm in
theorem wadr1 (q:Nat)(hq:128*q < fK M L):aT (ru K M P L T A1s A1t A1u ((List.range (128*q)).map (aw K M P L A1s A1t A1u)) ((q+1:Nat):Int) ((4*fK M L:Nat):Int)) ([],0)=some (.inl ((List.range (min (128*(q+1)) (fK M L))).map (aw K M P L A1s A1t A1u),((q+1+1:Nat):Int))):=by
  have hb:=rY K M P L T hm;refine je (fun i=>(hd7 (l7 K M P L A1s A1t A1u (q+1)) i,(i:Int))) 7 (fun i hi=>?_) ?_
  ·unfold ru;simp only[];rw[if_pos Y,LC_ok K M P L T hm,g7 _ _ _ _ _ _ _ i hi];simp only[A0X];rw[store64];simp only[A0X];rw[iG (by rw[Tt];simp;omega)];simp only[A0X];rw[dh i Y];unfold hd7;rw[Jm];rfl
  ·unfold ru;simp only[];rw[if_neg Y,aae,show Int.toNat (1024:Int)=1024 from rfl];have hl:=Tt (l7 K M P L A1s A1t A1u (q+1)) 7;rw[Ah (by rw[hl,Bf];omega)];simp only[A0X];have hz:((zb 1024).take (((1024:Nat):Int)).toNat).drop (((hd7 (l7 K M P L A1s A1t A1u (q+1)) 7).length:Int)).toNat=zb 968:=by
     rw[hl,ww,ww,List.take_of_length_le (by rw[Bf];omega)];unfold zb;rw[List.drop_replicate]
   rw[hz,iG (by rw[hl,Bf];omega)];simp only[A0X];rw[wMix _ _ (Bf _) (inlen _)];simp only[A0X];rw[wMix _ _ (Bf _) (zk (Bf _) (inlen _))];simp only[A0X];have:=wadr2 K M P L T hm A1s A1t A1u q hq;unfold adr at this;rw[this];rfl
include hm in
theorem waddr:wE K M P L T A1s A1t A1u=some ((List.range (fK M L)).map (aw K M P L A1s A1t A1u)):=by
  have hb:=rY K M P L T hm;unfold wE;refine je (fun q=>((List.range (min (128*q) (fK M L))).map (aw K M P L A1s A1t A1u),((q+1:Nat):Int))) ((fK M L+127) / 128) (fun q hq=>?_) ?_
  ·unfold wC;simp only[];have a:min (128*q) (fK M L)=128*q:=Y
   rw[a,wseg K M P L T hm];simp only[A0X,A0K,List.length_range];rw[A3p Y,wcol K M P L T hm];simp only[A0X];exact wadr1 K M P L T hm A1s A1t A1u q Y
  ·unfold wC;simp only[];have a:min (128*((fK M L+127) / 128)) (fK M L)=fK M L:=Y
   rw[a,wseg K M P L T hm];simp only[A0X,A0K,List.length_range];rw[A3q Y];rfl
include hm in
theorem radr1 (n:Nat):CW K M P L T A1s A1t A1u ((4*fK M L:Nat):Int) n=some (adr (l7 K M P L A1s A1t A1u n)):=by
  have hb:=rY K M P L T hm;have hl:=Tt (l7 K M P L A1s A1t A1u n) 7;unfold CW;refine je (fun i=>(hd7 (l7 K M P L A1s A1t A1u n) i,(i:Int))) 7 (fun i hi=>?_) ?_
  ·unfold BL;simp only[];rw[if_pos Y,LC_ok K M P L T hm,g7 _ _ _ _ _ _ _ i hi];simp only[A0X];have:=ZX (w7 (l7 K M P L A1s A1t A1u n) i) 8 Y;rw[show((8:Nat):Int)=8 from rfl] at this;unfold w7 l7 at this;rw[this];simp only[A0X];rw[iG (by rw[Tt];simp;omega)];simp only[A0X];rw[dh i Y];unfold hd7;rw[Jm];rfl
  ·unfold BL;simp only[];rw[if_neg Y];have key:=je (f:=xM) (r:=adr (l7 K M P L A1s A1t A1u n)) (fun i=>hd7 (l7 K M P L A1s A1t A1u n) 7++zb i) 968 (fun i hi=>?_) ?_
   ·have e:hd7 (l7 K M P L A1s A1t A1u n) 7++zb 0=hd7 (l7 K M P L A1s A1t A1u n) 7:=List.append_nil _;simp only[e] at key;exact congrArg (Option.map Sum.inr) key
   ·unfold xM;show(if(((hd7 (l7 K M P L A1s A1t A1u n) 7++zb i).length:Nat):Int) < 1024 then _ else _)=_;rw[Pi,hl,Bf,if_pos Y,iG (by rw[Pi,hl,Bf];simp;omega)];simp only[A0X];rw[lw];have e:zb i++[(0:UInt8)]=zb (i+1):=by unfold zb;rw[List.replicate_succ']
    rw[e]
   ·unfold xM;show(if(((hd7 (l7 K M P L A1s A1t A1u n) 7++zb 968).length:Nat):Int) < 1024 then _ else _)=_;rw[Pi,hl,Bf,if_neg Y,aae,rMix _ _ (Bf _) (inlen _)];simp only[A0X];rw[rMix _ _ (Bf _) (zk (Bf _) (inlen _))];simp only[A0X,Option.map_some,adr]
include hm in
theorem raddr(hp:A1s < P)(h3:A1t<=3)(hl:A1u < L):yV K M P L T A1s A1t A1u=some ((List.range (fK M L)).map (aw K M P L A1s A1t A1u),0):=by
  have hb:=rY K M P L T hm;unfold yV;rw[XE,A3p hm];simp only[A0X,ne_eq,A3t,A3r];rw[A3q (by simp only[A2k,lm];omega),rcol K M P L T hm];simp only[A0X];refine je (fun x=>((List.range x).map (aw K M P L A1s A1t A1u),(if x=0 then[] else adr (l7 K M P L A1s A1t A1u ((x - 1) / 128+1))),(x:Int))) (fK M L) (fun x hx=>?_) ?_
  ·unfold yC;simp only[];rw[rseg K M P L T hm];simp only[A0X];have a:qE ((List.range x).map (aw K M P L A1s A1t A1u)) (x:Int) (adr (l7 K M P L A1s A1t A1u (x / 128+1)))=some (.inl ((List.range (x+1)).map (aw K M P L A1s A1t A1u),(if x+1=0 then[] else adr (l7 K M P L A1s A1t A1u ((x+1 - 1) / 128+1))),((x+1:Nat):Int))):=by
     unfold qE yB;rw[show Int.tmod (x:Int) 128=((x % 128:Nat):Int) from rfl,mul8' _ Y,Xy _ _ (by rw[VJ];omega) (by rw[VJ];omega)];simp only[A0X];rw[iG A2L];simp only[A0X];rw[dh x Y,A2l,A2g,A3q Y];rfl
   rw[A3p Y,show Int.tmod (x:Int) 128=((x % 128:Nat):Int) from rfl];by_cases h:x % 128=0
   ·rw[A3p Y,show Int.tdiv (x:Int) 128=((x / 128:Nat):Int) from rfl,bG (n:=((x / 128:Nat):Int)) Y,dh _ Y,radr1 K M P L T hm];simp only[A0X];exact a
   ·rw[A3q Y,A3q Y,show(x - 1) / 128=x / 128 from by omega];exact a
  ·unfold yC;simp only[];rw[rseg K M P L T hm];simp only[A0X];rw[A3q Y];rfl
end
end
section
theorem J4{α:Type}{N}{l:List α}(h:l.length=N):∃ v,Et N l=some v/\v.l=l:=by
  unfold Et;rw[dif_pos Y];exact⟨_,rfl,A2i Y⟩
abbrev Mem:=Nat->Nat->AC
def upd (m:Mem)(l c:Nat)(b:AC):Mem:=fun a d=>if a=l/\d=c then b else m a d
def NS (L C:Nat)(m:List (List (Vec UInt8 1024)))(a:Mem):Prop:=m.length=L/\∀ l,l < L->∃ row,m[l]?=some row/\row.length=C/\∀ c,c < C->∃ v,row[c]?=some v/\v.l=a l c
theorem NS.get{L C m a}(h:NS L C m a){l}(hl:l < L):∃ row,aP m (l:Int)=some row/\row.length=C/\∀ c,c < C->∃ v,aP row (c:Int)=some v/\v.l=a l c:=by
  obtain⟨row,g,f,h3⟩:=h.2 l hl;refine⟨row,Rk g,f,fun c b=>?_⟩;obtain⟨v,e,d⟩:=h3 c b;exact⟨v,Rk e,d⟩
theorem NS.len{L C m a}(h:NS L C m a){l c}(hl:l < L)(b:c < C):(a l c).length=1024:=by
  obtain⟨row,h1,h2,h3⟩:=h.2 l hl;obtain⟨v,h4,d⟩:=h3 c b;rw[<- d,v.h]
theorem NS.set{L C m f}(h:NS L C m f){l c}(hl:l < L)(hc:c < C){row}(o:aP m (l:Int)=some row){v b}(n:v.l=b) :
    NS L C (m.set l (row.set c v)) (upd f l c b):=by
  refine⟨by rw[List.length_set];exact h.1,fun a p=>?_⟩;obtain⟨r2,k,j,h3⟩:=h.2 a p;by_cases e:a=l
  ·subst e;have:r2=row:=by
     have:=Rk k;rw[o] at this;exact(A2j this).symm
   subst this;refine⟨r2.set c v,?_,by rw[List.length_set];exact j,fun d hd=>?_⟩
   ·rw[List.getElem?_set_self (by have:=h.1;omega)]
   ·by_cases q:d=c
    ·subst q;exact⟨v,by rw[List.getElem?_set_self Y],by unfold upd;rw[A3p ⟨rfl,rfl⟩,n]⟩
    ·obtain⟨u,i,g⟩:=h3 d hd;exact⟨u,by rw[A41 Y];exact i,by unfold upd;rw[A3q Y,g]⟩
  ·refine⟨r2,by rw[A41 Y];exact k,j,fun d hd=>?_⟩;obtain⟨u,i,g⟩:=h3 d hd;exact⟨u,i,by unfold upd;rw[A3q Y,g]⟩
def Mc (L C:Nat)(f:A02)(a:Mem)(b:Nat->Nat->Prop):Prop:=f.length=L*C/\(∀ l,l < L->∀ c,c < C->(a l c).length=1024)/\∀ l,l < L->∀ c,c < C->b l c->f[l*C+c]?=some (a l c)
theorem XH{L:Nat}{C:Nat}{l:Nat}{c:Nat}(hl:l < L)(hc:c < C):l*C+c < L*C:=by
  have:(l+1)*C<=L*C:=A0k _ hl;rw[Nat.succ_mul] at this;omega
theorem idx_inj{C:Nat}{l:Nat}{c:Nat}{a:Nat}{d:Nat}(e:c < C)(hd:d < C)(h:l*C+c=a*C+d):l=a/\c=d:=by
  have b:(l*C+c) / C=l:=by rw[A3F,Nat.mul_add_div Y,A3N e,A3S]
  have f:(a*C+d) / C=a:=by rw[A3F,Nat.mul_add_div Y,A3N hd,A3S]
  rw[h,f] at b;subst b;exact⟨rfl,Y⟩
theorem Mc.mono{L C f a d Fe}(h:Mc L C f a d)(e:∀ l,l < L->∀ c,c < C->Fe l c->d l c):Mc L C f a Fe:=⟨h.1,h.2.1,fun l hl c b g=>h.2.2 l hl c b (e l hl c b g)⟩
theorem Mc.set{L:Nat}{C:Nat}{f:A02}{g}{m:Nat->Nat->Prop}{Fe:Nat->Nat->Prop}(h:Mc L C f g m){l:Nat}{c:Nat}(hl:l < L)(k:c < C){b:AC}(p:b.length=1024)(n:∀ a d,Fe a d->m a d∨(a=l/\d=c)):Mc L C (f.set (l*C+c) b) (upd g l c b) Fe:=by
  refine⟨by rw[List.length_set];exact h.1,fun a i d hd=>?_,fun a i d hd o=>?_⟩
  ·unfold upd;split
   ·exact p
   ·exact h.2.1 a i d hd
  ·by_cases e:a=l/\d=c
   ·obtain⟨rfl,rfl⟩:=e;unfold upd;rw[List.getElem?_set_self (by rw[h.1];exact XH hl k),A3p ⟨rfl,rfl⟩]
   ·unfold upd;rw[A41 (fun q=>e (by have:=idx_inj k hd q;omega)),A3q e];rcases n a d o with j | j
    ·exact h.2.2 a i d hd j
    ·exact absurd j e
section
variable (K M P L T:Nat)(hm:wZ K M P L T)(A1s A1t A1u:Nat)
def ahC (M L A1t x:Nat):Nat:=(A1t*fK M L+x+4*fK M L - 1) % (4*fK M L)
def jS (a:Mem)(x:Nat):UInt64:=if K=1∨(K=2/\A1s=0/\A1t < 2) then aw K M P L A1s A1t A1u x else x8 (a A1u (ahC M L A1t x)) 0
def refB (a:Mem)(x:Nat)(j:UInt64):AC:=Z9 (a A1u (ahC M L A1t x)) (a (FN L A1s A1t A1u j) (colS (fK M L) A1s A1t A1u x (FN L A1s A1t A1u j) j))
def XI (a:Mem)(x:Nat)(j:UInt64):AC:=if A1s=0 then refB M L A1s A1t A1u a x j else B_ (refB M L A1s A1t A1u a x j) (a A1u (A1t*fK M L+x))
def stepM (a:Mem)(x:Nat):Mem:=if A1s=0/\A1t*fK M L+x < 2 then a else upd a A1u (A1t*fK M L+x) (XI M L A1s A1t A1u a x (jS K M P L A1s A1t A1u a x))
def KR (a:Mem):Mem:=(List.range (fK M L)).foldl (stepM K M P L A1s A1t A1u) a
theorem fold_succ{σ:Type}(F:σ->Nat->σ)(s:σ)(n:Nat):(List.range (n+1)).foldl F s=F ((List.range n).foldl F s) n:=by rw[A2l,A2t];rfl
theorem aaf(M L A1t x:Nat)(h:2<=fK M L):ahC M L A1t x < 4*fK M L:=Nat.mod_lt _ Y
include hm in
theorem wfill0(h3:A1t<=3)(hl:A1u < L)(A:K=1∨(K=2/\A1s=0/\A1t < 2))(m:List (List (Vec UInt8 1024)))(e:Mem)(V:NS L (4*fK M L) m e)(b:List (Vec UInt8 1024))(B:b.length=4*fK M L) :
    ∃ r,aT (pF K M P L T A1s A1t A1u ((fK M L:Nat):Int) ((List.range (fK M L)).map (aw K M P L A1s A1t A1u)) b) (m,0)=some r/\∃ m',r=((K:Int),(M:Int),(P:Int),(L:Int),(T:Int),m')/\NS L (4*fK M L) m' (KR K M P L A1s A1t A1u e):=by
  have J:=rY K M P L T hm;have hc0:A1t*fK M L<=3*fK M L:=A0k _ h3;obtain⟨_,D,hL2,_⟩:=qO K M P L T hm;refine ql (fun i s=>∃ m',s=(m',(i:Int))/\i<=fK M L/\NS L (4*fK M L) m' ((List.range i).foldl (stepM K M P L A1s A1t A1u) e)) (fun r=>∃ m',r=((K:Int),(M:Int),(P:Int),(L:Int),(T:Int),m')/\NS L (4*fK M L) m' (KR K M P L A1s A1t A1u e)) (fK M L) ?_ _ ⟨m,rfl,A2p _,V⟩;rintro x s ⟨H,rfl,hx,a⟩;generalize c:(List.range x).foldl (stepM K M P L A1s A1t A1u) e=mem1 at a;by_cases f:x < fK M L
  ·refine .inl ⟨f,?_⟩;unfold pF;simp only[];rw[A3p Y,show(A1t:Int)*((fK M L:Nat):Int)=((A1t*fK M L:Nat):Int) from by simp,bG (n:=((A1t*fK M L:Nat):Int)) Y,bG (n:=((A1t*fK M L:Nat):Int)+x) Y,show((A1t*fK M L:Nat):Int)+x=((A1t*fK M L+x:Nat):Int) from by omega];by_cases p:A1s=0/\A1t*fK M L+x < 2
   ·rw[A3p A2Q];unfold jX;rw[dh x Y];refine⟨_,rfl,H,rfl,Y,?_⟩;rw[fold_succ,c];unfold stepM;rw[A3p p];exact a
   ·rw[A3q A2Q];obtain⟨row,g1,g2,N⟩:=a.get hl;have C:=aaf M L A1t x J.1;rw[g1];simp only[A0X];rw[B,ig Y];simp only[A0X];have U:Int.tmod (ax ((ax (((A1t*fK M L+x:Nat):Int)+((4*fK M L:Nat):Int))) - 1)) ((4*fK M L:Nat):Int)=((ahC M L A1t x:Nat):Int):=by
      rw[bG (n:=((A1t*fK M L+x:Nat):Int)+((4*fK M L:Nat):Int)) Y,bG Y,show((A1t*fK M L+x:Nat):Int)+((4*fK M L:Nat):Int) - 1=((A1t*fK M L+x+4*fK M L - 1:Nat):Int) from by omega];rfl
    rw[U];obtain⟨d,a1,a2⟩:=N _ C;rw[a1];simp only[A0X];rw[show Iw d.l 0 (8:Int)=some (d.l.take 8) from by rw[Ah (by rw[d.h];omega)];rfl];simp only[A0X];have g:=Uk (d.l.take 8) 0 (by rw[A0T,d.h];omega) (by rw[A0T,d.h];omega);rw[show((8*0:Nat):Int)=0 from rfl] at g;have u:x8 (d.l.take 8) 0=x8 d.l 0:=by unfold x8;simp[List.take_take]
    rw[u] at g;rw[g];simp only[A0X];rw[show aP ((List.range (fK M L)).map (aw K M P L A1s A1t A1u)) (x:Int)=some (aw K M P L A1s A1t A1u x) from by rw[fG (by simpa using f)];simp];simp only[A0X];have I:jS K M P L A1s A1t A1u mem1 x=aw K M P L A1s A1t A1u x:=by unfold jS;rw[A3p A]
    have h02:A1s=0/\A1t=0->2<=x:=by rintro⟨q1,R⟩;subst R;omega
    rw[<- I,wrefer K M P L T hm A1s A1t A1u x _ h3 f h02];simp only[A0X];generalize z:jS K M P L A1s A1t A1u mem1 x=j at I ⊢;have w:=XF L A1s A1t A1u j D hl;have y:=aad (fK M L) A1s A1t A1u x (FN L A1s A1t A1u j) j J.1;obtain⟨row2,F,r2,Q⟩:=a.get w;obtain⟨k,O,W⟩:=Q _ y;obtain⟨E,G,S⟩:=N (A1t*fK M L+x) Y;have q:Z9 d.l k.l=refB M L A1s A1t A1u mem1 x j:=by unfold refB;rw[a2,W]
    have o:stepM K M P L A1s A1t A1u mem1 x=upd mem1 A1u (A1t*fK M L+x) (XI M L A1s A1t A1u mem1 x j):=by unfold stepM;rw[A3q p,z]
    by_cases hp:A1s=0
    ·rw[A3p Y,F];simp only[A0X];rw[O];simp only[A0X];rw[wMix _ _ d.h k.h];simp only[A0X];obtain⟨v,t,t2⟩:=J4 (zk d.h k.h);rw[t];simp only[A0X];rw[G];simp only[A0X];unfold jX;rw[dh x Y,ww,ww];refine⟨_,rfl,_,rfl,Y,?_⟩;rw[fold_succ,c,o];exact a.set hl Y g1 (by unfold XI;rw[A3p hp,t2,q])
    ·rw[A3q Y,F];simp only[A0X];rw[O];simp only[A0X];rw[G];simp only[A0X];rw[wOver _ _ _ d.h k.h E.h];simp only[A0X];obtain⟨v,t,t2⟩:=J4 (Be (zk d.h k.h) E.h);rw[t];simp only[A0X];unfold jX;rw[dh x Y,ww,ww];refine⟨_,rfl,_,rfl,Y,?_⟩;rw[fold_succ,c,o];exact a.set hl Y g1 (by unfold XI;rw[A3q hp,t2,q,S])
  ·right;obtain rfl:x=fK M L:=by omega
   unfold pF;simp only[];rw[A3q Y];refine⟨_,rfl,H,rfl,?_⟩;unfold KR;rw[c];exact a
include hm in
theorem wfill1(h3:A1t<=3)(hl:A1u < L)(A:¬ (K=1∨(K=2/\A1s=0/\A1t < 2)))(m:List (List (Vec UInt8 1024)))(e:Mem)(V:NS L (4*fK M L) m e)(b:List (Vec UInt8 1024))(B:b.length=4*fK M L) :
    ∃ r,aT (pG K M P L T A1s A1t A1u ((fK M L:Nat):Int) b) (m,0)=some r/\∃ m',r=((K:Int),(M:Int),(P:Int),(L:Int),(T:Int),m')/\NS L (4*fK M L) m' (KR K M P L A1s A1t A1u e):=by
  have J:=rY K M P L T hm;have hc0:A1t*fK M L<=3*fK M L:=A0k _ h3;obtain⟨_,D,hL2,_⟩:=qO K M P L T hm;refine ql (fun i s=>∃ m',s=(m',(i:Int))/\i<=fK M L/\NS L (4*fK M L) m' ((List.range i).foldl (stepM K M P L A1s A1t A1u) e)) (fun r=>∃ m',r=((K:Int),(M:Int),(P:Int),(L:Int),(T:Int),m')/\NS L (4*fK M L) m' (KR K M P L A1s A1t A1u e)) (fK M L) ?_ _ ⟨m,rfl,A2p _,V⟩;rintro x s ⟨H,rfl,hx,a⟩;generalize d:(List.range x).foldl (stepM K M P L A1s A1t A1u) e=mem1 at a;by_cases q:x < fK M L
  ·refine .inl ⟨q,?_⟩;unfold pG;simp only[];rw[A3p Y,show(A1t:Int)*((fK M L:Nat):Int)=((A1t*fK M L:Nat):Int) from by simp,bG (n:=((A1t*fK M L:Nat):Int)) Y,bG (n:=((A1t*fK M L:Nat):Int)+x) Y,show((A1t*fK M L:Nat):Int)+x=((A1t*fK M L+x:Nat):Int) from by omega];by_cases o:A1s=0/\A1t*fK M L+x < 2
   ·rw[A3p A2Q];unfold jY;rw[dh x Y];refine⟨_,rfl,H,rfl,Y,?_⟩;rw[fold_succ,d];unfold stepM;rw[A3p o];exact a
   ·rw[A3q A2Q];obtain⟨row,g1,g2,N⟩:=a.get hl;have C:=aaf M L A1t x J.1;rw[g1];simp only[A0X];rw[B,ig Y];simp only[A0X];have U:Int.tmod (ax ((ax (((A1t*fK M L+x:Nat):Int)+((4*fK M L:Nat):Int))) - 1)) ((4*fK M L:Nat):Int)=((ahC M L A1t x:Nat):Int):=by
      rw[bG (n:=((A1t*fK M L+x:Nat):Int)+((4*fK M L:Nat):Int)) Y,bG Y,show((A1t*fK M L+x:Nat):Int)+((4*fK M L:Nat):Int) - 1=((A1t*fK M L+x+4*fK M L - 1:Nat):Int) from by omega];rfl
    rw[U];obtain⟨c,a1,a2⟩:=N _ C;rw[a1];simp only[A0X];rw[show Iw c.l 0 (8:Int)=some (c.l.take 8) from by rw[Ah (by rw[c.h];omega)];rfl];simp only[A0X];have f:=Uk (c.l.take 8) 0 (by rw[A0T,c.h];omega) (by rw[A0T,c.h];omega);rw[show((8*0:Nat):Int)=0 from rfl] at f;have u:x8 (c.l.take 8) 0=x8 c.l 0:=by unfold x8;simp[List.take_take]
    rw[u] at f;rw[f];simp only[A0X];have I:jS K M P L A1s A1t A1u mem1 x=x8 c.l 0:=by unfold jS;rw[A3q A,a2]
    have h02:A1s=0/\A1t=0->2<=x:=by rintro⟨q1,R⟩;subst R;omega
    rw[<- I,wrefer K M P L T hm A1s A1t A1u x _ h3 q h02];simp only[A0X];generalize z:jS K M P L A1s A1t A1u mem1 x=j at I ⊢;have w:=XF L A1s A1t A1u j D hl;have y:=aad (fK M L) A1s A1t A1u x (FN L A1s A1t A1u j) j J.1;obtain⟨row2,F,r2,Q⟩:=a.get w;obtain⟨g,O,W⟩:=Q _ y;obtain⟨E,G,S⟩:=N (A1t*fK M L+x) Y;have p:Z9 c.l g.l=refB M L A1s A1t A1u mem1 x j:=by unfold refB;rw[a2,W]
    have k:stepM K M P L A1s A1t A1u mem1 x=upd mem1 A1u (A1t*fK M L+x) (XI M L A1s A1t A1u mem1 x j):=by unfold stepM;rw[A3q o,z]
    by_cases hp:A1s=0
    ·rw[A3p Y,F];simp only[A0X];rw[O];simp only[A0X];rw[wMix _ _ c.h g.h];simp only[A0X];obtain⟨v,t,t2⟩:=J4 (zk c.h g.h);rw[t];simp only[A0X];rw[G];simp only[A0X];unfold jY;rw[dh x Y,ww,ww];refine⟨_,rfl,_,rfl,Y,?_⟩;rw[fold_succ,d,k];exact a.set hl Y g1 (by unfold XI;rw[A3p hp,t2,p])
    ·rw[A3q Y,F];simp only[A0X];rw[O];simp only[A0X];rw[G];simp only[A0X];rw[wOver _ _ _ c.h g.h E.h];simp only[A0X];obtain⟨v,t,t2⟩:=J4 (Be (zk c.h g.h) E.h);rw[t];simp only[A0X];unfold jY;rw[dh x Y,ww,ww];refine⟨_,rfl,_,rfl,Y,?_⟩;rw[fold_succ,d,k];exact a.set hl Y g1 (by unfold XI;rw[A3q hp,t2,p,S])
  ·right;obtain rfl:x=fK M L:=by omega
   unfold pG;simp only[];rw[A3q Y];refine⟨_,rfl,H,rfl,?_⟩;unfold KR;rw[d];exact a
include hm in
theorem wfill(h3:A1t<=3)(hl:A1u < L)(m:List (List (Vec UInt8 1024)))(a:Mem)(c:NS L (4*fK M L) m a) :
    ∃ m',sD K M P L T m A1s A1t A1u=some ((K:Int),(M:Int),(P:Int),(L:Int),(T:Int),m')/\NS L (4*fK M L) m' (KR K M P L A1s A1t A1u a):=by
  obtain⟨row,g1,f,g3⟩:=c.get hl;unfold sD;rw[wseg K M P L T hm];simp only[A0X];unfold sQ;by_cases b:K=1∨(K=2/\A1s=0/\A1t < 2)
  ·rw[A3p (by simp only[A2k,A0U,lm];omega),waddr K M P L T hm];simp only[A0X];rw[g1];simp only[A0X];obtain⟨r,e,m',rfl,d⟩:=wfill0 K M P L T hm A1s A1t A1u h3 hl b m a c row f;exact⟨m',e,d⟩
  ·rw[A3q (by simp only[A2k,A0U,lm];omega),g1];simp only[A0X];obtain⟨r,e,m',rfl,d⟩:=wfill1 K M P L T hm A1s A1t A1u h3 hl b m a c row f;exact⟨m',e,d⟩
end
end
section
def Q5 (s A1s A1t A1u x l c:Nat):Prop:=0 < A1s∨c < 2∨c < A1t*s∨(l < A1u/\c < A1t*s+s)∨(l=A1u/\c < A1t*s+x)
theorem Mc.get{L C f mem Fd}(h:Mc L C f mem Fd){l c}(hl:l < L)(hc:c < C)(hf:Fd l c)(hLC:L*C<=4096)(d:Int)(hd:d=(c:Int)):aP f (ax ((ax ((l:Int)*(C:Int)))+d))=some (mem l c):=by
  subst hd;have h1:=XH hl hc;have h2:l*C<=L*C:=A0k _ Y;rw[show(l:Int)*(C:Int)=((l*C:Nat):Int) from by simp,bG (n:=((l*C:Nat):Int)) Y,bG Y,show((l*C:Nat):Int)+(c:Int)=((l*C+c:Nat):Int) from by omega];exact Rk (h.2.2 l hl c hc hf)
theorem Mc.idx{L:Nat}{C:Nat}{l:Nat}{c:Nat}(hl:l < L)(a:c < C)(hLC:L*C<=4096)(d:Int)(hd:d=(c:Int)):ax ((ax ((l:Int)*(C:Int)))+d)=((l*C+c:Nat):Int):=by
  subst hd;have h1:=XH hl a;have h2:l*C<=L*C:=A0k _ Y;rw[show(l:Int)*(C:Int)=((l*C:Nat):Int) from by simp,bG (n:=((l*C:Nat):Int)) Y,bG Y,show((l*C:Nat):Int)+(c:Int)=((l*C+c:Nat):Int) from by omega]
section
variable (K M P L T:Nat)(hm:wZ K M P L T)(A1s A1t A1u:Nat)
include hm in
theorem rfill3 (hp:A1s < P)(h3:A1t<=3)(hl:A1u < L)(f:A02)(b:Mem)(x:Nat)(hx:x < fK M L)(i:Mc L (4*fK M L) f b (Q5 (fK M L) A1s A1t A1u x))(t:¬ (A1s=0/\A1t*fK M L+x < 2))(j:UInt64)(B:jS K M P L A1s A1t A1u b x=j) :
    ∃ q,wW K M P L T A1s A1t A1u ((4*fK M L:Nat):Int) f (x:Int) (b A1u (ahC M L A1t x)) j=some (.inl (q,((x+1:Nat):Int)))/\Mc L (4*fK M L) q (stepM K M P L A1s A1t A1u b x) (Q5 (fK M L) A1s A1t A1u (x+1)):=by
  have k:=rY K M P L T hm;have hc0:A1t*fK M L<=3*fK M L:=A0k _ h3;have hz1:A1t≠0->fK M L<=A1t*fK M L:=fun h=>Nat.le_mul_of_pos_left _ Y;obtain⟨_,z,hL2,_⟩:=qO K M P L T hm;have h02:A1s=0/\A1t=0->2<=x:=by rintro⟨q1,A⟩;subst A;omega
  have l:=XF L A1s A1t A1u j z hl;have m:=aad (fK M L) A1s A1t A1u x (FN L A1s A1t A1u j) j k.1;have y:=aaf M L A1t x k.1;have s:stepM K M P L A1s A1t A1u b x=upd b A1u (A1t*fK M L+x) (XI M L A1s A1t A1u b x j):=by unfold stepM;rw[A3q t,B]
  have w:Q5 (fK M L) A1s A1t A1u x (FN L A1s A1t A1u j) (colS (fK M L) A1s A1t A1u x (FN L A1s A1t A1u j) j):=by
    by_cases c:A1s=0
    ·subst c;have:=colS_0 (fK M L) A1t A1u x (FN L 0 A1t A1u j) j k.1 h3 hx fun h=>⟨by unfold FN;rw[A3p ⟨rfl,h⟩],h02 ⟨rfl,h⟩⟩
     unfold Q5;omega
    ·exact .inl Y
  have g:=i.2.1 A1u hl _ y;have e:=i.2.1 _ l _ m;have o:=i.2.1 A1u hl (A1t*fK M L+x) Y;have u:ax (Int.tdiv ((4*fK M L:Nat):Int) 4)=((fK M L:Nat):Int):=by
    rw[show Int.tdiv ((4*fK M L:Nat):Int) 4=((4*fK M L / 4:Nat):Int) from rfl,show 4*fK M L / 4=fK M L from by omega,bG Y]
  have p:ax ((ax ((A1t:Int)*(ax (Int.tdiv ((4*fK M L:Nat):Int) 4))))+(x:Int))=((A1t*fK M L+x:Nat):Int):=by
    rw[u,show(A1t:Int)*((fK M L:Nat):Int)=((A1t*fK M L:Nat):Int) from by simp,bG (n:=((A1t*fK M L:Nat):Int)) Y,bG Y];omega
  unfold wW;rw[rrefer K M P L T hm A1s A1t A1u x j hp h3 hl hx h02];simp only[A0X];rw[i.get l m w k.2.2 _ rfl];simp only[A0X];rw[rMix _ _ g e];simp only[A0X];have key:∀ r:AC,r=XI M L A1s A1t A1u b x j->r.length=1024->∃ q,zD A1t A1u ((4*fK M L:Nat):Int) f (x:Int) r=some (.inl (q,((x+1:Nat):Int)))/\Mc L (4*fK M L) q (stepM K M P L A1s A1t A1u b x) (Q5 (fK M L) A1s A1t A1u (x+1)):=by
    intro r C v;unfold zD zC CX;rw[p,Mc.idx hl (show A1t*fK M L+x < 4*fK M L from by omega) k.2.2 _ rfl];rw[fG (by rw[i.1];exact XH hl Y)];simp only[A0X];rw[dh x Y,ww];refine⟨_,rfl,?_⟩;rw[s,<-C];exact i.set hl Y v fun a d h=>by unfold Q5 at h ⊢;omega
  by_cases c:A1s=0
  ·rw[A3q Y];exact key _ (by unfold XI refB;rw[A3p c]) (zk g e)
  ·rw[A3p Y,p,i.get hl (show A1t*fK M L+x < 4*fK M L from by omega) (.inl Y) k.2.2 _ rfl];simp only[A0X];rw[rXor _ _ (zk g e) o];simp only[A0X];exact key _ (by unfold XI refB;rw[A3q c]) (Be (zk g e) o)
include hm in
theorem rfill0(hp:A1s < P)(h3:A1t<=3)(hl:A1u < L)(f:A02)(a:Mem)(D:Mc L (4*fK M L) f a (Q5 (fK M L) A1s A1t A1u 0))(y:A01)(w:K=1∨(K=2/\A1s=0/\A1t < 2)->y=(List.range (fK M L)).map (aw K M P L A1s A1t A1u)) :
    ∃ d,zF K M P L T f A1s A1t A1u ((4*fK M L:Nat):Int) y=some d/\Mc L (4*fK M L) d (KR K M P L A1s A1t A1u a) (Q5 (fK M L) A1s A1t A1u (fK M L)):=by
  have z:=rY K M P L T hm;have hc0:A1t*fK M L<=3*fK M L:=A0k _ h3;have u:A1t≠0->fK M L<=A1t*fK M L:=fun h=>Nat.le_mul_of_pos_left _ Y;obtain⟨hK,hL1,hL2,_⟩:=qO K M P L T hm;unfold zF;have m:ax (Int.tdiv ((4*fK M L:Nat):Int) 4)=((fK M L:Nat):Int):=by
    rw[show Int.tdiv ((4*fK M L:Nat):Int) 4=((4*fK M L / 4:Nat):Int) from rfl,show 4*fK M L / 4=fK M L from by omega,bG Y]
  obtain⟨r,F,d,rfl,E⟩:=ql (f:=CY K M P L T A1s A1t A1u ((4*fK M L:Nat):Int) y) (fun i s=>∃ d,s=(d,(i:Int))/\i<=fK M L/\Mc L (4*fK M L) d ((List.range i).foldl (stepM K M P L A1s A1t A1u) a) (Q5 (fK M L) A1s A1t A1u i)) (fun r=>∃ d,r=d/\Mc L (4*fK M L) d (KR K M P L A1s A1t A1u a) (Q5 (fK M L) A1s A1t A1u (fK M L))) (fK M L) (by
    rintro x s ⟨t,rfl,hx,b⟩;generalize e:(List.range x).foldl (stepM K M P L A1s A1t A1u) a=mem1 at b;by_cases g:x < fK M L
    ·refine .inl ⟨g,?_⟩;unfold CY;simp only[];rw[m,A3p Y];by_cases k:A1s=0/\A1t*fK M L+x < 2
     ·have A:A1t=0:=by
        apply Classical.byContradiction;intro h;have:=u h;omega
      rw[A3p (by subst A;simp only[A0U,lm];omega)];unfold zC CX;rw[dh x Y];refine⟨_,rfl,t,rfl,Y,?_⟩;rw[fold_succ,e];unfold stepM;rw[A3p k];exact b.mono fun l _ c _ h=>by unfold Q5 at h ⊢;omega
     ·rw[A3q (by
        simp only[A0U,lm];rintro⟨⟨q1,q2⟩,q3⟩;obtain rfl:A1t=0:=by omega
        omega),ig Y]
      simp only[A0X];have p:=aaf M L A1t x z.1;have C:Int.tmod (ax ((ax ((ax ((ax ((A1t:Int)*((fK M L:Nat):Int)))+(x:Int)))+((4*fK M L:Nat):Int))) - 1)) ((4*fK M L:Nat):Int)=((ahC M L A1t x:Nat):Int):=by
        rw[show(A1t:Int)*((fK M L:Nat):Int)=((A1t*fK M L:Nat):Int) from by simp,bG (n:=((A1t*fK M L:Nat):Int)) Y,bG (n:=((A1t*fK M L:Nat):Int)+(x:Int)) Y,bG (n:=((A1t*fK M L:Nat):Int)+(x:Int)+((4*fK M L:Nat):Int)) Y,bG Y,show((A1t*fK M L:Nat):Int)+(x:Int)+((4*fK M L:Nat):Int) - 1=((A1t*fK M L+x+4*fK M L - 1:Nat):Int) from by omega];rfl
      have v:Q5 (fK M L) A1s A1t A1u x A1u (ahC M L A1t x):=by
        by_cases hp0:A1s=0
        ·have:ahC M L A1t x=A1t*fK M L+x - 1:=by
           unfold ahC;rw[show A1t*fK M L+x+4*fK M L - 1=(A1t*fK M L+x - 1)+4*fK M L from by omega,Nat.add_mod_right,A2w Y]
         unfold Q5;omega
        ·exact .inl Y
      rw[b.get hl p v z.2.2 _ C];simp only[A0X];have q:∀ j:UInt64,jS K M P L A1s A1t A1u mem1 x=j->∃ s',wW K M P L T A1s A1t A1u ((4*fK M L:Nat):Int) t (x:Int) (mem1 A1u (ahC M L A1t x)) j=some (.inl s')/\∃ d,s'=(d,((x+1:Nat):Int))/\x+1<=fK M L/\Mc L (4*fK M L) d ((List.range (x+1)).foldl (stepM K M P L A1s A1t A1u) a) (Q5 (fK M L) A1s A1t A1u (x+1)):=by
        intro j B;obtain⟨G,I,H⟩:=rfill3 K M P L T hm A1s A1t A1u hp h3 hl t mem1 x g b k j B;exact⟨_,I,G,rfl,Y,by rw[fold_succ,e];exact H⟩
      by_cases hd:K=1∨(K=2/\A1s=0/\A1t < 2)
      ·rw[A3q (by simp only[A2k,A0U,lm];omega),w hd];rw[show aP ((List.range (fK M L)).map (aw K M P L A1s A1t A1u)) (x:Int)=some (aw K M P L A1s A1t A1u x) from by rw[fG (by simpa using g)];simp];simp only[A0X];exact q _ (by unfold jS;rw[A3p hd])
      ·rw[A3p (by simp only[A2k,A0U,lm];omega)];have hla:=b.2.1 A1u hl _ p;have o:=Xy (mem1 A1u (ahC M L A1t x)) 0 Y Y;rw[show((8*0:Nat):Int)=0 from rfl] at o;rw[o];simp only[A0X];exact q _ (by unfold jS;rw[A3q hd])
    ·right;obtain rfl:x=fK M L:=by omega
     unfold CY;simp only[];rw[m,A3q Y];refine⟨_,rfl,t,rfl,?_⟩;unfold KR;rw[e];exact b) _ ⟨f,rfl,A2p _,D⟩
  exact⟨_,F,E⟩
include hm in
theorem rfill(hp:A1s < P)(h3:A1t<=3)(hl:A1u < L)(f:A02)(a:Mem)(b:Mc L (4*fK M L) f a (Q5 (fK M L) A1s A1t A1u 0)) :
    ∃ c,JG K M P L T f A1s A1t A1u ((4*fK M L:Nat):Int)=some c/\Mc L (4*fK M L) c (KR K M P L A1s A1t A1u a) (Q5 (fK M L) A1s A1t A1u (fK M L)):=by
  obtain⟨hK,hL1,hL2,_⟩:=qO K M P L T hm;unfold JG;by_cases hd:K=1∨(K=2/\A1s=0/\A1t < 2)
  ·rw[A3p (by simp only[A2z,Bool.or_eq_false_iff,A3G,Bool.or_eq_false_iff,A3u];omega),raddr K M P L T hm A1s A1t A1u hp h3 hl];simp only[A0X];exact rfill0 K M P L T hm A1s A1t A1u hp h3 hl f a b _ fun _=>rfl
  ·rw[A3q (by simp only[A2z,Bool.or_eq_false_iff,A3G,Bool.or_eq_false_iff,A3u];omega)];exact rfill0 K M P L T hm A1s A1t A1u hp h3 hl f a b _ fun h=>absurd h hd
end
end
end Go.Sx
