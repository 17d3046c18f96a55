import Derived.Test.YtognaacbiammfaaGreatDoorK6
namespace Go.Sx
open Go.RowKit
set_option linter.unusedVariables false
set_option linter.unusedSimpArgs false
theorem off32 (x:UInt64):((4294967296:UInt64)<=x) ↔ ((4294967295:UInt64) < x):=by
  rw[UInt64.le_iff_toNat_le,UInt64.lt_iff_toNat_lt,show(4294967296:UInt64).toNat=4294967296 from rfl,show(4294967295:UInt64).toNat=4294967295 from rfl];omega
theorem off48 (x:UInt64):((281474976710656:UInt64)<=x) ↔ ((281474976710655:UInt64) < x):=by
  rw[UInt64.le_iff_toNat_le,UInt64.lt_iff_toNat_lt,show(281474976710656:UInt64).toNat=281474976710656 from rfl,show(281474976710655:UInt64).toNat=281474976710655 from rfl];omega
variable {α:Type}
theorem pick_or {β:Type}(f:Bool->β)(c d:Bool):(if c=true then f c else f d)=f (c||d):=by cases c <;> rfl
theorem ifc {c d:Prop}[Decidable c][Decidable d]{x y z:α}(h:c ↔ d)(e:y=z):(if c then x else y)=(if d then x else z):=by
  subst e;by_cases hd:d
  ·rw[if_pos hd,if_pos (h.2 hd)]
  ·rw[if_neg hd,if_neg fun hc=>hd (h.1 hc)]
theorem Xc (k S m q d ky f dp:Int)(lf:UInt32)(off:UInt64)(oD:UInt32)(nd qF:Int)(aQ kD:List UInt8)(hk:oZ k=some (S,m,q))(hm:qf k=some m)(h0:m≠0)(hq:ay (Int.tdiv m 4)=q):o9 k d ky f dp lf off oD nd qF aQ kD=jm k d ky f dp lf off oD nd qF aQ kD:=by
  unfold o9 jm;rw[hk,hm];simp only[Option.bind_some];rw[if_neg h0,if_neg h0,hq];have key:∀ least:Int,(least=0/\oD≠0∨least=1/\oD=0)->pG k d ky f dp off oD nd qF aQ kD (S,m,q) least=(if((decide (d < 1))||(decide (m < d)))=true then
      (some (20:Int))
    else(if((decide (ky < 0))||(decide (m < ky)))=true then
      (some (8:Int))
    else(if((decide (f < 0))||(decide (255 < f)))=true then
      (some (21:Int))
    else(if(((decide (dp < 0))||(decide (255 < dp)))||((decide (dp=0))&&(decide (oD=0))))=true then
      (some (22:Int))
    else(if(((decide (oD≠0))&&(decide ((4294967295:UInt64) < off)))||(((decide (oD=0))&&(decide (k=2)))&&(decide ((281474976710655:UInt64) < off))))=true then
      (some (23:Int))
    else(if((decide (k=2))&&(decide ((65535:UInt32) < oD)))=true then
      (some (24:Int))
    else(if((decide (nd < 0))||(decide (255 < nd)))=true then
      (some (25:Int))
    else(if((decide (qF < 0))||(decide (m < qF)))=true then
      (some (26:Int))
    else(if q < ((aQ.length:Nat):Int) then
      (some (27:Int))
    else(if q < ((kD.length:Nat):Int) then
      (some (28:Int))
    else(some (0:Int)))))))))))):=by
    intro least hl;unfold pG;rw[pick_or];unfold tV xW;simp only[mD,Option.bind_some];refine ifc (by simp only[Bool.not_eq_true',Bool.and_eq_false_iff,decide_eq_false_iff_not,Bool.or_eq_true,decide_eq_true_eq];omega) ?_;refine ifc (by simp only[Bool.not_eq_true',Bool.and_eq_false_iff,decide_eq_false_iff_not,Bool.or_eq_true,decide_eq_true_eq];omega) ?_;refine ifc (by simp only[Bool.not_eq_true',Bool.and_eq_false_iff,decide_eq_false_iff_not,Bool.or_eq_true,decide_eq_true_eq];omega) ?_;refine ifc (by
      simp only[Bool.not_eq_true',Bool.and_eq_false_iff,decide_eq_false_iff_not,Bool.or_eq_true,decide_eq_true_eq,Bool.and_eq_true];rcases hl with⟨rfl,hx⟩ | ⟨rfl,hx⟩
      ·simp only[hx,and_false,or_false];omega
      ·simp only[hx,and_true];omega) ?_
    refine ifc (by simp only[off32,off48]) ?_;refine ifc Iff.rfl ?_;refine ifc (by simp only[Bool.not_eq_true',Bool.and_eq_false_iff,decide_eq_false_iff_not,Bool.or_eq_true,decide_eq_true_eq];omega) ?_;refine ifc (by simp only[Bool.not_eq_true',Bool.and_eq_false_iff,decide_eq_false_iff_not,Bool.or_eq_true,decide_eq_true_eq];omega) ?_;rfl
  by_cases hx:oD=0
  ·rw[if_neg (by simpa using hx)];exact key 1 (.inr ⟨rfl,hx⟩)
  ·rw[if_pos hx];exact key 0 (.inl ⟨rfl,hx⟩)
theorem QW (k d ky f dp:Int)(lf:UInt32)(off:UInt64)(oD:UInt32)(nd qF:Int)(aQ kD:List UInt8):o9 k d ky f dp lf off oD nd qF aQ kD=jm k d ky f dp lf off oD nd qF aQ kD:=by
  by_cases k1:k=1
  ·subst k1;exact Xc 1 64 64 16 _ _ _ _ _ _ _ _ _ _ _ rfl rfl (by omega) rfl
  ·by_cases k2:k=2
   ·subst k2;exact Xc 2 32 32 8 _ _ _ _ _ _ _ _ _ _ _ rfl rfl (by omega) rfl
   ·unfold o9 oZ jm qf;simp only[k1,k2,if_false,Option.bind_some,if_true]
theorem Dl {c:Prop}[Decidable c]{n:Int}{Q:Int->Prop}{e:Option Int}(h0:n≠0)(h:¬ c->∃ r,e=some r/\(r=0->Q r)):∃ r,(if c then some n else e)=some r/\(r=0->Q r):=by
  by_cases hc:c
  ·rw[if_pos hc];exact⟨n,rfl,fun h=>absurd h h0⟩
  ·rw[if_neg hc];exact h hc
theorem QX (k d ky f dp:Int)(lf:UInt32)(off:UInt64)(oD:UInt32)(nd qF:Int)(aQ kD:List UInt8):∃ r,jm k d ky f dp lf off oD nd qF aQ kD=some r/\(r=0->(k=1/\1<=d/\d<=64/\ky<=64/\aQ.length<=16/\kD.length<=16)∨(k=2/\1<=d/\d<=32/\ky<=32/\aQ.length<=8/\kD.length<=8)):=by
  have q1:ay (Int.tdiv 64 4)=16:=by rfl
  have q2:ay (Int.tdiv 32 4)=8:=by rfl
  have key:∀ m q:Int,ay (Int.tdiv m 4)=q->qf k=some m->m≠0->∃ r,jm k d ky f dp lf off oD nd qF aQ kD=some r/\(r=0->(1<=d/\d<=m/\ky<=m/\(aQ.length:Int)<=q/\(kD.length:Int)<=q)):=by
    intro m q hq hm h0;unfold jm;rw[hm];simp only[Option.bind_some];rw[if_neg h0,hq];refine Dl (Q:=fun _=>_) (by omega) fun h1=>Dl (Q:=fun _=>_) (by omega) fun h2=>Dl (Q:=fun _=>_) (by omega) fun h3=>Dl (Q:=fun _=>_) (by omega) fun h4=>Dl (Q:=fun _=>_) (by omega) fun h5=>Dl (Q:=fun _=>_) (by omega) fun h6=>Dl (Q:=fun _=>_) (by omega) fun h7=>Dl (Q:=fun _=>_) (by omega) fun h8=>Dl (Q:=fun _=>_) (by omega) fun h9=>Dl (Q:=fun _=>_) (by omega) fun h10=>⟨0,rfl,fun _=>?_⟩
    simp only[Bool.or_eq_true,decide_eq_true_eq] at h1 h2;omega
  by_cases k1:k=1
  ·obtain⟨r,h1,h2⟩:=key 64 16 q1 (by rw[k1];rfl) (by omega);exact⟨r,h1,fun h=>.inl ⟨k1,by have:=h2 h;omega⟩⟩
  ·by_cases k2:k=2
   ·obtain⟨r,h1,h2⟩:=key 32 8 q2 (by rw[k2];rfl) (by omega);exact⟨r,h1,fun h=>.inr ⟨k2,by have:=h2 h;omega⟩⟩
   ·refine⟨1,?_,fun h=>by omega⟩;unfold jm qf;simp only[k1,k2,if_false,Option.bind_some,if_true]
end Go.Sx
namespace Go.Sx
open Go.RowKit
set_option linter.unusedVariables false
set_option linter.unusedSimpArgs false
def ps (at_:Nat)(v:UInt64)(b:List UInt8)(i:Nat):List UInt8:=b.set (at_+i) (UInt8.ofNat (iH v (8*i)).toNat)
def pset (b:List UInt8)(at_ n:Nat)(v:UInt64):List UInt8:=(List.range n).foldl (ps at_ v) b
theorem Yy (at_:Nat)(v:UInt64)(n:Nat)(b:List UInt8):((List.range n).foldl (ps at_ v) b).length=b.length:=by
  induction n with
  | zero=>rfl
  | succ n ih=>rw[List.range_succ,List.foldl_append];simp only[List.foldl_cons,List.foldl_nil,ps,List.length_set,ih]
theorem pset_len (b:List UInt8)(at_ n:Nat)(v:UInt64):(pset b at_ n v).length=b.length:=Yy _ _ _ _
theorem at_i (a i:Nat)(h:a < 1000)(hi:i < 1000):ay ((a:Int)+(i:Int))=((a+i:Nat):Int):=by rw[bz (by omega)];omega
theorem wput (b:List UInt8)(at_ n:Nat)(v:UInt64)(hn:n<=8)(hb:at_+n<=b.length)(ha:at_ < 1000):Dy b (at_:Int) (n:Int) v=some (pset b at_ n v):=by
  unfold Dy;refine gZ (fun i=>((List.range i).foldl (ps at_ v) b,(i:Int))) n (fun i hi=>?_) ?_
  ·unfold Aj;simp only[];rw[if_pos (by omega),mul8 i (by omega),jo (by omega),at_i _ _ ha (by omega),fG (by rw[Yy];omega),bQ i (by omega),List.range_succ,List.foldl_append];rfl
  ·unfold Aj;simp only[];rw[if_neg (by omega)];rfl
theorem m8:∀ i:Nat,i < 8->((8:UInt64)*UInt64.ofInt (i:Int)).toNat=8*i:=by decide +kernel
theorem rput (b:List UInt8)(at_ n:Nat)(v:UInt64)(hn:n<=8)(hb:at_+n<=b.length)(ha:at_ < 1000):Hm b (at_:Int) (n:Int) v=some (pset b at_ n v):=by
  unfold Hm;refine gZ (fun i=>((List.range i).foldl (ps at_ v) b,(i:Int))) n (fun i hi=>?_) ?_
  ·unfold EL;simp only[];rw[if_pos (by omega),at_i _ _ ha (by omega),fG (by rw[Yy];omega),bQ i (by omega),m8 i (by omega),List.range_succ,List.foldl_append];rfl
  ·unfold EL;simp only[];rw[if_neg (by omega)];rfl
def cpy (b:List UInt8)(at_:Nat)(xs:List UInt8):List UInt8:=(List.range xs.length).foldl (fun(b:List UInt8) (i:Nat)=>b.set (at_+i) (xs.getD i 0)) b
theorem cpy_eq (at_:Nat)(xs:List UInt8)(n:Nat)(b:List UInt8)(hn:n<=xs.length)(hb:at_+n<=b.length):(List.range n).foldl (fun(b:List UInt8) (i:Nat)=>b.set (at_+i) (xs.getD i 0)) b=b.take at_++xs.take n++b.drop (at_+n):=by
  induction n with
  | zero=>simp
  | succ n ih =>
    rw[List.range_succ,List.foldl_append,ih (by omega) (by omega)];simp only[List.foldl_cons,List.foldl_nil];have hd:b.drop (at_+n)=b[at_+n]::b.drop (at_+(n+1)):=List.drop_eq_getElem_cons (by omega);rw[hd,List.set_append_right _ _ (by simp;omega)];have hx:at_+n - (b.take at_++xs.take n).length=0:=by simp;omega
    rw[hx,List.set_cons_zero,List.take_succ_eq_append_getElem (by omega)];simp only[List.append_assoc,List.cons_append,List.nil_append];congr 3;simp[List.getD_eq_getElem?_getD,show n < xs.length from by omega]
theorem Gx (b:List UInt8)(at_:Nat)(xs:List UInt8)(h:at_+xs.length<=b.length):(cpy b at_ xs).length=b.length:=by
  unfold cpy;rw[cpy_eq at_ xs xs.length b (Nat.le_refl _) h];simp;omega
theorem Zo (b:List UInt8)(at_ n:Nat)(xs:List UInt8)(hn:xs.length<=n)(h:at_+xs.length<=b.length):YP b at_ n xs=cpy b at_ xs:=by
  unfold cpy;rw[cpy_eq at_ xs xs.length b (Nat.le_refl _) h,YP,List.take_length,List.take_of_length_le hn,Nat.min_eq_right hn]
def Yz (k:Int)(i:Nat):Nat×Nat:=if k=1 then[(0,1),(1,1),(2,1),(3,1),(4,4),(8,8),(12,4),(16,1),(17,1)].getD i (0,0) else[(0,1),(1,1),(2,1),(3,1),(4,4),(8,6),(12,2),(14,1),(15,1)].getD i (0,0)
theorem fpl_le (k:Int):∀ i:Nat,i < 9->(Yz k i).1+(Yz k i).2<=18/\(Yz k i).2<=8:=by
  intro i hi;unfold Yz;by_cases hk:k=1
  ·simp only[hk,if_true];revert i;decide
  ·simp only[hk,if_false];revert i;decide
theorem rplace (k:Int)(hk:k=1∨k=2):∀ i:Nat,i < 9->Gn k ((i+1:Nat):Int)=some (((Yz k i).1:Int),((Yz k i).2:Int)):=by
  rcases hk with rfl | rfl <;> decide +kernel
theorem wrows (k:Int):∃ rows,uJ k=some rows/\rows.length=9/\∀ i:Nat,i < 9->∃ row,aV rows (i:Int)=some row/\row.1=((i+1:Nat):Int)/\row.2.1=((Yz k i).1:Int)/\row.2.2.1=((Yz k i).2:Int):=by
  by_cases hk:k=1
  ·subst hk;refine⟨_,rfl,rfl,fun i hi=>?_⟩
   match i,hi with
   | 0,_=>exact⟨_,rfl,rfl,rfl,rfl⟩
   | 1,_=>exact⟨_,rfl,rfl,rfl,rfl⟩
   | 2,_=>exact⟨_,rfl,rfl,rfl,rfl⟩
   | 3,_=>exact⟨_,rfl,rfl,rfl,rfl⟩
   | 4,_=>exact⟨_,rfl,rfl,rfl,rfl⟩
   | 5,_=>exact⟨_,rfl,rfl,rfl,rfl⟩
   | 6,_=>exact⟨_,rfl,rfl,rfl,rfl⟩
   | 7,_=>exact⟨_,rfl,rfl,rfl,rfl⟩
   | 8,_=>exact⟨_,rfl,rfl,rfl,rfl⟩
  ·have h2:∀ i,Yz k i=Yz 2 i:=fun i=>by unfold Yz;simp only[hk,if_false];rfl
   have h3:uJ k=uJ 2:=by unfold uJ;rw[if_neg hk,if_neg (by decide)]
   rw[h3];simp only[h2];refine⟨_,rfl,rfl,fun i hi=>?_⟩
   match i,hi with
   | 0,_=>exact⟨_,rfl,rfl,rfl,rfl⟩
   | 1,_=>exact⟨_,rfl,rfl,rfl,rfl⟩
   | 2,_=>exact⟨_,rfl,rfl,rfl,rfl⟩
   | 3,_=>exact⟨_,rfl,rfl,rfl,rfl⟩
   | 4,_=>exact⟨_,rfl,rfl,rfl,rfl⟩
   | 5,_=>exact⟨_,rfl,rfl,rfl,rfl⟩
   | 6,_=>exact⟨_,rfl,rfl,rfl,rfl⟩
   | 7,_=>exact⟨_,rfl,rfl,rfl,rfl⟩
   | 8,_=>exact⟨_,rfl,rfl,rfl,rfl⟩
section
variable (k d ky f dp:Int)(lf:UInt32)(off:UInt64)(oD:UInt32)(nd qF:Int)(aQ kD:List UInt8)
def Zp:List UInt64:=[UInt64.ofInt d,UInt64.ofInt ky,UInt64.ofInt f,UInt64.ofInt dp,UInt64.ofNat lf.toNat,off,UInt64.ofNat oD.toNat,UInt64.ofInt nd,UInt64.ofInt qF]
theorem wvalue (i:Nat)(hi:i < 9):CV d ky f dp lf off oD nd qF aQ kD ((i+1:Nat):Int)=some ((Zp d ky f dp lf off oD nd qF).getD i 0):=by
  match i,hi with
  | 0,_=>rfl
  | 1,_=>rfl
  | 2,_=>rfl
  | 3,_=>rfl
  | 4,_=>rfl
  | 5,_=>rfl
  | 6,_=>rfl
  | 7,_=>rfl
  | 8,_=>rfl
def ens (b:List UInt8)(i:Nat):List UInt8:=if i=6/\oD=0 then b else pset b (Yz k i).1 (Yz k i).2 ((Zp d ky f dp lf off oD nd qF).getD i 0)
def RV (b:List UInt8)(n:Nat):List UInt8:=(List.range n).foldl (ens k d ky f dp lf off oD nd qF) b
theorem zt (b:List UInt8)(n:Nat):(RV k d ky f dp lf off oD nd qF b n).length=b.length:=by
  unfold RV
  induction n with
  | zero=>rfl
  | succ n ih =>
    rw[List.range_succ,List.foldl_append];simp only[List.foldl_cons,List.foldl_nil,ens];split
    ·exact ih
    ·rw[pset_len,ih]
def enc' (S:Nat):List UInt8:=cpy (cpy (RV k d ky f dp lf off oD nd qF (List.replicate S 0) 9) (S / 2) aQ) (S / 4*3) kD
def encB:List UInt8:=enc' k d ky f dp lf off oD nd qF aQ kD (if k=1 then 64 else 32)
theorem wloop (S q:Nat)(hS:S=64/\q=16∨S=32/\q=8)(m:Int)(hs:aQ.length<=q)(hp:kD.length<=q)(rows:List (Int×Int×Int×List UInt8×Int))(hl:rows.length=9)
    (hr:∀ i:Nat,i < 9->∃ row,aV rows (i:Int)=some row/\row.1=((i+1:Nat):Int)/\row.2.1=((Yz k i).1:Int)/\row.2.2.1=((Yz k i).2:Int)) :
    aZ (rJ d ky f dp lf off oD nd qF aQ kD ((S:Int),m,(q:Int)) rows) (List.replicate S 0,(0:Int))=some (enc' k d ky f dp lf off oD nd qF aQ kD S,0):=by
  refine gZ (fun i=>(RV k d ky f dp lf off oD nd qF (List.replicate S 0) i,(i:Int))) 9 (fun i hi=>?_) ?_
  ·obtain⟨row,h1,h2,h3,h4⟩:=hr i hi;obtain⟨g1,g2⟩:=fpl_le k i hi;unfold rJ rH wM;simp only[];rw[hl,if_pos (by omega),h1];simp only[Option.bind_some];rw[h2,h3,h4,bQ i (by omega)];have hss:RV k d ky f dp lf off oD nd qF (List.replicate S 0) (i+1)=ens k d ky f dp lf off oD nd qF (RV k d ky f dp lf off oD nd qF (List.replicate S 0) i) i:=by
     unfold RV;rw[List.range_succ,List.foldl_append];rfl
   rw[hss];unfold ens;by_cases hc:i=6/\oD=0
   ·rw[if_pos (by simp only[Bool.and_eq_true,decide_eq_true_eq];exact⟨by omega,hc.2⟩),if_pos hc]
   ·rw[if_neg (by simp only[Bool.and_eq_true,decide_eq_true_eq];exact fun h=>hc ⟨by omega,h.2⟩),if_neg hc,wvalue _ _ _ _ _ _ _ _ _ _ _ i hi];simp only[Option.bind_some];rw[wput _ _ _ _ g2 (by rw[zt];simp;omega) (by omega)];rfl
  ·unfold rJ;simp only[];have hlen:(RV k d ky f dp lf off oD nd qF (List.replicate S 0) 9).length=S:=by rw[zt];simp
   have e1:ay ((S:Int) - ay (2*(q:Int)))=((S / 2:Nat):Int):=by rw[bz (n:=2*(q:Int)) (by omega),bz (by omega)];omega
   have e2:ay ((S:Int) - (q:Int))=((S / 4*3:Nat):Int):=by rw[bz (by omega)];omega
   rw[hl,if_neg (by omega),e1,e2,Int.toNat_natCast];rw[Ad (by rw[hlen];omega)];simp only[Option.bind_some,Int.toNat_natCast];have l1:((RV k d ky f dp lf off oD nd qF (List.replicate S 0) 9).take S).drop (S / 2)=(RV k d ky f dp lf off oD nd qF (List.replicate S 0) 9).drop (S / 2):=by rw[List.take_of_length_le (by omega)]
   rw[l1,Zo _ _ _ _ (by rw[List.length_drop,hlen];omega) (by rw[hlen];omega)];have hlen2:(cpy (RV k d ky f dp lf off oD nd qF (List.replicate S 0) 9) (S / 2) aQ).length=S:=by rw[Gx _ _ _ (by omega),hlen]
   rw[Ad (by rw[hlen2];omega)];simp only[Option.bind_some,Int.toNat_natCast];rw[List.take_of_length_le (by omega),Zo _ _ _ _ (by rw[List.length_drop,hlen2];omega) (by rw[hlen2];omega)];rfl
theorem Xd (at_:Nat)(xs:List UInt8)(n:Nat)(b:List UInt8):((List.range n).foldl (fun(b:List UInt8) (i:Nat)=>b.set (at_+i) (xs.getD i 0)) b).length=b.length:=by
  induction n with
  | zero=>rfl
  | succ n ih=>rw[List.range_succ,List.foldl_append];simp only[List.foldl_cons,List.foldl_nil,List.length_set,ih]
theorem getD_in (xs:List UInt8)(i:Nat)(h:i < xs.length):xs.getD i 0=xs[i]:=by simp[List.getD_eq_getElem?_getD,h]
theorem rloop (hk:k=1∨k=2)(S q:Nat)(hS:S=64/\q=16∨S=32/\q=8)(hM:qf k=some (S:Int))(hs:aQ.length<=q)(hp:kD.length<=q) :
    aZ (vC k d ky f dp lf off oD nd qF aQ kD) (List.replicate S 0,(1:Int))=some (enc' k d ky f dp lf off oD nd qF aQ kD S,0):=by
  refine gZ (fun i=>(RV k d ky f dp lf off oD nd qF (List.replicate S 0) i,((i+1:Nat):Int))) 9 (fun i hi=>?_) ?_
  ·obtain⟨g1,g2⟩:=fpl_le k i hi;unfold vC vk zf;simp only[];rw[if_pos (by omega),bQ (i+1) (by omega)];have hss:RV k d ky f dp lf off oD nd qF (List.replicate S 0) (i+1)=ens k d ky f dp lf off oD nd qF (RV k d ky f dp lf off oD nd qF (List.replicate S 0) i) i:=by
     unfold RV;rw[List.range_succ,List.foldl_append];rfl
   rw[hss];unfold ens;by_cases hc:i=6/\oD=0
   ·rw[if_pos (by simp only[Bool.and_eq_true,decide_eq_true_eq];exact⟨by omega,hc.2⟩),if_pos hc]
   ·rw[if_neg (by simp only[Bool.and_eq_true,decide_eq_true_eq];exact fun h=>hc ⟨by omega,h.2⟩),if_neg hc,rplace k hk i hi];simp only[Option.bind_some];have hw:ay (((i+1:Nat):Int) - 1)=(i:Int):=by rw[bz (by omega)];omega
    have hg:aV [UInt64.ofInt d,UInt64.ofInt ky,UInt64.ofInt f,UInt64.ofInt dp,UInt64.ofNat lf.toNat,off,UInt64.ofNat oD.toNat,UInt64.ofInt nd,UInt64.ofInt qF] (i:Int)=some ((Zp d ky f dp lf off oD nd qF).getD i 0):=by
      rw[fG (by simp;omega)];simp[Zp,List.getD_eq_getElem?_getD,hi]
    rw[hw,hg];simp only[Option.bind_some];rw[rput _ _ _ _ g2 (by rw[zt];simp;omega) (by omega)];rfl
  ·unfold vC;simp only[];have hlen:(RV k d ky f dp lf off oD nd qF (List.replicate S 0) 9).length=S:=by rw[zt];simp
   rw[if_neg (by omega),hM];simp only[Option.bind_some];have t4:ay (Int.tdiv (S:Int) 4)=((S / 4:Nat):Int):=by rcases hS with⟨rfl,_⟩ | ⟨rfl,_⟩ <;> rfl
   have e1:ay (2*((S / 4:Nat):Int))=((S / 2:Nat):Int):=by rw[bz (by omega)];omega
   have e2:ay (3*((S / 4:Nat):Int))=((S / 4*3:Nat):Int):=by rw[bz (by omega)];omega
   rw[show aZ (vz aQ kD (S:Int)) (RV k d ky f dp lf off oD nd qF (List.replicate S 0) 9,0)=some (enc' k d ky f dp lf off oD nd qF aQ kD S,0) from ?_]
   ·rfl
   refine gZ (fun i=>((List.range i).foldl (fun(b:List UInt8) (i:Nat)=>b.set (S / 2+i) (aQ.getD i 0)) (RV k d ky f dp lf off oD nd qF (List.replicate S 0) 9),(i:Int))) aQ.length (fun i hi=>?_) ?_
   ·unfold vz;simp only[];rw[if_pos (by omega),t4,e1,fG hi,at_i _ _ (by omega) (by omega),fG (by rw[Xd,hlen];omega),bQ i (by omega),List.range_succ,List.foldl_append];simp only[Option.bind_some,List.foldl_cons,List.foldl_nil,Int.toNat_natCast,getD_in _ _ hi]
   ·unfold vz;simp only[];rw[if_neg (by omega)];rw[show aZ (vw kD (S:Int)) ((List.range aQ.length).foldl (fun(b:List UInt8) (i:Nat)=>b.set (S / 2+i) (aQ.getD i 0)) (RV k d ky f dp lf off oD nd qF (List.replicate S 0) 9),0)=some (enc' k d ky f dp lf off oD nd qF aQ kD S,0) from ?_]
    ·rfl
    have hlen2:(cpy (RV k d ky f dp lf off oD nd qF (List.replicate S 0) 9) (S / 2) aQ).length=S:=by rw[Gx _ _ _ (by omega),hlen]
    refine gZ (fun i=>((List.range i).foldl (fun(b:List UInt8) (i:Nat)=>b.set (S / 4*3+i) (kD.getD i 0)) (cpy (RV k d ky f dp lf off oD nd qF (List.replicate S 0) 9) (S / 2) aQ),(i:Int))) kD.length (fun i hi=>?_) ?_
    ·unfold vw;simp only[];rw[if_pos (by omega),t4,e2,fG hi,at_i _ _ (by omega) (by omega),fG (by rw[Xd,hlen2];omega),bQ i (by omega),List.range_succ,List.foldl_append];simp only[Option.bind_some,List.foldl_cons,List.foldl_nil,Int.toNat_natCast,getD_in _ _ hi]
    ·unfold vw;simp only[];rw[if_neg (by omega)];rfl
theorem enc_ok (h:jm k d ky f dp lf off oD nd qF aQ kD=some 0) :
    pY k d ky f dp lf off oD nd qF aQ kD=some (encB k d ky f dp lf off oD nd qF aQ kD,0)/\mP k d ky f dp lf off oD nd qF aQ kD=some (encB k d ky f dp lf off oD nd qF aQ kD,0):=by
  obtain⟨r,h1,h2⟩:=QX k d ky f dp lf off oD nd qF aQ kD;rw[h] at h1;obtain rfl:=Option.some.inj h1;obtain⟨rows,r1,r2,r3⟩:=wrows k;rcases h2 rfl with⟨rfl,_,_,_,hs,hp⟩ | ⟨rfl,_,_,_,hs,hp⟩
  ·constructor
   ·unfold pY;rw[QW,h,r1];exact wloop 1 d ky f dp lf off oD nd qF aQ kD 64 16 (by omega) 64 hs hp rows r2 r3
   ·unfold mP;rw[h];exact rloop 1 d ky f dp lf off oD nd qF aQ kD (by omega) 64 16 (by omega) rfl hs hp
  ·constructor
   ·unfold pY;rw[QW,h,r1];exact wloop 2 d ky f dp lf off oD nd qF aQ kD 32 8 (by omega) 32 hs hp rows r2 r3
   ·unfold mP;rw[h];exact rloop 2 d ky f dp lf off oD nd qF aQ kD (by omega) 32 8 (by omega) rfl hs hp
theorem encB_len (h:(k=1/\aQ.length<=16/\kD.length<=16)∨(k=2/\aQ.length<=8/\kD.length<=8)):(encB k d ky f dp lf off oD nd qF aQ kD).length=if k=1 then 64 else 32:=by
  unfold encB enc';rcases h with⟨rfl,hs,hp⟩ | ⟨rfl,hs,hp⟩
  ·simp only[if_true];rw[Gx _ _ _ (by rw[Gx _ _ _ (by rw[zt];simp;omega),zt];simp;omega),Gx _ _ _ (by rw[zt];simp;omega),zt];simp
  ·simp only[show ¬ ((2:Int)=1) from by omega,if_false];rw[Gx _ _ _ (by rw[Gx _ _ _ (by rw[zt];simp;omega),zt];simp;omega),Gx _ _ _ (by rw[zt];simp;omega),zt];simp
end
end Go.Sx
namespace Go.Sx
open Go.RowKit
set_option linter.unusedVariables false
set_option linter.unusedSimpArgs false
section
variable {σ:Type}
def qx (f:σ->List UInt8->UInt64×UInt64->σ)(B:Nat)(h:σ)(c:UInt64×UInt64)(M:List UInt8):σ×(UInt64×UInt64)×List UInt8 :=
  if hlt:0 < B/\B < M.length then qx f B (f h (M.take B) (D9 c (UInt64.ofNat B))) (D9 c (UInt64.ofNat B)) (M.drop B) else(h,c,M)
termination_by M.length
decreasing_by simp only[List.length_drop];omega
theorem D_ (f:σ->List UInt8->UInt64×UInt64->σ)(B:Nat)(h:σ)(c:UInt64×UInt64)(M:List UInt8)(hM:M.length<=B):qx f B h c M=(h,c,M):=by
  rw[qx,dif_neg (by omega)]
theorem Ox (f:σ->List UInt8->UInt64×UInt64->σ)(B:Nat)(h:σ)(c:UInt64×UInt64)(M:List UInt8)(hB:0 < B)(hM:B < M.length):qx f B h c M=qx f B (f h (M.take B) (D9 c (UInt64.ofNat B))) (D9 c (UInt64.ofNat B)) (M.drop B):=by
  rw[qx,dif_pos ⟨hB,hM⟩]
theorem YA (f:σ->List UInt8->UInt64×UInt64->σ)(B:Nat)(hB:0 < B):∀ (n:Nat) (h:σ) (c:UInt64×UInt64) (M:List UInt8),M.length<=n->(qx f B h c M).2.2.length<=B/\(qx f B h c M).2.2=M.drop (M.length - (qx f B h c M).2.2.length)/\(qx f B h c M).2.2.length<=M.length:=by
  intro n
  induction n with
  | zero=>intro h c M hM;rw[D_ f B h c M (by omega)];simp;omega
  | succ n ih =>
    intro h c M hM;by_cases hl:B < M.length
    ·rw[Ox f B h c M hB hl];obtain⟨h1,h2,h3⟩:=ih (f h (M.take B) (D9 c (UInt64.ofNat B))) (D9 c (UInt64.ofNat B)) (M.drop B) (by simp only[List.length_drop];omega);refine⟨h1,?_,by simp only[List.length_drop] at h3;omega⟩;rw[List.drop_drop] at h2;simp only[List.length_drop] at h2 h3;rw[show B+(M.length - B - (qx f B (f h (M.take B) (D9 c (UInt64.ofNat B))) (D9 c (UInt64.ofNat B)) (M.drop B)).2.2.length)=M.length - (qx f B (f h (M.take B) (D9 c (UInt64.ofNat B))) (D9 c (UInt64.ofNat B)) (M.drop B)).2.2.length from by omega] at h2;exact h2
    ·rw[D_ f B h c M (by omega)];simp;omega
end
def pad (n:Nat)(xs:List UInt8):List UInt8:=xs++List.replicate (n - xs.length) 0
theorem Kr (n:Nat)(xs:List UInt8)(h:xs.length<=n):(pad n xs).length=n:=by simp[pad];omega
theorem UO (n:Nat):UInt64.ofInt (n:Int)=UInt64.ofNat n:=by
  rw[<- UInt64.toNat_inj];unfold UInt64.ofInt;simp;omega
theorem wadd (c:UInt64×UInt64)(n:UInt64):∃ o,zA c.1 c.2 n=some ((D9 c n).1,(D9 c n).2,o):=⟨_,add_ok _ _ _⟩
theorem radd' (c:UInt64×UInt64)(n:UInt64):∃ o,Cb c.1 c.2 n=some ((D9 c n).1,(D9 c n).2,o):=⟨_,radd _ _ _⟩
theorem wpad (b:List UInt8)(n:Nat)(hb:b.length<=n)(hn:n<=1000):vP b (n:Int)=some (pad n b):=by
  unfold vP;rw[jo (by omega)];simp only[Option.bind_some];rw[gJ (by simp;omega)];simp only[Option.bind_some];have e:ay ((n:Int) - (b.length:Int))=((n - b.length:Nat):Int):=by rw[bz (by omega)];omega
  rw[e];unfold appz;rw[if_pos (by simp;omega)];simp only[Option.bind_some,Int.toNat_natCast];rfl
theorem cut_ok (b:List UInt8)(a n:Nat)(hb:b.length<=33554432)(ha:a<=b.length)(hn:n<=1000):E8 b (a:Int) (n:Int)=some (pad n ((b.drop a).take n)):=by
  unfold E8;have hz:∀ i,i<=n->(pad n ((b.drop a).take n)).take i=pad i ((b.drop a).take i):=by
    intro i hi;unfold pad;rw[List.take_append,List.take_take,Nat.min_eq_left hi,List.take_replicate];congr 2;simp only[List.length_take,List.length_drop];omega
  have hlen:=Kr n ((b.drop a).take n) (by simp;omega);suffices hsf:aZ (AL b (a:Int) (n:Int)) (([]:List UInt8),(0:Int))=some ((pad n ((b.drop a).take n)).take n) by rw[hsf,List.take_of_length_le (by omega)]
  refine gZ (fun i=>((pad n ((b.drop a).take n)).take i,(i:Int))) n (fun i hi=>?_) ?_
  ·unfold AL AB EM;have e1:ay ((a:Int)+(i:Int))=((a+i:Nat):Int):=by rw[bz (by omega)];omega
   have hs:(pad n ((b.drop a).take n)).take (i+1)=(pad n ((b.drop a).take n)).take i++[(pad n ((b.drop a).take n))[i]]:=List.take_succ_eq_append_getElem (by omega);simp only[];rw[if_pos (by omega),e1,hs,bQ i (by omega)];by_cases hin:a+i < b.length
   ·rw[if_pos (by omega),fG hin];simp only[Option.bind_some];rw[gJ (by simp;omega)];simp only[Option.bind_some];have hx:(pad n ((b.drop a).take n))[i]=b[a+i]:=by
      unfold pad;rw[List.getElem_append_left (by simp;omega)];simp
    rw[hx]
   ·rw[if_neg (by omega),gJ (by simp;omega)];simp only[Option.bind_some];have hx:(pad n ((b.drop a).take n))[i]=0:=by
      unfold pad;rw[List.getElem_append_right (by simp;omega)];simp
    rw[hx]
  ·unfold AL;simp only[];rw[if_neg (by omega)];rfl
theorem keyed_ok (k:Int)(B:Nat)(hB:wY k=some (B:Int))(hBl:B<=1000)(key:List UInt8)(hk:key.length<=B):zN k key=some (if key=[] then[] else pad B key):=by
  unfold zN;by_cases h0:key=[]
  ·subst h0;rfl
  rw[if_neg (by have:=List.length_pos_iff.2 h0;omega),if_neg h0];have hlen:=Kr B key hk;suffices hsf:aZ (xe k key) (([]:List UInt8),(0:Int))=some ((pad B key).take B) by rw[hsf,List.take_of_length_le (by omega)]
  refine gZ (fun i=>((pad B key).take i,(i:Int))) B (fun i hi=>?_) ?_
  ·unfold xe wZ Az;have hs:(pad B key).take (i+1)=(pad B key).take i++[(pad B key)[i]]:=List.take_succ_eq_append_getElem (by omega);simp only[];rw[hB];simp only[Option.bind_some];rw[if_pos (by omega),hs,bQ i (by omega)];by_cases hin:i < key.length
   ·rw[if_pos (by omega),fG hin];simp only[Option.bind_some];rw[gJ (by simp;omega)];simp only[Option.bind_some];have hx:(pad B key)[i]=key[i]:=by
      unfold pad;rw[List.getElem_append_left (by omega)]
    rw[hx]
   ·rw[if_neg (by omega),gJ (by simp;omega)];simp only[Option.bind_some];have hx:(pad B key)[i]=0:=by
      unfold pad;rw[List.getElem_append_right (by omega)];simp
    rw[hx]
  ·unfold xe;simp only[];rw[hB];simp only[Option.bind_some];rw[if_neg (by omega)];rfl
end Go.Sx
namespace Go.Sx
open Go.RowKit
set_option linter.unusedVariables false
set_option linter.unusedSimpArgs false
structure Half where
  σ:Type
  k:Int
  B:Nat
  S:Nat
  f:σ->List UInt8->UInt64×UInt64->Bool->Bool->σ
  st:List UInt8->σ
  dig:σ->List UInt8
  emb:σ->Vec UInt64 16
  hk:k=1/\B=128/\S=64∨k=2/\B=64/\S=32
  diglen:∀ h,(dig h).length=S
  hin:∀ h b (c:UInt64×UInt64) last node,b.length=B->Fz k (emb h) b c.1 c.2 last node=some (emb (f h b c last node))
  hbytes:∀ h,zO k (emb h)=some (dig h)
  hfirst:∀ (d ky fn dp:Int) (lf:UInt32) (off:UInt64) (oD:UInt32) (nd qF:Int) (aQ kD key:List UInt8) (last:Bool) (from_:Vec UInt64 16) (lo hi:UInt64) (msg:List UInt8) (cn:UInt64) (blk:List UInt8),mP k d ky fn dp lf off oD nd qF aQ kD=some (blk,0)->blk.length=S ->
    pJ k d ky fn dp lf off oD nd qF aQ kD key last from_ false lo hi msg cn=some (emb (st blk),k,d,ky,fn,dp,lf,off,oD,nd,qF,last,from_,false,lo,hi,msg,cn)
theorem Half.hB (H:Half):wY H.k=some (H.B:Int):=by
  rcases H.hk with⟨h1,h2,_⟩ | ⟨h1,h2,_⟩ <;> rw[h1,h2] <;> rfl
theorem Half.hS (H:Half):zB H.k=some (H.S:Int):=by
  rcases H.hk with⟨h1,_,h2⟩ | ⟨h1,_,h2⟩ <;> rw[h1,h2] <;> rfl
def NK (h:Vec UInt64 8):Vec UInt64 16:=⟨h.l++List.replicate 8 0,by simp[h.h]⟩
theorem embB_g (h:Vec UInt64 8)(i:Nat)(hi:i < 8):(NK h).g i=h.g i:=by
  have hl:i < h.l.length:=by rw[h.h];exact hi
  simp[Vec.g,NK,List.getD_eq_getElem?_getD,List.getElem?_append_left hl]
theorem embB_in (h r:Vec UInt64 8):(List.range 8).foldl (fun v (i:Nat)=>lZ v i (r.g i)) (NK h)=NK r:=by
  obtain⟨a,b,c,d,e,f,g,q,rfl⟩:=vec8 (v:=h);obtain⟨a',b',c',d',e',f',g',q',rfl⟩:=vec8 (v:=r);rfl
theorem embB_out (h:Vec UInt64 8):(List.range 8).foldl (fun v (i:Nat)=>lZ v i ((NK h).g i)) (Vec.rep 8 (0:UInt64))=h:=by
  obtain⟨a,b,c,d,e,f,g,q,rfl⟩:=vec8 (v:=h);rfl
theorem embB_0 (r:Vec UInt64 8):(List.range 8).foldl (fun v (i:Nat)=>lZ v i (r.g i)) (Vec.rep 16 (0:UInt64))=NK r:=by
  obtain⟨a',b',c',d',e',f',g',q',rfl⟩:=vec8 (v:=r);rfl
theorem rin1 (h:Vec UInt64 8)(b:List UInt8)(c:UInt64×UInt64)(last node:Bool)(hb:b.length=128):Fz 1 (NK h) b c.1 c.2 last node=some (NK (Fb h (Wb b) c.1 c.2 last node)):=by
  unfold Fz;rw[if_pos rfl];refine yD _ 8 (fun v (i:Nat)=>lZ v i ((NK h).g i)) _ _ (fun v i hi=>?_) ?_
  ·unfold Gp;simp only[];rw[if_pos (by omega),fO _ _ (by omega),fO _ _ hi,bQ i (by omega)];rfl
  ·rw[embB_out];unfold Gp;simp only[];rw[if_neg (by omega),rWords b hb];simp only[Option.bind_some];rw[rF];simp only[Option.bind_some];rw[show aZ (DN (Fb h (Wb b) c.1 c.2 last node)) (NK h,0)=some (NK (Fb h (Wb b) c.1 c.2 last node)) from ?_]
   ·rfl
   refine yD _ 8 (fun v (i:Nat)=>lZ v i ((Fb h (Wb b) c.1 c.2 last node).g i)) _ _ (fun v i hi=>?_) ?_
   ·unfold DN;simp only[];rw[if_pos (by omega),fO _ _ hi,fO _ _ (by omega),bQ i (by omega)];rfl
   ·rw[embB_in];unfold DN;simp only[];rw[if_neg (by omega)];rfl
theorem rbytes1 (h:Vec UInt64 8):zO 1 (NK h)=some (Byb h):=by
  unfold zO;refine gZ (fun i=>((List.range i).foldl (fun b i=>b++L6 8 (h.g i)) [],(i:Int))) 8 (fun i hi=>?_) rfl;unfold FC;simp only[];have hs:=UL (h.g i) 8 (by omega);rw[if_pos (by omega),fO _ _ (by omega),embB_g h i hi,bQ i (by omega)];simp only[Option.bind_some];rw[show zB 1=some 64 from rfl];simp only[Option.bind_some];rw[show ay (Int.tdiv 64 8)=((8:Nat):Int) from rfl,hs];simp only[Option.bind_some];have hq:(List.range (i+1)).foldl (fun b i=>b++L6 8 (h.g i)) []=(List.range i).foldl (fun b i=>b++L6 8 (h.g i)) []++L6 8 (h.g i):=by rw[List.range_succ,List.foldl_append];rfl
  rw[gJ (by rw[UM _ 8 (fun i=>zq 8 _)];simp;omega),hq];rfl
theorem rfirst1 (d ky fn dp:Int)(lf:UInt32)(off:UInt64)(oD:UInt32)(nd qF:Int)(aQ kD key:List UInt8)(last:Bool)(from_:Vec UInt64 16)(lo hi:UInt64)(msg:List UInt8)(cn:UInt64)(blk:List UInt8)(he:mP 1 d ky fn dp lf off oD nd qF aQ kD=some (blk,0))(hl:blk.length=64) :
    pJ 1 d ky fn dp lf off oD nd qF aQ kD key last from_ false lo hi msg cn=some (NK (Stb blk),1,d,ky,fn,dp,lf,off,oD,nd,qF,last,from_,false,lo,hi,msg,cn):=by
  unfold pJ;rw[if_neg (by decide),he];simp only[Option.bind_some];rw[if_pos trivial,rStart blk hl];simp only[Option.bind_some];refine yD _ 8 (fun v (i:Nat)=>lZ v i ((Stb blk).g i)) _ _ (fun v i hi=>?_) ?_
  ·unfold tq;simp only[];rw[if_pos (by omega),fO _ _ hi,fO _ _ (by omega),bQ i (by omega)];rfl
  ·rw[embB_0];unfold tq;simp only[];rw[if_neg (by omega)];rfl
def big:Half:=⟨Vec UInt64 8,1,128,64,fun h b c last node=>Fb h (Wb b) c.1 c.2 last node,Stb,Byb,NK,.inl ⟨rfl,rfl,rfl⟩,UN,rin1,rbytes1,rfirst1⟩
end Go.Sx
namespace Go.Sx
open Go.RowKit
set_option linter.unusedVariables false
set_option linter.unusedSimpArgs false
def Half.run (H:Half)(blk M:List UInt8):H.σ×(UInt64×UInt64)×List UInt8:=qx (fun h b c=>H.f h b c false false) H.B (H.st blk) (0,0) M
def Half.hash (H:Half)(blk M:List UInt8)(last:Bool):List UInt8 :=
  H.dig (H.f (H.run blk M).1 (pad H.B (H.run blk M).2.2) (D9 (H.run blk M).2.1 (UInt64.ofNat (H.run blk M).2.2.length)) true last)
theorem Half.Xe (H:Half)(blk M:List UInt8)(last:Bool):(H.hash blk M last).length=H.S:=H.diglen _
theorem Half.bp (H:Half):0 < H.B/\H.B<=128:=by rcases H.hk with⟨_,h,_⟩ | ⟨_,h,_⟩ <;> omega
section
variable (H:Half)(d ky fn dp:Int)(lf:UInt32)(off:UInt64)(oD:UInt32)(nd qF:Int)(aQ kD key:List UInt8)(last:Bool)(from_:Vec UInt64 16)(msg:List UInt8)(cn:UInt64)(blk:List UInt8)
theorem passed_ok (he:mP H.k d ky fn dp lf off oD nd qF aQ kD=some (blk,0))(hl:blk.length=H.S)(hm:msg.length<=16000000) :
    rQ H.k d ky fn dp lf off oD nd qF aQ kD key last from_ false 0 0 msg cn =
      some (H.emb (H.run blk msg).1,(H.run blk msg).2.1.1,(H.run blk msg).2.1.2,((msg.length - (H.run blk msg).2.2.length:Nat):Int),H.k,d,ky,fn,dp,lf,off,oD,nd,qF,last,from_,false,0,0,msg,cn):=by
  have hb:=H.bp;unfold rQ;rw[H.hfirst d ky fn dp lf off oD nd qF aQ kD key last from_ 0 0 msg cn blk he hl];simp only[Option.bind_some];rw[H.hB];simp only[Option.bind_some];refine kQ (fun i s=>∃ (h:H.σ) (c:UInt64×UInt64) (a:Nat),s=(H.emb h,c.1,c.2,(a:Int))/\a<=msg.length/\a=i*H.B/\qx (fun h b c=>H.f h b c false false) H.B h c (msg.drop a)=H.run blk msg) _ msg.length _ ⟨H.st blk,(0,0),0,rfl,by omega,by omega,rfl⟩ ?_;rintro i s ⟨h,c,a,rfl,ha,hai,hr⟩;unfold xg;simp only[];have e1:ay ((a:Int)+(H.B:Int))=((a+H.B:Nat):Int):=by rw[bz (by omega)];omega
  rw[e1];by_cases hlt:a+H.B < msg.length
  ·left;have hil:i<=i*H.B:=Nat.le_mul_of_pos_right i hb.1;obtain⟨o,hadd⟩:=radd' c (UInt64.ofNat H.B);refine⟨by omega,(H.emb (H.f h ((msg.drop a).take H.B) (D9 c (UInt64.ofNat H.B)) false false),(D9 c (UInt64.ofNat H.B)).1,(D9 c (UInt64.ofNat H.B)).2,((a+H.B:Nat):Int)),?_,H.f h ((msg.drop a).take H.B) (D9 c (UInt64.ofNat H.B)) false false,D9 c (UInt64.ofNat H.B),a+H.B,rfl,by omega,by rw[hai,Nat.succ_mul],?_⟩
   ·rw[if_pos (by omega),UO,hadd];simp only[Option.bind_some];rw[cut_ok msg a H.B (by omega) (by omega) (by omega)];simp only[Option.bind_some];have hp:pad H.B ((msg.drop a).take H.B)=(msg.drop a).take H.B:=by
      unfold pad;rw[show H.B - ((msg.drop a).take H.B).length=0 from by simp;omega];simp
    rw[hp,H.hin h _ (D9 c (UInt64.ofNat H.B)) false false (by simp;omega)];rfl
   ·rw[<- hr,Ox _ H.B h c (msg.drop a) hb.1 (by simp;omega),List.drop_drop]
  ·right;rw[if_neg (by omega)];have hst:=D_ (fun h b c=>H.f h b c false false) H.B h c (msg.drop a) (by simp;omega);rw[hst] at hr;rw[<- hr];simp only[Option.map_some,Option.some.injEq,Sum.inr.injEq,Prod.mk.injEq,true_and,and_true,List.length_drop];omega
theorem Half.held (H:Half)(blk M:List UInt8):(H.run blk M).2.2.length<=H.B/\(H.run blk M).2.2=M.drop (M.length - (H.run blk M).2.2.length)/\(H.run blk M).2.2.length<=M.length :=
  YA _ H.B H.bp.1 M.length _ _ M (Nat.le_refl _)
theorem rout_ok (he:mP H.k d ky fn dp lf off oD nd qF aQ kD=some (blk,0))(hl:blk.length=H.S)(hm:msg.length<=16000000) :
    xk H.k d ky fn dp lf off oD nd qF aQ kD key last from_ false 0 0 msg cn=some (H.hash blk msg last,H.k,d,ky,fn,dp,lf,off,oD,nd,qF,last,from_,false,0,0,msg,cn):=by
  have hb:=H.bp;unfold xk;rw[passed_ok H d ky fn dp lf off oD nd qF aQ kD key last from_ msg cn blk he hl hm];simp only[Option.bind_some];obtain⟨h1,h2,h3⟩:=H.held blk msg;have e1:ay ((msg.length:Int) - ((msg.length - (H.run blk msg).2.2.length:Nat):Int))=(((H.run blk msg).2.2.length:Nat):Int):=by rw[bz (by omega)];omega
  obtain⟨o,hadd⟩:=radd' (H.run blk msg).2.1 (UInt64.ofNat (H.run blk msg).2.2.length);rw[e1,UO,hadd];simp only[Option.bind_some];rw[H.hB];simp only[Option.bind_some];rw[cut_ok msg _ H.B (by omega) (by omega) (by omega),<-h2];simp only[Option.bind_some];rw[List.take_of_length_le h1];rw[H.hin _ _ _ true last (Kr _ _ h1)];simp only[Option.bind_some];rw[H.hbytes];rfl
theorem rwrite_ok (b:List UInt8)(lo hi:UInt64)(old:Bool)(hm:msg.length+b.length<=16000000) :
    tZ H.k d ky fn dp lf off oD nd qF aQ kD key last from_ old lo hi msg cn b=some (H.k,d,ky,fn,dp,lf,off,oD,nd,qF,last,from_,old,lo,hi,msg++b,cn+UInt64.ofInt ((b.length:Nat):Int)):=by
  unfold tZ;rw[show((msg,(0:Int)):List UInt8×Int)=(msg++b.take 0,((0:Nat):Int)) from by simp];refine gZ (fun i=>(msg++b.take i,(i:Int))) b.length (fun i hi=>?_) ?_
  ·unfold sZ;simp only[];rw[if_pos (by omega),fG hi];simp only[Option.bind_some];rw[gJ (by simp;omega),bQ i (by omega),List.take_succ_eq_append_getElem hi,List.append_assoc];rfl
  ·unfold sZ;simp only[];rw[if_neg (by omega),List.take_length];rfl
end
def Half.ans (H:Half)(blk M:List UInt8)(last:Bool)(out:Int):List UInt8×Int:=if out < 1∨(H.S:Int) < out then([],1) else((H.hash blk M last).take out.toNat,0)
def Half.kb (H:Half)(key:List UInt8):List UInt8:=if key=[] then[] else pad H.B key
theorem Half.kb_len (H:Half)(key:List UInt8)(h:key.length<=H.B):(H.kb key).length<=H.B:=by
  unfold Half.kb;split
  ·simp
  ·rw[Kr _ _ h];exact Nat.le_refl _
theorem rhash_ok (H:Half)(d ky fn dp:Int)(lf:UInt32)(off:UInt64)(oD:UInt32)(nd qF:Int)(aQ kD key:List UInt8)(last:Bool)(out:Int)(data blk:List UInt8)(hc:jm H.k d ky fn dp lf off oD nd qF aQ kD=some 0)(he:mP H.k d ky fn dp lf off oD nd qF aQ kD=some (blk,0))(hl:blk.length=H.S)(hkey:key=[]∨(key.length:Int)=ky)(hkl:key.length<=H.B)(hd:data.length<=12000000) :
    xn H.k d ky fn dp lf off oD nd qF aQ kD key last out data=some (H.ans blk (H.kb key++data) last out):=by
  have hb:=H.bp;unfold xn J5;rw[hc];simp only[Option.bind_some,ne_eq,not_true_eq_false,if_false];rw[if_neg (by
    simp only[Bool.and_eq_true,decide_eq_true_eq];rintro⟨h1,h2⟩;rcases hkey with rfl | h
    ·exact h1 rfl
    ·exact h2 h)]
  rw[show zN H.k key=some (H.kb key) from keyed_ok H.k H.B H.hB (by omega) key hkl];simp only[Option.bind_some,Sum.elim_inr];unfold Half.ans;by_cases h1:out < 1
  ·rw[if_pos h1,if_pos (.inl h1)]
  rw[if_neg h1,H.hS];simp only[Option.bind_some];by_cases h2:(H.S:Int) < out
  ·rw[if_pos h2,if_pos (.inr h2)]
  rw[if_neg h2,if_neg (by omega)];have hkb:=H.kb_len key hkl;rw[rwrite_ok H d ky fn dp lf off oD nd qF aQ kD key last (Vec.rep 16 0) (H.kb key) 0 data 0 0 false (by omega)];simp only[Option.bind_some];rw[rout_ok H d ky fn dp lf off oD nd qF aQ kD key last _ _ _ blk he hl (by rw[List.length_append];omega)];simp only[Option.bind_some];rw[Ad (by rw[H.Xe];omega)];simp
end Go.Sx
namespace Go.Sx
open Go.RowKit
set_option linter.unusedVariables false
set_option linter.unusedSimpArgs false
def fB (h:Vec UInt64 8)(b:List UInt8)(c:UInt64×UInt64)(last node:Bool):Vec UInt64 8:=Fb h (Wb b) c.1 c.2 last node
theorem SS (h:Vec UInt64 8)(b:List UInt8)(c:UInt64×UInt64)(last node:Bool)(hb:b.length=128):vS h b c.1 c.2 last node=some (fB h b c last node):=by
  unfold vS;rw[wWords b hb];simp only[Option.bind_some];rw[wF];rfl
theorem wj0B (b:List UInt8)(h:Vec UInt64 8)(lo hi:UInt64)(held:List UInt8)(hb:b.length<=12000000)(hh:held.length<=128) :
    ji 128 b h lo hi held=some (.inl (h,lo,hi,held++b.take (min (128 - held.length) b.length),b.drop (min (128 - held.length) b.length))):=by
  unfold ji;have e1:ay ((128:Int) - ((held.length:Nat):Int))=((128 - held.length:Nat):Int):=by rw[bz (by omega)];omega
  have e2:(if ay ((128:Int) - ((held.length:Nat):Int)) < ((b.length:Nat):Int) then ay ((128:Int) - ((held.length:Nat):Int)) else((b.length:Nat):Int))=((min (128 - held.length) b.length:Nat):Int):=by
    rw[e1];split <;> omega
  rw[e2,Ad (by omega)];simp only[Option.bind_some,Int.toNat_natCast,Int.toNat_zero,List.drop_zero];rw[gJ (by simp;omega),Ad (by omega)];simp only[Option.bind_some,Int.toNat_natCast];rw[List.take_of_length_le (i:=b.length) (Nat.le_refl _)]
theorem Zq (h:Vec UInt64 8)(c:UInt64×UInt64)(held b:List UInt8)(hb:b.length<=12000000)(hh:held.length<=128) :
    jQ h c.1 c.2 held 128 b=some ((qx (fun h b c=>fB h b c false false) 128 h c (held++b)).1,(qx (fun h b c=>fB h b c false false) 128 h c (held++b)).2.1.1,(qx (fun h b c=>fB h b c false false) 128 h c (held++b)).2.1.2,(qx (fun h b c=>fB h b c false false) 128 h c (held++b)).2.2,128):=by
  unfold jQ;refine kQ (fun i s=>∃ (h':Vec UInt64 8) (c':UInt64×UInt64) (held' b':List UInt8),s=(h',c'.1,c'.2,held',b')/\held'.length<=128/\b'.length+i<=b.length/\qx (fun h b c=>fB h b c false false) 128 h' c' (held'++b')=qx (fun h b c=>fB h b c false false) 128 h c (held++b)) _ b.length _ ⟨h,c,held,b,rfl,hh,by omega,rfl⟩ ?_;rintro i s ⟨h',c',held',b',rfl,hh',hbl,hr⟩;rw[<- hr];unfold oL;simp only[];by_cases h0:b'.length=0
  ·right;obtain rfl:=List.length_eq_zero_iff.1 h0;rw[if_neg (by simp),List.append_nil,D_ _ _ _ _ _ hh'];rfl
  ·left;refine⟨by omega,?_⟩;rw[if_pos (by omega)];by_cases hf:held'.length=128
   ·rw[if_pos (by omega)];obtain⟨o,hadd⟩:=wadd c' (UInt64.ofNat 128);have e3:UInt64.ofInt 128=UInt64.ofNat 128:=rfl;rw[e3,hadd];simp only[Option.bind_some];rw[SS h' held' (D9 c' (UInt64.ofNat 128)) false false hf];simp only[Option.bind_some];rw[Ad (by omega)];simp only[Option.bind_some,Int.toNat_zero,List.take_zero,List.drop_nil];rw[wj0B b' _ _ _ [] (by omega) (by simp)];refine⟨_,rfl,_,D9 c' (UInt64.ofNat 128),_,_,rfl,by simp;omega,by simp;omega,?_⟩;rw[Ox _ 128 h' c' (held'++b') (by omega) (by simp;omega)];rw[show(held'++b').take 128=held' from by rw[List.take_append_of_le_length (by omega),List.take_of_length_le (by omega)],show(held'++b').drop 128=b' from by rw[<- hf,List.drop_left]];rw[List.nil_append,List.take_append_drop]
   ·rw[if_neg (by omega),wj0B b' _ _ _ held' (by omega) hh'];refine⟨_,rfl,_,c',_,_,rfl,by simp;omega,by simp;omega,?_⟩;rw[List.append_assoc,List.take_append_drop]
theorem woutB (h:Vec UInt64 8)(c:UInt64×UInt64)(held:List UInt8)(node:Bool)(hh:held.length<=128) :
    mO h c.1 c.2 held 128 node=some (Byb (fB h (pad 128 held) (D9 c (UInt64.ofNat held.length)) true node),h,c.1,c.2,held,128):=by
  unfold mO ni;obtain⟨o,hadd⟩:=wadd c (UInt64.ofNat held.length);rw[UO,hadd];simp only[Option.bind_some];have:=wpad held 128 hh (by omega);rw[show((128:Nat):Int)=128 from rfl] at this;rw[this];simp only[Option.bind_some];rw[SS h _ (D9 c (UInt64.ofNat held.length)) true node (Kr _ _ hh)];simp only[Option.bind_some];rw[wBytes];rfl
end Go.Sx
namespace Go.Sx
open Go.RowKit
set_option linter.unusedVariables false
set_option linter.unusedSimpArgs false
theorem beginB (d:Int)(blk key:List UInt8)(hl:blk.length=64)(hk:key.length<=128):rM 1 d blk key false 0=some (1,d,blk,key,Stb blk,0,0,big.kb key,128):=by
  unfold rM EH;rw[if_pos rfl];rw[wStart blk hl];simp only[Option.bind_some,Sum.elim_inl];unfold Half.kb;by_cases h0:key=[]
  ·subst h0;rfl
  ·rw[if_pos (by have:=List.length_pos_iff.2 h0;omega),if_neg h0];have hp:=wpad key 128 hk (by omega);rw[show((128:Nat):Int)=128 from rfl] at hp;rw[show tX 1=some 128 from rfl];simp only[Option.bind_some];rw[hp];simp only[Option.bind_some];have hlen:=Kr 128 key hk;rw[Zq (Stb blk) (0,0) [] (pad 128 key) (by omega) (by simp)];rw[List.nil_append,D_ _ _ _ _ _ (by omega)];rfl
theorem wouB (d:Int)(blk key:List UInt8)(last:Bool)(wr:UInt64)(h:Vec UInt64 8)(c:UInt64×UInt64)(held:List UInt8)(hh:held.length<=128)(out:Int):∃ t,ve 1 d blk key last wr h c.1 c.2 held 128 out=some t/\(t.1,t.2.1)=(if out < 1∨(64:Int) < out then([],1) else((Byb (fB h (pad 128 held) (D9 c (UInt64.ofNat held.length)) true last)).take out.toNat,0)):=by
  unfold ve xX;simp only[Option.bind_some];by_cases h1:out < 1
  ·rw[if_pos h1,if_pos (.inl h1)];exact⟨_,rfl,rfl⟩
  rw[if_neg h1,show tX 1=some 128 from rfl];simp only[Option.bind_some];rw[show ay (Int.tdiv 128 2)=(64:Int) from rfl];by_cases h2:(64:Int) < out
  ·rw[if_pos h2,if_pos (.inr h2)];exact⟨_,rfl,rfl⟩
  rw[if_neg h2,if_neg (by omega),woutB h c held last hh];simp only[Option.bind_some];rw[Ad (by rw[UN];omega)];simp only[Option.bind_some];rw[jo (by rw[UN];omega)];exact⟨_,rfl,by simp⟩
theorem whashB (d ky fn dp:Int)(lf:UInt32)(off:UInt64)(oD:UInt32)(nd qF:Int)(aQ kD key:List UInt8)(last:Bool)(out:Int)(data blk:List UInt8)(he:pY 1 d ky fn dp lf off oD nd qF aQ kD=some (blk,0))(hl:blk.length=64)(hkey:key=[]∨(key.length:Int)=ky)(hkl:key.length<=128)(hd:data.length<=12000000) :
    rO 1 d ky fn dp lf off oD nd qF aQ kD key last out data=some (big.ans blk (big.kb key++data) last out):=by
  unfold rO Ij;rw[he];simp only[Option.bind_some,ne_eq,not_true_eq_false,if_false];rw[if_neg (by
    simp only[Bool.and_eq_true,decide_eq_true_eq];rintro⟨h1,h2⟩;rcases hkey with rfl | h
    ·exact h1 rfl
    ·exact h2 h)]
  unfold Gm;rw[gJ (by simp;omega),gJ (by simp;omega)];simp only[Option.bind_some,List.nil_append];rw[beginB d blk key hl hkl];simp only[Option.bind_some,Sum.elim_inl,Sum.elim_inr];have hkb:=big.kb_len key hkl;rw[Zq (Stb blk) (0,0) (big.kb key) data hd hkb];simp only[Option.bind_some];obtain⟨h1,h2,h3⟩:=big.held blk (big.kb key++data);obtain⟨t,ht1,ht2⟩:=wouB d blk key last 0 (qx (fun h b c=>fB h b c false false) 128 (Stb blk) (0,0) (big.kb key++data)).1 (qx (fun h b c=>fB h b c false false) 128 (Stb blk) (0,0) (big.kb key++data)).2.1 (qx (fun h b c=>fB h b c false false) 128 (Stb blk) (0,0) (big.kb key++data)).2.2 h1 out;rw[ht1];simp only[Option.bind_some,Option.some.injEq];exact ht2
end Go.Sx
namespace Go.Sx
open Go.RowKit
set_option linter.unusedVariables false
set_option linter.unusedSimpArgs false
theorem hash_ok (d ky fn dp:Int)(lf:UInt32)(off:UInt64)(oD:UInt32)(nd qF:Int)(aQ kD key:List UInt8)(last:Bool)(out:Int)(data:List UInt8)(hc:jm 1 d ky fn dp lf off oD nd qF aQ kD=some 0)(hkey:key=[]∨(key.length:Int)=ky)(hd:data.length<=12000000) :
    ∃ (H:Half) (blk M:List UInt8),H.k=1/\rO 1 d ky fn dp lf off oD nd qF aQ kD key last out data=some (H.ans blk M last out)/\xn 1 d ky fn dp lf off oD nd qF aQ kD key last out data=some (H.ans blk M last out):=by
  obtain⟨r,h1,h2⟩:=QX 1 d ky fn dp lf off oD nd qF aQ kD;rw[hc] at h1;obtain rfl:=Option.some.inj h1;obtain⟨he1,he2⟩:=enc_ok 1 d ky fn dp lf off oD nd qF aQ kD hc;rcases h2 rfl with⟨_,_,_,h3,hs,hp⟩ | ⟨h,_⟩
  ·have hl:(encB 1 d ky fn dp lf off oD nd qF aQ kD).length=64:=by rw[encB_len _ _ _ _ _ _ _ _ _ _ _ _ (.inl ⟨rfl,hs,hp⟩)];rfl
   have hkl:key.length<=128:=by
     rcases hkey with rfl | h
     ·simp
     ·omega
   exact⟨big,_,_,rfl,whashB d ky fn dp lf off oD nd qF aQ kD key last out data _ he1 hl hkey hkl hd,rhash_ok big d ky fn dp lf off oD nd qF aQ kD key last out data _ hc he2 hl hkey hkl hd⟩
  ·cases h
end Go.Sx
namespace Go.Sx
open Go.RowKit
set_option linter.unusedVariables false
set_option linter.unusedSimpArgs false
theorem UQ (n:Int)(m:Int)(hm:0 < m):Int.tmod n m=if 0<=n then n % m else -((-n) % m):=by
  split
  ·rename_i h;rw[Int.tmod_eq_emod_of_nonneg h]
  ·rename_i h;have:n=-(-n):=by omega
   rw[this,Int.neg_tmod,Int.tmod_eq_emod_of_nonneg (by omega)];simp
theorem rsame (a b:List UInt8)(h:a.length<=4194304):Fh a b=some (decide (a=b)):=by
  unfold Fh;by_cases hl:a.length=b.length
  ·rw[if_neg (by omega)];refine kQ (fun i s=>s=(i:Int)/\i<=a.length/\a.take i=b.take i) _ a.length 0 ⟨rfl,by omega,by simp⟩ ?_;rintro i s ⟨rfl,hi,ht⟩;unfold GK;by_cases hlt:i < a.length
   ·rw[if_pos (by omega),fG hlt,fG (xs:=b) (by omega)];simp only[Option.bind_some];by_cases hx:a[i]=b[i]
    ·left;refine⟨hlt,_,by rw[if_neg (by simpa using hx)],?_,by omega,?_⟩
     ·rw[bz (by omega)];rfl
     ·rw[List.take_succ_eq_append_getElem hlt,List.take_succ_eq_append_getElem (by omega:i < b.length),ht,hx]
    ·right;rw[if_pos (by simpa using hx)];simp only[Option.map_some,Option.some.injEq,Sum.inr.injEq];symm;simp only[decide_eq_false_iff_not];rintro rfl;exact hx rfl
   ·right;obtain rfl:i=a.length:=by omega
    rw[if_neg (by omega)];rw[List.take_length,hl,List.take_length] at ht;simp[ht]
  ·rw[if_pos (by omega)];have:a≠b:=by rintro rfl;exact hl rfl
   simp[this]
theorem getD_at {α:Type}(l:List α)(i:Nat)(d:α)(h:i < l.length):l.getD i d=l[i]:=by
  rw[List.getD_eq_getElem?_getD,List.getElem?_eq_getElem h];rfl
def dgN (n:Nat):Nat:=if 48<=n/\n<=57 then n - 48 else if 97<=n/\n<=102 then n - 87 else if 65<=n/\n<=70 then n - 55 else 16
def dg (c:UInt8):Nat:=dgN c.toNat
theorem JP {p:UInt8->Prop}(h:∀ n:Nat,n < 256->p (UInt8.ofNat n))(c:UInt8):p c:=by
  have:=h c.toNat c.toNat_lt;simpa using this
def dgs (s:List UInt8)(j:Nat):Nat:=dg (s.getD j 0)
def hx (s:List UInt8)(i:Nat):List UInt8:=(List.range ((i+1) / 2)).map fun j=>UInt8.ofNat (16*dgs s (2*j)+if 2*j+1 < i then dgs s (2*j+1) else 0)
theorem tmod2 (n:Nat):Int.tmod (n:Int) 2=((n % 2:Nat):Int):=by rw[UQ _ _ (by omega),if_pos (by omega)];omega
theorem tmod4 (n:Nat):Int.tmod (n:Int) 4=((n % 4:Nat):Int):=by rw[UQ _ _ (by omega),if_pos (by omega)];omega
def wv (f:Nat->Nat)(a:Nat):Nat->Nat
  | 0=>0
  | n+1=>2*wv f a n+f (a+n)
theorem NL {f:Nat->Nat}(hf:∀ k,f k < 2)(a n:Nat):wv f a n < 2 ^ n:=by
  induction n with
  | zero=>simp[wv]
  | succ n ih=>have:=hf (a+n);simp only[wv,Nat.pow_succ];omega
theorem YB (f:Nat->Nat)(a n m:Nat):wv f a (n+m)=wv f a n*2 ^ m+wv f (a+n) m:=by
  induction m with
  | zero=>simp[wv]
  | succ m ih =>
    show 2*wv f a (n+m)+f (a+(n+m))=wv f a n*2 ^ (m+1)+(2*wv f (a+n) m+f (a+n+m))
    rw[ih,Nat.pow_succ,<-Nat.mul_assoc,Nat.add_assoc a n m];omega
theorem wv_num (f:Nat->Nat)(a:Nat):∀ (n N:Nat),(∀ j,j < n->f (a+j)=N / 2 ^ (n - 1 - j) % 2)->wv f a n=N % 2 ^ n:=by
  intro n
  induction n with
  | zero=>intro N _;simp[wv,Nat.mod_one]
  | succ n ih =>
    intro N h;have h1:wv f a n=(N / 2) % 2 ^ n:=ih (N / 2) (fun j hj=>by
      rw[h j (by omega),Nat.div_div_eq_div_mul,<-Nat.pow_succ'];congr 3;omega)
    have h2:=h n (by omega);simp only[wv,h1,h2];rw[show n+1 - 1 - n=0 from by omega,Nat.pow_zero,Nat.div_one,Nat.pow_succ',Nat.mod_mul];omega
theorem wv_bit {f:Nat->Nat}(hf:∀ k,f k < 2)(a n:Nat):∀ j,j < n->wv f a n / 2 ^ (n - 1 - j) % 2=f (a+j):=by
  intro j hj;obtain⟨m,rfl⟩:∃ m,n=j+1+m:=⟨n - j - 1,by omega⟩
  have hm:=NL hf (a+(j+1)) m;rw[YB,show j+1+m - 1 - j=m from by omega,Nat.mul_comm,Nat.mul_add_div (Nat.pow_pos (by omega)),Nat.div_eq_of_lt hm];have:=hf (a+j);simp only[wv];omega
theorem zero_wv {f:Nat->Nat}(a n:Nat)(h:wv f a n=0):∀ j,j < n->f (a+j)=0:=by
  induction n with
  | zero=>intro j hj;omega
  | succ n ih =>
    simp only[wv] at h;intro j hj;by_cases hjn:j=n
    ·subst hjn;omega
    ·exact ih (by omega) j (by omega)
def Xf:List UInt8:=[65,66,67,68,69,70,71,72,73,74,75,76,77,78,79,80,81,82,83,84,85,86,87,88,89,90,97,98,99,100,101,102,103,104,105,106,107,108,109,110,111,112,113,114,115,116,117,118,119,120,121,122,48,49,50,51,52,53,54,55,56,57,43,47]
theorem UR {i:Nat}(h:i < 64):aV Xf (i:Int)=some (Xf.getD i 0):=by
  rw[fG (xs:=Xf) (by simpa [Xf] using h),getD_at _ _ _ (by simpa [Xf] using h)]
def ltN (n:Nat):Nat:=if 65<=n/\n<=90 then n - 65 else if 97<=n/\n<=122 then n - 71 else if 48<=n/\n<=57 then n+4 else if n=43 then 62 else if n=47 then 63 else 64
def lt (c:UInt8):Nat:=ltN c.toNat
theorem lt_le (c:UInt8):lt c<=64:=by
  unfold lt ltN;split
  ·omega
  split
  ·omega
  split
  ·omega
  split
  ·omega
  split <;> omega
theorem lt_tbl:∀ i:Nat,i < 64->lt (Xf.getD i 0)=i:=by decide +kernel
theorem tbl_lt (c:UInt8)(h:lt c < 64):Xf.getD (lt c) 0=c:=by
  have:=JP (p:=fun c=>lt c < 64->Xf.getD (lt c) 0=c) (by decide +kernel) c;exact this h
theorem wletter (c:UInt8):vO c=some (if lt c < 64 then(UInt32.ofNat (lt c),true) else(0,false)):=by
  refine JP (p:=fun c=>vO c=some (if lt c < 64 then(UInt32.ofNat (lt c),true) else(0,false))) ?_ c;unfold vO;decide +kernel
theorem PQ (c:UInt8):uI c=some (if lt c < 64 then(lt c:Int) else -1):=by
  unfold uI;refine kQ (fun i s=>s=(i:Int)/\i<=lt c) _ (lt c) _ ⟨rfl,by omega⟩ ?_;rintro i s ⟨rfl,hi⟩;have hle:=lt_le c;show(i < lt c/\∃ s',y7 c (i:Int)=some (.inl s')/\s'=((i+1:Nat):Int)/\i+1<=lt c)∨_;unfold y7;simp only[];by_cases h64:i < 64
  ·have e:=UR h64;unfold Xf at e;rw[if_pos (by omega),e];simp only[Option.bind_some];by_cases hc:i=lt c
   ·right;subst hc;have:=tbl_lt c h64;unfold Xf at this;rw[if_pos this,if_pos h64];rfl
   ·left;refine⟨by omega,_,?_,rfl,by omega⟩;have hne:¬ Xf.getD i 0=c:=by
      intro h;have:=lt_tbl i h64;rw[h] at this;omega
    unfold Xf at hne;rw[if_neg hne,bz (by omega)];rfl
  ·right;rw[if_neg (by omega),if_neg (by omega)];rfl
def bit (b:List UInt8)(k:Nat):Nat:=(b.getD (k / 8) 0).toNat / 2 ^ (7 - k % 8) % 2
theorem QY (b:List UInt8)(k:Nat):bit b k < 2:=Nat.mod_lt _ (by omega)
theorem JQ {α:Type}(l:List α)(i:Nat)(d:α)(h:l.length<=i):l.getD i d=d:=by
  rw[List.getD_eq_getElem?_getD,List.getElem?_eq_none h];rfl
theorem Zr (b:List UInt8)(k:Nat)(h:8*b.length<=k):bit b k=0:=by
  unfold bit;rw[JQ _ _ _ (by omega)];simp
def GZ (b:List UInt8)(n:Nat):List UInt8:=(List.range n).map fun m=>Xf.getD (wv (bit b) (6*m) 6) 0
theorem QZ (b:List UInt8)(n:Nat):(GZ b n).length=n:=by simp[GZ]
theorem Oy (b:List UInt8)(n:Nat):GZ b n++[Xf.getD (wv (bit b) (6*n) 6) 0]=GZ b (n+1):=by
  unfold GZ;rw[List.range_succ,List.map_append];rfl
def enc (b:List UInt8):List UInt8:=GZ b ((8*b.length+5) / 6)
theorem wv6 (b:List UInt8)(a:Nat):wv (bit b) a 6 < 64:=NL (QY b) a 6
theorem shr8_nat (x:UInt8)(k:Nat):(Rz x k).toNat=x.toNat / 2 ^ k:=by
  simp[Rz,Nat.shiftRight_eq_div_pow]
theorem rb64_in (b:List UInt8)(hb:b.length<=4194304)(i:Nat)(hi:i < b.length) :
    aZ (yZ b (i:Int)) (GZ b (8*i / 6),((8*i % 6:Nat):Int),((wv (bit b) (6*(8*i / 6)) (8*i % 6):Nat):Int),7)
      = some (.inl (GZ b (8*(i+1) / 6),((8*(i+1) % 6:Nat):Int),((wv (bit b) (6*(8*(i+1) / 6)) (8*(i+1) % 6):Nat):Int),((i+1:Nat):Int))):=by
  refine kQ (fun j s=>s=(GZ b ((8*i+j) / 6),(((8*i+j) % 6:Nat):Int),((wv (bit b) (6*((8*i+j) / 6)) ((8*i+j) % 6):Nat):Int),(7:Int) - j)/\j<=8) _ 8 _ ⟨by simp,by omega⟩ ?_;rintro j s ⟨rfl,hj⟩;unfold yZ;simp only[];by_cases hlt:j < 8
  ·left;refine⟨hlt,(GZ b ((8*i+(j+1)) / 6),(((8*i+(j+1)) % 6:Nat):Int),((wv (bit b) (6*((8*i+(j+1)) / 6)) ((8*i+(j+1)) % 6):Nat):Int),(7:Int) - ((j+1:Nat):Int)),?_,rfl,by omega⟩;rw[if_pos (by omega),fG hi,jo (by omega)];simp only[Option.bind_some];have hw:=NL (QY b) (6*((8*i+j) / 6)) ((8*i+j) % 6);have hp6:2 ^ ((8*i+j) % 6)<=2 ^ 6:=Nat.pow_le_pow_right (by omega) (by omega);have e1:ay ((((8*i+j) % 6:Nat):Int)+1)=(((8*i+j) % 6+1:Nat):Int):=by rw[bz (by omega)];omega
   have ek:Int.toNat (7 - (j:Int))=7 - j:=by omega
   have ebit:((Rz b[i] (7 - j)).toNat:Nat) % 2=bit b (8*i+j):=by
     rw[shr8_nat];unfold bit;rw[show(8*i+j) / 8=i from by omega,show(8*i+j) % 8=j from by omega,getD_at _ _ _ hi]
   have e2:Int.tmod ((Rz b[i] (7 - j)).toNat:Int) 2=((bit b (8*i+j):Nat):Int):=by rw[tmod2,ebit]
   have hb2:=QY b (8*i+j);have e3:ay (2*((wv (bit b) (6*((8*i+j) / 6)) ((8*i+j) % 6):Nat):Int))=((2*wv (bit b) (6*((8*i+j) / 6)) ((8*i+j) % 6):Nat):Int):=by rw[bz (by omega)];omega
   have e4:ay (((2*wv (bit b) (6*((8*i+j) / 6)) ((8*i+j) % 6):Nat):Int)+((bit b (8*i+j):Nat):Int))=((wv (bit b) (6*((8*i+j) / 6)) ((8*i+j) % 6+1):Nat):Int):=by
     rw[bz (by omega)];simp only[wv];rw[show 6*((8*i+j) / 6)+(8*i+j) % 6=8*i+j from by omega];omega
   rw[ek,e1,e2,e3,e4];have e5:ay (7 - (j:Int) - 1)=(7:Int) - ((j+1:Nat):Int):=by rw[bz (by omega)];omega
   by_cases h6:(8*i+j) % 6+1=6
   ·rw[if_pos (by omega),h6];have e6:=UR (wv6 b (6*((8*i+j) / 6)));unfold Xf at e6;rw[e6];simp only[Option.bind_some];rw[gJ (by rw[QZ];simp;omega)];simp only[Option.bind_some,qP,e5];have q1:(8*i+(j+1)) / 6=(8*i+j) / 6+1:=by omega
    have q2:(8*i+(j+1)) % 6=0:=by omega
    rw[q1,q2,<-Oy];rfl
   ·rw[if_neg (by omega)];simp only[qP,e5];have q1:(8*i+(j+1)) / 6=(8*i+j) / 6:=by omega
    have q2:(8*i+(j+1)) % 6=(8*i+j) % 6+1:=by omega
    rw[q1,q2]
  ·right;obtain rfl:j=8:=by omega
   rw[if_neg (by omega)];have e5:ay ((i:Int)+1)=((i+1:Nat):Int):=by rw[bz (by omega)];omega
   rw[e5];rfl
theorem Zt (b:List UInt8)(hb:b.length<=4194304):xU b=some (enc b):=by
  unfold xU;refine kQ (fun i s=>s=(GZ b (8*i / 6),((8*i % 6:Nat):Int),((wv (bit b) (6*(8*i / 6)) (8*i % 6):Nat):Int),(i:Int))/\i<=b.length) _ b.length _ ⟨by simp[GZ,wv],by omega⟩ ?_;rintro i s ⟨rfl,hi⟩;unfold Ee;simp only[];by_cases hlt:i < b.length
  ·left;refine⟨hlt,_,?_,rfl,by omega⟩;rw[if_pos (by omega),rb64_in b hb i hlt]
  ·right;obtain rfl:i=b.length:=by omega
   rw[if_neg (by omega)];have hw:=NL (QY b) (6*(8*b.length / 6)) (8*b.length % 6);have hp6:2 ^ (8*b.length % 6)<=2 ^ 6:=Nat.pow_le_pow_right (by omega) (by omega);by_cases h0:8*b.length % 6=0
   ·rw[if_neg (by omega)];simp only[qQ,Option.map_some,enc];rw[show(8*b.length+5) / 6=8*b.length / 6 from by omega]
   ·rw[if_pos (by omega)];have key:aZ (y5 (GZ b (8*b.length / 6))) (((8*b.length % 6:Nat):Int),((wv (bit b) (6*(8*b.length / 6)) (8*b.length % 6):Nat):Int))=some (enc b):=by
      refine kQ (fun j s=>s=(((8*b.length % 6+j:Nat):Int),((wv (bit b) (6*(8*b.length / 6)) (8*b.length % 6+j):Nat):Int))/\8*b.length % 6+j<=6) _ 6 _ ⟨by simp,by omega⟩ ?_;rintro j s ⟨rfl,hj⟩;unfold y5;simp only[];have hw2:=NL (QY b) (6*(8*b.length / 6)) (8*b.length % 6+j);have hp62:2 ^ (8*b.length % 6+j)<=2 ^ 6:=Nat.pow_le_pow_right (by omega) (by omega);by_cases hlt2:8*b.length % 6+j < 6
      ·left;refine⟨by omega,_,?_,rfl,by omega⟩;rw[if_pos (by omega),bz (by omega),bz (by omega)];simp only[Option.some.injEq,Sum.inl.injEq,Prod.mk.injEq,true_and];refine⟨by omega,?_⟩;rw[<- Nat.add_assoc];simp only[wv];rw[Zr b _ (by omega)];omega
      ·right;have hj6:8*b.length % 6+j=6:=by omega
       rw[hj6,if_neg (by omega)];have e6:=UR (wv6 b (6*(8*b.length / 6)));unfold Xf at e6;rw[e6];simp only[Option.bind_some];rw[gJ (by rw[QZ];simp;omega)];simp only[Option.bind_some,qQ,Option.map_some,enc];rw[show(8*b.length+5) / 6=8*b.length / 6+1 from by omega,<-Oy];rfl
    rw[key];rfl
theorem bits24 (x y z:Nat)(hx:x < 256)(hy:y < 256)(hz:z < 256)(q:Nat)(hq:q < 24) :
    (x*65536+y*256+z) / 2 ^ (23 - q) % 2=(if q / 8=0 then x else if q / 8=1 then y else z) / 2 ^ (7 - q % 8) % 2:=by
  have:q=0∨q=1∨q=2∨q=3∨q=4∨q=5∨q=6∨q=7∨q=8∨q=9∨q=10∨q=11∨q=12∨q=13∨q=14∨q=15∨q=16∨q=17∨q=18∨q=19∨q=20∨q=21∨q=22∨q=23:=by omega
  rcases this with rfl | rfl | rfl | rfl | rfl | rfl | rfl | rfl | rfl | rfl | rfl | rfl | rfl | rfl | rfl | rfl | rfl | rfl | rfl | rfl | rfl | rfl | rfl | rfl <;>
    (simp only[Nat.reduceSub,Nat.reducePow,Nat.reduceDiv,Nat.reduceMod,reduceIte,Nat.reduceEqDiff,Nat.succ_ne_self,Nat.div_one];omega)
theorem or16 (x:UInt8):(oG (UInt32.ofNat x.toNat) ((16:UInt64).toNat)).toNat=x.toNat*65536:=by
  have hx:=x.toNat_lt;simp only[oG,<-UInt32.toNat_toBitVec,BitVec.toNat_shiftLeft];simp only[UInt32.toNat_toBitVec,UInt32.toNat_ofNat',show(16:UInt64).toNat=16 from rfl,Nat.shiftLeft_eq];omega
theorem or16_8 (v:UInt32)(x y:UInt8)(hv:v.toNat=x.toNat*65536):(v|||oG (UInt32.ofNat y.toNat) ((8:UInt64).toNat)).toNat=x.toNat*65536+y.toNat*256:=by
  have hx:=x.toNat_lt;have hy:=y.toNat_lt;have e:(oG (UInt32.ofNat y.toNat) ((8:UInt64).toNat)).toNat=y.toNat*256:=by
    simp only[oG,<-UInt32.toNat_toBitVec,BitVec.toNat_shiftLeft];simp only[UInt32.toNat_toBitVec,UInt32.toNat_ofNat',show(8:UInt64).toNat=8 from rfl,Nat.shiftLeft_eq];omega
  rw[UInt32.toNat_or,hv,e,show x.toNat*65536=x.toNat <<< 16 from by rw[Nat.shiftLeft_eq],<-Nat.shiftLeft_add_eq_or_of_lt (by omega)]
theorem or16_0 (v:UInt32)(n:Nat)(y:UInt8)(hv:v.toNat=n*256):(v|||UInt32.ofNat y.toNat).toNat=n*256+y.toNat:=by
  have hy:=y.toNat_lt;rw[UInt32.toNat_or,hv,show n*256=n <<< 8 from by rw[Nat.shiftLeft_eq]];have e:(UInt32.ofNat y.toNat).toNat=y.toNat:=by simp only[UInt32.toNat_ofNat'];omega
  rw[e,<-Nat.shiftLeft_add_eq_or_of_lt (by omega)]
theorem w_let (b:List UInt8)(j k:Nat)(hk:k < 4)(v:UInt32)(hv:v.toNat=(b.getD (3*j) 0).toNat*65536+(b.getD (3*j+1) 0).toNat*256+(b.getD (3*j+2) 0).toNat) :
    ((nR v (18 - 6*k))&&&63).toNat=wv (bit b) (6*(4*j+k)) 6:=by
  have e1:((nR v (18 - 6*k))&&&63).toNat=(v.toNat / 2 ^ (18 - 6*k)) % 64:=by
    rw[UInt32.toNat_and];have:(nR v (18 - 6*k)).toNat=v.toNat / 2 ^ (18 - 6*k):=by simp[nR,Nat.shiftRight_eq_div_pow]
    rw[this];exact Nat.and_two_pow_sub_one_eq_mod _ 6
  rw[e1];symm;apply wv_num;intro t ht;have h24:=bits24 _ _ _ (b.getD (3*j) 0).toNat_lt (b.getD (3*j+1) 0).toNat_lt (b.getD (3*j+2) 0).toNat_lt (6*k+t) (by omega);rw[<- hv] at h24;rw[Nat.div_div_eq_div_mul,<-Nat.pow_add,show 18 - 6*k+(6 - 1 - t)=23 - (6*k+t) from by omega,h24];unfold bit;have q1:(6*(4*j+k)+t) / 8=3*j+(6*k+t) / 8:=by omega
  have q2:(6*(4*j+k)+t) % 8=(6*k+t) % 8:=by omega
  rw[q1,q2];have q3:(6*k+t) / 8=0∨(6*k+t) / 8=1∨(6*k+t) / 8=2:=by omega
  rcases q3 with h | h | h <;> simp[h]
theorem w_in (b:List UInt8)(hb:b.length<=4194304)(j n:Nat)(hj:3*j < b.length)(hn:n=min 3 (b.length - 3*j))(v:UInt32)(hv:v.toNat=(b.getD (3*j) 0).toNat*65536+(b.getD (3*j+1) 0).toNat*256+(b.getD (3*j+2) 0).toNat) :
    pz b (GZ b (4*j)) ((3*j:Nat):Int) v=some (.inl (GZ b (4*j+n+1),((3*(j+1):Nat):Int))):=by
  unfold pz;have en:(if ay (((b.length:Nat):Int) - ((3*j:Nat):Int)) < 3 then ay (((b.length:Nat):Int) - ((3*j:Nat):Int)) else 3)=(n:Int):=by
    rw[bz (by omega)];split <;> omega
  refine kQ (fun k s=>s=(GZ b (4*j+k),(k:Int))/\k<=n+1) _ (n+1) _ ⟨by simp,by omega⟩ ?_;rintro k s ⟨rfl,hk⟩;unfold BV;simp only[];rw[en];have e1:ay ((n:Int)+1)=((n+1:Nat):Int):=by rw[bz (by omega)];omega
  rw[e1];by_cases hlt:k < n+1
  ·left;refine⟨hlt,_,?_,rfl,by omega⟩;have e2:ay (6*(k:Int))=((6*k:Nat):Int):=by rw[bz (by omega)];omega
   have e3:ay (18 - ((6*k:Nat):Int))=((18 - 6*k:Nat):Int):=by rw[bz (by omega)];omega
   rw[if_pos (by omega),e2,e3,jo (by omega)];simp only[Option.bind_some,Int.toNat_natCast];rw[w_let b j k (by omega) v hv];have e6:=UR (wv6 b (6*(4*j+k)));unfold Xf at e6;rw[e6];simp only[Option.bind_some];rw[gJ (by rw[QZ];simp;omega),bz (by omega)];simp only[Option.bind_some];rw[<- Nat.add_assoc,<-Oy];rfl
  ·right;obtain rfl:k=n+1:=by omega
   rw[if_neg (by omega)];simp only[xR,Option.map_some];have e4:ay (((3*j:Nat):Int)+3)=((3*(j+1):Nat):Int):=by rw[bz (by omega)];omega
   rw[e4];rfl
theorem Zu (b:List UInt8)(hb:b.length<=4194304):vN b=some (enc b):=by
  unfold vN;refine kQ (fun j s=>s=(GZ b (min (4*j) ((8*b.length+5) / 6)),((3*j:Nat):Int))) _ b.length _ (by simp[GZ]) ?_;rintro j s rfl;unfold BX;simp only[];by_cases hlt:3*j < b.length
  ·left;refine⟨by omega,(GZ b (min (4*(j+1)) ((8*b.length+5) / 6)),((3*(j+1):Nat):Int)),?_,rfl⟩;rw[if_pos (by omega),fG hlt];simp only[Option.bind_some];have e1:ay (((b.length:Nat):Int) - ((3*j:Nat):Int))=((b.length - 3*j:Nat):Int):=by rw[bz (by omega)];omega
   rw[show min (4*j) ((8*b.length+5) / 6)=4*j from by omega];have g0:b.getD (3*j) 0=b[3*j]:=getD_at _ _ _ hlt;have h16:=or16 b[3*j];by_cases h1:3*j+1 < b.length
   ·rw[e1,if_pos (by split <;> omega)];have e2:ay (((3*j:Nat):Int)+1)=((3*j+1:Nat):Int):=by rw[bz (by omega)];omega
    rw[e2,fG h1];simp only[Option.bind_some];have g1:b.getD (3*j+1) 0=b[3*j+1]:=getD_at _ _ _ h1;have h8:=or16_8 _ b[3*j] b[3*j+1] h16;unfold pF;rw[e1];by_cases h2:3*j+2 < b.length
    ·rw[if_pos (by split <;> omega)];have e3:ay (((3*j:Nat):Int)+2)=((3*j+2:Nat):Int):=by rw[bz (by omega)];omega
     rw[e3,fG h2];simp only[Option.bind_some];have g2:b.getD (3*j+2) 0=b[3*j+2]:=getD_at _ _ _ h2;have h0:=or16_0 _ (b[3*j].toNat*256+b[3*j+1].toNat) b[3*j+2] (by rw[h8];omega);rw[show min (4*(j+1)) ((8*b.length+5) / 6)=4*j+3+1 from by omega];exact w_in b hb j 3 hlt (by omega) _ (by rw[h0,g0,g1,g2];omega)
    ·rw[if_neg (by split <;> omega)];have g2:b.getD (3*j+2) 0=0:=JQ _ _ _ (by omega);rw[show min (4*(j+1)) ((8*b.length+5) / 6)=4*j+2+1 from by omega];exact w_in b hb j 2 hlt (by omega) _ (by rw[h8,g0,g1,g2];simp)
   ·rw[e1,if_neg (by split <;> omega)];unfold pF;rw[e1,if_neg (by split <;> omega)];have g1:b.getD (3*j+1) 0=0:=JQ _ _ _ (by omega);have g2:b.getD (3*j+2) 0=0:=JQ _ _ _ (by omega);rw[show min (4*(j+1)) ((8*b.length+5) / 6)=4*j+1+1 from by omega];exact w_in b hb j 1 hlt (by omega) _ (by rw[h16,g0,g1,g2];simp)
  ·right;rw[if_neg (by omega)];simp only[Option.map_some,enc];rw[show min (4*j) ((8*b.length+5) / 6)=(8*b.length+5) / 6 from by omega]
def lb (s:List UInt8)(k:Nat):Nat:=lt (s.getD (k / 6) 0) / 2 ^ (5 - k % 6) % 2
theorem SX (s:List UInt8)(k:Nat):lb s k < 2:=Nat.mod_lt _ (by omega)
theorem lb_out (s:List UInt8)(k:Nat)(h:6*s.length<=k):lb s k=0:=by
  unfold lb;rw[JQ _ _ _ (by omega),show lt 0=64 from by decide];have:k % 6=0∨k % 6=1∨k % 6=2∨k % 6=3∨k % 6=4∨k % 6=5:=by omega
  rcases this with h | h | h | h | h | h <;> rw[h]
theorem lb_wv (s:List UInt8)(i:Nat)(hi:i < s.length)(h:lt s[i] < 64):wv (lb s) (6*i) 6=lt s[i]:=by
  rw[wv_num (lb s) (6*i) 6 (lt s[i])]
  ·exact Nat.mod_eq_of_lt (by omega)
  ·intro j hj;unfold lb;rw[show(6*i+j) / 6=i from by omega,show(6*i+j) % 6=j from by omega,getD_at _ _ _ hi]
def I9 (f:Nat->Nat)(n:Nat):List UInt8:=(List.range n).map fun m=>UInt8.ofNat (wv f (8*m) 8)
theorem Hz (f:Nat->Nat)(n:Nat):(I9 f n).length=n:=by simp[I9]
theorem SY (f:Nat->Nat)(n:Nat):I9 f n++[UInt8.ofNat (wv f (8*n) 8)]=I9 f (n+1):=by
  unfold I9;rw[List.range_succ,List.map_append];rfl
def badL (s:List UInt8):Nat:=s.findIdx (fun c=>decide (64<=lt c))
theorem UT (s:List UInt8):badL s<=s.length:=List.findIdx_le_length
theorem PR (s:List UInt8)(i:Nat)(h:i < badL s)(hi:i < s.length):lt s[i] < 64:=by
  have:=List.not_of_lt_findIdx h;simp only[decide_eq_false_iff_not] at this;omega
theorem Zv (s:List UInt8)(h:badL s < s.length):lt s[badL s]=64:=by
  have:=List.findIdx_getElem (w:=h);simp only[decide_eq_true_eq] at this;have:=lt_le s[badL s];simp only[badL] at *;omega
def qL (s:List UInt8):List UInt8×Int×Int :=
  if badL s < s.length then([],(badL s:Int),4) else if s.length % 4=1 then([],(s.length:Int),4) else
  if wv (lb s) (8*(6*s.length / 8)) (6*s.length % 8)≠0 then([],(s.length:Int) - 1,4) else(I9 (lb s) (6*s.length / 8),0,0)
theorem p7 (r:Nat)(h:r<=7):((oG 1 r) - 1).toNat=2 ^ r - 1:=by
  have:∀ r:Nat,r < 8->((oG 1 r) - 1).toNat=2 ^ r - 1:=by decide +kernel
  exact this r (by omega)
theorem u32_of {a b:UInt32}(h:a.toNat=b.toNat):a=b:=UInt32.toNat_inj.1 h
theorem wunb64 (s:List UInt8)(hs:s.length<=4194304):qY s=some (qL s):=by
  unfold qY;have hbl:=UT s;refine kQ (fun i x=>x=(I9 (lb s) (6*i / 8),((6*i % 8:Nat):Int),UInt32.ofNat (wv (lb s) (8*(6*i / 8)) (6*i % 8)),(i:Int))/\i<=badL s) _ (badL s) _ ⟨by simp[I9,wv],by omega⟩ ?_;rintro i x ⟨rfl,hi⟩;unfold zy;simp only[];have hw:=NL (SX s) (8*(6*i / 8)) (6*i % 8);have hp6:2 ^ (6*i % 8)<=2 ^ 6:=Nat.pow_le_pow_right (by omega) (by omega);by_cases hlt:i < s.length
  ·rw[if_pos (by omega),fG hlt];simp only[Option.bind_some,wletter];have e3:ay ((i:Int)+1)=((i+1:Nat):Int):=by rw[bz (by omega)];omega
   by_cases hb:i < badL s
   ·left;have hd:=PR s i hb hlt;refine⟨hb,(I9 (lb s) (6*(i+1) / 8),((6*(i+1) % 8:Nat):Int),UInt32.ofNat (wv (lb s) (8*(6*(i+1) / 8)) (6*(i+1) % 8)),((i+1:Nat):Int)),?_,rfl,by omega⟩;rw[if_pos hd];simp only[Bool.not_true,Bool.false_eq_true,if_false];have hv:(oG (UInt32.ofNat (wv (lb s) (8*(6*i / 8)) (6*i % 8))) ((6:UInt64).toNat)|||UInt32.ofNat (lt s[i])).toNat=wv (lb s) (8*(6*i / 8)) (6*i % 8+6):=by
      rw[YB,show 8*(6*i / 8)+6*i % 8=6*i from by omega,lb_wv s i hlt hd];have e1:(oG (UInt32.ofNat (wv (lb s) (8*(6*i / 8)) (6*i % 8))) ((6:UInt64).toNat)).toNat=wv (lb s) (8*(6*i / 8)) (6*i % 8)*64:=by
        simp only[oG,<-UInt32.toNat_toBitVec,BitVec.toNat_shiftLeft];simp only[UInt32.toNat_toBitVec,UInt32.toNat_ofNat',show(6:UInt64).toNat=6 from rfl,Nat.shiftLeft_eq];omega
      have e2:(UInt32.ofNat (lt s[i])).toNat=lt s[i]:=by simp only[UInt32.toNat_ofNat'];omega
      rw[UInt32.toNat_or,e1,e2,show wv (lb s) (8*(6*i / 8)) (6*i % 8)*64=wv (lb s) (8*(6*i / 8)) (6*i % 8) <<< 6 from by rw[Nat.shiftLeft_eq],<-Nat.shiftLeft_add_eq_or_of_lt (by omega),Nat.shiftLeft_eq]
    generalize oG (UInt32.ofNat (wv (lb s) (8*(6*i / 8)) (6*i % 8))) ((6:UInt64).toNat)|||UInt32.ofNat (lt s[i])=v at hv;have e4:ay (((6*i % 8:Nat):Int)+6)=((6*i % 8+6:Nat):Int):=by rw[bz (by omega)];omega
    rw[e4];by_cases h8:8<=6*i % 8+6
    ·have e5:ay (((6*i % 8+6:Nat):Int) - 8)=((6*i % 8 - 2:Nat):Int):=by rw[bz (by omega)];omega
     rw[if_pos (by omega),e5,jo (by omega)];simp only[Option.bind_some,Int.toNat_natCast];have q0:6*i % 8+6=8+(6*i % 8 - 2):=by omega
     rw[q0,YB] at hv;have hw2:=NL (SX s) (8*(6*i / 8)+8) (6*i % 8 - 2);have hpr:2 ^ (6*i % 8 - 2)<=2 ^ 4:=Nat.pow_le_pow_right (by omega) (by omega);have q1:UInt8.ofNat (nR v (6*i % 8 - 2)).toNat=UInt8.ofNat (wv (lb s) (8*(6*i / 8)) 8):=by
       have:(nR v (6*i % 8 - 2)).toNat=v.toNat / 2 ^ (6*i % 8 - 2):=by simp[nR,Nat.shiftRight_eq_div_pow]
       rw[this,hv,Nat.mul_comm,Nat.mul_add_div (Nat.pow_pos (by omega)),Nat.div_eq_of_lt hw2,Nat.add_zero]
     have q2:v&&&(oG 1 (6*i % 8 - 2) - 1)=UInt32.ofNat (wv (lb s) (8*(6*i / 8)+8) (6*i % 8 - 2)):=by
       apply u32_of;rw[UInt32.toNat_and,p7 _ (by omega),Nat.and_two_pow_sub_one_eq_mod,hv,Nat.mul_comm,Nat.mul_add_mod,Nat.mod_eq_of_lt hw2];simp only[UInt32.toNat_ofNat'];omega
     rw[q1,q2,gJ (by rw[Hz];simp;omega)];simp only[Option.bind_some,nM];rw[SY,e3];rw[show 6*(i+1) / 8=6*i / 8+1 from by omega,show 6*(i+1) % 8=6*i % 8 - 2 from by omega,show 8*(6*i / 8+1)=8*(6*i / 8)+8 from by omega]
    ·rw[if_neg (by omega)];simp only[nM];rw[e3,show 6*(i+1) / 8=6*i / 8 from by omega,show 6*(i+1) % 8=6*i % 8+6 from by omega,<-hv];simp
   ·right;obtain rfl:i=badL s:=by omega
    have hd:=Zv s hlt;rw[if_neg (show ¬ lt s[badL s] < 64 from by omega)];simp only[Bool.not_false,if_true,Option.map_some];rw[qL,if_pos hlt]
  ·right;have hi':i=s.length:=by omega
   subst hi';rw[if_neg (by omega),tmod4];rw[qL,if_neg (show ¬ badL s < s.length from by omega)];by_cases h2:s.length % 4=1
   ·rw[if_pos (show((s.length % 4:Nat):Int)=1 from by omega),if_pos h2];rfl
   ·rw[if_neg (show ¬ ((s.length % 4:Nat):Int)=1 from by omega),if_neg h2];by_cases h0:wv (lb s) (8*(6*s.length / 8)) (6*s.length % 8)=0
    ·rw[if_neg (by rw[h0];decide),if_neg (by simpa using h0)];rfl
    ·have hne:UInt32.ofNat (wv (lb s) (8*(6*s.length / 8)) (6*s.length % 8))≠0:=by
       intro h;have:=congrArg UInt32.toNat h;simp only[UInt32.toNat_ofNat',show(0:UInt32).toNat=0 from rfl] at this;omega
     rw[if_pos hne,if_pos h0,bz (by omega)];rfl
theorem runb_in (s:List UInt8)(hs:s.length<=4194304)(i:Nat)(hi:i < s.length)(hd:lt s[i] < 64) :
    aZ (wK s (i:Int)) (I9 (lb s) (6*i / 8),((6*i % 8:Nat):Int),((wv (lb s) (8*(6*i / 8)) (6*i % 8):Nat):Int),5)
      = some (.inl (I9 (lb s) (6*(i+1) / 8),((6*(i+1) % 8:Nat):Int),((wv (lb s) (8*(6*(i+1) / 8)) (6*(i+1) % 8):Nat):Int),((i+1:Nat):Int))):=by
  refine kQ (fun j x=>x=(I9 (lb s) ((6*i+j) / 8),(((6*i+j) % 8:Nat):Int),((wv (lb s) (8*((6*i+j) / 8)) ((6*i+j) % 8):Nat):Int),(5:Int) - j)/\j<=6) _ 6 _ ⟨by simp,by omega⟩ ?_;rintro j x ⟨rfl,hj⟩;unfold wK;simp only[];by_cases hlt:j < 6
  ·left;refine⟨hlt,(I9 (lb s) ((6*i+(j+1)) / 8),(((6*i+(j+1)) % 8:Nat):Int),((wv (lb s) (8*((6*i+(j+1)) / 8)) ((6*i+(j+1)) % 8):Nat):Int),(5:Int) - ((j+1:Nat):Int)),?_,rfl,by omega⟩;rw[if_pos (by omega),fG hi];simp only[Option.bind_some,PQ];rw[if_pos hd,jo (by omega)];simp only[Option.bind_some];have hw:=NL (SX s) (8*((6*i+j) / 8)) ((6*i+j) % 8);have hp6:2 ^ ((6*i+j) % 8)<=2 ^ 7:=Nat.pow_le_pow_right (by omega) (by omega);have e1:ay ((((6*i+j) % 8:Nat):Int)+1)=(((6*i+j) % 8+1:Nat):Int):=by rw[bz (by omega)];omega
   have ek:Int.toNat (5 - (j:Int))=5 - j:=by omega
   have esh:NV .i64 ((lt s[i]:Nat):Int) (5 - j)=((lt s[i] / 2 ^ (5 - j):Nat):Int):=by
     unfold NV;rw[Nat.min_eq_left (by simp[IntKind.bits];omega),Int.fdiv_eq_ediv_of_nonneg _ (by have:(0:Int) < 2 ^ (5 - j):=Int.pow_pos (by omega);omega)];simp
   have e2:Int.tmod (NV .i64 ((lt s[i]:Nat):Int) (5 - j)) 2=((lb s (6*i+j):Nat):Int):=by
     rw[esh,tmod2];unfold lb;rw[show(6*i+j) / 6=i from by omega,show(6*i+j) % 6=j from by omega,getD_at _ _ _ hi]
   have hb2:=SX s (6*i+j);have e3:ay (2*((wv (lb s) (8*((6*i+j) / 8)) ((6*i+j) % 8):Nat):Int))=((2*wv (lb s) (8*((6*i+j) / 8)) ((6*i+j) % 8):Nat):Int):=by rw[bz (by omega)];omega
   have e4:ay (((2*wv (lb s) (8*((6*i+j) / 8)) ((6*i+j) % 8):Nat):Int)+((lb s (6*i+j):Nat):Int))=((wv (lb s) (8*((6*i+j) / 8)) ((6*i+j) % 8+1):Nat):Int):=by
     rw[bz (by omega)];simp only[wv];rw[show 8*((6*i+j) / 8)+(6*i+j) % 8=6*i+j from by omega];omega
   rw[ek,e1,e2,e3,e4];have e5:ay (5 - (j:Int) - 1)=(5:Int) - ((j+1:Nat):Int):=by rw[bz (by omega)];omega
   by_cases h6:(6*i+j) % 8+1=8
   ·rw[if_pos (by omega),h6];rw[gJ (by rw[Hz];simp;omega)];simp only[Option.bind_some,oh,e5];have q1:(6*i+(j+1)) / 8=(6*i+j) / 8+1:=by omega
    have q2:(6*i+(j+1)) % 8=0:=by omega
    have q3:∀ n:Nat,UInt8.ofInt (n:Int)=UInt8.ofNat n:=by
      intro n;apply UInt8.eq_of_toBitVec_eq;apply BitVec.eq_of_toNat_eq;simp[UInt8.ofInt];omega
    rw[q1,q2,<-SY,q3];rfl
   ·rw[if_neg (by omega)];simp only[oh,e5];have q1:(6*i+(j+1)) / 8=(6*i+j) / 8:=by omega
    have q2:(6*i+(j+1)) % 8=(6*i+j) % 8+1:=by omega
    rw[q1,q2]
  ·right;obtain rfl:j=6:=by omega
   rw[if_neg (by omega)];have e5:ay ((i:Int)+1)=((i+1:Nat):Int):=by rw[bz (by omega)];omega
   rw[e5];rfl
theorem runb64 (s:List UInt8)(hs:s.length<=4194304):tN s=some (qL s):=by
  unfold tN;have hbl:=UT s;refine kQ (fun i x=>x=(i:Int)/\i<=badL s) _ (badL s) _ ⟨rfl,by omega⟩ ?_;rintro i x ⟨rfl,hi⟩;unfold Ai;simp only[];by_cases hlt:i < s.length
  ·rw[if_pos (by omega),fG hlt];simp only[Option.bind_some,PQ];by_cases hb:i < badL s
   ·left;have hd:=PR s i hb hlt;refine⟨hb,((i+1:Nat):Int),?_,rfl,by omega⟩;rw[if_pos hd,if_neg (by omega),bz (by omega)];congr 2
   ·right;obtain rfl:i=badL s:=by omega
    have hd:=Zv s hlt;rw[if_neg (show ¬ lt s[badL s] < 64 from by omega),if_pos (by omega)];rw[qL,if_pos hlt];rfl
  ·right;have hi':i=s.length:=by omega
   subst hi';rw[if_neg (by omega),tmod4];rw[qL,if_neg (show ¬ badL s < s.length from by omega)];by_cases h2:s.length % 4=1
   ·rw[if_pos (show((s.length % 4:Nat):Int)=1 from by omega),if_pos h2];rfl
   ·rw[if_neg (show ¬ ((s.length % 4:Nat):Int)=1 from by omega),if_neg h2];have key:aZ (wL s) ([],0,0,0)=some (if wv (lb s) (8*(6*s.length / 8)) (6*s.length % 8)≠0 then([],(s.length:Int) - 1,4) else(I9 (lb s) (6*s.length / 8),0,0)):=by
      refine kQ (fun i x=>x=(I9 (lb s) (6*i / 8),((6*i % 8:Nat):Int),((wv (lb s) (8*(6*i / 8)) (6*i % 8):Nat):Int),(i:Int))/\i<=s.length) _ s.length _ ⟨by simp[I9,wv],by omega⟩ ?_;rintro i x ⟨rfl,hi⟩;unfold wL;simp only[];by_cases hlt:i < s.length
      ·left;refine⟨hlt,_,?_,rfl,by omega⟩;rw[if_pos (by omega),runb_in s hs i hlt (PR s i (by omega) hlt)]
      ·right;obtain rfl:i=s.length:=by omega
       rw[if_neg (by omega)];by_cases h0:wv (lb s) (8*(6*s.length / 8)) (6*s.length % 8)=0
       ·rw[if_neg (by rw[h0];decide),if_neg (by simpa using h0)];rfl
       ·rw[if_pos (by omega),if_pos h0,bz (by omega)];rfl
    rw[key];rfl
theorem Xg (s:List UInt8):(qL s).1.length<=s.length:=by
  unfold qL;split
  ·simp
  split
  ·simp
  split
  ·simp
  ·simp only[Hz];omega
theorem NM (b:List UInt8):(enc b).length=(8*b.length+5) / 6:=by simp[enc,GZ]
theorem S9 (s:List UInt8)(h:(qL s).2.2=0):enc (qL s).1=s:=by
  unfold qL at h ⊢;by_cases h1:badL s < s.length
  ·rw[if_pos h1] at h;simp at h
  rw[if_neg h1] at h ⊢;by_cases h2:s.length % 4=1
  ·rw[if_pos h2] at h;simp at h
  rw[if_neg h2] at h ⊢;by_cases h3:wv (lb s) (8*(6*s.length / 8)) (6*s.length % 8)=0
  ·rw[if_neg (by simpa using h3)];simp only[];have hbit:bit (I9 (lb s) (6*s.length / 8))=lb s:=by
     funext k;by_cases hk:k < 8*(6*s.length / 8)
     ·unfold bit;rw[getD_at _ _ _ (by rw[Hz];omega)];simp only[I9,List.getElem_map,List.getElem_range];have hw:=NL (SX s) (8*(k / 8)) 8;have e:(UInt8.ofNat (wv (lb s) (8*(k / 8)) 8)).toNat=wv (lb s) (8*(k / 8)) 8:=by
        simp only[UInt8.toNat_ofNat'];omega
      rw[e];have:=wv_bit (SX s) (8*(k / 8)) 8 (k % 8) (by omega);rw[show 8*(k / 8)+k % 8=k from by omega] at this;rw[<- this]
     ·rw[Zr _ _ (by rw[Hz];omega)];by_cases hk2:k < 6*s.length
      ·have:=zero_wv _ _ h3 (k - 8*(6*s.length / 8)) (by omega);rw[show 8*(6*s.length / 8)+(k - 8*(6*s.length / 8))=k from by omega] at this;exact this.symm
      ·rw[lb_out _ _ (by omega)]
   apply List.ext_getElem
   ·rw[NM,Hz];obtain⟨q,r,hq,hr⟩:∃ q r,s.length=4*q+r/\(r=0∨r=2∨r=3):=⟨s.length / 4,s.length % 4,by omega,by omega⟩
    rw[hq];rcases hr with rfl | rfl | rfl
    ·rw[show 6*(4*q+0) / 8=3*q from by omega];omega
    ·rw[show 6*(4*q+2) / 8=3*q+1 from by omega];omega
    ·rw[show 6*(4*q+3) / 8=3*q+2 from by omega];omega
   ·intro j q1 q2;have hd:=PR s j (by have:=UT s;omega) q2;simp only[enc,GZ,List.getElem_map,List.getElem_range];rw[hbit,lb_wv s j q2 hd,tbl_lt _ hd]
  ·rw[if_pos h3] at h;simp at h
end Go.Sx
namespace Go.Sx
open Go.RowKit
set_option linter.unusedVariables false
set_option linter.unusedSimpArgs false
theorem wS (n:Nat)(h:n < 9223372036854775807):ay ((n:Int)+1)=((n+1:Nat):Int):=by rw[bz] <;> omega
theorem tf1 {a b:Bool}(h1:a=false)(h2:b=false):¬ ((a||b)=true):=by rw[h1,h2];decide
theorem tf2 {a b:Bool}(h1:a=true):(a||b)=true:=by rw[h1];rfl
theorem tf3 {a b:Bool}(h1:b=true):(a||b)=true:=by rw[h1,Bool.or_true]
theorem ft1 {a b:Bool}(h1:a=true)(h2:b=true):(a&&b)=true:=by rw[h1,h2];rfl
theorem ft2 {a b:Bool}(h1:a=false):¬ ((a&&b)=true):=by rw[h1,Bool.false_and];decide
theorem ft3 {a b:Bool}(h1:b=false):¬ ((a&&b)=true):=by rw[h1,Bool.and_false];decide
theorem YD {β:Type}[Inhabited β]{c:Bool}(o:Option β)(h:c=true):EE c o=o:=by rw[h];rfl
theorem gif0 {β:Type}[Inhabited β]{c:Bool}(o:Option β)(h:c=false):EE c o=some default:=by rw[h];rfl
theorem K_ {β:Type}[Inhabited β](o:Option β):EE (!false) o=o:=rfl
theorem Zw {β:Type}[Inhabited β](o:Option β):EE (!true) o=some default:=rfl
def lN (s:List UInt8):Nat->Bool->List UInt8->Nat×Bool
  | a,ok,[]=>(a,ok)
  | a,ok,c::t=>if ok=true then(if s[a]?=some c then lN s (a+1) true t else(a,false)) else(a,false)
theorem wR (s:List UInt8):∀ (t:List UInt8) (a:Nat) (ok:Bool),a<=s.length->(lN s a ok t).1<=s.length
  | [],a,ok,h=>h
  | c::t,a,ok,h=>by
    unfold lN;split
    ·split
     ·rename_i h1;obtain⟨h2,_⟩:=List.getElem?_eq_some_iff.1 h1;exact wR s t (a+1) true h2
     ·exact h
    ·exact h
theorem PS (s:List UInt8)(a:Nat)(t:List UInt8):lN s a false t=(a,false):=by
  cases t <;> rfl
section
variable (s:List UInt8)(hs:s.length<=4194304)
include hs
theorem Q3 (t:List UInt8)(ht:t.length<=100)(a:Nat)(ha:a<=s.length)(ok:Bool):iY s (a:Int) ok t=some (s,((lN s a ok t).1:Int),(lN s a ok t).2):=by
  have key:∀ (j i a:Nat),i+j=t.length->a<=s.length->aZ (lu s true t) ((a:Int),(i:Int))=some (s,((lN s a true (t.drop i)).1:Int),(lN s a true (t.drop i)).2):=by
    intro j
    induction j with
    | zero =>
      intro i a hi ha;rw[List.drop_eq_nil_of_le (by omega)];refine gm ?_;unfold lu;dsimp only;rw[if_neg (ft2 (decide_eq_false (by omega)))];rfl
    | succ j ih =>
      intro i a hi ha;have hit:i < t.length:=by omega
      rw[List.drop_eq_getElem_cons hit];by_cases hlt:a < s.length
      ·have e1:aV s (a:Int)=some s[a]:=fG hlt;have e2:aV t (i:Int)=some t[i]:=fG hit;have d1:decide ((s.length:Int)<=(a:Int))=false:=decide_eq_false (by omega);by_cases hc:s[a]=t[i]
       ·rw[kH (s':=(((a+1:Nat):Int),((i+1:Nat):Int))) (by
          unfold lu;dsimp only;rw[if_pos (ft1 (decide_eq_true (by omega)) rfl),d1,K_,K_,e1,e2,Option.bind_some,Option.bind_some,if_neg (tf1 rfl (decide_eq_false (fun q=>q hc))),wS a (by omega),wS i (by omega)])]
        rw[ih (i+1) (a+1) (by omega) (by omega)]
        conv=>rhs;unfold lN
        rw[if_pos rfl,if_pos (by rw[List.getElem?_eq_getElem hlt,hc])]
       ·rw[gm (r:=(s,(a:Int),false)) (by
          unfold lu;dsimp only;rw[if_pos (ft1 (decide_eq_true (by omega)) rfl),d1,K_,K_,e1,e2,Option.bind_some,Option.bind_some,if_pos (tf3 (decide_eq_true hc))];rfl)]
        unfold lN;rw[if_pos rfl,if_neg (by rw[List.getElem?_eq_getElem hlt];exact fun q=>hc (Option.some.inj q))]
      ·have d1:decide ((s.length:Int)<=(a:Int))=true:=decide_eq_true (by omega);rw[gm (r:=(s,(a:Int),false)) (by
         unfold lu;dsimp only;rw[if_pos (ft1 (decide_eq_true (by omega)) rfl),d1,Zw,Zw,Option.bind_some,Option.bind_some,if_pos (tf2 rfl)];rfl)]
       unfold lN;rw[if_pos rfl,if_neg (by rw[List.getElem?_eq_none (by omega)];exact fun q=>by cases q)]
  unfold iY;cases ok with
  | true=>exact key t.length 0 a (by omega) ha
  | false =>
    rw[PS];refine gm ?_;unfold lu;dsimp only;rw[if_neg (ft3 rfl)];rfl
theorem Q4 (t:List UInt8)(ht:t.length<=100)(a:Nat)(ha:a<=s.length)(ok:Bool):iG s (a:Int) (!ok) t=some (s,((lN s a ok t).1:Int),!(lN s a ok t).2):=by
  have key:∀ (j i a:Nat),i+j=t.length->a<=s.length->aZ (jl s false t) ((a:Int),(i:Int))=some (s,((lN s a true (t.drop i)).1:Int),!(lN s a true (t.drop i)).2):=by
    intro j
    induction j with
    | zero =>
      intro i a hi ha;rw[List.drop_eq_nil_of_le (by omega)];refine gm ?_;unfold jl;dsimp only;rw[if_neg (ft2 (decide_eq_false (by omega)))];rfl
    | succ j ih =>
      intro i a hi ha;have hit:i < t.length:=by omega
      rw[List.drop_eq_getElem_cons hit];by_cases hlt:a < s.length
      ·have e1:aV s (a:Int)=some s[a]:=fG hlt;have e2:aV t (i:Int)=some t[i]:=fG hit;have d1:decide ((s.length:Int)<=(a:Int))=false:=decide_eq_false (by omega);by_cases hc:s[a]=t[i]
       ·rw[kH (s':=(((a+1:Nat):Int),((i+1:Nat):Int))) (by
          unfold jl;dsimp only;rw[if_pos (ft1 (b:=!false) (decide_eq_true (by omega)) rfl),d1,K_,K_,e1,e2,Option.bind_some,Option.bind_some,if_neg (tf1 rfl (decide_eq_false (fun q=>q hc))),wS a (by omega),wS i (by omega)])]
        rw[ih (i+1) (a+1) (by omega) (by omega)]
        conv=>rhs;unfold lN
        rw[if_pos rfl,if_pos (by rw[List.getElem?_eq_getElem hlt,hc])]
       ·rw[gm (r:=(s,(a:Int),true)) (by
          unfold jl;dsimp only;rw[if_pos (ft1 (b:=!false) (decide_eq_true (by omega)) rfl),d1,K_,K_,e1,e2,Option.bind_some,Option.bind_some,if_pos (tf3 (decide_eq_true hc))];rfl)]
        unfold lN;rw[if_pos rfl,if_neg (by rw[List.getElem?_eq_getElem hlt];exact fun q=>hc (Option.some.inj q))];rfl
      ·have d1:decide ((s.length:Int)<=(a:Int))=true:=decide_eq_true (by omega);rw[gm (r:=(s,(a:Int),true)) (by
         unfold jl;dsimp only;rw[if_pos (ft1 (b:=!false) (decide_eq_true (by omega)) rfl),d1,Zw,Zw,Option.bind_some,Option.bind_some,if_pos (tf2 rfl)];rfl)]
       unfold lN;rw[if_pos rfl,if_neg (by rw[List.getElem?_eq_none (by omega)];exact fun q=>by cases q)];rfl
  unfold iG;cases ok with
  | true=>exact key t.length 0 a (by omega) ha
  | false =>
    rw[PS];refine gm ?_;unfold jl;dsimp only;rw[if_neg (ft3 (b:=!(!false)) rfl)];rfl
end
def Oz (c:UInt8):Bool:=decide (lt c < 64)
def BI (s:List UInt8)(a:Nat)(ok:Bool):List UInt8:=if ok=true then(s.drop a).takeWhile Oz else[]
theorem PT (s:List UInt8)(a:Nat)(ok:Bool)(ha:a<=s.length):a+(BI s a ok).length<=s.length:=by
  unfold BI;split
  ·have:=(List.takeWhile_prefix (p:=Oz) (l:=s.drop a)).length_le;rw[List.length_drop] at this;omega
  ·simpa using ha
end Go.Sx
namespace Go.Sx
open Go.RowKit
set_option linter.unusedVariables false
set_option linter.unusedSimpArgs false
theorem YE (s:List UInt8)(a b:Nat)(h1:a<=b)(h2:b<=s.length):G6 s (a:Int) (b:Int)=some ((s.take b).drop a):=Ad ⟨by omega,by omega,by omega⟩
theorem isB_chk:∀ c:UInt8,Oz c=((((decide (0<=TL ([43,47]:List UInt8) c))||((decide ((48:UInt8)<=c))&&(decide (c<=57))))||((decide ((65:UInt8)<=c))&&(decide (c<=90))))||((decide ((97:UInt8)<=c))&&(decide (c<=122)))):=by
  intro c;refine JP (p:=fun c=>Oz c=((((decide (0<=TL ([43,47]:List UInt8) c))||((decide ((48:UInt8)<=c))&&(decide (c<=57))))||((decide ((65:UInt8)<=c))&&(decide (c<=90))))||((decide ((97:UInt8)<=c))&&(decide (c<=122))))) ?_ c;decide +kernel
section
variable (s:List UInt8)(hs:s.length<=4194304)
include hs
theorem Xh (a p:Nat)(hp:p < s.length):jV s (a:Int) true (p:Int)=if Oz s[p]=true then some (.inl ((p+1:Nat):Int)) else Option.map Sum.inr ((G6 s (a:Int) (p:Int)).bind fun t=>some (t,(a:Int),s,(p:Int),true)):=by
  unfold jV;dsimp only;rw[if_pos (ft1 rfl (decide_eq_true (by omega))),fG hp,Option.bind_some,show sW ([43,47]:List UInt8) s[p]=some (TL [43,47] s[p]) from rfl,Option.bind_some,wS p (by omega),isB_chk];generalize s[p]=c;cases h1:decide (0<=TL ([43,47]:List UInt8) c) with
  | true=>rfl
  | false =>
    rw[K_,Option.bind_some,K_];cases h2:decide ((48:UInt8)<=c) with
    | false =>
      rw[show(EE false (some c))=some default from rfl,Option.bind_some];rw[show(!(false||(false&&decide ((default:UInt8)<=57))))=true from rfl,show(EE true (some c))=some c from rfl,Option.bind_some];cases h4:decide ((65:UInt8)<=c) with
      | false =>
        rw[show EE true (EE false (some c))=some default from rfl,Option.bind_some];rw[show(!((false||(false&&decide ((default:UInt8)<=57)))||(false&&decide ((default:UInt8)<=90))))=true from rfl,show(EE true (some c))=some c from rfl,Option.bind_some];cases h6:decide ((97:UInt8)<=c) with
        | false=>rfl
        | true =>
          rw[show EE true (EE true (some c))=some c from rfl,Option.bind_some];rfl
      | true =>
        rw[show EE true (EE true (some c))=some c from rfl,Option.bind_some];cases h5:decide (c<=90) with
        | true=>rfl
        | false =>
          rw[show(!((false||(false&&decide ((default:UInt8)<=57)))||(true&&false)))=true from rfl,show(EE true (some c))=some c from rfl,Option.bind_some];cases h6:decide ((97:UInt8)<=c) with
          | false=>rfl
          | true =>
            rw[show EE true (EE true (some c))=some c from rfl,Option.bind_some];rfl
    | true =>
      rw[show(EE true (some c))=some c from rfl,Option.bind_some];cases h3:decide (c<=57) with
      | true=>rfl
      | false =>
        rw[show(!(false||(true&&false)))=true from rfl,show(EE true (some c))=some c from rfl,Option.bind_some];cases h4:decide ((65:UInt8)<=c) with
        | false =>
          rw[show EE true (EE false (some c))=some default from rfl,Option.bind_some];rw[show(!((false||(true&&false))||(false&&decide ((default:UInt8)<=90))))=true from rfl,show(EE true (some c))=some c from rfl,Option.bind_some];cases h6:decide ((97:UInt8)<=c) with
          | false=>rfl
          | true =>
            rw[show EE true (EE true (some c))=some c from rfl,Option.bind_some];rfl
        | true =>
          rw[show EE true (EE true (some c))=some c from rfl,Option.bind_some];cases h5:decide (c<=90) with
          | true=>rfl
          | false =>
            rw[show(!((false||(true&&false))||(true&&false)))=true from rfl,show(EE true (some c))=some c from rfl,Option.bind_some];cases h6:decide ((97:UInt8)<=c) with
            | false=>rfl
            | true =>
              rw[show EE true (EE true (some c))=some c from rfl,Option.bind_some]
omit hs in
theorem tkw (a:Nat)(h:a<=s.length):((s.take (a+((s.drop a).takeWhile Oz).length)).drop a)=(s.drop a).takeWhile Oz:=by
  rw[List.drop_take];have h1:=(List.takeWhile_prefix (p:=Oz) (l:=s.drop a))
  have:a+((s.drop a).takeWhile Oz).length - a=((s.drop a).takeWhile Oz).length:=by omega
  rw[this];exact(List.prefix_iff_eq_take.1 h1).symm
theorem let_p (a:Nat)(ha:a<=s.length)(ok:Bool):nK s (a:Int) ok=some (BI s a ok,(a:Int),s,((a+(BI s a ok).length:Nat):Int),ok):=by
  unfold nK BI;cases ok with
  | true =>
    rw[if_pos rfl];have key:∀ (j p:Nat),p+j=s.length->a<=p->aZ (jV s (a:Int) true) (p:Int)=some (((s.take (p+((s.drop p).takeWhile Oz).length)).drop a),(a:Int),s,((p+((s.drop p).takeWhile Oz).length:Nat):Int),true):=by
      intro j
      induction j with
      | zero =>
        intro p hp hap;obtain rfl:p=s.length:=by omega
        rw[List.drop_length];refine gm ?_;unfold jV;dsimp only;rw[if_neg (ft3 (decide_eq_false (by omega))),YE s a s.length ha (by omega)];rfl
      | succ j ih =>
        intro p hp hap;have hp':p < s.length:=by omega
        rw[List.drop_eq_getElem_cons hp'];cases hb:Oz s[p] with
        | true =>
          rw[kH (by rw[Xh s hs a p hp',hb];rfl),ih (p+1) (by omega) (by omega),List.takeWhile_cons,if_pos hb,List.length_cons,show p+1+((s.drop (p+1)).takeWhile Oz).length=p+(((s.drop (p+1)).takeWhile Oz).length+1) from by omega]
        | false =>
          rw[List.takeWhile_cons,if_neg (by rw[hb];decide)];refine gm ?_;rw[Xh s hs a p hp',hb,if_neg (by decide),YE s a p hap (by omega)];rfl
    rw[key (s.length - a) a (by omega) (Nat.le_refl _),tkw s a ha]
  | false =>
    rw[if_neg (by decide)];refine gm ?_;unfold jV;dsimp only;rw[if_neg (ft2 rfl),YE s a a (Nat.le_refl _) ha];simp
theorem let_r (a:Nat)(ha:a<=s.length)(ok:Bool):lF s (a:Int) (!ok)=some (BI s a ok,s,((a+(BI s a ok).length:Nat):Int),!ok):=by
  unfold lF BI;cases ok with
  | true =>
    rw[if_pos rfl];have key:∀ (j p:Nat),p+j=s.length->a<=p->aZ (jf s (a:Int) (!true)) (p:Int)=some (((s.take (p+((s.drop p).takeWhile Oz).length)).drop a),s,((p+((s.drop p).takeWhile Oz).length:Nat):Int),!true):=by
      intro j
      induction j with
      | zero =>
        intro p hp hap;obtain rfl:p=s.length:=by omega
        rw[List.drop_length];refine gm ?_;unfold jf;dsimp only;rw[if_neg (ft3 (decide_eq_false (by omega))),YE s a s.length ha (by omega)];rfl
      | succ j ih =>
        intro p hp hap;have hp':p < s.length:=by omega
        rw[List.drop_eq_getElem_cons hp'];by_cases hb:lt s[p] < 64
        ·have hB:Oz s[p]=true:=decide_eq_true hb;rw[kH (s':=((p+1:Nat):Int)) (by
           unfold jf;dsimp only;rw[if_pos (ft1 (a:=!(!true)) rfl (decide_eq_true (by omega))),fG hp',Option.bind_some,PQ,if_pos hb,Option.bind_some,if_pos (by omega),wS p (by omega)])]
         rw[ih (p+1) (by omega) (by omega),List.takeWhile_cons,if_pos hB,List.length_cons,show p+1+((s.drop (p+1)).takeWhile Oz).length=p+(((s.drop (p+1)).takeWhile Oz).length+1) from by omega]
        ·have hB:Oz s[p]=false:=decide_eq_false hb;rw[List.takeWhile_cons,if_neg (by rw[hB];decide)];refine gm ?_;unfold jf;dsimp only;rw[if_pos (ft1 (a:=!(!true)) rfl (decide_eq_true (by omega))),fG hp',Option.bind_some,PQ,if_neg hb,Option.bind_some,if_neg (by decide),YE s a p hap (by omega)];rfl
    rw[key (s.length - a) a (by omega) (Nat.le_refl _),tkw s a ha]
  | false =>
    rw[if_neg (by decide)];refine gm ?_;unfold jf;dsimp only;rw[if_neg (ft2 (a:=!(!false)) rfl),YE s a a (Nat.le_refl _) ha];simp
end
end Go.Sx
namespace Go.Sx
open Go.RowKit
set_option linter.unusedVariables false
set_option linter.unusedSimpArgs false
def dv (c:UInt8):UInt64:=UInt64.ofNat (c - 48).toNat
def RX (c:UInt8):Bool:=decide ((48:UInt8)<=c)&&decide (c<=57)
def uz:List UInt8->Bool->UInt64->UInt64×Nat×Bool
  | [],st,v=>(v,0,st)
  | c::l,st,v=>if RX c=true then(if((st&&decide (v=0))||decide (((18446744073709551615:UInt64) - dv c) / 10 < v))=true then(0,0,false) else((uz l true (10*v+dv c)).1,(uz l true (10*v+dv c)).2.1+1,(uz l true (10*v+dv c)).2.2)) else(v,0,st)
theorem Zx:∀ (l:List UInt8) (st:Bool) (v:UInt64),(uz l st v).2.1<=l.length
  | [],st,v=>Nat.le_refl _
  | c::l,st,v=>by
    unfold uz;split
    ·split
     ·exact Nat.zero_le _
     ·have:=Zx l true (10*v+dv c);simp only[List.length_cons];omega
    ·exact Nat.zero_le _
def CP (s:List UInt8)(a:Nat)(ok:Bool):UInt64×Nat×Bool:=if ok=true then((uz (s.drop a) false 0).1,a+(uz (s.drop a) false 0).2.1,(uz (s.drop a) false 0).2.2) else(0,a,false)
theorem Kt (s:List UInt8)(a:Nat)(ok:Bool)(ha:a<=s.length):(CP s a ok).2.1<=s.length:=by
  unfold CP;split
  ·have:=Zx (s.drop a) false 0;rw[List.length_drop] at this;show a+_<=_;omega
  ·exact ha
theorem Xi (c:UInt8)(h:RX c=true):(dv c).toNat<=9:=by
  have key:∀ n:Nat,n < 256->RX (UInt8.ofNat n)=true->(dv (UInt8.ofNat n)).toNat<=9:=by decide +kernel
  have:=JP (p:=fun c=>RX c=true->(dv c).toNat<=9) key c;exact this h
theorem num_in (v:UInt64)(c:UInt8)(h:RX c=true)(hv:¬ ((18446744073709551615:UInt64) - dv c) / 10 < v):(10*v+dv c).toNat=10*v.toNat+(dv c).toNat:=by
  have h9:=Xi c h;have hs:((18446744073709551615:UInt64) - dv c).toNat=18446744073709551615 - (dv c).toNat:=by
    rw[UInt64.toNat_sub_of_le _ _ (UInt64.le_iff_toNat_le.2 (by show(dv c).toNat<=18446744073709551615;omega))];rfl
  have hd:(((18446744073709551615:UInt64) - dv c) / 10).toNat=(18446744073709551615 - (dv c).toNat) / 10:=by
    rw[UInt64.toNat_div,hs];rfl
  have hle:v.toNat<=(18446744073709551615 - (dv c).toNat) / 10:=by
    rcases Nat.lt_or_ge ((18446744073709551615 - (dv c).toNat) / 10) v.toNat with q | q
    ·exact absurd (UInt64.lt_iff_toNat_lt.2 (by rw[hd];exact q)) hv
    ·exact q
  rw[UInt64.toNat_add,UInt64.toNat_mul,show(10:UInt64).toNat=10 from rfl];omega
section
variable (s:List UInt8)(hs:s.length<=4194304)
include hs
theorem num_p (a:Nat)(ha:a<=s.length)(ok:Bool):mi s (a:Int) ok=some ((CP s a ok).1,s,((CP s a ok).2.1:Int),(CP s a ok).2.2):=by
  have key:∀ (j p:Nat) (v:UInt64),p+j=s.length->a<=p->aZ (jI s (a:Int)) ((p:Int),v)=some ((uz (s.drop p) (decide (a < p)) v).1,s,((p+(uz (s.drop p) (decide (a < p)) v).2.1:Nat):Int),(uz (s.drop p) (decide (a < p)) v).2.2):=by
    intro j
    induction j with
    | zero =>
      intro p v hp hap;obtain rfl:p=s.length:=by omega
      rw[List.drop_length];refine gm ?_;unfold jI;dsimp only;have d1:decide ((s.length:Int) < (s.length:Int))=false:=decide_eq_false (by omega);rw[d1,gif0 _ rfl,Option.bind_some,Bool.false_and,gif0 _ rfl,Option.bind_some,if_neg (by decide)];rw[show decide ((a:Int) < (s.length:Int))=decide (a < s.length) from decide_eq_decide.2 (by omega)];rfl
    | succ j ih =>
      intro p v hp hap;have hp':p < s.length:=by omega
      rw[List.drop_eq_getElem_cons hp'];have d1:decide ((p:Int) < (s.length:Int))=true:=decide_eq_true (by omega);have d2:decide ((a:Int) < (p:Int))=decide (a < p):=decide_eq_decide.2 (by omega);have stepD:RX s[p]=true->jI s (a:Int) ((p:Int),v)=if((decide (a < p)&&decide (v=0))||decide (((18446744073709551615:UInt64) - dv s[p]) / 10 < v))=true then some (.inr (0,s,(p:Int),false)) else some (.inl (((p+1:Nat):Int),10*v+dv s[p])):=by
        intro hD;unfold RX at hD;rw[Bool.and_eq_true] at hD;unfold jI;dsimp only;rw[d1,YD _ rfl,fG hp',Option.bind_some,hD.1,YD (c:=true&&true) _ rfl,Option.bind_some,hD.2,if_pos (by rfl),Option.bind_some,d2,wS p (by omega)];rfl
      have stepN:RX s[p]=false->jI s (a:Int) ((p:Int),v)=some (.inr (v,s,(p:Int),decide (a < p))):=by
        intro hD;unfold RX at hD;unfold jI;dsimp only;rw[d1,YD _ rfl,fG hp',Option.bind_some,d2];cases h1:decide ((48:UInt8)<=s[p]) with
        | false =>
          rw[gif0 (c:=true&&false) _ rfl,Option.bind_some,if_neg (ft2 (a:=true&&false) rfl)];rfl
        | true =>
          rw[YD (c:=true&&true) _ rfl,Option.bind_some];rw[h1,Bool.true_and] at hD;rw[if_neg (ft3 hD)];rfl
      cases hD:RX s[p] with
      | false =>
        rw[gm (stepN hD)]
        conv=>rhs;unfold uz
        rw[hD];rfl
      | true =>
        unfold uz;rw[if_pos hD];by_cases hc:((decide (a < p)&&decide (v=0))||decide (((18446744073709551615:UInt64) - dv s[p]) / 10 < v))=true
        ·rw[gm ((stepD hD).trans (if_pos hc)),if_pos hc];rfl
        ·rw[kH ((stepD hD).trans (if_neg hc)),if_neg hc,ih (p+1) _ (by omega) (by omega),show decide (a < p+1)=true from decide_eq_true (by omega)];dsimp only;rw[show p+1+(uz (s.drop (p+1)) true (10*v+dv s[p])).2.1=p+((uz (s.drop (p+1)) true (10*v+dv s[p])).2.1+1) from by omega]
  unfold mi CP;cases ok with
  | false=>rfl
  | true =>
    rw[if_neg (by decide),if_pos rfl,key (s.length - a) a 0 (by omega) (Nat.le_refl _),show decide (a < a)=false from decide_eq_false (by omega)]
theorem num_r (a:Nat)(ha:a<=s.length)(ok:Bool):kL s (a:Int) (!ok)=some ((CP s a ok).1,s,((CP s a ok).2.1:Int),!(CP s a ok).2.2):=by
  have key:∀ (c1:UInt8) (j p:Nat) (v:UInt64),p+j=s.length->(v=0 ↔ dv c1=0)->aZ (kF s false c1) ((p:Int),v)=some ((uz (s.drop p) true v).1,s,((p+(uz (s.drop p) true v).2.1:Nat):Int),!(uz (s.drop p) true v).2.2):=by
    intro c1 j
    induction j with
    | zero =>
      intro p v hp hz;obtain rfl:p=s.length:=by omega
      rw[List.drop_length];refine gm ?_;unfold kF;dsimp only;rw[if_neg (by omega)];rfl
    | succ j ih =>
      intro p v hp hz;have hp':p < s.length:=by omega
      rw[List.drop_eq_getElem_cons hp'];have dz:decide (UInt64.ofNat (c1 - 48).toNat=0)=decide (v=0):=decide_eq_decide.2 ⟨fun q=>hz.2 q,fun q=>hz.1 q⟩;have step:kF s false c1 ((p:Int),v)=if RX s[p]=true then(if((true&&decide (v=0))||decide (((18446744073709551615:UInt64) - dv s[p]) / 10 < v))=true then some (.inr (0,s,(p:Int),true)) else some (.inl (((p+1:Nat):Int),10*v+dv s[p]))) else some (.inr (v,s,(p:Int),false)):=by
        unfold kF;dsimp only;rw[if_pos (by omega),fG hp',Option.bind_some,show zK s[p]=some (RX s[p]) from rfl,Option.bind_some,dz,Option.bind_some,wS p (by omega),Bool.true_and];rfl
      cases hD:RX s[p] with
      | false =>
        rw[gm (step.trans (by rw[hD];rfl))]
        conv=>rhs;unfold uz
        rw[hD];rfl
      | true =>
        unfold uz;rw[if_pos hD];rw[if_pos hD] at step;by_cases hc:((true&&decide (v=0))||decide (((18446744073709551615:UInt64) - dv s[p]) / 10 < v))=true
        ·rw[gm (step.trans (if_pos hc)),if_pos hc];rfl
        ·have hv0:¬ v=0:=fun q=>hc (by rw[decide_eq_true q];rfl);have hvl:¬ ((18446744073709551615:UInt64) - dv s[p]) / 10 < v:=fun q=>hc (by rw[decide_eq_true q,Bool.or_true]);have hin:=num_in v s[p] hD hvl;rw[kH (step.trans (if_neg hc)),if_neg hc,ih (p+1) _ (by omega) ⟨fun q=>by
           rw[q] at hin;have e0:(0:UInt64).toNat=0:=rfl;exact absurd (UInt64.toNat_inj.1 (by omega:v.toNat=(0:UInt64).toNat)) hv0,fun q=>absurd (hz.2 q) hv0⟩]
         dsimp only;rw[show p+1+(uz (s.drop (p+1)) true (10*v+dv s[p])).2.1=p+((uz (s.drop (p+1)) true (10*v+dv s[p])).2.1+1) from by omega]
  unfold kL CP;cases ok with
  | false=>rfl
  | true =>
    rw[if_pos (rfl:true=true)];by_cases hlt:a < s.length
    ·rw[if_neg (tf1 (a:=!true) rfl (decide_eq_false (by omega))),fG hlt,Option.bind_some,show zK s[a]=some (RX s[a]) from rfl,Option.bind_some,Option.bind_some,wS a (by omega),List.drop_eq_getElem_cons hlt];cases hD:RX s[a] with
     | false =>
       rw[if_pos (by rfl)];unfold uz;rw[hD];rfl
     | true =>
       rw[if_neg (by decide),show(!true)=false from rfl];have h9:=Xi s[a] hD;have hc:¬ ((false&&decide ((0:UInt64)=0))||decide (((18446744073709551615:UInt64) - dv s[a]) / 10 < 0))=true:=by
         rw[decide_eq_false (p:=((18446744073709551615:UInt64) - dv s[a]) / 10 < 0) (fun q=>by have:=UInt64.lt_iff_toNat_lt.1 q;have e0:(0:UInt64).toNat=0:=rfl;omega)];decide
       have e1:10*(0:UInt64)+dv s[a]=dv s[a]:=by simp
       have hk:=key s[a] (s.length - (a+1)) (a+1) (dv s[a]) (by omega) Iff.rfl;unfold uz;rw[if_pos hD,if_neg hc,e1];dsimp only;rw[show a+((uz (s.drop (a+1)) true (dv s[a])).2.1+1)=a+1+(uz (s.drop (a+1)) true (dv s[a])).2.1 from by omega];exact hk
    ·rw[if_pos (tf3 (decide_eq_true (by omega))),List.drop_eq_nil_of_le (by omega)];rfl
end
end Go.Sx
namespace Go.Sx
open Go.RowKit
set_option linter.unusedVariables false
set_option linter.unusedSimpArgs false
def uA (K M P L T:Int):Prop:=(0<=K/\K<=2)/\(1<=L/\L<=8)/\(1<=P/\P<=16)/\(4<=T/\T<=1024)/\(8*L<=M/\M<=4096)
instance (K M P L T:Int):Decidable (uA K M P L T):=by unfold uA;infer_instance
def EY (K M P L T:Int)(n:Nat):Int:=if uA K M P L T then(if n < 8∨64 < n then 201 else 0) else 200
theorem may_loop (M L:Int)(r:List (Int×Int×Int))(hr:r.length<=100):∀ (j i:Nat),i+j=r.length->aZ (tJ M L r) (i:Int)=some ((r.drop i).all (fun x=>decide (x.2.1<=x.1/\x.1<=x.2.2))&&decide (ay (8*L)<=M)):=by
  intro j
  induction j with
  | zero =>
    intro i hi;rw[List.drop_eq_nil_of_le (by omega)];refine gm ?_;unfold tJ;dsimp only;rw[if_neg (by omega)];rfl
  | succ j ih =>
    intro i hi;have hi':i < r.length:=by omega
    rw[List.drop_eq_getElem_cons hi',List.all_cons];by_cases hb:r[i].2.1<=r[i].1/\r[i].1<=r[i].2.2
    ·rw[kH (s':=((i+1:Nat):Int)) (by
       unfold tJ;dsimp only;rw[if_pos (by omega),fG hi',Option.bind_some,if_neg (tf1 (decide_eq_false (by omega)) (decide_eq_false (by omega))),wS i (by omega)])]
     rw[ih (i+1) (by omega),decide_eq_true hb,Bool.true_and]
    ·rw[decide_eq_false hb,Bool.false_and,Bool.false_and];refine gm ?_;unfold tJ;dsimp only;rw[if_pos (by omega),fG hi',Option.bind_some,if_pos (by
       by_cases h1:r[i].1 < r[i].2.1
       ·exact tf2 (decide_eq_true h1)
       ·exact tf3 (decide_eq_true (by omega)))]
     rfl
theorem YF (K M P L T:Int):zJ K M P L T=some (decide (uA K M P L T)):=by
  unfold zJ Af;rw[Option.bind_some];refine(may_loop M L [(K,0,2),(L,1,8),(P,1,16),(T,4,1024),(M,8,4096)] (by simp) 5 0 rfl).trans ?_;congr 1;rw[List.drop_zero];simp only[List.all_cons,List.all_nil,Bool.and_true];unfold uA;by_cases hL:1<=L/\L<=8
  ·rw[show ay (8*L)=8*L from by rw[bz] <;> omega];rw[<- Bool.decide_and,<-Bool.decide_and,<-Bool.decide_and,<-Bool.decide_and,<-Bool.decide_and];exact decide_eq_decide.2 (by omega)
  ·rw[decide_eq_false (p:=((1:Int)<=L/\L<=8)) hL,Bool.false_and,Bool.and_false,Bool.false_and];exact(decide_eq_false (by omega)).symm
theorem UU (K M P L T:Int)(aQ:List UInt8):sH K M P L T aQ=some (EY K M P L T aQ.length):=by
  unfold sH EY;rw[YF,Option.bind_some];by_cases h:uA K M P L T
  ·rw[decide_eq_true h,if_neg (by decide),if_pos h];by_cases h2:aQ.length < 8∨64 < aQ.length
   ·rw[if_pos h2,if_pos (by
      rcases h2 with q | q
      ·exact tf2 (decide_eq_true (by omega))
      ·exact tf3 (decide_eq_true (by omega)))]
   ·rw[if_neg h2,if_neg (tf1 (decide_eq_false (by omega)) (decide_eq_false (by omega)))]
  ·rw[decide_eq_false h,if_pos (by decide),if_neg h]
theorem Q5 (K M P L T:Int)(aQ:List UInt8):uB K M P L T aQ=some (EY K M P L T aQ.length):=by
  have hv:nV K M P L T=some (if uA K M P L T then 0 else 200):=by
    unfold nV;by_cases h:uA K M P L T
    ·rw[if_pos h];unfold uA at h;rw[show ay (8*L)=8*L from by rw[bz] <;> omega];rw[if_neg (by simp only[Bool.or_eq_true,decide_eq_true_eq];omega)]
    ·rw[if_neg h];unfold uA at h;by_cases hL:1<=L/\L<=8
     ·rw[show ay (8*L)=8*L from by rw[bz] <;> omega];rw[if_pos (by simp only[Bool.or_eq_true,decide_eq_true_eq];omega)]
     ·rw[if_pos (by simp only[Bool.or_eq_true,decide_eq_true_eq];omega)]
  unfold uB EY;rw[hv,Option.bind_some];by_cases h:uA K M P L T
  ·rw[if_pos h,if_neg (by decide),if_pos h];by_cases h2:aQ.length < 8∨64 < aQ.length
   ·rw[if_pos h2,if_pos (by
      rcases h2 with q | q
      ·exact tf2 (decide_eq_true (by omega))
      ·exact tf3 (decide_eq_true (by omega)))]
   ·rw[if_neg h2,if_neg (tf1 (decide_eq_false (by omega)) (decide_eq_false (by omega)))]
  ·rw[if_neg h,if_pos (by decide),if_neg h]
theorem pcheck (K M P L T:Int)(aQ sum:List UInt8):xQ K M P L T aQ sum=some (if EY K M P L T aQ.length≠0 then EY K M P L T aQ.length else if((sum.length:Nat):Int)≠T then 1 else 0):=by
  unfold xQ;rw[UU,Option.bind_some];split
  ·rfl
  ·split <;> rfl
theorem dig_loop:∀ (m:Nat) (n:UInt64) (l:List UInt8),n.toNat<=m->l.length<=1000000000->aZ oq (n,l)=some (Lib.decDigits n.toNat++l)∨1000000000<=l.length+m:=by
  intro m
  induction m with
  | zero =>
    intro n l hm hl;left;have hn:n=0:=UInt64.toNat_inj.1 (by rw[show(0:UInt64).toNat=0 from rfl];omega);subst hn;refine gm ?_;unfold oq;dsimp only;rw[jo (by simp only[List.length_cons,List.length_nil];omega),Option.bind_some,if_pos (by decide)];rw[show Lib.decDigits (0:UInt64).toNat=[48] from by rw[show(0:UInt64).toNat=0 from rfl,Lib.decDigits,dif_pos (by omega)];rfl];rfl
  | succ m ih =>
    intro n l hm hl;have hd:(n / 10).toNat=n.toNat / 10:=by rw[UInt64.toNat_div];rfl
    have hmd:((48:UInt64)+n % 10).toNat=48+n.toNat % 10:=by
      rw[UInt64.toNat_add,UInt64.toNat_mod,show(48:UInt64).toNat=48 from rfl,show(10:UInt64).toNat=10 from rfl];omega
    by_cases h10:n.toNat < 10
    ·left;refine gm ?_;unfold oq;dsimp only;rw[jo (by simp only[List.length_cons,List.length_nil];omega),Option.bind_some,if_pos (UInt64.toNat_inj.1 (by rw[hd];show n.toNat / 10=0;omega)),hmd,Lib.decDigits,dif_pos h10,Nat.mod_eq_of_lt h10];rfl
    ·have hne:¬ n / 10=0:=fun q=>by
       have:=congrArg UInt64.toNat q;rw[hd,show(0:UInt64).toNat=0 from rfl] at this;omega
     have step:oq (n,l)=some (.inl (n / 10,[UInt8.ofNat (48+n.toNat % 10)]++l)):=by
       unfold oq;dsimp only;rw[jo (by simp only[List.length_cons,List.length_nil];omega),Option.bind_some,if_neg hne,hmd]
     rw[kH step];by_cases hl2:l.length+(m+1) < 1000000000
     ·rcases ih (n / 10) ([UInt8.ofNat (48+n.toNat % 10)]++l) (by rw[hd];omega) (by simp only[List.length_append,List.length_cons,List.length_nil];omega) with q | q
      ·left;rw[q,hd]
       conv=>rhs;rw[Lib.decDigits,dif_neg h10]
       rw[List.append_assoc]
      ·simp only[List.length_append,List.length_cons,List.length_nil] at q;omega
     ·right;omega
theorem OA (n:Nat)(h:n<=4096):uG (UInt64.ofInt (n:Int))=some (Lib.decDigits n):=by
  have e:(UInt64.ofInt (n:Int)).toNat=n:=by
    have:UInt64.ofInt (n:Int)=UInt64.ofNat n:=by
      rw[<- UInt64.toNat_inj];unfold UInt64.ofInt;simp;omega
    rw[this,UInt64.toNat_ofNat_of_lt' (by show n < 18446744073709551616;omega)]
  unfold uG;rcases dig_loop n (UInt64.ofInt (n:Int)) [] (by omega) (by simp) with q | q
  ·rw[q,e,List.append_nil]
  ·simp only[List.length_nil] at q;omega
theorem OB:∀ n:Nat,(Lib.decDigits n).length<=n+1:=by
  intro n
  induction n using Nat.strongRecOn with
  | _ n ih =>
    rw[Lib.decDigits];split
    ·simp
    ·rw[List.length_append];have:=ih (n / 10) (by omega);simp only[List.length_cons,List.length_nil];omega
theorem itoa_ok (n:Nat):Lib.itoa (n:Int)=Lib.decDigits n:=by
  unfold Lib.itoa;rw[if_neg (by omega)];rfl
def kdS (K:Int):List UInt8:=if K=0 then[100] else if K=1 then[105] else[105,100]
def textS (K:Int)(M P L:Nat)(aQ sum:List UInt8):List UInt8 :=
  ((((((((((([36,97,114,103,111,110,50]:List UInt8)++kdS K)++([36,118,61,49,57,36,109,61]:List UInt8))++Lib.decDigits M)++([44,116,61]:List UInt8))++Lib.decDigits P)++([44,112,61]:List UInt8))++Lib.decDigits L)++([36]:List UInt8))++enc aQ)++([36]:List UInt8))++enc sum
def G5 (K M P L T:Int)(aQ sum:List UInt8):List UInt8×Int:=if EY K M P L T aQ.length≠0 then([],EY K M P L T aQ.length) else if((sum.length:Nat):Int)≠T then([],1) else(textS K M.toNat P.toNat L.toNat aQ sum,0)
theorem chk0 {K M P L T:Int}{n:Nat}(h:EY K M P L T n=0):uA K M P L T/\8<=n/\n<=64:=by
  unfold EY at h;split at h
  ·split at h
   ·cases h
   ·exact⟨by assumption,by omega,by omega⟩
  ·cases h
theorem Zy {K:Int}(h:0<=K/\K<=2):aV ([([100]:List UInt8),([105]:List UInt8),([105,100]:List UInt8)]:List (List UInt8)) K=some (kdS K):=by
  obtain rfl | rfl | rfl:K=0∨K=1∨K=2:=by omega
  ·rfl
  ·rfl
  ·rfl
theorem kd_len (K:Int):(kdS K).length<=2:=by
  unfold kdS;split
  ·decide
  ·split <;> decide
theorem print_p (K M P L T:Int)(aQ sum:List UInt8):Ag K M P L T aQ sum=some (G5 K M P L T aQ sum):=by
  unfold Ag G5;rw[pcheck,Option.bind_some];by_cases h0:EY K M P L T aQ.length≠0
  ·rw[if_pos h0,if_pos h0,if_pos h0]
  ·rw[if_neg h0,if_neg h0];by_cases h1:((sum.length:Nat):Int)≠T
   ·rw[if_pos h1,if_pos h1,if_pos (by decide)]
   ·rw[if_neg h1,if_neg h1,if_neg (by decide)];obtain⟨hm,hs1,hs2⟩:=chk0 (Classical.not_not.1 h0);have hT:=Classical.not_not.1 h1;unfold uA at hm;obtain⟨M,rfl⟩:∃ m:Nat,M=(m:Int):=⟨M.toNat,by omega⟩
    obtain⟨P,rfl⟩:∃ m:Nat,P=(m:Int):=⟨P.toNat,by omega⟩
    obtain⟨L,rfl⟩:∃ m:Nat,L=(m:Int):=⟨L.toNat,by omega⟩
    have hM:=OB M;have hP:=OB P;have hL:=OB L;have hk:=kd_len K;have hes:=NM aQ;have heu:=NM sum;rw[show Dv K=some (kdS K) from by
      unfold Dv;rw[show(⟨[([100]:List UInt8),([105]:List UInt8),([105,100]:List UInt8)],rfl⟩:Vec (List UInt8) 3).l=[([100]:List UInt8),([105]:List UInt8),([105,100]:List UInt8)] from rfl,Zy hm.1];rfl,Option.bind_some]
    simp only[itoa_ok];rw[Zu aQ (by omega),Zu sum (by omega)];have hb:∀ n:Nat,n<=1000000->n<=9223372036854775807:=fun n h=>by omega
    iterate 11 rw[jo (by first | exact⟨by omega,by omega⟩ | (refine hb _ ?_;simp only[List.length_append,List.length_cons,List.length_nil];omega)),Option.bind_some]
    rw[Option.bind_some]
    iterate 2 rw[jo (by refine hb _ ?_;simp only[List.length_append,List.length_cons,List.length_nil];omega),Option.bind_some]
    rw[Option.bind_some];rw[jo (by refine hb _ ?_;simp only[List.length_append,List.length_cons,List.length_nil];omega),Option.bind_some];rfl
theorem print_r (K M P L T:Int)(aQ sum:List UInt8):Dw K M P L T aQ sum=some (G5 K M P L T aQ sum):=by
  unfold Dw G5;rw[Q5,Option.bind_some];by_cases h0:EY K M P L T aQ.length≠0
  ·rw[if_pos h0,if_pos h0]
  ·rw[if_neg h0,if_neg h0];by_cases h1:((sum.length:Nat):Int)≠T
   ·rw[if_pos h1,if_pos h1]
   ·rw[if_neg h1,if_neg h1];obtain⟨hm,hs1,hs2⟩:=chk0 (Classical.not_not.1 h0);have hT:=Classical.not_not.1 h1;unfold uA at hm;obtain⟨M,rfl⟩:∃ m:Nat,M=(m:Int):=⟨M.toNat,by omega⟩
    obtain⟨P,rfl⟩:∃ m:Nat,P=(m:Int):=⟨P.toNat,by omega⟩
    obtain⟨L,rfl⟩:∃ m:Nat,L=(m:Int):=⟨L.toNat,by omega⟩
    have hM:=OB M;have hP:=OB P;have hL:=OB L;have hk:=kd_len K;have hes:=NM aQ;have heu:=NM sum;rw[Zy hm.1,Option.bind_some,OA M (by omega),OA P (by omega),OA L (by omega),Zt aQ (by omega),Zt sum (by omega)];have hb:∀ n:Nat,n<=1000000->n<=9223372036854775807:=fun n h=>by omega
    iterate 2 rw[jo (by refine hb _ ?_;simp only[List.length_append,List.length_cons,List.length_nil];omega),Option.bind_some]
    rw[Option.bind_some]
    iterate 2 rw[jo (by refine hb _ ?_;simp only[List.length_append,List.length_cons,List.length_nil];omega),Option.bind_some]
    rw[Option.bind_some]
    iterate 2 rw[jo (by refine hb _ ?_;simp only[List.length_append,List.length_cons,List.length_nil];omega),Option.bind_some]
    rw[Option.bind_some]
    iterate 2 rw[jo (by refine hb _ ?_;simp only[List.length_append,List.length_cons,List.length_nil];omega),Option.bind_some]
    rw[Option.bind_some]
    iterate 2 rw[jo (by refine hb _ ?_;simp only[List.length_append,List.length_cons,List.length_nil];omega),Option.bind_some]
    rw[Option.bind_some];rw[jo (by refine hb _ ?_;simp only[List.length_append,List.length_cons,List.length_nil];omega),Option.bind_some];rfl
end Go.Sx
namespace Go.Sx
open Go.RowKit
set_option linter.unusedVariables false
set_option linter.unusedSimpArgs false
theorem hpre2 (l:List UInt8)(hl:l.length<=4194304):jq l ([105,100]:List UInt8)=some (decide (l[0]?=some 105/\l[1]?=some 100)):=by
  unfold jq iZ
  match l,hl with
  | [],_=>rfl
  | [x],_ =>
    rw[show decide (((([105,100]:List UInt8).length:Nat):Int)<=(([x].length:Nat):Int))=false from rfl,gif0 _ rfl,Option.bind_some,Option.bind_some];congr 1;exact(decide_eq_false (fun q=>by cases q.2)).symm
  | x::y::r,hl =>
    have hd:decide (((([105,100]:List UInt8).length:Nat):Int)<=(((x::y::r).length:Nat):Int))=true:=decide_eq_true (by simp only[List.length_cons,List.length_nil];omega);rw[hd,YD _ rfl,show G6 (x::y::r) 0 ((([105,100]:List UInt8).length:Nat):Int)=some [x,y] from by rw[Ad ⟨by omega,by simp,by simp only[List.length_cons,List.length_nil];omega⟩];rfl,Option.bind_some,Option.bind_some,Bool.true_and];congr 1;refine decide_eq_decide.2 ⟨fun q=>?_,fun q=>?_⟩
    ·injection q with q1 q2;injection q2 with q3 q4;exact⟨by rw[<- q1];rfl,by rw[<- q3];rfl⟩
    ·have q1:=Option.some.inj q.1;have q2:=Option.some.inj q.2;rw[q1,q2]
theorem hpre1 (l:List UInt8)(hl:l.length<=4194304):jq l ([105]:List UInt8)=some (decide (l[0]?=some 105)):=by
  unfold jq iZ
  match l,hl with
  | [],_=>rfl
  | x::r,hl =>
    have hd:decide (((([105]:List UInt8).length:Nat):Int)<=(((x::r).length:Nat):Int))=true:=decide_eq_true (by simp only[List.length_cons,List.length_nil];omega);rw[hd,YD _ rfl,show G6 (x::r) 0 ((([105]:List UInt8).length:Nat):Int)=some [x] from by rw[Ad ⟨by omega,by simp,by simp only[List.length_cons,List.length_nil];omega⟩];rfl,Option.bind_some,Option.bind_some,Bool.true_and];congr 1;refine decide_eq_decide.2 ⟨fun q=>?_,fun q=>?_⟩
    ·injection q with q1 q2;rw[<- q1];rfl
    ·have q1:=Option.some.inj q;rw[q1]
def zZ (s:List UInt8)(a:Nat)(ok:Bool):Int×Nat×Bool :=
  if ok=true then(if s[a]?=some 105 then(if s[a+1]?=some 100 then(2,a+2,true) else(1,a+1,true)) else if s[a]?=some 100 then(0,a+1,true) else(0,a,false)) else(0,a,false)
theorem Xj (s:List UInt8)(a:Nat)(ok:Bool)(ha:a<=s.length):(zZ s a ok).2.1<=s.length:=by
  unfold zZ;split
  ·split
   ·rename_i h;obtain⟨h2,_⟩:=List.getElem?_eq_some_iff.1 h;split
    ·rename_i h;obtain⟨h3,_⟩:=List.getElem?_eq_some_iff.1 h;show a+2<=_;omega
    ·show a+1<=_;omega
   ·split
    ·rename_i h;obtain⟨h3,_⟩:=List.getElem?_eq_some_iff.1 h;show a+1<=_;omega
    ·exact ha
  ·exact ha
section
variable (s:List UInt8)(hs:s.length<=4194304)
include hs
theorem kind_r (a:Nat)(ha:a<=s.length)(ok:Bool):∃ k',pX s (a:Int) (!ok)=some (k',s,((zZ s a ok).2.1:Int),!(zZ s a ok).2.2)/\((zZ s a ok).2.2=true->k'=(zZ s a ok).1):=by
  unfold pX;cases ok with
  | false=>exact⟨0,rfl,fun q=>by cases q⟩
  | true =>
    unfold zZ;rw[if_pos (rfl:true=true)];by_cases hlt:a < s.length
    ·rw[if_neg (tf1 (a:=!true) rfl (decide_eq_false (by omega))),fG hlt,Option.bind_some,List.getElem?_eq_getElem hlt];by_cases KH:s[a]=100
     ·rw[if_pos KH,if_neg (by rw[KH];decide),if_pos (by rw[KH]),wS a (by omega)];exact⟨0,rfl,fun _=>rfl⟩
     ·have hl:=Q4 s hs ([105]:List UInt8) (by decide) a ha true;rw[if_neg KH,hl,Option.bind_some];by_cases OC:s[a]=105
      ·have e:lN s a true [105]=(a+1,true):=by
         unfold lN;rw[if_pos rfl,if_pos (by rw[List.getElem?_eq_getElem hlt,OC])];rfl
       rw[e,if_pos (by rw[OC])];dsimp only;by_cases hlt2:a+1 < s.length
       ·have d1:decide (((a+1:Nat):Int) < (s.length:Int))=true:=decide_eq_true (by omega);rw[d1,YD (c:=(!!true)&&true) _ rfl,fG hlt2,Option.bind_some,List.getElem?_eq_getElem hlt2];by_cases h:s[a+1]=100
        ·rw[if_pos (ft1 (a:=(!!true)&&true) rfl (decide_eq_true h)),if_pos (by rw[h]),wS (a+1) (by omega)];exact⟨2,rfl,fun _=>rfl⟩
        ·rw[if_neg (ft3 (decide_eq_false h)),if_neg (fun q=>h (Option.some.inj q))];exact⟨1,rfl,fun _=>rfl⟩
       ·have d1:decide (((a+1:Nat):Int) < (s.length:Int))=false:=decide_eq_false (by omega);rw[d1,gif0 (c:=(!!true)&&false) _ rfl,Option.bind_some,if_neg (ft2 (a:=(!!true)&&false) rfl),List.getElem?_eq_none (by omega),if_neg (fun q=>by cases q)];exact⟨1,rfl,fun _=>rfl⟩
      ·have e:lN s a true [105]=(a,false):=by
         unfold lN;rw[if_pos rfl,if_neg (by rw[List.getElem?_eq_getElem hlt];exact fun q=>OC (Option.some.inj q))]
       rw[e,if_neg (fun q=>OC (Option.some.inj q)),if_neg (fun q=>KH (Option.some.inj q))];dsimp only;rw[gif0 (c:=(!!false)&&_) _ rfl,Option.bind_some,if_neg (ft2 (a:=(!!false)&&_) rfl)];exact⟨1,rfl,fun q=>by cases q⟩
    ·rw[if_pos (tf3 (decide_eq_true (by omega))),List.getElem?_eq_none (by omega),if_neg (fun q=>by cases q),if_neg (fun q=>by cases q)];exact⟨0,rfl,fun q=>by cases q⟩
theorem parse_k:rG s=jw s s ((zZ s (lN s 0 true [36,97,114,103,111,110,50]).1 (lN s 0 true [36,97,114,103,111,110,50]).2).2.1:Int) (zZ s (lN s 0 true [36,97,114,103,111,110,50]).1 (lN s 0 true [36,97,114,103,111,110,50]).2).2.2 (zZ s (lN s 0 true [36,97,114,103,111,110,50]).1 (lN s 0 true [36,97,114,103,111,110,50]).2).1:=by
  have h1:=Q3 s hs ([36,97,114,103,111,110,50]:List UInt8) (by decide) 0 (by omega) true;have hle:=wR s [36,97,114,103,111,110,50] 0 true (by omega);unfold rG;rw[show(0:Int)=((0:Nat):Int) from rfl,h1,Option.bind_some];generalize lN s 0 true [36,97,114,103,111,110,50]=x at hle ⊢;obtain⟨a,ok⟩:=x;dsimp only at hle ⊢;have hd:G6 s (a:Int) (s.length:Int)=some (s.drop a):=by rw[YE s a s.length hle (Nat.le_refl _),List.take_length]
  have hdl:(s.drop a).length<=4194304:=by rw[List.length_drop];omega
  have g0:(s.drop a)[0]?=s[a]?:=by rw[List.getElem?_drop,Nat.add_zero]
  have g1:(s.drop a)[1]?=s[a+1]?:=by rw[List.getElem?_drop]
  have hlit:=Q3 s hs ([100]:List UInt8) (by decide) a hle ok;cases ok with
  | false =>
    rw[if_neg (by decide),if_neg (by decide),hlit,Option.bind_some,PS];rfl
  | true =>
    rw[if_pos rfl,hd,Option.bind_some,hpre2 _ hdl,Option.bind_some,g0,g1];unfold zZ;rw[if_pos rfl];by_cases OC:s[a]?=some 105
    ·obtain⟨hl1,_⟩:=List.getElem?_eq_some_iff.1 OC;by_cases KH:s[a+1]?=some 100
     ·obtain⟨hl2,_⟩:=List.getElem?_eq_some_iff.1 KH;rw[if_pos (decide_eq_true ⟨OC,KH⟩),if_pos OC,if_pos KH,show ay ((a:Int)+2)=((a+2:Nat):Int) from by rw[bz] <;> omega];rfl
     ·rw[if_neg (by rw[decide_eq_false (fun q=>KH q.2)];decide),if_pos rfl,Option.bind_some,hpre1 _ hdl,Option.bind_some,g0,if_pos (decide_eq_true OC),if_pos OC,if_neg KH,wS a (by omega)]
    ·rw[if_neg (by rw[decide_eq_false (fun q=>OC q.1)];decide),if_pos rfl,Option.bind_some,hpre1 _ hdl,Option.bind_some,g0,if_neg (by rw[decide_eq_false OC];decide),hlit,Option.bind_some,if_neg OC];unfold lN;rw[if_pos rfl];by_cases KH:s[a]?=some 100
     ·rw[if_pos KH,if_pos KH];rfl
     ·rw[if_neg KH,if_neg KH];rfl
end
end Go.Sx
namespace Go.Sx
open Go.RowKit
set_option linter.unusedVariables false
set_option linter.unusedSimpArgs false
def Ry (v:UInt64):Int:=if(9223372036854775807:UInt64) < v then -1 else ay (v.toNat:Int)
theorem wh_p (v:UInt64):uH v=some (Ry v):=by
  unfold uH Ry;split <;> rfl
theorem wh_r (v:UInt64):wX v=some (Ry v):=by
  unfold wX Ry;split <;> rfl
def UW (s:List UInt8)(k w1 w2 w3:Int)(p4:Nat)(t1:List UInt8)(p5:Nat)(t2:List UInt8)(p6:Nat)(ok:Bool):Int×Int×Int×Int×Int×List UInt8×List UInt8×Int×Int :=
  if((!ok)||(decide ((p6:Int) < (s.length:Int))))=true then(0,0,0,0,0,[],[],(p6:Int),4)
  else if(qL t1).2.2≠0 then(0,0,0,0,0,[],[],(p4:Int),4)
  else if(qL t2).2.2≠0 then(0,0,0,0,0,[],[],(p5:Int),4)
  else if EY k w1 w2 w3 (((qL t2).1.length:Nat):Int) (qL t1).1.length≠0 then(0,0,0,0,0,[],[],0,1)
  else(k,w1,w2,w3,(((qL t2).1.length:Nat):Int),(qL t1).1,(qL t2).1,0,0)
def midS (s:List UInt8)(k:Int)(a:Nat)(ok:Bool):Int×Int×Int×Int×Int×List UInt8×List UInt8×Int×Int :=
  let x1:=lN s a ok [36,118,61,49,57,36,109,61]
  let n1:=CP s x1.1 x1.2
  let x2:=lN s n1.2.1 n1.2.2 [44,116,61]
  let n2:=CP s x2.1 x2.2
  let x3:=lN s n2.2.1 n2.2.2 [44,112,61]
  let n3:=CP s x3.1 x3.2
  let x4:=lN s n3.2.1 n3.2.2 [36]
  let t1:=BI s x4.1 x4.2
  let x5:=lN s (x4.1+t1.length) x4.2 [36]
  let t2:=BI s x5.1 x5.2
  UW s k (Ry n1.1) (Ry n2.1) (Ry n3.1) x4.1 t1 x5.1 t2 (x5.1+t2.length) x5.2
theorem NP (s:List UInt8)(a:Nat)(t:List UInt8)(ok:Bool)(h:(lN s a ok t).2=true):ok=true:=by
  cases ok with
  | true=>rfl
  | false=>rw[PS] at h;exact h
theorem PU (s:List UInt8)(a:Nat)(ok:Bool)(h:(CP s a ok).2.2=true):ok=true:=by
  cases ok with
  | true=>rfl
  | false=>exact h
def uU (s:List UInt8):Int×Int×Int×Int×Int×List UInt8×List UInt8×Int×Int :=
  midS s (zZ s (lN s 0 true [36,97,114,103,111,110,50]).1 (lN s 0 true [36,97,114,103,111,110,50]).2).1 (zZ s (lN s 0 true [36,97,114,103,111,110,50]).1 (lN s 0 true [36,97,114,103,111,110,50]).2).2.1 (zZ s (lN s 0 true [36,97,114,103,111,110,50]).1 (lN s 0 true [36,97,114,103,111,110,50]).2).2.2
section
variable (s:List UInt8)(hs:s.length<=4194304)
include hs
theorem PV (a:Nat)(ok:Bool):(BI s a ok).length<=4194304:=by
  unfold BI;split
  ·have:=(List.takeWhile_prefix (p:=Oz) (l:=s.drop a)).length_le;rw[List.length_drop] at this;omega
  ·exact Nat.zero_le _
theorem mid_p (k:Int)(a:Nat)(ha:a<=s.length)(ok:Bool):jw s s (a:Int) ok k=some (midS s k a ok):=by
  unfold jw midS;dsimp only;rw[Q3 s hs _ (by decide) a ha ok,Option.bind_some];have h1:=wR s [36,118,61,49,57,36,109,61] a ok ha;generalize lN s a ok [36,118,61,49,57,36,109,61]=x1 at h1 ⊢;dsimp only;rw[num_p s hs x1.1 h1 x1.2,Option.bind_some];have h2:=Kt s x1.1 x1.2 h1;generalize CP s x1.1 x1.2=n1 at h2 ⊢;dsimp only;rw[wh_p,Option.bind_some,Q3 s hs _ (by decide) n1.2.1 h2 n1.2.2,Option.bind_some];have h3:=wR s [44,116,61] n1.2.1 n1.2.2 h2;generalize lN s n1.2.1 n1.2.2 [44,116,61]=x2 at h3 ⊢;dsimp only;rw[num_p s hs x2.1 h3 x2.2,Option.bind_some];have h4:=Kt s x2.1 x2.2 h3;generalize CP s x2.1 x2.2=n2 at h4 ⊢;dsimp only;rw[wh_p,Option.bind_some,Q3 s hs _ (by decide) n2.2.1 h4 n2.2.2,Option.bind_some];have h5:=wR s [44,112,61] n2.2.1 n2.2.2 h4;generalize lN s n2.2.1 n2.2.2 [44,112,61]=x3 at h5 ⊢;dsimp only;rw[num_p s hs x3.1 h5 x3.2,Option.bind_some];have h6:=Kt s x3.1 x3.2 h5;generalize CP s x3.1 x3.2=n3 at h6 ⊢;dsimp only;rw[wh_p,Option.bind_some,Q3 s hs _ (by decide) n3.2.1 h6 n3.2.2,Option.bind_some];have h7:=wR s [36] n3.2.1 n3.2.2 h6;generalize lN s n3.2.1 n3.2.2 [36]=x4 at h7 ⊢;dsimp only;rw[let_p s hs x4.1 h7 x4.2,Option.bind_some];have h8:=PT s x4.1 x4.2 h7;have l1:=PV s hs x4.1 x4.2;generalize BI s x4.1 x4.2=t1 at h8 l1 ⊢;dsimp only;rw[Q3 s hs _ (by decide) (x4.1+t1.length) h8 x4.2,Option.bind_some];have h9:=wR s [36] (x4.1+t1.length) x4.2 h8
  generalize lN s (x4.1+t1.length) x4.2 [36]=x5 at h9 ⊢;dsimp only;rw[let_p s hs x5.1 h9 x5.2,Option.bind_some];have h10:=PT s x5.1 x5.2 h9;have l2:=PV s hs x5.1 x5.2;generalize BI s x5.1 x5.2=t2 at h10 l2 ⊢;dsimp only;unfold UW;split
  ·rfl
  ·rw[wunb64 t1 l1,Option.bind_some];split
   ·rfl
   ·rw[wunb64 t2 l2,Option.bind_some];split
    ·rfl
    ·rw[pcheck,Option.bind_some];by_cases hc:EY k (Ry n1.1) (Ry n2.1) (Ry n3.1) (((qL t2).1.length:Nat):Int) (qL t1).1.length≠0
     ·rw[if_pos hc,if_pos hc,if_pos hc]
     ·have e0:(if EY k (Ry n1.1) (Ry n2.1) (Ry n3.1) (((qL t2).1.length:Nat):Int) (qL t1).1.length≠0 then EY k (Ry n1.1) (Ry n2.1) (Ry n3.1) (((qL t2).1.length:Nat):Int) (qL t1).1.length else if(((qL t2).1.length:Nat):Int)≠(((qL t2).1.length:Nat):Int) then(1:Int) else 0)=0:=by
        rw[if_neg hc,if_neg (fun q=>q rfl)]
      rw[e0,if_neg (fun q=>q rfl),if_neg hc]
theorem UX:rG s=some (uU s):=by
  rw[parse_k s hs,mid_p s hs _ _ (Xj s _ _ (wR s _ 0 true (by omega)))];rfl
theorem Zz:zL s=some (uU s):=by
  have h0:iG s (0:Int) false ([36,97,114,103,111,110,50]:List UInt8)=some (s,((lN s 0 true [36,97,114,103,111,110,50]).1:Int),!(lN s 0 true [36,97,114,103,111,110,50]).2):=Q4 s hs ([36,97,114,103,111,110,50]:List UInt8) (by decide) 0 (by omega) true;have hle:=wR s [36,97,114,103,111,110,50] 0 true (by omega);unfold zL uU;rw[h0,Option.bind_some];generalize lN s 0 true [36,97,114,103,111,110,50]=x0 at hle ⊢;dsimp only;obtain⟨k',hk,hkk⟩:=kind_r s hs x0.1 hle x0.2;rw[hk,Option.bind_some];have hkl:=Xj s x0.1 x0.2 hle;generalize zZ s x0.1 x0.2=kx at hkl hkk ⊢;dsimp only;unfold midS;dsimp only;rw[Q4 s hs _ (by decide) kx.2.1 hkl kx.2.2,Option.bind_some];have h1:=wR s [36,118,61,49,57,36,109,61] kx.2.1 kx.2.2 hkl;have o1:=NP s kx.2.1 [36,118,61,49,57,36,109,61] kx.2.2;generalize lN s kx.2.1 kx.2.2 [36,118,61,49,57,36,109,61]=x1 at h1 o1 ⊢;dsimp only;rw[num_r s hs x1.1 h1 x1.2,Option.bind_some];have h2:=Kt s x1.1 x1.2 h1;have o2:=PU s x1.1 x1.2;generalize CP s x1.1 x1.2=n1 at h2 o2 ⊢;dsimp only;rw[Q4 s hs _ (by decide) n1.2.1 h2 n1.2.2,Option.bind_some];have h3:=wR s [44,116,61] n1.2.1 n1.2.2 h2;have o3:=NP s n1.2.1 [44,116,61] n1.2.2;generalize lN s n1.2.1 n1.2.2 [44,116,61]=x2 at h3 o3 ⊢;dsimp only;rw[num_r s hs x2.1 h3 x2.2,Option.bind_some];have h4:=Kt s x2.1 x2.2 h3;have o4:=PU s x2.1 x2.2;generalize CP s x2.1 x2.2=n2 at h4 o4 ⊢;dsimp only
  rw[Q4 s hs _ (by decide) n2.2.1 h4 n2.2.2,Option.bind_some];have h5:=wR s [44,112,61] n2.2.1 n2.2.2 h4;have o5:=NP s n2.2.1 [44,112,61] n2.2.2;generalize lN s n2.2.1 n2.2.2 [44,112,61]=x3 at h5 o5 ⊢;dsimp only;rw[num_r s hs x3.1 h5 x3.2,Option.bind_some];have h6:=Kt s x3.1 x3.2 h5;have o6:=PU s x3.1 x3.2;generalize CP s x3.1 x3.2=n3 at h6 o6 ⊢;dsimp only;rw[Q4 s hs _ (by decide) n3.2.1 h6 n3.2.2,Option.bind_some];have h7:=wR s [36] n3.2.1 n3.2.2 h6;have o7:=NP s n3.2.1 [36] n3.2.2;generalize lN s n3.2.1 n3.2.2 [36]=x4 at h7 o7 ⊢;dsimp only;rw[let_r s hs x4.1 h7 x4.2,Option.bind_some];have h8:=PT s x4.1 x4.2 h7;have l1:=PV s hs x4.1 x4.2;generalize BI s x4.1 x4.2=t1 at h8 l1 ⊢;dsimp only;rw[Q4 s hs _ (by decide) (x4.1+t1.length) h8 x4.2,Option.bind_some];have h9:=wR s [36] (x4.1+t1.length) x4.2 h8;have o8:=NP s (x4.1+t1.length) [36] x4.2;generalize lN s (x4.1+t1.length) x4.2 [36]=x5 at h9 o8 ⊢;dsimp only;rw[let_r s hs x5.1 h9 x5.2,Option.bind_some];have h10:=PT s x5.1 x5.2 h9;have l2:=PV s hs x5.1 x5.2;generalize BI s x5.1 x5.2=t2 at h10 l2 ⊢;dsimp only;unfold UW;by_cases hbad:((!x5.2)||(decide (((x5.1+t2.length:Nat):Int) < (s.length:Int))))=true
  ·rw[if_pos hbad,if_pos hbad]
  ·rw[if_neg hbad,if_neg hbad];have hok:x5.2=true:=by
     cases h:x5.2 with
     | true=>rfl
     | false=>exact absurd (by rw[h];rfl) hbad
   have hkk':=hkk (o1 (o2 (o3 (o4 (o5 (o6 (o7 (o8 hok))))))));rw[hkk',runb64 t1 l1,Option.bind_some];split
   ·rfl
   ·rw[runb64 t2 l2,Option.bind_some];split
    ·rfl
    ·rw[wh_r,Option.bind_some,wh_r,Option.bind_some,wh_r,Option.bind_some,Q5,Option.bind_some];split <;> rfl
end
theorem parse_len (s:List UInt8):(uU s).2.2.2.2.2.1.length<=s.length/\(uU s).2.2.2.2.2.2.1.length<=s.length:=by
  have hl:∀ a ok,(BI s a ok).length<=s.length:=by
    intro a ok;unfold BI;split
    ·have:=(List.takeWhile_prefix (p:=Oz) (l:=s.drop a)).length_le;rw[List.length_drop] at this;omega
    ·exact Nat.zero_le _
  unfold uU midS;dsimp only;unfold UW;split
  ·exact⟨Nat.zero_le _,Nat.zero_le _⟩
  ·split
   ·exact⟨Nat.zero_le _,Nat.zero_le _⟩
   ·split
    ·exact⟨Nat.zero_le _,Nat.zero_le _⟩
    ·split
     ·exact⟨Nat.zero_le _,Nat.zero_le _⟩
     ·exact⟨Nat.le_trans (Xg _) (hl _ _),Nat.le_trans (Xg _) (hl _ _)⟩
theorem awake_ok:Dx=some true:=by
  unfold Dx;rw[UX _ (by decide),Option.bind_some];have:(uU [36,97,114,103,111,110,50,105,100,36,118,61,49,56]).2.2.2.2.2.2.2=(13,4):=by decide +kernel
  rw[show(uU [36,97,114,103,111,110,50,105,100,36,118,61,49,56]).2.2.2.2.2.2.2.1=13 from by rw[this],show(uU [36,97,114,103,111,110,50,105,100,36,118,61,49,56]).2.2.2.2.2.2.2.2=4 from by rw[this]];rfl
end Go.Sx
namespace Go.Sx
open Go.RowKit
set_option linter.unusedVariables false
set_option linter.unusedSimpArgs false
theorem IM (s:List UInt8):∀ (t:List UInt8) (a:Nat) (ok:Bool),(lN s a ok t).2=true->ok=true/\(lN s a ok t).1=a+t.length/\s.drop a=t++s.drop (a+t.length)
  | [],a,ok,h=>⟨h,rfl,rfl⟩
  | c::t,a,ok,h=>by
    unfold lN at h ⊢;by_cases h0:ok=true
    ·rw[if_pos h0] at h ⊢;by_cases h1:s[a]?=some c
     ·rw[if_pos h1] at h ⊢;obtain⟨_,i2,i3⟩:=IM s t (a+1) true h;have e:a+1+t.length=a+(c::t).length:=by simp only[List.length_cons];omega
      refine⟨h0,by rw[i2,e],?_⟩;obtain⟨hl,hc⟩:=List.getElem?_eq_some_iff.1 h1;rw[List.drop_eq_getElem_cons hl,hc,i3,e];rfl
     ·rw[if_neg h1] at h;cases h
    ·rw[if_neg h0] at h;cases h
theorem dig_u (c:UInt8)(h:RX c=true):c=UInt8.ofNat (48+(dv c).toNat):=by
  have key:∀ n:Nat,n < 256->RX (UInt8.ofNat n)=true->UInt8.ofNat n=UInt8.ofNat (48+(dv (UInt8.ofNat n)).toNat):=by decide +kernel
  exact JP (p:=fun c=>RX c=true->c=UInt8.ofNat (48+(dv c).toNat)) key c h
theorem numS_in (c:UInt8)(l:List UInt8)(st:Bool)(v:UInt64)(hc:RX c=true)(h0:(st&&decide (v=0))=false)(h1:v.toNat<=1000000):uz (c::l) st v=((uz l true (10*v+dv c)).1,(uz l true (10*v+dv c)).2.1+1,(uz l true (10*v+dv c)).2.2):=by
  rw[uz,if_pos hc,if_neg];rw[h0,Bool.false_or,decide_eq_true_eq,UInt64.lt_iff_toNat_lt];have hd:=Xi c hc;have e:((18446744073709551615:UInt64) - dv c).toNat=18446744073709551615 - (dv c).toNat:=by
    rw[UInt64.toNat_sub_of_le]
    ·rfl
    ·rw[UInt64.le_iff_toNat_le];show(dv c).toNat<=18446744073709551615;omega
  rw[UInt64.toNat_div,e];show ¬ (18446744073709551615 - (dv c).toNat) / 10 < v.toNat;omega
theorem Xk:∀ (l:List UInt8) (v:UInt64),(uz l true v).2.2=true->Lib.decDigits v.toNat++l.take (uz l true v).2.1=Lib.decDigits (uz l true v).1.toNat
  | [],v,h=>by simp[uz]
  | c::l,v,h=>by
    by_cases hc:RX c=true
    ·rw[uz,if_pos hc] at h ⊢;by_cases hb:((true&&decide (v=0))||decide (((18446744073709551615:UInt64) - dv c) / 10 < v))=true
     ·rw[if_pos hb] at h;cases h
     ·rw[if_neg hb] at h ⊢;have ih:=Xk l (10*v+dv c) h;rw[Bool.true_and,Bool.or_eq_true,decide_eq_true_eq,decide_eq_true_eq,not_or] at hb;have hv:=num_in v c hc hb.2;have hv0:v.toNat≠0:=fun q=>hb.1 (UInt64.toNat_inj.1 q);have hd:=Xi c hc;rw[hv] at ih;rw[show Lib.decDigits (10*v.toNat+(dv c).toNat)=Lib.decDigits v.toNat++[c] from by
        rw[Lib.decDigits,dif_neg (by omega),show(10*v.toNat+(dv c).toNat) / 10=v.toNat from by omega,show(10*v.toNat+(dv c).toNat) % 10=(dv c).toNat from by omega,<-dig_u c hc]] at ih
      rw[List.take_succ_cons,<-ih,List.append_assoc];rfl
    ·rw[uz,if_neg hc];simp
theorem num_bwd0 (l:List UInt8)(h:(uz l false 0).2.2=true):l.take (uz l false 0).2.1=Lib.decDigits (uz l false 0).1.toNat:=by
  cases l with
  | nil=>cases h
  | cons c l =>
    by_cases hc:RX c=true
    ·rw[numS_in c l false 0 hc rfl (by show(0:Nat)<=1000000;omega)] at h ⊢;have hk:=Xk l _ h;rw[UInt64.mul_zero,UInt64.zero_add] at *;have hd:=Xi c hc;rw[Lib.decDigits,dif_pos (by omega),<-dig_u c hc] at hk;rw[List.take_succ_cons,<-hk];rfl
    ·rw[uz,if_neg hc] at h;cases h
theorem UY (s:List UInt8)(a:Nat)(ok:Bool)(h:(CP s a ok).2.2=true):ok=true/\s.drop a=Lib.decDigits (CP s a ok).1.toNat++s.drop (CP s a ok).2.1:=by
  have ho:=PU s a ok h;subst ho;refine⟨rfl,?_⟩;unfold CP at h ⊢;rw[if_pos rfl] at h ⊢;have:=num_bwd0 _ h;dsimp only;rw[<- this,<-List.drop_drop,List.take_append_drop]
theorem kind_bwd (s:List UInt8)(a:Nat)(ok:Bool)(h:(zZ s a ok).2.2=true):ok=true/\s.drop a=kdS (zZ s a ok).1++s.drop (zZ s a ok).2.1:=by
  have at1:∀ (b:Nat) (c:UInt8),s[b]?=some c->s.drop b=c::s.drop (b+1):=by
    intro b c q;obtain⟨hl,hc⟩:=List.getElem?_eq_some_iff.1 q;rw[List.drop_eq_getElem_cons hl,hc]
  unfold zZ at h ⊢;by_cases h0:ok=true
  ·rw[if_pos h0] at h ⊢;refine⟨h0,?_⟩;by_cases h1:s[a]?=some 105
   ·rw[if_pos h1] at h ⊢;by_cases h2:s[a+1]?=some 100
    ·rw[if_pos h2] at h ⊢;rw[at1 _ _ h1,at1 _ _ h2];rfl
    ·rw[if_neg h2] at h ⊢;rw[at1 _ _ h1];rfl
   ·rw[if_neg h1] at h ⊢;by_cases h3:s[a]?=some 100
    ·rw[if_pos h3] at h ⊢;rw[at1 _ _ h3];rfl
    ·rw[if_neg h3] at h;cases h
  ·rw[if_neg h0] at h;cases h
theorem ZA (s:List UInt8)(a:Nat):s.drop a=BI s a true++s.drop (a+(BI s a true).length):=by
  unfold BI;rw[if_pos rfl,<-List.drop_drop];have:∀ (l:List UInt8),l=l.takeWhile Oz++l.drop (l.takeWhile Oz).length:=by
    intro l;have h1:=List.takeWhile_prefix (p:=Oz) (l:=l);obtain⟨t,ht⟩:=h1;have:l.drop (l.takeWhile Oz).length=t:=by
      conv=>lhs;rw[<- ht]
      rw[ht]
      conv=>lhs;arg 2;rw[<- ht]
      rw[List.drop_left]
    rw[this,ht]
  exact this _
theorem UZ (v:UInt64)(h:0<=Ry v):Ry v=(v.toNat:Int):=by
  unfold Ry at h ⊢;by_cases q:(9223372036854775807:UInt64) < v
  ·rw[if_pos q] at h;omega
  ·rw[if_neg q];rw[UInt64.lt_iff_toNat_lt] at q;have:v.toNat<=9223372036854775807:=Nat.le_of_not_lt q;rw[bz] <;> omega
theorem YG (s:List UInt8)(h:(uU s).2.2.2.2.2.2.2.2=0):G5 (uU s).1 (uU s).2.1 (uU s).2.2.1 (uU s).2.2.2.1 (uU s).2.2.2.2.1 (uU s).2.2.2.2.2.1 (uU s).2.2.2.2.2.2.1=(s,0):=by
  unfold uU at h ⊢;have b0:=IM s [36,97,114,103,111,110,50] 0 true;generalize lN s 0 true [36,97,114,103,111,110,50]=x0 at b0 h ⊢;have b1:=kind_bwd s x0.1 x0.2;generalize zZ s x0.1 x0.2=kx at b1 h ⊢;unfold midS at h ⊢;dsimp only at h ⊢;have b2:=IM s [36,118,61,49,57,36,109,61] kx.2.1 kx.2.2;generalize lN s kx.2.1 kx.2.2 [36,118,61,49,57,36,109,61]=x1 at b2 h ⊢;have b3:=UY s x1.1 x1.2;generalize CP s x1.1 x1.2=n1 at b3 h ⊢;have b4:=IM s [44,116,61] n1.2.1 n1.2.2;generalize lN s n1.2.1 n1.2.2 [44,116,61]=x2 at b4 h ⊢;have b5:=UY s x2.1 x2.2;generalize CP s x2.1 x2.2=n2 at b5 h ⊢;have b6:=IM s [44,112,61] n2.2.1 n2.2.2;generalize lN s n2.2.1 n2.2.2 [44,112,61]=x3 at b6 h ⊢;have b7:=UY s x3.1 x3.2;generalize CP s x3.1 x3.2=n3 at b7 h ⊢;have b8:=IM s [36] n3.2.1 n3.2.2;generalize lN s n3.2.1 n3.2.2 [36]=x4 at b8 h ⊢;have b9:=ZA s x4.1;have b10:=IM s [36] (x4.1+(BI s x4.1 x4.2).length) x4.2;generalize lN s (x4.1+(BI s x4.1 x4.2).length) x4.2 [36]=x5 at b10 h ⊢;have b11:=ZA s x5.1;by_cases c0:((!x5.2)||(decide (((x5.1+(BI s x5.1 x5.2).length:Nat):Int) < (s.length:Int))))=true
  ·unfold UW at h;rw[if_pos c0] at h;cases h
  ·by_cases c1:(qL (BI s x4.1 x4.2)).2.2≠0
   ·unfold UW at h;rw[if_neg c0,if_pos c1] at h;cases h
   ·by_cases c2:(qL (BI s x5.1 x5.2)).2.2≠0
    ·unfold UW at h;rw[if_neg c0,if_neg c1,if_pos c2] at h;cases h
    ·by_cases c3:EY kx.1 (Ry n1.1) (Ry n2.1) (Ry n3.1) (((qL (BI s x5.1 x5.2)).1.length:Nat):Int) (qL (BI s x4.1 x4.2)).1.length≠0
     ·unfold UW at h;rw[if_neg c0,if_neg c1,if_neg c2,if_pos c3] at h;cases h
     ·unfold UW;rw[if_neg c0,if_neg c1,if_neg c2,if_neg c3];dsimp only;rw[Bool.or_eq_true,not_or,Bool.not_eq_true',Bool.not_eq_false,decide_eq_true_eq] at c0;obtain⟨c0,c00⟩:=c0;obtain⟨o5,p5,q5⟩:=b10 c0;obtain⟨o4,p4,q4⟩:=b8 o5;obtain⟨o3,q3⟩:=b7 o4;obtain⟨o2,p2,q2⟩:=b6 o3;obtain⟨o1,q1⟩:=b5 o2;obtain⟨o0,p0,q0⟩:=b4 o1;obtain⟨oa,qa⟩:=b3 o0;obtain⟨ob,pb,qb⟩:=b2 oa;obtain⟨oc,qc⟩:=b1 ob;obtain⟨od,pd,qd⟩:=b0 oc;rw[o5] at c1 c3 p5 q5 ⊢;rw[c0] at c00 c2 c3 ⊢;have c1':=S9 _ (Classical.not_not.1 c1);have c2':=S9 _ (Classical.not_not.1 c2);have c3':=Classical.not_not.1 c3;obtain⟨hm,hs1,hs2⟩:=chk0 c3';unfold uA at hm;unfold G5;rw[if_neg c3,if_neg (fun q=>q rfl)];have w1:=UZ n1.1 (by omega);have w2:=UZ n2.1 (by omega);have w3:=UZ n3.1 (by omega);rw[w1,w2,w3];simp only[Int.toNat_natCast];refine Prod.ext ?_ rfl;show textS _ _ _ _ _ _=s;unfold textS;rw[c1',c2'];have e12:s.drop (x5.1+(BI s x5.1 true).length)=[]:=List.drop_eq_nil_iff.2 (by omega);rw[e12,List.append_nil] at b11;rw[<- p5,b11] at q5;rw[q5] at b9;rw[<- p4,b9] at q4;rw[q4] at q3;rw[<- p2,q3] at q2;rw[q2] at q1;rw[<- p0,q1] at q0;rw[q0] at qa;rw[<- pb,qa] at qb;rw[qb] at qc;rw[<- pd,qc,List.drop_zero] at qd
      conv=>rhs;rw[qd]
      simp only[List.append_assoc]
end Go.Sx
namespace Go.Sx
open Go.RowKit
set_option linter.unusedVariables false
set_option linter.unusedSimpArgs false
section
variable {α σ ρ τ:Type}
theorem JR {f:τ->Option (τ⊕ρ)}(st:σ->Nat->τ)(n:Nat)(F:σ->Nat->σ)(I:Nat->σ->Prop)(s:σ){r:ρ}(h0:I 0 s)(h:∀ s i,i < n->I i s->f (st s i)=some (.inl (st (F s i) (i+1)))/\I (i+1) (F s i))
    (he:I n ((List.range n).foldl F s)->f (st ((List.range n).foldl F s) n)=some (.inr r)):aZ f (st s 0)=some r:=by
  have hI:∀ k,k<=n->I k ((List.range k).foldl F s):=by
    intro k
    induction k with
    | zero=>intro _;exact h0
    | succ k ih =>
      intro hk;rw[List.range_succ,List.foldl_append];exact(h _ k (by omega) (ih (by omega))).2
  refine gZ (fun i=>st ((List.range i).foldl F s) i) n (fun i hi=>?_) (he (hI n (Nat.le_refl _)));rw[(h _ i hi (hI i (by omega))).1,List.range_succ,List.foldl_append];rfl
theorem Xl [Inhabited α]{n:Nat}(v:Vec α n)(i:Nat)(h:i < n):v.g i=v.l[i]'(by rw[v.h];exact h):=by
  have hl:i < v.l.length:=by rw[v.h];exact h
  simp[Vec.g,List.getD_eq_getElem?_getD,hl]
theorem vext [Inhabited α]{n:Nat}{v w:Vec α n}(h:∀ i,i < n->v.g i=w.g i):v=w:=by
  refine Vec.ext (List.ext_getElem (by rw[v.h,w.h]) fun i h1 h2=>?_);have hi:i < n:=by rw[<- v.h];exact h1
  rw[<- Xl v i hi,<-Xl w i hi,h i hi]
theorem vst_g [Inhabited α]{n:Nat}(v:Vec α n)(i:Nat)(x:α)(j:Nat)(hj:j < n):(lZ v (i:Int) x).g j=if i=j then x else v.g j:=by
  rw[Xl _ _ hj,Xl _ _ hj];simp only[lZ,Int.toNat_natCast,List.getElem_set]
def WV [Inhabited α](n:Nat)(f:Nat->α):Vec α n:=⟨(List.range n).map f,by simp⟩
theorem Q7 [Inhabited α](n:Nat)(f:Nat->α)(i:Nat)(h:i < n):(WV n f).g i=f i:=by
  rw[Xl _ _ h];simp[WV]
theorem vfold_g [Inhabited α]{n:Nat}(f:Nat->α->α)(v:Vec α n)(j:Nat)(hj:j < n):∀ m,((List.range m).foldl (fun(v:Vec α n) (k:Nat)=>lZ v (k:Int) (f k (v.g k))) v).g j=if j < m then f j (v.g j) else v.g j:=by
  intro m
  induction m with
  | zero=>simp
  | succ m ih =>
    rw[List.range_succ,List.foldl_append,List.foldl_cons,List.foldl_nil,vst_g _ _ _ _ hj];by_cases h:m=j
    ·subst h;rw[if_pos rfl,ih,if_neg (by omega),if_pos (by omega)]
    ·rw[if_neg h,ih];by_cases h2:j < m
     ·rw[if_pos h2,if_pos (by omega)]
     ·rw[if_neg h2,if_neg (by omega)]
theorem Ea [Inhabited α]{n:Nat}(f:Nat->α->α)(v:Vec α n):(List.range n).foldl (fun(v:Vec α n) (k:Nat)=>lZ v (k:Int) (f k (v.g k))) v=WV n fun k=>f k (v.g k) :=
  vext fun i hi=>by rw[vfold_g f v i hi,if_pos hi,Q7 _ _ _ hi]
end
def lowP (a b:UInt64):UInt64:=2*(a % 4294967296)*(b % 4294967296)
theorem and32 (x:UInt64):x&&&4294967295=x % 4294967296:=by
  apply UInt64.toNat_inj.1;rw[UInt64.toNat_and,UInt64.toNat_mod];exact Nat.and_two_pow_sub_one_eq_mod x.toNat 32
def Bq (a b c d:UInt64):UInt64×UInt64×UInt64×UInt64 :=
  let a1:=a+(b+lowP a b)
  let d1:=Eu (d^^^a1) 32
  let c1:=c+(d1+lowP c d1)
  let b1:=Eu (b^^^c1) 24
  let a2:=a1+(b1+lowP a1 b1)
  let d2:=Eu (d1^^^a2) 16
  let c2:=c1+(d2+lowP c1 d2)
  let b2:=Eu (b1^^^c2) 63
  (a2,b2,c2,d2)
theorem wBl (a b c d:UInt64):AQ a b c d=some (Bq a b c d):=by
  unfold AQ;simp only[qg,Option.bind_some,rl32,rl24,rl16,rl63,and32];rfl
theorem rBl (a b c d:UInt64):DU a b c d=some ⟨[(Bq a b c d).1,(Bq a b c d).2.1,(Bq a b c d).2.2.1,(Bq a b c d).2.2.2],rfl⟩:=by
  unfold DU;simp only[Cj,Option.bind_some,tn32,tn24,tn16,tn63,UInt64.add_assoc,Bq,lowP]
def Pm1 (v:Vec UInt64 16)(i:Nat):Vec UInt64 16 :=
  let t:=Bq (v.g (pl i).1) (v.g (pl i).2.1) (v.g (pl i).2.2.1) (v.g (pl i).2.2.2)
  lZ (lZ (lZ (lZ v ((pl i).1:Int) t.1) ((pl i).2.1:Int) t.2.1) ((pl i).2.2.1:Int) t.2.2.1) ((pl i).2.2.2:Int) t.2.2.2
def Pm (v:Vec UInt64 16):Vec UInt64 16:=(List.range 8).foldl Pm1 v
theorem wPm (v:Vec UInt64 16):zS v=some (Pm v):=by
  unfold zS;refine yD _ 8 Pm1 _ _ (fun v i hi=>?_) (by unfold AU;simp only[];rw[if_neg (by omega)];rfl);unfold AU;simp only[];rw[if_pos (by omega)];obtain⟨p,h1,h2⟩:=Ou i hi;unfold xZ at h1;rw[UQ _ _ (by omega),if_pos (by omega),show((i:Int) % 8)=i from by omega] at h1;obtain⟨q,hq,e⟩:=Option.bind_eq_some_iff.1 h1;obtain rfl:=Option.some.inj e;rw[hq];obtain⟨ha,hb,hc,hd,_⟩:=Zl i hi;have e0:aV q.l 0=some ((pl i).1:Int):=by rw[h2];rfl
  have e1:aV q.l 1=some ((pl i).2.1:Int):=by rw[h2];rfl
  have e2:aV q.l 2=some ((pl i).2.2.1:Int):=by rw[h2];rfl
  have e3:aV q.l 3=some ((pl i).2.2.2:Int):=by rw[h2];rfl
  simp only[e0,e1,e2,e3,fO _ _ ha,fO _ _ hb,fO _ _ hc,fO _ _ hd,Option.bind_some,wBl];rw[bQ i (by omega)];rfl
theorem rPm (v:Vec UInt64 16):FD v=some (Pm v):=by
  unfold FD;refine yD _ 8 Pm1 _ _ (fun v i hi=>?_) (by unfold Df;simp only[];rw[if_neg (by omega)];rfl);unfold Df;simp only[];rw[if_pos (by omega)];obtain⟨p,h1,h2⟩:=Ou i hi;obtain⟨ha,hb,hc,hd,_⟩:=Zl i hi;have e0:aV p.l 0=some ((pl i).1:Int):=by rw[h2];rfl
  have e1:aV p.l 1=some ((pl i).2.1:Int):=by rw[h2];rfl
  have e2:aV p.l 2=some ((pl i).2.2.1:Int):=by rw[h2];rfl
  have e3:aV p.l 3=some ((pl i).2.2.2:Int):=by rw[h2];rfl
  simp only[h1,e0,e1,e2,e3,fO _ _ ha,fO _ _ hb,fO _ _ hc,fO _ _ hd,Option.bind_some,rBl];unfold Dc;have key:∀ (t:UInt64×UInt64×UInt64×UInt64),aZ (pq (i:Int) p ⟨[t.1,t.2.1,t.2.2.1,t.2.2.2],rfl⟩) (v,0)=some (.inl (lZ (lZ (lZ (lZ v ((pl i).1:Int) t.1) ((pl i).2.1:Int) t.2.1) ((pl i).2.2.1:Int) t.2.2.1) ((pl i).2.2.2:Int) t.2.2.2,((i+1:Nat):Int))):=by
    intro t;have g0:aV ([t.1,t.2.1,t.2.2.1,t.2.2.2]:List UInt64) 0=some t.1:=rfl;have g1:aV ([t.1,t.2.1,t.2.2.1,t.2.2.2]:List UInt64) 1=some t.2.1:=rfl;have g2:aV ([t.1,t.2.1,t.2.2.1,t.2.2.2]:List UInt64) 2=some t.2.2.1:=rfl;have g3:aV ([t.1,t.2.1,t.2.2.1,t.2.2.2]:List UInt64) 3=some t.2.2.2:=rfl;rw[kH (s':=(lZ v ((pl i).1:Int) t.1,1)) (by
      unfold pq;simp only[];rw[if_pos (by omega)];simp only[e0,g0,fO _ _ ha,Option.bind_some];rfl)]
    rw[kH (s':=(lZ (lZ v ((pl i).1:Int) t.1) ((pl i).2.1:Int) t.2.1,2)) (by
      unfold pq;simp only[];rw[if_pos (by omega)];simp only[e1,g1,fO _ _ hb,Option.bind_some];rfl)]
    rw[kH (s':=(lZ (lZ (lZ v ((pl i).1:Int) t.1) ((pl i).2.1:Int) t.2.1) ((pl i).2.2.1:Int) t.2.2.1,3)) (by
      unfold pq;simp only[];rw[if_pos (by omega)];simp only[e2,g2,fO _ _ hc,Option.bind_some];rfl)]
    rw[kH (s':=(lZ (lZ (lZ (lZ v ((pl i).1:Int) t.1) ((pl i).2.1:Int) t.2.1) ((pl i).2.2.1:Int) t.2.2.1) ((pl i).2.2.2:Int) t.2.2.2,4)) (by
      unfold pq;simp only[];rw[if_pos (by omega)];simp only[e3,g3,fO _ _ hd,Option.bind_some];rfl)]
    refine gm ?_;unfold pq;simp only[];rw[if_neg (by omega),bQ i (by omega)];rfl
  exact key (Bq (v.g (pl i).1) (v.g (pl i).2.1) (v.g (pl i).2.2.1) (v.g (pl i).2.2.2))
end Go.Sx
namespace Go.Sx
open Go.RowKit
set_option linter.unusedVariables false
set_option linter.unusedSimpArgs false
def gat (z:Vec UInt64 128)(pos:Nat->Nat):Vec UInt64 16:=WV 16 fun k=>z.g (pos k)
def sca (z:Vec UInt64 128)(pos:Nat->Nat)(v:Vec UInt64 16):Vec UInt64 128:=(List.range 16).foldl (fun z k=>lZ z ((pos k:Nat):Int) (v.g k)) z
def JS (z:Vec UInt64 128)(pos:Nat->Nat):Vec UInt64 128:=sca z pos (Pm (gat z pos))
def HY (i k:Nat):Nat:=16*i+k
def H5 (i k:Nat):Nat:=2*i+16*(k / 2)+k % 2
theorem U0 (i k:Nat)(hi:i < 8)(hk:k < 16):HY i k < 128:=by unfold HY;omega
theorem U3 (i k:Nat)(hi:i < 8)(hk:k < 16):H5 i k < 128:=by unfold H5;omega
theorem ZB (i k:Nat)(hi:i < 8)(hk:k < 16):ay ((ay (16*(i:Int)))+(k:Int))=((HY i k:Nat):Int):=by
  unfold HY;rw[bz (n:=16*(i:Int)) (by omega),bz (by omega)];omega
theorem ZC (i k:Nat)(hi:i < 8)(hk:k < 16):ay ((ay ((ay (2*(i:Int)))+(ay (16*(ay (Int.tdiv (k:Int) 2))))))+(Int.tmod (k:Int) 2))=((H5 i k:Nat):Int):=by
  unfold H5;rw[tmod2,show Int.tdiv (k:Int) 2=((k / 2:Nat):Int) from rfl,bz (n:=2*(i:Int)) (by omega),bz (n:=((k / 2:Nat):Int)) (by omega),bz (n:=16*((k / 2:Nat):Int)) (by omega),bz (n:=2*(i:Int)+16*((k / 2:Nat):Int)) (by omega),bz (by omega)];omega
theorem wputR (z:Vec UInt64 128)(i:Nat)(hi:i < 8):AV (i:Int) z=some ((i:Int),JS z (HY i)):=by
  have hp:∀ k:Nat,k < 16->∀ p:Int,p=(i:Int)->yc (k:Int) p=some (((HY i k:Nat):Int),(i:Int)):=by
    rintro k hk p rfl;unfold yc;rw[ZB i k hi hk]
  unfold AV;refine JR (fun(v:Vec UInt64 16) k=>((i:Int),v,(k:Int))) 16 (fun v k=>lZ v (k:Int) (z.g (HY i k))) (fun _ _=>True) (Vec.rep 16 (0:UInt64)) trivial (fun v k hk _=>⟨?_,trivial⟩) fun _=>?_
  ·unfold zh;simp only[];rw[if_pos (by omega),hp k hk _ rfl];simp only[Option.bind_some,fO _ _ (U0 i k hi hk),fO _ _ hk];rw[bQ k (by omega)]
  ·unfold zh;simp only[];rw[if_neg (by omega),wPm];simp only[Option.bind_some];rw[Ea (fun k _=>z.g (HY i k)) (Vec.rep 16 (0:UInt64))];show Option.map Sum.inr (aZ (vF (Pm (gat z (HY i)))) ((i:Int),z,(0:Int)))=Option.map Sum.inr (some ((i:Int),JS z (HY i)));refine congrArg _ (JR (r:=((i:Int),JS z (HY i))) (fun(z:Vec UInt64 128) k=>((i:Int),z,(k:Int))) 16 (fun z1 k=>lZ z1 ((HY i k:Nat):Int) ((Pm (gat z (HY i))).g k)) (fun _ _=>True) z trivial (fun v k hk _=>⟨?_,trivial⟩) fun _=>?_)
   ·unfold vF;simp only[];rw[if_pos (by omega),hp k hk _ rfl];simp only[Option.bind_some,fO _ _ (U0 i k hi hk),fO _ _ hk];rw[bQ k (by omega)]
   ·unfold vF;simp only[];rw[if_neg (by omega)];rfl
theorem wputC (z:Vec UInt64 128)(i:Nat)(hi:i < 8):vG (i:Int) z=some ((i:Int),JS z (H5 i)):=by
  have hp:∀ k:Nat,k < 16->∀ p:Int,p=(i:Int)->yf (k:Int) p=some (((H5 i k:Nat):Int),(i:Int)):=by
    rintro k hk p rfl;unfold yf;rw[ZC i k hi hk]
  unfold vG;refine JR (fun(v:Vec UInt64 16) k=>((i:Int),v,(k:Int))) 16 (fun v k=>lZ v (k:Int) (z.g (H5 i k))) (fun _ _=>True) (Vec.rep 16 (0:UInt64)) trivial (fun v k hk _=>⟨?_,trivial⟩) fun _=>?_
  ·unfold uK;simp only[];rw[if_pos (by omega),hp k hk _ rfl];simp only[Option.bind_some,fO _ _ (U3 i k hi hk),fO _ _ hk];rw[bQ k (by omega)]
  ·unfold uK;simp only[];rw[if_neg (by omega),wPm];simp only[Option.bind_some];rw[Ea (fun k _=>z.g (H5 i k)) (Vec.rep 16 (0:UInt64))];show Option.map Sum.inr (aZ (qh (Pm (gat z (H5 i)))) ((i:Int),z,(0:Int)))=Option.map Sum.inr (some ((i:Int),JS z (H5 i)));refine congrArg _ (JR (r:=((i:Int),JS z (H5 i))) (fun(z:Vec UInt64 128) k=>((i:Int),z,(k:Int))) 16 (fun z1 k=>lZ z1 ((H5 i k:Nat):Int) ((Pm (gat z (H5 i))).g k)) (fun _ _=>True) z trivial (fun v k hk _=>⟨?_,trivial⟩) fun _=>?_)
   ·unfold qh;simp only[];rw[if_pos (by omega),hp k hk _ rfl];simp only[Option.bind_some,fO _ _ (U3 i k hi hk),fO _ _ hk];rw[bQ k (by omega)]
   ·unfold qh;simp only[];rw[if_neg (by omega)];rfl
theorem rputQ (z:Vec UInt64 128)(pos:Nat->Nat)(hp:∀ k,k < 16->pos k < 128)(a:Vec Int 16)(ha:∀ k,k < 16->a.g k=((pos k:Nat):Int)):E_ z.l a=some (JS z pos).l:=by
  have hg:∀ k:Nat,k < 16->aV a.l (k:Int)=some ((pos k:Nat):Int):=fun k hk=>by rw[fO a k hk,ha k hk]
  unfold E_;refine JR (fun(v:Vec UInt64 16) k=>(v,(k:Int))) 16 (fun v k=>lZ v (k:Int) (z.g (pos k))) (fun _ _=>True) (Vec.rep 16 (0:UInt64)) trivial (fun v k hk _=>⟨?_,trivial⟩) fun _=>?_
  ·unfold ER;simp only[];rw[if_pos (by omega),hg k hk];simp only[Option.bind_some,fO _ _ (hp k hk),fO _ _ hk];rw[bQ k (by omega)]
  ·unfold ER;simp only[];rw[if_neg (by omega),rPm];simp only[Option.bind_some];rw[Ea (fun k _=>z.g (pos k)) (Vec.rep 16 (0:UInt64))];show Option.map Sum.inr (aZ (AZ a (Pm (gat z pos))) (z.l,(0:Int)))=Option.map Sum.inr (some (JS z pos).l);refine congrArg _ (JR (r:=(JS z pos).l) (fun(z:Vec UInt64 128) k=>(z.l,(k:Int))) 16 (fun z1 k=>lZ z1 ((pos k:Nat):Int) ((Pm (gat z pos)).g k)) (fun _ _=>True) z trivial (fun v k hk _=>⟨?_,trivial⟩) fun _=>?_)
   ·unfold AZ;simp only[];rw[if_pos (by omega),hg k hk];simp only[Option.bind_some,fO _ _ (hp k hk),fO _ _ hk];rw[bQ k (by omega)];rfl
   ·unfold AZ;simp only[];rw[if_neg (by omega)];rfl
end Go.Sx
namespace Go.Sx
open Go.RowKit
set_option linter.unusedVariables false
set_option linter.unusedSimpArgs false
def yB (x y:List UInt8):List UInt8:=List.zipWith (fun a b=>a^^^b) x y
theorem xK {x y:List UInt8}{n:Nat}(hx:x.length=n)(hy:y.length=n):(yB x y).length=n:=by simp[yB,hx,hy]
theorem xorL_comm (x y:List UInt8):yB x y=yB y x:=by
  unfold yB;rw[List.zipWith_comm];congr 1;funext a b;exact UInt8.xor_comm _ _
theorem U4 {x y:List UInt8}{n:Nat}(hx:x.length=n)(hy:y.length=n):yB x y=(List.range n).map fun k=>x.getD k 0^^^y.getD k 0:=by
  refine List.ext_getElem (by rw[xK hx hy];simp) fun i h1 h2=>?_;rw[xK hx hy] at h1;have e1:i < x.length:=by omega
  have e2:i < y.length:=by omega
  simp[yB,List.getD_eq_getElem?_getD,e1,e2]
def Fo (f:Nat->List UInt8)(n:Nat):List UInt8:=(List.range n).foldl (fun b i=>b++f i) []
theorem EZ (f:Nat->List UInt8)(n:Nat):Fo f (n+1)=Fo f n++f n:=by
  unfold Fo;rw[List.range_succ,List.foldl_append];rfl
theorem Q8 {f:Nat->List UInt8}(hf:∀ i,(f i).length=8)(n:Nat):(Fo f n).length=n*8:=UM f 8 hf n
theorem Xm {f g:Nat->List UInt8}(n:Nat)(h:∀ i,i < n->f i=g i):Fo f n=Fo g n:=by
  induction n with
  | zero=>rfl
  | succ n ih=>rw[EZ,EZ,ih fun i hi=>h i (by omega),h n (by omega)]
theorem Fo_xor {f g:Nat->List UInt8}(hf:∀ i,(f i).length=8)(hg:∀ i,(g i).length=8)(n:Nat):Fo (fun i=>yB (f i) (g i)) n=yB (Fo f n) (Fo g n):=by
  induction n with
  | zero=>rfl
  | succ n ih =>
    rw[EZ,EZ,EZ,ih];unfold yB;rw[List.zipWith_append (by rw[Q8 hf,Q8 hg])]
theorem Fo_take (X:List UInt8)(n:Nat):Fo (fun i=>(X.drop (8*i)).take 8) n=X.take (8*n):=by
  induction n with
  | zero=>rfl
  | succ n ih=>rw[EZ,ih,Nat.mul_succ,List.take_add]
theorem Fo_part {f:Nat->List UInt8}(hf:∀ i,(f i).length=8)(i:Nat):∀ n,i < n->((Fo f n).drop (8*i)).take 8=f i:=by
  intro n
  induction n with
  | zero=>intro h;omega
  | succ n ih =>
    intro h;have hl:=Q8 hf n;rw[EZ,List.drop_append,List.take_append];by_cases hn:i=n
    ·subst hn;rw[List.drop_of_length_le (by omega),hl];simp[show 8*i - i*8=0 from by omega,hf i,List.take_of_length_le (Nat.le_of_eq (hf i))]
    ·rw[ih (by omega)];have:((Fo f n).drop (8*i)).length=n*8 - 8*i:=by rw[List.length_drop,hl]
     rw[this,show 8 - (n*8 - 8*i)=0 from by omega];simp
theorem ZE:∀ (bs:List UInt8),(List.range bs.length).map (fun i=>UInt8.ofNat (LW bs / 256 ^ i))=bs
  | []=>rfl
  | b::r=>by
    have ih:=ZE r;have hb:=b.toNat_lt;rw[List.length_cons,List.range_succ_eq_map,List.map_cons,List.map_map];congr 1
    ·rw[<- UInt8.toNat_inj];simp only[LW,UInt8.toNat_ofNat',Nat.pow_zero,Nat.div_one];omega
    ·refine Eq.trans (List.map_congr_left fun i _=>?_) ih;simp only[Function.comp,LW,Nat.pow_succ];rw[Nat.mul_comm (256 ^ i) 256,<-Nat.div_div_eq_div_mul,show(b.toNat+256*LW r) / 256=LW r from by omega]
theorem st8_wd (X:List UInt8)(i:Nat)(h:8*i+8<=X.length):L6 8 (uy X i)=(X.drop (8*i)).take 8:=by
  have hl:((X.drop (8*i)).take 8).length=8:=by rw[List.length_take,List.length_drop];omega
  have h1:=ZE ((X.drop (8*i)).take 8);have h2:=leN_lt ((X.drop (8*i)).take 8);rw[hl] at h1 h2;unfold L6 uy;rw[show(UInt64.ofNat (LW ((X.drop (8*i)).take 8))).toNat=LW ((X.drop (8*i)).take 8) from UInt64.toNat_ofNat_of_lt' (by simpa using h2)];exact h1
theorem wd_st8 (X:List UInt8)(i:Nat)(w:UInt64)(h:(X.drop (8*i)).take 8=L6 8 w):uy X i=w:=by
  unfold uy;rw[h];unfold L6;rw[leN_store];apply UInt64.toNat_inj.1;rw[UInt64.toNat_ofNat'];have:=w.toNat_lt;omega
theorem byx (a b i:Nat):UInt8.ofNat ((a^^^b) / 256 ^ i)=UInt8.ofNat (a / 256 ^ i)^^^UInt8.ofNat (b / 256 ^ i):=by
  apply UInt8.toNat_inj.1;rw[UInt8.toNat_xor];simp only[UInt8.toNat_ofNat'];rw[QU,Nat.xor_div_two_pow,<-Nat.xor_mod_two_pow (n:=8)]
theorem st8_xor (a b:UInt64):L6 8 (a^^^b)=yB (L6 8 a) (L6 8 b):=by
  rw[U4 (zq 8 a) (zq 8 b)];unfold L6;refine List.map_congr_left fun i hi=>?_;have hi:=List.mem_range.1 hi;rw[UInt64.toNat_xor,byx];simp[List.getD_eq_getElem?_getD,hi]
def RY (z:Vec UInt64 128):List UInt8:=Fo (fun i=>L6 8 (z.g i)) 128
theorem ZF (z:Vec UInt64 128):(RY z).length=1024:=by
  have h:=Q8 (f:=fun i=>L6 8 (z.g i)) (fun i=>zq 8 _) 128;unfold RY;omega
theorem St_wd (X:List UInt8)(h:X.length=1024):RY (WV 128 (uy X))=X:=by
  unfold RY;rw[Xm 128 (g:=fun i=>(X.drop (8*i)).take 8) fun i hi=>by rw[Q7 _ _ _ hi,st8_wd X i (by omega)],Fo_take,List.take_of_length_le (by omega)]
theorem wd_St (z:Vec UInt64 128)(i:Nat)(h:i < 128):uy (RY z) i=z.g i:=wd_st8 _ _ _ (Fo_part (f:=fun i=>L6 8 (z.g i)) (fun i=>zq 8 _) i 128 h)
theorem St_xor (a b:Vec UInt64 128):RY (WV 128 fun k=>a.g k^^^b.g k)=yB (RY a) (RY b):=by
  unfold RY;rw[<- Fo_xor (fun i=>zq 8 _) (fun i=>zq 8 _)];exact Xm 128 fun i hi=>by rw[Q7 _ _ _ hi,st8_xor]
theorem wd_xor (x y:List UInt8)(hx:x.length=1024)(hy:y.length=1024)(i:Nat)(hi:i < 128):uy (yB x y) i=uy x i^^^uy y i:=by
  have h:=St_xor (WV 128 (uy x)) (WV 128 (uy y));rw[St_wd x hx,St_wd y hy] at h;rw[<- h,wd_St _ _ hi,Q7 _ _ _ hi,Q7 _ _ _ hi,Q7 _ _ _ hi]
theorem WV_l {α:Type}[Inhabited α](n:Nat)(f:Nat->α):(WV n f).l=(List.range n).map f:=rfl
theorem rep_l {α:Type}(n:Nat)(x:α):List.replicate n x=(Vec.rep n x).l:=rfl
theorem Ku (x:List UInt8)(k:Nat)(h:k < x.length):aV x (k:Int)=some (x.getD k 0):=by
  rw[fG h];simp[List.getD_eq_getElem?_getD,h]
theorem wXor (x y:List UInt8)(hx:x.length=1024)(hy:y.length=1024):Cf x y=some (yB x y,0):=by
  unfold Cf vT;rw[if_neg (by omega),if_neg (by omega)];simp only[Option.bind_some,Bool.not_true,Bool.false_eq_true,if_false];have e:yB x y=((List.range 1024).foldl (fun(v:Vec UInt8 1024) (k:Nat)=>lZ v (k:Int) (x.getD k 0^^^y.getD k 0)) (Vec.rep 1024 (0:UInt8))).l:=by
    rw[Ea (fun k _=>x.getD k 0^^^y.getD k 0) (Vec.rep 1024 (0:UInt8)),U4 hx hy,WV_l]
  rw[show Int.toNat (1024:Int)=1024 from rfl,rep_l];refine JR (fun(v:Vec UInt8 1024) k=>(v.l,(k:Int))) 1024 (fun v k=>lZ v (k:Int) (x.getD k 0^^^y.getD k 0)) (fun _ _=>True) (Vec.rep 1024 (0:UInt8)) trivial (fun v k hk _=>⟨?_,trivial⟩) fun _=>?_
  ·unfold C_;simp only[];rw[if_pos (by simp only[Int.toNat];omega),Ku x k (by omega),Ku y k (by omega),fO _ _ hk];simp only[Option.bind_some];rw[bQ k (by omega)];rfl
  ·unfold C_;simp only[];rw[if_neg (by simp only[Int.toNat];omega),e];rfl
theorem rXor (x y:List UInt8)(hx:x.length=1024)(hy:y.length=1024):yj x y=some (yB x y,0):=by
  unfold yj;rw[if_neg (by simp[hx,hy])];rw[U4 hx hy];refine gZ (fun i=>((List.range i).map fun k=>x.getD k 0^^^y.getD k 0,(i:Int))) 1024 (fun k hk=>?_) ?_
  ·unfold EP;simp only[];rw[if_pos (by omega),Ku x k (by omega),Ku y k (by omega)];simp only[Option.bind_some];rw[gJ (by simp;omega)];simp only[Option.bind_some];rw[bQ k (by omega),List.range_succ,List.map_append];rfl
  ·unfold EP;simp only[];rw[if_neg (by omega)];rfl
end Go.Sx
namespace Go.Sx
open Go.RowKit
set_option linter.unusedVariables false
set_option linter.unusedSimpArgs false
theorem ZG (i:Nat)(h:i < 1000000):ay (8*(i:Int))=((8*i:Nat):Int):=by rw[bz (by omega)];omega
theorem wwords (b:List UInt8)(hb:b.length=1024):x9 b=some (WV 128 (uy b)):=by
  unfold x9;refine yD _ 128 (fun m (i:Nat)=>lZ m i (uy b i)) _ _ (fun v i hi=>?_) ?_
  ·unfold zg;simp only[];rw[if_pos (by omega),ZG i (by omega),Ov b i (by omega) (by omega),fO _ _ hi,bQ i (by omega)];rfl
  ·unfold zg;simp only[];rw[if_neg (by omega),Ea (fun k _=>uy b k) (Vec.rep 128 (0:UInt64))];rfl
theorem shrN (x:UInt64)(s:Nat):(iH x s).toNat=x.toNat / 2 ^ s:=by
  show(x.toBitVec >>> s).toNat=_;rw[BitVec.toNat_ushiftRight,Nat.shiftRight_eq_div_pow];rfl
theorem laid1 (w:UInt64)(i:Nat)(hi:i < 128)(b:List UInt8)(hb:b.length<=1024):aZ (uh (i:Int) w) (b,0)=some (.inl (b++L6 8 w,((i+1:Nat):Int))):=by
  have h:=gZ (f:=uh (i:Int) w) (r:=.inl (b++L6 8 w,((i+1:Nat):Int))) (fun j=>(b++(List.range j).map (fun t=>UInt8.ofNat (w.toNat / 256 ^ t)),((8*j:Nat):Int))) 8 (fun j hj=>?_) ?_
  ·simpa using h
  ·unfold uh;simp only[];rw[if_pos (by omega),jo (by omega)];simp only[Option.bind_some];rw[gJ (by simp;omega)];simp only[Option.bind_some];rw[bz (by omega),List.range_succ,List.map_append,Int.toNat_natCast,shrN,<-QU];simp only[List.map_cons,List.map_nil,List.append_assoc];congr 4
  ·unfold uh;simp only[];rw[if_neg (by omega),bQ i (by omega)];rfl
theorem wlaid (z:Vec UInt64 128):DR z=some (RY z,z):=by
  unfold DR;refine JR (fun(b:List UInt8) k=>(b,(k:Int))) 128 (fun b k=>b++L6 8 (z.g k)) (fun k b=>b.length=8*k) [] rfl (fun b k hk hl=>⟨?_,by rw[List.length_append,hl,zq];omega⟩) fun _=>?_
  ·unfold AX;simp only[];rw[if_pos (by omega),fO _ _ hk];simp only[Option.bind_some];rw[laid1 _ k hk b (by omega)]
  ·unfold AX;simp only[];rw[if_neg (by omega)];rfl
def Rw8 (r:Vec UInt64 128):Vec UInt64 128:=(List.range 8).foldl (fun z i=>JS z (HY i)) r
def Cl8 (r:Vec UInt64 128):Vec UInt64 128:=(List.range 8).foldl (fun z i=>JS z (H5 i)) r
def U5 (x y:List UInt8):List UInt8:=yB (yB x y) (RY (Cl8 (Rw8 (WV 128 (uy (yB x y))))))
theorem vM {x y:List UInt8}(hx:x.length=1024)(hy:y.length=1024):(U5 x y).length=1024:=xK (xK hx hy) (ZF _)
theorem WV_congr {α:Type}[Inhabited α]{n:Nat}{f g:Nat->α}(h:∀ i,i < n->f i=g i):WV n f=WV n g:=vext fun i hi=>by rw[Q7 _ _ _ hi,Q7 _ _ _ hi,h i hi]
theorem wMix3 (r z:Vec UInt64 128):aZ (yL r) (z,0)=some (yB (RY z) (RY r),0):=by
  refine yD _ 128 (fun z (i:Nat)=>lZ z i (z.g i^^^r.g i)) _ _ (fun v i hi=>?_) ?_
  ·unfold yL;simp only[];rw[if_pos (by omega),fO _ _ hi,fO _ _ hi,bQ i (by omega)];rfl
  ·unfold yL;simp only[];rw[if_neg (by omega),Ea (fun k a=>a^^^r.g k) z,wlaid];simp only[Option.bind_some];rw[St_xor];rfl
theorem wMix2 (r z:Vec UInt64 128):aZ (yM r) (z,0)=some (yB (RY (Cl8 z)) (RY r),0):=by
  refine yD _ 8 (fun z i=>JS z (H5 i)) _ _ (fun v i hi=>?_) ?_
  ·unfold yM;simp only[];rw[if_pos (by omega),wputC v i hi];simp only[Option.bind_some];rw[bQ i (by omega)]
  ·unfold yM;simp only[];rw[if_neg (by omega),wMix3];rfl
theorem wMix1 (r z:Vec UInt64 128):aZ (yN r) (z,0)=some (yB (RY (Cl8 (Rw8 z))) (RY r),0):=by
  refine yD _ 8 (fun z i=>JS z (HY i)) _ _ (fun v i hi=>?_) ?_
  ·unfold yN;simp only[];rw[if_pos (by omega),wputR v i hi];simp only[Option.bind_some];rw[bQ i (by omega)]
  ·unfold yN;simp only[];rw[if_neg (by omega),wMix2];rfl
theorem wMix (x y:List UInt8)(hx:x.length=1024)(hy:y.length=1024):uM x y=some (U5 x y,0):=by
  unfold uM vT;rw[if_neg (by omega),if_neg (by omega)];simp only[Option.bind_some,Bool.not_true,Bool.false_eq_true,if_false];rw[wwords x hx];simp only[Option.bind_some];rw[wwords y hy];simp only[Option.bind_some];refine yD _ 128 (fun z (i:Nat)=>lZ z i (z.g i^^^(WV 128 (uy y)).g i)) _ _ (fun v i hi=>?_) ?_
  ·unfold C9;simp only[];rw[if_pos (by omega),fO _ _ hi,fO _ _ hi,bQ i (by omega)];rfl
  ·unfold C9;simp only[];rw[if_neg (by omega),Ea (fun k a=>a^^^(WV 128 (uy y)).g k) (WV 128 (uy x))];rw[WV_congr (g:=uy (yB x y)) fun i hi=>by rw[Q7 _ _ _ hi,Q7 _ _ _ hi,wd_xor x y hx hy i hi]];rw[wMix1,St_wd _ (xK hx hy),xorL_comm];rfl
end Go.Sx
namespace Go.Sx
open Go.RowKit
set_option linter.unusedVariables false
set_option linter.unusedSimpArgs false
theorem rMix5 (X:List UInt8)(z:Vec UInt64 128)(hX:X.length=1024):aZ (Bc (X,0) z.l) (([]:List UInt8),0)=some (yB X (RY z),0):=by
  refine JR (fun(b:List UInt8) k=>(b,(k:Int))) 128 (fun b k=>b++L6 8 (z.g k)) (fun k b=>b.length=8*k) [] rfl (fun b k hk hl=>⟨?_,by rw[List.length_append,hl,zq];omega⟩) fun _=>?_
  ·unfold Bc;simp only[];rw[if_pos (by omega),fO _ _ hk];simp only[Option.bind_some];have:=UL (z.g k) 8 (by omega);rw[show((8:Nat):Int)=8 from rfl] at this;rw[this];simp only[Option.bind_some];rw[gJ (by simp;omega)];simp only[Option.bind_some];rw[bQ k (by omega)];rfl
  ·unfold Bc;simp only[];rw[if_neg (by omega)];show Option.map Sum.inr ((yj X (RY z)).bind fun r=>some (r.1,r.2))=_;rw[rXor X _ hX (ZF z)];rfl
theorem ZH {n:Nat}(f:Nat->Int)(v:Vec Int n):∀ k,k < n->((List.range n).foldl (fun(v:Vec Int n) (k:Nat)=>lZ v (k:Int) (f k)) v).g k=f k:=fun k hk=>by
  rw[Ea (fun k _=>f k) v,Q7 _ _ _ hk]
theorem rMix4 (z:Vec UInt64 128)(i:Nat)(hi:i < 8):aZ (Ba z.l (i:Int)) ((Vec.rep 16 (0:Int)),0)=some (.inl ((JS z (H5 i)).l,((i+1:Nat):Int))):=by
  refine yD _ 16 (fun v k=>lZ v (k:Int) ((H5 i k:Nat):Int)) _ _ (fun v k hk=>?_) ?_
  ·unfold Ba;simp only[];rw[if_pos (by omega),fO _ _ hk];simp only[Option.bind_some];rw[ZC i k hi hk,bQ k (by omega)]
  ·unfold Ba;simp only[];rw[if_neg (by omega),rputQ z (H5 i) (fun k hk=>U3 i k hi hk) _ (ZH (fun k=>((H5 i k:Nat):Int)) _)];simp only[Option.bind_some];rw[bQ i (by omega)];rfl
theorem rMix2 (z:Vec UInt64 128)(i:Nat)(hi:i < 8):aZ (A_ z.l (i:Int)) ((Vec.rep 16 (0:Int)),0)=some (.inl ((JS z (HY i)).l,((i+1:Nat):Int))):=by
  refine yD _ 16 (fun v k=>lZ v (k:Int) ((HY i k:Nat):Int)) _ _ (fun v k hk=>?_) ?_
  ·unfold A_;simp only[];rw[if_pos (by omega),fO _ _ hk];simp only[Option.bind_some];rw[ZB i k hi hk,bQ k (by omega)]
  ·unfold A_;simp only[];rw[if_neg (by omega),rputQ z (HY i) (fun k hk=>U0 i k hi hk) _ (ZH (fun k=>((HY i k:Nat):Int)) _)];simp only[Option.bind_some];rw[bQ i (by omega)];rfl
theorem rMix3 (X:List UInt8)(z:Vec UInt64 128)(hX:X.length=1024):aZ (Bd (X,0)) (z.l,0)=some (yB X (RY (Cl8 z)),0):=by
  refine JR (fun(z:Vec UInt64 128) k=>(z.l,(k:Int))) 8 (fun z i=>JS z (H5 i)) (fun _ _=>True) z trivial (fun v k hk _=>⟨?_,trivial⟩) fun _=>?_
  ·unfold Bd;simp only[];rw[if_pos (by omega),rMix4 v k hk]
  ·unfold Bd;simp only[];rw[if_neg (by omega),rMix5 X _ hX];rfl
theorem rMix1 (X:List UInt8)(z:Vec UInt64 128)(hX:X.length=1024):aZ (yl (X,0)) (z.l,0)=some (yB X (RY (Cl8 (Rw8 z))),0):=by
  refine JR (fun(z:Vec UInt64 128) k=>(z.l,(k:Int))) 8 (fun z i=>JS z (HY i)) (fun _ _=>True) z trivial (fun v k hk _=>⟨?_,trivial⟩) fun _=>?_
  ·unfold yl;simp only[];rw[if_pos (by omega),rMix2 v k hk]
  ·unfold yl;simp only[];rw[if_neg (by omega),rMix3 X _ hX];rfl
theorem rMix (x y:List UInt8)(hx:x.length=1024)(hy:y.length=1024):Cm x y=some (U5 x y,0):=by
  have hX:=xK hx hy;unfold Cm;rw[rXor x y hx hy];simp only[Option.bind_some];rw[if_neg (by decide)];refine gZ (fun i=>((List.range i).map (uy (yB x y)),(i:Int))) 128 (fun k hk=>?_) ?_
  ·unfold ES;simp only[];rw[if_pos (by omega),ZG k (by omega),QV _ k (by omega) (by omega)];simp only[Option.bind_some];rw[gJ (by simp;omega)];simp only[Option.bind_some];rw[bQ k (by omega),List.range_succ,List.map_append];rfl
  ·unfold ES;simp only[];rw[if_neg (by omega)];have h:=rMix1 (yB x y) (WV 128 (uy (yB x y))) hX;rw[WV_l] at h;show Option.map Sum.inr (aZ (yl (yB x y,0)) ((List.range 128).map (uy (yB x y)),0))=_;rw[h];rfl
theorem wOver (x y o:List UInt8)(hx:x.length=1024)(hy:y.length=1024)(ho:o.length=1024):zT x y o=some (yB (U5 x y) o,0):=by
  unfold zT yg;rw[if_neg (by omega),if_neg (by omega),if_neg (by omega)];simp only[Option.bind_some,Bool.not_true,Bool.false_eq_true,if_false];rw[wMix x y hx hy];simp only[Option.bind_some];rw[wXor _ o (vM hx hy) ho];rfl
end Go.Sx
namespace Go.Sx
open Go.RowKit
set_option linter.unusedVariables false
set_option linter.unusedSimpArgs false
def spr (s:UInt64)(x:UInt8):UInt64:=2*s+(UInt64.ofNat x.toNat+1)*11400714819323198485
def fullB (n:Nat)(s:UInt64):Bool:=decide (n=1024)||(decide (64<=n)&&decide (iH s ((58:UInt64).toNat)=0))
def cut:List UInt8->List UInt8->UInt64->List (List UInt8)
  | [],_,_=>[]
  | x::r,p,s=>if(fullB (p.length+1) (spr s x)||r.isEmpty)=true then(p++[x])::cut r [] 0 else cut r (p++[x]) (spr s x)
end Go.Sx
namespace Go.Sx
open Go.RowKit
set_option linter.unusedVariables false
set_option linter.unusedSimpArgs false
section
variable {α σ ρ τ:Type}
end
noncomputable def PW (sz:Nat)(b:List UInt8):List UInt8:=((rO 1 sz 0 1 1 0 0 0 0 0 [] [] [] false sz b).getD ([],0)).1
theorem chkD (sz:Nat)(h1:1<=sz)(h2:sz<=64):jm 1 (sz:Int) 0 1 1 0 0 0 0 0 [] []=some 0:=by
  unfold jm;rw[show qf 1=some 64 from rfl];simp only[Option.bind_some];rw[if_neg (by decide),if_neg (by simp only[Bool.or_eq_true,decide_eq_true_eq];omega)];rfl
theorem JU (sz:Nat)(h1:1<=sz)(h2:sz<=64)(b:List UInt8)(hb:b.length<=12000000) :
    rO 1 sz 0 1 1 0 0 0 0 0 [] [] [] false sz b=some (PW sz b,0)/\xn 1 sz 0 1 1 0 0 0 0 0 [] [] [] false sz b=some (PW sz b,0)/\(PW sz b).length=sz:=by
  obtain⟨H,blk,M,hk,e1,e2⟩:=hash_ok sz 0 1 1 0 0 0 0 0 [] [] [] false sz b (chkD sz h1 h2) (.inl rfl) hb;have hS:H.S=64:=by rcases H.hk with⟨_,_,h⟩ | ⟨h,_,_⟩ <;> omega
  have ha:H.ans blk M false sz=((H.hash blk M false).take sz,0):=by
    unfold Half.ans;rw[if_neg (by omega),Int.toNat_natCast]
  have hd:PW sz b=(H.hash blk M false).take sz:=by unfold PW;rw[e1,ha];rfl
  rw[e1,e2,ha,hd];refine⟨rfl,rfl,?_⟩;rw[List.length_take,H.Xe,hS];omega
end Go.Sx
namespace Go.Sx
open Go.RowKit
set_option linter.unusedVariables false
set_option linter.unusedSimpArgs false
def S4 (n:Nat):List UInt8:=(List.range 4).map fun i=>UInt8.ofNat (n / 256 ^ i)
theorem CQ (n:Nat):(S4 n).length=4:=by simp[S4]
theorem oi32 (n:Nat)(h:n < 4294967296):(UInt32.ofInt (n:Int)).toNat=n:=by
  show(UInt32.ofNat ((n:Int) % 2 ^ 32).toNat).toNat=n;rw[UInt32.toNat_ofNat'];omega
theorem oi64 (n:Nat)(h:n < 18446744073709551616):(UInt64.ofInt (n:Int)).toNat=n:=by
  show(UInt64.ofNat ((n:Int) % 2 ^ 64).toNat).toNat=n;rw[UInt64.toNat_ofNat'];omega
theorem w32s (n:Nat)(h:n < 4294967296):t_ (UInt32.ofInt (n:Int))=some (S4 n):=by
  unfold t_;rw[Yx,oi32 n h];unfold L6 S4;rw[show(UInt64.ofNat n).toNat=n from UInt64.toNat_ofNat_of_lt' (by show n < 18446744073709551616;omega)]
theorem r32s (n:Nat)(h:n < 18446744073709551616):o_ (UInt64.ofInt (n:Int)) (4:Int)=some (S4 n):=by
  have:=UL (UInt64.ofInt (n:Int)) 4 (by omega);rw[show((4:Nat):Int)=4 from rfl] at this;rw[this,oi64 n h];rfl
theorem Pz (b:List UInt8)(hb:b.length<=16000000)(n:Nat)(h:n < 4294967296):jT b (n:Int)=some (b++S4 n):=by
  unfold jT;rw[w32s n h];simp only[Option.bind_some];rw[gJ (by rw[CQ];omega)];rfl
theorem Q9 (n:Nat)(h:n < 4294967296):mZ (n:Int)=some (S4 n):=by
  unfold mZ;rw[r32s n (by omega)];rfl
theorem U6 (n:Nat)(h1:1<=n)(h2:n<=64)(b:List UInt8)(hb:b.length<=12000000):rU (n:Int) b=some (PW n b):=by
  unfold rU;rw[(JU n h1 h2 b hb).1];rfl
theorem rdig (n:Nat)(h1:1<=n)(h2:n<=64)(b:List UInt8)(hb:b.length<=12000000):su (n:Int) b=some (PW n b):=by
  unfold su;rw[(JU n h1 h2 b hb).2.1];rfl
theorem BJ (n:Nat)(h1:1<=n)(h2:n<=64)(b:List UInt8)(hb:b.length<=12000000):(PW n b).length=n:=(JU n h1 h2 b hb).2.2
noncomputable def Vk (v:List UInt8):Nat->List UInt8
  | 0=>v
  | k+1=>PW 64 (Vk v k)
theorem JV (v:List UInt8)(hv:v.length=64):∀ k,(Vk v k).length=64
  | 0=>hv
  | k+1=>BJ 64 (by omega) (by omega) _ (by rw[JV v hv k];omega)
noncomputable def Ok (v:List UInt8):Nat->List UInt8
  | 0=>[]
  | k+1=>Ok v k++(Vk v k).take 32
theorem LX (v:List UInt8)(hv:v.length=64):∀ k,(Ok v k).length=32*k
  | 0=>rfl
  | k+1=>by
    show(Ok v k++(Vk v k).take 32).length=_;rw[List.length_append,LX v hv k,List.length_take,JV v hv k];omega
theorem ZI (v:List UInt8)(h:v.length=64):G6 v 0 (32:Int)=some (v.take 32):=by
  rw[Ad (by omega)];rfl
noncomputable def Ew (n:Nat)(data:List UInt8):List UInt8 :=
  if n<=64 then PW n (S4 n++data)
  else Ok (PW 64 (S4 n++data)) ((n+31) / 32 - 2)++PW (n - 32*((n+31) / 32 - 2)) (Vk (PW 64 (S4 n++data)) ((n+31) / 32 - 2 - 1))
theorem S_ (n:Nat)(h1:1<=n)(h2:n<=1048576)(data:List UInt8)(hd:data.length<=11000000):(Ew n data).length=n:=by
  have h4:=CQ n;have hl:(S4 n++data).length<=12000000:=by rw[List.length_append];omega
  unfold Ew;split
  ·exact BJ n h1 (by omega) _ hl
  ·have hv:=BJ 64 (by omega) (by omega) _ hl;rw[List.length_append,LX _ hv,BJ _ (by omega) (by omega) _ (by rw[JV _ hv];omega)];omega
theorem wHash (n:Nat)(h1:1<=n)(h2:n<=1048576)(data:List UInt8)(hd:data.length<=11000000):zQ (n:Int) data=some (Ew n data,0):=by
  have h4:=CQ n;have hl:(S4 n++data).length<=12000000:=by rw[List.length_append];omega
  unfold zQ;rw[if_neg (by simp only[Bool.or_eq_true,decide_eq_true_eq];omega),w32s n (by omega)];simp only[Option.bind_some];rw[gJ (by rw[h4];omega)];simp only[Option.bind_some];by_cases h:n<=64
  ·rw[if_pos (by omega),U6 n h1 h _ hl];unfold Ew;rw[if_pos h];rfl
  ·rw[if_neg (by omega),show(64:Int)=((64:Nat):Int) from rfl,U6 64 (by omega) (by omega) _ hl];have hv:=BJ 64 (by omega) (by omega) _ hl;simp only[Option.bind_some];rw[ZI _ hv];simp only[Option.bind_some];rw[gJ (by rw[List.length_take,hv];simp)];simp only[Option.bind_some];generalize hv0:PW 64 (S4 n++data)=v at hv ⊢;have hr:ay ((ay ((ay (Int.tdiv (ay ((n:Int)+31)) 32)) - 2)))=(((n+31) / 32 - 2:Nat):Int):=by
     rw[bz (n:=(n:Int)+31) (by omega),show Int.tdiv ((n:Int)+31) 32=(((n+31) / 32:Nat):Int) from rfl,bz (n:=(((n+31) / 32:Nat):Int)) (by omega),bz (n:=(((n+31) / 32:Nat):Int) - 2) (by omega),bz (by omega)];omega
   have hr1:ay ((ay (Int.tdiv (ay ((n:Int)+31)) 32)) - 2)=(((n+31) / 32 - 2:Nat):Int):=by
     rw[bz (n:=(n:Int)+31) (by omega),show Int.tdiv ((n:Int)+31) 32=(((n+31) / 32:Nat):Int) from rfl,bz (n:=(((n+31) / 32:Nat):Int)) (by omega),bz (n:=(((n+31) / 32:Nat):Int) - 2) (by omega)];omega
   refine gZ (fun k=>(Vk v k,Ok v (k+1),(k:Int))) ((n+31) / 32 - 2 - 1) (fun k hk=>?_) ?_
   ·unfold AP;simp only[];rw[hr1,bz (by omega),if_pos (by omega),show(64:Int)=((64:Nat):Int) from rfl,U6 64 (by omega) (by omega) _ (by rw[JV v hv];omega)];simp only[Option.bind_some];rw[ZI _ (BJ 64 (by omega) (by omega) _ (by rw[JV v hv];omega))];simp only[Option.bind_some];rw[gJ (by rw[LX v hv,List.length_take];omega)];simp only[Option.bind_some];rw[bQ k (by omega)];rfl
   ·unfold AP;simp only[];rw[hr1,bz (by omega),if_neg (by omega),bz (n:=32*_) (by omega),bz (by omega)];rw[show(n:Int) - 32*(((n+31) / 32 - 2:Nat):Int)=((n - 32*((n+31) / 32 - 2):Nat):Int) from by omega];have hvk:=JV v hv ((n+31) / 32 - 2 - 1);rw[U6 _ (by omega) (by omega) _ (by omega)];simp only[Option.bind_some];rw[gJ (by rw[LX v hv,BJ _ (by omega) (by omega) _ (by omega)];omega)];simp only[Option.bind_some,Option.map_some];unfold Ew;rw[if_neg h,hv0,show(n+31) / 32 - 2 - 1+1=(n+31) / 32 - 2 from by omega]
theorem rHash (n:Nat)(h1:1<=n)(h2:n<=1048576)(data:List UInt8)(hd:data.length<=11000000):Ci (n:Int) data=some (Ew n data,0):=by
  have h4:=CQ n;have hl:(S4 n++data).length<=12000000:=by rw[List.length_append];omega
  unfold Ci;rw[if_neg (by simp only[Bool.or_eq_true,decide_eq_true_eq];omega),r32s n (by omega)];simp only[Option.bind_some];have h0:=gZ (f:=yO (n:Int) data) (r:=(Ew n data,0)) (fun k=>(S4 n++data.take k,(k:Int))) data.length (fun k hk=>?_) ?_
  ·simpa using h0
  ·unfold yO;simp only[];rw[if_pos (by omega),fG hk];simp only[Option.bind_some];rw[gJ (by rw[List.length_append,h4,List.length_take];simp;omega)];simp only[Option.bind_some];rw[bQ k (by omega),List.append_assoc,List.take_append_getElem hk]
  ·unfold yO;simp only[];rw[if_neg (by omega),List.take_of_length_le (Nat.le_refl _)];by_cases h:n<=64
   ·rw[if_pos (by omega),rdig n h1 h _ hl];unfold Ew;rw[if_pos h];rfl
   ·rw[if_neg (by omega),show(64:Int)=((64:Nat):Int) from rfl,rdig 64 (by omega) (by omega) _ hl];have hv:=BJ 64 (by omega) (by omega) _ hl;simp only[Option.bind_some];generalize hv0:PW 64 (S4 n++data)=v at hv ⊢;have key:=gZ (f:=vV) (r:=(Ew n data,0)) (fun k=>(Ok v k,((n - 32*k:Nat):Int),Vk v k)) ((n+31) / 32 - 2 - 1) (fun k hk=>?_) ?_
    ·have e:((n - 32*0:Nat):Int)=(n:Int):=by omega
     simp only[e] at key;show Option.map Sum.inr (aZ vV ([],(n:Int),v))=_;exact congrArg (Option.map Sum.inr) key
    ·unfold vV;simp only[];have hvk:=JV v hv k;rw[if_pos (by omega),ZI _ hvk];simp only[Option.bind_some];rw[gJ (by rw[LX v hv,List.length_take];omega)];simp only[Option.bind_some];rw[show(64:Int)=((64:Nat):Int) from rfl,rdig 64 (by omega) (by omega) _ (by omega)];simp only[Option.bind_some];rw[bz (by omega),show((n - 32*k:Nat):Int) - 32=((n - 32*(k+1):Nat):Int) from by omega];rfl
    ·unfold vV;simp only[];have hvk:=JV v hv ((n+31) / 32 - 2 - 1);rw[if_neg (by omega),ZI _ hvk];simp only[Option.bind_some];rw[gJ (by rw[LX v hv,List.length_take];omega)];simp only[Option.bind_some];rw[bz (by omega),show((n - 32*((n+31) / 32 - 2 - 1):Nat):Int) - 32=((n - 32*((n+31) / 32 - 2):Nat):Int) from by omega];rw[rdig _ (by omega) (by omega) _ (by omega)];simp only[Option.bind_some];rw[gJ (by rw[List.length_append,LX v hv,BJ _ (by omega) (by omega) _ (by omega),List.length_take];omega)];simp only[Option.bind_some,Option.map_some];unfold Ew;rw[if_neg h,hv0];have e:Ok v ((n+31) / 32 - 2)=Ok v ((n+31) / 32 - 2 - 1)++(Vk v ((n+31) / 32 - 2 - 1)).take 32:=by
       obtain⟨m,hm⟩:∃ m,(n+31) / 32 - 2=m+1:=⟨(n+31) / 32 - 3,by omega⟩
       rw[hm];rfl
     rw[e]
end Go.Sx
namespace Go.Sx
open Go.RowKit
set_option linter.unusedVariables false
set_option linter.unusedSimpArgs false
theorem Q_ (K M P L T:Int):nV K M P L T=some (if uA K M P L T then 0 else 200):=by
  unfold nV;by_cases h:uA K M P L T
  ·rw[if_pos h];unfold uA at h;rw[show ay (8*L)=8*L from by rw[bz] <;> omega];rw[if_neg (by simp only[Bool.or_eq_true,decide_eq_true_eq];omega)]
  ·rw[if_neg h];unfold uA at h;by_cases hL:1<=L/\L<=8
   ·rw[show ay (8*L)=8*L from by rw[bz] <;> omega];rw[if_pos (by simp only[Bool.or_eq_true,decide_eq_true_eq];omega)]
   ·rw[if_pos (by simp only[Bool.or_eq_true,decide_eq_true_eq];omega)]
theorem wSum (b:List UInt8)(hb:b.length<=12000000):Ho 1 64 b=some (PW 64 b,0):=by
  have h:=(JU 64 (by omega) (by omega) b hb).1;have hc:=chkD 64 (by omega) (by omega);rw[show((64:Nat):Int)=64 from rfl] at h hc;unfold Ho EK EG oZ;simp only[if_true,Option.bind_some];rw[if_neg (by decide)];simp only[Option.bind_some];rw[if_neg (by decide),QW];simp only[List.length_nil];rw[show((0:Nat):Int)=0 from rfl,hc];simp only[Option.bind_some];rw[if_neg (by decide),h];rfl
theorem rSum (b:List UInt8)(hb:b.length<=12000000):Hq 1 64 b=some (PW 64 b,0):=by
  have h:=(JU 64 (by omega) (by omega) b hb).2.1;have hc:=chkD 64 (by omega) (by omega);rw[show((64:Nat):Int)=64 from rfl] at h hc;unfold Hq Ip;simp only[List.length_nil];rw[show((0:Nat):Int)=0 from rfl,hc];simp only[Option.bind_some];rw[if_neg (by decide),h];rfl
def U7 (K M P L T:Nat)(w aQ:List UInt8):List UInt8 :=
  (((((((((((([]++S4 L)++S4 T)++S4 M)++S4 P)++S4 19)++S4 K)++S4 w.length)++w)++S4 aQ.length)++aQ)++S4 0)++[])++S4 0++[]
theorem ZJ (K M P L T:Nat)(hm:uA K M P L T)(w aQ:List UInt8)(hw:w.length<=65536)(hs:8<=aQ.length/\aQ.length<=64):nS K M P L T w aQ [] []=some (PW 64 (U7 K M P L T w aQ),0):=by
  unfold nS;rw[YF,decide_eq_true hm];simp only[Option.bind_some,Bool.not_true,Bool.false_eq_true,if_false];rw[if_neg (by omega),UU];unfold EY;rw[if_pos hm,if_neg (by omega)];simp only[Option.bind_some,ne_eq,not_true_eq_false,if_false];rw[if_neg (by simp)];unfold uf;rw[if_neg (by simp)];unfold uA at hm;unfold x8;have g0:aV (⟨[(L:Int),(T:Int),(M:Int),(P:Int),(19:Int),(K:Int)],rfl⟩:Vec Int 6).l 0=some (L:Int):=rfl;have g1:aV (⟨[(L:Int),(T:Int),(M:Int),(P:Int),(19:Int),(K:Int)],rfl⟩:Vec Int 6).l 1=some (T:Int):=rfl;have g2:aV (⟨[(L:Int),(T:Int),(M:Int),(P:Int),(19:Int),(K:Int)],rfl⟩:Vec Int 6).l 2=some (M:Int):=rfl;have g3:aV (⟨[(L:Int),(T:Int),(M:Int),(P:Int),(19:Int),(K:Int)],rfl⟩:Vec Int 6).l 3=some (P:Int):=rfl;have g4:aV (⟨[(L:Int),(T:Int),(M:Int),(P:Int),(19:Int),(K:Int)],rfl⟩:Vec Int 6).l 4=some ((19:Nat):Int):=rfl;have g5:aV (⟨[(L:Int),(T:Int),(M:Int),(P:Int),(19:Int),(K:Int)],rfl⟩:Vec Int 6).l 5=some (K:Int):=rfl;have l4:=CQ;rw[g0,Option.bind_some,Pz _ (by simp) _ (by omega),Option.bind_some];rw[g1,Option.bind_some,Pz _ (by simp[l4]) _ (by omega),Option.bind_some];rw[g2,Option.bind_some,Pz _ (by simp[l4]) _ (by omega),Option.bind_some];rw[g3,Option.bind_some,Pz _ (by simp[l4]) _ (by omega),Option.bind_some]
  rw[g4,Option.bind_some,Pz _ (by simp[l4]) _ (by omega),Option.bind_some];rw[g5,Option.bind_some,Pz _ (by simp[l4]) _ (by omega),Option.bind_some];rw[Pz _ (by simp[l4]) _ (by omega),Option.bind_some,gJ (by simp[l4];omega),Option.bind_some];rw[Pz _ (by simp[l4];omega) _ (by omega),Option.bind_some,gJ (by simp[l4];omega),Option.bind_some];rw[Pz _ (by simp[l4];omega) _ (by simp),Option.bind_some,gJ (by simp[l4];omega),Option.bind_some];rw[Pz _ (by simp[l4];omega) _ (by simp),Option.bind_some,gJ (by simp[l4];omega),Option.bind_some];rw[wSum _ (by simp[l4];omega),Option.bind_some];rfl
theorem rStartA (K M P L T:Nat)(hm:uA K M P L T)(w aQ:List UInt8)(hw:w.length<=65536)(hs:8<=aQ.length/\aQ.length<=64):xu K M P L T w aQ [] []=some (PW 64 (U7 K M P L T w aQ),0):=by
  unfold xu yh;rw[Q_,if_pos hm];simp only[Option.bind_some,ne_eq,not_true_eq_false,if_false];rw[if_neg (by omega),Q5];unfold EY;rw[if_pos hm,if_neg (by omega)];simp only[Option.bind_some,ne_eq,not_true_eq_false,if_false];rw[if_neg (by simp)];simp only[Option.bind_some,ne_eq,not_true_eq_false,if_false];unfold uA at hm;have g0:aV ([(L:Int),(T:Int),(M:Int),(P:Int),(19:Int),(K:Int)]:List Int) 0=some (L:Int):=rfl;have g1:aV ([(L:Int),(T:Int),(M:Int),(P:Int),(19:Int),(K:Int)]:List Int) 1=some (T:Int):=rfl;have g2:aV ([(L:Int),(T:Int),(M:Int),(P:Int),(19:Int),(K:Int)]:List Int) 2=some (M:Int):=rfl;have g3:aV ([(L:Int),(T:Int),(M:Int),(P:Int),(19:Int),(K:Int)]:List Int) 3=some (P:Int):=rfl;have g4:aV ([(L:Int),(T:Int),(M:Int),(P:Int),(19:Int),(K:Int)]:List Int) 4=some ((19:Nat):Int):=rfl;have g5:aV ([(L:Int),(T:Int),(M:Int),(P:Int),(19:Int),(K:Int)]:List Int) 5=some (K:Int):=rfl;have l4:=CQ;rw[g0,Option.bind_some,Q9 _ (by omega),Option.bind_some,gJ (by simp[l4]),Option.bind_some];rw[g1,Option.bind_some,Q9 _ (by omega),Option.bind_some,gJ (by simp[l4]),Option.bind_some];rw[g2,Option.bind_some,Q9 _ (by omega),Option.bind_some,gJ (by simp[l4]),Option.bind_some];rw[g3,Option.bind_some,Q9 _ (by omega),Option.bind_some,gJ (by simp[l4]),Option.bind_some]
  rw[g4,Option.bind_some,Q9 _ (by omega),Option.bind_some,gJ (by simp[l4]),Option.bind_some];rw[g5,Option.bind_some,Q9 _ (by omega),Option.bind_some,gJ (by simp[l4]),Option.bind_some];rw[Q9 _ (by omega),Option.bind_some,gJ (by simp[l4]),Option.bind_some,gJ (by simp[l4];omega),Option.bind_some];rw[Q9 _ (by omega),Option.bind_some,gJ (by simp[l4];omega),Option.bind_some,gJ (by simp[l4];omega),Option.bind_some];rw[Q9 _ (by simp),Option.bind_some,gJ (by simp[l4];omega),Option.bind_some,gJ (by simp[l4];omega),Option.bind_some];rw[Option.bind_some,gJ (by simp[l4];omega),Option.bind_some,gJ (by simp[l4];omega),Option.bind_some];rw[rSum _ (by simp[l4];omega),Option.bind_some];rfl
theorem hdr_le (K M P L T:Nat)(w aQ:List UInt8)(hw:w.length<=65536)(hs:aQ.length<=64):(U7 K M P L T w aQ).length<=12000000:=by
  unfold U7;simp[CQ];omega
end Go.Sx
namespace Go.Sx
open Go.RowKit
set_option linter.unusedVariables false
set_option linter.unusedSimpArgs false
section
variable (K M P L T:Nat)(hm:uA K M P L T)
def dU (M L:Nat):Nat:=M / (4*L)
include hm in
theorem nT:K<=2/\1<=L/\L<=8/\1<=P/\P<=16/\4<=T/\T<=1024/\8*L<=M/\M<=4096:=by unfold uA at hm;omega
include hm in
theorem oC:2<=dU M L/\dU M L<=1024/\L*(4*dU M L)<=4096:=by
  obtain⟨_,h1,h2,_,_,_,_,h3,h4⟩:=nT K M P L T hm;have h5:4*L*(M / (4*L))<=M:=Nat.mul_div_le M (4*L);have h6:2<=M / (4*L):=(Nat.le_div_iff_mul_le (by omega)).2 (by omega);refine⟨h6,?_,?_⟩
  ·unfold dU;have:4*(M / (4*L))<=4*L*(M / (4*L)):=Nat.mul_le_mul_right _ (by omega);omega
  ·unfold dU;rw[<- Nat.mul_assoc,Nat.mul_comm L 4];omega
include hm in
theorem YH:lK K M P L T=some ((dU M L:Nat):Int):=by
  have hb:=oC K M P L T hm;obtain⟨_,h1,h2,_⟩:=nT K M P L T hm;unfold lK;rw[bz (n:=4*(L:Int)) (by omega),jo (by omega)];simp only[Option.bind_some];rw[show Int.tdiv (M:Int) (4*(L:Int))=((dU M L:Nat):Int) from rfl,bz (by omega)]
include hm in
theorem wcol:ou K M P L T=some ((4*dU M L:Nat):Int):=by
  have hb:=oC K M P L T hm;unfold ou;rw[YH K M P L T hm];simp only[Option.bind_some];rw[bz (by omega)];simp
include hm in
theorem rcol:pg K M P L T=some (((4*dU M L:Nat):Int),0):=by
  have hb:=oC K M P L T hm;obtain⟨_,h1,h2,_⟩:=nT K M P L T hm;unfold pg;rw[Q_,if_pos hm];simp only[Option.bind_some,ne_eq,not_true_eq_false,if_false];rw[bz (n:=4*(L:Int)) (by omega),jo (by omega)];simp only[Option.bind_some];rw[show Int.tdiv (M:Int) (4*(L:Int))=((dU M L:Nat):Int) from rfl,bz (n:=((dU M L:Nat):Int)) (by omega),bz (by omega)];simp[Int.mul_comm]
include hm in
theorem rseg:vW K M P L T=some ((dU M L:Nat):Int):=by
  have hb:=oC K M P L T hm;unfold vW;rw[rcol K M P L T hm];simp only[Option.bind_some];rw[show Int.tdiv ((4*dU M L:Nat):Int) 4=((4*dU M L / 4:Nat):Int) from rfl,show 4*dU M L / 4=dU M L from by omega,bz (by omega)]
end
def ZK (area:Nat)(j:UInt64):Nat:=area*((j.toNat % 4294967296)*(j.toNat % 4294967296) / 4294967296) / 4294967296
theorem YI (area:Nat)(h:1<=area)(j:UInt64):ZK area j < area:=by
  unfold ZK;have h1:j.toNat % 4294967296 < 4294967296:=Nat.mod_lt _ (by omega);generalize j.toNat % 4294967296=a at h1 ⊢;have h2:a*a / 4294967296 < 4294967296:=Nat.div_lt_of_lt_mul (Nat.mul_lt_mul'' h1 h1);generalize a*a / 4294967296=p at h2 ⊢;exact Nat.div_lt_of_lt_mul (by rw[Nat.mul_comm];exact Nat.mul_lt_mul_of_pos_right h2 (by omega))
theorem qU (area:Nat)(h:area<=65536)(j:UInt64):(iH ((UInt64.ofInt (area:Int))*(iH ((j % 4294967296)*(j % 4294967296)) ((32:UInt64).toNat))) ((32:UInt64).toNat)).toNat=ZK area j:=by
  have h1:j.toNat % 4294967296 < 4294967296:=Nat.mod_lt _ (by omega);have e1:(j % 4294967296).toNat=j.toNat % 4294967296:=by rw[UInt64.toNat_mod];rfl
  have e2:(iH ((j % 4294967296)*(j % 4294967296)) ((32:UInt64).toNat)).toNat=(j.toNat % 4294967296)*(j.toNat % 4294967296) / 4294967296:=by
    rw[shrN,UInt64.toNat_mul,e1,Nat.mod_eq_of_lt]
    ·rfl
    ·exact Nat.lt_of_lt_of_le (Nat.mul_lt_mul'' h1 h1) (by decide)
  rw[shrN,UInt64.toNat_mul,e2,oi64 area (by omega)];unfold ZK;generalize j.toNat % 4294967296=a at h1 ⊢;have h2:a*a / 4294967296 < 4294967296:=Nat.div_lt_of_lt_mul (Nat.mul_lt_mul'' h1 h1);generalize a*a / 4294967296=p at h2 ⊢;rw[Nat.mod_eq_of_lt]
  ·rfl
  ·have:area*p<=65536*4294967296:=Nat.mul_le_mul h (by omega);omega
def BK (L pass slice lane:Nat)(j:UInt64):Nat:=if pass=0/\slice=0 then lane else j.toNat / 4294967296 % L
def Gy (s pass slice lane x l:Nat):Nat:=if l=lane then(if pass=0 then slice*s else 3*s)+x - 1 else if x=0 then(if pass=0 then slice*s else 3*s) - 1 else(if pass=0 then slice*s else 3*s)
def U8 (s pass slice:Nat):Nat:=if pass=0∨slice=3 then 0 else(slice+1)*s
def colS (s pass slice lane x l:Nat)(j:UInt64):Nat:=(U8 s pass slice+Gy s pass slice lane x l - 1 - ZK (Gy s pass slice lane x l) j) % (4*s)
theorem Rf (L pass slice lane:Nat)(j:UInt64)(hL:1<=L)(hl:lane < L):BK L pass slice lane j < L:=by
  unfold BK;split
  ·exact hl
  ·exact Nat.mod_lt _ (by omega)
theorem Rh (s pass slice lane x l:Nat)(hs:2<=s)(h3:slice<=3)(hx:x < s)(hl:pass=0/\slice=0->l=lane/\2<=x):1<=Gy s pass slice lane x l/\Gy s pass slice lane x l<=4*s:=by
  unfold Gy;have h0:slice*s<=3*s:=Nat.mul_le_mul_right _ h3;have h1:slice≠0->s<=slice*s:=fun h=>Nat.le_mul_of_pos_left _ (by omega);by_cases hp:pass=0
  ·simp only[hp,if_true];by_cases hz:slice=0
   ·obtain⟨rfl,hx2⟩:=hl ⟨hp,hz⟩;subst hz;simp only[if_true];omega
   ·have:=h1 hz;split
    ·omega
    ·split <;> omega
  ·simp only[hp,if_false];split
   ·omega
   ·split <;> omega
theorem U9 (s pass slice lane x l:Nat)(j:UInt64)(hs:2<=s):colS s pass slice lane x l j < 4*s:=Nat.mod_lt _ (by omega)
theorem colS_0 (s slice lane x l:Nat)(j:UInt64)(hs:2<=s)(h3:slice<=3)(hx:x < s)(hl:slice=0->l=lane/\2<=x):colS s 0 slice lane x l j < slice*s∨(l=lane/\colS s 0 slice lane x l j < slice*s+x):=by
  have hb:=Rh s 0 slice lane x l hs h3 hx fun h=>hl h.2;have hq:=YI _ hb.1 j;have h0:slice*s<=3*s:=Nat.mul_le_mul_right _ h3;have h1:slice≠0->s<=slice*s:=fun h=>Nat.le_mul_of_pos_left _ (by omega);unfold colS U8;rw[if_pos (.inl rfl)];generalize hA:Gy s 0 slice lane x l=a at hb hq ⊢;rw[Nat.mod_eq_of_lt (by omega)];unfold Gy at hA;simp only[if_true] at hA;by_cases he:l=lane
  ·right;rw[if_pos he] at hA;refine⟨he,?_⟩;omega
  ·left;rw[if_neg he] at hA;have hz:slice≠0:=fun h=>he (hl h).1;have:=h1 hz;split at hA <;> omega
section
variable (K M P L T:Nat)(hm:uA K M P L T)(pass slice lane x:Nat)(j:UInt64)(hp:pass < P)(h3:slice<=3)(hl:lane < L)(hx:x < dU M L)(h02:pass=0/\slice=0->2<=x)
include hm in
theorem wref3 (l:Int)(st area:Nat)(h1:1<=area)(h2:area<=65536)(h4:st<=65536):nN K M P L T j l st area=some (l,(((st+area - 1 - ZK area j) % (4*dU M L):Nat):Int)):=by
  have hb:=oC K M P L T hm;have hq:=YI area h1 j;unfold nN;rw[wcol K M P L T hm];simp only[Option.bind_some];rw[jo (by omega)];simp only[Option.bind_some,and32];rw[qU area h2 j,bz (n:=(st:Int)+area) (by omega),bz (n:=(st:Int)+area - 1) (by omega),bz (n:=((ZK area j:Nat):Int)) (by omega),bz (by omega)];rw[show(st:Int)+area - 1 - ((ZK area j:Nat):Int)=((st+area - 1 - ZK area j:Nat):Int) from by omega];rfl
include hm in
theorem rref3 (l:Int)(st area:Nat)(h1:1<=area)(h2:area<=65536)(h4:st<=65536):uj j ((dU M L:Nat):Int) l area st=some (l,(((st+area - 1 - ZK area j) % (4*dU M L):Nat):Int),0):=by
  have hb:=oC K M P L T hm;have hq:=YI area h1 j;unfold uj;rw[bz (n:=4*((dU M L:Nat):Int)) (by omega),jo (by omega)];simp only[Option.bind_some];rw[qU area h2 j,bz (n:=(st:Int)+area) (by omega),bz (n:=(st:Int)+area - 1) (by omega),bz (n:=((ZK area j:Nat):Int)) (by omega),bz (by omega)];rw[show(st:Int)+area - 1 - ((ZK area j:Nat):Int)=((st+area - 1 - ZK area j:Nat):Int) from by omega];rfl
include hm h3 hx in
theorem wref0 (l:Nat)(hll:pass=0/\slice=0->l=lane/\2<=x):pR K M P L T pass slice lane x j l=some ((l:Int),((colS (dU M L) pass slice lane x l j:Nat):Int)):=by
  have hb:=oC K M P L T hm;have ha:=Rh (dU M L) pass slice lane x l hb.1 h3 hx hll;have h0:slice*dU M L<=3*dU M L:=Nat.mul_le_mul_right _ h3;have h1:(slice+1)*dU M L<=4*dU M L:=Nat.mul_le_mul_right _ (by omega);have key2:∀ st:Nat,st<=4096->∀ wh:Nat,wh=(if pass=0 then slice*dU M L else 3*dU M L)->pM K M P L T lane x j l wh st=some ((l:Int),(((st+Gy (dU M L) pass slice lane x l - 1 - ZK (Gy (dU M L) pass slice lane x l) j) % (4*dU M L):Nat):Int)):=by
    intro st hst wh hwh;have hw:wh<=4096:=by rw[hwh];split <;> omega
    have hA:Gy (dU M L) pass slice lane x l=if l=lane then wh+x - 1 else if x=0 then wh - 1 else wh:=by unfold Gy;rw[hwh]
    unfold pM;by_cases he:l=lane
    ·rw[if_pos he] at hA;rw[if_pos (by omega),bz (n:=(x:Int) - 1) (by omega),bz (by omega),show(wh:Int)+((x:Int) - 1)=((wh+x - 1:Nat):Int) from by omega,<-hA];exact wref3 K M P L T hm j l st _ ha.1 (by omega) (by omega)
    ·rw[if_neg he] at hA;rw[if_neg (by omega)];by_cases hz:x=0
     ·rw[if_pos hz] at hA;rw[if_pos (by omega),bz (by omega),show(wh:Int) - 1=((wh - 1:Nat):Int) from by omega,<-hA];exact wref3 K M P L T hm j l st _ ha.1 (by omega) (by omega)
     ·rw[if_neg hz] at hA;rw[if_neg (by omega),<-hA];exact wref3 K M P L T hm j l st _ ha.1 (by omega) (by omega)
  have key1:∀ wh:Nat,wh=(if pass=0 then slice*dU M L else 3*dU M L)->pO K M P L T pass slice lane x j l ((dU M L:Nat):Int) wh=some ((l:Int),((colS (dU M L) pass slice lane x l j:Nat):Int)):=by
    intro wh hwh;unfold pO colS U8;by_cases hc:pass=0∨slice=3
    ·rw[if_pos hc,if_pos (by simp only[Bool.or_eq_true,decide_eq_true_eq];omega)];exact key2 0 (by omega) wh hwh
    ·rw[if_neg hc,if_neg (by simp only[Bool.or_eq_true,decide_eq_true_eq];omega),bz (n:=(slice:Int)+1) (by omega),show((slice:Int)+1)*((dU M L:Nat):Int)=(((slice+1)*dU M L:Nat):Int) from by simp,bz (by omega)];exact key2 _ (by omega) wh hwh
  unfold pR;rw[YH K M P L T hm];simp only[Option.bind_some];by_cases hp0:pass=0
  ·rw[if_pos (by omega),show(slice:Int)*((dU M L:Nat):Int)=((slice*dU M L:Nat):Int) from by simp,bz (by omega)];exact key1 _ (by rw[if_pos hp0])
  ·rw[if_neg (by omega),show(3:Int)*((dU M L:Nat):Int)=((3*dU M L:Nat):Int) from by simp,bz (by omega)];exact key1 _ (by rw[if_neg hp0])
include hm h3 hx in
theorem rref0 (l:Nat)(hll:pass=0/\slice=0->l=lane/\2<=x):um pass slice lane x j ((dU M L:Nat):Int) l=some ((l:Int),((colS (dU M L) pass slice lane x l j:Nat):Int),0):=by
  have hb:=oC K M P L T hm;have ha:=Rh (dU M L) pass slice lane x l hb.1 h3 hx hll;have h0:slice*dU M L<=3*dU M L:=Nat.mul_le_mul_right _ h3;have h1:(slice+1)*dU M L<=4*dU M L:=Nat.mul_le_mul_right _ (by omega);have key2:ql pass slice j ((dU M L:Nat):Int) l ((Gy (dU M L) pass slice lane x l:Nat):Int)=some ((l:Int),((colS (dU M L) pass slice lane x l j:Nat):Int),0):=by
    unfold ql colS U8;by_cases hc:pass=0∨slice=3
    ·rw[if_pos hc,if_neg (by simp only[Bool.and_eq_true,decide_eq_true_eq];omega)];exact rref3 K M P L T hm j l 0 _ ha.1 (by omega) (by omega)
    ·rw[if_neg hc,if_pos (by simp only[Bool.and_eq_true,decide_eq_true_eq];omega),bz (n:=(slice:Int)+1) (by omega),show((slice:Int)+1)*((dU M L:Nat):Int)=(((slice+1)*dU M L:Nat):Int) from by simp,bz (by omega)];exact rref3 K M P L T hm j l _ _ ha.1 (by omega) (by omega)
  have key1:∀ wh:Nat,wh=(if pass=0 then slice*dU M L else 3*dU M L)->uk pass slice lane x j ((dU M L:Nat):Int) l wh=some ((l:Int),((colS (dU M L) pass slice lane x l j:Nat):Int),0):=by
    intro wh hwh;have hw:wh<=4096:=by rw[hwh];split <;> omega
    have hA:Gy (dU M L) pass slice lane x l=if l=lane then wh+x - 1 else if x=0 then wh - 1 else wh:=by unfold Gy;rw[hwh]
    unfold uk;by_cases he:l=lane
    ·rw[if_pos he] at hA;rw[if_pos (by omega),bz (n:=(wh:Int)+x) (by omega),bz (by omega),show(wh:Int)+(x:Int) - 1=((wh+x - 1:Nat):Int) from by omega,<-hA];exact key2
    ·rw[if_neg he] at hA;rw[if_neg (by omega)];by_cases hz:x=0
     ·rw[if_pos hz] at hA;rw[if_pos (by omega),bz (by omega),show(wh:Int) - 1=((wh - 1:Nat):Int) from by omega,<-hA];exact key2
     ·rw[if_neg hz] at hA;rw[if_neg (by omega),<-hA];exact key2
  unfold um;by_cases hp0:pass=0
  ·rw[if_pos (by omega),show(slice:Int)*((dU M L:Nat):Int)=((slice*dU M L:Nat):Int) from by simp,bz (by omega)];exact key1 _ (by rw[if_pos hp0])
  ·rw[if_neg (by omega),show(3:Int)*((dU M L:Nat):Int)=((3*dU M L:Nat):Int) from by simp,bz (by omega)];exact key1 _ (by rw[if_neg hp0])
include hm in
theorem laneU:ay (((iH j ((32:UInt64).toNat)) % (UInt64.ofInt (L:Int))).toNat:Int)=((j.toNat / 4294967296 % L:Nat):Int):=by
  obtain⟨_,h1,h2,_⟩:=nT K M P L T hm;rw[UInt64.toNat_mod,shrN,oi64 L (by omega)];have:j.toNat / 4294967296 % L < L:=Nat.mod_lt _ (by omega);show ay ((j.toNat / 4294967296 % L:Nat):Int)=_;rw[bz (by omega)]
include hm in
theorem laneN:(UInt64.ofInt (L:Int))≠0:=by
  obtain⟨_,h1,h2,_⟩:=nT K M P L T hm;intro h;have:=congrArg UInt64.toNat h;rw[oi64 L (by omega)] at this;have h0:(0:UInt64).toNat=0:=rfl;omega
include hm h3 hx h02 in
theorem wrefer:vU K M P L T pass slice lane x j=some (((BK L pass slice lane j:Nat):Int),((colS (dU M L) pass slice lane x (BK L pass slice lane j) j:Nat):Int)):=by
  unfold vU;rw[jo (laneN K M P L T hm)];simp only[Option.bind_some];by_cases hc:pass=0/\slice=0
  ·rw[if_pos (by simp only[Bool.and_eq_true,decide_eq_true_eq];omega)];unfold BK;rw[if_pos hc];exact wref0 K M P L T hm pass slice lane x j h3 hx lane fun h=>⟨rfl,h02 h⟩
  ·rw[if_neg (by simp only[Bool.and_eq_true,decide_eq_true_eq];omega),laneU K M P L T hm];unfold BK;rw[if_neg hc];exact wref0 K M P L T hm pass slice lane x j h3 hx _ fun h=>absurd h hc
include hm hp h3 hl hx h02 in
theorem rrefer:DV K M P L T pass slice lane x j=some (((BK L pass slice lane j:Nat):Int),((colS (dU M L) pass slice lane x (BK L pass slice lane j) j:Nat):Int),0):=by
  unfold DV;rw[Q_,if_pos hm];simp only[Option.bind_some,ne_eq,not_true_eq_false,if_false];rw[rseg K M P L T hm];simp only[Option.bind_some];rw[if_neg (by simp only[Bool.or_eq_true,Bool.and_eq_true,decide_eq_true_eq];omega),jo (laneN K M P L T hm)];simp only[Option.bind_some];by_cases hc:pass=0/\slice=0
  ·rw[if_pos (by simp only[Bool.and_eq_true,decide_eq_true_eq];omega)];unfold BK;rw[if_pos hc];exact rref0 K M P L T hm pass slice lane x j h3 hx lane fun h=>⟨rfl,h02 h⟩
  ·rw[if_neg (by simp only[Bool.and_eq_true,decide_eq_true_eq];omega),laneU K M P L T hm];unfold BK;rw[if_neg hc];exact rref0 K M P L T hm pass slice lane x j h3 hx _ fun h=>absurd h hc
end
end Go.Sx
namespace Go.Sx
open Go.RowKit
set_option linter.unusedVariables false
set_option linter.unusedSimpArgs false
def zb (n:Nat):List UInt8:=List.replicate n 0
theorem xM (n:Nat):(zb n).length=n:=by simp[zb]
def w7 (l:List Nat)(i:Nat):UInt64:=UInt64.ofInt ((l.getD i 0:Nat):Int)
def hd7 (l:List Nat)(n:Nat):List UInt8:=Fo (fun i=>L6 8 (w7 l i)) n
theorem NQ (l:List Nat)(n:Nat):(hd7 l n).length=n*8:=Q8 (fun i=>zq 8 _) n
def adr (l:List Nat):List UInt8:=U5 (zb 1024) (U5 (zb 1024) (hd7 l 7++zb 968))
theorem Xn (l:List Nat):(hd7 l 7++zb 968).length=1024:=by rw[List.length_append,NQ,xM]
theorem PX (l:List Nat):(adr l).length=1024:=vM (xM _) (vM (xM _) (Xn l))
theorem g7 (a b c d e f g:Nat)(i:Nat)(h:i < 7):aV ([(a:Int),(b:Int),(c:Int),(d:Int),(e:Int),(f:Int),(g:Int)]:List Int) (i:Int)=some ((([a,b,c,d,e,f,g]:List Nat).getD i 0:Nat):Int):=by
  match i,h with
  | 0,_=>rfl
  | 1,_=>rfl
  | 2,_=>rfl
  | 3,_=>rfl
  | 4,_=>rfl
  | 5,_=>rfl
  | 6,_=>rfl
theorem U_:List.replicate (Int.toNat (1024:Int)) (0:UInt8)=zb 1024:=rfl
section
variable (K M P L T:Nat)(hm:uA K M P L T)(pass slice lane:Nat)
def l7 (n:Nat):List Nat:=[pass,lane,slice,L*(4*dU M L),P,K,n]
def aw (x:Nat):UInt64:=uy (adr (l7 K M P L pass slice lane (x / 128+1))) (x % 128)
include hm in
theorem LC_ok:ay ((L:Int)*((4*dU M L:Nat):Int))=((L*(4*dU M L):Nat):Int):=by
  have hb:=oC K M P L T hm;rw[show(L:Int)*((4*dU M L:Nat):Int)=((L*(4*dU M L):Nat):Int) from by simp,bz (by omega)]
include hm in
theorem wadr2 (q:Nat)(hq:128*q < dU M L):aZ (nY K M P L T ((q+1:Nat):Int) (adr (l7 K M P L pass slice lane (q+1)),0)) ((List.range (128*q)).map (aw K M P L pass slice lane),0)=some (.inl ((List.range (min (128*(q+1)) (dU M L))).map (aw K M P L pass slice lane),((q+1+1:Nat):Int))):=by
  have hb:=oC K M P L T hm;have hn:128*q+min 128 (dU M L - 128*q)=min (128*(q+1)) (dU M L):=by omega
  refine gZ (fun i=>((List.range (128*q+i)).map (aw K M P L pass slice lane),(i:Int))) (min 128 (dU M L - 128*q)) (fun i hi=>?_) ?_
  ·unfold nY;simp only[];rw[if_pos (by omega),YH K M P L T hm];simp only[Option.bind_some,List.length_map,List.length_range];rw[if_pos (by omega),ZG i (by omega),Ov _ i (by rw[PX];omega) (by rw[PX];omega)];simp only[Option.bind_some];rw[gJ (by simp;omega)];simp only[Option.bind_some];rw[bQ i (by omega),<-Nat.add_assoc,List.range_succ,List.map_append];have:aw K M P L pass slice lane (128*q+i)=uy (adr (l7 K M P L pass slice lane (q+1))) i:=by
     unfold aw;rw[show(128*q+i) / 128=q from by omega,show(128*q+i) % 128=i from by omega]
   rw[List.map_cons,List.map_nil,this]
  ·unfold nY;simp only[];rw[hn];by_cases h:min 128 (dU M L - 128*q)=128
   ·rw[if_neg (by omega),bQ (q+1) (by omega)];rfl
   ·rw[if_pos (by omega),YH K M P L T hm];simp only[Option.bind_some,List.length_map,List.length_range];rw[if_neg (by omega),bQ (q+1) (by omega)];rfl
include hm in
theorem wadr1 (q:Nat)(hq:128*q < dU M L):aZ (nZ K M P L T pass slice lane ((List.range (128*q)).map (aw K M P L pass slice lane)) ((q+1:Nat):Int) ((4*dU M L:Nat):Int)) ([],0)=some (.inl ((List.range (min (128*(q+1)) (dU M L))).map (aw K M P L pass slice lane),((q+1+1:Nat):Int))):=by
  have hb:=oC K M P L T hm;refine gZ (fun i=>(hd7 (l7 K M P L pass slice lane (q+1)) i,(i:Int))) 7 (fun i hi=>?_) ?_
  ·unfold nZ;simp only[];rw[if_pos (by omega),LC_ok K M P L T hm,g7 _ _ _ _ _ _ _ i hi];simp only[Option.bind_some];rw[Zn];simp only[Option.bind_some];rw[gJ (by rw[NQ];simp;omega)];simp only[Option.bind_some];rw[bQ i (by omega)];unfold hd7;rw[EZ];rfl
  ·unfold nZ;simp only[];rw[if_neg (by omega),U_,show Int.toNat (1024:Int)=1024 from rfl];have hl:=NQ (l7 K M P L pass slice lane (q+1)) 7;rw[Ad (by rw[hl,xM];omega)];simp only[Option.bind_some];have hz:((zb 1024).take (((1024:Nat):Int)).toNat).drop (((hd7 (l7 K M P L pass slice lane (q+1)) 7).length:Int)).toNat=zb 968:=by
     rw[hl,Int.toNat_natCast,Int.toNat_natCast,List.take_of_length_le (by rw[xM];omega)];unfold zb;rw[List.drop_replicate]
   rw[hz,gJ (by rw[hl,xM];omega)];simp only[Option.bind_some];rw[wMix _ _ (xM _) (Xn _)];simp only[Option.bind_some];rw[wMix _ _ (xM _) (vM (xM _) (Xn _))];simp only[Option.bind_some];have:=wadr2 K M P L T hm pass slice lane q hq;unfold adr at this;rw[this];rfl
include hm in
theorem waddr:rW K M P L T pass slice lane=some ((List.range (dU M L)).map (aw K M P L pass slice lane)):=by
  have hb:=oC K M P L T hm;unfold rW;refine gZ (fun q=>((List.range (min (128*q) (dU M L))).map (aw K M P L pass slice lane),((q+1:Nat):Int))) ((dU M L+127) / 128) (fun q hq=>?_) ?_
  ·unfold rV;simp only[];have h1:min (128*q) (dU M L)=128*q:=by omega
   rw[h1,YH K M P L T hm];simp only[Option.bind_some,List.length_map,List.length_range];rw[if_pos (by omega),wcol K M P L T hm];simp only[Option.bind_some];exact wadr1 K M P L T hm pass slice lane q (by omega)
  ·unfold rV;simp only[];have h1:min (128*((dU M L+127) / 128)) (dU M L)=dU M L:=by omega
   rw[h1,YH K M P L T hm];simp only[Option.bind_some,List.length_map,List.length_range];rw[if_neg (by omega)];rfl
include hm in
theorem radr1 (n:Nat):yP K M P L T pass slice lane ((4*dU M L:Nat):Int) n=some (adr (l7 K M P L pass slice lane n)):=by
  have hb:=oC K M P L T hm;have hl:=NQ (l7 K M P L pass slice lane n) 7;unfold yP;refine gZ (fun i=>(hd7 (l7 K M P L pass slice lane n) i,(i:Int))) 7 (fun i hi=>?_) ?_
  ·unfold yt;simp only[];rw[if_pos (by omega),LC_ok K M P L T hm,g7 _ _ _ _ _ _ _ i hi];simp only[Option.bind_some];have:=UL (w7 (l7 K M P L pass slice lane n) i) 8 (by omega);rw[show((8:Nat):Int)=8 from rfl] at this;unfold w7 l7 at this;rw[this];simp only[Option.bind_some];rw[gJ (by rw[NQ];simp;omega)];simp only[Option.bind_some];rw[bQ i (by omega)];unfold hd7;rw[EZ];rfl
  ·unfold yt;simp only[];rw[if_neg (by omega)];have key:=gZ (f:=ui) (r:=adr (l7 K M P L pass slice lane n)) (fun i=>hd7 (l7 K M P L pass slice lane n) 7++zb i) 968 (fun i hi=>?_) ?_
   ·have e:hd7 (l7 K M P L pass slice lane n) 7++zb 0=hd7 (l7 K M P L pass slice lane n) 7:=List.append_nil _;simp only[e] at key;exact congrArg (Option.map Sum.inr) key
   ·unfold ui;show(if(((hd7 (l7 K M P L pass slice lane n) 7++zb i).length:Nat):Int) < 1024 then _ else _)=_;rw[List.length_append,hl,xM,if_pos (by omega),gJ (by rw[List.length_append,hl,xM];simp;omega)];simp only[Option.bind_some];rw[List.append_assoc];have e:zb i++[(0:UInt8)]=zb (i+1):=by unfold zb;rw[List.replicate_succ']
    rw[e]
   ·unfold ui;show(if(((hd7 (l7 K M P L pass slice lane n) 7++zb 968).length:Nat):Int) < 1024 then _ else _)=_;rw[List.length_append,hl,xM,if_neg (by omega),U_,rMix _ _ (xM _) (Xn _)];simp only[Option.bind_some];rw[rMix _ _ (xM _) (vM (xM _) (Xn _))];simp only[Option.bind_some,Option.map_some,adr]
include hm in
theorem raddr (hp:pass < P)(h3:slice<=3)(hl:lane < L):vH K M P L T pass slice lane=some ((List.range (dU M L)).map (aw K M P L pass slice lane),0):=by
  have hb:=oC K M P L T hm;unfold vH;rw[Q_,if_pos hm];simp only[Option.bind_some,ne_eq,not_true_eq_false,if_false];rw[if_neg (by simp only[Bool.or_eq_true,decide_eq_true_eq];omega),rcol K M P L T hm];simp only[Option.bind_some];refine gZ (fun x=>((List.range x).map (aw K M P L pass slice lane),(if x=0 then[] else adr (l7 K M P L pass slice lane ((x - 1) / 128+1))),(x:Int))) (dU M L) (fun x hx=>?_) ?_
  ·unfold uO;simp only[];rw[rseg K M P L T hm];simp only[Option.bind_some];have hj:nO ((List.range x).map (aw K M P L pass slice lane)) (x:Int) (adr (l7 K M P L pass slice lane (x / 128+1)))=some (.inl ((List.range (x+1)).map (aw K M P L pass slice lane),(if x+1=0 then[] else adr (l7 K M P L pass slice lane ((x+1 - 1) / 128+1))),((x+1:Nat):Int))):=by
     unfold nO uN;rw[show Int.tmod (x:Int) 128=((x % 128:Nat):Int) from rfl,ZG _ (by omega),QV _ _ (by rw[PX];omega) (by rw[PX];omega)];simp only[Option.bind_some];rw[gJ (by simp;omega)];simp only[Option.bind_some];rw[bQ x (by omega),List.range_succ,List.map_append,if_neg (by omega)];rfl
   rw[if_pos (by omega),show Int.tmod (x:Int) 128=((x % 128:Nat):Int) from rfl];by_cases h:x % 128=0
   ·rw[if_pos (by omega),show Int.tdiv (x:Int) 128=((x / 128:Nat):Int) from rfl,bz (n:=((x / 128:Nat):Int)) (by omega),bQ _ (by omega),radr1 K M P L T hm];simp only[Option.bind_some];exact hj
   ·rw[if_neg (by omega),if_neg (by omega),show(x - 1) / 128=x / 128 from by omega];exact hj
  ·unfold uO;simp only[];rw[rseg K M P L T hm];simp only[Option.bind_some];rw[if_neg (by omega)];rfl
end
end Go.Sx
namespace Go.Sx
open Go.RowKit
set_option linter.unusedVariables false
set_option linter.unusedSimpArgs false
theorem F7 {α:Type}{N:Nat}{l:List α}(h:l.length=N):∃ v,Ae N l=some v/\v.l=l:=by
  unfold Ae;rw[dif_pos (by omega)];exact⟨_,rfl,List.take_of_length_le (by omega)⟩
abbrev Mem:=Nat->Nat->List UInt8
def upd (m:Mem)(l c:Nat)(b:List UInt8):Mem:=fun a d=>if a=l/\d=c then b else m a d
def IV (L C:Nat)(m:List (List (Vec UInt8 1024)))(mem:Mem):Prop:=m.length=L/\∀ l,l < L->∃ row,m[l]?=some row/\row.length=C/\∀ c,c < C->∃ v,row[c]?=some v/\v.l=mem l c
theorem IV.get {L C:Nat}{m:List (List (Vec UInt8 1024))}{mem:Mem}(h:IV L C m mem){l:Nat}(hl:l < L):∃ row,aV m (l:Int)=some row/\row.length=C/\∀ c,c < C->∃ v,aV row (c:Int)=some v/\v.l=mem l c:=by
  obtain⟨row,h1,h2,h3⟩:=h.2 l hl;refine⟨row,MI h1,h2,fun c hc=>?_⟩;obtain⟨v,h4,h5⟩:=h3 c hc;exact⟨v,MI h4,h5⟩
theorem IV.len {L C:Nat}{m:List (List (Vec UInt8 1024))}{mem:Mem}(h:IV L C m mem){l c:Nat}(hl:l < L)(hc:c < C):(mem l c).length=1024:=by
  obtain⟨row,h1,h2,h3⟩:=h.2 l hl;obtain⟨v,h4,h5⟩:=h3 c hc;rw[<- h5,v.h]
theorem IV.set {L C:Nat}{m:List (List (Vec UInt8 1024))}{mem:Mem}(h:IV L C m mem){l c:Nat}(hl:l < L)(hc:c < C){row:List (Vec UInt8 1024)}(hr:aV m (l:Int)=some row){v:Vec UInt8 1024}{b:List UInt8}(hv:v.l=b) :
    IV L C (m.set l (row.set c v)) (upd mem l c b):=by
  refine⟨by rw[List.length_set];exact h.1,fun a ha=>?_⟩;obtain⟨r2,h1,h2,h3⟩:=h.2 a ha;by_cases e:a=l
  ·subst e;have:r2=row:=by
     have:=MI h1;rw[hr] at this;exact(Option.some.inj this).symm
   subst this;refine⟨r2.set c v,?_,by rw[List.length_set];exact h2,fun d hd=>?_⟩
   ·rw[List.getElem?_set_self (by have:=h.1;omega)]
   ·by_cases e2:d=c
    ·subst e2;exact⟨v,by rw[List.getElem?_set_self (by omega)],by unfold upd;rw[if_pos ⟨rfl,rfl⟩,hv]⟩
    ·obtain⟨u,h4,h5⟩:=h3 d hd;exact⟨u,by rw[List.getElem?_set_ne (by omega)];exact h4,by unfold upd;rw[if_neg (by omega),h5]⟩
  ·refine⟨r2,by rw[List.getElem?_set_ne (by omega)];exact h1,h2,fun d hd=>?_⟩;obtain⟨u,h4,h5⟩:=h3 d hd;exact⟨u,h4,by unfold upd;rw[if_neg (by omega),h5]⟩
def H6 (L C:Nat)(f:List (List UInt8))(mem:Mem)(Fd:Nat->Nat->Prop):Prop:=f.length=L*C/\(∀ l,l < L->∀ c,c < C->(mem l c).length=1024)/\∀ l,l < L->∀ c,c < C->Fd l c->f[l*C+c]?=some (mem l c)
theorem Ri {L C l c:Nat}(hl:l < L)(hc:c < C):l*C+c < L*C:=by
  have:(l+1)*C<=L*C:=Nat.mul_le_mul_right _ hl;rw[Nat.succ_mul] at this;omega
theorem idx_inj {C l c a d:Nat}(hc:c < C)(hd:d < C)(h:l*C+c=a*C+d):l=a/\c=d:=by
  have h1:(l*C+c) / C=l:=by rw[Nat.mul_comm,Nat.mul_add_div (by omega),Nat.div_eq_of_lt hc,Nat.add_zero]
  have h2:(a*C+d) / C=a:=by rw[Nat.mul_comm,Nat.mul_add_div (by omega),Nat.div_eq_of_lt hd,Nat.add_zero]
  rw[h,h2] at h1;subst h1;exact⟨rfl,by omega⟩
theorem H6.mono {L C:Nat}{f:List (List UInt8)}{mem:Mem}{Fd Fe:Nat->Nat->Prop}(h:H6 L C f mem Fd)(hi:∀ l,l < L->∀ c,c < C->Fe l c->Fd l c):H6 L C f mem Fe:=⟨h.1,h.2.1,fun l hl c hc he=>h.2.2 l hl c hc (hi l hl c hc he)⟩
theorem H6.set {L C:Nat}{f:List (List UInt8)}{mem:Mem}{Fd Fe:Nat->Nat->Prop}(h:H6 L C f mem Fd){l c:Nat}(hl:l < L)(hc:c < C){b:List UInt8}(hb:b.length=1024)(hi:∀ a d,Fe a d->Fd a d∨(a=l/\d=c)):H6 L C (f.set (l*C+c) b) (upd mem l c b) Fe:=by
  refine⟨by rw[List.length_set];exact h.1,fun a ha d hd=>?_,fun a ha d hd he=>?_⟩
  ·unfold upd;split
   ·exact hb
   ·exact h.2.1 a ha d hd
  ·by_cases e:a=l/\d=c
   ·obtain⟨rfl,rfl⟩:=e;unfold upd;rw[List.getElem?_set_self (by rw[h.1];exact Ri hl hc),if_pos ⟨rfl,rfl⟩]
   ·unfold upd;rw[List.getElem?_set_ne (fun q=>e (by have:=idx_inj hc hd q;omega)),if_neg e];rcases hi a d he with h1 | h1
    ·exact h.2.2 a ha d hd h1
    ·exact absurd h1 e
section
variable (K M P L T:Nat)(hm:uA K M P L T)(pass slice lane:Nat)
def ahC (M L slice x:Nat):Nat:=(slice*dU M L+x+4*dU M L - 1) % (4*dU M L)
def jS (mem:Mem)(x:Nat):UInt64:=if K=1∨(K=2/\pass=0/\slice < 2) then aw K M P L pass slice lane x else uy (mem lane (ahC M L slice x)) 0
def Xo (mem:Mem)(x:Nat)(j:UInt64):List UInt8:=U5 (mem lane (ahC M L slice x)) (mem (BK L pass slice lane j) (colS (dU M L) pass slice lane x (BK L pass slice lane j) j))
def Rj (mem:Mem)(x:Nat)(j:UInt64):List UInt8:=if pass=0 then Xo M L pass slice lane mem x j else yB (Xo M L pass slice lane mem x j) (mem lane (slice*dU M L+x))
def stepM (mem:Mem)(x:Nat):Mem:=if pass=0/\slice*dU M L+x < 2 then mem else upd mem lane (slice*dU M L+x) (Rj M L pass slice lane mem x (jS K M P L pass slice lane mem x))
def Gz (mem:Mem):Mem:=(List.range (dU M L)).foldl (stepM K M P L pass slice lane) mem
theorem fold_succ {σ:Type}(F:σ->Nat->σ)(s:σ)(n:Nat):(List.range (n+1)).foldl F s=F ((List.range n).foldl F s) n:=by rw[List.range_succ,List.foldl_append];rfl
theorem Va (M L slice x:Nat)(h:2<=dU M L):ahC M L slice x < 4*dU M L:=Nat.mod_lt _ (by omega)
include hm in
theorem wfill0 (h3:slice<=3)(hl:lane < L)(hdr:K=1∨(K=2/\pass=0/\slice < 2))(m:List (List (Vec UInt8 1024)))(mem:Mem)(hM:IV L (4*dU M L) m mem)(b:List (Vec UInt8 1024))(hbl:b.length=4*dU M L) :
    ∃ r,aZ (mQ K M P L T pass slice lane ((dU M L:Nat):Int) ((List.range (dU M L)).map (aw K M P L pass slice lane)) b) (m,0)=some r/\∃ m',r=((K:Int),(M:Int),(P:Int),(L:Int),(T:Int),m')/\IV L (4*dU M L) m' (Gz K M P L pass slice lane mem):=by
  have hb:=oC K M P L T hm;have hc0:slice*dU M L<=3*dU M L:=Nat.mul_le_mul_right _ h3;obtain⟨_,hL1,hL2,_⟩:=nT K M P L T hm;refine nJ (fun i s=>∃ m',s=(m',(i:Int))/\i<=dU M L/\IV L (4*dU M L) m' ((List.range i).foldl (stepM K M P L pass slice lane) mem)) (fun r=>∃ m',r=((K:Int),(M:Int),(P:Int),(L:Int),(T:Int),m')/\IV L (4*dU M L) m' (Gz K M P L pass slice lane mem)) (dU M L) ?_ _ ⟨m,rfl,Nat.zero_le _,hM⟩;rintro x s ⟨m1,rfl,hx,hM1⟩;generalize hmem:(List.range x).foldl (stepM K M P L pass slice lane) mem=mem1 at hM1;by_cases hlt:x < dU M L
  ·refine .inl ⟨hlt,?_⟩;unfold mQ;simp only[];rw[if_pos (by omega),show(slice:Int)*((dU M L:Nat):Int)=((slice*dU M L:Nat):Int) from by simp,bz (n:=((slice*dU M L:Nat):Int)) (by omega),bz (n:=((slice*dU M L:Nat):Int)+x) (by omega),show((slice*dU M L:Nat):Int)+x=((slice*dU M L+x:Nat):Int) from by omega];by_cases hsk:pass=0/\slice*dU M L+x < 2
   ·rw[if_pos (by simp only[Bool.and_eq_true,decide_eq_true_eq];omega)];unfold jc;rw[bQ x (by omega)];refine⟨_,rfl,m1,rfl,by omega,?_⟩;rw[fold_succ,hmem];unfold stepM;rw[if_pos hsk];exact hM1
   ·rw[if_neg (by simp only[Bool.and_eq_true,decide_eq_true_eq];omega)];obtain⟨row,g1,g2,g3⟩:=hM1.get hl;have hah:=Va M L slice x hb.1;rw[g1];simp only[Option.bind_some];rw[hbl,jo (by omega)];simp only[Option.bind_some];have hi:Int.tmod (ay ((ay (((slice*dU M L+x:Nat):Int)+((4*dU M L:Nat):Int))) - 1)) ((4*dU M L:Nat):Int)=((ahC M L slice x:Nat):Int):=by
      rw[bz (n:=((slice*dU M L+x:Nat):Int)+((4*dU M L:Nat):Int)) (by omega),bz (by omega),show((slice*dU M L+x:Nat):Int)+((4*dU M L:Nat):Int) - 1=((slice*dU M L+x+4*dU M L - 1:Nat):Int) from by omega];rfl
    rw[hi];obtain⟨va,a1,a2⟩:=g3 _ hah;rw[a1];simp only[Option.bind_some];rw[show G6 va.l 0 (8:Int)=some (va.l.take 8) from by rw[Ad (by rw[va.h];omega)];rfl];simp only[Option.bind_some];have hld:=Ov (va.l.take 8) 0 (by rw[List.length_take,va.h];omega) (by rw[List.length_take,va.h];omega);rw[show((8*0:Nat):Int)=0 from rfl] at hld;have hwd:uy (va.l.take 8) 0=uy va.l 0:=by unfold uy;simp[List.take_take]
    rw[hwd] at hld;rw[hld];simp only[Option.bind_some];rw[show aV ((List.range (dU M L)).map (aw K M P L pass slice lane)) (x:Int)=some (aw K M P L pass slice lane x) from by rw[fG (by simpa using hlt)];simp];simp only[Option.bind_some];have hj:jS K M P L pass slice lane mem1 x=aw K M P L pass slice lane x:=by unfold jS;rw[if_pos hdr]
    have h02:pass=0/\slice=0->2<=x:=by rintro⟨q1,q2⟩;subst q2;omega
    rw[<- hj,wrefer K M P L T hm pass slice lane x _ h3 hlt h02];simp only[Option.bind_some];generalize hjj:jS K M P L pass slice lane mem1 x=j at hj ⊢;have hrl:=Rf L pass slice lane j hL1 hl;have hrc:=U9 (dU M L) pass slice lane x (BK L pass slice lane j) j hb.1;obtain⟨row2,r1,r2,r3⟩:=hM1.get hrl;obtain⟨vb,b1,b2⟩:=r3 _ hrc;obtain⟨vo,o1,o2⟩:=g3 (slice*dU M L+x) (by omega);have hmx:U5 va.l vb.l=Xo M L pass slice lane mem1 x j:=by unfold Xo;rw[a2,b2]
    have hst:stepM K M P L pass slice lane mem1 x=upd mem1 lane (slice*dU M L+x) (Rj M L pass slice lane mem1 x j):=by unfold stepM;rw[if_neg hsk,hjj]
    by_cases hp:pass=0
    ·rw[if_pos (by omega),r1];simp only[Option.bind_some];rw[b1];simp only[Option.bind_some];rw[wMix _ _ va.h vb.h];simp only[Option.bind_some];obtain⟨v,t1,t2⟩:=F7 (vM va.h vb.h);rw[t1];simp only[Option.bind_some];rw[o1];simp only[Option.bind_some];unfold jc;rw[bQ x (by omega),Int.toNat_natCast,Int.toNat_natCast];refine⟨_,rfl,_,rfl,by omega,?_⟩;rw[fold_succ,hmem,hst];exact hM1.set hl (by omega) g1 (by unfold Rj;rw[if_pos hp,t2,hmx])
    ·rw[if_neg (by omega),r1];simp only[Option.bind_some];rw[b1];simp only[Option.bind_some];rw[o1];simp only[Option.bind_some];rw[wOver _ _ _ va.h vb.h vo.h];simp only[Option.bind_some];obtain⟨v,t1,t2⟩:=F7 (xK (vM va.h vb.h) vo.h);rw[t1];simp only[Option.bind_some];unfold jc;rw[bQ x (by omega),Int.toNat_natCast,Int.toNat_natCast];refine⟨_,rfl,_,rfl,by omega,?_⟩;rw[fold_succ,hmem,hst];exact hM1.set hl (by omega) g1 (by unfold Rj;rw[if_neg hp,t2,hmx,o2])
  ·right;obtain rfl:x=dU M L:=by omega
   unfold mQ;simp only[];rw[if_neg (by omega)];refine⟨_,rfl,m1,rfl,?_⟩;unfold Gz;rw[hmem];exact hM1
include hm in
theorem wfill1 (h3:slice<=3)(hl:lane < L)(hdr:¬ (K=1∨(K=2/\pass=0/\slice < 2)))(m:List (List (Vec UInt8 1024)))(mem:Mem)(hM:IV L (4*dU M L) m mem)(b:List (Vec UInt8 1024))(hbl:b.length=4*dU M L) :
    ∃ r,aZ (mV K M P L T pass slice lane ((dU M L:Nat):Int) b) (m,0)=some r/\∃ m',r=((K:Int),(M:Int),(P:Int),(L:Int),(T:Int),m')/\IV L (4*dU M L) m' (Gz K M P L pass slice lane mem):=by
  have hb:=oC K M P L T hm;have hc0:slice*dU M L<=3*dU M L:=Nat.mul_le_mul_right _ h3;obtain⟨_,hL1,hL2,_⟩:=nT K M P L T hm;refine nJ (fun i s=>∃ m',s=(m',(i:Int))/\i<=dU M L/\IV L (4*dU M L) m' ((List.range i).foldl (stepM K M P L pass slice lane) mem)) (fun r=>∃ m',r=((K:Int),(M:Int),(P:Int),(L:Int),(T:Int),m')/\IV L (4*dU M L) m' (Gz K M P L pass slice lane mem)) (dU M L) ?_ _ ⟨m,rfl,Nat.zero_le _,hM⟩;rintro x s ⟨m1,rfl,hx,hM1⟩;generalize hmem:(List.range x).foldl (stepM K M P L pass slice lane) mem=mem1 at hM1;by_cases hlt:x < dU M L
  ·refine .inl ⟨hlt,?_⟩;unfold mV;simp only[];rw[if_pos (by omega),show(slice:Int)*((dU M L:Nat):Int)=((slice*dU M L:Nat):Int) from by simp,bz (n:=((slice*dU M L:Nat):Int)) (by omega),bz (n:=((slice*dU M L:Nat):Int)+x) (by omega),show((slice*dU M L:Nat):Int)+x=((slice*dU M L+x:Nat):Int) from by omega];by_cases hsk:pass=0/\slice*dU M L+x < 2
   ·rw[if_pos (by simp only[Bool.and_eq_true,decide_eq_true_eq];omega)];unfold jd;rw[bQ x (by omega)];refine⟨_,rfl,m1,rfl,by omega,?_⟩;rw[fold_succ,hmem];unfold stepM;rw[if_pos hsk];exact hM1
   ·rw[if_neg (by simp only[Bool.and_eq_true,decide_eq_true_eq];omega)];obtain⟨row,g1,g2,g3⟩:=hM1.get hl;have hah:=Va M L slice x hb.1;rw[g1];simp only[Option.bind_some];rw[hbl,jo (by omega)];simp only[Option.bind_some];have hi:Int.tmod (ay ((ay (((slice*dU M L+x:Nat):Int)+((4*dU M L:Nat):Int))) - 1)) ((4*dU M L:Nat):Int)=((ahC M L slice x:Nat):Int):=by
      rw[bz (n:=((slice*dU M L+x:Nat):Int)+((4*dU M L:Nat):Int)) (by omega),bz (by omega),show((slice*dU M L+x:Nat):Int)+((4*dU M L:Nat):Int) - 1=((slice*dU M L+x+4*dU M L - 1:Nat):Int) from by omega];rfl
    rw[hi];obtain⟨va,a1,a2⟩:=g3 _ hah;rw[a1];simp only[Option.bind_some];rw[show G6 va.l 0 (8:Int)=some (va.l.take 8) from by rw[Ad (by rw[va.h];omega)];rfl];simp only[Option.bind_some];have hld:=Ov (va.l.take 8) 0 (by rw[List.length_take,va.h];omega) (by rw[List.length_take,va.h];omega);rw[show((8*0:Nat):Int)=0 from rfl] at hld;have hwd:uy (va.l.take 8) 0=uy va.l 0:=by unfold uy;simp[List.take_take]
    rw[hwd] at hld;rw[hld];simp only[Option.bind_some];have hj:jS K M P L pass slice lane mem1 x=uy va.l 0:=by unfold jS;rw[if_neg hdr,a2]
    have h02:pass=0/\slice=0->2<=x:=by rintro⟨q1,q2⟩;subst q2;omega
    rw[<- hj,wrefer K M P L T hm pass slice lane x _ h3 hlt h02];simp only[Option.bind_some];generalize hjj:jS K M P L pass slice lane mem1 x=j at hj ⊢;have hrl:=Rf L pass slice lane j hL1 hl;have hrc:=U9 (dU M L) pass slice lane x (BK L pass slice lane j) j hb.1;obtain⟨row2,r1,r2,r3⟩:=hM1.get hrl;obtain⟨vb,b1,b2⟩:=r3 _ hrc;obtain⟨vo,o1,o2⟩:=g3 (slice*dU M L+x) (by omega);have hmx:U5 va.l vb.l=Xo M L pass slice lane mem1 x j:=by unfold Xo;rw[a2,b2]
    have hst:stepM K M P L pass slice lane mem1 x=upd mem1 lane (slice*dU M L+x) (Rj M L pass slice lane mem1 x j):=by unfold stepM;rw[if_neg hsk,hjj]
    by_cases hp:pass=0
    ·rw[if_pos (by omega),r1];simp only[Option.bind_some];rw[b1];simp only[Option.bind_some];rw[wMix _ _ va.h vb.h];simp only[Option.bind_some];obtain⟨v,t1,t2⟩:=F7 (vM va.h vb.h);rw[t1];simp only[Option.bind_some];rw[o1];simp only[Option.bind_some];unfold jd;rw[bQ x (by omega),Int.toNat_natCast,Int.toNat_natCast];refine⟨_,rfl,_,rfl,by omega,?_⟩;rw[fold_succ,hmem,hst];exact hM1.set hl (by omega) g1 (by unfold Rj;rw[if_pos hp,t2,hmx])
    ·rw[if_neg (by omega),r1];simp only[Option.bind_some];rw[b1];simp only[Option.bind_some];rw[o1];simp only[Option.bind_some];rw[wOver _ _ _ va.h vb.h vo.h];simp only[Option.bind_some];obtain⟨v,t1,t2⟩:=F7 (xK (vM va.h vb.h) vo.h);rw[t1];simp only[Option.bind_some];unfold jd;rw[bQ x (by omega),Int.toNat_natCast,Int.toNat_natCast];refine⟨_,rfl,_,rfl,by omega,?_⟩;rw[fold_succ,hmem,hst];exact hM1.set hl (by omega) g1 (by unfold Rj;rw[if_neg hp,t2,hmx,o2])
  ·right;obtain rfl:x=dU M L:=by omega
   unfold mV;simp only[];rw[if_neg (by omega)];refine⟨_,rfl,m1,rfl,?_⟩;unfold Gz;rw[hmem];exact hM1
include hm in
theorem wfill (h3:slice<=3)(hl:lane < L)(m:List (List (Vec UInt8 1024)))(mem:Mem)(hM:IV L (4*dU M L) m mem) :
    ∃ m',oH K M P L T m pass slice lane=some ((K:Int),(M:Int),(P:Int),(L:Int),(T:Int),m')/\IV L (4*dU M L) m' (Gz K M P L pass slice lane mem):=by
  obtain⟨row,g1,g2,g3⟩:=hM.get hl;unfold oH;rw[YH K M P L T hm];simp only[Option.bind_some];unfold oP;by_cases hdr:K=1∨(K=2/\pass=0/\slice < 2)
  ·rw[if_pos (by simp only[Bool.or_eq_true,Bool.and_eq_true,decide_eq_true_eq];omega),waddr K M P L T hm];simp only[Option.bind_some];rw[g1];simp only[Option.bind_some];obtain⟨r,h1,m',rfl,h2⟩:=wfill0 K M P L T hm pass slice lane h3 hl hdr m mem hM row g2;exact⟨m',h1,h2⟩
  ·rw[if_neg (by simp only[Bool.or_eq_true,Bool.and_eq_true,decide_eq_true_eq];omega),g1];simp only[Option.bind_some];obtain⟨r,h1,m',rfl,h2⟩:=wfill1 K M P L T hm pass slice lane h3 hl hdr m mem hM row g2;exact⟨m',h1,h2⟩
end
end Go.Sx
namespace Go.Sx
open Go.RowKit
set_option linter.unusedVariables false
set_option linter.unusedSimpArgs false
def L8 (s pass slice lane x l c:Nat):Prop:=0 < pass∨c < 2∨c < slice*s∨(l < lane/\c < slice*s+s)∨(l=lane/\c < slice*s+x)
theorem H6.get {L C:Nat}{f:List (List UInt8)}{mem:Mem}{Fd:Nat->Nat->Prop}(h:H6 L C f mem Fd){l c:Nat}(hl:l < L)(hc:c < C)(hf:Fd l c)(hLC:L*C<=4096)(d:Int)(hd:d=(c:Int)):aV f (ay ((ay ((l:Int)*(C:Int)))+d))=some (mem l c):=by
  subst hd;have h1:=Ri hl hc;have h2:l*C<=L*C:=Nat.mul_le_mul_right _ (by omega);rw[show(l:Int)*(C:Int)=((l*C:Nat):Int) from by simp,bz (n:=((l*C:Nat):Int)) (by omega),bz (by omega),show((l*C:Nat):Int)+(c:Int)=((l*C+c:Nat):Int) from by omega];exact MI (h.2.2 l hl c hc hf)
theorem H6.idx {L C:Nat}{l c:Nat}(hl:l < L)(hc:c < C)(hLC:L*C<=4096)(d:Int)(hd:d=(c:Int)):ay ((ay ((l:Int)*(C:Int)))+d)=((l*C+c:Nat):Int):=by
  subst hd;have h1:=Ri hl hc;have h2:l*C<=L*C:=Nat.mul_le_mul_right _ (by omega);rw[show(l:Int)*(C:Int)=((l*C:Nat):Int) from by simp,bz (n:=((l*C:Nat):Int)) (by omega),bz (by omega),show((l*C:Nat):Int)+(c:Int)=((l*C+c:Nat):Int) from by omega]
section
variable (K M P L T:Nat)(hm:uA K M P L T)(pass slice lane:Nat)
include hm in
theorem rfill3 (hp:pass < P)(h3:slice<=3)(hl:lane < L)(f:List (List UInt8))(mem:Mem)(x:Nat)(hx:x < dU M L)(hM:H6 L (4*dU M L) f mem (L8 (dU M L) pass slice lane x))(hsk:¬ (pass=0/\slice*dU M L+x < 2))(j:UInt64)(hj:jS K M P L pass slice lane mem x=j) :
    ∃ f',sO K M P L T pass slice lane ((4*dU M L:Nat):Int) f (x:Int) (mem lane (ahC M L slice x)) j=some (.inl (f',((x+1:Nat):Int)))/\H6 L (4*dU M L) f' (stepM K M P L pass slice lane mem x) (L8 (dU M L) pass slice lane (x+1)):=by
  have hb:=oC K M P L T hm;have hc0:slice*dU M L<=3*dU M L:=Nat.mul_le_mul_right _ h3;have hz1:slice≠0->dU M L<=slice*dU M L:=fun h=>Nat.le_mul_of_pos_left _ (by omega);obtain⟨_,hL1,hL2,_⟩:=nT K M P L T hm;have h02:pass=0/\slice=0->2<=x:=by rintro⟨q1,q2⟩;subst q2;omega
  have hrl:=Rf L pass slice lane j hL1 hl;have hrc:=U9 (dU M L) pass slice lane x (BK L pass slice lane j) j hb.1;have hah:=Va M L slice x hb.1;have hst:stepM K M P L pass slice lane mem x=upd mem lane (slice*dU M L+x) (Rj M L pass slice lane mem x j):=by unfold stepM;rw[if_neg hsk,hj]
  have hfd:L8 (dU M L) pass slice lane x (BK L pass slice lane j) (colS (dU M L) pass slice lane x (BK L pass slice lane j) j):=by
    by_cases hp0:pass=0
    ·subst hp0;have:=colS_0 (dU M L) slice lane x (BK L 0 slice lane j) j hb.1 h3 hx fun h=>⟨by unfold BK;rw[if_pos ⟨rfl,h⟩],h02 ⟨rfl,h⟩⟩
     unfold L8;omega
    ·exact .inl (by omega)
  have hla:=hM.2.1 lane hl _ hah;have hlb:=hM.2.1 _ hrl _ hrc;have hlo:=hM.2.1 lane hl (slice*dU M L+x) (by omega);have hs4:ay (Int.tdiv ((4*dU M L:Nat):Int) 4)=((dU M L:Nat):Int):=by
    rw[show Int.tdiv ((4*dU M L:Nat):Int) 4=((4*dU M L / 4:Nat):Int) from rfl,show 4*dU M L / 4=dU M L from by omega,bz (by omega)]
  have hcx:ay ((ay ((slice:Int)*(ay (Int.tdiv ((4*dU M L:Nat):Int) 4))))+(x:Int))=((slice*dU M L+x:Nat):Int):=by
    rw[hs4,show(slice:Int)*((dU M L:Nat):Int)=((slice*dU M L:Nat):Int) from by simp,bz (n:=((slice*dU M L:Nat):Int)) (by omega),bz (by omega)];omega
  unfold sO;rw[rrefer K M P L T hm pass slice lane x j hp h3 hl hx h02];simp only[Option.bind_some];rw[hM.get hrl hrc hfd hb.2.2 _ rfl];simp only[Option.bind_some];rw[rMix _ _ hla hlb];simp only[Option.bind_some];have key:∀ b2:List UInt8,b2=Rj M L pass slice lane mem x j->b2.length=1024->∃ f',vY slice lane ((4*dU M L:Nat):Int) f (x:Int) b2=some (.inl (f',((x+1:Nat):Int)))/\H6 L (4*dU M L) f' (stepM K M P L pass slice lane mem x) (L8 (dU M L) pass slice lane (x+1)):=by
    intro b2 e2 hl2;unfold vY vX yQ;rw[hcx,H6.idx hl (show slice*dU M L+x < 4*dU M L from by omega) hb.2.2 _ rfl];rw[fG (by rw[hM.1];exact Ri hl (by omega))];simp only[Option.bind_some];rw[bQ x (by omega),Int.toNat_natCast];refine⟨_,rfl,?_⟩;rw[hst,<-e2];exact hM.set hl (by omega) hl2 fun a d h=>by unfold L8 at h ⊢;omega
  by_cases hp0:pass=0
  ·rw[if_neg (by omega)];exact key _ (by unfold Rj Xo;rw[if_pos hp0]) (vM hla hlb)
  ·rw[if_pos (by omega),hcx,hM.get hl (show slice*dU M L+x < 4*dU M L from by omega) (.inl (by omega)) hb.2.2 _ rfl];simp only[Option.bind_some];rw[rXor _ _ (vM hla hlb) hlo];simp only[Option.bind_some];exact key _ (by unfold Rj Xo;rw[if_neg hp0]) (xK (vM hla hlb) hlo)
include hm in
theorem rfill0 (hp:pass < P)(h3:slice<=3)(hl:lane < L)(f:List (List UInt8))(mem:Mem)(hM:H6 L (4*dU M L) f mem (L8 (dU M L) pass slice lane 0))(dr:List UInt64)(hdr:K=1∨(K=2/\pass=0/\slice < 2)->dr=(List.range (dU M L)).map (aw K M P L pass slice lane)) :
    ∃ f',vZ K M P L T f pass slice lane ((4*dU M L:Nat):Int) dr=some f'/\H6 L (4*dU M L) f' (Gz K M P L pass slice lane mem) (L8 (dU M L) pass slice lane (dU M L)):=by
  have hb:=oC K M P L T hm;have hc0:slice*dU M L<=3*dU M L:=Nat.mul_le_mul_right _ h3;have hz1:slice≠0->dU M L<=slice*dU M L:=fun h=>Nat.le_mul_of_pos_left _ (by omega);obtain⟨hK,hL1,hL2,_⟩:=nT K M P L T hm;unfold vZ;have hs4:ay (Int.tdiv ((4*dU M L:Nat):Int) 4)=((dU M L:Nat):Int):=by
    rw[show Int.tdiv ((4*dU M L:Nat):Int) 4=((4*dU M L / 4:Nat):Int) from rfl,show 4*dU M L / 4=dU M L from by omega,bz (by omega)]
  obtain⟨r,h1,f',rfl,h2⟩:=nJ (f:=yR K M P L T pass slice lane ((4*dU M L:Nat):Int) dr) (fun i s=>∃ f',s=(f',(i:Int))/\i<=dU M L/\H6 L (4*dU M L) f' ((List.range i).foldl (stepM K M P L pass slice lane) mem) (L8 (dU M L) pass slice lane i)) (fun r=>∃ f',r=f'/\H6 L (4*dU M L) f' (Gz K M P L pass slice lane mem) (L8 (dU M L) pass slice lane (dU M L))) (dU M L) (by
    rintro x s ⟨f1,rfl,hx,hM1⟩;generalize hmem:(List.range x).foldl (stepM K M P L pass slice lane) mem=mem1 at hM1;by_cases hlt:x < dU M L
    ·refine .inl ⟨hlt,?_⟩;unfold yR;simp only[];rw[hs4,if_pos (by omega)];by_cases hsk:pass=0/\slice*dU M L+x < 2
     ·have hz:slice=0:=by
        apply Classical.byContradiction;intro h;have:=hz1 h;omega
      rw[if_pos (by subst hz;simp only[Bool.and_eq_true,decide_eq_true_eq];omega)];unfold vX yQ;rw[bQ x (by omega)];refine⟨_,rfl,f1,rfl,by omega,?_⟩;rw[fold_succ,hmem];unfold stepM;rw[if_pos hsk];exact hM1.mono fun l _ c _ h=>by unfold L8 at h ⊢;omega
     ·rw[if_neg (by
        simp only[Bool.and_eq_true,decide_eq_true_eq];rintro⟨⟨q1,q2⟩,q3⟩;obtain rfl:slice=0:=by omega
        omega),jo (by omega)]
      simp only[Option.bind_some];have hah:=Va M L slice x hb.1;have hi:Int.tmod (ay ((ay ((ay ((ay ((slice:Int)*((dU M L:Nat):Int)))+(x:Int)))+((4*dU M L:Nat):Int))) - 1)) ((4*dU M L:Nat):Int)=((ahC M L slice x:Nat):Int):=by
        rw[show(slice:Int)*((dU M L:Nat):Int)=((slice*dU M L:Nat):Int) from by simp,bz (n:=((slice*dU M L:Nat):Int)) (by omega),bz (n:=((slice*dU M L:Nat):Int)+(x:Int)) (by omega),bz (n:=((slice*dU M L:Nat):Int)+(x:Int)+((4*dU M L:Nat):Int)) (by omega),bz (by omega),show((slice*dU M L:Nat):Int)+(x:Int)+((4*dU M L:Nat):Int) - 1=((slice*dU M L+x+4*dU M L - 1:Nat):Int) from by omega];rfl
      have hfa:L8 (dU M L) pass slice lane x lane (ahC M L slice x):=by
        by_cases hp0:pass=0
        ·have:ahC M L slice x=slice*dU M L+x - 1:=by
           unfold ahC;rw[show slice*dU M L+x+4*dU M L - 1=(slice*dU M L+x - 1)+4*dU M L from by omega,Nat.add_mod_right,Nat.mod_eq_of_lt (by omega)]
         unfold L8;omega
        ·exact .inl (by omega)
      rw[hM1.get hl hah hfa hb.2.2 _ hi];simp only[Option.bind_some];have fin:∀ j:UInt64,jS K M P L pass slice lane mem1 x=j->∃ s',sO K M P L T pass slice lane ((4*dU M L:Nat):Int) f1 (x:Int) (mem1 lane (ahC M L slice x)) j=some (.inl s')/\∃ f',s'=(f',((x+1:Nat):Int))/\x+1<=dU M L/\H6 L (4*dU M L) f' ((List.range (x+1)).foldl (stepM K M P L pass slice lane) mem) (L8 (dU M L) pass slice lane (x+1)):=by
        intro j hj;obtain⟨f2,e1,e2⟩:=rfill3 K M P L T hm pass slice lane hp h3 hl f1 mem1 x hlt hM1 hsk j hj;exact⟨_,e1,f2,rfl,by omega,by rw[fold_succ,hmem];exact e2⟩
      by_cases hd:K=1∨(K=2/\pass=0/\slice < 2)
      ·rw[if_neg (by simp only[Bool.or_eq_true,Bool.and_eq_true,decide_eq_true_eq];omega),hdr hd];rw[show aV ((List.range (dU M L)).map (aw K M P L pass slice lane)) (x:Int)=some (aw K M P L pass slice lane x) from by rw[fG (by simpa using hlt)];simp];simp only[Option.bind_some];exact fin _ (by unfold jS;rw[if_pos hd])
      ·rw[if_pos (by simp only[Bool.or_eq_true,Bool.and_eq_true,decide_eq_true_eq];omega)];have hla:=hM1.2.1 lane hl _ hah;have hld:=QV (mem1 lane (ahC M L slice x)) 0 (by omega) (by omega);rw[show((8*0:Nat):Int)=0 from rfl] at hld;rw[hld];simp only[Option.bind_some];exact fin _ (by unfold jS;rw[if_neg hd])
    ·right;obtain rfl:x=dU M L:=by omega
     unfold yR;simp only[];rw[hs4,if_neg (by omega)];refine⟨_,rfl,f1,rfl,?_⟩;unfold Gz;rw[hmem];exact hM1) _ ⟨f,rfl,Nat.zero_le _,hM⟩
  exact⟨_,h1,h2⟩
include hm in
theorem rfill (hp:pass < P)(h3:slice<=3)(hl:lane < L)(f:List (List UInt8))(mem:Mem)(hM:H6 L (4*dU M L) f mem (L8 (dU M L) pass slice lane 0)) :
    ∃ f',FH K M P L T f pass slice lane ((4*dU M L:Nat):Int)=some f'/\H6 L (4*dU M L) f' (Gz K M P L pass slice lane mem) (L8 (dU M L) pass slice lane (dU M L)):=by
  obtain⟨hK,hL1,hL2,_⟩:=nT K M P L T hm;unfold FH;by_cases hd:K=1∨(K=2/\pass=0/\slice < 2)
  ·rw[if_pos (by simp only[Bool.not_eq_true',Bool.or_eq_false_iff,Bool.and_eq_false_iff,Bool.or_eq_false_iff,decide_eq_false_iff_not];omega),raddr K M P L T hm pass slice lane hp h3 hl];simp only[Option.bind_some];exact rfill0 K M P L T hm pass slice lane hp h3 hl f mem hM _ fun _=>rfl
  ·rw[if_neg (by simp only[Bool.not_eq_true',Bool.or_eq_false_iff,Bool.and_eq_false_iff,Bool.or_eq_false_iff,decide_eq_false_iff_not];omega)];exact rfill0 K M P L T hm pass slice lane hp h3 hl f mem hM _ fun h=>absurd h hd
end
end Go.Sx
namespace Go.Sx
open Go.RowKit
set_option linter.unusedVariables false
set_option linter.unusedSimpArgs false
noncomputable def H0 (start:List UInt8)(l c:Nat):List UInt8:=Ew 1024 ((([]++start)++S4 c)++S4 l)
noncomputable def Ec (start:List UInt8):Mem:=fun l c=>if c < 2 then H0 start l c else zb 1024
theorem YJ (start:List UInt8)(hs:start.length=64)(l c:Nat):(H0 start l c).length=1024:=S_ 1024 (by omega) (by omega) _ (by simp[CQ,hs])
theorem Xp (start:List UInt8)(hs:start.length=64)(l c:Nat):(Ec start l c).length=1024:=by
  unfold Ec;split
  ·exact YJ start hs l c
  ·exact xM _
theorem upd_same (m:Mem)(l c:Nat):upd m l c (m l c)=m:=by
  funext a d;unfold upd;split
  ·rename_i h;rw[h.1,h.2]
  ·rfl
theorem IV.push {L C:Nat}{m:List (List (Vec UInt8 1024))}{mem:Mem}(h:IV L C m mem){row:List (Vec UInt8 1024)}(hr:row.length=C/\∀ c,c < C->∃ v,row[c]?=some v/\v.l=mem L c):IV (L+1) C (m++[row]) mem:=by
  refine⟨by rw[List.length_append,h.1];rfl,fun l hl=>?_⟩;by_cases e:l=L
  ·subst e;exact⟨row,by rw[List.getElem?_append_right (Nat.le_of_eq h.1),h.1];simp,hr.1,hr.2⟩
  ·obtain⟨r,h1,h2⟩:=h.2 l (by omega);exact⟨r,by rw[List.getElem?_append_left (by have:=h.1;omega)];exact h1,h2⟩
section
variable (K M P L T:Nat)(hm:uA K M P L T)(start:List UInt8)(hs:start.length=64)
include hm hs in
theorem wbeg1 (m:List (List (Vec UInt8 1024)))(l:Nat)(hl:l < L)(hM:IV l (4*dU M L) m (Ec start)) :
    ∃ m',aZ (pK start m (l:Int)) (List.replicate (4*dU M L) (Vec.rep 1024 (0:UInt8)),0)=some (.inl (m',((l+1:Nat):Int)))/\IV (l+1) (4*dU M L) m' (Ec start):=by
  have hb:=oC K M P L T hm;obtain⟨_,hL1,hL2,_⟩:=nT K M P L T hm;have hin:∀ c:Nat,c < 2->((([]++start)++S4 c)++S4 l).length<=11000000:=fun c _=>by simp[CQ,hs]
  obtain⟨v0,t0,u0⟩:=F7 (YJ start hs l 0);obtain⟨v1,t1,u1⟩:=F7 (YJ start hs l 1);have st:∀ (row:List (Vec UInt8 1024)) (c:Nat) (v:Vec UInt8 1024),c < 2->c < row.length->Ae 1024 (H0 start l c)=some v->pK start m (l:Int) (row,(c:Int))=some (.inl (row.set c v,((c+1:Nat):Int))):=by
    intro row c v hc hcl ht;unfold pK;simp only[];rw[if_pos (by omega),gJ (by simp;omega)];simp only[Option.bind_some];rw[Pz _ (by simp;omega) c (by omega)];simp only[Option.bind_some];rw[Pz _ (by simp[CQ];omega) l (by omega)];simp only[Option.bind_some];rw[show(1024:Int)=((1024:Nat):Int) from rfl,wHash 1024 (by omega) (by omega) _ (hin c hc)];simp only[Option.bind_some];unfold H0 at ht;rw[ht];simp only[Option.bind_some];rw[fG hcl];simp only[Option.bind_some];rw[bQ c (by omega),Int.toNat_natCast]
  have s0:=st (List.replicate (4*dU M L) (Vec.rep 1024 (0:UInt8))) 0 v0 (by omega) (by simp;omega) t0;have s1:=st ((List.replicate (4*dU M L) (Vec.rep 1024 (0:UInt8))).set 0 v0) 1 v1 (by omega) (by simp;omega) t1;refine⟨m++[((List.replicate (4*dU M L) (Vec.rep 1024 (0:UInt8))).set 0 v0).set 1 v1],?_,hM.push ⟨by simp,fun c hc=>?_⟩⟩
  ·rw[show(0:Int)=((0:Nat):Int) from rfl,kH s0,kH s1];refine gm ?_;unfold pK;simp only[];rw[if_neg (by omega),gJ (by rw[hM.1];simp;omega)];simp only[Option.bind_some];rw[bQ l (by omega)];rfl
  ·unfold Ec
   match c,hc with
   | 0,_=>exact⟨v0,by rw[List.getElem?_set_ne (by omega),List.getElem?_set_self (by simp;omega)],by rw[if_pos (by omega)];exact u0⟩
   | 1,_=>exact⟨v1,by rw[List.getElem?_set_self (by simp;omega)],by rw[if_pos (by omega)];exact u1⟩
   | c+2,hc=>exact⟨Vec.rep 1024 (0:UInt8),by rw[List.getElem?_set_ne (by omega),List.getElem?_set_ne (by omega),List.getElem?_replicate,if_pos (by omega)],by rw[if_neg (by omega)];rfl⟩
include hm hs in
theorem wbegin:∃ m,yK K M P L T start=some ((K:Int),(M:Int),(P:Int),(L:Int),(T:Int),m)/\IV L (4*dU M L) m (Ec start):=by
  have hb:=oC K M P L T hm;obtain⟨_,hL1,hL2,_⟩:=nT K M P L T hm;unfold yK;obtain⟨r,h1,m,rfl,h2⟩:=nJ (f:=ug K M P L T start) (fun i s=>∃ m,s=(m,(i:Int))/\i<=L/\IV i (4*dU M L) m (Ec start)) (fun r=>∃ m,r=((K:Int),(M:Int),(P:Int),(L:Int),(T:Int),m)/\IV L (4*dU M L) m (Ec start)) L (by
    rintro l s ⟨m,rfl,hx,hM⟩;by_cases hlt:l < L
    ·refine .inl ⟨hlt,?_⟩;unfold ug;simp only[];rw[if_pos (by omega),wcol K M P L T hm];simp only[Option.bind_some];rw[jo (by rw[Int.toNat_natCast];omega)];simp only[Option.bind_some];rw[Int.toNat_natCast];obtain⟨m',e1,e2⟩:=wbeg1 K M P L T hm start hs m l hlt hM;exact⟨_,e1,m',rfl,by omega,e2⟩
    ·right;obtain rfl:l=L:=by omega
     unfold ug;simp only[];rw[if_neg (by omega)];exact⟨_,rfl,m,rfl,hM⟩) _ ⟨[],rfl,Nat.zero_le _,rfl,fun l hl=>by omega⟩
  exact⟨m,h1,h2⟩
def LY (pass slice:Nat)(mem:Mem):Mem:=(List.range L).foldl (fun mem lane=>Gz K M P L pass slice lane mem) mem
def Rk (pass:Nat)(mem:Mem):Mem:=(List.range 4).foldl (fun mem slice=>LY K M P L pass slice mem) mem
def allM (mem:Mem):Mem:=(List.range P).foldl (fun mem pass=>Rk K M P L pass mem) mem
include hm in
theorem wturn (pass slice:Nat)(h3:slice<=3)(m:List (List (Vec UInt8 1024)))(mem:Mem)(hM:IV L (4*dU M L) m mem) :
    ∃ m',xq L K M P L T m pass slice=some ((K:Int),(M:Int),(P:Int),(L:Int),(T:Int),m',(pass:Int),(slice:Int))/\IV L (4*dU M L) m' (LY K M P L pass slice mem):=by
  obtain⟨_,hL1,hL2,_⟩:=nT K M P L T hm;unfold xq;obtain⟨r,h1,m',rfl,h2⟩:=nJ (f:=rY L) (fun i s=>∃ m',s=((K:Int),(M:Int),(P:Int),(L:Int),(T:Int),m',(pass:Int),(slice:Int),(i:Int))/\i<=L/\IV L (4*dU M L) m' ((List.range i).foldl (fun mem lane=>Gz K M P L pass slice lane mem) mem)) (fun r=>∃ m',r=((K:Int),(M:Int),(P:Int),(L:Int),(T:Int),m',(pass:Int),(slice:Int))/\IV L (4*dU M L) m' (LY K M P L pass slice mem)) L (by
    rintro l s ⟨m1,rfl,hx,hM1⟩;by_cases hlt:l < L
    ·refine .inl ⟨hlt,?_⟩;obtain⟨m2,e1,e2⟩:=wfill K M P L T hm pass slice l h3 hlt m1 _ hM1;unfold rY;simp only[];rw[if_pos (by omega)];unfold rX;rw[e1];simp only[Option.bind_some];rw[bQ l (by omega)];exact⟨_,rfl,m2,rfl,by omega,by rw[fold_succ];exact e2⟩
    ·right;obtain rfl:l=L:=by omega
     unfold rY;simp only[];rw[if_neg (by omega)];exact⟨_,rfl,m1,rfl,hM1⟩) _ ⟨m,rfl,Nat.zero_le _,hM⟩
  exact⟨m',h1,h2⟩
include hm in
theorem wpass (pass:Nat)(hp:pass < 100)(m:List (List (Vec UInt8 1024)))(mem:Mem)(hM:IV L (4*dU M L) m mem) :
    ∃ m',aZ (lG (pass:Int)) ((K:Int),(M:Int),(P:Int),(L:Int),(T:Int),m,(pass:Int),0)=some (.inl ((K:Int),(M:Int),(P:Int),(L:Int),(T:Int),m',((pass+1:Nat):Int)))/\IV L (4*dU M L) m' (Rk K M P L pass mem):=by
  obtain⟨r,h1,m',rfl,h2⟩:=nJ (f:=lG (pass:Int)) (fun i s=>∃ m',s=((K:Int),(M:Int),(P:Int),(L:Int),(T:Int),m',(pass:Int),(i:Int))/\i<=4/\IV L (4*dU M L) m' ((List.range i).foldl (fun mem slice=>LY K M P L pass slice mem) mem)) (fun r=>∃ m',r=.inl ((K:Int),(M:Int),(P:Int),(L:Int),(T:Int),m',((pass+1:Nat):Int))/\IV L (4*dU M L) m' (Rk K M P L pass mem)) 4 (by
    rintro l s ⟨m1,rfl,hx,hM1⟩;by_cases hlt:l < 4
    ·refine .inl ⟨hlt,?_⟩;obtain⟨m2,e1,e2⟩:=wturn K M P L T hm pass l (by omega) m1 _ hM1;unfold lG;simp only[];rw[if_pos (by omega),e1];simp only[Option.bind_some];rw[bQ l (by omega)];exact⟨_,rfl,m2,rfl,by omega,by rw[fold_succ];exact e2⟩
    ·right;obtain rfl:l=4:=by omega
     unfold lG;simp only[];rw[if_neg (by omega),bQ pass (by omega)];exact⟨_,rfl,m1,rfl,hM1⟩) _ ⟨m,rfl,Nat.zero_le _,hM⟩
  exact⟨m',h1,h2⟩
include hm in
theorem wall (m:List (List (Vec UInt8 1024)))(mem:Mem)(hM:IV L (4*dU M L) m mem) :
    ∃ m',qi K M P L T m=some ((K:Int),(M:Int),(P:Int),(L:Int),(T:Int),m')/\IV L (4*dU M L) m' (allM K M P L mem):=by
  obtain⟨_,_,_,_,hP,_⟩:=nT K M P L T hm;unfold qi;obtain⟨r,h1,m',rfl,h2⟩:=nJ (f:=nH (P:Int)) (fun i s=>∃ m',s=((K:Int),(M:Int),(P:Int),(L:Int),(T:Int),m',(i:Int))/\i<=P/\IV L (4*dU M L) m' ((List.range i).foldl (fun mem pass=>Rk K M P L pass mem) mem)) (fun r=>∃ m',r=((K:Int),(M:Int),(P:Int),(L:Int),(T:Int),m')/\IV L (4*dU M L) m' (allM K M P L mem)) P (by
    rintro l s ⟨m1,rfl,hx,hM1⟩;by_cases hlt:l < P
    ·refine .inl ⟨hlt,?_⟩;obtain⟨m2,e1,e2⟩:=wpass K M P L T hm l (by omega) m1 _ hM1;unfold nH;simp only[];rw[if_pos (by omega)];exact⟨_,e1,m2,rfl,by omega,by rw[fold_succ];exact e2⟩
    ·right;obtain rfl:l=P:=by omega
     unfold nH;simp only[];rw[if_neg (by omega)];exact⟨_,rfl,m1,rfl,hM1⟩) _ ⟨m,rfl,Nat.zero_le _,hM⟩
  exact⟨m',h1,h2⟩
def RZ (mem:Mem)(n:Nat):List UInt8:=(List.range n).foldl (fun x l=>yB x (mem l (4*dU M L - 1))) (zb 1024)
theorem Rn (mem:Mem)(hl:∀ l,l < L->(mem l (4*dU M L - 1)).length=1024):∀ n,n<=L->(RZ M L mem n).length=1024:=by
  intro n
  induction n with
  | zero=>intro _;exact xM _
  | succ n ih =>
    intro h;unfold RZ;rw[fold_succ];exact xK (ih (by omega)) (hl n (by omega))
include hm in
theorem wtag (m:List (List (Vec UInt8 1024)))(mem:Mem)(hM:IV L (4*dU M L) m mem):qj K M P L T m=some (Ew T (RZ M L mem L),(K:Int),(M:Int),(P:Int),(L:Int),(T:Int),m):=by
  have hb:=oC K M P L T hm;obtain⟨_,hL1,hL2,_,_,hT1,hT2,_⟩:=nT K M P L T hm;have hlen:=Rn M L mem fun l hl=>hM.len hl (show 4*dU M L - 1 < 4*dU M L from by omega);unfold qj;refine kQ (fun i s=>∃ v:Vec UInt8 1024,s=(v,(i:Int))/\i<=L/\v.l=RZ M L mem i) _ L _ ⟨Vec.rep 1024 0,rfl,Nat.zero_le _,rfl⟩ ?_;rintro l s ⟨x,rfl,hx,hxl⟩;by_cases hlt:l < L
  ·refine .inl ⟨hlt,?_⟩;obtain⟨row,g1,g2,g3⟩:=hM.get hlt;obtain⟨v,g4,g5⟩:=g3 (4*dU M L - 1) (by omega);unfold qy;simp only[];rw[if_pos (by rw[hM.1];omega),g1];simp only[Option.bind_some];rw[g2,bz (by omega),show((4*dU M L:Nat):Int) - 1=((4*dU M L - 1:Nat):Int) from by omega,g4];simp only[Option.bind_some];rw[wXor _ _ x.h v.h];simp only[Option.bind_some];obtain⟨u,t1,t2⟩:=F7 (xK x.h v.h);rw[t1];simp only[Option.bind_some];rw[bQ l (by omega)];refine⟨_,rfl,u,rfl,by omega,?_⟩;rw[t2,hxl,g5];unfold RZ;rw[fold_succ]
  ·right;obtain rfl:l=L:=by omega
   unfold qy;simp only[];rw[if_neg (by rw[hM.1];omega),hxl,wHash T (by omega) (by omega) _ (by rw[hlen l (by omega)];omega)];rfl
end
end Go.Sx
