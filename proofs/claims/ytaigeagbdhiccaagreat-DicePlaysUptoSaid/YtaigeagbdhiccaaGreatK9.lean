import Derived.Test.YtaigeagbdhiccaaGreatK8
namespace Go.Sx
open Go.RowKit
set_option linter.unusedVariables false
set_option linter.unusedSimpArgs false
def ps (at_:Nat)(v:Lf)(b:L3)(i:Nat):L3:=b.set (at_+i) (UInt8.ofNat (iQ v (8*i)).toNat)
def pset (b:L3)(at_ n:Nat)(v:Lf):L3:=(List.range n).foldl (ps at_ v) b
theorem ps_len (at_:Nat)(v:Lf)(n:Nat)(b:L3):((List.range n).foldl (ps at_ v) b).length=b.length:=by
  induction n with
  | zero=>rfl
  | succ n ih=>rw[List.range_succ,List.foldl_append];simp only[List.foldl_cons,List.foldl_nil,ps,List.length_set,ih]
theorem pset_len (b:L3)(at_ n:Nat)(v:Lf):(pset b at_ n v).length=b.length:=ps_len _ _ _ _
theorem at_i (a i:Nat)(h:a < 1000)(hi:i < 1000):dU ((a:Int)+(i:Int))=((a+i:Nat):Int):=by rw[nN (by omega)];omega
theorem wput (b:L3)(at_ n:Nat)(v:Lf)(hn:n<=8)(hb:at_+n<=b.length)(ha:at_ < 1000):IW b (at_:Int) (n:Int) v=some (pset b at_ n v):=by
  unfold IW;refine oV (fun i=>((List.range i).foldl (ps at_ v) b,(i:Int))) n (fun i hi=>?_) ?_
  ·unfold Gt;simp only[];rw[if_pos (by omega),mul8 i (by omega),vT (by omega),at_i _ _ ha (by omega),yl (by rw[ps_len];omega),qM i (by omega),List.range_succ,List.foldl_append];rfl
  ·unfold Gt;simp only[];rw[if_neg (by omega)];rfl
theorem m8:∀ i:Nat,i < 8->((8:Lf)*UInt64.ofInt (i:Int)).toNat=8*i:=by decide +kernel
theorem rput (b:L3)(at_ n:Nat)(v:Lf)(hn:n<=8)(hb:at_+n<=b.length)(ha:at_ < 1000):MZ b (at_:Int) (n:Int) v=some (pset b at_ n v):=by
  unfold MZ;refine oV (fun i=>((List.range i).foldl (ps at_ v) b,(i:Int))) n (fun i hi=>?_) ?_
  ·unfold JW;simp only[];rw[if_pos (by omega),at_i _ _ ha (by omega),yl (by rw[ps_len];omega),qM i (by omega),m8 i (by omega),List.range_succ,List.foldl_append];rfl
  ·unfold JW;simp only[];rw[if_neg (by omega)];rfl
def cpy (b:L3)(at_:Nat)(xs:L3):L3:=(List.range xs.length).foldl (fun(b:L3) (i:Nat)=>b.set (at_+i) (xs.getD i 0)) b
theorem cpy_eq (at_:Nat)(xs:L3)(n:Nat)(b:L3)(hn:n<=xs.length)(hb:at_+n<=b.length):(List.range n).foldl (fun(b:L3) (i:Nat)=>b.set (at_+i) (xs.getD i 0)) b=b.take at_++xs.take n++b.drop (at_+n):=by
  induction n with
  | zero=>simp
  | succ n ih =>
    rw[List.range_succ,List.foldl_append,ih (by omega) (by omega)];simp only[List.foldl_cons,List.foldl_nil];have hd:b.drop (at_+n)=b[at_+n]::b.drop (at_+(n+1)):=List.drop_eq_getElem_cons (by omega);rw[hd,List.set_append_right _ _ (by simp;omega)];have hx:at_+n - (b.take at_++xs.take n).length=0:=by simp;omega
    rw[hx,List.set_cons_zero,List.take_succ_eq_append_getElem (by omega)];simp only[List.append_assoc,List.cons_append,List.nil_append];congr 3;simp[List.getD_eq_getElem?_getD,show n < xs.length from by omega]
theorem Mc (b:L3)(at_:Nat)(xs:L3)(h:at_+xs.length<=b.length):(cpy b at_ xs).length=b.length:=by
  unfold cpy;rw[cpy_eq at_ xs xs.length b (Nat.le_refl _) h];simp;omega
theorem lcp_cpy (b:L3)(at_ n:Nat)(xs:L3)(hn:xs.length<=n)(h:at_+xs.length<=b.length):lcp b at_ n xs=cpy b at_ xs:=by
  unfold cpy;rw[cpy_eq at_ xs xs.length b (Nat.le_refl _) h,lcp,List.take_length,List.take_of_length_le hn,Nat.min_eq_right hn]
def fpl (k:Int)(i:Nat):Nat×Nat:=if k=1 then[(0,1),(1,1),(2,1),(3,1),(4,4),(8,8),(12,4),(16,1),(17,1)].getD i (0,0) else[(0,1),(1,1),(2,1),(3,1),(4,4),(8,6),(12,2),(14,1),(15,1)].getD i (0,0)
theorem fpl_le (k:Int):∀ i:Nat,i < 9->(fpl k i).1+(fpl k i).2<=18/\(fpl k i).2<=8:=by
  intro i hi;unfold fpl;by_cases hk:k=1
  ·simp only[hk,if_true];revert i;decide
  ·simp only[hk,if_false];revert i;decide
theorem rplace (k:Int)(hk:k=1∨k=2):∀ i:Nat,i < 9->LK k ((i+1:Nat):Int)=some (((fpl k i).1:Int),((fpl k i).2:Int)):=by
  rcases hk with rfl | rfl <;> decide +kernel
theorem wrows (k:Int):∃ rows,B_ k=some rows/\rows.length=9/\∀ i:Nat,i < 9->∃ row,iT rows (i:Int)=some row/\row.1=((i+1:Nat):Int)/\row.2.1=((fpl k i).1:Int)/\row.2.2.1=((fpl k i).2:Int):=by
  by_cases hk:k=1
  ·subst hk;refine⟨_,rfl,rfl,fun i hi=>?_⟩
   match i,hi with
   | 0,_=>exact⟨_,rfl,rfl,rfl,rfl⟩
   | 1,_=>exact⟨_,rfl,rfl,rfl,rfl⟩
   | 2,_=>exact⟨_,rfl,rfl,rfl,rfl⟩
   | 3,_=>exact⟨_,rfl,rfl,rfl,rfl⟩
   | 4,_=>exact⟨_,rfl,rfl,rfl,rfl⟩
   | 5,_=>exact⟨_,rfl,rfl,rfl,rfl⟩
   | 6,_=>exact⟨_,rfl,rfl,rfl,rfl⟩
   | 7,_=>exact⟨_,rfl,rfl,rfl,rfl⟩
   | 8,_=>exact⟨_,rfl,rfl,rfl,rfl⟩
  ·have h2:∀ i,fpl k i=fpl 2 i:=fun i=>by unfold fpl;simp only[hk,if_false];rfl
   have h3:B_ k=B_ 2:=by unfold B_;rw[if_neg hk,if_neg (by decide)]
   rw[h3];simp only[h2];refine⟨_,rfl,rfl,fun i hi=>?_⟩
   match i,hi with
   | 0,_=>exact⟨_,rfl,rfl,rfl,rfl⟩
   | 1,_=>exact⟨_,rfl,rfl,rfl,rfl⟩
   | 2,_=>exact⟨_,rfl,rfl,rfl,rfl⟩
   | 3,_=>exact⟨_,rfl,rfl,rfl,rfl⟩
   | 4,_=>exact⟨_,rfl,rfl,rfl,rfl⟩
   | 5,_=>exact⟨_,rfl,rfl,rfl,rfl⟩
   | 6,_=>exact⟨_,rfl,rfl,rfl,rfl⟩
   | 7,_=>exact⟨_,rfl,rfl,rfl,rfl⟩
   | 8,_=>exact⟨_,rfl,rfl,rfl,rfl⟩
section
variable (k d ky f dp:Int)(lf:UInt32)(off:Lf)(zV:UInt32)(nd Be:Int)(gW vw:L3)
def pvals:List Lf:=[UInt64.ofInt d,UInt64.ofInt ky,UInt64.ofInt f,UInt64.ofInt dp,UInt64.ofNat lf.toNat,off,UInt64.ofNat zV.toNat,UInt64.ofInt nd,UInt64.ofInt Be]
theorem wvalue (i:Nat)(hi:i < 9):Iu d ky f dp lf off zV nd Be gW vw ((i+1:Nat):Int)=some ((pvals d ky f dp lf off zV nd Be).getD i 0):=by
  match i,hi with
  | 0,_=>rfl
  | 1,_=>rfl
  | 2,_=>rfl
  | 3,_=>rfl
  | 4,_=>rfl
  | 5,_=>rfl
  | 6,_=>rfl
  | 7,_=>rfl
  | 8,_=>rfl
def ens (b:L3)(i:Nat):L3:=if i=6/\zV=0 then b else pset b (fpl k i).1 (fpl k i).2 ((pvals d ky f dp lf off zV nd Be).getD i 0)
def XH (b:L3)(n:Nat):L3:=(List.range n).foldl (ens k d ky f dp lf off zV nd Be) b
theorem FN (b:L3)(n:Nat):(XH k d ky f dp lf off zV nd Be b n).length=b.length:=by
  unfold XH
  induction n with
  | zero=>rfl
  | succ n ih =>
    rw[List.range_succ,List.foldl_append];simp only[List.foldl_cons,List.foldl_nil,ens];split
    ·exact ih
    ·rw[pset_len,ih]
def enc' (S:Nat):L3:=cpy (cpy (XH k d ky f dp lf off zV nd Be (List.replicate S 0) 9) (S / 2) gW) (S / 4*3) vw
def encB:L3:=enc' k d ky f dp lf off zV nd Be gW vw (if k=1 then 64 else 32)
theorem wloop (S q:Nat)(hS:S=64/\q=16∨S=32/\q=8)(m:Int)(hs:gW.length<=q)(hp:vw.length<=q)(rows:List (Int×Int×Int×L3×Int))(hl:rows.length=9)
    (hr:∀ i:Nat,i < 9->∃ row,iT rows (i:Int)=some row/\row.1=((i+1:Nat):Int)/\row.2.1=((fpl k i).1:Int)/\row.2.2.1=((fpl k i).2:Int)) :
    gY (Ah d ky f dp lf off zV nd Be gW vw ((S:Int),m,(q:Int)) rows) (List.replicate S 0,(0:Int))=some (enc' k d ky f dp lf off zV nd Be gW vw S,0):=by
  refine oV (fun i=>(XH k d ky f dp lf off zV nd Be (List.replicate S 0) i,(i:Int))) 9 (fun i hi=>?_) ?_
  ·obtain⟨row,h1,h2,h3,h4⟩:=hr i hi;obtain⟨g1,g2⟩:=fpl_le k i hi;unfold Ah Ag Dq;simp only[];rw[hl,if_pos (by omega),h1];simp only[Option.bind_some];rw[h2,h3,h4,qM i (by omega)];have hss:XH k d ky f dp lf off zV nd Be (List.replicate S 0) (i+1)=ens k d ky f dp lf off zV nd Be (XH k d ky f dp lf off zV nd Be (List.replicate S 0) i) i:=by
     unfold XH;rw[List.range_succ,List.foldl_append];rfl
   rw[hss];unfold ens;by_cases hc:i=6/\zV=0
   ·rw[if_pos (by simp only[Bool.and_eq_true,decide_eq_true_eq];exact⟨by omega,hc.2⟩),if_pos hc]
   ·rw[if_neg (by simp only[Bool.and_eq_true,decide_eq_true_eq];exact fun h=>hc ⟨by omega,h.2⟩),if_neg hc,wvalue _ _ _ _ _ _ _ _ _ _ _ i hi];simp only[Option.bind_some];rw[wput _ _ _ _ g2 (by rw[FN];simp;omega) (by omega)];rfl
  ·unfold Ah;simp only[];have hlen:(XH k d ky f dp lf off zV nd Be (List.replicate S 0) 9).length=S:=by rw[FN];simp
   have e1:dU ((S:Int) - dU (2*(q:Int)))=((S / 2:Nat):Int):=by rw[nN (n:=2*(q:Int)) (by omega),nN (by omega)];omega
   have e2:dU ((S:Int) - (q:Int))=((S / 4*3:Nat):Int):=by rw[nN (by omega)];omega
   rw[hl,if_neg (by omega),e1,e2,Int.toNat_natCast];rw[Kw (by rw[hlen];omega)];simp only[Option.bind_some,Int.toNat_natCast];have l1:((XH k d ky f dp lf off zV nd Be (List.replicate S 0) 9).take S).drop (S / 2)=(XH k d ky f dp lf off zV nd Be (List.replicate S 0) 9).drop (S / 2):=by rw[List.take_of_length_le (by omega)]
   rw[l1,lcp_cpy _ _ _ _ (by rw[List.length_drop,hlen];omega) (by rw[hlen];omega)];have hlen2:(cpy (XH k d ky f dp lf off zV nd Be (List.replicate S 0) 9) (S / 2) gW).length=S:=by rw[Mc _ _ _ (by omega),hlen]
   rw[Kw (by rw[hlen2];omega)];simp only[Option.bind_some,Int.toNat_natCast];rw[List.take_of_length_le (by omega),lcp_cpy _ _ _ _ (by rw[List.length_drop,hlen2];omega) (by rw[hlen2];omega)];rfl
theorem cset_len (at_:Nat)(xs:L3)(n:Nat)(b:L3):((List.range n).foldl (fun(b:L3) (i:Nat)=>b.set (at_+i) (xs.getD i 0)) b).length=b.length:=by
  induction n with
  | zero=>rfl
  | succ n ih=>rw[List.range_succ,List.foldl_append];simp only[List.foldl_cons,List.foldl_nil,List.length_set,ih]
theorem getD_in (xs:L3)(i:Nat)(h:i < xs.length):xs.getD i 0=xs[i]:=by simp[List.getD_eq_getElem?_getD,h]
theorem rloop (hk:k=1∨k=2)(S q:Nat)(hS:S=64/\q=16∨S=32/\q=8)(hM:wE k=some (S:Int))(hs:gW.length<=q)(hp:vw.length<=q) :
    gY (CY k d ky f dp lf off zV nd Be gW vw) (List.replicate S 0,(1:Int))=some (enc' k d ky f dp lf off zV nd Be gW vw S,0):=by
  refine oV (fun i=>(XH k d ky f dp lf off zV nd Be (List.replicate S 0) i,((i+1:Nat):Int))) 9 (fun i hi=>?_) ?_
  ·obtain⟨g1,g2⟩:=fpl_le k i hi;unfold CY CV Fg;simp only[];rw[if_pos (by omega),qM (i+1) (by omega)];have hss:XH k d ky f dp lf off zV nd Be (List.replicate S 0) (i+1)=ens k d ky f dp lf off zV nd Be (XH k d ky f dp lf off zV nd Be (List.replicate S 0) i) i:=by
     unfold XH;rw[List.range_succ,List.foldl_append];rfl
   rw[hss];unfold ens;by_cases hc:i=6/\zV=0
   ·rw[if_pos (by simp only[Bool.and_eq_true,decide_eq_true_eq];exact⟨by omega,hc.2⟩),if_pos hc]
   ·rw[if_neg (by simp only[Bool.and_eq_true,decide_eq_true_eq];exact fun h=>hc ⟨by omega,h.2⟩),if_neg hc,rplace k hk i hi];simp only[Option.bind_some];have hw:dU (((i+1:Nat):Int) - 1)=(i:Int):=by rw[nN (by omega)];omega
    have hg:iT [UInt64.ofInt d,UInt64.ofInt ky,UInt64.ofInt f,UInt64.ofInt dp,UInt64.ofNat lf.toNat,off,UInt64.ofNat zV.toNat,UInt64.ofInt nd,UInt64.ofInt Be] (i:Int)=some ((pvals d ky f dp lf off zV nd Be).getD i 0):=by
      rw[yl (by simp;omega)];simp[pvals,List.getD_eq_getElem?_getD,hi]
    rw[hw,hg];simp only[Option.bind_some];rw[rput _ _ _ _ g2 (by rw[FN];simp;omega) (by omega)];rfl
  ·unfold CY;simp only[];have hlen:(XH k d ky f dp lf off zV nd Be (List.replicate S 0) 9).length=S:=by rw[FN];simp
   rw[if_neg (by omega),hM];simp only[Option.bind_some];have t4:dU (Int.tdiv (S:Int) 4)=((S / 4:Nat):Int):=by rcases hS with⟨rfl,_⟩ | ⟨rfl,_⟩ <;> rfl
   have e1:dU (2*((S / 4:Nat):Int))=((S / 2:Nat):Int):=by rw[nN (by omega)];omega
   have e2:dU (3*((S / 4:Nat):Int))=((S / 4*3:Nat):Int):=by rw[nN (by omega)];omega
   rw[show gY (CX gW vw (S:Int)) (XH k d ky f dp lf off zV nd Be (List.replicate S 0) 9,0)=some (enc' k d ky f dp lf off zV nd Be gW vw S,0) from ?_]
   ·rfl
   refine oV (fun i=>((List.range i).foldl (fun(b:L3) (i:Nat)=>b.set (S / 2+i) (gW.getD i 0)) (XH k d ky f dp lf off zV nd Be (List.replicate S 0) 9),(i:Int))) gW.length (fun i hi=>?_) ?_
   ·unfold CX;simp only[];rw[if_pos (by omega),t4,e1,yl hi,at_i _ _ (by omega) (by omega),yl (by rw[cset_len,hlen];omega),qM i (by omega),List.range_succ,List.foldl_append];simp only[Option.bind_some,List.foldl_cons,List.foldl_nil,Int.toNat_natCast,getD_in _ _ hi]
   ·unfold CX;simp only[];rw[if_neg (by omega)];rw[show gY (CW vw (S:Int)) ((List.range gW.length).foldl (fun(b:L3) (i:Nat)=>b.set (S / 2+i) (gW.getD i 0)) (XH k d ky f dp lf off zV nd Be (List.replicate S 0) 9),0)=some (enc' k d ky f dp lf off zV nd Be gW vw S,0) from ?_]
    ·rfl
    have hlen2:(cpy (XH k d ky f dp lf off zV nd Be (List.replicate S 0) 9) (S / 2) gW).length=S:=by rw[Mc _ _ _ (by omega),hlen]
    refine oV (fun i=>((List.range i).foldl (fun(b:L3) (i:Nat)=>b.set (S / 4*3+i) (vw.getD i 0)) (cpy (XH k d ky f dp lf off zV nd Be (List.replicate S 0) 9) (S / 2) gW),(i:Int))) vw.length (fun i hi=>?_) ?_
    ·unfold CW;simp only[];rw[if_pos (by omega),t4,e2,yl hi,at_i _ _ (by omega) (by omega),yl (by rw[cset_len,hlen2];omega),qM i (by omega),List.range_succ,List.foldl_append];simp only[Option.bind_some,List.foldl_cons,List.foldl_nil,Int.toNat_natCast,getD_in _ _ hi]
    ·unfold CW;simp only[];rw[if_neg (by omega)];rfl
theorem UD (h:nX k d ky f dp lf off zV nd Be gW vw=some 0) :
    zC k d ky f dp lf off zV nd Be gW vw=some (encB k d ky f dp lf off zV nd Be gW vw,0)/\wG k d ky f dp lf off zV nd Be gW vw=some (encB k d ky f dp lf off zV nd Be gW vw,0):=by
  obtain⟨r,h1,h2⟩:=check_some k d ky f dp lf off zV nd Be gW vw;rw[h] at h1;obtain rfl:=Option.some.inj h1;obtain⟨rows,r1,r2,r3⟩:=wrows k;rcases h2 rfl with⟨rfl,_,_,_,hs,hp⟩ | ⟨rfl,_,_,_,hs,hp⟩
  ·constructor
   ·unfold zC;rw[TV,h,r1];exact wloop 1 d ky f dp lf off zV nd Be gW vw 64 16 (by omega) 64 hs hp rows r2 r3
   ·unfold wG;rw[h];exact rloop 1 d ky f dp lf off zV nd Be gW vw (by omega) 64 16 (by omega) rfl hs hp
  ·constructor
   ·unfold zC;rw[TV,h,r1];exact wloop 2 d ky f dp lf off zV nd Be gW vw 32 8 (by omega) 32 hs hp rows r2 r3
   ·unfold wG;rw[h];exact rloop 2 d ky f dp lf off zV nd Be gW vw (by omega) 32 8 (by omega) rfl hs hp
theorem W_ (h:(k=1/\gW.length<=16/\vw.length<=16)∨(k=2/\gW.length<=8/\vw.length<=8)):(encB k d ky f dp lf off zV nd Be gW vw).length=if k=1 then 64 else 32:=by
  unfold encB enc';rcases h with⟨rfl,hs,hp⟩ | ⟨rfl,hs,hp⟩
  ·simp only[if_true];rw[Mc _ _ _ (by rw[Mc _ _ _ (by rw[FN];simp;omega),FN];simp;omega),Mc _ _ _ (by rw[FN];simp;omega),FN];simp
  ·simp only[show ¬ ((2:Int)=1) from by omega,if_false];rw[Mc _ _ _ (by rw[Mc _ _ _ (by rw[FN];simp;omega),FN];simp;omega),Mc _ _ _ (by rw[FN];simp;omega),FN];simp
end
end Go.Sx
namespace Go.Sx
open Go.RowKit
set_option linter.unusedVariables false
set_option linter.unusedSimpArgs false
section
variable {σ:Type}
def vW (f:σ->L3->Lf×Lf->σ)(B:Nat)(h:σ)(c:Lf×Lf)(M:L3):σ×(Lf×Lf)×L3 :=
  if hlt:0 < B/\B < M.length then vW f B (f h (M.take B) (Hw c (UInt64.ofNat B))) (Hw c (UInt64.ofNat B)) (M.drop B) else(h,c,M)
termination_by M.length
decreasing_by simp only[List.length_drop];omega
theorem Gl (f:σ->L3->Lf×Lf->σ)(B:Nat)(h:σ)(c:Lf×Lf)(M:L3)(hM:M.length<=B):vW f B h c M=(h,c,M):=by
  rw[vW,dif_neg (by omega)]
theorem UE (f:σ->L3->Lf×Lf->σ)(B:Nat)(h:σ)(c:Lf×Lf)(M:L3)(hB:0 < B)(hM:B < M.length):vW f B h c M=vW f B (f h (M.take B) (Hw c (UInt64.ofNat B))) (Hw c (UInt64.ofNat B)) (M.drop B):=by
  rw[vW,dif_pos ⟨hB,hM⟩]
theorem absorb_end (f:σ->L3->Lf×Lf->σ)(B:Nat)(hB:0 < B):∀ (n:Nat) (h:σ) (c:Lf×Lf) (M:L3),M.length<=n->(vW f B h c M).2.2.length<=B/\(vW f B h c M).2.2=M.drop (M.length - (vW f B h c M).2.2.length)/\(vW f B h c M).2.2.length<=M.length:=by
  intro n
  induction n with
  | zero=>intro h c M hM;rw[Gl f B h c M (by omega)];simp;omega
  | succ n ih =>
    intro h c M hM;by_cases hl:B < M.length
    ·rw[UE f B h c M hB hl];obtain⟨h1,h2,h3⟩:=ih (f h (M.take B) (Hw c (UInt64.ofNat B))) (Hw c (UInt64.ofNat B)) (M.drop B) (by simp only[List.length_drop];omega);refine⟨h1,?_,by simp only[List.length_drop] at h3;omega⟩;rw[List.drop_drop] at h2;simp only[List.length_drop] at h2 h3;rw[show B+(M.length - B - (vW f B (f h (M.take B) (Hw c (UInt64.ofNat B))) (Hw c (UInt64.ofNat B)) (M.drop B)).2.2.length)=M.length - (vW f B (f h (M.take B) (Hw c (UInt64.ofNat B))) (Hw c (UInt64.ofNat B)) (M.drop B)).2.2.length from by omega] at h2;exact h2
    ·rw[Gl f B h c M (by omega)];simp;omega
end
def pad (n:Nat)(xs:L3):L3:=xs++List.replicate (n - xs.length) 0
theorem Qy (n:Nat)(xs:L3)(h:xs.length<=n):(pad n xs).length=n:=by simp[pad];omega
theorem Qz (n:Nat):UInt64.ofInt (n:Int)=UInt64.ofNat n:=by
  rw[<- UInt64.toNat_inj];unfold UInt64.ofInt;simp;omega
theorem wadd (c:Lf×Lf)(n:Lf):∃ o,FP c.1 c.2 n=some ((Hw c n).1,(Hw c n).2,o):=⟨_,add_ok _ _ _⟩
theorem radd' (c:Lf×Lf)(n:Lf):∃ o,Ic c.1 c.2 n=some ((Hw c n).1,(Hw c n).2,o):=⟨_,radd _ _ _⟩
theorem wpad (b:L3)(n:Nat)(hb:b.length<=n)(hn:n<=1000):Di b (n:Int)=some (pad n b):=by
  unfold Di;rw[vT (by omega)];simp only[Option.bind_some];rw[yT (by simp;omega)];simp only[Option.bind_some];have e:dU ((n:Int) - (b.length:Int))=((n - b.length:Nat):Int):=by rw[nN (by omega)];omega
  rw[e];unfold appz;rw[if_pos (by simp;omega)];simp only[Option.bind_some,Int.toNat_natCast];rfl
theorem cut_ok (b:L3)(a n:Nat)(hb:b.length<=33554432)(ha:a<=b.length)(hn:n<=1000):Kr b (a:Int) (n:Int)=some (pad n ((b.drop a).take n)):=by
  unfold Kr;have hz:∀ i,i<=n->(pad n ((b.drop a).take n)).take i=pad i ((b.drop a).take i):=by
    intro i hi;unfold pad;rw[List.take_append,List.take_take,Nat.min_eq_left hi,List.take_replicate];congr 2;simp only[List.length_take,List.length_drop];omega
  have hlen:=Qy n ((b.drop a).take n) (by simp;omega);suffices hsf:gY (GL b (a:Int) (n:Int)) (([]:L3),(0:Int))=some ((pad n ((b.drop a).take n)).take n) by rw[hsf,List.take_of_length_le (by omega)]
  refine oV (fun i=>((pad n ((b.drop a).take n)).take i,(i:Int))) n (fun i hi=>?_) ?_
  ·unfold GL GK JX;have e1:dU ((a:Int)+(i:Int))=((a+i:Nat):Int):=by rw[nN (by omega)];omega
   have hs:(pad n ((b.drop a).take n)).take (i+1)=(pad n ((b.drop a).take n)).take i++[(pad n ((b.drop a).take n))[i]]:=List.take_succ_eq_append_getElem (by omega);simp only[];rw[if_pos (by omega),e1,hs,qM i (by omega)];by_cases hin:a+i < b.length
   ·rw[if_pos (by omega),yl hin];simp only[Option.bind_some];rw[yT (by simp;omega)];simp only[Option.bind_some];have hx:(pad n ((b.drop a).take n))[i]=b[a+i]:=by
      unfold pad;rw[List.getElem_append_left (by simp;omega)];simp
    rw[hx]
   ·rw[if_neg (by omega),yT (by simp;omega)];simp only[Option.bind_some];have hx:(pad n ((b.drop a).take n))[i]=0:=by
      unfold pad;rw[List.getElem_append_right (by simp;omega)];simp
    rw[hx]
  ·unfold GL;simp only[];rw[if_neg (by omega)];rfl
theorem keyed_ok (k:Int)(B:Nat)(hB:DX k=some (B:Int))(hBl:B<=1000)(key:L3)(hk:key.length<=B):FX k key=some (if key=[] then[] else pad B key):=by
  unfold FX;by_cases h0:key=[]
  ·subst h0;rfl
  rw[if_neg (by have:=List.length_pos_iff.2 h0;omega),if_neg h0];have hlen:=Qy B key hk;suffices hsf:gY (DZ k key) (([]:L3),(0:Int))=some ((pad B key).take B) by rw[hsf,List.take_of_length_le (by omega)]
  refine oV (fun i=>((pad B key).take i,(i:Int))) B (fun i hi=>?_) ?_
  ·unfold DZ DY GH;have hs:(pad B key).take (i+1)=(pad B key).take i++[(pad B key)[i]]:=List.take_succ_eq_append_getElem (by omega);simp only[];rw[hB];simp only[Option.bind_some];rw[if_pos (by omega),hs,qM i (by omega)];by_cases hin:i < key.length
   ·rw[if_pos (by omega),yl hin];simp only[Option.bind_some];rw[yT (by simp;omega)];simp only[Option.bind_some];have hx:(pad B key)[i]=key[i]:=by
      unfold pad;rw[List.getElem_append_left (by omega)]
    rw[hx]
   ·rw[if_neg (by omega),yT (by simp;omega)];simp only[Option.bind_some];have hx:(pad B key)[i]=0:=by
      unfold pad;rw[List.getElem_append_right (by omega)];simp
    rw[hx]
  ·unfold DZ;simp only[];rw[hB];simp only[Option.bind_some];rw[if_neg (by omega)];rfl
end Go.Sx
namespace Go.Sx
open Go.RowKit
set_option linter.unusedVariables false
set_option linter.unusedSimpArgs false
structure Half where
  σ:Type
  k:Int
  B:Nat
  S:Nat
  f:σ->L3->Lf×Lf->Bool->Bool->σ
  st:L3->σ
  dig:σ->L3
  emb:σ->Vec Lf 16
  hk:k=1/\B=128/\S=64∨k=2/\B=64/\S=32
  diglen:∀ h,(dig h).length=S
  hin:∀ h b (c:Lf×Lf) last node,b.length=B->KE k (emb h) b c.1 c.2 last node=some (emb (f h b c last node))
  hbytes:∀ h,FY k (emb h)=some (dig h)
  hfirst:∀ (d ky fn dp:Int) (lf:UInt32) (off:Lf) (zV:UInt32) (nd Be:Int) (gW vw key:L3) (last:Bool) (from_:Vec Lf 16) (lo hi:Lf) (msg:L3) (cn:Lf) (blk:L3),wG k d ky fn dp lf off zV nd Be gW vw=some (blk,0)->blk.length=S ->
    zt k d ky fn dp lf off zV nd Be gW vw key last from_ false lo hi msg cn=some (emb (st blk),k,d,ky,fn,dp,lf,off,zV,nd,Be,last,from_,false,lo,hi,msg,cn)
theorem Half.hB (H:Half):DX H.k=some (H.B:Int):=by
  rcases H.hk with⟨h1,h2,_⟩ | ⟨h1,h2,_⟩ <;> rw[h1,h2] <;> rfl
theorem Half.hS (H:Half):D5 H.k=some (H.S:Int):=by
  rcases H.hk with⟨h1,_,h2⟩ | ⟨h1,_,h2⟩ <;> rw[h1,h2] <;> rfl
def TW (h:L5):Vec Lf 16:=⟨h.l++List.replicate 8 0,by simp[h.h]⟩
theorem embB_g (h:L5)(i:Nat)(hi:i < 8):(TW h).g i=h.g i:=by
  have hl:i < h.l.length:=by rw[h.h];exact hi
  simp[Vec.g,TW,List.getD_eq_getElem?_getD,List.getElem?_append_left hl]
theorem embB_in (h r:L5):(List.range 8).foldl (fun v (i:Nat)=>DR v i (r.g i)) (TW h)=TW r:=by
  obtain⟨a,b,c,d,e,f,g,q,rfl⟩:=vec8 (v:=h);obtain⟨a',b',c',d',e',f',g',q',rfl⟩:=vec8 (v:=r);rfl
theorem embB_out (h:L5):(List.range 8).foldl (fun v (i:Nat)=>DR v i ((TW h).g i)) (Vec.rep 8 (0:Lf))=h:=by
  obtain⟨a,b,c,d,e,f,g,q,rfl⟩:=vec8 (v:=h);rfl
theorem embB_0 (r:L5):(List.range 8).foldl (fun v (i:Nat)=>DR v i (r.g i)) (Vec.rep 16 (0:Lf))=TW r:=by
  obtain⟨a',b',c',d',e',f',g',q',rfl⟩:=vec8 (v:=r);rfl
theorem rin1 (h:L5)(b:L3)(c:Lf×Lf)(last node:Bool)(hb:b.length=128):KE 1 (TW h) b c.1 c.2 last node=some (TW (Fb h (Wb b) c.1 c.2 last node)):=by
  unfold KE;rw[if_pos rfl];refine Nw _ 8 (fun v (i:Nat)=>DR v i ((TW h).g i)) _ _ (fun v i hi=>?_) ?_
  ·unfold LM;simp only[];rw[if_pos (by omega),uP _ _ (by omega),uP _ _ hi,qM i (by omega)];rfl
  ·rw[embB_out];unfold LM;simp only[];rw[if_neg (by omega),rWords b hb];simp only[Option.bind_some];rw[rF];simp only[Option.bind_some];rw[show gY (Jb (Fb h (Wb b) c.1 c.2 last node)) (TW h,0)=some (TW (Fb h (Wb b) c.1 c.2 last node)) from ?_]
   ·rfl
   refine Nw _ 8 (fun v (i:Nat)=>DR v i ((Fb h (Wb b) c.1 c.2 last node).g i)) _ _ (fun v i hi=>?_) ?_
   ·unfold Jb;simp only[];rw[if_pos (by omega),uP _ _ hi,uP _ _ (by omega),qM i (by omega)];rfl
   ·rw[embB_in];unfold Jb;simp only[];rw[if_neg (by omega)];rfl
theorem rbytes1 (h:L5):FY 1 (TW h)=some (Byb h):=by
  unfold FY;refine oV (fun i=>((List.range i).foldl (fun b i=>b++st8 8 (h.g i)) [],(i:Int))) 8 (fun i hi=>?_) rfl;unfold KG;simp only[];have hs:=rstore (h.g i) 8 (by omega);rw[if_pos (by omega),uP _ _ (by omega),embB_g h i hi,qM i (by omega)];simp only[Option.bind_some];rw[show D5 1=some 64 from rfl];simp only[Option.bind_some];rw[show dU (Int.tdiv 64 8)=((8:Nat):Int) from rfl,hs];simp only[Option.bind_some];have hq:(List.range (i+1)).foldl (fun b i=>b++st8 8 (h.g i)) []=(List.range i).foldl (fun b i=>b++st8 8 (h.g i)) []++st8 8 (h.g i):=by rw[List.range_succ,List.foldl_append];rfl
  rw[yT (by rw[by_len _ 8 (fun i=>Zt 8 _)];simp;omega),hq];rfl
theorem rfirst1 (d ky fn dp:Int)(lf:UInt32)(off:Lf)(zV:UInt32)(nd Be:Int)(gW vw key:L3)(last:Bool)(from_:Vec Lf 16)(lo hi:Lf)(msg:L3)(cn:Lf)(blk:L3)(he:wG 1 d ky fn dp lf off zV nd Be gW vw=some (blk,0))(hl:blk.length=64) :
    zt 1 d ky fn dp lf off zV nd Be gW vw key last from_ false lo hi msg cn=some (TW (JO blk),1,d,ky,fn,dp,lf,off,zV,nd,Be,last,from_,false,lo,hi,msg,cn):=by
  unfold zt;rw[if_neg (by decide),he];simp only[Option.bind_some];rw[if_pos trivial,rStart blk hl];simp only[Option.bind_some];refine Nw _ 8 (fun v (i:Nat)=>DR v i ((JO blk).g i)) _ _ (fun v i hi=>?_) ?_
  ·unfold Bh;simp only[];rw[if_pos (by omega),uP _ _ hi,uP _ _ (by omega),qM i (by omega)];rfl
  ·rw[embB_0];unfold Bh;simp only[];rw[if_neg (by omega)];rfl
def big:Half:=⟨L5,1,128,64,fun h b c last node=>Fb h (Wb b) c.1 c.2 last node,JO,Byb,TW,.inl ⟨rfl,rfl,rfl⟩,Qx,rin1,rbytes1,rfirst1⟩
end Go.Sx
namespace Go.Sx
open Go.RowKit
set_option linter.unusedVariables false
set_option linter.unusedSimpArgs false
def Half.run (H:Half)(blk M:L3):H.σ×(Lf×Lf)×L3:=vW (fun h b c=>H.f h b c false false) H.B (H.st blk) (0,0) M
def Half.hash (H:Half)(blk M:L3)(last:Bool):L3 :=
  H.dig (H.f (H.run blk M).1 (pad H.B (H.run blk M).2.2) (Hw (H.run blk M).2.1 (UInt64.ofNat (H.run blk M).2.2.length)) true last)
theorem Half.Qe (H:Half)(blk M:L3)(last:Bool):(H.hash blk M last).length=H.S:=H.diglen _
theorem Half.bp (H:Half):0 < H.B/\H.B<=128:=by rcases H.hk with⟨_,h,_⟩ | ⟨_,h,_⟩ <;> omega
section
variable (H:Half)(d ky fn dp:Int)(lf:UInt32)(off:Lf)(zV:UInt32)(nd Be:Int)(gW vw key:L3)(last:Bool)(from_:Vec Lf 16)(msg:L3)(cn:Lf)(blk:L3)
theorem passed_ok (he:wG H.k d ky fn dp lf off zV nd Be gW vw=some (blk,0))(hl:blk.length=H.S)(hm:msg.length<=16000000) :
    Am H.k d ky fn dp lf off zV nd Be gW vw key last from_ false 0 0 msg cn =
      some (H.emb (H.run blk msg).1,(H.run blk msg).2.1.1,(H.run blk msg).2.1.2,((msg.length - (H.run blk msg).2.2.length:Nat):Int),H.k,d,ky,fn,dp,lf,off,zV,nd,Be,last,from_,false,0,0,msg,cn):=by
  have hb:=H.bp;unfold Am;rw[H.hfirst d ky fn dp lf off zV nd Be gW vw key last from_ 0 0 msg cn blk he hl];simp only[Option.bind_some];rw[H.hB];simp only[Option.bind_some];refine Ia (fun i s=>∃ (h:H.σ) (c:Lf×Lf) (a:Nat),s=(H.emb h,c.1,c.2,(a:Int))/\a<=msg.length/\a=i*H.B/\vW (fun h b c=>H.f h b c false false) H.B h c (msg.drop a)=H.run blk msg) _ msg.length _ ⟨H.st blk,(0,0),0,rfl,by omega,by omega,rfl⟩ ?_;rintro i s ⟨h,c,a,rfl,ha,hai,hr⟩;unfold D7;simp only[];have e1:dU ((a:Int)+(H.B:Int))=((a+H.B:Nat):Int):=by rw[nN (by omega)];omega
  rw[e1];by_cases hlt:a+H.B < msg.length
  ·left;have hil:i<=i*H.B:=Nat.le_mul_of_pos_right i hb.1;obtain⟨o,hadd⟩:=radd' c (UInt64.ofNat H.B);refine⟨by omega,(H.emb (H.f h ((msg.drop a).take H.B) (Hw c (UInt64.ofNat H.B)) false false),(Hw c (UInt64.ofNat H.B)).1,(Hw c (UInt64.ofNat H.B)).2,((a+H.B:Nat):Int)),?_,H.f h ((msg.drop a).take H.B) (Hw c (UInt64.ofNat H.B)) false false,Hw c (UInt64.ofNat H.B),a+H.B,rfl,by omega,by rw[hai,Nat.succ_mul],?_⟩
   ·rw[if_pos (by omega),Qz,hadd];simp only[Option.bind_some];rw[cut_ok msg a H.B (by omega) (by omega) (by omega)];simp only[Option.bind_some];have hp:pad H.B ((msg.drop a).take H.B)=(msg.drop a).take H.B:=by
      unfold pad;rw[show H.B - ((msg.drop a).take H.B).length=0 from by simp;omega];simp
    rw[hp,H.hin h _ (Hw c (UInt64.ofNat H.B)) false false (by simp;omega)];rfl
   ·rw[<- hr,UE _ H.B h c (msg.drop a) hb.1 (by simp;omega),List.drop_drop]
  ·right;rw[if_neg (by omega)];have hst:=Gl (fun h b c=>H.f h b c false false) H.B h c (msg.drop a) (by simp;omega);rw[hst] at hr;rw[<- hr];simp only[Option.map_some,Option.some.injEq,Sum.inr.injEq,Prod.mk.injEq,true_and,and_true,List.length_drop];omega
theorem Half.held (H:Half)(blk M:L3):(H.run blk M).2.2.length<=H.B/\(H.run blk M).2.2=M.drop (M.length - (H.run blk M).2.2.length)/\(H.run blk M).2.2.length<=M.length :=
  absorb_end _ H.B H.bp.1 M.length _ _ M (Nat.le_refl _)
theorem rout_ok (he:wG H.k d ky fn dp lf off zV nd Be gW vw=some (blk,0))(hl:blk.length=H.S)(hm:msg.length<=16000000) :
    D8 H.k d ky fn dp lf off zV nd Be gW vw key last from_ false 0 0 msg cn=some (H.hash blk msg last,H.k,d,ky,fn,dp,lf,off,zV,nd,Be,last,from_,false,0,0,msg,cn):=by
  have hb:=H.bp;unfold D8;rw[passed_ok H d ky fn dp lf off zV nd Be gW vw key last from_ msg cn blk he hl hm];simp only[Option.bind_some];obtain⟨h1,h2,h3⟩:=H.held blk msg;have e1:dU ((msg.length:Int) - ((msg.length - (H.run blk msg).2.2.length:Nat):Int))=(((H.run blk msg).2.2.length:Nat):Int):=by rw[nN (by omega)];omega
  obtain⟨o,hadd⟩:=radd' (H.run blk msg).2.1 (UInt64.ofNat (H.run blk msg).2.2.length);rw[e1,Qz,hadd];simp only[Option.bind_some];rw[H.hB];simp only[Option.bind_some];rw[cut_ok msg _ H.B (by omega) (by omega) (by omega),<-h2];simp only[Option.bind_some];rw[List.take_of_length_le h1];rw[H.hin _ _ _ true last (Qy _ _ h1)];simp only[Option.bind_some];rw[H.hbytes];rfl
theorem rwrite_ok (b:L3)(lo hi:Lf)(old:Bool)(hm:msg.length+b.length<=16000000) :
    BC H.k d ky fn dp lf off zV nd Be gW vw key last from_ old lo hi msg cn b=some (H.k,d,ky,fn,dp,lf,off,zV,nd,Be,last,from_,old,lo,hi,msg++b,cn+UInt64.ofInt ((b.length:Nat):Int)):=by
  unfold BC;rw[show((msg,(0:Int)):L3×Int)=(msg++b.take 0,((0:Nat):Int)) from by simp];refine oV (fun i=>(msg++b.take i,(i:Int))) b.length (fun i hi=>?_) ?_
  ·unfold Bg;simp only[];rw[if_pos (by omega),yl hi];simp only[Option.bind_some];rw[yT (by simp;omega),qM i (by omega),List.take_succ_eq_append_getElem hi,List.append_assoc];rfl
  ·unfold Bg;simp only[];rw[if_neg (by omega),List.take_length];rfl
end
def Half.ans (H:Half)(blk M:L3)(last:Bool)(out:Int):L3×Int:=if out < 1∨(H.S:Int) < out then([],1) else((H.hash blk M last).take out.toNat,0)
def Half.kb (H:Half)(key:L3):L3:=if key=[] then[] else pad H.B key
theorem Half.Zu (H:Half)(key:L3)(h:key.length<=H.B):(H.kb key).length<=H.B:=by
  unfold Half.kb;split
  ·simp
  ·rw[Qy _ _ h];exact Nat.le_refl _
theorem rhash_ok (H:Half)(d ky fn dp:Int)(lf:UInt32)(off:Lf)(zV:UInt32)(nd Be:Int)(gW vw key:L3)(last:Bool)(out:Int)(data blk:L3)(hc:nX H.k d ky fn dp lf off zV nd Be gW vw=some 0)(he:wG H.k d ky fn dp lf off zV nd Be gW vw=some (blk,0))(hl:blk.length=H.S)(hkey:key=[]∨(key.length:Int)=ky)(hkl:key.length<=H.B)(hd:data.length<=12000000) :
    D9 H.k d ky fn dp lf off zV nd Be gW vw key last out data=some (H.ans blk (H.kb key++data) last out):=by
  have hb:=H.bp;unfold D9 Qk;rw[hc];simp only[Option.bind_some,ne_eq,not_true_eq_false,if_false];rw[if_neg (by
    simp only[Bool.and_eq_true,decide_eq_true_eq];rintro⟨h1,h2⟩;rcases hkey with rfl | h
    ·exact h1 rfl
    ·exact h2 h)]
  rw[show FX H.k key=some (H.kb key) from keyed_ok H.k H.B H.hB (by omega) key hkl];simp only[Option.bind_some,Sum.elim_inr];unfold Half.ans;by_cases h1:out < 1
  ·rw[if_pos h1,if_pos (.inl h1)]
  rw[if_neg h1,H.hS];simp only[Option.bind_some];by_cases h2:(H.S:Int) < out
  ·rw[if_pos h2,if_pos (.inr h2)]
  rw[if_neg h2,if_neg (by omega)];have hkb:=H.Zu key hkl;rw[rwrite_ok H d ky fn dp lf off zV nd Be gW vw key last (Vec.rep 16 0) (H.kb key) 0 data 0 0 false (by omega)];simp only[Option.bind_some];rw[rout_ok H d ky fn dp lf off zV nd Be gW vw key last _ _ _ blk he hl (by rw[List.length_append];omega)];simp only[Option.bind_some];rw[Kw (by rw[H.Qe];omega)];simp
end Go.Sx
namespace Go.Sx
open Go.RowKit
set_option linter.unusedVariables false
set_option linter.unusedSimpArgs false
def fB (h:L5)(b:L3)(c:Lf×Lf)(last node:Bool):L5:=Fb h (Wb b) c.1 c.2 last node
theorem X8 (h:L5)(b:L3)(c:Lf×Lf)(last node:Bool)(hb:b.length=128):Dj h b c.1 c.2 last node=some (fB h b c last node):=by
  unfold Dj;rw[wWords b hb];simp only[Option.bind_some];rw[wF];rfl
theorem wj0B (b:L3)(h:L5)(lo hi:Lf)(held:L3)(hb:b.length<=12000000)(hh:held.length<=128) :
    qf 128 b h lo hi held=some (.inl (h,lo,hi,held++b.take (min (128 - held.length) b.length),b.drop (min (128 - held.length) b.length))):=by
  unfold qf;have e1:dU ((128:Int) - ((held.length:Nat):Int))=((128 - held.length:Nat):Int):=by rw[nN (by omega)];omega
  have e2:(if dU ((128:Int) - ((held.length:Nat):Int)) < ((b.length:Nat):Int) then dU ((128:Int) - ((held.length:Nat):Int)) else((b.length:Nat):Int))=((min (128 - held.length) b.length:Nat):Int):=by
    rw[e1];split <;> omega
  rw[e2,Kw (by omega)];simp only[Option.bind_some,Int.toNat_natCast,Int.toNat_zero,List.drop_zero];rw[yT (by simp;omega),Kw (by omega)];simp only[Option.bind_some,Int.toNat_natCast];rw[List.take_of_length_le (i:=b.length) (Nat.le_refl _)]
theorem Zv (h:L5)(c:Lf×Lf)(held b:L3)(hb:b.length<=12000000)(hh:held.length<=128) :
    pX h c.1 c.2 held 128 b=some ((vW (fun h b c=>fB h b c false false) 128 h c (held++b)).1,(vW (fun h b c=>fB h b c false false) 128 h c (held++b)).2.1.1,(vW (fun h b c=>fB h b c false false) 128 h c (held++b)).2.1.2,(vW (fun h b c=>fB h b c false false) 128 h c (held++b)).2.2,128):=by
  unfold pX;refine Ia (fun i s=>∃ (h':L5) (c':Lf×Lf) (held' b':L3),s=(h',c'.1,c'.2,held',b')/\held'.length<=128/\b'.length+i<=b.length/\vW (fun h b c=>fB h b c false false) 128 h' c' (held'++b')=vW (fun h b c=>fB h b c false false) 128 h c (held++b)) _ b.length _ ⟨h,c,held,b,rfl,hh,by omega,rfl⟩ ?_;rintro i s ⟨h',c',held',b',rfl,hh',hbl,hr⟩;rw[<- hr];unfold yV;simp only[];by_cases h0:b'.length=0
  ·right;obtain rfl:=List.length_eq_zero_iff.1 h0;rw[if_neg (by simp),List.append_nil,Gl _ _ _ _ _ hh'];rfl
  ·left;refine⟨by omega,?_⟩;rw[if_pos (by omega)];by_cases hf:held'.length=128
   ·rw[if_pos (by omega)];obtain⟨o,hadd⟩:=wadd c' (UInt64.ofNat 128);have e3:UInt64.ofInt 128=UInt64.ofNat 128:=rfl;rw[e3,hadd];simp only[Option.bind_some];rw[X8 h' held' (Hw c' (UInt64.ofNat 128)) false false hf];simp only[Option.bind_some];rw[Kw (by omega)];simp only[Option.bind_some,Int.toNat_zero,List.take_zero,List.drop_nil];rw[wj0B b' _ _ _ [] (by omega) (by simp)];refine⟨_,rfl,_,Hw c' (UInt64.ofNat 128),_,_,rfl,by simp;omega,by simp;omega,?_⟩;rw[UE _ 128 h' c' (held'++b') (by omega) (by simp;omega)];rw[show(held'++b').take 128=held' from by rw[List.take_append_of_le_length (by omega),List.take_of_length_le (by omega)],show(held'++b').drop 128=b' from by rw[<- hf,List.drop_left]];rw[List.nil_append,List.take_append_drop]
   ·rw[if_neg (by omega),wj0B b' _ _ _ held' (by omega) hh'];refine⟨_,rfl,_,c',_,_,rfl,by simp;omega,by simp;omega,?_⟩;rw[List.append_assoc,List.take_append_drop]
theorem woutB (h:L5)(c:Lf×Lf)(held:L3)(node:Bool)(hh:held.length<=128) :
    wC h c.1 c.2 held 128 node=some (Byb (fB h (pad 128 held) (Hw c (UInt64.ofNat held.length)) true node),h,c.1,c.2,held,128):=by
  unfold wC xy;obtain⟨o,hadd⟩:=wadd c (UInt64.ofNat held.length);rw[Qz,hadd];simp only[Option.bind_some];have:=wpad held 128 hh (by omega);rw[show((128:Nat):Int)=128 from rfl] at this;rw[this];simp only[Option.bind_some];rw[X8 h _ (Hw c (UInt64.ofNat held.length)) true node (Qy _ _ hh)];simp only[Option.bind_some];rw[wBytes];rfl
end Go.Sx
namespace Go.Sx
open Go.RowKit
set_option linter.unusedVariables false
set_option linter.unusedSimpArgs false
theorem beginB (d:Int)(blk key:L3)(hl:blk.length=64)(hk:key.length<=128):Aj 1 d blk key false 0=some (1,d,JO blk,0,0,big.kb key,128):=by
  unfold Aj JU;rw[if_pos rfl];rw[wStart blk hl];simp only[Option.bind_some,Sum.elim_inl];unfold Half.kb;by_cases h0:key=[]
  ·subst h0;rfl
  ·rw[if_pos (by have:=List.length_pos_iff.2 h0;omega),if_neg h0];have hp:=wpad key 128 hk (by omega);rw[show((128:Nat):Int)=128 from rfl] at hp;rw[show zD 1=some 128 from rfl];simp only[Option.bind_some];rw[hp];simp only[Option.bind_some];have hlen:=Qy 128 key hk;rw[Zv (JO blk) (0,0) [] (pad 128 key) (by omega) (by simp)];rw[List.nil_append,Gl _ _ _ _ _ (by omega)];rfl
theorem wouB (d:Int)(blk key:L3)(last:Bool)(wr:Lf)(h:L5)(c:Lf×Lf)(held:L3)(hh:held.length<=128)(out:Int):∃ t,lS 1 d blk key last wr h c.1 c.2 held 128 out=some t/\(t.1,t.2.1)=(if out < 1∨(64:Int) < out then([],1) else((Byb (fB h (pad 128 held) (Hw c (UInt64.ofNat held.length)) true last)).take out.toNat,0)):=by
  unfold lS uf;simp only[Option.bind_some];by_cases h1:out < 1
  ·rw[if_pos h1,if_pos (.inl h1)];exact⟨_,rfl,rfl⟩
  rw[if_neg h1,show zD 1=some 128 from rfl];simp only[Option.bind_some];rw[show dU (Int.tdiv 128 2)=(64:Int) from rfl];by_cases h2:(64:Int) < out
  ·rw[if_pos h2,if_pos (.inr h2)];exact⟨_,rfl,rfl⟩
  rw[if_neg h2,if_neg (by omega),woutB h c held last hh];simp only[Option.bind_some];rw[Kw (by rw[Qx];omega)];simp only[Option.bind_some];rw[vT (by rw[Qx];omega)];exact⟨_,rfl,by simp⟩
theorem whashB (d ky fn dp:Int)(lf:UInt32)(off:Lf)(zV:UInt32)(nd Be:Int)(gW vw key:L3)(last:Bool)(out:Int)(data blk:L3)(he:zC 1 d ky fn dp lf off zV nd Be gW vw=some (blk,0))(hl:blk.length=64)(hkey:key=[]∨(key.length:Int)=ky)(hkl:key.length<=128)(hd:data.length<=12000000) :
    DW 1 d ky fn dp lf off zV nd Be gW vw key last out data=some (big.ans blk (big.kb key++data) last out):=by
  unfold DW DU;rw[he];simp only[Option.bind_some,ne_eq,not_true_eq_false,if_false];rw[if_neg (by
    simp only[Bool.and_eq_true,decide_eq_true_eq];rintro⟨h1,h2⟩;rcases hkey with rfl | h
    ·exact h1 rfl
    ·exact h2 h)]
  unfold I4;rw[yT (by simp;omega),yT (by simp;omega)];simp only[Option.bind_some,List.nil_append];rw[beginB d blk key hl hkl];simp only[Option.bind_some,Sum.elim_inl,Sum.elim_inr];have hkb:=big.Zu key hkl;rw[Zv (JO blk) (0,0) (big.kb key) data hd hkb];simp only[Option.bind_some];obtain⟨h1,h2,h3⟩:=big.held blk (big.kb key++data);obtain⟨t,ht1,ht2⟩:=wouB d blk key last 0 (vW (fun h b c=>fB h b c false false) 128 (JO blk) (0,0) (big.kb key++data)).1 (vW (fun h b c=>fB h b c false false) 128 (JO blk) (0,0) (big.kb key++data)).2.1 (vW (fun h b c=>fB h b c false false) 128 (JO blk) (0,0) (big.kb key++data)).2.2 h1 out;rw[ht1];simp only[Option.bind_some,Option.some.injEq];exact ht2
end Go.Sx
namespace Go.Sx
open Go.RowKit
set_option linter.unusedVariables false
set_option linter.unusedSimpArgs false
theorem chkR (kl:Nat)(h:kl<=64):nX 1 64 (kl:Int) 1 1 0 0 4294967295 0 0 [] []=some 0:=by
  unfold nX;rw[show wE 1=some 64 from rfl];simp only[Option.bind_some];rw[if_neg (by omega),show dU (Int.tdiv 64 4)=16 from rfl,if_neg (by decide),if_neg (by simp only[Bool.or_eq_true,decide_eq_true_eq];omega),if_neg (by decide),if_neg (by decide),if_neg (by decide),if_neg (by decide),if_neg (by decide),if_neg (by decide),if_neg (by decide),if_neg (by decide)]
theorem chkP (i:Lf)(h:i.toNat < 4294967296):nX 1 64 0 0 0 64 i 4294967295 0 64 [] []=some 0:=by
  have hi:¬ (4294967295:Lf) < i:=by
    intro hh;have:=UInt64.lt_iff_toNat_lt.1 hh;have e:(4294967295:Lf).toNat=4294967295:=rfl;omega
  unfold nX;rw[show wE 1=some 64 from rfl];simp only[Option.bind_some];rw[if_neg (by omega),show dU (Int.tdiv 64 4)=16 from rfl,if_neg (by decide),if_neg (by decide),if_neg (by decide),if_neg (by decide),if_neg (by simp[hi]),if_neg (by decide),if_neg (by decide),if_neg (by decide),if_neg (by decide),if_neg (by decide)]
theorem ans64 (H:Half)(hS:H.S=64)(blk M:L3):(H.ans blk M false 64).1.length=64:=by
  unfold Half.ans;rw[if_neg (by omega)];have:=H.Qe blk M false;simp only[List.length_take];omega
theorem w64u (n:Nat)(h:n < 9223372036854775808):dU (n:Int)=(n:Int):=by
  rw[nN] <;> omega
theorem piece_ok (root:L3)(hr:root.length<=64)(i:Lf)(h:i.toNat < 4294967296):∃ b,b.length=64/\sF [] [] root i=some b:=by
  have e64:(64:Lf).toNat=64:=rfl;have eT:(274877906944:Lf).toNat=274877906944:=rfl;have hm:(i*64).toNat=i.toNat*64:=by rw[UInt64.toNat_mul,e64];omega
  have hs:((274877906944:Lf) - i*64).toNat=274877906944 - i.toNat*64:=by
    rw[UInt64.toNat_sub_of_le _ _ (UInt64.le_iff_toNat_le.2 (by rw[hm,eT];omega)),hm,eT]
  have hn:¬ ((274877906944:Lf) - i*64) < 64:=by
    intro hh;have:=UInt64.lt_iff_toNat_lt.1 hh;rw[hs,e64] at this;omega
  unfold sF;rw[if_neg hn];unfold uj;obtain⟨he1,_⟩:=UD 1 64 0 0 0 64 i 4294967295 0 64 [] [] (chkP i h);rw[whashB 64 0 0 0 64 i 4294967295 0 64 [] [] [] false 64 root _ he1 (by rw[W_ _ _ _ _ _ _ _ _ _ _ _ _ (.inl ⟨rfl,by simp,by simp⟩)];rfl) (.inl rfl) (by simp) (by omega)];exact⟨_,ans64 big rfl _ _,rfl⟩
noncomputable def pcs (root:L3)(i:Lf):L3:=(sF [] [] root i).getD []
theorem pcs_ok (root:L3)(hr:root.length<=64)(i:Lf)(h:i.toNat < 4294967296):(pcs root i).length=64/\sF [] [] root i=some (pcs root i):=by
  obtain⟨b,h1,h2⟩:=piece_ok root hr i h;unfold pcs;rw[h2];exact⟨h1,rfl⟩
theorem nout (d:Int)(blk key:L3)(last:Bool)(wr:Lf)(h:L5)(lo hi:Lf)(held:L3)(hh:held.length<=128) :
    lS 1 d blk key last wr h lo hi held 128 64=some (Byb (fB h (pad 128 held) (Hw (lo,hi) (UInt64.ofNat held.length)) true last),0,h,lo,hi,held,128,1,d,last,wr):=by
  unfold lS uf;simp only[Option.bind_some];rw[if_neg (by omega),show zD 1=some 128 from rfl];simp only[Option.bind_some];rw[show dU (Int.tdiv 128 2)=(64:Int) from rfl,if_neg (by omega),woutB h (lo,hi) held last hh];simp only[Option.bind_some];rw[Kw (by rw[Qx];omega)];simp only[Option.bind_some];rw[vT (by rw[Qx];omega)];simp only[Option.bind_some];rw[show(64:Int).toNat=(Byb (fB h (pad 128 held) (Hw (lo,hi) (UInt64.ofNat held.length)) true last)).length from by rw[Qx];rfl];simp
end Go.Sx
namespace Go.Sx
open Go.RowKit
set_option linter.unusedVariables false
set_option linter.unusedSimpArgs false
noncomputable def rdw (root:L3)(at_:Lf):L3:=((pcs root (at_ / 64)).take (at_.toNat % 64+8)).drop (at_.toNat % 64)
def Okn (root:L3)(now:L7)(hv:Int):Prop:=hv=-1∨∃ i:Lf,i.toNat < 4294967296/\hv=(i.toNat:Int)/\now.l=pcs root i
theorem okn_new (root:L3)(now:L7):Okn root now (-1):=.inl rfl
theorem RY (at_:Lf):(at_ / 64).toNat=at_.toNat / 64:=by rw[UInt64.toNat_div];rfl
theorem at_mod (at_:Lf):(at_ % 64).toNat=at_.toNat % 64:=by rw[UInt64.toNat_mod];rfl
theorem Xa (x:L7)(ys:L3)(h:ys.length=64):(Vf x 0 64 ys).l=ys:=by
  unfold Vf;rw[dif_pos (by omega)];show lcp x.l 0 64 ys=ys;unfold lcp;have:=x.h;simp only[List.take_zero,List.nil_append,Nat.zero_add];rw[List.take_of_length_le (by omega),List.drop_eq_nil_of_le (by omega),List.append_nil]
section
variable (root:L3)(hr:root.length<=64)(at_:Lf)(h8:at_.toNat % 8=0)(hat:at_.toNat+8<=274877906944)
include h8 hat hr
theorem Zw:(rdw root at_).length=8:=by
  have:=(pcs_ok root hr (at_ / 64) (by rw[RY];omega)).1;unfold rdw;simp only[List.length_drop,List.length_take];omega
theorem rj1a:(if dU (64 - (dU ((at_ % 64).toNat:Int))) < dU (8 - ((([]:L3).length:Nat):Int)) then dU (64 - (dU ((at_ % 64).toNat:Int))) else dU (8 - ((([]:L3).length:Nat):Int)))=8:=by
  have hm:=at_mod at_;have hp:=And.intro hr hat;have e1:dU ((at_ % 64).toNat:Int)=((at_.toNat % 64:Nat):Int):=by rw[hm,w64u _ (by omega)]
  have e2:dU (8 - ((([]:L3).length:Nat):Int))=8:=rfl;have e3:dU (64 - ((at_.toNat % 64:Nat):Int))=64 - ((at_.toNat % 64:Nat):Int):=by rw[nN];omega
  rw[e1,e2,e3,if_neg (by omega)]
theorem rj1b (x:L7)(hx:x.l=pcs root (at_ / 64)):Ve x.l (dU ((at_ % 64).toNat:Int)) (dU ((dU ((at_ % 64).toNat:Int))+8))=some (rdw root at_):=by
  have hm:=at_mod at_;have hp:=(pcs_ok root hr (at_ / 64) (by rw[RY];omega)).1;have e1:dU ((at_ % 64).toNat:Int)=((at_.toNat % 64:Nat):Int):=by rw[hm,w64u _ (by omega)]
  rw[e1,nN (n:=((at_.toNat % 64:Nat):Int)+8) (by omega),Kw (by rw[hx,hp];omega),hx];rfl
theorem readK (h:L5)(lo hi:Lf)(held:L3)(bl kd d:Int)(blk key:L3)(last:Bool)(wr:Lf)(now:L7)(hv:Int)(ho:Okn root now hv) :
    ∃ now' hv',Okn root now' hv'/\uk [] [] (h,lo,hi,held,bl,kd,d,last,wr,root,at_,now,hv) 8=some (rdw root at_,0,h,lo,hi,held,bl,kd,d,last,wr,root,at_+8,now',hv'):=by
  have hp:=pcs_ok root hr (at_ / 64) (by rw[RY];omega);have hl:=Zw root hr at_ h8 hat;have ew:dU ((at_ / 64).toNat:Int)=((at_ / 64).toNat:Int):=w64u _ (by rw[RY];omega);have key:∃ now' hv',Okn root now' hv'/\wM [] [] (h,lo,hi,held,bl,kd,d,last,wr,root,at_,now,hv) 8 (at_,now,hv,[])=some (.inl (at_+8,now',hv',rdw root at_)):=by
    unfold wM wL;simp only[];rw[if_pos (by decide),rj1a root hr at_ h8 hat];by_cases hne:hv=dU ((at_ / 64).toNat:Int)
    ·rw[if_neg (by simpa using hne)];rcases ho with hm | ⟨i,hi1,hi2,hi3⟩
     ·rw[hm,ew] at hne;omega
     ·have hii:i=at_ / 64:=by
        rw[hi2,ew] at hne;exact UInt64.toNat_inj.1 (by omega)
      subst hii;rw[rj1b root hr at_ h8 hat now hi3];simp only[Option.bind_some];rw[yT (by simp only[List.length_nil];omega)];exact⟨now,hv,.inr ⟨_,hi1,hi2,hi3⟩,rfl⟩
    ·rw[if_pos hne,hp.2];simp only[Option.bind_some];rw[rj1b root hr at_ h8 hat _ (Xa now _ hp.1)];simp only[Option.bind_some];rw[yT (by simp only[List.length_nil];omega)];exact⟨_,_,.inr ⟨at_ / 64,by rw[RY];omega,ew,Xa now _ hp.1⟩,rfl⟩
  obtain⟨now',hv',ho',hs⟩:=key;refine⟨now',hv',ho',?_⟩;unfold uk;refine oV (fun i=>if i=0 then(at_,now,hv,[]) else(at_+8,now',hv',rdw root at_)) 1 (fun i hi=>?_) ?_
  ·obtain rfl:i=0:=by omega
   exact hs
  ·rw[if_neg (by decide)];unfold wM;simp only[];rw[if_neg (by rw[hl];decide)];rfl
end
end Go.Sx
namespace Go.Sx
open Go.RowKit
set_option linter.unusedVariables false
set_option linter.unusedSimpArgs false
theorem nz:¬ ((0:Int)≠0):=by decide
theorem Xb (at_:Lf)(h:at_.toNat<=274877906944):((274877906944:Lf) - at_).toNat=274877906944 - at_.toNat:=by
  rw[UInt64.toNat_sub_of_le _ _ (UInt64.le_iff_toNat_le.2 h)];rfl
theorem left_ne (at_:Lf)(h:at_.toNat+8<=274877906944):¬ ((274877906944:Lf) - at_)=0:=by
  intro e;have:=congrArg UInt64.toNat e;rw[Xb at_ (by omega)] at this;have e0:(0:Lf).toNat=0:=rfl;omega
theorem left_ge (at_:Lf)(h:at_.toNat+8<=274877906944):¬ ((274877906944:Lf) - at_) < 8:=by
  intro e;have:=UInt64.lt_iff_toNat_lt.1 e;rw[Xb at_ (by omega)] at this;have e0:(8:Lf).toNat=8:=rfl;omega
def NW:Nat:=34359738368
def av (m:Nat):Lf:=UInt64.ofNat (8*m)
theorem Zx {m:Nat}(h:m<=NW):(av m).toNat=8*m:=by
  unfold NW at h;unfold av;rw[UInt64.toNat_ofNat'];omega
theorem av_s {m:Nat}(h:m < NW):av m+8=av (m+1):=by
  apply UInt64.toNat_inj.1;rw[UInt64.toNat_add,Zx (Nat.le_of_lt h),Zx (by omega:m+1<=NW)];have e:(8:Lf).toNat=8:=rfl;unfold NW at h;omega
def GS (R:L3)(m:Nat)(r:L3)(nw:L7)(hv:Int):Prop:=(r=R∨r=[]/\m=0)/\Okn R nw hv/\m<=NW
noncomputable def OU (R:L3)(m:Nat):Lf:=XG (rdw R (av m)) 0
section
variable (R:L3)(hR:R.length=64)(d:Int)(blk nk:L3)(last:Bool)(wr:Lf)(h:L5)(lo hi:Lf)(held:L3)(hh:held.length<=128)
  (hn:lS 1 d blk nk last wr h lo hi held 128 64=some (R,0,h,lo,hi,held,128,1,d,last,wr))
  (seed key:L3)
include hh in
theorem cloneK:uZ h lo hi held 128=some (h,lo,hi,held,128,h,lo,hi,held,128):=by
  unfold uZ;rw[vT (by decide)];rw[Option.bind_some];rw[show Int.toNat (0:Int)=0 from rfl,List.replicate_zero,yT (by simp only[List.length_nil];omega)];rfl
include hh in
theorem copyK (r:L3)(at_:Lf)(nw:L7)(hv:Int):sD key [] [] 1 d blk nk last wr h lo hi held 128 r at_ nw hv=some (1,d,last,wr,h,lo,hi,held,128,r,at_,nw,hv,h,lo,hi,held,128,1,d,last,wr,r,at_,nw,hv):=by
  unfold sD pI;rw[Option.bind_some];dsimp only;unfold Ey uf;rw[Option.bind_some,cloneK h lo hi held hh,Option.bind_some,Option.bind_some];dsimp only;unfold IC BD;rw[ite_self,Option.bind_some]
include hn hR in
theorem giveK (r:L3)(hr:r=R∨r=[])(at_:Lf)(nw:L7)(hv:Int):wX key [] [] 1 d blk nk last wr h lo hi held 128 r at_ nw hv=some (h,lo,hi,held,128,1,d,last,wr,R,at_,nw,hv):=by
  unfold wX;rcases hr with rfl | rfl
  ·rw[if_neg (by intro e;rw[e] at hR;cases hR)]
  ·rw[if_pos rfl,hn,Option.bind_some];rw[vT (by intro e;dsimp only at e;rw[e] at hR;cases hR),Option.bind_some]
include hn hR in
theorem sreadK {m:Nat}{r:L3}{nw:L7}{hv:Int}(g:GS R m r nw hv)(hm:m < NW):∃ uH hv',GS R (m+1) R uH hv'/\uK key [] [] 1 d blk nk last wr h lo hi held 128 r (av m) nw hv=some (rdw R (av m),0,h,lo,hi,held,128,1,d,last,wr,R,av (m+1),uH,hv'):=by
  obtain⟨g1,g2,g3⟩:=g;have ha:=Zx g3;have hat:(av m).toNat+8<=274877906944:=by unfold NW at hm;omega
  obtain⟨uH,hv',ho',hs⟩:=readK R (by omega) (av m) (by omega) hat h lo hi held 128 1 d blk nk last wr nw hv g2;refine⟨uH,hv',⟨.inl rfl,ho',hm⟩,?_⟩;unfold uK pI;rw[Option.bind_some];dsimp only;rw[giveK R hR d blk nk last wr h lo hi held hn key r (g1.imp id And.left) (av m) nw hv];rw[Option.bind_some];dsimp only;rw[if_neg (left_ne _ hat),if_neg (left_ge _ hat),hs,av_s hm]
include hn hR in
theorem sendK {r:L3}{nw:L7}{hv:Int}(g:GS R NW r nw hv):uK key [] [] 1 d blk nk last wr h lo hi held 128 r (av NW) nw hv=some ([],70,h,lo,hi,held,128,1,d,last,wr,R,av NW,nw,hv):=by
  unfold uK pI;rw[Option.bind_some];dsimp only;rw[giveK R hR d blk nk last wr h lo hi held hn key r (g.1.imp id And.left) (av NW) nw hv];rw[Option.bind_some];dsimp only;rw[if_pos (by decide)]
include hR in
theorem loadK {m:Nat}(hm:m < NW):xU (rdw R (av m)) 0=some (OU R m,0):=by
  have ha:=Zx (Nat.le_of_lt hm);have hl:=Zw R (by omega) (av m) (by omega) (by unfold NW at hm;omega);exact wload8 (rdw R (av m)) 0 (by omega) (by omega)
include hn hR in
theorem drawK {m:Nat}{r:L3}{nw:L7}{hv:Int}(g:GS R m r nw hv)(hm:m < NW)(why:Int):∃ uH hv',GS R (m+1) R uH hv'/\mi seed key [] [] 1 d blk nk last wr h lo hi held 128 r (av m) nw hv why=some (OU R m,1,d,last,wr,h,lo,hi,held,128,R,av (m+1),uH,hv',why):=by
  obtain⟨uH,hv',g',hs⟩:=sreadK R hR d blk nk last wr h lo hi held hn key g hm;refine⟨uH,hv',g',?_⟩;unfold mi;rw[hs,Option.bind_some];dsimp only;rw[if_neg nz,loadK R hR hm,Option.bind_some]
include hn hR in
theorem drawE {r:L3}{nw:L7}{hv:Int}(g:GS R NW r nw hv)(why:Int):GS R NW R nw hv/\mi seed key [] [] 1 d blk nk last wr h lo hi held 128 r (av NW) nw hv why=some (0,1,d,last,wr,h,lo,hi,held,128,R,av NW,nw,hv,6):=by
  refine⟨⟨.inl rfl,g.2⟩,?_⟩;unfold mi;rw[sendK R hR d blk nk last wr h lo hi held hn key g,Option.bind_some];dsimp only;rw[if_pos (by decide)]
end
end Go.Sx
namespace Go.Sx
open Go.RowKit
set_option linter.unusedVariables false
set_option linter.unusedSimpArgs false
noncomputable def lenB (i:Nat):Bool:=match xe (UInt64.ofNat i) 0 with
  | some c=>decide (1<=c/\c<=8/\2 ^ (c.toNat - 1)<=i/\i < 2 ^ c.toNat)
  | none=>false
theorem lenAll:(List.range 256).all (fun i=>i == 0||lenB i)=true:=by kernel_rfl
theorem lenTab (n:Lf)(h1:0 < n.toNat)(h2:n.toNat < 256):∃ c:Nat,1<=c/\c<=8/\2 ^ (c - 1)<=n.toNat/\n.toNat < 2 ^ c/\xe n 0=some (c:Int):=by
  have h:=List.all_eq_true.1 lenAll n.toNat (List.mem_range.2 h2);rw[Bool.or_eq_true,beq_iff_eq] at h;have h:=h.resolve_left (by omega);unfold lenB at h;rw[UInt64.ofNat_toNat] at h;split at h
  ·rename_i c hc;obtain⟨q1,q2,q3,q4⟩:=of_decide_eq_true h;refine⟨c.toNat,by omega,by omega,q3,q4,?_⟩;rw[hc];congr 1;omega
  ·cases h
theorem Zy (x:Lf)(s:Nat)(h:x.toNat*2 ^ s < 18446744073709551616):(gQ x s).toNat=x.toNat*2 ^ s:=by
  show(x.toBitVec <<< s).toNat=_;rw[BitVec.toNat_shiftLeft,Nat.shiftLeft_eq];exact Nat.mod_eq_of_lt h
theorem QA (x:Lf)(s:Nat):(iQ x s).toNat=x.toNat / 2 ^ s:=by
  show(x.toBitVec >>> s).toNat=_;rw[BitVec.toNat_ushiftRight,Nat.shiftRight_eq_div_pow];rfl
section
variable (hi lo y:Lf)(r:Int)(hy:0 < (iQ (gQ y ((UInt64.ofInt r).toNat)) ((32:Lf).toNat)).toNat)(hy2:(iQ (gQ y ((UInt64.ofInt r).toNat)) ((32:Lf).toNat)).toNat < 4294967296)
include hy hy2
end
end Go.Sx
namespace Go.Sx
open Go.RowKit
set_option linter.unusedVariables false
set_option linter.unusedSimpArgs false
theorem len8 (n:Lf)(a:Int)(ha:0<=a/\a<=56)(h1:0 < n.toNat)(h2:n.toNat < 256):∃ c:Nat,1<=c/\c<=8/\2 ^ (c - 1)<=n.toNat/\n.toNat < 2 ^ c/\xe n a=some (a+(c:Int)):=by
  obtain⟨c,q1,q2,q3,q4,q5⟩:=lenTab n h1 h2;refine⟨c,q1,q2,q3,q4,?_⟩;unfold xe at q5 ⊢;rw[Option.bind_eq_some_iff] at q5;obtain⟨t,ht,he⟩:=q5;rw[ht,Option.bind_some];simp only[Option.some.injEq] at he ⊢;have htl:=t.toNat_lt;rw[nN (by omega)] at he;rw[nN (by omega)];omega
theorem len16 (n:Lf)(a:Int)(ha:0<=a/\a<=48)(h1:0 < n.toNat)(h2:n.toNat < 65536):∃ c:Nat,1<=c/\c<=16/\2 ^ (c - 1)<=n.toNat/\n.toNat < 2 ^ c/\zZ n a=some (a+(c:Int)):=by
  unfold zZ;by_cases h:(256:Lf)<=n
  ·have h3:=UInt64.le_iff_toNat_le.1 h;have e1:(256:Lf).toNat=256:=rfl;rw[if_pos h,nN (by omega)];have hs:(iQ n ((8:Lf).toNat)).toNat=n.toNat / 2 ^ 8:=QA n 8;obtain⟨c,q1,q2,q3,q4,q5⟩:=len8 (iQ n ((8:Lf).toNat)) (a+8) (by omega) (by rw[hs];omega) (by rw[hs];omega);refine⟨c+8,by omega,by omega,?_,?_,by rw[q5];congr 1;omega⟩
   ·rw[hs] at q3;rw[show c+8 - 1=c - 1+8 from by omega,Nat.pow_add];exact(Nat.le_div_iff_mul_le (by decide)).1 q3
   ·rw[hs] at q4;rw[Nat.pow_add];exact(Nat.div_lt_iff_lt_mul (by decide)).1 q4
  ·have h3:¬ 256<=n.toNat:=fun e=>h (UInt64.le_iff_toNat_le.2 e);rw[if_neg h];obtain⟨c,q1,q2,q3,q4,q5⟩:=len8 n a (by omega) h1 (by omega);exact⟨c,q1,by omega,q3,q4,q5⟩
theorem len32 (n:Lf)(a:Int)(ha:0<=a/\a<=32)(h1:0 < n.toNat)(h2:n.toNat < 4294967296):∃ c:Nat,1<=c/\c<=32/\2 ^ (c - 1)<=n.toNat/\n.toNat < 2 ^ c/\Aa n a=some (a+(c:Int)):=by
  unfold Aa;by_cases h:(65536:Lf)<=n
  ·have h3:=UInt64.le_iff_toNat_le.1 h;have e1:(65536:Lf).toNat=65536:=rfl;rw[if_pos h,nN (by omega)];have hs:(iQ n ((16:Lf).toNat)).toNat=n.toNat / 2 ^ 16:=QA n 16;obtain⟨c,q1,q2,q3,q4,q5⟩:=len16 (iQ n ((16:Lf).toNat)) (a+16) (by omega) (by rw[hs];omega) (by rw[hs];omega);refine⟨c+16,by omega,by omega,?_,?_,by rw[q5];congr 1;omega⟩
   ·rw[hs] at q3;rw[show c+16 - 1=c - 1+16 from by omega,Nat.pow_add];exact(Nat.le_div_iff_mul_le (by decide)).1 q3
   ·rw[hs] at q4;rw[Nat.pow_add];exact(Nat.div_lt_iff_lt_mul (by decide)).1 q4
  ·have h3:¬ 65536<=n.toNat:=fun e=>h (UInt64.le_iff_toNat_le.2 e);rw[if_neg h];obtain⟨c,q1,q2,q3,q4,q5⟩:=len16 n a (by omega) h1 (by omega);exact⟨c,q1,by omega,q3,q4,q5⟩
theorem lenG (n:Lf)(h1:0 < n.toNat):∃ c:Nat,1<=c/\c<=64/\2 ^ (c - 1)<=n.toNat/\n.toNat < 2 ^ c/\xE n=some ((64 - c:Nat):Int):=by
  have hn:=n.toNat_lt;have key:∃ c:Nat,1<=c/\c<=64/\2 ^ (c - 1)<=n.toNat/\n.toNat < 2 ^ c/\GX n=some (c:Int):=by
    unfold GX;by_cases h:(4294967296:Lf)<=n
    ·have h3:=UInt64.le_iff_toNat_le.1 h;have e1:(4294967296:Lf).toNat=4294967296:=rfl;rw[if_pos h];have hs:(iQ n ((32:Lf).toNat)).toNat=n.toNat / 2 ^ 32:=QA n 32;obtain⟨c,q1,q2,q3,q4,q5⟩:=len32 (iQ n ((32:Lf).toNat)) 32 (by omega) (by rw[hs];omega) (by rw[hs];omega);refine⟨c+32,by omega,by omega,?_,?_,by rw[q5];congr 1;omega⟩
     ·rw[hs] at q3;rw[show c+32 - 1=c - 1+32 from by omega,Nat.pow_add];exact(Nat.le_div_iff_mul_le (by decide)).1 q3
     ·rw[hs] at q4;rw[Nat.pow_add];exact(Nat.div_lt_iff_lt_mul (by decide)).1 q4
    ·have h3:¬ 4294967296<=n.toNat:=fun e=>h (UInt64.le_iff_toNat_le.2 e);rw[if_neg h];obtain⟨c,q1,q2,q3,q4,q5⟩:=len32 n 0 (by omega) h1 (by omega);exact⟨c,q1,by omega,q3,q4,by rw[q5];congr 1;omega⟩
  obtain⟨c,q1,q2,q3,q4,q5⟩:=key;refine⟨c,q1,q2,q3,q4,?_⟩;unfold xE;rw[q5,Option.bind_some,nN (by omega)];congr 1;omega
end Go.Sx
namespace Go.Sx
open Go.RowKit
set_option linter.unusedVariables false
set_option linter.unusedSimpArgs false
theorem dig_hi {v y1 y0 u2 u1 q r b:Nat}(hv:v=y1*b+y0)(hqr:q*y1+r=u2)(hu1:u1 < b)(hu:u2 < v)(hc:b<=q∨b*r+u1 < q*y0):(u2*b+u1) / v < q:=by
  have hv0:0 < v:=by omega
  rw[Nat.div_lt_iff_lt_mul hv0];rcases hc with h | h
  ·have h1:(u2+1)*b<=v*b:=Nat.mul_le_mul_right _ hu;have h2:b*v<=q*v:=Nat.mul_le_mul_right _ h;rw[Nat.add_mul,Nat.one_mul] at h1;rw[Nat.mul_comm v b] at h1;omega
  ·have e:q*v=q*y1*b+q*y0:=by rw[hv,Nat.mul_add,Nat.mul_assoc]
   have e2:u2*b=q*y1*b+r*b:=by rw[<- hqr,Nat.add_mul]
   rw[e,e2,Nat.mul_comm r b];omega
theorem dig_lo {v y1 y0 u2 u1 q r b:Nat}(hv:v=y1*b+y0)(hqr:q*y1+r=u2)(hv0:0 < v)(hc:q*y0<=b*r+u1):q<=(u2*b+u1) / v:=by
  rw[Nat.le_div_iff_mul_le hv0];have e:q*v=q*y1*b+q*y0:=by rw[hv,Nat.mul_add,Nat.mul_assoc]
  have e2:u2*b=q*y1*b+r*b:=by rw[<- hqr,Nat.add_mul]
  rw[e,e2,Nat.mul_comm r b];omega
theorem dig_end {q y0 r b u1:Nat}(h1:q<=b)(h2:y0<=b)(h3:b<=r):q*y0<=b*r+u1 :=
  Nat.le_trans (Nat.mul_le_mul h1 (Nat.le_trans h2 h3)) (Nat.le_add_right _ _)
theorem OH {σ ρ:Type}{f:σ->Option (σ⊕ρ)}{s:σ}(h:f s=none):gY f s=none:=by
  cases h2:gY f s with
  | none=>rfl
  | some r =>
    obtain⟨k,hk⟩:=IQ.1 h2;cases k <;> simp[runK,h] at hk
section
variable (hi lo y:Lf)(r:Int)(Y1 Y0 U1 U0:Lf)
  (hY1:iQ (gQ y ((UInt64.ofInt r).toNat)) ((32:Lf).toNat)=Y1) (hY0:gQ y ((UInt64.ofInt r).toNat)&&&4294967295=Y0)
  (hU1:iQ (gQ lo ((UInt64.ofInt r).toNat)) ((32:Lf).toNat)=U1) (hU0:gQ lo ((UInt64.ofInt r).toNat)&&&4294967295=U0)
  (b1:Y1.toNat < 4294967296) (b2:0 < Y1.toNat) (b3:Y0.toNat < 4294967296) (b4:U1.toNat < 4294967296) (b5:U0.toNat < 4294967296)
theorem digC {q rh Y U:Lf}(hY:Y.toNat < 4294967296)(hU:U.toNat < 4294967296)(hq:q.toNat<=4294967297)(hr:rh.toNat < 4294967296) :
    (((decide ((4294967296:Lf)<=q))||(decide ((((4294967296:Lf)*rh)+U) < (q*Y))))=true) ↔ (4294967296<=q.toNat∨4294967296*rh.toNat+U.toNat < q.toNat*Y.toNat):=by
  have e:(4294967296:Lf).toNat=4294967296:=rfl;have e1:(q*Y).toNat=q.toNat*Y.toNat:=by
    rw[UInt64.toNat_mul];have:q.toNat*Y.toNat<=4294967297*4294967295:=Nat.mul_le_mul hq (by omega);omega
  have e2:((4294967296:Lf)*rh+U).toNat=4294967296*rh.toNat+U.toNat:=by
    rw[UInt64.toNat_add,UInt64.toNat_mul,e];omega
  rw[Bool.or_eq_true,decide_eq_true_eq,decide_eq_true_eq,UInt64.le_iff_toNat_le,UInt64.lt_iff_toNat_lt,e,e1,e2]
theorem u_pred {q:Lf}(h:0 < q.toNat):(q - 1).toNat=q.toNat - 1:=by
  rw[UInt64.toNat_sub_of_le _ _ (UInt64.le_iff_toNat_le.2 (show(1:Lf).toNat<=q.toNat from h))];rfl
include hY1 hY0 hU1 b1 b2 b3 b4 in
theorem dv0 {v u2 Q:Nat}(hv:v=Y1.toNat*4294967296+Y0.toNat)(hu:u2 < v)(hQ:(u2*4294967296+U1.toNat) / v=Q):∀ (k:Nat) (q rh:Lf),4294967296<=rh.toNat+k->rh.toNat < 4294967296->q.toNat*Y1.toNat+rh.toNat=u2->q.toNat<=4294967297->Q<=q.toNat ->
    gY (xk hi lo y r) (q,rh)=tZ hi lo y r (UInt64.ofNat Q):=by
  intro k;have hv0:0 < v:=by omega
  have e:(4294967296:Lf).toNat=4294967296:=rfl
  induction k with
  | zero=>intro q rh h1 h2;omega
  | succ k ih =>
    intro q rh h1 h2 h3 h4 h5;have hs:(rh+Y1).toNat=rh.toNat+Y1.toNat:=by rw[UInt64.toNat_add];omega
    by_cases hc:4294967296<=q.toNat∨4294967296*rh.toNat+U1.toNat < q.toNat*Y0.toNat
    ·have hlt:=dig_hi hv h3 b4 hu hc;rw[hQ] at hlt;have hp:(q - 1).toNat=q.toNat - 1:=u_pred (by omega);have h3':(q - 1).toNat*Y1.toNat+(rh+Y1).toNat=u2:=by
       rw[hp,hs];have:q.toNat*Y1.toNat=(q.toNat - 1)*Y1.toNat+Y1.toNat:=by
         rw[<- Nat.succ_mul];congr 1;omega
       omega
     by_cases hd:(4294967296:Lf)<=rh+Y1
     ·have hd':=UInt64.le_iff_toNat_le.1 hd;have hle:=dig_lo (u1:=U1.toNat) hv h3' hv0 (dig_end (by omega) (by omega) (by omega:4294967296<=(rh+Y1).toNat));rw[hQ] at hle;have hq:UInt64.ofNat Q=q - 1:=by
        apply UInt64.toNat_inj.1;rw[UInt64.toNat_ofNat'];omega
      rw[hq];have hf:xk hi lo y r (q,rh)=Option.map Sum.inr (tZ hi lo y r (q - 1)):=by
        unfold xk;simp only[hY1,hY0,hU1];rw[if_pos ((digC b3 b4 h4 h2).2 hc),if_pos hd]
      cases hj:tZ hi lo y r (q - 1) with
      | none=>exact OH (by rw[hf,hj];rfl)
      | some z=>exact mV (by rw[hf,hj];rfl)
     ·have hlt2:¬ 4294967296<=(rh+Y1).toNat:=fun h=>hd (UInt64.le_iff_toNat_le.2 h);rw[ry (s':=(q - 1,rh+Y1)) (by
        unfold xk;simp only[hY1,hY0,hU1];rw[if_pos ((digC b3 b4 h4 h2).2 hc),if_neg hd])]
      exact ih (q - 1) (rh+Y1) (by omega) (by omega) h3' (by omega) (by omega)
    ·have hle:=dig_lo (u1:=U1.toNat) hv h3 hv0 (Nat.le_of_not_lt fun h=>hc (.inr h));rw[hQ] at hle;have hq:UInt64.ofNat Q=q:=by
       apply UInt64.toNat_inj.1;rw[UInt64.toNat_ofNat'];omega
     rw[hq];have hf:xk hi lo y r (q,rh)=Option.map Sum.inr (tZ hi lo y r q):=by
       unfold xk;simp only[hY1,hY0,hU1];rw[if_neg fun h=>hc ((digC b3 b4 h4 h2).1 h)]
     cases hj:tZ hi lo y r q with
     | none=>exact OH (by rw[hf,hj];rfl)
     | some z=>exact mV (by rw[hf,hj];rfl)
include hY1 hY0 hU0 b1 b2 b3 b5 in
theorem dv1 (q1:Lf){v u2 Q:Nat}(hv:v=Y1.toNat*4294967296+Y0.toNat)(hu:u2 < v)(hQ:(u2*4294967296+U0.toNat) / v=Q):∀ (k:Nat) (q rh:Lf),4294967296<=rh.toNat+k->rh.toNat < 4294967296->q.toNat*Y1.toNat+rh.toNat=u2->q.toNat<=4294967297->Q<=q.toNat ->
    gY (xg hi lo y r q1) (rh,q)=tY hi lo y r q1 (UInt64.ofNat Q):=by
  intro k;have hv0:0 < v:=by omega
  have e:(4294967296:Lf).toNat=4294967296:=rfl
  induction k with
  | zero=>intro q rh h1 h2;omega
  | succ k ih =>
    intro q rh h1 h2 h3 h4 h5;have hs:(rh+Y1).toNat=rh.toNat+Y1.toNat:=by rw[UInt64.toNat_add];omega
    by_cases hc:4294967296<=q.toNat∨4294967296*rh.toNat+U0.toNat < q.toNat*Y0.toNat
    ·have hlt:=dig_hi hv h3 b5 hu hc;rw[hQ] at hlt;have hp:(q - 1).toNat=q.toNat - 1:=u_pred (by omega);have h3':(q - 1).toNat*Y1.toNat+(rh+Y1).toNat=u2:=by
       rw[hp,hs];have:q.toNat*Y1.toNat=(q.toNat - 1)*Y1.toNat+Y1.toNat:=by
         rw[<- Nat.succ_mul];congr 1;omega
       omega
     by_cases hd:(4294967296:Lf)<=rh+Y1
     ·have hd':=UInt64.le_iff_toNat_le.1 hd;have hle:=dig_lo (u1:=U0.toNat) hv h3' hv0 (dig_end (by omega) (by omega) (by omega:4294967296<=(rh+Y1).toNat));rw[hQ] at hle;have hq:UInt64.ofNat Q=q - 1:=by
        apply UInt64.toNat_inj.1;rw[UInt64.toNat_ofNat'];omega
      rw[hq];have hf:xg hi lo y r q1 (rh,q)=Option.map Sum.inr (tY hi lo y r q1 (q - 1)):=by
        unfold xg;simp only[hY1,hY0,hU0];rw[if_pos ((digC b3 b5 h4 h2).2 hc),if_pos hd]
      cases hj:tY hi lo y r q1 (q - 1) with
      | none=>exact OH (by rw[hf,hj];rfl)
      | some z=>exact mV (by rw[hf,hj];rfl)
     ·have hlt2:¬ 4294967296<=(rh+Y1).toNat:=fun h=>hd (UInt64.le_iff_toNat_le.2 h);rw[ry (s':=(rh+Y1,q - 1)) (by
        unfold xg;simp only[hY1,hY0,hU0];rw[if_pos ((digC b3 b5 h4 h2).2 hc),if_neg hd])]
      exact ih (q - 1) (rh+Y1) (by omega) (by omega) h3' (by omega) (by omega)
    ·have hle:=dig_lo (u1:=U0.toNat) hv h3 hv0 (Nat.le_of_not_lt fun h=>hc (.inr h));rw[hQ] at hle;have hq:UInt64.ofNat Q=q:=by
       apply UInt64.toNat_inj.1;rw[UInt64.toNat_ofNat'];omega
     rw[hq];have hf:xg hi lo y r q1 (rh,q)=Option.map Sum.inr (tY hi lo y r q1 q):=by
       unfold xg;simp only[hY1,hY0,hU0];rw[if_neg fun h=>hc ((digC b3 b5 h4 h2).1 h)]
     cases hj:tY hi lo y r q1 q with
     | none=>exact OH (by rw[hf,hj];rfl)
     | some z=>exact mV (by rw[hf,hj];rfl)
end
end Go.Sx
namespace Go.Sx
open Go.RowKit
set_option linter.unusedVariables false
set_option linter.unusedSimpArgs false
def ovr (n:Lf):Lf:=UInt64.ofNat (18446744073709551616 % n.toNat)
theorem ovr_n {n:Lf}(h:0 < n.toNat):(ovr n).toNat=18446744073709551616 % n.toNat:=by
  have h1:=Nat.mod_lt 18446744073709551616 h;have:=n.toNat_lt;unfold ovr;rw[UInt64.toNat_ofNat'];omega
theorem u_and (x:Lf):(x&&&4294967295).toNat=x.toNat % 4294967296:=by
  rw[UInt64.toNat_and];have e:(4294967295:Lf).toNat=2 ^ 32 - 1:=rfl;rw[e,Nat.and_two_pow_sub_one_eq_mod]
theorem u_0shl (s:Nat):gQ 0 s=0:=by
  apply UInt64.toNat_inj.1;rw[Zy 0 s (by simp)];simp
theorem u_0shr (s:Nat):iQ 0 s=0:=by
  apply UInt64.toNat_inj.1;rw[QA 0 s];simp
theorem u_mod (X Y:Lf):(X - X / Y*Y).toNat=X.toNat % Y.toNat:=by
  have e2:(X / Y*Y).toNat=X.toNat / Y.toNat*Y.toNat:=by
    rw[UInt64.toNat_mul,UInt64.toNat_div];exact Nat.mod_eq_of_lt (Nat.lt_of_le_of_lt (Nat.div_mul_le_self _ _) X.toNat_lt)
  rw[UInt64.toNat_sub_of_le _ _ (UInt64.le_iff_toNat_le.2 (by rw[e2];exact Nat.div_mul_le_self _ _)),e2];have h4:=Nat.div_add_mod X.toNat Y.toNat;rw[Nat.mul_comm] at h4;omega
theorem u_left (X Y Q:Lf){v u:Nat}(hX:X.toNat=u)(hY:Y.toNat=v)(hv:0 < v)(hQ:Q.toNat=u*4294967296 / v)(hv2:v < 18446744073709551616):(X*4294967296+0 - Q*Y).toNat=u*4294967296 % v:=by
  have h4:=Nat.div_add_mod (u*4294967296) v;have h5:=Nat.mod_lt (u*4294967296) hv;have e:(X*4294967296+0:Lf)=Q*Y+UInt64.ofNat (u*4294967296 % v):=by
    apply UInt64.toNat_inj.1;rw[UInt64.toNat_add,UInt64.toNat_mul,UInt64.toNat_add,UInt64.toNat_mul,hX,hY,hQ,UInt64.toNat_ofNat'];have e0:(0:Lf).toNat=0:=rfl;have e1:(4294967296:Lf).toNat=4294967296:=rfl;rw[e0,e1,Nat.mul_comm (u*4294967296 / v) v];omega
  have e2:(X*4294967296+0 - Q*Y:Lf)=UInt64.ofNat (u*4294967296 % v):=by
    rw[e,UInt64.add_comm,UInt64.add_sub_cancel]
  rw[e2,UInt64.toNat_ofNat'];omega
theorem dig_le {u v y1 y0:Nat}(hv:v=y1*4294967296+y0)(h1:0 < y1):u*4294967296 / v<=u / y1:=by
  rw[Nat.le_div_iff_mul_le h1];have h2:=Nat.div_mul_le_self (u*4294967296) v;generalize u*4294967296 / v=Q at *;have e:Q*v=Q*y1*4294967296+Q*y0:=by rw[hv,Nat.mul_add,Nat.mul_assoc]
  omega
theorem dig_b {u v y1 y0:Nat}(hv:v=y1*4294967296+y0)(h0:y0 < 4294967296)(h1:2147483648<=y1)(hu:u < v):u / y1<=4294967297:=by
  have:u / y1 < 4294967298:=by rw[Nat.div_lt_iff_lt_mul (by omega)];omega
  omega
theorem divX (n:Lf)(h1:0 < n.toNat):∃ q,GY (1 % n) 0 n=some (q,ovr n):=by
  have e1:(1:Lf).toNat=1:=rfl;have hn0:¬ n=0:=by intro e;rw[e] at h1;exact absurd h1 (by decide)
  have hm:(1 % n).toNat < n.toNat:=by rw[UInt64.toNat_mod,e1];exact Nat.mod_lt _ h1
  unfold GY FB;rw[if_neg hn0,if_neg (by intro h;have:=UInt64.le_iff_toNat_le.1 h;omega)];unfold Fz;by_cases hq:n.toNat=1
  ·have:n=1:=UInt64.toNat_inj.1 hq;subst this;rw[if_pos (by decide),vT hn0,Option.bind_some,Option.bind_some];exact⟨_,rfl⟩
  have hn2:2<=n.toNat:=by omega
  have hone:1 % n=1:=by
    apply UInt64.toNat_inj.1;rw[UInt64.toNat_mod,e1,Nat.mod_eq_of_lt (by omega)]
  rw[hone,if_neg (by decide)];obtain⟨c,q1,q2,q3,q4,q5⟩:=lenG n h1;have hc2:2<=c:=by
    rcases Nat.lt_or_ge c 2 with h | h
    ·obtain rfl:c=1:=by omega
     simp at q4;omega
    ·exact h
  have hr:(UInt64.ofInt ((64 - c:Nat):Int)).toNat=64 - c:=by
    rw[Qz,UInt64.toNat_ofNat_of_lt' (by show 64 - c < 18446744073709551616;omega)]
  have hp:2 ^ c*2 ^ (64 - c)=18446744073709551616:=by
    rw[<- Nat.pow_add,show c+(64 - c)=64 from by omega]
  have hp1:2 ^ (c - 1)*2 ^ (64 - c)=9223372036854775808:=by
    rw[<- Nat.pow_add,show c - 1+(64 - c)=63 from by omega]
  have hpos:0 < 2 ^ (64 - c):=Nat.pow_pos (by omega);have hs62:2 ^ (64 - c)<=4611686018427387904:=by
    have:2 ^ (64 - c)<=2 ^ 62:=Nat.pow_le_pow_right (by omega) (by omega);exact this
  have hlt:n.toNat*2 ^ (64 - c) < 18446744073709551616:=by
    rw[<- hp];exact(Nat.mul_lt_mul_right hpos).2 q4
  have hge:9223372036854775808<=n.toNat*2 ^ (64 - c):=by
    rw[<- hp1];exact Nat.mul_le_mul_right _ q3
  rw[q5,Option.bind_some];generalize hS:(UInt64.ofInt ((64 - c:Nat):Int))=S at *;generalize hP:2 ^ (64 - c)=P at *;have hY:(gQ n S.toNat).toNat=n.toNat*P:=by rw[hr,Zy _ _ (by rw[hP];exact hlt),hP]
  have hX:(gQ 1 S.toNat|||iQ 0 (((64:Lf) - S).toNat)).toNat=P:=by
    rw[u_0shr,UInt64.or_zero,hr,Zy _ _ (by rw[hP,e1];omega),hP,e1,Nat.one_mul]
  have hY1:(iQ (gQ n S.toNat) ((32:Lf).toNat)).toNat=n.toNat*P / 4294967296:=by rw[QA,hY];rfl
  have hY0:(gQ n S.toNat&&&4294967295).toNat=n.toNat*P % 4294967296:=by rw[u_and,hY]
  have hU1:iQ (gQ 0 S.toNat) ((32:Lf).toNat)=0:=by rw[u_0shl,u_0shr]
  have hU0:gQ 0 S.toNat&&&4294967295=0:=by rw[u_0shl];rfl
  generalize hYY:gQ n S.toNat=Y at *;generalize hXX:gQ 1 S.toNat|||iQ 0 (((64:Lf) - S).toNat)=X at *;generalize hy1:iQ Y ((32:Lf).toNat)=Y1 at *;generalize hy0:Y&&&4294967295=Y0 at *;have hv:n.toNat*P=Y1.toNat*4294967296+Y0.toNat:=by rw[hY1,hY0];omega
  have b1:Y1.toNat < 4294967296:=by omega
  have b2:0 < Y1.toNat:=by omega
  have b3:Y0.toNat < 4294967296:=by omega
  have e0:(0:Lf).toNat=0:=rfl;have b4:(0:Lf).toNat < 4294967296:=by omega
  have hne:Y1≠0:=by intro e;rw[e] at b2;exact absurd b2 (by decide)
  rw[vT hne,Option.bind_some];have hu:P < n.toNat*P:=by omega
  have hq1:(X / Y1).toNat=P / Y1.toNat:=by rw[UInt64.toNat_div,hX]
  have hr1:(X - X / Y1*Y1).toNat=P % Y1.toNat:=by rw[u_mod,hX]
  have hd1:=Nat.div_add_mod P Y1.toNat;rw[Nat.mul_comm] at hd1;have hm1:=Nat.mod_lt P b2;have hl1:=dig_le (u:=P) hv b2;have hb1:=dig_b hv b3 (by omega) hu;rw[dv0 1 0 n _ Y1 Y0 0 (by rw[hS,hYY];exact hy1) (by rw[hS,hYY];exact hy0) (by rw[hS];exact hU1) b1 b2 b3 b4 hv hu rfl 4294967296 (X / Y1) (X - X / Y1*Y1) (by omega) (by omega) (by rw[hq1,hr1];exact hd1) (by rw[hq1];exact hb1) (by rw[hq1,e0,Nat.add_zero];exact hl1)];rw[e0,Nat.add_zero];unfold tZ Fv;rw[hS,hYY,hy1,hU1,hXX,vT hne,Option.bind_some];have hQ1:(UInt64.ofNat (P*4294967296 / (n.toNat*P))).toNat=P*4294967296 / (n.toNat*P):=by rw[UInt64.toNat_ofNat',Nat.mod_eq_of_lt (Nat.lt_of_le_of_lt (Nat.le_trans hl1 hb1) (by decide))]
  have hX2:=u_left X Y _ hX hY (by omega) hQ1 hlt;generalize UInt64.ofNat (P*4294967296 / (n.toNat*P))=Q1 at *;generalize hX2':X*4294967296+0 - Q1*Y=X2 at *;have hu2:P*4294967296 % (n.toNat*P) < n.toNat*P:=Nat.mod_lt _ (by omega);have hq2:(X2 / Y1).toNat=(P*4294967296 % (n.toNat*P)) / Y1.toNat:=by rw[UInt64.toNat_div,hX2]
  have hr2:(X2 - X2 / Y1*Y1).toNat=(P*4294967296 % (n.toNat*P)) % Y1.toNat:=by rw[u_mod,hX2]
  have hd2:=Nat.div_add_mod (P*4294967296 % (n.toNat*P)) Y1.toNat;rw[Nat.mul_comm] at hd2;have hm2:=Nat.mod_lt (P*4294967296 % (n.toNat*P)) b2;have hl2:=dig_le (u:=P*4294967296 % (n.toNat*P)) hv b2;have hb2:=dig_b hv b3 (by omega) hu2;rw[dv1 1 0 n _ Y1 Y0 0 (by rw[hS,hYY];exact hy1) (by rw[hS,hYY];exact hy0) (by rw[hS];exact hU0) b1 b2 b3 b4 Q1 hv hu2 rfl 4294967296 (X2 / Y1) (X2 - X2 / Y1*Y1) (by omega) (by omega) (by rw[hq2,hr2];exact hd2) (by rw[hq2];exact hb2) (by rw[hq2,e0,Nat.add_zero];exact hl2)];rw[e0,Nat.add_zero];unfold tY Fj;rw[hS,hYY,hU1,hU0,hXX,hX2'];have hQ0:(UInt64.ofNat (P*4294967296 % (n.toNat*P)*4294967296 / (n.toNat*P))).toNat=P*4294967296 % (n.toNat*P)*4294967296 / (n.toNat*P):=by
    rw[UInt64.toNat_ofNat',Nat.mod_eq_of_lt (Nat.lt_of_le_of_lt (Nat.le_trans hl2 hb2) (by decide))]
  have hfin:=u_left X2 Y _ hX2 hY (by omega) hQ0 hlt;refine⟨_,congrArg some (Prod.ext rfl ?_)⟩;apply UInt64.toNat_inj.1;rw[ovr_n h1];show(iQ _ _).toNat=_;rw[QA,hfin,hr,hP,Nat.mod_mul_mod];have e9:P*4294967296*4294967296=18446744073709551616*P:=by omega
  rw[e9,Nat.mul_mod_mul_right,Nat.mul_div_cancel _ hpos]
end Go.Sx
namespace Go.Sx
open Go.RowKit
set_option linter.unusedVariables false
set_option linter.unusedSimpArgs false
def okw (n w:Lf):Bool:=decide (w<=(18446744073709551615:Lf) - (((18446744073709551615:Lf) - (n - 1)) % n))
theorem bey {n:Lf}(h:0 < n.toNat):(((18446744073709551615:Lf) - (n - 1)) % n).toNat=18446744073709551616 % n.toNat:=by
  have e:(18446744073709551615:Lf).toNat=18446744073709551615:=rfl;have hp:=u_pred h;have hn:=n.toNat_lt;rw[UInt64.toNat_mod,UInt64.toNat_sub_of_le _ _ (UInt64.le_iff_toNat_le.2 (by rw[hp,e];omega)),hp,e];have:18446744073709551616=(18446744073709551615 - (n.toNat - 1))+n.toNat:=by omega
  rw[this,Nat.add_mod_right]
theorem okw_ovr {n:Lf}(h:0 < n.toNat)(w:Lf):((decide (ovr n≠0))&&(decide (((0 - ovr n) - 1) < w)))=!okw n w:=by
  have hv:=ovr_n h;have hb:=bey h;have h1:=Nat.mod_lt 18446744073709551616 h;have hn:=n.toNat_lt;have hw:=w.toNat_lt;have e:(18446744073709551615:Lf).toNat=18446744073709551615:=rfl;have hs:((18446744073709551615:Lf) - (((18446744073709551615:Lf) - (n - 1)) % n)).toNat=18446744073709551615 - 18446744073709551616 % n.toNat:=by
    rw[UInt64.toNat_sub_of_le _ _ (UInt64.le_iff_toNat_le.2 (by rw[hb,e];omega)),hb,e]
  have ho:okw n w=decide (w.toNat<=18446744073709551615 - 18446744073709551616 % n.toNat):=by
    unfold okw;exact decide_eq_decide.2 (by rw[UInt64.le_iff_toNat_le,hs])
  rw[ho];by_cases h0:ovr n=0
  ·have:18446744073709551616 % n.toNat=0:=by rw[<- hv,h0];rfl
   rw[this,h0];simp only[ne_eq,not_true_eq_false,decide_false,Bool.false_and,Nat.sub_zero];rw[decide_eq_true (by omega:w.toNat<=18446744073709551615)];rfl
  ·have hne:(ovr n).toNat≠0:=fun e=>h0 (UInt64.toNat_inj.1 e);have hd:((0 - ovr n) - 1:Lf).toNat=18446744073709551615 - 18446744073709551616 % n.toNat:=by
     have e0:(0:Lf).toNat=0:=rfl;have e1:(1:Lf).toNat=1:=rfl;rw[UInt64.toNat_sub,UInt64.toNat_sub,e0,e1,hv];omega
   rw[decide_eq_true h0,Bool.true_and];by_cases hc:w.toNat<=18446744073709551615 - 18446744073709551616 % n.toNat
   ·rw[decide_eq_true hc,decide_eq_false (by rw[UInt64.lt_iff_toNat_lt,hd];omega)];rfl
   ·rw[decide_eq_false hc,decide_eq_true (by rw[UInt64.lt_iff_toNat_lt,hd];omega)];rfl
theorem okw_0 (n:Lf):okw n 0=true:=by
  unfold okw;exact decide_eq_true (UInt64.le_iff_toNat_le.2 (Nat.zero_le _))
def bx (W:Nat->Lf)(n:Lf):Nat->Lf->Nat->Option (Lf×Nat)
  | 0,w,m=>some (w,m)
  | k+1,w,m=>if okw n w=true then some (w,m) else if m < NW then bx W n k (W m) (m+1) else none
def bw (W:Nat->Lf)(n:Lf)(m:Nat):Option (Lf×Nat):=if m < NW then bx W n 63 (W m) (m+1) else none
theorem bx_le {W:Nat->Lf}{n:Lf}:∀ {k:Nat} {w:Lf} {m:Nat} {v:Lf} {m':Nat},bx W n k w m=some (v,m')->m<=NW->m'<=NW
  | 0,w,m,v,m',h,hm=>by simp only[bx,Option.some.injEq,Prod.mk.injEq] at h;omega
  | k+1,w,m,v,m',h,hm=>by
    unfold bx at h;split at h
    ·simp only[Option.some.injEq,Prod.mk.injEq] at h;omega
    ·split at h
     ·exact bx_le h (by omega)
     ·cases h
section
variable (R:L3)(hR:R.length=64)(d:Int)(blk nk:L3)(last:Bool)(wr:Lf)(h:L5)(lo hi:Lf)(held:L3)(hh:held.length<=128)
  (hn:lS 1 d blk nk last wr h lo hi held 128 64=some (R,0,h,lo,hi,held,128,1,d,last,wr))
  (seed key:L3)
include hn hR in
theorem belowL (n:Lf)(h1:0 < n.toNat)(q:Lf):∀ (k t m:Nat) (w:Lf) (r:L3) (nw:L7) (hv why:Int),t+k=64->GS R m r nw hv ->
    ∃ r' uH hv',match bx (OU R) n k w m with
      | some (v,m')=>GS R m' r' uH hv'/\gY (sZ seed key [] [] blk nk n (q,ovr n)) (1,d,last,wr,h,lo,hi,held,128,r,av m,nw,hv,why,w,(t:Int))=some (v % n,1,d,last,wr,h,lo,hi,held,128,r',av m',uH,hv',why)
      | none=>GS R NW r' uH hv'/\gY (sZ seed key [] [] blk nk n (q,ovr n)) (1,d,last,wr,h,lo,hi,held,128,r,av m,nw,hv,why,w,(t:Int))=some (0,1,d,last,wr,h,lo,hi,held,128,r',av NW,uH,hv',6):=by
  have hne:n≠0:=by intro e;rw[e] at h1;exact absurd h1 (by decide)
  have stop:∀ (t m:Nat) (w:Lf) (r:L3) (nw:L7) (hv why:Int),(okw n w=true∨t=64)->gY (sZ seed key [] [] blk nk n (q,ovr n)) (1,d,last,wr,h,lo,hi,held,128,r,av m,nw,hv,why,w,(t:Int))=some (w % n,1,d,last,wr,h,lo,hi,held,128,r,av m,nw,hv,why):=by
    intro t m w r nw hv why hc;refine mV ?_;unfold sZ;simp only[];rw[okw_ovr h1,if_neg (by
      rcases hc with hc | hc
      ·rw[hc];simp
      ·subst hc;simp),vT hne]
    rfl
  have go:∀ (t m:Nat) (w:Lf) (r:L3) (nw:L7) (hv why:Int) {w':Lf} {m':Nat} {r':L3} {uH:L7} {hv' Xc:Int},okw n w=false->t < 64 ->
      mi seed key [] [] 1 d blk nk last wr h lo hi held 128 r (av m) nw hv why=some (w',1,d,last,wr,h,lo,hi,held,128,r',av m',uH,hv',Xc) ->
      gY (sZ seed key [] [] blk nk n (q,ovr n)) (1,d,last,wr,h,lo,hi,held,128,r,av m,nw,hv,why,w,(t:Int))=gY (sZ seed key [] [] blk nk n (q,ovr n)) (1,d,last,wr,h,lo,hi,held,128,r',av m',uH,hv',Xc,w',((t+1:Nat):Int)):=by
    intro t m w r nw hv why w' m' r' uH hv' Xc hc ht hd;refine ry ?_;unfold sZ;simp only[];rw[okw_ovr h1,hc,if_pos (by simp;omega),hd,Option.bind_some,nN (by omega)];rfl
  intro k
  induction k with
  | zero =>
    intro t m w r nw hv why ht g;obtain rfl:t=64:=by omega
    exact⟨r,nw,hv,g,stop 64 m w r nw hv why (.inr rfl)⟩
  | succ k ih =>
    intro t m w r nw hv why ht g;unfold bx;by_cases hc:okw n w=true
    ·rw[if_pos hc];exact⟨r,nw,hv,g,stop t m w r nw hv why (.inl hc)⟩
    ·have hc':okw n w=false:=by simpa using hc
     rw[if_neg hc];by_cases hm:m < NW
     ·rw[if_pos hm];obtain⟨nw1,hv1,g1,hd⟩:=drawK R hR d blk nk last wr h lo hi held hn seed key g hm why;rw[go t m w r nw hv why hc' (by omega) hd];exact ih (t+1) (m+1) (OU R m) R nw1 hv1 why (by omega) g1
     ·rw[if_neg hm];obtain rfl:m=NW:=by have:=g.2.2;omega
      obtain⟨g1,hd⟩:=drawE R hR d blk nk last wr h lo hi held hn seed key g why;refine⟨R,nw,hv,g1,?_⟩;rw[go t NW w r nw hv why hc' (by omega) hd,stop (t+1) NW 0 R nw hv 6 (.inl (okw_0 n))];have:(0:Lf) % n=0:=by apply UInt64.toNat_inj.1;rw[UInt64.toNat_mod];simp
      rw[this]
include hn hR in
theorem belowK (n:Lf)(h1:0 < n.toNat){m:Nat}{r:L3}{nw:L7}{hv:Int}(why:Int)(g:GS R m r nw hv) :
    ∃ r' uH hv',match bw (OU R) n m with
      | some (v,m')=>GS R m' r' uH hv'/\yu seed key [] [] 1 d blk nk last wr h lo hi held 128 r (av m) nw hv why n=some (v % n,1,d,last,wr,h,lo,hi,held,128,r',av m',uH,hv',why)
      | none=>GS R NW r' uH hv'/\yu seed key [] [] 1 d blk nk last wr h lo hi held 128 r (av m) nw hv why n=some (0,1,d,last,wr,h,lo,hi,held,128,r',av NW,uH,hv',6):=by
  have hne:n≠0:=by intro e;rw[e] at h1;exact absurd h1 (by decide)
  obtain⟨q,hq⟩:=divX n h1;unfold yu;rw[vT hne,Option.bind_some,hq,Option.bind_some];unfold bw;by_cases hm:m < NW
  ·rw[if_pos hm];obtain⟨nw1,hv1,g1,hd⟩:=drawK R hR d blk nk last wr h lo hi held hn seed key g hm why;rw[hd,Option.bind_some];exact belowL R hR d blk nk last wr h lo hi held hn seed key n h1 q 63 1 (m+1) (OU R m) R nw1 hv1 why rfl g1
  ·rw[if_neg hm];obtain rfl:m=NW:=by have:=g.2.2;omega
   obtain⟨g1,hd⟩:=drawE R hR d blk nk last wr h lo hi held hn seed key g why;rw[hd,Option.bind_some];obtain⟨r',uH,hv',hx⟩:=belowL R hR d blk nk last wr h lo hi held hn seed key n h1 q 63 1 NW 0 R nw hv 6 rfl g1;have:(0:Lf) % n=0:=by apply UInt64.toNat_inj.1;rw[UInt64.toNat_mod];simp
   have hb:bx (OU R) n 63 0 NW=some (0,NW):=by unfold bx;rw[if_pos (okw_0 n)]
   rw[hb] at hx;dsimp only at hx;rw[this] at hx;exact⟨r',uH,hv',hx⟩
end
end Go.Sx
namespace Go.Sx
open Go.RowKit
set_option linter.unusedVariables false
set_option linter.unusedSimpArgs false
section
variable (R:L3)(hR:R.length=64)(d:Int)(blk nk:L3)(last:Bool)(wr:Lf)(h:L5)(lo hi:Lf)(held:L3)(hh:held.length<=128)
  (hn:lS 1 d blk nk last wr h lo hi held 128 64=some (R,0,h,lo,hi,held,128,1,d,last,wr))
  (seed key:L3)
include hn hR hh
theorem dBelow (n:Lf)(h1:0 < n.toNat){m:Nat}{r:L3}{nw:L7}{hv:Int}(g:GS R m r nw hv) :
    ∃ r' uH hv',match bw (OU R) n m with
      | some (v,m')=>GS R m' r' uH hv'/\qw seed key [] [] 1 d blk nk last wr h lo hi held 128 r (av m) nw hv n=some (v % n,0,1,d,last,wr,h,lo,hi,held,128,r',av m',uH,hv')
      | none=>GS R m r' uH hv'/\qw seed key [] [] 1 d blk nk last wr h lo hi held 128 r (av m) nw hv n=some (0,6,1,d,last,wr,h,lo,hi,held,128,r',av m,uH,hv'):=by
  have hne:n≠0:=by intro e;rw[e] at h1;exact absurd h1 (by decide)
  obtain⟨r',uH,hv',hb⟩:=belowK R hR d blk nk last wr h lo hi held hn seed key n h1 0 g;unfold qw fZ;rw[Option.bind_some];dsimp only;rw[if_neg hne];unfold Bi fZ;rw[Option.bind_some];dsimp only;rw[copyK d blk nk last wr h lo hi held hh key r (av m) nw hv,Option.bind_some];dsimp only;unfold zQ;cases hw:bw (OU R) n m with
  | none =>
    rw[hw] at hb;refine⟨r,nw,hv,g,?_⟩;rw[hb.2,Option.bind_some,Option.bind_some];dsimp only;rw[if_pos (by decide)];unfold um;rw[Option.bind_some];dsimp only;rw[if_pos (by decide)]
  | some x =>
    obtain⟨v,m'⟩:=x;rw[hw] at hb;refine⟨r',uH,hv',hb.1,?_⟩;dsimp only at hb;rw[hb.2,Option.bind_some,Option.bind_some];dsimp only;rw[if_neg nz];unfold um;rw[Option.bind_some];dsimp only;rw[if_neg nz]
omit hn hR hh in
theorem dBelow0 (m:Nat)(r:L3)(nw:L7)(hv:Int):qw seed key [] [] 1 d blk nk last wr h lo hi held 128 r (av m) nw hv 0=some (0,1,1,d,last,wr,h,lo,hi,held,128,r,av m,nw,hv):=by
  unfold qw fZ;rw[Option.bind_some];dsimp only;rw[if_pos rfl]
theorem dWord {m:Nat}{r:L3}{nw:L7}{hv:Int}(g:GS R m r nw hv)(hm:m < NW) :
    ∃ uH hv',GS R (m+1) R uH hv'/\rP seed key [] [] 1 d blk nk last wr h lo hi held 128 r (av m) nw hv=some (OU R m,0,1,d,last,wr,h,lo,hi,held,128,R,av (m+1),uH,hv'):=by
  obtain⟨uH,hv',g',hd⟩:=drawK R hR d blk nk last wr h lo hi held hn seed key g hm 0;refine⟨uH,hv',g',?_⟩;unfold rP wP fZ;rw[Option.bind_some];dsimp only;rw[copyK d blk nk last wr h lo hi held hh key r (av m) nw hv,Option.bind_some];dsimp only;unfold yw;rw[hd,Option.bind_some,Option.bind_some];dsimp only;rw[if_neg nz];unfold rJ;rw[Option.bind_some];dsimp only;rw[if_neg nz]
theorem dWordE {r:L3}{nw:L7}{hv:Int}(g:GS R NW r nw hv) :
    rP seed key [] [] 1 d blk nk last wr h lo hi held 128 r (av NW) nw hv=some (0,6,1,d,last,wr,h,lo,hi,held,128,r,av NW,nw,hv):=by
  obtain⟨g',hd⟩:=drawE R hR d blk nk last wr h lo hi held hn seed key g 0;unfold rP wP fZ;rw[Option.bind_some];dsimp only;rw[copyK d blk nk last wr h lo hi held hh key r (av NW) nw hv,Option.bind_some];dsimp only;unfold yw;rw[hd,Option.bind_some,Option.bind_some];dsimp only;rw[if_pos (by decide)];unfold rJ;rw[Option.bind_some];dsimp only;rw[if_pos (by decide)]
def shw (w:Lf):Nat:=far .quo (UU ((iQ w ((11:Lf).toNat)).toNat:Int)) 4845873199050653696
theorem dShare {m:Nat}{r:L3}{nw:L7}{hv:Int}(g:GS R m r nw hv)(hm:m < NW) :
    ∃ uH hv',GS R (m+1) R uH hv'/\pJ seed key [] [] 1 d blk nk last wr h lo hi held 128 r (av m) nw hv=some (shw (OU R m),0,1,d,last,wr,h,lo,hi,held,128,R,av (m+1),uH,hv'):=by
  obtain⟨uH,hv',g',hd⟩:=dWord R hR d blk nk last wr h lo hi held hh hn seed key g hm;refine⟨uH,hv',g',?_⟩;unfold pJ;rw[hd,Option.bind_some];unfold zH;rw[Option.bind_some];rfl
theorem Zz {r:L3}{nw:L7}{hv:Int}(g:GS R NW r nw hv) :
    pJ seed key [] [] 1 d blk nk last wr h lo hi held 128 r (av NW) nw hv=some (shw 0,6,1,d,last,wr,h,lo,hi,held,128,r,av NW,nw,hv):=by
  unfold pJ;rw[dWordE R hR d blk nk last wr h lo hi held hh hn seed key g,Option.bind_some];unfold zH;rw[Option.bind_some];rfl
omit hn hR hh in
theorem dAt (r:L3)(a:Lf)(nw:L7)(hv:Int):zu seed key [] [] 1 d blk nk last wr h lo hi held 128 r a nw hv=some (a / 8,1,d,last,wr,h,lo,hi,held,128,r,a,nw,hv):=rfl
def uo (m:Nat):Lf:=UInt64.ofNat m
omit hn hR hh in
theorem uo_n {m:Nat}(h:m<=NW):(uo m).toNat=m:=by unfold NW at h;unfold uo;rw[UInt64.toNat_ofNat'];omega
omit hn hR hh in
theorem uo_s {m:Nat}(h:m < NW):uo m+1=uo (m+1):=by
  apply UInt64.toNat_inj.1;rw[UInt64.toNat_add,uo_n (Nat.le_of_lt h),uo_n (by omega:m+1<=NW)];have e:(1:Lf).toNat=1:=rfl;unfold NW at h;omega
omit hn hR hh in
theorem av_8 {m:Nat}(h:m<=NW):av m / 8=uo m:=by
  apply UInt64.toNat_inj.1;rw[UInt64.toNat_div,Zx h,uo_n h];have e:(8:Lf).toNat=8:=rfl;rw[e];omega
omit hn hR hh in
theorem uo_8 {m:Nat}(h:m<=NW):(8:Lf)*uo m=av m:=by
  apply UInt64.toNat_inj.1;rw[UInt64.toNat_mul,uo_n h,Zx h];have e:(8:Lf).toNat=8:=rfl;unfold NW at h;rw[e];omega
omit hn hR hh in
theorem left_uo {m:Nat}(h:m<=NW):((34359738368:Lf) - uo m).toNat=NW - m:=by
  rw[UInt64.toNat_sub_of_le _ _ (UInt64.le_iff_toNat_le.2 (by rw[uo_n h];exact h)),uo_n h];rfl
omit hh in
theorem dSkip {m:Nat}{r:L3}{nw:L7}{hv:Int}(g:GS R m r nw hv)(n:Lf) :
    (NW - m < n.toNat/\xM seed key [] [] 1 d blk nk last wr h lo hi held 128 r (av m) nw hv n=some (1,1,d,last,wr,h,lo,hi,held,128,r,av m,nw,hv)) ∨
    (n.toNat<=NW - m/\GS R (m+n.toNat) R nw hv/\xM seed key [] [] 1 d blk nk last wr h lo hi held 128 r (av m) nw hv n=some (0,1,d,last,wr,h,lo,hi,held,128,R,av (m+n.toNat),nw,hv)):=by
  obtain⟨g1,g2,g3⟩:=g;have hl:=left_uo g3;unfold xM fZ;rw[Option.bind_some];dsimp only;rw[dAt,Option.bind_some];dsimp only;rw[av_8 g3];by_cases hc:NW - m < n.toNat
  ·rw[if_pos (UInt64.lt_iff_toNat_lt.2 (by rw[hl];exact hc))];exact .inl ⟨hc,rfl⟩
  ·rw[if_neg (fun e=>hc (by rw[<- hl];exact UInt64.lt_iff_toNat_lt.1 e))];refine .inr ⟨by omega,⟨.inl rfl,g2,by omega⟩,?_⟩;have hN:NW=34359738368:=rfl;have ha:=Zx g3;have e8:((8:Lf)*n).toNat=8*n.toNat:=by
     rw[UInt64.toNat_mul];have e:(8:Lf).toNat=8:=rfl;rw[e];omega
   have hs:=Xb (av m) (by omega);unfold Bj pI;rw[Option.bind_some];dsimp only;rw[giveK R hR d blk nk last wr h lo hi held hn key r (g1.imp id And.left) (av m) nw hv,Option.bind_some];dsimp only;rw[if_neg (by
     simp only[Bool.and_eq_true,decide_eq_true_eq,not_and];intro h0 e;have h1:=UInt64.lt_iff_toNat_lt.1 h0;have h2:=congrArg UInt64.toNat e;rw[hs,ha] at h2;rw[e8] at h1;have e0:(0:Lf).toNat=0:=rfl;omega)]
   have hmin:MM (8*n) ((274877906944:Lf) - av m)=8*n:=by
     unfold MM;rw[if_neg (fun hh=>absurd (UInt64.lt_iff_toNat_lt.1 hh) (by rw[hs,ha,e8];omega))]
   have hsum:av m+8*n=av (m+n.toNat):=by
     apply UInt64.toNat_inj.1;rw[UInt64.toNat_add,e8,ha,Zx (by omega:m+n.toNat<=NW)];omega
   rw[hmin,hsum];rfl
end
end Go.Sx
namespace Go.Sx
open Go.RowKit
set_option linter.unusedVariables false
set_option linter.unusedSimpArgs false
def bsum (W:Nat->Lf):Nat->Nat->Nat->Nat
  | 0,m,s=>s
  | k+1,m,s=>bsum W k (m+1) (far .add s (shw (W m)))
def swp (l:List Int)(i j:Nat):List Int:=(l.set i (l.getD j 0)).set j (l.getD i 0)
theorem Md (l:List Int)(i j:Nat):(swp l i j).length=l.length:=by simp[swp]
def Ll (W:Nat->Lf):Nat->List Int->Nat->Option (List Int×Nat)
  | 0,l,m=>some (l,m)
  | i+1,l,m=>match bw W (UInt64.ofNat (i+2)) m with
    | some (v,m')=>Ll W i (swp l (i+1) (v % UInt64.ofNat (i+2)).toNat) m'
    | none=>none
theorem UF {l:List Int}{j:Nat}(h:j < l.length):iT l (j:Int)=some (l.getD j 0):=by
  unfold iT;rw[if_pos (by omega)];simp[List.getD,h]
theorem u_n {n:Nat}(h:n < 9223372036854775808):UInt64.ofInt (dU ((n:Int)+1))=UInt64.ofNat (n+1):=by
  by_cases h2:n+1 < 9223372036854775808
  ·rw[nN (by omega),show((n:Int)+1)=((n+1:Nat):Int) from by omega,Qz]
  ·obtain rfl:n=9223372036854775807:=by omega
   decide
theorem bw_lt {n:Nat}(h0:0 < n)(h:n<=4097)(v:Lf):(v % UInt64.ofNat n).toNat < n:=by
  rw[UInt64.toNat_mod,UInt64.toNat_ofNat'];have:n % 2 ^ 64=n:=Nat.mod_eq_of_lt (by omega);rw[this];exact Nat.mod_lt _ h0
section
variable (R:L3)(hR:R.length=64)(d:Int)(blk nk:L3)(last:Bool)(wr:Lf)(h:L5)(lo hi:Lf)(held:L3)(hh:held.length<=128)
  (hn:lS 1 d blk nk last wr h lo hi held 128 64=some (R,0,h,lo,hi,held,128,1,d,last,wr))
  (seed key:L3)
include hn hR
theorem bellL:∀ (k t m s:Nat)(r:L3)(nw:L7)(hv why:Int),t+k=12->GS R m r nw hv ->
    (m+k<=NW/\∃ r' uH hv',GS R (m+k) r' uH hv'/\gY (pq seed key [] [] blk nk) (1,d,last,wr,h,lo,hi,held,128,r,av m,nw,hv,why,s,(t:Int))=some (1,d,last,wr,h,lo,hi,held,128,r',av (m+k),uH,hv',why,bsum (OU R) k m s)) ∨
    (NW < m+k/\∃ r' uH hv' s',GS R NW r' uH hv'/\gY (pq seed key [] [] blk nk) (1,d,last,wr,h,lo,hi,held,128,r,av m,nw,hv,why,s,(t:Int))=some (1,d,last,wr,h,lo,hi,held,128,r',av NW,uH,hv',6,s')):=by
  intro k;have go:∀ (t m s:Nat) (r:L3) (nw:L7) (hv why:Int) {w':Lf} {m':Nat} {r':L3} {uH:L7} {hv' Xc:Int},t < 12 ->
      mi seed key [] [] 1 d blk nk last wr h lo hi held 128 r (av m) nw hv why=some (w',1,d,last,wr,h,lo,hi,held,128,r',av m',uH,hv',Xc) ->
      gY (pq seed key [] [] blk nk) (1,d,last,wr,h,lo,hi,held,128,r,av m,nw,hv,why,s,(t:Int))=gY (pq seed key [] [] blk nk) (1,d,last,wr,h,lo,hi,held,128,r',av m',uH,hv',Xc,far .add s (shw w'),((t+1:Nat):Int)):=by
    intro t m s r nw hv why w' m' r' uH hv' Xc ht hd;refine ry ?_;unfold pq;simp only[];rw[if_pos (by omega),hd,Option.bind_some];unfold zH;rw[Option.bind_some,nN (by omega)];rfl
  induction k with
  | zero =>
    intro t m s r nw hv why ht g;obtain rfl:t=12:=by omega
    refine .inl ⟨g.2.2,r,nw,hv,g,mV ?_⟩;unfold pq;simp only[];rw[if_neg (by decide)];rfl
  | succ k ih =>
    intro t m s r nw hv why ht g;by_cases hm:m < NW
    ·obtain⟨nw1,hv1,g1,hd⟩:=drawK R hR d blk nk last wr h lo hi held hn seed key g hm why;rw[go t m s r nw hv why (by omega) hd];rcases ih (t+1) (m+1) (far .add s (shw (OU R m))) R nw1 hv1 why (by omega) g1 with⟨h1,h2⟩ | ⟨h1,h2⟩
     ·refine .inl ⟨by omega,?_⟩;rw[show m+(k+1)=m+1+k from by omega];exact h2
     ·exact .inr ⟨by omega,h2⟩
    ·obtain rfl:m=NW:=by have:=g.2.2;omega
     obtain⟨g1,hd⟩:=drawE R hR d blk nk last wr h lo hi held hn seed key g why;rw[go t NW s r nw hv why (by omega) hd];refine .inr ⟨by omega,?_⟩;rcases ih (t+1) NW (far .add s (shw 0)) R nw hv 6 (by omega) g1 with⟨h1,r',uH,hv',g',h2⟩ | ⟨h1,r',uH,hv',s',h2⟩
     ·obtain rfl:k=0:=by omega
      exact⟨r',uH,hv',_,g',h2⟩
     ·exact⟨r',uH,hv',s',h2⟩
include hh in
theorem dBell {m:Nat}{r:L3}{nw:L7}{hv:Int}(g:GS R m r nw hv) :
    ∃ r' uH hv',(m+12<=NW/\GS R (m+12) r' uH hv'/\xN seed key [] [] 1 d blk nk last wr h lo hi held 128 r (av m) nw hv=some (far .sub (bsum (OU R) 12 m 0) 4618441417868443648,0,1,d,last,wr,h,lo,hi,held,128,r',av (m+12),uH,hv')) ∨
      (NW < m+12/\GS R m r' uH hv'/\xN seed key [] [] 1 d blk nk last wr h lo hi held 128 r (av m) nw hv=some (0,6,1,d,last,wr,h,lo,hi,held,128,r',av m,uH,hv')):=by
  unfold xN zf fZ;rw[Option.bind_some];dsimp only;rw[copyK d blk nk last wr h lo hi held hh key r (av m) nw hv,Option.bind_some];dsimp only;unfold Au;rcases bellL R hR d blk nk last wr h lo hi held hn seed key 12 0 m 0 r nw hv 0 rfl g with⟨h1,r',uH,hv',g',h2⟩ | ⟨h1,r',uH,hv',s',g',h2⟩
  ·refine⟨r',uH,hv',.inl ⟨h1,g',?_⟩⟩;rw[show(0:Int)=((0:Nat):Int) from rfl] at h2 ⊢;rw[h2,Option.bind_some];dsimp only;rw[if_neg (by decide)];unfold rM;rw[Option.bind_some];dsimp only;rw[if_neg (by decide)]
  ·refine⟨r,nw,hv,.inr ⟨h1,g,?_⟩⟩;rw[show(0:Int)=((0:Nat):Int) from rfl] at h2 ⊢;rw[h2,Option.bind_some];dsimp only;rw[if_pos (by decide)];unfold rM;rw[Option.bind_some];dsimp only;rw[if_pos (by decide)]
theorem orderL (p:Int):∀ (i m:Nat) (l:List Int) (r:L3) (nw:L7) (hv why:Int),(i < l.length∨i=0)->l.length<=4096->GS R m r nw hv ->
    ∃ r' uH hv',match Ll (OU R) i l m with
      | some (l',m')=>GS R m' r' uH hv'/\gY (nT seed key [] [] blk nk p) (1,d,last,wr,h,lo,hi,held,128,r,av m,nw,hv,why,l,(i:Int))=some (1,d,last,wr,h,lo,hi,held,128,r',av m',uH,hv',why,p,l')
      | none=>∃ l',GS R NW r' uH hv'/\gY (nT seed key [] [] blk nk p) (1,d,last,wr,h,lo,hi,held,128,r,av m,nw,hv,why,l,(i:Int))=some (1,d,last,wr,h,lo,hi,held,128,r',av NW,uH,hv',6,p,l'):=by
  have go:∀ (i m:Nat) (l:List Int) (r:L3) (nw:L7) (hv why:Int) {v:Lf} {m':Nat} {r':L3} {uH:L7} {hv' Xc:Int},i+1 < l.length->l.length<=4096->v.toNat < l.length ->
      yu seed key [] [] 1 d blk nk last wr h lo hi held 128 r (av m) nw hv why (UInt64.ofNat (i+2))=some (v,1,d,last,wr,h,lo,hi,held,128,r',av m',uH,hv',Xc) ->
      gY (nT seed key [] [] blk nk p) (1,d,last,wr,h,lo,hi,held,128,r,av m,nw,hv,why,l,((i+1:Nat):Int))=gY (nT seed key [] [] blk nk p) (1,d,last,wr,h,lo,hi,held,128,r',av m',uH,hv',Xc,swp l (i+1) v.toNat,(i:Int)):=by
    intro i m l r nw hv why v m' r' uH hv' Xc hi hl hv2 hd;refine ry ?_;unfold nT;simp only[];rw[if_pos (by omega),u_n (by omega),hd,Option.bind_some];dsimp only;rw[UF hv2,Option.bind_some,UF hi,Option.bind_some,Option.bind_some,UF (by simpa using hv2),Option.bind_some,nN (by omega)];have e1:Int.toNat ((i+1:Nat):Int)=i+1:=by omega
    have e2:Int.toNat ((v.toNat:Nat):Int)=v.toNat:=by omega
    have e3:((i+1:Nat):Int) - 1=(i:Int):=by omega
    rw[e1,e2,e3];rfl
  intro i
  induction i with
  | zero =>
    intro m l r nw hv why hi hl g;refine⟨r,nw,hv,g,mV ?_⟩;unfold nT;simp only[];rw[if_neg (by decide)];rfl
  | succ i ih =>
    intro m l r nw hv why hil hl g;have hi':i+1 < l.length:=by omega
    have h2:0 < (UInt64.ofNat (i+2)).toNat:=by rw[UInt64.toNat_ofNat'];omega
    obtain⟨r',uH,hv',hb⟩:=belowK R hR d blk nk last wr h lo hi held hn seed key (UInt64.ofNat (i+2)) h2 why g;unfold Ll;cases hw:bw (OU R) (UInt64.ofNat (i+2)) m with
    | some x =>
      obtain⟨v,m'⟩:=x;rw[hw] at hb;dsimp only at hb;obtain⟨g',hd⟩:=hb;have hlt:=bw_lt (n:=i+2) (by omega) (by omega) v;rw[go i m l r nw hv why hi' hl (Nat.lt_of_lt_of_le hlt (by omega)) hd];exact ih m' _ r' uH hv' why (by rw[Md];omega) (by rw[Md];exact hl) g'
    | none =>
      rw[hw] at hb;dsimp only at hb;obtain⟨g',hd⟩:=hb;rw[go i m l r nw hv why hi' hl (by show(0:Lf).toNat < _;have e0:(0:Lf).toNat=0:=rfl;omega) hd];obtain⟨r2,nw2,hv2,hx⟩:=ih NW (swp l (i+1) (0:Lf).toNat) r' uH hv' 6 (by rw[Md];omega) (by rw[Md];exact hl) g';refine⟨r2,nw2,hv2,?_⟩;dsimp only;cases ho:Ll (OU R) i (swp l (i+1) (0:Lf).toNat) NW with
      | none=>rw[ho] at hx;exact hx
      | some y =>
        obtain⟨l',m'⟩:=y;rw[ho] at hx;dsimp only at hx;have:m'=NW:=by
          cases i with
          | zero=>simp only[Ll,Option.some.injEq,Prod.mk.injEq] at ho;exact ho.2.symm
          | succ i=>unfold Ll bw at ho;rw[if_neg (Nat.lt_irrefl _)] at ho;cases ho
        subst this;exact⟨l',hx⟩
end
end Go.Sx
namespace Go.Sx
open Go.RowKit
set_option linter.unusedVariables false
set_option linter.unusedSimpArgs false
def Lm (n:Nat):List Int:=(List.range n).map fun j:Nat=>(j:Int)
theorem yh (n:Nat):(Lm n).length=n:=by simp[Lm]
theorem plc_0 (n:Nat):List.replicate (Int.toNat (n:Int)) (0:Int)=Lm 0++List.replicate (n - 0) 0:=by simp[Lm]
theorem plc_step (n i:Nat)(h:i < n):(Lm i++List.replicate (n - i) (0:Int)).set i (i:Int)=Lm (i+1)++List.replicate (n - (i+1)) (0:Int):=by
  have e:n - i=(n - (i+1))+1:=by omega
  rw[e,List.replicate_succ,List.set_append_right _ _ (by rw[yh];omega),yh,Nat.sub_self,List.set_cons_zero];unfold Lm;rw[List.range_succ,List.map_append,List.append_assoc];rfl
theorem plc_get (n i:Nat)(h:i < n):∃ x,iT (Lm i++List.replicate (n - i) (0:Int)) (i:Int)=some x :=
  ⟨_,yl (by simp[yh];omega)⟩
theorem fneb {a b:Bool}(h1:a=false)(h2:b=false):¬ ((a||b)=true):=by rw[h1,h2];decide
structure Places (n:Nat)(l:List Int):Prop where
  rng:∀ x ∈ l,0<=x/\x < (n:Int)
  one:l.Nodup
theorem Places.Lm (n:Nat):Places n (Lm n):=by
  refine⟨fun x hx=>?_,?_⟩
  ·unfold Go.Sx.Lm at hx;rw[List.mem_map] at hx;obtain⟨j,hj,rfl⟩:=hx;rw[List.mem_range] at hj;omega
  ·unfold Go.Sx.Lm;refine List.Pairwise.map _ (fun a b hab=>?_) List.nodup_range;intro e;exact hab (by omega)
theorem Places.perm {n:Nat}{l l':List Int}(h:Places n l)(hp:l'.Perm l):Places n l' :=
  ⟨fun x hx=>h.rng x (hp.mem_iff.1 hx),hp.nodup_iff.2 h.one⟩
theorem Places.take {n:Nat}{l:List Int}(h:Places n l)(k:Nat):Places n (l.take k) :=
  ⟨fun x hx=>h.rng x (List.mem_of_mem_take hx),h.one.sublist (List.take_sublist _ _)⟩
theorem Places.srt {n:Nat}{l:List Int}(h:Places n l):Places n (OV l):=h.perm (List.mergeSort_perm _ _)
theorem swp_perm (l:List Int){i j:Nat}(hi:i < l.length)(hj:j < l.length):(swp l i j).Perm l:=by
  unfold swp;have e1:l.getD j 0=l[j]:=by simp[List.getD,hj]
  have e2:l.getD i 0=l[i]:=by simp[List.getD,hi]
  rw[e1,e2];exact List.set_set_perm hi hj
theorem Ny {W:Nat->Lf}:∀ {i:Nat} {l:List Int} {m:Nat} {l':List Int} {m':Nat},Ll W i l m=some (l',m')->(i < l.length∨i=0)->l.length<=4096->l'.Perm l
  | 0,l,m,l',m',h,_,_=>by simp only[Ll,Option.some.injEq,Prod.mk.injEq] at h;rw[h.1]
  | i+1,l,m,l',m',h,hi,hl=>by
    unfold Ll at h;split at h
    ·rename_i v m1 hw;have hlt:=bw_lt (n:=i+2) (by omega) (by omega) v;exact(Ny h (by rw[Md];omega) (by rw[Md];exact hl)).trans (swp_perm l (by omega) (by omega))
    ·cases h
section
variable (R:L3)(hR:R.length=64)(d:Int)(blk nk:L3)(last:Bool)(wr:Lf)(h:L5)(lo hi:Lf)(held:L3)(hh:held.length<=128)
  (hn:lS 1 d blk nk last wr h lo hi held 128 64=some (R,0,h,lo,hi,held,128,1,d,last,wr))
  (seed key:L3)
include hn hR
theorem order1 (n:Nat)(hn4:n<=4096){m:Nat}{r:L3}{nw:L7}{hv:Int}(g:GS R m r nw hv) :
    ∃ r' uH hv',match Ll (OU R) (n - 1) (Lm n) m with
      | some (l',m')=>GS R m' r' uH hv'/\sK seed key [] [] 1 d blk nk last wr h lo hi held 128 r (av m) nw hv 0 (n:Int) (Lm n)=some (1,d,last,wr,h,lo,hi,held,128,r',av m',uH,hv',0,(n:Int),l')
      | none=>∃ l',GS R NW r' uH hv'/\sK seed key [] [] 1 d blk nk last wr h lo hi held 128 r (av m) nw hv 0 (n:Int) (Lm n)=some (1,d,last,wr,h,lo,hi,held,128,r',av NW,uH,hv',6,(n:Int),l'):=by
  unfold sK;by_cases h0:n=0
  ·subst h0;refine⟨r,nw,hv,g,mV ?_⟩;unfold nT;simp only[];rw[if_neg (by decide)];rfl
  ·rw[nN (by omega),show(n:Int) - 1=((n - 1:Nat):Int) from by omega];exact orderL R hR d blk nk last wr h lo hi held hn seed key (n:Int) (n - 1) m (Lm n) r nw hv 0 (by rw[yh];omega) (by rw[yh];exact hn4) g
include hh in
theorem dOrder (n:Nat)(hn4:n<=4096){m:Nat}{r:L3}{nw:L7}{hv:Int}(g:GS R m r nw hv) :
    ∃ r' uH hv',match Ll (OU R) (n - 1) (Lm n) m with
      | some (l',m')=>GS R m' r' uH hv'/\pK seed key [] [] 1 d blk nk last wr h lo hi held 128 r (av m) nw hv (n:Int)=some (l',0,1,d,last,wr,h,lo,hi,held,128,r',av m',uH,hv')
      | none=>GS R m r' uH hv'/\pK seed key [] [] 1 d blk nk last wr h lo hi held 128 r (av m) nw hv (n:Int)=some ([],6,1,d,last,wr,h,lo,hi,held,128,r',av m,uH,hv'):=by
  have key2:∀ {x},uw seed key [] [] 1 d blk nk last wr h lo hi held 128 r (av m) nw hv (n:Int) (Lm n)=some x->pK seed key [] [] 1 d blk nk last wr h lo hi held 128 r (av m) nw hv (n:Int)=(if x.1≠0 then some (([]:List Int),x.1,x.2.1,x.2.2.1,x.2.2.2.1,x.2.2.2.2.1,x.2.2.2.2.2.1,x.2.2.2.2.2.2.1,x.2.2.2.2.2.2.2.1,x.2.2.2.2.2.2.2.2.1,x.2.2.2.2.2.2.2.2.2.1,x.2.2.2.2.2.2.2.2.2.2.1,x.2.2.2.2.2.2.2.2.2.2.2.1,x.2.2.2.2.2.2.2.2.2.2.2.2.1,x.2.2.2.2.2.2.2.2.2.2.2.2.2.1) else some (x.2.2.2.2.2.2.2.2.2.2.2.2.2.2.2,(0:Int),x.2.1,x.2.2.1,x.2.2.2.1,x.2.2.2.2.1,x.2.2.2.2.2.1,x.2.2.2.2.2.2.1,x.2.2.2.2.2.2.2.1,x.2.2.2.2.2.2.2.2.1,x.2.2.2.2.2.2.2.2.2.1,x.2.2.2.2.2.2.2.2.2.2.1,x.2.2.2.2.2.2.2.2.2.2.2.1,x.2.2.2.2.2.2.2.2.2.2.2.2.1,x.2.2.2.2.2.2.2.2.2.2.2.2.2.1)):=by
    intro x hx;have hsome:∃ y,(if x.1≠0 then some (([]:List Int),x.1,x.2.1,x.2.2.1,x.2.2.2.1,x.2.2.2.2.1,x.2.2.2.2.2.1,x.2.2.2.2.2.2.1,x.2.2.2.2.2.2.2.1,x.2.2.2.2.2.2.2.2.1,x.2.2.2.2.2.2.2.2.2.1,x.2.2.2.2.2.2.2.2.2.2.1,x.2.2.2.2.2.2.2.2.2.2.2.1,x.2.2.2.2.2.2.2.2.2.2.2.2.1,x.2.2.2.2.2.2.2.2.2.2.2.2.2.1) else some (x.2.2.2.2.2.2.2.2.2.2.2.2.2.2.2,(0:Int),x.2.1,x.2.2.1,x.2.2.2.1,x.2.2.2.2.1,x.2.2.2.2.2.1,x.2.2.2.2.2.2.1,x.2.2.2.2.2.2.2.1,x.2.2.2.2.2.2.2.2.1,x.2.2.2.2.2.2.2.2.2.1,x.2.2.2.2.2.2.2.2.2.2.1,x.2.2.2.2.2.2.2.2.2.2.2.1,x.2.2.2.2.2.2.2.2.2.2.2.2.1,x.2.2.2.2.2.2.2.2.2.2.2.2.2.1))=some y:=by split <;> exact⟨_,rfl⟩
    obtain⟨y,hy⟩:=hsome;rw[hy];unfold pK fZ;rw[Option.bind_some,if_neg (fneb (decide_eq_false (by omega)) (decide_eq_false (by omega))),vT ⟨by omega,by omega,by omega⟩,Option.bind_some,plc_0];refine oV (fun i=>(Lm i++List.replicate (n - i) (0:Int),(i:Int))) n (fun i hi=>?_) ?_
    ·obtain⟨x,hx⟩:=plc_get n i hi;unfold y9;dsimp only;rw[if_pos (by omega),hx,Option.bind_some,show Int.toNat (i:Int)=i from rfl,plc_step n i hi,show dU ((i:Int)+1)=((i+1:Nat):Int) from by rw[nN] <;> omega]
    ·unfold y9;dsimp only;rw[if_neg (by omega),Nat.sub_self,List.replicate_zero,List.append_nil,hx,Option.bind_some,hy];rfl
  obtain⟨r',uH,hv',hb⟩:=order1 R hR d blk nk last wr h lo hi held hn seed key n hn4 g;have hd:∀ {x},sK seed key [] [] 1 d blk nk last wr h lo hi held 128 r (av m) nw hv 0 (n:Int) (Lm n)=some x->uw seed key [] [] 1 d blk nk last wr h lo hi held 128 r (av m) nw hv (n:Int) (Lm n)=if x.2.2.2.2.2.2.2.2.2.2.2.2.2.1≠0 then oz x 1 d last wr h lo hi held 128 r (av m) nw hv else oz x x.1 x.2.1 x.2.2.1 x.2.2.2.1 x.2.2.2.2.1 x.2.2.2.2.2.1 x.2.2.2.2.2.2.1 x.2.2.2.2.2.2.2.1 x.2.2.2.2.2.2.2.2.1 x.2.2.2.2.2.2.2.2.2.1 x.2.2.2.2.2.2.2.2.2.2.1 x.2.2.2.2.2.2.2.2.2.2.2.1 x.2.2.2.2.2.2.2.2.2.2.2.2.1:=by
    intro x hx;unfold uw fZ;rw[Option.bind_some];dsimp only;rw[copyK d blk nk last wr h lo hi held hh key r (av m) nw hv,Option.bind_some];dsimp only;rw[hx,Option.bind_some]
  cases ho:Ll (OU R) (n - 1) (Lm n) m with
  | none =>
    rw[ho] at hb;obtain⟨l',_,hb⟩:=hb;refine⟨r,nw,hv,g,?_⟩;have h2:=hd hb;dsimp only at h2;rw[if_pos (by decide)] at h2;unfold oz at h2;rw[key2 h2];dsimp only;rw[if_pos (by decide)]
  | some x =>
    obtain⟨l',m'⟩:=x;rw[ho] at hb;dsimp only at hb;refine⟨r',uH,hv',hb.1,?_⟩;have h2:=hd hb.2;dsimp only at h2;rw[if_neg nz] at h2;unfold oz at h2;rw[key2 h2];dsimp only;rw[if_neg nz]
omit hn hR in
theorem dOrderE (n:Int)(hn4:n < 0∨4096 < n)(r:L3)(a:Lf)(nw:L7)(hv:Int) :
    pK seed key [] [] 1 d blk nk last wr h lo hi held 128 r a nw hv n=some ([],1,1,d,last,wr,h,lo,hi,held,128,r,a,nw,hv):=by
  unfold pK fZ;rw[Option.bind_some,if_pos (by simpa using hn4)]
include hh in
theorem dChoose (n k:Nat)(hn4:n<=4096)(hk:k<=n){m:Nat}{r:L3}{nw:L7}{hv:Int}(g:GS R m r nw hv) :
    ∃ r' uH hv',match Ll (OU R) (n - 1) (Lm n) m with
      | some (l',m')=>GS R m' r' uH hv'/\rC seed key [] [] 1 d blk nk last wr h lo hi held 128 r (av m) nw hv (n:Int) (k:Int)=some (OV (l'.take k),0,1,d,last,wr,h,lo,hi,held,128,r',av m',uH,hv')
      | none=>GS R m r' uH hv'/\rC seed key [] [] 1 d blk nk last wr h lo hi held 128 r (av m) nw hv (n:Int) (k:Int)=some ([],6,1,d,last,wr,h,lo,hi,held,128,r',av m,uH,hv'):=by
  obtain⟨r',uH,hv',hb⟩:=dOrder R hR d blk nk last wr h lo hi held hh hn seed key n hn4 g;refine⟨r',uH,hv',?_⟩;unfold rC fZ;rw[Option.bind_some,if_neg (fneb (by rw[decide_eq_false (by omega),decide_eq_false (by omega),decide_eq_false (by omega)];rfl) (decide_eq_false (by omega)))];dsimp only;cases ho:Ll (OU R) (n - 1) (Lm n) m with
  | none =>
    rw[ho] at hb;refine⟨hb.1,?_⟩;rw[hb.2,Option.bind_some];dsimp only;rw[if_pos (by decide)]
  | some x =>
    obtain⟨l',m'⟩:=x;rw[ho] at hb;dsimp only at hb;refine⟨hb.1,?_⟩;have hll:l'.length=n:=by rw[(Ny ho (by rw[yh];omega) (by rw[yh];exact hn4)).length_eq,yh]
    rw[hb.2,Option.bind_some];dsimp only;rw[if_neg nz,Kw (by omega),Option.bind_some,vT (by omega),Option.bind_some,vT (by simp;omega),Option.bind_some];rfl
omit hn hR in
theorem dChooseE (n k:Int)(hn4:((n < 0∨4096 < n)∨k < 0)∨n < k)(r:L3)(a:Lf)(nw:L7)(hv:Int) :
    rC seed key [] [] 1 d blk nk last wr h lo hi held 128 r a nw hv n k=some ([],1,1,d,last,wr,h,lo,hi,held,128,r,a,nw,hv):=by
  unfold rC fZ;rw[Option.bind_some,if_pos (by simpa using hn4)]
end
end Go.Sx
namespace Go.Sx
open Go.RowKit
set_option linter.unusedVariables false
set_option linter.unusedSimpArgs false
theorem rNeed (s:L3){m:Nat}(hm:m<=NW)(n:Lf):yI s (uo m) n=some (decide (n.toNat<=NW - m)):=by
  unfold yI;rw[decide_eq_decide.2 (by rw[UInt64.le_iff_toNat_le,left_uo hm])]
theorem rWordE (s:L3):qA s (uo NW)=some (0,false,uo NW):=by
  unfold qA;rw[rNeed s (Nat.le_refl _),Option.bind_some];have:decide ((1:Lf).toNat<=NW - NW)=false:=by decide
  rw[this];rfl
section
variable (W:Nat->Lf)(s:L3)(hW:∀ m,m < NW->qA s (uo m)=some (W m,true,uo (m+1)))
include hW
def rb (W:Nat->Lf)(n:Lf):Nat->Lf->Nat->Option (Lf×Nat)
  | 0,w,m=>some (w,m)
  | k+1,w,m=>if m < NW then bx W n k (W m) (m+1) else none
theorem rBelowL (n:Lf)(hne:n≠0)(da:Lf):∀ (k t m:Nat) (w:Lf),t+k=64->m<=NW ->
    gY (uN da n) (s,uo m,w,(t:Int))=match rb W n k w m with
      | some (v,m')=>some (v % n,0,s,uo m')
      | none=>some (0,6,s,da):=by
  intro k
  induction k with
  | zero =>
    intro t m w ht hm;obtain rfl:t=64:=by omega
    refine mV ?_;unfold uN;simp only[];rw[if_neg (by decide)];unfold uM yR;rw[vT hne];rfl
  | succ k ih =>
    intro t m w ht hm;rw[show rb W n (k+1) w m=if m < NW then bx W n k (W m) (m+1) else none from rfl];by_cases hc:m < NW
    ·rw[if_pos hc];have e:∀ {z},(uN da n (s,uo m,w,(t:Int))=z) ↔ ((if W m<=((18446744073709551615:Lf) - (((18446744073709551615:Lf) - (n - 1)) % n)) then(Option.map Sum.inr (uM n (W m) s (uo (m+1)))) else(some (.inl (s,uo (m+1),W m,dU ((t:Int)+1)))))=z):=by
       intro z;unfold uN;simp only[];rw[if_pos (by omega),hW m hc,Option.bind_some];exact Iff.rfl
     by_cases ho:okw n (W m)=true
     ·have hbx:bx W n k (W m) (m+1)=some (W m,m+1):=by
        cases k with
        | zero=>rfl
        | succ k=>unfold bx;rw[if_pos ho]
      rw[hbx];refine mV (e.2 ?_);rw[if_pos (of_decide_eq_true ho)];unfold uM yR;rw[vT hne];rfl
     ·rw[ry (e.2 (by rw[if_neg (fun q=>ho (decide_eq_true q))])),nN (by omega),show(t:Int)+1=((t+1:Nat):Int) from by omega,ih (t+1) (m+1) (W m) (by omega) hc];have hrb:rb W n k (W m) (m+1)=bx W n k (W m) (m+1):=by
        cases k with
        | zero=>rfl
        | succ k=>rw[show rb W n (k+1) (W m) (m+1)=if m+1 < NW then bx W n k (W (m+1)) (m+1+1) else none from rfl,show bx W n (k+1) (W m) (m+1)=if okw n (W m)=true then some (W m,m+1) else if m+1 < NW then bx W n k (W (m+1)) (m+1+1) else none from rfl,if_neg ho]
      rw[hrb]
    ·obtain rfl:m=NW:=by omega
     rw[if_neg hc];refine mV ?_;unfold uN;simp only[];rw[if_pos (by omega),rWordE s,Option.bind_some];rfl
theorem rBelow (n:Lf)(hne:n≠0){m:Nat}(hm:m<=NW):uy s (uo m) n=match bw W n m with
      | some (v,m')=>some (v % n,0,s,uo m')
      | none=>some (0,6,s,uo m):=by
  unfold uy;rw[if_neg hne,vT hne,Option.bind_some];exact rBelowL W s hW n hne (uo m) 64 0 m 0 rfl hm
omit hW in
theorem rBelow0 (a:Lf):uy s a 0=some (0,1,s,a):=by
  unfold uy;rw[if_pos rfl]
theorem ZA {m:Nat}(hm:m < NW):qH s (uo m)=some (shw (W m),0,uo (m+1)):=by
  unfold qH;rw[hW m hm,Option.bind_some];rfl
omit hW in
theorem ZB:qH s (uo NW)=some (0,6,uo NW):=by
  unfold qH;rw[rWordE s,Option.bind_some];rfl
theorem rBellL:∀ (k t m q:Nat),t+k=12->m+k<=NW->gY zJ (s,uo m,q,(t:Int))=some (far .sub (bsum W k m q) 4618441417868443648,0,s,uo (m+k)):=by
  intro k
  induction k with
  | zero =>
    intro t m q ht hm;obtain rfl:t=12:=by omega
    refine mV ?_;unfold zJ;simp only[];rw[if_neg (by decide)];rfl
  | succ k ih =>
    intro t m q ht hm;rw[ry (s':=(s,uo (m+1),far .add q (shw (W m)),((t+1:Nat):Int))) (by
      unfold zJ;simp only[];rw[if_pos (by omega),ZA W s hW (by omega),Option.bind_some,nN (by omega)];rfl),ih (t+1) (m+1) _ (by omega) (by omega),show m+1+k=m+(k+1) from by omega]
    rfl
theorem rBell {m:Nat}(hm:m<=NW):C9 s (uo m)=if m+12<=NW then some (far .sub (bsum W 12 m 0) 4618441417868443648,0,s,uo (m+12)) else some (0,6,s,uo m):=by
  unfold C9;rw[rNeed s hm,Option.bind_some];have e:(12:Lf).toNat=12:=rfl;by_cases hc:m+12<=NW
  ·rw[if_pos hc,decide_eq_true (by rw[e];omega),if_neg (by decide)];exact rBellL W s hW 12 0 m 0 rfl hc
  ·rw[if_neg hc,decide_eq_false (by rw[e];omega),if_pos (by decide)]
omit hW in
theorem rSkip {m:Nat}(hm:m<=NW)(n:Lf):Dc s (uo m) n=if n.toNat<=NW - m then some (0,uo (m+n.toNat)) else some (1,uo m):=by
  unfold Dc;rw[rNeed s hm,Option.bind_some];by_cases hc:n.toNat<=NW - m
  ·have hs:uo m+n=uo (m+n.toNat):=by
     apply UInt64.toNat_inj.1;rw[UInt64.toNat_add,uo_n hm,uo_n (by omega)];have hN:NW=34359738368:=rfl;omega
   rw[if_pos hc,decide_eq_true hc,if_neg (by decide),hs]
  ·rw[if_neg hc,decide_eq_false hc,if_pos (by decide)]
theorem rOrderL (da:Lf):∀ (i m:Nat) (l:List Int),(i < l.length∨i=0)->l.length<=4096->m<=NW ->
    gY (sG da) (s,uo m,l,(i:Int))=match Ll W i l m with
      | some (l',m')=>some (l',0,s,uo m')
      | none=>some ([],6,s,da):=by
  intro i
  induction i with
  | zero =>
    intro m l hi hl hm;refine mV ?_;unfold sG;simp only[];rw[if_neg (by decide)];rfl
  | succ i ih =>
    intro m l hil hl hm;have hi':i+1 < l.length:=by omega
    have hne:UInt64.ofNat (i+2)≠0:=by
      intro e;have:=congrArg UInt64.toNat e;rw[UInt64.toNat_ofNat'] at this;have e0:(0:Lf).toNat=0:=rfl;omega
    have hb:=rBelow W s hW (UInt64.ofNat (i+2)) hne hm;unfold Ll;cases hw:bw W (UInt64.ofNat (i+2)) m with
    | some x =>
      obtain⟨v,m'⟩:=x;rw[hw] at hb;dsimp only at hb;have hlt:=bw_lt (n:=i+2) (by omega) (by omega) v;have hv2:(v % UInt64.ofNat (i+2)).toNat < l.length:=Nat.lt_of_lt_of_le hlt (by omega);have hm':m'<=NW:=by
        unfold bw at hw;split at hw
        ·exact bx_le hw (by omega)
        ·cases hw
      rw[ry (s':=(s,uo m',swp l (i+1) (v % UInt64.ofNat (i+2)).toNat,(i:Int))) (by
        unfold sG;simp only[];rw[if_pos (by omega),u_n (by omega),hb,Option.bind_some];dsimp only;have e0:dU (((v % UInt64.ofNat (i+2)).toNat:Nat):Int)=(((v % UInt64.ofNat (i+2)).toNat:Nat):Int):=nN (by omega);rw[if_neg nz,UF hi',Option.bind_some,e0,UF hv2,Option.bind_some,Option.bind_some,UF (by simpa using hv2),Option.bind_some,nN (by omega)];have e1:Int.toNat ((i+1:Nat):Int)=i+1:=by omega
        have e2:Int.toNat (((v % UInt64.ofNat (i+2)).toNat:Nat):Int)=(v % UInt64.ofNat (i+2)).toNat:=by omega
        have e3:((i+1:Nat):Int) - 1=(i:Int):=by omega
        rw[e1,e2,e3];rfl)]
      exact ih m' _ (by rw[Md];omega) (by rw[Md];exact hl) hm'
    | none =>
      rw[hw] at hb;dsimp only at hb;refine mV ?_;unfold sG;simp only[];rw[if_pos (by omega),u_n (by omega),hb,Option.bind_some];rfl
theorem rOrder (n:Nat)(hn4:n<=4096){m:Nat}(hm:m<=NW):vM s (uo m) (n:Int)=match Ll W (n - 1) (Lm n) m with
      | some (l',m')=>some (l',0,s,uo m')
      | none=>some ([],6,s,uo m):=by
  have hend:gY (sG (uo m)) (s,uo m,Lm n,dU ((n:Int) - 1))=match Ll W (n - 1) (Lm n) m with
      | some (l',m')=>some (l',0,s,uo m')
      | none=>some ([],6,s,uo m):=by
    by_cases h0:n=0
    ·subst h0;refine mV ?_;unfold sG;simp only[];rw[if_neg (by decide)];rfl
    ·rw[nN (by omega),show(n:Int) - 1=((n - 1:Nat):Int) from by omega];exact rOrderL W s hW (uo m) (n - 1) m (Lm n) (by rw[yh];omega) (by rw[yh];exact hn4) hm
  unfold vM;rw[if_neg (fneb (decide_eq_false (by omega)) (decide_eq_false (by omega)))];have hsome:∃ y,(match Ll W (n - 1) (Lm n) m with
      | some (l',m')=>some (l',(0:Int),s,uo m')
      | none=>some ([],6,s,uo m))=some y:=by split <;> exact⟨_,rfl⟩
  obtain⟨y,hy⟩:=hsome;rw[hy] at hend ⊢;refine oV (fun i=>(Lm i,(i:Int))) n (fun i hi=>?_) ?_
  ·unfold Bo;dsimp only;have e:Lm i++[(i:Int)]=Lm (i+1):=by unfold Lm;rw[List.range_succ,List.map_append];rfl
   rw[if_pos (by omega),yT (by rw[yh];simp;omega),Option.bind_some,e,nN (by omega)];rfl
  ·unfold Bo;dsimp only;rw[if_neg (by omega),hend];rfl
omit hW in
theorem rOrderE (n:Int)(hn4:n < 0∨4096 < n)(a:Lf):vM s a n=some ([],1,s,a):=by
  unfold vM;rw[if_pos (by simpa using hn4)]
omit hW in
theorem rChooseE (n k:Int)(hn4:((n < 0∨4096 < n)∨k < 0)∨n < k)(a:Lf):wR s a n k=some ([],1,s,a):=by
  unfold wR;rw[if_pos (by simpa using hn4)]
end
end Go.Sx
namespace Go.Sx
open Go.RowKit
set_option linter.unusedVariables false
set_option linter.unusedSimpArgs false
def chs (n:Nat)(l:List Int):List Int:=(Lm n).filter (fun x=>decide (x ∈ l))
theorem chs_step (i:Nat)(l:List Int):chs (i+1) l=if(i:Int) ∈ l then chs i l++[(i:Int)] else chs i l:=by
  unfold chs;have e:Lm (i+1)=Lm i++[(i:Int)]:=by unfold Lm;rw[List.range_succ,List.map_append];rfl
  rw[e,List.filter_append];by_cases h:(i:Int) ∈ l
  ·rw[if_pos h];simp[h]
  ·rw[if_neg h];simp[h]
theorem chs_len (n:Nat)(l:List Int):(chs n l).length<=n:=by
  unfold chs;exact Nat.le_trans (List.length_filter_le _ _) (by rw[yh];exact Nat.le_refl _)
theorem chs_srt {n:Nat}{l:List Int}(h:Places n l):chs n l=OV l:=by
  have hp:(chs n l).Perm (OV l):=by
    refine(List.perm_ext_iff_of_nodup (List.Nodup.sublist List.filter_sublist (Places.Lm n).one) h.srt.one).2 fun x=>?_;rw[List.mem_filter,decide_eq_true_eq,show(x ∈ OV l ↔ x ∈ l) from(List.mergeSort_perm l _).mem_iff];refine⟨fun q=>q.2,fun q=>⟨?_,q⟩⟩;obtain⟨h1,h2⟩:=h.rng x q;unfold Lm;rw[List.mem_map];exact⟨x.toNat,List.mem_range.2 (by omega),by omega⟩
  have hs1:(Lm n).Pairwise (fun a b=>decide (a<=b)=true):=by
    unfold Lm;refine List.Pairwise.map _ (fun a b hab=>?_) List.pairwise_lt_range;exact decide_eq_true (by omega)
  have hs2:(OV l).Pairwise (fun a b=>decide (a<=b)=true):=List.pairwise_mergeSort (le:=fun x y:Int=>decide (x<=y)) (fun a b c h1 h2=>decide_eq_true (Int.le_trans (of_decide_eq_true h1) (of_decide_eq_true h2))) (fun a b=>by
    rcases Int.le_total a b with q | q
    ·show(decide (a<=b)||decide (b<=a))=true;rw[decide_eq_true q];rfl
    ·show(decide (a<=b)||decide (b<=a))=true;rw[decide_eq_true q,Bool.or_true]) l
  exact List.Perm.eq_of_pairwise (le:=fun a b=>decide (a<=b)=true) (fun a b _ _ h1 h2=>Int.le_antisymm (of_decide_eq_true h1) (of_decide_eq_true h2)) (List.Pairwise.sublist List.filter_sublist hs1) hs2 hp
theorem rChooseI (k:Nat)(r:List Int×Int×L3×Lf)(hk:k<=r.1.length)(hl:r.1.length<=4096)(hd:r.1.Nodup)(i:Nat)(out:List Int)(ho:out.length<=4096)(hi:i<=4096) :
    gY (yA (k:Int) r (i:Int)) (out,(0:Int))=some (.inl (if(i:Int) ∈ r.1.take k then out++[(i:Int)] else out,((i+1:Nat):Int))):=by
  refine oV (fun j=>(if(i:Int) ∈ r.1.take j then out++[(i:Int)] else out,(j:Int))) k (fun j hj=>?_) ?_
  ·unfold yA;dsimp only;have hjl:j < r.1.length:=by omega
   rw[if_pos (by omega),yl hjl,Option.bind_some];have hmem:(i:Int) ∈ r.1.take (j+1) ↔ (i:Int) ∈ r.1.take j∨r.1[j]=(i:Int):=by
     rw[List.take_succ_eq_append_getElem hjl,List.mem_append,List.mem_singleton];exact or_congr_right eq_comm
   by_cases he:r.1[j]=(i:Int)
   ·have hno:¬ (i:Int) ∈ r.1.take j:=by
      intro hm;rw[List.mem_take_iff_getElem] at hm;obtain⟨q,hq,hqe⟩:=hm;have:=(List.getElem_inj hd (h₀:=by omega) (h₁:=hjl)).1 (hqe.trans he.symm);omega
    rw[if_pos he,if_neg hno,yT (by simp;omega),Option.bind_some,if_pos (hmem.2 (.inr he))];unfold vN;rw[nN (by omega)];rfl
   ·rw[if_neg he];unfold vN;rw[nN (by omega)];by_cases hm:(i:Int) ∈ r.1.take j
    ·rw[if_pos hm,if_pos (hmem.2 (.inl hm))];rfl
    ·rw[if_neg hm,if_neg (fun q=>(hmem.1 q).elim hm he)];rfl
  ·unfold yA;dsimp only;rw[if_neg (by omega),nN (by omega)];rfl
section
variable (W:Nat->Lf)(s:L3)(hW:∀ m,m < NW->qA s (uo m)=some (W m,true,uo (m+1)))
include hW
theorem rChoose (n k:Nat)(hn4:n<=4096)(hk:k<=n){m:Nat}(hm:m<=NW):wR s (uo m) (n:Int) (k:Int)=match Ll W (n - 1) (Lm n) m with
      | some (l',m')=>some (OV (l'.take k),0,s,uo m')
      | none=>some ([],6,s,uo m):=by
  unfold wR;rw[if_neg (fneb (by rw[decide_eq_false (by omega),decide_eq_false (by omega),decide_eq_false (by omega)];rfl) (decide_eq_false (by omega))),rOrder W s hW n hn4 hm];cases ho:Ll W (n - 1) (Lm n) m with
  | none=>rfl
  | some x =>
    obtain⟨l',m'⟩:=x;have hp:=Ny ho (by rw[yh];omega) (by rw[yh];exact hn4);have hll:l'.length=n:=by rw[hp.length_eq,yh]
    have hpl:Places n l':=(Places.Lm n).perm hp;dsimp only;rw[Option.bind_some];dsimp only;rw[if_neg nz,<-chs_srt (hpl.take k)];refine oV (fun i=>(chs i (l'.take k),(i:Int))) n (fun i hi=>?_) ?_
    ·unfold AB;dsimp only;have hc:=chs_len i (l'.take k);rw[if_pos (by omega),rChooseI k (l',0,s,uo m') (by dsimp only;omega) (by dsimp only;omega) hpl.one i (chs i (l'.take k)) (by omega) (by omega)];dsimp only;rw[chs_step]
    ·unfold AB;dsimp only;rw[if_neg (by omega)];rfl
end
end Go.Sx
namespace Go.Sx
open Go.RowKit
set_option linter.unusedVariables false
set_option linter.unusedSimpArgs false
def Cod (L:Int)(x:UInt32)(T:Nat):Prop:=(L=-1/\x=4294967295/\T=274877906944)∨(L=64/\x=64/\T=64)
theorem X9 {L:Int}{x:UInt32}{T:Nat}(hx:Cod L x T)(kl:Nat)(h:kl<=64):nX 1 64 (kl:Int) 1 1 0 0 x 0 0 [] []=some 0:=by
  rcases hx with⟨_,rfl,_⟩ | ⟨_,rfl,_⟩
  ·exact chkR kl h
  ·unfold nX;rw[show wE 1=some 64 from rfl];simp only[Option.bind_some];rw[if_neg (by omega),show dU (Int.tdiv 64 4)=16 from rfl,if_neg (by decide),if_neg (by simp only[Bool.or_eq_true,decide_eq_true_eq];omega),if_neg (by decide),if_neg (by decide),if_neg (by decide),if_neg (by decide),if_neg (by decide),if_neg (by decide),if_neg (by decide),if_neg (by decide)]
theorem chkPx {L:Int}{x:UInt32}{T:Nat}(hx:Cod L x T)(i:Lf)(h:i.toNat < 4294967296):nX 1 64 0 0 0 64 i x 0 64 [] []=some 0:=by
  rcases hx with⟨_,rfl,_⟩ | ⟨_,rfl,_⟩
  ·exact chkP i h
  ·have hi:¬ (4294967295:Lf) < i:=by
     intro hh;have:=UInt64.lt_iff_toNat_lt.1 hh;have e:(4294967295:Lf).toNat=4294967295:=rfl;omega
   unfold nX;rw[show wE 1=some 64 from rfl];simp only[Option.bind_some];rw[if_neg (by omega),show dU (Int.tdiv 64 4)=16 from rfl,if_neg (by decide),if_neg (by decide),if_neg (by decide),if_neg (by decide),if_neg (by simp[hi]),if_neg (by decide),if_neg (by decide),if_neg (by decide),if_neg (by decide),if_neg (by decide)]
noncomputable def AV (x:UInt32)(s:L3):L3:=encB 1 64 ((s.length:Nat):Int) 1 1 0 0 x 0 0 [] []
noncomputable def bkP (x:UInt32)(i:Lf):L3:=encB 1 64 0 0 0 64 i x 0 64 [] []
theorem bkR_len (x:UInt32)(s:L3):(AV x s).length=64:=by unfold AV;rw[W_ _ _ _ _ _ _ _ _ _ _ _ _ (.inl ⟨rfl,by simp,by simp⟩)];rfl
theorem ZC (x:UInt32)(i:Lf):(bkP x i).length=64:=by unfold bkP;rw[W_ _ _ _ _ _ _ _ _ _ _ _ _ (.inl ⟨rfl,by simp,by simp⟩)];rfl
noncomputable def Rt (x:UInt32)(s msg:L3):L3:=big.hash (AV x s) (big.kb s++msg) false
noncomputable def Pc (x:UInt32)(root:L3)(i:Lf):L3:=big.hash (bkP x i) (big.kb []++root) false
theorem Es (x:UInt32)(s msg:L3):(Rt x s msg).length=64:=big.Qe _ _ _
theorem ZE (x:UInt32)(root:L3)(i:Lf):(Pc x root i).length=64:=big.Qe _ _ _
theorem ansF (blk M:L3):big.ans blk M false 64=(big.hash blk M false,0):=by
  unfold Half.ans;rw[if_neg (by show ¬ ((64:Int) < 1∨((64:Nat):Int) < 64);omega)];rw[List.take_of_length_le (by rw[big.Qe];exact Nat.le_refl _)]
section
variable {L:Int}{x:UInt32}{T:Nat}(hx:Cod L x T)
include hx
omit hx in
theorem X_:AZ 1=some 64:=rfl
theorem rCode:Ie 1 L=some x:=by
  unfold Ie;rcases hx with⟨rfl,rfl,_⟩ | ⟨rfl,rfl,_⟩
  ·rw[if_neg (by decide),if_pos rfl]
  ·rw[if_pos (by decide)];rfl
theorem rTotal:∃ t:Lf,Ee 1 L=some t/\t.toNat=T:=by
  unfold Ee;rcases hx with⟨rfl,rfl,rfl⟩ | ⟨rfl,rfl,rfl⟩
  ·rw[if_pos rfl,X_,Option.bind_some];exact⟨_,rfl,rfl⟩
  ·rw[if_neg (by decide)];exact⟨_,rfl,rfl⟩
theorem rRooted (key:L3):EF 1 L key [] []=some (64,((key.length:Nat):Int),x):=by
  unfold EF;rw[X_,rCode hx];rfl
theorem rValid (key:L3)(hk:key.length<=64):Ed 1 L key [] []=some 0:=by
  unfold Ed;rw[if_neg (by decide),if_neg (by decide)];unfold Ec;rw[if_neg (by rcases hx with⟨rfl,_,_⟩ | ⟨rfl,_,_⟩ <;> decide),X_,Option.bind_some,if_neg (by omega),rRooted hx,Option.bind_some];dsimp only;rw[X9 hx _ hk];rfl
theorem rRoot (key msg:L3)(hk:key.length<=64)(hm:msg.length<=12000000):KN 1 L key [] [] msg=some (Rt x key msg,0):=by
  obtain⟨_,he2⟩:=UD 1 64 ((key.length:Nat):Int) 1 1 0 0 x 0 0 [] [] (X9 hx _ hk);unfold KN;rw[rValid hx key hk,Option.bind_some,if_neg nz,rRooted hx,Option.bind_some,X_,Option.bind_some];dsimp only;have hh:D9 1 64 ((key.length:Nat):Int) 1 1 0 0 x 0 0 [] [] key false 64 msg=_:=rhash_ok big 64 ((key.length:Nat):Int) 1 1 0 0 x 0 0 [] [] key false 64 msg _ (X9 hx _ hk) he2 (bkR_len x key) (.inr rfl) (Nat.le_trans hk (by decide)) hm;rw[hh,ansF];rfl
theorem rPiece (root:L3)(hr:root.length=64)(i:Lf)(hi:i.toNat*64+64<=T):Jj 1 L [] [] root i=some (Pc x root i,0):=by
  have hT:T<=274877906944:=by rcases hx with⟨_,_,rfl⟩ | ⟨_,_,rfl⟩ <;> omega
  have hi2:i.toNat < 4294967296:=by omega
  obtain⟨_,he2⟩:=UD 1 64 0 0 0 64 i x 0 64 [] [] (chkPx hx i hi2);obtain⟨t,ht,htn⟩:=rTotal hx;have e64:(UInt64.ofInt 64)=(64:Lf):=rfl;have n64:(64:Lf).toNat=64:=rfl;have hm:(i*64).toNat=i.toNat*64:=by rw[UInt64.toNat_mul,n64];omega
  have hs:(t - i*64).toNat=T - i.toNat*64:=by
    rw[UInt64.toNat_sub_of_le _ _ (UInt64.le_iff_toNat_le.2 (by rw[hm,htn];omega)),hm,htn]
  unfold Jj;rw[rValid hx [] (by simp),Option.bind_some,if_neg nz,X_,Option.bind_some,ht,Option.bind_some,Option.bind_some,e64];rw[show(decide (((root.length:Nat):Int)≠64))=false from decide_eq_false (by omega)];rw[show gif (!false) (need ((64:Lf)≠0))=need ((64:Lf)≠0) from rfl,vT (by decide),Option.bind_some,Bool.false_or];have hc:((t+64 - 1) / 64).toNat=(T+63) / 64:=by
    have n1:(1:Lf).toNat=1:=rfl;have ha:(t+64).toNat=T+64:=by rw[UInt64.toNat_add,htn,n64];omega
    rw[UInt64.toNat_div,UInt64.toNat_sub_of_le _ _ (UInt64.le_iff_toNat_le.2 (by rw[ha,n1];omega)),ha,n1,n64];rfl
  rw[if_neg (by
    rw[decide_eq_true_eq,UInt64.le_iff_toNat_le,hc];omega),if_neg (by
    rw[UInt64.lt_iff_toNat_lt,hs,n64];omega)]
  unfold Ef;rw[rCode hx,Option.bind_some];rw[e64,show dU ((64:Lf).toNat:Int)=64 from rfl,show UInt32.ofNat (64:Lf).toNat=(64:UInt32) from rfl];have hh:D9 1 64 0 0 0 64 i x 0 64 [] [] [] false 64 root=_:=rhash_ok big 64 0 0 0 64 i x 0 64 [] [] [] false 64 root _ (chkPx hx i hi2) he2 (ZC x i) (.inl rfl) (by simp) (by omega);rw[hh,ansF];rfl
end
theorem pcs_eq (root:L3)(hr:root.length<=64)(i:Lf)(h:i.toNat < 4294967296):pcs root i=Pc 4294967295 root i:=by
  have hx:Cod (-1) 4294967295 274877906944:=.inl ⟨rfl,rfl,rfl⟩;have e64:(64:Lf).toNat=64:=rfl;have eT:(274877906944:Lf).toNat=274877906944:=rfl;have hm:(i*64).toNat=i.toNat*64:=by rw[UInt64.toNat_mul,e64];omega
  have hs:((274877906944:Lf) - i*64).toNat=274877906944 - i.toNat*64:=by
    rw[UInt64.toNat_sub_of_le _ _ (UInt64.le_iff_toNat_le.2 (by rw[hm,eT];omega)),hm,eT]
  have hn:¬ ((274877906944:Lf) - i*64) < 64:=by
    intro hh;have:=UInt64.lt_iff_toNat_lt.1 hh;rw[hs,e64] at this;omega
  obtain⟨he1,_⟩:=UD 1 64 0 0 0 64 i 4294967295 0 64 [] [] (chkP i h);unfold pcs sF;rw[if_neg hn];unfold uj;rw[whashB 64 0 0 0 64 i 4294967295 0 64 [] [] [] false 64 root _ he1 (ZC _ i) (.inl rfl) (by simp) (by omega),ansF];rfl
end Go.Sx
namespace Go.Sx
open Go.RowKit
set_option linter.unusedVariables false
set_option linter.unusedSimpArgs false
theorem Xd (P:L3)(k j:Nat)(h:k+j < P.length):(P.drop k).take j++[P[k+j]]=(P.drop k).take (j+1):=by
  rw[List.take_succ_eq_append_getElem (by simp;omega),List.getElem_drop]
theorem rPartI (P:L3)(hP:P.length=64)(c:Int)(n k:Nat)(h0:0 < n)(hk:k+n<=64)(f:Lf) :
    gY (yx (n:Int) (P,c)) (f,[],(k:Int))=some (.inl (f+UInt64.ofNat n,(P.drop k).take n)):=by
  have hl:∀ j,j<=n->((P.drop k).take j).length=j:=fun j hj=>by simp;omega
  have h00:(f,([]:L3),(k:Int))=(f+UInt64.ofNat 0,(P.drop k).take 0,((k+0:Nat):Int)):=by
    rw[List.take_zero,show UInt64.ofNat 0=0 from rfl,UInt64.add_zero];rfl
  rw[h00];refine oV (fun j=>(f+UInt64.ofNat j,(P.drop k).take j,((k+j:Nat):Int))) n (fun j hj=>?_) ?_
  ·have hlj:=hl j (by omega);have e1:(f+UInt64.ofNat j)+1=f+UInt64.ofNat (j+1):=by
     rw[UInt64.add_assoc];congr 1;apply UInt64.toNat_inj.1;have e:(1:Lf).toNat=1:=rfl;rw[UInt64.toNat_add,UInt64.toNat_ofNat',UInt64.toNat_ofNat',e];omega
   unfold yx;dsimp only;rw[if_pos (by rw[hlj,hP];simp;omega),yl (by omega:k+j < P.length),Option.bind_some,yT (by rw[hlj];simp;omega),Option.bind_some,Xd P k j (by omega),e1,nN (by omega)];rfl
  ·unfold yx;dsimp only;rw[if_neg (by rw[hl n (Nat.le_refl _)];simp)];rfl
section
variable {L:Int}{x:UInt32}{T:Nat}(hx:Cod L x T)
include hx
theorem rTake (key data:L3)(hk:key.length<=64)(hd:data.length<=12000000)(f:Lf)(n:Nat)(h0:0 < n)(hn:f.toNat % 64+n<=64)(hf:f.toNat / 64*64+64<=T) :
    Ig 1 L key data f (n:Int)=some (((Pc x (Rt x key data) (f / 64)).drop (f.toNat % 64)).take n,0):=by
  have hT:T<=274877906944:=by rcases hx with⟨_,_,rfl⟩ | ⟨_,_,rfl⟩ <;> omega
  have hT2:64<=T:=by rcases hx with⟨_,_,rfl⟩ | ⟨_,_,rfl⟩ <;> omega
  obtain⟨t,ht,htn⟩:=rTotal hx;have hlt:f.toNat < T:=by omega
  have e64:(UInt64.ofInt 64)=(64:Lf):=rfl;have hdv:(f / 64).toNat=f.toNat / 64:=RY f;have hmd:(f % 64).toNat=f.toNat % 64:=at_mod f;have hP:=ZE x (Rt x key data) (f / 64);unfold Ig;rw[rValid hx key hk,Option.bind_some,if_neg nz,if_neg (fneb (decide_eq_false (by omega)) (decide_eq_false (by omega))),if_pos (by omega),ht,Option.bind_some,if_neg (by rw[UInt64.le_iff_toNat_le,htn];omega)];unfold AA;rw[ht,Option.bind_some,X_,Option.bind_some,rRoot hx key data hk hd,Option.bind_some];rw[ry (s':=(f+UInt64.ofNat n,((Pc x (Rt x key data) (f / 64)).drop (f.toNat % 64)).take n)) (by
    unfold Az;dsimp only;rw[if_pos (by
      rw[Bool.and_eq_true,decide_eq_true_eq,decide_eq_true_eq];exact⟨by simp;omega,UInt64.lt_iff_toNat_lt.2 (by rw[htn];exact hlt)⟩),e64,vT (by decide),Option.bind_some,rPiece hx (Rt x key data) (Es x key data) (f / 64) (by rw[hdv];exact hf),Option.bind_some,Option.bind_some]
    rw[show dU ((f % 64).toNat:Int)=((f.toNat % 64:Nat):Int) from by rw[hmd,w64u _ (by omega)]];exact rPartI (Pc x (Rt x key data) (f / 64)) hP 0 n (f.toNat % 64) h0 hn f)]
  rw[mV (r:=(((Pc x (Rt x key data) (f / 64)).drop (f.toNat % 64)).take n,1,L,[],[],false,0)) (by
    unfold Az;dsimp only;rw[if_neg (by
      rw[Bool.and_eq_true,decide_eq_true_eq];intro hh;have:=hh.1;simp at this;omega)]
    rfl)]
  rfl
end
theorem cod1:Cod (-1) 4294967295 274877906944:=.inl ⟨rfl,rfl,rfl⟩
theorem cod64:Cod 64 64 64:=.inr ⟨rfl,rfl,rfl⟩
theorem rWord (s:L3)(hs:s.length<=64)(m:Nat)(hm:m < NW):qA s (uo m)=some (OU (Rt 4294967295 s []) m,true,uo (m+1)):=by
  have hN:NW=34359738368:=rfl;have ha:=Zx (Nat.le_of_lt hm);have hR:=Es 4294967295 s [];have hl:=Zw (Rt 4294967295 s []) (by omega) (av m) (by omega) (by omega);unfold qA;rw[rNeed s (Nat.le_of_lt hm),Option.bind_some,decide_eq_true (show(1:Lf).toNat<=NW - m by have e:(1:Lf).toNat=1:=rfl;omega),if_neg (by decide),uo_8 (Nat.le_of_lt hm)];have ht:=rTake cod1 s [] hs (by simp) (av m) 8 (by decide) (by omega) (by omega);rw[show((8:Nat):Int)=8 from rfl] at ht;rw[ht,Option.bind_some];dsimp only;have he:((Pc 4294967295 (Rt 4294967295 s []) (av m / 64)).drop ((av m).toNat % 64)).take 8=rdw (Rt 4294967295 s []) (av m):=by
    unfold rdw;rw[pcs_eq _ (by omega) _ (by rw[RY];omega),List.drop_take,Nat.add_sub_cancel_left]
  rw[he];have hload:=rload8 (rdw (Rt 4294967295 s []) (av m)) 0 (by omega) (by omega);rw[show((8*0:Nat):Int)=0 from rfl] at hload;rw[hload,Option.bind_some,uo_s hm];rfl
end Go.Sx
namespace Go.Sx
open Go.RowKit
set_option linter.unusedVariables false
set_option linter.unusedSimpArgs false
theorem nodeX {L:Int}{x:UInt32}{T:Nat}(hx:Cod L x T)(key:L3)(h:key.length<=64):DU 1 64 ((key.length:Nat):Int) 1 1 0 0 x 0 0 [] [] key=some (Sum.inr (1,64,AV x key,key,JO (AV x key),0,0,big.kb key,128)):=by
  obtain⟨he1,_⟩:=UD 1 64 ((key.length:Nat):Int) 1 1 0 0 x 0 0 [] [] (X9 hx _ h);unfold DU;rw[he1];rw[Option.bind_some];dsimp only;rw[if_neg nz,if_neg (by simp)];unfold I4;have hbl:=bkR_len x key;unfold AV at hbl ⊢;rw[yT (by simp;omega),yT (by simp;omega)];rw[Option.bind_some,Option.bind_some,List.nil_append,List.nil_append];rw[beginB 64 _ key hbl (by omega)];rw[Option.bind_some,Option.bind_some]
theorem outX (x:UInt32)(key data:L3)(last:Bool)(wr:Lf):lS 1 64 (AV x key) key last wr (big.run (AV x key) (big.kb key++data)).1 (big.run (AV x key) (big.kb key++data)).2.1.1 (big.run (AV x key) (big.kb key++data)).2.1.2 (big.run (AV x key) (big.kb key++data)).2.2 128 64 =
    some (big.hash (AV x key) (big.kb key++data) last,0,(big.run (AV x key) (big.kb key++data)).1,(big.run (AV x key) (big.kb key++data)).2.1.1,(big.run (AV x key) (big.kb key++data)).2.1.2,(big.run (AV x key) (big.kb key++data)).2.2,128,1,64,last,wr) :=
  nout 64 (AV x key) key last wr (big.run (AV x key) (big.kb key++data)).1 (big.run (AV x key) (big.kb key++data)).2.1.1 (big.run (AV x key) (big.kb key++data)).2.1.2 (big.run (AV x key) (big.kb key++data)).2.2 (big.held (AV x key) (big.kb key++data)).1
theorem run0 (x:UInt32)(key:L3)(hk:key.length<=64):big.run (AV x key) (big.kb key++[])=(JO (AV x key),(0,0),big.kb key):=by
  rw[List.append_nil];exact Gl _ _ _ _ _ (big.Zu key (Nat.le_trans hk (by decide)))
theorem hnX (key:L3)(hk:key.length<=64):lS 1 64 (AV 4294967295 key) key false 0 (JO (AV 4294967295 key)) 0 0 (big.kb key) 128 64=some (Rt 4294967295 key [],0,JO (AV 4294967295 key),0,0,big.kb key,128,1,64,false,0):=by
  have h:=outX 4294967295 key [] false 0;rw[run0 _ key hk] at h;exact h
theorem kbX (key:L3)(hk:key.length<=64):(big.kb key).length<=128:=big.Zu key (Nat.le_trans hk (by decide))
theorem ownK (b:L3)(h:b.length<=64):zl b=some b:=by
  unfold zl;rw[yT (by simp only[List.length_nil];omega),Option.bind_some,List.nil_append]
theorem newE (seed:L3)(h:64 < seed.length):zg seed=some (Sum.inl 8):=by
  unfold zg;rw[if_pos (by omega)]
theorem newX (seed:L3)(h:seed.length<=64):zg seed=some (Sum.inr (seed,seed,[],[],1,64,AV 4294967295 seed,seed,JO (AV 4294967295 seed),0,0,big.kb seed,128,[],Vec.rep 64 (0:UInt8))):=by
  unfold zg;rw[if_neg (by omega)];unfold LP IB GN Du xK;rw[Option.bind_some,if_neg (by omega),Option.bind_some,TV,X9 cod1 _ h,Option.bind_some,Option.bind_some,if_neg nz,ownK seed h,ownK [] (by simp)];rw[Option.bind_some,Option.bind_some,Option.bind_some];unfold Aw xK;rw[Option.bind_some,nodeX cod1 seed h,Option.bind_some,Sum.elim_inr,Option.bind_some,Option.bind_some,Sum.elim_inr];rw[yT (by simp only[List.length_nil];omega),Option.bind_some,List.nil_append]
theorem pcX (root:L3)(hr:root.length<=64):uu [] [] root 0=some (Pc 64 root 0):=by
  obtain⟨he1,_⟩:=UD 1 64 0 0 0 64 0 64 0 64 [] [] (chkPx cod64 0 (by decide));unfold uu;rw[if_neg (by decide)];unfold uF;rw[whashB 64 0 0 0 64 0 64 0 64 [] [] [] false 64 root _ he1 (ZC _ 0) (.inl rfl) (by simp) (by omega),ansF];rfl
theorem takeX (key data:L3)(h:key.length<=64)(hd:data.length<=12000000):G_ key data=some (Pc 64 (Rt 64 key data) 0,0):=by
  have hkb:=kbX key h;have hR:=Es 64 key data;have hPl:=ZE 64 (Rt 64 key data) 0;unfold G_ G9 EJ Dw AL uV;rw[Option.bind_some,if_neg (by omega),Option.bind_some,TV,X9 cod64 _ h,Option.bind_some,Option.bind_some,if_neg nz,ownK key h,ownK [] (by simp)];rw[Option.bind_some,Option.bind_some,Option.bind_some];unfold yG uV;rw[Option.bind_some,nodeX cod64 key h,Option.bind_some,Sum.elim_inr,Option.bind_some,Option.bind_some,Sum.elim_inr];dsimp only;unfold AP uq;rw[Option.bind_some];dsimp only;unfold AO Dv uf;rw[Option.bind_some];dsimp only;rw[Zv (JO (AV 64 key)) (0,0) (big.kb key) data hd hkb];rw[Option.bind_some,Option.bind_some,Option.bind_some,Option.bind_some];dsimp only;unfold y8 uq;rw[Option.bind_some];dsimp only;unfold yY;have hA:(vW (fun h b c=>fB h b c false false) 128 (JO (AV 64 key)) (0,0) (big.kb key++data)).2.2.length<=128:=(big.held (AV 64 key) (big.kb key++data)).1;have hB:Byb (fB (vW (fun h b c=>fB h b c false false) 128 (JO (AV 64 key)) (0,0) (big.kb key++data)).1 (pad 128 (vW (fun h b c=>fB h b c false false) 128 (JO (AV 64 key)) (0,0) (big.kb key++data)).2.2) (Hw ((vW (fun h b c=>fB h b c false false) 128 (JO (AV 64 key)) (0,0) (big.kb key++data)).2.1.1,(vW (fun h b c=>fB h b c false false) 128 (JO (AV 64 key)) (0,0) (big.kb key++data)).2.1.2) (UInt64.ofNat (vW (fun h b c=>fB h b c false false) 128 (JO (AV 64 key)) (0,0) (big.kb key++data)).2.2.length)) true false)=Rt 64 key data:=rfl
  generalize vW (fun h b c=>fB h b c false false) 128 (JO (AV 64 key)) (0,0) (big.kb key++data)=A at hA hB ⊢;rw[nout 64 (AV 64 key) key false _ A.1 A.2.1.1 A.2.1.2 A.2.2 hA,hB,Option.bind_some];have hne:Rt 64 key data≠[]:=by
    intro e;rw[e] at hR;cases hR
  rw[vT hne,Option.bind_some,Option.bind_some];dsimp only;rw[if_neg (by simp),Option.bind_some,Option.bind_some];dsimp only;rw[show(0:Lf)+MM 0 (64 - 0)=0 from rfl];unfold y7 yZ;rw[Option.bind_some];dsimp only;unfold y5;rw[if_neg hne,Option.bind_some];dsimp only;rw[if_neg (by decide),if_neg (by decide)];unfold uG;dsimp only;have e0:dU (((0:Lf) / 64).toNat:Int)=0:=rfl;have e1:dU (((0:Lf) % 64).toNat:Int)=0:=rfl;have e2:(0:Lf) / 64=0:=rfl;have e3:(if dU (64 - (0:Int)) < dU (64 - ((([]:L3).length:Nat):Int)) then dU (64 - (0:Int)) else dU (64 - ((([]:L3).length:Nat):Int)))=64:=rfl;have hp:uu [] [] (Rt 64 key data) 0=some (Pc 64 (Rt 64 key data) 0):=pcX (Rt 64 key data) (by omega);rw[ry (s':=(64,Vf (Vec.rep 64 (0:UInt8)) 0 64 (Pc 64 (Rt 64 key data) 0),0,Pc 64 (Rt 64 key data) 0)) (by
    unfold xA;dsimp only;rw[if_pos (by decide),e0,if_pos (by decide),e2,hp,Option.bind_some];unfold uD;rw[e1,e3,Xa _ _ hPl,Kw (by rw[hPl];decide),Option.bind_some,yT (by simp[hPl];exact Nat.le_trans (Nat.min_le_right _ _) (by decide)),Option.bind_some];rw[show Int.toNat (dU (0+64))=64 from rfl,show Int.toNat (0:Int)=0 from rfl,List.drop_zero,List.nil_append,List.take_of_length_le (by omega)];rfl)]
  rw[mV (by
    unfold xA;dsimp only;rw[if_neg (by rw[hPl];decide)];rfl),Option.bind_some]
theorem forkR (s name:L3)(hs:s.length<=64)(a:Lf):Ac s a name=if 65536 < name.length then some (Sum.inl ()) else some (Sum.inr (Pc 64 (Rt 64 s name) 0)):=by
  unfold Ac;by_cases h:65536 < name.length
  ·rw[if_pos h,if_pos (by omega)]
  ·rw[if_neg h,if_neg (by omega)];have ht:=rTake cod64 s name hs (by omega) 0 64 (by decide) (by decide) (by decide);rw[show((64:Nat):Int)=64 from rfl] at ht;rw[ht,Option.bind_some];have hPl:=ZE 64 (Rt 64 s name) 0;rw[show(0:Lf) / 64=0 from rfl,show(0:Lf).toNat % 64=0 from rfl,List.drop_zero,List.take_of_length_le (by omega)]
end Go.Sx
namespace Go.Sx
open Go.RowKit
set_option linter.unusedVariables false
set_option linter.unusedSimpArgs false
theorem QN {α:Type}{xs:List α}{i:Nat}(h:i < xs.length):iT xs (i:Int)=some xs[i]:=by
  unfold iT;rw[if_pos (by omega)];simp[h]
structure Fq (x:Nat):Prop where
  nn:NN x
  lt:x < 18446744073709551616
  ge:0<=fz x
theorem fz_eq (x:Nat):fz x=if(x / 9223372036854775808 % 2 == 1)=true then -(fv (x % 9223372036854775808):Int) else(fv (x % 9223372036854775808):Int):=rfl
theorem fv_pos {r:Nat}(h:r≠0):0 < fv r:=by
  have:fv 0 < fv r:=QV (by omega);rw[fv_0] at this;exact this
theorem Fq.cases {x:Nat}(h:Fq x):Fp x∨x=9223372036854775808:=by
  obtain⟨h1,h2,h3⟩:=h;unfold NN at h1;rw[fz_eq] at h3;cases hs:(x / 9223372036854775808 % 2 == 1) with
  | false =>
    left;rw[beq_eq_false_iff_ne] at hs;unfold Fp;omega
  | true =>
    right;rw[hs,if_pos rfl] at h3;rw[beq_iff_eq] at hs;have h4:fv (x % 9223372036854775808)=0:=by omega
    rw[<- fv_0] at h4;have:=fv_inj h4;omega
theorem fz_m0:fz 9223372036854775808=0:=by decide
theorem num_m0:Num 9223372036854775808:=by decide
theorem Fp.num {x:Nat}(h:Fp x)(h2:x≠9218868437227405312):Num x:=by
  unfold Num;rw[h.mod];unfold Fp at h;omega
theorem add_m0 {s:Nat}(h:Fp s):far .add s 9223372036854775808=s:=by
  by_cases hi:s=9218868437227405312
  ·subst hi;rcases Zm h with⟨m,p,h1,_,_,h2⟩ | ⟨h1,_⟩
   ·omega
   ·obtain⟨n,q,g1,_⟩:=Lh num_m0;rw[(UC (op:=.add)).1 rfl];unfold Ieee.Format.add;rw[h1,g1,Ieee.Datum.sum,getD_map,inf_write]
  ·by_cases h0:s=0
   ·subst h0;decide
   ·have hr:=add_num (h.num hi) num_m0;rw[fz_m0,Int.add_zero,h.fz] at hr;obtain⟨neg,R,e,h1,_,h3,h4,h5⟩:=hr.ok;have hp:=fv_pos h0;rw[e,h3 (by omega)];show R=s;have q1:=h4 s h (by simp);have q2:=h5 s (by simp);omega
theorem add_q {s x:Nat}(h:Fp s)(hx:Fq x):Fp (far .add s x):=by
  rcases hx.cases with h1 | h1
  ·exact h.add h1
  ·rw[h1,add_m0 h];exact h
def fw (l:List Lf)(i:Nat):Nat:=uI (l.getD i 0).toNat
def sm (l:List Lf):Nat->Nat
  | 0=>0
  | i+1=>far .add (sm l i) (fw l i)
def an (l:List Lf):Nat->Bool
  | 0=>false
  | i+1=>an l i||qN .gtr (fw l i) 0
def gr (l:List Lf):Nat->List Int
  | 0=>[]
  | i+1=>if Num (fw l i) then gr l i else gr l i++[(i:Int)]
theorem Ir {l:List Lf}{i:Nat}(h:i < l.length):uI (l[i]).toNat=fw l i:=by
  unfold fw;rw[List.getD_eq_getElem?_getD,List.getElem?_eq_getElem h];rfl
theorem fw_lt (l:List Lf)(i:Nat):fw l i < 18446744073709551616:=by
  unfold fw uI;split
  ·decide
  ·exact(l.getD i 0).toNat_lt
def gd (l:List Lf)(i:Nat):Bool:=!(qN .neq (fw l i) (fw l i))&&!(qN .lss (fw l i) 0)
theorem gd_q {l:List Lf}{i:Nat}(h:gd l i=true):Fq (fw l i):=by
  unfold gd at h;simp only[Bool.and_eq_true,Bool.not_eq_true'] at h;have hn:NN (fw l i):=by
    apply Classical.byContradiction;intro hc;have:=(TU (x:=fw l i) (y:=fw l i) (.inl hc)).2.2.2.2.2;rw[h.1] at this;cases this
  refine⟨hn,fw_lt l i,?_⟩;have h2:=h.2;rw[(L9 hn nn_0).1,fz_0] at h2;have:=of_decide_eq_false h2;omega
theorem gd_1 {l:List Lf}{i:Nat}(h:gd l i=true):qN .neq (fw l i) (fw l i)=false/\qN .lss (fw l i) 0=false:=by
  unfold gd at h;simpa only [Bool.and_eq_true,Bool.not_eq_true'] using h
theorem sm_fp {l:List Lf}{i:Nat}(h:∀ j,j < i->gd l j=true):Fp (sm l i):=by
  induction i with
  | zero=>exact Nat.zero_le _
  | succ i ih=>exact add_q (ih fun j hj=>h j (by omega)) (gd_q (h i (by omega)))
theorem infW {x:Nat}(h:Fq x):Cb x=some (decide (¬ Num x)):=by
  unfold Cb Fh;rw[(L9 h.nn Zq.nn).2.2.1,Zq.fz];refine congrArg some (decide_eq_decide.2 ⟨fun q=>?_,fun q=>?_⟩)
  ·rcases h.cases with h1 | h1
   ·rw[h1.fz] at q;have:fv 9218868437227405311 < fv x:=by omega
    have:=X5.1 this;unfold Num;rw[h1.mod];omega
   ·rw[h1,fz_m0] at q;omega
  ·rcases h.cases with h1 | h1
   ·unfold Num at q;rw[h1.mod] at q;rw[h1.fz];have:fv 9218868437227405311 < fv x:=QV (by omega);omega
   ·rw[h1] at q;exact absurd num_m0 q
theorem Fp.q {x:Nat}(h:Fp x):Fq x:=⟨h.nn,by unfold Fp at h;omega,by rw[h.fz];exact Int.natCast_nonneg _⟩
theorem ZF (l:List Lf)(i:Nat):(gr l i).length<=i:=by
  induction i with
  | zero=>exact Nat.le_refl _
  | succ i ih =>
    unfold gr;split
    ·omega
    ·rw[List.length_append,List.length_singleton];omega
theorem firstBad (l:List Lf):(∀ i,i < l.length->gd l i=true)∨∃ k,k < l.length/\gd l k=false/\∀ j,j < k->gd l j=true:=by
  by_cases h:∀ i,i < l.length->gd l i=true
  ·exact .inl h
  ·right;have key:∀ n,(∃ k,k < n/\gd l k=false)->∃ k,k < n/\gd l k=false/\∀ j,j < k->gd l j=true:=by
     intro n
     induction n with
     | zero=>rintro⟨k,hk,_⟩;omega
     | succ n ih =>
       rintro⟨k,hk,h1⟩;by_cases h2:∃ k,k < n/\gd l k=false
       ·obtain⟨k,a,b,c⟩:=ih h2;exact⟨k,by omega,b,c⟩
       ·obtain rfl:k=n:=by
          rcases Nat.lt_or_ge k n with q | q
          ·exact absurd ⟨k,q,h1⟩ h2
          ·omega
        exact⟨k,by omega,h1,fun j hj=>by
          cases hq:gd l j with
          | true=>rfl
          | false=>exact absurd ⟨j,hj,hq⟩ h2⟩
   refine key l.length ?_;apply Classical.byContradiction;intro hc;exact h fun i hi=>by
     cases hq:gd l i with
     | true=>rfl
     | false=>exact absurd ⟨i,hi,hq⟩ hc
theorem w64s (i:Nat)(h:i < 9223372036854775807):dU ((i:Int)+1)=((i+1:Nat):Int):=by rw[nN] <;> omega
theorem weStep (l:List Lf)(hl:l.length<=4096)(i:Nat)(hi:i < l.length)(hg:gd l i=true) :
    uJ l (gr l i,sm l i,an l i,(i:Int))=some (.inl (gr l (i+1),sm l (i+1),an l (i+1),((i+1:Nat):Int))):=by
  have hq:=gd_q hg;obtain⟨g1,g2⟩:=gd_1 hg;have hgl:=ZF l i;unfold uJ;dsimp only;rw[if_pos (by omega),QN hi,Option.bind_some,Ir hi,g1,g2,if_neg (by decide),if_neg (by decide),infW hq,Option.bind_some,Option.bind_some];unfold yP yQ yO;rw[Ir hi,w64s i (by omega)];by_cases hn:Num (fw l i)
  ·rw[show(decide (¬ Num (fw l i)))=false from decide_eq_false (fun q=>q hn)];simp only[Bool.false_eq_true,if_false];cases ha:an l i <;> simp[gr,sm,an,hn,ha]
  ·rw[show(decide (¬ Num (fw l i)))=true from decide_eq_true hn];simp only[if_true];rw[yT (by simp only[List.length_cons,List.length_nil];omega),Option.bind_some];cases ha:an l i <;> simp[gr,sm,an,hn,ha]
theorem weBad (l:List Lf)(i:Nat)(hi:i < l.length)(hg:gd l i=false) :
    uJ l (gr l i,sm l i,an l i,(i:Int))=some (.inr ([],0,250)):=by
  unfold uJ;dsimp only;rw[if_pos (by omega),QN hi,Option.bind_some,Ir hi];unfold gd at hg;by_cases h1:qN .neq (fw l i) (fw l i)=true
  ·rw[if_pos h1];rfl
  ·rw[if_neg h1];have h1':qN .neq (fw l i) (fw l i)=false:=by simpa using h1
   rw[h1'] at hg;simp at hg;rw[if_pos hg];rfl
noncomputable def wgh (l:List Lf):List Int×Nat×Int :=
  if an l l.length=false then([],0,251)
  else if gr l l.length=[] then(if Num (sm l l.length) then([],sm l l.length,0) else([],0,250))
  else(gr l l.length,sm l l.length,0)
theorem weighG (l:List Lf)(hl:l.length<=4096)(hg:∀ i,i < l.length->gd l i=true):rZ l=some (wgh l):=by
  unfold rZ;rw[if_neg (by omega)];refine oV (fun i=>(gr l i,sm l i,an l i,(i:Int))) l.length (fun i hi=>weStep l hl i hi (hg i hi)) ?_;unfold uJ wgh;dsimp only;rw[if_neg (by omega)];cases ha:an l l.length with
  | false=>rw[if_pos (show(!false)=true from rfl),if_pos (show false=false from rfl)];rfl
  | true =>
    rw[if_neg (show ¬ ((!true)=true) by decide),if_neg (show ¬ (true=false) by decide)];by_cases h0:gr l l.length=[]
    ·rw[if_pos (by rw[h0];rfl),infW (sm_fp fun j hj=>hg j hj).q,Option.bind_some,if_pos h0];by_cases hn:Num (sm l l.length)
     ·rw[decide_eq_false (fun q=>q hn),if_neg (by decide),if_pos hn,h0];rfl
     ·rw[decide_eq_true hn,if_pos rfl,if_neg hn];rfl
    ·rw[if_neg (by intro e;exact h0 (List.eq_nil_of_length_eq_zero (by omega))),if_neg h0];rfl
theorem weighB (l:List Lf)(hl:l.length<=4096)(k:Nat)(hk:k < l.length)(hb:gd l k=false)(hg:∀ j,j < k->gd l j=true):rZ l=some ([],0,250):=by
  unfold rZ;rw[if_neg (by omega)];exact oV (fun i=>(gr l i,sm l i,an l i,(i:Int))) k (fun i hi=>weStep l hl i (by omega) (hg i hi)) (weBad l k hk hb)
theorem weighL (l:List Lf)(hl:4096 < l.length):rZ l=some ([],0,2):=by
  unfold rZ;rw[if_pos (by omega)]
end Go.Sx
namespace Go.Sx
open Go.RowKit
set_option linter.unusedVariables false
set_option linter.unusedSimpArgs false
theorem ZG (x:Nat):wQ x=some (decide (Num x)):=by
  unfold wQ;by_cases h:Num x
  ·rw[Zo h,(L9 nn_0 nn_0).2.2.2.2.1];simp[h]
  ·rw[sub_self_no h,(TU (.inl Zp)).2.2.2.2.1];simp[h]
theorem rwStep (l:List Lf)(hl:l.length<=4096)(i:Nat)(hi:i < l.length)(hg:gd l i=true) :
    xO l (an l i,(((gr l i).length:Nat):Int),sm l i,(i:Int))=some (.inl (an l (i+1),(((gr l (i+1)).length:Nat):Int),sm l (i+1),((i+1:Nat):Int))):=by
  obtain⟨g1,g2⟩:=gd_1 hg;have hgl:=ZF l i;have hw:=w64s i (by omega);have hw2:dU ((((gr l i).length:Nat):Int)+1)=(((gr l i).length+1:Nat):Int):=w64s _ (by omega);unfold xO;dsimp only;rw[if_pos (Int.ofNat_lt.2 hi),QN hi];simp only[Option.bind_some];rw[Ir hi,if_neg (by rw[g1];decide),if_neg (by rw[g2];decide),ZG,Option.bind_some];have hgr:(gr l (i+1)).length=if Num (fw l i) then(gr l i).length else(gr l i).length+1:=by
    show(if Num (fw l i) then gr l i else gr l i++[(i:Int)]).length=_;split
    ·rfl
    ·simp
  rw[hgr];unfold BN BO BM;rw[QN hi];simp only[Option.bind_some];rw[Ir hi,hw];by_cases hn:Num (fw l i)
  ·rw[decide_eq_true hn,if_pos hn];by_cases ha:an l i=true
   ·rw[if_pos ha,if_neg (by decide)];have:an l (i+1)=true:=by unfold an;rw[ha];rfl
    rw[this];rfl
   ·have ha':an l i=false:=by simpa using ha
    rw[if_neg ha,if_neg (by decide)];have:an l (i+1)=qN .gtr (fw l i) 0:=by show(an l i||_)=_;rw[ha'];rfl
    rw[this];rfl
  ·rw[decide_eq_false hn,if_neg hn];by_cases ha:an l i=true
   ·rw[if_pos ha,if_pos (by decide),hw2];have:an l (i+1)=true:=by unfold an;rw[ha];rfl
    rw[this];rfl
   ·have ha':an l i=false:=by simpa using ha
    rw[if_neg ha,if_pos (by decide),hw2];have:an l (i+1)=qN .gtr (fw l i) 0:=by show(an l i||_)=_;rw[ha'];rfl
    rw[this];rfl
theorem rwBad (l:List Lf)(i:Nat)(hi:i < l.length)(hg:gd l i=false)(s1:Bool)(s2:Int)(s3:Nat) :
    xO l (s1,s2,s3,(i:Int))=some (.inr (250,0,0)):=by
  unfold gd at hg;unfold xO;dsimp only;rw[if_pos (Int.ofNat_lt.2 hi),QN hi];simp only[Option.bind_some];rw[Ir hi];by_cases h1:qN .neq (fw l i) (fw l i)=true
  ·rw[if_pos h1];rfl
  ·rw[if_neg h1];by_cases h2:qN .lss (fw l i) 0=true
   ·rw[if_pos h2];rfl
   ·exfalso;rw[Bool.not_eq_true] at h1 h2;rw[h1,h2] at hg;cases hg
noncomputable def rwgh (l:List Lf):Int×Int×Nat:=if an l l.length=false then(251,0,0) else(0,(((gr l l.length).length:Nat):Int),sm l l.length)
theorem rweighG (l:List Lf)(hl:l.length<=4096)(hg:∀ i,i < l.length->gd l i=true):vY l=some (rwgh l):=by
  unfold vY;rw[if_neg (by omega)];refine oV (fun i=>(an l i,(((gr l i).length:Nat):Int),sm l i,(i:Int))) l.length (fun i hi=>rwStep l hl i hi (hg i hi)) ?_;unfold xO rwgh;dsimp only;rw[if_neg (by omega)];cases ha:an l l.length with
  | false=>rw[if_pos (show(!false)=true from rfl),if_pos (show false=false from rfl)];rfl
  | true=>rw[if_neg (show ¬ ((!true)=true) by decide),if_neg (show ¬ (true=false) by decide)];rfl
theorem rweighB (l:List Lf)(hl:l.length<=4096)(k:Nat)(hk:k < l.length)(hb:gd l k=false)(hg:∀ j,j < k->gd l j=true):vY l=some (250,0,0):=by
  unfold vY;rw[if_neg (by omega)];exact oV (fun i=>(an l i,(((gr l i).length:Nat):Int),sm l i,(i:Int))) k (fun i hi=>rwStep l hl i (by omega) (hg i hi)) (rwBad l k hk hb _ _ _)
theorem rweighL (l:List Lf)(hl:4096 < l.length):vY l=some (2,0,0):=by
  unfold vY;rw[if_pos (by omega)]
theorem gr_pre (l:List Lf){i j:Nat}(h:i<=j):∃ t,gr l j=gr l i++t:=by
  induction j with
  | zero=>obtain rfl:i=0:=(by omega);exact⟨[],by simp⟩
  | succ j ih =>
    by_cases hij:i=j+1
    ·subst hij;exact⟨[],by simp⟩
    ·obtain⟨t,ht⟩:=ih (by omega);show ∃ t,(if Num (fw l j) then gr l j else gr l j++[(j:Int)])=gr l i++t;split
     ·exact⟨t,ht⟩
     ·exact⟨t++[(j:Int)],by rw[ht,List.append_assoc]⟩
theorem nthK (l:List Lf)(hl:l.length<=4096)(n:Nat)(hn:n < (gr l l.length).length):Qm l (n:Int)=some ((gr l l.length)[n]):=by
  have key:∀ (k i:Nat),i+k=l.length->(gr l i).length<=n->gY (EH l) (((n - (gr l i).length:Nat):Int),(i:Int))=some ((gr l l.length)[n]):=by
    intro k
    induction k with
    | zero=>intro i h1 h2;obtain rfl:i=l.length:=(by omega);omega
    | succ k ih =>
      intro i h1 h2;have hil:i < l.length:=by omega
      have hw:=w64s i (by omega);have hgs:gr l (i+1)=if Num (fw l i) then gr l i else gr l i++[(i:Int)]:=rfl
      by_cases hnum:Num (fw l i)
      ·rw[if_pos hnum] at hgs;rw[ry (s':=(((n - (gr l (i+1)).length:Nat):Int),((i+1:Nat):Int))) (by
         unfold EH;dsimp only;rw[if_pos (Int.ofNat_lt.2 hil),QN hil,Option.bind_some,Ir hil,ZG,Option.bind_some,decide_eq_true hnum,if_neg (by decide)];unfold EG;rw[hw,hgs])]
       exact ih (i+1) (by omega) (by rw[hgs];exact h2)
      ·rw[if_neg hnum] at hgs;by_cases h0:n=(gr l i).length
       ·have hx:(gr l l.length)[n]=(i:Int):=by
          obtain⟨t,ht⟩:=gr_pre l (show i+1<=l.length from hil);rw[hgs] at ht;have:(gr l l.length)[n]?=some (i:Int):=by rw[ht,h0];simp
          rw[List.getElem?_eq_getElem hn] at this;exact Option.some.inj this
        rw[hx];refine mV ?_;unfold EH;dsimp only;rw[if_pos (Int.ofNat_lt.2 hil),QN hil,Option.bind_some,Ir hil,ZG,Option.bind_some,decide_eq_false hnum,if_pos (by decide),if_pos (by omega)];rfl
       ·rw[ry (s':=(((n - (gr l (i+1)).length:Nat):Int),((i+1:Nat):Int))) (by
          unfold EH;dsimp only;rw[if_pos (Int.ofNat_lt.2 hil),QN hil,Option.bind_some,Ir hil,ZG,Option.bind_some,decide_eq_false hnum,if_pos (by decide),if_neg (by omega)];unfold EG;have hlen:(gr l (i+1)).length=(gr l i).length+1:=by rw[hgs];simp
          have hg4:=ZF l l.length;rw[hw,nN (by omega),hlen];congr 3;omega)]
        exact ih (i+1) (by omega) (by rw[hgs];simp;omega)
  have:=key l.length 0 (by omega) (Nat.zero_le _);exact this
def pck (l:List Lf)(X:Nat):Nat->Nat->Nat->Nat->Nat
  | 0,i,s,lst=>lst
  | k+1,i,s,lst=>if qN .gtr (far .add s (fw l i)) X=true then i else pck l X k (i+1) (far .add s (fw l i)) (if qN .gtr (fw l i) 0=true then i else lst)
theorem pckP (l:List Lf)(hl:l.length<=4096)(aA:(List Int×Nat×Int))(j_:(Nat×Int×Lb)):∀ (k i s lst:Nat),i+k=l.length ->
    gY (sJ l aA j_) (s,(lst:Int),(i:Int))=some (((pck l (far .mul j_.1 aA.2.1) k i s lst:Nat):Int),0,j_.2.2.1,j_.2.2.2.1,j_.2.2.2.2.1,j_.2.2.2.2.2.1,j_.2.2.2.2.2.2.1,j_.2.2.2.2.2.2.2.1,j_.2.2.2.2.2.2.2.2.1,j_.2.2.2.2.2.2.2.2.2.1,j_.2.2.2.2.2.2.2.2.2.2.1,j_.2.2.2.2.2.2.2.2.2.2.2.1,j_.2.2.2.2.2.2.2.2.2.2.2.2.1,j_.2.2.2.2.2.2.2.2.2.2.2.2.2.1,j_.2.2.2.2.2.2.2.2.2.2.2.2.2.2):=by
  intro k
  induction k with
  | zero =>
    intro i s lst h1;refine mV ?_;unfold sJ;dsimp only;rw[if_neg (by omega)];rfl
  | succ k ih =>
    intro i s lst h1;have hil:i < l.length:=by omega
    have hw:=w64s i (by omega);unfold pck;by_cases hg:qN .gtr (far .add s (fw l i)) (far .mul j_.1 aA.2.1)=true
    ·rw[if_pos hg];refine mV ?_;unfold sJ;dsimp only;rw[if_pos (Int.ofNat_lt.2 hil),QN hil,Option.bind_some,Ir hil,if_pos hg];rfl
    ·rw[if_neg hg];have hs:sJ l aA j_ (s,(lst:Int),(i:Int))=some (.inl (far .add s (fw l i),(((if qN .gtr (fw l i) 0=true then i else lst):Nat):Int),((i+1:Nat):Int))):=by
       unfold sJ xG;dsimp only;rw[if_pos (Int.ofNat_lt.2 hil),QN hil,Option.bind_some,Option.bind_some,Ir hil,if_neg hg,hw];split <;> rfl
     rw[ry hs];exact ih (i+1) _ _ (by omega)
theorem pckR (s0:L3)(l:List Lf)(hl:l.length<=4096)(r_:(Int×Int×Nat))(nR:(Nat×Int×Lf)):∀ (k i s lst:Nat),i+k=l.length ->
    gY (vI s0 l r_ nR) (s,(lst:Int),(i:Int))=some (((pck l (far .mul nR.1 r_.2.2) k i s lst:Nat):Int),0,s0,nR.2.2):=by
  intro k
  induction k with
  | zero =>
    intro i s lst h1;refine mV ?_;unfold vI;dsimp only;rw[if_neg (by omega)];rfl
  | succ k ih =>
    intro i s lst h1;have hil:i < l.length:=by omega
    have hw:=w64s i (by omega);unfold pck;by_cases hg:qN .gtr (far .add s (fw l i)) (far .mul nR.1 r_.2.2)=true
    ·rw[if_pos hg];refine mV ?_;unfold vI;dsimp only;rw[if_pos (Int.ofNat_lt.2 hil),QN hil,Option.bind_some,Ir hil,if_pos hg];rfl
    ·rw[if_neg hg];have hs:vI s0 l r_ nR (s,(lst:Int),(i:Int))=some (.inl (far .add s (fw l i),(((if qN .gtr (fw l i) 0=true then i else lst):Nat):Int),((i+1:Nat):Int))):=by
       unfold vI zK;dsimp only;rw[if_pos (Int.ofNat_lt.2 hil),QN hil,Option.bind_some,Option.bind_some,Ir hil,if_neg hg,hw];split <;> rfl
     rw[ry hs];exact ih (i+1) _ _ (by omega)
end Go.Sx
namespace Go.Sx
open Go.RowKit
set_option linter.unusedVariables false
set_option linter.unusedSimpArgs false
def TY (x y:Nat):Prop:=Num x/\Num y/\qN .gtr x y=false/\Num (far .sub y x)
noncomputable instance (x y:Nat):Decidable (TY x y):=Classical.propDecidable _
section
variable (R:L3)(hR:R.length=64)(d:Int)(blk nk:L3)(last:Bool)(wr:Lf)(h:L5)(lo hi:Lf)(held:L3)(hh:held.length<=128)
  (hn:lS 1 d blk nk last wr h lo hi held 128 64=some (R,0,h,lo,hi,held,128,1,d,last,wr))
  (seed key:L3)
theorem betE {x y:Nat}(hx:x < 18446744073709551616)(hy:y < 18446744073709551616)(r:L3)(a:Lf)(nw:L7)(hv:Int) :
    xH seed key [] [] 1 d blk nk last wr h lo hi held 128 r a nw hv x y=if TY x y then((pJ seed key [] [] 1 d blk nk last wr h lo hi held 128 r a nw hv).bind fun nR=>if nR.2.1≠0 then some (0,nR.2.1,nR.2.2) else some (far .add x (far .mul (far .sub y x) nR.1),0,nR.2.2)) else some (0,1,1,d,last,wr,h,lo,hi,held,128,r,a,nw,hv):=by
  unfold xH fZ;rw[Option.bind_some];dsimp only;by_cases h1:qN .leq x y=true
  ·rw[if_neg (by rw[h1];decide)];have hxy:NN x/\NN y:=by
     refine Classical.byContradiction fun hc=>?_;have:=(TU (x:=x) (y:=y) (by by_cases q:NN x;exact .inr fun q2=>hc ⟨q,q2⟩;exact .inl q)).2.1;rw[this] at h1;cases h1
   obtain⟨hnx,hny⟩:=hxy;rw[infK x hx hnx,Option.bind_some];by_cases h2:x % 9223372036854775808=9218868437227405312
   ·rw[if_pos (decide_eq_true h2),if_neg (fun hc:TY x y=>by have:=hc.1;unfold Num at this;omega)]
   ·have hx1:=RX hnx h2;rw[if_neg (by rw[decide_eq_false h2];decide),infK y hy hny,Option.bind_some];by_cases h3:y % 9223372036854775808=9218868437227405312
    ·rw[if_pos (decide_eq_true h3),if_neg (fun hc:TY x y=>by have:=hc.2.1;unfold Num at this;omega)]
    ·have hy1:=RX hny h3;have hr:=sub_num hy1 hx1;rw[if_neg (by rw[decide_eq_false h3];decide),infK _ (rnd_lt hr) hr.nn,Option.bind_some];by_cases h4:far .sub y x % 9223372036854775808=9218868437227405312
     ·rw[if_pos (decide_eq_true h4),if_neg (fun hc:TY x y=>by have:=hc.2.2.2;unfold Num at this;omega)]
     ·have hd1:=RX hr.nn h4;rw[if_neg (by rw[decide_eq_false h4];decide),if_pos (show TY x y from⟨hx1,hy1,by
        rw[(L9 hnx hny).2.1] at h1;rw[(L9 hnx hny).2.2.1];have:=of_decide_eq_true h1;exact decide_eq_false (by omega),hd1⟩)]
  ·have h1':qN .leq x y=false:=by simpa using h1
   rw[if_pos (by rw[h1'];rfl),if_neg (fun hc:TY x y=>by
     have h5:=hc.2.2.1;rw[(L9 hc.1.nn hc.2.1.nn).2.1] at h1';rw[(L9 hc.1.nn hc.2.1.nn).2.2.1] at h5;have q1:=of_decide_eq_false h1';have q2:=of_decide_eq_false h5;omega)]
theorem rBetE (s:L3)(a:Lf)(x y:Nat):zI s a x y=if TY x y then((qH s a).bind fun j_=>if j_.2.1≠0 then some (0,j_.2.1,j_.2.2) else some (far .add x (far .mul (far .sub y x) j_.1),(0:Int),j_.2.2)) else some (0,1,a):=by
  unfold zI;rw[ZG,Option.bind_some];by_cases h1:Num x
  ·rw[decide_eq_true h1,if_neg (by decide),ZG,Option.bind_some];by_cases h2:Num y
   ·rw[decide_eq_true h2,if_neg (by decide)];by_cases h3:qN .gtr x y=true
    ·rw[if_pos h3,if_neg (fun hc:TY x y=>by have:=hc.2.2.1;rw[h3] at this;cases this)]
    ·have h3':qN .gtr x y=false:=by simpa using h3
     rw[if_neg h3,ZG,Option.bind_some];by_cases h4:Num (far .sub y x)
     ·rw[decide_eq_true h4,if_neg (by decide),if_pos (show TY x y from⟨h1,h2,h3',h4⟩)]
     ·rw[decide_eq_false h4,if_pos (by decide),if_neg (fun hc:TY x y=>h4 hc.2.2.2)]
   ·rw[decide_eq_false h2,if_pos (by decide),if_neg (fun hc:TY x y=>h2 hc.2.1)]
  ·rw[decide_eq_false h1,if_pos (by decide),if_neg (fun hc:TY x y=>h1 hc.1)]
theorem Qg (x:Nat):EX x x=some true:=by
  have:∃ z,Kt x=some z:=by
    unfold Kt SL;rw[Option.bind_some];by_cases h:qN .neq x x=true
    ·rw[if_pos h];exact⟨_,rfl⟩
    ·rw[if_neg h,vT (by
       intro e;rw[e,(TU (.inl Zp)).2.2.2.2.2] at h;exact h rfl),Option.bind_some]
     exact⟨_,rfl⟩
  obtain⟨z,hz⟩:=this;unfold EX;rw[hz,Option.bind_some,Option.bind_some];simp
end
end Go.Sx
namespace Go.Sx
open Go.RowKit
set_option linter.unusedVariables false
set_option linter.unusedSimpArgs false
theorem shw_0:shw 0=0:=by decide
inductive Wg (l:List Lf):List Int×Nat×Int->Int×Int×Nat->Prop
  | err (e:Int) (h:e≠0):Wg l ([],0,e) (e,0,0)
  | sum (e:l.length<=4096) (h0:gr l l.length=[]) (hn:Num (sm l l.length)):Wg l ([],sm l l.length,0) (0,0,sm l l.length)
  | sumE (h0:gr l l.length=[]) (hn:¬ Num (sm l l.length)):Wg l ([],0,250) (0,0,sm l l.length)
  | great (e:l.length<=4096) (h0:gr l l.length≠[]):Wg l (gr l l.length,sm l l.length,0) (0,(((gr l l.length).length:Nat):Int),sm l l.length)
theorem wg_ok (l:List Lf):∃ a b,rZ l=some a/\vY l=some b/\Wg l a b:=by
  by_cases hl:4096 < l.length
  ·exact⟨_,_,weighL l hl,rweighL l hl,.err 2 (by decide)⟩
  ·have hl':l.length<=4096:=by omega
   rcases firstBad l with hg | ⟨k,hk,hb,hg⟩
   ·refine⟨_,_,weighG l hl' hg,rweighG l hl' hg,?_⟩;unfold wgh rwgh;cases ha:an l l.length with
    | false=>rw[if_pos rfl,if_pos rfl];exact .err 251 (by decide)
    | true =>
      rw[if_neg (show ¬ (true=false) by decide),if_neg (show ¬ (true=false) by decide)];by_cases h0:gr l l.length=[]
      ·rw[if_pos h0];by_cases hn:Num (sm l l.length)
       ·rw[if_pos hn,h0];exact .sum hl' h0 hn
       ·rw[if_neg hn,h0];exact .sumE h0 hn
      ·rw[if_neg h0];exact .great hl' h0
   ·exact⟨_,_,weighB l hl' k hk hb hg,rweighB l hl' k hk hb hg,.err 250 (by decide)⟩
section
variable (R:L3)(hR:R.length=64)(d:Int)(blk nk:L3)(last:Bool)(wr:Lf)(h:L5)(lo hi:Lf)(held:L3)(hh:held.length<=128)
  (hn:lS 1 d blk nk last wr h lo hi held 128 64=some (R,0,h,lo,hi,held,128,1,d,last,wr))
  (seed key:L3) (s:L3) (hW:∀ m,m < NW->qA s (uo m)=some (OU R m,true,uo (m+1)))
include hn hR hh hW
theorem pickB (l:List Lf){m:Nat}{r:L3}{nw:L7}{hv:Int}(g:GS R m r nw hv) :
    ∃ n e m' r' uH hv',GS R m' r' uH hv'/\vH seed key [] [] 1 d blk nk last wr h lo hi held 128 r (av m) nw hv l=some (n,e,1,d,last,wr,h,lo,hi,held,128,r',av m',uH,hv')/\C_ s (uo m) l=some (n,e,s,uo m'):=by
  obtain⟨a,b,ha,hb,hw⟩:=wg_ok l;unfold vH fZ C_;rw[Option.bind_some,ha,Option.bind_some,hb,Option.bind_some];cases hw with
  | err e he =>
    refine⟨0,e,m,r,nw,hv,g,?_,?_⟩
    ·rw[if_pos he]
    ·rw[if_pos he]
  | sum hl h0 hnm =>
    dsimp only;rw[if_neg nz,if_neg (by decide),if_neg nz,if_neg (by decide),ZG,Option.bind_some,decide_eq_true hnm,if_neg (by decide)];by_cases hm:m < NW
    ·obtain⟨uH,hv',g',hs⟩:=dShare R hR d blk nk last wr h lo hi held hh hn seed key g hm;rw[hs,Option.bind_some,ZA (OU R) s hW hm,Option.bind_some];dsimp only;rw[if_neg nz,if_neg nz];have h1:=pckP l hl ([],sm l l.length,0) (shw (OU R m),0,1,d,last,wr,h,lo,hi,held,128,R,av (m+1),uH,hv') l.length 0 0 0 (by omega);have h2:=pckR s l hl (0,0,sm l l.length) (shw (OU R m),0,uo (m+1)) l.length 0 0 0 (by omega);exact⟨_,_,m+1,R,uH,hv',g',h1,h2⟩
    ·obtain rfl:m=NW:=by have:=g.2.2;omega
     rw[Zz R hR d blk nk last wr h lo hi held hh hn seed key g,Option.bind_some,ZB s,Option.bind_some];dsimp only;rw[if_pos (by decide),if_pos (by decide)];exact⟨0,6,NW,r,nw,hv,g,rfl,rfl⟩
  | sumE h0 hnm =>
    refine⟨0,250,m,r,nw,hv,g,?_,?_⟩
    ·dsimp only;rw[if_pos (by decide)]
    ·dsimp only;rw[if_neg nz,if_neg (by decide),ZG,Option.bind_some,decide_eq_false hnm,if_pos (by decide)]
  | great hl h0 =>
    have hgl:=ZF l l.length;have hpos:=List.length_pos_iff.2 h0;dsimp only;rw[if_neg nz,if_pos (by omega),if_neg nz,if_pos (by omega),Qz];have h1:0 < (UInt64.ofNat (gr l l.length).length).toNat:=by rw[UInt64.toNat_ofNat'];omega
    have hne:UInt64.ofNat (gr l l.length).length≠0:=by intro e;rw[e] at h1;exact absurd h1 (by decide)
    obtain⟨r',uH,hv',hx⟩:=dBelow R hR d blk nk last wr h lo hi held hh hn seed key _ h1 g;have hy:=rBelow (OU R) s hW _ hne g.2.2;cases hbw:bw (OU R) (UInt64.ofNat (gr l l.length).length) m with
    | none =>
      rw[hbw] at hx hy;dsimp only at hx hy;refine⟨0,6,m,r',uH,hv',hx.1,?_,?_⟩
      ·rw[hx.2,Option.bind_some];dsimp only;rw[if_pos (by decide)]
      ·rw[hy,Option.bind_some];dsimp only;rw[if_pos (by decide)]
    | some z =>
      obtain⟨v,m'⟩:=z;rw[hbw] at hx hy;dsimp only at hx hy;have hlt:=bw_lt (n:=(gr l l.length).length) hpos (by omega) v;have hw:dU (((v % UInt64.ofNat (gr l l.length).length).toNat:Nat):Int)=(((v % UInt64.ofNat (gr l l.length).length).toNat:Nat):Int):=nN (by omega);refine⟨(gr l l.length)[(v % UInt64.ofNat (gr l l.length).length).toNat],0,m',r',uH,hv',hx.1,?_,?_⟩
      ·rw[hx.2,Option.bind_some];dsimp only;rw[if_neg nz,QN hlt,Option.bind_some]
      ·rw[hy,Option.bind_some];dsimp only;rw[if_neg nz,hw,nthK l hl _ hlt,Option.bind_some]
end
end Go.Sx
namespace Go.Sx
open Go.RowKit
set_option linter.unusedVariables false
set_option linter.unusedSimpArgs false
section
variable (s:L3)(hs:s.length<=64){m:Nat}{r:L3}{nw:L7}{hv:Int}(g:GS (Rt 4294967295 s []) m r nw hv)
  (oN:Lf) (oK oM:Int) (oLo oHi:Nat) (hlo:oLo < 18446744073709551616) (hhi:oHi < 18446744073709551616) (oL:List Lf) (H7:L3)
def On (s:L3)(z:Option (Bool×Int×Int×Bool×Lf×L5×Lf×Lf×L3×Int×L3×Lf×L7×Int×L3×Lf)):Prop :=
  ∃ m' r' uH hv',GS (Rt 4294967295 s []) m' r' uH hv'/\z=some (true,1,64,false,0,JO (AV 4294967295 s),0,0,big.kb s,128,r',av m',uH,hv',s,uo m')
include hs g
include hlo hhi in
theorem floatsK (w:Int):On s (Eg s s [] [] 1 64 (AV 4294967295 s) s false 0 (JO (AV 4294967295 s)) 0 0 (big.kb s) 128 r (av m) nw hv s (uo m) w oN oK oM oLo oHi oL H7):=by
  have hW:=(fun m hm=>rWord s hs m hm)
  unfold Eg;by_cases h2:w=2
  ·rw[if_pos h2];by_cases hm:m < NW
   ·obtain⟨uH,hv',g',hd⟩:=dShare (Rt 4294967295 s []) (Es 4294967295 s []) 64 (AV 4294967295 s) s false 0 (JO (AV 4294967295 s)) 0 0 (big.kb s) (kbX s hs) (hnX s hs) s s g hm;rw[hd,Option.bind_some,ZA (OU (Rt 4294967295 s [])) s hW hm,Option.bind_some];unfold nH;rw[Qg,Option.bind_some];exact⟨m+1,_,uH,hv',g',rfl⟩
   ·obtain rfl:m=NW:=by have:=g.2.2;omega
    rw[Zz (Rt 4294967295 s []) (Es 4294967295 s []) 64 (AV 4294967295 s) s false 0 (JO (AV 4294967295 s)) 0 0 (big.kb s) (kbX s hs) (hnX s hs) s s g,Option.bind_some,ZB s,Option.bind_some,shw_0];unfold nH;rw[Qg,Option.bind_some];exact⟨NW,r,nw,hv,g,rfl⟩
  rw[if_neg h2];by_cases h3:w=3
  ·rw[if_pos h3,betE 64 _ s false 0 _ 0 0 _ s s hlo hhi,rBetE];by_cases hc:TY oLo oHi
   ·rw[if_pos hc,if_pos hc];by_cases hm:m < NW
    ·obtain⟨uH,hv',g',hd⟩:=dShare (Rt 4294967295 s []) (Es 4294967295 s []) 64 (AV 4294967295 s) s false 0 (JO (AV 4294967295 s)) 0 0 (big.kb s) (kbX s hs) (hnX s hs) s s g hm;rw[hd,Option.bind_some,ZA (OU (Rt 4294967295 s [])) s hW hm,Option.bind_some];dsimp only;rw[if_neg nz,if_neg nz,Option.bind_some,Option.bind_some];unfold nH;rw[Qg,Option.bind_some];exact⟨m+1,_,uH,hv',g',rfl⟩
    ·obtain rfl:m=NW:=by have:=g.2.2;omega
     rw[Zz (Rt 4294967295 s []) (Es 4294967295 s []) 64 (AV 4294967295 s) s false 0 (JO (AV 4294967295 s)) 0 0 (big.kb s) (kbX s hs) (hnX s hs) s s g,Option.bind_some,ZB s,Option.bind_some];dsimp only;rw[if_pos (by decide),if_pos (by decide),Option.bind_some,Option.bind_some];unfold nH;rw[Qg,Option.bind_some];exact⟨NW,r,nw,hv,g,rfl⟩
   ·rw[if_neg hc,if_neg hc,Option.bind_some,Option.bind_some];unfold nH;rw[Qg,Option.bind_some];exact⟨m,r,nw,hv,g,rfl⟩
  rw[if_neg h3];by_cases h4:w=4
  ·rw[if_pos h4];obtain⟨r',uH,hv',hb⟩:=dBell (Rt 4294967295 s []) (Es 4294967295 s []) 64 (AV 4294967295 s) s false 0 (JO (AV 4294967295 s)) 0 0 (big.kb s) (kbX s hs) (hnX s hs) s s g;rw[rBell (OU (Rt 4294967295 s [])) s hW g.2.2];rcases hb with⟨q,g',hd⟩ | ⟨q,g',hd⟩
   ·rw[hd,Option.bind_some,if_pos q,Option.bind_some];unfold nH;rw[Qg,Option.bind_some];exact⟨m+12,r',uH,hv',g',rfl⟩
   ·rw[hd,Option.bind_some,if_neg (by omega),Option.bind_some];unfold nH;rw[Qg,Option.bind_some];exact⟨m,r',uH,hv',g',rfl⟩
  rw[if_neg h4];unfold nH;rw[Qg,Option.bind_some];exact⟨m,r,nw,hv,g,rfl⟩
omit hs g in
theorem Ya (l:List Int)(hl:l.length<=4096):EI l l=some true:=by
  unfold EI;rw[if_neg (by simp)];refine oV (fun i=>(i:Int)) l.length (fun i hi=>?_) ?_
  ·unfold FC;dsimp only;rw[if_pos (by omega),QN hi,Option.bind_some,Option.bind_some,if_neg (by simp),nN (by omega)];rfl
  ·unfold FC;dsimp only;rw[if_neg (by omega)];rfl
theorem listsK (w:Int):On s (EZ s s [] [] 1 64 (AV 4294967295 s) s false 0 (JO (AV 4294967295 s)) 0 0 (big.kb s) 128 r (av m) nw hv s (uo m) w oN oK oM oLo oHi oL H7):=by
  have hW:=(fun m hm=>rWord s hs m hm)
  unfold EZ;by_cases h5:w=5
  ·rw[if_pos h5];obtain⟨n,e,m',r',uH,hv',g',h1,h2⟩:=pickB (Rt 4294967295 s []) (Es 4294967295 s []) 64 (AV 4294967295 s) s false 0 (JO (AV 4294967295 s)) 0 0 (big.kb s) (kbX s hs) (hnX s hs) s s s hW oL g;rw[h1,Option.bind_some,h2,Option.bind_some];refine⟨m',r',uH,hv',g',?_⟩;dsimp only;rw[decide_eq_true rfl,decide_eq_true rfl];rfl
  rw[if_neg h5];by_cases h6:w=6
  ·rw[if_pos h6];by_cases hk:oK < 0∨4096 < oK
   ·rw[dOrderE 64 _ s false 0 _ 0 0 _ s s oK hk,Option.bind_some,rOrderE s oK hk,Option.bind_some,Ya [] (by simp),Option.bind_some];exact⟨m,r,nw,hv,g,rfl⟩
   ·obtain⟨n,rfl⟩:∃ n:Nat,oK=(n:Int):=⟨oK.toNat,by omega⟩
    have hn4:n<=4096:=by omega
    obtain⟨r',uH,hv',hx⟩:=dOrder (Rt 4294967295 s []) (Es 4294967295 s []) 64 (AV 4294967295 s) s false 0 (JO (AV 4294967295 s)) 0 0 (big.kb s) (kbX s hs) (hnX s hs) s s n hn4 g;have hy:=rOrder (OU (Rt 4294967295 s [])) s hW n hn4 g.2.2;cases ho:Ll (OU (Rt 4294967295 s [])) (n - 1) (Lm n) m with
    | none =>
      rw[ho] at hx hy;dsimp only at hx hy;rw[hx.2,Option.bind_some,hy,Option.bind_some,Ya [] (by simp),Option.bind_some];exact⟨m,r',uH,hv',hx.1,rfl⟩
    | some z =>
      obtain⟨l',m'⟩:=z;rw[ho] at hx hy;dsimp only at hx hy;have hll:l'.length=n:=by rw[(Ny ho (by rw[yh];omega) (by rw[yh];exact hn4)).length_eq,yh]
      rw[hx.2,Option.bind_some,hy,Option.bind_some,Ya l' (by omega),Option.bind_some];exact⟨m',r',uH,hv',hx.1,rfl⟩
  rw[if_neg h6];by_cases hk:((oK < 0∨4096 < oK)∨oM < 0)∨oK < oM
  ·rw[dChooseE 64 _ s false 0 _ 0 0 _ s s oK oM hk,Option.bind_some,rChooseE s oK oM hk,Option.bind_some,Ya [] (by simp),Option.bind_some];exact⟨m,r,nw,hv,g,rfl⟩
  ·obtain⟨n,rfl⟩:∃ n:Nat,oK=(n:Int):=⟨oK.toNat,by omega⟩
   obtain⟨k,rfl⟩:∃ n:Nat,oM=(n:Int):=⟨oM.toNat,by omega⟩
   have hn4:n<=4096:=by omega
   have hkn:k<=n:=by omega
   obtain⟨r',uH,hv',hx⟩:=dChoose (Rt 4294967295 s []) (Es 4294967295 s []) 64 (AV 4294967295 s) s false 0 (JO (AV 4294967295 s)) 0 0 (big.kb s) (kbX s hs) (hnX s hs) s s n k hn4 hkn g;have hy:=rChoose (OU (Rt 4294967295 s [])) s hW n k hn4 hkn g.2.2;cases ho:Ll (OU (Rt 4294967295 s [])) (n - 1) (Lm n) m with
   | none =>
     rw[ho] at hx hy;dsimp only at hx hy;rw[hx.2,Option.bind_some,hy,Option.bind_some,Ya [] (by simp),Option.bind_some];exact⟨m,r',uH,hv',hx.1,rfl⟩
   | some z =>
     obtain⟨l',m'⟩:=z;rw[ho] at hx hy;dsimp only at hx hy;have hll:l'.length=n:=by rw[(Ny ho (by rw[yh];omega) (by rw[yh];exact hn4)).length_eq,yh]
     rw[hx.2,Option.bind_some,hy,Option.bind_some,Ya _ (by rw[UM,List.length_take];omega),Option.bind_some];exact⟨m',r',uH,hv',hx.1,rfl⟩
end
end Go.Sx
namespace Go.Sx
open Go.RowKit
set_option linter.unusedVariables false
set_option linter.unusedSimpArgs false
def Went (s:L3)(z:Option ((Int×Int×Bool×Lf×L5×Lf×Lf×L3×Int×L3×Lf×L7×Int×L3×Lf×Bool)⊕(L3×L3×L3×L3×Int×Int×L3×L3×L5×Lf×Lf×L3×Int×L3×L7×L3×Int×Int×Bool×Lf×L5×Lf×Lf×L3×Int×L3×Lf×L7×Int×L3×Lf))):Prop :=
  (∃ m' r' uH hv',GS (Rt 4294967295 s []) m' r' uH hv'/\z=some (Sum.inl (1,64,false,0,JO (AV 4294967295 s),0,0,big.kb s,128,r',av m',uH,hv',s,uo m',true))) ∨
  (∃ s' q,s'.length<=64/\z=some (Sum.inr (s',s',[],[],1,64,AV 4294967295 s',s',JO (AV 4294967295 s'),0,0,big.kb s',128,[],Vec.rep 64 (0:UInt8),s',q)))
theorem Vb {s:L3}{m':Nat}{r':L3}{uH:L7}{hv':Int}{z:_}(g:GS (Rt 4294967295 s []) m' r' uH hv')(h:z=some (Sum.inl (1,64,false,0,JO (AV 4294967295 s),0,0,big.kb s,128,r',av m',uH,hv',s,uo m',true))):Went s z:=.inl ⟨m',r',uH,hv',g,h⟩
section
variable (s:L3)(hs:s.length<=64){m:Nat}{r:L3}{nw:L7}{hv:Int}(g:GS (Rt 4294967295 s []) m r nw hv)
  (oN:Lf) (oK oM:Int) (oLo oHi:Nat) (hlo:oLo < 18446744073709551616) (hhi:oHi < 18446744073709551616) (oL:List Lf) (H7:L3)
include hs g
theorem step2 (w:Int)(h0:w≠0)(b:Bool):Went s (yJ s s [] [] 1 64 (AV 4294967295 s) s false 0 (JO (AV 4294967295 s)) 0 0 (big.kb s) 128 r (av m) nw hv s (uo m) w oN oK oM oLo oHi oL H7 b):=by
  have hW:=(fun m hm=>rWord s hs m hm)
  unfold yJ;cases b with
  | true =>
    rw[if_pos rfl];obtain⟨m',r',uH,hv',g',hz⟩:=listsK s hs g oN oK oM oLo oHi oL H7 w;rw[hz,Option.bind_some];exact Vb g' rfl
  | false =>
    rw[if_neg (by decide)];by_cases h8:w=8
    ·rw[if_pos h8,rSkip s g.2.2];rcases dSkip (Rt 4294967295 s []) (Es 4294967295 s []) 64 (AV 4294967295 s) s false 0 (JO (AV 4294967295 s)) 0 0 (big.kb s) (hnX s hs) s s g oN with⟨q,hd⟩ | ⟨q,g',hd⟩
     ·rw[hd,Option.bind_some,if_neg (by omega),Option.bind_some];exact Vb g rfl
     ·rw[hd,Option.bind_some,if_pos q,Option.bind_some];exact Vb g' rfl
    rw[if_neg h8];by_cases h9:w=9
    ·rw[if_pos h9,dAt,Option.bind_some];refine Vb g ?_;dsimp only;rw[av_8 g.2.2,decide_eq_true rfl]
    rw[if_neg h9];by_cases h10:w=10
    ·rw[if_pos h10];unfold Ci fZ;rw[Option.bind_some];dsimp only;rw[forkR s H7 hs];by_cases hl:65536 < H7.length
     ·rw[if_pos (by omega),if_pos hl,Option.bind_some,Sum.elim_inl,Option.bind_some,Sum.elim_inl];refine Vb g ?_;rw[if_pos (by rw[Bool.or_true])];rfl
     ·have hPl:=ZE 64 (Rt 64 s H7) 0;rw[if_neg (by omega),if_neg hl,takeX s H7 hs (by omega),Option.bind_some];dsimp only;rw[if_neg nz,newX _ (by omega),Option.bind_some,Sum.elim_inr,Option.bind_some,Sum.elim_inr,Option.bind_some,Sum.elim_inr];dsimp only;by_cases hm:m < NW
      ·obtain⟨uH,hv',g',hd⟩:=dWord (Rt 4294967295 s []) (Es 4294967295 s []) 64 (AV 4294967295 s) s false 0 (JO (AV 4294967295 s)) 0 0 (big.kb s) (kbX s hs) (hnX s hs) s s g hm;rw[hd,Option.bind_some];exact .inr ⟨_,_,by omega,rfl⟩
      ·obtain rfl:m=NW:=by have:=g.2.2;omega
       rw[dWordE (Rt 4294967295 s []) (Es 4294967295 s []) 64 (AV 4294967295 s) s false 0 (JO (AV 4294967295 s)) 0 0 (big.kb s) (kbX s hs) (hnX s hs) s s g,Option.bind_some];exact .inr ⟨_,_,by omega,rfl⟩
    rw[if_neg h10];exact Vb g rfl
include hlo hhi in
theorem step1 (w:Int)(h0:w≠0)(b:Bool):Went s (yK s s [] [] 1 64 (AV 4294967295 s) s false 0 (JO (AV 4294967295 s)) 0 0 (big.kb s) 128 r (av m) nw hv s (uo m) w oN oK oM oLo oHi oL H7 b):=by
  unfold yK;cases b with
  | true =>
    rw[if_pos rfl];obtain⟨m',r',uH,hv',g',hz⟩:=floatsK s hs g oN oK oM oLo oHi hlo hhi oL H7 w;rw[hz,Option.bind_some];exact Vb g' rfl
  | false =>
    rw[if_neg (by decide)];by_cases h5:w=5
    ·rw[if_pos h5];exact step2 s hs g oN oK oM oLo oHi oL H7 w h0 _
    rw[if_neg h5];by_cases h6:w=6
    ·rw[if_pos h6];exact step2 s hs g oN oK oM oLo oHi oL H7 w h0 _
    rw[if_neg h6];exact step2 s hs g oN oK oM oLo oHi oL H7 w h0 _
include hlo hhi in
theorem stepK (w:Int):Went s (Ha s s [] [] 1 64 (AV 4294967295 s) s false 0 (JO (AV 4294967295 s)) 0 0 (big.kb s) 128 r (av m) nw hv s (uo m) w oN oK oM oLo oHi oL H7):=by
  have hW:=(fun m hm=>rWord s hs m hm)
  unfold Ha;by_cases h0:w=0
  ·rw[if_pos h0];by_cases hm:m < NW
   ·obtain⟨uH,hv',g',hd⟩:=dWord (Rt 4294967295 s []) (Es 4294967295 s []) 64 (AV 4294967295 s) s false 0 (JO (AV 4294967295 s)) 0 0 (big.kb s) (kbX s hs) (hnX s hs) s s g hm;rw[hd,Option.bind_some,hW m hm,Option.bind_some];refine Vb g' ?_;dsimp only;rw[decide_eq_true rfl];rfl
   ·obtain rfl:m=NW:=by have:=g.2.2;omega
    rw[dWordE (Rt 4294967295 s []) (Es 4294967295 s []) 64 (AV 4294967295 s) s false 0 (JO (AV 4294967295 s)) 0 0 (big.kb s) (kbX s hs) (hnX s hs) s s g,Option.bind_some,rWordE s,Option.bind_some];exact Vb g rfl
  rw[if_neg h0];by_cases h1:w=1
  ·rw[if_pos h1];by_cases hN:oN=0
   ·subst hN;rw[dBelow0,Option.bind_some,rBelow0,Option.bind_some];exact Vb g rfl
   ·have hN':0 < oN.toNat:=by
      rcases Nat.eq_zero_or_pos oN.toNat with q | q
      ·exact absurd (UInt64.toNat_inj.1 q) hN
      ·exact q
    obtain⟨r',uH,hv',hx⟩:=dBelow (Rt 4294967295 s []) (Es 4294967295 s []) 64 (AV 4294967295 s) s false 0 (JO (AV 4294967295 s)) 0 0 (big.kb s) (kbX s hs) (hnX s hs) s s oN hN' g;have hy:=rBelow (OU (Rt 4294967295 s [])) s hW oN hN g.2.2;cases hbw:bw (OU (Rt 4294967295 s [])) oN m with
    | none =>
      rw[hbw] at hx hy;dsimp only at hx hy;rw[hx.2,Option.bind_some,hy,Option.bind_some];exact Vb hx.1 rfl
    | some z =>
      obtain⟨v,m'⟩:=z;rw[hbw] at hx hy;dsimp only at hx hy;rw[hx.2,Option.bind_some,hy,Option.bind_some];refine Vb hx.1 ?_;dsimp only;rw[decide_eq_true rfl,decide_eq_true rfl];rfl
  rw[if_neg h1];by_cases h2:w=2
  ·rw[if_pos h2];exact step1 s hs g oN oK oM oLo oHi hlo hhi oL H7 w h0 _
  rw[if_neg h2];by_cases h3:w=3
  ·rw[if_pos h3];exact step1 s hs g oN oK oM oLo oHi hlo hhi oL H7 w h0 _
  rw[if_neg h3];exact step1 s hs g oN oK oM oLo oHi hlo hhi oL H7 w h0 _
end
theorem fcan_lt' (x:Lf):uI x.toNat < 18446744073709551616:=by
  unfold uI;split
  ·decide
  ·exact x.toNat_lt
theorem awakeK:EY=some true:=by
  have hs:([]:L3).length<=64:=by simp
  unfold EY;rw[newX [] hs,Option.bind_some,Sum.elim_inr];unfold vH fZ;rw[Option.bind_some,weighG [] (by decide) (fun i hi=>absurd hi (Nat.not_lt_zero i)),Option.bind_some];rfl
theorem av_0:av 0=0:=rfl
theorem uo_0:uo 0=0:=rfl
theorem playL (script:List (Int×Lf×Int×Int×Lf×Lf×List Lf×L3))(hl:script.length<=1048576):∀ (k i:Nat) (s:L3) (m:Nat) (r:L3) (nw:L7) (hv:Int),i+k=script.length->s.length<=64->GS (Rt 4294967295 s []) m r nw hv ->
    gY (vO script) (s,s,[],[],1,64,AV 4294967295 s,s,false,0,JO (AV 4294967295 s),0,0,big.kb s,128,r,av m,nw,hv,s,uo m,(i:Int))=some true:=by
  intro k
  induction k with
  | zero =>
    intro i s m r nw hv hi hs g;refine mV ?_;unfold vO;dsimp only;rw[if_neg (by omega),dAt,Option.bind_some];dsimp only;rw[av_8 g.2.2,decide_eq_true rfl];rfl
  | succ k ih =>
    intro i s m r nw hv hi hs g;have hil:i < script.length:=by omega
    have hw:dU ((i:Int)+1)=((i+1:Nat):Int):=w64s i (by omega);have hst:=stepK s hs g (script[i]).2.1 (script[i]).2.2.1 (script[i]).2.2.2.1 (uI (script[i]).2.2.2.2.1.toNat) (uI (script[i]).2.2.2.2.2.1.toNat) (fcan_lt' _) (fcan_lt' _) (script[i]).2.2.2.2.2.2.1 (script[i]).2.2.2.2.2.2.2 (script[i]).1;rcases hst with⟨m',r',uH,hv',g',hz⟩ | ⟨s',q,hs',hz⟩
    ·rw[ry (s':=(s,s,[],[],1,64,AV 4294967295 s,s,false,0,JO (AV 4294967295 s),0,0,big.kb s,128,r',av m',uH,hv',s,uo m',((i+1:Nat):Int))) (by
       unfold vO;dsimp only;rw[if_pos (by omega),QN hil,Option.bind_some,hz,Option.bind_some,Sum.elim_inl];dsimp only;rw[if_neg (by decide),hw])]
     exact ih (i+1) s m' r' uH hv' (by omega) hs g'
    ·rw[ry (s':=(s',s',[],[],1,64,AV 4294967295 s',s',false,0,JO (AV 4294967295 s'),0,0,big.kb s',128,[],0,Vec.rep 64 (0:UInt8),-1,s',0,((i+1:Nat):Int))) (by
       unfold vO;dsimp only;rw[if_pos (by omega),QN hil,Option.bind_some,hz,Option.bind_some,Sum.elim_inr,hw])]
     have hx:=ih (i+1) s' 0 [] (Vec.rep 64 (0:UInt8)) (-1) (by omega) hs' ⟨.inr ⟨rfl,rfl⟩,okn_new _ _,Nat.zero_le _⟩;rw[av_0,uo_0] at hx;exact hx
theorem Vd (seed:L3)(hb:seed.length<=1048576)(script:List (Int×Lf×Int×Int×Lf×Lf×List Lf×L3))(hl:script.length<=1048576):Dx seed script=some true:=by
  unfold Dx Nh;rw[awakeK,Option.bind_some,if_neg (by decide)];by_cases h:64 < seed.length
  ·have h64:64 < ((seed.length:Nat):Int):=by omega
   rw[newE seed h,Option.bind_some,Sum.elim_inl,if_pos h64,Option.bind_some,Sum.elim_inl,if_neg (show ¬ (((decide ((8:Int)≠8))||false)=true) by decide)]
  ·have hs:seed.length<=64:=by omega
   have h64:¬ 64 < ((seed.length:Nat):Int):=by omega
   have hx:=playL script hl script.length 0 seed 0 [] (Vec.rep 64 (0:UInt8)) (-1) (by omega) hs ⟨.inr ⟨rfl,rfl⟩,okn_new _ _,Nat.zero_le _⟩;rw[av_0,uo_0] at hx;rw[newX seed hs,Option.bind_some,Sum.elim_inr];dsimp only;rw[if_neg h64,Option.bind_some,Sum.elim_inr];exact hx
end Go.Sx
