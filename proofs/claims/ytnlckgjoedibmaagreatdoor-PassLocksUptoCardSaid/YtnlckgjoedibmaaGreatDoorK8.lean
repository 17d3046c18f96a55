import Derived.Test.YtnlckgjoedibmaaGreatDoorK7
namespace Go.Sx
open Go.RowKit
set_option linter.unusedVariables false
set_option linter.unusedSimpArgs false
def Half.run (H:Half)(blk M:List UInt8):H.σ×(UInt64×UInt64)×List UInt8:=pO (fun h b c=>H.f h b c false false) H.B (H.st blk) (0,0) M
def Half.hash (H:Half)(blk M:List UInt8)(last:Bool):List UInt8 :=
  H.dig (H.f (H.run blk M).1 (pad H.B (H.run blk M).2.2) (Dz (H.run blk M).2.1 (UInt64.ofNat (H.run blk M).2.2.length)) true last)
theorem Half.WX (H:Half)(blk M:List UInt8)(last:Bool):(H.hash blk M last).length=H.S:=H.diglen _
theorem Half.bp (H:Half):0 < H.B/\H.B<=128:=by rcases H.hk with⟨_,h,_⟩ | ⟨_,h,_⟩ <;> omega
section
variable (H:Half)(d ky fn dp:Int)(lf:UInt32)(off:UInt64)(og:UInt32)(nd pW:Int)(aJ jZ key:List UInt8)(last:Bool)(from_:Vec UInt64 16)(msg:List UInt8)(cn:UInt64)(blk:List UInt8)
theorem aak (he:l9 H.k d ky fn dp lf off og nd pW aJ jZ=some (blk,0))(hl:blk.length=H.S)(hm:msg.length<=16000000) :
    qZ H.k d ky fn dp lf off og nd pW aJ jZ key last from_ false 0 0 msg cn =
      some (H.emb (H.run blk msg).1,(H.run blk msg).2.1.1,(H.run blk msg).2.1.2,((msg.length - (H.run blk msg).2.2.length:Nat):Int),H.k,d,ky,fn,dp,lf,off,og,nd,pW,last,from_,false,0,0,msg,cn):=by
  have hb:=H.bp;unfold qZ;rw[H.hfirst d ky fn dp lf off og nd pW aJ jZ key last from_ 0 0 msg cn blk he hl];simp only[Option.bind_some];rw[H.hB];simp only[Option.bind_some];refine mY (fun i s=>∃ (h:H.σ) (c:UInt64×UInt64) (a:Nat),s=(H.emb h,c.1,c.2,(a:Int))/\a<=msg.length/\a=i*H.B/\pO (fun h b c=>H.f h b c false false) H.B h c (msg.drop a)=H.run blk msg) _ msg.length _ ⟨H.st blk,(0,0),0,rfl,by omega,by omega,rfl⟩ ?_;rintro i s ⟨h,c,a,rfl,ha,hai,hr⟩;unfold wL;simp only[];have e1:ay ((a:Int)+(H.B:Int))=((a+H.B:Nat):Int):=by rw[bu (by omega)];omega
  rw[e1];by_cases hlt:a+H.B < msg.length
  ·left;have hil:i<=i*H.B:=Nat.le_mul_of_pos_right i hb.1;obtain⟨o,hadd⟩:=radd' c (UInt64.ofNat H.B);refine⟨by omega,(H.emb (H.f h ((msg.drop a).take H.B) (Dz c (UInt64.ofNat H.B)) false false),(Dz c (UInt64.ofNat H.B)).1,(Dz c (UInt64.ofNat H.B)).2,((a+H.B:Nat):Int)),?_,H.f h ((msg.drop a).take H.B) (Dz c (UInt64.ofNat H.B)) false false,Dz c (UInt64.ofNat H.B),a+H.B,rfl,by omega,by rw[hai,Nat.succ_mul],?_⟩
   ·rw[if_pos (by omega),Uy,hadd];simp only[Option.bind_some];rw[cut_ok msg a H.B (by omega) (by omega) (by omega)];simp only[Option.bind_some];have hp:pad H.B ((msg.drop a).take H.B)=(msg.drop a).take H.B:=by
      unfold pad;rw[show H.B - ((msg.drop a).take H.B).length=0 from by simp;omega];simp
    rw[hp,H.hin h _ (Dz c (UInt64.ofNat H.B)) false false (by simp;omega)];rfl
   ·rw[<- hr,N8 _ H.B h c (msg.drop a) hb.1 (by simp;omega),List.drop_drop]
  ·right;rw[if_neg (by omega)];have hst:=DC (fun h b c=>H.f h b c false false) H.B h c (msg.drop a) (by simp;omega);rw[hst] at hr;rw[<- hr];simp only[Option.map_some,Option.some.injEq,Sum.inr.injEq,Prod.mk.injEq,true_and,and_true,List.length_drop];omega
theorem Half.held (H:Half)(blk M:List UInt8):(H.run blk M).2.2.length<=H.B/\(H.run blk M).2.2=M.drop (M.length - (H.run blk M).2.2.length)/\(H.run blk M).2.2.length<=M.length :=
  Yk _ H.B H.bp.1 M.length _ _ M (Nat.le_refl _)
theorem rout_ok (he:l9 H.k d ky fn dp lf off og nd pW aJ jZ=some (blk,0))(hl:blk.length=H.S)(hm:msg.length<=16000000) :
    wM H.k d ky fn dp lf off og nd pW aJ jZ key last from_ false 0 0 msg cn=some (H.hash blk msg last,H.k,d,ky,fn,dp,lf,off,og,nd,pW,last,from_,false,0,0,msg,cn):=by
  have hb:=H.bp;unfold wM;rw[aak H d ky fn dp lf off og nd pW aJ jZ key last from_ msg cn blk he hl hm];simp only[Option.bind_some];obtain⟨h1,h2,h3⟩:=H.held blk msg;have e1:ay ((msg.length:Int) - ((msg.length - (H.run blk msg).2.2.length:Nat):Int))=(((H.run blk msg).2.2.length:Nat):Int):=by rw[bu (by omega)];omega
  obtain⟨o,hadd⟩:=radd' (H.run blk msg).2.1 (UInt64.ofNat (H.run blk msg).2.2.length);rw[e1,Uy,hadd];simp only[Option.bind_some];rw[H.hB];simp only[Option.bind_some];rw[cut_ok msg _ H.B (by omega) (by omega) (by omega),<-h2];simp only[Option.bind_some];rw[List.take_of_length_le h1];rw[H.hin _ _ _ true last (JX _ _ h1)];simp only[Option.bind_some];rw[H.hbytes];rfl
theorem aal (b:List UInt8)(lo hi:UInt64)(old:Bool)(hm:msg.length+b.length<=16000000) :
    sQ H.k d ky fn dp lf off og nd pW aJ jZ key last from_ old lo hi msg cn b=some (H.k,d,ky,fn,dp,lf,off,og,nd,pW,last,from_,old,lo,hi,msg++b,cn+UInt64.ofInt ((b.length:Nat):Int)):=by
  unfold sQ;rw[show((msg,(0:Int)):List UInt8×Int)=(msg++b.take 0,((0:Nat):Int)) from by simp];refine gp (fun i=>(msg++b.take i,(i:Int))) b.length (fun i hi=>?_) ?_
  ·unfold su;simp only[];rw[if_pos (by omega),gZ hi];simp only[Option.bind_some];rw[gK (by simp;omega),bJ i (by omega),List.take_succ_eq_append_getElem hi,List.append_assoc];rfl
  ·unfold su;simp only[];rw[if_neg (by omega),List.take_length];rfl
end
def Half.ans (H:Half)(blk M:List UInt8)(last:Bool)(out:Int):List UInt8×Int:=if out < 1∨(H.S:Int) < out then([],1) else((H.hash blk M last).take out.toNat,0)
def Half.kb (H:Half)(key:List UInt8):List UInt8:=if key=[] then[] else pad H.B key
theorem Half.kb_len (H:Half)(key:List UInt8)(h:key.length<=H.B):(H.kb key).length<=H.B:=by
  unfold Half.kb;split
  ·simp
  ·rw[JX _ _ h];exact Nat.le_refl _
theorem rhash_ok (H:Half)(d ky fn dp:Int)(lf:UInt32)(off:UInt64)(og:UInt32)(nd pW:Int)(aJ jZ key:List UInt8)(last:Bool)(out:Int)(data blk:List UInt8)(hc:jm H.k d ky fn dp lf off og nd pW aJ jZ=some 0)(he:l9 H.k d ky fn dp lf off og nd pW aJ jZ=some (blk,0))(hl:blk.length=H.S)(hkey:key=[]∨(key.length:Int)=ky)(hkl:key.length<=H.B)(hd:data.length<=12000000) :
    wO H.k d ky fn dp lf off og nd pW aJ jZ key last out data=some (H.ans blk (H.kb key++data) last out):=by
  have hb:=H.bp;unfold wO JP;rw[hc];simp only[Option.bind_some,ne_eq,not_true_eq_false,if_false];rw[if_neg (by
    simp only[Bool.and_eq_true,decide_eq_true_eq];rintro⟨h1,h2⟩;rcases hkey with rfl | h
    ·exact h1 rfl
    ·exact h2 h)]
  rw[show zg H.k key=some (H.kb key) from keyed_ok H.k H.B H.hB (by omega) key hkl];simp only[Option.bind_some,Sum.elim_inr];unfold Half.ans;by_cases h1:out < 1
  ·rw[if_pos h1,if_pos (.inl h1)]
  rw[if_neg h1,H.hS];simp only[Option.bind_some];by_cases h2:(H.S:Int) < out
  ·rw[if_pos h2,if_pos (.inr h2)]
  rw[if_neg h2,if_neg (by omega)];have hkb:=H.kb_len key hkl;rw[aal H d ky fn dp lf off og nd pW aJ jZ key last (Vec.rep 16 0) (H.kb key) 0 data 0 0 false (by omega)];simp only[Option.bind_some];rw[rout_ok H d ky fn dp lf off og nd pW aJ jZ key last _ _ _ blk he hl (by rw[List.length_append];omega)];simp only[Option.bind_some];rw[zG (by rw[H.WX];omega)];simp
end Go.Sx
namespace Go.Sx
open Go.RowKit
set_option linter.unusedVariables false
set_option linter.unusedSimpArgs false
def fB (h:Vec UInt64 8)(b:List UInt8)(c:UInt64×UInt64)(last node:Bool):Vec UInt64 8:=Fb h (Wb b) c.1 c.2 last node
theorem SG (h:Vec UInt64 8)(b:List UInt8)(c:UInt64×UInt64)(last node:Bool)(hb:b.length=128):vk h b c.1 c.2 last node=some (fB h b c last node):=by
  unfold vk;rw[wWords b hb];simp only[Option.bind_some];rw[wF];rfl
theorem wj0B (b:List UInt8)(h:Vec UInt64 8)(lo hi:UInt64)(held:List UInt8)(hb:b.length<=12000000)(hh:held.length<=128) :
    ji 128 b h lo hi held=some (.inl (h,lo,hi,held++b.take (min (128 - held.length) b.length),b.drop (min (128 - held.length) b.length))):=by
  unfold ji;have e1:ay ((128:Int) - ((held.length:Nat):Int))=((128 - held.length:Nat):Int):=by rw[bu (by omega)];omega
  have e2:(if ay ((128:Int) - ((held.length:Nat):Int)) < ((b.length:Nat):Int) then ay ((128:Int) - ((held.length:Nat):Int)) else((b.length:Nat):Int))=((min (128 - held.length) b.length:Nat):Int):=by
    rw[e1];split <;> omega
  rw[e2,zG (by omega)];simp only[Option.bind_some,Int.toNat_natCast,Int.toNat_zero,List.drop_zero];rw[gK (by simp;omega),zG (by omega)];simp only[Option.bind_some,Int.toNat_natCast];rw[List.take_of_length_le (i:=b.length) (Nat.le_refl _)]
theorem Y6 (h:Vec UInt64 8)(c:UInt64×UInt64)(held b:List UInt8)(hb:b.length<=12000000)(hh:held.length<=128) :
    jP h c.1 c.2 held 128 b=some ((pO (fun h b c=>fB h b c false false) 128 h c (held++b)).1,(pO (fun h b c=>fB h b c false false) 128 h c (held++b)).2.1.1,(pO (fun h b c=>fB h b c false false) 128 h c (held++b)).2.1.2,(pO (fun h b c=>fB h b c false false) 128 h c (held++b)).2.2,128):=by
  unfold jP;refine mY (fun i s=>∃ (h':Vec UInt64 8) (c':UInt64×UInt64) (held' b':List UInt8),s=(h',c'.1,c'.2,held',b')/\held'.length<=128/\b'.length+i<=b.length/\pO (fun h b c=>fB h b c false false) 128 h' c' (held'++b')=pO (fun h b c=>fB h b c false false) 128 h c (held++b)) _ b.length _ ⟨h,c,held,b,rfl,hh,by omega,rfl⟩ ?_;rintro i s ⟨h',c',held',b',rfl,hh',hbl,hr⟩;rw[<- hr];unfold oz;simp only[];by_cases h0:b'.length=0
  ·right;obtain rfl:=List.length_eq_zero_iff.1 h0;rw[if_neg (by simp),List.append_nil,DC _ _ _ _ _ hh'];rfl
  ·left;refine⟨by omega,?_⟩;rw[if_pos (by omega)];by_cases hf:held'.length=128
   ·rw[if_pos (by omega)];obtain⟨o,hadd⟩:=wadd c' (UInt64.ofNat 128);have e3:UInt64.ofInt 128=UInt64.ofNat 128:=rfl;rw[e3,hadd];simp only[Option.bind_some];rw[SG h' held' (Dz c' (UInt64.ofNat 128)) false false hf];simp only[Option.bind_some];rw[zG (by omega)];simp only[Option.bind_some,Int.toNat_zero,List.take_zero,List.drop_nil];rw[wj0B b' _ _ _ [] (by omega) (by simp)];refine⟨_,rfl,_,Dz c' (UInt64.ofNat 128),_,_,rfl,by simp;omega,by simp;omega,?_⟩;rw[N8 _ 128 h' c' (held'++b') (by omega) (by simp;omega)];rw[show(held'++b').take 128=held' from by rw[List.take_append_of_le_length (by omega),List.take_of_length_le (by omega)],show(held'++b').drop 128=b' from by rw[<- hf,List.drop_left]];rw[List.nil_append,List.take_append_drop]
   ·rw[if_neg (by omega),wj0B b' _ _ _ held' (by omega) hh'];refine⟨_,rfl,_,c',_,_,rfl,by simp;omega,by simp;omega,?_⟩;rw[List.append_assoc,List.take_append_drop]
theorem woutB (h:Vec UInt64 8)(c:UInt64×UInt64)(held:List UInt8)(node:Bool)(hh:held.length<=128) :
    lZ h c.1 c.2 held 128 node=some (Byb (fB h (pad 128 held) (Dz c (UInt64.ofNat held.length)) true node),h,c.1,c.2,held,128):=by
  unfold lZ mM;obtain⟨o,hadd⟩:=wadd c (UInt64.ofNat held.length);rw[Uy,hadd];simp only[Option.bind_some];have:=wpad held 128 hh (by omega);rw[show((128:Nat):Int)=128 from rfl] at this;rw[this];simp only[Option.bind_some];rw[SG h _ (Dz c (UInt64.ofNat held.length)) true node (JX _ _ hh)];simp only[Option.bind_some];rw[wBytes];rfl
end Go.Sx
namespace Go.Sx
open Go.RowKit
set_option linter.unusedVariables false
set_option linter.unusedSimpArgs false
theorem beginB (d:Int)(blk key:List UInt8)(hl:blk.length=64)(hk:key.length<=128):qP 1 d blk key false 0=some (1,d,blk,key,Stb blk,0,0,big.kb key,128):=by
  unfold qP Ej;rw[if_pos rfl];rw[wStart blk hl];simp only[Option.bind_some,Sum.elim_inl];unfold Half.kb;by_cases h0:key=[]
  ·subst h0;rfl
  ·rw[if_pos (by have:=List.length_pos_iff.2 h0;omega),if_neg h0];have hp:=wpad key 128 hk (by omega);rw[show((128:Nat):Int)=128 from rfl] at hp;rw[show sN 1=some 128 from rfl];simp only[Option.bind_some];rw[hp];simp only[Option.bind_some];have hlen:=JX 128 key hk;rw[Y6 (Stb blk) (0,0) [] (pad 128 key) (by omega) (by simp)];rw[List.nil_append,DC _ _ _ _ _ (by omega)];rfl
theorem wouB (d:Int)(blk key:List UInt8)(last:Bool)(wr:UInt64)(h:Vec UInt64 8)(c:UInt64×UInt64)(held:List UInt8)(hh:held.length<=128)(out:Int):∃ t,uI 1 d blk key last wr h c.1 c.2 held 128 out=some t/\(t.1,t.2.1)=(if out < 1∨(64:Int) < out then([],1) else((Byb (fB h (pad 128 held) (Dz c (UInt64.ofNat held.length)) true last)).take out.toNat,0)):=by
  unfold uI xx;simp only[Option.bind_some];by_cases h1:out < 1
  ·rw[if_pos h1,if_pos (.inl h1)];exact⟨_,rfl,rfl⟩
  rw[if_neg h1,show sN 1=some 128 from rfl];simp only[Option.bind_some];rw[show ay (Int.tdiv 128 2)=(64:Int) from rfl];by_cases h2:(64:Int) < out
  ·rw[if_pos h2,if_pos (.inr h2)];exact⟨_,rfl,rfl⟩
  rw[if_neg h2,if_neg (by omega),woutB h c held last hh];simp only[Option.bind_some];rw[zG (by rw[Ux];omega)];simp only[Option.bind_some];rw[jo (by rw[Ux];omega)];exact⟨_,rfl,by simp⟩
theorem whashB (d ky fn dp:Int)(lf:UInt32)(off:UInt64)(og:UInt32)(nd pW:Int)(aJ jZ key:List UInt8)(last:Bool)(out:Int)(data blk:List UInt8)(he:o_ 1 d ky fn dp lf off og nd pW aJ jZ=some (blk,0))(hl:blk.length=64)(hkey:key=[]∨(key.length:Int)=ky)(hkl:key.length<=128)(hd:data.length<=12000000) :
    qQ 1 d ky fn dp lf off og nd pW aJ jZ key last out data=some (big.ans blk (big.kb key++data) last out):=by
  unfold qQ Hq;rw[he];simp only[Option.bind_some,ne_eq,not_true_eq_false,if_false];rw[if_neg (by
    simp only[Bool.and_eq_true,decide_eq_true_eq];rintro⟨h1,h2⟩;rcases hkey with rfl | h
    ·exact h1 rfl
    ·exact h2 h)]
  unfold FU;rw[gK (by simp;omega),gK (by simp;omega)];simp only[Option.bind_some,List.nil_append];rw[beginB d blk key hl hkl];simp only[Option.bind_some,Sum.elim_inl,Sum.elim_inr];have hkb:=big.kb_len key hkl;rw[Y6 (Stb blk) (0,0) (big.kb key) data hd hkb];simp only[Option.bind_some];obtain⟨h1,h2,h3⟩:=big.held blk (big.kb key++data);obtain⟨t,ht1,ht2⟩:=wouB d blk key last 0 (pO (fun h b c=>fB h b c false false) 128 (Stb blk) (0,0) (big.kb key++data)).1 (pO (fun h b c=>fB h b c false false) 128 (Stb blk) (0,0) (big.kb key++data)).2.1 (pO (fun h b c=>fB h b c false false) 128 (Stb blk) (0,0) (big.kb key++data)).2.2 h1 out;rw[ht1];simp only[Option.bind_some,Option.some.injEq];exact ht2
end Go.Sx
namespace Go.Sx
open Go.RowKit
set_option linter.unusedVariables false
set_option linter.unusedSimpArgs false
theorem hash_ok (d ky fn dp:Int)(lf:UInt32)(off:UInt64)(og:UInt32)(nd pW:Int)(aJ jZ key:List UInt8)(last:Bool)(out:Int)(data:List UInt8)(hc:jm 1 d ky fn dp lf off og nd pW aJ jZ=some 0)(hkey:key=[]∨(key.length:Int)=ky)(hd:data.length<=12000000) :
    ∃ (H:Half) (blk M:List UInt8),H.k=1/\qQ 1 d ky fn dp lf off og nd pW aJ jZ key last out data=some (H.ans blk M last out)/\wO 1 d ky fn dp lf off og nd pW aJ jZ key last out data=some (H.ans blk M last out):=by
  obtain⟨r,h1,h2⟩:=QP 1 d ky fn dp lf off og nd pW aJ jZ;rw[hc] at h1;obtain rfl:=Option.some.inj h1;obtain⟨he1,he2⟩:=enc_ok 1 d ky fn dp lf off og nd pW aJ jZ hc;rcases h2 rfl with⟨_,_,_,h3,hs,hp⟩ | ⟨h,_⟩
  ·have hl:(encB 1 d ky fn dp lf off og nd pW aJ jZ).length=64:=by rw[encB_len _ _ _ _ _ _ _ _ _ _ _ _ (.inl ⟨rfl,hs,hp⟩)];rfl
   have hkl:key.length<=128:=by
     rcases hkey with rfl | h
     ·simp
     ·omega
   exact⟨big,_,_,rfl,whashB d ky fn dp lf off og nd pW aJ jZ key last out data _ he1 hl hkey hkl hd,rhash_ok big d ky fn dp lf off og nd pW aJ jZ key last out data _ hc he2 hl hkey hkl hd⟩
  ·cases h
end Go.Sx
namespace Go.Sx
open Go.RowKit
set_option linter.unusedVariables false
set_option linter.unusedSimpArgs false
theorem Uz (n:Int)(m:Int)(hm:0 < m):Int.tmod n m=if 0<=n then n % m else -((-n) % m):=by
  split
  ·rename_i h;rw[Int.tmod_eq_emod_of_nonneg h]
  ·rename_i h;have:n=-(-n):=by omega
   rw[this,Int.neg_tmod,Int.tmod_eq_emod_of_nonneg (by omega)];simp
theorem rsame (a b:List UInt8)(h:a.length<=4194304):EP a b=some (decide (a=b)):=by
  unfold EP;by_cases hl:a.length=b.length
  ·rw[if_neg (by omega)];refine mY (fun i s=>s=(i:Int)/\i<=a.length/\a.take i=b.take i) _ a.length 0 ⟨rfl,by omega,by simp⟩ ?_;rintro i s ⟨rfl,hi,ht⟩;unfold F_;by_cases hlt:i < a.length
   ·rw[if_pos (by omega),gZ hlt,gZ (xs:=b) (by omega)];simp only[Option.bind_some];by_cases hx:a[i]=b[i]
    ·left;refine⟨hlt,_,by rw[if_neg (by simpa using hx)],?_,by omega,?_⟩
     ·rw[bu (by omega)];rfl
     ·rw[List.take_succ_eq_append_getElem hlt,List.take_succ_eq_append_getElem (by omega:i < b.length),ht,hx]
    ·right;rw[if_pos (by simpa using hx)];simp only[Option.map_some,Option.some.injEq,Sum.inr.injEq];symm;simp only[decide_eq_false_iff_not];rintro rfl;exact hx rfl
   ·right;obtain rfl:i=a.length:=by omega
    rw[if_neg (by omega)];rw[List.take_length,hl,List.take_length] at ht;simp[ht]
  ·rw[if_pos (by omega)];have:a≠b:=by rintro rfl;exact hl rfl
   simp[this]
theorem getD_at {α:Type}(l:List α)(i:Nat)(d:α)(h:i < l.length):l.getD i d=l[i]:=by
  rw[List.getD_eq_getElem?_getD,List.getElem?_eq_getElem h];rfl
def dgN (n:Nat):Nat:=if 48<=n/\n<=57 then n - 48 else if 97<=n/\n<=102 then n - 87 else if 65<=n/\n<=70 then n - 55 else 16
def dg (c:UInt8):Nat:=dgN c.toNat
theorem QQ {p:UInt8->Prop}(h:∀ n:Nat,n < 256->p (UInt8.ofNat n))(c:UInt8):p c:=by
  have:=h c.toNat c.toNat_lt;simpa using this
def dgs (s:List UInt8)(j:Nat):Nat:=dg (s.getD j 0)
def hx (s:List UInt8)(i:Nat):List UInt8:=(List.range ((i+1) / 2)).map fun j=>UInt8.ofNat (16*dgs s (2*j)+if 2*j+1 < i then dgs s (2*j+1) else 0)
theorem tmod2 (n:Nat):Int.tmod (n:Int) 2=((n % 2:Nat):Int):=by rw[Uz _ _ (by omega),if_pos (by omega)];omega
theorem tmod4 (n:Nat):Int.tmod (n:Int) 4=((n % 4:Nat):Int):=by rw[Uz _ _ (by omega),if_pos (by omega)];omega
def wv (f:Nat->Nat)(a:Nat):Nat->Nat
  | 0=>0
  | n+1=>2*wv f a n+f (a+n)
theorem QR {f:Nat->Nat}(hf:∀ k,f k < 2)(a n:Nat):wv f a n < 2 ^ n:=by
  induction n with
  | zero=>simp[wv]
  | succ n ih=>have:=hf (a+n);simp only[wv,Nat.pow_succ];omega
theorem Yl (f:Nat->Nat)(a n m:Nat):wv f a (n+m)=wv f a n*2 ^ m+wv f (a+n) m:=by
  induction m with
  | zero=>simp[wv]
  | succ m ih =>
    show 2*wv f a (n+m)+f (a+(n+m))=wv f a n*2 ^ (m+1)+(2*wv f (a+n) m+f (a+n+m))
    rw[ih,Nat.pow_succ,<-Nat.mul_assoc,Nat.add_assoc a n m];omega
theorem Ym (f:Nat->Nat)(a:Nat):∀ (n N:Nat),(∀ j,j < n->f (a+j)=N / 2 ^ (n - 1 - j) % 2)->wv f a n=N % 2 ^ n:=by
  intro n
  induction n with
  | zero=>intro N _;simp[wv,Nat.mod_one]
  | succ n ih =>
    intro N h;have h1:wv f a n=(N / 2) % 2 ^ n:=ih (N / 2) (fun j hj=>by
      rw[h j (by omega),Nat.div_div_eq_div_mul,<-Nat.pow_succ'];congr 3;omega)
    have h2:=h n (by omega);simp only[wv,h1,h2];rw[show n+1 - 1 - n=0 from by omega,Nat.pow_zero,Nat.div_one,Nat.pow_succ',Nat.mod_mul];omega
theorem wv_bit {f:Nat->Nat}(hf:∀ k,f k < 2)(a n:Nat):∀ j,j < n->wv f a n / 2 ^ (n - 1 - j) % 2=f (a+j):=by
  intro j hj;obtain⟨m,rfl⟩:∃ m,n=j+1+m:=⟨n - j - 1,by omega⟩
  have hm:=QR hf (a+(j+1)) m;rw[Yl,show j+1+m - 1 - j=m from by omega,Nat.mul_comm,Nat.mul_add_div (Nat.pow_pos (by omega)),Nat.div_eq_of_lt hm];have:=hf (a+j);simp only[wv];omega
theorem wv_zero {f:Nat->Nat}(a n:Nat)(h:∀ j,j < n->f (a+j)=0):wv f a n=0:=by
  induction n with
  | zero=>rfl
  | succ n ih=>simp only[wv,h n (by omega),ih (fun j hj=>h j (by omega))]
def tbl:List UInt8:=[65,66,67,68,69,70,71,72,73,74,75,76,77,78,79,80,81,82,83,84,85,86,87,88,89,90,97,98,99,100,101,102,103,104,105,106,107,108,109,110,111,112,113,114,115,116,117,118,119,120,121,122,48,49,50,51,52,53,54,55,56,57,43,47]
theorem Yn {i:Nat}(h:i < 64):aU tbl (i:Int)=some (tbl.getD i 0):=by
  rw[gZ (xs:=tbl) (by simpa [tbl] using h),getD_at _ _ _ (by simpa [tbl] using h)]
def ltN (n:Nat):Nat:=if 65<=n/\n<=90 then n - 65 else if 97<=n/\n<=122 then n - 71 else if 48<=n/\n<=57 then n+4 else if n=43 then 62 else if n=47 then 63 else 64
def lt (c:UInt8):Nat:=ltN c.toNat
theorem lt_le (c:UInt8):lt c<=64:=by
  unfold lt ltN;split
  ·omega
  split
  ·omega
  split
  ·omega
  split
  ·omega
  split <;> omega
theorem Yo:∀ i:Nat,i < 64->lt (tbl.getD i 0)=i:=by decide +kernel
theorem wletter (c:UInt8):u_ c=some (if lt c < 64 then(UInt32.ofNat (lt c),true) else(0,false)):=by
  refine QQ (p:=fun c=>u_ c=some (if lt c < 64 then(UInt32.ofNat (lt c),true) else(0,false))) ?_ c;unfold u_;decide +kernel
def bit (b:List UInt8)(k:Nat):Nat:=(b.getD (k / 8) 0).toNat / 2 ^ (7 - k % 8) % 2
theorem N9 (b:List UInt8)(k:Nat):bit b k < 2:=Nat.mod_lt _ (by omega)
theorem JA {α:Type}(l:List α)(i:Nat)(d:α)(h:l.length<=i):l.getD i d=d:=by
  rw[List.getD_eq_getElem?_getD,List.getElem?_eq_none h];rfl
theorem UA (b:List UInt8)(k:Nat)(h:8*b.length<=k):bit b k=0:=by
  unfold bit;rw[JA _ _ _ (by omega)];simp
def FC (b:List UInt8)(n:Nat):List UInt8:=(List.range n).map fun m=>tbl.getD (wv (bit b) (6*m) 6) 0
theorem QS (b:List UInt8)(n:Nat):(FC b n).length=n:=by simp[FC]
theorem N_ (b:List UInt8)(n:Nat):FC b n++[tbl.getD (wv (bit b) (6*n) 6) 0]=FC b (n+1):=by
  unfold FC;rw[List.range_succ,List.map_append];rfl
def enc (b:List UInt8):List UInt8:=FC b ((8*b.length+5) / 6)
theorem wv6 (b:List UInt8)(a:Nat):wv (bit b) a 6 < 64:=QR (N9 b) a 6
theorem shr8_nat (x:UInt8)(k:Nat):(SL x k).toNat=x.toNat / 2 ^ k:=by
  simp[SL,Nat.shiftRight_eq_div_pow]
theorem rb64_in (b:List UInt8)(hb:b.length<=4194304)(i:Nat)(hi:i < b.length) :
    aY (DR b (i:Int)) (FC b (8*i / 6),((8*i % 6:Nat):Int),((wv (bit b) (6*(8*i / 6)) (8*i % 6):Nat):Int),7)
      = some (.inl (FC b (8*(i+1) / 6),((8*(i+1) % 6:Nat):Int),((wv (bit b) (6*(8*(i+1) / 6)) (8*(i+1) % 6):Nat):Int),((i+1:Nat):Int))):=by
  refine mY (fun j s=>s=(FC b ((8*i+j) / 6),(((8*i+j) % 6:Nat):Int),((wv (bit b) (6*((8*i+j) / 6)) ((8*i+j) % 6):Nat):Int),(7:Int) - j)/\j<=8) _ 8 _ ⟨by simp,by omega⟩ ?_;rintro j s ⟨rfl,hj⟩;unfold DR;simp only[];by_cases hlt:j < 8
  ·left;refine⟨hlt,(FC b ((8*i+(j+1)) / 6),(((8*i+(j+1)) % 6:Nat):Int),((wv (bit b) (6*((8*i+(j+1)) / 6)) ((8*i+(j+1)) % 6):Nat):Int),(7:Int) - ((j+1:Nat):Int)),?_,rfl,by omega⟩;rw[if_pos (by omega),gZ hi,jo (by omega)];simp only[Option.bind_some];have hw:=QR (N9 b) (6*((8*i+j) / 6)) ((8*i+j) % 6);have hp6:2 ^ ((8*i+j) % 6)<=2 ^ 6:=Nat.pow_le_pow_right (by omega) (by omega);have e1:ay ((((8*i+j) % 6:Nat):Int)+1)=(((8*i+j) % 6+1:Nat):Int):=by rw[bu (by omega)];omega
   have ek:Int.toNat (7 - (j:Int))=7 - j:=by omega
   have ebit:((SL b[i] (7 - j)).toNat:Nat) % 2=bit b (8*i+j):=by
     rw[shr8_nat];unfold bit;rw[show(8*i+j) / 8=i from by omega,show(8*i+j) % 8=j from by omega,getD_at _ _ _ hi]
   have e2:Int.tmod ((SL b[i] (7 - j)).toNat:Int) 2=((bit b (8*i+j):Nat):Int):=by rw[tmod2,ebit]
   have hb2:=N9 b (8*i+j);have e3:ay (2*((wv (bit b) (6*((8*i+j) / 6)) ((8*i+j) % 6):Nat):Int))=((2*wv (bit b) (6*((8*i+j) / 6)) ((8*i+j) % 6):Nat):Int):=by rw[bu (by omega)];omega
   have e4:ay (((2*wv (bit b) (6*((8*i+j) / 6)) ((8*i+j) % 6):Nat):Int)+((bit b (8*i+j):Nat):Int))=((wv (bit b) (6*((8*i+j) / 6)) ((8*i+j) % 6+1):Nat):Int):=by
     rw[bu (by omega)];simp only[wv];rw[show 6*((8*i+j) / 6)+(8*i+j) % 6=8*i+j from by omega];omega
   rw[ek,e1,e2,e3,e4];have e5:ay (7 - (j:Int) - 1)=(7:Int) - ((j+1:Nat):Int):=by rw[bu (by omega)];omega
   by_cases h6:(8*i+j) % 6+1=6
   ·rw[if_pos (by omega),h6];have e6:=Yn (wv6 b (6*((8*i+j) / 6)));unfold tbl at e6;rw[e6];simp only[Option.bind_some];rw[gK (by rw[QS];simp;omega)];simp only[Option.bind_some,yE,e5];have q1:(8*i+(j+1)) / 6=(8*i+j) / 6+1:=by omega
    have q2:(8*i+(j+1)) % 6=0:=by omega
    rw[q1,q2,<-N_];rfl
   ·rw[if_neg (by omega)];simp only[yE,e5];have q1:(8*i+(j+1)) / 6=(8*i+j) / 6:=by omega
    have q2:(8*i+(j+1)) % 6=(8*i+j) % 6+1:=by omega
    rw[q1,q2]
  ·right;obtain rfl:j=8:=by omega
   rw[if_neg (by omega)];have e5:ay ((i:Int)+1)=((i+1:Nat):Int):=by rw[bu (by omega)];omega
   rw[e5];rfl
theorem Y7 (b:List UInt8)(hb:b.length<=4194304):Eh b=some (enc b):=by
  unfold Eh;refine mY (fun i s=>s=(FC b (8*i / 6),((8*i % 6:Nat):Int),((wv (bit b) (6*(8*i / 6)) (8*i % 6):Nat):Int),(i:Int))/\i<=b.length) _ b.length _ ⟨by simp[FC,wv],by omega⟩ ?_;rintro i s ⟨rfl,hi⟩;unfold Io;simp only[];by_cases hlt:i < b.length
  ·left;refine⟨hlt,_,?_,rfl,by omega⟩;rw[if_pos (by omega),rb64_in b hb i hlt]
  ·right;obtain rfl:i=b.length:=by omega
   rw[if_neg (by omega)];have hw:=QR (N9 b) (6*(8*b.length / 6)) (8*b.length % 6);have hp6:2 ^ (8*b.length % 6)<=2 ^ 6:=Nat.pow_le_pow_right (by omega) (by omega);by_cases h0:8*b.length % 6=0
   ·rw[if_neg (by omega)];simp only[yF,Option.map_some,enc];rw[show(8*b.length+5) / 6=8*b.length / 6 from by omega]
   ·rw[if_pos (by omega)];have key:aY (DT (FC b (8*b.length / 6))) (((8*b.length % 6:Nat):Int),((wv (bit b) (6*(8*b.length / 6)) (8*b.length % 6):Nat):Int))=some (enc b):=by
      refine mY (fun j s=>s=(((8*b.length % 6+j:Nat):Int),((wv (bit b) (6*(8*b.length / 6)) (8*b.length % 6+j):Nat):Int))/\8*b.length % 6+j<=6) _ 6 _ ⟨by simp,by omega⟩ ?_;rintro j s ⟨rfl,hj⟩;unfold DT;simp only[];have hw2:=QR (N9 b) (6*(8*b.length / 6)) (8*b.length % 6+j);have hp62:2 ^ (8*b.length % 6+j)<=2 ^ 6:=Nat.pow_le_pow_right (by omega) (by omega);by_cases hlt2:8*b.length % 6+j < 6
      ·left;refine⟨by omega,_,?_,rfl,by omega⟩;rw[if_pos (by omega),bu (by omega),bu (by omega)];simp only[Option.some.injEq,Sum.inl.injEq,Prod.mk.injEq,true_and];refine⟨by omega,?_⟩;rw[<- Nat.add_assoc];simp only[wv];rw[UA b _ (by omega)];omega
      ·right;have hj6:8*b.length % 6+j=6:=by omega
       rw[hj6,if_neg (by omega)];have e6:=Yn (wv6 b (6*(8*b.length / 6)));unfold tbl at e6;rw[e6];simp only[Option.bind_some];rw[gK (by rw[QS];simp;omega)];simp only[Option.bind_some,yF,Option.map_some,enc];rw[show(8*b.length+5) / 6=8*b.length / 6+1 from by omega,<-N_];rfl
    rw[key];rfl
theorem bits24 (x y z:Nat)(hx:x < 256)(hy:y < 256)(hz:z < 256)(q:Nat)(hq:q < 24) :
    (x*65536+y*256+z) / 2 ^ (23 - q) % 2=(if q / 8=0 then x else if q / 8=1 then y else z) / 2 ^ (7 - q % 8) % 2:=by
  have:q=0∨q=1∨q=2∨q=3∨q=4∨q=5∨q=6∨q=7∨q=8∨q=9∨q=10∨q=11∨q=12∨q=13∨q=14∨q=15∨q=16∨q=17∨q=18∨q=19∨q=20∨q=21∨q=22∨q=23:=by omega
  rcases this with rfl | rfl | rfl | rfl | rfl | rfl | rfl | rfl | rfl | rfl | rfl | rfl | rfl | rfl | rfl | rfl | rfl | rfl | rfl | rfl | rfl | rfl | rfl | rfl <;>
    (simp only[Nat.reduceSub,Nat.reducePow,Nat.reduceDiv,Nat.reduceMod,reduceIte,Nat.reduceEqDiff,Nat.succ_ne_self,Nat.div_one];omega)
theorem or16 (x:UInt8):(oh (UInt32.ofNat x.toNat) ((16:UInt64).toNat)).toNat=x.toNat*65536:=by
  have hx:=x.toNat_lt;simp only[oh,<-UInt32.toNat_toBitVec,BitVec.toNat_shiftLeft];simp only[UInt32.toNat_toBitVec,UInt32.toNat_ofNat',show(16:UInt64).toNat=16 from rfl,Nat.shiftLeft_eq];omega
theorem or16_8 (v:UInt32)(x y:UInt8)(hv:v.toNat=x.toNat*65536):(v|||oh (UInt32.ofNat y.toNat) ((8:UInt64).toNat)).toNat=x.toNat*65536+y.toNat*256:=by
  have hx:=x.toNat_lt;have hy:=y.toNat_lt;have e:(oh (UInt32.ofNat y.toNat) ((8:UInt64).toNat)).toNat=y.toNat*256:=by
    simp only[oh,<-UInt32.toNat_toBitVec,BitVec.toNat_shiftLeft];simp only[UInt32.toNat_toBitVec,UInt32.toNat_ofNat',show(8:UInt64).toNat=8 from rfl,Nat.shiftLeft_eq];omega
  rw[UInt32.toNat_or,hv,e,show x.toNat*65536=x.toNat <<< 16 from by rw[Nat.shiftLeft_eq],<-Nat.shiftLeft_add_eq_or_of_lt (by omega)]
theorem or16_0 (v:UInt32)(n:Nat)(y:UInt8)(hv:v.toNat=n*256):(v|||UInt32.ofNat y.toNat).toNat=n*256+y.toNat:=by
  have hy:=y.toNat_lt;rw[UInt32.toNat_or,hv,show n*256=n <<< 8 from by rw[Nat.shiftLeft_eq]];have e:(UInt32.ofNat y.toNat).toNat=y.toNat:=by simp only[UInt32.toNat_ofNat'];omega
  rw[e,<-Nat.shiftLeft_add_eq_or_of_lt (by omega)]
theorem w_let (b:List UInt8)(j k:Nat)(hk:k < 4)(v:UInt32)(hv:v.toNat=(b.getD (3*j) 0).toNat*65536+(b.getD (3*j+1) 0).toNat*256+(b.getD (3*j+2) 0).toNat) :
    ((nG v (18 - 6*k))&&&63).toNat=wv (bit b) (6*(4*j+k)) 6:=by
  have e1:((nG v (18 - 6*k))&&&63).toNat=(v.toNat / 2 ^ (18 - 6*k)) % 64:=by
    rw[UInt32.toNat_and];have:(nG v (18 - 6*k)).toNat=v.toNat / 2 ^ (18 - 6*k):=by simp[nG,Nat.shiftRight_eq_div_pow]
    rw[this];exact Nat.and_two_pow_sub_one_eq_mod _ 6
  rw[e1];symm;apply Ym;intro t ht;have h24:=bits24 _ _ _ (b.getD (3*j) 0).toNat_lt (b.getD (3*j+1) 0).toNat_lt (b.getD (3*j+2) 0).toNat_lt (6*k+t) (by omega);rw[<- hv] at h24;rw[Nat.div_div_eq_div_mul,<-Nat.pow_add,show 18 - 6*k+(6 - 1 - t)=23 - (6*k+t) from by omega,h24];unfold bit;have q1:(6*(4*j+k)+t) / 8=3*j+(6*k+t) / 8:=by omega
  have q2:(6*(4*j+k)+t) % 8=(6*k+t) % 8:=by omega
  rw[q1,q2];have q3:(6*k+t) / 8=0∨(6*k+t) / 8=1∨(6*k+t) / 8=2:=by omega
  rcases q3 with h | h | h <;> simp[h]
theorem w_in (b:List UInt8)(hb:b.length<=4194304)(j n:Nat)(hj:3*j < b.length)(hn:n=min 3 (b.length - 3*j))(v:UInt32)(hv:v.toNat=(b.getD (3*j) 0).toNat*65536+(b.getD (3*j+1) 0).toNat*256+(b.getD (3*j+2) 0).toNat) :
    oQ b (FC b (4*j)) ((3*j:Nat):Int) v=some (.inl (FC b (4*j+n+1),((3*(j+1):Nat):Int))):=by
  unfold oQ;have en:(if ay (((b.length:Nat):Int) - ((3*j:Nat):Int)) < 3 then ay (((b.length:Nat):Int) - ((3*j:Nat):Int)) else 3)=(n:Int):=by
    rw[bu (by omega)];split <;> omega
  refine mY (fun k s=>s=(FC b (4*j+k),(k:Int))/\k<=n+1) _ (n+1) _ ⟨by simp,by omega⟩ ?_;rintro k s ⟨rfl,hk⟩;unfold Bv;simp only[];rw[en];have e1:ay ((n:Int)+1)=((n+1:Nat):Int):=by rw[bu (by omega)];omega
  rw[e1];by_cases hlt:k < n+1
  ·left;refine⟨hlt,_,?_,rfl,by omega⟩;have e2:ay (6*(k:Int))=((6*k:Nat):Int):=by rw[bu (by omega)];omega
   have e3:ay (18 - ((6*k:Nat):Int))=((18 - 6*k:Nat):Int):=by rw[bu (by omega)];omega
   rw[if_pos (by omega),e2,e3,jo (by omega)];simp only[Option.bind_some,Int.toNat_natCast];rw[w_let b j k (by omega) v hv];have e6:=Yn (wv6 b (6*(4*j+k)));unfold tbl at e6;rw[e6];simp only[Option.bind_some];rw[gK (by rw[QS];simp;omega),bu (by omega)];simp only[Option.bind_some];rw[<- Nat.add_assoc,<-N_];rfl
  ·right;obtain rfl:k=n+1:=by omega
   rw[if_neg (by omega)];simp only[xu,Option.map_some];have e4:ay (((3*j:Nat):Int)+3)=((3*(j+1):Nat):Int):=by rw[bu (by omega)];omega
   rw[e4];rfl
theorem Y8 (b:List UInt8)(hb:b.length<=4194304):uZ b=some (enc b):=by
  unfold uZ;refine mY (fun j s=>s=(FC b (min (4*j) ((8*b.length+5) / 6)),((3*j:Nat):Int))) _ b.length _ (by simp[FC]) ?_;rintro j s rfl;unfold Bz;simp only[];by_cases hlt:3*j < b.length
  ·left;refine⟨by omega,(FC b (min (4*(j+1)) ((8*b.length+5) / 6)),((3*(j+1):Nat):Int)),?_,rfl⟩;rw[if_pos (by omega),gZ hlt];simp only[Option.bind_some];have e1:ay (((b.length:Nat):Int) - ((3*j:Nat):Int))=((b.length - 3*j:Nat):Int):=by rw[bu (by omega)];omega
   rw[show min (4*j) ((8*b.length+5) / 6)=4*j from by omega];have g0:b.getD (3*j) 0=b[3*j]:=getD_at _ _ _ hlt;have h16:=or16 b[3*j];by_cases h1:3*j+1 < b.length
   ·rw[e1,if_pos (by split <;> omega)];have e2:ay (((3*j:Nat):Int)+1)=((3*j+1:Nat):Int):=by rw[bu (by omega)];omega
    rw[e2,gZ h1];simp only[Option.bind_some];have g1:b.getD (3*j+1) 0=b[3*j+1]:=getD_at _ _ _ h1;have h8:=or16_8 _ b[3*j] b[3*j+1] h16;unfold oU;rw[e1];by_cases h2:3*j+2 < b.length
    ·rw[if_pos (by split <;> omega)];have e3:ay (((3*j:Nat):Int)+2)=((3*j+2:Nat):Int):=by rw[bu (by omega)];omega
     rw[e3,gZ h2];simp only[Option.bind_some];have g2:b.getD (3*j+2) 0=b[3*j+2]:=getD_at _ _ _ h2;have h0:=or16_0 _ (b[3*j].toNat*256+b[3*j+1].toNat) b[3*j+2] (by rw[h8];omega);rw[show min (4*(j+1)) ((8*b.length+5) / 6)=4*j+3+1 from by omega];exact w_in b hb j 3 hlt (by omega) _ (by rw[h0,g0,g1,g2];omega)
    ·rw[if_neg (by split <;> omega)];have g2:b.getD (3*j+2) 0=0:=JA _ _ _ (by omega);rw[show min (4*(j+1)) ((8*b.length+5) / 6)=4*j+2+1 from by omega];exact w_in b hb j 2 hlt (by omega) _ (by rw[h8,g0,g1,g2];simp)
   ·rw[e1,if_neg (by split <;> omega)];unfold oU;rw[e1,if_neg (by split <;> omega)];have g1:b.getD (3*j+1) 0=0:=JA _ _ _ (by omega);have g2:b.getD (3*j+2) 0=0:=JA _ _ _ (by omega);rw[show min (4*(j+1)) ((8*b.length+5) / 6)=4*j+1+1 from by omega];exact w_in b hb j 1 hlt (by omega) _ (by rw[h16,g0,g1,g2];simp)
  ·right;rw[if_neg (by omega)];simp only[Option.map_some,enc];rw[show min (4*j) ((8*b.length+5) / 6)=(8*b.length+5) / 6 from by omega]
def lb (s:List UInt8)(k:Nat):Nat:=lt (s.getD (k / 6) 0) / 2 ^ (5 - k % 6) % 2
theorem lb_lt (s:List UInt8)(k:Nat):lb s k < 2:=Nat.mod_lt _ (by omega)
theorem lb_out (s:List UInt8)(k:Nat)(h:6*s.length<=k):lb s k=0:=by
  unfold lb;rw[JA _ _ _ (by omega),show lt 0=64 from by decide];have:k % 6=0∨k % 6=1∨k % 6=2∨k % 6=3∨k % 6=4∨k % 6=5:=by omega
  rcases this with h | h | h | h | h | h <;> rw[h]
theorem lb_wv (s:List UInt8)(i:Nat)(hi:i < s.length)(h:lt s[i] < 64):wv (lb s) (6*i) 6=lt s[i]:=by
  rw[Ym (lb s) (6*i) 6 (lt s[i])]
  ·exact Nat.mod_eq_of_lt (by omega)
  ·intro j hj;unfold lb;rw[show(6*i+j) / 6=i from by omega,show(6*i+j) % 6=j from by omega,getD_at _ _ _ hi]
def QT (f:Nat->Nat)(n:Nat):List UInt8:=(List.range n).map fun m=>UInt8.ofNat (wv f (8*m) 8)
theorem WY (f:Nat->Nat)(n:Nat):(QT f n).length=n:=by simp[QT]
theorem decN_succ (f:Nat->Nat)(n:Nat):QT f n++[UInt8.ofNat (wv f (8*n) 8)]=QT f (n+1):=by
  unfold QT;rw[List.range_succ,List.map_append];rfl
def badL (s:List UInt8):Nat:=s.findIdx (fun c=>decide (64<=lt c))
theorem badL_le (s:List UInt8):badL s<=s.length:=List.findIdx_le_length
theorem badL_ok (s:List UInt8)(i:Nat)(h:i < badL s)(hi:i < s.length):lt s[i] < 64:=by
  have:=List.not_of_lt_findIdx h;simp only[decide_eq_false_iff_not] at this;omega
theorem Y9 (s:List UInt8)(h:badL s < s.length):lt s[badL s]=64:=by
  have:=List.findIdx_getElem (w:=h);simp only[decide_eq_true_eq] at this;have:=lt_le s[badL s];simp only[badL] at *;omega
def zt (s:List UInt8):List UInt8×Int×Int :=
  if badL s < s.length then([],(badL s:Int),4) else if s.length % 4=1 then([],(s.length:Int),4) else
  if wv (lb s) (8*(6*s.length / 8)) (6*s.length % 8)≠0 then([],(s.length:Int) - 1,4) else(QT (lb s) (6*s.length / 8),0,0)
theorem p7 (r:Nat)(h:r<=7):((oh 1 r) - 1).toNat=2 ^ r - 1:=by
  have:∀ r:Nat,r < 8->((oh 1 r) - 1).toNat=2 ^ r - 1:=by decide +kernel
  exact this r (by omega)
theorem u32_of {a b:UInt32}(h:a.toNat=b.toNat):a=b:=UInt32.toNat_inj.1 h
theorem wunb64 (s:List UInt8)(hs:s.length<=4194304):qw s=some (zt s):=by
  unfold qw;have hbl:=badL_le s;refine mY (fun i x=>x=(QT (lb s) (6*i / 8),((6*i % 8:Nat):Int),UInt32.ofNat (wv (lb s) (8*(6*i / 8)) (6*i % 8)),(i:Int))/\i<=badL s) _ (badL s) _ ⟨by simp[QT,wv],by omega⟩ ?_;rintro i x ⟨rfl,hi⟩;unfold yR;simp only[];have hw:=QR (lb_lt s) (8*(6*i / 8)) (6*i % 8);have hp6:2 ^ (6*i % 8)<=2 ^ 6:=Nat.pow_le_pow_right (by omega) (by omega);by_cases hlt:i < s.length
  ·rw[if_pos (by omega),gZ hlt];simp only[Option.bind_some,wletter];have e3:ay ((i:Int)+1)=((i+1:Nat):Int):=by rw[bu (by omega)];omega
   by_cases hb:i < badL s
   ·left;have hd:=badL_ok s i hb hlt;refine⟨hb,(QT (lb s) (6*(i+1) / 8),((6*(i+1) % 8:Nat):Int),UInt32.ofNat (wv (lb s) (8*(6*(i+1) / 8)) (6*(i+1) % 8)),((i+1:Nat):Int)),?_,rfl,by omega⟩;rw[if_pos hd];simp only[Bool.not_true,Bool.false_eq_true,if_false];have hv:(oh (UInt32.ofNat (wv (lb s) (8*(6*i / 8)) (6*i % 8))) ((6:UInt64).toNat)|||UInt32.ofNat (lt s[i])).toNat=wv (lb s) (8*(6*i / 8)) (6*i % 8+6):=by
      rw[Yl,show 8*(6*i / 8)+6*i % 8=6*i from by omega,lb_wv s i hlt hd];have e1:(oh (UInt32.ofNat (wv (lb s) (8*(6*i / 8)) (6*i % 8))) ((6:UInt64).toNat)).toNat=wv (lb s) (8*(6*i / 8)) (6*i % 8)*64:=by
        simp only[oh,<-UInt32.toNat_toBitVec,BitVec.toNat_shiftLeft];simp only[UInt32.toNat_toBitVec,UInt32.toNat_ofNat',show(6:UInt64).toNat=6 from rfl,Nat.shiftLeft_eq];omega
      have e2:(UInt32.ofNat (lt s[i])).toNat=lt s[i]:=by simp only[UInt32.toNat_ofNat'];omega
      rw[UInt32.toNat_or,e1,e2,show wv (lb s) (8*(6*i / 8)) (6*i % 8)*64=wv (lb s) (8*(6*i / 8)) (6*i % 8) <<< 6 from by rw[Nat.shiftLeft_eq],<-Nat.shiftLeft_add_eq_or_of_lt (by omega),Nat.shiftLeft_eq]
    generalize oh (UInt32.ofNat (wv (lb s) (8*(6*i / 8)) (6*i % 8))) ((6:UInt64).toNat)|||UInt32.ofNat (lt s[i])=v at hv;have e4:ay (((6*i % 8:Nat):Int)+6)=((6*i % 8+6:Nat):Int):=by rw[bu (by omega)];omega
    rw[e4];by_cases h8:8<=6*i % 8+6
    ·have e5:ay (((6*i % 8+6:Nat):Int) - 8)=((6*i % 8 - 2:Nat):Int):=by rw[bu (by omega)];omega
     rw[if_pos (by omega),e5,jo (by omega)];simp only[Option.bind_some,Int.toNat_natCast];have q0:6*i % 8+6=8+(6*i % 8 - 2):=by omega
     rw[q0,Yl] at hv;have hw2:=QR (lb_lt s) (8*(6*i / 8)+8) (6*i % 8 - 2);have hpr:2 ^ (6*i % 8 - 2)<=2 ^ 4:=Nat.pow_le_pow_right (by omega) (by omega);have q1:UInt8.ofNat (nG v (6*i % 8 - 2)).toNat=UInt8.ofNat (wv (lb s) (8*(6*i / 8)) 8):=by
       have:(nG v (6*i % 8 - 2)).toNat=v.toNat / 2 ^ (6*i % 8 - 2):=by simp[nG,Nat.shiftRight_eq_div_pow]
       rw[this,hv,Nat.mul_comm,Nat.mul_add_div (Nat.pow_pos (by omega)),Nat.div_eq_of_lt hw2,Nat.add_zero]
     have q2:v&&&(oh 1 (6*i % 8 - 2) - 1)=UInt32.ofNat (wv (lb s) (8*(6*i / 8)+8) (6*i % 8 - 2)):=by
       apply u32_of;rw[UInt32.toNat_and,p7 _ (by omega),Nat.and_two_pow_sub_one_eq_mod,hv,Nat.mul_comm,Nat.mul_add_mod,Nat.mod_eq_of_lt hw2];simp only[UInt32.toNat_ofNat'];omega
     rw[q1,q2,gK (by rw[WY];simp;omega)];simp only[Option.bind_some,ng];rw[decN_succ,e3];rw[show 6*(i+1) / 8=6*i / 8+1 from by omega,show 6*(i+1) % 8=6*i % 8 - 2 from by omega,show 8*(6*i / 8+1)=8*(6*i / 8)+8 from by omega]
    ·rw[if_neg (by omega)];simp only[ng];rw[e3,show 6*(i+1) / 8=6*i / 8 from by omega,show 6*(i+1) % 8=6*i % 8+6 from by omega,<-hv];simp
   ·right;obtain rfl:i=badL s:=by omega
    have hd:=Y9 s hlt;rw[if_neg (show ¬ lt s[badL s] < 64 from by omega)];simp only[Bool.not_false,if_true,Option.map_some];rw[zt,if_pos hlt]
  ·right;have hi':i=s.length:=by omega
   subst hi';rw[if_neg (by omega),tmod4];rw[zt,if_neg (show ¬ badL s < s.length from by omega)];by_cases h2:s.length % 4=1
   ·rw[if_pos (show((s.length % 4:Nat):Int)=1 from by omega),if_pos h2];rfl
   ·rw[if_neg (show ¬ ((s.length % 4:Nat):Int)=1 from by omega),if_neg h2];by_cases h0:wv (lb s) (8*(6*s.length / 8)) (6*s.length % 8)=0
    ·rw[if_neg (by rw[h0];decide),if_neg (by simpa using h0)];rfl
    ·have hne:UInt32.ofNat (wv (lb s) (8*(6*s.length / 8)) (6*s.length % 8))≠0:=by
       intro h;have:=congrArg UInt32.toNat h;simp only[UInt32.toNat_ofNat',show(0:UInt32).toNat=0 from rfl] at this;omega
     rw[if_pos hne,if_pos h0,bu (by omega)];rfl
theorem Ij (b:List UInt8):(enc b).length=(8*b.length+5) / 6:=by simp[enc,FC]
theorem lb_enc (b:List UInt8)(k:Nat):lb (enc b) k=bit b k:=by
  by_cases h:k < 6*(enc b).length
  ·unfold lb;rw[getD_at _ _ _ (by omega)];have e:(enc b)[k / 6]'(by omega)=tbl.getD (wv (bit b) (6*(k / 6)) 6) 0:=by simp[enc,FC]
   rw[e,Yo _ (wv6 _ _)];have:=wv_bit (N9 b) (6*(k / 6)) 6 (k % 6) (by omega);rw[show 6*(k / 6)+k % 6=k from by omega] at this;rw[<- this]
  ·rw[lb_out _ _ (by omega),UA];rw[Ij] at h;omega
theorem decN_bit (b:List UInt8):QT (bit b) b.length=b:=by
  apply List.ext_getElem
  ·rw[WY]
  ·intro j h1 h2;simp only[QT,List.getElem_map,List.getElem_range];have hx:=(b[j]).toNat_lt;rw[Ym (bit b) (8*j) 8 (b[j]).toNat]
   ·simp
   ·intro t ht;unfold bit;rw[show(8*j+t) / 8=j from by omega,show(8*j+t) % 8=t from by omega,getD_at _ _ _ h2]
theorem SH (b:List UInt8):zt (enc b)=(b,0,0):=by
  have hl:=Ij b;have hnb:¬ badL (enc b) < (enc b).length:=by
    intro h;have h1:=Y9 _ h;have e:(enc b)[badL (enc b)]'h=tbl.getD (wv (bit b) (6*badL (enc b)) 6) 0:=by simp[enc,FC]
    rw[e,Yo _ (wv6 _ _)] at h1;have:=wv6 b (6*badL (enc b));omega
  have hf:lb (enc b)=bit b:=funext (lb_enc b);have hn:6*(enc b).length / 8=b.length:=by omega
  unfold zt;rw[if_neg hnb,if_neg (by omega),hf,hn];have hz:wv (bit b) (8*b.length) (6*(enc b).length % 8)=0:=wv_zero _ _ (fun j _=>UA b _ (by omega));rw[hz,if_neg (by simp),decN_bit]
end Go.Sx
namespace Go.Sx
open Go.RowKit
set_option linter.unusedVariables false
set_option linter.unusedSimpArgs false
theorem wS (n:Nat)(h:n < 9223372036854775807):ay ((n:Int)+1)=((n+1:Nat):Int):=by rw[bu] <;> omega
theorem tf1 {a b:Bool}(h1:a=false)(h2:b=false):¬ ((a||b)=true):=by rw[h1,h2];decide
theorem tf2 {a b:Bool}(h1:a=true):(a||b)=true:=by rw[h1];rfl
theorem tf3 {a b:Bool}(h1:b=true):(a||b)=true:=by rw[h1,Bool.or_true]
theorem ft1 {a b:Bool}(h1:a=true)(h2:b=true):(a&&b)=true:=by rw[h1,h2];rfl
theorem ft2 {a b:Bool}(h1:a=false):¬ ((a&&b)=true):=by rw[h1,Bool.false_and];decide
theorem ft3 {a b:Bool}(h1:b=false):¬ ((a&&b)=true):=by rw[h1,Bool.and_false];decide
theorem gif1 {β:Type}[Inhabited β]{c:Bool}(o:Option β)(h:c=true):FI c o=o:=by rw[h];rfl
theorem gif0 {β:Type}[Inhabited β]{c:Bool}(o:Option β)(h:c=false):FI c o=some default:=by rw[h];rfl
theorem SI {β:Type}[Inhabited β](o:Option β):FI (!false) o=o:=rfl
theorem gifNT {β:Type}[Inhabited β](o:Option β):FI (!true) o=some default:=rfl
def vX (s:List UInt8):Nat->Bool->List UInt8->Nat×Bool
  | a,ok,[]=>(a,ok)
  | a,ok,c::t=>if ok=true then(if s[a]?=some c then vX s (a+1) true t else(a,false)) else(a,false)
theorem F6 (s:List UInt8):∀ (t:List UInt8) (a:Nat) (ok:Bool),a<=s.length->(vX s a ok t).1<=s.length
  | [],a,ok,h=>h
  | c::t,a,ok,h=>by
    unfold vX;split
    ·split
     ·rename_i h1;obtain⟨h2,_⟩:=List.getElem?_eq_some_iff.1 h1;exact F6 s t (a+1) true h2
     ·exact h
    ·exact h
theorem Y_ (s:List UInt8)(a:Nat)(t:List UInt8):vX s a false t=(a,false):=by
  cases t <;> rfl
section
variable (s:List UInt8)(hs:s.length<=4194304)
include hs
theorem QU (t:List UInt8)(ht:t.length<=100)(a:Nat)(ha:a<=s.length)(ok:Bool):iW s (a:Int) ok t=some (s,((vX s a ok t).1:Int),(vX s a ok t).2):=by
  have key:∀ (j i a:Nat),i+j=t.length->a<=s.length->aY (kT s true t) ((a:Int),(i:Int))=some (s,((vX s a true (t.drop i)).1:Int),(vX s a true (t.drop i)).2):=by
    intro j
    induction j with
    | zero =>
      intro i a hi ha;rw[List.drop_eq_nil_of_le (by omega)];refine jl ?_;unfold kT;dsimp only;rw[if_neg (ft2 (decide_eq_false (by omega)))];rfl
    | succ j ih =>
      intro i a hi ha;have hit:i < t.length:=by omega
      rw[List.drop_eq_getElem_cons hit];by_cases hlt:a < s.length
      ·have e1:aU s (a:Int)=some s[a]:=gZ hlt;have e2:aU t (i:Int)=some t[i]:=gZ hit;have d1:decide ((s.length:Int)<=(a:Int))=false:=decide_eq_false (by omega);by_cases hc:s[a]=t[i]
       ·rw[mF (s':=(((a+1:Nat):Int),((i+1:Nat):Int))) (by
          unfold kT;dsimp only;rw[if_pos (ft1 (decide_eq_true (by omega)) rfl),d1,SI,SI,e1,e2,Option.bind_some,Option.bind_some,if_neg (tf1 rfl (decide_eq_false (fun q=>q hc))),wS a (by omega),wS i (by omega)])]
        rw[ih (i+1) (a+1) (by omega) (by omega)]
        conv=>rhs;unfold vX
        rw[if_pos rfl,if_pos (by rw[List.getElem?_eq_getElem hlt,hc])]
       ·rw[jl (r:=(s,(a:Int),false)) (by
          unfold kT;dsimp only;rw[if_pos (ft1 (decide_eq_true (by omega)) rfl),d1,SI,SI,e1,e2,Option.bind_some,Option.bind_some,if_pos (tf3 (decide_eq_true hc))];rfl)]
        unfold vX;rw[if_pos rfl,if_neg (by rw[List.getElem?_eq_getElem hlt];exact fun q=>hc (Option.some.inj q))]
      ·have d1:decide ((s.length:Int)<=(a:Int))=true:=decide_eq_true (by omega);rw[jl (r:=(s,(a:Int),false)) (by
         unfold kT;dsimp only;rw[if_pos (ft1 (decide_eq_true (by omega)) rfl),d1,gifNT,gifNT,Option.bind_some,Option.bind_some,if_pos (tf2 rfl)];rfl)]
       unfold vX;rw[if_pos rfl,if_neg (by rw[List.getElem?_eq_none (by omega)];exact fun q=>by cases q)]
  unfold iW;cases ok with
  | true=>exact key t.length 0 a (by omega) ha
  | false =>
    rw[Y_];refine jl ?_;unfold kT;dsimp only;rw[if_neg (ft3 rfl)];rfl
end
def UB (c:UInt8):Bool:=decide (lt c < 64)
def Oa (s:List UInt8)(a:Nat)(ok:Bool):List UInt8:=if ok=true then(s.drop a).takeWhile UB else[]
theorem Za (s:List UInt8)(a:Nat)(ok:Bool)(ha:a<=s.length):a+(Oa s a ok).length<=s.length:=by
  unfold Oa;split
  ·have:=(List.takeWhile_prefix (p:=UB) (l:=s.drop a)).length_le;rw[List.length_drop] at this;omega
  ·simpa using ha
end Go.Sx
namespace Go.Sx
open Go.RowKit
set_option linter.unusedVariables false
set_option linter.unusedSimpArgs false
theorem slcN (s:List UInt8)(a b:Nat)(h1:a<=b)(h2:b<=s.length):G6 s (a:Int) (b:Int)=some ((s.take b).drop a):=zG ⟨by omega,by omega,by omega⟩
theorem isB_chk:∀ c:UInt8,UB c=((((decide (0<=TC ([43,47]:List UInt8) c))||((decide ((48:UInt8)<=c))&&(decide (c<=57))))||((decide ((65:UInt8)<=c))&&(decide (c<=90))))||((decide ((97:UInt8)<=c))&&(decide (c<=122)))):=by
  intro c;refine QQ (p:=fun c=>UB c=((((decide (0<=TC ([43,47]:List UInt8) c))||((decide ((48:UInt8)<=c))&&(decide (c<=57))))||((decide ((65:UInt8)<=c))&&(decide (c<=90))))||((decide ((97:UInt8)<=c))&&(decide (c<=122))))) ?_ c;decide +kernel
section
variable (s:List UInt8)(hs:s.length<=4194304)
include hs
theorem WZ (a p:Nat)(hp:p < s.length):jT s (a:Int) true (p:Int)=if UB s[p]=true then some (.inl ((p+1:Nat):Int)) else Option.map Sum.inr ((G6 s (a:Int) (p:Int)).bind fun t=>some (t,(a:Int),s,(p:Int),true)):=by
  unfold jT;dsimp only;rw[if_pos (ft1 rfl (decide_eq_true (by omega))),gZ hp,Option.bind_some,show rZ ([43,47]:List UInt8) s[p]=some (TC [43,47] s[p]) from rfl,Option.bind_some,wS p (by omega),isB_chk];generalize s[p]=c;cases h1:decide (0<=TC ([43,47]:List UInt8) c) with
  | true=>rfl
  | false =>
    rw[SI,Option.bind_some,SI];cases h2:decide ((48:UInt8)<=c) with
    | false =>
      rw[show(FI false (some c))=some default from rfl,Option.bind_some];rw[show(!(false||(false&&decide ((default:UInt8)<=57))))=true from rfl,show(FI true (some c))=some c from rfl,Option.bind_some];cases h4:decide ((65:UInt8)<=c) with
      | false =>
        rw[show FI true (FI false (some c))=some default from rfl,Option.bind_some];rw[show(!((false||(false&&decide ((default:UInt8)<=57)))||(false&&decide ((default:UInt8)<=90))))=true from rfl,show(FI true (some c))=some c from rfl,Option.bind_some];cases h6:decide ((97:UInt8)<=c) with
        | false=>rfl
        | true =>
          rw[show FI true (FI true (some c))=some c from rfl,Option.bind_some];rfl
      | true =>
        rw[show FI true (FI true (some c))=some c from rfl,Option.bind_some];cases h5:decide (c<=90) with
        | true=>rfl
        | false =>
          rw[show(!((false||(false&&decide ((default:UInt8)<=57)))||(true&&false)))=true from rfl,show(FI true (some c))=some c from rfl,Option.bind_some];cases h6:decide ((97:UInt8)<=c) with
          | false=>rfl
          | true =>
            rw[show FI true (FI true (some c))=some c from rfl,Option.bind_some];rfl
    | true =>
      rw[show(FI true (some c))=some c from rfl,Option.bind_some];cases h3:decide (c<=57) with
      | true=>rfl
      | false =>
        rw[show(!(false||(true&&false)))=true from rfl,show(FI true (some c))=some c from rfl,Option.bind_some];cases h4:decide ((65:UInt8)<=c) with
        | false =>
          rw[show FI true (FI false (some c))=some default from rfl,Option.bind_some];rw[show(!((false||(true&&false))||(false&&decide ((default:UInt8)<=90))))=true from rfl,show(FI true (some c))=some c from rfl,Option.bind_some];cases h6:decide ((97:UInt8)<=c) with
          | false=>rfl
          | true =>
            rw[show FI true (FI true (some c))=some c from rfl,Option.bind_some];rfl
        | true =>
          rw[show FI true (FI true (some c))=some c from rfl,Option.bind_some];cases h5:decide (c<=90) with
          | true=>rfl
          | false =>
            rw[show(!((false||(true&&false))||(true&&false)))=true from rfl,show(FI true (some c))=some c from rfl,Option.bind_some];cases h6:decide ((97:UInt8)<=c) with
            | false=>rfl
            | true =>
              rw[show FI true (FI true (some c))=some c from rfl,Option.bind_some]
omit hs in
theorem tkw (a:Nat)(h:a<=s.length):((s.take (a+((s.drop a).takeWhile UB).length)).drop a)=(s.drop a).takeWhile UB:=by
  rw[List.drop_take];have h1:=(List.takeWhile_prefix (p:=UB) (l:=s.drop a))
  have:a+((s.drop a).takeWhile UB).length - a=((s.drop a).takeWhile UB).length:=by omega
  rw[this];exact(List.prefix_iff_eq_take.1 h1).symm
theorem let_p (a:Nat)(ha:a<=s.length)(ok:Bool):mZ s (a:Int) ok=some (Oa s a ok,(a:Int),s,((a+(Oa s a ok).length:Nat):Int),ok):=by
  unfold mZ Oa;cases ok with
  | true =>
    rw[if_pos rfl];have key:∀ (j p:Nat),p+j=s.length->a<=p->aY (jT s (a:Int) true) (p:Int)=some (((s.take (p+((s.drop p).takeWhile UB).length)).drop a),(a:Int),s,((p+((s.drop p).takeWhile UB).length:Nat):Int),true):=by
      intro j
      induction j with
      | zero =>
        intro p hp hap;obtain rfl:p=s.length:=by omega
        rw[List.drop_length];refine jl ?_;unfold jT;dsimp only;rw[if_neg (ft3 (decide_eq_false (by omega))),slcN s a s.length ha (by omega)];rfl
      | succ j ih =>
        intro p hp hap;have hp':p < s.length:=by omega
        rw[List.drop_eq_getElem_cons hp'];cases hb:UB s[p] with
        | true =>
          rw[mF (by rw[WZ s hs a p hp',hb];rfl),ih (p+1) (by omega) (by omega),List.takeWhile_cons,if_pos hb,List.length_cons,show p+1+((s.drop (p+1)).takeWhile UB).length=p+(((s.drop (p+1)).takeWhile UB).length+1) from by omega]
        | false =>
          rw[List.takeWhile_cons,if_neg (by rw[hb];decide)];refine jl ?_;rw[WZ s hs a p hp',hb,if_neg (by decide),slcN s a p hap (by omega)];rfl
    rw[key (s.length - a) a (by omega) (Nat.le_refl _),tkw s a ha]
  | false =>
    rw[if_neg (by decide)];refine jl ?_;unfold jT;dsimp only;rw[if_neg (ft2 rfl),slcN s a a (Nat.le_refl _) ha];simp
end
end Go.Sx
namespace Go.Sx
open Go.RowKit
set_option linter.unusedVariables false
set_option linter.unusedSimpArgs false
def dv (c:UInt8):UInt64:=UInt64.ofNat (c - 48).toNat
def isD (c:UInt8):Bool:=decide ((48:UInt8)<=c)&&decide (c<=57)
def DD:List UInt8->Bool->UInt64->UInt64×Nat×Bool
  | [],st,v=>(v,0,st)
  | c::l,st,v=>if isD c=true then(if((st&&decide (v=0))||decide (((18446744073709551615:UInt64) - dv c) / 10 < v))=true then(0,0,false) else((DD l true (10*v+dv c)).1,(DD l true (10*v+dv c)).2.1+1,(DD l true (10*v+dv c)).2.2)) else(v,0,st)
theorem Zb:∀ (l:List UInt8) (st:Bool) (v:UInt64),(DD l st v).2.1<=l.length
  | [],st,v=>Nat.le_refl _
  | c::l,st,v=>by
    unfold DD;split
    ·split
     ·exact Nat.zero_le _
     ·have:=Zb l true (10*v+dv c);simp only[List.length_cons];omega
    ·exact Nat.zero_le _
def Nl (s:List UInt8)(a:Nat)(ok:Bool):UInt64×Nat×Bool:=if ok=true then((DD (s.drop a) false 0).1,a+(DD (s.drop a) false 0).2.1,(DD (s.drop a) false 0).2.2) else(0,a,false)
theorem UC (s:List UInt8)(a:Nat)(ok:Bool)(ha:a<=s.length):(Nl s a ok).2.1<=s.length:=by
  unfold Nl;split
  ·have:=Zb (s.drop a) false 0;rw[List.length_drop] at this;show a+_<=_;omega
  ·exact ha
theorem dv_lt (c:UInt8)(h:isD c=true):(dv c).toNat<=9:=by
  have key:∀ n:Nat,n < 256->isD (UInt8.ofNat n)=true->(dv (UInt8.ofNat n)).toNat<=9:=by decide +kernel
  have:=QQ (p:=fun c=>isD c=true->(dv c).toNat<=9) key c;exact this h
section
variable (s:List UInt8)(hs:s.length<=4194304)
include hs
theorem num_p (a:Nat)(ha:a<=s.length)(ok:Bool):lN s (a:Int) ok=some ((Nl s a ok).1,s,((Nl s a ok).2.1:Int),(Nl s a ok).2.2):=by
  have key:∀ (j p:Nat) (v:UInt64),p+j=s.length->a<=p->aY (jI s (a:Int)) ((p:Int),v)=some ((DD (s.drop p) (decide (a < p)) v).1,s,((p+(DD (s.drop p) (decide (a < p)) v).2.1:Nat):Int),(DD (s.drop p) (decide (a < p)) v).2.2):=by
    intro j
    induction j with
    | zero =>
      intro p v hp hap;obtain rfl:p=s.length:=by omega
      rw[List.drop_length];refine jl ?_;unfold jI;dsimp only;have d1:decide ((s.length:Int) < (s.length:Int))=false:=decide_eq_false (by omega);rw[d1,gif0 _ rfl,Option.bind_some,Bool.false_and,gif0 _ rfl,Option.bind_some,if_neg (by decide)];rw[show decide ((a:Int) < (s.length:Int))=decide (a < s.length) from decide_eq_decide.2 (by omega)];rfl
    | succ j ih =>
      intro p v hp hap;have hp':p < s.length:=by omega
      rw[List.drop_eq_getElem_cons hp'];have d1:decide ((p:Int) < (s.length:Int))=true:=decide_eq_true (by omega);have d2:decide ((a:Int) < (p:Int))=decide (a < p):=decide_eq_decide.2 (by omega);have stepD:isD s[p]=true->jI s (a:Int) ((p:Int),v)=if((decide (a < p)&&decide (v=0))||decide (((18446744073709551615:UInt64) - dv s[p]) / 10 < v))=true then some (.inr (0,s,(p:Int),false)) else some (.inl (((p+1:Nat):Int),10*v+dv s[p])):=by
        intro hD;unfold isD at hD;rw[Bool.and_eq_true] at hD;unfold jI;dsimp only;rw[d1,gif1 _ rfl,gZ hp',Option.bind_some,hD.1,gif1 (c:=true&&true) _ rfl,Option.bind_some,hD.2,if_pos (by rfl),Option.bind_some,d2,wS p (by omega)];rfl
      have stepN:isD s[p]=false->jI s (a:Int) ((p:Int),v)=some (.inr (v,s,(p:Int),decide (a < p))):=by
        intro hD;unfold isD at hD;unfold jI;dsimp only;rw[d1,gif1 _ rfl,gZ hp',Option.bind_some,d2];cases h1:decide ((48:UInt8)<=s[p]) with
        | false =>
          rw[gif0 (c:=true&&false) _ rfl,Option.bind_some,if_neg (ft2 (a:=true&&false) rfl)];rfl
        | true =>
          rw[gif1 (c:=true&&true) _ rfl,Option.bind_some];rw[h1,Bool.true_and] at hD;rw[if_neg (ft3 hD)];rfl
      cases hD:isD s[p] with
      | false =>
        rw[jl (stepN hD)]
        conv=>rhs;unfold DD
        rw[hD];rfl
      | true =>
        unfold DD;rw[if_pos hD];by_cases hc:((decide (a < p)&&decide (v=0))||decide (((18446744073709551615:UInt64) - dv s[p]) / 10 < v))=true
        ·rw[jl ((stepD hD).trans (if_pos hc)),if_pos hc];rfl
        ·rw[mF ((stepD hD).trans (if_neg hc)),if_neg hc,ih (p+1) _ (by omega) (by omega),show decide (a < p+1)=true from decide_eq_true (by omega)];dsimp only;rw[show p+1+(DD (s.drop (p+1)) true (10*v+dv s[p])).2.1=p+((DD (s.drop (p+1)) true (10*v+dv s[p])).2.1+1) from by omega]
  unfold lN Nl;cases ok with
  | false=>rfl
  | true =>
    rw[if_neg (by decide),if_pos rfl,key (s.length - a) a 0 (by omega) (Nat.le_refl _),show decide (a < a)=false from decide_eq_false (by omega)]
end
end Go.Sx
namespace Go.Sx
open Go.RowKit
set_option linter.unusedVariables false
set_option linter.unusedSimpArgs false
def tY (K M P L T:Int):Prop:=(0<=K/\K<=2)/\(1<=L/\L<=8)/\(1<=P/\P<=16)/\(4<=T/\T<=1024)/\(8*L<=M/\M<=4096)
instance (K M P L T:Int):Decidable (tY K M P L T):=by unfold tY;infer_instance
def Bh (K M P L T:Int)(n:Nat):Int:=if tY K M P L T then(if n < 8∨64 < n then 201 else 0) else 200
theorem may_loop (M L:Int)(r:List (Int×Int×Int))(hr:r.length<=100):∀ (j i:Nat),i+j=r.length->aY (sH M L r) (i:Int)=some ((r.drop i).all (fun x=>decide (x.2.1<=x.1/\x.1<=x.2.2))&&decide (ay (8*L)<=M)):=by
  intro j
  induction j with
  | zero =>
    intro i hi;rw[List.drop_eq_nil_of_le (by omega)];refine jl ?_;unfold sH;dsimp only;rw[if_neg (by omega)];rfl
  | succ j ih =>
    intro i hi;have hi':i < r.length:=by omega
    rw[List.drop_eq_getElem_cons hi',List.all_cons];by_cases hb:r[i].2.1<=r[i].1/\r[i].1<=r[i].2.2
    ·rw[mF (s':=((i+1:Nat):Int)) (by
       unfold sH;dsimp only;rw[if_pos (by omega),gZ hi',Option.bind_some,if_neg (tf1 (decide_eq_false (by omega)) (decide_eq_false (by omega))),wS i (by omega)])]
     rw[ih (i+1) (by omega),decide_eq_true hb,Bool.true_and]
    ·rw[decide_eq_false hb,Bool.false_and,Bool.false_and];refine jl ?_;unfold sH;dsimp only;rw[if_pos (by omega),gZ hi',Option.bind_some,if_pos (by
       by_cases h1:r[i].1 < r[i].2.1
       ·exact tf2 (decide_eq_true h1)
       ·exact tf3 (decide_eq_true (by omega)))]
     rfl
theorem Yp (K M P L T:Int):y8 K M P L T=some (decide (tY K M P L T)):=by
  unfold y8 zI;rw[Option.bind_some];refine(may_loop M L [(K,0,2),(L,1,8),(P,1,16),(T,4,1024),(M,8,4096)] (by simp) 5 0 rfl).trans ?_;congr 1;rw[List.drop_zero];simp only[List.all_cons,List.all_nil,Bool.and_true];unfold tY;by_cases hL:1<=L/\L<=8
  ·rw[show ay (8*L)=8*L from by rw[bu] <;> omega];rw[<- Bool.decide_and,<-Bool.decide_and,<-Bool.decide_and,<-Bool.decide_and,<-Bool.decide_and];exact decide_eq_decide.2 (by omega)
  ·rw[decide_eq_false (p:=((1:Int)<=L/\L<=8)) hL,Bool.false_and,Bool.and_false,Bool.false_and];exact(decide_eq_false (by omega)).symm
theorem UD (K M P L T:Int)(aJ:List UInt8):rO K M P L T aJ=some (Bh K M P L T aJ.length):=by
  unfold rO Bh;rw[Yp,Option.bind_some];by_cases h:tY K M P L T
  ·rw[decide_eq_true h,if_neg (by decide),if_pos h];by_cases h2:aJ.length < 8∨64 < aJ.length
   ·rw[if_pos h2,if_pos (by
      rcases h2 with q | q
      ·exact tf2 (decide_eq_true (by omega))
      ·exact tf3 (decide_eq_true (by omega)))]
   ·rw[if_neg h2,if_neg (tf1 (decide_eq_false (by omega)) (decide_eq_false (by omega)))]
  ·rw[decide_eq_false h,if_pos (by decide),if_neg h]
theorem Yq (K M P L T:Int)(aJ:List UInt8):y9 K M P L T aJ=some (Bh K M P L T aJ.length):=by
  have hv:nO K M P L T=some (if tY K M P L T then 0 else 200):=by
    unfold nO;by_cases h:tY K M P L T
    ·rw[if_pos h];unfold tY at h;rw[show ay (8*L)=8*L from by rw[bu] <;> omega];rw[if_neg (by simp only[Bool.or_eq_true,decide_eq_true_eq];omega)]
    ·rw[if_neg h];unfold tY at h;by_cases hL:1<=L/\L<=8
     ·rw[show ay (8*L)=8*L from by rw[bu] <;> omega];rw[if_pos (by simp only[Bool.or_eq_true,decide_eq_true_eq];omega)]
     ·rw[if_pos (by simp only[Bool.or_eq_true,decide_eq_true_eq];omega)]
  unfold y9 Bh;rw[hv,Option.bind_some];by_cases h:tY K M P L T
  ·rw[if_pos h,if_neg (by decide),if_pos h];by_cases h2:aJ.length < 8∨64 < aJ.length
   ·rw[if_pos h2,if_pos (by
      rcases h2 with q | q
      ·exact tf2 (decide_eq_true (by omega))
      ·exact tf3 (decide_eq_true (by omega)))]
   ·rw[if_neg h2,if_neg (tf1 (decide_eq_false (by omega)) (decide_eq_false (by omega)))]
  ·rw[if_neg h,if_pos (by decide),if_neg h]
theorem pcheck (K M P L T:Int)(aJ sum:List UInt8):xq K M P L T aJ sum=some (if Bh K M P L T aJ.length≠0 then Bh K M P L T aJ.length else if((sum.length:Nat):Int)≠T then 1 else 0):=by
  unfold xq;rw[UD,Option.bind_some];split
  ·rfl
  ·split <;> rfl
theorem dig_loop:∀ (m:Nat) (n:UInt64) (l:List UInt8),n.toNat<=m->l.length<=1000000000->aY qm (n,l)=some (Lib.decDigits n.toNat++l)∨1000000000<=l.length+m:=by
  intro m
  induction m with
  | zero =>
    intro n l hm hl;left;have hn:n=0:=UInt64.toNat_inj.1 (by rw[show(0:UInt64).toNat=0 from rfl];omega);subst hn;refine jl ?_;unfold qm;dsimp only;rw[jo (by simp only[List.length_cons,List.length_nil];omega),Option.bind_some,if_pos (by decide)];rw[show Lib.decDigits (0:UInt64).toNat=[48] from by rw[show(0:UInt64).toNat=0 from rfl,Lib.decDigits,dif_pos (by omega)];rfl];rfl
  | succ m ih =>
    intro n l hm hl;have hd:(n / 10).toNat=n.toNat / 10:=by rw[UInt64.toNat_div];rfl
    have hmd:((48:UInt64)+n % 10).toNat=48+n.toNat % 10:=by
      rw[UInt64.toNat_add,UInt64.toNat_mod,show(48:UInt64).toNat=48 from rfl,show(10:UInt64).toNat=10 from rfl];omega
    by_cases h10:n.toNat < 10
    ·left;refine jl ?_;unfold qm;dsimp only;rw[jo (by simp only[List.length_cons,List.length_nil];omega),Option.bind_some,if_pos (UInt64.toNat_inj.1 (by rw[hd];show n.toNat / 10=0;omega)),hmd,Lib.decDigits,dif_pos h10,Nat.mod_eq_of_lt h10];rfl
    ·have hne:¬ n / 10=0:=fun q=>by
       have:=congrArg UInt64.toNat q;rw[hd,show(0:UInt64).toNat=0 from rfl] at this;omega
     have step:qm (n,l)=some (.inl (n / 10,[UInt8.ofNat (48+n.toNat % 10)]++l)):=by
       unfold qm;dsimp only;rw[jo (by simp only[List.length_cons,List.length_nil];omega),Option.bind_some,if_neg hne,hmd]
     rw[mF step];by_cases hl2:l.length+(m+1) < 1000000000
     ·rcases ih (n / 10) ([UInt8.ofNat (48+n.toNat % 10)]++l) (by rw[hd];omega) (by simp only[List.length_append,List.length_cons,List.length_nil];omega) with q | q
      ·left;rw[q,hd]
       conv=>rhs;rw[Lib.decDigits,dif_neg h10]
       rw[List.append_assoc]
      ·simp only[List.length_append,List.length_cons,List.length_nil] at q;omega
     ·right;omega
theorem Ob (n:Nat)(h:n<=4096):zK (UInt64.ofInt (n:Int))=some (Lib.decDigits n):=by
  have e:(UInt64.ofInt (n:Int)).toNat=n:=by
    have:UInt64.ofInt (n:Int)=UInt64.ofNat n:=by
      rw[<- UInt64.toNat_inj];unfold UInt64.ofInt;simp;omega
    rw[this,UInt64.toNat_ofNat_of_lt' (by show n < 18446744073709551616;omega)]
  unfold zK;rcases dig_loop n (UInt64.ofInt (n:Int)) [] (by omega) (by simp) with q | q
  ·rw[q,e,List.append_nil]
  ·simp only[List.length_nil] at q;omega
theorem Ik:∀ n:Nat,(Lib.decDigits n).length<=n+1:=by
  intro n
  induction n using Nat.strongRecOn with
  | _ n ih =>
    rw[Lib.decDigits];split
    ·simp
    ·rw[List.length_append];have:=ih (n / 10) (by omega);simp only[List.length_cons,List.length_nil];omega
theorem itoa_ok (n:Nat):Lib.itoa (n:Int)=Lib.decDigits n:=by
  unfold Lib.itoa;rw[if_neg (by omega)];rfl
def kdS (K:Int):List UInt8:=if K=0 then[100] else if K=1 then[105] else[105,100]
def textS (K:Int)(M P L:Nat)(aJ sum:List UInt8):List UInt8 :=
  ((((((((((([36,97,114,103,111,110,50]:List UInt8)++kdS K)++([36,118,61,49,57,36,109,61]:List UInt8))++Lib.decDigits M)++([44,116,61]:List UInt8))++Lib.decDigits P)++([44,112,61]:List UInt8))++Lib.decDigits L)++([36]:List UInt8))++enc aJ)++([36]:List UInt8))++enc sum
def JB (K M P L T:Int)(aJ sum:List UInt8):List UInt8×Int:=if Bh K M P L T aJ.length≠0 then([],Bh K M P L T aJ.length) else if((sum.length:Nat):Int)≠T then([],1) else(textS K M.toNat P.toNat L.toNat aJ sum,0)
theorem chk0 {K M P L T:Int}{n:Nat}(h:Bh K M P L T n=0):tY K M P L T/\8<=n/\n<=64:=by
  unfold Bh at h;split at h
  ·split at h
   ·cases h
   ·exact⟨by assumption,by omega,by omega⟩
  ·cases h
theorem Zc {K:Int}(h:0<=K/\K<=2):aU ([([100]:List UInt8),([105]:List UInt8),([105,100]:List UInt8)]:List (List UInt8)) K=some (kdS K):=by
  obtain rfl | rfl | rfl:K=0∨K=1∨K=2:=by omega
  ·rfl
  ·rfl
  ·rfl
theorem Yr (K:Int):(kdS K).length<=2:=by
  unfold kdS;split
  ·decide
  ·split <;> decide
theorem print_p (K M P L T:Int)(aJ sum:List UInt8):zJ K M P L T aJ sum=some (JB K M P L T aJ sum):=by
  unfold zJ JB;rw[pcheck,Option.bind_some];by_cases h0:Bh K M P L T aJ.length≠0
  ·rw[if_pos h0,if_pos h0,if_pos h0]
  ·rw[if_neg h0,if_neg h0];by_cases h1:((sum.length:Nat):Int)≠T
   ·rw[if_pos h1,if_pos h1,if_pos (by decide)]
   ·rw[if_neg h1,if_neg h1,if_neg (by decide)];obtain⟨hm,hs1,hs2⟩:=chk0 (Classical.not_not.1 h0);have hT:=Classical.not_not.1 h1;unfold tY at hm;obtain⟨M,rfl⟩:∃ m:Nat,M=(m:Int):=⟨M.toNat,by omega⟩
    obtain⟨P,rfl⟩:∃ m:Nat,P=(m:Int):=⟨P.toNat,by omega⟩
    obtain⟨L,rfl⟩:∃ m:Nat,L=(m:Int):=⟨L.toNat,by omega⟩
    have hM:=Ik M;have hP:=Ik P;have hL:=Ik L;have hk:=Yr K;have hes:=Ij aJ;have heu:=Ij sum;rw[show CP K=some (kdS K) from by
      unfold CP;rw[show(⟨[([100]:List UInt8),([105]:List UInt8),([105,100]:List UInt8)],rfl⟩:Vec (List UInt8) 3).l=[([100]:List UInt8),([105]:List UInt8),([105,100]:List UInt8)] from rfl,Zc hm.1];rfl,Option.bind_some]
    simp only[itoa_ok];rw[Y8 aJ (by omega),Y8 sum (by omega)];have hb:∀ n:Nat,n<=1000000->n<=9223372036854775807:=fun n h=>by omega
    iterate 11 rw[jo (by first | exact⟨by omega,by omega⟩ | (refine hb _ ?_;simp only[List.length_append,List.length_cons,List.length_nil];omega)),Option.bind_some]
    rw[Option.bind_some]
    iterate 2 rw[jo (by refine hb _ ?_;simp only[List.length_append,List.length_cons,List.length_nil];omega),Option.bind_some]
    rw[Option.bind_some];rw[jo (by refine hb _ ?_;simp only[List.length_append,List.length_cons,List.length_nil];omega),Option.bind_some];rfl
theorem print_r (K M P L T:Int)(aJ sum:List UInt8):I_ K M P L T aJ sum=some (JB K M P L T aJ sum):=by
  unfold I_ JB;rw[Yq,Option.bind_some];by_cases h0:Bh K M P L T aJ.length≠0
  ·rw[if_pos h0,if_pos h0]
  ·rw[if_neg h0,if_neg h0];by_cases h1:((sum.length:Nat):Int)≠T
   ·rw[if_pos h1,if_pos h1]
   ·rw[if_neg h1,if_neg h1];obtain⟨hm,hs1,hs2⟩:=chk0 (Classical.not_not.1 h0);have hT:=Classical.not_not.1 h1;unfold tY at hm;obtain⟨M,rfl⟩:∃ m:Nat,M=(m:Int):=⟨M.toNat,by omega⟩
    obtain⟨P,rfl⟩:∃ m:Nat,P=(m:Int):=⟨P.toNat,by omega⟩
    obtain⟨L,rfl⟩:∃ m:Nat,L=(m:Int):=⟨L.toNat,by omega⟩
    have hM:=Ik M;have hP:=Ik P;have hL:=Ik L;have hk:=Yr K;have hes:=Ij aJ;have heu:=Ij sum;rw[Zc hm.1,Option.bind_some,Ob M (by omega),Ob P (by omega),Ob L (by omega),Y7 aJ (by omega),Y7 sum (by omega)];have hb:∀ n:Nat,n<=1000000->n<=9223372036854775807:=fun n h=>by omega
    iterate 2 rw[jo (by refine hb _ ?_;simp only[List.length_append,List.length_cons,List.length_nil];omega),Option.bind_some]
    rw[Option.bind_some]
    iterate 2 rw[jo (by refine hb _ ?_;simp only[List.length_append,List.length_cons,List.length_nil];omega),Option.bind_some]
    rw[Option.bind_some]
    iterate 2 rw[jo (by refine hb _ ?_;simp only[List.length_append,List.length_cons,List.length_nil];omega),Option.bind_some]
    rw[Option.bind_some]
    iterate 2 rw[jo (by refine hb _ ?_;simp only[List.length_append,List.length_cons,List.length_nil];omega),Option.bind_some]
    rw[Option.bind_some]
    iterate 2 rw[jo (by refine hb _ ?_;simp only[List.length_append,List.length_cons,List.length_nil];omega),Option.bind_some]
    rw[Option.bind_some];rw[jo (by refine hb _ ?_;simp only[List.length_append,List.length_cons,List.length_nil];omega),Option.bind_some];rfl
end Go.Sx
namespace Go.Sx
open Go.RowKit
set_option linter.unusedVariables false
set_option linter.unusedSimpArgs false
theorem hpre2 (l:List UInt8)(hl:l.length<=4194304):jq l ([105,100]:List UInt8)=some (decide (l[0]?=some 105/\l[1]?=some 100)):=by
  unfold jq iY
  match l,hl with
  | [],_=>rfl
  | [x],_ =>
    rw[show decide (((([105,100]:List UInt8).length:Nat):Int)<=(([x].length:Nat):Int))=false from rfl,gif0 _ rfl,Option.bind_some,Option.bind_some];congr 1;exact(decide_eq_false (fun q=>by cases q.2)).symm
  | x::y::r,hl =>
    have hd:decide (((([105,100]:List UInt8).length:Nat):Int)<=(((x::y::r).length:Nat):Int))=true:=decide_eq_true (by simp only[List.length_cons,List.length_nil];omega);rw[hd,gif1 _ rfl,show G6 (x::y::r) 0 ((([105,100]:List UInt8).length:Nat):Int)=some [x,y] from by rw[zG ⟨by omega,by simp,by simp only[List.length_cons,List.length_nil];omega⟩];rfl,Option.bind_some,Option.bind_some,Bool.true_and];congr 1;refine decide_eq_decide.2 ⟨fun q=>?_,fun q=>?_⟩
    ·injection q with q1 q2;injection q2 with q3 q4;exact⟨by rw[<- q1];rfl,by rw[<- q3];rfl⟩
    ·have q1:=Option.some.inj q.1;have q2:=Option.some.inj q.2;rw[q1,q2]
theorem hpre1 (l:List UInt8)(hl:l.length<=4194304):jq l ([105]:List UInt8)=some (decide (l[0]?=some 105)):=by
  unfold jq iY
  match l,hl with
  | [],_=>rfl
  | x::r,hl =>
    have hd:decide (((([105]:List UInt8).length:Nat):Int)<=(((x::r).length:Nat):Int))=true:=decide_eq_true (by simp only[List.length_cons,List.length_nil];omega);rw[hd,gif1 _ rfl,show G6 (x::r) 0 ((([105]:List UInt8).length:Nat):Int)=some [x] from by rw[zG ⟨by omega,by simp,by simp only[List.length_cons,List.length_nil];omega⟩];rfl,Option.bind_some,Option.bind_some,Bool.true_and];congr 1;refine decide_eq_decide.2 ⟨fun q=>?_,fun q=>?_⟩
    ·injection q with q1 q2;rw[<- q1];rfl
    ·have q1:=Option.some.inj q;rw[q1]
def JC (s:List UInt8)(a:Nat)(ok:Bool):Int×Nat×Bool :=
  if ok=true then(if s[a]?=some 105 then(if s[a+1]?=some 100 then(2,a+2,true) else(1,a+1,true)) else if s[a]?=some 100 then(0,a+1,true) else(0,a,false)) else(0,a,false)
theorem kindS_le (s:List UInt8)(a:Nat)(ok:Bool)(ha:a<=s.length):(JC s a ok).2.1<=s.length:=by
  unfold JC;split
  ·split
   ·rename_i h;obtain⟨h2,_⟩:=List.getElem?_eq_some_iff.1 h;split
    ·rename_i h;obtain⟨h3,_⟩:=List.getElem?_eq_some_iff.1 h;show a+2<=_;omega
    ·show a+1<=_;omega
   ·split
    ·rename_i h;obtain⟨h3,_⟩:=List.getElem?_eq_some_iff.1 h;show a+1<=_;omega
    ·exact ha
  ·exact ha
section
variable (s:List UInt8)(hs:s.length<=4194304)
include hs
theorem parse_k:uj s=jr s s ((JC s (vX s 0 true [36,97,114,103,111,110,50]).1 (vX s 0 true [36,97,114,103,111,110,50]).2).2.1:Int) (JC s (vX s 0 true [36,97,114,103,111,110,50]).1 (vX s 0 true [36,97,114,103,111,110,50]).2).2.2 (JC s (vX s 0 true [36,97,114,103,111,110,50]).1 (vX s 0 true [36,97,114,103,111,110,50]).2).1:=by
  have h1:=QU s hs ([36,97,114,103,111,110,50]:List UInt8) (by decide) 0 (by omega) true;have hle:=F6 s [36,97,114,103,111,110,50] 0 true (by omega);unfold uj;rw[show(0:Int)=((0:Nat):Int) from rfl,h1,Option.bind_some];generalize vX s 0 true [36,97,114,103,111,110,50]=x at hle ⊢;obtain⟨a,ok⟩:=x;dsimp only at hle ⊢;have hd:G6 s (a:Int) (s.length:Int)=some (s.drop a):=by rw[slcN s a s.length hle (Nat.le_refl _),List.take_length]
  have hdl:(s.drop a).length<=4194304:=by rw[List.length_drop];omega
  have g0:(s.drop a)[0]?=s[a]?:=by rw[List.getElem?_drop,Nat.add_zero]
  have g1:(s.drop a)[1]?=s[a+1]?:=by rw[List.getElem?_drop]
  have hlit:=QU s hs ([100]:List UInt8) (by decide) a hle ok;cases ok with
  | false =>
    rw[if_neg (by decide),if_neg (by decide),hlit,Option.bind_some,Y_];rfl
  | true =>
    rw[if_pos rfl,hd,Option.bind_some,hpre2 _ hdl,Option.bind_some,g0,g1];unfold JC;rw[if_pos rfl];by_cases W9:s[a]?=some 105
    ·obtain⟨hl1,_⟩:=List.getElem?_eq_some_iff.1 W9;by_cases RH:s[a+1]?=some 100
     ·obtain⟨hl2,_⟩:=List.getElem?_eq_some_iff.1 RH;rw[if_pos (decide_eq_true ⟨W9,RH⟩),if_pos W9,if_pos RH,show ay ((a:Int)+2)=((a+2:Nat):Int) from by rw[bu] <;> omega];rfl
     ·rw[if_neg (by rw[decide_eq_false (fun q=>RH q.2)];decide),if_pos rfl,Option.bind_some,hpre1 _ hdl,Option.bind_some,g0,if_pos (decide_eq_true W9),if_pos W9,if_neg RH,wS a (by omega)]
    ·rw[if_neg (by rw[decide_eq_false (fun q=>W9 q.1)];decide),if_pos rfl,Option.bind_some,hpre1 _ hdl,Option.bind_some,g0,if_neg (by rw[decide_eq_false W9];decide),hlit,Option.bind_some,if_neg W9];unfold vX;rw[if_pos rfl];by_cases RH:s[a]?=some 100
     ·rw[if_pos RH,if_pos RH];rfl
     ·rw[if_neg RH,if_neg RH];rfl
end
end Go.Sx
namespace Go.Sx
open Go.RowKit
set_option linter.unusedVariables false
set_option linter.unusedSimpArgs false
def Xk (v:UInt64):Int:=if(9223372036854775807:UInt64) < v then -1 else ay (v.toNat:Int)
theorem wh_p (v:UInt64):ui v=some (Xk v):=by
  unfold ui Xk;split <;> rfl
def finS (s:List UInt8)(k w1 w2 w3:Int)(p4:Nat)(t1:List UInt8)(p5:Nat)(t2:List UInt8)(p6:Nat)(ok:Bool):Int×Int×Int×Int×Int×List UInt8×List UInt8×Int×Int :=
  if((!ok)||(decide ((p6:Int) < (s.length:Int))))=true then(0,0,0,0,0,[],[],(p6:Int),4)
  else if(zt t1).2.2≠0 then(0,0,0,0,0,[],[],(p4:Int),4)
  else if(zt t2).2.2≠0 then(0,0,0,0,0,[],[],(p5:Int),4)
  else if Bh k w1 w2 w3 (((zt t2).1.length:Nat):Int) (zt t1).1.length≠0 then(0,0,0,0,0,[],[],0,1)
  else(k,w1,w2,w3,(((zt t2).1.length:Nat):Int),(zt t1).1,(zt t2).1,0,0)
def midS (s:List UInt8)(k:Int)(a:Nat)(ok:Bool):Int×Int×Int×Int×Int×List UInt8×List UInt8×Int×Int :=
  let x1:=vX s a ok [36,118,61,49,57,36,109,61]
  let n1:=Nl s x1.1 x1.2
  let x2:=vX s n1.2.1 n1.2.2 [44,116,61]
  let n2:=Nl s x2.1 x2.2
  let x3:=vX s n2.2.1 n2.2.2 [44,112,61]
  let n3:=Nl s x3.1 x3.2
  let x4:=vX s n3.2.1 n3.2.2 [36]
  let t1:=Oa s x4.1 x4.2
  let x5:=vX s (x4.1+t1.length) x4.2 [36]
  let t2:=Oa s x5.1 x5.2
  finS s k (Xk n1.1) (Xk n2.1) (Xk n3.1) x4.1 t1 x5.1 t2 (x5.1+t2.length) x5.2
def Oc (s:List UInt8):Int×Int×Int×Int×Int×List UInt8×List UInt8×Int×Int :=
  midS s (JC s (vX s 0 true [36,97,114,103,111,110,50]).1 (vX s 0 true [36,97,114,103,111,110,50]).2).1 (JC s (vX s 0 true [36,97,114,103,111,110,50]).1 (vX s 0 true [36,97,114,103,111,110,50]).2).2.1 (JC s (vX s 0 true [36,97,114,103,111,110,50]).1 (vX s 0 true [36,97,114,103,111,110,50]).2).2.2
section
variable (s:List UInt8)(hs:s.length<=4194304)
include hs
theorem Zd (a:Nat)(ok:Bool):(Oa s a ok).length<=4194304:=by
  unfold Oa;split
  ·have:=(List.takeWhile_prefix (p:=UB) (l:=s.drop a)).length_le;rw[List.length_drop] at this;omega
  ·exact Nat.zero_le _
theorem mid_p (k:Int)(a:Nat)(ha:a<=s.length)(ok:Bool):jr s s (a:Int) ok k=some (midS s k a ok):=by
  unfold jr midS;dsimp only;rw[QU s hs _ (by decide) a ha ok,Option.bind_some];have h1:=F6 s [36,118,61,49,57,36,109,61] a ok ha;generalize vX s a ok [36,118,61,49,57,36,109,61]=x1 at h1 ⊢;dsimp only;rw[num_p s hs x1.1 h1 x1.2,Option.bind_some];have h2:=UC s x1.1 x1.2 h1;generalize Nl s x1.1 x1.2=n1 at h2 ⊢;dsimp only;rw[wh_p,Option.bind_some,QU s hs _ (by decide) n1.2.1 h2 n1.2.2,Option.bind_some];have h3:=F6 s [44,116,61] n1.2.1 n1.2.2 h2;generalize vX s n1.2.1 n1.2.2 [44,116,61]=x2 at h3 ⊢;dsimp only;rw[num_p s hs x2.1 h3 x2.2,Option.bind_some];have h4:=UC s x2.1 x2.2 h3;generalize Nl s x2.1 x2.2=n2 at h4 ⊢;dsimp only;rw[wh_p,Option.bind_some,QU s hs _ (by decide) n2.2.1 h4 n2.2.2,Option.bind_some];have h5:=F6 s [44,112,61] n2.2.1 n2.2.2 h4;generalize vX s n2.2.1 n2.2.2 [44,112,61]=x3 at h5 ⊢;dsimp only;rw[num_p s hs x3.1 h5 x3.2,Option.bind_some];have h6:=UC s x3.1 x3.2 h5;generalize Nl s x3.1 x3.2=n3 at h6 ⊢;dsimp only;rw[wh_p,Option.bind_some,QU s hs _ (by decide) n3.2.1 h6 n3.2.2,Option.bind_some];have h7:=F6 s [36] n3.2.1 n3.2.2 h6;generalize vX s n3.2.1 n3.2.2 [36]=x4 at h7 ⊢;dsimp only;rw[let_p s hs x4.1 h7 x4.2,Option.bind_some];have h8:=Za s x4.1 x4.2 h7;have l1:=Zd s hs x4.1 x4.2;generalize Oa s x4.1 x4.2=t1 at h8 l1 ⊢;dsimp only;rw[QU s hs _ (by decide) (x4.1+t1.length) h8 x4.2,Option.bind_some];have h9:=F6 s [36] (x4.1+t1.length) x4.2 h8
  generalize vX s (x4.1+t1.length) x4.2 [36]=x5 at h9 ⊢;dsimp only;rw[let_p s hs x5.1 h9 x5.2,Option.bind_some];have h10:=Za s x5.1 x5.2 h9;have l2:=Zd s hs x5.1 x5.2;generalize Oa s x5.1 x5.2=t2 at h10 l2 ⊢;dsimp only;unfold finS;split
  ·rfl
  ·rw[wunb64 t1 l1,Option.bind_some];split
   ·rfl
   ·rw[wunb64 t2 l2,Option.bind_some];split
    ·rfl
    ·rw[pcheck,Option.bind_some];by_cases hc:Bh k (Xk n1.1) (Xk n2.1) (Xk n3.1) (((zt t2).1.length:Nat):Int) (zt t1).1.length≠0
     ·rw[if_pos hc,if_pos hc,if_pos hc]
     ·have e0:(if Bh k (Xk n1.1) (Xk n2.1) (Xk n3.1) (((zt t2).1.length:Nat):Int) (zt t1).1.length≠0 then Bh k (Xk n1.1) (Xk n2.1) (Xk n3.1) (((zt t2).1.length:Nat):Int) (zt t1).1.length else if(((zt t2).1.length:Nat):Int)≠(((zt t2).1.length:Nat):Int) then(1:Int) else 0)=0:=by
        rw[if_neg hc,if_neg (fun q=>q rfl)]
      rw[e0,if_neg (fun q=>q rfl),if_neg hc]
theorem Ze:uj s=some (Oc s):=by
  rw[parse_k s hs,mid_p s hs _ _ (kindS_le s _ _ (F6 s _ 0 true (by omega)))];rfl
end
theorem awake_ok:CQ=some true:=by
  unfold CQ;rw[Ze _ (by decide),Option.bind_some];have:(Oc [36,97,114,103,111,110,50,105,100,36,118,61,49,56]).2.2.2.2.2.2.2=(13,4):=by decide +kernel
  rw[show(Oc [36,97,114,103,111,110,50,105,100,36,118,61,49,56]).2.2.2.2.2.2.2.1=13 from by rw[this],show(Oc [36,97,114,103,111,110,50,105,100,36,118,61,49,56]).2.2.2.2.2.2.2.2=4 from by rw[this]];rfl
end Go.Sx
namespace Go.Sx
open Go.RowKit
set_option linter.unusedVariables false
set_option linter.unusedSimpArgs false
theorem Il (s:List UInt8):∀ (t:List UInt8) (a:Nat) (r:List UInt8),s.drop a=t++r->vX s a true t=(a+t.length,true)/\s.drop (a+t.length)=r
  | [],a,r,h=>⟨rfl,h⟩
  | c::t,a,r,h=>by
    have h1:s[a]?=some c:=by
      have:=congrArg (fun l=>l[0]?) h;simpa [List.getElem?_drop] using this
    have h2:s.drop (a+1)=t++r:=by
      have:=congrArg (List.drop 1) h;simpa [List.drop_drop] using this
    have ih:=Il s t (a+1) r h2;unfold vX;rw[if_pos rfl,if_pos h1];have e:a+1+t.length=a+(c::t).length:=by simp only[List.length_cons];omega
    rw[e] at ih;exact ih
theorem dig_c:∀ d:Nat,d < 10->isD (UInt8.ofNat (48+d))=true/\(dv (UInt8.ofNat (48+d))).toNat=d/\dv (UInt8.ofNat (48+d))=UInt64.ofNat d:=by decide +kernel
theorem Zf (c:UInt8)(l:List UInt8)(st:Bool)(v:UInt64)(hc:isD c=true)(h0:(st&&decide (v=0))=false)(h1:v.toNat<=1000000):DD (c::l) st v=((DD l true (10*v+dv c)).1,(DD l true (10*v+dv c)).2.1+1,(DD l true (10*v+dv c)).2.2):=by
  rw[DD,if_pos hc,if_neg];rw[h0,Bool.false_or,decide_eq_true_eq,UInt64.lt_iff_toNat_lt];have hd:=dv_lt c hc;have e:((18446744073709551615:UInt64) - dv c).toNat=18446744073709551615 - (dv c).toNat:=by
    rw[UInt64.toNat_sub_of_le]
    ·rfl
    ·rw[UInt64.le_iff_toNat_le];show(dv c).toNat<=18446744073709551615;omega
  rw[UInt64.toNat_div,e];show ¬ (18446744073709551615 - (dv c).toNat) / 10 < v.toNat;omega
theorem u64v (n:Nat)(h:n < 18446744073709551616):(UInt64.ofNat n).toNat=n:=UInt64.toNat_ofNat_of_lt' h
theorem num_fwd0:∀ (n:Nat),n<=1000000->∀ r:List UInt8,DD (Lib.decDigits n++r) false 0=((DD r true (UInt64.ofNat n)).1,(DD r true (UInt64.ofNat n)).2.1+(Lib.decDigits n).length,(DD r true (UInt64.ofNat n)).2.2):=by
  intro n
  induction n using Nat.strongRecOn with
  | _ n ih =>
    intro hn r;rw[Lib.decDigits];split
    ·rename_i hlt;obtain⟨c1,c2,c3⟩:=dig_c n hlt;rw[List.singleton_append,Zf _ _ _ _ c1 rfl (by show(0:Nat)<=1000000;omega),c3];rw[show(10:UInt64)*0+UInt64.ofNat n=UInt64.ofNat n from by rw[UInt64.mul_zero,UInt64.zero_add]];rfl
    ·rename_i hlt;obtain⟨c1,c2,c3⟩:=dig_c (n % 10) (by omega);rw[List.append_assoc,List.singleton_append,ih (n / 10) (by omega) (by omega)];have hv:(UInt64.ofNat (n / 10)).toNat=n / 10:=u64v _ (by omega);rw[Zf _ _ _ _ c1 (by
       rw[Bool.true_and,decide_eq_false_iff_not];intro q;have:=congrArg UInt64.toNat q;rw[hv] at this;have:n / 10=0:=this;omega) (by omega)]
     have e:(10:UInt64)*UInt64.ofNat (n / 10)+dv (UInt8.ofNat (48+n % 10))=UInt64.ofNat n:=by
       rw[<- UInt64.toNat_inj,c3,UInt64.toNat_add,UInt64.toNat_mul,hv,u64v (n % 10) (by omega),u64v n (by omega)];show(10*(n / 10) % 18446744073709551616+n % 10) % 18446744073709551616=n;omega
     rw[e,List.length_append,List.length_singleton];refine Prod.ext rfl (Prod.ext ?_ rfl);show _+1+_=_+(_+1)
     omega
theorem UE (s:List UInt8)(n:Nat)(hn:n<=1000000)(a:Nat)(c:UInt8)(r:List UInt8)(hc:isD c=false)(h:s.drop a=Lib.decDigits n++(c::r)):Nl s a true=(UInt64.ofNat n,a+(Lib.decDigits n).length,true)/\s.drop (a+(Lib.decDigits n).length)=c::r:=by
  refine⟨?_,?_⟩
  ·unfold Nl;rw[if_pos rfl,h,num_fwd0 n hn];rw[show DD (c::r) true (UInt64.ofNat n)=(UInt64.ofNat n,0,true) from by rw[DD,if_neg (by rw[hc];decide)]];show(UInt64.ofNat n,a+(0+_),true)=_;rw[Nat.zero_add]
  ·rw[<- List.drop_drop,h,List.drop_left]
theorem kind_fwd (s:List UInt8)(K:Int)(hK:0<=K/\K<=2)(a:Nat)(r:List UInt8)(h:s.drop a=kdS K++(36::r)):JC s a true=(K,a+(kdS K).length,true)/\s.drop (a+(kdS K).length)=36::r:=by
  have g:∀ i,s[a+i]?=(kdS K++(36::r))[i]?:=by
    intro i;rw[<- h,List.getElem?_drop]
  refine⟨?_,by rw[<- List.drop_drop,h,List.drop_left]⟩;have g0:=g 0;have g1:=g 1;rw[Nat.add_zero] at g0;unfold JC;rw[if_pos rfl,g0,g1];obtain rfl | rfl | rfl:K=0∨K=1∨K=2:=by omega
  ·rfl
  ·rfl
  ·rfl
theorem enc_isB (b:List UInt8):∀ c ∈ enc b,UB c=true:=by
  intro c hc;unfold enc FC at hc;obtain⟨m,_,rfl⟩:=List.mem_map.1 hc;unfold UB;have:=wv6 b (6*m);rw[Yo _ this];exact decide_eq_true this
theorem tw_all {p:UInt8->Bool}:∀ (l r:List UInt8),(∀ c ∈ l,p c=true)->(∀ c,r[0]?=some c->p c=false)->(l++r).takeWhile p=l
  | [],[],_,_=>rfl
  | [],c::r,_,h=>by rw[List.nil_append,List.takeWhile_cons_of_neg (by rw[h c rfl];decide)]
  | d::l,r,h,h2=>by
    rw[List.cons_append,List.takeWhile_cons_of_pos (h d List.mem_cons_self),tw_all l r (fun c hc=>h c (List.mem_cons_of_mem _ hc)) h2]
theorem Zg (s:List UInt8)(b:List UInt8)(a:Nat)(r:List UInt8)(hr:∀ c,r[0]?=some c->UB c=false)(h:s.drop a=enc b++r):Oa s a true=enc b/\s.drop (a+(enc b).length)=r:=by
  refine⟨?_,by rw[<- List.drop_drop,h,List.drop_left]⟩;unfold Oa;rw[if_pos rfl,h,tw_all _ _ (enc_isB b) hr]
theorem UF (n:Nat)(h:n<=1000000):Xk (UInt64.ofNat n)=(n:Int):=by
  unfold Xk;have e:=u64v n (by omega);rw[if_neg (by rw[UInt64.lt_iff_toNat_lt,e];show ¬ (9223372036854775807:Nat) < n;omega),e,bu] <;> omega
theorem Yt (K M P L T:Int)(aJ sum:List UInt8)(h0:Bh K M P L T aJ.length=0)(hT:((sum.length:Nat):Int)=T):Oc (textS K M.toNat P.toNat L.toNat aJ sum)=(K,M,P,L,T,aJ,sum,0,0):=by
  obtain⟨hm,hs1,hs2⟩:=chk0 h0;have hm0:=hm;unfold tY at hm0;obtain⟨m,rfl⟩:∃ m:Nat,M=(m:Int):=⟨M.toNat,by omega⟩
  obtain⟨p,rfl⟩:∃ m:Nat,P=(m:Int):=⟨P.toNat,by omega⟩
  obtain⟨l,rfl⟩:∃ m:Nat,L=(m:Int):=⟨L.toNat,by omega⟩
  simp only[Int.toNat_natCast];have e0:(textS K m p l aJ sum).drop 0=[36,97,114,103,111,110,50]++(kdS K++(36::([118,61,49,57,36,109,61]++(Lib.decDigits m++(44::([116,61]++(Lib.decDigits p++(44::([112,61]++(Lib.decDigits l++(36::(enc aJ++(36::(enc sum++[])))))))))))))):=by
    unfold textS;simp only[List.drop_zero,List.append_assoc,List.append_nil,List.cons_append,List.nil_append]
  generalize textS K m p l aJ sum=s at e0 ⊢;unfold Oc;obtain⟨a1,e1⟩:=Il s _ _ _ e0;rw[a1];obtain⟨a2,e2⟩:=kind_fwd s K hm0.1 _ _ e1;rw[a2];unfold midS;dsimp only;obtain⟨a3,e3⟩:=Il s [36,118,61,49,57,36,109,61] _ _ e2;rw[a3];dsimp only;obtain⟨a4,e4⟩:=UE s m (by omega) _ 44 _ (by decide) e3;rw[a4];dsimp only;obtain⟨a5,e5⟩:=Il s [44,116,61] _ _ e4;rw[a5];dsimp only;obtain⟨a6,e6⟩:=UE s p (by omega) _ 44 _ (by decide) e5;rw[a6];dsimp only;obtain⟨a7,e7⟩:=Il s [44,112,61] _ _ e6;rw[a7];dsimp only;obtain⟨a8,e8⟩:=UE s l (by omega) _ 36 _ (by decide) e7;rw[a8];dsimp only;obtain⟨a9,e9⟩:=Il s [36] _ _ e8;rw[a9];dsimp only;obtain⟨a10,e10⟩:=Zg s aJ _ (36::(enc sum++[])) (fun c hc=>by cases hc;decide) e9;rw[a10];obtain⟨a11,e11⟩:=Il s [36] _ _ e10;rw[a11];dsimp only;obtain⟨a12,e12⟩:=Zg s sum _ [] (fun c hc=>by cases hc) e11;rw[a12];have hend:s.length<=_:=List.drop_eq_nil_iff.1 e12;unfold finS;rw[if_neg (by
    rw[Bool.not_true,Bool.false_or,decide_eq_true_eq];omega)]
  rw[SH,SH,if_neg (fun q=>q rfl),if_neg (fun q=>q rfl),UF m (by omega),UF p (by omega),UF l (by omega)];dsimp only;rw[hT,if_neg (fun q=>q h0)]
end Go.Sx
namespace Go.Sx
open Go.RowKit
set_option linter.unusedVariables false
set_option linter.unusedSimpArgs false
section
variable {α σ ρ τ:Type}
theorem JD {f:τ->Option (τ⊕ρ)}(st:σ->Nat->τ)(n:Nat)(F:σ->Nat->σ)(I:Nat->σ->Prop)(s:σ){r:ρ}(h0:I 0 s)(h:∀ s i,i < n->I i s->f (st s i)=some (.inl (st (F s i) (i+1)))/\I (i+1) (F s i))
    (he:I n ((List.range n).foldl F s)->f (st ((List.range n).foldl F s) n)=some (.inr r)):aY f (st s 0)=some r:=by
  have hI:∀ k,k<=n->I k ((List.range k).foldl F s):=by
    intro k
    induction k with
    | zero=>intro _;exact h0
    | succ k ih =>
      intro hk;rw[List.range_succ,List.foldl_append];exact(h _ k (by omega) (ih (by omega))).2
  refine gp (fun i=>st ((List.range i).foldl F s) i) n (fun i hi=>?_) (he (hI n (Nat.le_refl _)));rw[(h _ i hi (hI i (by omega))).1,List.range_succ,List.foldl_append];rfl
theorem W_ [Inhabited α]{n:Nat}(v:Vec α n)(i:Nat)(h:i < n):v.g i=v.l[i]'(by rw[v.h];exact h):=by
  have hl:i < v.l.length:=by rw[v.h];exact h
  simp[Vec.g,List.getD_eq_getElem?_getD,hl]
theorem vext [Inhabited α]{n:Nat}{v w:Vec α n}(h:∀ i,i < n->v.g i=w.g i):v=w:=by
  refine Vec.ext (List.ext_getElem (by rw[v.h,w.h]) fun i h1 h2=>?_);have hi:i < n:=by rw[<- v.h];exact h1
  rw[<- W_ v i hi,<-W_ w i hi,h i hi]
theorem vst_g [Inhabited α]{n:Nat}(v:Vec α n)(i:Nat)(x:α)(j:Nat)(hj:j < n):(lK v (i:Int) x).g j=if i=j then x else v.g j:=by
  rw[W_ _ _ hj,W_ _ _ hj];simp only[lK,Int.toNat_natCast,List.getElem_set]
def WV [Inhabited α](n:Nat)(f:Nat->α):Vec α n:=⟨(List.range n).map f,by simp⟩
theorem QV [Inhabited α](n:Nat)(f:Nat->α)(i:Nat)(h:i < n):(WV n f).g i=f i:=by
  rw[W_ _ _ h];simp[WV]
theorem vfold_g [Inhabited α]{n:Nat}(f:Nat->α->α)(v:Vec α n)(j:Nat)(hj:j < n):∀ m,((List.range m).foldl (fun(v:Vec α n) (k:Nat)=>lK v (k:Int) (f k (v.g k))) v).g j=if j < m then f j (v.g j) else v.g j:=by
  intro m
  induction m with
  | zero=>simp
  | succ m ih =>
    rw[List.range_succ,List.foldl_append,List.foldl_cons,List.foldl_nil,vst_g _ _ _ _ hj];by_cases h:m=j
    ·subst h;rw[if_pos rfl,ih,if_neg (by omega),if_pos (by omega)]
    ·rw[if_neg h,ih];by_cases h2:j < m
     ·rw[if_pos h2,if_pos (by omega)]
     ·rw[if_neg h2,if_neg (by omega)]
theorem DF [Inhabited α]{n:Nat}(f:Nat->α->α)(v:Vec α n):(List.range n).foldl (fun(v:Vec α n) (k:Nat)=>lK v (k:Int) (f k (v.g k))) v=WV n fun k=>f k (v.g k) :=
  vext fun i hi=>by rw[vfold_g f v i hi,if_pos hi,QV _ _ _ hi]
end
def lowP (a b:UInt64):UInt64:=2*(a % 4294967296)*(b % 4294967296)
theorem and32 (x:UInt64):x&&&4294967295=x % 4294967296:=by
  apply UInt64.toNat_inj.1;rw[UInt64.toNat_and,UInt64.toNat_mod];exact Nat.and_two_pow_sub_one_eq_mod x.toNat 32
def Bq (a b c d:UInt64):UInt64×UInt64×UInt64×UInt64 :=
  let a1:=a+(b+lowP a b)
  let d1:=D_ (d^^^a1) 32
  let c1:=c+(d1+lowP c d1)
  let b1:=D_ (b^^^c1) 24
  let a2:=a1+(b1+lowP a1 b1)
  let d2:=D_ (d1^^^a2) 16
  let c2:=c1+(d2+lowP c1 d2)
  let b2:=D_ (b1^^^c2) 63
  (a2,b2,c2,d2)
theorem wBl (a b c d:UInt64):Af a b c d=some (Bq a b c d):=by
  unfold Af;simp only[pz,Option.bind_some,rl32,rl24,rl16,rl63,and32];rfl
theorem rBl (a b c d:UInt64):Di a b c d=some ⟨[(Bq a b c d).1,(Bq a b c d).2.1,(Bq a b c d).2.2.1,(Bq a b c d).2.2.2],rfl⟩:=by
  unfold Di;simp only[BI,Option.bind_some,tn32,tn24,tn16,tn63,UInt64.add_assoc,Bq,lowP]
def Pm1 (v:Vec UInt64 16)(i:Nat):Vec UInt64 16 :=
  let t:=Bq (v.g (pl i).1) (v.g (pl i).2.1) (v.g (pl i).2.2.1) (v.g (pl i).2.2.2)
  lK (lK (lK (lK v ((pl i).1:Int) t.1) ((pl i).2.1:Int) t.2.1) ((pl i).2.2.1:Int) t.2.2.1) ((pl i).2.2.2:Int) t.2.2.2
def Pm (v:Vec UInt64 16):Vec UInt64 16:=(List.range 8).foldl Pm1 v
theorem wPm (v:Vec UInt64 16):zk v=some (Pm v):=by
  unfold zk;refine xX _ 8 Pm1 _ _ (fun v i hi=>?_) (by unfold Ag;simp only[];rw[if_neg (by omega)];rfl);unfold Ag;simp only[];rw[if_pos (by omega)];obtain⟨p,h1,h2⟩:=NZ i hi;unfold xA at h1;rw[Uz _ _ (by omega),if_pos (by omega),show((i:Int) % 8)=i from by omega] at h1;obtain⟨q,hq,e⟩:=Option.bind_eq_some_iff.1 h1;obtain rfl:=Option.some.inj e;rw[hq];obtain⟨ha,hb,hc,hd,_⟩:=Y1 i hi;have e0:aU q.l 0=some ((pl i).1:Int):=by rw[h2];rfl
  have e1:aU q.l 1=some ((pl i).2.1:Int):=by rw[h2];rfl
  have e2:aU q.l 2=some ((pl i).2.2.1:Int):=by rw[h2];rfl
  have e3:aU q.l 3=some ((pl i).2.2.2:Int):=by rw[h2];rfl
  simp only[e0,e1,e2,e3,fG _ _ ha,fG _ _ hb,fG _ _ hc,fG _ _ hd,Option.bind_some,wBl];rw[bJ i (by omega)];rfl
theorem rPm (v:Vec UInt64 16):EZ v=some (Pm v):=by
  unfold EZ;refine xX _ 8 Pm1 _ _ (fun v i hi=>?_) (by unfold Cc;simp only[];rw[if_neg (by omega)];rfl);unfold Cc;simp only[];rw[if_pos (by omega)];obtain⟨p,h1,h2⟩:=NZ i hi;obtain⟨ha,hb,hc,hd,_⟩:=Y1 i hi;have e0:aU p.l 0=some ((pl i).1:Int):=by rw[h2];rfl
  have e1:aU p.l 1=some ((pl i).2.1:Int):=by rw[h2];rfl
  have e2:aU p.l 2=some ((pl i).2.2.1:Int):=by rw[h2];rfl
  have e3:aU p.l 3=some ((pl i).2.2.2:Int):=by rw[h2];rfl
  simp only[h1,e0,e1,e2,e3,fG _ _ ha,fG _ _ hb,fG _ _ hc,fG _ _ hd,Option.bind_some,rBl];unfold Cb;have key:∀ (t:UInt64×UInt64×UInt64×UInt64),aY (oP (i:Int) p ⟨[t.1,t.2.1,t.2.2.1,t.2.2.2],rfl⟩) (v,0)=some (.inl (lK (lK (lK (lK v ((pl i).1:Int) t.1) ((pl i).2.1:Int) t.2.1) ((pl i).2.2.1:Int) t.2.2.1) ((pl i).2.2.2:Int) t.2.2.2,((i+1:Nat):Int))):=by
    intro t;have g0:aU ([t.1,t.2.1,t.2.2.1,t.2.2.2]:List UInt64) 0=some t.1:=rfl;have g1:aU ([t.1,t.2.1,t.2.2.1,t.2.2.2]:List UInt64) 1=some t.2.1:=rfl;have g2:aU ([t.1,t.2.1,t.2.2.1,t.2.2.2]:List UInt64) 2=some t.2.2.1:=rfl;have g3:aU ([t.1,t.2.1,t.2.2.1,t.2.2.2]:List UInt64) 3=some t.2.2.2:=rfl;rw[mF (s':=(lK v ((pl i).1:Int) t.1,1)) (by
      unfold oP;simp only[];rw[if_pos (by omega)];simp only[e0,g0,fG _ _ ha,Option.bind_some];rfl)]
    rw[mF (s':=(lK (lK v ((pl i).1:Int) t.1) ((pl i).2.1:Int) t.2.1,2)) (by
      unfold oP;simp only[];rw[if_pos (by omega)];simp only[e1,g1,fG _ _ hb,Option.bind_some];rfl)]
    rw[mF (s':=(lK (lK (lK v ((pl i).1:Int) t.1) ((pl i).2.1:Int) t.2.1) ((pl i).2.2.1:Int) t.2.2.1,3)) (by
      unfold oP;simp only[];rw[if_pos (by omega)];simp only[e2,g2,fG _ _ hc,Option.bind_some];rfl)]
    rw[mF (s':=(lK (lK (lK (lK v ((pl i).1:Int) t.1) ((pl i).2.1:Int) t.2.1) ((pl i).2.2.1:Int) t.2.2.1) ((pl i).2.2.2:Int) t.2.2.2,4)) (by
      unfold oP;simp only[];rw[if_pos (by omega)];simp only[e3,g3,fG _ _ hd,Option.bind_some];rfl)]
    refine jl ?_;unfold oP;simp only[];rw[if_neg (by omega),bJ i (by omega)];rfl
  exact key (Bq (v.g (pl i).1) (v.g (pl i).2.1) (v.g (pl i).2.2.1) (v.g (pl i).2.2.2))
end Go.Sx
namespace Go.Sx
open Go.RowKit
set_option linter.unusedVariables false
set_option linter.unusedSimpArgs false
def gat (z:Vec UInt64 128)(pos:Nat->Nat):Vec UInt64 16:=WV 16 fun k=>z.g (pos k)
def sca (z:Vec UInt64 128)(pos:Nat->Nat)(v:Vec UInt64 16):Vec UInt64 128:=(List.range 16).foldl (fun z k=>lK z ((pos k:Nat):Int) (v.g k)) z
def JE (z:Vec UInt64 128)(pos:Nat->Nat):Vec UInt64 128:=sca z pos (Pm (gat z pos))
def GX (i k:Nat):Nat:=16*i+k
def GY (i k:Nat):Nat:=2*i+16*(k / 2)+k % 2
theorem UG (i k:Nat)(hi:i < 8)(hk:k < 16):GX i k < 128:=by unfold GX;omega
theorem UH (i k:Nat)(hi:i < 8)(hk:k < 16):GY i k < 128:=by unfold GY;omega
theorem Zh (i k:Nat)(hi:i < 8)(hk:k < 16):ay ((ay (16*(i:Int)))+(k:Int))=((GX i k:Nat):Int):=by
  unfold GX;rw[bu (n:=16*(i:Int)) (by omega),bu (by omega)];omega
theorem Zi (i k:Nat)(hi:i < 8)(hk:k < 16):ay ((ay ((ay (2*(i:Int)))+(ay (16*(ay (Int.tdiv (k:Int) 2))))))+(Int.tmod (k:Int) 2))=((GY i k:Nat):Int):=by
  unfold GY;rw[tmod2,show Int.tdiv (k:Int) 2=((k / 2:Nat):Int) from rfl,bu (n:=2*(i:Int)) (by omega),bu (n:=((k / 2:Nat):Int)) (by omega),bu (n:=16*((k / 2:Nat):Int)) (by omega),bu (n:=2*(i:Int)+16*((k / 2:Nat):Int)) (by omega),bu (by omega)];omega
theorem wputR (z:Vec UInt64 128)(i:Nat)(hi:i < 8):Ah (i:Int) z=some ((i:Int),JE z (GX i)):=by
  have hp:∀ k:Nat,k < 16->∀ p:Int,p=(i:Int)->xE (k:Int) p=some (((GX i k:Nat):Int),(i:Int)):=by
    rintro k hk p rfl;unfold xE;rw[Zh i k hi hk]
  unfold Ah;refine JD (fun(v:Vec UInt64 16) k=>((i:Int),v,(k:Int))) 16 (fun v k=>lK v (k:Int) (z.g (GX i k))) (fun _ _=>True) (Vec.rep 16 (0:UInt64)) trivial (fun v k hk _=>⟨?_,trivial⟩) fun _=>?_
  ·unfold yJ;simp only[];rw[if_pos (by omega),hp k hk _ rfl];simp only[Option.bind_some,fG _ _ (UG i k hi hk),fG _ _ hk];rw[bJ k (by omega)]
  ·unfold yJ;simp only[];rw[if_neg (by omega),wPm];simp only[Option.bind_some];rw[DF (fun k _=>z.g (GX i k)) (Vec.rep 16 (0:UInt64))];show Option.map Sum.inr (aY (uP (Pm (gat z (GX i)))) ((i:Int),z,(0:Int)))=Option.map Sum.inr (some ((i:Int),JE z (GX i)));refine congrArg _ (JD (r:=((i:Int),JE z (GX i))) (fun(z:Vec UInt64 128) k=>((i:Int),z,(k:Int))) 16 (fun z1 k=>lK z1 ((GX i k:Nat):Int) ((Pm (gat z (GX i))).g k)) (fun _ _=>True) z trivial (fun v k hk _=>⟨?_,trivial⟩) fun _=>?_)
   ·unfold uP;simp only[];rw[if_pos (by omega),hp k hk _ rfl];simp only[Option.bind_some,fG _ _ (UG i k hi hk),fG _ _ hk];rw[bJ k (by omega)]
   ·unfold uP;simp only[];rw[if_neg (by omega)];rfl
theorem wputC (z:Vec UInt64 128)(i:Nat)(hi:i < 8):uQ (i:Int) z=some ((i:Int),JE z (GY i)):=by
  have hp:∀ k:Nat,k < 16->∀ p:Int,p=(i:Int)->xG (k:Int) p=some (((GY i k:Nat):Int),(i:Int)):=by
    rintro k hk p rfl;unfold xG;rw[Zi i k hi hk]
  unfold uQ;refine JD (fun(v:Vec UInt64 16) k=>((i:Int),v,(k:Int))) 16 (fun v k=>lK v (k:Int) (z.g (GY i k))) (fun _ _=>True) (Vec.rep 16 (0:UInt64)) trivial (fun v k hk _=>⟨?_,trivial⟩) fun _=>?_
  ·unfold um;simp only[];rw[if_pos (by omega),hp k hk _ rfl];simp only[Option.bind_some,fG _ _ (UH i k hi hk),fG _ _ hk];rw[bJ k (by omega)]
  ·unfold um;simp only[];rw[if_neg (by omega),wPm];simp only[Option.bind_some];rw[DF (fun k _=>z.g (GY i k)) (Vec.rep 16 (0:UInt64))];show Option.map Sum.inr (aY (pF (Pm (gat z (GY i)))) ((i:Int),z,(0:Int)))=Option.map Sum.inr (some ((i:Int),JE z (GY i)));refine congrArg _ (JD (r:=((i:Int),JE z (GY i))) (fun(z:Vec UInt64 128) k=>((i:Int),z,(k:Int))) 16 (fun z1 k=>lK z1 ((GY i k:Nat):Int) ((Pm (gat z (GY i))).g k)) (fun _ _=>True) z trivial (fun v k hk _=>⟨?_,trivial⟩) fun _=>?_)
   ·unfold pF;simp only[];rw[if_pos (by omega),hp k hk _ rfl];simp only[Option.bind_some,fG _ _ (UH i k hi hk),fG _ _ hk];rw[bJ k (by omega)]
   ·unfold pF;simp only[];rw[if_neg (by omega)];rfl
theorem rputQ (z:Vec UInt64 128)(pos:Nat->Nat)(hp:∀ k,k < 16->pos k < 128)(a:Vec Int 16)(ha:∀ k,k < 16->a.g k=((pos k:Nat):Int)):EK z.l a=some (JE z pos).l:=by
  have hg:∀ k:Nat,k < 16->aU a.l (k:Int)=some ((pos k:Nat):Int):=fun k hk=>by rw[fG a k hk,ha k hk]
  unfold EK;refine JD (fun(v:Vec UInt64 16) k=>(v,(k:Int))) 16 (fun v k=>lK v (k:Int) (z.g (pos k))) (fun _ _=>True) (Vec.rep 16 (0:UInt64)) trivial (fun v k hk _=>⟨?_,trivial⟩) fun _=>?_
  ·unfold Ez;simp only[];rw[if_pos (by omega),hg k hk];simp only[Option.bind_some,fG _ _ (hp k hk),fG _ _ hk];rw[bJ k (by omega)]
  ·unfold Ez;simp only[];rw[if_neg (by omega),rPm];simp only[Option.bind_some];rw[DF (fun k _=>z.g (pos k)) (Vec.rep 16 (0:UInt64))];show Option.map Sum.inr (aY (Ak a (Pm (gat z pos))) (z.l,(0:Int)))=Option.map Sum.inr (some (JE z pos).l);refine congrArg _ (JD (r:=(JE z pos).l) (fun(z:Vec UInt64 128) k=>(z.l,(k:Int))) 16 (fun z1 k=>lK z1 ((pos k:Nat):Int) ((Pm (gat z pos)).g k)) (fun _ _=>True) z trivial (fun v k hk _=>⟨?_,trivial⟩) fun _=>?_)
   ·unfold Ak;simp only[];rw[if_pos (by omega),hg k hk];simp only[Option.bind_some,fG _ _ (hp k hk),fG _ _ hk];rw[bJ k (by omega)];rfl
   ·unfold Ak;simp only[];rw[if_neg (by omega)];rfl
end Go.Sx
namespace Go.Sx
open Go.RowKit
set_option linter.unusedVariables false
set_option linter.unusedSimpArgs false
def xU (x y:List UInt8):List UInt8:=List.zipWith (fun a b=>a^^^b) x y
theorem xg {x y:List UInt8}{n:Nat}(hx:x.length=n)(hy:y.length=n):(xU x y).length=n:=by simp[xU,hx,hy]
theorem xorL_comm (x y:List UInt8):xU x y=xU y x:=by
  unfold xU;rw[List.zipWith_comm];congr 1;funext a b;exact UInt8.xor_comm _ _
theorem UI {x y:List UInt8}{n:Nat}(hx:x.length=n)(hy:y.length=n):xU x y=(List.range n).map fun k=>x.getD k 0^^^y.getD k 0:=by
  refine List.ext_getElem (by rw[xg hx hy];simp) fun i h1 h2=>?_;rw[xg hx hy] at h1;have e1:i < x.length:=by omega
  have e2:i < y.length:=by omega
  simp[xU,List.getD_eq_getElem?_getD,e1,e2]
def Fo (f:Nat->List UInt8)(n:Nat):List UInt8:=(List.range n).foldl (fun b i=>b++f i) []
theorem EH (f:Nat->List UInt8)(n:Nat):Fo f (n+1)=Fo f n++f n:=by
  unfold Fo;rw[List.range_succ,List.foldl_append];rfl
theorem QW {f:Nat->List UInt8}(hf:∀ i,(f i).length=8)(n:Nat):(Fo f n).length=n*8:=Uw f 8 hf n
theorem Xa {f g:Nat->List UInt8}(n:Nat)(h:∀ i,i < n->f i=g i):Fo f n=Fo g n:=by
  induction n with
  | zero=>rfl
  | succ n ih=>rw[EH,EH,ih fun i hi=>h i (by omega),h n (by omega)]
theorem Fo_xor {f g:Nat->List UInt8}(hf:∀ i,(f i).length=8)(hg:∀ i,(g i).length=8)(n:Nat):Fo (fun i=>xU (f i) (g i)) n=xU (Fo f n) (Fo g n):=by
  induction n with
  | zero=>rfl
  | succ n ih =>
    rw[EH,EH,EH,ih];unfold xU;rw[List.zipWith_append (by rw[QW hf,QW hg])]
theorem Fo_take (X:List UInt8)(n:Nat):Fo (fun i=>(X.drop (8*i)).take 8) n=X.take (8*n):=by
  induction n with
  | zero=>rfl
  | succ n ih=>rw[EH,ih,Nat.mul_succ,List.take_add]
theorem Fo_part {f:Nat->List UInt8}(hf:∀ i,(f i).length=8)(i:Nat):∀ n,i < n->((Fo f n).drop (8*i)).take 8=f i:=by
  intro n
  induction n with
  | zero=>intro h;omega
  | succ n ih =>
    intro h;have hl:=QW hf n;rw[EH,List.drop_append,List.take_append];by_cases hn:i=n
    ·subst hn;rw[List.drop_of_length_le (by omega),hl];simp[show 8*i - i*8=0 from by omega,hf i,List.take_of_length_le (Nat.le_of_eq (hf i))]
    ·rw[ih (by omega)];have:((Fo f n).drop (8*i)).length=n*8 - 8*i:=by rw[List.length_drop,hl]
     rw[this,show 8 - (n*8 - 8*i)=0 from by omega];simp
theorem Zj:∀ (bs:List UInt8),(List.range bs.length).map (fun i=>UInt8.ofNat (Le bs / 256 ^ i))=bs
  | []=>rfl
  | b::r=>by
    have ih:=Zj r;have hb:=b.toNat_lt;rw[List.length_cons,List.range_succ_eq_map,List.map_cons,List.map_map];congr 1
    ·rw[<- UInt8.toNat_inj];simp only[Le,UInt8.toNat_ofNat',Nat.pow_zero,Nat.div_one];omega
    ·refine Eq.trans (List.map_congr_left fun i _=>?_) ih;simp only[Function.comp,Le,Nat.pow_succ];rw[Nat.mul_comm (256 ^ i) 256,<-Nat.div_div_eq_div_mul,show(b.toNat+256*Le r) / 256=Le r from by omega]
theorem st8_wd (X:List UInt8)(i:Nat)(h:8*i+8<=X.length):Lm 8 (tX X i)=(X.drop (8*i)).take 8:=by
  have hl:((X.drop (8*i)).take 8).length=8:=by rw[List.length_take,List.length_drop];omega
  have h1:=Zj ((X.drop (8*i)).take 8);have h2:=leN_lt ((X.drop (8*i)).take 8);rw[hl] at h1 h2;unfold Lm tX;rw[show(UInt64.ofNat (Le ((X.drop (8*i)).take 8))).toNat=Le ((X.drop (8*i)).take 8) from UInt64.toNat_ofNat_of_lt' (by simpa using h2)];exact h1
theorem wd_st8 (X:List UInt8)(i:Nat)(w:UInt64)(h:(X.drop (8*i)).take 8=Lm 8 w):tX X i=w:=by
  unfold tX;rw[h];unfold Lm;rw[aaj];apply UInt64.toNat_inj.1;rw[UInt64.toNat_ofNat'];have:=w.toNat_lt;omega
theorem byx (a b i:Nat):UInt8.ofNat ((a^^^b) / 256 ^ i)=UInt8.ofNat (a / 256 ^ i)^^^UInt8.ofNat (b / 256 ^ i):=by
  apply UInt8.toNat_inj.1;rw[UInt8.toNat_xor];simp only[UInt8.toNat_ofNat'];rw[QM,Nat.xor_div_two_pow,<-Nat.xor_mod_two_pow (n:=8)]
theorem st8_xor (a b:UInt64):Lm 8 (a^^^b)=xU (Lm 8 a) (Lm 8 b):=by
  rw[UI (yO 8 a) (yO 8 b)];unfold Lm;refine List.map_congr_left fun i hi=>?_;have hi:=List.mem_range.1 hi;rw[UInt64.toNat_xor,byx];simp[List.getD_eq_getElem?_getD,hi]
def RI (z:Vec UInt64 128):List UInt8:=Fo (fun i=>Lm 8 (z.g i)) 128
theorem Zk (z:Vec UInt64 128):(RI z).length=1024:=by
  have h:=QW (f:=fun i=>Lm 8 (z.g i)) (fun i=>yO 8 _) 128;unfold RI;omega
theorem St_wd (X:List UInt8)(h:X.length=1024):RI (WV 128 (tX X))=X:=by
  unfold RI;rw[Xa 128 (g:=fun i=>(X.drop (8*i)).take 8) fun i hi=>by rw[QV _ _ _ hi,st8_wd X i (by omega)],Fo_take,List.take_of_length_le (by omega)]
theorem wd_St (z:Vec UInt64 128)(i:Nat)(h:i < 128):tX (RI z) i=z.g i:=wd_st8 _ _ _ (Fo_part (f:=fun i=>Lm 8 (z.g i)) (fun i=>yO 8 _) i 128 h)
theorem St_xor (a b:Vec UInt64 128):RI (WV 128 fun k=>a.g k^^^b.g k)=xU (RI a) (RI b):=by
  unfold RI;rw[<- Fo_xor (fun i=>yO 8 _) (fun i=>yO 8 _)];exact Xa 128 fun i hi=>by rw[QV _ _ _ hi,st8_xor]
theorem wd_xor (x y:List UInt8)(hx:x.length=1024)(hy:y.length=1024)(i:Nat)(hi:i < 128):tX (xU x y) i=tX x i^^^tX y i:=by
  have h:=St_xor (WV 128 (tX x)) (WV 128 (tX y));rw[St_wd x hx,St_wd y hy] at h;rw[<- h,wd_St _ _ hi,QV _ _ _ hi,QV _ _ _ hi,QV _ _ _ hi]
theorem WV_l {α:Type}[Inhabited α](n:Nat)(f:Nat->α):(WV n f).l=(List.range n).map f:=rfl
theorem rep_l {α:Type}(n:Nat)(x:α):List.replicate n x=(Vec.rep n x).l:=rfl
theorem JY (x:List UInt8)(k:Nat)(h:k < x.length):aU x (k:Int)=some (x.getD k 0):=by
  rw[gZ h];simp[List.getD_eq_getElem?_getD,h]
theorem wXor (x y:List UInt8)(hx:x.length=1024)(hy:y.length=1024):BG x y=some (xU x y,0):=by
  unfold BG vw;rw[if_neg (by omega),if_neg (by omega)];simp only[Option.bind_some,Bool.not_true,Bool.false_eq_true,if_false];have e:xU x y=((List.range 1024).foldl (fun(v:Vec UInt8 1024) (k:Nat)=>lK v (k:Int) (x.getD k 0^^^y.getD k 0)) (Vec.rep 1024 (0:UInt8))).l:=by
    rw[DF (fun k _=>x.getD k 0^^^y.getD k 0) (Vec.rep 1024 (0:UInt8)),UI hx hy,WV_l]
  rw[show Int.toNat (1024:Int)=1024 from rfl,rep_l];refine JD (fun(v:Vec UInt8 1024) k=>(v.l,(k:Int))) 1024 (fun v k=>lK v (k:Int) (x.getD k 0^^^y.getD k 0)) (fun _ _=>True) (Vec.rep 1024 (0:UInt8)) trivial (fun v k hk _=>⟨?_,trivial⟩) fun _=>?_
  ·unfold B_;simp only[];rw[if_pos (by simp only[Int.toNat];omega),JY x k (by omega),JY y k (by omega),fG _ _ hk];simp only[Option.bind_some];rw[bJ k (by omega)];rfl
  ·unfold B_;simp only[];rw[if_neg (by simp only[Int.toNat];omega),e];rfl
theorem rXor (x y:List UInt8)(hx:x.length=1024)(hy:y.length=1024):xJ x y=some (xU x y,0):=by
  unfold xJ;rw[if_neg (by simp[hx,hy])];rw[UI hx hy];refine gp (fun i=>((List.range i).map fun k=>x.getD k 0^^^y.getD k 0,(i:Int))) 1024 (fun k hk=>?_) ?_
  ·unfold Ey;simp only[];rw[if_pos (by omega),JY x k (by omega),JY y k (by omega)];simp only[Option.bind_some];rw[gK (by simp;omega)];simp only[Option.bind_some];rw[bJ k (by omega),List.range_succ,List.map_append];rfl
  ·unfold Ey;simp only[];rw[if_neg (by omega)];rfl
end Go.Sx
namespace Go.Sx
open Go.RowKit
set_option linter.unusedVariables false
set_option linter.unusedSimpArgs false
theorem Zl (i:Nat)(h:i < 1000000):ay (8*(i:Int))=((8*i:Nat):Int):=by rw[bu (by omega)];omega
theorem wwords (b:List UInt8)(hb:b.length=1024):xC b=some (WV 128 (tX b)):=by
  unfold xC;refine xX _ 128 (fun m (i:Nat)=>lK m i (tX b i)) _ _ (fun v i hi=>?_) ?_
  ·unfold yI;simp only[];rw[if_pos (by omega),Zl i (by omega),N7 b i (by omega) (by omega),fG _ _ hi,bJ i (by omega)];rfl
  ·unfold yI;simp only[];rw[if_neg (by omega),DF (fun k _=>tX b k) (Vec.rep 128 (0:UInt64))];rfl
theorem shrN (x:UInt64)(s:Nat):(iG x s).toNat=x.toNat / 2 ^ s:=by
  show(x.toBitVec >>> s).toNat=_;rw[BitVec.toNat_ushiftRight,Nat.shiftRight_eq_div_pow];rfl
theorem laid1 (w:UInt64)(i:Nat)(hi:i < 128)(b:List UInt8)(hb:b.length<=1024):aY (sW (i:Int) w) (b,0)=some (.inl (b++Lm 8 w,((i+1:Nat):Int))):=by
  have h:=gp (f:=sW (i:Int) w) (r:=.inl (b++Lm 8 w,((i+1:Nat):Int))) (fun j=>(b++(List.range j).map (fun t=>UInt8.ofNat (w.toNat / 256 ^ t)),((8*j:Nat):Int))) 8 (fun j hj=>?_) ?_
  ·simpa using h
  ·unfold sW;simp only[];rw[if_pos (by omega),jo (by omega)];simp only[Option.bind_some];rw[gK (by simp;omega)];simp only[Option.bind_some];rw[bu (by omega),List.range_succ,List.map_append,Int.toNat_natCast,shrN,<-QM];simp only[List.map_cons,List.map_nil,List.append_assoc];congr 4
  ·unfold sW;simp only[];rw[if_neg (by omega),bJ i (by omega)];rfl
theorem wlaid (z:Vec UInt64 128):Df z=some (RI z,z):=by
  unfold Df;refine JD (fun(b:List UInt8) k=>(b,(k:Int))) 128 (fun b k=>b++Lm 8 (z.g k)) (fun k b=>b.length=8*k) [] rfl (fun b k hk hl=>⟨?_,by rw[List.length_append,hl,yO];omega⟩) fun _=>?_
  ·unfold Ai;simp only[];rw[if_pos (by omega),fG _ _ hk];simp only[Option.bind_some];rw[laid1 _ k hk b (by omega)]
  ·unfold Ai;simp only[];rw[if_neg (by omega)];rfl
def Rw8 (r:Vec UInt64 128):Vec UInt64 128:=(List.range 8).foldl (fun z i=>JE z (GX i)) r
def Cl8 (r:Vec UInt64 128):Vec UInt64 128:=(List.range 8).foldl (fun z i=>JE z (GY i)) r
def UJ (x y:List UInt8):List UInt8:=xU (xU x y) (RI (Cl8 (Rw8 (WV 128 (tX (xU x y))))))
theorem uY {x y:List UInt8}(hx:x.length=1024)(hy:y.length=1024):(UJ x y).length=1024:=xg (xg hx hy) (Zk _)
theorem WV_congr {α:Type}[Inhabited α]{n:Nat}{f g:Nat->α}(h:∀ i,i < n->f i=g i):WV n f=WV n g:=vext fun i hi=>by rw[QV _ _ _ hi,QV _ _ _ hi,h i hi]
theorem wMix3 (r z:Vec UInt64 128):aY (yl r) (z,0)=some (xU (RI z) (RI r),0):=by
  refine xX _ 128 (fun z (i:Nat)=>lK z i (z.g i^^^r.g i)) _ _ (fun v i hi=>?_) ?_
  ·unfold yl;simp only[];rw[if_pos (by omega),fG _ _ hi,fG _ _ hi,bJ i (by omega)];rfl
  ·unfold yl;simp only[];rw[if_neg (by omega),DF (fun k a=>a^^^r.g k) z,wlaid];simp only[Option.bind_some];rw[St_xor];rfl
theorem wMix2 (r z:Vec UInt64 128):aY (yt r) (z,0)=some (xU (RI (Cl8 z)) (RI r),0):=by
  refine xX _ 8 (fun z i=>JE z (GY i)) _ _ (fun v i hi=>?_) ?_
  ·unfold yt;simp only[];rw[if_pos (by omega),wputC v i hi];simp only[Option.bind_some];rw[bJ i (by omega)]
  ·unfold yt;simp only[];rw[if_neg (by omega),wMix3];rfl
theorem wMix1 (r z:Vec UInt64 128):aY (yu r) (z,0)=some (xU (RI (Cl8 (Rw8 z))) (RI r),0):=by
  refine xX _ 8 (fun z i=>JE z (GX i)) _ _ (fun v i hi=>?_) ?_
  ·unfold yu;simp only[];rw[if_pos (by omega),wputR v i hi];simp only[Option.bind_some];rw[bJ i (by omega)]
  ·unfold yu;simp only[];rw[if_neg (by omega),wMix2];rfl
theorem wMix (x y:List UInt8)(hx:x.length=1024)(hy:y.length=1024):uo x y=some (UJ x y,0):=by
  unfold uo vw;rw[if_neg (by omega),if_neg (by omega)];simp only[Option.bind_some,Bool.not_true,Bool.false_eq_true,if_false];rw[wwords x hx];simp only[Option.bind_some];rw[wwords y hy];simp only[Option.bind_some];refine xX _ 128 (fun z (i:Nat)=>lK z i (z.g i^^^(WV 128 (tX y)).g i)) _ _ (fun v i hi=>?_) ?_
  ·unfold BZ;simp only[];rw[if_pos (by omega),fG _ _ hi,fG _ _ hi,bJ i (by omega)];rfl
  ·unfold BZ;simp only[];rw[if_neg (by omega),DF (fun k a=>a^^^(WV 128 (tX y)).g k) (WV 128 (tX x))];rw[WV_congr (g:=tX (xU x y)) fun i hi=>by rw[QV _ _ _ hi,QV _ _ _ hi,wd_xor x y hx hy i hi]];rw[wMix1,St_wd _ (xg hx hy),xorL_comm];rfl
end Go.Sx
namespace Go.Sx
open Go.RowKit
set_option linter.unusedVariables false
set_option linter.unusedSimpArgs false
theorem rMix5 (X:List UInt8)(z:Vec UInt64 128)(hX:X.length=1024):aY (Aq (X,0) z.l) (([]:List UInt8),0)=some (xU X (RI z),0):=by
  refine JD (fun(b:List UInt8) k=>(b,(k:Int))) 128 (fun b k=>b++Lm 8 (z.g k)) (fun k b=>b.length=8*k) [] rfl (fun b k hk hl=>⟨?_,by rw[List.length_append,hl,yO];omega⟩) fun _=>?_
  ·unfold Aq;simp only[];rw[if_pos (by omega),fG _ _ hk];simp only[Option.bind_some];have:=Uu (z.g k) 8 (by omega);rw[show((8:Nat):Int)=8 from rfl] at this;rw[this];simp only[Option.bind_some];rw[gK (by simp;omega)];simp only[Option.bind_some];rw[bJ k (by omega)];rfl
  ·unfold Aq;simp only[];rw[if_neg (by omega)];show Option.map Sum.inr ((xJ X (RI z)).bind fun r=>some (r.1,r.2))=_;rw[rXor X _ hX (Zk z)];rfl
theorem Zm {n:Nat}(f:Nat->Int)(v:Vec Int n):∀ k,k < n->((List.range n).foldl (fun(v:Vec Int n) (k:Nat)=>lK v (k:Int) (f k)) v).g k=f k:=fun k hk=>by
  rw[DF (fun k _=>f k) v,QV _ _ _ hk]
theorem rMix4 (z:Vec UInt64 128)(i:Nat)(hi:i < 8):aY (Ap z.l (i:Int)) ((Vec.rep 16 (0:Int)),0)=some (.inl ((JE z (GY i)).l,((i+1:Nat):Int))):=by
  refine xX _ 16 (fun v k=>lK v (k:Int) ((GY i k:Nat):Int)) _ _ (fun v k hk=>?_) ?_
  ·unfold Ap;simp only[];rw[if_pos (by omega),fG _ _ hk];simp only[Option.bind_some];rw[Zi i k hi hk,bJ k (by omega)]
  ·unfold Ap;simp only[];rw[if_neg (by omega),rputQ z (GY i) (fun k hk=>UH i k hi hk) _ (Zm (fun k=>((GY i k:Nat):Int)) _)];simp only[Option.bind_some];rw[bJ i (by omega)];rfl
theorem rMix2 (z:Vec UInt64 128)(i:Nat)(hi:i < 8):aY (Am z.l (i:Int)) ((Vec.rep 16 (0:Int)),0)=some (.inl ((JE z (GX i)).l,((i+1:Nat):Int))):=by
  refine xX _ 16 (fun v k=>lK v (k:Int) ((GX i k:Nat):Int)) _ _ (fun v k hk=>?_) ?_
  ·unfold Am;simp only[];rw[if_pos (by omega),fG _ _ hk];simp only[Option.bind_some];rw[Zh i k hi hk,bJ k (by omega)]
  ·unfold Am;simp only[];rw[if_neg (by omega),rputQ z (GX i) (fun k hk=>UG i k hi hk) _ (Zm (fun k=>((GX i k:Nat):Int)) _)];simp only[Option.bind_some];rw[bJ i (by omega)];rfl
theorem rMix3 (X:List UInt8)(z:Vec UInt64 128)(hX:X.length=1024):aY (Ar (X,0)) (z.l,0)=some (xU X (RI (Cl8 z)),0):=by
  refine JD (fun(z:Vec UInt64 128) k=>(z.l,(k:Int))) 8 (fun z i=>JE z (GY i)) (fun _ _=>True) z trivial (fun v k hk _=>⟨?_,trivial⟩) fun _=>?_
  ·unfold Ar;simp only[];rw[if_pos (by omega),rMix4 v k hk]
  ·unfold Ar;simp only[];rw[if_neg (by omega),rMix5 X _ hX];rfl
theorem rMix1 (X:List UInt8)(z:Vec UInt64 128)(hX:X.length=1024):aY (xK (X,0)) (z.l,0)=some (xU X (RI (Cl8 (Rw8 z))),0):=by
  refine JD (fun(z:Vec UInt64 128) k=>(z.l,(k:Int))) 8 (fun z i=>JE z (GX i)) (fun _ _=>True) z trivial (fun v k hk _=>⟨?_,trivial⟩) fun _=>?_
  ·unfold xK;simp only[];rw[if_pos (by omega),rMix2 v k hk]
  ·unfold xK;simp only[];rw[if_neg (by omega),rMix3 X _ hX];rfl
theorem rMix (x y:List UInt8)(hx:x.length=1024)(hy:y.length=1024):BJ x y=some (UJ x y,0):=by
  have hX:=xg hx hy;unfold BJ;rw[rXor x y hx hy];simp only[Option.bind_some];rw[if_neg (by decide)];refine gp (fun i=>((List.range i).map (tX (xU x y)),(i:Int))) 128 (fun k hk=>?_) ?_
  ·unfold EC;simp only[];rw[if_pos (by omega),Zl k (by omega),QN _ k (by omega) (by omega)];simp only[Option.bind_some];rw[gK (by simp;omega)];simp only[Option.bind_some];rw[bJ k (by omega),List.range_succ,List.map_append];rfl
  ·unfold EC;simp only[];rw[if_neg (by omega)];have h:=rMix1 (xU x y) (WV 128 (tX (xU x y))) hX;rw[WV_l] at h;show Option.map Sum.inr (aY (xK (xU x y,0)) ((List.range 128).map (tX (xU x y)),0))=_;rw[h];rfl
theorem wOver (x y o:List UInt8)(hx:x.length=1024)(hy:y.length=1024)(ho:o.length=1024):zl x y o=some (xU (UJ x y) o,0):=by
  unfold zl xH;rw[if_neg (by omega),if_neg (by omega),if_neg (by omega)];simp only[Option.bind_some,Bool.not_true,Bool.false_eq_true,if_false];rw[wMix x y hx hy];simp only[Option.bind_some];rw[wXor _ o (uY hx hy) ho];rfl
end Go.Sx
namespace Go.Sx
open Go.RowKit
set_option linter.unusedVariables false
set_option linter.unusedSimpArgs false
def spr (s:UInt64)(x:UInt8):UInt64:=2*s+(UInt64.ofNat x.toNat+1)*11400714819323198485
def fullB (n:Nat)(s:UInt64):Bool:=decide (n=1024)||(decide (64<=n)&&decide (iG s ((58:UInt64).toNat)=0))
def cut:List UInt8->List UInt8->UInt64->List (List UInt8)
  | [],_,_=>[]
  | x::r,p,s=>if(fullB (p.length+1) (spr s x)||r.isEmpty)=true then(p++[x])::cut r [] 0 else cut r (p++[x]) (spr s x)
end Go.Sx
namespace Go.Sx
open Go.RowKit
set_option linter.unusedVariables false
set_option linter.unusedSimpArgs false
section
variable {α σ ρ τ:Type}
end
noncomputable def Po (sz:Nat)(b:List UInt8):List UInt8:=((qQ 1 sz 0 1 1 0 0 0 0 0 [] [] [] false sz b).getD ([],0)).1
theorem chkD (sz:Nat)(h1:1<=sz)(h2:sz<=64):jm 1 (sz:Int) 0 1 1 0 0 0 0 0 [] []=some 0:=by
  unfold jm;rw[show pq 1=some 64 from rfl];simp only[Option.bind_some];rw[if_neg (by decide),if_neg (by simp only[Bool.or_eq_true,decide_eq_true_eq];omega)];rfl
theorem JF (sz:Nat)(h1:1<=sz)(h2:sz<=64)(b:List UInt8)(hb:b.length<=12000000) :
    qQ 1 sz 0 1 1 0 0 0 0 0 [] [] [] false sz b=some (Po sz b,0)/\wO 1 sz 0 1 1 0 0 0 0 0 [] [] [] false sz b=some (Po sz b,0)/\(Po sz b).length=sz:=by
  obtain⟨H,blk,M,hk,e1,e2⟩:=hash_ok sz 0 1 1 0 0 0 0 0 [] [] [] false sz b (chkD sz h1 h2) (.inl rfl) hb;have hS:H.S=64:=by rcases H.hk with⟨_,_,h⟩ | ⟨h,_,_⟩ <;> omega
  have ha:H.ans blk M false sz=((H.hash blk M false).take sz,0):=by
    unfold Half.ans;rw[if_neg (by omega),Int.toNat_natCast]
  have hd:Po sz b=(H.hash blk M false).take sz:=by unfold Po;rw[e1,ha];rfl
  rw[e1,e2,ha,hd];refine⟨rfl,rfl,?_⟩;rw[List.length_take,H.WX,hS];omega
end Go.Sx
namespace Go.Sx
open Go.RowKit
set_option linter.unusedVariables false
set_option linter.unusedSimpArgs false
def S4 (n:Nat):List UInt8:=(List.range 4).map fun i=>UInt8.ofNat (n / 256 ^ i)
theorem BP (n:Nat):(S4 n).length=4:=by simp[S4]
theorem oi32 (n:Nat)(h:n < 4294967296):(UInt32.ofInt (n:Int)).toNat=n:=by
  show(UInt32.ofNat ((n:Int) % 2 ^ 32).toNat).toNat=n;rw[UInt32.toNat_ofNat'];omega
theorem oi64 (n:Nat)(h:n < 18446744073709551616):(UInt64.ofInt (n:Int)).toNat=n:=by
  show(UInt64.ofNat ((n:Int) % 2 ^ 64).toNat).toNat=n;rw[UInt64.toNat_ofNat'];omega
theorem w32s (n:Nat)(h:n < 4294967296):sS (UInt32.ofInt (n:Int))=some (S4 n):=by
  unfold sS;rw[Yh,oi32 n h];unfold Lm S4;rw[show(UInt64.ofNat n).toNat=n from UInt64.toNat_ofNat_of_lt' (by show n < 18446744073709551616;omega)]
theorem r32s (n:Nat)(h:n < 18446744073709551616):oM (UInt64.ofInt (n:Int)) (4:Int)=some (S4 n):=by
  have:=Uu (UInt64.ofInt (n:Int)) 4 (by omega);rw[show((4:Nat):Int)=4 from rfl] at this;rw[this,oi64 n h];rfl
theorem O6 (b:List UInt8)(hb:b.length<=16000000)(n:Nat)(h:n < 4294967296):jQ b (n:Int)=some (b++S4 n):=by
  unfold jQ;rw[w32s n h];simp only[Option.bind_some];rw[gK (by rw[BP];omega)];rfl
theorem QX (n:Nat)(h:n < 4294967296):mD (n:Int)=some (S4 n):=by
  unfold mD;rw[r32s n (by omega)];rfl
theorem UK (n:Nat)(h1:1<=n)(h2:n<=64)(b:List UInt8)(hb:b.length<=12000000):rf (n:Int) b=some (Po n b):=by
  unfold rf;rw[(JF n h1 h2 b hb).1];rfl
theorem rdig (n:Nat)(h1:1<=n)(h2:n<=64)(b:List UInt8)(hb:b.length<=12000000):rE (n:Int) b=some (Po n b):=by
  unfold rE;rw[(JF n h1 h2 b hb).2.1];rfl
theorem A_ (n:Nat)(h1:1<=n)(h2:n<=64)(b:List UInt8)(hb:b.length<=12000000):(Po n b).length=n:=(JF n h1 h2 b hb).2.2
noncomputable def Vk (v:List UInt8):Nat->List UInt8
  | 0=>v
  | k+1=>Po 64 (Vk v k)
theorem JG (v:List UInt8)(hv:v.length=64):∀ k,(Vk v k).length=64
  | 0=>hv
  | k+1=>A_ 64 (by omega) (by omega) _ (by rw[JG v hv k];omega)
noncomputable def Ok (v:List UInt8):Nat->List UInt8
  | 0=>[]
  | k+1=>Ok v k++(Vk v k).take 32
theorem Lh (v:List UInt8)(hv:v.length=64):∀ k,(Ok v k).length=32*k
  | 0=>rfl
  | k+1=>by
    show(Ok v k++(Vk v k).take 32).length=_;rw[List.length_append,Lh v hv k,List.length_take,JG v hv k];omega
theorem Zn (v:List UInt8)(h:v.length=64):G6 v 0 (32:Int)=some (v.take 32):=by
  rw[zG (by omega)];rfl
noncomputable def Ea (n:Nat)(data:List UInt8):List UInt8 :=
  if n<=64 then Po n (S4 n++data)
  else Ok (Po 64 (S4 n++data)) ((n+31) / 32 - 2)++Po (n - 32*((n+31) / 32 - 2)) (Vk (Po 64 (S4 n++data)) ((n+31) / 32 - 2 - 1))
theorem SK (n:Nat)(h1:1<=n)(h2:n<=1048576)(data:List UInt8)(hd:data.length<=11000000):(Ea n data).length=n:=by
  have h4:=BP n;have hl:(S4 n++data).length<=12000000:=by rw[List.length_append];omega
  unfold Ea;split
  ·exact A_ n h1 (by omega) _ hl
  ·have hv:=A_ 64 (by omega) (by omega) _ hl;rw[List.length_append,Lh _ hv,A_ _ (by omega) (by omega) _ (by rw[JG _ hv];omega)];omega
theorem wHash (n:Nat)(h1:1<=n)(h2:n<=1048576)(data:List UInt8)(hd:data.length<=11000000):zi (n:Int) data=some (Ea n data,0):=by
  have h4:=BP n;have hl:(S4 n++data).length<=12000000:=by rw[List.length_append];omega
  unfold zi;rw[if_neg (by simp only[Bool.or_eq_true,decide_eq_true_eq];omega),w32s n (by omega)];simp only[Option.bind_some];rw[gK (by rw[h4];omega)];simp only[Option.bind_some];by_cases h:n<=64
  ·rw[if_pos (by omega),UK n h1 h _ hl];unfold Ea;rw[if_pos h];rfl
  ·rw[if_neg (by omega),show(64:Int)=((64:Nat):Int) from rfl,UK 64 (by omega) (by omega) _ hl];have hv:=A_ 64 (by omega) (by omega) _ hl;simp only[Option.bind_some];rw[Zn _ hv];simp only[Option.bind_some];rw[gK (by rw[List.length_take,hv];simp)];simp only[Option.bind_some];generalize hv0:Po 64 (S4 n++data)=v at hv ⊢;have hr:ay ((ay ((ay (Int.tdiv (ay ((n:Int)+31)) 32)) - 2)))=(((n+31) / 32 - 2:Nat):Int):=by
     rw[bu (n:=(n:Int)+31) (by omega),show Int.tdiv ((n:Int)+31) 32=(((n+31) / 32:Nat):Int) from rfl,bu (n:=(((n+31) / 32:Nat):Int)) (by omega),bu (n:=(((n+31) / 32:Nat):Int) - 2) (by omega),bu (by omega)];omega
   have hr1:ay ((ay (Int.tdiv (ay ((n:Int)+31)) 32)) - 2)=(((n+31) / 32 - 2:Nat):Int):=by
     rw[bu (n:=(n:Int)+31) (by omega),show Int.tdiv ((n:Int)+31) 32=(((n+31) / 32:Nat):Int) from rfl,bu (n:=(((n+31) / 32:Nat):Int)) (by omega),bu (n:=(((n+31) / 32:Nat):Int) - 2) (by omega)];omega
   refine gp (fun k=>(Vk v k,Ok v (k+1),(k:Int))) ((n+31) / 32 - 2 - 1) (fun k hk=>?_) ?_
   ·unfold Ae;simp only[];rw[hr1,bu (by omega),if_pos (by omega),show(64:Int)=((64:Nat):Int) from rfl,UK 64 (by omega) (by omega) _ (by rw[JG v hv];omega)];simp only[Option.bind_some];rw[Zn _ (A_ 64 (by omega) (by omega) _ (by rw[JG v hv];omega))];simp only[Option.bind_some];rw[gK (by rw[Lh v hv,List.length_take];omega)];simp only[Option.bind_some];rw[bJ k (by omega)];rfl
   ·unfold Ae;simp only[];rw[hr1,bu (by omega),if_neg (by omega),bu (n:=32*_) (by omega),bu (by omega)];rw[show(n:Int) - 32*(((n+31) / 32 - 2:Nat):Int)=((n - 32*((n+31) / 32 - 2):Nat):Int) from by omega];have hvk:=JG v hv ((n+31) / 32 - 2 - 1);rw[UK _ (by omega) (by omega) _ (by omega)];simp only[Option.bind_some];rw[gK (by rw[Lh v hv,A_ _ (by omega) (by omega) _ (by omega)];omega)];simp only[Option.bind_some,Option.map_some];unfold Ea;rw[if_neg h,hv0,show(n+31) / 32 - 2 - 1+1=(n+31) / 32 - 2 from by omega]
theorem rHash (n:Nat)(h1:1<=n)(h2:n<=1048576)(data:List UInt8)(hd:data.length<=11000000):BH (n:Int) data=some (Ea n data,0):=by
  have h4:=BP n;have hl:(S4 n++data).length<=12000000:=by rw[List.length_append];omega
  unfold BH;rw[if_neg (by simp only[Bool.or_eq_true,decide_eq_true_eq];omega),r32s n (by omega)];simp only[Option.bind_some];have h0:=gp (f:=yw (n:Int) data) (r:=(Ea n data,0)) (fun k=>(S4 n++data.take k,(k:Int))) data.length (fun k hk=>?_) ?_
  ·simpa using h0
  ·unfold yw;simp only[];rw[if_pos (by omega),gZ hk];simp only[Option.bind_some];rw[gK (by rw[List.length_append,h4,List.length_take];simp;omega)];simp only[Option.bind_some];rw[bJ k (by omega),List.append_assoc,List.take_append_getElem hk]
  ·unfold yw;simp only[];rw[if_neg (by omega),List.take_of_length_le (Nat.le_refl _)];by_cases h:n<=64
   ·rw[if_pos (by omega),rdig n h1 h _ hl];unfold Ea;rw[if_pos h];rfl
   ·rw[if_neg (by omega),show(64:Int)=((64:Nat):Int) from rfl,rdig 64 (by omega) (by omega) _ hl];have hv:=A_ 64 (by omega) (by omega) _ hl;simp only[Option.bind_some];generalize hv0:Po 64 (S4 n++data)=v at hv ⊢;have key:=gp (f:=vC) (r:=(Ea n data,0)) (fun k=>(Ok v k,((n - 32*k:Nat):Int),Vk v k)) ((n+31) / 32 - 2 - 1) (fun k hk=>?_) ?_
    ·have e:((n - 32*0:Nat):Int)=(n:Int):=by omega
     simp only[e] at key;show Option.map Sum.inr (aY vC ([],(n:Int),v))=_;exact congrArg (Option.map Sum.inr) key
    ·unfold vC;simp only[];have hvk:=JG v hv k;rw[if_pos (by omega),Zn _ hvk];simp only[Option.bind_some];rw[gK (by rw[Lh v hv,List.length_take];omega)];simp only[Option.bind_some];rw[show(64:Int)=((64:Nat):Int) from rfl,rdig 64 (by omega) (by omega) _ (by omega)];simp only[Option.bind_some];rw[bu (by omega),show((n - 32*k:Nat):Int) - 32=((n - 32*(k+1):Nat):Int) from by omega];rfl
    ·unfold vC;simp only[];have hvk:=JG v hv ((n+31) / 32 - 2 - 1);rw[if_neg (by omega),Zn _ hvk];simp only[Option.bind_some];rw[gK (by rw[Lh v hv,List.length_take];omega)];simp only[Option.bind_some];rw[bu (by omega),show((n - 32*((n+31) / 32 - 2 - 1):Nat):Int) - 32=((n - 32*((n+31) / 32 - 2):Nat):Int) from by omega];rw[rdig _ (by omega) (by omega) _ (by omega)];simp only[Option.bind_some];rw[gK (by rw[List.length_append,Lh v hv,A_ _ (by omega) (by omega) _ (by omega),List.length_take];omega)];simp only[Option.bind_some,Option.map_some];unfold Ea;rw[if_neg h,hv0];have e:Ok v ((n+31) / 32 - 2)=Ok v ((n+31) / 32 - 2 - 1)++(Vk v ((n+31) / 32 - 2 - 1)).take 32:=by
       obtain⟨m,hm⟩:∃ m,(n+31) / 32 - 2=m+1:=⟨(n+31) / 32 - 3,by omega⟩
       rw[hm];rfl
     rw[e]
end Go.Sx
namespace Go.Sx
open Go.RowKit
set_option linter.unusedVariables false
set_option linter.unusedSimpArgs false
theorem QY (K M P L T:Int):nO K M P L T=some (if tY K M P L T then 0 else 200):=by
  unfold nO;by_cases h:tY K M P L T
  ·rw[if_pos h];unfold tY at h;rw[show ay (8*L)=8*L from by rw[bu] <;> omega];rw[if_neg (by simp only[Bool.or_eq_true,decide_eq_true_eq];omega)]
  ·rw[if_neg h];unfold tY at h;by_cases hL:1<=L/\L<=8
   ·rw[show ay (8*L)=8*L from by rw[bu] <;> omega];rw[if_pos (by simp only[Bool.or_eq_true,decide_eq_true_eq];omega)]
   ·rw[if_pos (by simp only[Bool.or_eq_true,decide_eq_true_eq];omega)]
theorem wSum (b:List UInt8)(hb:b.length<=12000000):Gy 1 64 b=some (Po 64 b,0):=by
  have h:=(JF 64 (by omega) (by omega) b hb).1;have hc:=chkD 64 (by omega) (by omega);rw[show((64:Nat):Int)=64 from rfl] at h hc;unfold Gy Ep Ei oK;simp only[if_true,Option.bind_some];rw[if_neg (by decide)];simp only[Option.bind_some];rw[if_neg (by decide),QO];simp only[List.length_nil];rw[show((0:Nat):Int)=0 from rfl,hc];simp only[Option.bind_some];rw[if_neg (by decide),h];rfl
theorem rSum (b:List UInt8)(hb:b.length<=12000000):Gz 1 64 b=some (Po 64 b,0):=by
  have h:=(JF 64 (by omega) (by omega) b hb).2.1;have hc:=chkD 64 (by omega) (by omega);rw[show((64:Nat):Int)=64 from rfl] at h hc;unfold Gz Hw;simp only[List.length_nil];rw[show((0:Nat):Int)=0 from rfl,hc];simp only[Option.bind_some];rw[if_neg (by decide),h];rfl
def UL (K M P L T:Nat)(w aJ:List UInt8):List UInt8 :=
  (((((((((((([]++S4 L)++S4 T)++S4 M)++S4 P)++S4 19)++S4 K)++S4 w.length)++w)++S4 aJ.length)++aJ)++S4 0)++[])++S4 0++[]
theorem Zo (K M P L T:Nat)(hm:tY K M P L T)(w aJ:List UInt8)(hw:w.length<=65536)(hs:8<=aJ.length/\aJ.length<=64):nJ K M P L T w aJ [] []=some (Po 64 (UL K M P L T w aJ),0):=by
  unfold nJ;rw[Yp,decide_eq_true hm];simp only[Option.bind_some,Bool.not_true,Bool.false_eq_true,if_false];rw[if_neg (by omega),UD];unfold Bh;rw[if_pos hm,if_neg (by omega)];simp only[Option.bind_some,ne_eq,not_true_eq_false,if_false];rw[if_neg (by simp)];unfold sU;rw[if_neg (by simp)];unfold tY at hm;unfold xB;have g0:aU (⟨[(L:Int),(T:Int),(M:Int),(P:Int),(19:Int),(K:Int)],rfl⟩:Vec Int 6).l 0=some (L:Int):=rfl;have g1:aU (⟨[(L:Int),(T:Int),(M:Int),(P:Int),(19:Int),(K:Int)],rfl⟩:Vec Int 6).l 1=some (T:Int):=rfl;have g2:aU (⟨[(L:Int),(T:Int),(M:Int),(P:Int),(19:Int),(K:Int)],rfl⟩:Vec Int 6).l 2=some (M:Int):=rfl;have g3:aU (⟨[(L:Int),(T:Int),(M:Int),(P:Int),(19:Int),(K:Int)],rfl⟩:Vec Int 6).l 3=some (P:Int):=rfl;have g4:aU (⟨[(L:Int),(T:Int),(M:Int),(P:Int),(19:Int),(K:Int)],rfl⟩:Vec Int 6).l 4=some ((19:Nat):Int):=rfl;have g5:aU (⟨[(L:Int),(T:Int),(M:Int),(P:Int),(19:Int),(K:Int)],rfl⟩:Vec Int 6).l 5=some (K:Int):=rfl;have l4:=BP;rw[g0,Option.bind_some,O6 _ (by simp) _ (by omega),Option.bind_some];rw[g1,Option.bind_some,O6 _ (by simp[l4]) _ (by omega),Option.bind_some];rw[g2,Option.bind_some,O6 _ (by simp[l4]) _ (by omega),Option.bind_some];rw[g3,Option.bind_some,O6 _ (by simp[l4]) _ (by omega),Option.bind_some]
  rw[g4,Option.bind_some,O6 _ (by simp[l4]) _ (by omega),Option.bind_some];rw[g5,Option.bind_some,O6 _ (by simp[l4]) _ (by omega),Option.bind_some];rw[O6 _ (by simp[l4]) _ (by omega),Option.bind_some,gK (by simp[l4];omega),Option.bind_some];rw[O6 _ (by simp[l4];omega) _ (by omega),Option.bind_some,gK (by simp[l4];omega),Option.bind_some];rw[O6 _ (by simp[l4];omega) _ (by simp),Option.bind_some,gK (by simp[l4];omega),Option.bind_some];rw[O6 _ (by simp[l4];omega) _ (by simp),Option.bind_some,gK (by simp[l4];omega),Option.bind_some];rw[wSum _ (by simp[l4];omega),Option.bind_some];rfl
theorem rStartA (K M P L T:Nat)(hm:tY K M P L T)(w aJ:List UInt8)(hw:w.length<=65536)(hs:8<=aJ.length/\aJ.length<=64):wR K M P L T w aJ [] []=some (Po 64 (UL K M P L T w aJ),0):=by
  unfold wR xI;rw[QY,if_pos hm];simp only[Option.bind_some,ne_eq,not_true_eq_false,if_false];rw[if_neg (by omega),Yq];unfold Bh;rw[if_pos hm,if_neg (by omega)];simp only[Option.bind_some,ne_eq,not_true_eq_false,if_false];rw[if_neg (by simp)];simp only[Option.bind_some,ne_eq,not_true_eq_false,if_false];unfold tY at hm;have g0:aU ([(L:Int),(T:Int),(M:Int),(P:Int),(19:Int),(K:Int)]:List Int) 0=some (L:Int):=rfl;have g1:aU ([(L:Int),(T:Int),(M:Int),(P:Int),(19:Int),(K:Int)]:List Int) 1=some (T:Int):=rfl;have g2:aU ([(L:Int),(T:Int),(M:Int),(P:Int),(19:Int),(K:Int)]:List Int) 2=some (M:Int):=rfl;have g3:aU ([(L:Int),(T:Int),(M:Int),(P:Int),(19:Int),(K:Int)]:List Int) 3=some (P:Int):=rfl;have g4:aU ([(L:Int),(T:Int),(M:Int),(P:Int),(19:Int),(K:Int)]:List Int) 4=some ((19:Nat):Int):=rfl;have g5:aU ([(L:Int),(T:Int),(M:Int),(P:Int),(19:Int),(K:Int)]:List Int) 5=some (K:Int):=rfl;have l4:=BP;rw[g0,Option.bind_some,QX _ (by omega),Option.bind_some,gK (by simp[l4]),Option.bind_some];rw[g1,Option.bind_some,QX _ (by omega),Option.bind_some,gK (by simp[l4]),Option.bind_some];rw[g2,Option.bind_some,QX _ (by omega),Option.bind_some,gK (by simp[l4]),Option.bind_some];rw[g3,Option.bind_some,QX _ (by omega),Option.bind_some,gK (by simp[l4]),Option.bind_some]
  rw[g4,Option.bind_some,QX _ (by omega),Option.bind_some,gK (by simp[l4]),Option.bind_some];rw[g5,Option.bind_some,QX _ (by omega),Option.bind_some,gK (by simp[l4]),Option.bind_some];rw[QX _ (by omega),Option.bind_some,gK (by simp[l4]),Option.bind_some,gK (by simp[l4];omega),Option.bind_some];rw[QX _ (by omega),Option.bind_some,gK (by simp[l4];omega),Option.bind_some,gK (by simp[l4];omega),Option.bind_some];rw[QX _ (by simp),Option.bind_some,gK (by simp[l4];omega),Option.bind_some,gK (by simp[l4];omega),Option.bind_some];rw[Option.bind_some,gK (by simp[l4];omega),Option.bind_some,gK (by simp[l4];omega),Option.bind_some];rw[rSum _ (by simp[l4];omega),Option.bind_some];rfl
theorem hdr_le (K M P L T:Nat)(w aJ:List UInt8)(hw:w.length<=65536)(hs:aJ.length<=64):(UL K M P L T w aJ).length<=12000000:=by
  unfold UL;simp[BP];omega
end Go.Sx
namespace Go.Sx
open Go.RowKit
set_option linter.unusedVariables false
set_option linter.unusedSimpArgs false
section
variable (K M P L T:Nat)(hm:tY K M P L T)
def dL (M L:Nat):Nat:=M / (4*L)
include hm in
theorem nM:K<=2/\1<=L/\L<=8/\1<=P/\P<=16/\4<=T/\T<=1024/\8*L<=M/\M<=4096:=by unfold tY at hm;omega
include hm in
theorem n_:2<=dL M L/\dL M L<=1024/\L*(4*dL M L)<=4096:=by
  obtain⟨_,h1,h2,_,_,_,_,h3,h4⟩:=nM K M P L T hm;have h5:4*L*(M / (4*L))<=M:=Nat.mul_div_le M (4*L);have h6:2<=M / (4*L):=(Nat.le_div_iff_mul_le (by omega)).2 (by omega);refine⟨h6,?_,?_⟩
  ·unfold dL;have:4*(M / (4*L))<=4*L*(M / (4*L)):=Nat.mul_le_mul_right _ (by omega);omega
  ·unfold dL;rw[<- Nat.mul_assoc,Nat.mul_comm L 4];omega
include hm in
theorem Yu:lg K M P L T=some ((dL M L:Nat):Int):=by
  have hb:=n_ K M P L T hm;obtain⟨_,h1,h2,_⟩:=nM K M P L T hm;unfold lg;rw[bu (n:=4*(L:Int)) (by omega),jo (by omega)];simp only[Option.bind_some];rw[show Int.tdiv (M:Int) (4*(L:Int))=((dL M L:Nat):Int) from rfl,bu (by omega)]
include hm in
theorem wcol:nY K M P L T=some ((4*dL M L:Nat):Int):=by
  have hb:=n_ K M P L T hm;unfold nY;rw[Yu K M P L T hm];simp only[Option.bind_some];rw[bu (by omega)];simp
include hm in
theorem rcol:oN K M P L T=some (((4*dL M L:Nat):Int),0):=by
  have hb:=n_ K M P L T hm;obtain⟨_,h1,h2,_⟩:=nM K M P L T hm;unfold oN;rw[QY,if_pos hm];simp only[Option.bind_some,ne_eq,not_true_eq_false,if_false];rw[bu (n:=4*(L:Int)) (by omega),jo (by omega)];simp only[Option.bind_some];rw[show Int.tdiv (M:Int) (4*(L:Int))=((dL M L:Nat):Int) from rfl,bu (n:=((dL M L:Nat):Int)) (by omega),bu (by omega)];simp[Int.mul_comm]
include hm in
theorem rseg:vF K M P L T=some ((dL M L:Nat):Int):=by
  have hb:=n_ K M P L T hm;unfold vF;rw[rcol K M P L T hm];simp only[Option.bind_some];rw[show Int.tdiv ((4*dL M L:Nat):Int) 4=((4*dL M L / 4:Nat):Int) from rfl,show 4*dL M L / 4=dL M L from by omega,bu (by omega)]
end
def Zp (area:Nat)(j:UInt64):Nat:=area*((j.toNat % 4294967296)*(j.toNat % 4294967296) / 4294967296) / 4294967296
theorem Yv (area:Nat)(h:1<=area)(j:UInt64):Zp area j < area:=by
  unfold Zp;have h1:j.toNat % 4294967296 < 4294967296:=Nat.mod_lt _ (by omega);generalize j.toNat % 4294967296=a at h1 ⊢;have h2:a*a / 4294967296 < 4294967296:=Nat.div_lt_of_lt_mul (Nat.mul_lt_mul'' h1 h1);generalize a*a / 4294967296=p at h2 ⊢;exact Nat.div_lt_of_lt_mul (by rw[Nat.mul_comm];exact Nat.mul_lt_mul_of_pos_right h2 (by omega))
theorem qU (area:Nat)(h:area<=65536)(j:UInt64):(iG ((UInt64.ofInt (area:Int))*(iG ((j % 4294967296)*(j % 4294967296)) ((32:UInt64).toNat))) ((32:UInt64).toNat)).toNat=Zp area j:=by
  have h1:j.toNat % 4294967296 < 4294967296:=Nat.mod_lt _ (by omega);have e1:(j % 4294967296).toNat=j.toNat % 4294967296:=by rw[UInt64.toNat_mod];rfl
  have e2:(iG ((j % 4294967296)*(j % 4294967296)) ((32:UInt64).toNat)).toNat=(j.toNat % 4294967296)*(j.toNat % 4294967296) / 4294967296:=by
    rw[shrN,UInt64.toNat_mul,e1,Nat.mod_eq_of_lt]
    ·rfl
    ·exact Nat.lt_of_lt_of_le (Nat.mul_lt_mul'' h1 h1) (by decide)
  rw[shrN,UInt64.toNat_mul,e2,oi64 area (by omega)];unfold Zp;generalize j.toNat % 4294967296=a at h1 ⊢;have h2:a*a / 4294967296 < 4294967296:=Nat.div_lt_of_lt_mul (Nat.mul_lt_mul'' h1 h1);generalize a*a / 4294967296=p at h2 ⊢;rw[Nat.mod_eq_of_lt]
  ·rfl
  ·have:area*p<=65536*4294967296:=Nat.mul_le_mul h (by omega);omega
def Ba (L pass slice lane:Nat)(j:UInt64):Nat:=if pass=0/\slice=0 then lane else j.toNat / 4294967296 % L
def F7 (s pass slice lane x l:Nat):Nat:=if l=lane then(if pass=0 then slice*s else 3*s)+x - 1 else if x=0 then(if pass=0 then slice*s else 3*s) - 1 else(if pass=0 then slice*s else 3*s)
def UM (s pass slice:Nat):Nat:=if pass=0∨slice=3 then 0 else(slice+1)*s
def colS (s pass slice lane x l:Nat)(j:UInt64):Nat:=(UM s pass slice+F7 s pass slice lane x l - 1 - Zp (F7 s pass slice lane x l) j) % (4*s)
theorem QZ (L pass slice lane:Nat)(j:UInt64)(hL:1<=L)(hl:lane < L):Ba L pass slice lane j < L:=by
  unfold Ba;split
  ·exact hl
  ·exact Nat.mod_lt _ (by omega)
theorem Q3 (s pass slice lane x l:Nat)(hs:2<=s)(h3:slice<=3)(hx:x < s)(hl:pass=0/\slice=0->l=lane/\2<=x):1<=F7 s pass slice lane x l/\F7 s pass slice lane x l<=4*s:=by
  unfold F7;have h0:slice*s<=3*s:=Nat.mul_le_mul_right _ h3;have h1:slice≠0->s<=slice*s:=fun h=>Nat.le_mul_of_pos_left _ (by omega);by_cases hp:pass=0
  ·simp only[hp,if_true];by_cases hz:slice=0
   ·obtain⟨rfl,hx2⟩:=hl ⟨hp,hz⟩;subst hz;simp only[if_true];omega
   ·have:=h1 hz;split
    ·omega
    ·split <;> omega
  ·simp only[hp,if_false];split
   ·omega
   ·split <;> omega
theorem UN (s pass slice lane x l:Nat)(j:UInt64)(hs:2<=s):colS s pass slice lane x l j < 4*s:=Nat.mod_lt _ (by omega)
theorem colS_0 (s slice lane x l:Nat)(j:UInt64)(hs:2<=s)(h3:slice<=3)(hx:x < s)(hl:slice=0->l=lane/\2<=x):colS s 0 slice lane x l j < slice*s∨(l=lane/\colS s 0 slice lane x l j < slice*s+x):=by
  have hb:=Q3 s 0 slice lane x l hs h3 hx fun h=>hl h.2;have hq:=Yv _ hb.1 j;have h0:slice*s<=3*s:=Nat.mul_le_mul_right _ h3;have h1:slice≠0->s<=slice*s:=fun h=>Nat.le_mul_of_pos_left _ (by omega);unfold colS UM;rw[if_pos (.inl rfl)];generalize hA:F7 s 0 slice lane x l=a at hb hq ⊢;rw[Nat.mod_eq_of_lt (by omega)];unfold F7 at hA;simp only[if_true] at hA;by_cases he:l=lane
  ·right;rw[if_pos he] at hA;refine⟨he,?_⟩;omega
  ·left;rw[if_neg he] at hA;have hz:slice≠0:=fun h=>he (hl h).1;have:=h1 hz;split at hA <;> omega
section
variable (K M P L T:Nat)(hm:tY K M P L T)(pass slice lane x:Nat)(j:UInt64)(hp:pass < P)(h3:slice<=3)(hl:lane < L)(hx:x < dL M L)(h02:pass=0/\slice=0->2<=x)
include hm in
theorem wref3 (l:Int)(st area:Nat)(h1:1<=area)(h2:area<=65536)(h4:st<=65536):ni K M P L T j l st area=some (l,(((st+area - 1 - Zp area j) % (4*dL M L):Nat):Int)):=by
  have hb:=n_ K M P L T hm;have hq:=Yv area h1 j;unfold ni;rw[wcol K M P L T hm];simp only[Option.bind_some];rw[jo (by omega)];simp only[Option.bind_some,and32];rw[qU area h2 j,bu (n:=(st:Int)+area) (by omega),bu (n:=(st:Int)+area - 1) (by omega),bu (n:=((Zp area j:Nat):Int)) (by omega),bu (by omega)];rw[show(st:Int)+area - 1 - ((Zp area j:Nat):Int)=((st+area - 1 - Zp area j:Nat):Int) from by omega];rfl
include hm in
theorem rref3 (l:Int)(st area:Nat)(h1:1<=area)(h2:area<=65536)(h4:st<=65536):tq j ((dL M L:Nat):Int) l area st=some (l,(((st+area - 1 - Zp area j) % (4*dL M L):Nat):Int),0):=by
  have hb:=n_ K M P L T hm;have hq:=Yv area h1 j;unfold tq;rw[bu (n:=4*((dL M L:Nat):Int)) (by omega),jo (by omega)];simp only[Option.bind_some];rw[qU area h2 j,bu (n:=(st:Int)+area) (by omega),bu (n:=(st:Int)+area - 1) (by omega),bu (n:=((Zp area j:Nat):Int)) (by omega),bu (by omega)];rw[show(st:Int)+area - 1 - ((Zp area j:Nat):Int)=((st+area - 1 - Zp area j:Nat):Int) from by omega];rfl
include hm h3 hx in
theorem wref0 (l:Nat)(hll:pass=0/\slice=0->l=lane/\2<=x):o8 K M P L T pass slice lane x j l=some ((l:Int),((colS (dL M L) pass slice lane x l j:Nat):Int)):=by
  have hb:=n_ K M P L T hm;have ha:=Q3 (dL M L) pass slice lane x l hb.1 h3 hx hll;have h0:slice*dL M L<=3*dL M L:=Nat.mul_le_mul_right _ h3;have h1:(slice+1)*dL M L<=4*dL M L:=Nat.mul_le_mul_right _ (by omega);have Vm:∀ st:Nat,st<=4096->∀ wh:Nat,wh=(if pass=0 then slice*dL M L else 3*dL M L)->o6 K M P L T lane x j l wh st=some ((l:Int),(((st+F7 (dL M L) pass slice lane x l - 1 - Zp (F7 (dL M L) pass slice lane x l) j) % (4*dL M L):Nat):Int)):=by
    intro st hst wh hwh;have hw:wh<=4096:=by rw[hwh];split <;> omega
    have hA:F7 (dL M L) pass slice lane x l=if l=lane then wh+x - 1 else if x=0 then wh - 1 else wh:=by unfold F7;rw[hwh]
    unfold o6;by_cases he:l=lane
    ·rw[if_pos he] at hA;rw[if_pos (by omega),bu (n:=(x:Int) - 1) (by omega),bu (by omega),show(wh:Int)+((x:Int) - 1)=((wh+x - 1:Nat):Int) from by omega,<-hA];exact wref3 K M P L T hm j l st _ ha.1 (by omega) (by omega)
    ·rw[if_neg he] at hA;rw[if_neg (by omega)];by_cases hz:x=0
     ·rw[if_pos hz] at hA;rw[if_pos (by omega),bu (by omega),show(wh:Int) - 1=((wh - 1:Nat):Int) from by omega,<-hA];exact wref3 K M P L T hm j l st _ ha.1 (by omega) (by omega)
     ·rw[if_neg hz] at hA;rw[if_neg (by omega),<-hA];exact wref3 K M P L T hm j l st _ ha.1 (by omega) (by omega)
  have key1:∀ wh:Nat,wh=(if pass=0 then slice*dL M L else 3*dL M L)->o7 K M P L T pass slice lane x j l ((dL M L:Nat):Int) wh=some ((l:Int),((colS (dL M L) pass slice lane x l j:Nat):Int)):=by
    intro wh hwh;unfold o7 colS UM;by_cases hc:pass=0∨slice=3
    ·rw[if_pos hc,if_pos (by simp only[Bool.or_eq_true,decide_eq_true_eq];omega)];exact Vm 0 (by omega) wh hwh
    ·rw[if_neg hc,if_neg (by simp only[Bool.or_eq_true,decide_eq_true_eq];omega),bu (n:=(slice:Int)+1) (by omega),show((slice:Int)+1)*((dL M L:Nat):Int)=(((slice+1)*dL M L:Nat):Int) from by simp,bu (by omega)];exact Vm _ (by omega) wh hwh
  unfold o8;rw[Yu K M P L T hm];simp only[Option.bind_some];by_cases hp0:pass=0
  ·rw[if_pos (by omega),show(slice:Int)*((dL M L:Nat):Int)=((slice*dL M L:Nat):Int) from by simp,bu (by omega)];exact key1 _ (by rw[if_pos hp0])
  ·rw[if_neg (by omega),show(3:Int)*((dL M L:Nat):Int)=((3*dL M L:Nat):Int) from by simp,bu (by omega)];exact key1 _ (by rw[if_neg hp0])
include hm h3 hx in
theorem rref0 (l:Nat)(hll:pass=0/\slice=0->l=lane/\2<=x):tC pass slice lane x j ((dL M L:Nat):Int) l=some ((l:Int),((colS (dL M L) pass slice lane x l j:Nat):Int),0):=by
  have hb:=n_ K M P L T hm;have ha:=Q3 (dL M L) pass slice lane x l hb.1 h3 hx hll;have h0:slice*dL M L<=3*dL M L:=Nat.mul_le_mul_right _ h3;have h1:(slice+1)*dL M L<=4*dL M L:=Nat.mul_le_mul_right _ (by omega);have Vm:pJ pass slice j ((dL M L:Nat):Int) l ((F7 (dL M L) pass slice lane x l:Nat):Int)=some ((l:Int),((colS (dL M L) pass slice lane x l j:Nat):Int),0):=by
    unfold pJ colS UM;by_cases hc:pass=0∨slice=3
    ·rw[if_pos hc,if_neg (by simp only[Bool.and_eq_true,decide_eq_true_eq];omega)];exact rref3 K M P L T hm j l 0 _ ha.1 (by omega) (by omega)
    ·rw[if_neg hc,if_pos (by simp only[Bool.and_eq_true,decide_eq_true_eq];omega),bu (n:=(slice:Int)+1) (by omega),show((slice:Int)+1)*((dL M L:Nat):Int)=(((slice+1)*dL M L:Nat):Int) from by simp,bu (by omega)];exact rref3 K M P L T hm j l _ _ ha.1 (by omega) (by omega)
  have key1:∀ wh:Nat,wh=(if pass=0 then slice*dL M L else 3*dL M L)->tu pass slice lane x j ((dL M L:Nat):Int) l wh=some ((l:Int),((colS (dL M L) pass slice lane x l j:Nat):Int),0):=by
    intro wh hwh;have hw:wh<=4096:=by rw[hwh];split <;> omega
    have hA:F7 (dL M L) pass slice lane x l=if l=lane then wh+x - 1 else if x=0 then wh - 1 else wh:=by unfold F7;rw[hwh]
    unfold tu;by_cases he:l=lane
    ·rw[if_pos he] at hA;rw[if_pos (by omega),bu (n:=(wh:Int)+x) (by omega),bu (by omega),show(wh:Int)+(x:Int) - 1=((wh+x - 1:Nat):Int) from by omega,<-hA];exact Vm
    ·rw[if_neg he] at hA;rw[if_neg (by omega)];by_cases hz:x=0
     ·rw[if_pos hz] at hA;rw[if_pos (by omega),bu (by omega),show(wh:Int) - 1=((wh - 1:Nat):Int) from by omega,<-hA];exact Vm
     ·rw[if_neg hz] at hA;rw[if_neg (by omega),<-hA];exact Vm
  unfold tC;by_cases hp0:pass=0
  ·rw[if_pos (by omega),show(slice:Int)*((dL M L:Nat):Int)=((slice*dL M L:Nat):Int) from by simp,bu (by omega)];exact key1 _ (by rw[if_pos hp0])
  ·rw[if_neg (by omega),show(3:Int)*((dL M L:Nat):Int)=((3*dL M L:Nat):Int) from by simp,bu (by omega)];exact key1 _ (by rw[if_neg hp0])
include hm in
theorem laneU:ay (((iG j ((32:UInt64).toNat)) % (UInt64.ofInt (L:Int))).toNat:Int)=((j.toNat / 4294967296 % L:Nat):Int):=by
  obtain⟨_,h1,h2,_⟩:=nM K M P L T hm;rw[UInt64.toNat_mod,shrN,oi64 L (by omega)];have:j.toNat / 4294967296 % L < L:=Nat.mod_lt _ (by omega);show ay ((j.toNat / 4294967296 % L:Nat):Int)=_;rw[bu (by omega)]
include hm in
theorem laneN:(UInt64.ofInt (L:Int))≠0:=by
  obtain⟨_,h1,h2,_⟩:=nM K M P L T hm;intro h;have:=congrArg UInt64.toNat h;rw[oi64 L (by omega)] at this;have h0:(0:UInt64).toNat=0:=rfl;omega
include hm h3 hx h02 in
theorem wrefer:vz K M P L T pass slice lane x j=some (((Ba L pass slice lane j:Nat):Int),((colS (dL M L) pass slice lane x (Ba L pass slice lane j) j:Nat):Int)):=by
  unfold vz;rw[jo (laneN K M P L T hm)];simp only[Option.bind_some];by_cases hc:pass=0/\slice=0
  ·rw[if_pos (by simp only[Bool.and_eq_true,decide_eq_true_eq];omega)];unfold Ba;rw[if_pos hc];exact wref0 K M P L T hm pass slice lane x j h3 hx lane fun h=>⟨rfl,h02 h⟩
  ·rw[if_neg (by simp only[Bool.and_eq_true,decide_eq_true_eq];omega),laneU K M P L T hm];unfold Ba;rw[if_neg hc];exact wref0 K M P L T hm pass slice lane x j h3 hx _ fun h=>absurd h hc
include hm hp h3 hl hx h02 in
theorem rrefer:Dj K M P L T pass slice lane x j=some (((Ba L pass slice lane j:Nat):Int),((colS (dL M L) pass slice lane x (Ba L pass slice lane j) j:Nat):Int),0):=by
  unfold Dj;rw[QY,if_pos hm];simp only[Option.bind_some,ne_eq,not_true_eq_false,if_false];rw[rseg K M P L T hm];simp only[Option.bind_some];rw[if_neg (by simp only[Bool.or_eq_true,Bool.and_eq_true,decide_eq_true_eq];omega),jo (laneN K M P L T hm)];simp only[Option.bind_some];by_cases hc:pass=0/\slice=0
  ·rw[if_pos (by simp only[Bool.and_eq_true,decide_eq_true_eq];omega)];unfold Ba;rw[if_pos hc];exact rref0 K M P L T hm pass slice lane x j h3 hx lane fun h=>⟨rfl,h02 h⟩
  ·rw[if_neg (by simp only[Bool.and_eq_true,decide_eq_true_eq];omega),laneU K M P L T hm];unfold Ba;rw[if_neg hc];exact rref0 K M P L T hm pass slice lane x j h3 hx _ fun h=>absurd h hc
end
end Go.Sx
namespace Go.Sx
open Go.RowKit
set_option linter.unusedVariables false
set_option linter.unusedSimpArgs false
def zb (n:Nat):List UInt8:=List.replicate n 0
theorem xk (n:Nat):(zb n).length=n:=by simp[zb]
def w7 (l:List Nat)(i:Nat):UInt64:=UInt64.ofInt ((l.getD i 0:Nat):Int)
def hd7 (l:List Nat)(n:Nat):List UInt8:=Fo (fun i=>Lm 8 (w7 l i)) n
theorem Np (l:List Nat)(n:Nat):(hd7 l n).length=n*8:=QW (fun i=>yO 8 _) n
def adr (l:List Nat):List UInt8:=UJ (zb 1024) (UJ (zb 1024) (hd7 l 7++zb 968))
theorem Xb (l:List Nat):(hd7 l 7++zb 968).length=1024:=by rw[List.length_append,Np,xk]
theorem Pq (l:List Nat):(adr l).length=1024:=uY (xk _) (uY (xk _) (Xb l))
theorem g7 (a b c d e f g:Nat)(i:Nat)(h:i < 7):aU ([(a:Int),(b:Int),(c:Int),(d:Int),(e:Int),(f:Int),(g:Int)]:List Int) (i:Int)=some ((([a,b,c,d,e,f,g]:List Nat).getD i 0:Nat):Int):=by
  match i,h with
  | 0,_=>rfl
  | 1,_=>rfl
  | 2,_=>rfl
  | 3,_=>rfl
  | 4,_=>rfl
  | 5,_=>rfl
  | 6,_=>rfl
theorem UO:List.replicate (Int.toNat (1024:Int)) (0:UInt8)=zb 1024:=rfl
section
variable (K M P L T:Nat)(hm:tY K M P L T)(pass slice lane:Nat)
def l7 (n:Nat):List Nat:=[pass,lane,slice,L*(4*dL M L),P,K,n]
def aw (x:Nat):UInt64:=tX (adr (l7 K M P L pass slice lane (x / 128+1))) (x % 128)
include hm in
theorem LC_ok:ay ((L:Int)*((4*dL M L:Nat):Int))=((L*(4*dL M L):Nat):Int):=by
  have hb:=n_ K M P L T hm;rw[show(L:Int)*((4*dL M L:Nat):Int)=((L*(4*dL M L):Nat):Int) from by simp,bu (by omega)]
include hm in
theorem wadr2 (q:Nat)(hq:128*q < dL M L):aY (nR K M P L T ((q+1:Nat):Int) (adr (l7 K M P L pass slice lane (q+1)),0)) ((List.range (128*q)).map (aw K M P L pass slice lane),0)=some (.inl ((List.range (min (128*(q+1)) (dL M L))).map (aw K M P L pass slice lane),((q+1+1:Nat):Int))):=by
  have hb:=n_ K M P L T hm;have hn:128*q+min 128 (dL M L - 128*q)=min (128*(q+1)) (dL M L):=by omega
  refine gp (fun i=>((List.range (128*q+i)).map (aw K M P L pass slice lane),(i:Int))) (min 128 (dL M L - 128*q)) (fun i hi=>?_) ?_
  ·unfold nR;simp only[];rw[if_pos (by omega),Yu K M P L T hm];simp only[Option.bind_some,List.length_map,List.length_range];rw[if_pos (by omega),Zl i (by omega),N7 _ i (by rw[Pq];omega) (by rw[Pq];omega)];simp only[Option.bind_some];rw[gK (by simp;omega)];simp only[Option.bind_some];rw[bJ i (by omega),<-Nat.add_assoc,List.range_succ,List.map_append];have:aw K M P L pass slice lane (128*q+i)=tX (adr (l7 K M P L pass slice lane (q+1))) i:=by
     unfold aw;rw[show(128*q+i) / 128=q from by omega,show(128*q+i) % 128=i from by omega]
   rw[List.map_cons,List.map_nil,this]
  ·unfold nR;simp only[];rw[hn];by_cases h:min 128 (dL M L - 128*q)=128
   ·rw[if_neg (by omega),bJ (q+1) (by omega)];rfl
   ·rw[if_pos (by omega),Yu K M P L T hm];simp only[Option.bind_some,List.length_map,List.length_range];rw[if_neg (by omega),bJ (q+1) (by omega)];rfl
include hm in
theorem wadr1 (q:Nat)(hq:128*q < dL M L):aY (nS K M P L T pass slice lane ((List.range (128*q)).map (aw K M P L pass slice lane)) ((q+1:Nat):Int) ((4*dL M L:Nat):Int)) ([],0)=some (.inl ((List.range (min (128*(q+1)) (dL M L))).map (aw K M P L pass slice lane),((q+1+1:Nat):Int))):=by
  have hb:=n_ K M P L T hm;refine gp (fun i=>(hd7 (l7 K M P L pass slice lane (q+1)) i,(i:Int))) 7 (fun i hi=>?_) ?_
  ·unfold nS;simp only[];rw[if_pos (by omega),LC_ok K M P L T hm,g7 _ _ _ _ _ _ _ i hi];simp only[Option.bind_some];rw[Y3];simp only[Option.bind_some];rw[gK (by rw[Np];simp;omega)];simp only[Option.bind_some];rw[bJ i (by omega)];unfold hd7;rw[EH];rfl
  ·unfold nS;simp only[];rw[if_neg (by omega),UO,show Int.toNat (1024:Int)=1024 from rfl];have hl:=Np (l7 K M P L pass slice lane (q+1)) 7;rw[zG (by rw[hl,xk];omega)];simp only[Option.bind_some];have hz:((zb 1024).take (((1024:Nat):Int)).toNat).drop (((hd7 (l7 K M P L pass slice lane (q+1)) 7).length:Int)).toNat=zb 968:=by
     rw[hl,Int.toNat_natCast,Int.toNat_natCast,List.take_of_length_le (by rw[xk];omega)];unfold zb;rw[List.drop_replicate]
   rw[hz,gK (by rw[hl,xk];omega)];simp only[Option.bind_some];rw[wMix _ _ (xk _) (Xb _)];simp only[Option.bind_some];rw[wMix _ _ (xk _) (uY (xk _) (Xb _))];simp only[Option.bind_some];have:=wadr2 K M P L T hm pass slice lane q hq;unfold adr at this;rw[this];rfl
include hm in
theorem waddr:ru K M P L T pass slice lane=some ((List.range (dL M L)).map (aw K M P L pass slice lane)):=by
  have hb:=n_ K M P L T hm;unfold ru;refine gp (fun q=>((List.range (min (128*q) (dL M L))).map (aw K M P L pass slice lane),((q+1:Nat):Int))) ((dL M L+127) / 128) (fun q hq=>?_) ?_
  ·unfold rq;simp only[];have h1:min (128*q) (dL M L)=128*q:=by omega
   rw[h1,Yu K M P L T hm];simp only[Option.bind_some,List.length_map,List.length_range];rw[if_pos (by omega),wcol K M P L T hm];simp only[Option.bind_some];exact wadr1 K M P L T hm pass slice lane q (by omega)
  ·unfold rq;simp only[];have h1:min (128*((dL M L+127) / 128)) (dL M L)=dL M L:=by omega
   rw[h1,Yu K M P L T hm];simp only[Option.bind_some,List.length_map,List.length_range];rw[if_neg (by omega)];rfl
include hm in
theorem radr1 (n:Nat):yx K M P L T pass slice lane ((4*dL M L:Nat):Int) n=some (adr (l7 K M P L pass slice lane n)):=by
  have hb:=n_ K M P L T hm;have hl:=Np (l7 K M P L pass slice lane n) 7;unfold yx;refine gp (fun i=>(hd7 (l7 K M P L pass slice lane n) i,(i:Int))) 7 (fun i hi=>?_) ?_
  ·unfold xM;simp only[];rw[if_pos (by omega),LC_ok K M P L T hm,g7 _ _ _ _ _ _ _ i hi];simp only[Option.bind_some];have:=Uu (w7 (l7 K M P L pass slice lane n) i) 8 (by omega);rw[show((8:Nat):Int)=8 from rfl] at this;unfold w7 l7 at this;rw[this];simp only[Option.bind_some];rw[gK (by rw[Np];simp;omega)];simp only[Option.bind_some];rw[bJ i (by omega)];unfold hd7;rw[EH];rfl
  ·unfold xM;simp only[];rw[if_neg (by omega)];have key:=gp (f:=sZ) (r:=adr (l7 K M P L pass slice lane n)) (fun i=>hd7 (l7 K M P L pass slice lane n) 7++zb i) 968 (fun i hi=>?_) ?_
   ·have e:hd7 (l7 K M P L pass slice lane n) 7++zb 0=hd7 (l7 K M P L pass slice lane n) 7:=List.append_nil _;simp only[e] at key;exact congrArg (Option.map Sum.inr) key
   ·unfold sZ;show(if(((hd7 (l7 K M P L pass slice lane n) 7++zb i).length:Nat):Int) < 1024 then _ else _)=_;rw[List.length_append,hl,xk,if_pos (by omega),gK (by rw[List.length_append,hl,xk];simp;omega)];simp only[Option.bind_some];rw[List.append_assoc];have e:zb i++[(0:UInt8)]=zb (i+1):=by unfold zb;rw[List.replicate_succ']
    rw[e]
   ·unfold sZ;show(if(((hd7 (l7 K M P L pass slice lane n) 7++zb 968).length:Nat):Int) < 1024 then _ else _)=_;rw[List.length_append,hl,xk,if_neg (by omega),UO,rMix _ _ (xk _) (Xb _)];simp only[Option.bind_some];rw[rMix _ _ (xk _) (uY (xk _) (Xb _))];simp only[Option.bind_some,Option.map_some,adr]
include hm in
theorem raddr (hp:pass < P)(h3:slice<=3)(hl:lane < L):uS K M P L T pass slice lane=some ((List.range (dL M L)).map (aw K M P L pass slice lane),0):=by
  have hb:=n_ K M P L T hm;unfold uS;rw[QY,if_pos hm];simp only[Option.bind_some,ne_eq,not_true_eq_false,if_false];rw[if_neg (by simp only[Bool.or_eq_true,decide_eq_true_eq];omega),rcol K M P L T hm];simp only[Option.bind_some];refine gp (fun x=>((List.range x).map (aw K M P L pass slice lane),(if x=0 then[] else adr (l7 K M P L pass slice lane ((x - 1) / 128+1))),(x:Int))) (dL M L) (fun x hx=>?_) ?_
  ·unfold uu;simp only[];rw[rseg K M P L T hm];simp only[Option.bind_some];have hj:ny ((List.range x).map (aw K M P L pass slice lane)) (x:Int) (adr (l7 K M P L pass slice lane (x / 128+1)))=some (.inl ((List.range (x+1)).map (aw K M P L pass slice lane),(if x+1=0 then[] else adr (l7 K M P L pass slice lane ((x+1 - 1) / 128+1))),((x+1:Nat):Int))):=by
     unfold ny uq;rw[show Int.tmod (x:Int) 128=((x % 128:Nat):Int) from rfl,Zl _ (by omega),QN _ _ (by rw[Pq];omega) (by rw[Pq];omega)];simp only[Option.bind_some];rw[gK (by simp;omega)];simp only[Option.bind_some];rw[bJ x (by omega),List.range_succ,List.map_append,if_neg (by omega)];rfl
   rw[if_pos (by omega),show Int.tmod (x:Int) 128=((x % 128:Nat):Int) from rfl];by_cases h:x % 128=0
   ·rw[if_pos (by omega),show Int.tdiv (x:Int) 128=((x / 128:Nat):Int) from rfl,bu (n:=((x / 128:Nat):Int)) (by omega),bJ _ (by omega),radr1 K M P L T hm];simp only[Option.bind_some];exact hj
   ·rw[if_neg (by omega),if_neg (by omega),show(x - 1) / 128=x / 128 from by omega];exact hj
  ·unfold uu;simp only[];rw[rseg K M P L T hm];simp only[Option.bind_some];rw[if_neg (by omega)];rfl
end
end Go.Sx
namespace Go.Sx
open Go.RowKit
set_option linter.unusedVariables false
set_option linter.unusedSimpArgs false
theorem FD {α:Type}{N:Nat}{l:List α}(h:l.length=N):∃ v,zH N l=some v/\v.l=l:=by
  unfold zH;rw[dif_pos (by omega)];exact⟨_,rfl,List.take_of_length_le (by omega)⟩
abbrev Mem:=Nat->Nat->List UInt8
def upd (m:Mem)(l c:Nat)(b:List UInt8):Mem:=fun a d=>if a=l/\d=c then b else m a d
def Iw (L C:Nat)(m:List (List (Vec UInt8 1024)))(mem:Mem):Prop:=m.length=L/\∀ l,l < L->∃ row,m[l]?=some row/\row.length=C/\∀ c,c < C->∃ v,row[c]?=some v/\v.l=mem l c
theorem Iw.get {L C:Nat}{m:List (List (Vec UInt8 1024))}{mem:Mem}(h:Iw L C m mem){l:Nat}(hl:l < L):∃ row,aU m (l:Int)=some row/\row.length=C/\∀ c,c < C->∃ v,aU row (c:Int)=some v/\v.l=mem l c:=by
  obtain⟨row,h1,h2,h3⟩:=h.2 l hl;refine⟨row,LQ h1,h2,fun c hc=>?_⟩;obtain⟨v,h4,h5⟩:=h3 c hc;exact⟨v,LQ h4,h5⟩
theorem Iw.len {L C:Nat}{m:List (List (Vec UInt8 1024))}{mem:Mem}(h:Iw L C m mem){l c:Nat}(hl:l < L)(hc:c < C):(mem l c).length=1024:=by
  obtain⟨row,h1,h2,h3⟩:=h.2 l hl;obtain⟨v,h4,h5⟩:=h3 c hc;rw[<- h5,v.h]
theorem Iw.set {L C:Nat}{m:List (List (Vec UInt8 1024))}{mem:Mem}(h:Iw L C m mem){l c:Nat}(hl:l < L)(hc:c < C){row:List (Vec UInt8 1024)}(hr:aU m (l:Int)=some row){v:Vec UInt8 1024}{b:List UInt8}(hv:v.l=b) :
    Iw L C (m.set l (row.set c v)) (upd mem l c b):=by
  refine⟨by rw[List.length_set];exact h.1,fun a ha=>?_⟩;obtain⟨r2,h1,h2,h3⟩:=h.2 a ha;by_cases e:a=l
  ·subst e;have:r2=row:=by
     have:=LQ h1;rw[hr] at this;exact(Option.some.inj this).symm
   subst this;refine⟨r2.set c v,?_,by rw[List.length_set];exact h2,fun d hd=>?_⟩
   ·rw[List.getElem?_set_self (by have:=h.1;omega)]
   ·by_cases e2:d=c
    ·subst e2;exact⟨v,by rw[List.getElem?_set_self (by omega)],by unfold upd;rw[if_pos ⟨rfl,rfl⟩,hv]⟩
    ·obtain⟨u,h4,h5⟩:=h3 d hd;exact⟨u,by rw[List.getElem?_set_ne (by omega)];exact h4,by unfold upd;rw[if_neg (by omega),h5]⟩
  ·refine⟨r2,by rw[List.getElem?_set_ne (by omega)];exact h1,h2,fun d hd=>?_⟩;obtain⟨u,h4,h5⟩:=h3 d hd;exact⟨u,h4,by unfold upd;rw[if_neg (by omega),h5]⟩
def GZ (L C:Nat)(f:List (List UInt8))(mem:Mem)(Fd:Nat->Nat->Prop):Prop:=f.length=L*C/\(∀ l,l < L->∀ c,c < C->(mem l c).length=1024)/\∀ l,l < L->∀ c,c < C->Fd l c->f[l*C+c]?=some (mem l c)
theorem Q4 {L C l c:Nat}(hl:l < L)(hc:c < C):l*C+c < L*C:=by
  have:(l+1)*C<=L*C:=Nat.mul_le_mul_right _ hl;rw[Nat.succ_mul] at this;omega
theorem idx_inj {C l c a d:Nat}(hc:c < C)(hd:d < C)(h:l*C+c=a*C+d):l=a/\c=d:=by
  have h1:(l*C+c) / C=l:=by rw[Nat.mul_comm,Nat.mul_add_div (by omega),Nat.div_eq_of_lt hc,Nat.add_zero]
  have h2:(a*C+d) / C=a:=by rw[Nat.mul_comm,Nat.mul_add_div (by omega),Nat.div_eq_of_lt hd,Nat.add_zero]
  rw[h,h2] at h1;subst h1;exact⟨rfl,by omega⟩
theorem GZ.mono {L C:Nat}{f:List (List UInt8)}{mem:Mem}{Fd Fe:Nat->Nat->Prop}(h:GZ L C f mem Fd)(hi:∀ l,l < L->∀ c,c < C->Fe l c->Fd l c):GZ L C f mem Fe:=⟨h.1,h.2.1,fun l hl c hc he=>h.2.2 l hl c hc (hi l hl c hc he)⟩
theorem GZ.set {L C:Nat}{f:List (List UInt8)}{mem:Mem}{Fd Fe:Nat->Nat->Prop}(h:GZ L C f mem Fd){l c:Nat}(hl:l < L)(hc:c < C){b:List UInt8}(hb:b.length=1024)(hi:∀ a d,Fe a d->Fd a d∨(a=l/\d=c)):GZ L C (f.set (l*C+c) b) (upd mem l c b) Fe:=by
  refine⟨by rw[List.length_set];exact h.1,fun a ha d hd=>?_,fun a ha d hd he=>?_⟩
  ·unfold upd;split
   ·exact hb
   ·exact h.2.1 a ha d hd
  ·by_cases e:a=l/\d=c
   ·obtain⟨rfl,rfl⟩:=e;unfold upd;rw[List.getElem?_set_self (by rw[h.1];exact Q4 hl hc),if_pos ⟨rfl,rfl⟩]
   ·unfold upd;rw[List.getElem?_set_ne (fun q=>e (by have:=idx_inj hc hd q;omega)),if_neg e];rcases hi a d he with h1 | h1
    ·exact h.2.2 a ha d hd h1
    ·exact absurd h1 e
section
variable (K M P L T:Nat)(hm:tY K M P L T)(pass slice lane:Nat)
def ahC (M L slice x:Nat):Nat:=(slice*dL M L+x+4*dL M L - 1) % (4*dL M L)
def jS (mem:Mem)(x:Nat):UInt64:=if K=1∨(K=2/\pass=0/\slice < 2) then aw K M P L pass slice lane x else tX (mem lane (ahC M L slice x)) 0
def Xc (mem:Mem)(x:Nat)(j:UInt64):List UInt8:=UJ (mem lane (ahC M L slice x)) (mem (Ba L pass slice lane j) (colS (dL M L) pass slice lane x (Ba L pass slice lane j) j))
def Q5 (mem:Mem)(x:Nat)(j:UInt64):List UInt8:=if pass=0 then Xc M L pass slice lane mem x j else xU (Xc M L pass slice lane mem x j) (mem lane (slice*dL M L+x))
def stepM (mem:Mem)(x:Nat):Mem:=if pass=0/\slice*dL M L+x < 2 then mem else upd mem lane (slice*dL M L+x) (Q5 M L pass slice lane mem x (jS K M P L pass slice lane mem x))
def F8 (mem:Mem):Mem:=(List.range (dL M L)).foldl (stepM K M P L pass slice lane) mem
theorem fold_succ {σ:Type}(F:σ->Nat->σ)(s:σ)(n:Nat):(List.range (n+1)).foldl F s=F ((List.range n).foldl F s) n:=by rw[List.range_succ,List.foldl_append];rfl
theorem UQ (M L slice x:Nat)(h:2<=dL M L):ahC M L slice x < 4*dL M L:=Nat.mod_lt _ (by omega)
include hm in
theorem wfill0 (h3:slice<=3)(hl:lane < L)(hdr:K=1∨(K=2/\pass=0/\slice < 2))(m:List (List (Vec UInt8 1024)))(mem:Mem)(hM:Iw L (4*dL M L) m mem)(b:List (Vec UInt8 1024))(hbl:b.length=4*dL M L) :
    ∃ r,aY (l_ K M P L T pass slice lane ((dL M L:Nat):Int) ((List.range (dL M L)).map (aw K M P L pass slice lane)) b) (m,0)=some r/\∃ m',r=((K:Int),(M:Int),(P:Int),(L:Int),(T:Int),m')/\Iw L (4*dL M L) m' (F8 K M P L pass slice lane mem):=by
  have hb:=n_ K M P L T hm;have hc0:slice*dL M L<=3*dL M L:=Nat.mul_le_mul_right _ h3;obtain⟨_,hL1,hL2,_⟩:=nM K M P L T hm;refine mX (fun i s=>∃ m',s=(m',(i:Int))/\i<=dL M L/\Iw L (4*dL M L) m' ((List.range i).foldl (stepM K M P L pass slice lane) mem)) (fun r=>∃ m',r=((K:Int),(M:Int),(P:Int),(L:Int),(T:Int),m')/\Iw L (4*dL M L) m' (F8 K M P L pass slice lane mem)) (dL M L) ?_ _ ⟨m,rfl,Nat.zero_le _,hM⟩;rintro x s ⟨m1,rfl,hx,hM1⟩;generalize hmem:(List.range x).foldl (stepM K M P L pass slice lane) mem=mem1 at hM1;by_cases hlt:x < dL M L
  ·refine .inl ⟨hlt,?_⟩;unfold l_;simp only[];rw[if_pos (by omega),show(slice:Int)*((dL M L:Nat):Int)=((slice*dL M L:Nat):Int) from by simp,bu (n:=((slice*dL M L:Nat):Int)) (by omega),bu (n:=((slice*dL M L:Nat):Int)+x) (by omega),show((slice*dL M L:Nat):Int)+x=((slice*dL M L+x:Nat):Int) from by omega];by_cases hsk:pass=0/\slice*dL M L+x < 2
   ·rw[if_pos (by simp only[Bool.and_eq_true,decide_eq_true_eq];omega)];unfold jb;rw[bJ x (by omega)];refine⟨_,rfl,m1,rfl,by omega,?_⟩;rw[fold_succ,hmem];unfold stepM;rw[if_pos hsk];exact hM1
   ·rw[if_neg (by simp only[Bool.and_eq_true,decide_eq_true_eq];omega)];obtain⟨row,g1,g2,g3⟩:=hM1.get hl;have hah:=UQ M L slice x hb.1;rw[g1];simp only[Option.bind_some];rw[hbl,jo (by omega)];simp only[Option.bind_some];have hi:Int.tmod (ay ((ay (((slice*dL M L+x:Nat):Int)+((4*dL M L:Nat):Int))) - 1)) ((4*dL M L:Nat):Int)=((ahC M L slice x:Nat):Int):=by
      rw[bu (n:=((slice*dL M L+x:Nat):Int)+((4*dL M L:Nat):Int)) (by omega),bu (by omega),show((slice*dL M L+x:Nat):Int)+((4*dL M L:Nat):Int) - 1=((slice*dL M L+x+4*dL M L - 1:Nat):Int) from by omega];rfl
    rw[hi];obtain⟨va,a1,a2⟩:=g3 _ hah;rw[a1];simp only[Option.bind_some];rw[show G6 va.l 0 (8:Int)=some (va.l.take 8) from by rw[zG (by rw[va.h];omega)];rfl];simp only[Option.bind_some];have hld:=N7 (va.l.take 8) 0 (by rw[List.length_take,va.h];omega) (by rw[List.length_take,va.h];omega);rw[show((8*0:Nat):Int)=0 from rfl] at hld;have hwd:tX (va.l.take 8) 0=tX va.l 0:=by unfold tX;simp[List.take_take]
    rw[hwd] at hld;rw[hld];simp only[Option.bind_some];rw[show aU ((List.range (dL M L)).map (aw K M P L pass slice lane)) (x:Int)=some (aw K M P L pass slice lane x) from by rw[gZ (by simpa using hlt)];simp];simp only[Option.bind_some];have hj:jS K M P L pass slice lane mem1 x=aw K M P L pass slice lane x:=by unfold jS;rw[if_pos hdr]
    have h02:pass=0/\slice=0->2<=x:=by rintro⟨q1,q2⟩;subst q2;omega
    rw[<- hj,wrefer K M P L T hm pass slice lane x _ h3 hlt h02];simp only[Option.bind_some];generalize hjj:jS K M P L pass slice lane mem1 x=j at hj ⊢;have hrl:=QZ L pass slice lane j hL1 hl;have hrc:=UN (dL M L) pass slice lane x (Ba L pass slice lane j) j hb.1;obtain⟨row2,r1,r2,r3⟩:=hM1.get hrl;obtain⟨vb,b1,b2⟩:=r3 _ hrc;obtain⟨vo,o1,o2⟩:=g3 (slice*dL M L+x) (by omega);have hmx:UJ va.l vb.l=Xc M L pass slice lane mem1 x j:=by unfold Xc;rw[a2,b2]
    have hst:stepM K M P L pass slice lane mem1 x=upd mem1 lane (slice*dL M L+x) (Q5 M L pass slice lane mem1 x j):=by unfold stepM;rw[if_neg hsk,hjj]
    by_cases hp:pass=0
    ·rw[if_pos (by omega),r1];simp only[Option.bind_some];rw[b1];simp only[Option.bind_some];rw[wMix _ _ va.h vb.h];simp only[Option.bind_some];obtain⟨v,t1,t2⟩:=FD (uY va.h vb.h);rw[t1];simp only[Option.bind_some];rw[o1];simp only[Option.bind_some];unfold jb;rw[bJ x (by omega),Int.toNat_natCast,Int.toNat_natCast];refine⟨_,rfl,_,rfl,by omega,?_⟩;rw[fold_succ,hmem,hst];exact hM1.set hl (by omega) g1 (by unfold Q5;rw[if_pos hp,t2,hmx])
    ·rw[if_neg (by omega),r1];simp only[Option.bind_some];rw[b1];simp only[Option.bind_some];rw[o1];simp only[Option.bind_some];rw[wOver _ _ _ va.h vb.h vo.h];simp only[Option.bind_some];obtain⟨v,t1,t2⟩:=FD (xg (uY va.h vb.h) vo.h);rw[t1];simp only[Option.bind_some];unfold jb;rw[bJ x (by omega),Int.toNat_natCast,Int.toNat_natCast];refine⟨_,rfl,_,rfl,by omega,?_⟩;rw[fold_succ,hmem,hst];exact hM1.set hl (by omega) g1 (by unfold Q5;rw[if_neg hp,t2,hmx,o2])
  ·right;obtain rfl:x=dL M L:=by omega
   unfold l_;simp only[];rw[if_neg (by omega)];refine⟨_,rfl,m1,rfl,?_⟩;unfold F8;rw[hmem];exact hM1
include hm in
theorem wfill1 (h3:slice<=3)(hl:lane < L)(hdr:¬ (K=1∨(K=2/\pass=0/\slice < 2)))(m:List (List (Vec UInt8 1024)))(mem:Mem)(hM:Iw L (4*dL M L) m mem)(b:List (Vec UInt8 1024))(hbl:b.length=4*dL M L) :
    ∃ r,aY (mf K M P L T pass slice lane ((dL M L:Nat):Int) b) (m,0)=some r/\∃ m',r=((K:Int),(M:Int),(P:Int),(L:Int),(T:Int),m')/\Iw L (4*dL M L) m' (F8 K M P L pass slice lane mem):=by
  have hb:=n_ K M P L T hm;have hc0:slice*dL M L<=3*dL M L:=Nat.mul_le_mul_right _ h3;obtain⟨_,hL1,hL2,_⟩:=nM K M P L T hm;refine mX (fun i s=>∃ m',s=(m',(i:Int))/\i<=dL M L/\Iw L (4*dL M L) m' ((List.range i).foldl (stepM K M P L pass slice lane) mem)) (fun r=>∃ m',r=((K:Int),(M:Int),(P:Int),(L:Int),(T:Int),m')/\Iw L (4*dL M L) m' (F8 K M P L pass slice lane mem)) (dL M L) ?_ _ ⟨m,rfl,Nat.zero_le _,hM⟩;rintro x s ⟨m1,rfl,hx,hM1⟩;generalize hmem:(List.range x).foldl (stepM K M P L pass slice lane) mem=mem1 at hM1;by_cases hlt:x < dL M L
  ·refine .inl ⟨hlt,?_⟩;unfold mf;simp only[];rw[if_pos (by omega),show(slice:Int)*((dL M L:Nat):Int)=((slice*dL M L:Nat):Int) from by simp,bu (n:=((slice*dL M L:Nat):Int)) (by omega),bu (n:=((slice*dL M L:Nat):Int)+x) (by omega),show((slice*dL M L:Nat):Int)+x=((slice*dL M L+x:Nat):Int) from by omega];by_cases hsk:pass=0/\slice*dL M L+x < 2
   ·rw[if_pos (by simp only[Bool.and_eq_true,decide_eq_true_eq];omega)];unfold jc;rw[bJ x (by omega)];refine⟨_,rfl,m1,rfl,by omega,?_⟩;rw[fold_succ,hmem];unfold stepM;rw[if_pos hsk];exact hM1
   ·rw[if_neg (by simp only[Bool.and_eq_true,decide_eq_true_eq];omega)];obtain⟨row,g1,g2,g3⟩:=hM1.get hl;have hah:=UQ M L slice x hb.1;rw[g1];simp only[Option.bind_some];rw[hbl,jo (by omega)];simp only[Option.bind_some];have hi:Int.tmod (ay ((ay (((slice*dL M L+x:Nat):Int)+((4*dL M L:Nat):Int))) - 1)) ((4*dL M L:Nat):Int)=((ahC M L slice x:Nat):Int):=by
      rw[bu (n:=((slice*dL M L+x:Nat):Int)+((4*dL M L:Nat):Int)) (by omega),bu (by omega),show((slice*dL M L+x:Nat):Int)+((4*dL M L:Nat):Int) - 1=((slice*dL M L+x+4*dL M L - 1:Nat):Int) from by omega];rfl
    rw[hi];obtain⟨va,a1,a2⟩:=g3 _ hah;rw[a1];simp only[Option.bind_some];rw[show G6 va.l 0 (8:Int)=some (va.l.take 8) from by rw[zG (by rw[va.h];omega)];rfl];simp only[Option.bind_some];have hld:=N7 (va.l.take 8) 0 (by rw[List.length_take,va.h];omega) (by rw[List.length_take,va.h];omega);rw[show((8*0:Nat):Int)=0 from rfl] at hld;have hwd:tX (va.l.take 8) 0=tX va.l 0:=by unfold tX;simp[List.take_take]
    rw[hwd] at hld;rw[hld];simp only[Option.bind_some];have hj:jS K M P L pass slice lane mem1 x=tX va.l 0:=by unfold jS;rw[if_neg hdr,a2]
    have h02:pass=0/\slice=0->2<=x:=by rintro⟨q1,q2⟩;subst q2;omega
    rw[<- hj,wrefer K M P L T hm pass slice lane x _ h3 hlt h02];simp only[Option.bind_some];generalize hjj:jS K M P L pass slice lane mem1 x=j at hj ⊢;have hrl:=QZ L pass slice lane j hL1 hl;have hrc:=UN (dL M L) pass slice lane x (Ba L pass slice lane j) j hb.1;obtain⟨row2,r1,r2,r3⟩:=hM1.get hrl;obtain⟨vb,b1,b2⟩:=r3 _ hrc;obtain⟨vo,o1,o2⟩:=g3 (slice*dL M L+x) (by omega);have hmx:UJ va.l vb.l=Xc M L pass slice lane mem1 x j:=by unfold Xc;rw[a2,b2]
    have hst:stepM K M P L pass slice lane mem1 x=upd mem1 lane (slice*dL M L+x) (Q5 M L pass slice lane mem1 x j):=by unfold stepM;rw[if_neg hsk,hjj]
    by_cases hp:pass=0
    ·rw[if_pos (by omega),r1];simp only[Option.bind_some];rw[b1];simp only[Option.bind_some];rw[wMix _ _ va.h vb.h];simp only[Option.bind_some];obtain⟨v,t1,t2⟩:=FD (uY va.h vb.h);rw[t1];simp only[Option.bind_some];rw[o1];simp only[Option.bind_some];unfold jc;rw[bJ x (by omega),Int.toNat_natCast,Int.toNat_natCast];refine⟨_,rfl,_,rfl,by omega,?_⟩;rw[fold_succ,hmem,hst];exact hM1.set hl (by omega) g1 (by unfold Q5;rw[if_pos hp,t2,hmx])
    ·rw[if_neg (by omega),r1];simp only[Option.bind_some];rw[b1];simp only[Option.bind_some];rw[o1];simp only[Option.bind_some];rw[wOver _ _ _ va.h vb.h vo.h];simp only[Option.bind_some];obtain⟨v,t1,t2⟩:=FD (xg (uY va.h vb.h) vo.h);rw[t1];simp only[Option.bind_some];unfold jc;rw[bJ x (by omega),Int.toNat_natCast,Int.toNat_natCast];refine⟨_,rfl,_,rfl,by omega,?_⟩;rw[fold_succ,hmem,hst];exact hM1.set hl (by omega) g1 (by unfold Q5;rw[if_neg hp,t2,hmx,o2])
  ·right;obtain rfl:x=dL M L:=by omega
   unfold mf;simp only[];rw[if_neg (by omega)];refine⟨_,rfl,m1,rfl,?_⟩;unfold F8;rw[hmem];exact hM1
include hm in
theorem wfill (h3:slice<=3)(hl:lane < L)(m:List (List (Vec UInt8 1024)))(mem:Mem)(hM:Iw L (4*dL M L) m mem) :
    ∃ m',oq K M P L T m pass slice lane=some ((K:Int),(M:Int),(P:Int),(L:Int),(T:Int),m')/\Iw L (4*dL M L) m' (F8 K M P L pass slice lane mem):=by
  obtain⟨row,g1,g2,g3⟩:=hM.get hl;unfold oq;rw[Yu K M P L T hm];simp only[Option.bind_some];unfold oG;by_cases hdr:K=1∨(K=2/\pass=0/\slice < 2)
  ·rw[if_pos (by simp only[Bool.or_eq_true,Bool.and_eq_true,decide_eq_true_eq];omega),waddr K M P L T hm];simp only[Option.bind_some];rw[g1];simp only[Option.bind_some];obtain⟨r,h1,m',rfl,h2⟩:=wfill0 K M P L T hm pass slice lane h3 hl hdr m mem hM row g2;exact⟨m',h1,h2⟩
  ·rw[if_neg (by simp only[Bool.or_eq_true,Bool.and_eq_true,decide_eq_true_eq];omega),g1];simp only[Option.bind_some];obtain⟨r,h1,m',rfl,h2⟩:=wfill1 K M P L T hm pass slice lane h3 hl hdr m mem hM row g2;exact⟨m',h1,h2⟩
end
end Go.Sx
namespace Go.Sx
open Go.RowKit
set_option linter.unusedVariables false
set_option linter.unusedSimpArgs false
def Lr (s pass slice lane x l c:Nat):Prop:=0 < pass∨c < 2∨c < slice*s∨(l < lane/\c < slice*s+s)∨(l=lane/\c < slice*s+x)
theorem GZ.get {L C:Nat}{f:List (List UInt8)}{mem:Mem}{Fd:Nat->Nat->Prop}(h:GZ L C f mem Fd){l c:Nat}(hl:l < L)(hc:c < C)(hf:Fd l c)(hLC:L*C<=4096)(d:Int)(hd:d=(c:Int)):aU f (ay ((ay ((l:Int)*(C:Int)))+d))=some (mem l c):=by
  subst hd;have h1:=Q4 hl hc;have h2:l*C<=L*C:=Nat.mul_le_mul_right _ (by omega);rw[show(l:Int)*(C:Int)=((l*C:Nat):Int) from by simp,bu (n:=((l*C:Nat):Int)) (by omega),bu (by omega),show((l*C:Nat):Int)+(c:Int)=((l*C+c:Nat):Int) from by omega];exact LQ (h.2.2 l hl c hc hf)
theorem GZ.idx {L C:Nat}{l c:Nat}(hl:l < L)(hc:c < C)(hLC:L*C<=4096)(d:Int)(hd:d=(c:Int)):ay ((ay ((l:Int)*(C:Int)))+d)=((l*C+c:Nat):Int):=by
  subst hd;have h1:=Q4 hl hc;have h2:l*C<=L*C:=Nat.mul_le_mul_right _ (by omega);rw[show(l:Int)*(C:Int)=((l*C:Nat):Int) from by simp,bu (n:=((l*C:Nat):Int)) (by omega),bu (by omega),show((l*C:Nat):Int)+(c:Int)=((l*C+c:Nat):Int) from by omega]
section
variable (K M P L T:Nat)(hm:tY K M P L T)(pass slice lane:Nat)
include hm in
theorem rfill3 (hp:pass < P)(h3:slice<=3)(hl:lane < L)(f:List (List UInt8))(mem:Mem)(x:Nat)(hx:x < dL M L)(hM:GZ L (4*dL M L) f mem (Lr (dL M L) pass slice lane x))(hsk:¬ (pass=0/\slice*dL M L+x < 2))(j:UInt64)(hj:jS K M P L pass slice lane mem x=j) :
    ∃ f',rV K M P L T pass slice lane ((4*dL M L:Nat):Int) f (x:Int) (mem lane (ahC M L slice x)) j=some (.inl (f',((x+1:Nat):Int)))/\GZ L (4*dL M L) f' (stepM K M P L pass slice lane mem x) (Lr (dL M L) pass slice lane (x+1)):=by
  have hb:=n_ K M P L T hm;have hc0:slice*dL M L<=3*dL M L:=Nat.mul_le_mul_right _ h3;have hz1:slice≠0->dL M L<=slice*dL M L:=fun h=>Nat.le_mul_of_pos_left _ (by omega);obtain⟨_,hL1,hL2,_⟩:=nM K M P L T hm;have h02:pass=0/\slice=0->2<=x:=by rintro⟨q1,q2⟩;subst q2;omega
  have hrl:=QZ L pass slice lane j hL1 hl;have hrc:=UN (dL M L) pass slice lane x (Ba L pass slice lane j) j hb.1;have hah:=UQ M L slice x hb.1;have hst:stepM K M P L pass slice lane mem x=upd mem lane (slice*dL M L+x) (Q5 M L pass slice lane mem x j):=by unfold stepM;rw[if_neg hsk,hj]
  have hfd:Lr (dL M L) pass slice lane x (Ba L pass slice lane j) (colS (dL M L) pass slice lane x (Ba L pass slice lane j) j):=by
    by_cases hp0:pass=0
    ·subst hp0;have:=colS_0 (dL M L) slice lane x (Ba L 0 slice lane j) j hb.1 h3 hx fun h=>⟨by unfold Ba;rw[if_pos ⟨rfl,h⟩],h02 ⟨rfl,h⟩⟩
     unfold Lr;omega
    ·exact .inl (by omega)
  have hla:=hM.2.1 lane hl _ hah;have hlb:=hM.2.1 _ hrl _ hrc;have hlo:=hM.2.1 lane hl (slice*dL M L+x) (by omega);have hs4:ay (Int.tdiv ((4*dL M L:Nat):Int) 4)=((dL M L:Nat):Int):=by
    rw[show Int.tdiv ((4*dL M L:Nat):Int) 4=((4*dL M L / 4:Nat):Int) from rfl,show 4*dL M L / 4=dL M L from by omega,bu (by omega)]
  have hcx:ay ((ay ((slice:Int)*(ay (Int.tdiv ((4*dL M L:Nat):Int) 4))))+(x:Int))=((slice*dL M L+x:Nat):Int):=by
    rw[hs4,show(slice:Int)*((dL M L:Nat):Int)=((slice*dL M L:Nat):Int) from by simp,bu (n:=((slice*dL M L:Nat):Int)) (by omega),bu (by omega)];omega
  unfold rV;rw[rrefer K M P L T hm pass slice lane x j hp h3 hl hx h02];simp only[Option.bind_some];rw[hM.get hrl hrc hfd hb.2.2 _ rfl];simp only[Option.bind_some];rw[rMix _ _ hla hlb];simp only[Option.bind_some];have key:∀ b2:List UInt8,b2=Q5 M L pass slice lane mem x j->b2.length=1024->∃ f',vH slice lane ((4*dL M L:Nat):Int) f (x:Int) b2=some (.inl (f',((x+1:Nat):Int)))/\GZ L (4*dL M L) f' (stepM K M P L pass slice lane mem x) (Lr (dL M L) pass slice lane (x+1)):=by
    intro b2 e2 hl2;unfold vH vG yz;rw[hcx,GZ.idx hl (show slice*dL M L+x < 4*dL M L from by omega) hb.2.2 _ rfl];rw[gZ (by rw[hM.1];exact Q4 hl (by omega))];simp only[Option.bind_some];rw[bJ x (by omega),Int.toNat_natCast];refine⟨_,rfl,?_⟩;rw[hst,<-e2];exact hM.set hl (by omega) hl2 fun a d h=>by unfold Lr at h ⊢;omega
  by_cases hp0:pass=0
  ·rw[if_neg (by omega)];exact key _ (by unfold Q5 Xc;rw[if_pos hp0]) (uY hla hlb)
  ·rw[if_pos (by omega),hcx,hM.get hl (show slice*dL M L+x < 4*dL M L from by omega) (.inl (by omega)) hb.2.2 _ rfl];simp only[Option.bind_some];rw[rXor _ _ (uY hla hlb) hlo];simp only[Option.bind_some];exact key _ (by unfold Q5 Xc;rw[if_neg hp0]) (xg (uY hla hlb) hlo)
include hm in
theorem rfill0 (hp:pass < P)(h3:slice<=3)(hl:lane < L)(f:List (List UInt8))(mem:Mem)(hM:GZ L (4*dL M L) f mem (Lr (dL M L) pass slice lane 0))(dr:List UInt64)(hdr:K=1∨(K=2/\pass=0/\slice < 2)->dr=(List.range (dL M L)).map (aw K M P L pass slice lane)) :
    ∃ f',vI K M P L T f pass slice lane ((4*dL M L:Nat):Int) dr=some f'/\GZ L (4*dL M L) f' (F8 K M P L pass slice lane mem) (Lr (dL M L) pass slice lane (dL M L)):=by
  have hb:=n_ K M P L T hm;have hc0:slice*dL M L<=3*dL M L:=Nat.mul_le_mul_right _ h3;have hz1:slice≠0->dL M L<=slice*dL M L:=fun h=>Nat.le_mul_of_pos_left _ (by omega);obtain⟨hK,hL1,hL2,_⟩:=nM K M P L T hm;unfold vI;have hs4:ay (Int.tdiv ((4*dL M L:Nat):Int) 4)=((dL M L:Nat):Int):=by
    rw[show Int.tdiv ((4*dL M L:Nat):Int) 4=((4*dL M L / 4:Nat):Int) from rfl,show 4*dL M L / 4=dL M L from by omega,bu (by omega)]
  obtain⟨r,h1,f',rfl,h2⟩:=mX (f:=yA K M P L T pass slice lane ((4*dL M L:Nat):Int) dr) (fun i s=>∃ f',s=(f',(i:Int))/\i<=dL M L/\GZ L (4*dL M L) f' ((List.range i).foldl (stepM K M P L pass slice lane) mem) (Lr (dL M L) pass slice lane i)) (fun r=>∃ f',r=f'/\GZ L (4*dL M L) f' (F8 K M P L pass slice lane mem) (Lr (dL M L) pass slice lane (dL M L))) (dL M L) (by
    rintro x s ⟨f1,rfl,hx,hM1⟩;generalize hmem:(List.range x).foldl (stepM K M P L pass slice lane) mem=mem1 at hM1;by_cases hlt:x < dL M L
    ·refine .inl ⟨hlt,?_⟩;unfold yA;simp only[];rw[hs4,if_pos (by omega)];by_cases hsk:pass=0/\slice*dL M L+x < 2
     ·have hz:slice=0:=by
        apply Classical.byContradiction;intro h;have:=hz1 h;omega
      rw[if_pos (by subst hz;simp only[Bool.and_eq_true,decide_eq_true_eq];omega)];unfold vG yz;rw[bJ x (by omega)];refine⟨_,rfl,f1,rfl,by omega,?_⟩;rw[fold_succ,hmem];unfold stepM;rw[if_pos hsk];exact hM1.mono fun l _ c _ h=>by unfold Lr at h ⊢;omega
     ·rw[if_neg (by
        simp only[Bool.and_eq_true,decide_eq_true_eq];rintro⟨⟨q1,q2⟩,q3⟩;obtain rfl:slice=0:=by omega
        omega),jo (by omega)]
      simp only[Option.bind_some];have hah:=UQ M L slice x hb.1;have hi:Int.tmod (ay ((ay ((ay ((ay ((slice:Int)*((dL M L:Nat):Int)))+(x:Int)))+((4*dL M L:Nat):Int))) - 1)) ((4*dL M L:Nat):Int)=((ahC M L slice x:Nat):Int):=by
        rw[show(slice:Int)*((dL M L:Nat):Int)=((slice*dL M L:Nat):Int) from by simp,bu (n:=((slice*dL M L:Nat):Int)) (by omega),bu (n:=((slice*dL M L:Nat):Int)+(x:Int)) (by omega),bu (n:=((slice*dL M L:Nat):Int)+(x:Int)+((4*dL M L:Nat):Int)) (by omega),bu (by omega),show((slice*dL M L:Nat):Int)+(x:Int)+((4*dL M L:Nat):Int) - 1=((slice*dL M L+x+4*dL M L - 1:Nat):Int) from by omega];rfl
      have hfa:Lr (dL M L) pass slice lane x lane (ahC M L slice x):=by
        by_cases hp0:pass=0
        ·have:ahC M L slice x=slice*dL M L+x - 1:=by
           unfold ahC;rw[show slice*dL M L+x+4*dL M L - 1=(slice*dL M L+x - 1)+4*dL M L from by omega,Nat.add_mod_right,Nat.mod_eq_of_lt (by omega)]
         unfold Lr;omega
        ·exact .inl (by omega)
      rw[hM1.get hl hah hfa hb.2.2 _ hi];simp only[Option.bind_some];have fin:∀ j:UInt64,jS K M P L pass slice lane mem1 x=j->∃ s',rV K M P L T pass slice lane ((4*dL M L:Nat):Int) f1 (x:Int) (mem1 lane (ahC M L slice x)) j=some (.inl s')/\∃ f',s'=(f',((x+1:Nat):Int))/\x+1<=dL M L/\GZ L (4*dL M L) f' ((List.range (x+1)).foldl (stepM K M P L pass slice lane) mem) (Lr (dL M L) pass slice lane (x+1)):=by
        intro j hj;obtain⟨f2,e1,e2⟩:=rfill3 K M P L T hm pass slice lane hp h3 hl f1 mem1 x hlt hM1 hsk j hj;exact⟨_,e1,f2,rfl,by omega,by rw[fold_succ,hmem];exact e2⟩
      by_cases hd:K=1∨(K=2/\pass=0/\slice < 2)
      ·rw[if_neg (by simp only[Bool.or_eq_true,Bool.and_eq_true,decide_eq_true_eq];omega),hdr hd];rw[show aU ((List.range (dL M L)).map (aw K M P L pass slice lane)) (x:Int)=some (aw K M P L pass slice lane x) from by rw[gZ (by simpa using hlt)];simp];simp only[Option.bind_some];exact fin _ (by unfold jS;rw[if_pos hd])
      ·rw[if_pos (by simp only[Bool.or_eq_true,Bool.and_eq_true,decide_eq_true_eq];omega)];have hla:=hM1.2.1 lane hl _ hah;have hld:=QN (mem1 lane (ahC M L slice x)) 0 (by omega) (by omega);rw[show((8*0:Nat):Int)=0 from rfl] at hld;rw[hld];simp only[Option.bind_some];exact fin _ (by unfold jS;rw[if_neg hd])
    ·right;obtain rfl:x=dL M L:=by omega
     unfold yA;simp only[];rw[hs4,if_neg (by omega)];refine⟨_,rfl,f1,rfl,?_⟩;unfold F8;rw[hmem];exact hM1) _ ⟨f,rfl,Nat.zero_le _,hM⟩
  exact⟨_,h1,h2⟩
include hm in
theorem rfill (hp:pass < P)(h3:slice<=3)(hl:lane < L)(f:List (List UInt8))(mem:Mem)(hM:GZ L (4*dL M L) f mem (Lr (dL M L) pass slice lane 0)) :
    ∃ f',E5 K M P L T f pass slice lane ((4*dL M L:Nat):Int)=some f'/\GZ L (4*dL M L) f' (F8 K M P L pass slice lane mem) (Lr (dL M L) pass slice lane (dL M L)):=by
  obtain⟨hK,hL1,hL2,_⟩:=nM K M P L T hm;unfold E5;by_cases hd:K=1∨(K=2/\pass=0/\slice < 2)
  ·rw[if_pos (by simp only[Bool.not_eq_true',Bool.or_eq_false_iff,Bool.and_eq_false_iff,Bool.or_eq_false_iff,decide_eq_false_iff_not];omega),raddr K M P L T hm pass slice lane hp h3 hl];simp only[Option.bind_some];exact rfill0 K M P L T hm pass slice lane hp h3 hl f mem hM _ fun _=>rfl
  ·rw[if_neg (by simp only[Bool.not_eq_true',Bool.or_eq_false_iff,Bool.and_eq_false_iff,Bool.or_eq_false_iff,decide_eq_false_iff_not];omega)];exact rfill0 K M P L T hm pass slice lane hp h3 hl f mem hM _ fun h=>absurd h hd
end
end Go.Sx
namespace Go.Sx
open Go.RowKit
set_option linter.unusedVariables false
set_option linter.unusedSimpArgs false
noncomputable def H0 (start:List UInt8)(l c:Nat):List UInt8:=Ea 1024 ((([]++start)++S4 c)++S4 l)
noncomputable def DI (start:List UInt8):Mem:=fun l c=>if c < 2 then H0 start l c else zb 1024
theorem Yw (start:List UInt8)(hs:start.length=64)(l c:Nat):(H0 start l c).length=1024:=SK 1024 (by omega) (by omega) _ (by simp[BP,hs])
theorem Xd (start:List UInt8)(hs:start.length=64)(l c:Nat):(DI start l c).length=1024:=by
  unfold DI;split
  ·exact Yw start hs l c
  ·exact xk _
theorem upd_same (m:Mem)(l c:Nat):upd m l c (m l c)=m:=by
  funext a d;unfold upd;split
  ·rename_i h;rw[h.1,h.2]
  ·rfl
theorem Iw.push {L C:Nat}{m:List (List (Vec UInt8 1024))}{mem:Mem}(h:Iw L C m mem){row:List (Vec UInt8 1024)}(hr:row.length=C/\∀ c,c < C->∃ v,row[c]?=some v/\v.l=mem L c):Iw (L+1) C (m++[row]) mem:=by
  refine⟨by rw[List.length_append,h.1];rfl,fun l hl=>?_⟩;by_cases e:l=L
  ·subst e;exact⟨row,by rw[List.getElem?_append_right (Nat.le_of_eq h.1),h.1];simp,hr.1,hr.2⟩
  ·obtain⟨r,h1,h2⟩:=h.2 l (by omega);exact⟨r,by rw[List.getElem?_append_left (by have:=h.1;omega)];exact h1,h2⟩
section
variable (K M P L T:Nat)(hm:tY K M P L T)(start:List UInt8)(hs:start.length=64)
include hm hs in
theorem wbeg1 (m:List (List (Vec UInt8 1024)))(l:Nat)(hl:l < L)(hM:Iw l (4*dL M L) m (DI start)) :
    ∃ m',aY (o5 start m (l:Int)) (List.replicate (4*dL M L) (Vec.rep 1024 (0:UInt8)),0)=some (.inl (m',((l+1:Nat):Int)))/\Iw (l+1) (4*dL M L) m' (DI start):=by
  have hb:=n_ K M P L T hm;obtain⟨_,hL1,hL2,_⟩:=nM K M P L T hm;have hin:∀ c:Nat,c < 2->((([]++start)++S4 c)++S4 l).length<=11000000:=fun c _=>by simp[BP,hs]
  obtain⟨v0,t0,u0⟩:=FD (Yw start hs l 0);obtain⟨v1,t1,u1⟩:=FD (Yw start hs l 1);have st:∀ (row:List (Vec UInt8 1024)) (c:Nat) (v:Vec UInt8 1024),c < 2->c < row.length->zH 1024 (H0 start l c)=some v->o5 start m (l:Int) (row,(c:Int))=some (.inl (row.set c v,((c+1:Nat):Int))):=by
    intro row c v hc hcl ht;unfold o5;simp only[];rw[if_pos (by omega),gK (by simp;omega)];simp only[Option.bind_some];rw[O6 _ (by simp;omega) c (by omega)];simp only[Option.bind_some];rw[O6 _ (by simp[BP];omega) l (by omega)];simp only[Option.bind_some];rw[show(1024:Int)=((1024:Nat):Int) from rfl,wHash 1024 (by omega) (by omega) _ (hin c hc)];simp only[Option.bind_some];unfold H0 at ht;rw[ht];simp only[Option.bind_some];rw[gZ hcl];simp only[Option.bind_some];rw[bJ c (by omega),Int.toNat_natCast]
  have s0:=st (List.replicate (4*dL M L) (Vec.rep 1024 (0:UInt8))) 0 v0 (by omega) (by simp;omega) t0;have s1:=st ((List.replicate (4*dL M L) (Vec.rep 1024 (0:UInt8))).set 0 v0) 1 v1 (by omega) (by simp;omega) t1;refine⟨m++[((List.replicate (4*dL M L) (Vec.rep 1024 (0:UInt8))).set 0 v0).set 1 v1],?_,hM.push ⟨by simp,fun c hc=>?_⟩⟩
  ·rw[show(0:Int)=((0:Nat):Int) from rfl,mF s0,mF s1];refine jl ?_;unfold o5;simp only[];rw[if_neg (by omega),gK (by rw[hM.1];simp;omega)];simp only[Option.bind_some];rw[bJ l (by omega)];rfl
  ·unfold DI
   match c,hc with
   | 0,_=>exact⟨v0,by rw[List.getElem?_set_ne (by omega),List.getElem?_set_self (by simp;omega)],by rw[if_pos (by omega)];exact u0⟩
   | 1,_=>exact⟨v1,by rw[List.getElem?_set_self (by simp;omega)],by rw[if_pos (by omega)];exact u1⟩
   | c+2,hc=>exact⟨Vec.rep 1024 (0:UInt8),by rw[List.getElem?_set_ne (by omega),List.getElem?_set_ne (by omega),List.getElem?_replicate,if_pos (by omega)],by rw[if_neg (by omega)];rfl⟩
include hm hs in
theorem wbegin:∃ m,yj K M P L T start=some ((K:Int),(M:Int),(P:Int),(L:Int),(T:Int),m)/\Iw L (4*dL M L) m (DI start):=by
  have hb:=n_ K M P L T hm;obtain⟨_,hL1,hL2,_⟩:=nM K M P L T hm;unfold yj;obtain⟨r,h1,m,rfl,h2⟩:=mX (f:=sV K M P L T start) (fun i s=>∃ m,s=(m,(i:Int))/\i<=L/\Iw i (4*dL M L) m (DI start)) (fun r=>∃ m,r=((K:Int),(M:Int),(P:Int),(L:Int),(T:Int),m)/\Iw L (4*dL M L) m (DI start)) L (by
    rintro l s ⟨m,rfl,hx,hM⟩;by_cases hlt:l < L
    ·refine .inl ⟨hlt,?_⟩;unfold sV;simp only[];rw[if_pos (by omega),wcol K M P L T hm];simp only[Option.bind_some];rw[jo (by rw[Int.toNat_natCast];omega)];simp only[Option.bind_some];rw[Int.toNat_natCast];obtain⟨m',e1,e2⟩:=wbeg1 K M P L T hm start hs m l hlt hM;exact⟨_,e1,m',rfl,by omega,e2⟩
    ·right;obtain rfl:l=L:=by omega
     unfold sV;simp only[];rw[if_neg (by omega)];exact⟨_,rfl,m,rfl,hM⟩) _ ⟨[],rfl,Nat.zero_le _,rfl,fun l hl=>by omega⟩
  exact⟨m,h1,h2⟩
def Lj (pass slice:Nat)(mem:Mem):Mem:=(List.range L).foldl (fun mem lane=>F8 K M P L pass slice lane mem) mem
def Q7 (pass:Nat)(mem:Mem):Mem:=(List.range 4).foldl (fun mem slice=>Lj K M P L pass slice mem) mem
def allM (mem:Mem):Mem:=(List.range P).foldl (fun mem pass=>Q7 K M P L pass mem) mem
include hm in
theorem wturn (pass slice:Nat)(h3:slice<=3)(m:List (List (Vec UInt8 1024)))(mem:Mem)(hM:Iw L (4*dL M L) m mem) :
    ∃ m',wQ L K M P L T m pass slice=some ((K:Int),(M:Int),(P:Int),(L:Int),(T:Int),m',(pass:Int),(slice:Int))/\Iw L (4*dL M L) m' (Lj K M P L pass slice mem):=by
  obtain⟨_,hL1,hL2,_⟩:=nM K M P L T hm;unfold wQ;obtain⟨r,h1,m',rfl,h2⟩:=mX (f:=rC L) (fun i s=>∃ m',s=((K:Int),(M:Int),(P:Int),(L:Int),(T:Int),m',(pass:Int),(slice:Int),(i:Int))/\i<=L/\Iw L (4*dL M L) m' ((List.range i).foldl (fun mem lane=>F8 K M P L pass slice lane mem) mem)) (fun r=>∃ m',r=((K:Int),(M:Int),(P:Int),(L:Int),(T:Int),m',(pass:Int),(slice:Int))/\Iw L (4*dL M L) m' (Lj K M P L pass slice mem)) L (by
    rintro l s ⟨m1,rfl,hx,hM1⟩;by_cases hlt:l < L
    ·refine .inl ⟨hlt,?_⟩;obtain⟨m2,e1,e2⟩:=wfill K M P L T hm pass slice l h3 hlt m1 _ hM1;unfold rC;simp only[];rw[if_pos (by omega)];unfold ry;rw[e1];simp only[Option.bind_some];rw[bJ l (by omega)];exact⟨_,rfl,m2,rfl,by omega,by rw[fold_succ];exact e2⟩
    ·right;obtain rfl:l=L:=by omega
     unfold rC;simp only[];rw[if_neg (by omega)];exact⟨_,rfl,m1,rfl,hM1⟩) _ ⟨m,rfl,Nat.zero_le _,hM⟩
  exact⟨m',h1,h2⟩
include hm in
theorem wpass (pass:Nat)(hp:pass < 100)(m:List (List (Vec UInt8 1024)))(mem:Mem)(hM:Iw L (4*dL M L) m mem) :
    ∃ m',aY (kW (pass:Int)) ((K:Int),(M:Int),(P:Int),(L:Int),(T:Int),m,(pass:Int),0)=some (.inl ((K:Int),(M:Int),(P:Int),(L:Int),(T:Int),m',((pass+1:Nat):Int)))/\Iw L (4*dL M L) m' (Q7 K M P L pass mem):=by
  obtain⟨r,h1,m',rfl,h2⟩:=mX (f:=kW (pass:Int)) (fun i s=>∃ m',s=((K:Int),(M:Int),(P:Int),(L:Int),(T:Int),m',(pass:Int),(i:Int))/\i<=4/\Iw L (4*dL M L) m' ((List.range i).foldl (fun mem slice=>Lj K M P L pass slice mem) mem)) (fun r=>∃ m',r=.inl ((K:Int),(M:Int),(P:Int),(L:Int),(T:Int),m',((pass+1:Nat):Int))/\Iw L (4*dL M L) m' (Q7 K M P L pass mem)) 4 (by
    rintro l s ⟨m1,rfl,hx,hM1⟩;by_cases hlt:l < 4
    ·refine .inl ⟨hlt,?_⟩;obtain⟨m2,e1,e2⟩:=wturn K M P L T hm pass l (by omega) m1 _ hM1;unfold kW;simp only[];rw[if_pos (by omega),e1];simp only[Option.bind_some];rw[bJ l (by omega)];exact⟨_,rfl,m2,rfl,by omega,by rw[fold_succ];exact e2⟩
    ·right;obtain rfl:l=4:=by omega
     unfold kW;simp only[];rw[if_neg (by omega),bJ pass (by omega)];exact⟨_,rfl,m1,rfl,hM1⟩) _ ⟨m,rfl,Nat.zero_le _,hM⟩
  exact⟨m',h1,h2⟩
include hm in
theorem wall (m:List (List (Vec UInt8 1024)))(mem:Mem)(hM:Iw L (4*dL M L) m mem) :
    ∃ m',pG K M P L T m=some ((K:Int),(M:Int),(P:Int),(L:Int),(T:Int),m')/\Iw L (4*dL M L) m' (allM K M P L mem):=by
  obtain⟨_,_,_,_,hP,_⟩:=nM K M P L T hm;unfold pG;obtain⟨r,h1,m',rfl,h2⟩:=mX (f:=mW (P:Int)) (fun i s=>∃ m',s=((K:Int),(M:Int),(P:Int),(L:Int),(T:Int),m',(i:Int))/\i<=P/\Iw L (4*dL M L) m' ((List.range i).foldl (fun mem pass=>Q7 K M P L pass mem) mem)) (fun r=>∃ m',r=((K:Int),(M:Int),(P:Int),(L:Int),(T:Int),m')/\Iw L (4*dL M L) m' (allM K M P L mem)) P (by
    rintro l s ⟨m1,rfl,hx,hM1⟩;by_cases hlt:l < P
    ·refine .inl ⟨hlt,?_⟩;obtain⟨m2,e1,e2⟩:=wpass K M P L T hm l (by omega) m1 _ hM1;unfold mW;simp only[];rw[if_pos (by omega)];exact⟨_,e1,m2,rfl,by omega,by rw[fold_succ];exact e2⟩
    ·right;obtain rfl:l=P:=by omega
     unfold mW;simp only[];rw[if_neg (by omega)];exact⟨_,rfl,m1,rfl,hM1⟩) _ ⟨m,rfl,Nat.zero_le _,hM⟩
  exact⟨m',h1,h2⟩
def RJ (mem:Mem)(n:Nat):List UInt8:=(List.range n).foldl (fun x l=>xU x (mem l (4*dL M L - 1))) (zb 1024)
theorem Q8 (mem:Mem)(hl:∀ l,l < L->(mem l (4*dL M L - 1)).length=1024):∀ n,n<=L->(RJ M L mem n).length=1024:=by
  intro n
  induction n with
  | zero=>intro _;exact xk _
  | succ n ih =>
    intro h;unfold RJ;rw[fold_succ];exact xg (ih (by omega)) (hl n (by omega))
include hm in
theorem wtag (m:List (List (Vec UInt8 1024)))(mem:Mem)(hM:Iw L (4*dL M L) m mem):pI K M P L T m=some (Ea T (RJ M L mem L),(K:Int),(M:Int),(P:Int),(L:Int),(T:Int),m):=by
  have hb:=n_ K M P L T hm;obtain⟨_,hL1,hL2,_,_,hT1,hT2,_⟩:=nM K M P L T hm;have hlen:=Q8 M L mem fun l hl=>hM.len hl (show 4*dL M L - 1 < 4*dL M L from by omega);unfold pI;refine mY (fun i s=>∃ v:Vec UInt8 1024,s=(v,(i:Int))/\i<=L/\v.l=RJ M L mem i) _ L _ ⟨Vec.rep 1024 0,rfl,Nat.zero_le _,rfl⟩ ?_;rintro l s ⟨x,rfl,hx,hxl⟩;by_cases hlt:l < L
  ·refine .inl ⟨hlt,?_⟩;obtain⟨row,g1,g2,g3⟩:=hM.get hlt;obtain⟨v,g4,g5⟩:=g3 (4*dL M L - 1) (by omega);unfold pR;simp only[];rw[if_pos (by rw[hM.1];omega),g1];simp only[Option.bind_some];rw[g2,bu (by omega),show((4*dL M L:Nat):Int) - 1=((4*dL M L - 1:Nat):Int) from by omega,g4];simp only[Option.bind_some];rw[wXor _ _ x.h v.h];simp only[Option.bind_some];obtain⟨u,t1,t2⟩:=FD (xg x.h v.h);rw[t1];simp only[Option.bind_some];rw[bJ l (by omega)];refine⟨_,rfl,u,rfl,by omega,?_⟩;rw[t2,hxl,g5];unfold RJ;rw[fold_succ]
  ·right;obtain rfl:l=L:=by omega
   unfold pR;simp only[];rw[if_neg (by rw[hM.1];omega),hxl,wHash T (by omega) (by omega) _ (by rw[hlen l (by omega)];omega)];rfl
end
end Go.Sx
namespace Go.Sx
open Go.RowKit
set_option linter.unusedVariables false
set_option linter.unusedSimpArgs false
def FdB (lane k l c:Nat):Prop:=(l < lane/\c < 2)∨(l=lane/\c < k)
section
variable (K M P L T:Nat)(hm:tY K M P L T)(start:List UInt8)(hs:start.length=64)
include hm hs in
theorem rbeg1 (f:List (List UInt8))(l:Nat)(hl:l < L)(hM:GZ L (4*dL M L) f (DI start) (FdB l 0)) :
    ∃ f',aY (vJ start (((4*dL M L:Nat):Int),0) (l:Int)) (f,0)=some (.inl (f',((l+1:Nat):Int)))/\GZ L (4*dL M L) f' (DI start) (FdB (l+1) 0):=by
  have hb:=n_ K M P L T hm;obtain⟨_,hL1,hL2,_⟩:=nM K M P L T hm;have hin:∀ c:Nat,c < 2->((([]++start)++S4 c)++S4 l).length<=11000000:=fun c _=>by simp[BP,hs]
  obtain⟨r,h1,f',rfl,h2⟩:=mX (f:=vJ start (((4*dL M L:Nat):Int),0) (l:Int)) (fun i s=>∃ f',s=(f',(i:Int))/\i<=2/\GZ L (4*dL M L) f' (DI start) (FdB l i)) (fun r=>∃ f',r=.inl (f',((l+1:Nat):Int))/\GZ L (4*dL M L) f' (DI start) (FdB (l+1) 0)) 2 (by
    rintro c s ⟨f1,rfl,hx,hM1⟩;by_cases hlt:c < 2
    ·refine .inl ⟨hlt,?_⟩;unfold vJ;simp only[];rw[if_pos (by omega),gK (by simp;omega)];simp only[Option.bind_some];rw[QX c (by omega)];simp only[Option.bind_some];rw[gK (by simp[BP];omega)];simp only[Option.bind_some];rw[QX l (by omega)];simp only[Option.bind_some];rw[gK (by simp[BP];omega)];simp only[Option.bind_some];rw[show(1024:Int)=((1024:Nat):Int) from rfl,rHash 1024 (by omega) (by omega) _ (hin c hlt)];simp only[Option.bind_some];rw[GZ.idx hl (show c < 4*dL M L from by omega) hb.2.2 _ rfl,gZ (by rw[hM1.1];exact Q4 hl (by omega))];simp only[Option.bind_some];rw[bJ c (by omega),Int.toNat_natCast];refine⟨_,rfl,_,rfl,by omega,?_⟩;have e:Ea 1024 ((([]++start)++S4 c)++S4 l)=DI start l c:=by unfold DI;rw[if_pos hlt];rfl
     have h:=hM1.set (Fe:=FdB l (c+1)) hl (show c < 4*dL M L from by omega) (Xd start hs l c) fun a d h=>by unfold FdB at h ⊢;omega
     rw[upd_same] at h;rw[e];exact h
    ·right;obtain rfl:c=2:=by omega
     unfold vJ;simp only[];rw[if_neg (by omega),bJ l (by omega)];exact⟨_,rfl,f1,rfl,hM1.mono fun a _ d _ h=>by unfold FdB at h ⊢;omega⟩) _ ⟨f,rfl,Nat.zero_le _,hM⟩
  exact⟨f',h1,h2⟩
include hm in
theorem rslice (pass slice:Nat)(hp:pass < P)(h3:slice<=3)(f:List (List UInt8))(mem:Mem)(hM:GZ L (4*dL M L) f mem (Lr (dL M L) pass slice 0 0)) :
    ∃ f',aY (vK K M P L T (((4*dL M L:Nat):Int),0) (pass:Int) (slice:Int)) (f,0)=some (.inl (f',((slice+1:Nat):Int)))/\GZ L (4*dL M L) f' (Lj K M P L pass slice mem) (Lr (dL M L) pass (slice+1) 0 0):=by
  obtain⟨_,hL1,hL2,_⟩:=nM K M P L T hm;obtain⟨r,h1,f',rfl,h2⟩:=mX (f:=vK K M P L T (((4*dL M L:Nat):Int),0) (pass:Int) (slice:Int)) (fun i s=>∃ f',s=(f',(i:Int))/\i<=L/\GZ L (4*dL M L) f' ((List.range i).foldl (fun mem lane=>F8 K M P L pass slice lane mem) mem) (Lr (dL M L) pass slice i 0)) (fun r=>∃ f',r=.inl (f',((slice+1:Nat):Int))/\GZ L (4*dL M L) f' (Lj K M P L pass slice mem) (Lr (dL M L) pass (slice+1) 0 0)) L (by
    rintro l s ⟨f1,rfl,hx,hM1⟩;by_cases hlt:l < L
    ·refine .inl ⟨hlt,?_⟩;obtain⟨f2,e1,e2⟩:=rfill K M P L T hm pass slice l hp h3 hlt f1 _ hM1;unfold vK;simp only[];rw[if_pos (by omega),e1];simp only[Option.bind_some];rw[bJ l (by omega)];refine⟨_,rfl,f2,rfl,by omega,?_⟩;rw[fold_succ];exact e2.mono fun a _ d _ h=>by unfold Lr at h ⊢;omega
    ·right;obtain rfl:l=L:=by omega
     unfold vK;simp only[];rw[if_neg (by omega),bJ slice (by omega)];refine⟨_,rfl,f1,rfl,hM1.mono fun a ha d _ h=>?_⟩;unfold Lr at h ⊢;rw[Nat.succ_mul] at h;omega) _ ⟨f,rfl,Nat.zero_le _,hM⟩
  exact⟨f',h1,h2⟩
include hm in
theorem rpass (pass:Nat)(hp:pass < P)(f:List (List UInt8))(mem:Mem)(hM:GZ L (4*dL M L) f mem (Lr (dL M L) pass 0 0 0)) :
    ∃ f',aY (vM K M P L T (((4*dL M L:Nat):Int),0) (pass:Int)) (f,0)=some (.inl (f',((pass+1:Nat):Int)))/\GZ L (4*dL M L) f' (Q7 K M P L pass mem) (Lr (dL M L) (pass+1) 0 0 0):=by
  obtain⟨_,_,_,_,hP,_⟩:=nM K M P L T hm;obtain⟨r,h1,f',rfl,h2⟩:=mX (f:=vM K M P L T (((4*dL M L:Nat):Int),0) (pass:Int)) (fun i s=>∃ f',s=(f',(i:Int))/\i<=4/\GZ L (4*dL M L) f' ((List.range i).foldl (fun mem slice=>Lj K M P L pass slice mem) mem) (Lr (dL M L) pass i 0 0)) (fun r=>∃ f',r=.inl (f',((pass+1:Nat):Int))/\GZ L (4*dL M L) f' (Q7 K M P L pass mem) (Lr (dL M L) (pass+1) 0 0 0)) 4 (by
    rintro l s ⟨f1,rfl,hx,hM1⟩;by_cases hlt:l < 4
    ·refine .inl ⟨hlt,?_⟩;obtain⟨f2,e1,e2⟩:=rslice K M P L T hm pass l hp (by omega) f1 _ hM1;unfold vM;simp only[];rw[if_pos (by omega)];exact⟨_,e1,f2,rfl,by omega,by rw[fold_succ];exact e2⟩
    ·right;obtain rfl:l=4:=by omega
     unfold vM;simp only[];rw[if_neg (by omega),bJ pass (by omega)];refine⟨_,rfl,f1,rfl,hM1.mono fun a ha d hd h=>?_⟩;unfold Lr;omega) _ ⟨f,rfl,Nat.zero_le _,hM⟩
  exact⟨f',h1,h2⟩
include hm hs in
theorem rFillA:∃ f,E8 K M P L T start=some (f,0)/\GZ L (4*dL M L) f (allM K M P L (DI start)) (fun _ _=>True):=by
  have hb:=n_ K M P L T hm;obtain⟨_,hL1,hL2,hP1,hP,_⟩:=nM K M P L T hm;unfold E8;rw[rcol K M P L T hm];simp only[Option.bind_some,ne_eq,not_true_eq_false,if_false];rw[if_neg (by omega),show(L:Int)*((4*dL M L:Nat):Int)=((L*(4*dL M L):Nat):Int) from by simp,bu (by omega),jo (by rw[Int.toNat_natCast];omega)];simp only[Option.bind_some];rw[Int.toNat_natCast];have hpass:∀ f:List (List UInt8),GZ L (4*dL M L) f (DI start) (FdB L 0)->∃ f',aY (vN K M P L T (((4*dL M L:Nat):Int),0)) (f,0)=some (f',0)/\GZ L (4*dL M L) f' (allM K M P L (DI start)) (fun _ _=>True):=by
    intro f hf;have hf0:GZ L (4*dL M L) f (DI start) (Lr (dL M L) 0 0 0 0):=hf.mono fun a ha d hd h=>by
      unfold Lr at h;rw[Nat.zero_mul] at h;unfold FdB;omega
    obtain⟨r,h1,f',rfl,h2⟩:=mX (f:=vN K M P L T (((4*dL M L:Nat):Int),0)) (fun i s=>∃ f',s=(f',(i:Int))/\i<=P/\GZ L (4*dL M L) f' ((List.range i).foldl (fun mem pass=>Q7 K M P L pass mem) (DI start)) (Lr (dL M L) i 0 0 0)) (fun r=>∃ f',r=(f',(0:Int))/\GZ L (4*dL M L) f' (allM K M P L (DI start)) (fun _ _=>True)) P (by
      rintro l s ⟨f1,rfl,hx,hM1⟩;by_cases hlt:l < P
      ·refine .inl ⟨hlt,?_⟩;obtain⟨f2,e1,e2⟩:=rpass K M P L T hm l hlt f1 _ hM1;unfold vN;simp only[];rw[if_pos (by omega)];exact⟨_,e1,f2,rfl,by omega,by rw[fold_succ];exact e2⟩
      ·right;obtain rfl:l=P:=by omega
       unfold vN;simp only[];rw[if_neg (by omega)];exact⟨_,rfl,f1,rfl,hM1.mono fun a ha d hd h=>.inl (by omega)⟩) _ ⟨f,rfl,Nat.zero_le _,hf0⟩
    exact⟨f',h1,h2⟩
  obtain⟨r,h1,f',rfl,h2⟩:=mX (f:=yB K M P L T start (((4*dL M L:Nat):Int),0)) (fun i s=>∃ f',s=(f',(i:Int))/\i<=L/\GZ L (4*dL M L) f' (DI start) (FdB i 0)) (fun r=>∃ f',r=(f',(0:Int))/\GZ L (4*dL M L) f' (allM K M P L (DI start)) (fun _ _=>True)) L (by
    rintro l s ⟨f1,rfl,hx,hM1⟩;by_cases hlt:l < L
    ·refine .inl ⟨hlt,?_⟩;obtain⟨f2,e1,e2⟩:=rbeg1 K M P L T hm start hs f1 l hlt hM1;unfold yB;simp only[];rw[if_pos (by omega)];exact⟨_,e1,f2,rfl,by omega,e2⟩
    ·right;obtain rfl:l=L:=by omega
     obtain⟨f2,e1,e2⟩:=hpass f1 hM1;unfold yB;simp only[];rw[if_neg (by omega)];exact⟨_,congrArg (Option.map Sum.inr) e1,f2,rfl,e2⟩) _ ⟨List.replicate (L*(4*dL M L)) [],rfl,Nat.zero_le _,⟨by simp,fun l _ c _=>Xd start hs l c,fun l _ c _ h=>by unfold FdB at h;omega⟩⟩
  exact⟨f',h1,h2⟩
include hm in
theorem rHashA (w aJ:List UInt8)(hw:w.length<=65536)(hsl:8<=aJ.length/\aJ.length<=64):nz K M P L T w aJ [] []=some (Ea T (RJ M L (allM K M P L (DI (Po 64 (UL K M P L T w aJ)))) L),0):=by
  have hb:=n_ K M P L T hm;obtain⟨_,hL1,hL2,_,_,hT1,hT2,_⟩:=nM K M P L T hm;have hst:=A_ 64 (by omega) (by omega) _ (hdr_le K M P L T w aJ hw hsl.2);unfold nz;rw[rStartA K M P L T hm w aJ hw hsl];simp only[Option.bind_some,ne_eq,not_true_eq_false,if_false];generalize Po 64 (UL K M P L T w aJ)=start at hst ⊢;obtain⟨f,e1,hM⟩:=rFillA K M P L T hm start hst;rw[e1,rcol K M P L T hm];simp only[Option.bind_some];generalize allM K M P L (DI start)=mem at hM ⊢;have hlen:=Q8 M L mem fun l hl=>hM.2.1 l hl _ (show 4*dL M L - 1 < 4*dL M L from by omega);rw[UO];refine gp (fun i=>(RJ M L mem i,(i:Int))) L (fun l hl=>?_) ?_
  ·unfold Ce;simp only[];have hi:ay ((ay ((ay ((l:Int)*((4*dL M L:Nat):Int)))+((4*dL M L:Nat):Int))) - 1)=((l*(4*dL M L)+(4*dL M L - 1):Nat):Int):=by
     have h2:l*(4*dL M L)<=L*(4*dL M L):=Nat.mul_le_mul_right _ (by omega);rw[show(l:Int)*((4*dL M L:Nat):Int)=((l*(4*dL M L):Nat):Int) from by simp,bu (n:=((l*(4*dL M L):Nat):Int)) (by omega),bu (n:=((l*(4*dL M L):Nat):Int)+_) (by omega),bu (by omega)];omega
   rw[if_pos (by omega),hi,LQ (hM.2.2 l hl _ (by omega) trivial)];simp only[Option.bind_some];rw[rXor _ _ (hlen l (by omega)) (hM.2.1 l hl _ (by omega))];simp only[Option.bind_some];rw[bJ l (by omega)];unfold RJ;rw[fold_succ]
  ·unfold Ce;simp only[];rw[if_neg (by omega),rHash T (by omega) (by omega) _ (by rw[hlen L (Nat.le_refl _)];omega)];rfl
include hm in
theorem wHashA (w aJ:List UInt8)(hw:w.length<=65536)(hsl:8<=aJ.length/\aJ.length<=64):rD K M P L T w aJ [] []=some (Ea T (RJ M L (allM K M P L (DI (Po 64 (UL K M P L T w aJ)))) L),0)/\(Ea T (RJ M L (allM K M P L (DI (Po 64 (UL K M P L T w aJ)))) L)).length=T:=by
  have hb:=n_ K M P L T hm;obtain⟨_,hL1,hL2,_,_,hT1,hT2,_⟩:=nM K M P L T hm;have hst:=A_ 64 (by omega) (by omega) _ (hdr_le K M P L T w aJ hw hsl.2);unfold rD Aj;rw[Zo K M P L T hm w aJ hw hsl];simp only[Option.bind_some,ne_eq,not_true_eq_false,if_false];generalize Po 64 (UL K M P L T w aJ)=start at hst ⊢;obtain⟨m,e1,hM⟩:=wbegin K M P L T hm start hst;rw[e1];simp only[Option.bind_some];obtain⟨m2,e2,hM2⟩:=wall K M P L T hm m _ hM;rw[e2];simp only[Option.bind_some];rw[wtag K M P L T hm m2 _ hM2];refine⟨rfl,SK T (by omega) (by omega) _ ?_⟩;rw[Q8 M L _ (fun l hl=>hM2.len hl (show 4*dL M L - 1 < 4*dL M L from by omega)) L (Nat.le_refl _)];omega
end
def zA (K M P L T:Int)(nw ns:Nat):Int:=if tY K M P L T then(if 65536 < nw then 2 else if ns < 8∨64 < ns then 201 else 0) else 200
theorem Zq (K M P L T:Int)(nw ns:Nat)(h:zA K M P L T nw ns≠0):(¬ tY K M P L T/\zA K M P L T nw ns=200)∨(tY K M P L T/\65536 < nw/\zA K M P L T nw ns=2)∨(tY K M P L T/\¬ 65536 < nw/\(ns < 8∨64 < ns)/\zA K M P L T nw ns=201):=by
  unfold zA at h ⊢;by_cases hm:tY K M P L T
  ·rw[if_pos hm] at h ⊢;by_cases hw:65536 < nw
   ·rw[if_pos hw];exact .inr (.inl ⟨hm,hw,rfl⟩)
   ·rw[if_neg hw] at h ⊢;by_cases hs:ns < 8∨64 < ns
    ·rw[if_pos hs];exact .inr (.inr ⟨hm,hw,hs,rfl⟩)
    ·rw[if_neg hs] at h;exact absurd rfl h
  ·rw[if_neg hm];exact .inl ⟨hm,rfl⟩
theorem Yx (K M P L T:Int)(w aJ:List UInt8)(h:zA K M P L T w.length aJ.length≠0):nJ K M P L T w aJ [] []=some ([],zA K M P L T w.length aJ.length):=by
  unfold nJ;rw[Yp,UD];simp only[Option.bind_some];rcases Zq K M P L T _ _ h with⟨hm,e⟩ | ⟨hm,hw,e⟩ | ⟨hm,hw,hs,e⟩
  ·rw[e,if_pos (by rw[decide_eq_false hm];rfl)]
  ·rw[e,if_neg (by rw[decide_eq_true hm];decide),if_pos (by omega)]
  ·have hc:Bh K M P L T aJ.length=201:=by unfold Bh;rw[if_pos hm,if_pos hs]
   rw[e,if_neg (by rw[decide_eq_true hm];decide),if_neg (by omega),if_pos (by rw[hc];decide)]
theorem Yy (K M P L T:Int)(w aJ:List UInt8)(h:zA K M P L T w.length aJ.length≠0):wR K M P L T w aJ [] []=some ([],zA K M P L T w.length aJ.length):=by
  have hi:xI K M P L T w aJ [] []=some (zA K M P L T w.length aJ.length):=by
    unfold xI;rw[QY,Yq];simp only[Option.bind_some];rcases Zq K M P L T _ _ h with⟨hm,e⟩ | ⟨hm,hw,e⟩ | ⟨hm,hw,hs,e⟩
    ·rw[e,if_neg hm,if_pos (by decide)]
    ·rw[e,if_pos hm,if_neg (by decide),if_pos (by omega)]
    ·have hc:Bh K M P L T aJ.length=201:=by unfold Bh;rw[if_pos hm,if_pos hs]
     rw[e,if_pos hm,if_neg (by decide),if_neg (by omega),if_pos (by rw[hc];decide)]
  unfold wR;rw[hi];simp only[Option.bind_some];rw[if_pos h]
theorem may_cast {K M P L T:Int}(hm:tY K M P L T):∃ k m p l t:Nat,K=k/\M=m/\P=p/\L=l/\T=t:=by
  unfold tY at hm;exact⟨K.toNat,M.toNat,P.toNat,L.toNat,T.toNat,by omega,by omega,by omega,by omega,by omega⟩
theorem hErr0 {K M P L T:Int}{nw ns:Nat}(h:zA K M P L T nw ns=0):tY K M P L T/\nw<=65536/\8<=ns/\ns<=64:=by
  unfold zA at h;split at h
  ·rename_i hm;split at h
   ·cases h
   ·split at h
    ·cases h
    ·exact⟨hm,by omega,by omega,by omega⟩
  ·cases h
theorem Xe (K M P L T:Int)(w aJ:List UInt8):∃ x,rD K M P L T w aJ [] []=some (x,zA K M P L T w.length aJ.length)/\nz K M P L T w aJ [] []=some (x,zA K M P L T w.length aJ.length)/\(zA K M P L T w.length aJ.length=0->(x.length:Int)=T)/\(zA K M P L T w.length aJ.length≠0->x=[])/\(zA K M P L T w.length aJ.length=0->∃ h,nJ K M P L T w aJ [] []=some (h,0)):=by
  by_cases h:zA K M P L T w.length aJ.length=0
  ·obtain⟨hm,hw,h8,h64⟩:=hErr0 h;obtain⟨k,m,p,l,t,rfl,rfl,rfl,rfl,rfl⟩:=may_cast hm;obtain⟨e1,e2⟩:=wHashA k m p l t hm w aJ hw ⟨h8,h64⟩;rw[h];exact⟨_,e1,rHashA k m p l t hm w aJ hw ⟨h8,h64⟩,fun _=>by rw[e2],fun q=>absurd rfl q,fun _=>⟨_,Zo k m p l t hm w aJ hw ⟨h8,h64⟩⟩⟩
  ·have e1:=Yx K M P L T w aJ h;have e2:=Yy K M P L T w aJ h;refine⟨[],?_,?_,fun q=>absurd q h,fun _=>rfl,fun q=>absurd q h⟩
   ·unfold rD Aj;rw[e1];simp only[Option.bind_some];rw[if_pos h];rfl
   ·unfold nz;rw[e2];simp only[Option.bind_some];rw[if_pos h]
end Go.Sx
namespace Go.Sx
open Go.RowKit
set_option linter.unusedVariables false
set_option linter.unusedSimpArgs false
theorem Q9 {K M P L T:Int}{nw ns:Nat}(h:Bh K M P L T ns=0)(hw:nw<=65536):zA K M P L T nw ns=0:=by
  obtain⟨hm,h8,h64⟩:=chk0 h;unfold zA;rw[if_pos hm,if_neg (by omega),if_neg (by omega)]
theorem Xf (K M P L T:Int)(w aJ:List UInt8):∃ x,nz K M P L T w aJ [] []=some (x,zA K M P L T w.length aJ.length)/\(zA K M P L T w.length aJ.length=0->(x.length:Int)=T) /\
    Dh K M P L T w aJ=some (if zA K M P L T w.length aJ.length≠0 then([],zA K M P L T w.length aJ.length) else JB K M P L T aJ x) /\
    Qa K M P L T w aJ=some (if zA K M P L T w.length aJ.length≠0 then([],zA K M P L T w.length aJ.length) else JB K M P L T aJ x):=by
  obtain⟨x,e1,e2,e3,_,_⟩:=Xe K M P L T w aJ;refine⟨x,e2,e3,?_,?_⟩
  ·unfold Dh;rw[e1];simp only[Option.bind_some];by_cases h:zA K M P L T w.length aJ.length≠0
   ·rw[if_pos h,if_pos h]
   ·rw[if_neg h,if_neg h,print_p];rfl
  ·unfold Qa;rw[e2];simp only[Option.bind_some];by_cases h:zA K M P L T w.length aJ.length≠0
   ·rw[if_pos h,if_pos h]
   ·rw[if_neg h,if_neg h,print_r];rfl
theorem text_len {K M P L T:Int}{aJ sum:List UInt8}(hc:Bh K M P L T aJ.length=0)(hT:((sum.length:Nat):Int)=T):(textS K M.toNat P.toNat L.toNat aJ sum).length<=100000:=by
  obtain⟨hm,h8,h64⟩:=chk0 hc;unfold tY at hm;have h1:=Ik M.toNat;have h2:=Ik P.toNat;have h3:=Ik L.toNat;have h4:=Yr K;unfold textS;simp only[List.length_append,Ij,List.length_cons,List.length_nil];omega
theorem OG {K M P L T:Int}{aJ sum w:List UInt8}(hc:Bh K M P L T aJ.length=0)(hT:((sum.length:Nat):Int)=T)(hw:w.length<=65536):∃ x,nz K M P L T w aJ [] []=some (x,0)/\x.length=sum.length/\nK (textS K M.toNat P.toNat L.toNat aJ sum) w=some (decide (x=sum),0):=by
  obtain⟨x,e1,e2,e3,e4,e5⟩:=Xe K M P L T w aJ;have he:=Q9 hc hw;rw[he] at e1 e2;obtain⟨g,hg⟩:=e5 he;have hx:=e3 he;refine⟨x,e2,by omega,?_⟩;have hl:=text_len hc hT;unfold nK;rw[Ze _ (by omega),Yt K M P L T aJ sum hc hT];simp only[Option.bind_some];rw[if_neg (by decide)];unfold Au;rw[hg];simp only[Option.bind_some];rw[if_neg (by decide),if_neg (by rw[hT];simp),e1];rfl
end Go.Sx
namespace Go.Sx
open Go.RowKit
set_option linter.unusedVariables false
set_option linter.unusedSimpArgs false
def O7:List UInt8:=[97,110,110]
def Gp:List UInt8:=[114,105,103,104,116]
def JH:List UInt8:=[119,114,111,110,103]
abbrev Rec:=List UInt8×Int×UInt64
def one (t:List UInt8)(wr:Int)(u:UInt64):Mp Rec:=[(O7,t,wr,u)]
theorem Q_ (t:List UInt8)(wr:Int)(u:UInt64):qL (one t wr u) O7=some (t,wr,u):=by
  simp[one,qL]
theorem UR (t t':List UInt8)(wr wr':Int)(u u':UInt64):F9 (one t wr u) O7 (t',wr',u')=one t' wr' u':=by
  unfold one F9;simp
theorem nil_ins (t:List UInt8)(wr:Int)(u:UInt64):F9 ([]:Mp Rec) O7 (t,wr,u)=one t wr u:=rfl
theorem chkL (n:Nat)(h:n=8):Bh 2 8 1 1 4 n=0:=by subst h;decide
section
variable (aJ x y:List UInt8)(hs:aJ.length=8)(hx:nz 2 8 1 1 4 Gp aJ [] []=some (x,0))(hxl:(x.length:Int)=4)(hy:nz 2 8 1 1 4 JH aJ [] []=some (y,0))(hne:y≠x)
include hs hx hxl in
theorem vright:nK (textS 2 8 1 1 aJ x) Gp=some (true,0):=by
  obtain⟨z,e1,e2,e3⟩:=OG (w:=Gp) (chkL aJ.length hs) hxl (by decide);rw[hx] at e1;obtain rfl:x=z:=congrArg Prod.fst (Option.some.inj e1);have e4:nK (textS 2 8 1 1 aJ x) Gp=some (decide (x=x),0):=e3;rw[e4,decide_eq_true rfl]
include hs hxl hy hne in
theorem vwrong:nK (textS 2 8 1 1 aJ x) JH=some (false,0):=by
  obtain⟨z,e1,e2,e3⟩:=OG (w:=JH) (chkL aJ.length hs) hxl (by decide);rw[hy] at e1;obtain rfl:y=z:=congrArg Prod.fst (Option.some.inj e1);have e4:nK (textS 2 8 1 1 aJ x) JH=some (decide (y=x),0):=e3;rw[e4,decide_eq_false hne]
variable (n:Int)(H:UInt64)
include hs hx hxl in
theorem Xg (wr:Int)(u now:UInt64)(h:¬ now < u):fA 2 8 1 1 4 n H (one (textS 2 8 1 1 aJ x) wr u) O7 Gp now=some (0,2,8,1,1,4,n,H,one (textS 2 8 1 1 aJ x) 0 u):=by
  unfold fA lF;simp only[Option.bind_some];rw[Q_];simp only[Option.bind_some,Option.isSome_some,Option.getD_some,Bool.not_true,Bool.false_eq_true,if_false];rw[if_neg h,vright aJ x hs hx hxl];simp only[Option.bind_some,if_true];unfold kE;simp only[];rw[UR]
theorem UT (t w:List UInt8)(wr:Int)(u now:UInt64)(h:now < u):fA 2 8 1 1 4 n H (one t wr u) O7 w now=some (212,2,8,1,1,4,n,H,one t wr u):=by
  unfold fA lF;simp only[Option.bind_some];rw[Q_];simp only[Option.bind_some,Option.isSome_some,Option.getD_some,Bool.not_true,Bool.false_eq_true,if_false];rw[if_pos h]
include hs hxl hy hne in
theorem Xh (wr:Int)(u now:UInt64)(h:¬ now < u)(h0:0<=wr/\wr < 1000):fA 2 8 1 1 4 n H (one (textS 2 8 1 1 aJ x) wr u) O7 JH now=some (211,2,8,1,1,4,n,H,if n<=wr+1 then one (textS 2 8 1 1 aJ x) 0 (now+OH H (18446744073709551615 - now)) else one (textS 2 8 1 1 aJ x) (wr+1) u):=by
  unfold fA lF;simp only[Option.bind_some];rw[Q_];simp only[Option.bind_some,Option.isSome_some,Option.getD_some,Bool.not_true,Bool.false_eq_true,if_false];rw[if_neg h,vwrong aJ x y hs hxl hy hne];simp only[Option.bind_some,Bool.false_eq_true,if_false];unfold kE;rw[bu (n:=wr+1) (by omega)];by_cases hn:n<=wr+1
  ·rw[if_pos hn,if_pos hn];simp only[];rw[UR]
  ·rw[if_neg hn,if_neg hn];simp only[];rw[UR]
end
theorem O8 (most:UInt8)(hold now:UInt32)(wrong:UInt8)(aJ:Vec UInt8 8):yK most hold now wrong aJ=some true:=by
  have hs:aJ.l.length=8:=aJ.h;have hm5:(most % 5).toNat < 5:=by rw[UInt8.toNat_mod];exact Nat.mod_lt _ (by decide)
  have hw:=wrong.toNat_lt;have hh:=hold.toNat_lt;have hnw:=now.toNat_lt;have eH:(UInt64.ofNat hold.toNat).toNat=hold.toNat:=UInt64.toNat_ofNat_of_lt' (by show hold.toNat < 18446744073709551616;omega);have eT:(UInt64.ofNat now.toNat).toNat=now.toNat:=UInt64.toNat_ofNat_of_lt' (by show now.toNat < 18446744073709551616;omega);obtain⟨x,h1,h2,h3,_⟩:=Xf 2 8 1 1 4 Gp aJ.l;obtain⟨y,g1,g2,_⟩:=Xf 2 8 1 1 4 JH aJ.l;have he:zA 2 8 1 1 4 Gp.length aJ.l.length=0:=Q9 (chkL _ hs) (by decide);have ge:zA 2 8 1 1 4 JH.length aJ.l.length=0:=Q9 (chkL _ hs) (by decide);rw[he] at h1 h3;rw[ge] at g1;have hxl:=h2 he;have hyl:=g2 ge;have hp:JB 2 8 1 1 4 aJ.l x=(textS 2 8 1 1 aJ.l x,0):=by
    unfold JB;rw[if_neg (by rw[chkL _ hs];decide),if_neg (by rw[hxl];decide)];rfl
  rw[if_neg (by decide),hp] at h3;unfold yK wP;rw[awake_ok];simp only[Option.bind_some];rw[if_neg (by decide)];generalize hn:ay (1+((most % 5).toNat:Int))=n;have hn1:1<=n/\n<=5:=by rw[<- hn,bu (by omega)];omega
  unfold Ho;rw[UD,show Bh 2 8 1 1 4 (List.replicate (Int.toNat (16:Int)) (0:UInt8)).length=0 from by decide];simp only[Option.bind_some];rw[if_neg (by decide),if_neg (by simp only[Bool.or_eq_true,decide_eq_true_eq];omega)];simp only[Option.bind_some,Sum.elim_inr];rw[if_neg (by decide)];have hadd:uT 2 8 1 1 4 n (UInt64.ofNat hold.toNat) ([]:Mp Rec) O7 Gp aJ.l=some (0,2,8,1,1,4,n,UInt64.ofNat hold.toNat,one (textS 2 8 1 1 aJ.l x) 0 0):=by
    unfold uT lF;rw[show zM O7=some true from by
      unfold zM O7;rw[if_neg (by decide)];refine gp (fun i=>(i:Int)) 3 (fun i hi=>?_) rfl
      match i,hi with
      | 0,_=>rfl
      | 1,_=>rfl
      | 2,_=>rfl]
    simp only[Option.bind_some,Bool.not_true,Bool.false_eq_true,if_false];rw[show qL ([]:Mp Rec) O7=none from rfl];simp only[Option.isSome_none,Bool.false_eq_true,if_false,List.length_nil];rw[if_neg (by decide),h3];simp only[Option.bind_some,ne_eq,not_true_eq_false,if_false];rw[nil_ins]
  have hadd':=hadd;unfold O7 Gp at hadd';rw[hadd'];simp only[Option.bind_some,ne_eq,not_true_eq_false,if_false];have h1':=h1;unfold Gp at h1';rw[h1'];simp only[Option.bind_some];unfold uz wP;have g1':=g1;unfold JH at g1';rw[g1'];simp only[Option.bind_some];unfold uy Hm;rw[rsame _ _ (by omega)];simp only[Option.bind_some];by_cases hxy:x=y
  ·rw[if_pos (decide_eq_true hxy)]
  ·rw[if_neg (by simpa using hxy),hn,jo (by omega)];simp only[Option.bind_some];have hyx:y≠x:=fun e=>hxy e.symm;generalize hTx:UInt64.ofNat now.toNat=T at eT;generalize hHx:UInt64.ofNat hold.toNat=H at eH;generalize htx:textS 2 8 1 1 aJ.l x=tx;have LR:∀ (wr:Int) (u now:UInt64),¬ now < u->fA 2 8 1 1 4 n H (one tx wr u) ([97,110,110]:List UInt8) ([(114:UInt8),(105:UInt8),(103:UInt8),(104:UInt8),(116:UInt8)]:List UInt8) now=some (0,2,8,1,1,4,n,H,one tx 0 u):=by
     subst htx;exact fun wr u now h=>Xg aJ.l x hs h1 hxl n H wr u now h
   have LW:∀ (wr:Int) (u now:UInt64),¬ now < u->(0<=wr/\wr < 1000)->fA 2 8 1 1 4 n H (one tx wr u) ([97,110,110]:List UInt8) ([(119:UInt8),(114:UInt8),(111:UInt8),(110:UInt8),(103:UInt8)]:List UInt8) now=some (211,2,8,1,1,4,n,H,if n<=wr+1 then one tx 0 (now+OH H (18446744073709551615 - now)) else one tx (wr+1) u):=by
     subst htx;exact fun wr u now h=>Xh aJ.l x y hs hxl g1 hyx n H wr u now h
   have LK:∀ (w:List UInt8) (wr:Int) (u now:UInt64),now < u->fA 2 8 1 1 4 n H (one tx wr u) ([97,110,110]:List UInt8) w now=some (212,2,8,1,1,4,n,H,one tx wr u):=fun w wr u now h=>UT n H tx w wr u now h;have hz:¬ T < 0:=by rw[UInt64.lt_iff_toNat_lt];simp
   have hmn:(T+OH H (18446744073709551615 - T)).toNat=now.toNat+hold.toNat:=by
     have e1:(18446744073709551615 - T).toNat=18446744073709551615 - now.toNat:=by
       rw[UInt64.toNat_sub_of_le _ _ (by rw[UInt64.le_iff_toNat_le,eT];show now.toNat<=18446744073709551615;omega),eT];rfl
     have e2:OH H (18446744073709551615 - T)=H:=by
       unfold OH;rw[if_neg];rw[UInt64.lt_iff_toNat_lt,e1,eH];omega
     rw[e2,UInt64.toNat_add,eT,eH];omega
   have hsum:(T+H).toNat=now.toNat+hold.toNat:=by rw[UInt64.toNat_add,eT,eH];omega
   generalize hU:T+OH H (18446744073709551615 - T)=U at hmn;have hk0:Int.tmod (wrong.toNat:Int) n=((wrong.toNat % n.toNat:Nat):Int):=by
     obtain⟨m,rfl⟩:∃ m:Nat,n=(m:Int):=⟨n.toNat,by omega⟩
     rfl
   have hk1:wrong.toNat % n.toNat < n.toNat:=Nat.mod_lt _ (by omega);have hloop1:aY (nC most hold now) (2,8,1,1,4,n,H,one tx 0 0,(0:Int))=some true:=by
     have key:=gp (f:=nC most hold now) (r:=true) (fun i:Nat=>((2:Int),(8:Int),(1:Int),(1:Int),(4:Int),n,H,(if(i:Int)=n then one tx 0 U else one tx (i:Int) 0),(i:Int))) n.toNat (fun i hi=>?_) ?_
     ·rw[if_neg (by simp;omega)] at key;exact key
     ·unfold nC;simp only[];rw[hn,if_pos (by omega),if_neg (by omega),hTx,LW (i:Int) 0 T hz (by omega),hU];simp only[Option.bind_some,ne_eq,not_true_eq_false,if_false];rw[bJ i (by omega)];by_cases hl:n<=(i:Int)+1
      ·rw[if_pos hl,if_pos (by omega)]
      ·rw[if_neg hl,if_neg (by omega)];rfl
     ·unfold nC;simp only[];rw[hn,if_neg (by omega),show(if((n.toNat:Nat):Int)=n then one tx 0 U else one tx ((n.toNat:Nat):Int) 0)=one tx 0 U from if_pos (by omega),hTx,hHx];have hend:¬ (T+H) < U:=by rw[UInt64.lt_iff_toNat_lt,hsum,hmn];omega
      have fin:=LR 0 U (T+H) hend;by_cases h0:(0:UInt32) < hold
      ·have h0':0 < hold.toNat:=by rw[UInt32.lt_iff_toNat_lt] at h0;simpa using h0
       rw[if_pos h0,LK _ 0 U T (by rw[UInt64.lt_iff_toNat_lt,hmn,eT];omega)];rw[Option.bind_some,if_neg (by simp)];have hd:((T+H) - 1).toNat=now.toNat+hold.toNat - 1:=by
         rw[UInt64.toNat_sub_of_le _ _ (by rw[UInt64.le_iff_toNat_le,hsum];show 1<=_;omega),hsum];rfl
       rw[LK _ 0 U ((T+H) - 1) (by rw[UInt64.lt_iff_toNat_lt,hmn,hd];omega)];rw[Option.bind_some,if_neg (by simp),fin,Option.bind_some];rfl
      ·rw[if_neg h0,fin,Option.bind_some];rfl
   refine gp (fun i:Nat=>((2:Int),(8:Int),(1:Int),(1:Int),(4:Int),n,H,one tx (i:Int) 0,(i:Int))) (wrong.toNat % n.toNat) (fun i hi=>?_) ?_
   ·unfold uw;simp only[];rw[hn,hk0,if_pos (by omega),hTx,LW (i:Int) 0 T hz (by omega),if_neg (by omega)];simp only[Option.bind_some,ne_eq,not_true_eq_false,if_false];rw[bJ i (by omega)];rfl
   ·unfold uw;simp only[];rw[hn,hk0,if_neg (by omega),hTx,LR _ 0 T hz];simp only[Option.bind_some,ne_eq,not_true_eq_false,if_false];rw[hloop1];rfl
end Go.Sx
