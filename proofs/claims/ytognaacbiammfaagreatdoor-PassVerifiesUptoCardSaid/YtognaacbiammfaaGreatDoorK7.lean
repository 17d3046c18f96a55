import Derived.Test.YtognaacbiammfaaGreatDoorK6
namespace Go.Sx
open Go.RowKit
set_option linter.unusedVariables false
set_option linter.unusedSimpArgs false
theorem SN (n:Int)(m:Int)(hm:0 < m):Int.tmod n m=if 0<=n then n % m else -((-n) % m):=by
  split
  ·rename_i h;rw[Int.tmod_eq_emod_of_nonneg h]
  ·rename_i h;have:n=-(-n):=by omega
   rw[this,Int.neg_tmod,Int.tmod_eq_emod_of_nonneg (by omega)];simp
theorem rsame (a b:List UInt8)(h:a.length<=4194304):DR a b=some (decide (a=b)):=by
  unfold DR;by_cases hl:a.length=b.length
  ·rw[if_neg (by omega)];refine mr (fun i s=>s=(i:Int)/\i<=a.length/\a.take i=b.take i) _ a.length 0 ⟨rfl,by omega,by simp⟩ ?_;rintro i s ⟨rfl,hi,ht⟩;unfold EO;by_cases hlt:i < a.length
   ·rw[if_pos (by omega),gK hlt,gK (xs:=b) (by omega)];simp only[Option.bind_some];by_cases hx:a[i]=b[i]
    ·left;refine⟨hlt,_,by rw[if_neg (by simpa using hx)],?_,by omega,?_⟩
     ·rw[bn (by omega)];rfl
     ·rw[List.take_succ_eq_append_getElem hlt,List.take_succ_eq_append_getElem (by omega:i < b.length),ht,hx]
    ·right;rw[if_pos (by simpa using hx)];simp only[Option.map_some,Option.some.injEq,Sum.inr.injEq];symm;simp only[decide_eq_false_iff_not];rintro rfl;exact hx rfl
   ·right;obtain rfl:i=a.length:=by omega
    rw[if_neg (by omega)];rw[List.take_length,hl,List.take_length] at ht;simp[ht]
  ·rw[if_pos (by omega)];have:a≠b:=by rintro rfl;exact hl rfl
   simp[this]
theorem getD_at {α:Type}(l:List α)(i:Nat)(d:α)(h:i < l.length):l.getD i d=l[i]:=by
  rw[List.getD_eq_getElem?_getD,List.getElem?_eq_getElem h];rfl
def dgN (n:Nat):Nat:=if 48<=n/\n<=57 then n - 48 else if 97<=n/\n<=102 then n - 87 else if 65<=n/\n<=70 then n - 55 else 16
def dg (c:UInt8):Nat:=dgN c.toNat
theorem Pz {p:UInt8->Prop}(h:∀ n:Nat,n < 256->p (UInt8.ofNat n))(c:UInt8):p c:=by
  have:=h c.toNat c.toNat_lt;simpa using this
def dgs (s:List UInt8)(j:Nat):Nat:=dg (s.getD j 0)
def hx (s:List UInt8)(i:Nat):List UInt8:=(List.range ((i+1) / 2)).map fun j=>UInt8.ofNat (16*dgs s (2*j)+if 2*j+1 < i then dgs s (2*j+1) else 0)
theorem tmod2 (n:Nat):Int.tmod (n:Int) 2=((n % 2:Nat):Int):=by rw[SN _ _ (by omega),if_pos (by omega)];omega
theorem tmod4 (n:Nat):Int.tmod (n:Int) 4=((n % 4:Nat):Int):=by rw[SN _ _ (by omega),if_pos (by omega)];omega
def wv (f:Nat->Nat)(a:Nat):Nat->Nat
  | 0=>0
  | n+1=>2*wv f a n+f (a+n)
theorem PD {f:Nat->Nat}(hf:∀ k,f k < 2)(a n:Nat):wv f a n < 2 ^ n:=by
  induction n with
  | zero=>simp[wv]
  | succ n ih=>have:=hf (a+n);simp only[wv,Nat.pow_succ];omega
theorem WS (f:Nat->Nat)(a n m:Nat):wv f a (n+m)=wv f a n*2 ^ m+wv f (a+n) m:=by
  induction m with
  | zero=>simp[wv]
  | succ m ih =>
    show 2*wv f a (n+m)+f (a+(n+m))=wv f a n*2 ^ (m+1)+(2*wv f (a+n) m+f (a+n+m))
    rw[ih,Nat.pow_succ,<-Nat.mul_assoc,Nat.add_assoc a n m];omega
theorem WT (f:Nat->Nat)(a:Nat):∀ (n N:Nat),(∀ j,j < n->f (a+j)=N / 2 ^ (n - 1 - j) % 2)->wv f a n=N % 2 ^ n:=by
  intro n
  induction n with
  | zero=>intro N _;simp[wv,Nat.mod_one]
  | succ n ih =>
    intro N h;have h1:wv f a n=(N / 2) % 2 ^ n:=ih (N / 2) (fun j hj=>by
      rw[h j (by omega),Nat.div_div_eq_div_mul,<-Nat.pow_succ'];congr 3;omega)
    have h2:=h n (by omega);simp only[wv,h1,h2];rw[show n+1 - 1 - n=0 from by omega,Nat.pow_zero,Nat.div_one,Nat.pow_succ',Nat.mod_mul];omega
theorem wv_bit {f:Nat->Nat}(hf:∀ k,f k < 2)(a n:Nat):∀ j,j < n->wv f a n / 2 ^ (n - 1 - j) % 2=f (a+j):=by
  intro j hj;obtain⟨m,rfl⟩:∃ m,n=j+1+m:=⟨n - j - 1,by omega⟩
  have hm:=PD hf (a+(j+1)) m;rw[WS,show j+1+m - 1 - j=m from by omega,Nat.mul_comm,Nat.mul_add_div (Nat.pow_pos (by omega)),Nat.div_eq_of_lt hm];have:=hf (a+j);simp only[wv];omega
theorem wv_zero {f:Nat->Nat}(a n:Nat)(h:∀ j,j < n->f (a+j)=0):wv f a n=0:=by
  induction n with
  | zero=>rfl
  | succ n ih=>simp only[wv,h n (by omega),ih (fun j hj=>h j (by omega))]
def YU:List UInt8:=[65,66,67,68,69,70,71,72,73,74,75,76,77,78,79,80,81,82,83,84,85,86,87,88,89,90,97,98,99,100,101,102,103,104,105,106,107,108,109,110,111,112,113,114,115,116,117,118,119,120,121,122,48,49,50,51,52,53,54,55,56,57,43,47]
theorem WU {i:Nat}(h:i < 64):aT YU (i:Int)=some (YU.getD i 0):=by
  rw[gK (xs:=YU) (by simpa [YU] using h),getD_at _ _ _ (by simpa [YU] using h)]
def ltN (n:Nat):Nat:=if 65<=n/\n<=90 then n - 65 else if 97<=n/\n<=122 then n - 71 else if 48<=n/\n<=57 then n+4 else if n=43 then 62 else if n=47 then 63 else 64
def lt (c:UInt8):Nat:=ltN c.toNat
theorem lt_le (c:UInt8):lt c<=64:=by
  unfold lt ltN;split
  ·omega
  split
  ·omega
  split
  ·omega
  split
  ·omega
  split <;> omega
theorem WW:∀ i:Nat,i < 64->lt (YU.getD i 0)=i:=by decide +kernel
theorem wletter (c:UInt8):uo c=some (if lt c < 64 then(UInt32.ofNat (lt c),true) else(0,false)):=by
  refine Pz (p:=fun c=>uo c=some (if lt c < 64 then(UInt32.ofNat (lt c),true) else(0,false))) ?_ c;unfold uo;decide +kernel
def bit (b:List UInt8)(k:Nat):Nat:=(b.getD (k / 8) 0).toNat / 2 ^ (7 - k % 8) % 2
theorem MI (b:List UInt8)(k:Nat):bit b k < 2:=Nat.mod_lt _ (by omega)
theorem Ij {α:Type}(l:List α)(i:Nat)(d:α)(h:l.length<=i):l.getD i d=d:=by
  rw[List.getD_eq_getElem?_getD,List.getElem?_eq_none h];rfl
theorem SQ (b:List UInt8)(k:Nat)(h:8*b.length<=k):bit b k=0:=by
  unfold bit;rw[Ij _ _ _ (by omega)];simp
def Em (b:List UInt8)(n:Nat):List UInt8:=(List.range n).map fun m=>YU.getD (wv (bit b) (6*m) 6) 0
theorem PE (b:List UInt8)(n:Nat):(Em b n).length=n:=by simp[Em]
theorem MJ (b:List UInt8)(n:Nat):Em b n++[YU.getD (wv (bit b) (6*n) 6) 0]=Em b (n+1):=by
  unfold Em;rw[List.range_succ,List.map_append];rfl
def enc (b:List UInt8):List UInt8:=Em b ((8*b.length+5) / 6)
theorem wv6 (b:List UInt8)(a:Nat):wv (bit b) a 6 < 64:=PD (MI b) a 6
theorem shr8_nat (x:UInt8)(k:Nat):(QH x k).toNat=x.toNat / 2 ^ k:=by
  simp[QH,Nat.shiftRight_eq_div_pow]
theorem rb64_in (b:List UInt8)(hb:b.length<=4194304)(i:Nat)(hi:i < b.length) :
    aZ (Ci b (i:Int)) (Em b (8*i / 6),((8*i % 6:Nat):Int),((wv (bit b) (6*(8*i / 6)) (8*i % 6):Nat):Int),7)
      = some (.inl (Em b (8*(i+1) / 6),((8*(i+1) % 6:Nat):Int),((wv (bit b) (6*(8*(i+1) / 6)) (8*(i+1) % 6):Nat):Int),((i+1:Nat):Int))):=by
  refine mr (fun j s=>s=(Em b ((8*i+j) / 6),(((8*i+j) % 6:Nat):Int),((wv (bit b) (6*((8*i+j) / 6)) ((8*i+j) % 6):Nat):Int),(7:Int) - j)/\j<=8) _ 8 _ ⟨by simp,by omega⟩ ?_;rintro j s ⟨rfl,hj⟩;unfold Ci;simp only[];by_cases hlt:j < 8
  ·left;refine⟨hlt,(Em b ((8*i+(j+1)) / 6),(((8*i+(j+1)) % 6:Nat):Int),((wv (bit b) (6*((8*i+(j+1)) / 6)) ((8*i+(j+1)) % 6):Nat):Int),(7:Int) - ((j+1:Nat):Int)),?_,rfl,by omega⟩;rw[if_pos (by omega),gK hi,jy (by omega)];simp only[Option.bind_some];have hw:=PD (MI b) (6*((8*i+j) / 6)) ((8*i+j) % 6);have hp6:2 ^ ((8*i+j) % 6)<=2 ^ 6:=Nat.pow_le_pow_right (by omega) (by omega);have e1:ay ((((8*i+j) % 6:Nat):Int)+1)=(((8*i+j) % 6+1:Nat):Int):=by rw[bn (by omega)];omega
   have ek:Int.toNat (7 - (j:Int))=7 - j:=by omega
   have ebit:((QH b[i] (7 - j)).toNat:Nat) % 2=bit b (8*i+j):=by
     rw[shr8_nat];unfold bit;rw[show(8*i+j) / 8=i from by omega,show(8*i+j) % 8=j from by omega,getD_at _ _ _ hi]
   have e2:Int.tmod ((QH b[i] (7 - j)).toNat:Int) 2=((bit b (8*i+j):Nat):Int):=by rw[tmod2,ebit]
   have hb2:=MI b (8*i+j);have e3:ay (2*((wv (bit b) (6*((8*i+j) / 6)) ((8*i+j) % 6):Nat):Int))=((2*wv (bit b) (6*((8*i+j) / 6)) ((8*i+j) % 6):Nat):Int):=by rw[bn (by omega)];omega
   have e4:ay (((2*wv (bit b) (6*((8*i+j) / 6)) ((8*i+j) % 6):Nat):Int)+((bit b (8*i+j):Nat):Int))=((wv (bit b) (6*((8*i+j) / 6)) ((8*i+j) % 6+1):Nat):Int):=by
     rw[bn (by omega)];simp only[wv];rw[show 6*((8*i+j) / 6)+(8*i+j) % 6=8*i+j from by omega];omega
   rw[ek,e1,e2,e3,e4];have e5:ay (7 - (j:Int) - 1)=(7:Int) - ((j+1:Nat):Int):=by rw[bn (by omega)];omega
   by_cases h6:(8*i+j) % 6+1=6
   ·rw[if_pos (by omega),h6];have e6:=WU (wv6 b (6*((8*i+j) / 6)));unfold YU at e6;rw[e6];simp only[Option.bind_some];rw[gB (by rw[PE];simp;omega)];simp only[Option.bind_some,xK,e5];have q1:(8*i+(j+1)) / 6=(8*i+j) / 6+1:=by omega
    have q2:(8*i+(j+1)) % 6=0:=by omega
    rw[q1,q2,<-MJ];rfl
   ·rw[if_neg (by omega)];simp only[xK,e5];have q1:(8*i+(j+1)) / 6=(8*i+j) / 6:=by omega
    have q2:(8*i+(j+1)) % 6=(8*i+j) % 6+1:=by omega
    rw[q1,q2]
  ·right;obtain rfl:j=8:=by omega
   rw[if_neg (by omega)];have e5:ay ((i:Int)+1)=((i+1:Nat):Int):=by rw[bn (by omega)];omega
   rw[e5];rfl
theorem XP (b:List UInt8)(hb:b.length<=4194304):Dc b=some (enc b):=by
  unfold Dc;refine mr (fun i s=>s=(Em b (8*i / 6),((8*i % 6:Nat):Int),((wv (bit b) (6*(8*i / 6)) (8*i % 6):Nat):Int),(i:Int))/\i<=b.length) _ b.length _ ⟨by simp[Em,wv],by omega⟩ ?_;rintro i s ⟨rfl,hi⟩;unfold GG;simp only[];by_cases hlt:i < b.length
  ·left;refine⟨hlt,_,?_,rfl,by omega⟩;rw[if_pos (by omega),rb64_in b hb i hlt]
  ·right;obtain rfl:i=b.length:=by omega
   rw[if_neg (by omega)];have hw:=PD (MI b) (6*(8*b.length / 6)) (8*b.length % 6);have hp6:2 ^ (8*b.length % 6)<=2 ^ 6:=Nat.pow_le_pow_right (by omega) (by omega);by_cases h0:8*b.length % 6=0
   ·rw[if_neg (by omega)];simp only[xM,Option.map_some,enc];rw[show(8*b.length+5) / 6=8*b.length / 6 from by omega]
   ·rw[if_pos (by omega)];have key:aZ (Cj (Em b (8*b.length / 6))) (((8*b.length % 6:Nat):Int),((wv (bit b) (6*(8*b.length / 6)) (8*b.length % 6):Nat):Int))=some (enc b):=by
      refine mr (fun j s=>s=(((8*b.length % 6+j:Nat):Int),((wv (bit b) (6*(8*b.length / 6)) (8*b.length % 6+j):Nat):Int))/\8*b.length % 6+j<=6) _ 6 _ ⟨by simp,by omega⟩ ?_;rintro j s ⟨rfl,hj⟩;unfold Cj;simp only[];have hw2:=PD (MI b) (6*(8*b.length / 6)) (8*b.length % 6+j);have hp62:2 ^ (8*b.length % 6+j)<=2 ^ 6:=Nat.pow_le_pow_right (by omega) (by omega);by_cases hlt2:8*b.length % 6+j < 6
      ·left;refine⟨by omega,_,?_,rfl,by omega⟩;rw[if_pos (by omega),bn (by omega),bn (by omega)];simp only[Option.some.injEq,Sum.inl.injEq,Prod.mk.injEq,true_and];refine⟨by omega,?_⟩;rw[<- Nat.add_assoc];simp only[wv];rw[SQ b _ (by omega)];omega
      ·right;have hj6:8*b.length % 6+j=6:=by omega
       rw[hj6,if_neg (by omega)];have e6:=WU (wv6 b (6*(8*b.length / 6)));unfold YU at e6;rw[e6];simp only[Option.bind_some];rw[gB (by rw[PE];simp;omega)];simp only[Option.bind_some,xM,Option.map_some,enc];rw[show(8*b.length+5) / 6=8*b.length / 6+1 from by omega,<-MJ];rfl
    rw[key];rfl
theorem bits24 (x y z:Nat)(hx:x < 256)(hy:y < 256)(hz:z < 256)(q:Nat)(hq:q < 24) :
    (x*65536+y*256+z) / 2 ^ (23 - q) % 2=(if q / 8=0 then x else if q / 8=1 then y else z) / 2 ^ (7 - q % 8) % 2:=by
  have:q=0∨q=1∨q=2∨q=3∨q=4∨q=5∨q=6∨q=7∨q=8∨q=9∨q=10∨q=11∨q=12∨q=13∨q=14∨q=15∨q=16∨q=17∨q=18∨q=19∨q=20∨q=21∨q=22∨q=23:=by omega
  rcases this with rfl | rfl | rfl | rfl | rfl | rfl | rfl | rfl | rfl | rfl | rfl | rfl | rfl | rfl | rfl | rfl | rfl | rfl | rfl | rfl | rfl | rfl | rfl | rfl <;>
    (simp only[Nat.reduceSub,Nat.reducePow,Nat.reduceDiv,Nat.reduceMod,reduceIte,Nat.reduceEqDiff,Nat.succ_ne_self,Nat.div_one];omega)
theorem or16 (x:UInt8):(nI (UInt32.ofNat x.toNat) ((16:UInt64).toNat)).toNat=x.toNat*65536:=by
  have hx:=x.toNat_lt;simp only[nI,<-UInt32.toNat_toBitVec,BitVec.toNat_shiftLeft];simp only[UInt32.toNat_toBitVec,UInt32.toNat_ofNat',show(16:UInt64).toNat=16 from rfl,Nat.shiftLeft_eq];omega
theorem or16_8 (v:UInt32)(x y:UInt8)(hv:v.toNat=x.toNat*65536):(v|||nI (UInt32.ofNat y.toNat) ((8:UInt64).toNat)).toNat=x.toNat*65536+y.toNat*256:=by
  have hx:=x.toNat_lt;have hy:=y.toNat_lt;have e:(nI (UInt32.ofNat y.toNat) ((8:UInt64).toNat)).toNat=y.toNat*256:=by
    simp only[nI,<-UInt32.toNat_toBitVec,BitVec.toNat_shiftLeft];simp only[UInt32.toNat_toBitVec,UInt32.toNat_ofNat',show(8:UInt64).toNat=8 from rfl,Nat.shiftLeft_eq];omega
  rw[UInt32.toNat_or,hv,e,show x.toNat*65536=x.toNat <<< 16 from by rw[Nat.shiftLeft_eq],<-Nat.shiftLeft_add_eq_or_of_lt (by omega)]
theorem or16_0 (v:UInt32)(n:Nat)(y:UInt8)(hv:v.toNat=n*256):(v|||UInt32.ofNat y.toNat).toNat=n*256+y.toNat:=by
  have hy:=y.toNat_lt;rw[UInt32.toNat_or,hv,show n*256=n <<< 8 from by rw[Nat.shiftLeft_eq]];have e:(UInt32.ofNat y.toNat).toNat=y.toNat:=by simp only[UInt32.toNat_ofNat'];omega
  rw[e,<-Nat.shiftLeft_add_eq_or_of_lt (by omega)]
theorem w_let (b:List UInt8)(j k:Nat)(hk:k < 4)(v:UInt32)(hv:v.toNat=(b.getD (3*j) 0).toNat*65536+(b.getD (3*j+1) 0).toNat*256+(b.getD (3*j+2) 0).toNat) :
    ((mO v (18 - 6*k))&&&63).toNat=wv (bit b) (6*(4*j+k)) 6:=by
  have e1:((mO v (18 - 6*k))&&&63).toNat=(v.toNat / 2 ^ (18 - 6*k)) % 64:=by
    rw[UInt32.toNat_and];have:(mO v (18 - 6*k)).toNat=v.toNat / 2 ^ (18 - 6*k):=by simp[mO,Nat.shiftRight_eq_div_pow]
    rw[this];exact Nat.and_two_pow_sub_one_eq_mod _ 6
  rw[e1];symm;apply WT;intro t ht;have h24:=bits24 _ _ _ (b.getD (3*j) 0).toNat_lt (b.getD (3*j+1) 0).toNat_lt (b.getD (3*j+2) 0).toNat_lt (6*k+t) (by omega);rw[<- hv] at h24;rw[Nat.div_div_eq_div_mul,<-Nat.pow_add,show 18 - 6*k+(6 - 1 - t)=23 - (6*k+t) from by omega,h24];unfold bit;have q1:(6*(4*j+k)+t) / 8=3*j+(6*k+t) / 8:=by omega
  have q2:(6*(4*j+k)+t) % 8=(6*k+t) % 8:=by omega
  rw[q1,q2];have q3:(6*k+t) / 8=0∨(6*k+t) / 8=1∨(6*k+t) / 8=2:=by omega
  rcases q3 with h | h | h <;> simp[h]
theorem w_in (b:List UInt8)(hb:b.length<=4194304)(j n:Nat)(hj:3*j < b.length)(hn:n=min 3 (b.length - 3*j))(v:UInt32)(hv:v.toNat=(b.getD (3*j) 0).toNat*65536+(b.getD (3*j+1) 0).toNat*256+(b.getD (3*j+2) 0).toNat) :
    n_ b (Em b (4*j)) ((3*j:Nat):Int) v=some (.inl (Em b (4*j+n+1),((3*(j+1):Nat):Int))):=by
  unfold n_;have en:(if ay (((b.length:Nat):Int) - ((3*j:Nat):Int)) < 3 then ay (((b.length:Nat):Int) - ((3*j:Nat):Int)) else 3)=(n:Int):=by
    rw[bn (by omega)];split <;> omega
  refine mr (fun k s=>s=(Em b (4*j+k),(k:Int))/\k<=n+1) _ (n+1) _ ⟨by simp,by omega⟩ ?_;rintro k s ⟨rfl,hk⟩;unfold Ac;simp only[];rw[en];have e1:ay ((n:Int)+1)=((n+1:Nat):Int):=by rw[bn (by omega)];omega
  rw[e1];by_cases hlt:k < n+1
  ·left;refine⟨hlt,_,?_,rfl,by omega⟩;have e2:ay (6*(k:Int))=((6*k:Nat):Int):=by rw[bn (by omega)];omega
   have e3:ay (18 - ((6*k:Nat):Int))=((18 - 6*k:Nat):Int):=by rw[bn (by omega)];omega
   rw[if_pos (by omega),e2,e3,jy (by omega)];simp only[Option.bind_some,Int.toNat_natCast];rw[w_let b j k (by omega) v hv];have e6:=WU (wv6 b (6*(4*j+k)));unfold YU at e6;rw[e6];simp only[Option.bind_some];rw[gB (by rw[PE];simp;omega),bn (by omega)];simp only[Option.bind_some];rw[<- Nat.add_assoc,<-MJ];rfl
  ·right;obtain rfl:k=n+1:=by omega
   rw[if_neg (by omega)];simp only[wo,Option.map_some];have e4:ay (((3*j:Nat):Int)+3)=((3*(j+1):Nat):Int):=by rw[bn (by omega)];omega
   rw[e4];rfl
theorem XQ (b:List UInt8)(hb:b.length<=4194304):um b=some (enc b):=by
  unfold um;refine mr (fun j s=>s=(Em b (min (4*j) ((8*b.length+5) / 6)),((3*j:Nat):Int))) _ b.length _ (by simp[Em]) ?_;rintro j s rfl;unfold Ad;simp only[];by_cases hlt:3*j < b.length
  ·left;refine⟨by omega,(Em b (min (4*(j+1)) ((8*b.length+5) / 6)),((3*(j+1):Nat):Int)),?_,rfl⟩;rw[if_pos (by omega),gK hlt];simp only[Option.bind_some];have e1:ay (((b.length:Nat):Int) - ((3*j:Nat):Int))=((b.length - 3*j:Nat):Int):=by rw[bn (by omega)];omega
   rw[show min (4*j) ((8*b.length+5) / 6)=4*j from by omega];have g0:b.getD (3*j) 0=b[3*j]:=getD_at _ _ _ hlt;have h16:=or16 b[3*j];by_cases h1:3*j+1 < b.length
   ·rw[e1,if_pos (by split <;> omega)];have e2:ay (((3*j:Nat):Int)+1)=((3*j+1:Nat):Int):=by rw[bn (by omega)];omega
    rw[e2,gK h1];simp only[Option.bind_some];have g1:b.getD (3*j+1) 0=b[3*j+1]:=getD_at _ _ _ h1;have h8:=or16_8 _ b[3*j] b[3*j+1] h16;unfold og;rw[e1];by_cases h2:3*j+2 < b.length
    ·rw[if_pos (by split <;> omega)];have e3:ay (((3*j:Nat):Int)+2)=((3*j+2:Nat):Int):=by rw[bn (by omega)];omega
     rw[e3,gK h2];simp only[Option.bind_some];have g2:b.getD (3*j+2) 0=b[3*j+2]:=getD_at _ _ _ h2;have h0:=or16_0 _ (b[3*j].toNat*256+b[3*j+1].toNat) b[3*j+2] (by rw[h8];omega);rw[show min (4*(j+1)) ((8*b.length+5) / 6)=4*j+3+1 from by omega];exact w_in b hb j 3 hlt (by omega) _ (by rw[h0,g0,g1,g2];omega)
    ·rw[if_neg (by split <;> omega)];have g2:b.getD (3*j+2) 0=0:=Ij _ _ _ (by omega);rw[show min (4*(j+1)) ((8*b.length+5) / 6)=4*j+2+1 from by omega];exact w_in b hb j 2 hlt (by omega) _ (by rw[h8,g0,g1,g2];simp)
   ·rw[e1,if_neg (by split <;> omega)];unfold og;rw[e1,if_neg (by split <;> omega)];have g1:b.getD (3*j+1) 0=0:=Ij _ _ _ (by omega);have g2:b.getD (3*j+2) 0=0:=Ij _ _ _ (by omega);rw[show min (4*(j+1)) ((8*b.length+5) / 6)=4*j+1+1 from by omega];exact w_in b hb j 1 hlt (by omega) _ (by rw[h16,g0,g1,g2];simp)
  ·right;rw[if_neg (by omega)];simp only[Option.map_some,enc];rw[show min (4*j) ((8*b.length+5) / 6)=(8*b.length+5) / 6 from by omega]
def lb (s:List UInt8)(k:Nat):Nat:=lt (s.getD (k / 6) 0) / 2 ^ (5 - k % 6) % 2
theorem lb_lt (s:List UInt8)(k:Nat):lb s k < 2:=Nat.mod_lt _ (by omega)
theorem lb_out (s:List UInt8)(k:Nat)(h:6*s.length<=k):lb s k=0:=by
  unfold lb;rw[Ij _ _ _ (by omega),show lt 0=64 from by decide];have:k % 6=0∨k % 6=1∨k % 6=2∨k % 6=3∨k % 6=4∨k % 6=5:=by omega
  rcases this with h | h | h | h | h | h <;> rw[h]
theorem lb_wv (s:List UInt8)(i:Nat)(hi:i < s.length)(h:lt s[i] < 64):wv (lb s) (6*i) 6=lt s[i]:=by
  rw[WT (lb s) (6*i) 6 (lt s[i])]
  ·exact Nat.mod_eq_of_lt (by omega)
  ·intro j hj;unfold lb;rw[show(6*i+j) / 6=i from by omega,show(6*i+j) % 6=j from by omega,getD_at _ _ _ hi]
def PG (f:Nat->Nat)(n:Nat):List UInt8:=(List.range n).map fun m=>UInt8.ofNat (wv f (8*m) 8)
theorem Vd (f:Nat->Nat)(n:Nat):(PG f n).length=n:=by simp[PG]
theorem YV (f:Nat->Nat)(n:Nat):PG f n++[UInt8.ofNat (wv f (8*n) 8)]=PG f (n+1):=by
  unfold PG;rw[List.range_succ,List.map_append];rfl
def badL (s:List UInt8):Nat:=s.findIdx (fun c=>decide (64<=lt c))
theorem badL_le (s:List UInt8):badL s<=s.length:=List.findIdx_le_length
theorem badL_ok (s:List UInt8)(i:Nat)(h:i < badL s)(hi:i < s.length):lt s[i] < 64:=by
  have:=List.not_of_lt_findIdx h;simp only[decide_eq_false_iff_not] at this;omega
theorem XR (s:List UInt8)(h:badL s < s.length):lt s[badL s]=64:=by
  have:=List.findIdx_getElem (w:=h);simp only[decide_eq_true_eq] at this;have:=lt_le s[badL s];simp only[badL] at *;omega
def yH (s:List UInt8):List UInt8×Int×Int :=
  if badL s < s.length then([],(badL s:Int),4) else if s.length % 4=1 then([],(s.length:Int),4) else
  if wv (lb s) (8*(6*s.length / 8)) (6*s.length % 8)≠0 then([],(s.length:Int) - 1,4) else(PG (lb s) (6*s.length / 8),0,0)
theorem p7 (r:Nat)(h:r<=7):((nI 1 r) - 1).toNat=2 ^ r - 1:=by
  have:∀ r:Nat,r < 8->((nI 1 r) - 1).toNat=2 ^ r - 1:=by decide +kernel
  exact this r (by omega)
theorem u32_of {a b:UInt32}(h:a.toNat=b.toNat):a=b:=UInt32.toNat_inj.1 h
theorem wunb64 (s:List UInt8)(hs:s.length<=4194304):pK s=some (yH s):=by
  unfold pK;have hbl:=badL_le s;refine mr (fun i x=>x=(PG (lb s) (6*i / 8),((6*i % 8:Nat):Int),UInt32.ofNat (wv (lb s) (8*(6*i / 8)) (6*i % 8)),(i:Int))/\i<=badL s) _ (badL s) _ ⟨by simp[PG,wv],by omega⟩ ?_;rintro i x ⟨rfl,hi⟩;unfold x9;simp only[];have hw:=PD (lb_lt s) (8*(6*i / 8)) (6*i % 8);have hp6:2 ^ (6*i % 8)<=2 ^ 6:=Nat.pow_le_pow_right (by omega) (by omega);by_cases hlt:i < s.length
  ·rw[if_pos (by omega),gK hlt];simp only[Option.bind_some,wletter];have e3:ay ((i:Int)+1)=((i+1:Nat):Int):=by rw[bn (by omega)];omega
   by_cases hb:i < badL s
   ·left;have hd:=badL_ok s i hb hlt;refine⟨hb,(PG (lb s) (6*(i+1) / 8),((6*(i+1) % 8:Nat):Int),UInt32.ofNat (wv (lb s) (8*(6*(i+1) / 8)) (6*(i+1) % 8)),((i+1:Nat):Int)),?_,rfl,by omega⟩;rw[if_pos hd];simp only[Bool.not_true,Bool.false_eq_true,if_false];have hv:(nI (UInt32.ofNat (wv (lb s) (8*(6*i / 8)) (6*i % 8))) ((6:UInt64).toNat)|||UInt32.ofNat (lt s[i])).toNat=wv (lb s) (8*(6*i / 8)) (6*i % 8+6):=by
      rw[WS,show 8*(6*i / 8)+6*i % 8=6*i from by omega,lb_wv s i hlt hd];have e1:(nI (UInt32.ofNat (wv (lb s) (8*(6*i / 8)) (6*i % 8))) ((6:UInt64).toNat)).toNat=wv (lb s) (8*(6*i / 8)) (6*i % 8)*64:=by
        simp only[nI,<-UInt32.toNat_toBitVec,BitVec.toNat_shiftLeft];simp only[UInt32.toNat_toBitVec,UInt32.toNat_ofNat',show(6:UInt64).toNat=6 from rfl,Nat.shiftLeft_eq];omega
      have e2:(UInt32.ofNat (lt s[i])).toNat=lt s[i]:=by simp only[UInt32.toNat_ofNat'];omega
      rw[UInt32.toNat_or,e1,e2,show wv (lb s) (8*(6*i / 8)) (6*i % 8)*64=wv (lb s) (8*(6*i / 8)) (6*i % 8) <<< 6 from by rw[Nat.shiftLeft_eq],<-Nat.shiftLeft_add_eq_or_of_lt (by omega),Nat.shiftLeft_eq]
    generalize nI (UInt32.ofNat (wv (lb s) (8*(6*i / 8)) (6*i % 8))) ((6:UInt64).toNat)|||UInt32.ofNat (lt s[i])=v at hv;have e4:ay (((6*i % 8:Nat):Int)+6)=((6*i % 8+6:Nat):Int):=by rw[bn (by omega)];omega
    rw[e4];by_cases h8:8<=6*i % 8+6
    ·have e5:ay (((6*i % 8+6:Nat):Int) - 8)=((6*i % 8 - 2:Nat):Int):=by rw[bn (by omega)];omega
     rw[if_pos (by omega),e5,jy (by omega)];simp only[Option.bind_some,Int.toNat_natCast];have q0:6*i % 8+6=8+(6*i % 8 - 2):=by omega
     rw[q0,WS] at hv;have hw2:=PD (lb_lt s) (8*(6*i / 8)+8) (6*i % 8 - 2);have hpr:2 ^ (6*i % 8 - 2)<=2 ^ 4:=Nat.pow_le_pow_right (by omega) (by omega);have q1:UInt8.ofNat (mO v (6*i % 8 - 2)).toNat=UInt8.ofNat (wv (lb s) (8*(6*i / 8)) 8):=by
       have:(mO v (6*i % 8 - 2)).toNat=v.toNat / 2 ^ (6*i % 8 - 2):=by simp[mO,Nat.shiftRight_eq_div_pow]
       rw[this,hv,Nat.mul_comm,Nat.mul_add_div (Nat.pow_pos (by omega)),Nat.div_eq_of_lt hw2,Nat.add_zero]
     have q2:v&&&(nI 1 (6*i % 8 - 2) - 1)=UInt32.ofNat (wv (lb s) (8*(6*i / 8)+8) (6*i % 8 - 2)):=by
       apply u32_of;rw[UInt32.toNat_and,p7 _ (by omega),Nat.and_two_pow_sub_one_eq_mod,hv,Nat.mul_comm,Nat.mul_add_mod,Nat.mod_eq_of_lt hw2];simp only[UInt32.toNat_ofNat'];omega
     rw[q1,q2,gB (by rw[Vd];simp;omega)];simp only[Option.bind_some,mF];rw[YV,e3];rw[show 6*(i+1) / 8=6*i / 8+1 from by omega,show 6*(i+1) % 8=6*i % 8 - 2 from by omega,show 8*(6*i / 8+1)=8*(6*i / 8)+8 from by omega]
    ·rw[if_neg (by omega)];simp only[mF];rw[e3,show 6*(i+1) / 8=6*i / 8 from by omega,show 6*(i+1) % 8=6*i % 8+6 from by omega,<-hv];simp
   ·right;obtain rfl:i=badL s:=by omega
    have hd:=XR s hlt;rw[if_neg (show ¬ lt s[badL s] < 64 from by omega)];simp only[Bool.not_false,if_true,Option.map_some];rw[yH,if_pos hlt]
  ·right;have hi':i=s.length:=by omega
   subst hi';rw[if_neg (by omega),tmod4];rw[yH,if_neg (show ¬ badL s < s.length from by omega)];by_cases h2:s.length % 4=1
   ·rw[if_pos (show((s.length % 4:Nat):Int)=1 from by omega),if_pos h2];rfl
   ·rw[if_neg (show ¬ ((s.length % 4:Nat):Int)=1 from by omega),if_neg h2];by_cases h0:wv (lb s) (8*(6*s.length / 8)) (6*s.length % 8)=0
    ·rw[if_neg (by rw[h0];decide),if_neg (by simpa using h0)];rfl
    ·have hne:UInt32.ofNat (wv (lb s) (8*(6*s.length / 8)) (6*s.length % 8))≠0:=by
       intro h;have:=congrArg UInt32.toNat h;simp only[UInt32.toNat_ofNat',show(0:UInt32).toNat=0 from rfl] at this;omega
     rw[if_pos hne,if_pos h0,bn (by omega)];rfl
theorem Gu (b:List UInt8):(enc b).length=(8*b.length+5) / 6:=by simp[enc,Em]
theorem lb_enc (b:List UInt8)(k:Nat):lb (enc b) k=bit b k:=by
  by_cases h:k < 6*(enc b).length
  ·unfold lb;rw[getD_at _ _ _ (by omega)];have e:(enc b)[k / 6]'(by omega)=YU.getD (wv (bit b) (6*(k / 6)) 6) 0:=by simp[enc,Em]
   rw[e,WW _ (wv6 _ _)];have:=wv_bit (MI b) (6*(k / 6)) 6 (k % 6) (by omega);rw[show 6*(k / 6)+k % 6=k from by omega] at this;rw[<- this]
  ·rw[lb_out _ _ (by omega),SQ];rw[Gu] at h;omega
theorem decN_bit (b:List UInt8):PG (bit b) b.length=b:=by
  apply List.ext_getElem
  ·rw[Vd]
  ·intro j h1 h2;simp only[PG,List.getElem_map,List.getElem_range];have hx:=(b[j]).toNat_lt;rw[WT (bit b) (8*j) 8 (b[j]).toNat]
   ·simp
   ·intro t ht;unfold bit;rw[show(8*j+t) / 8=j from by omega,show(8*j+t) % 8=t from by omega,getD_at _ _ _ h2]
theorem QD (b:List UInt8):yH (enc b)=(b,0,0):=by
  have hl:=Gu b;have hnb:¬ badL (enc b) < (enc b).length:=by
    intro h;have h1:=XR _ h;have e:(enc b)[badL (enc b)]'h=YU.getD (wv (bit b) (6*badL (enc b)) 6) 0:=by simp[enc,Em]
    rw[e,WW _ (wv6 _ _)] at h1;have:=wv6 b (6*badL (enc b));omega
  have hf:lb (enc b)=bit b:=funext (lb_enc b);have hn:6*(enc b).length / 8=b.length:=by omega
  unfold yH;rw[if_neg hnb,if_neg (by omega),hf,hn];have hz:wv (bit b) (8*b.length) (6*(enc b).length % 8)=0:=wv_zero _ _ (fun j _=>SQ b _ (by omega));rw[hz,if_neg (by simp),decN_bit]
end Go.Sx
namespace Go.Sx
open Go.RowKit
set_option linter.unusedVariables false
set_option linter.unusedSimpArgs false
theorem wS (n:Nat)(h:n < 9223372036854775807):ay ((n:Int)+1)=((n+1:Nat):Int):=by rw[bn] <;> omega
theorem tf1 {a b:Bool}(h1:a=false)(h2:b=false):¬ ((a||b)=true):=by rw[h1,h2];decide
theorem tf2 {a b:Bool}(h1:a=true):(a||b)=true:=by rw[h1];rfl
theorem tf3 {a b:Bool}(h1:b=true):(a||b)=true:=by rw[h1,Bool.or_true]
theorem ft1 {a b:Bool}(h1:a=true)(h2:b=true):(a&&b)=true:=by rw[h1,h2];rfl
theorem ft2 {a b:Bool}(h1:a=false):¬ ((a&&b)=true):=by rw[h1,Bool.false_and];decide
theorem ft3 {a b:Bool}(h1:b=false):¬ ((a&&b)=true):=by rw[h1,Bool.and_false];decide
theorem YW {β:Type}[Inhabited β]{c:Bool}(o:Option β)(h:c=true):Ep c o=o:=by rw[h];rfl
theorem gif0 {β:Type}[Inhabited β]{c:Bool}(o:Option β)(h:c=false):Ep c o=some default:=by rw[h];rfl
theorem QE {β:Type}[Inhabited β](o:Option β):Ep (!false) o=o:=rfl
theorem gifNT {β:Type}[Inhabited β](o:Option β):Ep (!true) o=some default:=rfl
def uS (s:List UInt8):Nat->Bool->List UInt8->Nat×Bool
  | a,ok,[]=>(a,ok)
  | a,ok,c::t=>if ok=true then(if s[a]?=some c then uS s (a+1) true t else(a,false)) else(a,false)
theorem EL (s:List UInt8):∀ (t:List UInt8) (a:Nat) (ok:Bool),a<=s.length->(uS s a ok t).1<=s.length
  | [],a,ok,h=>h
  | c::t,a,ok,h=>by
    unfold uS;split
    ·split
     ·rename_i h1;obtain⟨h2,_⟩:=List.getElem?_eq_some_iff.1 h1;exact EL s t (a+1) true h2
     ·exact h
    ·exact h
theorem XT (s:List UInt8)(a:Nat)(t:List UInt8):uS s a false t=(a,false):=by
  cases t <;> rfl
section
variable (s:List UInt8)(hs:s.length<=4194304)
include hs
theorem PH (t:List UInt8)(ht:t.length<=100)(a:Nat)(ha:a<=s.length)(ok:Bool):iP s (a:Int) ok t=some (s,((uS s a ok t).1:Int),(uS s a ok t).2):=by
  have key:∀ (j i a:Nat),i+j=t.length->a<=s.length->aZ (kL s true t) ((a:Int),(i:Int))=some (s,((uS s a true (t.drop i)).1:Int),(uS s a true (t.drop i)).2):=by
    intro j
    induction j with
    | zero =>
      intro i a hi ha;rw[List.drop_eq_nil_of_le (by omega)];refine je ?_;unfold kL;dsimp only;rw[if_neg (ft2 (decide_eq_false (by omega)))];rfl
    | succ j ih =>
      intro i a hi ha;have hit:i < t.length:=by omega
      rw[List.drop_eq_getElem_cons hit];by_cases hlt:a < s.length
      ·have e1:aT s (a:Int)=some s[a]:=gK hlt;have e2:aT t (i:Int)=some t[i]:=gK hit;have d1:decide ((s.length:Int)<=(a:Int))=false:=decide_eq_false (by omega);by_cases hc:s[a]=t[i]
       ·rw[lX (s':=(((a+1:Nat):Int),((i+1:Nat):Int))) (by
          unfold kL;dsimp only;rw[if_pos (ft1 (decide_eq_true (by omega)) rfl),d1,QE,QE,e1,e2,Option.bind_some,Option.bind_some,if_neg (tf1 rfl (decide_eq_false (fun q=>q hc))),wS a (by omega),wS i (by omega)])]
        rw[ih (i+1) (a+1) (by omega) (by omega)]
        conv=>rhs;unfold uS
        rw[if_pos rfl,if_pos (by rw[List.getElem?_eq_getElem hlt,hc])]
       ·rw[je (r:=(s,(a:Int),false)) (by
          unfold kL;dsimp only;rw[if_pos (ft1 (decide_eq_true (by omega)) rfl),d1,QE,QE,e1,e2,Option.bind_some,Option.bind_some,if_pos (tf3 (decide_eq_true hc))];rfl)]
        unfold uS;rw[if_pos rfl,if_neg (by rw[List.getElem?_eq_getElem hlt];exact fun q=>hc (Option.some.inj q))]
      ·have d1:decide ((s.length:Int)<=(a:Int))=true:=decide_eq_true (by omega);rw[je (r:=(s,(a:Int),false)) (by
         unfold kL;dsimp only;rw[if_pos (ft1 (decide_eq_true (by omega)) rfl),d1,gifNT,gifNT,Option.bind_some,Option.bind_some,if_pos (tf2 rfl)];rfl)]
       unfold uS;rw[if_pos rfl,if_neg (by rw[List.getElem?_eq_none (by omega)];exact fun q=>by cases q)]
  unfold iP;cases ok with
  | true=>exact key t.length 0 a (by omega) ha
  | false =>
    rw[XT];refine je ?_;unfold kL;dsimp only;rw[if_neg (ft3 rfl)];rfl
end
def SS (c:UInt8):Bool:=decide (lt c < 64)
def MK (s:List UInt8)(a:Nat)(ok:Bool):List UInt8:=if ok=true then(s.drop a).takeWhile SS else[]
theorem XU (s:List UInt8)(a:Nat)(ok:Bool)(ha:a<=s.length):a+(MK s a ok).length<=s.length:=by
  unfold MK;split
  ·have:=(List.takeWhile_prefix (p:=SS) (l:=s.drop a)).length_le;rw[List.length_drop] at this;omega
  ·simpa using ha
end Go.Sx
namespace Go.Sx
open Go.RowKit
set_option linter.unusedVariables false
set_option linter.unusedSimpArgs false
theorem slcN (s:List UInt8)(a b:Nat)(h1:a<=b)(h2:b<=s.length):FM s (a:Int) (b:Int)=some ((s.take b).drop a):=yM ⟨by omega,by omega,by omega⟩
theorem isB_chk:∀ c:UInt8,SS c=((((decide (0<=Q4 ([43,47]:List UInt8) c))||((decide ((48:UInt8)<=c))&&(decide (c<=57))))||((decide ((65:UInt8)<=c))&&(decide (c<=90))))||((decide ((97:UInt8)<=c))&&(decide (c<=122)))):=by
  intro c;refine Pz (p:=fun c=>SS c=((((decide (0<=Q4 ([43,47]:List UInt8) c))||((decide ((48:UInt8)<=c))&&(decide (c<=57))))||((decide ((65:UInt8)<=c))&&(decide (c<=90))))||((decide ((97:UInt8)<=c))&&(decide (c<=122))))) ?_ c;decide +kernel
section
variable (s:List UInt8)(hs:s.length<=4194304)
include hs
theorem Ve (a p:Nat)(hp:p < s.length):jM s (a:Int) true (p:Int)=if SS s[p]=true then some (.inl ((p+1:Nat):Int)) else Option.map Sum.inr ((FM s (a:Int) (p:Int)).bind fun t=>some (t,(a:Int),s,(p:Int),true)):=by
  unfold jM;dsimp only;rw[if_pos (ft1 rfl (decide_eq_true (by omega))),gK hp,Option.bind_some,show rq ([43,47]:List UInt8) s[p]=some (Q4 [43,47] s[p]) from rfl,Option.bind_some,wS p (by omega),isB_chk];generalize s[p]=c;cases h1:decide (0<=Q4 ([43,47]:List UInt8) c) with
  | true=>rfl
  | false =>
    rw[QE,Option.bind_some,QE];cases h2:decide ((48:UInt8)<=c) with
    | false =>
      rw[show(Ep false (some c))=some default from rfl,Option.bind_some];rw[show(!(false||(false&&decide ((default:UInt8)<=57))))=true from rfl,show(Ep true (some c))=some c from rfl,Option.bind_some];cases h4:decide ((65:UInt8)<=c) with
      | false =>
        rw[show Ep true (Ep false (some c))=some default from rfl,Option.bind_some];rw[show(!((false||(false&&decide ((default:UInt8)<=57)))||(false&&decide ((default:UInt8)<=90))))=true from rfl,show(Ep true (some c))=some c from rfl,Option.bind_some];cases h6:decide ((97:UInt8)<=c) with
        | false=>rfl
        | true =>
          rw[show Ep true (Ep true (some c))=some c from rfl,Option.bind_some];rfl
      | true =>
        rw[show Ep true (Ep true (some c))=some c from rfl,Option.bind_some];cases h5:decide (c<=90) with
        | true=>rfl
        | false =>
          rw[show(!((false||(false&&decide ((default:UInt8)<=57)))||(true&&false)))=true from rfl,show(Ep true (some c))=some c from rfl,Option.bind_some];cases h6:decide ((97:UInt8)<=c) with
          | false=>rfl
          | true =>
            rw[show Ep true (Ep true (some c))=some c from rfl,Option.bind_some];rfl
    | true =>
      rw[show(Ep true (some c))=some c from rfl,Option.bind_some];cases h3:decide (c<=57) with
      | true=>rfl
      | false =>
        rw[show(!(false||(true&&false)))=true from rfl,show(Ep true (some c))=some c from rfl,Option.bind_some];cases h4:decide ((65:UInt8)<=c) with
        | false =>
          rw[show Ep true (Ep false (some c))=some default from rfl,Option.bind_some];rw[show(!((false||(true&&false))||(false&&decide ((default:UInt8)<=90))))=true from rfl,show(Ep true (some c))=some c from rfl,Option.bind_some];cases h6:decide ((97:UInt8)<=c) with
          | false=>rfl
          | true =>
            rw[show Ep true (Ep true (some c))=some c from rfl,Option.bind_some];rfl
        | true =>
          rw[show Ep true (Ep true (some c))=some c from rfl,Option.bind_some];cases h5:decide (c<=90) with
          | true=>rfl
          | false =>
            rw[show(!((false||(true&&false))||(true&&false)))=true from rfl,show(Ep true (some c))=some c from rfl,Option.bind_some];cases h6:decide ((97:UInt8)<=c) with
            | false=>rfl
            | true =>
              rw[show Ep true (Ep true (some c))=some c from rfl,Option.bind_some]
omit hs in
theorem tkw (a:Nat)(h:a<=s.length):((s.take (a+((s.drop a).takeWhile SS).length)).drop a)=(s.drop a).takeWhile SS:=by
  rw[List.drop_take];have h1:=(List.takeWhile_prefix (p:=SS) (l:=s.drop a))
  have:a+((s.drop a).takeWhile SS).length - a=((s.drop a).takeWhile SS).length:=by omega
  rw[this];exact(List.prefix_iff_eq_take.1 h1).symm
theorem let_p (a:Nat)(ha:a<=s.length)(ok:Bool):mD s (a:Int) ok=some (MK s a ok,(a:Int),s,((a+(MK s a ok).length:Nat):Int),ok):=by
  unfold mD MK;cases ok with
  | true =>
    rw[if_pos rfl];have key:∀ (j p:Nat),p+j=s.length->a<=p->aZ (jM s (a:Int) true) (p:Int)=some (((s.take (p+((s.drop p).takeWhile SS).length)).drop a),(a:Int),s,((p+((s.drop p).takeWhile SS).length:Nat):Int),true):=by
      intro j
      induction j with
      | zero =>
        intro p hp hap;obtain rfl:p=s.length:=by omega
        rw[List.drop_length];refine je ?_;unfold jM;dsimp only;rw[if_neg (ft3 (decide_eq_false (by omega))),slcN s a s.length ha (by omega)];rfl
      | succ j ih =>
        intro p hp hap;have hp':p < s.length:=by omega
        rw[List.drop_eq_getElem_cons hp'];cases hb:SS s[p] with
        | true =>
          rw[lX (by rw[Ve s hs a p hp',hb];rfl),ih (p+1) (by omega) (by omega),List.takeWhile_cons,if_pos hb,List.length_cons,show p+1+((s.drop (p+1)).takeWhile SS).length=p+(((s.drop (p+1)).takeWhile SS).length+1) from by omega]
        | false =>
          rw[List.takeWhile_cons,if_neg (by rw[hb];decide)];refine je ?_;rw[Ve s hs a p hp',hb,if_neg (by decide),slcN s a p hap (by omega)];rfl
    rw[key (s.length - a) a (by omega) (Nat.le_refl _),tkw s a ha]
  | false =>
    rw[if_neg (by decide)];refine je ?_;unfold jM;dsimp only;rw[if_neg (ft2 rfl),slcN s a a (Nat.le_refl _) ha];simp
end
end Go.Sx
namespace Go.Sx
open Go.RowKit
set_option linter.unusedVariables false
set_option linter.unusedSimpArgs false
def dv (c:UInt8):UInt64:=UInt64.ofNat (c - 48).toNat
def Y1 (c:UInt8):Bool:=decide ((48:UInt8)<=c)&&decide (c<=57)
def Cb:List UInt8->Bool->UInt64->UInt64×Nat×Bool
  | [],st,v=>(v,0,st)
  | c::l,st,v=>if Y1 c=true then(if((st&&decide (v=0))||decide (((18446744073709551615:UInt64) - dv c) / 10 < v))=true then(0,0,false) else((Cb l true (10*v+dv c)).1,(Cb l true (10*v+dv c)).2.1+1,(Cb l true (10*v+dv c)).2.2)) else(v,0,st)
theorem XV:∀ (l:List UInt8) (st:Bool) (v:UInt64),(Cb l st v).2.1<=l.length
  | [],st,v=>Nat.le_refl _
  | c::l,st,v=>by
    unfold Cb;split
    ·split
     ·exact Nat.zero_le _
     ·have:=XV l true (10*v+dv c);simp only[List.length_cons];omega
    ·exact Nat.zero_le _
def Ld (s:List UInt8)(a:Nat)(ok:Bool):UInt64×Nat×Bool:=if ok=true then((Cb (s.drop a) false 0).1,a+(Cb (s.drop a) false 0).2.1,(Cb (s.drop a) false 0).2.2) else(0,a,false)
theorem SX (s:List UInt8)(a:Nat)(ok:Bool)(ha:a<=s.length):(Ld s a ok).2.1<=s.length:=by
  unfold Ld;split
  ·have:=XV (s.drop a) false 0;rw[List.length_drop] at this;show a+_<=_;omega
  ·exact ha
theorem dv_lt (c:UInt8)(h:Y1 c=true):(dv c).toNat<=9:=by
  have key:∀ n:Nat,n < 256->Y1 (UInt8.ofNat n)=true->(dv (UInt8.ofNat n)).toNat<=9:=by decide +kernel
  have:=Pz (p:=fun c=>Y1 c=true->(dv c).toNat<=9) key c;exact this h
section
variable (s:List UInt8)(hs:s.length<=4194304)
include hs
theorem num_p (a:Nat)(ha:a<=s.length)(ok:Bool):lG s (a:Int) ok=some ((Ld s a ok).1,s,((Ld s a ok).2.1:Int),(Ld s a ok).2.2):=by
  have key:∀ (j p:Nat) (v:UInt64),p+j=s.length->a<=p->aZ (jD s (a:Int)) ((p:Int),v)=some ((Cb (s.drop p) (decide (a < p)) v).1,s,((p+(Cb (s.drop p) (decide (a < p)) v).2.1:Nat):Int),(Cb (s.drop p) (decide (a < p)) v).2.2):=by
    intro j
    induction j with
    | zero =>
      intro p v hp hap;obtain rfl:p=s.length:=by omega
      rw[List.drop_length];refine je ?_;unfold jD;dsimp only;have d1:decide ((s.length:Int) < (s.length:Int))=false:=decide_eq_false (by omega);rw[d1,gif0 _ rfl,Option.bind_some,Bool.false_and,gif0 _ rfl,Option.bind_some,if_neg (by decide)];rw[show decide ((a:Int) < (s.length:Int))=decide (a < s.length) from decide_eq_decide.2 (by omega)];rfl
    | succ j ih =>
      intro p v hp hap;have hp':p < s.length:=by omega
      rw[List.drop_eq_getElem_cons hp'];have d1:decide ((p:Int) < (s.length:Int))=true:=decide_eq_true (by omega);have d2:decide ((a:Int) < (p:Int))=decide (a < p):=decide_eq_decide.2 (by omega);have stepD:Y1 s[p]=true->jD s (a:Int) ((p:Int),v)=if((decide (a < p)&&decide (v=0))||decide (((18446744073709551615:UInt64) - dv s[p]) / 10 < v))=true then some (.inr (0,s,(p:Int),false)) else some (.inl (((p+1:Nat):Int),10*v+dv s[p])):=by
        intro hD;unfold Y1 at hD;rw[Bool.and_eq_true] at hD;unfold jD;dsimp only;rw[d1,YW _ rfl,gK hp',Option.bind_some,hD.1,YW (c:=true&&true) _ rfl,Option.bind_some,hD.2,if_pos (by rfl),Option.bind_some,d2,wS p (by omega)];rfl
      have stepN:Y1 s[p]=false->jD s (a:Int) ((p:Int),v)=some (.inr (v,s,(p:Int),decide (a < p))):=by
        intro hD;unfold Y1 at hD;unfold jD;dsimp only;rw[d1,YW _ rfl,gK hp',Option.bind_some,d2];cases h1:decide ((48:UInt8)<=s[p]) with
        | false =>
          rw[gif0 (c:=true&&false) _ rfl,Option.bind_some,if_neg (ft2 (a:=true&&false) rfl)];rfl
        | true =>
          rw[YW (c:=true&&true) _ rfl,Option.bind_some];rw[h1,Bool.true_and] at hD;rw[if_neg (ft3 hD)];rfl
      cases hD:Y1 s[p] with
      | false =>
        rw[je (stepN hD)]
        conv=>rhs;unfold Cb
        rw[hD];rfl
      | true =>
        unfold Cb;rw[if_pos hD];by_cases hc:((decide (a < p)&&decide (v=0))||decide (((18446744073709551615:UInt64) - dv s[p]) / 10 < v))=true
        ·rw[je ((stepD hD).trans (if_pos hc)),if_pos hc];rfl
        ·rw[lX ((stepD hD).trans (if_neg hc)),if_neg hc,ih (p+1) _ (by omega) (by omega),show decide (a < p+1)=true from decide_eq_true (by omega)];dsimp only;rw[show p+1+(Cb (s.drop (p+1)) true (10*v+dv s[p])).2.1=p+((Cb (s.drop (p+1)) true (10*v+dv s[p])).2.1+1) from by omega]
  unfold lG Ld;cases ok with
  | false=>rfl
  | true =>
    rw[if_neg (by decide),if_pos rfl,key (s.length - a) a 0 (by omega) (Nat.le_refl _),show decide (a < a)=false from decide_eq_false (by omega)]
end
end Go.Sx
namespace Go.Sx
open Go.RowKit
set_option linter.unusedVariables false
set_option linter.unusedSimpArgs false
def sJ (K M P L T:Int):Prop:=(0<=K/\K<=2)/\(1<=L/\L<=8)/\(1<=P/\P<=16)/\(4<=T/\T<=1024)/\(8*L<=M/\M<=4096)
instance (K M P L T:Int):Decidable (sJ K M P L T):=by unfold sJ;infer_instance
def zY (K M P L T:Int)(n:Nat):Int:=if sJ K M P L T then(if n < 8∨64 < n then 201 else 0) else 200
theorem may_loop (M L:Int)(r:List (Int×Int×Int))(hr:r.length<=100):∀ (j i:Nat),i+j=r.length->aZ (rE M L r) (i:Int)=some ((r.drop i).all (fun x=>decide (x.2.1<=x.1/\x.1<=x.2.2))&&decide (ay (8*L)<=M)):=by
  intro j
  induction j with
  | zero =>
    intro i hi;rw[List.drop_eq_nil_of_le (by omega)];refine je ?_;unfold rE;dsimp only;rw[if_neg (by omega)];rfl
  | succ j ih =>
    intro i hi;have hi':i < r.length:=by omega
    rw[List.drop_eq_getElem_cons hi',List.all_cons];by_cases hb:r[i].2.1<=r[i].1/\r[i].1<=r[i].2.2
    ·rw[lX (s':=((i+1:Nat):Int)) (by
       unfold rE;dsimp only;rw[if_pos (by omega),gK hi',Option.bind_some,if_neg (tf1 (decide_eq_false (by omega)) (decide_eq_false (by omega))),wS i (by omega)])]
     rw[ih (i+1) (by omega),decide_eq_true hb,Bool.true_and]
    ·rw[decide_eq_false hb,Bool.false_and,Bool.false_and];refine je ?_;unfold rE;dsimp only;rw[if_pos (by omega),gK hi',Option.bind_some,if_pos (by
       by_cases h1:r[i].1 < r[i].2.1
       ·exact tf2 (decide_eq_true h1)
       ·exact tf3 (decide_eq_true (by omega)))]
     rfl
theorem WX (K M P L T:Int):yw K M P L T=some (decide (sJ K M P L T)):=by
  unfold yw yO;rw[Option.bind_some];refine(may_loop M L [(K,0,2),(L,1,8),(P,1,16),(T,4,1024),(M,8,4096)] (by simp) 5 0 rfl).trans ?_;congr 1;rw[List.drop_zero];simp only[List.all_cons,List.all_nil,Bool.and_true];unfold sJ;by_cases hL:1<=L/\L<=8
  ·rw[show ay (8*L)=8*L from by rw[bn] <;> omega];rw[<- Bool.decide_and,<-Bool.decide_and,<-Bool.decide_and,<-Bool.decide_and,<-Bool.decide_and];exact decide_eq_decide.2 (by omega)
  ·rw[decide_eq_false (p:=((1:Int)<=L/\L<=8)) hL,Bool.false_and,Bool.and_false,Bool.false_and];exact(decide_eq_false (by omega)).symm
theorem SY (K M P L T:Int)(aO:List UInt8):qM K M P L T aO=some (zY K M P L T aO.length):=by
  unfold qM zY;rw[WX,Option.bind_some];by_cases h:sJ K M P L T
  ·rw[decide_eq_true h,if_neg (by decide),if_pos h];by_cases h2:aO.length < 8∨64 < aO.length
   ·rw[if_pos h2,if_pos (by
      rcases h2 with q | q
      ·exact tf2 (decide_eq_true (by omega))
      ·exact tf3 (decide_eq_true (by omega)))]
   ·rw[if_neg h2,if_neg (tf1 (decide_eq_false (by omega)) (decide_eq_false (by omega)))]
  ·rw[decide_eq_false h,if_pos (by decide),if_neg h]
theorem S9 (K M P L T:Int)(aO:List UInt8):vk K M P L T aO=some (zY K M P L T aO.length):=by
  have hv:mY K M P L T=some (if sJ K M P L T then 0 else 200):=by
    unfold mY;by_cases h:sJ K M P L T
    ·rw[if_pos h];unfold sJ at h;rw[show ay (8*L)=8*L from by rw[bn] <;> omega];rw[if_neg (by simp only[Bool.or_eq_true,decide_eq_true_eq];omega)]
    ·rw[if_neg h];unfold sJ at h;by_cases hL:1<=L/\L<=8
     ·rw[show ay (8*L)=8*L from by rw[bn] <;> omega];rw[if_pos (by simp only[Bool.or_eq_true,decide_eq_true_eq];omega)]
     ·rw[if_pos (by simp only[Bool.or_eq_true,decide_eq_true_eq];omega)]
  unfold vk zY;rw[hv,Option.bind_some];by_cases h:sJ K M P L T
  ·rw[if_pos h,if_neg (by decide),if_pos h];by_cases h2:aO.length < 8∨64 < aO.length
   ·rw[if_pos h2,if_pos (by
      rcases h2 with q | q
      ·exact tf2 (decide_eq_true (by omega))
      ·exact tf3 (decide_eq_true (by omega)))]
   ·rw[if_neg h2,if_neg (tf1 (decide_eq_false (by omega)) (decide_eq_false (by omega)))]
  ·rw[if_neg h,if_pos (by decide),if_neg h]
theorem pcheck (K M P L T:Int)(aO sum:List UInt8):v_ K M P L T aO sum=some (if zY K M P L T aO.length≠0 then zY K M P L T aO.length else if((sum.length:Nat):Int)≠T then 1 else 0):=by
  unfold v_;rw[SY,Option.bind_some];split
  ·rfl
  ·split <;> rfl
theorem dig_loop:∀ (m:Nat) (n:UInt64) (l:List UInt8),n.toNat<=m->l.length<=1000000000->aZ pJ (n,l)=some (Lib.decDigits n.toNat++l)∨1000000000<=l.length+m:=by
  intro m
  induction m with
  | zero =>
    intro n l hm hl;left;have hn:n=0:=UInt64.toNat_inj.1 (by rw[show(0:UInt64).toNat=0 from rfl];omega);subst hn;refine je ?_;unfold pJ;dsimp only;rw[jy (by simp only[List.length_cons,List.length_nil];omega),Option.bind_some,if_pos (by decide)];rw[show Lib.decDigits (0:UInt64).toNat=[48] from by rw[show(0:UInt64).toNat=0 from rfl,Lib.decDigits,dif_pos (by omega)];rfl];rfl
  | succ m ih =>
    intro n l hm hl;have hd:(n / 10).toNat=n.toNat / 10:=by rw[UInt64.toNat_div];rfl
    have hmd:((48:UInt64)+n % 10).toNat=48+n.toNat % 10:=by
      rw[UInt64.toNat_add,UInt64.toNat_mod,show(48:UInt64).toNat=48 from rfl,show(10:UInt64).toNat=10 from rfl];omega
    by_cases h10:n.toNat < 10
    ·left;refine je ?_;unfold pJ;dsimp only;rw[jy (by simp only[List.length_cons,List.length_nil];omega),Option.bind_some,if_pos (UInt64.toNat_inj.1 (by rw[hd];show n.toNat / 10=0;omega)),hmd,Lib.decDigits,dif_pos h10,Nat.mod_eq_of_lt h10];rfl
    ·have hne:¬ n / 10=0:=fun q=>by
       have:=congrArg UInt64.toNat q;rw[hd,show(0:UInt64).toNat=0 from rfl] at this;omega
     have step:pJ (n,l)=some (.inl (n / 10,[UInt8.ofNat (48+n.toNat % 10)]++l)):=by
       unfold pJ;dsimp only;rw[jy (by simp only[List.length_cons,List.length_nil];omega),Option.bind_some,if_neg hne,hmd]
     rw[lX step];by_cases hl2:l.length+(m+1) < 1000000000
     ·rcases ih (n / 10) ([UInt8.ofNat (48+n.toNat % 10)]++l) (by rw[hd];omega) (by simp only[List.length_append,List.length_cons,List.length_nil];omega) with q | q
      ·left;rw[q,hd]
       conv=>rhs;rw[Lib.decDigits,dif_neg h10]
       rw[List.append_assoc]
      ·simp only[List.length_append,List.length_cons,List.length_nil] at q;omega
     ·right;omega
theorem ML (n:Nat)(h:n<=4096):yQ (UInt64.ofInt (n:Int))=some (Lib.decDigits n):=by
  have e:(UInt64.ofInt (n:Int)).toNat=n:=by
    have:UInt64.ofInt (n:Int)=UInt64.ofNat n:=by
      rw[<- UInt64.toNat_inj];unfold UInt64.ofInt;simp;omega
    rw[this,UInt64.toNat_ofNat_of_lt' (by show n < 18446744073709551616;omega)]
  unfold yQ;rcases dig_loop n (UInt64.ofInt (n:Int)) [] (by omega) (by simp) with q | q
  ·rw[q,e,List.append_nil]
  ·simp only[List.length_nil] at q;omega
theorem Gv:∀ n:Nat,(Lib.decDigits n).length<=n+1:=by
  intro n
  induction n using Nat.strongRecOn with
  | _ n ih =>
    rw[Lib.decDigits];split
    ·simp
    ·rw[List.length_append];have:=ih (n / 10) (by omega);simp only[List.length_cons,List.length_nil];omega
theorem itoa_ok (n:Nat):Lib.itoa (n:Int)=Lib.decDigits n:=by
  unfold Lib.itoa;rw[if_neg (by omega)];rfl
def kdS (K:Int):List UInt8:=if K=0 then[100] else if K=1 then[105] else[105,100]
def textS (K:Int)(M P L:Nat)(aO sum:List UInt8):List UInt8 :=
  ((((((((((([36,97,114,103,111,110,50]:List UInt8)++kdS K)++([36,118,61,49,57,36,109,61]:List UInt8))++Lib.decDigits M)++([44,116,61]:List UInt8))++Lib.decDigits P)++([44,112,61]:List UInt8))++Lib.decDigits L)++([36]:List UInt8))++enc aO)++([36]:List UInt8))++enc sum
def Ik (K M P L T:Int)(aO sum:List UInt8):List UInt8×Int:=if zY K M P L T aO.length≠0 then([],zY K M P L T aO.length) else if((sum.length:Nat):Int)≠T then([],1) else(textS K M.toNat P.toNat L.toNat aO sum,0)
theorem YX {K M P L T:Int}{n:Nat}(h:zY K M P L T n=0):sJ K M P L T/\8<=n/\n<=64:=by
  unfold zY at h;split at h
  ·split at h
   ·cases h
   ·exact⟨by assumption,by omega,by omega⟩
  ·cases h
theorem XW {K:Int}(h:0<=K/\K<=2):aT ([([100]:List UInt8),([105]:List UInt8),([105,100]:List UInt8)]:List (List UInt8)) K=some (kdS K):=by
  obtain rfl | rfl | rfl:K=0∨K=1∨K=2:=by omega
  ·rfl
  ·rfl
  ·rfl
theorem WY (K:Int):(kdS K).length<=2:=by
  unfold kdS;split
  ·decide
  ·split <;> decide
theorem print_p (K M P L T:Int)(aO sum:List UInt8):yP K M P L T aO sum=some (Ik K M P L T aO sum):=by
  unfold yP Ik;rw[pcheck,Option.bind_some];by_cases h0:zY K M P L T aO.length≠0
  ·rw[if_pos h0,if_pos h0,if_pos h0]
  ·rw[if_neg h0,if_neg h0];by_cases h1:((sum.length:Nat):Int)≠T
   ·rw[if_pos h1,if_pos h1,if_pos (by decide)]
   ·rw[if_neg h1,if_neg h1,if_neg (by decide)];obtain⟨hm,hs1,hs2⟩:=YX (Classical.not_not.1 h0);have hT:=Classical.not_not.1 h1;unfold sJ at hm;obtain⟨M,rfl⟩:∃ m:Nat,M=(m:Int):=⟨M.toNat,by omega⟩
    obtain⟨P,rfl⟩:∃ m:Nat,P=(m:Int):=⟨P.toNat,by omega⟩
    obtain⟨L,rfl⟩:∃ m:Nat,L=(m:Int):=⟨L.toNat,by omega⟩
    have hM:=Gv M;have hP:=Gv P;have hL:=Gv L;have hk:=WY K;have hes:=Gu aO;have heu:=Gu sum;rw[show Bi K=some (kdS K) from by
      unfold Bi;rw[show(⟨[([100]:List UInt8),([105]:List UInt8),([105,100]:List UInt8)],rfl⟩:Vec (List UInt8) 3).l=[([100]:List UInt8),([105]:List UInt8),([105,100]:List UInt8)] from rfl,XW hm.1];rfl,Option.bind_some]
    simp only[itoa_ok];rw[XQ aO (by omega),XQ sum (by omega)];have hb:∀ n:Nat,n<=1000000->n<=9223372036854775807:=fun n h=>by omega
    iterate 11 rw[jy (by first | exact⟨by omega,by omega⟩ | (refine hb _ ?_;simp only[List.length_append,List.length_cons,List.length_nil];omega)),Option.bind_some]
    rw[Option.bind_some]
    iterate 2 rw[jy (by refine hb _ ?_;simp only[List.length_append,List.length_cons,List.length_nil];omega),Option.bind_some]
    rw[Option.bind_some];rw[jy (by refine hb _ ?_;simp only[List.length_append,List.length_cons,List.length_nil];omega),Option.bind_some];rfl
theorem print_r (K M P L T:Int)(aO sum:List UInt8):Hm K M P L T aO sum=some (Ik K M P L T aO sum):=by
  unfold Hm Ik;rw[S9,Option.bind_some];by_cases h0:zY K M P L T aO.length≠0
  ·rw[if_pos h0,if_pos h0]
  ·rw[if_neg h0,if_neg h0];by_cases h1:((sum.length:Nat):Int)≠T
   ·rw[if_pos h1,if_pos h1]
   ·rw[if_neg h1,if_neg h1];obtain⟨hm,hs1,hs2⟩:=YX (Classical.not_not.1 h0);have hT:=Classical.not_not.1 h1;unfold sJ at hm;obtain⟨M,rfl⟩:∃ m:Nat,M=(m:Int):=⟨M.toNat,by omega⟩
    obtain⟨P,rfl⟩:∃ m:Nat,P=(m:Int):=⟨P.toNat,by omega⟩
    obtain⟨L,rfl⟩:∃ m:Nat,L=(m:Int):=⟨L.toNat,by omega⟩
    have hM:=Gv M;have hP:=Gv P;have hL:=Gv L;have hk:=WY K;have hes:=Gu aO;have heu:=Gu sum;rw[XW hm.1,Option.bind_some,ML M (by omega),ML P (by omega),ML L (by omega),XP aO (by omega),XP sum (by omega)];have hb:∀ n:Nat,n<=1000000->n<=9223372036854775807:=fun n h=>by omega
    iterate 2 rw[jy (by refine hb _ ?_;simp only[List.length_append,List.length_cons,List.length_nil];omega),Option.bind_some]
    rw[Option.bind_some]
    iterate 2 rw[jy (by refine hb _ ?_;simp only[List.length_append,List.length_cons,List.length_nil];omega),Option.bind_some]
    rw[Option.bind_some]
    iterate 2 rw[jy (by refine hb _ ?_;simp only[List.length_append,List.length_cons,List.length_nil];omega),Option.bind_some]
    rw[Option.bind_some]
    iterate 2 rw[jy (by refine hb _ ?_;simp only[List.length_append,List.length_cons,List.length_nil];omega),Option.bind_some]
    rw[Option.bind_some]
    iterate 2 rw[jy (by refine hb _ ?_;simp only[List.length_append,List.length_cons,List.length_nil];omega),Option.bind_some]
    rw[Option.bind_some];rw[jy (by refine hb _ ?_;simp only[List.length_append,List.length_cons,List.length_nil];omega),Option.bind_some];rfl
end Go.Sx
namespace Go.Sx
open Go.RowKit
set_option linter.unusedVariables false
set_option linter.unusedSimpArgs false
theorem hpre2 (l:List UInt8)(hl:l.length<=4194304):jg l ([105,100]:List UInt8)=some (decide (l[0]?=some 105/\l[1]?=some 100)):=by
  unfold jg iQ
  match l,hl with
  | [],_=>rfl
  | [x],_ =>
    rw[show decide (((([105,100]:List UInt8).length:Nat):Int)<=(([x].length:Nat):Int))=false from rfl,gif0 _ rfl,Option.bind_some,Option.bind_some];congr 1;exact(decide_eq_false (fun q=>by cases q.2)).symm
  | x::y::r,hl =>
    have hd:decide (((([105,100]:List UInt8).length:Nat):Int)<=(((x::y::r).length:Nat):Int))=true:=decide_eq_true (by simp only[List.length_cons,List.length_nil];omega);rw[hd,YW _ rfl,show FM (x::y::r) 0 ((([105,100]:List UInt8).length:Nat):Int)=some [x,y] from by rw[yM ⟨by omega,by simp,by simp only[List.length_cons,List.length_nil];omega⟩];rfl,Option.bind_some,Option.bind_some,Bool.true_and];congr 1;refine decide_eq_decide.2 ⟨fun q=>?_,fun q=>?_⟩
    ·injection q with q1 q2;injection q2 with q3 q4;exact⟨by rw[<- q1];rfl,by rw[<- q3];rfl⟩
    ·have q1:=Option.some.inj q.1;have q2:=Option.some.inj q.2;rw[q1,q2]
theorem hpre1 (l:List UInt8)(hl:l.length<=4194304):jg l ([105]:List UInt8)=some (decide (l[0]?=some 105)):=by
  unfold jg iQ
  match l,hl with
  | [],_=>rfl
  | x::r,hl =>
    have hd:decide (((([105]:List UInt8).length:Nat):Int)<=(((x::r).length:Nat):Int))=true:=decide_eq_true (by simp only[List.length_cons,List.length_nil];omega);rw[hd,YW _ rfl,show FM (x::r) 0 ((([105]:List UInt8).length:Nat):Int)=some [x] from by rw[yM ⟨by omega,by simp,by simp only[List.length_cons,List.length_nil];omega⟩];rfl,Option.bind_some,Option.bind_some,Bool.true_and];congr 1;refine decide_eq_decide.2 ⟨fun q=>?_,fun q=>?_⟩
    ·injection q with q1 q2;rw[<- q1];rfl
    ·have q1:=Option.some.inj q;rw[q1]
def Il (s:List UInt8)(a:Nat)(ok:Bool):Int×Nat×Bool :=
  if ok=true then(if s[a]?=some 105 then(if s[a+1]?=some 100 then(2,a+2,true) else(1,a+1,true)) else if s[a]?=some 100 then(0,a+1,true) else(0,a,false)) else(0,a,false)
theorem kindS_le (s:List UInt8)(a:Nat)(ok:Bool)(ha:a<=s.length):(Il s a ok).2.1<=s.length:=by
  unfold Il;split
  ·split
   ·rename_i h;obtain⟨h2,_⟩:=List.getElem?_eq_some_iff.1 h;split
    ·rename_i h;obtain⟨h3,_⟩:=List.getElem?_eq_some_iff.1 h;show a+2<=_;omega
    ·show a+1<=_;omega
   ·split
    ·rename_i h;obtain⟨h3,_⟩:=List.getElem?_eq_some_iff.1 h;show a+1<=_;omega
    ·exact ha
  ·exact ha
section
variable (s:List UInt8)(hs:s.length<=4194304)
include hs
theorem parse_k:p_ s=jh s s ((Il s (uS s 0 true [36,97,114,103,111,110,50]).1 (uS s 0 true [36,97,114,103,111,110,50]).2).2.1:Int) (Il s (uS s 0 true [36,97,114,103,111,110,50]).1 (uS s 0 true [36,97,114,103,111,110,50]).2).2.2 (Il s (uS s 0 true [36,97,114,103,111,110,50]).1 (uS s 0 true [36,97,114,103,111,110,50]).2).1:=by
  have h1:=PH s hs ([36,97,114,103,111,110,50]:List UInt8) (by decide) 0 (by omega) true;have hle:=EL s [36,97,114,103,111,110,50] 0 true (by omega);unfold p_;rw[show(0:Int)=((0:Nat):Int) from rfl,h1,Option.bind_some];generalize uS s 0 true [36,97,114,103,111,110,50]=x at hle ⊢;obtain⟨a,ok⟩:=x;dsimp only at hle ⊢;have hd:FM s (a:Int) (s.length:Int)=some (s.drop a):=by rw[slcN s a s.length hle (Nat.le_refl _),List.take_length]
  have hdl:(s.drop a).length<=4194304:=by rw[List.length_drop];omega
  have g0:(s.drop a)[0]?=s[a]?:=by rw[List.getElem?_drop,Nat.add_zero]
  have g1:(s.drop a)[1]?=s[a+1]?:=by rw[List.getElem?_drop]
  have hlit:=PH s hs ([100]:List UInt8) (by decide) a hle ok;cases ok with
  | false =>
    rw[if_neg (by decide),if_neg (by decide),hlit,Option.bind_some,XT];rfl
  | true =>
    rw[if_pos rfl,hd,Option.bind_some,hpre2 _ hdl,Option.bind_some,g0,g1];unfold Il;rw[if_pos rfl];by_cases Vf:s[a]?=some 105
    ·obtain⟨hl1,_⟩:=List.getElem?_eq_some_iff.1 Vf;by_cases Qe:s[a+1]?=some 100
     ·obtain⟨hl2,_⟩:=List.getElem?_eq_some_iff.1 Qe;rw[if_pos (decide_eq_true ⟨Vf,Qe⟩),if_pos Vf,if_pos Qe,show ay ((a:Int)+2)=((a+2:Nat):Int) from by rw[bn] <;> omega];rfl
     ·rw[if_neg (by rw[decide_eq_false (fun q=>Qe q.2)];decide),if_pos rfl,Option.bind_some,hpre1 _ hdl,Option.bind_some,g0,if_pos (decide_eq_true Vf),if_pos Vf,if_neg Qe,wS a (by omega)]
    ·rw[if_neg (by rw[decide_eq_false (fun q=>Vf q.1)];decide),if_pos rfl,Option.bind_some,hpre1 _ hdl,Option.bind_some,g0,if_neg (by rw[decide_eq_false Vf];decide),hlit,Option.bind_some,if_neg Vf];unfold uS;rw[if_pos rfl];by_cases Qe:s[a]?=some 100
     ·rw[if_pos Qe,if_pos Qe];rfl
     ·rw[if_neg Qe,if_neg Qe];rfl
end
end Go.Sx
namespace Go.Sx
open Go.RowKit
set_option linter.unusedVariables false
set_option linter.unusedSimpArgs false
def Vw (v:UInt64):Int:=if(9223372036854775807:UInt64) < v then -1 else ay (v.toNat:Int)
theorem wh_p (v:UInt64):sQ v=some (Vw v):=by
  unfold sQ Vw;split <;> rfl
def finS (s:List UInt8)(k w1 w2 w3:Int)(p4:Nat)(t1:List UInt8)(p5:Nat)(t2:List UInt8)(p6:Nat)(ok:Bool):Int×Int×Int×Int×Int×List UInt8×List UInt8×Int×Int :=
  if((!ok)||(decide ((p6:Int) < (s.length:Int))))=true then(0,0,0,0,0,[],[],(p6:Int),4)
  else if(yH t1).2.2≠0 then(0,0,0,0,0,[],[],(p4:Int),4)
  else if(yH t2).2.2≠0 then(0,0,0,0,0,[],[],(p5:Int),4)
  else if zY k w1 w2 w3 (((yH t2).1.length:Nat):Int) (yH t1).1.length≠0 then(0,0,0,0,0,[],[],0,1)
  else(k,w1,w2,w3,(((yH t2).1.length:Nat):Int),(yH t1).1,(yH t2).1,0,0)
def midS (s:List UInt8)(k:Int)(a:Nat)(ok:Bool):Int×Int×Int×Int×Int×List UInt8×List UInt8×Int×Int :=
  let x1:=uS s a ok [36,118,61,49,57,36,109,61]
  let n1:=Ld s x1.1 x1.2
  let x2:=uS s n1.2.1 n1.2.2 [44,116,61]
  let n2:=Ld s x2.1 x2.2
  let x3:=uS s n2.2.1 n2.2.2 [44,112,61]
  let n3:=Ld s x3.1 x3.2
  let x4:=uS s n3.2.1 n3.2.2 [36]
  let t1:=MK s x4.1 x4.2
  let x5:=uS s (x4.1+t1.length) x4.2 [36]
  let t2:=MK s x5.1 x5.2
  finS s k (Vw n1.1) (Vw n2.1) (Vw n3.1) x4.1 t1 x5.1 t2 (x5.1+t2.length) x5.2
def MM (s:List UInt8):Int×Int×Int×Int×Int×List UInt8×List UInt8×Int×Int :=
  midS s (Il s (uS s 0 true [36,97,114,103,111,110,50]).1 (uS s 0 true [36,97,114,103,111,110,50]).2).1 (Il s (uS s 0 true [36,97,114,103,111,110,50]).1 (uS s 0 true [36,97,114,103,111,110,50]).2).2.1 (Il s (uS s 0 true [36,97,114,103,111,110,50]).1 (uS s 0 true [36,97,114,103,111,110,50]).2).2.2
section
variable (s:List UInt8)(hs:s.length<=4194304)
include hs
theorem XX (a:Nat)(ok:Bool):(MK s a ok).length<=4194304:=by
  unfold MK;split
  ·have:=(List.takeWhile_prefix (p:=SS) (l:=s.drop a)).length_le;rw[List.length_drop] at this;omega
  ·exact Nat.zero_le _
theorem mid_p (k:Int)(a:Nat)(ha:a<=s.length)(ok:Bool):jh s s (a:Int) ok k=some (midS s k a ok):=by
  unfold jh midS;dsimp only;rw[PH s hs _ (by decide) a ha ok,Option.bind_some];have h1:=EL s [36,118,61,49,57,36,109,61] a ok ha;generalize uS s a ok [36,118,61,49,57,36,109,61]=x1 at h1 ⊢;dsimp only;rw[num_p s hs x1.1 h1 x1.2,Option.bind_some];have h2:=SX s x1.1 x1.2 h1;generalize Ld s x1.1 x1.2=n1 at h2 ⊢;dsimp only;rw[wh_p,Option.bind_some,PH s hs _ (by decide) n1.2.1 h2 n1.2.2,Option.bind_some];have h3:=EL s [44,116,61] n1.2.1 n1.2.2 h2;generalize uS s n1.2.1 n1.2.2 [44,116,61]=x2 at h3 ⊢;dsimp only;rw[num_p s hs x2.1 h3 x2.2,Option.bind_some];have h4:=SX s x2.1 x2.2 h3;generalize Ld s x2.1 x2.2=n2 at h4 ⊢;dsimp only;rw[wh_p,Option.bind_some,PH s hs _ (by decide) n2.2.1 h4 n2.2.2,Option.bind_some];have h5:=EL s [44,112,61] n2.2.1 n2.2.2 h4;generalize uS s n2.2.1 n2.2.2 [44,112,61]=x3 at h5 ⊢;dsimp only;rw[num_p s hs x3.1 h5 x3.2,Option.bind_some];have h6:=SX s x3.1 x3.2 h5;generalize Ld s x3.1 x3.2=n3 at h6 ⊢;dsimp only;rw[wh_p,Option.bind_some,PH s hs _ (by decide) n3.2.1 h6 n3.2.2,Option.bind_some];have h7:=EL s [36] n3.2.1 n3.2.2 h6;generalize uS s n3.2.1 n3.2.2 [36]=x4 at h7 ⊢;dsimp only;rw[let_p s hs x4.1 h7 x4.2,Option.bind_some];have h8:=XU s x4.1 x4.2 h7;have l1:=XX s hs x4.1 x4.2;generalize MK s x4.1 x4.2=t1 at h8 l1 ⊢;dsimp only;rw[PH s hs _ (by decide) (x4.1+t1.length) h8 x4.2,Option.bind_some];have h9:=EL s [36] (x4.1+t1.length) x4.2 h8
  generalize uS s (x4.1+t1.length) x4.2 [36]=x5 at h9 ⊢;dsimp only;rw[let_p s hs x5.1 h9 x5.2,Option.bind_some];have h10:=XU s x5.1 x5.2 h9;have l2:=XX s hs x5.1 x5.2;generalize MK s x5.1 x5.2=t2 at h10 l2 ⊢;dsimp only;unfold finS;split
  ·rfl
  ·rw[wunb64 t1 l1,Option.bind_some];split
   ·rfl
   ·rw[wunb64 t2 l2,Option.bind_some];split
    ·rfl
    ·rw[pcheck,Option.bind_some];by_cases hc:zY k (Vw n1.1) (Vw n2.1) (Vw n3.1) (((yH t2).1.length:Nat):Int) (yH t1).1.length≠0
     ·rw[if_pos hc,if_pos hc,if_pos hc]
     ·have e0:(if zY k (Vw n1.1) (Vw n2.1) (Vw n3.1) (((yH t2).1.length:Nat):Int) (yH t1).1.length≠0 then zY k (Vw n1.1) (Vw n2.1) (Vw n3.1) (((yH t2).1.length:Nat):Int) (yH t1).1.length else if(((yH t2).1.length:Nat):Int)≠(((yH t2).1.length:Nat):Int) then(1:Int) else 0)=0:=by
        rw[if_neg hc,if_neg (fun q=>q rfl)]
      rw[e0,if_neg (fun q=>q rfl),if_neg hc]
theorem S_:p_ s=some (MM s):=by
  rw[parse_k s hs,mid_p s hs _ _ (kindS_le s _ _ (EL s _ 0 true (by omega)))];rfl
end
theorem awake_ok:Bj=some true:=by
  unfold Bj;rw[S_ _ (by decide),Option.bind_some];have:(MM [36,97,114,103,111,110,50,105,100,36,118,61,49,56]).2.2.2.2.2.2.2=(13,4):=by decide +kernel
  rw[show(MM [36,97,114,103,111,110,50,105,100,36,118,61,49,56]).2.2.2.2.2.2.2.1=13 from by rw[this],show(MM [36,97,114,103,111,110,50,105,100,36,118,61,49,56]).2.2.2.2.2.2.2.2=4 from by rw[this]];rfl
end Go.Sx
namespace Go.Sx
open Go.RowKit
set_option linter.unusedVariables false
set_option linter.unusedSimpArgs false
theorem Gw (s:List UInt8):∀ (t:List UInt8) (a:Nat) (r:List UInt8),s.drop a=t++r->uS s a true t=(a+t.length,true)/\s.drop (a+t.length)=r
  | [],a,r,h=>⟨rfl,h⟩
  | c::t,a,r,h=>by
    have h1:s[a]?=some c:=by
      have:=congrArg (fun l=>l[0]?) h;simpa [List.getElem?_drop] using this
    have h2:s.drop (a+1)=t++r:=by
      have:=congrArg (List.drop 1) h;simpa [List.drop_drop] using this
    have ih:=Gw s t (a+1) r h2;unfold uS;rw[if_pos rfl,if_pos h1];have e:a+1+t.length=a+(c::t).length:=by simp only[List.length_cons];omega
    rw[e] at ih;exact ih
theorem dig_c:∀ d:Nat,d < 10->Y1 (UInt8.ofNat (48+d))=true/\(dv (UInt8.ofNat (48+d))).toNat=d/\dv (UInt8.ofNat (48+d))=UInt64.ofNat d:=by decide +kernel
theorem XY (c:UInt8)(l:List UInt8)(st:Bool)(v:UInt64)(hc:Y1 c=true)(h0:(st&&decide (v=0))=false)(h1:v.toNat<=1000000):Cb (c::l) st v=((Cb l true (10*v+dv c)).1,(Cb l true (10*v+dv c)).2.1+1,(Cb l true (10*v+dv c)).2.2):=by
  rw[Cb,if_pos hc,if_neg];rw[h0,Bool.false_or,decide_eq_true_eq,UInt64.lt_iff_toNat_lt];have hd:=dv_lt c hc;have e:((18446744073709551615:UInt64) - dv c).toNat=18446744073709551615 - (dv c).toNat:=by
    rw[UInt64.toNat_sub_of_le]
    ·rfl
    ·rw[UInt64.le_iff_toNat_le];show(dv c).toNat<=18446744073709551615;omega
  rw[UInt64.toNat_div,e];show ¬ (18446744073709551615 - (dv c).toNat) / 10 < v.toNat;omega
theorem u64v (n:Nat)(h:n < 18446744073709551616):(UInt64.ofNat n).toNat=n:=UInt64.toNat_ofNat_of_lt' h
theorem num_fwd0:∀ (n:Nat),n<=1000000->∀ r:List UInt8,Cb (Lib.decDigits n++r) false 0=((Cb r true (UInt64.ofNat n)).1,(Cb r true (UInt64.ofNat n)).2.1+(Lib.decDigits n).length,(Cb r true (UInt64.ofNat n)).2.2):=by
  intro n
  induction n using Nat.strongRecOn with
  | _ n ih =>
    intro hn r;rw[Lib.decDigits];split
    ·rename_i hlt;obtain⟨c1,c2,c3⟩:=dig_c n hlt;rw[List.singleton_append,XY _ _ _ _ c1 rfl (by show(0:Nat)<=1000000;omega),c3];rw[show(10:UInt64)*0+UInt64.ofNat n=UInt64.ofNat n from by rw[UInt64.mul_zero,UInt64.zero_add]];rfl
    ·rename_i hlt;obtain⟨c1,c2,c3⟩:=dig_c (n % 10) (by omega);rw[List.append_assoc,List.singleton_append,ih (n / 10) (by omega) (by omega)];have hv:(UInt64.ofNat (n / 10)).toNat=n / 10:=u64v _ (by omega);rw[XY _ _ _ _ c1 (by
       rw[Bool.true_and,decide_eq_false_iff_not];intro q;have:=congrArg UInt64.toNat q;rw[hv] at this;have:n / 10=0:=this;omega) (by omega)]
     have e:(10:UInt64)*UInt64.ofNat (n / 10)+dv (UInt8.ofNat (48+n % 10))=UInt64.ofNat n:=by
       rw[<- UInt64.toNat_inj,c3,UInt64.toNat_add,UInt64.toNat_mul,hv,u64v (n % 10) (by omega),u64v n (by omega)];show(10*(n / 10) % 18446744073709551616+n % 10) % 18446744073709551616=n;omega
     rw[e,List.length_append,List.length_singleton];refine Prod.ext rfl (Prod.ext ?_ rfl);show _+1+_=_+(_+1)
     omega
theorem Tc (s:List UInt8)(n:Nat)(hn:n<=1000000)(a:Nat)(c:UInt8)(r:List UInt8)(hc:Y1 c=false)(h:s.drop a=Lib.decDigits n++(c::r)):Ld s a true=(UInt64.ofNat n,a+(Lib.decDigits n).length,true)/\s.drop (a+(Lib.decDigits n).length)=c::r:=by
  refine⟨?_,?_⟩
  ·unfold Ld;rw[if_pos rfl,h,num_fwd0 n hn];rw[show Cb (c::r) true (UInt64.ofNat n)=(UInt64.ofNat n,0,true) from by rw[Cb,if_neg (by rw[hc];decide)]];show(UInt64.ofNat n,a+(0+_),true)=_;rw[Nat.zero_add]
  ·rw[<- List.drop_drop,h,List.drop_left]
theorem kind_fwd (s:List UInt8)(K:Int)(hK:0<=K/\K<=2)(a:Nat)(r:List UInt8)(h:s.drop a=kdS K++(36::r)):Il s a true=(K,a+(kdS K).length,true)/\s.drop (a+(kdS K).length)=36::r:=by
  have g:∀ i,s[a+i]?=(kdS K++(36::r))[i]?:=by
    intro i;rw[<- h,List.getElem?_drop]
  refine⟨?_,by rw[<- List.drop_drop,h,List.drop_left]⟩;have g0:=g 0;have g1:=g 1;rw[Nat.add_zero] at g0;unfold Il;rw[if_pos rfl,g0,g1];obtain rfl | rfl | rfl:K=0∨K=1∨K=2:=by omega
  ·rfl
  ·rfl
  ·rfl
theorem enc_isB (b:List UInt8):∀ c ∈ enc b,SS c=true:=by
  intro c hc;unfold enc Em at hc;obtain⟨m,_,rfl⟩:=List.mem_map.1 hc;unfold SS;have:=wv6 b (6*m);rw[WW _ this];exact decide_eq_true this
theorem tw_all {p:UInt8->Bool}:∀ (l r:List UInt8),(∀ c ∈ l,p c=true)->(∀ c,r[0]?=some c->p c=false)->(l++r).takeWhile p=l
  | [],[],_,_=>rfl
  | [],c::r,_,h=>by rw[List.nil_append,List.takeWhile_cons_of_neg (by rw[h c rfl];decide)]
  | d::l,r,h,h2=>by
    rw[List.cons_append,List.takeWhile_cons_of_pos (h d List.mem_cons_self),tw_all l r (fun c hc=>h c (List.mem_cons_of_mem _ hc)) h2]
theorem XZ (s:List UInt8)(b:List UInt8)(a:Nat)(r:List UInt8)(hr:∀ c,r[0]?=some c->SS c=false)(h:s.drop a=enc b++r):MK s a true=enc b/\s.drop (a+(enc b).length)=r:=by
  refine⟨?_,by rw[<- List.drop_drop,h,List.drop_left]⟩;unfold MK;rw[if_pos rfl,h,tw_all _ _ (enc_isB b) hr]
theorem Td (n:Nat)(h:n<=1000000):Vw (UInt64.ofNat n)=(n:Int):=by
  unfold Vw;have e:=u64v n (by omega);rw[if_neg (by rw[UInt64.lt_iff_toNat_lt,e];show ¬ (9223372036854775807:Nat) < n;omega),e,bn] <;> omega
theorem PI (K M P L T:Int)(aO sum:List UInt8)(h0:zY K M P L T aO.length=0)(hT:((sum.length:Nat):Int)=T):MM (textS K M.toNat P.toNat L.toNat aO sum)=(K,M,P,L,T,aO,sum,0,0):=by
  obtain⟨hm,hs1,hs2⟩:=YX h0;have hm0:=hm;unfold sJ at hm0;obtain⟨m,rfl⟩:∃ m:Nat,M=(m:Int):=⟨M.toNat,by omega⟩
  obtain⟨p,rfl⟩:∃ m:Nat,P=(m:Int):=⟨P.toNat,by omega⟩
  obtain⟨l,rfl⟩:∃ m:Nat,L=(m:Int):=⟨L.toNat,by omega⟩
  simp only[Int.toNat_natCast];have e0:(textS K m p l aO sum).drop 0=[36,97,114,103,111,110,50]++(kdS K++(36::([118,61,49,57,36,109,61]++(Lib.decDigits m++(44::([116,61]++(Lib.decDigits p++(44::([112,61]++(Lib.decDigits l++(36::(enc aO++(36::(enc sum++[])))))))))))))):=by
    unfold textS;simp only[List.drop_zero,List.append_assoc,List.append_nil,List.cons_append,List.nil_append]
  generalize textS K m p l aO sum=s at e0 ⊢;unfold MM;obtain⟨a1,e1⟩:=Gw s _ _ _ e0;rw[a1];obtain⟨a2,e2⟩:=kind_fwd s K hm0.1 _ _ e1;rw[a2];unfold midS;dsimp only;obtain⟨a3,e3⟩:=Gw s [36,118,61,49,57,36,109,61] _ _ e2;rw[a3];dsimp only;obtain⟨a4,e4⟩:=Tc s m (by omega) _ 44 _ (by decide) e3;rw[a4];dsimp only;obtain⟨a5,e5⟩:=Gw s [44,116,61] _ _ e4;rw[a5];dsimp only;obtain⟨a6,e6⟩:=Tc s p (by omega) _ 44 _ (by decide) e5;rw[a6];dsimp only;obtain⟨a7,e7⟩:=Gw s [44,112,61] _ _ e6;rw[a7];dsimp only;obtain⟨a8,e8⟩:=Tc s l (by omega) _ 36 _ (by decide) e7;rw[a8];dsimp only;obtain⟨a9,e9⟩:=Gw s [36] _ _ e8;rw[a9];dsimp only;obtain⟨a10,e10⟩:=XZ s aO _ (36::(enc sum++[])) (fun c hc=>by cases hc;decide) e9;rw[a10];obtain⟨a11,e11⟩:=Gw s [36] _ _ e10;rw[a11];dsimp only;obtain⟨a12,e12⟩:=XZ s sum _ [] (fun c hc=>by cases hc) e11;rw[a12];have hend:s.length<=_:=List.drop_eq_nil_iff.1 e12;unfold finS;rw[if_neg (by
    rw[Bool.not_true,Bool.false_or,decide_eq_true_eq];omega)]
  rw[QD,QD,if_neg (fun q=>q rfl),if_neg (fun q=>q rfl),Td m (by omega),Td p (by omega),Td l (by omega)];dsimp only;rw[hT,if_neg (fun q=>q h0)]
end Go.Sx
namespace Go.Sx
open Go.RowKit
set_option linter.unusedVariables false
set_option linter.unusedSimpArgs false
section
variable {α σ ρ τ:Type}
theorem Io {f:τ->Option (τ⊕ρ)}(st:σ->Nat->τ)(n:Nat)(F:σ->Nat->σ)(I:Nat->σ->Prop)(s:σ){r:ρ}(h0:I 0 s)(h:∀ s i,i < n->I i s->f (st s i)=some (.inl (st (F s i) (i+1)))/\I (i+1) (F s i))
    (he:I n ((List.range n).foldl F s)->f (st ((List.range n).foldl F s) n)=some (.inr r)):aZ f (st s 0)=some r:=by
  have hI:∀ k,k<=n->I k ((List.range k).foldl F s):=by
    intro k
    induction k with
    | zero=>intro _;exact h0
    | succ k ih =>
      intro hk;rw[List.range_succ,List.foldl_append];exact(h _ k (by omega) (ih (by omega))).2
  refine gJ (fun i=>st ((List.range i).foldl F s) i) n (fun i hi=>?_) (he (hI n (Nat.le_refl _)));rw[(h _ i hi (hI i (by omega))).1,List.range_succ,List.foldl_append];rfl
theorem Vg [Inhabited α]{n:Nat}(v:Vec α n)(i:Nat)(h:i < n):v.g i=v.l[i]'(by rw[v.h];exact h):=by
  have hl:i < v.l.length:=by rw[v.h];exact h
  simp[Vec.g,List.getD_eq_getElem?_getD,hl]
theorem vext [Inhabited α]{n:Nat}{v w:Vec α n}(h:∀ i,i < n->v.g i=w.g i):v=w:=by
  refine Vec.ext (List.ext_getElem (by rw[v.h,w.h]) fun i h1 h2=>?_);have hi:i < n:=by rw[<- v.h];exact h1
  rw[<- Vg v i hi,<-Vg w i hi,h i hi]
theorem vst_g [Inhabited α]{n:Nat}(v:Vec α n)(i:Nat)(x:α)(j:Nat)(hj:j < n):(lD v (i:Int) x).g j=if i=j then x else v.g j:=by
  rw[Vg _ _ hj,Vg _ _ hj];simp only[lD,Int.toNat_natCast,List.getElem_set]
def WV [Inhabited α](n:Nat)(f:Nat->α):Vec α n:=⟨(List.range n).map f,by simp⟩
theorem PK [Inhabited α](n:Nat)(f:Nat->α)(i:Nat)(h:i < n):(WV n f).g i=f i:=by
  rw[Vg _ _ h];simp[WV]
theorem vfold_g [Inhabited α]{n:Nat}(f:Nat->α->α)(v:Vec α n)(j:Nat)(hj:j < n):∀ m,((List.range m).foldl (fun(v:Vec α n) (k:Nat)=>lD v (k:Int) (f k (v.g k))) v).g j=if j < m then f j (v.g j) else v.g j:=by
  intro m
  induction m with
  | zero=>simp
  | succ m ih =>
    rw[List.range_succ,List.foldl_append,List.foldl_cons,List.foldl_nil,vst_g _ _ _ _ hj];by_cases h:m=j
    ·subst h;rw[if_pos rfl,ih,if_neg (by omega),if_pos (by omega)]
    ·rw[if_neg h,ih];by_cases h2:j < m
     ·rw[if_pos h2,if_pos (by omega)]
     ·rw[if_neg h2,if_neg (by omega)]
theorem Cc [Inhabited α]{n:Nat}(f:Nat->α->α)(v:Vec α n):(List.range n).foldl (fun(v:Vec α n) (k:Nat)=>lD v (k:Int) (f k (v.g k))) v=WV n fun k=>f k (v.g k) :=
  vext fun i hi=>by rw[vfold_g f v i hi,if_pos hi,PK _ _ _ hi]
end
def lowP (a b:UInt64):UInt64:=2*(a % 4294967296)*(b % 4294967296)
theorem and32 (x:UInt64):x&&&4294967295=x % 4294967296:=by
  apply UInt64.toNat_inj.1;rw[UInt64.toNat_and,UInt64.toNat_mod];exact Nat.and_two_pow_sub_one_eq_mod x.toNat 32
def Bq (a b c d:UInt64):UInt64×UInt64×UInt64×UInt64 :=
  let a1:=a+(b+lowP a b)
  let d1:=CV (d^^^a1) 32
  let c1:=c+(d1+lowP c d1)
  let b1:=CV (b^^^c1) 24
  let a2:=a1+(b1+lowP a1 b1)
  let d2:=CV (d1^^^a2) 16
  let c2:=c1+(d2+lowP c1 d2)
  let b2:=CV (b1^^^c2) 63
  (a2,b2,c2,d2)
theorem wBl (a b c d:UInt64):zi a b c d=some (Bq a b c d):=by
  unfold zi;simp only[oN,Option.bind_some,rl32,rl24,rl16,rl63,and32];rfl
theorem rBl (a b c d:UInt64):BK a b c d=some ⟨[(Bq a b c d).1,(Bq a b c d).2.1,(Bq a b c d).2.2.1,(Bq a b c d).2.2.2],rfl⟩:=by
  unfold BK;simp only[Ap,Option.bind_some,tn32,tn24,tn16,tn63,UInt64.add_assoc,Bq,lowP]
def Pm1 (v:Vec UInt64 16)(i:Nat):Vec UInt64 16 :=
  let t:=Bq (v.g (pl i).1) (v.g (pl i).2.1) (v.g (pl i).2.2.1) (v.g (pl i).2.2.2)
  lD (lD (lD (lD v ((pl i).1:Int) t.1) ((pl i).2.1:Int) t.2.1) ((pl i).2.2.1:Int) t.2.2.1) ((pl i).2.2.2:Int) t.2.2.2
def Pm (v:Vec UInt64 16):Vec UInt64 16:=(List.range 8).foldl Pm1 v
theorem wPm (v:Vec UInt64 16):yC v=some (Pm v):=by
  unfold yC;refine wZ _ 8 Pm1 _ _ (fun v i hi=>?_) (by unfold zk;simp only[];rw[if_neg (by omega)];rfl);unfold zk;simp only[];rw[if_pos (by omega)];obtain⟨p,h1,h2⟩:=MF i hi;unfold wC at h1;rw[SN _ _ (by omega),if_pos (by omega),show((i:Int) % 8)=i from by omega] at h1;obtain⟨q,hq,e⟩:=Option.bind_eq_some_iff.1 h1;obtain rfl:=Option.some.inj e;rw[hq];obtain⟨ha,hb,hc,hd,_⟩:=XJ i hi;have e0:aT q.l 0=some ((pl i).1:Int):=by rw[h2];rfl
  have e1:aT q.l 1=some ((pl i).2.1:Int):=by rw[h2];rfl
  have e2:aT q.l 2=some ((pl i).2.2.1:Int):=by rw[h2];rfl
  have e3:aT q.l 3=some ((pl i).2.2.2:Int):=by rw[h2];rfl
  simp only[e0,e1,e2,e3,eY _ _ ha,eY _ _ hb,eY _ _ hc,eY _ _ hd,Option.bind_some,wBl];rw[bM i (by omega)];rfl
theorem rPm (v:Vec UInt64 16):D5 v=some (Pm v):=by
  unfold D5;refine wZ _ 8 Pm1 _ _ (fun v i hi=>?_) (by unfold AX;simp only[];rw[if_neg (by omega)];rfl);unfold AX;simp only[];rw[if_pos (by omega)];obtain⟨p,h1,h2⟩:=MF i hi;obtain⟨ha,hb,hc,hd,_⟩:=XJ i hi;have e0:aT p.l 0=some ((pl i).1:Int):=by rw[h2];rfl
  have e1:aT p.l 1=some ((pl i).2.1:Int):=by rw[h2];rfl
  have e2:aT p.l 2=some ((pl i).2.2.1:Int):=by rw[h2];rfl
  have e3:aT p.l 3=some ((pl i).2.2.2:Int):=by rw[h2];rfl
  simp only[h1,e0,e1,e2,e3,eY _ _ ha,eY _ _ hb,eY _ _ hc,eY _ _ hd,Option.bind_some,rBl];unfold AV;have key:∀ (t:UInt64×UInt64×UInt64×UInt64),aZ (nZ (i:Int) p ⟨[t.1,t.2.1,t.2.2.1,t.2.2.2],rfl⟩) (v,0)=some (.inl (lD (lD (lD (lD v ((pl i).1:Int) t.1) ((pl i).2.1:Int) t.2.1) ((pl i).2.2.1:Int) t.2.2.1) ((pl i).2.2.2:Int) t.2.2.2,((i+1:Nat):Int))):=by
    intro t;have g0:aT ([t.1,t.2.1,t.2.2.1,t.2.2.2]:List UInt64) 0=some t.1:=rfl;have g1:aT ([t.1,t.2.1,t.2.2.1,t.2.2.2]:List UInt64) 1=some t.2.1:=rfl;have g2:aT ([t.1,t.2.1,t.2.2.1,t.2.2.2]:List UInt64) 2=some t.2.2.1:=rfl;have g3:aT ([t.1,t.2.1,t.2.2.1,t.2.2.2]:List UInt64) 3=some t.2.2.2:=rfl;rw[lX (s':=(lD v ((pl i).1:Int) t.1,1)) (by
      unfold nZ;simp only[];rw[if_pos (by omega)];simp only[e0,g0,eY _ _ ha,Option.bind_some];rfl)]
    rw[lX (s':=(lD (lD v ((pl i).1:Int) t.1) ((pl i).2.1:Int) t.2.1,2)) (by
      unfold nZ;simp only[];rw[if_pos (by omega)];simp only[e1,g1,eY _ _ hb,Option.bind_some];rfl)]
    rw[lX (s':=(lD (lD (lD v ((pl i).1:Int) t.1) ((pl i).2.1:Int) t.2.1) ((pl i).2.2.1:Int) t.2.2.1,3)) (by
      unfold nZ;simp only[];rw[if_pos (by omega)];simp only[e2,g2,eY _ _ hc,Option.bind_some];rfl)]
    rw[lX (s':=(lD (lD (lD (lD v ((pl i).1:Int) t.1) ((pl i).2.1:Int) t.2.1) ((pl i).2.2.1:Int) t.2.2.1) ((pl i).2.2.2:Int) t.2.2.2,4)) (by
      unfold nZ;simp only[];rw[if_pos (by omega)];simp only[e3,g3,eY _ _ hd,Option.bind_some];rfl)]
    refine je ?_;unfold nZ;simp only[];rw[if_neg (by omega),bM i (by omega)];rfl
  exact key (Bq (v.g (pl i).1) (v.g (pl i).2.1) (v.g (pl i).2.2.1) (v.g (pl i).2.2.2))
end Go.Sx
namespace Go.Sx
open Go.RowKit
set_option linter.unusedVariables false
set_option linter.unusedSimpArgs false
def gat (z:Vec UInt64 128)(pos:Nat->Nat):Vec UInt64 16:=WV 16 fun k=>z.g (pos k)
def sca (z:Vec UInt64 128)(pos:Nat->Nat)(v:Vec UInt64 16):Vec UInt64 128:=(List.range 16).foldl (fun z k=>lD z ((pos k:Nat):Int) (v.g k)) z
def Ip (z:Vec UInt64 128)(pos:Nat->Nat):Vec UInt64 128:=sca z pos (Pm (gat z pos))
def FC (i k:Nat):Nat:=16*i+k
def FD (i k:Nat):Nat:=2*i+16*(k / 2)+k % 2
theorem Tf (i k:Nat)(hi:i < 8)(hk:k < 16):FC i k < 128:=by unfold FC;omega
theorem Ti (i k:Nat)(hi:i < 8)(hk:k < 16):FD i k < 128:=by unfold FD;omega
theorem X0 (i k:Nat)(hi:i < 8)(hk:k < 16):ay ((ay (16*(i:Int)))+(k:Int))=((FC i k:Nat):Int):=by
  unfold FC;rw[bn (n:=16*(i:Int)) (by omega),bn (by omega)];omega
theorem X3 (i k:Nat)(hi:i < 8)(hk:k < 16):ay ((ay ((ay (2*(i:Int)))+(ay (16*(ay (Int.tdiv (k:Int) 2))))))+(Int.tmod (k:Int) 2))=((FD i k:Nat):Int):=by
  unfold FD;rw[tmod2,show Int.tdiv (k:Int) 2=((k / 2:Nat):Int) from rfl,bn (n:=2*(i:Int)) (by omega),bn (n:=((k / 2:Nat):Int)) (by omega),bn (n:=16*((k / 2:Nat):Int)) (by omega),bn (n:=2*(i:Int)+16*((k / 2:Nat):Int)) (by omega),bn (by omega)];omega
theorem wputR (z:Vec UInt64 128)(i:Nat)(hi:i < 8):zl (i:Int) z=some ((i:Int),Ip z (FC i)):=by
  have hp:∀ k:Nat,k < 16->∀ p:Int,p=(i:Int)->wH (k:Int) p=some (((FC i k:Nat):Int),(i:Int)):=by
    rintro k hk p rfl;unfold wH;rw[X0 i k hi hk]
  unfold zl;refine Io (fun(v:Vec UInt64 16) k=>((i:Int),v,(k:Int))) 16 (fun v k=>lD v (k:Int) (z.g (FC i k))) (fun _ _=>True) (Vec.rep 16 (0:UInt64)) trivial (fun v k hk _=>⟨?_,trivial⟩) fun _=>?_
  ·unfold xQ;simp only[];rw[if_pos (by omega),hp k hk _ rfl];simp only[Option.bind_some,eY _ _ (Tf i k hi hk),eY _ _ hk];rw[bM k (by omega)]
  ·unfold xQ;simp only[];rw[if_neg (by omega),wPm];simp only[Option.bind_some];rw[Cc (fun k _=>z.g (FC i k)) (Vec.rep 16 (0:UInt64))];show Option.map Sum.inr (aZ (ug (Pm (gat z (FC i)))) ((i:Int),z,(0:Int)))=Option.map Sum.inr (some ((i:Int),Ip z (FC i)));refine congrArg _ (Io (r:=((i:Int),Ip z (FC i))) (fun(z:Vec UInt64 128) k=>((i:Int),z,(k:Int))) 16 (fun z1 k=>lD z1 ((FC i k:Nat):Int) ((Pm (gat z (FC i))).g k)) (fun _ _=>True) z trivial (fun v k hk _=>⟨?_,trivial⟩) fun _=>?_)
   ·unfold ug;simp only[];rw[if_pos (by omega),hp k hk _ rfl];simp only[Option.bind_some,eY _ _ (Tf i k hi hk),eY _ _ hk];rw[bM k (by omega)]
   ·unfold ug;simp only[];rw[if_neg (by omega)];rfl
theorem wputC (z:Vec UInt64 128)(i:Nat)(hi:i < 8):uh (i:Int) z=some ((i:Int),Ip z (FD i)):=by
  have hp:∀ k:Nat,k < 16->∀ p:Int,p=(i:Int)->wI (k:Int) p=some (((FD i k:Nat):Int),(i:Int)):=by
    rintro k hk p rfl;unfold wI;rw[X3 i k hi hk]
  unfold uh;refine Io (fun(v:Vec UInt64 16) k=>((i:Int),v,(k:Int))) 16 (fun v k=>lD v (k:Int) (z.g (FD i k))) (fun _ _=>True) (Vec.rep 16 (0:UInt64)) trivial (fun v k hk _=>⟨?_,trivial⟩) fun _=>?_
  ·unfold sU;simp only[];rw[if_pos (by omega),hp k hk _ rfl];simp only[Option.bind_some,eY _ _ (Ti i k hi hk),eY _ _ hk];rw[bM k (by omega)]
  ·unfold sU;simp only[];rw[if_neg (by omega),wPm];simp only[Option.bind_some];rw[Cc (fun k _=>z.g (FD i k)) (Vec.rep 16 (0:UInt64))];show Option.map Sum.inr (aZ (oP (Pm (gat z (FD i)))) ((i:Int),z,(0:Int)))=Option.map Sum.inr (some ((i:Int),Ip z (FD i)));refine congrArg _ (Io (r:=((i:Int),Ip z (FD i))) (fun(z:Vec UInt64 128) k=>((i:Int),z,(k:Int))) 16 (fun z1 k=>lD z1 ((FD i k:Nat):Int) ((Pm (gat z (FD i))).g k)) (fun _ _=>True) z trivial (fun v k hk _=>⟨?_,trivial⟩) fun _=>?_)
   ·unfold oP;simp only[];rw[if_pos (by omega),hp k hk _ rfl];simp only[Option.bind_some,eY _ _ (Ti i k hi hk),eY _ _ hk];rw[bM k (by omega)]
   ·unfold oP;simp only[];rw[if_neg (by omega)];rfl
theorem rputQ (z:Vec UInt64 128)(pos:Nat->Nat)(hp:∀ k,k < 16->pos k < 128)(a:Vec Int 16)(ha:∀ k,k < 16->a.g k=((pos k:Nat):Int)):DK z.l a=some (Ip z pos).l:=by
  have hg:∀ k:Nat,k < 16->aT a.l (k:Int)=some ((pos k:Nat):Int):=fun k hk=>by rw[eY a k hk,ha k hk]
  unfold DK;refine Io (fun(v:Vec UInt64 16) k=>(v,(k:Int))) 16 (fun v k=>lD v (k:Int) (z.g (pos k))) (fun _ _=>True) (Vec.rep 16 (0:UInt64)) trivial (fun v k hk _=>⟨?_,trivial⟩) fun _=>?_
  ·unfold Du;simp only[];rw[if_pos (by omega),hg k hk];simp only[Option.bind_some,eY _ _ (hp k hk),eY _ _ hk];rw[bM k (by omega)]
  ·unfold Du;simp only[];rw[if_neg (by omega),rPm];simp only[Option.bind_some];rw[Cc (fun k _=>z.g (pos k)) (Vec.rep 16 (0:UInt64))];show Option.map Sum.inr (aZ (zq a (Pm (gat z pos))) (z.l,(0:Int)))=Option.map Sum.inr (some (Ip z pos).l);refine congrArg _ (Io (r:=(Ip z pos).l) (fun(z:Vec UInt64 128) k=>(z.l,(k:Int))) 16 (fun z1 k=>lD z1 ((pos k:Nat):Int) ((Pm (gat z pos)).g k)) (fun _ _=>True) z trivial (fun v k hk _=>⟨?_,trivial⟩) fun _=>?_)
   ·unfold zq;simp only[];rw[if_pos (by omega),hg k hk];simp only[Option.bind_some,eY _ _ (hp k hk),eY _ _ hk];rw[bM k (by omega)];rfl
   ·unfold zq;simp only[];rw[if_neg (by omega)];rfl
end Go.Sx
namespace Go.Sx
open Go.RowKit
set_option linter.unusedVariables false
set_option linter.unusedSimpArgs false
def wW (x y:List UInt8):List UInt8:=List.zipWith (fun a b=>a^^^b) x y
theorem vV {x y:List UInt8}{n:Nat}(hx:x.length=n)(hy:y.length=n):(wW x y).length=n:=by simp[wW,hx,hy]
theorem YY (x y:List UInt8):wW x y=wW y x:=by
  unfold wW;rw[List.zipWith_comm];congr 1;funext a b;exact UInt8.xor_comm _ _
theorem Tj {x y:List UInt8}{n:Nat}(hx:x.length=n)(hy:y.length=n):wW x y=(List.range n).map fun k=>x.getD k 0^^^y.getD k 0:=by
  refine List.ext_getElem (by rw[vV hx hy];simp) fun i h1 h2=>?_;rw[vV hx hy] at h1;have e1:i < x.length:=by omega
  have e2:i < y.length:=by omega
  simp[wW,List.getD_eq_getElem?_getD,e1,e2]
def Fo (f:Nat->List UInt8)(n:Nat):List UInt8:=(List.range n).foldl (fun b i=>b++f i) []
theorem DF (f:Nat->List UInt8)(n:Nat):Fo f (n+1)=Fo f n++f n:=by
  unfold Fo;rw[List.range_succ,List.foldl_append];rfl
theorem PL {f:Nat->List UInt8}(hf:∀ i,(f i).length=8)(n:Nat):(Fo f n).length=n*8:=SI f 8 hf n
theorem Vh {f g:Nat->List UInt8}(n:Nat)(h:∀ i,i < n->f i=g i):Fo f n=Fo g n:=by
  induction n with
  | zero=>rfl
  | succ n ih=>rw[DF,DF,ih fun i hi=>h i (by omega),h n (by omega)]
theorem Fo_xor {f g:Nat->List UInt8}(hf:∀ i,(f i).length=8)(hg:∀ i,(g i).length=8)(n:Nat):Fo (fun i=>wW (f i) (g i)) n=wW (Fo f n) (Fo g n):=by
  induction n with
  | zero=>rfl
  | succ n ih =>
    rw[DF,DF,DF,ih];unfold wW;rw[List.zipWith_append (by rw[PL hf,PL hg])]
theorem Fo_take (X:List UInt8)(n:Nat):Fo (fun i=>(X.drop (8*i)).take 8) n=X.take (8*n):=by
  induction n with
  | zero=>rfl
  | succ n ih=>rw[DF,ih,Nat.mul_succ,List.take_add]
theorem Fo_part {f:Nat->List UInt8}(hf:∀ i,(f i).length=8)(i:Nat):∀ n,i < n->((Fo f n).drop (8*i)).take 8=f i:=by
  intro n
  induction n with
  | zero=>intro h;omega
  | succ n ih =>
    intro h;have hl:=PL hf n;rw[DF,List.drop_append,List.take_append];by_cases hn:i=n
    ·subst hn;rw[List.drop_of_length_le (by omega),hl];simp[show 8*i - i*8=0 from by omega,hf i,List.take_of_length_le (Nat.le_of_eq (hf i))]
    ·rw[ih (by omega)];have:((Fo f n).drop (8*i)).length=n*8 - 8*i:=by rw[List.length_drop,hl]
     rw[this,show 8 - (n*8 - 8*i)=0 from by omega];simp
theorem X4:∀ (bs:List UInt8),(List.range bs.length).map (fun i=>UInt8.ofNat (JG bs / 256 ^ i))=bs
  | []=>rfl
  | b::r=>by
    have ih:=X4 r;have hb:=b.toNat_lt;rw[List.length_cons,List.range_succ_eq_map,List.map_cons,List.map_map];congr 1
    ·rw[<- UInt8.toNat_inj];simp only[JG,UInt8.toNat_ofNat',Nat.pow_zero,Nat.div_one];omega
    ·refine Eq.trans (List.map_congr_left fun i _=>?_) ih;simp only[Function.comp,JG,Nat.pow_succ];rw[Nat.mul_comm (256 ^ i) 256,<-Nat.div_div_eq_div_mul,show(b.toNat+256*JG r) / 256=JG r from by omega]
theorem st8_wd (X:List UInt8)(i:Nat)(h:8*i+8<=X.length):JK 8 (sH X i)=(X.drop (8*i)).take 8:=by
  have hl:((X.drop (8*i)).take 8).length=8:=by rw[List.length_take,List.length_drop];omega
  have h1:=X4 ((X.drop (8*i)).take 8);have h2:=aaW ((X.drop (8*i)).take 8);rw[hl] at h1 h2;unfold JK sH;rw[show(UInt64.ofNat (JG ((X.drop (8*i)).take 8))).toNat=JG ((X.drop (8*i)).take 8) from UInt64.toNat_ofNat_of_lt' (by simpa using h2)];exact h1
theorem wd_st8 (X:List UInt8)(i:Nat)(w:UInt64)(h:(X.drop (8*i)).take 8=JK 8 w):sH X i=w:=by
  unfold sH;rw[h];unfold JK;rw[YR];apply UInt64.toNat_inj.1;rw[UInt64.toNat_ofNat'];have:=w.toNat_lt;omega
theorem byx (a b i:Nat):UInt8.ofNat ((a^^^b) / 256 ^ i)=UInt8.ofNat (a / 256 ^ i)^^^UInt8.ofNat (b / 256 ^ i):=by
  apply UInt8.toNat_inj.1;rw[UInt8.toNat_xor];simp only[UInt8.toNat_ofNat'];rw[Pq,Nat.xor_div_two_pow,<-Nat.xor_mod_two_pow (n:=8)]
theorem st8_xor (a b:UInt64):JK 8 (a^^^b)=wW (JK 8 a) (JK 8 b):=by
  rw[Tj (xY 8 a) (xY 8 b)];unfold JK;refine List.map_congr_left fun i hi=>?_;have hi:=List.mem_range.1 hi;rw[UInt64.toNat_xor,byx];simp[List.getD_eq_getElem?_getD,hi]
def Qg (z:Vec UInt64 128):List UInt8:=Fo (fun i=>JK 8 (z.g i)) 128
theorem X5 (z:Vec UInt64 128):(Qg z).length=1024:=by
  have h:=PL (f:=fun i=>JK 8 (z.g i)) (fun i=>xY 8 _) 128;unfold Qg;omega
theorem St_wd (X:List UInt8)(h:X.length=1024):Qg (WV 128 (sH X))=X:=by
  unfold Qg;rw[Vh 128 (g:=fun i=>(X.drop (8*i)).take 8) fun i hi=>by rw[PK _ _ _ hi,st8_wd X i (by omega)],Fo_take,List.take_of_length_le (by omega)]
theorem wd_St (z:Vec UInt64 128)(i:Nat)(h:i < 128):sH (Qg z) i=z.g i:=wd_st8 _ _ _ (Fo_part (f:=fun i=>JK 8 (z.g i)) (fun i=>xY 8 _) i 128 h)
theorem St_xor (a b:Vec UInt64 128):Qg (WV 128 fun k=>a.g k^^^b.g k)=wW (Qg a) (Qg b):=by
  unfold Qg;rw[<- Fo_xor (fun i=>xY 8 _) (fun i=>xY 8 _)];exact Vh 128 fun i hi=>by rw[PK _ _ _ hi,st8_xor]
theorem wd_xor (x y:List UInt8)(hx:x.length=1024)(hy:y.length=1024)(i:Nat)(hi:i < 128):sH (wW x y) i=sH x i^^^sH y i:=by
  have h:=St_xor (WV 128 (sH x)) (WV 128 (sH y));rw[St_wd x hx,St_wd y hy] at h;rw[<- h,wd_St _ _ hi,PK _ _ _ hi,PK _ _ _ hi,PK _ _ _ hi]
theorem WV_l {α:Type}[Inhabited α](n:Nat)(f:Nat->α):(WV n f).l=(List.range n).map f:=rfl
theorem rep_l {α:Type}(n:Nat)(x:α):List.replicate n x=(Vec.rep n x).l:=rfl
theorem IV (x:List UInt8)(k:Nat)(h:k < x.length):aT x (k:Int)=some (x.getD k 0):=by
  rw[gK h];simp[List.getD_eq_getElem?_getD,h]
theorem wXor (x y:List UInt8)(hx:x.length=1024)(hy:y.length=1024):Ak x y=some (wW x y,0):=by
  unfold Ak uw;rw[if_neg (by omega),if_neg (by omega)];simp only[Option.bind_some,Bool.not_true,Bool.false_eq_true,if_false];have e:wW x y=((List.range 1024).foldl (fun(v:Vec UInt8 1024) (k:Nat)=>lD v (k:Int) (x.getD k 0^^^y.getD k 0)) (Vec.rep 1024 (0:UInt8))).l:=by
    rw[Cc (fun k _=>x.getD k 0^^^y.getD k 0) (Vec.rep 1024 (0:UInt8)),Tj hx hy,WV_l]
  rw[show Int.toNat (1024:Int)=1024 from rfl,rep_l];refine Io (fun(v:Vec UInt8 1024) k=>(v.l,(k:Int))) 1024 (fun v k=>lD v (k:Int) (x.getD k 0^^^y.getD k 0)) (fun _ _=>True) (Vec.rep 1024 (0:UInt8)) trivial (fun v k hk _=>⟨?_,trivial⟩) fun _=>?_
  ·unfold AU;simp only[];rw[if_pos (by simp only[Int.toNat];omega),IV x k (by omega),IV y k (by omega),eY _ _ hk];simp only[Option.bind_some];rw[bM k (by omega)];rfl
  ·unfold AU;simp only[];rw[if_neg (by simp only[Int.toNat];omega),e];rfl
theorem rXor (x y:List UInt8)(hx:x.length=1024)(hy:y.length=1024):wL x y=some (wW x y,0):=by
  unfold wL;rw[if_neg (by simp[hx,hy])];rw[Tj hx hy];refine gJ (fun i=>((List.range i).map fun k=>x.getD k 0^^^y.getD k 0,(i:Int))) 1024 (fun k hk=>?_) ?_
  ·unfold Dt;simp only[];rw[if_pos (by omega),IV x k (by omega),IV y k (by omega)];simp only[Option.bind_some];rw[gB (by simp;omega)];simp only[Option.bind_some];rw[bM k (by omega),List.range_succ,List.map_append];rfl
  ·unfold Dt;simp only[];rw[if_neg (by omega)];rfl
end Go.Sx
namespace Go.Sx
open Go.RowKit
set_option linter.unusedVariables false
set_option linter.unusedSimpArgs false
theorem X6 (i:Nat)(h:i < 1000000):ay (8*(i:Int))=((8*i:Nat):Int):=by rw[bn (by omega)];omega
theorem wwords (b:List UInt8)(hb:b.length=1024):wG b=some (WV 128 (sH b)):=by
  unfold wG;refine wZ _ 128 (fun m (i:Nat)=>lD m i (sH b i)) _ _ (fun v i hi=>?_) ?_
  ·unfold xP;simp only[];rw[if_pos (by omega),X6 i (by omega),MG b i (by omega) (by omega),eY _ _ hi,bM i (by omega)];rfl
  ·unfold xP;simp only[];rw[if_neg (by omega),Cc (fun k _=>sH b k) (Vec.rep 128 (0:UInt64))];rfl
theorem shrN (x:UInt64)(s:Nat):(iD x s).toNat=x.toNat / 2 ^ s:=by
  show(x.toBitVec >>> s).toNat=_;rw[BitVec.toNat_ushiftRight,Nat.shiftRight_eq_div_pow];rfl
theorem laid1 (w:UInt64)(i:Nat)(hi:i < 128)(b:List UInt8)(hb:b.length<=1024):aZ (rU (i:Int) w) (b,0)=some (.inl (b++JK 8 w,((i+1:Nat):Int))):=by
  have h:=gJ (f:=rU (i:Int) w) (r:=.inl (b++JK 8 w,((i+1:Nat):Int))) (fun j=>(b++(List.range j).map (fun t=>UInt8.ofNat (w.toNat / 256 ^ t)),((8*j:Nat):Int))) 8 (fun j hj=>?_) ?_
  ·simpa using h
  ·unfold rU;simp only[];rw[if_pos (by omega),jy (by omega)];simp only[Option.bind_some];rw[gB (by simp;omega)];simp only[Option.bind_some];rw[bn (by omega),List.range_succ,List.map_append,Int.toNat_natCast,shrN,<-Pq];simp only[List.map_cons,List.map_nil,List.append_assoc];congr 4
  ·unfold rU;simp only[];rw[if_neg (by omega),bM i (by omega)];rfl
theorem wlaid (z:Vec UInt64 128):BI z=some (Qg z,z):=by
  unfold BI;refine Io (fun(b:List UInt8) k=>(b,(k:Int))) 128 (fun b k=>b++JK 8 (z.g k)) (fun k b=>b.length=8*k) [] rfl (fun b k hk hl=>⟨?_,by rw[List.length_append,hl,xY];omega⟩) fun _=>?_
  ·unfold zn;simp only[];rw[if_pos (by omega),eY _ _ hk];simp only[Option.bind_some];rw[laid1 _ k hk b (by omega)]
  ·unfold zn;simp only[];rw[if_neg (by omega)];rfl
def Rw8 (r:Vec UInt64 128):Vec UInt64 128:=(List.range 8).foldl (fun z i=>Ip z (FC i)) r
def Cl8 (r:Vec UInt64 128):Vec UInt64 128:=(List.range 8).foldl (fun z i=>Ip z (FD i)) r
def Tm (x y:List UInt8):List UInt8:=wW (wW x y) (Qg (Cl8 (Rw8 (WV 128 (sH (wW x y))))))
theorem uk {x y:List UInt8}(hx:x.length=1024)(hy:y.length=1024):(Tm x y).length=1024:=vV (vV hx hy) (X5 _)
theorem WV_congr {α:Type}[Inhabited α]{n:Nat}{f g:Nat->α}(h:∀ i,i < n->f i=g i):WV n f=WV n g:=vext fun i hi=>by rw[PK _ _ _ hi,PK _ _ _ hi,h i hi]
theorem wMix3 (r z:Vec UInt64 128):aZ (xy r) (z,0)=some (wW (Qg z) (Qg r),0):=by
  refine wZ _ 128 (fun z (i:Nat)=>lD z i (z.g i^^^r.g i)) _ _ (fun v i hi=>?_) ?_
  ·unfold xy;simp only[];rw[if_pos (by omega),eY _ _ hi,eY _ _ hi,bM i (by omega)];rfl
  ·unfold xy;simp only[];rw[if_neg (by omega),Cc (fun k a=>a^^^r.g k) z,wlaid];simp only[Option.bind_some];rw[St_xor];rfl
theorem wMix2 (r z:Vec UInt64 128):aZ (xA r) (z,0)=some (wW (Qg (Cl8 z)) (Qg r),0):=by
  refine wZ _ 8 (fun z i=>Ip z (FD i)) _ _ (fun v i hi=>?_) ?_
  ·unfold xA;simp only[];rw[if_pos (by omega),wputC v i hi];simp only[Option.bind_some];rw[bM i (by omega)]
  ·unfold xA;simp only[];rw[if_neg (by omega),wMix3];rfl
theorem wMix1 (r z:Vec UInt64 128):aZ (xB r) (z,0)=some (wW (Qg (Cl8 (Rw8 z))) (Qg r),0):=by
  refine wZ _ 8 (fun z i=>Ip z (FC i)) _ _ (fun v i hi=>?_) ?_
  ·unfold xB;simp only[];rw[if_pos (by omega),wputR v i hi];simp only[Option.bind_some];rw[bM i (by omega)]
  ·unfold xB;simp only[];rw[if_neg (by omega),wMix2];rfl
theorem wMix (x y:List UInt8)(hx:x.length=1024)(hy:y.length=1024):sV x y=some (Tm x y,0):=by
  unfold sV uw;rw[if_neg (by omega),if_neg (by omega)];simp only[Option.bind_some,Bool.not_true,Bool.false_eq_true,if_false];rw[wwords x hx];simp only[Option.bind_some];rw[wwords y hy];simp only[Option.bind_some];refine wZ _ 128 (fun z (i:Nat)=>lD z i (z.g i^^^(WV 128 (sH y)).g i)) _ _ (fun v i hi=>?_) ?_
  ·unfold AQ;simp only[];rw[if_pos (by omega),eY _ _ hi,eY _ _ hi,bM i (by omega)];rfl
  ·unfold AQ;simp only[];rw[if_neg (by omega),Cc (fun k a=>a^^^(WV 128 (sH y)).g k) (WV 128 (sH x))];rw[WV_congr (g:=sH (wW x y)) fun i hi=>by rw[PK _ _ _ hi,PK _ _ _ hi,wd_xor x y hx hy i hi]];rw[wMix1,St_wd _ (vV hx hy),YY];rfl
end Go.Sx
namespace Go.Sx
open Go.RowKit
set_option linter.unusedVariables false
set_option linter.unusedSimpArgs false
theorem rMix5 (X:List UInt8)(z:Vec UInt64 128)(hX:X.length=1024):aZ (zy (X,0) z.l) (([]:List UInt8),0)=some (wW X (Qg z),0):=by
  refine Io (fun(b:List UInt8) k=>(b,(k:Int))) 128 (fun b k=>b++JK 8 (z.g k)) (fun k b=>b.length=8*k) [] rfl (fun b k hk hl=>⟨?_,by rw[List.length_append,hl,xY];omega⟩) fun _=>?_
  ·unfold zy;simp only[];rw[if_pos (by omega),eY _ _ hk];simp only[Option.bind_some];have:=SH (z.g k) 8 (by omega);rw[show((8:Nat):Int)=8 from rfl] at this;rw[this];simp only[Option.bind_some];rw[gB (by simp;omega)];simp only[Option.bind_some];rw[bM k (by omega)];rfl
  ·unfold zy;simp only[];rw[if_neg (by omega)];show Option.map Sum.inr ((wL X (Qg z)).bind fun r=>some (r.1,r.2))=_;rw[rXor X _ hX (X5 z)];rfl
theorem X7 {n:Nat}(f:Nat->Int)(v:Vec Int n):∀ k,k < n->((List.range n).foldl (fun(v:Vec Int n) (k:Nat)=>lD v (k:Int) (f k)) v).g k=f k:=fun k hk=>by
  rw[Cc (fun k _=>f k) v,PK _ _ _ hk]
theorem rMix4 (z:Vec UInt64 128)(i:Nat)(hi:i < 8):aZ (zu z.l (i:Int)) ((Vec.rep 16 (0:Int)),0)=some (.inl ((Ip z (FD i)).l,((i+1:Nat):Int))):=by
  refine wZ _ 16 (fun v k=>lD v (k:Int) ((FD i k:Nat):Int)) _ _ (fun v k hk=>?_) ?_
  ·unfold zu;simp only[];rw[if_pos (by omega),eY _ _ hk];simp only[Option.bind_some];rw[X3 i k hi hk,bM k (by omega)]
  ·unfold zu;simp only[];rw[if_neg (by omega),rputQ z (FD i) (fun k hk=>Ti i k hi hk) _ (X7 (fun k=>((FD i k:Nat):Int)) _)];simp only[Option.bind_some];rw[bM i (by omega)];rfl
theorem rMix2 (z:Vec UInt64 128)(i:Nat)(hi:i < 8):aZ (zt z.l (i:Int)) ((Vec.rep 16 (0:Int)),0)=some (.inl ((Ip z (FC i)).l,((i+1:Nat):Int))):=by
  refine wZ _ 16 (fun v k=>lD v (k:Int) ((FC i k:Nat):Int)) _ _ (fun v k hk=>?_) ?_
  ·unfold zt;simp only[];rw[if_pos (by omega),eY _ _ hk];simp only[Option.bind_some];rw[X0 i k hi hk,bM k (by omega)]
  ·unfold zt;simp only[];rw[if_neg (by omega),rputQ z (FC i) (fun k hk=>Tf i k hi hk) _ (X7 (fun k=>((FC i k:Nat):Int)) _)];simp only[Option.bind_some];rw[bM i (by omega)];rfl
theorem rMix3 (X:List UInt8)(z:Vec UInt64 128)(hX:X.length=1024):aZ (zA (X,0)) (z.l,0)=some (wW X (Qg (Cl8 z)),0):=by
  refine Io (fun(z:Vec UInt64 128) k=>(z.l,(k:Int))) 8 (fun z i=>Ip z (FD i)) (fun _ _=>True) z trivial (fun v k hk _=>⟨?_,trivial⟩) fun _=>?_
  ·unfold zA;simp only[];rw[if_pos (by omega),rMix4 v k hk]
  ·unfold zA;simp only[];rw[if_neg (by omega),rMix5 X _ hX];rfl
theorem rMix1 (X:List UInt8)(z:Vec UInt64 128)(hX:X.length=1024):aZ (wM (X,0)) (z.l,0)=some (wW X (Qg (Cl8 (Rw8 z))),0):=by
  refine Io (fun(z:Vec UInt64 128) k=>(z.l,(k:Int))) 8 (fun z i=>Ip z (FC i)) (fun _ _=>True) z trivial (fun v k hk _=>⟨?_,trivial⟩) fun _=>?_
  ·unfold wM;simp only[];rw[if_pos (by omega),rMix2 v k hk]
  ·unfold wM;simp only[];rw[if_neg (by omega),rMix3 X _ hX];rfl
theorem rMix (x y:List UInt8)(hx:x.length=1024)(hy:y.length=1024):Aq x y=some (Tm x y,0):=by
  have hX:=vV hx hy;unfold Aq;rw[rXor x y hx hy];simp only[Option.bind_some];rw[if_neg (by decide)];refine gJ (fun i=>((List.range i).map (sH (wW x y)),(i:Int))) 128 (fun k hk=>?_) ?_
  ·unfold Dv;simp only[];rw[if_pos (by omega),X6 k (by omega),Pv _ k (by omega) (by omega)];simp only[Option.bind_some];rw[gB (by simp;omega)];simp only[Option.bind_some];rw[bM k (by omega),List.range_succ,List.map_append];rfl
  ·unfold Dv;simp only[];rw[if_neg (by omega)];have h:=rMix1 (wW x y) (WV 128 (sH (wW x y))) hX;rw[WV_l] at h;show Option.map Sum.inr (aZ (wM (wW x y,0)) ((List.range 128).map (sH (wW x y)),0))=_;rw[h];rfl
theorem wOver (x y o:List UInt8)(hx:x.length=1024)(hy:y.length=1024)(ho:o.length=1024):yD x y o=some (wW (Tm x y) o,0):=by
  unfold yD wJ;rw[if_neg (by omega),if_neg (by omega),if_neg (by omega)];simp only[Option.bind_some,Bool.not_true,Bool.false_eq_true,if_false];rw[wMix x y hx hy];simp only[Option.bind_some];rw[wXor _ o (uk hx hy) ho];rfl
end Go.Sx
namespace Go.Sx
open Go.RowKit
set_option linter.unusedVariables false
set_option linter.unusedSimpArgs false
def spr (s:UInt64)(x:UInt8):UInt64:=2*s+(UInt64.ofNat x.toNat+1)*11400714819323198485
def fullB (n:Nat)(s:UInt64):Bool:=decide (n=1024)||(decide (64<=n)&&decide (iD s ((58:UInt64).toNat)=0))
def cut:List UInt8->List UInt8->UInt64->List (List UInt8)
  | [],_,_=>[]
  | x::r,p,s=>if(fullB (p.length+1) (spr s x)||r.isEmpty)=true then(p++[x])::cut r [] 0 else cut r (p++[x]) (spr s x)
end Go.Sx
namespace Go.Sx
open Go.RowKit
set_option linter.unusedVariables false
set_option linter.unusedSimpArgs false
section
variable {α σ ρ τ:Type}
end
noncomputable def N8 (sz:Nat)(b:List UInt8):List UInt8:=((qi 1 sz 0 1 1 0 0 0 0 0 [] [] [] false sz b).getD ([],0)).1
theorem chkD (sz:Nat)(h1:1<=sz)(h2:sz<=64):jf 1 (sz:Int) 0 1 1 0 0 0 0 0 [] []=some 0:=by
  unfold jf;rw[show oM 1=some 64 from rfl];simp only[Option.bind_some];rw[if_neg (by decide),if_neg (by simp only[Bool.or_eq_true,decide_eq_true_eq];omega)];rfl
theorem Iq (sz:Nat)(h1:1<=sz)(h2:sz<=64)(b:List UInt8)(hb:b.length<=12000000) :
    qi 1 sz 0 1 1 0 0 0 0 0 [] [] [] false sz b=some (N8 sz b,0)/\vH 1 sz 0 1 1 0 0 0 0 0 [] [] [] false sz b=some (N8 sz b,0)/\(N8 sz b).length=sz:=by
  obtain⟨H,blk,M,hk,e1,e2⟩:=hash_ok sz 0 1 1 0 0 0 0 0 [] [] [] false sz b (chkD sz h1 h2) (.inl rfl) hb;have hS:H.S=64:=by rcases H.hk with⟨_,_,h⟩ | ⟨h,_,_⟩ <;> omega
  have ha:H.ans blk M false sz=((H.hash blk M false).take sz,0):=by
    unfold Half.ans;rw[if_neg (by omega),Int.toNat_natCast]
  have hd:N8 sz b=(H.hash blk M false).take sz:=by unfold N8;rw[e1,ha];rfl
  rw[e1,e2,ha,hd];refine⟨rfl,rfl,?_⟩;rw[List.length_take,H.Vb,hS];omega
end Go.Sx
namespace Go.Sx
open Go.RowKit
set_option linter.unusedVariables false
set_option linter.unusedSimpArgs false
def S4 (n:Nat):List UInt8:=(List.range 4).map fun i=>UInt8.ofNat (n / 256 ^ i)
theorem Az (n:Nat):(S4 n).length=4:=by simp[S4]
theorem oi32 (n:Nat)(h:n < 4294967296):(UInt32.ofInt (n:Int)).toNat=n:=by
  show(UInt32.ofNat ((n:Int) % 2 ^ 32).toNat).toNat=n;rw[UInt32.toNat_ofNat'];omega
theorem oi64 (n:Nat)(h:n < 18446744073709551616):(UInt64.ofInt (n:Int)).toNat=n:=by
  show(UInt64.ofNat ((n:Int) % 2 ^ 64).toNat).toNat=n;rw[UInt64.toNat_ofNat'];omega
theorem w32s (n:Nat)(h:n < 4294967296):rO (UInt32.ofInt (n:Int))=some (S4 n):=by
  unfold rO;rw[WN,oi32 n h];unfold JK S4;rw[show(UInt64.ofNat n).toNat=n from UInt64.toNat_ofNat_of_lt' (by show n < 18446744073709551616;omega)]
theorem r32s (n:Nat)(h:n < 18446744073709551616):nX (UInt64.ofInt (n:Int)) (4:Int)=some (S4 n):=by
  have:=SH (UInt64.ofInt (n:Int)) 4 (by omega);rw[show((4:Nat):Int)=4 from rfl] at this;rw[this,oi64 n h];rfl
theorem NR (b:List UInt8)(hb:b.length<=16000000)(n:Nat)(h:n < 4294967296):jK b (n:Int)=some (b++S4 n):=by
  unfold jK;rw[w32s n h];simp only[Option.bind_some];rw[gB (by rw[Az];omega)];rfl
theorem PM (n:Nat)(h:n < 4294967296):lW (n:Int)=some (S4 n):=by
  unfold lW;rw[r32s n (by omega)];rfl
theorem Tn (n:Nat)(h1:1<=n)(h2:n<=64)(b:List UInt8)(hb:b.length<=12000000):qm (n:Int) b=some (N8 n b):=by
  unfold qm;rw[(Iq n h1 h2 b hb).1];rfl
theorem rdig (n:Nat)(h1:1<=n)(h2:n<=64)(b:List UInt8)(hb:b.length<=12000000):qF (n:Int) b=some (N8 n b):=by
  unfold qF;rw[(Iq n h1 h2 b hb).2.1];rfl
theorem zO (n:Nat)(h1:1<=n)(h2:n<=64)(b:List UInt8)(hb:b.length<=12000000):(N8 n b).length=n:=(Iq n h1 h2 b hb).2.2
noncomputable def Vk (v:List UInt8):Nat->List UInt8
  | 0=>v
  | k+1=>N8 64 (Vk v k)
theorem Ir (v:List UInt8)(hv:v.length=64):∀ k,(Vk v k).length=64
  | 0=>hv
  | k+1=>zO 64 (by omega) (by omega) _ (by rw[Ir v hv k];omega)
noncomputable def Ok (v:List UInt8):Nat->List UInt8
  | 0=>[]
  | k+1=>Ok v k++(Vk v k).take 32
theorem JH (v:List UInt8)(hv:v.length=64):∀ k,(Ok v k).length=32*k
  | 0=>rfl
  | k+1=>by
    show(Ok v k++(Vk v k).take 32).length=_;rw[List.length_append,JH v hv k,List.length_take,Ir v hv k];omega
theorem X8 (v:List UInt8)(h:v.length=64):FM v 0 (32:Int)=some (v.take 32):=by
  rw[yM (by omega)];rfl
noncomputable def CW (n:Nat)(data:List UInt8):List UInt8 :=
  if n<=64 then N8 n (S4 n++data)
  else Ok (N8 64 (S4 n++data)) ((n+31) / 32 - 2)++N8 (n - 32*((n+31) / 32 - 2)) (Vk (N8 64 (S4 n++data)) ((n+31) / 32 - 2 - 1))
theorem QG (n:Nat)(h1:1<=n)(h2:n<=1048576)(data:List UInt8)(hd:data.length<=11000000):(CW n data).length=n:=by
  have h4:=Az n;have hl:(S4 n++data).length<=12000000:=by rw[List.length_append];omega
  unfold CW;split
  ·exact zO n h1 (by omega) _ hl
  ·have hv:=zO 64 (by omega) (by omega) _ hl;rw[List.length_append,JH _ hv,zO _ (by omega) (by omega) _ (by rw[Ir _ hv];omega)];omega
theorem wHash (n:Nat)(h1:1<=n)(h2:n<=1048576)(data:List UInt8)(hd:data.length<=11000000):yB (n:Int) data=some (CW n data,0):=by
  have h4:=Az n;have hl:(S4 n++data).length<=12000000:=by rw[List.length_append];omega
  unfold yB;rw[if_neg (by simp only[Bool.or_eq_true,decide_eq_true_eq];omega),w32s n (by omega)];simp only[Option.bind_some];rw[gB (by rw[h4];omega)];simp only[Option.bind_some];by_cases h:n<=64
  ·rw[if_pos (by omega),Tn n h1 h _ hl];unfold CW;rw[if_pos h];rfl
  ·rw[if_neg (by omega),show(64:Int)=((64:Nat):Int) from rfl,Tn 64 (by omega) (by omega) _ hl];have hv:=zO 64 (by omega) (by omega) _ hl;simp only[Option.bind_some];rw[X8 _ hv];simp only[Option.bind_some];rw[gB (by rw[List.length_take,hv];simp)];simp only[Option.bind_some];generalize hv0:N8 64 (S4 n++data)=v at hv ⊢;have hr:ay ((ay ((ay (Int.tdiv (ay ((n:Int)+31)) 32)) - 2)))=(((n+31) / 32 - 2:Nat):Int):=by
     rw[bn (n:=(n:Int)+31) (by omega),show Int.tdiv ((n:Int)+31) 32=(((n+31) / 32:Nat):Int) from rfl,bn (n:=(((n+31) / 32:Nat):Int)) (by omega),bn (n:=(((n+31) / 32:Nat):Int) - 2) (by omega),bn (by omega)];omega
   have hr1:ay ((ay (Int.tdiv (ay ((n:Int)+31)) 32)) - 2)=(((n+31) / 32 - 2:Nat):Int):=by
     rw[bn (n:=(n:Int)+31) (by omega),show Int.tdiv ((n:Int)+31) 32=(((n+31) / 32:Nat):Int) from rfl,bn (n:=(((n+31) / 32:Nat):Int)) (by omega),bn (n:=(((n+31) / 32:Nat):Int) - 2) (by omega)];omega
   refine gJ (fun k=>(Vk v k,Ok v (k+1),(k:Int))) ((n+31) / 32 - 2 - 1) (fun k hk=>?_) ?_
   ·unfold zh;simp only[];rw[hr1,bn (by omega),if_pos (by omega),show(64:Int)=((64:Nat):Int) from rfl,Tn 64 (by omega) (by omega) _ (by rw[Ir v hv];omega)];simp only[Option.bind_some];rw[X8 _ (zO 64 (by omega) (by omega) _ (by rw[Ir v hv];omega))];simp only[Option.bind_some];rw[gB (by rw[JH v hv,List.length_take];omega)];simp only[Option.bind_some];rw[bM k (by omega)];rfl
   ·unfold zh;simp only[];rw[hr1,bn (by omega),if_neg (by omega),bn (n:=32*_) (by omega),bn (by omega)];rw[show(n:Int) - 32*(((n+31) / 32 - 2:Nat):Int)=((n - 32*((n+31) / 32 - 2):Nat):Int) from by omega];have hvk:=Ir v hv ((n+31) / 32 - 2 - 1);rw[Tn _ (by omega) (by omega) _ (by omega)];simp only[Option.bind_some];rw[gB (by rw[JH v hv,zO _ (by omega) (by omega) _ (by omega)];omega)];simp only[Option.bind_some,Option.map_some];unfold CW;rw[if_neg h,hv0,show(n+31) / 32 - 2 - 1+1=(n+31) / 32 - 2 from by omega]
theorem rHash (n:Nat)(h1:1<=n)(h2:n<=1048576)(data:List UInt8)(hd:data.length<=11000000):Am (n:Int) data=some (CW n data,0):=by
  have h4:=Az n;have hl:(S4 n++data).length<=12000000:=by rw[List.length_append];omega
  unfold Am;rw[if_neg (by simp only[Bool.or_eq_true,decide_eq_true_eq];omega),r32s n (by omega)];simp only[Option.bind_some];have h0:=gJ (f:=xC (n:Int) data) (r:=(CW n data,0)) (fun k=>(S4 n++data.take k,(k:Int))) data.length (fun k hk=>?_) ?_
  ·simpa using h0
  ·unfold xC;simp only[];rw[if_pos (by omega),gK hk];simp only[Option.bind_some];rw[gB (by rw[List.length_append,h4,List.length_take];simp;omega)];simp only[Option.bind_some];rw[bM k (by omega),List.append_assoc,List.take_append_getElem hk]
  ·unfold xC;simp only[];rw[if_neg (by omega),List.take_of_length_le (Nat.le_refl _)];by_cases h:n<=64
   ·rw[if_pos (by omega),rdig n h1 h _ hl];unfold CW;rw[if_pos h];rfl
   ·rw[if_neg (by omega),show(64:Int)=((64:Nat):Int) from rfl,rdig 64 (by omega) (by omega) _ hl];have hv:=zO 64 (by omega) (by omega) _ hl;simp only[Option.bind_some];generalize hv0:N8 64 (S4 n++data)=v at hv ⊢;have key:=gJ (f:=uz) (r:=(CW n data,0)) (fun k=>(Ok v k,((n - 32*k:Nat):Int),Vk v k)) ((n+31) / 32 - 2 - 1) (fun k hk=>?_) ?_
    ·have e:((n - 32*0:Nat):Int)=(n:Int):=by omega
     simp only[e] at key;show Option.map Sum.inr (aZ uz ([],(n:Int),v))=_;exact congrArg (Option.map Sum.inr) key
    ·unfold uz;simp only[];have hvk:=Ir v hv k;rw[if_pos (by omega),X8 _ hvk];simp only[Option.bind_some];rw[gB (by rw[JH v hv,List.length_take];omega)];simp only[Option.bind_some];rw[show(64:Int)=((64:Nat):Int) from rfl,rdig 64 (by omega) (by omega) _ (by omega)];simp only[Option.bind_some];rw[bn (by omega),show((n - 32*k:Nat):Int) - 32=((n - 32*(k+1):Nat):Int) from by omega];rfl
    ·unfold uz;simp only[];have hvk:=Ir v hv ((n+31) / 32 - 2 - 1);rw[if_neg (by omega),X8 _ hvk];simp only[Option.bind_some];rw[gB (by rw[JH v hv,List.length_take];omega)];simp only[Option.bind_some];rw[bn (by omega),show((n - 32*((n+31) / 32 - 2 - 1):Nat):Int) - 32=((n - 32*((n+31) / 32 - 2):Nat):Int) from by omega];rw[rdig _ (by omega) (by omega) _ (by omega)];simp only[Option.bind_some];rw[gB (by rw[List.length_append,JH v hv,zO _ (by omega) (by omega) _ (by omega),List.length_take];omega)];simp only[Option.bind_some,Option.map_some];unfold CW;rw[if_neg h,hv0];have e:Ok v ((n+31) / 32 - 2)=Ok v ((n+31) / 32 - 2 - 1)++(Vk v ((n+31) / 32 - 2 - 1)).take 32:=by
       obtain⟨m,hm⟩:∃ m,(n+31) / 32 - 2=m+1:=⟨(n+31) / 32 - 3,by omega⟩
       rw[hm];rfl
     rw[e]
end Go.Sx
namespace Go.Sx
open Go.RowKit
set_option linter.unusedVariables false
set_option linter.unusedSimpArgs false
theorem PN (K M P L T:Int):mY K M P L T=some (if sJ K M P L T then 0 else 200):=by
  unfold mY;by_cases h:sJ K M P L T
  ·rw[if_pos h];unfold sJ at h;rw[show ay (8*L)=8*L from by rw[bn] <;> omega];rw[if_neg (by simp only[Bool.or_eq_true,decide_eq_true_eq];omega)]
  ·rw[if_neg h];unfold sJ at h;by_cases hL:1<=L/\L<=8
   ·rw[show ay (8*L)=8*L from by rw[bn] <;> omega];rw[if_pos (by simp only[Bool.or_eq_true,decide_eq_true_eq];omega)]
   ·rw[if_pos (by simp only[Bool.or_eq_true,decide_eq_true_eq];omega)]
theorem wSum (b:List UInt8)(hb:b.length<=12000000):Fj 1 64 b=some (N8 64 b,0):=by
  have h:=(Iq 64 (by omega) (by omega) b hb).1;have hc:=chkD 64 (by omega) (by omega);rw[show((64:Nat):Int)=64 from rfl] at h hc;unfold Fj Dk Df nU;simp only[if_true,Option.bind_some];rw[if_neg (by decide)];simp only[Option.bind_some];rw[if_neg (by decide),Px];simp only[List.length_nil];rw[show((0:Nat):Int)=0 from rfl,hc];simp only[Option.bind_some];rw[if_neg (by decide),h];rfl
theorem rSum (b:List UInt8)(hb:b.length<=12000000):Fp 1 64 b=some (N8 64 b,0):=by
  have h:=(Iq 64 (by omega) (by omega) b hb).2.1;have hc:=chkD 64 (by omega) (by omega);rw[show((64:Nat):Int)=64 from rfl] at h hc;unfold Fp F7;simp only[List.length_nil];rw[show((0:Nat):Int)=0 from rfl,hc];simp only[Option.bind_some];rw[if_neg (by decide),h];rfl
def Tq (K M P L T:Nat)(w aO:List UInt8):List UInt8 :=
  (((((((((((([]++S4 L)++S4 T)++S4 M)++S4 P)++S4 19)++S4 K)++S4 w.length)++w)++S4 aO.length)++aO)++S4 0)++[])++S4 0++[]
theorem X9 (K M P L T:Nat)(hm:sJ K M P L T)(w aO:List UInt8)(hw:w.length<=65536)(hs:8<=aO.length/\aO.length<=64):mQ K M P L T w aO [] []=some (N8 64 (Tq K M P L T w aO),0):=by
  unfold mQ;rw[WX,decide_eq_true hm];simp only[Option.bind_some,Bool.not_true,Bool.false_eq_true,if_false];rw[if_neg (by omega),SY];unfold zY;rw[if_pos hm,if_neg (by omega)];simp only[Option.bind_some,ne_eq,not_true_eq_false,if_false];rw[if_neg (by simp)];unfold rP;rw[if_neg (by simp)];unfold sJ at hm;unfold wE;have g0:aT (⟨[(L:Int),(T:Int),(M:Int),(P:Int),(19:Int),(K:Int)],rfl⟩:Vec Int 6).l 0=some (L:Int):=rfl;have g1:aT (⟨[(L:Int),(T:Int),(M:Int),(P:Int),(19:Int),(K:Int)],rfl⟩:Vec Int 6).l 1=some (T:Int):=rfl;have g2:aT (⟨[(L:Int),(T:Int),(M:Int),(P:Int),(19:Int),(K:Int)],rfl⟩:Vec Int 6).l 2=some (M:Int):=rfl;have g3:aT (⟨[(L:Int),(T:Int),(M:Int),(P:Int),(19:Int),(K:Int)],rfl⟩:Vec Int 6).l 3=some (P:Int):=rfl;have g4:aT (⟨[(L:Int),(T:Int),(M:Int),(P:Int),(19:Int),(K:Int)],rfl⟩:Vec Int 6).l 4=some ((19:Nat):Int):=rfl;have g5:aT (⟨[(L:Int),(T:Int),(M:Int),(P:Int),(19:Int),(K:Int)],rfl⟩:Vec Int 6).l 5=some (K:Int):=rfl;have l4:=Az;rw[g0,Option.bind_some,NR _ (by simp) _ (by omega),Option.bind_some];rw[g1,Option.bind_some,NR _ (by simp[l4]) _ (by omega),Option.bind_some];rw[g2,Option.bind_some,NR _ (by simp[l4]) _ (by omega),Option.bind_some];rw[g3,Option.bind_some,NR _ (by simp[l4]) _ (by omega),Option.bind_some]
  rw[g4,Option.bind_some,NR _ (by simp[l4]) _ (by omega),Option.bind_some];rw[g5,Option.bind_some,NR _ (by simp[l4]) _ (by omega),Option.bind_some];rw[NR _ (by simp[l4]) _ (by omega),Option.bind_some,gB (by simp[l4];omega),Option.bind_some];rw[NR _ (by simp[l4];omega) _ (by omega),Option.bind_some,gB (by simp[l4];omega),Option.bind_some];rw[NR _ (by simp[l4];omega) _ (by simp),Option.bind_some,gB (by simp[l4];omega),Option.bind_some];rw[NR _ (by simp[l4];omega) _ (by simp),Option.bind_some,gB (by simp[l4];omega),Option.bind_some];rw[wSum _ (by simp[l4];omega),Option.bind_some];rfl
theorem rStartA (K M P L T:Nat)(hm:sJ K M P L T)(w aO:List UInt8)(hw:w.length<=65536)(hs:8<=aO.length/\aO.length<=64):vJ K M P L T w aO [] []=some (N8 64 (Tq K M P L T w aO),0):=by
  unfold vJ wK;rw[PN,if_pos hm];simp only[Option.bind_some,ne_eq,not_true_eq_false,if_false];rw[if_neg (by omega),S9];unfold zY;rw[if_pos hm,if_neg (by omega)];simp only[Option.bind_some,ne_eq,not_true_eq_false,if_false];rw[if_neg (by simp)];simp only[Option.bind_some,ne_eq,not_true_eq_false,if_false];unfold sJ at hm;have g0:aT ([(L:Int),(T:Int),(M:Int),(P:Int),(19:Int),(K:Int)]:List Int) 0=some (L:Int):=rfl;have g1:aT ([(L:Int),(T:Int),(M:Int),(P:Int),(19:Int),(K:Int)]:List Int) 1=some (T:Int):=rfl;have g2:aT ([(L:Int),(T:Int),(M:Int),(P:Int),(19:Int),(K:Int)]:List Int) 2=some (M:Int):=rfl;have g3:aT ([(L:Int),(T:Int),(M:Int),(P:Int),(19:Int),(K:Int)]:List Int) 3=some (P:Int):=rfl;have g4:aT ([(L:Int),(T:Int),(M:Int),(P:Int),(19:Int),(K:Int)]:List Int) 4=some ((19:Nat):Int):=rfl;have g5:aT ([(L:Int),(T:Int),(M:Int),(P:Int),(19:Int),(K:Int)]:List Int) 5=some (K:Int):=rfl;have l4:=Az;rw[g0,Option.bind_some,PM _ (by omega),Option.bind_some,gB (by simp[l4]),Option.bind_some];rw[g1,Option.bind_some,PM _ (by omega),Option.bind_some,gB (by simp[l4]),Option.bind_some];rw[g2,Option.bind_some,PM _ (by omega),Option.bind_some,gB (by simp[l4]),Option.bind_some];rw[g3,Option.bind_some,PM _ (by omega),Option.bind_some,gB (by simp[l4]),Option.bind_some]
  rw[g4,Option.bind_some,PM _ (by omega),Option.bind_some,gB (by simp[l4]),Option.bind_some];rw[g5,Option.bind_some,PM _ (by omega),Option.bind_some,gB (by simp[l4]),Option.bind_some];rw[PM _ (by omega),Option.bind_some,gB (by simp[l4]),Option.bind_some,gB (by simp[l4];omega),Option.bind_some];rw[PM _ (by omega),Option.bind_some,gB (by simp[l4];omega),Option.bind_some,gB (by simp[l4];omega),Option.bind_some];rw[PM _ (by simp),Option.bind_some,gB (by simp[l4];omega),Option.bind_some,gB (by simp[l4];omega),Option.bind_some];rw[Option.bind_some,gB (by simp[l4];omega),Option.bind_some,gB (by simp[l4];omega),Option.bind_some];rw[rSum _ (by simp[l4];omega),Option.bind_some];rfl
theorem hdr_le (K M P L T:Nat)(w aO:List UInt8)(hw:w.length<=65536)(hs:aO.length<=64):(Tq K M P L T w aO).length<=12000000:=by
  unfold Tq;simp[Az];omega
end Go.Sx
namespace Go.Sx
open Go.RowKit
set_option linter.unusedVariables false
set_option linter.unusedSimpArgs false
section
variable (K M P L T:Nat)(hm:sJ K M P L T)
def dG (M L:Nat):Nat:=M / (4*L)
include hm in
theorem mV:K<=2/\1<=L/\L<=8/\1<=P/\P<=16/\4<=T/\T<=1024/\8*L<=M/\M<=4096:=by unfold sJ at hm;omega
include hm in
theorem nG:2<=dG M L/\dG M L<=1024/\L*(4*dG M L)<=4096:=by
  obtain⟨_,h1,h2,_,_,_,_,h3,h4⟩:=mV K M P L T hm;have h5:4*L*(M / (4*L))<=M:=Nat.mul_div_le M (4*L);have h6:2<=M / (4*L):=(Nat.le_div_iff_mul_le (by omega)).2 (by omega);refine⟨h6,?_,?_⟩
  ·unfold dG;have:4*(M / (4*L))<=4*L*(M / (4*L)):=Nat.mul_le_mul_right _ (by omega);omega
  ·unfold dG;rw[<- Nat.mul_assoc,Nat.mul_comm L 4];omega
include hm in
theorem WZ:kW K M P L T=some ((dG M L:Nat):Int):=by
  have hb:=nG K M P L T hm;obtain⟨_,h1,h2,_⟩:=mV K M P L T hm;unfold kW;rw[bn (n:=4*(L:Int)) (by omega),jy (by omega)];simp only[Option.bind_some];rw[show Int.tdiv (M:Int) (4*(L:Int))=((dG M L:Nat):Int) from rfl,bn (by omega)]
include hm in
theorem wcol:nC K M P L T=some ((4*dG M L:Nat):Int):=by
  have hb:=nG K M P L T hm;unfold nC;rw[WZ K M P L T hm];simp only[Option.bind_some];rw[bn (by omega)];simp
include hm in
theorem rcol:nY K M P L T=some (((4*dG M L:Nat):Int),0):=by
  have hb:=nG K M P L T hm;obtain⟨_,h1,h2,_⟩:=mV K M P L T hm;unfold nY;rw[PN,if_pos hm];simp only[Option.bind_some,ne_eq,not_true_eq_false,if_false];rw[bn (n:=4*(L:Int)) (by omega),jy (by omega)];simp only[Option.bind_some];rw[show Int.tdiv (M:Int) (4*(L:Int))=((dG M L:Nat):Int) from rfl,bn (n:=((dG M L:Nat):Int)) (by omega),bn (by omega)];simp[Int.mul_comm]
include hm in
theorem rseg:uA K M P L T=some ((dG M L:Nat):Int):=by
  have hb:=nG K M P L T hm;unfold uA;rw[rcol K M P L T hm];simp only[Option.bind_some];rw[show Int.tdiv ((4*dG M L:Nat):Int) 4=((4*dG M L / 4:Nat):Int) from rfl,show 4*dG M L / 4=dG M L from by omega,bn (by omega)]
end
def X_ (area:Nat)(j:UInt64):Nat:=area*((j.toNat % 4294967296)*(j.toNat % 4294967296) / 4294967296) / 4294967296
theorem W9 (area:Nat)(h:1<=area)(j:UInt64):X_ area j < area:=by
  unfold X_;have h1:j.toNat % 4294967296 < 4294967296:=Nat.mod_lt _ (by omega);generalize j.toNat % 4294967296=a at h1 ⊢;have h2:a*a / 4294967296 < 4294967296:=Nat.div_lt_of_lt_mul (Nat.mul_lt_mul'' h1 h1);generalize a*a / 4294967296=p at h2 ⊢;exact Nat.div_lt_of_lt_mul (by rw[Nat.mul_comm];exact Nat.mul_lt_mul_of_pos_right h2 (by omega))
theorem qU (area:Nat)(h:area<=65536)(j:UInt64):(iD ((UInt64.ofInt (area:Int))*(iD ((j % 4294967296)*(j % 4294967296)) ((32:UInt64).toNat))) ((32:UInt64).toNat)).toNat=X_ area j:=by
  have h1:j.toNat % 4294967296 < 4294967296:=Nat.mod_lt _ (by omega);have e1:(j % 4294967296).toNat=j.toNat % 4294967296:=by rw[UInt64.toNat_mod];rfl
  have e2:(iD ((j % 4294967296)*(j % 4294967296)) ((32:UInt64).toNat)).toNat=(j.toNat % 4294967296)*(j.toNat % 4294967296) / 4294967296:=by
    rw[shrN,UInt64.toNat_mul,e1,Nat.mod_eq_of_lt]
    ·rfl
    ·exact Nat.lt_of_lt_of_le (Nat.mul_lt_mul'' h1 h1) (by decide)
  rw[shrN,UInt64.toNat_mul,e2,oi64 area (by omega)];unfold X_;generalize j.toNat % 4294967296=a at h1 ⊢;have h2:a*a / 4294967296 < 4294967296:=Nat.div_lt_of_lt_mul (Nat.mul_lt_mul'' h1 h1);generalize a*a / 4294967296=p at h2 ⊢;rw[Nat.mod_eq_of_lt]
  ·rfl
  ·have:area*p<=65536*4294967296:=Nat.mul_le_mul h (by omega);omega
def zQ (L pass slice lane:Nat)(j:UInt64):Nat:=if pass=0/\slice=0 then lane else j.toNat / 4294967296 % L
def EM (s pass slice lane x l:Nat):Nat:=if l=lane then(if pass=0 then slice*s else 3*s)+x - 1 else if x=0 then(if pass=0 then slice*s else 3*s) - 1 else(if pass=0 then slice*s else 3*s)
def Tt (s pass slice:Nat):Nat:=if pass=0∨slice=3 then 0 else(slice+1)*s
def colS (s pass slice lane x l:Nat)(j:UInt64):Nat:=(Tt s pass slice+EM s pass slice lane x l - 1 - X_ (EM s pass slice lane x l) j) % (4*s)
theorem PO (L pass slice lane:Nat)(j:UInt64)(hL:1<=L)(hl:lane < L):zQ L pass slice lane j < L:=by
  unfold zQ;split
  ·exact hl
  ·exact Nat.mod_lt _ (by omega)
theorem PQ (s pass slice lane x l:Nat)(hs:2<=s)(h3:slice<=3)(hx:x < s)(hl:pass=0/\slice=0->l=lane/\2<=x):1<=EM s pass slice lane x l/\EM s pass slice lane x l<=4*s:=by
  unfold EM;have h0:slice*s<=3*s:=Nat.mul_le_mul_right _ h3;have h1:slice≠0->s<=slice*s:=fun h=>Nat.le_mul_of_pos_left _ (by omega);by_cases hp:pass=0
  ·simp only[hp,if_true];by_cases hz:slice=0
   ·obtain⟨rfl,hx2⟩:=hl ⟨hp,hz⟩;subst hz;simp only[if_true];omega
   ·have:=h1 hz;split
    ·omega
    ·split <;> omega
  ·simp only[hp,if_false];split
   ·omega
   ·split <;> omega
theorem Tu (s pass slice lane x l:Nat)(j:UInt64)(hs:2<=s):colS s pass slice lane x l j < 4*s:=Nat.mod_lt _ (by omega)
theorem colS_0 (s slice lane x l:Nat)(j:UInt64)(hs:2<=s)(h3:slice<=3)(hx:x < s)(hl:slice=0->l=lane/\2<=x):colS s 0 slice lane x l j < slice*s∨(l=lane/\colS s 0 slice lane x l j < slice*s+x):=by
  have hb:=PQ s 0 slice lane x l hs h3 hx fun h=>hl h.2;have hq:=W9 _ hb.1 j;have h0:slice*s<=3*s:=Nat.mul_le_mul_right _ h3;have h1:slice≠0->s<=slice*s:=fun h=>Nat.le_mul_of_pos_left _ (by omega);unfold colS Tt;rw[if_pos (.inl rfl)];generalize hA:EM s 0 slice lane x l=a at hb hq ⊢;rw[Nat.mod_eq_of_lt (by omega)];unfold EM at hA;simp only[if_true] at hA;by_cases he:l=lane
  ·right;rw[if_pos he] at hA;refine⟨he,?_⟩;omega
  ·left;rw[if_neg he] at hA;have hz:slice≠0:=fun h=>he (hl h).1;have:=h1 hz;split at hA <;> omega
section
variable (K M P L T:Nat)(hm:sJ K M P L T)(pass slice lane x:Nat)(j:UInt64)(hp:pass < P)(h3:slice<=3)(hl:lane < L)(hx:x < dG M L)(h02:pass=0/\slice=0->2<=x)
include hm in
theorem wref3 (l:Int)(st area:Nat)(h1:1<=area)(h2:area<=65536)(h4:st<=65536):mG K M P L T j l st area=some (l,(((st+area - 1 - X_ area j) % (4*dG M L):Nat):Int)):=by
  have hb:=nG K M P L T hm;have hq:=W9 area h1 j;unfold mG;rw[wcol K M P L T hm];simp only[Option.bind_some];rw[jy (by omega)];simp only[Option.bind_some,and32];rw[qU area h2 j,bn (n:=(st:Int)+area) (by omega),bn (n:=(st:Int)+area - 1) (by omega),bn (n:=((X_ area j:Nat):Int)) (by omega),bn (by omega)];rw[show(st:Int)+area - 1 - ((X_ area j:Nat):Int)=((st+area - 1 - X_ area j:Nat):Int) from by omega];rfl
include hm in
theorem rref3 (l:Int)(st area:Nat)(h1:1<=area)(h2:area<=65536)(h4:st<=65536):rW j ((dG M L:Nat):Int) l area st=some (l,(((st+area - 1 - X_ area j) % (4*dG M L):Nat):Int),0):=by
  have hb:=nG K M P L T hm;have hq:=W9 area h1 j;unfold rW;rw[bn (n:=4*((dG M L:Nat):Int)) (by omega),jy (by omega)];simp only[Option.bind_some];rw[qU area h2 j,bn (n:=(st:Int)+area) (by omega),bn (n:=(st:Int)+area - 1) (by omega),bn (n:=((X_ area j:Nat):Int)) (by omega),bn (by omega)];rw[show(st:Int)+area - 1 - ((X_ area j:Nat):Int)=((st+area - 1 - X_ area j:Nat):Int) from by omega];rfl
include hm h3 hx in
theorem wref0 (l:Nat)(hll:pass=0/\slice=0->l=lane/\2<=x):oG K M P L T pass slice lane x j l=some ((l:Int),((colS (dG M L) pass slice lane x l j:Nat):Int)):=by
  have hb:=nG K M P L T hm;have ha:=PQ (dG M L) pass slice lane x l hb.1 h3 hx hll;have h0:slice*dG M L<=3*dG M L:=Nat.mul_le_mul_right _ h3;have h1:(slice+1)*dG M L<=4*dG M L:=Nat.mul_le_mul_right _ (by omega);have YZ:∀ st:Nat,st<=4096->∀ wh:Nat,wh=(if pass=0 then slice*dG M L else 3*dG M L)->oC K M P L T lane x j l wh st=some ((l:Int),(((st+EM (dG M L) pass slice lane x l - 1 - X_ (EM (dG M L) pass slice lane x l) j) % (4*dG M L):Nat):Int)):=by
    intro st hst wh hwh;have hw:wh<=4096:=by rw[hwh];split <;> omega
    have hA:EM (dG M L) pass slice lane x l=if l=lane then wh+x - 1 else if x=0 then wh - 1 else wh:=by unfold EM;rw[hwh]
    unfold oC;by_cases he:l=lane
    ·rw[if_pos he] at hA;rw[if_pos (by omega),bn (n:=(x:Int) - 1) (by omega),bn (by omega),show(wh:Int)+((x:Int) - 1)=((wh+x - 1:Nat):Int) from by omega,<-hA];exact wref3 K M P L T hm j l st _ ha.1 (by omega) (by omega)
    ·rw[if_neg he] at hA;rw[if_neg (by omega)];by_cases hz:x=0
     ·rw[if_pos hz] at hA;rw[if_pos (by omega),bn (by omega),show(wh:Int) - 1=((wh - 1:Nat):Int) from by omega,<-hA];exact wref3 K M P L T hm j l st _ ha.1 (by omega) (by omega)
     ·rw[if_neg hz] at hA;rw[if_neg (by omega),<-hA];exact wref3 K M P L T hm j l st _ ha.1 (by omega) (by omega)
  have key1:∀ wh:Nat,wh=(if pass=0 then slice*dG M L else 3*dG M L)->oD K M P L T pass slice lane x j l ((dG M L:Nat):Int) wh=some ((l:Int),((colS (dG M L) pass slice lane x l j:Nat):Int)):=by
    intro wh hwh;unfold oD colS Tt;by_cases hc:pass=0∨slice=3
    ·rw[if_pos hc,if_pos (by simp only[Bool.or_eq_true,decide_eq_true_eq];omega)];exact YZ 0 (by omega) wh hwh
    ·rw[if_neg hc,if_neg (by simp only[Bool.or_eq_true,decide_eq_true_eq];omega),bn (n:=(slice:Int)+1) (by omega),show((slice:Int)+1)*((dG M L:Nat):Int)=(((slice+1)*dG M L:Nat):Int) from by simp,bn (by omega)];exact YZ _ (by omega) wh hwh
  unfold oG;rw[WZ K M P L T hm];simp only[Option.bind_some];by_cases hp0:pass=0
  ·rw[if_pos (by omega),show(slice:Int)*((dG M L:Nat):Int)=((slice*dG M L:Nat):Int) from by simp,bn (by omega)];exact key1 _ (by rw[if_pos hp0])
  ·rw[if_neg (by omega),show(3:Int)*((dG M L:Nat):Int)=((3*dG M L:Nat):Int) from by simp,bn (by omega)];exact key1 _ (by rw[if_neg hp0])
include hm h3 hx in
theorem rref0 (l:Nat)(hll:pass=0/\slice=0->l=lane/\2<=x):rY pass slice lane x j ((dG M L:Nat):Int) l=some ((l:Int),((colS (dG M L) pass slice lane x l j:Nat):Int),0):=by
  have hb:=nG K M P L T hm;have ha:=PQ (dG M L) pass slice lane x l hb.1 h3 hx hll;have h0:slice*dG M L<=3*dG M L:=Nat.mul_le_mul_right _ h3;have h1:(slice+1)*dG M L<=4*dG M L:=Nat.mul_le_mul_right _ (by omega);have YZ:oV pass slice j ((dG M L:Nat):Int) l ((EM (dG M L) pass slice lane x l:Nat):Int)=some ((l:Int),((colS (dG M L) pass slice lane x l j:Nat):Int),0):=by
    unfold oV colS Tt;by_cases hc:pass=0∨slice=3
    ·rw[if_pos hc,if_neg (by simp only[Bool.and_eq_true,decide_eq_true_eq];omega)];exact rref3 K M P L T hm j l 0 _ ha.1 (by omega) (by omega)
    ·rw[if_neg hc,if_pos (by simp only[Bool.and_eq_true,decide_eq_true_eq];omega),bn (n:=(slice:Int)+1) (by omega),show((slice:Int)+1)*((dG M L:Nat):Int)=(((slice+1)*dG M L:Nat):Int) from by simp,bn (by omega)];exact rref3 K M P L T hm j l _ _ ha.1 (by omega) (by omega)
  have key1:∀ wh:Nat,wh=(if pass=0 then slice*dG M L else 3*dG M L)->rX pass slice lane x j ((dG M L:Nat):Int) l wh=some ((l:Int),((colS (dG M L) pass slice lane x l j:Nat):Int),0):=by
    intro wh hwh;have hw:wh<=4096:=by rw[hwh];split <;> omega
    have hA:EM (dG M L) pass slice lane x l=if l=lane then wh+x - 1 else if x=0 then wh - 1 else wh:=by unfold EM;rw[hwh]
    unfold rX;by_cases he:l=lane
    ·rw[if_pos he] at hA;rw[if_pos (by omega),bn (n:=(wh:Int)+x) (by omega),bn (by omega),show(wh:Int)+(x:Int) - 1=((wh+x - 1:Nat):Int) from by omega,<-hA];exact YZ
    ·rw[if_neg he] at hA;rw[if_neg (by omega)];by_cases hz:x=0
     ·rw[if_pos hz] at hA;rw[if_pos (by omega),bn (by omega),show(wh:Int) - 1=((wh - 1:Nat):Int) from by omega,<-hA];exact YZ
     ·rw[if_neg hz] at hA;rw[if_neg (by omega),<-hA];exact YZ
  unfold rY;by_cases hp0:pass=0
  ·rw[if_pos (by omega),show(slice:Int)*((dG M L:Nat):Int)=((slice*dG M L:Nat):Int) from by simp,bn (by omega)];exact key1 _ (by rw[if_pos hp0])
  ·rw[if_neg (by omega),show(3:Int)*((dG M L:Nat):Int)=((3*dG M L:Nat):Int) from by simp,bn (by omega)];exact key1 _ (by rw[if_neg hp0])
include hm in
theorem laneU:ay (((iD j ((32:UInt64).toNat)) % (UInt64.ofInt (L:Int))).toNat:Int)=((j.toNat / 4294967296 % L:Nat):Int):=by
  obtain⟨_,h1,h2,_⟩:=mV K M P L T hm;rw[UInt64.toNat_mod,shrN,oi64 L (by omega)];have:j.toNat / 4294967296 % L < L:=Nat.mod_lt _ (by omega);show ay ((j.toNat / 4294967296 % L:Nat):Int)=_;rw[bn (by omega)]
include hm in
theorem laneN:(UInt64.ofInt (L:Int))≠0:=by
  obtain⟨_,h1,h2,_⟩:=mV K M P L T hm;intro h;have:=congrArg UInt64.toNat h;rw[oi64 L (by omega)] at this;have h0:(0:UInt64).toNat=0:=rfl;omega
include hm h3 hx h02 in
theorem wrefer:uy K M P L T pass slice lane x j=some (((zQ L pass slice lane j:Nat):Int),((colS (dG M L) pass slice lane x (zQ L pass slice lane j) j:Nat):Int)):=by
  unfold uy;rw[jy (laneN K M P L T hm)];simp only[Option.bind_some];by_cases hc:pass=0/\slice=0
  ·rw[if_pos (by simp only[Bool.and_eq_true,decide_eq_true_eq];omega)];unfold zQ;rw[if_pos hc];exact wref0 K M P L T hm pass slice lane x j h3 hx lane fun h=>⟨rfl,h02 h⟩
  ·rw[if_neg (by simp only[Bool.and_eq_true,decide_eq_true_eq];omega),laneU K M P L T hm];unfold zQ;rw[if_neg hc];exact wref0 K M P L T hm pass slice lane x j h3 hx _ fun h=>absurd h hc
include hm hp h3 hl hx h02 in
theorem rrefer:BL K M P L T pass slice lane x j=some (((zQ L pass slice lane j:Nat):Int),((colS (dG M L) pass slice lane x (zQ L pass slice lane j) j:Nat):Int),0):=by
  unfold BL;rw[PN,if_pos hm];simp only[Option.bind_some,ne_eq,not_true_eq_false,if_false];rw[rseg K M P L T hm];simp only[Option.bind_some];rw[if_neg (by simp only[Bool.or_eq_true,Bool.and_eq_true,decide_eq_true_eq];omega),jy (laneN K M P L T hm)];simp only[Option.bind_some];by_cases hc:pass=0/\slice=0
  ·rw[if_pos (by simp only[Bool.and_eq_true,decide_eq_true_eq];omega)];unfold zQ;rw[if_pos hc];exact rref0 K M P L T hm pass slice lane x j h3 hx lane fun h=>⟨rfl,h02 h⟩
  ·rw[if_neg (by simp only[Bool.and_eq_true,decide_eq_true_eq];omega),laneU K M P L T hm];unfold zQ;rw[if_neg hc];exact rref0 K M P L T hm pass slice lane x j h3 hx _ fun h=>absurd h hc
end
end Go.Sx
namespace Go.Sx
open Go.RowKit
set_option linter.unusedVariables false
set_option linter.unusedSimpArgs false
def zb (n:Nat):List UInt8:=List.replicate n 0
theorem vW (n:Nat):(zb n).length=n:=by simp[zb]
def w7 (l:List Nat)(i:Nat):UInt64:=UInt64.ofInt ((l.getD i 0:Nat):Int)
def hd7 (l:List Nat)(n:Nat):List UInt8:=Fo (fun i=>JK 8 (w7 l i)) n
theorem Le (l:List Nat)(n:Nat):(hd7 l n).length=n*8:=PL (fun i=>xY 8 _) n
def adr (l:List Nat):List UInt8:=Tm (zb 1024) (Tm (zb 1024) (hd7 l 7++zb 968))
theorem Vj (l:List Nat):(hd7 l 7++zb 968).length=1024:=by rw[List.length_append,Le,vW]
theorem N9 (l:List Nat):(adr l).length=1024:=uk (vW _) (uk (vW _) (Vj l))
theorem g7 (a b c d e f g:Nat)(i:Nat)(h:i < 7):aT ([(a:Int),(b:Int),(c:Int),(d:Int),(e:Int),(f:Int),(g:Int)]:List Int) (i:Int)=some ((([a,b,c,d,e,f,g]:List Nat).getD i 0:Nat):Int):=by
  match i,h with
  | 0,_=>rfl
  | 1,_=>rfl
  | 2,_=>rfl
  | 3,_=>rfl
  | 4,_=>rfl
  | 5,_=>rfl
  | 6,_=>rfl
theorem Tv:List.replicate (Int.toNat (1024:Int)) (0:UInt8)=zb 1024:=rfl
section
variable (K M P L T:Nat)(hm:sJ K M P L T)(pass slice lane:Nat)
def l7 (n:Nat):List Nat:=[pass,lane,slice,L*(4*dG M L),P,K,n]
def aw (x:Nat):UInt64:=sH (adr (l7 K M P L pass slice lane (x / 128+1))) (x % 128)
include hm in
theorem LC_ok:ay ((L:Int)*((4*dG M L:Nat):Int))=((L*(4*dG M L):Nat):Int):=by
  have hb:=nG K M P L T hm;rw[show(L:Int)*((4*dG M L:Nat):Int)=((L*(4*dG M L):Nat):Int) from by simp,bn (by omega)]
include hm in
theorem wadr2 (q:Nat)(hq:128*q < dG M L):aZ (ng K M P L T ((q+1:Nat):Int) (adr (l7 K M P L pass slice lane (q+1)),0)) ((List.range (128*q)).map (aw K M P L pass slice lane),0)=some (.inl ((List.range (min (128*(q+1)) (dG M L))).map (aw K M P L pass slice lane),((q+1+1:Nat):Int))):=by
  have hb:=nG K M P L T hm;have hn:128*q+min 128 (dG M L - 128*q)=min (128*(q+1)) (dG M L):=by omega
  refine gJ (fun i=>((List.range (128*q+i)).map (aw K M P L pass slice lane),(i:Int))) (min 128 (dG M L - 128*q)) (fun i hi=>?_) ?_
  ·unfold ng;simp only[];rw[if_pos (by omega),WZ K M P L T hm];simp only[Option.bind_some,List.length_map,List.length_range];rw[if_pos (by omega),X6 i (by omega),MG _ i (by rw[N9];omega) (by rw[N9];omega)];simp only[Option.bind_some];rw[gB (by simp;omega)];simp only[Option.bind_some];rw[bM i (by omega),<-Nat.add_assoc,List.range_succ,List.map_append];have:aw K M P L pass slice lane (128*q+i)=sH (adr (l7 K M P L pass slice lane (q+1))) i:=by
     unfold aw;rw[show(128*q+i) / 128=q from by omega,show(128*q+i) % 128=i from by omega]
   rw[List.map_cons,List.map_nil,this]
  ·unfold ng;simp only[];rw[hn];by_cases h:min 128 (dG M L - 128*q)=128
   ·rw[if_neg (by omega),bM (q+1) (by omega)];rfl
   ·rw[if_pos (by omega),WZ K M P L T hm];simp only[Option.bind_some,List.length_map,List.length_range];rw[if_neg (by omega),bM (q+1) (by omega)];rfl
include hm in
theorem wadr1 (q:Nat)(hq:128*q < dG M L):aZ (ni K M P L T pass slice lane ((List.range (128*q)).map (aw K M P L pass slice lane)) ((q+1:Nat):Int) ((4*dG M L:Nat):Int)) ([],0)=some (.inl ((List.range (min (128*(q+1)) (dG M L))).map (aw K M P L pass slice lane),((q+1+1:Nat):Int))):=by
  have hb:=nG K M P L T hm;refine gJ (fun i=>(hd7 (l7 K M P L pass slice lane (q+1)) i,(i:Int))) 7 (fun i hi=>?_) ?_
  ·unfold ni;simp only[];rw[if_pos (by omega),LC_ok K M P L T hm,g7 _ _ _ _ _ _ _ i hi];simp only[Option.bind_some];rw[XL];simp only[Option.bind_some];rw[gB (by rw[Le];simp;omega)];simp only[Option.bind_some];rw[bM i (by omega)];unfold hd7;rw[DF];rfl
  ·unfold ni;simp only[];rw[if_neg (by omega),Tv,show Int.toNat (1024:Int)=1024 from rfl];have hl:=Le (l7 K M P L pass slice lane (q+1)) 7;rw[yM (by rw[hl,vW];omega)];simp only[Option.bind_some];have hz:((zb 1024).take (((1024:Nat):Int)).toNat).drop (((hd7 (l7 K M P L pass slice lane (q+1)) 7).length:Int)).toNat=zb 968:=by
     rw[hl,Int.toNat_natCast,Int.toNat_natCast,List.take_of_length_le (by rw[vW];omega)];unfold zb;rw[List.drop_replicate]
   rw[hz,gB (by rw[hl,vW];omega)];simp only[Option.bind_some];rw[wMix _ _ (vW _) (Vj _)];simp only[Option.bind_some];rw[wMix _ _ (vW _) (uk (vW _) (Vj _))];simp only[Option.bind_some];have:=wadr2 K M P L T hm pass slice lane q hq;unfold adr at this;rw[this];rfl
include hm in
theorem waddr:qx K M P L T pass slice lane=some ((List.range (dG M L)).map (aw K M P L pass slice lane)):=by
  have hb:=nG K M P L T hm;unfold qx;refine gJ (fun q=>((List.range (min (128*q) (dG M L))).map (aw K M P L pass slice lane),((q+1:Nat):Int))) ((dG M L+127) / 128) (fun q hq=>?_) ?_
  ·unfold qw;simp only[];have h1:min (128*q) (dG M L)=128*q:=by omega
   rw[h1,WZ K M P L T hm];simp only[Option.bind_some,List.length_map,List.length_range];rw[if_pos (by omega),wcol K M P L T hm];simp only[Option.bind_some];exact wadr1 K M P L T hm pass slice lane q (by omega)
  ·unfold qw;simp only[];have h1:min (128*((dG M L+127) / 128)) (dG M L)=dG M L:=by omega
   rw[h1,WZ K M P L T hm];simp only[Option.bind_some,List.length_map,List.length_range];rw[if_neg (by omega)];rfl
include hm in
theorem radr1 (n:Nat):xE K M P L T pass slice lane ((4*dG M L:Nat):Int) n=some (adr (l7 K M P L pass slice lane n)):=by
  have hb:=nG K M P L T hm;have hl:=Le (l7 K M P L pass slice lane n) 7;unfold xE;refine gJ (fun i=>(hd7 (l7 K M P L pass slice lane n) i,(i:Int))) 7 (fun i hi=>?_) ?_
  ·unfold wO;simp only[];rw[if_pos (by omega),LC_ok K M P L T hm,g7 _ _ _ _ _ _ _ i hi];simp only[Option.bind_some];have:=SH (w7 (l7 K M P L pass slice lane n) i) 8 (by omega);rw[show((8:Nat):Int)=8 from rfl] at this;unfold w7 l7 at this;rw[this];simp only[Option.bind_some];rw[gB (by rw[Le];simp;omega)];simp only[Option.bind_some];rw[bM i (by omega)];unfold hd7;rw[DF];rfl
  ·unfold wO;simp only[];rw[if_neg (by omega)];have key:=gJ (f:=rV) (r:=adr (l7 K M P L pass slice lane n)) (fun i=>hd7 (l7 K M P L pass slice lane n) 7++zb i) 968 (fun i hi=>?_) ?_
   ·have e:hd7 (l7 K M P L pass slice lane n) 7++zb 0=hd7 (l7 K M P L pass slice lane n) 7:=List.append_nil _;simp only[e] at key;exact congrArg (Option.map Sum.inr) key
   ·unfold rV;show(if(((hd7 (l7 K M P L pass slice lane n) 7++zb i).length:Nat):Int) < 1024 then _ else _)=_;rw[List.length_append,hl,vW,if_pos (by omega),gB (by rw[List.length_append,hl,vW];simp;omega)];simp only[Option.bind_some];rw[List.append_assoc];have e:zb i++[(0:UInt8)]=zb (i+1):=by unfold zb;rw[List.replicate_succ']
    rw[e]
   ·unfold rV;show(if(((hd7 (l7 K M P L pass slice lane n) 7++zb 968).length:Nat):Int) < 1024 then _ else _)=_;rw[List.length_append,hl,vW,if_neg (by omega),Tv,rMix _ _ (vW _) (Vj _)];simp only[Option.bind_some];rw[rMix _ _ (vW _) (uk (vW _) (Vj _))];simp only[Option.bind_some,Option.map_some,adr]
include hm in
theorem raddr (hp:pass < P)(h3:slice<=3)(hl:lane < L):ui K M P L T pass slice lane=some ((List.range (dG M L)).map (aw K M P L pass slice lane),0):=by
  have hb:=nG K M P L T hm;unfold ui;rw[PN,if_pos hm];simp only[Option.bind_some,ne_eq,not_true_eq_false,if_false];rw[if_neg (by simp only[Bool.or_eq_true,decide_eq_true_eq];omega),rcol K M P L T hm];simp only[Option.bind_some];refine gJ (fun x=>((List.range x).map (aw K M P L pass slice lane),(if x=0 then[] else adr (l7 K M P L pass slice lane ((x - 1) / 128+1))),(x:Int))) (dG M L) (fun x hx=>?_) ?_
  ·unfold sZ;simp only[];rw[rseg K M P L T hm];simp only[Option.bind_some];have hj:mJ ((List.range x).map (aw K M P L pass slice lane)) (x:Int) (adr (l7 K M P L pass slice lane (x / 128+1)))=some (.inl ((List.range (x+1)).map (aw K M P L pass slice lane),(if x+1=0 then[] else adr (l7 K M P L pass slice lane ((x+1 - 1) / 128+1))),((x+1:Nat):Int))):=by
     unfold mJ sW;rw[show Int.tmod (x:Int) 128=((x % 128:Nat):Int) from rfl,X6 _ (by omega),Pv _ _ (by rw[N9];omega) (by rw[N9];omega)];simp only[Option.bind_some];rw[gB (by simp;omega)];simp only[Option.bind_some];rw[bM x (by omega),List.range_succ,List.map_append,if_neg (by omega)];rfl
   rw[if_pos (by omega),show Int.tmod (x:Int) 128=((x % 128:Nat):Int) from rfl];by_cases h:x % 128=0
   ·rw[if_pos (by omega),show Int.tdiv (x:Int) 128=((x / 128:Nat):Int) from rfl,bn (n:=((x / 128:Nat):Int)) (by omega),bM _ (by omega),radr1 K M P L T hm];simp only[Option.bind_some];exact hj
   ·rw[if_neg (by omega),if_neg (by omega),show(x - 1) / 128=x / 128 from by omega];exact hj
  ·unfold sZ;simp only[];rw[rseg K M P L T hm];simp only[Option.bind_some];rw[if_neg (by omega)];rfl
end
end Go.Sx
namespace Go.Sx
open Go.RowKit
set_option linter.unusedVariables false
set_option linter.unusedSimpArgs false
theorem Eo {α:Type}{N:Nat}{l:List α}(h:l.length=N):∃ v,yN N l=some v/\v.l=l:=by
  unfold yN;rw[dif_pos (by omega)];exact⟨_,rfl,List.take_of_length_le (by omega)⟩
abbrev Mem:=Nat->Nat->List UInt8
def upd (m:Mem)(l c:Nat)(b:List UInt8):Mem:=fun a d=>if a=l/\d=c then b else m a d
def GL (L C:Nat)(m:List (List (Vec UInt8 1024)))(mem:Mem):Prop:=m.length=L/\∀ l,l < L->∃ row,m[l]?=some row/\row.length=C/\∀ c,c < C->∃ v,row[c]?=some v/\v.l=mem l c
theorem GL.get {L C:Nat}{m:List (List (Vec UInt8 1024))}{mem:Mem}(h:GL L C m mem){l:Nat}(hl:l < L):∃ row,aT m (l:Int)=some row/\row.length=C/\∀ c,c < C->∃ v,aT row (c:Int)=some v/\v.l=mem l c:=by
  obtain⟨row,h1,h2,h3⟩:=h.2 l hl;refine⟨row,JX h1,h2,fun c hc=>?_⟩;obtain⟨v,h4,h5⟩:=h3 c hc;exact⟨v,JX h4,h5⟩
theorem GL.len {L C:Nat}{m:List (List (Vec UInt8 1024))}{mem:Mem}(h:GL L C m mem){l c:Nat}(hl:l < L)(hc:c < C):(mem l c).length=1024:=by
  obtain⟨row,h1,h2,h3⟩:=h.2 l hl;obtain⟨v,h4,h5⟩:=h3 c hc;rw[<- h5,v.h]
theorem GL.set {L C:Nat}{m:List (List (Vec UInt8 1024))}{mem:Mem}(h:GL L C m mem){l c:Nat}(hl:l < L)(hc:c < C){row:List (Vec UInt8 1024)}(hr:aT m (l:Int)=some row){v:Vec UInt8 1024}{b:List UInt8}(hv:v.l=b) :
    GL L C (m.set l (row.set c v)) (upd mem l c b):=by
  refine⟨by rw[List.length_set];exact h.1,fun a ha=>?_⟩;obtain⟨r2,h1,h2,h3⟩:=h.2 a ha;by_cases e:a=l
  ·subst e;have:r2=row:=by
     have:=JX h1;rw[hr] at this;exact(Option.some.inj this).symm
   subst this;refine⟨r2.set c v,?_,by rw[List.length_set];exact h2,fun d hd=>?_⟩
   ·rw[List.getElem?_set_self (by have:=h.1;omega)]
   ·by_cases e2:d=c
    ·subst e2;exact⟨v,by rw[List.getElem?_set_self (by omega)],by unfold upd;rw[if_pos ⟨rfl,rfl⟩,hv]⟩
    ·obtain⟨u,h4,h5⟩:=h3 d hd;exact⟨u,by rw[List.getElem?_set_ne (by omega)];exact h4,by unfold upd;rw[if_neg (by omega),h5]⟩
  ·refine⟨r2,by rw[List.getElem?_set_ne (by omega)];exact h1,h2,fun d hd=>?_⟩;obtain⟨u,h4,h5⟩:=h3 d hd;exact⟨u,h4,by unfold upd;rw[if_neg (by omega),h5]⟩
def FH (L C:Nat)(f:List (List UInt8))(mem:Mem)(Fd:Nat->Nat->Prop):Prop:=f.length=L*C/\(∀ l,l < L->∀ c,c < C->(mem l c).length=1024)/\∀ l,l < L->∀ c,c < C->Fd l c->f[l*C+c]?=some (mem l c)
theorem PR {L C l c:Nat}(hl:l < L)(hc:c < C):l*C+c < L*C:=by
  have:(l+1)*C<=L*C:=Nat.mul_le_mul_right _ hl;rw[Nat.succ_mul] at this;omega
theorem idx_inj {C l c a d:Nat}(hc:c < C)(hd:d < C)(h:l*C+c=a*C+d):l=a/\c=d:=by
  have h1:(l*C+c) / C=l:=by rw[Nat.mul_comm,Nat.mul_add_div (by omega),Nat.div_eq_of_lt hc,Nat.add_zero]
  have h2:(a*C+d) / C=a:=by rw[Nat.mul_comm,Nat.mul_add_div (by omega),Nat.div_eq_of_lt hd,Nat.add_zero]
  rw[h,h2] at h1;subst h1;exact⟨rfl,by omega⟩
theorem FH.mono {L C:Nat}{f:List (List UInt8)}{mem:Mem}{Fd Fe:Nat->Nat->Prop}(h:FH L C f mem Fd)(hi:∀ l,l < L->∀ c,c < C->Fe l c->Fd l c):FH L C f mem Fe:=⟨h.1,h.2.1,fun l hl c hc he=>h.2.2 l hl c hc (hi l hl c hc he)⟩
theorem FH.set {L C:Nat}{f:List (List UInt8)}{mem:Mem}{Fd Fe:Nat->Nat->Prop}(h:FH L C f mem Fd){l c:Nat}(hl:l < L)(hc:c < C){b:List UInt8}(hb:b.length=1024)(hi:∀ a d,Fe a d->Fd a d∨(a=l/\d=c)):FH L C (f.set (l*C+c) b) (upd mem l c b) Fe:=by
  refine⟨by rw[List.length_set];exact h.1,fun a ha d hd=>?_,fun a ha d hd he=>?_⟩
  ·unfold upd;split
   ·exact hb
   ·exact h.2.1 a ha d hd
  ·by_cases e:a=l/\d=c
   ·obtain⟨rfl,rfl⟩:=e;unfold upd;rw[List.getElem?_set_self (by rw[h.1];exact PR hl hc),if_pos ⟨rfl,rfl⟩]
   ·unfold upd;rw[List.getElem?_set_ne (fun q=>e (by have:=idx_inj hc hd q;omega)),if_neg e];rcases hi a d he with h1 | h1
    ·exact h.2.2 a ha d hd h1
    ·exact absurd h1 e
section
variable (K M P L T:Nat)(hm:sJ K M P L T)(pass slice lane:Nat)
def Y2 (M L slice x:Nat):Nat:=(slice*dG M L+x+4*dG M L - 1) % (4*dG M L)
def jS (mem:Mem)(x:Nat):UInt64:=if K=1∨(K=2/\pass=0/\slice < 2) then aw K M P L pass slice lane x else sH (mem lane (Y2 M L slice x)) 0
def Vm (mem:Mem)(x:Nat)(j:UInt64):List UInt8:=Tm (mem lane (Y2 M L slice x)) (mem (zQ L pass slice lane j) (colS (dG M L) pass slice lane x (zQ L pass slice lane j) j))
def PS (mem:Mem)(x:Nat)(j:UInt64):List UInt8:=if pass=0 then Vm M L pass slice lane mem x j else wW (Vm M L pass slice lane mem x j) (mem lane (slice*dG M L+x))
def stepM (mem:Mem)(x:Nat):Mem:=if pass=0/\slice*dG M L+x < 2 then mem else upd mem lane (slice*dG M L+x) (PS M L pass slice lane mem x (jS K M P L pass slice lane mem x))
def EN (mem:Mem):Mem:=(List.range (dG M L)).foldl (stepM K M P L pass slice lane) mem
theorem fold_succ {σ:Type}(F:σ->Nat->σ)(s:σ)(n:Nat):(List.range (n+1)).foldl F s=F ((List.range n).foldl F s) n:=by rw[List.range_succ,List.foldl_append];rfl
theorem Tz (M L slice x:Nat)(h:2<=dG M L):Y2 M L slice x < 4*dG M L:=Nat.mod_lt _ (by omega)
include hm in
theorem wfill0 (h3:slice<=3)(hl:lane < L)(hdr:K=1∨(K=2/\pass=0/\slice < 2))(m:List (List (Vec UInt8 1024)))(mem:Mem)(hM:GL L (4*dG M L) m mem)(b:List (Vec UInt8 1024))(hbl:b.length=4*dG M L) :
    ∃ r,aZ (lS K M P L T pass slice lane ((dG M L:Nat):Int) ((List.range (dG M L)).map (aw K M P L pass slice lane)) b) (m,0)=some r/\∃ m',r=((K:Int),(M:Int),(P:Int),(L:Int),(T:Int),m')/\GL L (4*dG M L) m' (EN K M P L pass slice lane mem):=by
  have hb:=nG K M P L T hm;have hc0:slice*dG M L<=3*dG M L:=Nat.mul_le_mul_right _ h3;obtain⟨_,hL1,hL2,_⟩:=mV K M P L T hm;refine mi (fun i s=>∃ m',s=(m',(i:Int))/\i<=dG M L/\GL L (4*dG M L) m' ((List.range i).foldl (stepM K M P L pass slice lane) mem)) (fun r=>∃ m',r=((K:Int),(M:Int),(P:Int),(L:Int),(T:Int),m')/\GL L (4*dG M L) m' (EN K M P L pass slice lane mem)) (dG M L) ?_ _ ⟨m,rfl,Nat.zero_le _,hM⟩;rintro x s ⟨m1,rfl,hx,hM1⟩;generalize hmem:(List.range x).foldl (stepM K M P L pass slice lane) mem=mem1 at hM1;by_cases hlt:x < dG M L
  ·refine .inl ⟨hlt,?_⟩;unfold lS;simp only[];rw[if_pos (by omega),show(slice:Int)*((dG M L:Nat):Int)=((slice*dG M L:Nat):Int) from by simp,bn (n:=((slice*dG M L:Nat):Int)) (by omega),bn (n:=((slice*dG M L:Nat):Int)+x) (by omega),show((slice*dG M L:Nat):Int)+x=((slice*dG M L+x:Nat):Int) from by omega];by_cases hsk:pass=0/\slice*dG M L+x < 2
   ·rw[if_pos (by simp only[Bool.and_eq_true,decide_eq_true_eq];omega)];unfold iU;rw[bM x (by omega)];refine⟨_,rfl,m1,rfl,by omega,?_⟩;rw[fold_succ,hmem];unfold stepM;rw[if_pos hsk];exact hM1
   ·rw[if_neg (by simp only[Bool.and_eq_true,decide_eq_true_eq];omega)];obtain⟨row,g1,g2,g3⟩:=hM1.get hl;have hah:=Tz M L slice x hb.1;rw[g1];simp only[Option.bind_some];rw[hbl,jy (by omega)];simp only[Option.bind_some];have hi:Int.tmod (ay ((ay (((slice*dG M L+x:Nat):Int)+((4*dG M L:Nat):Int))) - 1)) ((4*dG M L:Nat):Int)=((Y2 M L slice x:Nat):Int):=by
      rw[bn (n:=((slice*dG M L+x:Nat):Int)+((4*dG M L:Nat):Int)) (by omega),bn (by omega),show((slice*dG M L+x:Nat):Int)+((4*dG M L:Nat):Int) - 1=((slice*dG M L+x+4*dG M L - 1:Nat):Int) from by omega];rfl
    rw[hi];obtain⟨va,a1,a2⟩:=g3 _ hah;rw[a1];simp only[Option.bind_some];rw[show FM va.l 0 (8:Int)=some (va.l.take 8) from by rw[yM (by rw[va.h];omega)];rfl];simp only[Option.bind_some];have hld:=MG (va.l.take 8) 0 (by rw[List.length_take,va.h];omega) (by rw[List.length_take,va.h];omega);rw[show((8*0:Nat):Int)=0 from rfl] at hld;have hwd:sH (va.l.take 8) 0=sH va.l 0:=by unfold sH;simp[List.take_take]
    rw[hwd] at hld;rw[hld];simp only[Option.bind_some];rw[show aT ((List.range (dG M L)).map (aw K M P L pass slice lane)) (x:Int)=some (aw K M P L pass slice lane x) from by rw[gK (by simpa using hlt)];simp];simp only[Option.bind_some];have hj:jS K M P L pass slice lane mem1 x=aw K M P L pass slice lane x:=by unfold jS;rw[if_pos hdr]
    have h02:pass=0/\slice=0->2<=x:=by rintro⟨q1,q2⟩;subst q2;omega
    rw[<- hj,wrefer K M P L T hm pass slice lane x _ h3 hlt h02];simp only[Option.bind_some];generalize hjj:jS K M P L pass slice lane mem1 x=j at hj ⊢;have hrl:=PO L pass slice lane j hL1 hl;have hrc:=Tu (dG M L) pass slice lane x (zQ L pass slice lane j) j hb.1;obtain⟨row2,r1,r2,r3⟩:=hM1.get hrl;obtain⟨vb,b1,b2⟩:=r3 _ hrc;obtain⟨vo,o1,o2⟩:=g3 (slice*dG M L+x) (by omega);have hmx:Tm va.l vb.l=Vm M L pass slice lane mem1 x j:=by unfold Vm;rw[a2,b2]
    have hst:stepM K M P L pass slice lane mem1 x=upd mem1 lane (slice*dG M L+x) (PS M L pass slice lane mem1 x j):=by unfold stepM;rw[if_neg hsk,hjj]
    by_cases hp:pass=0
    ·rw[if_pos (by omega),r1];simp only[Option.bind_some];rw[b1];simp only[Option.bind_some];rw[wMix _ _ va.h vb.h];simp only[Option.bind_some];obtain⟨v,t1,t2⟩:=Eo (uk va.h vb.h);rw[t1];simp only[Option.bind_some];rw[o1];simp only[Option.bind_some];unfold iU;rw[bM x (by omega),Int.toNat_natCast,Int.toNat_natCast];refine⟨_,rfl,_,rfl,by omega,?_⟩;rw[fold_succ,hmem,hst];exact hM1.set hl (by omega) g1 (by unfold PS;rw[if_pos hp,t2,hmx])
    ·rw[if_neg (by omega),r1];simp only[Option.bind_some];rw[b1];simp only[Option.bind_some];rw[o1];simp only[Option.bind_some];rw[wOver _ _ _ va.h vb.h vo.h];simp only[Option.bind_some];obtain⟨v,t1,t2⟩:=Eo (vV (uk va.h vb.h) vo.h);rw[t1];simp only[Option.bind_some];unfold iU;rw[bM x (by omega),Int.toNat_natCast,Int.toNat_natCast];refine⟨_,rfl,_,rfl,by omega,?_⟩;rw[fold_succ,hmem,hst];exact hM1.set hl (by omega) g1 (by unfold PS;rw[if_neg hp,t2,hmx,o2])
  ·right;obtain rfl:x=dG M L:=by omega
   unfold lS;simp only[];rw[if_neg (by omega)];refine⟨_,rfl,m1,rfl,?_⟩;unfold EN;rw[hmem];exact hM1
include hm in
theorem wfill1 (h3:slice<=3)(hl:lane < L)(hdr:¬ (K=1∨(K=2/\pass=0/\slice < 2)))(m:List (List (Vec UInt8 1024)))(mem:Mem)(hM:GL L (4*dG M L) m mem)(b:List (Vec UInt8 1024))(hbl:b.length=4*dG M L) :
    ∃ r,aZ (lT K M P L T pass slice lane ((dG M L:Nat):Int) b) (m,0)=some r/\∃ m',r=((K:Int),(M:Int),(P:Int),(L:Int),(T:Int),m')/\GL L (4*dG M L) m' (EN K M P L pass slice lane mem):=by
  have hb:=nG K M P L T hm;have hc0:slice*dG M L<=3*dG M L:=Nat.mul_le_mul_right _ h3;obtain⟨_,hL1,hL2,_⟩:=mV K M P L T hm;refine mi (fun i s=>∃ m',s=(m',(i:Int))/\i<=dG M L/\GL L (4*dG M L) m' ((List.range i).foldl (stepM K M P L pass slice lane) mem)) (fun r=>∃ m',r=((K:Int),(M:Int),(P:Int),(L:Int),(T:Int),m')/\GL L (4*dG M L) m' (EN K M P L pass slice lane mem)) (dG M L) ?_ _ ⟨m,rfl,Nat.zero_le _,hM⟩;rintro x s ⟨m1,rfl,hx,hM1⟩;generalize hmem:(List.range x).foldl (stepM K M P L pass slice lane) mem=mem1 at hM1;by_cases hlt:x < dG M L
  ·refine .inl ⟨hlt,?_⟩;unfold lT;simp only[];rw[if_pos (by omega),show(slice:Int)*((dG M L:Nat):Int)=((slice*dG M L:Nat):Int) from by simp,bn (n:=((slice*dG M L:Nat):Int)) (by omega),bn (n:=((slice*dG M L:Nat):Int)+x) (by omega),show((slice*dG M L:Nat):Int)+x=((slice*dG M L+x:Nat):Int) from by omega];by_cases hsk:pass=0/\slice*dG M L+x < 2
   ·rw[if_pos (by simp only[Bool.and_eq_true,decide_eq_true_eq];omega)];unfold iV;rw[bM x (by omega)];refine⟨_,rfl,m1,rfl,by omega,?_⟩;rw[fold_succ,hmem];unfold stepM;rw[if_pos hsk];exact hM1
   ·rw[if_neg (by simp only[Bool.and_eq_true,decide_eq_true_eq];omega)];obtain⟨row,g1,g2,g3⟩:=hM1.get hl;have hah:=Tz M L slice x hb.1;rw[g1];simp only[Option.bind_some];rw[hbl,jy (by omega)];simp only[Option.bind_some];have hi:Int.tmod (ay ((ay (((slice*dG M L+x:Nat):Int)+((4*dG M L:Nat):Int))) - 1)) ((4*dG M L:Nat):Int)=((Y2 M L slice x:Nat):Int):=by
      rw[bn (n:=((slice*dG M L+x:Nat):Int)+((4*dG M L:Nat):Int)) (by omega),bn (by omega),show((slice*dG M L+x:Nat):Int)+((4*dG M L:Nat):Int) - 1=((slice*dG M L+x+4*dG M L - 1:Nat):Int) from by omega];rfl
    rw[hi];obtain⟨va,a1,a2⟩:=g3 _ hah;rw[a1];simp only[Option.bind_some];rw[show FM va.l 0 (8:Int)=some (va.l.take 8) from by rw[yM (by rw[va.h];omega)];rfl];simp only[Option.bind_some];have hld:=MG (va.l.take 8) 0 (by rw[List.length_take,va.h];omega) (by rw[List.length_take,va.h];omega);rw[show((8*0:Nat):Int)=0 from rfl] at hld;have hwd:sH (va.l.take 8) 0=sH va.l 0:=by unfold sH;simp[List.take_take]
    rw[hwd] at hld;rw[hld];simp only[Option.bind_some];have hj:jS K M P L pass slice lane mem1 x=sH va.l 0:=by unfold jS;rw[if_neg hdr,a2]
    have h02:pass=0/\slice=0->2<=x:=by rintro⟨q1,q2⟩;subst q2;omega
    rw[<- hj,wrefer K M P L T hm pass slice lane x _ h3 hlt h02];simp only[Option.bind_some];generalize hjj:jS K M P L pass slice lane mem1 x=j at hj ⊢;have hrl:=PO L pass slice lane j hL1 hl;have hrc:=Tu (dG M L) pass slice lane x (zQ L pass slice lane j) j hb.1;obtain⟨row2,r1,r2,r3⟩:=hM1.get hrl;obtain⟨vb,b1,b2⟩:=r3 _ hrc;obtain⟨vo,o1,o2⟩:=g3 (slice*dG M L+x) (by omega);have hmx:Tm va.l vb.l=Vm M L pass slice lane mem1 x j:=by unfold Vm;rw[a2,b2]
    have hst:stepM K M P L pass slice lane mem1 x=upd mem1 lane (slice*dG M L+x) (PS M L pass slice lane mem1 x j):=by unfold stepM;rw[if_neg hsk,hjj]
    by_cases hp:pass=0
    ·rw[if_pos (by omega),r1];simp only[Option.bind_some];rw[b1];simp only[Option.bind_some];rw[wMix _ _ va.h vb.h];simp only[Option.bind_some];obtain⟨v,t1,t2⟩:=Eo (uk va.h vb.h);rw[t1];simp only[Option.bind_some];rw[o1];simp only[Option.bind_some];unfold iV;rw[bM x (by omega),Int.toNat_natCast,Int.toNat_natCast];refine⟨_,rfl,_,rfl,by omega,?_⟩;rw[fold_succ,hmem,hst];exact hM1.set hl (by omega) g1 (by unfold PS;rw[if_pos hp,t2,hmx])
    ·rw[if_neg (by omega),r1];simp only[Option.bind_some];rw[b1];simp only[Option.bind_some];rw[o1];simp only[Option.bind_some];rw[wOver _ _ _ va.h vb.h vo.h];simp only[Option.bind_some];obtain⟨v,t1,t2⟩:=Eo (vV (uk va.h vb.h) vo.h);rw[t1];simp only[Option.bind_some];unfold iV;rw[bM x (by omega),Int.toNat_natCast,Int.toNat_natCast];refine⟨_,rfl,_,rfl,by omega,?_⟩;rw[fold_succ,hmem,hst];exact hM1.set hl (by omega) g1 (by unfold PS;rw[if_neg hp,t2,hmx,o2])
  ·right;obtain rfl:x=dG M L:=by omega
   unfold lT;simp only[];rw[if_neg (by omega)];refine⟨_,rfl,m1,rfl,?_⟩;unfold EN;rw[hmem];exact hM1
include hm in
theorem wfill (h3:slice<=3)(hl:lane < L)(m:List (List (Vec UInt8 1024)))(mem:Mem)(hM:GL L (4*dG M L) m mem) :
    ∃ m',nK K M P L T m pass slice lane=some ((K:Int),(M:Int),(P:Int),(L:Int),(T:Int),m')/\GL L (4*dG M L) m' (EN K M P L pass slice lane mem):=by
  obtain⟨row,g1,g2,g3⟩:=hM.get hl;unfold nK;rw[WZ K M P L T hm];simp only[Option.bind_some];unfold nS;by_cases hdr:K=1∨(K=2/\pass=0/\slice < 2)
  ·rw[if_pos (by simp only[Bool.or_eq_true,Bool.and_eq_true,decide_eq_true_eq];omega),waddr K M P L T hm];simp only[Option.bind_some];rw[g1];simp only[Option.bind_some];obtain⟨r,h1,m',rfl,h2⟩:=wfill0 K M P L T hm pass slice lane h3 hl hdr m mem hM row g2;exact⟨m',h1,h2⟩
  ·rw[if_neg (by simp only[Bool.or_eq_true,Bool.and_eq_true,decide_eq_true_eq];omega),g1];simp only[Option.bind_some];obtain⟨r,h1,m',rfl,h2⟩:=wfill1 K M P L T hm pass slice lane h3 hl hdr m mem hM row g2;exact⟨m',h1,h2⟩
end
end Go.Sx
namespace Go.Sx
open Go.RowKit
set_option linter.unusedVariables false
set_option linter.unusedSimpArgs false
def JL (s pass slice lane x l c:Nat):Prop:=0 < pass∨c < 2∨c < slice*s∨(l < lane/\c < slice*s+s)∨(l=lane/\c < slice*s+x)
theorem FH.get {L C:Nat}{f:List (List UInt8)}{mem:Mem}{Fd:Nat->Nat->Prop}(h:FH L C f mem Fd){l c:Nat}(hl:l < L)(hc:c < C)(hf:Fd l c)(hLC:L*C<=4096)(d:Int)(hd:d=(c:Int)):aT f (ay ((ay ((l:Int)*(C:Int)))+d))=some (mem l c):=by
  subst hd;have h1:=PR hl hc;have h2:l*C<=L*C:=Nat.mul_le_mul_right _ (by omega);rw[show(l:Int)*(C:Int)=((l*C:Nat):Int) from by simp,bn (n:=((l*C:Nat):Int)) (by omega),bn (by omega),show((l*C:Nat):Int)+(c:Int)=((l*C+c:Nat):Int) from by omega];exact JX (h.2.2 l hl c hc hf)
theorem FH.idx {L C:Nat}{l c:Nat}(hl:l < L)(hc:c < C)(hLC:L*C<=4096)(d:Int)(hd:d=(c:Int)):ay ((ay ((l:Int)*(C:Int)))+d)=((l*C+c:Nat):Int):=by
  subst hd;have h1:=PR hl hc;have h2:l*C<=L*C:=Nat.mul_le_mul_right _ (by omega);rw[show(l:Int)*(C:Int)=((l*C:Nat):Int) from by simp,bn (n:=((l*C:Nat):Int)) (by omega),bn (by omega),show((l*C:Nat):Int)+(c:Int)=((l*C+c:Nat):Int) from by omega]
section
variable (K M P L T:Nat)(hm:sJ K M P L T)(pass slice lane:Nat)
include hm in
theorem rfill3 (hp:pass < P)(h3:slice<=3)(hl:lane < L)(f:List (List UInt8))(mem:Mem)(x:Nat)(hx:x < dG M L)(hM:FH L (4*dG M L) f mem (JL (dG M L) pass slice lane x))(hsk:¬ (pass=0/\slice*dG M L+x < 2))(j:UInt64)(hj:jS K M P L pass slice lane mem x=j) :
    ∃ f',qQ K M P L T pass slice lane ((4*dG M L:Nat):Int) f (x:Int) (mem lane (Y2 M L slice x)) j=some (.inl (f',((x+1:Nat):Int)))/\FH L (4*dG M L) f' (stepM K M P L pass slice lane mem x) (JL (dG M L) pass slice lane (x+1)):=by
  have hb:=nG K M P L T hm;have hc0:slice*dG M L<=3*dG M L:=Nat.mul_le_mul_right _ h3;have hz1:slice≠0->dG M L<=slice*dG M L:=fun h=>Nat.le_mul_of_pos_left _ (by omega);obtain⟨_,hL1,hL2,_⟩:=mV K M P L T hm;have h02:pass=0/\slice=0->2<=x:=by rintro⟨q1,q2⟩;subst q2;omega
  have hrl:=PO L pass slice lane j hL1 hl;have hrc:=Tu (dG M L) pass slice lane x (zQ L pass slice lane j) j hb.1;have hah:=Tz M L slice x hb.1;have hst:stepM K M P L pass slice lane mem x=upd mem lane (slice*dG M L+x) (PS M L pass slice lane mem x j):=by unfold stepM;rw[if_neg hsk,hj]
  have hfd:JL (dG M L) pass slice lane x (zQ L pass slice lane j) (colS (dG M L) pass slice lane x (zQ L pass slice lane j) j):=by
    by_cases hp0:pass=0
    ·subst hp0;have:=colS_0 (dG M L) slice lane x (zQ L 0 slice lane j) j hb.1 h3 hx fun h=>⟨by unfold zQ;rw[if_pos ⟨rfl,h⟩],h02 ⟨rfl,h⟩⟩
     unfold JL;omega
    ·exact .inl (by omega)
  have hla:=hM.2.1 lane hl _ hah;have hlb:=hM.2.1 _ hrl _ hrc;have hlo:=hM.2.1 lane hl (slice*dG M L+x) (by omega);have hs4:ay (Int.tdiv ((4*dG M L:Nat):Int) 4)=((dG M L:Nat):Int):=by
    rw[show Int.tdiv ((4*dG M L:Nat):Int) 4=((4*dG M L / 4:Nat):Int) from rfl,show 4*dG M L / 4=dG M L from by omega,bn (by omega)]
  have hcx:ay ((ay ((slice:Int)*(ay (Int.tdiv ((4*dG M L:Nat):Int) 4))))+(x:Int))=((slice*dG M L+x:Nat):Int):=by
    rw[hs4,show(slice:Int)*((dG M L:Nat):Int)=((slice*dG M L:Nat):Int) from by simp,bn (n:=((slice*dG M L:Nat):Int)) (by omega),bn (by omega)];omega
  unfold qQ;rw[rrefer K M P L T hm pass slice lane x j hp h3 hl hx h02];simp only[Option.bind_some];rw[hM.get hrl hrc hfd hb.2.2 _ rfl];simp only[Option.bind_some];rw[rMix _ _ hla hlb];simp only[Option.bind_some];have key:∀ b2:List UInt8,b2=PS M L pass slice lane mem x j->b2.length=1024->∃ f',uC slice lane ((4*dG M L:Nat):Int) f (x:Int) b2=some (.inl (f',((x+1:Nat):Int)))/\FH L (4*dG M L) f' (stepM K M P L pass slice lane mem x) (JL (dG M L) pass slice lane (x+1)):=by
    intro b2 e2 hl2;unfold uC uB xG;rw[hcx,FH.idx hl (show slice*dG M L+x < 4*dG M L from by omega) hb.2.2 _ rfl];rw[gK (by rw[hM.1];exact PR hl (by omega))];simp only[Option.bind_some];rw[bM x (by omega),Int.toNat_natCast];refine⟨_,rfl,?_⟩;rw[hst,<-e2];exact hM.set hl (by omega) hl2 fun a d h=>by unfold JL at h ⊢;omega
  by_cases hp0:pass=0
  ·rw[if_neg (by omega)];exact key _ (by unfold PS Vm;rw[if_pos hp0]) (uk hla hlb)
  ·rw[if_pos (by omega),hcx,hM.get hl (show slice*dG M L+x < 4*dG M L from by omega) (.inl (by omega)) hb.2.2 _ rfl];simp only[Option.bind_some];rw[rXor _ _ (uk hla hlb) hlo];simp only[Option.bind_some];exact key _ (by unfold PS Vm;rw[if_neg hp0]) (vV (uk hla hlb) hlo)
include hm in
theorem rfill0 (hp:pass < P)(h3:slice<=3)(hl:lane < L)(f:List (List UInt8))(mem:Mem)(hM:FH L (4*dG M L) f mem (JL (dG M L) pass slice lane 0))(dr:List UInt64)(hdr:K=1∨(K=2/\pass=0/\slice < 2)->dr=(List.range (dG M L)).map (aw K M P L pass slice lane)) :
    ∃ f',uD K M P L T f pass slice lane ((4*dG M L:Nat):Int) dr=some f'/\FH L (4*dG M L) f' (EN K M P L pass slice lane mem) (JL (dG M L) pass slice lane (dG M L)):=by
  have hb:=nG K M P L T hm;have hc0:slice*dG M L<=3*dG M L:=Nat.mul_le_mul_right _ h3;have hz1:slice≠0->dG M L<=slice*dG M L:=fun h=>Nat.le_mul_of_pos_left _ (by omega);obtain⟨hK,hL1,hL2,_⟩:=mV K M P L T hm;unfold uD;have hs4:ay (Int.tdiv ((4*dG M L:Nat):Int) 4)=((dG M L:Nat):Int):=by
    rw[show Int.tdiv ((4*dG M L:Nat):Int) 4=((4*dG M L / 4:Nat):Int) from rfl,show 4*dG M L / 4=dG M L from by omega,bn (by omega)]
  obtain⟨r,h1,f',rfl,h2⟩:=mi (f:=xH K M P L T pass slice lane ((4*dG M L:Nat):Int) dr) (fun i s=>∃ f',s=(f',(i:Int))/\i<=dG M L/\FH L (4*dG M L) f' ((List.range i).foldl (stepM K M P L pass slice lane) mem) (JL (dG M L) pass slice lane i)) (fun r=>∃ f',r=f'/\FH L (4*dG M L) f' (EN K M P L pass slice lane mem) (JL (dG M L) pass slice lane (dG M L))) (dG M L) (by
    rintro x s ⟨f1,rfl,hx,hM1⟩;generalize hmem:(List.range x).foldl (stepM K M P L pass slice lane) mem=mem1 at hM1;by_cases hlt:x < dG M L
    ·refine .inl ⟨hlt,?_⟩;unfold xH;simp only[];rw[hs4,if_pos (by omega)];by_cases hsk:pass=0/\slice*dG M L+x < 2
     ·have hz:slice=0:=by
        apply Classical.byContradiction;intro h;have:=hz1 h;omega
      rw[if_pos (by subst hz;simp only[Bool.and_eq_true,decide_eq_true_eq];omega)];unfold uB xG;rw[bM x (by omega)];refine⟨_,rfl,f1,rfl,by omega,?_⟩;rw[fold_succ,hmem];unfold stepM;rw[if_pos hsk];exact hM1.mono fun l _ c _ h=>by unfold JL at h ⊢;omega
     ·rw[if_neg (by
        simp only[Bool.and_eq_true,decide_eq_true_eq];rintro⟨⟨q1,q2⟩,q3⟩;obtain rfl:slice=0:=by omega
        omega),jy (by omega)]
      simp only[Option.bind_some];have hah:=Tz M L slice x hb.1;have hi:Int.tmod (ay ((ay ((ay ((ay ((slice:Int)*((dG M L:Nat):Int)))+(x:Int)))+((4*dG M L:Nat):Int))) - 1)) ((4*dG M L:Nat):Int)=((Y2 M L slice x:Nat):Int):=by
        rw[show(slice:Int)*((dG M L:Nat):Int)=((slice*dG M L:Nat):Int) from by simp,bn (n:=((slice*dG M L:Nat):Int)) (by omega),bn (n:=((slice*dG M L:Nat):Int)+(x:Int)) (by omega),bn (n:=((slice*dG M L:Nat):Int)+(x:Int)+((4*dG M L:Nat):Int)) (by omega),bn (by omega),show((slice*dG M L:Nat):Int)+(x:Int)+((4*dG M L:Nat):Int) - 1=((slice*dG M L+x+4*dG M L - 1:Nat):Int) from by omega];rfl
      have hfa:JL (dG M L) pass slice lane x lane (Y2 M L slice x):=by
        by_cases hp0:pass=0
        ·have:Y2 M L slice x=slice*dG M L+x - 1:=by
           unfold Y2;rw[show slice*dG M L+x+4*dG M L - 1=(slice*dG M L+x - 1)+4*dG M L from by omega,Nat.add_mod_right,Nat.mod_eq_of_lt (by omega)]
         unfold JL;omega
        ·exact .inl (by omega)
      rw[hM1.get hl hah hfa hb.2.2 _ hi];simp only[Option.bind_some];have fin:∀ j:UInt64,jS K M P L pass slice lane mem1 x=j->∃ s',qQ K M P L T pass slice lane ((4*dG M L:Nat):Int) f1 (x:Int) (mem1 lane (Y2 M L slice x)) j=some (.inl s')/\∃ f',s'=(f',((x+1:Nat):Int))/\x+1<=dG M L/\FH L (4*dG M L) f' ((List.range (x+1)).foldl (stepM K M P L pass slice lane) mem) (JL (dG M L) pass slice lane (x+1)):=by
        intro j hj;obtain⟨f2,e1,e2⟩:=rfill3 K M P L T hm pass slice lane hp h3 hl f1 mem1 x hlt hM1 hsk j hj;exact⟨_,e1,f2,rfl,by omega,by rw[fold_succ,hmem];exact e2⟩
      by_cases hd:K=1∨(K=2/\pass=0/\slice < 2)
      ·rw[if_neg (by simp only[Bool.or_eq_true,Bool.and_eq_true,decide_eq_true_eq];omega),hdr hd];rw[show aT ((List.range (dG M L)).map (aw K M P L pass slice lane)) (x:Int)=some (aw K M P L pass slice lane x) from by rw[gK (by simpa using hlt)];simp];simp only[Option.bind_some];exact fin _ (by unfold jS;rw[if_pos hd])
      ·rw[if_pos (by simp only[Bool.or_eq_true,Bool.and_eq_true,decide_eq_true_eq];omega)];have hla:=hM1.2.1 lane hl _ hah;have hld:=Pv (mem1 lane (Y2 M L slice x)) 0 (by omega) (by omega);rw[show((8*0:Nat):Int)=0 from rfl] at hld;rw[hld];simp only[Option.bind_some];exact fin _ (by unfold jS;rw[if_neg hd])
    ·right;obtain rfl:x=dG M L:=by omega
     unfold xH;simp only[];rw[hs4,if_neg (by omega)];refine⟨_,rfl,f1,rfl,?_⟩;unfold EN;rw[hmem];exact hM1) _ ⟨f,rfl,Nat.zero_le _,hM⟩
  exact⟨_,h1,h2⟩
include hm in
theorem rfill (hp:pass < P)(h3:slice<=3)(hl:lane < L)(f:List (List UInt8))(mem:Mem)(hM:FH L (4*dG M L) f mem (JL (dG M L) pass slice lane 0)) :
    ∃ f',D6 K M P L T f pass slice lane ((4*dG M L:Nat):Int)=some f'/\FH L (4*dG M L) f' (EN K M P L pass slice lane mem) (JL (dG M L) pass slice lane (dG M L)):=by
  obtain⟨hK,hL1,hL2,_⟩:=mV K M P L T hm;unfold D6;by_cases hd:K=1∨(K=2/\pass=0/\slice < 2)
  ·rw[if_pos (by simp only[Bool.not_eq_true',Bool.or_eq_false_iff,Bool.and_eq_false_iff,Bool.or_eq_false_iff,decide_eq_false_iff_not];omega),raddr K M P L T hm pass slice lane hp h3 hl];simp only[Option.bind_some];exact rfill0 K M P L T hm pass slice lane hp h3 hl f mem hM _ fun _=>rfl
  ·rw[if_neg (by simp only[Bool.not_eq_true',Bool.or_eq_false_iff,Bool.and_eq_false_iff,Bool.or_eq_false_iff,decide_eq_false_iff_not];omega)];exact rfill0 K M P L T hm pass slice lane hp h3 hl f mem hM _ fun h=>absurd h hd
end
end Go.Sx
namespace Go.Sx
open Go.RowKit
set_option linter.unusedVariables false
set_option linter.unusedSimpArgs false
noncomputable def H0 (start:List UInt8)(l c:Nat):List UInt8:=CW 1024 ((([]++start)++S4 c)++S4 l)
noncomputable def Ce (start:List UInt8):Mem:=fun l c=>if c < 2 then H0 start l c else zb 1024
theorem W_ (start:List UInt8)(hs:start.length=64)(l c:Nat):(H0 start l c).length=1024:=QG 1024 (by omega) (by omega) _ (by simp[Az,hs])
theorem Vo (start:List UInt8)(hs:start.length=64)(l c:Nat):(Ce start l c).length=1024:=by
  unfold Ce;split
  ·exact W_ start hs l c
  ·exact vW _
theorem upd_same (m:Mem)(l c:Nat):upd m l c (m l c)=m:=by
  funext a d;unfold upd;split
  ·rename_i h;rw[h.1,h.2]
  ·rfl
theorem GL.push {L C:Nat}{m:List (List (Vec UInt8 1024))}{mem:Mem}(h:GL L C m mem){row:List (Vec UInt8 1024)}(hr:row.length=C/\∀ c,c < C->∃ v,row[c]?=some v/\v.l=mem L c):GL (L+1) C (m++[row]) mem:=by
  refine⟨by rw[List.length_append,h.1];rfl,fun l hl=>?_⟩;by_cases e:l=L
  ·subst e;exact⟨row,by rw[List.getElem?_append_right (Nat.le_of_eq h.1),h.1];simp,hr.1,hr.2⟩
  ·obtain⟨r,h1,h2⟩:=h.2 l (by omega);exact⟨r,by rw[List.getElem?_append_left (by have:=h.1;omega)];exact h1,h2⟩
section
variable (K M P L T:Nat)(hm:sJ K M P L T)(start:List UInt8)(hs:start.length=64)
include hm hs in
theorem wbeg1 (m:List (List (Vec UInt8 1024)))(l:Nat)(hl:l < L)(hM:GL l (4*dG M L) m (Ce start)) :
    ∃ m',aZ (oz start m (l:Int)) (List.replicate (4*dG M L) (Vec.rep 1024 (0:UInt8)),0)=some (.inl (m',((l+1:Nat):Int)))/\GL (l+1) (4*dG M L) m' (Ce start):=by
  have hb:=nG K M P L T hm;obtain⟨_,hL1,hL2,_⟩:=mV K M P L T hm;have hin:∀ c:Nat,c < 2->((([]++start)++S4 c)++S4 l).length<=11000000:=fun c _=>by simp[Az,hs]
  obtain⟨v0,t0,u0⟩:=Eo (W_ start hs l 0);obtain⟨v1,t1,u1⟩:=Eo (W_ start hs l 1);have st:∀ (row:List (Vec UInt8 1024)) (c:Nat) (v:Vec UInt8 1024),c < 2->c < row.length->yN 1024 (H0 start l c)=some v->oz start m (l:Int) (row,(c:Int))=some (.inl (row.set c v,((c+1:Nat):Int))):=by
    intro row c v hc hcl ht;unfold oz;simp only[];rw[if_pos (by omega),gB (by simp;omega)];simp only[Option.bind_some];rw[NR _ (by simp;omega) c (by omega)];simp only[Option.bind_some];rw[NR _ (by simp[Az];omega) l (by omega)];simp only[Option.bind_some];rw[show(1024:Int)=((1024:Nat):Int) from rfl,wHash 1024 (by omega) (by omega) _ (hin c hc)];simp only[Option.bind_some];unfold H0 at ht;rw[ht];simp only[Option.bind_some];rw[gK hcl];simp only[Option.bind_some];rw[bM c (by omega),Int.toNat_natCast]
  have s0:=st (List.replicate (4*dG M L) (Vec.rep 1024 (0:UInt8))) 0 v0 (by omega) (by simp;omega) t0;have s1:=st ((List.replicate (4*dG M L) (Vec.rep 1024 (0:UInt8))).set 0 v0) 1 v1 (by omega) (by simp;omega) t1;refine⟨m++[((List.replicate (4*dG M L) (Vec.rep 1024 (0:UInt8))).set 0 v0).set 1 v1],?_,hM.push ⟨by simp,fun c hc=>?_⟩⟩
  ·rw[show(0:Int)=((0:Nat):Int) from rfl,lX s0,lX s1];refine je ?_;unfold oz;simp only[];rw[if_neg (by omega),gB (by rw[hM.1];simp;omega)];simp only[Option.bind_some];rw[bM l (by omega)];rfl
  ·unfold Ce
   match c,hc with
   | 0,_=>exact⟨v0,by rw[List.getElem?_set_ne (by omega),List.getElem?_set_self (by simp;omega)],by rw[if_pos (by omega)];exact u0⟩
   | 1,_=>exact⟨v1,by rw[List.getElem?_set_self (by simp;omega)],by rw[if_pos (by omega)];exact u1⟩
   | c+2,hc=>exact⟨Vec.rep 1024 (0:UInt8),by rw[List.getElem?_set_ne (by omega),List.getElem?_set_ne (by omega),List.getElem?_replicate,if_pos (by omega)],by rw[if_neg (by omega)];rfl⟩
include hm hs in
theorem wbegin:∃ m,xx K M P L T start=some ((K:Int),(M:Int),(P:Int),(L:Int),(T:Int),m)/\GL L (4*dG M L) m (Ce start):=by
  have hb:=nG K M P L T hm;obtain⟨_,hL1,hL2,_⟩:=mV K M P L T hm;unfold xx;obtain⟨r,h1,m,rfl,h2⟩:=mi (f:=rQ K M P L T start) (fun i s=>∃ m,s=(m,(i:Int))/\i<=L/\GL i (4*dG M L) m (Ce start)) (fun r=>∃ m,r=((K:Int),(M:Int),(P:Int),(L:Int),(T:Int),m)/\GL L (4*dG M L) m (Ce start)) L (by
    rintro l s ⟨m,rfl,hx,hM⟩;by_cases hlt:l < L
    ·refine .inl ⟨hlt,?_⟩;unfold rQ;simp only[];rw[if_pos (by omega),wcol K M P L T hm];simp only[Option.bind_some];rw[jy (by rw[Int.toNat_natCast];omega)];simp only[Option.bind_some];rw[Int.toNat_natCast];obtain⟨m',e1,e2⟩:=wbeg1 K M P L T hm start hs m l hlt hM;exact⟨_,e1,m',rfl,by omega,e2⟩
    ·right;obtain rfl:l=L:=by omega
     unfold rQ;simp only[];rw[if_neg (by omega)];exact⟨_,rfl,m,rfl,hM⟩) _ ⟨[],rfl,Nat.zero_le _,rfl,fun l hl=>by omega⟩
  exact⟨m,h1,h2⟩
def JI (pass slice:Nat)(mem:Mem):Mem:=(List.range L).foldl (fun mem lane=>EN K M P L pass slice lane mem) mem
def PT (pass:Nat)(mem:Mem):Mem:=(List.range 4).foldl (fun mem slice=>JI K M P L pass slice mem) mem
def allM (mem:Mem):Mem:=(List.range P).foldl (fun mem pass=>PT K M P L pass mem) mem
include hm in
theorem wturn (pass slice:Nat)(h3:slice<=3)(m:List (List (Vec UInt8 1024)))(mem:Mem)(hM:GL L (4*dG M L) m mem) :
    ∃ m',vI L K M P L T m pass slice=some ((K:Int),(M:Int),(P:Int),(L:Int),(T:Int),m',(pass:Int),(slice:Int))/\GL L (4*dG M L) m' (JI K M P L pass slice mem):=by
  obtain⟨_,hL1,hL2,_⟩:=mV K M P L T hm;unfold vI;obtain⟨r,h1,m',rfl,h2⟩:=mi (f:=qA L) (fun i s=>∃ m',s=((K:Int),(M:Int),(P:Int),(L:Int),(T:Int),m',(pass:Int),(slice:Int),(i:Int))/\i<=L/\GL L (4*dG M L) m' ((List.range i).foldl (fun mem lane=>EN K M P L pass slice lane mem) mem)) (fun r=>∃ m',r=((K:Int),(M:Int),(P:Int),(L:Int),(T:Int),m',(pass:Int),(slice:Int))/\GL L (4*dG M L) m' (JI K M P L pass slice mem)) L (by
    rintro l s ⟨m1,rfl,hx,hM1⟩;by_cases hlt:l < L
    ·refine .inl ⟨hlt,?_⟩;obtain⟨m2,e1,e2⟩:=wfill K M P L T hm pass slice l h3 hlt m1 _ hM1;unfold qA;simp only[];rw[if_pos (by omega)];unfold qy;rw[e1];simp only[Option.bind_some];rw[bM l (by omega)];exact⟨_,rfl,m2,rfl,by omega,by rw[fold_succ];exact e2⟩
    ·right;obtain rfl:l=L:=by omega
     unfold qA;simp only[];rw[if_neg (by omega)];exact⟨_,rfl,m1,rfl,hM1⟩) _ ⟨m,rfl,Nat.zero_le _,hM⟩
  exact⟨m',h1,h2⟩
include hm in
theorem wpass (pass:Nat)(hp:pass < 100)(m:List (List (Vec UInt8 1024)))(mem:Mem)(hM:GL L (4*dG M L) m mem) :
    ∃ m',aZ (kP (pass:Int)) ((K:Int),(M:Int),(P:Int),(L:Int),(T:Int),m,(pass:Int),0)=some (.inl ((K:Int),(M:Int),(P:Int),(L:Int),(T:Int),m',((pass+1:Nat):Int)))/\GL L (4*dG M L) m' (PT K M P L pass mem):=by
  obtain⟨r,h1,m',rfl,h2⟩:=mi (f:=kP (pass:Int)) (fun i s=>∃ m',s=((K:Int),(M:Int),(P:Int),(L:Int),(T:Int),m',(pass:Int),(i:Int))/\i<=4/\GL L (4*dG M L) m' ((List.range i).foldl (fun mem slice=>JI K M P L pass slice mem) mem)) (fun r=>∃ m',r=.inl ((K:Int),(M:Int),(P:Int),(L:Int),(T:Int),m',((pass+1:Nat):Int))/\GL L (4*dG M L) m' (PT K M P L pass mem)) 4 (by
    rintro l s ⟨m1,rfl,hx,hM1⟩;by_cases hlt:l < 4
    ·refine .inl ⟨hlt,?_⟩;obtain⟨m2,e1,e2⟩:=wturn K M P L T hm pass l (by omega) m1 _ hM1;unfold kP;simp only[];rw[if_pos (by omega),e1];simp only[Option.bind_some];rw[bM l (by omega)];exact⟨_,rfl,m2,rfl,by omega,by rw[fold_succ];exact e2⟩
    ·right;obtain rfl:l=4:=by omega
     unfold kP;simp only[];rw[if_neg (by omega),bM pass (by omega)];exact⟨_,rfl,m1,rfl,hM1⟩) _ ⟨m,rfl,Nat.zero_le _,hM⟩
  exact⟨m',h1,h2⟩
include hm in
theorem wall (m:List (List (Vec UInt8 1024)))(mem:Mem)(hM:GL L (4*dG M L) m mem) :
    ∃ m',oQ K M P L T m=some ((K:Int),(M:Int),(P:Int),(L:Int),(T:Int),m')/\GL L (4*dG M L) m' (allM K M P L mem):=by
  obtain⟨_,_,_,_,hP,_⟩:=mV K M P L T hm;unfold oQ;obtain⟨r,h1,m',rfl,h2⟩:=mi (f:=mf (P:Int)) (fun i s=>∃ m',s=((K:Int),(M:Int),(P:Int),(L:Int),(T:Int),m',(i:Int))/\i<=P/\GL L (4*dG M L) m' ((List.range i).foldl (fun mem pass=>PT K M P L pass mem) mem)) (fun r=>∃ m',r=((K:Int),(M:Int),(P:Int),(L:Int),(T:Int),m')/\GL L (4*dG M L) m' (allM K M P L mem)) P (by
    rintro l s ⟨m1,rfl,hx,hM1⟩;by_cases hlt:l < P
    ·refine .inl ⟨hlt,?_⟩;obtain⟨m2,e1,e2⟩:=wpass K M P L T hm l (by omega) m1 _ hM1;unfold mf;simp only[];rw[if_pos (by omega)];exact⟨_,e1,m2,rfl,by omega,by rw[fold_succ];exact e2⟩
    ·right;obtain rfl:l=P:=by omega
     unfold mf;simp only[];rw[if_neg (by omega)];exact⟨_,rfl,m1,rfl,hM1⟩) _ ⟨m,rfl,Nat.zero_le _,hM⟩
  exact⟨m',h1,h2⟩
def Qh (mem:Mem)(n:Nat):List UInt8:=(List.range n).foldl (fun x l=>wW x (mem l (4*dG M L - 1))) (zb 1024)
theorem PU (mem:Mem)(hl:∀ l,l < L->(mem l (4*dG M L - 1)).length=1024):∀ n,n<=L->(Qh M L mem n).length=1024:=by
  intro n
  induction n with
  | zero=>intro _;exact vW _
  | succ n ih =>
    intro h;unfold Qh;rw[fold_succ];exact vV (ih (by omega)) (hl n (by omega))
include hm in
theorem wtag (m:List (List (Vec UInt8 1024)))(mem:Mem)(hM:GL L (4*dG M L) m mem):oU K M P L T m=some (CW T (Qh M L mem L),(K:Int),(M:Int),(P:Int),(L:Int),(T:Int),m):=by
  have hb:=nG K M P L T hm;obtain⟨_,hL1,hL2,_,_,hT1,hT2,_⟩:=mV K M P L T hm;have hlen:=PU M L mem fun l hl=>hM.len hl (show 4*dG M L - 1 < 4*dG M L from by omega);unfold oU;refine mr (fun i s=>∃ v:Vec UInt8 1024,s=(v,(i:Int))/\i<=L/\v.l=Qh M L mem i) _ L _ ⟨Vec.rep 1024 0,rfl,Nat.zero_le _,rfl⟩ ?_;rintro l s ⟨x,rfl,hx,hxl⟩;by_cases hlt:l < L
  ·refine .inl ⟨hlt,?_⟩;obtain⟨row,g1,g2,g3⟩:=hM.get hlt;obtain⟨v,g4,g5⟩:=g3 (4*dG M L - 1) (by omega);unfold o7;simp only[];rw[if_pos (by rw[hM.1];omega),g1];simp only[Option.bind_some];rw[g2,bn (by omega),show((4*dG M L:Nat):Int) - 1=((4*dG M L - 1:Nat):Int) from by omega,g4];simp only[Option.bind_some];rw[wXor _ _ x.h v.h];simp only[Option.bind_some];obtain⟨u,t1,t2⟩:=Eo (vV x.h v.h);rw[t1];simp only[Option.bind_some];rw[bM l (by omega)];refine⟨_,rfl,u,rfl,by omega,?_⟩;rw[t2,hxl,g5];unfold Qh;rw[fold_succ]
  ·right;obtain rfl:l=L:=by omega
   unfold o7;simp only[];rw[if_neg (by rw[hM.1];omega),hxl,wHash T (by omega) (by omega) _ (by rw[hlen l (by omega)];omega)];rfl
end
end Go.Sx
namespace Go.Sx
open Go.RowKit
set_option linter.unusedVariables false
set_option linter.unusedSimpArgs false
def FdB (lane k l c:Nat):Prop:=(l < lane/\c < 2)∨(l=lane/\c < k)
section
variable (K M P L T:Nat)(hm:sJ K M P L T)(start:List UInt8)(hs:start.length=64)
include hm hs in
theorem rbeg1 (f:List (List UInt8))(l:Nat)(hl:l < L)(hM:FH L (4*dG M L) f (Ce start) (FdB l 0)) :
    ∃ f',aZ (uF start (((4*dG M L:Nat):Int),0) (l:Int)) (f,0)=some (.inl (f',((l+1:Nat):Int)))/\FH L (4*dG M L) f' (Ce start) (FdB (l+1) 0):=by
  have hb:=nG K M P L T hm;obtain⟨_,hL1,hL2,_⟩:=mV K M P L T hm;have hin:∀ c:Nat,c < 2->((([]++start)++S4 c)++S4 l).length<=11000000:=fun c _=>by simp[Az,hs]
  obtain⟨r,h1,f',rfl,h2⟩:=mi (f:=uF start (((4*dG M L:Nat):Int),0) (l:Int)) (fun i s=>∃ f',s=(f',(i:Int))/\i<=2/\FH L (4*dG M L) f' (Ce start) (FdB l i)) (fun r=>∃ f',r=.inl (f',((l+1:Nat):Int))/\FH L (4*dG M L) f' (Ce start) (FdB (l+1) 0)) 2 (by
    rintro c s ⟨f1,rfl,hx,hM1⟩;by_cases hlt:c < 2
    ·refine .inl ⟨hlt,?_⟩;unfold uF;simp only[];rw[if_pos (by omega),gB (by simp;omega)];simp only[Option.bind_some];rw[PM c (by omega)];simp only[Option.bind_some];rw[gB (by simp[Az];omega)];simp only[Option.bind_some];rw[PM l (by omega)];simp only[Option.bind_some];rw[gB (by simp[Az];omega)];simp only[Option.bind_some];rw[show(1024:Int)=((1024:Nat):Int) from rfl,rHash 1024 (by omega) (by omega) _ (hin c hlt)];simp only[Option.bind_some];rw[FH.idx hl (show c < 4*dG M L from by omega) hb.2.2 _ rfl,gK (by rw[hM1.1];exact PR hl (by omega))];simp only[Option.bind_some];rw[bM c (by omega),Int.toNat_natCast];refine⟨_,rfl,_,rfl,by omega,?_⟩;have e:CW 1024 ((([]++start)++S4 c)++S4 l)=Ce start l c:=by unfold Ce;rw[if_pos hlt];rfl
     have h:=hM1.set (Fe:=FdB l (c+1)) hl (show c < 4*dG M L from by omega) (Vo start hs l c) fun a d h=>by unfold FdB at h ⊢;omega
     rw[upd_same] at h;rw[e];exact h
    ·right;obtain rfl:c=2:=by omega
     unfold uF;simp only[];rw[if_neg (by omega),bM l (by omega)];exact⟨_,rfl,f1,rfl,hM1.mono fun a _ d _ h=>by unfold FdB at h ⊢;omega⟩) _ ⟨f,rfl,Nat.zero_le _,hM⟩
  exact⟨f',h1,h2⟩
include hm in
theorem rslice (pass slice:Nat)(hp:pass < P)(h3:slice<=3)(f:List (List UInt8))(mem:Mem)(hM:FH L (4*dG M L) f mem (JL (dG M L) pass slice 0 0)) :
    ∃ f',aZ (uG K M P L T (((4*dG M L:Nat):Int),0) (pass:Int) (slice:Int)) (f,0)=some (.inl (f',((slice+1:Nat):Int)))/\FH L (4*dG M L) f' (JI K M P L pass slice mem) (JL (dG M L) pass (slice+1) 0 0):=by
  obtain⟨_,hL1,hL2,_⟩:=mV K M P L T hm;obtain⟨r,h1,f',rfl,h2⟩:=mi (f:=uG K M P L T (((4*dG M L:Nat):Int),0) (pass:Int) (slice:Int)) (fun i s=>∃ f',s=(f',(i:Int))/\i<=L/\FH L (4*dG M L) f' ((List.range i).foldl (fun mem lane=>EN K M P L pass slice lane mem) mem) (JL (dG M L) pass slice i 0)) (fun r=>∃ f',r=.inl (f',((slice+1:Nat):Int))/\FH L (4*dG M L) f' (JI K M P L pass slice mem) (JL (dG M L) pass (slice+1) 0 0)) L (by
    rintro l s ⟨f1,rfl,hx,hM1⟩;by_cases hlt:l < L
    ·refine .inl ⟨hlt,?_⟩;obtain⟨f2,e1,e2⟩:=rfill K M P L T hm pass slice l hp h3 hlt f1 _ hM1;unfold uG;simp only[];rw[if_pos (by omega),e1];simp only[Option.bind_some];rw[bM l (by omega)];refine⟨_,rfl,f2,rfl,by omega,?_⟩;rw[fold_succ];exact e2.mono fun a _ d _ h=>by unfold JL at h ⊢;omega
    ·right;obtain rfl:l=L:=by omega
     unfold uG;simp only[];rw[if_neg (by omega),bM slice (by omega)];refine⟨_,rfl,f1,rfl,hM1.mono fun a ha d _ h=>?_⟩;unfold JL at h ⊢;rw[Nat.succ_mul] at h;omega) _ ⟨f,rfl,Nat.zero_le _,hM⟩
  exact⟨f',h1,h2⟩
include hm in
theorem rpass (pass:Nat)(hp:pass < P)(f:List (List UInt8))(mem:Mem)(hM:FH L (4*dG M L) f mem (JL (dG M L) pass 0 0 0)) :
    ∃ f',aZ (uH K M P L T (((4*dG M L:Nat):Int),0) (pass:Int)) (f,0)=some (.inl (f',((pass+1:Nat):Int)))/\FH L (4*dG M L) f' (PT K M P L pass mem) (JL (dG M L) (pass+1) 0 0 0):=by
  obtain⟨_,_,_,_,hP,_⟩:=mV K M P L T hm;obtain⟨r,h1,f',rfl,h2⟩:=mi (f:=uH K M P L T (((4*dG M L:Nat):Int),0) (pass:Int)) (fun i s=>∃ f',s=(f',(i:Int))/\i<=4/\FH L (4*dG M L) f' ((List.range i).foldl (fun mem slice=>JI K M P L pass slice mem) mem) (JL (dG M L) pass i 0 0)) (fun r=>∃ f',r=.inl (f',((pass+1:Nat):Int))/\FH L (4*dG M L) f' (PT K M P L pass mem) (JL (dG M L) (pass+1) 0 0 0)) 4 (by
    rintro l s ⟨f1,rfl,hx,hM1⟩;by_cases hlt:l < 4
    ·refine .inl ⟨hlt,?_⟩;obtain⟨f2,e1,e2⟩:=rslice K M P L T hm pass l hp (by omega) f1 _ hM1;unfold uH;simp only[];rw[if_pos (by omega)];exact⟨_,e1,f2,rfl,by omega,by rw[fold_succ];exact e2⟩
    ·right;obtain rfl:l=4:=by omega
     unfold uH;simp only[];rw[if_neg (by omega),bM pass (by omega)];refine⟨_,rfl,f1,rfl,hM1.mono fun a ha d hd h=>?_⟩;unfold JL;omega) _ ⟨f,rfl,Nat.zero_le _,hM⟩
  exact⟨f',h1,h2⟩
include hm hs in
theorem rFillA:∃ f,D7 K M P L T start=some (f,0)/\FH L (4*dG M L) f (allM K M P L (Ce start)) (fun _ _=>True):=by
  have hb:=nG K M P L T hm;obtain⟨_,hL1,hL2,hP1,hP,_⟩:=mV K M P L T hm;unfold D7;rw[rcol K M P L T hm];simp only[Option.bind_some,ne_eq,not_true_eq_false,if_false];rw[if_neg (by omega),show(L:Int)*((4*dG M L:Nat):Int)=((L*(4*dG M L):Nat):Int) from by simp,bn (by omega),jy (by rw[Int.toNat_natCast];omega)];simp only[Option.bind_some];rw[Int.toNat_natCast];have hpass:∀ f:List (List UInt8),FH L (4*dG M L) f (Ce start) (FdB L 0)->∃ f',aZ (uI K M P L T (((4*dG M L:Nat):Int),0)) (f,0)=some (f',0)/\FH L (4*dG M L) f' (allM K M P L (Ce start)) (fun _ _=>True):=by
    intro f hf;have hf0:FH L (4*dG M L) f (Ce start) (JL (dG M L) 0 0 0 0):=hf.mono fun a ha d hd h=>by
      unfold JL at h;rw[Nat.zero_mul] at h;unfold FdB;omega
    obtain⟨r,h1,f',rfl,h2⟩:=mi (f:=uI K M P L T (((4*dG M L:Nat):Int),0)) (fun i s=>∃ f',s=(f',(i:Int))/\i<=P/\FH L (4*dG M L) f' ((List.range i).foldl (fun mem pass=>PT K M P L pass mem) (Ce start)) (JL (dG M L) i 0 0 0)) (fun r=>∃ f',r=(f',(0:Int))/\FH L (4*dG M L) f' (allM K M P L (Ce start)) (fun _ _=>True)) P (by
      rintro l s ⟨f1,rfl,hx,hM1⟩;by_cases hlt:l < P
      ·refine .inl ⟨hlt,?_⟩;obtain⟨f2,e1,e2⟩:=rpass K M P L T hm l hlt f1 _ hM1;unfold uI;simp only[];rw[if_pos (by omega)];exact⟨_,e1,f2,rfl,by omega,by rw[fold_succ];exact e2⟩
      ·right;obtain rfl:l=P:=by omega
       unfold uI;simp only[];rw[if_neg (by omega)];exact⟨_,rfl,f1,rfl,hM1.mono fun a ha d hd h=>.inl (by omega)⟩) _ ⟨f,rfl,Nat.zero_le _,hf0⟩
    exact⟨f',h1,h2⟩
  obtain⟨r,h1,f',rfl,h2⟩:=mi (f:=xI K M P L T start (((4*dG M L:Nat):Int),0)) (fun i s=>∃ f',s=(f',(i:Int))/\i<=L/\FH L (4*dG M L) f' (Ce start) (FdB i 0)) (fun r=>∃ f',r=(f',(0:Int))/\FH L (4*dG M L) f' (allM K M P L (Ce start)) (fun _ _=>True)) L (by
    rintro l s ⟨f1,rfl,hx,hM1⟩;by_cases hlt:l < L
    ·refine .inl ⟨hlt,?_⟩;obtain⟨f2,e1,e2⟩:=rbeg1 K M P L T hm start hs f1 l hlt hM1;unfold xI;simp only[];rw[if_pos (by omega)];exact⟨_,e1,f2,rfl,by omega,e2⟩
    ·right;obtain rfl:l=L:=by omega
     obtain⟨f2,e1,e2⟩:=hpass f1 hM1;unfold xI;simp only[];rw[if_neg (by omega)];exact⟨_,congrArg (Option.map Sum.inr) e1,f2,rfl,e2⟩) _ ⟨List.replicate (L*(4*dG M L)) [],rfl,Nat.zero_le _,⟨by simp,fun l _ c _=>Vo start hs l c,fun l _ c _ h=>by unfold FdB at h;omega⟩⟩
  exact⟨f',h1,h2⟩
include hm in
theorem rHashA (w aO:List UInt8)(hw:w.length<=65536)(hsl:8<=aO.length/\aO.length<=64):oW K M P L T w aO [] []=some (CW T (Qh M L (allM K M P L (Ce (N8 64 (Tq K M P L T w aO)))) L),0):=by
  have hb:=nG K M P L T hm;obtain⟨_,hL1,hL2,_,_,hT1,hT2,_⟩:=mV K M P L T hm;have hst:=zO 64 (by omega) (by omega) _ (hdr_le K M P L T w aO hw hsl.2);unfold oW;rw[rStartA K M P L T hm w aO hw hsl];simp only[Option.bind_some,ne_eq,not_true_eq_false,if_false];generalize N8 64 (Tq K M P L T w aO)=start at hst ⊢;obtain⟨f,e1,hM⟩:=rFillA K M P L T hm start hst;rw[e1,rcol K M P L T hm];simp only[Option.bind_some];generalize allM K M P L (Ce start)=mem at hM ⊢;have hlen:=PU M L mem fun l hl=>hM.2.1 l hl _ (show 4*dG M L - 1 < 4*dG M L from by omega);rw[Tv];refine gJ (fun i=>(Qh M L mem i,(i:Int))) L (fun l hl=>?_) ?_
  ·unfold AY;simp only[];have hi:ay ((ay ((ay ((l:Int)*((4*dG M L:Nat):Int)))+((4*dG M L:Nat):Int))) - 1)=((l*(4*dG M L)+(4*dG M L - 1):Nat):Int):=by
     have h2:l*(4*dG M L)<=L*(4*dG M L):=Nat.mul_le_mul_right _ (by omega);rw[show(l:Int)*((4*dG M L:Nat):Int)=((l*(4*dG M L):Nat):Int) from by simp,bn (n:=((l*(4*dG M L):Nat):Int)) (by omega),bn (n:=((l*(4*dG M L):Nat):Int)+_) (by omega),bn (by omega)];omega
   rw[if_pos (by omega),hi,JX (hM.2.2 l hl _ (by omega) trivial)];simp only[Option.bind_some];rw[rXor _ _ (hlen l (by omega)) (hM.2.1 l hl _ (by omega))];simp only[Option.bind_some];rw[bM l (by omega)];unfold Qh;rw[fold_succ]
  ·unfold AY;simp only[];rw[if_neg (by omega),rHash T (by omega) (by omega) _ (by rw[hlen L (Nat.le_refl _)];omega)];rfl
include hm in
theorem wHashA (w aO:List UInt8)(hw:w.length<=65536)(hsl:8<=aO.length/\aO.length<=64):qE K M P L T w aO [] []=some (CW T (Qh M L (allM K M P L (Ce (N8 64 (Tq K M P L T w aO)))) L),0)/\(CW T (Qh M L (allM K M P L (Ce (N8 64 (Tq K M P L T w aO)))) L)).length=T:=by
  have hb:=nG K M P L T hm;obtain⟨_,hL1,hL2,_,_,hT1,hT2,_⟩:=mV K M P L T hm;have hst:=zO 64 (by omega) (by omega) _ (hdr_le K M P L T w aO hw hsl.2);unfold qE zo;rw[X9 K M P L T hm w aO hw hsl];simp only[Option.bind_some,ne_eq,not_true_eq_false,if_false];generalize N8 64 (Tq K M P L T w aO)=start at hst ⊢;obtain⟨m,e1,hM⟩:=wbegin K M P L T hm start hst;rw[e1];simp only[Option.bind_some];obtain⟨m2,e2,hM2⟩:=wall K M P L T hm m _ hM;rw[e2];simp only[Option.bind_some];rw[wtag K M P L T hm m2 _ hM2];refine⟨rfl,QG T (by omega) (by omega) _ ?_⟩;rw[PU M L _ (fun l hl=>hM2.len hl (show 4*dG M L - 1 < 4*dG M L from by omega)) L (Nat.le_refl _)];omega
end
def zS (K M P L T:Int)(nw ns:Nat):Int:=if sJ K M P L T then(if 65536 < nw then 2 else if ns < 8∨64 < ns then 201 else 0) else 200
theorem Ya (K M P L T:Int)(nw ns:Nat)(h:zS K M P L T nw ns≠0):(¬ sJ K M P L T/\zS K M P L T nw ns=200)∨(sJ K M P L T/\65536 < nw/\zS K M P L T nw ns=2)∨(sJ K M P L T/\¬ 65536 < nw/\(ns < 8∨64 < ns)/\zS K M P L T nw ns=201):=by
  unfold zS at h ⊢;by_cases hm:sJ K M P L T
  ·rw[if_pos hm] at h ⊢;by_cases hw:65536 < nw
   ·rw[if_pos hw];exact .inr (.inl ⟨hm,hw,rfl⟩)
   ·rw[if_neg hw] at h ⊢;by_cases hs:ns < 8∨64 < ns
    ·rw[if_pos hs];exact .inr (.inr ⟨hm,hw,hs,rfl⟩)
    ·rw[if_neg hs] at h;exact absurd rfl h
  ·rw[if_neg hm];exact .inl ⟨hm,rfl⟩
theorem Xa (K M P L T:Int)(w aO:List UInt8)(h:zS K M P L T w.length aO.length≠0):mQ K M P L T w aO [] []=some ([],zS K M P L T w.length aO.length):=by
  unfold mQ;rw[WX,SY];simp only[Option.bind_some];rcases Ya K M P L T _ _ h with⟨hm,e⟩ | ⟨hm,hw,e⟩ | ⟨hm,hw,hs,e⟩
  ·rw[e,if_pos (by rw[decide_eq_false hm];rfl)]
  ·rw[e,if_neg (by rw[decide_eq_true hm];decide),if_pos (by omega)]
  ·have hc:zY K M P L T aO.length=201:=by unfold zY;rw[if_pos hm,if_pos hs]
   rw[e,if_neg (by rw[decide_eq_true hm];decide),if_neg (by omega),if_pos (by rw[hc];decide)]
theorem Xb (K M P L T:Int)(w aO:List UInt8)(h:zS K M P L T w.length aO.length≠0):vJ K M P L T w aO [] []=some ([],zS K M P L T w.length aO.length):=by
  have hi:wK K M P L T w aO [] []=some (zS K M P L T w.length aO.length):=by
    unfold wK;rw[PN,S9];simp only[Option.bind_some];rcases Ya K M P L T _ _ h with⟨hm,e⟩ | ⟨hm,hw,e⟩ | ⟨hm,hw,hs,e⟩
    ·rw[e,if_neg hm,if_pos (by decide)]
    ·rw[e,if_pos hm,if_neg (by decide),if_pos (by omega)]
    ·have hc:zY K M P L T aO.length=201:=by unfold zY;rw[if_pos hm,if_pos hs]
     rw[e,if_pos hm,if_neg (by decide),if_neg (by omega),if_pos (by rw[hc];decide)]
  unfold vJ;rw[hi];simp only[Option.bind_some];rw[if_pos h]
theorem may_cast {K M P L T:Int}(hm:sJ K M P L T):∃ k m p l t:Nat,K=k/\M=m/\P=p/\L=l/\T=t:=by
  unfold sJ at hm;exact⟨K.toNat,M.toNat,P.toNat,L.toNat,T.toNat,by omega,by omega,by omega,by omega,by omega⟩
theorem hErr0 {K M P L T:Int}{nw ns:Nat}(h:zS K M P L T nw ns=0):sJ K M P L T/\nw<=65536/\8<=ns/\ns<=64:=by
  unfold zS at h;split at h
  ·rename_i hm;split at h
   ·cases h
   ·split at h
    ·cases h
    ·exact⟨hm,by omega,by omega,by omega⟩
  ·cases h
theorem Vp (K M P L T:Int)(w aO:List UInt8):∃ x,qE K M P L T w aO [] []=some (x,zS K M P L T w.length aO.length)/\oW K M P L T w aO [] []=some (x,zS K M P L T w.length aO.length)/\(zS K M P L T w.length aO.length=0->(x.length:Int)=T)/\(zS K M P L T w.length aO.length≠0->x=[])/\(zS K M P L T w.length aO.length=0->∃ h,mQ K M P L T w aO [] []=some (h,0)):=by
  by_cases h:zS K M P L T w.length aO.length=0
  ·obtain⟨hm,hw,h8,h64⟩:=hErr0 h;obtain⟨k,m,p,l,t,rfl,rfl,rfl,rfl,rfl⟩:=may_cast hm;obtain⟨e1,e2⟩:=wHashA k m p l t hm w aO hw ⟨h8,h64⟩;rw[h];exact⟨_,e1,rHashA k m p l t hm w aO hw ⟨h8,h64⟩,fun _=>by rw[e2],fun q=>absurd rfl q,fun _=>⟨_,X9 k m p l t hm w aO hw ⟨h8,h64⟩⟩⟩
  ·have e1:=Xa K M P L T w aO h;have e2:=Xb K M P L T w aO h;refine⟨[],?_,?_,fun q=>absurd q h,fun _=>rfl,fun q=>absurd q h⟩
   ·unfold qE zo;rw[e1];simp only[Option.bind_some];rw[if_pos h];rfl
   ·unfold oW;rw[e2];simp only[Option.bind_some];rw[if_pos h]
end Go.Sx
namespace Go.Sx
open Go.RowKit
set_option linter.unusedVariables false
set_option linter.unusedSimpArgs false
theorem Vq {K M P L T:Int}{nw ns:Nat}(h:zY K M P L T ns=0)(hw:nw<=65536):zS K M P L T nw ns=0:=by
  obtain⟨hm,h8,h64⟩:=YX h;unfold zS;rw[if_pos hm,if_neg (by omega),if_neg (by omega)]
theorem make_ok2 (K M P L T:Int)(w aO:List UInt8):∃ x,oW K M P L T w aO [] []=some (x,zS K M P L T w.length aO.length)/\(zS K M P L T w.length aO.length=0->(x.length:Int)=T) /\
    BJ K M P L T w aO=some (if zS K M P L T w.length aO.length≠0 then([],zS K M P L T w.length aO.length) else Ik K M P L T aO x) /\
    OH K M P L T w aO=some (if zS K M P L T w.length aO.length≠0 then([],zS K M P L T w.length aO.length) else Ik K M P L T aO x):=by
  obtain⟨x,e1,e2,e3,_,_⟩:=Vp K M P L T w aO;refine⟨x,e2,e3,?_,?_⟩
  ·unfold BJ;rw[e1];simp only[Option.bind_some];by_cases h:zS K M P L T w.length aO.length≠0
   ·rw[if_pos h,if_pos h]
   ·rw[if_neg h,if_neg h,print_p];rfl
  ·unfold OH;rw[e2];simp only[Option.bind_some];by_cases h:zS K M P L T w.length aO.length≠0
   ·rw[if_pos h,if_pos h]
   ·rw[if_neg h,if_neg h,print_r];rfl
theorem Vr {K M P L T:Int}{aO sum:List UInt8}(hc:zY K M P L T aO.length=0)(hT:((sum.length:Nat):Int)=T):(textS K M.toNat P.toNat L.toNat aO sum).length<=100000:=by
  obtain⟨hm,h8,h64⟩:=YX hc;unfold sJ at hm;have h1:=Gv M.toNat;have h2:=Gv P.toNat;have h3:=Gv L.toNat;have h4:=WY K;unfold textS;simp only[List.length_append,Gu,List.length_cons,List.length_nil];omega
theorem Ns {K M P L T:Int}{aO sum w:List UInt8}(hc:zY K M P L T aO.length=0)(hT:((sum.length:Nat):Int)=T)(hw:w.length<=65536):∃ x,oW K M P L T w aO [] []=some (x,0)/\x.length=sum.length/\uJ (textS K M.toNat P.toNat L.toNat aO sum) w=some (decide (x=sum),0):=by
  obtain⟨x,e1,e2,e3,e4,e5⟩:=Vp K M P L T w aO;have he:=Vq hc hw;rw[he] at e1 e2;obtain⟨g,hg⟩:=e5 he;have hx:=e3 he;refine⟨x,e2,by omega,?_⟩;have hl:=Vr hc hT;unfold uJ;rw[S_ _ (by omega),PI K M P L T aO sum hc hT];simp only[Option.bind_some];rw[if_neg (by decide)];unfold zB;rw[hg];simp only[Option.bind_some];rw[if_neg (by decide),if_neg (by rw[hT];simp),e1];rfl
theorem JJ (K M P L T:Int)(w other aO:List UInt8):tq K M P L T w other aO=some true:=by
  obtain⟨x,e0,hx,e1,_⟩:=make_ok2 K M P L T w aO;unfold tq;rw[awake_ok];simp only[Option.bind_some];rw[if_neg (by decide),e1,S9];simp only[Option.bind_some];by_cases hb:zY K M P L T aO.length=0/\w.length<=65536
  ·have he:=Vq hb.1 hb.2;rw[if_neg (by simp only[Bool.or_eq_true,decide_eq_true_eq];omega),he];have hT:=hx he;rw[if_neg (by decide)];have hpr:Ik K M P L T aO x=(textS K M.toNat P.toNat L.toNat aO x,0):=by
     unfold Ik;rw[if_neg (by rw[hb.1];decide),if_neg (by rw[hT];simp)]
   rw[hpr];simp only[];have hl:=Vr hb.1 hT;obtain⟨x2,f0,f1,f2⟩:=Ns hb.1 hT hb.2;rw[he] at e0;rw[e0] at f0;obtain rfl:x=x2:=congrArg Prod.fst (Option.some.inj f0);rw[f2];simp only[Option.bind_some];have hst:zC (textS K M.toNat P.toNat L.toNat aO x) K M P L T=some (false,0):=by
     unfold zC;rw[S_ _ (by omega),PI K M P L T aO x hb.1 hT];simp only[Option.bind_some];rw[if_neg (by decide),SY,hb.1];simp
   rw[hst];simp only[Option.bind_some,decide_true];by_cases ho:65536 < other.length
   ·rw[if_pos (by simp;omega)];rfl
   ·rw[if_neg (by simp only[Bool.or_eq_true,decide_eq_true_eq];simp;omega),e0];simp only[Option.bind_some];obtain⟨y,g0,g1,g2⟩:=Ns (w:=other) hb.1 hT (by omega);rw[g0,g2];simp only[Option.bind_some,if_true];have hm:=(YX hb.1).1;unfold sJ at hm;unfold FX;rw[rsame _ _ (by omega)];simp only[Option.bind_some];rw[decide_eq_true (by rw[decide_eq_decide];exact⟨fun h=>h.symm,fun h=>h.symm⟩)]
  ·have he:zS K M P L T w.length aO.length≠0:=fun h=>by
     obtain⟨hm,h1,h2,h3⟩:=hErr0 h;refine hb ⟨?_,h1⟩;unfold zY;rw[if_pos hm,if_neg (by omega)]
   rw[if_pos (by simp only[Bool.or_eq_true,decide_eq_true_eq];omega),if_pos he];simp[he]
end Go.Sx
