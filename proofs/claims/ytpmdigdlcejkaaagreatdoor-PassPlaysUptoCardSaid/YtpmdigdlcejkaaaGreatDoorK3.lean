import Derived.Lib.Bytealg
import Derived.Test.YtpmdigdlcejkaaaGreatDoorProg
import Derived.Ground.NamesProg
import Derived.Shelf.Strconv.Itoa3
import Derived.Shelf.Strings.Cut
import Derived.Shelf.Strings.Builder1
import Derived.Test.YtpmdigdlcejkaaaGreatDoorK2
namespace Go.Sx
open Go.RowKit
set_option linter.unusedVariables false
noncomputable section
@[reducible] def A0E:=eP eS (eP eI (eP e64 eS))
@[reducible] def A0F:=vS (eP eS (eP eI e64)) (iK oD (iK oC kF))
@[reducible] def A0G:=eP eI (eP eI (eP eI (eP eS eI)))
@[reducible] def A0H:=Ow e8
@[reducible] def A0J:=O2 (eV e8 1024)
def Eu (a b d c e:Int):Option (List A0B) :=
  some ([(a,0,2),(c,1,8),(d,1,16),(e,4,1024),(b,8,4096)]:List A0B)
def xw (c d:Int)(b:(List A0B)):Int->Option (Int⊕Bool)
  | aN=>if aN < (b.length:Int) then((aP b aN).bind fun a=>if((decide (a.1 < a.2.1))||(decide (a.2.2 < a.1)))=true then(Option.map Sum.inr (some false)) else(some (.inl (ax (aN+1))))) else(Option.map Sum.inr (some (decide ((ax (8*d))<=c))))
def DV (d a e b f:Int):Option Bool :=
  (Eu d a e b f).bind fun c=>aT (xw a b c) (0:Int)
def sW (b c e d f:Int)(aO:AC):A04 :=
  (DV b c e d f).bind fun a=>if(!a)=true then(some 200) else(if((decide ((aO.length:Int) < 8))||(decide (64 < (aO.length:Int))))=true then(some 201) else(some 0))
def Bi (e h f g b:Int)(d c:AC):A04 :=
  (sW e h f g b d).bind fun a=>if a≠0 then(some a) else(if(c.length:Int)≠b then(some 1) else(some 0))
def G8 (a:Int):Option AC :=
  (aP (⟨[([100]:AC),([105]:AC),([105,100]:AC)],rfl⟩:Vec AC 3).l a).bind fun b=>some b
def Bj (i:Int)(a:AC):A0A :=
  some (.inl (a,ax (i+3)))
def F9 (b:AC)(i:Int)(a:UInt32):UV->Option (UV⊕(UV⊕AC))
  | (Om,kY)=>if kY < (ax ((if ax ((b.length:Int) - i) < 3 then ax ((b.length:Int) - i) else 3)+1)) then((need (0<=ax (18 - (ax (6*kY))))).bind fun u=>(aP ([65,66,67,68,69,70,71,72,73,74,75,76,77,78,79,80,81,82,83,84,85,86,87,88,89,90,97,98,99,100,101,102,103,104,105,106,107,108,109,110,111,112,113,114,115,116,117,118,119,120,121,122,48,49,50,51,52,53,54,55,56,57,43,47]:AC) (((qK a (Int.toNat (ax (18 - (ax (6*kY))))))&&&63).toNat:Int)).bind fun c=>(app Om ([c]:AC) 1).bind fun d=>some (.inl (d,ax (kY+1)))) else(Option.map Sum.inr (Bj i Om))
def tX (b c:AC)(i:Int)(a:UInt32):A0A :=
  aT (F9 b i a) (c,0)
def tY (b a:AC)(i:Int)(v:UInt32):A0A :=
  if 2 < (if ax ((b.length:Int) - i) < 3 then ax ((b.length:Int) - i) else 3) then((aP b (ax (i+2))).bind fun c=>tX b a i (v|||(UInt32.ofNat c.toNat))) else(tX b a i v)
def F_ (b:AC):UV->A0A
  | (s_,i)=>if i < (b.length:Int) then((aP b i).bind fun c=>if 1 < (if ax ((b.length:Int) - i) < 3 then ax ((b.length:Int) - i) else 3) then((aP b (ax (i+1))).bind fun a=>tY b s_ i ((su (UInt32.ofNat c.toNat) ((16:UInt64).toNat))|||(su (UInt32.ofNat a.toNat) ((8:UInt64).toNat)))) else(tY b s_ i (su (UInt32.ofNat c.toNat) ((16:UInt64).toNat)))) else(Option.map Sum.inr (some s_))
def zl (b:AC):Option AC :=
  aT (F_ b) (([]:AC),0)
def Ew (i a c d k:Int)(h f:AC):Option UV :=
  (Bi i a c d k h f).bind fun g=>if g≠0 then(some (([]:AC),g)) else((G8 i).bind fun b=>(need (([36,97,114,103,111,110,50]:AC).length+b.length<=9223372036854775807)).bind fun u=>(need ((([36,97,114,103,111,110,50]:AC)++b).length+([36,118,61,49,57,36,109,61]:AC).length<=9223372036854775807)).bind fun u1=>(need (-9223372036854775808<=a/\a<=9223372036854775807)).bind fun u2=>(need (((([36,97,114,103,111,110,50]:AC)++b)++([36,118,61,49,57,36,109,61]:AC)).length+(Lib.itoa a).length<=9223372036854775807)).bind fun u3=>(need ((((([36,97,114,103,111,110,50]:AC)++b)++([36,118,61,49,57,36,109,61]:AC))++(Lib.itoa a)).length+([44,116,61]:AC).length<=9223372036854775807)).bind fun u4=>(need (-9223372036854775808<=c/\c<=9223372036854775807)).bind fun u5=>(need (((((([36,97,114,103,111,110,50]:AC)++b)++([36,118,61,49,57,36,109,61]:AC))++(Lib.itoa a))++([44,116,61]:AC)).length+(Lib.itoa c).length<=9223372036854775807)).bind fun u6=>(need ((((((([36,97,114,103,111,110,50]:AC)++b)++([36,118,61,49,57,36,109,61]:AC))++(Lib.itoa a))++([44,116,61]:AC))++(Lib.itoa c)).length+([44,112,61]:AC).length<=9223372036854775807)).bind fun u7=>(need (-9223372036854775808<=d/\d<=9223372036854775807)).bind fun u8=>(need (((((((([36,97,114,103,111,110,50]:AC)++b)++([36,118,61,49,57,36,109,61]:AC))++(Lib.itoa a))++([44,116,61]:AC))++(Lib.itoa c))++([44,112,61]:AC)).length+(Lib.itoa d).length<=9223372036854775807)).bind fun u9=>(need ((((((((([36,97,114,103,111,110,50]:AC)++b)++([36,118,61,49,57,36,109,61]:AC))++(Lib.itoa a))++([44,116,61]:AC))++(Lib.itoa c))++([44,112,61]:AC))++(Lib.itoa d)).length+([36]:AC).length<=9223372036854775807)).bind fun u10=>(zl h).bind fun e=>(need (((((((((([36,97,114,103,111,110,50]:AC)++b)++([36,118,61,49,57,36,109,61]:AC))++(Lib.itoa a))++([44,116,61]:AC))++(Lib.itoa c))++([44,112,61]:AC))++(Lib.itoa d))++([36]:AC)).length+e.length<=9223372036854775807)).bind fun u11=>(need ((((((((((([36,97,114,103,111,110,50]:AC)++b)++([36,118,61,49,57,36,109,61]:AC))++(Lib.itoa a))++([44,116,61]:AC))++(Lib.itoa c))++([44,112,61]:AC))++(Lib.itoa d))++([36]:AC))++e).length+([36]:AC).length<=9223372036854775807)).bind fun u12=>(zl f).bind fun j=>(need (((((((((((([36,97,114,103,111,110,50]:AC)++b)++([36,118,61,49,57,36,109,61]:AC))++(Lib.itoa a))++([44,116,61]:AC))++(Lib.itoa c))++([44,112,61]:AC))++(Lib.itoa d))++([36]:AC))++e)++([36]:AC)).length+j.length<=9223372036854775807)).bind fun u13=>some (((((((((((([36,97,114,103,111,110,50]:AC)++b)++([36,118,61,49,57,36,109,61]:AC))++(Lib.itoa a))++([44,116,61]:AC))++(Lib.itoa c))++([44,112,61]:AC))++(Lib.itoa d))++([36]:AC))++e)++([36]:AC))++j,0))
def qP (b c d a e:Int):A04 :=
  if((((((((((decide (b < 0))||(decide (2 < b)))||(decide (a < 1)))||(decide (8 < a)))||(decide (c < (ax (8*a)))))||(decide (4096 < c)))||(decide (d < 1)))||(decide (16 < d)))||(decide (e < 4)))||(decide (1024 < e)))=true then(some 200) else(some 0)
def vW (b c e d f:Int)(aO:AC):A04 :=
  (qP b c e d f).bind fun a=>if a≠0 then(some a) else(if((decide ((aO.length:Int) < 8))||(decide (64 < (aO.length:Int))))=true then(some 201) else(some 0))
def kL  : (UInt64×AC)->Option ((UInt64×AC)⊕AC)
  | (n1,s_)=>(need (([UInt8.ofNat ((48:UInt64)+(n1 % 10)).toNat]:AC).length+s_.length<=9223372036854775807)).bind fun u=>if(n1 / 10)=0 then(Option.map Sum.inr (some (([UInt8.ofNat ((48:UInt64)+(n1 % 10)).toNat]:AC)++s_))) else(some (.inl (n1 / 10,([UInt8.ofNat ((48:UInt64)+(n1 % 10)).toNat]:AC)++s_)))
def oV (n:UInt64):Option AC :=
  aT (kL) (n,([]:AC))
def vI (a:Int)(b:AC)(d c:Int):Option (A09⊕(A09⊕AC)) :=
  some (.inl (b,d,c,ax (a - 1)))
def Df (b:AC)(i:Int):A09->Option (A09⊕(A09⊕AC))
  | (Aa,have_1,uq,b_)=>if 0<=b_ then((aP b i).bind fun a=>(need (0<=b_)).bind fun u=>if(ax (have_1+1))=6 then((aP ([65,66,67,68,69,70,71,72,73,74,75,76,77,78,79,80,81,82,83,84,85,86,87,88,89,90,97,98,99,100,101,102,103,104,105,106,107,108,109,110,111,112,113,114,115,116,117,118,119,120,121,122,48,49,50,51,52,53,54,55,56,57,43,47]:AC) (ax ((ax (2*uq))+(Int.tmod ((XQ a (Int.toNat b_)).toNat:Int) 2)))).bind fun c=>(app Aa ([c]:AC) 1).bind fun d=>vI b_ d 0 0) else(vI b_ Aa (ax (have_1+1)) (ax ((ax (2*uq))+(Int.tmod ((XQ a (Int.toNat b_)).toNat:Int) 2))))) else(Option.map Sum.inr (some (.inl (Aa,have_1,uq,ax (i+1)))))
def vJ (a:AC):Option AC :=
  some a
def Dh (b:AC):A05->Option (A05⊕AC)
  | (Oo,QA)=>if Oo < 6 then(some (.inl (ax (Oo+1),ax (2*QA)))) else(Option.map Sum.inr ((aP ([65,66,67,68,69,70,71,72,73,74,75,76,77,78,79,80,81,82,83,84,85,86,87,88,89,90,97,98,99,100,101,102,103,104,105,106,107,108,109,110,111,112,113,114,115,116,117,118,119,120,121,122,48,49,50,51,52,53,54,55,56,57,43,47]:AC) QA).bind fun c=>(app b ([c]:AC) 1).bind fun a=>vJ a))
def Iz (b:AC):A09->Option (A09⊕AC)
  | (s_,qf,Ku,i)=>if i < (b.length:Int) then(aT (Df b i) (s_,qf,Ku,7)) else(Option.map Sum.inr (if 0 < qf then(aT (Dh s_) (qf,Ku)) else(vJ s_)))
def Bo (b:AC):Option AC :=
  aT (Iz b) (([]:AC),0,0,0)
def G9 (j n l m k:Int)(h f:AC):Option UV :=
  (vW j n l m k h).bind fun g=>if g≠0 then(some (([]:AC),g)) else(if(f.length:Int)≠k then(some (([]:AC),1)) else((aP ([([100]:AC),([105]:AC),([105,100]:AC)]:A02) j).bind fun a=>(need (([36,97,114,103,111,110,50]:AC).length+a.length<=9223372036854775807)).bind fun u=>(need ((([36,97,114,103,111,110,50]:AC)++a).length+([36,118,61,49,57,36,109,61]:AC).length<=9223372036854775807)).bind fun u1=>(oV (UInt64.ofInt n)).bind fun b=>(need (((([36,97,114,103,111,110,50]:AC)++a)++([36,118,61,49,57,36,109,61]:AC)).length+b.length<=9223372036854775807)).bind fun u2=>(need ((((([36,97,114,103,111,110,50]:AC)++a)++([36,118,61,49,57,36,109,61]:AC))++b).length+([44,116,61]:AC).length<=9223372036854775807)).bind fun u3=>(oV (UInt64.ofInt l)).bind fun c=>(need (((((([36,97,114,103,111,110,50]:AC)++a)++([36,118,61,49,57,36,109,61]:AC))++b)++([44,116,61]:AC)).length+c.length<=9223372036854775807)).bind fun u4=>(need ((((((([36,97,114,103,111,110,50]:AC)++a)++([36,118,61,49,57,36,109,61]:AC))++b)++([44,116,61]:AC))++c).length+([44,112,61]:AC).length<=9223372036854775807)).bind fun u5=>(oV (UInt64.ofInt m)).bind fun d=>(need (((((((([36,97,114,103,111,110,50]:AC)++a)++([36,118,61,49,57,36,109,61]:AC))++b)++([44,116,61]:AC))++c)++([44,112,61]:AC)).length+d.length<=9223372036854775807)).bind fun u6=>(need ((((((((([36,97,114,103,111,110,50]:AC)++a)++([36,118,61,49,57,36,109,61]:AC))++b)++([44,116,61]:AC))++c)++([44,112,61]:AC))++d).length+([36]:AC).length<=9223372036854775807)).bind fun u7=>(Bo h).bind fun e=>(need (((((((((([36,97,114,103,111,110,50]:AC)++a)++([36,118,61,49,57,36,109,61]:AC))++b)++([44,116,61]:AC))++c)++([44,112,61]:AC))++d)++([36]:AC)).length+e.length<=9223372036854775807)).bind fun u8=>(need ((((((((((([36,97,114,103,111,110,50]:AC)++a)++([36,118,61,49,57,36,109,61]:AC))++b)++([44,116,61]:AC))++c)++([44,112,61]:AC))++d)++([36]:AC))++e).length+([36]:AC).length<=9223372036854775807)).bind fun u9=>(Bo f).bind fun i=>(need (((((((((((([36,97,114,103,111,110,50]:AC)++a)++([36,118,61,49,57,36,109,61]:AC))++b)++([44,116,61]:AC))++c)++([44,112,61]:AC))++d)++([36]:AC))++e)++([36]:AC)).length+i.length<=9223372036854775807)).bind fun u10=>some (((((((((((([36,97,114,103,111,110,50]:AC)++a)++([36,118,61,49,57,36,109,61]:AC))++b)++([44,116,61]:AC))++c)++([44,112,61]:AC))++d)++([36]:AC))++e)++([36]:AC))++i,0)))
def nO (a:AC)(b:Bool)(t:AC):A05->Option (A05⊕(AC×Int×Bool))
  | (p,i)=>if((decide (i < (t.length:Int)))&&b)=true then((IJ (!(decide ((a.length:Int)<=p))) (aP a p)).bind fun c=>(IJ (!(decide ((a.length:Int)<=p))) (aP t i)).bind fun d=>if((decide ((a.length:Int)<=p))||(decide (c≠d)))=true then(Option.map Sum.inr (some (a,p,false))) else(some (.inl (ax (p+1),ax (i+1))))) else(Option.map Sum.inr (some (a,p,b)))
def jT (c:AC)(b:Int)(a:Bool)(t:AC):Option (AC×Int×Bool) :=
  aT (nO c a t) (b,0)
def jU (b a:AC):Option Bool :=
  (IJ (decide ((a.length:Int)<=(b.length:Int))) (Iw b 0 (a.length:Int))).bind fun c=>some ((decide ((a.length:Int)<=(b.length:Int)))&&(decide (c=a)))
def kJ (a c:AC):Option Bool :=
  (jU a c).bind fun b=>some b
def lh (a:AC)(b:Int):(Int×UInt64)->Option ((Int×UInt64)⊕(UInt64×AC×Int×Bool))
  | (p,v)=>(IJ (decide (p < (a.length:Int))) (aP a p)).bind fun c=>(IJ ((decide (p < (a.length:Int)))&&(decide ((48:UInt8)<=c))) (aP a p)).bind fun e=>if(((decide (p < (a.length:Int)))&&(decide ((48:UInt8)<=c)))&&(decide (e<=57)))=true then((aP a p).bind fun d=>if(((decide (b < p))&&(decide (v=0)))||(decide ((((18446744073709551615:UInt64) - (UInt64.ofNat (d - 48).toNat)) / 10) < v)))=true then(Option.map Sum.inr (some (0,a,p,false))) else(some (.inl (ax (p+1),((10:UInt64)*v)+(UInt64.ofNat (d - 48).toNat))))) else(Option.map Sum.inr (some (v,a,p,decide (b < p))))
def lZ (c:AC)(a:Int)(b:Bool):Option (UInt64×AC×Int×Bool) :=
  if(!b)=true then(some (0,c,a,b)) else(aT (lh c a) (a,0))
def yj (v:UInt64):A04 :=
  if(9223372036854775807:UInt64) < v then(some (-1:Int)) else(some (ax v.toNat))
def oW (a:AC)(c:UInt8):A04 :=
  some (Y6 a c)
def xg (a:AC)(c:UInt8):A04 :=
  (oW a c).bind fun b=>some b
def lX (a:AC)(f:Int)(h:Bool):Int->Option (Int⊕(AC×Int×AC×Int×Bool))
  | p=>if(h&&(decide (p < (a.length:Int))))=true then((aP a p).bind fun c=>(xg ([43,47]:AC) c).bind fun b=>(IJ (!(decide (0<=b))) (aP a p)).bind fun d=>(IJ (!(decide (0<=b))) (IJ (decide ((48:UInt8)<=d)) (aP a p))).bind fun e=>(IJ (!((decide (0<=b))||((decide ((48:UInt8)<=d))&&(decide (e<=57))))) (aP a p)).bind fun g=>(IJ (!((decide (0<=b))||((decide ((48:UInt8)<=d))&&(decide (e<=57))))) (IJ (decide ((65:UInt8)<=g)) (aP a p))).bind fun i=>(IJ (!(((decide (0<=b))||((decide ((48:UInt8)<=d))&&(decide (e<=57))))||((decide ((65:UInt8)<=g))&&(decide (i<=90))))) (aP a p)).bind fun j=>(IJ (!(((decide (0<=b))||((decide ((48:UInt8)<=d))&&(decide (e<=57))))||((decide ((65:UInt8)<=g))&&(decide (i<=90))))) (IJ (decide ((97:UInt8)<=j)) (aP a p))).bind fun l=>if((((decide (0<=b))||((decide ((48:UInt8)<=d))&&(decide (e<=57))))||((decide ((65:UInt8)<=g))&&(decide (i<=90))))||((decide ((97:UInt8)<=j))&&(decide (l<=122))))=true then(some (.inl (ax (p+1)))) else(Option.map Sum.inr ((Iw a f p).bind fun k=>some (k,f,a,p,h)))) else(Option.map Sum.inr ((Iw a f p).bind fun m=>some (m,f,a,p,h)))
def qm (c:AC)(a:Int)(b:Bool):Option (AC×Int×AC×Int×Bool) :=
  aT (lX c a b) a
def zn (c:UInt8):Option (UInt32×Bool) :=
  if((decide ((65:UInt8)<=c))&&(decide (c<=90)))=true then(some (UInt32.ofNat (c - 65).toNat,true)) else(if((decide ((97:UInt8)<=c))&&(decide (c<=122)))=true then(some ((UInt32.ofNat (c - 97).toNat)+26,true)) else(if((decide ((48:UInt8)<=c))&&(decide (c<=57)))=true then(some ((UInt32.ofNat (c - 48).toNat)+52,true)) else(if c=43 then(some (62,true)) else(if c=47 then(some (63,true)) else(some (0,false))))))
def qw (d:Int)(c:AC)(a:Int)(b:UInt32):Option ((AC×Int×UInt32×Int)⊕(AC×Int×Int)) :=
  some (.inl (c,a,b,ax (d+1)))
def Dy (a:AC):(AC×Int×UInt32×Int)->Option ((AC×Int×UInt32×Int)⊕(AC×Int×Int))
  | (b,qf,v,aN)=>if aN < (a.length:Int) then((aP a aN).bind fun d=>(zn d).bind fun c=>if(!c.2)=true then(Option.map Sum.inr (some (([]:AC),aN,4))) else(if 8<=(ax (qf+6)) then((need (0<=ax ((ax (qf+6)) - 8))).bind fun u=>(app b ([UInt8.ofNat (qK ((su v ((6:UInt64).toNat))|||c.1) (Int.toNat (ax ((ax (qf+6)) - 8)))).toNat]:AC) 1).bind fun e=>(need (0<=ax ((ax (qf+6)) - 8))).bind fun u1=>qw aN e (ax ((ax (qf+6)) - 8)) (((su v ((6:UInt64).toNat))|||c.1)&&&((su 1 (Int.toNat (ax ((ax (qf+6)) - 8)))) - 1))) else(qw aN b (ax (qf+6)) ((su v ((6:UInt64).toNat))|||c.1)))) else(Option.map Sum.inr (if(Int.tmod (a.length:Int) 4)=1 then(some (([]:AC),(a.length:Int),4)) else(if v≠0 then(some (([]:AC),ax ((a.length:Int) - 1),4)) else(some (b,0,0)))))
def vK (a:AC):Option (AC×Int×Int) :=
  aT (Dy a) (([]:AC),0,0,0)
def kM (r p:AC)(u:Int)(s:Bool)(t:Int):Option (Int×Int×Int×Int×Int×AC×AC×Int×Int) :=
  (jT p u s ([36,118,61,49,57,36,109,61]:AC)).bind fun m=>(lZ m.1 m.2.1 m.2.2).bind fun g=>(yj g.1).bind fun n=>(jT g.2.1 g.2.2.1 g.2.2.2 ([44,116,61]:AC)).bind fun j=>(lZ j.1 j.2.1 j.2.2).bind fun f=>(yj f.1).bind fun o=>(jT f.2.1 f.2.2.1 f.2.2.2 ([44,112,61]:AC)).bind fun i=>(lZ i.1 i.2.1 i.2.2).bind fun e=>(yj e.1).bind fun q=>(jT e.2.1 e.2.2.1 e.2.2.2 ([36]:AC)).bind fun h=>(qm h.1 h.2.1 h.2.2).bind fun b=>(jT b.2.2.1 b.2.2.2.1 b.2.2.2.2 ([36]:AC)).bind fun k=>(qm k.1 k.2.1 k.2.2).bind fun c=>if((!c.2.2.2.2)||(decide (c.2.2.2.1 < (r.length:Int))))=true then(some (0,0,0,0,0,([]:AC),([]:AC),c.2.2.2.1,4)) else((vK b.1).bind fun l=>if l.2.2≠0 then(some (0,0,0,0,0,([]:AC),([]:AC),b.2.1,4)) else((vK c.1).bind fun d=>if d.2.2≠0 then(some (0,0,0,0,0,([]:AC),([]:AC),c.2.1,4)) else((Bi t n o q (d.1.length:Int) l.1 d.1).bind fun a=>if a≠0 then(some (0,0,0,0,0,([]:AC),([]:AC),0,1)) else(some (t,n,o,q,(d.1.length:Int),l.1,d.1,0,0)))))
def sH (b:AC):Option (Int×Int×Int×Int×Int×AC×AC×Int×Int) :=
  (jT b 0 true ([36,97,114,103,111,110,50]:AC)).bind fun a=>if a.2.2=true then((Iw b a.2.1 (b.length:Int)).bind fun l=>(kJ l ([105,100]:AC)).bind fun i=>if i=true then(kM b a.1 (ax (a.2.1+2)) a.2.2 2) else(if a.2.2=true then((Iw b a.2.1 (b.length:Int)).bind fun k=>(kJ k ([105]:AC)).bind fun h=>if h=true then(kM b a.1 (ax (a.2.1+1)) a.2.2 1) else((jT a.1 a.2.1 a.2.2 ([100]:AC)).bind fun f=>kM b f.1 f.2.1 f.2.2 0)) else((jT a.1 a.2.1 a.2.2 ([100]:AC)).bind fun e=>kM b e.1 e.2.1 e.2.2 0))) else(if a.2.2=true then((Iw b a.2.1 (b.length:Int)).bind fun j=>(kJ j ([105]:AC)).bind fun g=>if g=true then(kM b a.1 (ax (a.2.1+1)) a.2.2 1) else((jT a.1 a.2.1 a.2.2 ([100]:AC)).bind fun d=>kM b d.1 d.2.1 d.2.2 0)) else((jT a.1 a.2.1 a.2.2 ([100]:AC)).bind fun c=>kM b c.1 c.2.1 c.2.2 0))
def kG (a:AC)(d:Bool)(b:AC):A05->Option (A05⊕(AC×Int×Bool))
  | (r_,i)=>if((decide (i < (b.length:Int)))&&(!d))=true then((IJ (!(decide ((a.length:Int)<=r_))) (aP a r_)).bind fun c=>(IJ (!(decide ((a.length:Int)<=r_))) (aP b i)).bind fun e=>if((decide ((a.length:Int)<=r_))||(decide (c≠e)))=true then(Option.map Sum.inr (some (a,r_,true))) else(some (.inl (ax (r_+1),ax (i+1))))) else(Option.map Sum.inr (some (a,r_,d)))
def jB (c:AC)(a:Int)(d:Bool)(b:AC):Option (AC×Int×Bool) :=
  aT (kG c d b) (a,0)
def uu (d:AC)(a:Int)(e:Bool):Option (Int×AC×Int×Bool) :=
  if(e||(decide ((d.length:Int)<=a)))=true then(some (0,d,a,true)) else((aP d a).bind fun c=>if c=100 then(some (0,d,ax (a+1),e)) else((jB d a e ([105]:AC)).bind fun b=>(IJ ((!b.2.2)&&(decide (b.2.1 < (b.1.length:Int)))) (aP b.1 b.2.1)).bind fun f=>if(((!b.2.2)&&(decide (b.2.1 < (b.1.length:Int))))&&(decide (f=100)))=true then(some (2,b.1,ax (b.2.1+1),b.2.2)) else(some (1,b.1,b.2.1,b.2.2))))
def vX (c:UInt8):Option Bool :=
  some ((decide ((48:UInt8)<=c))&&(decide (c<=57)))
def mG (a:AC)(b:Bool)(e:UInt8):(Int×UInt64)->Option ((Int×UInt64)⊕(UInt64×AC×Int×Bool))
  | (aI,n)=>if aI < (a.length:Int) then((aP a aI).bind fun d=>(vX d).bind fun f=>if f=true then((aP a aI).bind fun c=>if((decide ((UInt64.ofNat (e - 48).toNat)=0))||(decide ((((18446744073709551615:UInt64) - (UInt64.ofNat (c - 48).toNat)) / 10) < n)))=true then(Option.map Sum.inr (some (0,a,aI,true))) else(some (.inl (ax (aI+1),((10:UInt64)*n)+(UInt64.ofNat (c - 48).toNat))))) else(Option.map Sum.inr (some (n,a,aI,b)))) else(Option.map Sum.inr (some (n,a,aI,b)))
def mM (b:AC)(a:Int)(d:Bool):Option (UInt64×AC×Int×Bool) :=
  if(d||(decide ((b.length:Int)<=a)))=true then(some (0,b,a,true)) else((aP b a).bind fun c=>(vX c).bind fun f=>if(!f)=true then(some (0,b,a,true)) else((aP b a).bind fun e=>aT (mG b d e) (ax (a+1),UInt64.ofNat (e - 48).toNat)))
def Di (c:UInt8):Int->Option (Int⊕Int)
  | i=>if i < 64 then((aP ([65,66,67,68,69,70,71,72,73,74,75,76,77,78,79,80,81,82,83,84,85,86,87,88,89,90,97,98,99,100,101,102,103,104,105,106,107,108,109,110,111,112,113,114,115,116,117,118,119,120,121,122,48,49,50,51,52,53,54,55,56,57,43,47]:AC) i).bind fun a=>if a=c then(Option.map Sum.inr (some i)) else(some (.inl (ax (i+1))))) else(Option.map Sum.inr (some (-1:Int)))
def yt (c:UInt8):A04 :=
  aT (Di c) (0:Int)
def j_ (b:AC)(a:Int)(d:Bool):Int->Option (Int⊕(AC×AC×Int×Bool))
  | r_=>if((!d)&&(decide (r_ < (b.length:Int))))=true then((aP b r_).bind fun c=>(yt c).bind fun f=>if 0<=f then(some (.inl (ax (r_+1)))) else(Option.map Sum.inr ((Iw b a r_).bind fun e=>some (e,b,r_,d)))) else(Option.map Sum.inr ((Iw b a r_).bind fun g=>some (g,b,r_,d)))
def nR (b:AC)(a:Int)(c:Bool):Option (AC×AC×Int×Bool) :=
  aT (j_ b a c) a
def rM (a:Int)(b:AC)(d c:Int):Option (A09⊕(A09⊕(AC×Int×Int))) :=
  some (.inl (b,d,c,ax (a - 1)))
def zQ (c:AC)(a:Int):A09->Option (A09⊕(A09⊕(AC×Int×Int)))
  | (b1,have_1,uq,gJ)=>if 0<=gJ then((aP c a).bind fun d=>(yt d).bind fun b=>(need (0<=gJ)).bind fun u=>if(ax (have_1+1))=8 then((app b1 ([UInt8.ofInt (ax ((ax (2*uq))+(Int.tmod (TD .i64 b (Int.toNat gJ)) 2)))]:AC) 1).bind fun e=>rM gJ e 0 0) else(rM gJ b1 (ax (have_1+1)) (ax ((ax (2*uq))+(Int.tmod (TD .i64 b (Int.toNat gJ)) 2))))) else(Option.map Sum.inr (some (.inl (b1,have_1,uq,ax (a+1)))))
def zS (a:AC):A09->Option (A09⊕(AC×Int×Int))
  | (b,qf,Ku,i1)=>if i1 < (a.length:Int) then(aT (zQ a i1) (b,qf,Ku,5)) else(Option.map Sum.inr (if Ku≠0 then(some (([]:AC),ax ((a.length:Int) - 1),4)) else(some (b,0,0))))
def Ey (a:AC):Int->Option (Int⊕(AC×Int×Int))
  | i=>if i < (a.length:Int) then((aP a i).bind fun c=>(yt c).bind fun b=>if b < 0 then(Option.map Sum.inr (some (([]:AC),i,4))) else(some (.inl (ax (i+1))))) else(Option.map Sum.inr (if(Int.tmod (a.length:Int) 4)=1 then(some (([]:AC),(a.length:Int),4)) else(aT (zS a) (([]:AC),0,0,0))))
def xy (a:AC):Option (AC×Int×Int) :=
  aT (Ey a) (0:Int)
def Aj (n:UInt64):A04 :=
  if(9223372036854775807:UInt64) < n then(some (-1:Int)) else(some (ax n.toNat))
def DX (q:AC):Option (Int×Int×Int×Int×Int×AC×AC×Int×Int) :=
  (jB q 0 false ([36,97,114,103,111,110,50]:AC)).bind fun j=>(uu j.1 j.2.1 j.2.2).bind fun a=>(jB a.2.1 a.2.2.1 a.2.2.2 ([36,118,61,49,57,36,109,61]:AC)).bind fun n=>(mM n.1 n.2.1 n.2.2).bind fun g=>(jB g.2.1 g.2.2.1 g.2.2.2 ([44,116,61]:AC)).bind fun m=>(mM m.1 m.2.1 m.2.2).bind fun f=>(jB f.2.1 f.2.2.1 f.2.2.2 ([44,112,61]:AC)).bind fun l=>(mM l.1 l.2.1 l.2.2).bind fun b=>(jB b.2.1 b.2.2.1 b.2.2.2 ([36]:AC)).bind fun i=>(nR i.1 i.2.1 i.2.2).bind fun h=>(jB h.2.1 h.2.2.1 h.2.2.2 ([36]:AC)).bind fun c=>(nR c.1 c.2.1 c.2.2).bind fun d=>if(d.2.2.2||(decide (d.2.2.1 < (q.length:Int))))=true then(some (0,0,0,0,0,([]:AC),([]:AC),d.2.2.1,4)) else((xy h.1).bind fun k=>if k.2.2≠0 then(some (0,0,0,0,0,([]:AC),([]:AC),i.2.1,4)) else((xy d.1).bind fun e=>if e.2.2≠0 then(some (0,0,0,0,0,([]:AC),([]:AC),c.2.1,4)) else((Aj g.1).bind fun o=>(Aj f.1).bind fun p=>(Aj b.1).bind fun r=>(vW a.1 o p r (e.1.length:Int) k.1).bind fun s=>if s≠0 then(some (0,0,0,0,0,([]:AC),([]:AC),0,1)) else(some (a.1,o,p,r,(e.1.length:Int),k.1,e.1,0,0)))))
def KW (c b:AC):Int->Option (Int⊕Bool)
  | i=>if i < (c.length:Int) then((aP c i).bind fun d=>(aP b i).bind fun a=>if d≠a then(Option.map Sum.inr (some false)) else(some (.inl (ax (i+1))))) else(Option.map Sum.inr (some true))
def Jv (a b:AC):Option Bool :=
  if(a.length:Int)≠(b.length:Int) then(some false) else(aT (KW a b) 0)
def G_  : Option Bool :=
  (sH ([36,97,114,103,111,110,50,105,100,36,118,61,49,56]:AC)).bind fun a=>some ((decide (a.2.2.2.2.2.2.2.1=13))&&(decide (a.2.2.2.2.2.2.2.2=4)))
def Gf (b c e d f A1v:Int)(A1z:UInt64):Option (Int⊕A0D) :=
  (sW b c e d f (List.replicate (Int.toNat 16) 0)).bind fun a=>if a≠0 then(some (Sum.inl a)) else(if((decide (A1v < 1))||(decide (100 < A1v)))=true then(some (Sum.inl 1)) else(some (Sum.inr (b,c,e,d,f,A1v,A1z,([]:Mp WF)))))
def oZ (a:AC):Option (AC×AC×Bool) :=
  if 0<=(Lib.indexByte a 10) then((Iw a 0 (Lib.indexByte a 10)).bind fun c=>(Iw a (ax ((Lib.indexByte a 10)+(([10]:AC).length:Int))) (a.length:Int)).bind fun b=>some (c,b,true)) else(some (a,([]:AC),false))
def zo (b:AC):Option (AC×AC×Bool) :=
  (oZ b).bind fun a=>some (a.1,a.2.1,a.2.2)
def yK (a:AC):A04 :=
  some (Lib.indexByte a 32)
def qg (c:AC)(a:A02)(i:Int):Option A02 :=
  (aP a i).bind fun x_1=>(Iw (a.set (Int.toNat i) c) 0 (ax (i+1))).bind fun b=>some b
def lY (c:AC)(a:A02)(b:Int):Option A02 :=
  qg c a b
def jL (c:AC):(AC×A02×Int)->Option ((AC×A02×Int)⊕A02)
  | (Tz,a_2,i2)=>if i2 < (ax ((if ax ((c.length:Int)+1) < 4 then ax ((c.length:Int)+1) else 4) - 1)) then((yK Tz).bind fun b=>if b < 0 then(Option.map Sum.inr (lY Tz a_2 i2)) else((Iw Tz 0 (ax (b+0))).bind fun d=>(aP a_2 i2).bind fun aN=>(Iw Tz (ax (b+(([32]:AC).length:Int))) (Tz.length:Int)).bind fun a=>some (.inl (a,a_2.set (Int.toNat i2) d,ax (i2+1))))) else(Option.map Sum.inr (lY Tz a_2 i2))
def uS (a:AC):Option A02 :=
  (need ((0:Int)<=(if ax ((a.length:Int)+1) < 4 then ax ((a.length:Int)+1) else 4)/\((if ax ((a.length:Int)+1) < 4 then ax ((a.length:Int)+1) else 4):Int)<=(if ax ((a.length:Int)+1) < 4 then ax ((a.length:Int)+1) else 4)/\Int.toNat (if ax ((a.length:Int)+1) < 4 then ax ((a.length:Int)+1) else 4)*16<=140737488355328)).bind fun u=>aT (jL a) (a,List.replicate (Int.toNat (if ax ((a.length:Int)+1) < 4 then ax ((a.length:Int)+1) else 4)) ([]:AC),0)
def yu (a:AC):Option A02 :=
  uS a
def xA (a:AC):Option A02 :=
  (yu a).bind fun b=>some b
def oq (a:AC):Int->Option (Int⊕Bool)
  | aN=>if aN < (a.length:Int) then((aP a aN).bind fun c=>if(!((((((decide ((97:UInt8)<=c))&&(decide (c<=122)))||((decide ((48:UInt8)<=c))&&(decide (c<=57))))||(decide (c=95)))||(decide (c=46)))||(decide (c=45))))=true then(Option.map Sum.inr (some false)) else(some (.inl (ax (aN+1))))) else(Option.map Sum.inr (some true))
def yw (a:AC):Option Bool :=
  if((decide ((a.length:Int) < 1))||(decide (32 < (a.length:Int))))=true then(some false) else(aT (oq a) 0)
def Ak (A1v:Int)(c:A02)(p q:AC):Option (AC×AC×Int×UInt64×Bool) :=
  (lZ p 0 true).bind fun a=>(lZ q 0 true).bind fun b=>if(((((!a.2.2.2)||(!b.2.2.2))||(decide (a.2.2.1 < (a.2.1.length:Int))))||(decide (b.2.2.1 < (b.2.1.length:Int))))||(decide ((UInt64.ofInt A1v)<=a.1)))=true then(some (([]:AC),([]:AC),0,0,false)) else((aP c 3).bind fun d=>(sH d).bind fun f=>if f.2.2.2.2.2.2.2.2≠0 then(some (([]:AC),([]:AC),0,0,false)) else((aP c 0).bind fun g=>(aP c 3).bind fun e=>some (g,e,ax a.1.toNat,b.1,true)))
def DY (b:AC)(A1v:Int):Option (AC×AC×Int×UInt64×Bool) :=
  (xA b).bind fun a=>if(a.length:Int)≠4 then(some (([]:AC),([]:AC),0,0,false)) else((aP a 0).bind fun e=>(yw e).bind fun f=>if(!f)=true then(some (([]:AC),([]:AC),0,0,false)) else((aP a 1).bind fun d=>(aP a 2).bind fun c=>Ak A1v a d c))
def Ot (A1v:Int)(a:AC):Unit->Option (Unit⊕(A05⊕A0D))
  | ()=>if a≠([]:AC) then((zo a).bind fun c=>(DY c.1 A1v).bind fun b=>if(((!c.2.2)||(!b.2.2.2.2))||(Op.bytesLess b.1 ([]:AC)||decide (b.1=([]:AC))))=true then(Option.map Sum.inr (some (Sum.inl (1,4)))) else none) else(Option.map Sum.inr (some (Sum.inl (0,0))))
def o9 (A1v:Int)(b:Int×Int×Int×Int×Int×Int×UInt64×(Mp WF)):(AC×(Mp WF)×AC×Int)->Option ((AC×(Mp WF)×AC×Int)⊕(A05⊕A0D))
  | (text1,m_0,A2A,n)=>if text1≠([]:AC) then((zo text1).bind fun c=>(DY c.1 A1v).bind fun a=>if(((!c.2.2)||(!a.2.2.2.2))||(Op.bytesLess a.1 A2A||decide (a.1=A2A)))=true then(Option.map Sum.inr (some (Sum.inl (n,4)))) else(if 1024<=(m_0.length:Int) then(Option.map Sum.inr (some (Sum.inl (n,4)))) else(some (.inl (c.2.1,Dw m_0 a.1 (a.2.1,a.2.2.1,a.2.2.2.1),a.1,ax (n+1)))))) else(Option.map Sum.inr (some (Sum.inr (b.1,b.2.1,b.2.2.1,b.2.2.2.1,b.2.2.2.2.1,b.2.2.2.2.2.1,b.2.2.2.2.2.2.1,m_0))))
def DZ (e f h g i A1v:Int)(A1z:UInt64)(a:AC):Option (A05⊕A0D) :=
  (Gf e f h g i A1v A1z).bind fun d=>(Sum.elim (fun c=>if c≠0 then(some (Sum.inl (0,c))) else(aT (Ot A1v a) ())) (fun b=>if 0≠0 then(some (Sum.inl (0,0))) else(aT (o9 A1v b) (a,b.2.2.2.2.2.2.2,([]:AC),1)))) d
def D5 (b c e d f A1v:Int):A04 :=
  (vW b c e d f (List.replicate (Int.toNat 16) 0)).bind fun a=>if a≠0 then(some a) else(if((decide (A1v < 1))||(decide (100 < A1v)))=true then(some 1) else(some 0))
def qM (a:AC):Int->Option (Int⊕Bool)
  | i=>if i < (a.length:Int) then((aP a i).bind fun c=>(vX c).bind fun b=>if(((((!b)&&((decide (c < 97))||(decide ((122:UInt8) < c))))&&(decide (c≠95)))&&(decide (c≠46)))&&(decide (c≠45)))=true then(Option.map Sum.inr (some false)) else(some (.inl (ax (i+1))))) else(Option.map Sum.inr (some ((decide (1<=(a.length:Int)))&&(decide ((a.length:Int)<=32)))))
def Jw (a:AC):Option Bool :=
  aT (qM a) (0:Int)
def jR (d g f e c b:Int)(a:UInt64)(aQ:Mp WF):Option (Int×Int×Int×Int×Int×Int×UInt64) :=
  some (d,g,f,e,c,b,a)
def o_ (f i h g e d:Int)(c:UInt64)(b:Mp WF):Option (A02×Int×Int×Int×Int×Int×Int×UInt64) :=
  (jR f i h g e d c b).bind fun a=>(need (b.length*16<=140737488355328)).bind fun u=>some (srt (b.map (·.1)),a.1,a.2.1,a.2.2.1,a.2.2.2.1,a.2.2.2.2.1,a.2.2.2.2.2.1,a.2.2.2.2.2.2)
def yL (b d:AC)(a:Int)(c:UInt64):Option AC :=
  (need (b.length+([32]:AC).length<=9223372036854775807)).bind fun u=>(need (-9223372036854775808<=a/\a<=9223372036854775807)).bind fun u1=>(need ((b++([32]:AC)).length+(Lib.itoa a).length<=9223372036854775807)).bind fun u2=>(need (((b++([32]:AC))++(Lib.itoa a)).length+([32]:AC).length<=9223372036854775807)).bind fun u3=>(need ((((b++([32]:AC))++(Lib.itoa a))++([32]:AC)).length+(Lib.decDigits c.toNat).length<=9223372036854775807)).bind fun u4=>(need (((((b++([32]:AC))++(Lib.itoa a))++([32]:AC))++(Lib.decDigits c.toNat)).length+([32]:AC).length<=9223372036854775807)).bind fun u5=>(need ((((((b++([32]:AC))++(Lib.itoa a))++([32]:AC))++(Lib.decDigits c.toNat))++([32]:AC)).length+d.length<=9223372036854775807)).bind fun u6=>(need (((((((b++([32]:AC))++(Lib.itoa a))++([32]:AC))++(Lib.decDigits c.toNat))++([32]:AC))++d).length+([10]:AC).length<=9223372036854775807)).bind fun u7=>some (((((((b++([32]:AC))++(Lib.itoa a))++([32]:AC))++(Lib.decDigits c.toNat))++([32]:AC))++d)++([10]:AC))
def nD (d:Mp WF)(a:(A02×Int×Int×Int×Int×Int×Int×UInt64)):UV->Option (UV⊕(AC×Int×Int×Int×Int×Int×Int×UInt64))
  | (s_,aN)=>if aN < (a.1.length:Int) then((aP a.1 aN).bind fun c=>(some ((oz d c).getD (([]:AC),0,0))).bind fun e_=>(yL c e_.1 e_.2.1 e_.2.2).bind fun b=>(need (s_.length+b.length<=140737488355328)).bind fun u=>some (.inl (s_++b,ax (aN+1)))) else(Option.map Sum.inr (some (s_,a.2.1,a.2.2.1,a.2.2.2.1,a.2.2.2.2.1,a.2.2.2.2.2.1,a.2.2.2.2.2.2.1,a.2.2.2.2.2.2.2)))
def qy (f i h g e d:Int)(c:UInt64)(a:Mp WF):Option (AC×Int×Int×Int×Int×Int×Int×UInt64) :=
  (o_ f i h g e d c a).bind fun b=>aT (nD a b) (([]:AC),0)
def tC (a:Int):Option A0B :=
  if a=1 then(some (64,64,16)) else(if a=2 then(some (32,32,8)) else(some (0,0,0)))
def IY (b:Int):Option A05 :=
  (tC b).bind fun a=>if a.1=0 then(some (0,1)) else(some (a.1,0))
def pg (n lo a:Int):Option Bool :=
  some ((decide (lo<=n))&&(decide (n<=a)))
def Bv  : A04 :=
  some (0:Int)
def xB (d:Int)(f:UInt32)(j g:Int)(e i:AC)(a:A0B)(h:Bool):A04 :=
  if h=true then(some 23) else(if((decide (d=2))&&(decide ((65535:UInt32) < f)))=true then(some 24) else((pg j 0 255).bind fun c=>if(!c)=true then(some 25) else((pg g 0 a.2.1).bind fun b=>if(!b)=true then(some 26) else(if a.2.2 < (e.length:Int) then(some 27) else(if a.2.2 < (i.length:Int) then(some 28) else(Bv))))))
def t_ (c m k l o:Int)(d:UInt64)(a:UInt32)(h f:Int)(e g:AC)(b:A0B)(least:Int):A04 :=
  (pg m 1 b.2.1).bind fun p=>if(!p)=true then(some 20) else((pg k 0 b.2.1).bind fun n=>if(!n)=true then(some 8) else((pg l 0 255).bind fun j=>if(!j)=true then(some 21) else((pg o least 255).bind fun i=>if(!i)=true then(some 22) else(if((decide (a≠0))&&(decide ((4294967296:UInt64)<=d)))=true then(xB c a h f e g b ((decide (a≠0))&&(decide ((4294967296:UInt64)<=d)))) else(xB c a h f e g b (((decide (a=0))&&(decide (c=2)))&&(decide ((281474976710656:UInt64)<=d))))))))
def tH (b g d f i:Int)(ed:UInt32)(j:UInt64)(c:UInt32)(l h:Int)(e k:AC):A04 :=
  (tC b).bind fun a=>if a.2.1=0 then(some 1) else(if c≠0 then(t_ b g d f i j c l h e k a 0) else(t_ b g d f i j c l h e k a 1))
def yx (e:Int):Option A07 :=
  if e=1 then(some ([(1,0,1,([100,105,103,101,115,116]:AC),20),(2,1,1,([107,101,121]:AC),8),(3,2,1,([102,97,110,111,117,116]:AC),21),(4,3,1,([100,101,112,116,104]:AC),22),(5,4,4,([108,101,97,102]:AC),1),(6,8,8,([111,102,102,115,101,116]:AC),23),(7,12,4,([120,111,102]:AC),24),(8,16,1,([110,111,100,101]:AC),25),(9,17,1,([105,110,110,101,114]:AC),26)]:A07)) else((aP ([(1,0,1,([100,105,103,101,115,116]:AC),20),(2,1,1,([107,101,121]:AC),8),(3,2,1,([102,97,110,111,117,116]:AC),21),(4,3,1,([100,101,112,116,104]:AC),22),(5,4,4,([108,101,97,102]:AC),1),(6,8,8,([111,102,102,115,101,116]:AC),23),(7,12,4,([120,111,102]:AC),24),(8,16,1,([110,111,100,101]:AC),25),(9,17,1,([105,110,110,101,114]:AC),26)]:A07) 5).bind fun b=>(aP (([(1,0,1,([100,105,103,101,115,116]:AC),20),(2,1,1,([107,101,121]:AC),8),(3,2,1,([102,97,110,111,117,116]:AC),21),(4,3,1,([100,101,112,116,104]:AC),22),(5,4,4,([108,101,97,102]:AC),1),(6,8,8,([111,102,102,115,101,116]:AC),23),(7,12,4,([120,111,102]:AC),24),(8,16,1,([110,111,100,101]:AC),25),(9,17,1,([105,110,110,101,114]:AC),26)]:A07).set (Int.toNat 5) (b.1,b.2.1,6,b.2.2.2.1,b.2.2.2.2)) 6).bind fun a=>(aP ((([(1,0,1,([100,105,103,101,115,116]:AC),20),(2,1,1,([107,101,121]:AC),8),(3,2,1,([102,97,110,111,117,116]:AC),21),(4,3,1,([100,101,112,116,104]:AC),22),(5,4,4,([108,101,97,102]:AC),1),(6,8,8,([111,102,102,115,101,116]:AC),23),(7,12,4,([120,111,102]:AC),24),(8,16,1,([110,111,100,101]:AC),25),(9,17,1,([105,110,110,101,114]:AC),26)]:A07).set (Int.toNat 5) (b.1,b.2.1,6,b.2.2.2.1,b.2.2.2.2)).set (Int.toNat 6) (a.1,a.2.1,2,a.2.2.2.1,a.2.2.2.2)) 7).bind fun c=>(aP (((([(1,0,1,([100,105,103,101,115,116]:AC),20),(2,1,1,([107,101,121]:AC),8),(3,2,1,([102,97,110,111,117,116]:AC),21),(4,3,1,([100,101,112,116,104]:AC),22),(5,4,4,([108,101,97,102]:AC),1),(6,8,8,([111,102,102,115,101,116]:AC),23),(7,12,4,([120,111,102]:AC),24),(8,16,1,([110,111,100,101]:AC),25),(9,17,1,([105,110,110,101,114]:AC),26)]:A07).set (Int.toNat 5) (b.1,b.2.1,6,b.2.2.2.1,b.2.2.2.2)).set (Int.toNat 6) (a.1,a.2.1,2,a.2.2.2.1,a.2.2.2.2)).set (Int.toNat 7) (c.1,14,c.2.2.1,c.2.2.2.1,c.2.2.2.2)) 8).bind fun d=>some ((((([(1,0,1,([100,105,103,101,115,116]:AC),20),(2,1,1,([107,101,121]:AC),8),(3,2,1,([102,97,110,111,117,116]:AC),21),(4,3,1,([100,101,112,116,104]:AC),22),(5,4,4,([108,101,97,102]:AC),1),(6,8,8,([111,102,102,115,101,116]:AC),23),(7,12,4,([120,111,102]:AC),24),(8,16,1,([110,111,100,101]:AC),25),(9,17,1,([105,110,110,101,114]:AC),26)]:A07).set (Int.toNat 5) (b.1,b.2.1,6,b.2.2.2.1,b.2.2.2.2)).set (Int.toNat 6) (a.1,a.2.1,2,a.2.2.2.1,a.2.2.2.2)).set (Int.toNat 7) (c.1,14,c.2.2.1,c.2.2.2.1,c.2.2.2.2)).set (Int.toNat 8) (d.1,15,d.2.2.1,d.2.2.2.1,d.2.2.2.2)))
def Gy (f b e h:Int)(c:UInt32)(i:UInt64)(d:UInt32)(j g:Int)(cu aH:AC)(a:Int):Option UInt64 :=
  if a=1 then(some (UInt64.ofInt f)) else(if a=2 then(some (UInt64.ofInt b)) else(if a=3 then(some (UInt64.ofInt e)) else(if a=4 then(some (UInt64.ofInt h)) else(if a=5 then(some (UInt64.ofNat c.toNat)) else(if a=6 then(some i) else(if a=7 then(some (UInt64.ofNat d.toNat)) else(if a=8 then(some (UInt64.ofInt j)) else(some (UInt64.ofInt g)))))))))
def Ez (b a:Int)(v:UInt64):UV->A0A
  | (b1,aN)=>if aN < a then((need (0<=ax (8*aN))).bind fun u=>(aP b1 (ax (b+aN))).bind fun x_1=>some (.inl (b1.set (Int.toNat (ax (b+aN))) (UInt8.ofNat (jC v (Int.toNat (ax (8*aN)))).toNat),ax (aN+1)))) else(Option.map Sum.inr (some b1))
def Ha (b:AC)(c a:Int)(v:UInt64):Option AC :=
  aT (Ez c a v) (b,0)
def zT (b:Int)(a:AC):Option (UV⊕UV) :=
  some (.inl (a,ax (b+1)))
def vY (b:Int)(a:AC):Option (UV⊕UV) :=
  zT b a
def vZ (n k m p:Int)(l:UInt32)(r:UInt64)(e:UInt32)(s o:Int)(d h:AC)(a:A0B)(f:A07):UV->Option (UV⊕UV)
  | (b,aN)=>if aN < (f.length:Int) then((aP f aN).bind fun c=>if((decide (c.1=7))&&(decide (e=0)))=true then(vY aN b) else((Gy n k m p l r e s o d h c.1).bind fun j=>(Ha b c.2.1 c.2.2.1 j).bind fun i=>vY aN i)) else(Option.map Sum.inr ((Iw b (ax (a.1 - (ax (2*a.2.2)))) ((Int.toNat a.1:Nat):Int)).bind fun g=>(Iw (lcp b (Int.toNat (ax (a.1 - (ax (2*a.2.2))))) g.length d) (ax (a.1 - a.2.2)) ((Int.toNat a.1:Nat):Int)).bind fun q=>some (lcp (lcp b (Int.toNat (ax (a.1 - (ax (2*a.2.2))))) g.length d) (Int.toNat (ax (a.1 - a.2.2))) q.length h,0)))
def uw (b i d h k:Int)(e:UInt32)(l:UInt64)(g:UInt32)(n j:Int)(f m:AC):Option UV :=
  (tH b i d h k e l g n j f m).bind fun c=>if c≠0 then(some (([]:AC),c)) else((tC b).bind fun a=>(need ((0:Int)<=a.1/\(a.1:Int)<=a.1/\Int.toNat a.1*1<=140737488355328)).bind fun u=>(yx b).bind fun o=>aT (vZ i d h k e l g n j f m a o) (List.replicate (Int.toNat a.1) 0,0))
def Lu  : Option (Vec UInt64 8) :=
  some (⟨[7640891576956012808,13503953896175478587,4354685564936845355,11912009170470909681,5840696475078001361,11170449401992604703,2270897969802886507,6620516959819538809],rfl⟩:Vec UInt64 8)
def Jy (b:AC)(a n:Int):(UInt64×Int)->Option ((UInt64×Int)⊕(UInt64×Int))
  | (w_,aN)=>if aN < n then((aP b (ax (a+aN))).bind fun c=>(need (0<=ax (8*aN))).bind fun u=>some (.inl (w_|||(G5 (UInt64.ofNat c.toNat) (Int.toNat (ax (8*aN)))),ax (aN+1)))) else(Option.map Sum.inr (some (w_,0)))
def D6 (b:AC)(a n:Int):Option (UInt64×Int) :=
  if a < 0 then(some (0,1)) else(if((decide ((b.length:Int) < a))||(decide ((ax ((b.length:Int) - a)) < n)))=true then(some (0,3)) else(aT (Jy b a n) (0,0)))
def mQ (b:AC)(a:Int):Option (UInt64×Int) :=
  (D6 b a 8).bind fun c=>some (c.1,c.2)
def IA (a:AC):(Vec UInt64 8×Int)->Option ((Vec UInt64 8×Int)⊕(Vec UInt64 8×Int))
  | (h,aN)=>if aN < 8 then((mQ a (ax (8*aN))).bind fun c=>(aP h.l aN).bind fun b=>(aP h.l aN).bind fun kY=>(some (oP h aN (b^^^c.1))).bind fun v=>some (.inl (v,ax (aN+1)))) else(Option.map Sum.inr (some (h,0)))
def EC (a:AC):Option (Vec UInt64 8×Int) :=
  if(a.length:Int)≠64 then(some ((Vec.rep 8 ((0:UInt64):UInt64)),1)) else((Lu).bind fun b=>aT (IA a) (b,0))
def Y_ (b:AC)(n:Int):A04 :=
  if(b.length:Int) < n then(some 3) else(if n < (b.length:Int) then(some 2) else(some 0))
def XW (b:AC)(a:Int):Option (UInt32×Int) :=
  (D6 b a 4).bind fun c=>some (UInt32.ofNat c.1.toNat,c.2)
def UQ (c:List UInt32)(b:AC):(List UInt32×Int)->Option ((List UInt32×Int)⊕(List UInt32))
  | (zU,aN)=>if aN < (c.length:Int) then((XW b (ax (4*aN))).bind fun a=>(aP zU aN).bind fun x_1=>some (.inl (zU.set (Int.toNat aN) a.1,ax (aN+1)))) else(Option.map Sum.inr (some zU))
def Za (a:List UInt32)(b:AC):Option (List UInt32) :=
  aT (UQ a b) (a,0)
def m_mixs_IV  : Option (Vec UInt32 8) :=
  some (⟨[1779033703,3144134277,1013904242,2773480762,1359893119,2600822924,528734635,1541459225],rfl⟩:Vec UInt32 8)
def UR (c:(List UInt32)):(Vec UInt32 8×Int)->Option ((Vec UInt32 8×Int)⊕(Vec UInt32 8×Int))
  | (h,aN)=>if aN < 8 then((aP h.l aN).bind fun b=>(aP (Vec.of 8 c).l aN).bind fun a=>(aP h.l aN).bind fun mX=>(some (oP h aN (b^^^a))).bind fun v=>some (.inl (v,ax (aN+1)))) else(Option.map Sum.inr (some (h,0)))
def m_mixs_Start (a:AC):Option (Vec UInt32 8×Int) :=
  (Y_ a 32).bind fun b=>if b≠0 then(some ((Vec.rep 8 ((0:UInt32):UInt32)),b)) else((Za ((Vec.rep 8 0).l) a).bind fun d=>(m_mixs_IV).bind fun c=>aT (UR d) (c,0))
def IZ (c:Int)(a:AC):Option (Vec UInt64 8×AC) :=
  if c=1 then((EC a).bind fun b=>some (b.1,([]:AC))) else none
def xC (a:Int):A04 :=
  if a=1 then(some 128) else(some 64)
def zq (b:AC)(n:Int):Option AC :=
  (need ((0:Int)<=(0:Int)/\((0:Int):Int)<=n/\Int.toNat n*1<=140737488355328)).bind fun u=>(app (List.replicate (Int.toNat 0) 0) b 1).bind fun c=>(appz c (ax (n - (b.length:Int))) 0 1).bind fun a=>some a
def DC (d c n:UInt64):Option (UInt64×UInt64×Bool) :=
  (add64 d n 0).bind fun a=>(add64 c 0 a.2).bind fun b=>some (a.1,b.1,decide (b.2=1))
def Dj (b:AC):(Vec UInt64 16×Int)->Option ((Vec UInt64 16×Int)⊕(Vec UInt64 16×Int))
  | (m_,aN)=>if aN < 16 then((mQ b (ax (8*aN))).bind fun a=>(aP m_.l aN).bind fun jE=>(some (oP m_ aN a.1)).bind fun v=>some (.inl (v,ax (aN+1)))) else(Option.map Sum.inr (some (m_,0)))
def ED (b:AC):Option (Vec UInt64 16×Int) :=
  if(b.length:Int)≠128 then(some ((Vec.rep 16 0),1)) else(aT (Dj b) ((Vec.rep 16 0),0))
def EE (v4:Vec UInt64 16):Option (Vec UInt64 16) :=
  some v4
def EF (a:Bool)(v2:Vec UInt64 16):Option (Vec UInt64 16) :=
  if a=true then((aP v2.l 15).bind fun b=>(aP v2.l 15).bind fun tZ=>(some (oP v2 15 (18446744073709551615^^^b))).bind fun v5=>EE v5) else(EE v2)
def Kv (h:Vec UInt64 8)(g f:UInt64)(A2A a:Bool):Option (Vec UInt64 16) :=
  (Iw ((Vec.rep 16 0).l) 0 8).bind fun b=>(Lu).bind fun d=>(Iw ((vcp (Vec.rep 16 0) 0 b.length h.l).l) 8 (16:Int)).bind fun e=>(aP (vcp (vcp (Vec.rep 16 0) 0 b.length h.l) (Int.toNat 8) e.length d.l).l 12).bind fun k=>(aP (vcp (vcp (Vec.rep 16 0) 0 b.length h.l) (Int.toNat 8) e.length d.l).l 12).bind fun x_1=>(some (oP (vcp (vcp (Vec.rep 16 0) 0 b.length h.l) (Int.toNat 8) e.length d.l) 12 (k^^^g))).bind fun v=>(aP v.l 13).bind fun j=>(aP v.l 13).bind fun kY=>(some (oP v 13 (j^^^f))).bind fun c=>if A2A=true then((aP c.l 14).bind fun i=>(aP c.l 14).bind fun ni=>(some (oP c 14 (18446744073709551615^^^i))).bind fun v3=>EF a v3) else(EF a c)
def I4 (a:Int):Option (Vec Int 16) :=
  (aP (⟨[(⟨[0,1,2,3,4,5,6,7,8,9,10,11,12,13,14,15],rfl⟩:Vec Int 16),(⟨[14,10,4,8,9,15,13,6,1,12,0,2,11,7,5,3],rfl⟩:Vec Int 16),(⟨[11,8,12,0,5,2,15,13,10,14,3,6,7,1,9,4],rfl⟩:Vec Int 16),(⟨[7,9,3,1,13,12,11,14,2,6,5,10,4,0,15,8],rfl⟩:Vec Int 16),(⟨[9,0,5,7,2,4,10,15,14,1,11,12,6,8,3,13],rfl⟩:Vec Int 16),(⟨[2,12,6,10,0,11,8,3,4,13,7,5,15,14,1,9],rfl⟩:Vec Int 16),(⟨[12,5,1,15,14,13,4,10,0,7,6,3,9,2,8,11],rfl⟩:Vec Int 16),(⟨[13,11,7,14,12,1,3,9,5,0,15,4,8,6,2,10],rfl⟩:Vec Int 16),(⟨[6,15,14,9,11,3,0,8,12,2,13,7,1,4,10,5],rfl⟩:Vec Int 16),(⟨[10,2,8,4,7,6,1,5,15,11,9,14,3,12,13,0],rfl⟩:Vec Int 16)],rfl⟩:Vec (Vec Int 16) 10).l (Int.tmod (ax ((Int.tmod a 10)+10)) 10)).bind fun b=>some b
def Gz  : Option (Vec (Vec Int 4) 8) :=
  some (⟨[(⟨[0,4,8,12],rfl⟩:Vec Int 4),(⟨[1,5,9,13],rfl⟩:Vec Int 4),(⟨[2,6,10,14],rfl⟩:Vec Int 4),(⟨[3,7,11,15],rfl⟩:Vec Int 4),(⟨[0,5,10,15],rfl⟩:Vec Int 4),(⟨[1,6,11,12],rfl⟩:Vec Int 4),(⟨[2,7,8,13],rfl⟩:Vec Int 4),(⟨[3,4,9,14],rfl⟩:Vec Int 4)],rfl⟩:Vec (Vec Int 4) 8)
def iL (a:UInt64)(b:Int):Option UInt64 :=
  some ((G5 a (((UInt64.ofInt b)&&&63).toNat))|||(jC a (((64:UInt64) - ((UInt64.ofInt b)&&&63)).toNat)))
def He (v:Vec UInt64 16)(p:Vec Int 4)(m j:UInt64):Option (Vec UInt64 16) :=
  (aP p.l 0).bind fun d=>(aP p.l 1).bind fun c=>(aP p.l 2).bind fun b=>(aP p.l 3).bind fun a=>(aP v.l d).bind fun u=>(aP v.l c).bind fun q=>(aP v.l d).bind fun Dz=>(some (oP v d (u+(q+m)))).bind fun i=>(aP i.l a).bind fun s=>(aP i.l d).bind fun n=>(iL (s^^^n) (-32:Int)).bind fun r=>(aP i.l a).bind fun l9=>(some (oP i a r)).bind fun v2=>(aP v2.l b).bind fun t=>(aP v2.l a).bind fun w=>(aP v2.l b).bind fun MM=>(some (oP v2 b (t+w))).bind fun v3=>(aP v3.l c).bind fun k=>(aP v3.l b).bind fun G=>(iL (k^^^G) (-24:Int)).bind fun z=>(aP v3.l c).bind fun Rt=>(some (oP v3 c z)).bind fun v4=>(aP v4.l d).bind fun F=>(aP v4.l c).bind fun E=>(aP v4.l d).bind fun x_20=>(some (oP v4 d (F+(E+j)))).bind fun v5=>(aP v5.l a).bind fun D=>(aP v5.l d).bind fun B=>(iL (D^^^B) (-16:Int)).bind fun y=>(aP v5.l a).bind fun x_23=>(some (oP v5 a y)).bind fun h=>(aP h.l b).bind fun C=>(aP h.l a).bind fun A=>(aP h.l b).bind fun x_26=>(some (oP h b (C+A))).bind fun g=>(aP g.l c).bind fun f=>(aP g.l b).bind fun e=>(iL (f^^^e) (-63:Int)).bind fun x=>(aP g.l c).bind fun x_29=>(some (oP g c x)).bind fun o=>some o
def Jz (a:Vec UInt64 16)(b:(Vec Int 16))(i:(Vec (Vec Int 4) 8)):(Vec UInt64 16×Int)->Option ((Vec UInt64 16×Int)⊕(Vec UInt64 16×Vec UInt64 16))
  | (v1,aN)=>if aN < 8 then((aP i.l aN).bind fun g=>(aP b.l (ax (2*aN))).bind fun f=>(aP a.l f).bind fun e=>(aP b.l (ax ((ax (2*aN))+1))).bind fun d=>(aP a.l d).bind fun c=>(He v1 g e c).bind fun h=>some (.inl (h,ax (aN+1)))) else(Option.map Sum.inr (some (v1,a)))
def Hg (v c:Vec UInt64 16)(a:Int):Option (Vec UInt64 16×Vec UInt64 16) :=
  (I4 a).bind fun b=>(Gz).bind fun d=>aT (Jz c b d) (v,0)
def Kw (v:Vec UInt64 16):(Vec UInt64 8×Int)->Option ((Vec UInt64 8×Int)⊕(Vec UInt64 8))
  | (h1,x_1)=>if x_1 < 8 then((aP h1.l x_1).bind fun d=>(aP v.l x_1).bind fun c=>(aP v.l (ax (x_1+8))).bind fun b=>(aP h1.l x_1).bind fun ni=>(some (oP h1 x_1 (d^^^(c^^^b)))).bind fun a=>some (.inl (a,ax (x_1+1)))) else(Option.map Sum.inr (some h1))
def Kz (h:Vec UInt64 8):(Vec UInt64 16×Vec UInt64 16×Int)->Option ((Vec UInt64 16×Vec UInt64 16×Int)⊕(Vec UInt64 8))
  | (zU,v,aN)=>if aN < 12 then((Hg v zU aN).bind fun a=>some (.inl (a.2,a.1,ax (aN+1)))) else(Option.map Sum.inr (aT (Kw v) (h,0)))
def Ou (h:Vec UInt64 8)(e:Vec UInt64 16)(d c:UInt64)(A2A a:Bool):Option (Vec UInt64 8) :=
  (Kv h d c A2A a).bind fun b=>aT (Kz h) (e,b,0)
def zt (h:Vec UInt64 8)(b:AC)(f e:UInt64)(A2A a:Bool):Option (Vec UInt64 8) :=
  (ED b).bind fun c=>(Ou h c.1 f e A2A a).bind fun d=>some d
def kC (c:Int)(a:AC)(i:Vec UInt64 8)(e d:UInt64)(b:AC):Option ((Vec UInt64 8×UInt64×UInt64×AC×AC)⊕(Vec UInt64 8×UInt64×UInt64×AC×Int)) :=
  (Iw a 0 (if ax (c - (b.length:Int)) < (a.length:Int) then ax (c - (b.length:Int)) else(a.length:Int))).bind fun h=>(app b h 1).bind fun g=>(Iw a (if ax (c - (b.length:Int)) < (a.length:Int) then ax (c - (b.length:Int)) else(a.length:Int)) (a.length:Int)).bind fun f=>some (.inl (i,e,d,g,f))
def sK (a:Int):(Vec UInt64 8×UInt64×UInt64×AC×AC)->Option ((Vec UInt64 8×UInt64×UInt64×AC×AC)⊕(Vec UInt64 8×UInt64×UInt64×AC×Int))
  | (aN,ni,oG,tZ,b1)=>if 0 < (b1.length:Int) then(if(tZ.length:Int)=a then((DC ni oG (UInt64.ofInt a)).bind fun b=>(zt aN tZ b.1 b.2.1 false false).bind fun d=>(Iw tZ 0 0).bind fun c=>kC a b1 d b.1 b.2.1 c) else(kC a b1 aN ni oG tZ)) else(Option.map Sum.inr (some (aN,ni,oG,tZ,a)))
def lQ (a:Vec UInt64 8)(e d:UInt64)(c:AC)(f:Int)(b:AC):Option (Vec UInt64 8×UInt64×UInt64×AC×Int) :=
  aT (sK f) (a,e,d,c,b)
def v_ (b f:Int)(e d:AC)(Gg:Bool)(uf:UInt64):Option (Int×Int×AC×AC×Vec UInt64 8×UInt64×UInt64×AC×Int) :=
  (IZ b e).bind fun c=>if 0 < (d.length:Int) then((xC b).bind fun h=>(zq d h).bind fun g=>(lQ c.1 0 0 c.2 128 g).bind fun a=>some (b,f,e,d,a.1,a.2.1,a.2.2.1,a.2.2.2.1,a.2.2.2.2)) else(some (b,f,e,d,c.1,0,0,c.2,128))
def KA (e:Int)(d:AC)(c:Int)(key:AC):Option (Int×Int×AC×AC×Vec UInt64 8×UInt64×UInt64×AC×Int) :=
  (app ([]:AC) d 1).bind fun b=>(app ([]:AC) key 1).bind fun f=>(v_ e c b f false 0).bind fun a=>some (a.1,a.2.1,a.2.2.1,a.2.2.2.1,a.2.2.2.2.1,a.2.2.2.2.2.1,a.2.2.2.2.2.2.1,a.2.2.2.2.2.2.2.1,a.2.2.2.2.2.2.2.2)
def MN (c e d i k:Int)(f:UInt32)(l:UInt64)(h:UInt32)(n j:Int)(g m key:AC):Option (Int⊕(Int×Int×AC×AC×Vec UInt64 8×UInt64×UInt64×AC×Int)) :=
  (uw c e d i k f l h n j g m).bind fun b=>if b.2≠0 then(some (Sum.inl b.2)) else(if((decide ((key.length:Int)≠0))&&(decide ((key.length:Int)≠d)))=true then(some (Sum.inl 8)) else((KA c b.1 e key).bind fun a=>some (Sum.inr (a.1,a.2.1,a.2.2.1,a.2.2.2.1,a.2.2.2.2.1,a.2.2.2.2.2.1,a.2.2.2.2.2.2.1,a.2.2.2.2.2.2.2.1,a.2.2.2.2.2.2.2.2))))
def Bz (a b:Int)(g f:AC)(i:Bool)(c:UInt64)(h:Vec UInt64 8)(e d:UInt64)(j:AC)(k:Int):Option (Vec UInt64 8×UInt64×UInt64×AC×Int×Int×Int×AC×AC×Bool×UInt64) :=
  some (h,e,d,j,k,a,b,g,f,i,c)
def EH (a:UInt64):UV->A0A
  | (b,aN)=>if aN < 8 then((need (0<=ax (8*aN))).bind fun u=>(aP b aN).bind fun x_1=>some (.inl (b.set (Int.toNat aN) (UInt8.ofNat (jC a (Int.toNat (ax (8*aN)))).toNat),ax (aN+1)))) else(Option.map Sum.inr (some b))
def xE (a:UInt64):Option AC :=
  aT (EH a) (List.replicate (Int.toNat 8) 0,0)
def IB (h:Vec UInt64 8):UV->A0A
  | (b,aN)=>if aN < 8 then((aP h.l aN).bind fun a=>(xE a).bind fun c=>(app b c 1).bind fun d=>some (.inl (d,ax (aN+1)))) else(Option.map Sum.inr (some b))
def EI (h:Vec UInt64 8):Option AC :=
  aT (IB h) (List.replicate (Int.toNat 0) 0,0)
def p_ (a:Vec UInt64 8)(f e:UInt64)(c:AC)(d:Int)(b:Bool)(i h:UInt64):Option (AC×Vec UInt64 8×UInt64×UInt64×AC×Int) :=
  (zq c d).bind fun k=>(zt a k i h true b).bind fun j=>(EI j).bind fun g=>some (g,a,f,e,c,d)
def pq (b:Vec UInt64 8)(f e:UInt64)(c:AC)(g:Int)(a:Bool):Option (AC×Vec UInt64 8×UInt64×UInt64×AC×Int) :=
  (DC f e (UInt64.ofInt (c.length:Int))).bind fun d=>p_ b f e c g a d.1 d.2.1
def yN (d e:Int)(j i:AC)(m:Bool)(f:UInt64)(l:Vec UInt64 8)(h g:UInt64)(n:AC)(o A1v:Int):Option (AC×Int×Vec UInt64 8×UInt64×UInt64×AC×Int×Int×Int×AC×AC×Bool×UInt64) :=
  (Bz d e j i m f l h g n o).bind fun a=>if A1v < 1 then(some (([]:AC),1,a.1,a.2.1,a.2.2.1,a.2.2.2.1,a.2.2.2.2.1,a.2.2.2.2.2.1,a.2.2.2.2.2.2.1,a.2.2.2.2.2.2.2.1,a.2.2.2.2.2.2.2.2.1,a.2.2.2.2.2.2.2.2.2.1,a.2.2.2.2.2.2.2.2.2.2)) else((xC a.2.2.2.2.2.1).bind fun k=>if(ax (Int.tdiv k 2)) < A1v then(some (([]:AC),1,a.1,a.2.1,a.2.2.1,a.2.2.2.1,a.2.2.2.2.1,a.2.2.2.2.2.1,a.2.2.2.2.2.2.1,a.2.2.2.2.2.2.2.1,a.2.2.2.2.2.2.2.2.1,a.2.2.2.2.2.2.2.2.2.1,a.2.2.2.2.2.2.2.2.2.2)) else((pq a.1 a.2.1 a.2.2.1 a.2.2.2.1 a.2.2.2.2.1 a.2.2.2.2.2.2.2.2.2.1).bind fun c=>(Iw c.1 0 A1v).bind fun b=>(need (A1v<=A1v/\A1v<=(c.1.length:Int))).bind fun u=>some (b,0,c.2.1,c.2.2.1,c.2.2.2.1,c.2.2.2.2.1,c.2.2.2.2.2,a.2.2.2.2.2.1,a.2.2.2.2.2.2.1,a.2.2.2.2.2.2.2.1,a.2.2.2.2.2.2.2.2.1,a.2.2.2.2.2.2.2.2.2.1,a.2.2.2.2.2.2.2.2.2.2)))
def wo (h n i m p:Int)(j:UInt32)(q:UInt64)(l:UInt32)(s o:Int)(k r key:AC)(A2A:Bool)(d:Int)(c:AC):Option UV :=
  (MN h n i m p j q l s o k r key).bind fun g=>(Sum.elim (fun f=>if f≠0 then(some (([]:AC),f)) else none) (fun a=>if 0≠0 then(some (([]:AC),0)) else((lQ a.2.2.2.2.1 a.2.2.2.2.2.1 a.2.2.2.2.2.2.1 a.2.2.2.2.2.2.2.1 a.2.2.2.2.2.2.2.2 c).bind fun b=>(yN a.1 a.2.1 a.2.2.1 a.2.2.2.1 A2A 0 b.1 b.2.1 b.2.2.1 b.2.2.2.1 b.2.2.2.2 d).bind fun e=>some (e.1,e.2.1)))) g
def I5 (b n:Int)(key aO c a:AC):Option UV :=
  (IY b).bind fun f=>if f.2≠0 then(some (([]:AC),1)) else((tH b n (key.length:Int) 1 1 0 0 0 0 0 aO c).bind fun e=>if e≠0 then(some (([]:AC),e)) else((wo b n (key.length:Int) 1 1 0 0 0 0 0 aO c key false n a).bind fun d=>some (d.1,d.2)))
def uz (a:Int):A04 :=
  if a=1 then(some 64) else(if a=2 then(some 32) else(some 0))
def kH (a g e f d:Int)(ed:UInt32)(i:UInt64)(c:UInt32)(j h:Int)(k l:AC):A04 :=
  (uz a).bind fun b=>if b=0 then(some 1) else(if((decide (g < 1))||(decide (b < g)))=true then(some 20) else(if((decide (e < 0))||(decide (b < e)))=true then(some 8) else(if((decide (f < 0))||(decide (255 < f)))=true then(some 21) else(if(((decide (d < 0))||(decide (255 < d)))||((decide (d=0))&&(decide (c=0))))=true then(some 22) else(if(((decide (c≠0))&&(decide ((4294967295:UInt64) < i)))||(((decide (c=0))&&(decide (a=2)))&&(decide ((281474976710655:UInt64) < i))))=true then(some 23) else(if((decide (a=2))&&(decide ((65535:UInt32) < c)))=true then(some 24) else(if((decide (j < 0))||(decide (255 < j)))=true then(some 25) else(if((decide (h < 0))||(decide (b < h)))=true then(some 26) else(if(ax (Int.tdiv b 4)) < (k.length:Int) then(some 27) else(if(ax (Int.tdiv b 4)) < (l.length:Int) then(some 28) else(some 0)))))))))))
def Am (a:Int):A04 :=
  if a=1 then(some 128) else(some 64)
def EJ (i:Int)(a:AC):A0A :=
  some (.inl (a,ax (i+1)))
def Ap (b:AC)(i:Int)(a:UInt8):A0A :=
  (app b ([a]:AC) 1).bind fun c=>EJ i c
def Aq (a:Int)(key:AC):UV->A0A
  | (b,i)=>(Am a).bind fun c=>if i < c then(if i < (key.length:Int) then((aP key i).bind fun d=>Ap b i d) else(Ap b i 0)) else(Option.map Sum.inr (some b))
def D7 (a:Int)(key:AC):Option AC :=
  if(key.length:Int)=0 then(some ([]:AC)) else(aT (Aq a key) (([]:AC),0))
def PD (a g b f i:Int)(d:UInt32)(j:UInt64)(e:UInt32)(k h:Int)(l n key:AC):Option (Int⊕(Int×Int×Int×Int×Int×UInt32×UInt64×UInt32×Int×Int×Vec UInt64 16×AC)) :=
  (kH a g b f i d j e k h l n).bind fun c=>if c≠0 then(some (Sum.inl c)) else(if((decide ((key.length:Int)≠0))&&(decide ((key.length:Int)≠b)))=true then(some (Sum.inl 8)) else((D7 a key).bind fun m=>some (Sum.inr (a,g,b,f,i,d,j,e,k,h,(Vec.rep 16 0),m))))
def DD (a:Int):A04 :=
  if a=1 then(some 64) else(some 32)
def xk (e o h n k:Int)(l:UInt32)(m:UInt64)(g:UInt32)(p j:Int)(c:Bool)(d:Vec UInt64 16)(a:Bool)(t s f:UInt64)(b:AC):UV->Option (UV⊕(Int×Int×Int×Int×Int×UInt32×UInt64×UInt32×Int×Int×Bool×Vec UInt64 16×Bool×UInt64×UInt64×AC×UInt64))
  | (n0,i)=>if i < (b.length:Int) then((aP b i).bind fun r=>(app n0 ([r]:AC) 1).bind fun q=>some (.inl (q,ax (i+1)))) else(Option.map Sum.inr (some (e,o,h,n,k,l,m,g,p,j,c,d,a,t,s,n0,f+(UInt64.ofInt (b.length:Int)))))
def xG (f o i n k:Int)(l:UInt32)(m:UInt64)(h:UInt32)(p j:Int)(kQ iq zV:AC)(d:Bool)(e:Vec UInt64 16)(c:Bool)(r q:UInt64)(a:AC)(g:UInt64)(b:AC):Option (Int×Int×Int×Int×Int×UInt32×UInt64×UInt32×Int×Int×Bool×Vec UInt64 16×Bool×UInt64×UInt64×AC×UInt64) :=
  aT (xk f o i n k l m h p j d e c r q g b) (a,0)
def QB (a:Int):A04 :=
  (uz a).bind fun b=>some b
def KC (b a:Int):Option A05 :=
  if((decide (1<=a))&&(decide (a<=4)))=true then(some (ax (a - 1),1)) else(if a=5 then(some (4,4)) else(if((decide (a=6))&&(decide (b=1)))=true then(some (8,8)) else(if a=6 then(some (8,6)) else(if((decide (a=7))&&(decide (b=1)))=true then(some (12,4)) else(if a=7 then(some (12,2)) else(if((decide (a=8))&&(decide (b=1)))=true then(some (16,1)) else(if a=8 then(some (14,1)) else(if((decide (a=9))&&(decide (b=1)))=true then(some (17,1)) else(if a=9 then(some (15,1)) else(some (0,0)))))))))))
def I7 (a n:Int)(v:UInt64):UV->A0A
  | (b1,i)=>if i < n then((aP b1 (ax (a+i))).bind fun aN=>some (.inl (b1.set (Int.toNat (ax (a+i))) (UInt8.ofNat (jC v (((8:UInt64)*(UInt64.ofInt i)).toNat)).toNat),ax (i+1)))) else(Option.map Sum.inr (some b1))
def LC (b:AC)(a n:Int)(v:UInt64):Option AC :=
  aT (I7 a n v) (b,0)
def Dk (f:Int)(a:AC):Option (UV⊕UV) :=
  some (.inl (a,ax (f+1)))
def yP (f:Int)(a:AC):Option (UV⊕UV) :=
  Dk f a
def yQ (b:AC)(a:Int):UV->Option (UV⊕UV)
  | (b4,i1)=>if i1 < (b.length:Int) then((aP b i1).bind fun c=>(aP b4 (ax ((ax (3*(ax (Int.tdiv a 4))))+i1))).bind fun ni=>some (.inl (b4.set (Int.toNat (ax ((ax (3*(ax (Int.tdiv a 4))))+i1))) c,ax (i1+1)))) else(Option.map Sum.inr (some (b4,0)))
def yR (b d:AC)(a:Int):UV->Option (UV⊕UV)
  | (b3,i)=>if i < (b.length:Int) then((aP b i).bind fun c=>(aP b3 (ax ((ax (2*(ax (Int.tdiv a 4))))+i))).bind fun kY=>some (.inl (b3.set (Int.toNat (ax ((ax (2*(ax (Int.tdiv a 4))))+i))) c,ax (i+1)))) else(Option.map Sum.inr (aT (yQ d a) (b3,0)))
def yS (a l h k n:Int)(i:UInt32)(o:UInt64)(c:UInt32)(r m:Int)(j q:AC):UV->Option (UV⊕UV)
  | (b,f)=>if f<=9 then(if((decide (f=7))&&(decide (c=0)))=true then(yP f b) else((KC a f).bind fun d=>(aP ([UInt64.ofInt l,UInt64.ofInt h,UInt64.ofInt k,UInt64.ofInt n,UInt64.ofNat i.toNat,o,UInt64.ofNat c.toNat,UInt64.ofInt r,UInt64.ofInt m]:A01) (ax (f - 1))).bind fun p=>(LC b d.1 d.2 p).bind fun g=>yP f g)) else(Option.map Sum.inr ((uz a).bind fun e=>aT (yR j q e) (b,0)))
def pz (a i d h k:Int)(e:UInt32)(l:UInt64)(g:UInt32)(n j:Int)(f m:AC):Option UV :=
  (kH a i d h k e l g n j f m).bind fun c=>if c≠0 then(some (([]:AC),c)) else((QB a).bind fun b=>(need ((0:Int)<=b/\(b:Int)<=b/\Int.toNat b*1<=140737488355328)).bind fun u=>aT (yS a i d h k e l g n j f m) (List.replicate (Int.toNat b) 0,1))
def KX (b:AC)(a:Int):(UInt64×Int)->Option ((UInt64×Int)⊕(UInt64×Int))
  | (w_,i)=>if 0<=i then((aP b (ax (a+i))).bind fun c=>some (.inl ((w_*256)+(UInt64.ofNat c.toNat),ax (i - 1)))) else(Option.map Sum.inr (some (w_,0)))
def wV (b:AC)(a n:Int):Option (UInt64×Int) :=
  if a < 0 then(some (0,1)) else(if((decide ((b.length:Int) < a))||(decide ((ax ((b.length:Int) - a)) < n)))=true then(some (0,3)) else(aT (KX b a) (0,ax (n - 1))))
def Ov (i:Int):Option UInt64 :=
  (aP (⟨[7640891576956012808,13503953896175478587,4354685564936845355,11912009170470909681,5840696475078001361,11170449401992604703,2270897969802886507,6620516959819538809],rfl⟩:Vec UInt64 8).l (Int.tmod i 8)).bind fun a=>some a
def EK (a:AC):(Vec UInt64 8×Int)->Option ((Vec UInt64 8×Int)⊕(Vec UInt64 8×Int))
  | (h,i)=>if i < 8 then((wV a (ax (8*i)) 8).bind fun b=>(Ov i).bind fun c=>(aP h.l i).bind fun aN=>(some (oP h i (c^^^b.1))).bind fun v=>some (.inl (v,ax (i+1)))) else(Option.map Sum.inr (some (h,0)))
def Ho (a:AC):Option (Vec UInt64 8×Int) :=
  if(a.length:Int)≠64 then(some ((Vec.rep 8 0),1)) else(aT (EK a) ((Vec.rep 8 0),0))
def xn (e q j p m:Int)(n:UInt32)(o:UInt64)(g:UInt32)(r k:Int)(c:Bool)(d:Vec UInt64 16)(b:Bool)(w u:UInt64)(a:AC)(f:UInt64)(t:(Vec UInt64 8×Int)):(Vec UInt64 16×Int)->Option ((Vec UInt64 16×Int)⊕(Vec UInt64 16×Int×Int×Int×Int×Int×UInt32×UInt64×UInt32×Int×Int×Bool×Vec UInt64 16×Bool×UInt64×UInt64×AC×UInt64))
  | (h,i)=>if i < 8 then((aP t.1.l i).bind fun s=>(aP h.l i).bind fun Hf=>(some (oP h i s)).bind fun v=>some (.inl (v,ax (i+1)))) else(Option.map Sum.inr (some (h,e,q,j,p,m,n,o,g,r,k,c,d,b,w,u,a,f)))
def ug (a k e j g:Int)(h:UInt32)(i:UInt64)(d:UInt32)(l f:Int)(s t zV:AC)(n:Bool)(c:Vec UInt64 16)(b:Bool)(q p:UInt64)(m:AC)(o:UInt64):Option (Vec UInt64 16×Int×Int×Int×Int×Int×UInt32×UInt64×UInt32×Int×Int×Bool×Vec UInt64 16×Bool×UInt64×UInt64×AC×UInt64) :=
  if b=true then(some (c,a,k,e,j,g,h,i,d,l,f,n,c,b,q,p,m,o)) else((pz a k e j g h i d l f s t).bind fun r=>if a=1 then((Ho r.1).bind fun u=>aT (xn a k e j g h i d l f n c b q p m o u) ((Vec.rep 16 0),0)) else none)
def Gh (lo a n:UInt64):Option (UInt64×UInt64×Bool) :=
  if lo<=(lo+n) then(some (lo+n,a,false)) else(some (lo+n,a+1,decide ((a+1)=0)))
def I8 (i:Int)(a:AC):A0A :=
  some (.inl (a,ax (i+1)))
def EL (b:AC)(i:Int)(c:UInt8):A0A :=
  (app b ([c]:AC) 1).bind fun a=>I8 i a
def EM (b:AC)(c a:Int):UV->A0A
  | (out,i)=>if i < a then(if(ax (c+i)) < (b.length:Int) then((aP b (ax (c+i))).bind fun d=>EL out i d) else(EL out i 0)) else(Option.map Sum.inr (some out))
def Jn (b:AC)(c a:Int):Option AC :=
  aT (EM b c a) (([]:AC),0)
def EN (b:AC):(Vec UInt64 16×Int)->Option ((Vec UInt64 16×Int)⊕(Vec UInt64 16×Int))
  | (m_,i)=>if i < 16 then((wV b (ax (8*i)) 8).bind fun a=>(aP m_.l i).bind fun aN=>(some (oP m_ i a.1)).bind fun v=>some (.inl (v,ax (i+1)))) else(Option.map Sum.inr (some (m_,0)))
def Hq (b:AC):Option (Vec UInt64 16×Int) :=
  if(b.length:Int)≠128 then(some ((Vec.rep 16 0),1)) else(aT (EN b) ((Vec.rep 16 0),0))
def GG (a:Vec UInt64 16):Option (Vec UInt64 16) :=
  some a
def GH (a:Bool)(v5:Vec UInt64 16):Option (Vec UInt64 16) :=
  if a=true then((aP v5.l 15).bind fun c=>(aP v5.l 15).bind fun vC=>(some (oP v5 15 (18446744073709551615^^^c))).bind fun b=>GG b) else(GG v5)
def KY (h:Vec UInt64 8)(lo j:UInt64)(A2A a:Bool):(Vec UInt64 16×Int)->Option ((Vec UInt64 16×Int)⊕(Vec UInt64 16))
  | (v,i)=>if i < 8 then((aP h.l i).bind fun k=>(aP v.l i).bind fun x_1=>(some (oP v i k)).bind fun b=>(Ov i).bind fun e=>(aP b.l (ax (i+8))).bind fun jE=>(some (oP b (ax (i+8)) e)).bind fun v2=>some (.inl (v2,ax (i+1)))) else(Option.map Sum.inr ((aP v.l 12).bind fun g=>(aP v.l 12).bind fun mX=>(some (oP v 12 (g^^^lo))).bind fun v3=>(aP v3.l 13).bind fun f=>(aP v3.l 13).bind fun oG=>(some (oP v3 13 (f^^^j))).bind fun v4=>if A2A=true then((aP v4.l 14).bind fun d=>(aP v4.l 14).bind fun Dz=>(some (oP v4 14 (18446744073709551615^^^d))).bind fun c=>GH a c) else(GH a v4)))
def JA (h:Vec UInt64 8)(lo b:UInt64)(A2A a:Bool):Option (Vec UInt64 16) :=
  aT (KY h lo b A2A a) ((Vec.rep 16 0),0)
def BB (i:Int):Option (Vec Int 4) :=
  (aP (⟨[(⟨[0,4,8,12],rfl⟩:Vec Int 4),(⟨[1,5,9,13],rfl⟩:Vec Int 4),(⟨[2,6,10,14],rfl⟩:Vec Int 4),(⟨[3,7,11,15],rfl⟩:Vec Int 4),(⟨[0,5,10,15],rfl⟩:Vec Int 4),(⟨[1,6,11,12],rfl⟩:Vec Int 4),(⟨[2,7,8,13],rfl⟩:Vec Int 4),(⟨[3,4,9,14],rfl⟩:Vec Int 4)],rfl⟩:Vec (Vec Int 4) 8).l (Int.tmod i 8)).bind fun a=>some a
def GI (a:Int):A04 :=
  some a
def MO (n a:Int):A04 :=
  (need (a≠0)).bind fun u=>if(Int.tmod n a) < 0 then(GI (ax ((Int.tmod n a)+a))) else(GI (Int.tmod n a))
def Ox (c:UInt8):A04 :=
  if((decide ((48:UInt8)<=c))&&(decide (c<=57)))=true then(some ((c - 48).toNat:Int)) else(if((decide ((97:UInt8)<=c))&&(decide (c<=102)))=true then(some (ax (((c - 97).toNat:Int)+10))) else(if((decide ((65:UInt8)<=c))&&(decide (c<=70)))=true then(some (ax (((c - 65).toNat:Int)+10))) else(some (-1:Int))))
def Hr (a i:Int):A04 :=
  (MO a 10).bind fun b=>(aP ([48,49,50,51,52,53,54,55,56,57,97,98,99,100,101,102,101,97,52,56,57,102,100,54,49,99,48,50,98,55,53,51,98,56,99,48,53,50,102,100,97,101,51,54,55,49,57,52,55,57,51,49,100,99,98,101,50,54,53,97,52,48,102,56,57,48,53,55,50,52,97,102,101,49,98,99,54,56,51,100,50,99,54,97,48,98,56,51,52,100,55,53,102,101,49,57,99,53,49,102,101,100,52,97,48,55,54,51,57,50,56,98,100,98,55,101,99,49,51,57,53,48,102,52,56,54,50,97,54,102,101,57,98,51,48,56,99,50,100,55,49,52,97,53,97,50,56,52,55,54,49,53,102,98,57,101,51,99,100,48]:AC) (ax ((ax (16*b))+i))).bind fun c=>(Ox c).bind fun d=>some d
def yg (a:Int):Option Bool :=
  some ((decide (0<=a))&&(decide (a<=15)))
def mr (b:UInt64)(n:Int):Option UInt64 :=
  (MO n 64).bind fun a=>if a=0 then(some b) else((need (0<=a)).bind fun u=>(need (0<=ax (64 - a))).bind fun u1=>some ((jC b (Int.toNat a))|||(G5 b (Int.toNat (ax (64 - a))))))
def Rx (v:Vec UInt64 16)(a b c d:Int)(j h:UInt64):Option (Vec UInt64 16×Int) :=
  (yg a).bind fun o=>if(!o)=true then(some ((Vec.rep 16 ((0:UInt64):UInt64)),1)) else((yg b).bind fun C=>if(!C)=true then(some ((Vec.rep 16 ((0:UInt64):UInt64)),1)) else((yg c).bind fun B=>if(!B)=true then(some ((Vec.rep 16 ((0:UInt64):UInt64)),1)) else((yg d).bind fun A=>if(((((((!A)||(decide (a=b)))||(decide (a=c)))||(decide (a=d)))||(decide (b=c)))||(decide (b=d)))||(decide (c=d)))=true then(some ((Vec.rep 16 ((0:UInt64):UInt64)),1)) else((aP v.l a).bind fun x=>(aP v.l b).bind fun t=>(aP v.l a).bind fun ni=>(some (oP v a ((x+t)+j))).bind fun g=>(aP g.l d).bind fun s=>(aP g.l a).bind fun n=>(mr (s^^^n) 32).bind fun z=>(aP g.l d).bind fun Dz=>(some (oP g d z)).bind fun v2=>(aP v2.l c).bind fun q=>(aP v2.l d).bind fun k=>(aP v2.l c).bind fun l9=>(some (oP v2 c (q+k))).bind fun v3=>(aP v3.l b).bind fun r=>(aP v3.l c).bind fun y=>(mr (r^^^y) 24).bind fun w=>(aP v3.l b).bind fun MM=>(some (oP v3 b w)).bind fun v4=>(aP v4.l a).bind fun i=>(aP v4.l b).bind fun J=>(aP v4.l a).bind fun Rt=>(some (oP v4 a ((i+J)+h))).bind fun v5=>(aP v5.l d).bind fun I=>(aP v5.l a).bind fun H=>(mr (I^^^H) 16).bind fun u=>(aP v5.l d).bind fun x_20=>(some (oP v5 d u)).bind fun f=>(aP f.l c).bind fun G=>(aP f.l d).bind fun E=>(aP f.l c).bind fun x_23=>(some (oP f c (G+E))).bind fun e=>(aP e.l b).bind fun F=>(aP e.l c).bind fun D=>(mr (F^^^D) 63).bind fun p=>(aP e.l b).bind fun x_26=>(some (oP e b p)).bind fun m=>some (m,0)))))
def JB (c:Vec UInt64 16)(a:Int):(Vec UInt64 16×Int)->Option ((Vec UInt64 16×Int)⊕(Vec UInt64 16×Int))
  | (v1,i)=>if i < 8 then((BB i).bind fun b=>(aP b.l 0).bind fun m=>(aP b.l 1).bind fun h=>(aP b.l 2).bind fun g=>(aP b.l 3).bind fun f=>(Hr a (ax (2*i))).bind fun n=>(aP c.l n).bind fun e=>(Hr a (ax ((ax (2*i))+1))).bind fun k=>(aP c.l k).bind fun d=>(Rx v1 m h g f e d).bind fun j=>some (.inl (j.1,ax (i+1)))) else(Option.map Sum.inr (some (v1,0)))
def Ht (v b:Vec UInt64 16)(a:Int):Option (Vec UInt64 16×Int) :=
  if((decide (a < 0))||(decide (11 < a)))=true then(some ((Vec.rep 16 ((0:UInt64):UInt64)),1)) else(aT (JB b a) (v,0))
def MP (v:Vec UInt64 16):(Vec UInt64 8×Int)->Option ((Vec UInt64 8×Int)⊕(Vec UInt64 8))
  | (h1,i)=>if i < 8 then((aP h1.l i).bind fun d=>(aP v.l i).bind fun a=>(aP v.l (ax (i+8))).bind fun c=>(aP h1.l i).bind fun kY=>(some (oP h1 i ((d^^^a)^^^c))).bind fun b=>some (.inl (b,ax (i+1)))) else(Option.map Sum.inr (some h1))
def MQ (h:Vec UInt64 8)(a:Vec UInt64 16):(Vec UInt64 16×Int)->Option ((Vec UInt64 16×Int)⊕(Vec UInt64 8))
  | (v,aI)=>if aI < 12 then((Ht v a aI).bind fun b=>some (.inl (b.1,ax (aI+1)))) else(Option.map Sum.inr (aT (MP v) (h,0)))
def Ry (h:Vec UInt64 8)(c:Vec UInt64 16)(lo d:UInt64)(A2A a:Bool):Option (Vec UInt64 8) :=
  (JA h lo d A2A a).bind fun b=>aT (MQ h c) (b,0)
def Hu (c:(Vec UInt64 8)):(Vec UInt64 16×Int)->Option ((Vec UInt64 16×Int)⊕(Vec UInt64 16))
  | (h1,i1)=>if i1 < 8 then((aP c.l i1).bind fun b=>(aP h1.l i1).bind fun kY=>(some (oP h1 i1 b)).bind fun a=>some (.inl (a,ax (i1+1)))) else(Option.map Sum.inr (some h1))
def KD (h:Vec UInt64 16)(b:AC)(lo d:UInt64)(A2A a:Bool):(Vec UInt64 8×Int)->Option ((Vec UInt64 8×Int)⊕(Vec UInt64 16))
  | (s_,i)=>if i < 8 then((aP h.l i).bind fun e=>(aP s_.l i).bind fun x_1=>(some (oP s_ i e)).bind fun v=>some (.inl (v,ax (i+1)))) else(Option.map Sum.inr ((Hq b).bind fun c=>(Ry s_ c.1 lo d A2A a).bind fun f=>aT (Hu f) (h,0)))
def Uu (h:Vec UInt64 16):(Vec UInt32 8×Int)->Option ((Vec UInt32 8×Int)⊕(Vec UInt64 16))
  | (Aa,i2)=>if i2 < 8 then((aP h.l i2).bind fun a=>(aP Aa.l i2).bind fun ni=>(some (oP Aa i2 (UInt32.ofNat a.toNat))).bind fun v2=>some (.inl (v2,ax (i2+1)))) else none
def JC (c:Int)(h:Vec UInt64 16)(b:AC)(lo d:UInt64)(A2A a:Bool):Option (Vec UInt64 16) :=
  if c=1 then(aT (KD h b lo d A2A a) ((Vec.rep 8 0),0)) else(aT (Uu h) ((Vec.rep 8 0),0))
def Ar (a:(Vec UInt64 16×Int×Int×Int×Int×Int×UInt32×UInt64×UInt32×Int×Int×Bool×Vec UInt64 16×Bool×UInt64×UInt64×AC×UInt64))(c:Int):(Vec UInt64 16×UInt64×UInt64×Int)->Option ((Vec UInt64 16×UInt64×UInt64×Int)⊕(Vec UInt64 16×UInt64×UInt64×Int×Int×Int×Int×Int×Int×UInt32×UInt64×UInt32×Int×Int×Bool×Vec UInt64 16×Bool×UInt64×UInt64×AC×UInt64))
  | (h,lo,hi,at_)=>if(ax (at_+c)) < (a.2.2.2.2.2.2.2.2.2.2.2.2.2.2.2.2.1.length:Int) then((Gh lo hi (UInt64.ofInt c)).bind fun b=>(Jn a.2.2.2.2.2.2.2.2.2.2.2.2.2.2.2.2.1 at_ c).bind fun e=>(JC a.2.1 h e b.1 b.2.1 false false).bind fun d=>some (.inl (d,b.1,b.2.1,ax (at_+c)))) else(Option.map Sum.inr (some (h,lo,hi,at_,a.2.1,a.2.2.1,a.2.2.2.1,a.2.2.2.2.1,a.2.2.2.2.2.1,a.2.2.2.2.2.2.1,a.2.2.2.2.2.2.2.1,a.2.2.2.2.2.2.2.2.1,a.2.2.2.2.2.2.2.2.2.1,a.2.2.2.2.2.2.2.2.2.2.1,a.2.2.2.2.2.2.2.2.2.2.2.1,a.2.2.2.2.2.2.2.2.2.2.2.2.1,a.2.2.2.2.2.2.2.2.2.2.2.2.2.1,a.2.2.2.2.2.2.2.2.2.2.2.2.2.2.1,a.2.2.2.2.2.2.2.2.2.2.2.2.2.2.2.1,a.2.2.2.2.2.2.2.2.2.2.2.2.2.2.2.2.1,a.2.2.2.2.2.2.2.2.2.2.2.2.2.2.2.2.2)))
def wz (g r j q m:Int)(n:UInt32)(p:UInt64)(i:UInt32)(s l:Int)(k o b:AC)(e:Bool)(f:Vec UInt64 16)(d:Bool)(v u:UInt64)(c:AC)(h:UInt64):Option (Vec UInt64 16×UInt64×UInt64×Int×Int×Int×Int×Int×Int×UInt32×UInt64×UInt32×Int×Int×Bool×Vec UInt64 16×Bool×UInt64×UInt64×AC×UInt64) :=
  (ug g r j q m n p i s l k o b e f d v u c h).bind fun a=>(Am a.2.1).bind fun t=>aT (Ar a t) (a.1,a.2.2.2.2.2.2.2.2.2.2.2.2.2.2.1,a.2.2.2.2.2.2.2.2.2.2.2.2.2.2.2.1,0)
def JD (n:Int):(UInt64×AC×Int)->Option ((UInt64×AC×Int)⊕AC)
  | (kN,b,i)=>if i < n then((app b ([UInt8.ofNat (kN % 256).toNat]:AC) 1).bind fun a=>some (.inl (kN / 256,a,ax (i+1)))) else(Option.map Sum.inr (some b))
def tJ (a:UInt64)(n:Int):Option AC :=
  aT (JD n) (a,([]:AC),0)
def JE (a:Int)(h:Vec UInt64 16):UV->A0A
  | (b,i)=>if i < 8 then((aP h.l i).bind fun e=>(DD a).bind fun c=>(tJ e (ax (Int.tdiv c 8))).bind fun f=>(app b f 1).bind fun d=>some (.inl (d,ax (i+1)))) else(Option.map Sum.inr (some b))
def D8 (a:Int)(h:Vec UInt64 16):Option AC :=
  aT (JE a h) (([]:AC),0)
def Au (h t k s o:Int)(p:UInt32)(r:UInt64)(j:UInt32)(v n:Int)(m q c:AC)(f:Bool)(g:Vec UInt64 16)(e:Bool)(z y:UInt64)(d:AC)(i:UInt64):Option (AC×Int×Int×Int×Int×Int×UInt32×UInt64×UInt32×Int×Int×Bool×Vec UInt64 16×Bool×UInt64×UInt64×AC×UInt64) :=
  (wz h t k s o p r j v n m q c f g e z y d i).bind fun a=>(Gh a.2.1 a.2.2.1 (UInt64.ofInt (ax ((a.2.2.2.2.2.2.2.2.2.2.2.2.2.2.2.2.2.2.2.1.length:Int) - a.2.2.2.1)))).bind fun b=>(Am a.2.2.2.2.1).bind fun x=>(Jn a.2.2.2.2.2.2.2.2.2.2.2.2.2.2.2.2.2.2.2.1 a.2.2.2.1 x).bind fun w=>(JC a.2.2.2.2.1 a.1 w b.1 b.2.1 true a.2.2.2.2.2.2.2.2.2.2.2.2.2.2.1).bind fun u=>(D8 a.2.2.2.2.1 u).bind fun l=>some (l,a.2.2.2.2.1,a.2.2.2.2.2.1,a.2.2.2.2.2.2.1,a.2.2.2.2.2.2.2.1,a.2.2.2.2.2.2.2.2.1,a.2.2.2.2.2.2.2.2.2.1,a.2.2.2.2.2.2.2.2.2.2.1,a.2.2.2.2.2.2.2.2.2.2.2.1,a.2.2.2.2.2.2.2.2.2.2.2.2.1,a.2.2.2.2.2.2.2.2.2.2.2.2.2.1,a.2.2.2.2.2.2.2.2.2.2.2.2.2.2.1,a.2.2.2.2.2.2.2.2.2.2.2.2.2.2.2.1,a.2.2.2.2.2.2.2.2.2.2.2.2.2.2.2.2.1,a.2.2.2.2.2.2.2.2.2.2.2.2.2.2.2.2.2.1,a.2.2.2.2.2.2.2.2.2.2.2.2.2.2.2.2.2.2.1,a.2.2.2.2.2.2.2.2.2.2.2.2.2.2.2.2.2.2.2.1,a.2.2.2.2.2.2.2.2.2.2.2.2.2.2.2.2.2.2.2.2)
def Aw (e r n q t:Int)(o:UInt32)(u:UInt64)(p:UInt32)(v s:Int)(g h key:AC)(A2A:Bool)(d:Int)(f:AC):Option UV :=
  (PD e r n q t o u p v s g h key).bind fun j=>(Sum.elim (fun i=>if i≠0 then(some (([]:AC),i)) else(if d < 1 then(some (([]:AC),1)) else((DD e).bind fun m=>if m < d then(some (([]:AC),1)) else none))) (fun c=>if 0≠0 then(some (([]:AC),0)) else(if d < 1 then(some (([]:AC),1)) else((DD e).bind fun l=>if l < d then(some (([]:AC),1)) else((xG c.1 c.2.1 c.2.2.1 c.2.2.2.1 c.2.2.2.2.1 c.2.2.2.2.2.1 c.2.2.2.2.2.2.1 c.2.2.2.2.2.2.2.1 c.2.2.2.2.2.2.2.2.1 c.2.2.2.2.2.2.2.2.2.1 g h key A2A c.2.2.2.2.2.2.2.2.2.2.1 false 0 0 c.2.2.2.2.2.2.2.2.2.2.2 0 f).bind fun a=>(Au a.1 a.2.1 a.2.2.1 a.2.2.2.1 a.2.2.2.2.1 a.2.2.2.2.2.1 a.2.2.2.2.2.2.1 a.2.2.2.2.2.2.2.1 a.2.2.2.2.2.2.2.2.1 a.2.2.2.2.2.2.2.2.2.1 g h key a.2.2.2.2.2.2.2.2.2.2.1 a.2.2.2.2.2.2.2.2.2.2.2.1 a.2.2.2.2.2.2.2.2.2.2.2.2.1 a.2.2.2.2.2.2.2.2.2.2.2.2.2.1 a.2.2.2.2.2.2.2.2.2.2.2.2.2.2.1 a.2.2.2.2.2.2.2.2.2.2.2.2.2.2.2.1 a.2.2.2.2.2.2.2.2.2.2.2.2.2.2.2.2).bind fun k=>(Iw k.1 0 d).bind fun b=>some (b,0)))))) j
def MR (a n:Int)(key aO d b:AC):Option UV :=
  (kH a n (key.length:Int) 1 1 0 0 0 0 0 aO d).bind fun c=>if c≠0 then(some (([]:AC),c)) else((Aw a n (key.length:Int) 1 1 0 0 0 0 0 aO d key false n b).bind fun e=>some (e.1,e.2))
def LD (c n:Int)(a:AC):Option UV :=
  (I5 c n ([]:AC) ([]:AC) ([]:AC) a).bind fun b=>some (b.1,b.2)
def Wj (b:AC):A08->Option (A08⊕(A02×Int×Int))
  | (parts,at_)=>if at_ < (b.length:Int) then((mQ b at_).bind fun c=>if c.2≠0 then(Option.map Sum.inr (some (([]:A02),at_,4))) else(if(UInt64.ofInt (ax ((b.length:Int) - (ax (at_+8))))) < c.1 then(Option.map Sum.inr (some (([]:A02),ax (at_+8),4))) else((Iw b (ax (at_+8)) (ax ((ax (at_+8))+(ax c.1.toNat)))).bind fun e=>(app ([]:AC) e 1).bind fun d=>(app parts ([d]:A02) 24).bind fun a=>some (.inl (a,ax ((ax (at_+8))+(ax c.1.toNat))))))) else(Option.map Sum.inr (some (parts,0,0)))
def m_mac_Unrow (b:AC):Option (A02×Int×Int) :=
  if 16777216 < (b.length:Int) then(some (([]:A02),0,2)) else(aT (Wj b) (([]:A02),0))
def xH (a:UInt32):Option AC :=
  some ([UInt8.ofNat a.toNat,UInt8.ofNat (qK a ((8:UInt64).toNat)).toNat,UInt8.ofNat (qK a ((16:UInt64).toNat)).toNat,UInt8.ofNat (qK a ((24:UInt64).toNat)).toNat]:AC)
def lU (b:AC)(n:Int):Option AC :=
  (xH (UInt32.ofInt n)).bind fun a=>(app b a 1).bind fun c=>some c
def BC (a c e d f:Int)(A1s aO A1x A27:AC):Option UV :=
  (aP (⟨[d,f,c,e,19,a],rfl⟩:Vec Int 6).l 0).bind fun s=>(lU ([]:AC) s).bind fun v=>(aP (⟨[d,f,c,e,19,a],rfl⟩:Vec Int 6).l 1).bind fun r=>(lU v r).bind fun u=>(aP (⟨[d,f,c,e,19,a],rfl⟩:Vec Int 6).l 2).bind fun o=>(lU u o).bind fun t=>(aP (⟨[d,f,c,e,19,a],rfl⟩:Vec Int 6).l 3).bind fun n=>(lU t n).bind fun q=>(aP (⟨[d,f,c,e,19,a],rfl⟩:Vec Int 6).l 4).bind fun m=>(lU q m).bind fun p=>(aP (⟨[d,f,c,e,19,a],rfl⟩:Vec Int 6).l 5).bind fun h=>(lU p h).bind fun i=>(lU i (A1s.length:Int)).bind fun A=>(app A A1s 1).bind fun b=>(lU b (aO.length:Int)).bind fun z=>(app z aO 1).bind fun y=>(lU y (A1x.length:Int)).bind fun j=>(app j A1x 1).bind fun x=>(lU x (A27.length:Int)).bind fun k=>(app k A27 1).bind fun w=>(LD 1 64 w).bind fun g=>some (g.1,g.2)
def xI (a b d c f:Int)(A1s aO A1x A27:AC)(e:Bool):Option UV :=
  if e=true then(some (([]:AC),2)) else(BC a b d c f A1s aO A1x A27)
def qN (a b d c e:Int)(A1s aO A1x A27:AC):Option UV :=
  (DV a b d c e).bind fun f=>if(!f)=true then(some (([]:AC),200)) else(if 65536 < (A1s.length:Int) then(some (([]:AC),2)) else((sW a b d c e aO).bind fun g=>if g≠0 then(some (([]:AC),201)) else(if 64 < (A1x.length:Int) then(xI a b d c e A1s aO A1x A27 (decide (64 < (A1x.length:Int)))) else(xI a b d c e A1s aO A1x A27 (decide (1024 < (A27.length:Int)))))))
def ou (aj b af a aA:Int):A04 :=
  (need ((ax (4*a))≠0)).bind fun u=>some (ax (Int.tdiv b (ax (4*a))))
def rV (b c e d f:Int):A04 :=
  (ou b c e d f).bind fun a=>some (ax (4*a))
def wB (n:Int)(b:AC):Option AC :=
  (wo 1 n 0 1 1 0 0 0 0 0 ([]:AC) ([]:AC) ([]:AC) false n b).bind fun a=>some a.1
def EO (a:Int):(AC×AC×Int)->Option ((AC×AC×Int)⊕UV)
  | (v,out,aN)=>if aN < (ax ((ax ((ax (Int.tdiv (ax (a+31)) 32)) - 2)) - 1)) then((wB 64 v).bind fun c=>(Iw c 0 32).bind fun f=>(app out f 1).bind fun b=>some (.inl (c,b,ax (aN+1)))) else(Option.map Sum.inr ((wB (ax (a - (ax (32*(ax ((ax (Int.tdiv (ax (a+31)) 32)) - 2)))))) v).bind fun d=>(app out d 1).bind fun e=>some (e,0)))
def D9 (a:Int)(c:AC):Option UV :=
  if((decide (a < 1))||(decide (1048576 < a)))=true then(some (([]:AC),1)) else((xH (UInt32.ofInt a)).bind fun e=>(app e c 1).bind fun b=>if a<=64 then((wB a b).bind fun h=>some (h,0)) else((wB 64 b).bind fun d=>(Iw d 0 32).bind fun g=>(app ([]:AC) g 1).bind fun f=>aT (EO a) (d,f,0)))
def uh (A1y:AC)(c:List (List (Vec UInt8 1024)))(a:Int):(List (Vec UInt8 1024)×Int)->Option ((List (Vec UInt8 1024)×Int)⊕((List (List (Vec UInt8 1024))×Int)⊕(Int×Int×Int×Int×Int×List (List (Vec UInt8 1024)))))
  | (l,oG)=>if oG < 2 then((app ([]:AC) A1y 1).bind fun b=>(lU b oG).bind fun g=>(lU g a).bind fun e=>(D9 1024 e).bind fun d=>(Et 1024 d.1).bind fun v=>(aP l oG).bind fun tZ=>some (.inl (l.set (Int.toNat oG) v,ax (oG+1)))) else(Option.map Sum.inr ((app c ([l]:List (List (Vec UInt8 1024))) 24).bind fun f=>some (.inl (f,ax (a+1)))))
def xJ (c d e b f:Int)(A1y:AC):(List (List (Vec UInt8 1024))×Int)->Option ((List (List (Vec UInt8 1024))×Int)⊕(Int×Int×Int×Int×Int×List (List (Vec UInt8 1024))))
  | (m_,aN)=>if aN < b then((rV c d e b f).bind fun a=>(need ((0:Int)<=a/\(a:Int)<=a/\Int.toNat a*1024<=140737488355328)).bind fun u=>aT (uh A1y m_ aN) (List.replicate (Int.toNat a) (Vec.rep 1024 0),0)) else(Option.map Sum.inr (some (c,d,e,b,f,m_)))
def CP (a b d c e:Int)(A1y:AC):Option (Int×Int×Int×Int×Int×List (List (Vec UInt8 1024))) :=
  aT (xJ a b d c e A1y) (([]:List (List (Vec UInt8 1024))),0)
def zu (b a:AC):Option Bool :=
  if(b.length:Int)≠1024 then(some false) else(if(a.length:Int)≠1024 then(some false) else(some true))
def Dl (b:AC):(Vec UInt64 128×Int)->Option ((Vec UInt64 128×Int)⊕(Vec UInt64 128))
  | (mV,aN)=>if aN < 128 then((mQ b (ax (8*aN))).bind fun a=>(aP mV.l aN).bind fun x_1=>(some (oP mV aN a.1)).bind fun v=>some (.inl (v,ax (aN+1)))) else(Option.map Sum.inr (some mV))
def BD (b:AC):Option (Vec UInt64 128) :=
  aT (Dl b) ((Vec.rep 128 0),0)
def BF (a p:Int):Option A05 :=
  some (ax ((ax (16*p))+a),p)
def uA (b a:UInt64):Option UInt64 :=
  some (((2:UInt64)*(b&&&4294967295))*(a&&&4294967295))
def EP (e b c d:UInt64):Option (UInt64×UInt64×UInt64×UInt64) :=
  (uA e b).bind fun f=>(iL (d^^^(e+(b+f))) (-32:Int)).bind fun a=>(uA c a).bind fun i=>(iL (b^^^(c+(a+i))) (-24:Int)).bind fun h=>(uA (e+(b+f)) h).bind fun k=>(iL (a^^^((e+(b+f))+(h+k))) (-16:Int)).bind fun g=>(uA (c+(a+i)) g).bind fun j=>(iL (h^^^((c+(a+i))+(g+j))) (-63:Int)).bind fun l=>some ((e+(b+f))+(h+k),l,(c+(a+i))+(g+j),g)
def ER  : (Vec UInt64 16×Int)->Option ((Vec UInt64 16×Int)⊕(Vec UInt64 16))
  | (v1,aN)=>if aN < 8 then((aP (⟨[(⟨[0,4,8,12],rfl⟩:Vec Int 4),(⟨[1,5,9,13],rfl⟩:Vec Int 4),(⟨[2,6,10,14],rfl⟩:Vec Int 4),(⟨[3,7,11,15],rfl⟩:Vec Int 4),(⟨[0,5,10,15],rfl⟩:Vec Int 4),(⟨[1,6,11,12],rfl⟩:Vec Int 4),(⟨[2,7,8,13],rfl⟩:Vec Int 4),(⟨[3,4,9,14],rfl⟩:Vec Int 4)],rfl⟩:Vec (Vec Int 4) 8).l aN).bind fun a=>(aP a.l 0).bind fun f=>(aP a.l 0).bind fun n=>(aP v1.l n).bind fun m=>(aP a.l 1).bind fun k=>(aP v1.l k).bind fun j=>(aP a.l 2).bind fun h=>(aP v1.l h).bind fun o=>(aP a.l 3).bind fun i=>(aP v1.l i).bind fun g=>(aP a.l 1).bind fun d=>(aP a.l 2).bind fun c=>(aP a.l 3).bind fun e=>(EP m j o g).bind fun b=>(aP v1.l f).bind fun MM=>(some (oP v1 f b.1)).bind fun v2=>(aP v2.l d).bind fun yM=>(some (oP v2 d b.2.1)).bind fun v3=>(aP v3.l c).bind fun CO=>(some (oP v3 c b.2.2.1)).bind fun v4=>(aP v4.l e).bind fun Rt=>(some (oP v4 e b.2.2.2)).bind fun v5=>some (.inl (v5,ax (aN+1)))) else(Option.map Sum.inr (some v1))
def D_ (v:Vec UInt64 16):Option (Vec UInt64 16) :=
  aT (ER) (v,0)
def yT (c:(Vec UInt64 16)):(Int×Vec UInt64 128×Int)->Option ((Int×Vec UInt64 128×Int)⊕(Int×Vec UInt64 128))
  | (Gi,mX,ni)=>if ni < 16 then((aP c.l ni).bind fun b=>(BF ni Gi).bind fun a=>(aP mX.l a.1).bind fun tZ=>(some (oP mX a.1 b)).bind fun v2=>some (.inl (a.2,v2,ax (ni+1)))) else(Option.map Sum.inr (some (Gi,mX)))
def Dn (p:Vec UInt64 128):(Int×Vec UInt64 16×Int)->Option ((Int×Vec UInt64 16×Int)⊕(Int×Vec UInt64 128))
  | (Gj,v,aN)=>if aN < 16 then((BF aN Gj).bind fun a=>(aP p.l a.1).bind fun c=>(aP v.l aN).bind fun kY=>(some (oP v aN c)).bind fun b=>some (.inl (a.2,b,ax (aN+1)))) else(Option.map Sum.inr ((D_ v).bind fun d=>aT (yT d) (Gj,p,0)))
def ES (place:Int)(p:Vec UInt64 128):Option (Int×Vec UInt64 128) :=
  aT (Dn p) (place,(Vec.rep 16 0),0)
def BG (a p:Int):Option A05 :=
  some (ax ((ax ((ax (2*p))+(ax (16*(ax (Int.tdiv a 2))))))+(Int.tmod a 2)),p)
def uB (c:(Vec UInt64 16)):(Int×Vec UInt64 128×Int)->Option ((Int×Vec UInt64 128×Int)⊕(Int×Vec UInt64 128))
  | (Gi,mX,ni)=>if ni < 16 then((aP c.l ni).bind fun b=>(BG ni Gi).bind fun a=>(aP mX.l a.1).bind fun tZ=>(some (oP mX a.1 b)).bind fun v2=>some (.inl (a.2,v2,ax (ni+1)))) else(Option.map Sum.inr (some (Gi,mX)))
def yz (p:Vec UInt64 128):(Int×Vec UInt64 16×Int)->Option ((Int×Vec UInt64 16×Int)⊕(Int×Vec UInt64 128))
  | (Gj,v,aN)=>if aN < 16 then((BG aN Gj).bind fun a=>(aP p.l a.1).bind fun c=>(aP v.l aN).bind fun kY=>(some (oP v aN c)).bind fun b=>some (.inl (a.2,b,ax (aN+1)))) else(Option.map Sum.inr ((D_ v).bind fun d=>aT (uB d) (Gj,p,0)))
def yU (place:Int)(p:Vec UInt64 128):Option (Int×Vec UInt64 128) :=
  aT (yz p) (place,(Vec.rep 16 0),0)
def xK (c:Int)(a:UInt64):UV->Option (UV⊕(UV⊕(AC×Vec UInt64 128)))
  | (b1,s_)=>if s_ < 64 then((need (0<=s_)).bind fun u=>(app b1 ([UInt8.ofNat (jC a (Int.toNat s_)).toNat]:AC) 1).bind fun b=>some (.inl (b,ax (s_+8)))) else(Option.map Sum.inr (some (.inl (b1,ax (c+1)))))
def ET (a:Vec UInt64 128):UV->Option (UV⊕(AC×Vec UInt64 128))
  | (b,aN)=>if aN < 128 then((aP a.l aN).bind fun c=>aT (xK aN c) (b,0)) else(Option.map Sum.inr (some (b,a)))
def Hw (a:Vec UInt64 128):Option (AC×Vec UInt64 128) :=
  aT (ET a) (List.replicate (Int.toNat 0) 0,0)
def CQ (e:Vec UInt64 128):(Vec UInt64 128×Int)->Option ((Vec UInt64 128×Int)⊕UV)
  | (z2,rE)=>if rE < 128 then((aP z2.l rE).bind fun a=>(aP e.l rE).bind fun d=>(aP z2.l rE).bind fun qZ=>(some (oP z2 rE (a^^^d))).bind fun b=>some (.inl (b,ax (rE+1)))) else(Option.map Sum.inr ((Hw z2).bind fun c=>some (c.1,0)))
def CS (b:Vec UInt64 128):(Vec UInt64 128×Int)->Option ((Vec UInt64 128×Int)⊕UV)
  | (z1,Dz)=>if Dz < 8 then((yU Dz z1).bind fun a=>some (.inl (a.2,ax (Dz+1)))) else(Option.map Sum.inr (aT (CQ b) (z1,0)))
def CU (b:Vec UInt64 128):(Vec UInt64 128×Int)->Option ((Vec UInt64 128×Int)⊕UV)
  | (z,tZ)=>if tZ < 8 then((ES tZ z).bind fun a=>some (.inl (a.2,ax (tZ+1)))) else(Option.map Sum.inr (aT (CS b) (z,0)))
def GK (c:(Vec UInt64 128)):(Vec UInt64 128×Int)->Option ((Vec UInt64 128×Int)⊕UV)
  | (fU,kY)=>if kY < 128 then((aP fU.l kY).bind fun b=>(aP c.l kY).bind fun a=>(aP fU.l kY).bind fun oG=>(some (oP fU kY (b^^^a))).bind fun v=>some (.inl (v,ax (kY+1)))) else(Option.map Sum.inr (aT (CU fU) (fU,0)))
def yA (b a:AC):Option UV :=
  (zu b a).bind fun c=>if(!c)=true then(some (([]:AC),1)) else((BD b).bind fun e=>(BD a).bind fun d=>aT (GK d) (e,0))
def rq (f g j h k a:Int)(e:UV):(A01×Int)->Option ((A01×Int)⊕((A01×Int)⊕A01))
  | (l1,i)=>if i < 128 then((ou f g j h k).bind fun d=>if(l1.length:Int) < d then((mQ e.1 (ax (8*i))).bind fun b=>(app l1 ([b.1]:A01) 8).bind fun c=>some (.inl (c,ax (i+1)))) else(Option.map Sum.inr (some (.inl (l1,ax (a+1)))))) else(Option.map Sum.inr (some (.inl (l1,ax (a+1)))))
def ru (f m h g o A1s A1t A1u:Int)(l:A01)(e n:Int):UV->Option (UV⊕((A01×Int)⊕A01))
  | (Yl,aN)=>if aN < 7 then((aP (⟨[A1s,A1u,A1t,ax (g*n),h,f,e],rfl⟩:Vec Int 7).l aN).bind fun d=>(xE (UInt64.ofInt d)).bind fun k=>(app Yl k 1).bind fun c=>some (.inl (c,ax (aN+1)))) else(Option.map Sum.inr ((Iw (List.replicate (Int.toNat 1024) 0) (Yl.length:Int) ((Int.toNat (1024:Int):Nat):Int)).bind fun b=>(app Yl b 1).bind fun a=>(yA (List.replicate (Int.toNat 1024) 0) a).bind fun j=>(yA (List.replicate (Int.toNat 1024) 0) j.1).bind fun i=>aT (rq f m h g o e i) (l,0)))
def wC (a b d c e A1s A1t A1u:Int):(A01×Int)->Option ((A01×Int)⊕A01)
  | (l,n1)=>(ou a b d c e).bind fun f=>if(l.length:Int) < f then((rV a b d c e).bind fun g=>aT (ru a b d c e A1s A1t A1u l n1 g) (List.replicate (Int.toNat 0) 0,0)) else(Option.map Sum.inr (some l))
def wE (a b d c e A1s A1t A1u:Int):Option A01 :=
  aT (wC a b d c e A1s A1t A1u) (([]:A01),1)
def qA (c d f e g:Int)(j:UInt64)(l A1y a:Int):Option A05 :=
  (rV c d f e g).bind fun b=>(need (b≠0)).bind fun u1=>some (l,Int.tmod (ax ((ax ((ax (A1y+a)) - 1)) - (ax (jC ((UInt64.ofInt a)*(jC ((j&&&4294967295)*(j&&&4294967295)) ((32:UInt64).toNat))) ((32:UInt64).toNat)).toNat))) b)
def ui (b c e d f A1u g:Int)(j:UInt64)(l a A1y:Int):Option A05 :=
  if l=A1u then(qA b c e d f j l A1y (ax (a+(ax (g - 1))))) else(if g=0 then(qA b c e d f j l A1y (ax (a - 1))) else(qA b c e d f j l A1y a))
def uj (c d f e g A1s A1t A1u b:Int)(j:UInt64)(l h a:Int):Option A05 :=
  if((decide (A1s=0))||(decide (A1t=3)))=true then(ui c d f e g A1u b j l a 0) else(ui c d f e g A1u b j l a (ax ((ax (A1t+1))*h)))
def uk (b c e d f A1s A1t A1u g:Int)(j:UInt64)(l:Int):Option A05 :=
  (ou b c e d f).bind fun a=>if A1s=0 then(uj b c e d f A1s A1t A1u g j l a (ax (A1t*a))) else(uj b c e d f A1s A1t A1u g j l a (ax (3*a)))
def zy (c d e a f A1s A1t A1u b:Int)(j:UInt64):Option A05 :=
  (need ((UInt64.ofInt a)≠0)).bind fun u=>if((decide (A1s=0))&&(decide (A1t=0)))=true then(uk c d e a f A1s A1t A1u b j A1u) else(uk c d e a f A1s A1t A1u b j (ax ((jC j ((32:UInt64).toNat)) % (UInt64.ofInt a)).toNat))
def BH (c b a:AC):Option Bool :=
  if(c.length:Int)≠1024 then(some false) else(if(b.length:Int)≠1024 then(some false) else(if(a.length:Int)≠1024 then(some false) else(some true)))
def GL (c a:AC):UV->Option (UV⊕UV)
  | (b,kY)=>if kY < ((Int.toNat (1024:Int):Nat):Int) then((aP c kY).bind fun e=>(aP a kY).bind fun d=>(aP b kY).bind fun oG=>some (.inl (b.set (Int.toNat kY) (e^^^d),ax (kY+1)))) else(Option.map Sum.inr (some (b,0)))
def Gl (b a:AC):Option UV :=
  (zu b a).bind fun c=>if(!c)=true then(some (([]:AC),1)) else(aT (GL b a) (List.replicate (Int.toNat 1024) 0,0))
def Ea (c b a:AC):Option UV :=
  (BH c b a).bind fun e=>if(!e)=true then(some (([]:AC),1)) else((yA c b).bind fun f=>(Gl f.1 a).bind fun d=>some (d.1,d.2))
def jX (b:Int)(a:List (List (Vec UInt8 1024))):Option ((List (List (Vec UInt8 1024))×Int)⊕(Int×Int×Int×Int×Int×List (List (Vec UInt8 1024)))) :=
  some (.inl (a,ax (b+1)))
def pF (g i j h f A1s A1t A1u a:Int)(w:A01)(b:List (Vec UInt8 1024)):(List (List (Vec UInt8 1024))×Int)->Option ((List (List (Vec UInt8 1024))×Int)⊕(Int×Int×Int×Int×Int×List (List (Vec UInt8 1024))))
  | (m_,aN)=>if aN < a then(if((decide (A1s=0))&&(decide ((ax ((ax (A1t*a))+aN)) < 2)))=true then(jX aN m_) else((aP m_ A1u).bind fun c=>(need ((b.length:Int)≠0)).bind fun u=>(aP c (Int.tmod (ax ((ax ((ax ((ax (A1t*a))+aN))+(b.length:Int))) - 1)) (b.length:Int))).bind fun e=>(Iw e.l 0 8).bind fun t=>(mQ t 0).bind fun bY=>(aP w aN).bind fun n=>(zy g i j h f A1s A1t A1u aN n).bind fun d=>if A1s=0 then((aP m_ d.1).bind fun s=>(aP s d.2).bind fun x=>(yA e.l x.l).bind fun q=>(Et 1024 q.1).bind fun v=>(aP c (ax ((ax (A1t*a))+aN))).bind fun rE=>jX aN (m_.set (Int.toNat A1u) (c.set (Int.toNat (ax ((ax (A1t*a))+aN))) v))) else((aP m_ d.1).bind fun r=>(aP r d.2).bind fun k=>(aP c (ax ((ax (A1t*a))+aN))).bind fun o=>(Ea e.l k.l o.l).bind fun p=>(Et 1024 p.1).bind fun m=>(aP c (ax ((ax (A1t*a))+aN))).bind fun qZ=>jX aN (m_.set (Int.toNat A1u) (c.set (Int.toNat (ax ((ax (A1t*a))+aN))) m))))) else(Option.map Sum.inr (some (g,i,j,h,f,m_)))
def jY (a:Int)(b:List (List (Vec UInt8 1024))):Option ((List (List (Vec UInt8 1024))×Int)⊕(Int×Int×Int×Int×Int×List (List (Vec UInt8 1024)))) :=
  some (.inl (b,ax (a+1)))
def pG (g i j h f A1s A1t A1u a:Int)(d:List (Vec UInt8 1024)):(List (List (Vec UInt8 1024))×Int)->Option ((List (List (Vec UInt8 1024))×Int)⊕(Int×Int×Int×Int×Int×List (List (Vec UInt8 1024))))
  | (Md,jV)=>if jV < a then(if((decide (A1s=0))&&(decide ((ax ((ax (A1t*a))+jV)) < 2)))=true then(jY jV Md) else((aP Md A1u).bind fun b=>(need ((d.length:Int)≠0)).bind fun u1=>(aP b (Int.tmod (ax ((ax ((ax ((ax (A1t*a))+jV))+(d.length:Int))) - 1)) (d.length:Int))).bind fun e=>(Iw e.l 0 8).bind fun p=>(mQ p 0).bind fun m=>(zy g i j h f A1s A1t A1u jV m.1).bind fun c=>if A1s=0 then((aP Md c.1).bind fun o=>(aP o c.2).bind fun k=>(yA e.l k.l).bind fun t=>(Et 1024 t.1).bind fun v2=>(aP b (ax ((ax (A1t*a))+jV))).bind fun CO=>jY jV (Md.set (Int.toNat A1u) (b.set (Int.toNat (ax ((ax (A1t*a))+jV))) v2))) else((aP Md c.1).bind fun n=>(aP n c.2).bind fun q=>(aP b (ax ((ax (A1t*a))+jV))).bind fun r=>(Ea e.l q.l r.l).bind fun s=>(Et 1024 s.1).bind fun v3=>(aP b (ax ((ax (A1t*a))+jV))).bind fun TM=>jY jV (Md.set (Int.toNat A1u) (b.set (Int.toNat (ax ((ax (A1t*a))+jV))) v3))))) else(Option.map Sum.inr (some (g,i,j,h,f,Md)))
def sQ (a f g e d:Int)(c:List (List (Vec UInt8 1024)))(A1s A1t A1u h:Int):Option (Int×Int×Int×Int×Int×List (List (Vec UInt8 1024))) :=
  if((decide (a=1))||(((decide (a=2))&&(decide (A1s=0)))&&(decide (A1t < 2))))=true then((wE a f g e d A1s A1t A1u).bind fun j=>(aP c A1u).bind fun b=>aT (pF a f g e d A1s A1t A1u h j b) (c,0)) else((aP c A1u).bind fun i=>aT (pG a f g e d A1s A1t A1u h i) (c,0))
def sD (b d e c a:Int)(g:List (List (Vec UInt8 1024)))(A1s A1t A1u:Int):Option (Int×Int×Int×Int×Int×List (List (Vec UInt8 1024))) :=
  (ou b d e c a).bind fun f=>sQ b d e c a g A1s A1t A1u f
def wG (A1u e h g f d:Int)(c:List (List (Vec UInt8 1024)))(p b:Int):Option (Int×Int×Int×Int×Int×List (List (Vec UInt8 1024))×Int×Int) :=
  (sD e h g f d c p b A1u).bind fun a=>some (a.1,a.2.1,a.2.2.1,a.2.2.2.1,a.2.2.2.2.1,a.2.2.2.2.2,p,b)
def wH (b:Int):(Int×Int×Int×Int×Int×List (List (Vec UInt8 1024))×Int×Int×Int)->Option ((Int×Int×Int×Int×Int×List (List (Vec UInt8 1024))×Int×Int×Int)⊕(Int×Int×Int×Int×Int×List (List (Vec UInt8 1024))×Int×Int))
  | (one2,one3,one4,one5,one6,one7,one8,one9,aN)=>if aN < b then((wG aN one2 one3 one4 one5 one6 one7 one8 one9).bind fun a=>some (.inl (a.1,a.2.1,a.2.2.1,a.2.2.2.1,a.2.2.2.2.1,a.2.2.2.2.2.1,a.2.2.2.2.2.2.1,a.2.2.2.2.2.2.2,ax (aN+1)))) else(Option.map Sum.inr (some (one2,one3,one4,one5,one6,one7,one8,one9)))
def Az (a e h g f d:Int)(c:List (List (Vec UInt8 1024)))(one b:Int):Option (Int×Int×Int×Int×Int×List (List (Vec UInt8 1024))×Int×Int) :=
  aT (wH a) (e,h,g,f,d,c,one,b,0)
def nS (b:Int):(Int×Int×Int×Int×Int×List (List (Vec UInt8 1024))×Int×Int)->Option ((Int×Int×Int×Int×Int×List (List (Vec UInt8 1024))×Int×Int)⊕((Int×Int×Int×Int×Int×List (List (Vec UInt8 1024))×Int)⊕(Int×Int×Int×Int×Int×List (List (Vec UInt8 1024)))))
  | (m_6,m_7,m_8,m_9,m_10,m_11,A1s,oG)=>if oG < 4 then((Az m_9 m_6 m_7 m_8 m_9 m_10 m_11 A1s oG).bind fun a=>some (.inl (a.1,a.2.1,a.2.2.1,a.2.2.2.1,a.2.2.2.2.1,a.2.2.2.2.2.1,a.2.2.2.2.2.2.1,ax (oG+1)))) else(Option.map Sum.inr (some (.inl (m_6,m_7,m_8,m_9,m_10,m_11,ax (b+1)))))
def qh (a:Int):(Int×Int×Int×Int×Int×List (List (Vec UInt8 1024))×Int)->Option ((Int×Int×Int×Int×Int×List (List (Vec UInt8 1024))×Int)⊕(Int×Int×Int×Int×Int×List (List (Vec UInt8 1024))))
  | (m_,zU,Md,TA,m_4,m_5,aN)=>if aN < a then(aT (nS aN) (m_,zU,Md,TA,m_4,m_5,aN,0)) else(Option.map Sum.inr (some (m_,zU,Md,TA,m_4,m_5)))
def uC (d f a e c:Int)(b:List (List (Vec UInt8 1024))):Option (Int×Int×Int×Int×Int×List (List (Vec UInt8 1024))) :=
  aT (qh a) (d,f,a,e,c,b,0)
def uT (e g h f c:Int)(a:List (List (Vec UInt8 1024))):(Vec UInt8 1024×Int)->Option ((Vec UInt8 1024×Int)⊕(AC×Int×Int×Int×Int×Int×List (List (Vec UInt8 1024))))
  | (aN,tZ)=>if tZ < (a.length:Int) then((aP a tZ).bind fun b=>(aP b (ax ((b.length:Int) - 1))).bind fun j=>(Gl aN.l j.l).bind fun d=>(Et 1024 d.1).bind fun v=>some (.inl (v,ax (tZ+1)))) else(Option.map Sum.inr ((D9 c aN.l).bind fun i=>some (i.1,e,g,h,f,c,a)))
def uD (c e f d b:Int)(a:List (List (Vec UInt8 1024))):Option (AC×Int×Int×Int×Int×Int×List (List (Vec UInt8 1024))) :=
  aT (uT c e f d b a) ((Vec.rep 1024 0),0)
def EU (d e g f h:Int)(A1s aO A1x A27:AC):Option UV :=
  (qN d e g f h A1s aO A1x A27).bind fun c=>if c.2≠0 then(some (([]:AC),c.2)) else((CP d e g f h c.1).bind fun b=>(uC b.1 b.2.1 b.2.2.1 b.2.2.2.1 b.2.2.2.2.1 b.2.2.2.2.2).bind fun a=>(uD a.1 a.2.1 a.2.2.1 a.2.2.2.1 a.2.2.2.2.1 a.2.2.2.2.2).bind fun i=>some (i.1,0))
def wI (b c e d f:Int)(A1s aO A1x A27:AC):Option UV :=
  (EU b c e d f A1s aO A1x A27).bind fun a=>some (a.1,a.2)
def AA (b c e d g:Int)(h aO:AC):Option UV :=
  (wI b c e d g h aO ([]:AC) ([]:AC)).bind fun a=>if a.2≠0 then(some (([]:AC),a.2)) else((Ew b c e d g aO a.1).bind fun f=>some (f.1,f.2))
def BI (a b d c e:Int)(A1s aO A1x A27:AC):A04 :=
  (qP a b d c e).bind fun f=>if f≠0 then(some 200) else(if 65536 < (A1s.length:Int) then(some 2) else((vW a b d c e aO).bind fun g=>if g≠0 then(some 201) else(if((decide (64 < (A1x.length:Int)))||(decide (1024 < (A27.length:Int))))=true then(some 2) else(some 0))))
def pM (n:Int):Option AC :=
  (tJ (UInt64.ofInt n) 4).bind fun a=>some a
def LG (a n:Int)(b:AC):Option UV :=
  (MR a n ([]:AC) ([]:AC) ([]:AC) b).bind fun c=>some (c.1,c.2)
def AB (a c e d f:Int)(A1s aO A1x A27:AC):Option UV :=
  (BI a c e d f A1s aO A1x A27).bind fun k=>if k≠0 then(some (([]:AC),k)) else((aP ([d,f,c,e,19,a]:List Int) 0).bind fun H=>(pM H).bind fun I=>(app ([]:AC) I 1).bind fun b=>(aP ([d,f,c,e,19,a]:List Int) 1).bind fun u=>(pM u).bind fun x=>(app b x 1).bind fun G=>(aP ([d,f,c,e,19,a]:List Int) 2).bind fun t=>(pM t).bind fun w=>(app G w 1).bind fun F=>(aP ([d,f,c,e,19,a]:List Int) 3).bind fun q=>(pM q).bind fun v=>(app F v 1).bind fun E=>(aP ([d,f,c,e,19,a]:List Int) 4).bind fun p=>(pM p).bind fun s=>(app E s 1).bind fun D=>(aP ([d,f,c,e,19,a]:List Int) 5).bind fun o=>(pM o).bind fun r=>(app D r 1).bind fun C=>(pM (A1s.length:Int)).bind fun m=>(app C m 1).bind fun B=>(app B A1s 1).bind fun A=>(pM (aO.length:Int)).bind fun K=>(app A K 1).bind fun z=>(app z aO 1).bind fun y=>(pM (A1x.length:Int)).bind fun J=>(app y J 1).bind fun j=>(app j A1x 1).bind fun i=>(pM (A27.length:Int)).bind fun n=>(app i n 1).bind fun h=>(app h A27 1).bind fun g=>(LG 1 64 g).bind fun l=>some (l.1,l.2))
def tK (d c e a f:Int):Option A05 :=
  (qP d c e a f).bind fun b=>if b≠0 then(some (0,b)) else((need ((ax (4*a))≠0)).bind fun u=>some (ax ((ax (Int.tdiv c (ax (4*a))))*4),0))
def wJ (n:Int)(b:AC):Option AC :=
  (Aw 1 n 0 1 1 0 0 0 0 0 ([]:AC) ([]:AC) ([]:AC) false n b).bind fun a=>some a.1
def zA  : (AC×Int×AC)->Option ((AC×Int×AC)⊕UV)
  | (out,left,v)=>if 96 < left then((Iw v 0 32).bind fun b=>(app out b 1).bind fun c=>(wJ 64 v).bind fun e=>some (.inl (c,ax (left - 32),e))) else(Option.map Sum.inr ((Iw v 0 32).bind fun g=>(app out g 1).bind fun a=>(wJ (ax (left - 32)) v).bind fun d=>(app a d 1).bind fun f=>some (f,0)))
def CV (a:Int)(b:AC):UV->Option (UV⊕UV)
  | (s_,i)=>if i < (b.length:Int) then((aP b i).bind fun d=>(app s_ ([d]:AC) 1).bind fun f=>some (.inl (f,ax (i+1)))) else(Option.map Sum.inr (if a<=64 then((wJ a s_).bind fun e=>some (e,0)) else((wJ 64 s_).bind fun c=>aT (zA) (([]:AC),a,c))))
def Gm (a:Int)(b:AC):Option UV :=
  if((decide (a < 1))||(decide (1048576 < a)))=true then(some (([]:AC),1)) else((tJ (UInt64.ofInt a) 4).bind fun c=>aT (CV a b) (c,0))
def zB (b c e d f:Int):A04 :=
  (tK b c e d f).bind fun a=>some (ax (Int.tdiv a.1 4))
def Ja (c a:AC):UV->Option (UV⊕UV)
  | (b,i)=>if i < 1024 then((aP c i).bind fun e=>(aP a i).bind fun d=>(app b ([e^^^d]:AC) 1).bind fun f=>some (.inl (f,ax (i+1)))) else(Option.map Sum.inr (some (b,0)))
def BJ (b a:AC):Option UV :=
  if((decide ((b.length:Int)≠1024))||(decide ((a.length:Int)≠1024)))=true then(some (([]:AC),1)) else(aT (Ja b a) (([]:AC),0))
def Gn (a b:UInt64):Option UInt64 :=
  some (((2:UInt64)*(a % 4294967296))*(b % 4294967296))
def Hy (e b c d:UInt64):Option (Vec UInt64 4) :=
  (Gn e b).bind fun f=>(mr (d^^^((e+b)+f)) 32).bind fun a=>(Gn c a).bind fun i=>(mr (b^^^((c+a)+i)) 24).bind fun h=>(Gn ((e+b)+f) h).bind fun k=>(mr (a^^^((((e+b)+f)+h)+k)) 16).bind fun g=>(Gn ((c+a)+i) g).bind fun j=>(mr (h^^^((((c+a)+i)+g)+j)) 63).bind fun l=>some (⟨[(((e+b)+f)+h)+k,l,(((c+a)+i)+g)+j,g],rfl⟩:Vec UInt64 4)
def tN (i:Int)(b:(Vec Int 4))(d:Vec UInt64 4):(Vec UInt64 16×Int)->Option ((Vec UInt64 16×Int)⊕((Vec UInt64 16×Int)⊕(Vec UInt64 16)))
  | (v2,fZ)=>if fZ < 4 then((aP b.l fZ).bind fun a=>(aP d.l fZ).bind fun c=>(aP v2.l a).bind fun vC=>(some (oP v2 a c)).bind fun v3=>some (.inl (v3,ax (fZ+1)))) else(Option.map Sum.inr (some (.inl (v2,ax (i+1)))))
def GM (a:Vec UInt64 16)(i:Int)(b:(Vec Int 4))(c:Vec UInt64 4):Option ((Vec UInt64 16×Int)⊕(Vec UInt64 16)) :=
  aT (tN i b c) (a,0)
def GN  : (Vec UInt64 16×Int)->Option ((Vec UInt64 16×Int)⊕(Vec UInt64 16))
  | (v1,i)=>if i < 8 then((BB i).bind fun a=>(aP a.l 0).bind fun k=>(aP v1.l k).bind fun b=>(aP a.l 1).bind fun h=>(aP v1.l h).bind fun g=>(aP a.l 2).bind fun f=>(aP v1.l f).bind fun e=>(aP a.l 3).bind fun d=>(aP v1.l d).bind fun c=>(Hy b g e c).bind fun j=>GM v1 i a j) else(Option.map Sum.inr (some v1))
def JF (v:Vec UInt64 16):Option (Vec UInt64 16) :=
  aT (GN) (v,0)
def EW (a:Vec Int 16)(c:(Vec UInt64 16)):(A01×Int)->Option ((A01×Int)⊕A01)
  | (z1,iF)=>if iF < 16 then((aP a.l iF).bind fun b=>(aP c.l iF).bind fun d=>(aP z1 b).bind fun ni=>some (.inl (z1.set (Int.toNat b) d,ax (iF+1)))) else(Option.map Sum.inr (some z1))
def Jb (z:A01)(a:Vec Int 16):(Vec UInt64 16×Int)->Option ((Vec UInt64 16×Int)⊕A01)
  | (v,b_)=>if b_ < 16 then((aP a.l b_).bind fun e=>(aP z e).bind fun b=>(aP v.l b_).bind fun jE=>(some (oP v b_ b)).bind fun c=>some (.inl (c,ax (b_+1)))) else(Option.map Sum.inr ((JF v).bind fun d=>aT (EW a d) (z,0)))
def Jo (z:A01)(a:Vec Int 16):Option A01 :=
  aT (Jb z a) ((Vec.rep 16 0),0)
def EX (z2:A01)(a:Int):(Vec Int 16×Int)->Option ((Vec Int 16×Int)⊕((A01×Int)⊕UV))
  | (at_,dW)=>if dW < 16 then((aP at_.l dW).bind fun kY=>(some (oP at_ dW (ax ((ax (16*a))+dW)))).bind fun v=>some (.inl (v,ax (dW+1)))) else(Option.map Sum.inr ((Jo z2 at_).bind fun b=>some (.inl (b,ax (a+1)))))
def EY (z3:A01)(i2:Int):(Vec Int 16×Int)->Option ((Vec Int 16×Int)⊕((A01×Int)⊕UV))
  | (Zb,kR)=>if kR < 16 then((aP Zb.l kR).bind fun mX=>(some (oP Zb kR (ax ((ax ((ax (2*i2))+(ax (16*(ax (Int.tdiv kR 2))))))+(Int.tmod kR 2))))).bind fun a=>some (.inl (a,ax (kR+1)))) else(Option.map Sum.inr ((Jo z3 Zb).bind fun b=>some (.inl (b,ax (i2+1)))))
def EZ (c:UV)(z3:A01):UV->Option (UV⊕UV)
  | (b,i3)=>if i3 < 128 then((aP z3 i3).bind fun d=>(tJ d 8).bind fun e=>(app b e 1).bind fun f=>some (.inl (f,ax (i3+1)))) else(Option.map Sum.inr ((BJ c.1 b).bind fun a=>some (a.1,a.2)))
def E5 (a:UV):(A01×Int)->Option ((A01×Int)⊕UV)
  | (z3,i2)=>if i2 < 8 then(aT (EY z3 i2) ((Vec.rep 16 0),0)) else(Option.map Sum.inr (aT (EZ a z3) (([]:AC),0)))
def BK (a:UV):(A01×Int)->Option ((A01×Int)⊕UV)
  | (z2,i1)=>if i1 < 8 then(aT (EX z2 i1) ((Vec.rep 16 0),0)) else(Option.map Sum.inr (aT (E5 a) (z2,0)))
def Jc (a:UV):(A01×Int)->Option ((A01×Int)⊕UV)
  | (z,i)=>if i < 128 then((wV a.1 (ax (8*i)) 8).bind fun c=>(app z ([c.1]:A01) 8).bind fun b=>some (.inl (b,ax (i+1)))) else(Option.map Sum.inr (aT (BK a) (z,0)))
def Gp (c b:AC):Option UV :=
  (BJ c b).bind fun a=>if a.2≠0 then(some (([]:AC),a.2)) else(aT (Jc a) (([]:A01),0))
def xM  : (AC)->Option (AC⊕AC)
  | b2=>if(b2.length:Int) < 1024 then((app b2 ([0]:AC) 1).bind fun b=>some (.inl b)) else(Option.map Sum.inr ((Gp (List.replicate (Int.toNat 1024) 0) b2).bind fun c=>(Gp (List.replicate (Int.toNat 1024) 0) c.1).bind fun a=>some a.1))
def BL (d f e A1s A1t A1u A1w n:Int):UV->A0A
  | (b,i)=>if i < (7:Int) then((aP ([A1s,A1u,A1t,ax (e*A1w),f,d,n]:List Int) i).bind fun g=>(tJ (UInt64.ofInt g) 8).bind fun a=>(app b a 1).bind fun c=>some (.inl (c,ax (i+1)))) else(Option.map Sum.inr (aT (xM) b))
def CW (a ah c b aA A1s A1t A1u A1w n:Int):Option AC :=
  aT (BL a c b A1s A1t A1u A1w n) (([]:AC),0)
def yB (c:Int)(a:A01)(b:AC):Option ((A01×AC×Int)⊕(A01×Int)) :=
  some (.inl (a,b,ax (c+1)))
def qE (b:A01)(d:Int)(c:AC):Option ((A01×AC×Int)⊕(A01×Int)) :=
  (wV c (ax (8*(Int.tmod d 128))) 8).bind fun e=>(app b ([e.1]:A01) 8).bind fun a=>yB d a c
def yC (a c e d f A1s A1t A1u:Int)(i:A05):(A01×AC×Int)->Option ((A01×AC×Int)⊕(A01×Int))
  | (out,b,aN)=>(zB a c e d f).bind fun h=>if aN < h then(if(Int.tmod aN 128)=0 then((CW a c e d f A1s A1t A1u i.1 (ax ((ax (Int.tdiv aN 128))+1))).bind fun g=>qE out aN g) else(qE out aN b)) else(Option.map Sum.inr (some (out,0)))
def yV (c d b a e A1s A1t A1u:Int):Option (A01×Int) :=
  (qP c d b a e).bind fun f=>if f≠0 then(some (([]:A01),f)) else(if((((((decide (A1s < 0))||(decide (b<=A1s)))||(decide (A1t < 0)))||(decide (3 < A1t)))||(decide (A1u < 0)))||(decide (a<=A1u)))=true then(some (([]:A01),1)) else((tK c d b a e).bind fun g=>aT (yC c d b a e A1s A1t A1u g) (([]:A01),([]:AC),0)))
def xN (j:UInt64)(a l b A1y:Int):Option A0B :=
  (need ((ax (4*a))≠0)).bind fun u1=>some (l,Int.tmod (ax ((ax ((ax (A1y+b)) - 1)) - (ax (jC ((UInt64.ofInt b)*(jC ((j % 4294967296)*(j % 4294967296)) ((32:UInt64).toNat))) ((32:UInt64).toNat)).toNat))) (ax (4*a)),0)
def uF (A1s A1t:Int)(j:UInt64)(a l b:Int):Option A0B :=
  if((decide (0 < A1s))&&(decide (A1t < 3)))=true then(xN j a l b (ax ((ax (A1t+1))*a))) else(xN j a l b 0)
def xO (A1s A1t A1u c:Int)(j:UInt64)(b l a:Int):Option A0B :=
  if l=A1u then(uF A1s A1t j b l (ax ((ax (a+c)) - 1))) else(if c=0 then(uF A1s A1t j b l (ax (a - 1))) else(uF A1s A1t j b l a))
def xP (A1s A1t A1u b:Int)(j:UInt64)(a l:Int):Option A0B :=
  if A1s=0 then(xO A1s A1t A1u b j a l (ax (A1t*a))) else(xO A1s A1t A1u b j a l (ax (3*a)))
def Hz (f g c b h A1s A1t A1u a:Int)(j:UInt64):Option A0B :=
  (qP f g c b h).bind fun e=>if e≠0 then(some (0,0,e)) else((zB f g c b h).bind fun d=>if(((((((((decide (A1s < 0))||(decide (c<=A1s)))||(decide (A1t < 0)))||(decide (3 < A1t)))||(decide (A1u < 0)))||(decide (b<=A1u)))||(decide (a < 0)))||(decide (d<=a)))||(((decide (A1s=0))&&(decide (A1t=0)))&&(decide (a < 2))))=true then(some (0,0,1)) else((need ((UInt64.ofInt b)≠0)).bind fun u=>if((decide (A1s=0))&&(decide (A1t=0)))=true then(xP A1s A1t A1u a j d A1u) else(xP A1s A1t A1u a j d (ax ((jC j ((32:UInt64).toNat)) % (UInt64.ofInt b)).toNat))))
def CX (a:Int)(b:A02):Option (A08⊕A02) :=
  some (.inl (b,ax (a+1)))
def zC (a:Int)(b:A02):Option (A08⊕A02) :=
  CX a b
def zD (A1t A1u A1w:Int)(b:A02)(a:Int)(c:AC):Option (A08⊕A02) :=
  (aP b (ax ((ax (A1u*A1w))+(ax ((ax (A1t*(ax (Int.tdiv A1w 4))))+a))))).bind fun b4=>zC a (b.set (Int.toNat (ax ((ax (A1u*A1w))+(ax ((ax (A1t*(ax (Int.tdiv A1w 4))))+a))))) c)
def wW (i k m l n A1s A1t A1u A1w:Int)(a:A02)(c:Int)(b:AC)(j:UInt64):Option (A08⊕A02) :=
  (Hz i k m l n A1s A1t A1u c j).bind fun e=>(aP a (ax ((ax (e.1*A1w))+e.2.1))).bind fun h=>(Gp b h).bind fun d=>if 0 < A1s then((aP a (ax ((ax (A1u*A1w))+(ax ((ax (A1t*(ax (Int.tdiv A1w 4))))+c))))).bind fun g=>(BJ d.1 g).bind fun f=>zD A1t A1u A1w a c f.1) else(zD A1t A1u A1w a c d.1)
def CY (c e g f h A1s A1t A1u A1w:Int)(a:A01):A08->Option (A08⊕A02)
  | (zU,aN)=>if aN < (ax (Int.tdiv A1w 4)) then(if(((decide (A1s=0))&&(decide (A1t=0)))&&(decide (aN < 2)))=true then(zC aN zU) else((need (A1w≠0)).bind fun u=>(aP zU (ax ((ax (A1u*A1w))+(Int.tmod (ax ((ax ((ax ((ax (A1t*(ax (Int.tdiv A1w 4))))+aN))+A1w)) - 1)) A1w)))).bind fun b=>if((decide (c=0))||((decide (c=2))&&((decide (0 < A1s))||(decide (1 < A1t)))))=true then((wV b 0 8).bind fun i=>wW c e g f h A1s A1t A1u A1w zU aN b i.1) else((aP a aN).bind fun d=>wW c e g f h A1s A1t A1u A1w zU aN b d))) else(Option.map Sum.inr (some zU))
def zF (c d f e g:Int)(b:A02)(A1s A1t A1u A1w:Int)(a:A01):Option A02 :=
  aT (CY c d f e g A1s A1t A1u A1w a) (b,0)
def JG (a b d c e:Int)(f:A02)(A1s A1t A1u A1w:Int):Option A02 :=
  if(!((decide (a=0))||((decide (a=2))&&((decide (0 < A1s))||(decide (1 < A1t))))))=true then((yV a b d c e A1s A1t A1u).bind fun g=>zF a b d c e f A1s A1t A1u A1w g.1) else(zF a b d c e f A1s A1t A1u A1w ([]:A01))
def zG (A1y:AC)(a:A05)(A1u:Int):A08->Option (A08⊕(A08⊕A08))
  | (zU,c2)=>if c2 < 2 then((app ([]:AC) A1y 1).bind fun b=>(pM c2).bind fun g=>(app b g 1).bind fun f=>(pM A1u).bind fun d=>(app f d 1).bind fun e=>(Gm 1024 e).bind fun c=>(aP zU (ax ((ax (A1u*a.1))+c2))).bind fun b3=>some (.inl (zU.set (Int.toNat (ax ((ax (A1u*a.1))+c2))) c.1,ax (c2+1)))) else(Option.map Sum.inr (some (.inl (zU,ax (A1u+1)))))
def zH (d e f a g:Int)(b:A05)(A1s A1t:Int):A08->Option (A08⊕(A08⊕(A08⊕A08)))
  | (m_4,Qg)=>if Qg < a then((JG d e f a g m_4 A1s A1t Qg b.1).bind fun c=>some (.inl (c,ax (Qg+1)))) else(Option.map Sum.inr (some (.inl (m_4,ax (A1t+1)))))
def zI (b c e d f:Int)(a:A05)(A1s:Int):A08->Option (A08⊕(A08⊕A08))
  | (TA,A1t)=>if A1t < 4 then(aT (zH b c e d f a A1s A1t) (TA,0)) else(Option.map Sum.inr (some (.inl (TA,ax (A1s+1)))))
def zJ (c d a e f:Int)(b:A05):A08->Option (A08⊕A08)
  | (Md,A1s)=>if A1s < a then(aT (zI c d a e f b A1s) (Md,0)) else(Option.map Sum.inr (some (Md,0)))
def CZ (c d e b f:Int)(A1y:AC)(a:A05):A08->Option (A08⊕A08)
  | (m_,A1u)=>if A1u < b then(aT (zG A1y a A1u) (m_,0)) else(Option.map Sum.inr (aT (zJ c d e b f a) (m_,0)))
def JH (c d e b f:Int)(A1y:AC):Option A08 :=
  (tK c d e b f).bind fun a=>if a.2≠0 then(some (([]:A02),a.2)) else(if(A1y.length:Int)≠64 then(some (([]:A02),1)) else((need ((0:Int)<=ax (b*a.1)/\(ax (b*a.1):Int)<=ax (b*a.1)/\Int.toNat (ax (b*a.1))*24<=140737488355328)).bind fun u=>aT (CZ c d e b f A1y a) (List.replicate (Int.toNat (ax (b*a.1))) ([]:AC),0)))
def GR (f h:Int)(g:A08)(c:A05):UV->Option (UV⊕UV)
  | (b,A1u)=>if A1u < f then((aP g.1 (ax ((ax ((ax (A1u*c.1))+c.1)) - 1))).bind fun e=>(BJ b e).bind fun d=>some (.inl (d.1,ax (A1u+1)))) else(Option.map Sum.inr ((Gm h b).bind fun a=>some (a.1,a.2)))
def uG (d e f a b:Int)(A1s aO A1x A27:AC):Option UV :=
  (AB d e f a b A1s aO A1x A27).bind fun c=>if c.2≠0 then(some (([]:AC),c.2)) else((JH d e f a b c.1).bind fun h=>(tK d e f a b).bind fun g=>aT (GR a b h g) (List.replicate (Int.toNat 1024) 0,0))
def DF (c d f e h:Int)(a aO:AC):Option UV :=
  (uG c d f e h a aO ([]:AC) ([]:AC)).bind fun b=>if b.2≠0 then(some (([]:AC),b.2)) else((G9 c d f e h aO b.1).bind fun g=>some (g.1,g.2))
def KF (a b:AC):Option Bool :=
  some (decide (a=b))
def E8 (d e g f b:Int)(a A1s aO A1x A27:AC):Option (Bool×Int) :=
  (qN d e g f b A1s aO A1x A27).bind fun c=>if c.2≠0 then(some (false,c.2)) else(if(a.length:Int)≠b then(some (false,60)) else((wI d e g f b A1s aO A1x A27).bind fun h=>(KF h.1 a).bind fun i=>some (i,h.2)))
def C9 (d c:AC):Option (Bool×Int) :=
  (sH d).bind fun a=>if a.2.2.2.2.2.2.2.2≠0 then(some (false,a.2.2.2.2.2.2.2.2)) else((E8 a.1 a.2.1 a.2.2.1 a.2.2.2.1 a.2.2.2.2.1 a.2.2.2.2.2.2.1 c a.2.2.2.2.2.1 ([]:AC) ([]:AC)).bind fun b=>some (b.1,b.2))
def E_ (d b:AC):Option (Bool×Int) :=
  (DX d).bind fun a=>if a.2.2.2.2.2.2.2.2≠0 then(some (false,a.2.2.2.2.2.2.2.2)) else((uG a.1 a.2.1 a.2.2.1 a.2.2.2.1 a.2.2.2.2.1 b a.2.2.2.2.2.1 ([]:AC) ([]:AC)).bind fun c=>if c.2≠0 then(some (false,c.2)) else((Jv c.1 a.2.2.2.2.2.2.1).bind fun e=>some (e,0)))
def Fa (h:AC)(b c e d g:Int):Option (Bool×Int) :=
  (sH h).bind fun a=>if a.2.2.2.2.2.2.2.2≠0 then(some (false,a.2.2.2.2.2.2.2.2)) else((sW b c e d g a.2.2.2.2.2.1).bind fun f=>if f≠0 then(some (false,f)) else(some (!(decide (a.1=b)&&(decide (a.2.1=c)&&(decide (a.2.2.1=e)&&(decide (a.2.2.2.1=d)&&(decide (a.2.2.2.2.1=g)&&true))))),0)))
def Ec (h:AC)(b c e d g:Int):Option (Bool×Int) :=
  (DX h).bind fun a=>if a.2.2.2.2.2.2.2.2≠0 then(some (false,a.2.2.2.2.2.2.2.2)) else((vW b c e d g a.2.2.2.2.2.1).bind fun f=>if f≠0 then(some (false,f)) else(some (!(decide (a.1=b)&&(decide (a.2.1=c)&&(decide (a.2.2.1=e)&&(decide (a.2.2.2.1=d)&&(decide (a.2.2.2.2.1=g)&&true))))),0)))
def yX (h k j i g f:Int)(e:UInt64)(b:Mp WF)(name d aO:AC):Option A0C :=
  (jR h k j i g f e b).bind fun a=>(yw name).bind fun l=>if(!l)=true then(some (214,a.1,a.2.1,a.2.2.1,a.2.2.2.1,a.2.2.2.2.1,a.2.2.2.2.2.1,a.2.2.2.2.2.2,b)) else((some ((oz b name).getD (([]:AC),0,0))).bind fun e_=>if((oz b name).isSome)=true then(some (213,a.1,a.2.1,a.2.2.1,a.2.2.2.1,a.2.2.2.2.1,a.2.2.2.2.2.1,a.2.2.2.2.2.2,b)) else(if 1024<=(b.length:Int) then(some (2,a.1,a.2.1,a.2.2.1,a.2.2.2.1,a.2.2.2.2.1,a.2.2.2.2.2.1,a.2.2.2.2.2.2,b)) else((AA a.1 a.2.1 a.2.2.1 a.2.2.2.1 a.2.2.2.2.1 d aO).bind fun c=>if c.2≠0 then(some (c.2,a.1,a.2.1,a.2.2.1,a.2.2.2.1,a.2.2.2.2.1,a.2.2.2.2.2.1,a.2.2.2.2.2.2,b)) else(some (0,a.1,a.2.1,a.2.2.1,a.2.2.2.1,a.2.2.2.2.1,a.2.2.2.2.2.1,a.2.2.2.2.2.2,Dw b name (c.1,0,0))))))
def lq (d:Mp WF)(name:AC)(a:(Int×Int×Int×Int×Int×Int×UInt64))(e_:AC×Int×UInt64)(e:Int)(c:UInt64)(b:Int):Option A0C :=
  some (b,a.1,a.2.1,a.2.2.1,a.2.2.2.1,a.2.2.2.2.1,a.2.2.2.2.2.1,a.2.2.2.2.2.2,Dw d name (e_.1,e,c))
def rO (h l k j g f:Int)(e:UInt64)(b:Mp WF)(name d:AC)(c:UInt64):Option A0C :=
  (jR h l k j g f e b).bind fun a=>(some ((oz b name).getD (([]:AC),0,0))).bind fun e_=>if(!((oz b name).isSome))=true then(some (210,a.1,a.2.1,a.2.2.1,a.2.2.2.1,a.2.2.2.2.1,a.2.2.2.2.2.1,a.2.2.2.2.2.2,b)) else(if c < e_.2.2 then(some (212,a.1,a.2.1,a.2.2.1,a.2.2.2.1,a.2.2.2.2.1,a.2.2.2.2.2.1,a.2.2.2.2.2.2,b)) else((C9 e_.1 d).bind fun i=>if i.1=true then(lq b name a e_ 0 e_.2.2 0) else(if a.2.2.2.2.2.1<=(ax (e_.2.1+1)) then(lq b name a e_ 0 (c+(YK a.2.2.2.2.2.2 ((18446744073709551615:UInt64) - c))) 211) else(lq b name a e_ (ax (e_.2.1+1)) e_.2.2 211))))
end
noncomputable section
def mO (a:A06)(name:AC):Int->Option (Int⊕Int)
  | i=>if i < (a.length:Int) then((aP a i).bind fun b=>if b.1=name then(Option.map Sum.inr (some i)) else(some (.inl (ax (i+1))))) else(Option.map Sum.inr (some (-1:Int)))
def mW (bW bu bz bK dU gy:Int)(fH:UInt64)(a:A06)(name:AC):A04 :=
  aT (mO a name) (0:Int)
def rP (i:Int)(a:A06)(laid1:Bool):Option ((A06×Bool×Int)⊕WP) :=
  some (.inl (a,laid1,ax (i+1)))
def pI (c:A06)(i:Int)(e:A06)(a:Bool):Option ((A06×Bool×Int)⊕WP) :=
  (aP c i).bind fun b=>(app e ([(b.1,b.2.1,b.2.2.1,b.2.2.2)]:A06) 48).bind fun d=>rP i d a
def zW (g f e h d b:Int)(c:UInt64)(a:A06):Option WP :=
  some (0,g,f,e,h,d,b,c,a)
def iU (h f e j d b:Int)(c:UInt64)(a:A06)(name:AC)(g:UV):(A06×Bool×Int)->Option ((A06×Bool×Int)⊕WP)
  | (l,laid,i)=>if i < (a.length:Int) then((IJ (!laid) (aP a i)).bind fun n=>if((!laid)&&(Op.bytesLess name n.1))=true then((app l ([(name,0,0,g.1)]:A06) 48).bind fun m=>pI a i m true) else(pI a i l laid)) else(Option.map Sum.inr (if(!laid)=true then((app l ([(name,0,0,g.1)]:A06) 48).bind fun k=>zW h f e j d b c k) else(zW h f e j d b c l)))
def AL (e d c f b g:Int)(h:UInt64)(a:A06)(name i aO:AC):Option WP :=
  (Jw name).bind fun k=>if(!k)=true then(some (214,e,d,c,f,b,g,h,a)) else((mW e d c f b g h a name).bind fun l=>if 0<=l then(some (213,e,d,c,f,b,g,h,a)) else(if 1024<=(a.length:Int) then(some (2,e,d,c,f,b,g,h,a)) else((DF e d c f b i aO).bind fun j=>if j.2≠0 then(some (j.2,e,d,c,f,b,g,h,a)) else(aT (iU e d c f b g h a name j) (([]:A06),false,0)))))
def nI (g f e h d b:Int)(c:UInt64)(a:A06):Option WP :=
  some (211,g,f,e,h,d,b,c,a)
def um (m l k n j i:Int)(g:UInt64)(c:A06)(name o:AC)(e:UInt64):Option WP :=
  (mW m l k n j i g c name).bind fun a=>if a < 0 then(some (210,m,l,k,n,j,i,g,c)) else((aP c a).bind fun s=>if e < s.2.2.1 then(some (212,m,l,k,n,j,i,g,c)) else((aP c a).bind fun r=>(E_ r.2.2.2 o).bind fun t=>if t.1=true then((aP c a).bind fun p=>some (0,m,l,k,n,j,i,g,c.set (Int.toNat a) (p.1,0,p.2.2.1,p.2.2.2))) else((aP c a).bind fun h=>(aP c a).bind fun b=>(aP (c.set (Int.toNat a) (b.1,ax (h.2.1+1),b.2.2.1,b.2.2.2)) a).bind fun v=>if i<=v.2.1 then((aP (c.set (Int.toNat a) (b.1,ax (h.2.1+1),b.2.2.1,b.2.2.2)) a).bind fun d=>(aP ((c.set (Int.toNat a) (b.1,ax (h.2.1+1),b.2.2.1,b.2.2.2)).set (Int.toNat a) (d.1,0,d.2.2.1,d.2.2.2)) a).bind fun f=>(aP (((c.set (Int.toNat a) (b.1,ax (h.2.1+1),b.2.2.1,b.2.2.2)).set (Int.toNat a) (d.1,0,d.2.2.1,d.2.2.2)).set (Int.toNat a) (f.1,f.2.1,e+g,f.2.2.2)) a).bind fun u=>if u.2.2.1 < e then((aP (((c.set (Int.toNat a) (b.1,ax (h.2.1+1),b.2.2.1,b.2.2.2)).set (Int.toNat a) (d.1,0,d.2.2.1,d.2.2.2)).set (Int.toNat a) (f.1,f.2.1,e+g,f.2.2.2)) a).bind fun q=>nI m l k n j i g ((((c.set (Int.toNat a) (b.1,ax (h.2.1+1),b.2.2.1,b.2.2.2)).set (Int.toNat a) (d.1,0,d.2.2.1,d.2.2.2)).set (Int.toNat a) (f.1,f.2.1,e+g,f.2.2.2)).set (Int.toNat a) (q.1,q.2.1,18446744073709551615,q.2.2.2))) else(nI m l k n j i g (((c.set (Int.toNat a) (b.1,ax (h.2.1+1),b.2.2.1,b.2.2.2)).set (Int.toNat a) (d.1,0,d.2.2.1,d.2.2.2)).set (Int.toNat a) (f.1,f.2.1,e+g,f.2.2.2)))) else(nI m l k n j i g (c.set (Int.toNat a) (b.1,ax (h.2.1+1),b.2.2.1,b.2.2.2))))))
def uH (i l k j h g:Int)(f:UInt64)(m:Mp WF)(name b e aO:AC)(c:UInt64):Option A0C :=
  (rO i l k j h g f m name b c).bind fun a=>if a.1≠0 then(some (a.1,a.2.1,a.2.2.1,a.2.2.2.1,a.2.2.2.2.1,a.2.2.2.2.2.1,a.2.2.2.2.2.2.1,a.2.2.2.2.2.2.2.1,a.2.2.2.2.2.2.2.2)) else((AA a.2.1 a.2.2.1 a.2.2.2.1 a.2.2.2.2.1 a.2.2.2.2.2.1 e aO).bind fun d=>if d.2≠0 then(some (d.2,a.2.1,a.2.2.1,a.2.2.2.1,a.2.2.2.2.1,a.2.2.2.2.2.1,a.2.2.2.2.2.2.1,a.2.2.2.2.2.2.2.1,a.2.2.2.2.2.2.2.2)) else((some ((oz a.2.2.2.2.2.2.2.2 name).getD (([]:AC),0,0))).bind fun e_=>some (0,a.2.1,a.2.2.1,a.2.2.2.1,a.2.2.2.2.1,a.2.2.2.2.2.1,a.2.2.2.2.2.2.1,a.2.2.2.2.2.2.2.1,Dw a.2.2.2.2.2.2.2.2 name (d.1,e_.2.1,e_.2.2))))
def wK (n m l o k i:Int)(j:UInt64)(h:A06)(name c b aO:AC)(d:UInt64):Option WP :=
  (um n m l o k i j h name c d).bind fun a=>if a.1≠0 then(some (a.1,a.2.1,a.2.2.1,a.2.2.2.1,a.2.2.2.2.1,a.2.2.2.2.2.1,a.2.2.2.2.2.2.1,a.2.2.2.2.2.2.2.1,a.2.2.2.2.2.2.2.2)) else((DF a.2.1 a.2.2.1 a.2.2.2.1 a.2.2.2.2.1 a.2.2.2.2.2.1 b aO).bind fun f=>if f.2≠0 then(some (f.2,a.2.1,a.2.2.1,a.2.2.2.1,a.2.2.2.2.1,a.2.2.2.2.2.1,a.2.2.2.2.2.2.1,a.2.2.2.2.2.2.2.1,a.2.2.2.2.2.2.2.2)) else((mW a.2.1 a.2.2.1 a.2.2.2.1 a.2.2.2.2.1 a.2.2.2.2.2.1 a.2.2.2.2.2.2.1 a.2.2.2.2.2.2.2.1 a.2.2.2.2.2.2.2.2 name).bind fun g=>(aP a.2.2.2.2.2.2.2.2 g).bind fun e=>some (0,a.2.1,a.2.2.1,a.2.2.2.1,a.2.2.2.2.1,a.2.2.2.2.2.1,a.2.2.2.2.2.2.1,a.2.2.2.2.2.2.2.1,a.2.2.2.2.2.2.2.2.set (Int.toNat g) (e.1,e.2.1,e.2.2.1,f.1))))
def uI (f i h g e d:Int)(c:UInt64)(b:Mp WF)(name:AC):Option A0C :=
  (jR f i h g e d c b).bind fun a=>(some ((oz b name).getD (([]:AC),0,0))).bind fun e_=>if(!((oz b name).isSome))=true then(some (210,a.1,a.2.1,a.2.2.1,a.2.2.2.1,a.2.2.2.2.1,a.2.2.2.2.2.1,a.2.2.2.2.2.2,b)) else(some (0,a.1,a.2.1,a.2.2.1,a.2.2.2.1,a.2.2.2.2.1,a.2.2.2.2.2.1,a.2.2.2.2.2.2,Ol b name))
def wL (i h g j f d:Int)(e:UInt64)(a:A06)(name:AC):Option WP :=
  (mW i h g j f d e a name).bind fun c=>if c < 0 then(some (210,i,h,g,j,f,d,e,a)) else((Iw a 0 c).bind fun b=>(app ([]:A06) b 48).bind fun l=>(Iw a (ax (c+1)) (a.length:Int)).bind fun m=>(app l m 48).bind fun k=>some (0,i,h,g,j,f,d,e,k))
def yY (g j i h f e:Int)(d:UInt64)(b:Mp WF)(name:AC):Option (Bool×Int×Int×Int×Int×Int×Int×Int×UInt64) :=
  (jR g j i h f e d b).bind fun a=>(some ((oz b name).getD (([]:AC),0,0))).bind fun e_=>if(!((oz b name).isSome))=true then(some (false,210,a.1,a.2.1,a.2.2.1,a.2.2.2.1,a.2.2.2.2.1,a.2.2.2.2.2.1,a.2.2.2.2.2.2)) else((Fa e_.1 a.1 a.2.1 a.2.2.1 a.2.2.2.1 a.2.2.2.2.1).bind fun c=>some (c.1,c.2,a.1,a.2.1,a.2.2.1,a.2.2.2.1,a.2.2.2.2.1,a.2.2.2.2.2.1,a.2.2.2.2.2.2))
def AO (e d c f b g:Int)(h:UInt64)(a:A06)(name:AC):Option (Bool×Int×Int×Int×Int×Int×Int×Int×UInt64×A06) :=
  (mW e d c f b g h a name).bind fun i=>if i < 0 then(some (false,210,e,d,c,f,b,g,h,a)) else((aP a i).bind fun k=>(Ec k.2.2.2 e d c f b).bind fun j=>some (j.1,j.2,e,d,c,f,b,g,h,a))
def xQ (l:A02)(g f e h d b:Int)(c:UInt64)(a:A06):Int->Option (Int⊕(Bool×Int×Int×Int×Int×Int×Int×UInt64×A06))
  | i=>if i < (l.length:Int) then((aP l i).bind fun k=>(aP a i).bind fun j=>if k≠j.1 then(Option.map Sum.inr (some (false,g,f,e,h,d,b,c,a))) else(some (.inl (ax (i+1))))) else(Option.map Sum.inr (some (true,g,f,e,h,d,b,c,a)))
def Ed (l:A02)(g f e h d b:Int)(c:UInt64)(a:A06):Option (Bool×Int×Int×Int×Int×Int×Int×UInt64×A06) :=
  if(l.length:Int)≠(a.length:Int) then(some (false,g,f,e,h,d,b,c,a)) else(aT (xQ l g f e h d b c a) 0)
def oH (k j h l g e:Int)(f:UInt64)(d:A06):UV->Option (UV⊕(AC×Int×Int×Int×Int×Int×Int×UInt64×A06))
  | (s_,i)=>if i < (d.length:Int) then((aP d i).bind fun a=>(need (s_.length+a.1.length<=9223372036854775807)).bind fun u=>(need ((s_++a.1).length+([32]:AC).length<=9223372036854775807)).bind fun u1=>(oV (UInt64.ofInt a.2.1)).bind fun b=>(need (((s_++a.1)++([32]:AC)).length+b.length<=9223372036854775807)).bind fun u2=>(need ((((s_++a.1)++([32]:AC))++b).length+([32]:AC).length<=9223372036854775807)).bind fun u3=>(oV a.2.2.1).bind fun c=>(need (((((s_++a.1)++([32]:AC))++b)++([32]:AC)).length+c.length<=9223372036854775807)).bind fun u4=>(need ((((((s_++a.1)++([32]:AC))++b)++([32]:AC))++c).length+([32]:AC).length<=9223372036854775807)).bind fun u5=>(need (((((((s_++a.1)++([32]:AC))++b)++([32]:AC))++c)++([32]:AC)).length+a.2.2.2.length<=9223372036854775807)).bind fun u6=>(need ((((((((s_++a.1)++([32]:AC))++b)++([32]:AC))++c)++([32]:AC))++a.2.2.2).length+([10]:AC).length<=9223372036854775807)).bind fun u7=>some (.inl ((((((((s_++a.1)++([32]:AC))++b)++([32]:AC))++c)++([32]:AC))++a.2.2.2)++([10]:AC),ax (i+1)))) else(Option.map Sum.inr (some (s_,k,j,h,l,g,e,f,d)))
def yZ (g f e h d b:Int)(c:UInt64)(a:A06):Option (AC×Int×Int×Int×Int×Int×Int×UInt64×A06) :=
  aT (oH g f e h d b c a) (([]:AC),0)
def Gq (w A z y u t:Int)(s:UInt64)(c:Mp WF)(e h g f d j:Int)(i:UInt64)(a:A06)(F:Int)(k I L K:AC)(J:UInt64):Option ((Int×Int×Int×Int×Int×Int×UInt64×(Mp WF)×Bool×Int×Int×Int×Int×Int×Int×UInt64×A06)⊕(Int×Int×Int×Int×Int×Int×UInt64×Int×Int×Int×Int×Int×Int×UInt64×A06)⊕(Int×Int×Int×Int×Int×Int×UInt64×(Mp WF)×Bool×Int×Int×Int×Int×Int×Int×UInt64×Int×Int×Int×Int×Int×Int×UInt64×A06)) :=
  if F=0 then((yX w A z y u t s c k I K).bind fun m=>(AL e h g f d j i a k I K).bind fun C=>some (Sum.inl (m.2.1,m.2.2.1,m.2.2.2.1,m.2.2.2.2.1,m.2.2.2.2.2.1,m.2.2.2.2.2.2.1,m.2.2.2.2.2.2.2.1,m.2.2.2.2.2.2.2.2,decide (m.1=C.1),C.2.1,C.2.2.1,C.2.2.2.1,C.2.2.2.2.1,C.2.2.2.2.2.1,C.2.2.2.2.2.2.1,C.2.2.2.2.2.2.2.1,C.2.2.2.2.2.2.2.2))) else(if F=1 then((rO w A z y u t s c k I J).bind fun B=>(um e h g f d j i a k I J).bind fun x=>some (Sum.inl (B.2.1,B.2.2.1,B.2.2.2.1,B.2.2.2.2.1,B.2.2.2.2.2.1,B.2.2.2.2.2.2.1,B.2.2.2.2.2.2.2.1,B.2.2.2.2.2.2.2.2,decide (B.1=x.1),x.2.1,x.2.2.1,x.2.2.2.1,x.2.2.2.2.1,x.2.2.2.2.2.1,x.2.2.2.2.2.2.1,x.2.2.2.2.2.2.2.1,x.2.2.2.2.2.2.2.2))) else(if F=2 then((uH w A z y u t s c k I L K J).bind fun v=>(wK e h g f d j i a k I L K J).bind fun r=>some (Sum.inl (v.2.1,v.2.2.1,v.2.2.2.1,v.2.2.2.2.1,v.2.2.2.2.2.1,v.2.2.2.2.2.2.1,v.2.2.2.2.2.2.2.1,v.2.2.2.2.2.2.2.2,decide (v.1=r.1),r.2.1,r.2.2.1,r.2.2.2.1,r.2.2.2.2.1,r.2.2.2.2.2.1,r.2.2.2.2.2.2.1,r.2.2.2.2.2.2.2.1,r.2.2.2.2.2.2.2.2))) else(if F=3 then((uI w A z y u t s c k).bind fun q=>(wL e h g f d j i a k).bind fun n=>some (Sum.inl (q.2.1,q.2.2.1,q.2.2.2.1,q.2.2.2.2.1,q.2.2.2.2.2.1,q.2.2.2.2.2.2.1,q.2.2.2.2.2.2.2.1,q.2.2.2.2.2.2.2.2,decide (q.1=n.1),n.2.1,n.2.2.1,n.2.2.2.1,n.2.2.2.2.1,n.2.2.2.2.2.1,n.2.2.2.2.2.2.1,n.2.2.2.2.2.2.2.1,n.2.2.2.2.2.2.2.2))) else(if F=4 then((yY w A z y u t s c k).bind fun D=>(AO e h g f d j i a k).bind fun l=>some (Sum.inl (D.2.2.1,D.2.2.2.1,D.2.2.2.2.1,D.2.2.2.2.2.1,D.2.2.2.2.2.2.1,D.2.2.2.2.2.2.2.1,D.2.2.2.2.2.2.2.2,c,(decide (D.1=l.1))&&(decide (D.2.1=l.2.1)),l.2.2.1,l.2.2.2.1,l.2.2.2.2.1,l.2.2.2.2.2.1,l.2.2.2.2.2.2.1,l.2.2.2.2.2.2.2.1,l.2.2.2.2.2.2.2.2.1,l.2.2.2.2.2.2.2.2.2))) else(if F=5 then((o_ w A z y u t s c).bind fun H=>(Ed H.1 e h g f d j i a).bind fun o=>some (Sum.inl (H.2.1,H.2.2.1,H.2.2.2.1,H.2.2.2.2.1,H.2.2.2.2.2.1,H.2.2.2.2.2.2.1,H.2.2.2.2.2.2.2,c,o.1,o.2.1,o.2.2.1,o.2.2.2.1,o.2.2.2.2.1,o.2.2.2.2.2.1,o.2.2.2.2.2.2.1,o.2.2.2.2.2.2.2.1,o.2.2.2.2.2.2.2.2))) else(if F=6 then((qy w A z y u t s c).bind fun G=>(yZ e h g f d j i a).bind fun p=>some (Sum.inl (G.2.1,G.2.2.1,G.2.2.2.1,G.2.2.2.2.1,G.2.2.2.2.2.1,G.2.2.2.2.2.2.1,G.2.2.2.2.2.2.2,c,decide (G.1=p.1),p.2.1,p.2.2.1,p.2.2.2.1,p.2.2.2.2.1,p.2.2.2.2.2.1,p.2.2.2.2.2.2.1,p.2.2.2.2.2.2.2.1,p.2.2.2.2.2.2.2.2))) else(if F=7 then((qy w A z y u t s c).bind fun b=>(DZ e h g f d j i b.1).bind fun M=>(Sum.elim (fun Ai=>some (Sum.inr (Sum.inl (b.2.1,b.2.2.1,b.2.2.2.1,b.2.2.2.2.1,b.2.2.2.2.2.1,b.2.2.2.2.2.2.1,b.2.2.2.2.2.2.2,e,h,g,f,d,j,i,a)))) (fun E=>some (Sum.inr (Sum.inr (E.1,E.2.1,E.2.2.1,E.2.2.2.1,E.2.2.2.2.1,E.2.2.2.2.2.1,E.2.2.2.2.2.2.1,E.2.2.2.2.2.2.2,(decide (0=0))&&(decide (0=0)),b.2.1,b.2.2.1,b.2.2.2.1,b.2.2.2.2.1,b.2.2.2.2.2.1,b.2.2.2.2.2.2.1,b.2.2.2.2.2.2.2,e,h,g,f,d,j,i,a))))) M) else(some (Sum.inl (w,A,z,y,u,t,s,c,true,e,h,g,f,d,j,i,a))))))))))
def qF (A29:List (Int×AC×AC×AC×AC×UInt64)):(Int×Int×Int×Int×Int×Int×UInt64×(Mp WF)×Int×Int×Int×Int×Int×Int×UInt64×A06×Int)->Option ((Int×Int×Int×Int×Int×Int×UInt64×(Mp WF)×Int×Int×Int×Int×Int×Int×UInt64×A06×Int)⊕Bool)
  | (b1,b2,b3,b4,b5,b6,b7,m_,lC,rU,Cf,DW,qx,pR,rD,nU,aN)=>if aN < (A29.length:Int) then((aP A29 aN).bind fun c=>(Gq b1 b2 b3 b4 b5 b6 b7 m_ lC rU Cf DW qx pR rD nU c.1 c.2.1 c.2.2.1 c.2.2.2.1 c.2.2.2.2.1 c.2.2.2.2.2).bind fun f=>(Sum.elim (fun b=>if(!b.2.2.2.2.2.2.2.2.1)=true then(Option.map Sum.inr (some false)) else(some (.inl (b.1,b.2.1,b.2.2.1,b.2.2.2.1,b.2.2.2.2.1,b.2.2.2.2.2.1,b.2.2.2.2.2.2.1,b.2.2.2.2.2.2.2.1,b.2.2.2.2.2.2.2.2.2.1,b.2.2.2.2.2.2.2.2.2.2.1,b.2.2.2.2.2.2.2.2.2.2.2.1,b.2.2.2.2.2.2.2.2.2.2.2.2.1,b.2.2.2.2.2.2.2.2.2.2.2.2.2.1,b.2.2.2.2.2.2.2.2.2.2.2.2.2.2.1,b.2.2.2.2.2.2.2.2.2.2.2.2.2.2.2.1,b.2.2.2.2.2.2.2.2.2.2.2.2.2.2.2.2,ax (aN+1))))) (Sum.elim (fun Ai=>Option.map Sum.inr (some false)) (fun a=>if(!a.2.2.2.2.2.2.2.2.1)=true then(Option.map Sum.inr (some false)) else(some (.inl (a.1,a.2.1,a.2.2.1,a.2.2.2.1,a.2.2.2.2.1,a.2.2.2.2.2.1,a.2.2.2.2.2.2.1,a.2.2.2.2.2.2.2.1,a.2.2.2.2.2.2.2.2.2.2.2.2.2.2.2.2.1,a.2.2.2.2.2.2.2.2.2.2.2.2.2.2.2.2.2.1,a.2.2.2.2.2.2.2.2.2.2.2.2.2.2.2.2.2.2.1,a.2.2.2.2.2.2.2.2.2.2.2.2.2.2.2.2.2.2.2.1,a.2.2.2.2.2.2.2.2.2.2.2.2.2.2.2.2.2.2.2.2.1,a.2.2.2.2.2.2.2.2.2.2.2.2.2.2.2.2.2.2.2.2.2.1,a.2.2.2.2.2.2.2.2.2.2.2.2.2.2.2.2.2.2.2.2.2.2.1,a.2.2.2.2.2.2.2.2.2.2.2.2.2.2.2.2.2.2.2.2.2.2.2,ax (aN+1))))))) f) else(Option.map Sum.inr ((o_ b1 b2 b3 b4 b5 b6 b7 m_).bind fun e=>(Ed e.1 lC rU Cf DW qx pR rD nU).bind fun d=>if d.1=true then((qy e.2.1 e.2.2.1 e.2.2.2.1 e.2.2.2.2.1 e.2.2.2.2.2.1 e.2.2.2.2.2.2.1 e.2.2.2.2.2.2.2 m_).bind fun h=>(yZ d.2.1 d.2.2.1 d.2.2.2.1 d.2.2.2.2.1 d.2.2.2.2.2.1 d.2.2.2.2.2.2.1 d.2.2.2.2.2.2.2.1 d.2.2.2.2.2.2.2.2).bind fun g=>some (decide (h.1=g.1))) else(some false)))
def Dp (b c e d f A1v:Int)(A1z:UInt64)(A29:List (Int×AC×AC×AC×AC×UInt64)):Option Bool :=
  (G_).bind fun i=>if(!i)=true then(some false) else((Gf b c e d f A1v A1z).bind fun k=>(Sum.elim (fun j=>(D5 b c e d f A1v).bind fun h=>if((decide (j≠h))||(decide (true≠(decide (h≠0)))))=true then(some false) else(some true)) (fun a=>(D5 b c e d f A1v).bind fun g=>if((decide (0≠g))||(decide (false≠(decide (g≠0)))))=true then(some false) else(aT (qF A29) (a.1,a.2.1,a.2.2.1,a.2.2.2.1,a.2.2.2.2.1,a.2.2.2.2.2.1,a.2.2.2.2.2.2.1,a.2.2.2.2.2.2.2,b,c,e,d,f,A1v,A1z,([]:A06),0)))) k)
end
section
set_option linter.unusedSimpArgs false
set_option linter.unusedVariables false
section
variable {α β σ ρ:Type}{P:Program}{n:Nat}{Q:Exit->Act->World->Prop}{ops:Array Oper}{L L':St}{w w0:World}{os:List SV}{cs:List Cond}{F O:Nat->Prop}{hs:List HP}{rest:List Oper}
theorem Wa{id l y}(b:Bl L L')(q:Ask os cs w)(h:W P n y Q L' w)(hs:(evs P n l.toArray [] l (Kn L) os).map (fun r=>(L'.map fun e=>(look r.1 e.1).map fun e=>(e.g,e.x.val),r.2.1,r.2.2))=some (L'.map fun p=>some (none,p.2.val),cs,[]):=by kernel_rfl):W P n (.region id l.toArray false) (Exit.then (y.wp P Q) Q) L w:=W_q [] b q hs (au h)
theorem Wq{id l y}(b:Bl L L')(h:W P n y Q L' w)(hs:(evs P n l.toArray [] l (Kn L) []).map (fun r=>(L'.map fun e=>(look r.1 e.1).map fun e=>(e.g,e.x.val),r.2.1,r.2.2))=some (L'.map fun p=>some (none,p.2.val),[],[]):=by kernel_rfl):W P n (.region id l.toArray false) (Exit.then (y.wp P Q) Q) L w:=Wa b qe h hs
theorem Wl{l}(k:Nat)(b:Bl L L')(q:Ask os cs w)(h:WL P n ops Q (l.drop k) L' w)(hs:(evs P n ops [] (l.take k) (Kn L) os).map (fun r=>(L'.map fun e=>(look r.1 e.1).map fun e=>(e.g,e.x.val),r.2.1,r.2.2))=some (L'.map fun p=>some (none,p.2.val),cs,[]):=by kernel_rfl):WL P n ops Q l L w:=J5 k [] b q hs h
theorem We{l}(k:Nat)(b:Bl L L')(h:WL P n ops Q (l.drop k) L' w)(hs:(evs P n ops [] (l.take k) (Kn L) []).map (fun r=>(L'.map fun e=>(look r.1 e.1).map fun e=>(e.g,e.x.val),r.2.1,r.2.2))=some (L'.map fun p=>some (none,p.2.val),[],[]):=by kernel_rfl):WL P n ops Q l L w:=J5 k [] b qe hs h
theorem Wn{ops y}(h:W P n y Q L w):WL P n ops (Exit.then (y.wp P Q) Q) [] L w:=di (au h)
theorem dZ{f fn c R}(xs:List SV)(a:P.funcs[f]?=some fn)(b:fn.body=some c)(h:W P fn.ntmps c (bodyPost P fn R) (numbered 0 xs) w)(hn:decide (xs.length<=fn.ntmps)=true:=by kernel_rfl):Calls P f (vals xs) w R:=calls xs a b (of_decide_eq_true hn) h
theorem aF{fn R}(xs:List SV)(q:Ask os cs w)(h:R (.returned (Yd xs).val) w)(a:UN P fn.results.toList L os=some (xs,cs,[]):=by kernel_rfl):At n (bodyPost P fn R .ret) L w:=At_rt xs q a h
theorem fO{Q:Exit->Act->World->Prop}{K:St->World->Prop}(h:K L' w)(b:L'.map (fun p=>(find L p.1).map SV.val)=L'.map (fun p=>some p.2.val):=by kernel_rfl):At n (Exit.then (fun a w=>∃ L,Fu n a (Kn L)/\K L w) Q .normal) L w:=At_c h b
theorem si{a:α}{b:α}(h:some a=some b):a=b:=A2j h
theorem W_cz{k x y}(c:Bool)(e:c=true->W P n x Q L w)(d:c=false->W P n y Q L w)(a:find L k=some (.b c):=by kernel_rfl):W P n (.cond (.tmp k) x y) Q L w:=Af c a e d
theorem dQ{p Ls C Q π A26}(k m:Nat)(b:Bl L L')(q:∀ w,cls C m w->Ask os cs w)(h:∀ a,MX P n ops Ls C Q (π.drop k) p a (Kn L') w)(hs:((qops ops m k π).bind fun l=>evs P n ops [] l (Kn L) os).map (fun r=>(L'.map fun e=>(look r.1 e.1).map fun e=>(e.g,e.x.val),r.2.1,r.2.2))=some (L'.map fun p=>some (none,p.2.val),cs,[]):=by kernel_rfl):MX P n ops Ls C Q π p A26 (Kn L) w:=MXq k m [] b q hs h
theorem aV{K a f xs c}{ty:TypeId}{b i g}(d:Nat){svs R}(h:dV P f)(k:Calls P f (vals svs) w R)(j:∀ e w',R e w'->∃ x,e=.returned x.val/\K ((d,x)::L) w')(hs:(Ep ops [] L ⟨a,.call ⟨.value (.func f),xs,c⟩,ty,b,i,g⟩,a,(decide (d < n)),(L.any fun p=>p.1 == d),(toSS xs.toList (lk L)).map SV.vals)=(true,some d,true,false,some (SV.vals svs)):=by kernel_rfl) :
    Dv P n ops L w ⟨a,.call ⟨.value (.func f),xs,c⟩,ty,b,i,g⟩ K:=uQ [] d svs h hs k j
theorem gz{K}{ty t:TypeId}{p x a e g}(i:Nat){d}(sv:SV)(svs:List SV){bt:TypeId}{b ys c off}(hp:Pt (some ⟨b,0,none⟩) off d)(k:Cx F O w0 w hs)(l:hs[i]?=some (Bx bt b ys))(f:Mid svs ys c)(j:∀ w',Cx F O w0 w' (hs.set i (Bx bt b c))->K L w')(A28:(Ep ops [] L (⟨none,.store t p x,ty,a,e,g⟩:Oper),(none:A03),(toSS [p,x] (lk L)).map SV.vals,FP P t,cellsS sv,svs.all SV.one1)=(true,none,some [.pointer d,sv.val],some (SV.width svs),some svs,true):=by kernel_rfl)(h:(putS off (SV.width svs) svs ys).map SV.cl=some (SV.cl c):=by kernel_rfl) :
    Dv P n ops L w ⟨none,.store t p x,ty,a,e,g⟩ K:=Op_b [] i sv svs hp k l f A28 h j
theorem lJ{K}{ty t:TypeId}{p x a q g}{E:Enc α}(i:Nat){e}(sv:SV)(svs:List SV){bt:TypeId}{b m o h}{x0:Vec α m}{d:Vec α m}{ys c j}{r:α}{y:α}(u:oP x0 j y=d)(hx:aP x0.l j=some r)(hp:Pt (some ⟨b,0,none⟩) (h+(j.toNat*E.sz+0)) e)(k:Cx F O w0 w hs)(z:hs[i]?=some (Bx bt b ys))(s:Vup ys E x0 d o c)(hy:E.f y=pat (E.f r) 0 (SV.cl svs))(v:∀ w',Cx F O w0 w' (hs.set i (Bx bt b c))->K L w')(A28:(Ep ops [] L (⟨none,.store t p x,ty,a,q,g⟩:Oper),(none:A03),(toSS [p,x] (lk L)).map SV.vals,FP P t,cellsS sv,svs.all SV.one1,h)=(true,none,some [.pointer e,sv.val],some (SV.width svs),some svs,true,o):=by kernel_rfl)(hl:Nat.ble (0+SV.width svs) E.sz=true:=by kernel_rfl) :
    Dv P n ops L w ⟨none,.store t p x,ty,a,q,g⟩ K:=Op_vs (kk:=0) [] i sv svs u hx hp k z s hy A28 hl v
end
end
section
set_option linter.unusedSimpArgs false
set_option linter.unusedVariables false
section
variable {α β γ σ ρ:Type}{P:Program}{n:Nat}{Q:Exit->Act->World->Prop}{ops:Array Oper}{L L':St}{w w0:World}{os:List SV}{cs:List Cond}{F O:Nat->Prop}{hs:List HP}{rest:List Oper}
theorem aJ {G:Prop}{a:Option α}{f:α->Option β}{r:β}(h:a.bind f=some r)(k:∀ x,a=some x->f x=some r->G):G:=by
  obtain⟨x,c,b⟩:=ob h;exact k x c b
theorem bP{k x y p}[hd:Decidable p]{a:Option γ}{b:Option γ}{r:γ}(hm:(if p then a else b)=some r)(e:p->a=some r->W P n x Q L w)(d:¬ p->b=some r->W P n y Q L w)(c:find L k=some (.b (decide p)):=by kernel_rfl):W P n (.cond (.tmp k) x y) Q L w :=
  W_condp p c (fun h=>e h (by rwa [A3p h] at hm)) (fun h=>d h (by rwa [A3q h] at hm))
theorem jl{k x y c}{a:Option γ}{b:Option γ}{r:γ}(hm:(if c=true then a else b)=some r)(f:c=true->a=some r->W P n x Q L w)(e:c=false->b=some r->W P n y Q L w)(d:find L k=some (.b c):=by kernel_rfl):W P n (.cond (.tmp k) x y) Q L w :=
  Af c d (fun h=>f h (by rwa [A3p h] at hm)) (fun h=>e h (by rwa [A3q (by rw[h];decide)] at hm))
theorem jh{c}{b:σ->Option (σ⊕ρ)}{e:σ}{r:ρ}(hm:aT b e=some r)(d:σ->St->World->Prop)(i:d e L' w0)(h:∀ s L w y,d s L w->b s=some y->(∀ f,y=.inr f->f=r)->W P n c (Exit.then (fun a w=>∃ s' L',y=.inl s'/\Fu n a (Kn L')/\d s' L' w) Q) L w)(g:L'.map (fun p=>(find L p.1).map SV.val)=L'.map (fun p=>some p.2.val):=by kernel_rfl):W P n (.loop c) Q L w0:=W_lp b d e r hm i g h
theorem fQ{Q}{b:σ->St->World->Prop}{y:σ⊕ρ}{v:σ}(hm:some (.inl v)=some y)(h:b v L' w)(c:L'.map (fun p=>(find L p.1).map SV.val)=L'.map (fun p=>some p.2.val):=by kernel_rfl):At n (Exit.then (fun a w=>∃ s' L',y=.inl s'/\Fu n a (Kn L')/\b s' L' w) Q .normal) L w :=
  At_rd v (A2j hm).symm h c
theorem gI:Cx N0 N0 w w []:=Cx.refl _
theorem fJ{t:TypeId}{g ys}(k:Cx F O w0 w hs)(i:Nat)(a:hs[i]?=some (Bx t g ys))(off:Nat)(v:SV)(r:Ask os cs w)(h:(cellS off ys).map SV.val=some v.val:=by kernel_rfl):Ask (v::os) (dC (some ⟨g,off,none⟩) v::cs) w:=qB k i a off v h r
theorem mY{t:TypeId}{g ys}(k:Cx F O w0 w hs)(i:Nat)(b:hs[i]?=some (Bx t g ys))(off m:Nat)(a:List SV)(r:Ask os cs w)(h:(TC off m ys).map SV.cl=some (SV.cl a):=by kernel_rfl)(hm:0 < m:=by decide):Ask (.agg a::os) (dR (some ⟨g,off,none⟩) a::cs) w:=qT k i b off m a h hm r
theorem jI(g off:Nat)(r:Ask os cs w):Ask os (dS (some ⟨g,off,none⟩)::dS (some ⟨g,off,none⟩)::cs) w:=qs g off (qs g off r)
theorem Cx.sG{t:TypeId}{g m ys}(k:Cx F O w0 w hs)(i:Nat)(a:hs[i]?=some (Bx t g ys))(E:Enc α)(x:Vec α m)(off:Nat)(hd:((Ko off ys).bind List.head?).map (fun v=>(v.Qa,v.val))=some (true,.agg ⟨E.all x.l⟩):=by kernel_rfl):Rd w (some ⟨g,off,Option.none⟩) (E.all x.l):=k.vrd i a E x off hd
theorem iV{K a}{ty t:TypeId}{x c e g}(d:Nat)(cs:List SV)(k:Cx F O w0 w hs)(f:∀ b w',Cx F O w0 w' (hs++[Bx t b cs])->K ((d,.v (.pointer (some ⟨b,0,none⟩)))::L) w')(A28:(Ep ops [] L ⟨a,.box t x,ty,c,e,g⟩,a,(decide (d < n)),(L.any fun p=>p.1 == d),(toSS [x] (lk L)).map SV.vals,(cellsS (.agg cs)).map SV.cl)=(true,some d,true,false,some [SV.val (.agg cs)],some (SV.cl cs)):=by kernel_rfl) :
    Dv P n ops L w ⟨a,.box t x,ty,c,e,g⟩ K:=Op_box [] d (.agg cs) cs A28 k f
theorem lK{K}{ty t:TypeId}{p x a e g}(i:Nat){d}(sv:SV){bt:TypeId}{b ys c off}(hp:Pt (some ⟨b,0,none⟩) off d)(k:Cx F O w0 w hs)(l:hs[i]?=some (Bx bt b ys))(f:Mid [sv] ys c)(j:∀ w',Cx F O w0 w' (hs.set i (Bx bt b c))->K L w')(A28:(Ep ops [] L (⟨none,.store t p x,ty,a,e,g⟩:Oper),(none:A03),(toSS [p,x] (lk L)).map SV.vals,FP P t,cellsS sv,[sv].all SV.one1)=(true,none,some [.pointer d,sv.val],some (SV.width [sv]),some [sv],true):=by kernel_rfl)(h:(putS off (SV.width [sv]) [sv] ys).map SV.cl=some (SV.cl c):=by kernel_rfl) :
    Dv P n ops L w ⟨none,.store t p x,ty,a,e,g⟩ K:=Op_b [] i sv [sv] hp k l f A28 h j
end
end
section
abbrev mv (b:Nat):SV:=.v (.map (some b))
open Go.RowKit
section
variable {F O:Nat->Prop}{w0 w:World}{a1 a2 a3 a4 a5 a6 a7 a8 a9 a0 x:HP}{l:List HP}
theorem Cx.P1(k:Cx F O w0 w (a1::x::l)):Cx F O w0 w (x::a1::l):=k.pk (.t .h)
theorem Cx.P2(k:Cx F O w0 w (a1::a2::x::l)):Cx F O w0 w (x::a1::a2::l):=k.pk (.t (.t .h))
theorem Cx.P3(k:Cx F O w0 w (a1::a2::a3::x::l)):Cx F O w0 w (x::a1::a2::a3::l):=k.pk (.t (.t (.t .h)))
theorem Cx.P4(k:Cx F O w0 w (a1::a2::a3::a4::x::l)):Cx F O w0 w (x::a1::a2::a3::a4::l):=k.pk (.t (.t (.t (.t .h))))
theorem Cx.P5(k:Cx F O w0 w (a1::a2::a3::a4::a5::x::l)):Cx F O w0 w (x::a1::a2::a3::a4::a5::l):=k.pk (.t (.t (.t (.t (.t .h)))))
theorem Cx.P6(k:Cx F O w0 w (a1::a2::a3::a4::a5::a6::x::l)):Cx F O w0 w (x::a1::a2::a3::a4::a5::a6::l):=k.pk (.t (.t (.t (.t (.t (.t .h))))))
end
section
variable {α β γ σ ρ:Type}{P:Program}{n:Nat}{Q:Exit->Act->World->Prop}{ops:Array Oper}{L L':St}{w w0:World}{os:List SV}{cs:List Cond}{F O:Nat->Prop}{hs:List HP}
theorem dJ{K a f xs c}{ty:TypeId}{b j g}(d:Nat){svs v}(i:dV P f)(m:Calls P f (vals svs) w (fun e w'=>e=.returned (SV.val v)/\Cx N0 N0 w w' []))(k:Cx F O w0 w hs)(l:∀ w',Cx F O w0 w' (hs++[])->K ((d,v)::L) w')(hs:(Ep ops [] L ⟨a,.call ⟨.value (.func f),xs,c⟩,ty,b,j,g⟩,a,(decide (d < n)),(L.any fun p=>p.1 == d),(toSS xs.toList (lk L)).map SV.vals)=(true,some d,true,false,some (SV.vals svs)):=by kernel_rfl) :
    Dv P n ops L w ⟨a,.call ⟨.value (.func f),xs,c⟩,ty,b,j,g⟩ K:=aV d i m (fun _ w' h=>⟨v,h.1,l w' (k.call h.2)⟩) hs
theorem E2{K:SV->Prop}{v}(h:K v):∃ x:SV,Ending.returned (SV.val v)=Ending.returned x.val/\K x:=⟨v,rfl,h⟩
theorem lM{id l Q}(b:Bl L L')(h:At n (Q .normal) L' w)(hs:(evs P n l.toArray [] l (Kn L) []).map (fun r=>(L'.map fun e=>(look r.1 e.1).map fun e=>(e.g,e.x.val),r.2.1,r.2.2))=some (L'.map fun p=>some (none,p.2.val),[],[]):=by kernel_rfl):W P n (.region id l.toArray false) Q L w:=W_q [] b qe hs h
theorem BM{k x y}(h:W P n x Q L w)(a:find L k=some (.b true):=by kernel_rfl):W P n (.cond (.tmp k) x y) Q L w:=Af true a (fun _=>h) (fun h=>by cases h)
theorem Oy{k x y}(h:W P n y Q L w)(a:find L k=some (.b false):=by kernel_rfl):W P n (.cond (.tmp k) x y) Q L w:=Af false a (fun h=>by cases h) (fun _=>h)
theorem wY{K c}{t ty:TypeId}{a b j l g}{e:TypeId}{h f}(m:TF P t e h f)(E:Enc α)(d:Nat)(xs:List α)(ps:List (Nat×SV))(svs:List SV)(k:Cx F O w0 w hs)(o:∀ A w',Cx F O w0 w' (hs++[Ow E A a a xs])->K ((d,.v (.slice A a a))::L) w')(A28:(Ep ops [] L ⟨c,.buildSlice t a b,ty,j,l,g⟩,c,(decide (d < n)),(L.any fun p=>p.1 == d),(toPS b.toList (lk L)).map (·.map fun p=>(p.1,p.2.val)))=(true,some d,true,false,some (ps.map fun p=>(p.1,p.2.val))):=by kernel_rfl)(q:(Qc (fun i=>some (i*h.length,h.length)) ((List.replicate a h).flatten.map PT) ps,decide (a*h.length<=16777216),xs.length,E.sz)=(some svs,true,a,h.length):=by kernel_rfl)(hx:SV.cl svs=E.all xs:=by kernel_rfl) :
    Dv P n ops L w ⟨c,.buildSlice t a b,ty,j,l,g⟩ K:=Op_mk m E [] d xs ps svs A28 q hx k o
theorem gZ{K a}{ty t:TypeId}{c e g}(d:Nat)(cs:List SV)(k:Cx F O w0 w hs)(f:∀ b w',Cx F O w0 w' (hs++[Bx t b cs])->K ((d,.v (.pointer (some ⟨b,0,none⟩)))::L) w')(A28:(Ep ops [] L ⟨a,.alloc t,ty,c,e,g⟩,a,(decide (d < n)),(L.any fun p=>p.1 == d),(zeroS P t).map SV.cl)=(true,some d,true,false,some (SV.cl cs)):=by kernel_rfl) :
    Dv P n ops L w ⟨a,.alloc t,ty,c,e,g⟩ K:=Op_alloc [] d cs A28 k f
theorem lg{id:Nat}{l:List Oper}{C:List (World->Prop)}(hm:P.follows .mixedOrders=true)(π:MT)(Ls:A00)(k:Cx F O w0 (w.drewN 1) hs)(b:Chain F O w0 hs C)(h:∀ A26,MX P n l.toArray Ls C (Q .normal) π 0 A26 (Kn L) (w.drewN 1))(a:(Region.noSelect l.toArray,NT l.toArray Ls π 0 (Array.replicate l.length false),π.depth == l.length)=(true,true,true):=by kernel_rfl) :
    W P n (.region id l.toArray true) Q L w:=W_m hm π Ls k b a h
theorem dD{C Ls p Q π A26 i o}(b:ops[i]?=some o)(h:Dv P n ops L w o fun L' w'=>cls C (p+1) w'/\∀ a,MX P n ops Ls C Q π (p+1) a (Kn L') w')(hl:Ls.contains i=true:=by kernel_rfl):MX P n ops Ls C Q (.op i π) p A26 (Kn L) w:=MX_op hl b h
def tq:A00->MT->MT
  | i::j::l,π=>.q i j (tq l π)
  | _,π=>π
end
end
end Go.Sx
namespace Go.Proofs
open Go.Shelf Go.RowKit Go.Sort Go.Lib Go.Sx
set_option linter.unusedVariables false
set_option linter.unusedSimpArgs false
def Ff:Go.Shelf.Ren:=⟨fun | 171=>55 | 243=>83 | 246=>112 | 283=>113 | 284=>114 | 285=>115 | 286=>116 | 129=>81 | 317=>137 | 318=>138 | 319=>139 | 320=>140 | 337=>158 | 338=>159 | n=>n,fun | 3=>3 | 9=>9 | 2=>2 | 4=>4 | 171=>172 | 0=>0 | 53=>24 | 37=>36 | 5=>5 | 173=>174 | 212=>200 | 51=>118 | 20=>20 | 213=>201 | 46=>113 | 232=>251 | 233=>252 | n=>n,fun | 17=>1 | 18=>2 | 19=>3 | n=>n⟩
theorem QC:Go.Proofs.LaysM.n171 Tryz.prog Ff:={
  mixed:=Z
  f129:=Tryz.func81.trans (A3s some Z)
  f171:=Tryz.func55.trans (A3s some Z)
  f243:=Tryz.func83.trans (A3s some Z)
  f246:=Tryz.func112.trans (A3s some Z)
  f283:=Tryz.func113.trans (A3s some Z)
  f284:=Tryz.func114.trans (A3s some Z)
  f285:=Tryz.func115.trans (A3s some Z)
  f286:=Tryz.func116.trans (A3s some Z)
  f317:=Tryz.func137.trans (A3s some Z)
  f318:=Tryz.func138.trans (A3s some Z)
  f319:=Tryz.func139.trans (A3s some Z)
  f320:=Tryz.func140.trans (A3s some Z)
  f337:=Tryz.func158.trans (A3s some Z)
  f338:=Tryz.func159.trans (A3s some Z)
  t0:=Tryz.underlying0
  a0:=Tryz.isAgg0
  z0:=Tryz.sizeOf0
  v0:=Tryz.zeroValue0
  t2:=Tryz.underlying2
  a2:=Tryz.isAgg2
  z2:=Tryz.sizeOf2
  v2:=Tryz.zeroValue2
  t3:=Tryz.underlying3
  a3:=Tryz.isAgg3
  z3:=Tryz.sizeOf3
  v3:=Tryz.zeroValue3
  t4:=Tryz.underlying4
  a4:=Tryz.isAgg4
  z4:=Tryz.sizeOf4
  v4:=Tryz.zeroValue4
  t5:=Tryz.underlying5
  a5:=Tryz.isAgg5
  z5:=Tryz.sizeOf5
  v5:=Tryz.zeroValue5
  t9:=Tryz.underlying9
  a9:=Tryz.isAgg9
  z9:=Tryz.sizeOf9
  v9:=Tryz.zeroValue9
  t20:=Tryz.underlying20
  a20:=Tryz.isAgg20
  z20:=Tryz.sizeOf20
  v20:=Tryz.zeroValue20
  t37:=Tryz.underlying36
  a37:=Tryz.isAgg36
  z37:=Tryz.sizeOf36
  v37:=Tryz.zeroValue36
  t46:=Tryz.underlying113
  a46:=Tryz.isAgg113
  z46:=Tryz.sizeOf113
  v46:=Tryz.zeroValue113
  t51:=Tryz.underlying118
  a51:=Tryz.isAgg118
  z51:=Tryz.sizeOf118
  v51:=Tryz.zeroValue118
  t53:=Tryz.underlying24
  a53:=Tryz.isAgg24
  z53:=Tryz.sizeOf24
  v53:=Tryz.zeroValue24
  t171:=Tryz.underlying172
  a171:=Tryz.isAgg172
  z171:=Tryz.sizeOf172
  v171:=Tryz.zeroValue172
  t173:=Tryz.underlying174
  a173:=Tryz.isAgg174
  z173:=Tryz.sizeOf174
  v173:=Tryz.zeroValue174
  t212:=Tryz.underlying200
  a212:=Tryz.isAgg200
  z212:=Tryz.sizeOf200
  v212:=Tryz.zeroValue200
  t213:=Tryz.underlying201
  a213:=Tryz.isAgg201
  z213:=Tryz.sizeOf201
  t232:=Tryz.underlying251
  a232:=Tryz.isAgg251
  z232:=Tryz.sizeOf251
  v232:=Tryz.zeroValue251
  t233:=Tryz.underlying252
  a233:=Tryz.isAgg252
  z233:=Tryz.sizeOf252
  v233:=Tryz.zeroValue252
  g17:=Z
  g18:=Z
  g19:=Z
  i0:=Z
  i2:=Z
  i3:=Z
  i4:=Z
  i5:=Z
  i9:=Z
  i20:=Z
  i37:=Z
  i46:=Z
  i51:=Z
  i53:=Z
  i171:=Z
  i173:=Z
  i212:=Z
  i232:=Z
  i233:=Z
  m17:=Z
  m18:=Z
  m19:=Z }
def Oz:Go.Shelf.Ren:=⟨fun | 145=>50 | 220=>69 | 219=>104 | 217=>85 | 225=>130 | 224=>131 | 267=>132 | 266=>117 | 314=>154 | n=>n,fun | 9=>9 | 4=>4 | 59=>107 | 3=>3 | 5=>5 | 46=>113 | 146=>225 | 51=>118 | n=>n,fun | 1=>0 | n=>n⟩
theorem pr_lays145:Go.Proofs.Lays.n145 Tryz.prog Oz:={
  mixed:=Z
  f145:=Tryz.func50.trans (A3s some Z)
  f217:=Tryz.func85.trans (A3s some Z)
  f219:=Tryz.func104.trans (A3s some Z)
  f220:=Tryz.func69.trans (A3s some Z)
  f224:=Tryz.func131.trans (A3s some Z)
  f225:=Tryz.func130.trans (A3s some Z)
  f266:=Tryz.func117.trans (A3s some Z)
  f267:=Tryz.func132.trans (A3s some Z)
  f314:=Tryz.func154.trans (A3s some Z)
  t3:=Tryz.underlying3
  a3:=Tryz.isAgg3
  z3:=Tryz.sizeOf3
  v3:=Tryz.zeroValue3
  t4:=Tryz.underlying4
  a4:=Tryz.isAgg4
  z4:=Tryz.sizeOf4
  v4:=Tryz.zeroValue4
  t5:=Tryz.underlying5
  a5:=Tryz.isAgg5
  z5:=Tryz.sizeOf5
  v5:=Tryz.zeroValue5
  t9:=Tryz.underlying9
  a9:=Tryz.isAgg9
  z9:=Tryz.sizeOf9
  v9:=Tryz.zeroValue9
  t46:=Tryz.underlying113
  a46:=Tryz.isAgg113
  z46:=Tryz.sizeOf113
  v46:=Tryz.zeroValue113
  t51:=Tryz.underlying118
  a51:=Tryz.isAgg118
  z51:=Tryz.sizeOf118
  v51:=Tryz.zeroValue118
  t59:=Tryz.underlying107
  a59:=Tryz.isAgg107
  z59:=Tryz.sizeOf107
  v59:=Tryz.zeroValue107
  t146:=Tryz.underlying225
  a146:=Tryz.isAgg225
  z146:=Tryz.sizeOf225
  v146:=Tryz.zeroValue225
  g1:=Z }
set_option maxHeartbeats 6400000 in
set_option maxRecDepth 100000 in
theorem pr_fmtu(u:Nat)(hu64:u < 18446744073709551616)(w:World)(htab:Lib.TabIs Tryz.prog w "internal/strconv.uint64pow10" .u64 Lib.pow10Tab) :
    Calls Tryz.prog 84 #[.int .u64 u,.int .i64 10] w fun e w'=>e=.returned (.string ⟨(Lib.decDigits u).toArray⟩)/\∃ k os,w'=grow (w.drewN k) os:=by
  by_cases hs:u < 100
  ·go_enter Tryz.func84,Tryz.ntmps84
   go_wp2_with (go_at_call 113;refine(Any.internal_strconv_small (ρ:=Ff) { QC with } u hs w).mono ?_;rintro e w' ⟨rfl,rfl⟩)
   go_ret
   exact⟨rfl,0,#[],by simp[World.drewN_zero]⟩
  ·have hu1:1<=u:=Y
   have hnd20:Lib.nDigits u<=20:=by have:=Lib.numDigits_eq u hu1 hu64;split at this <;> omega
   have hb3:Lib.nDigits u<=24:=Y
   have hal:Tryz.prog.arrayLen 172=24:=by simp[Program.arrayLen,Tryz.underlying172]
   have hsl1:∀ W,(Instr.sliceAt 172 (.pointer (some ⟨w.heap.size,0,none⟩)) none (some (.int .i64 (Lib.nDigits u:Int))) none).run Tryz.prog W=.ok (.slice (some ⟨w.heap.size,0,none⟩) (Lib.nDigits u) 24) W:=fun W=>by
     rw[run_sliceAt_array_h W 172 ⟨w.heap.size,0,none⟩ (by simp[Program.arrayLen,Program.elem,Tryz.underlying172]) .i64 (Lib.nDigits u:Int) Y (by rw[hal];omega)]
     go_simp
   have hz:Holds (fun(b:UInt8)=>Value.int .u8 (b.toNat:Int)) (w.alloc (.cells zeros24 172)) w.heap.size 0 (Array.replicate (nDigits u) (0:UInt8)):=fun j hj=>by
     have hj':j < nDigits u:=by simpa using hj
     refine⟨?_,World.frozen?_alloc_new _ _ _ _⟩;rw[World.cell?_alloc_new,zeros24_at _ Y,getElem!_pos _ j hj];simp
   have hfmt:=Any.internal_strconv_formatBase10 (ρ:=Ff) { QC with } w.heap.size 0 24 u (Array.replicate (nDigits u) 0) (w.alloc (.cells zeros24 172)) hz (by rw[Array.size_replicate];exact lt_pow_nDigits u) hu64 (by rw[Array.size_replicate];omega);rw[Array.size_replicate] at hfmt;have HH0:=hid hz;clear hz hal
   go_enter Tryz.func84,Tryz.ntmps84
   go_wp2_with (first
     | (go_at_call 114;refine(Any.internal_strconv_numDigits (ρ:=Ff) { QC with } u hu1 hu64 _ (tabIs_alloc htab _)).mono ?_;rintro e w' ⟨rfl,rfl⟩))
   go_at_call 115
   refine hfmt.mono ?_;rintro e w' ⟨rfl,k,v',dk,rfl,hF⟩;have hcv:(convert 36 9 (.slice (some ⟨w.heap.size,0,none⟩) (nDigits u) 24)).run Tryz.prog ((putRow (fun(b:UInt8)=>Value.int .u8 (b.toNat:Int)) (w.alloc (.cells zeros24 172)) w.heap.size 0 dk).drewN k)=.ok (.string ⟨(decDigits u).toArray⟩) ((putRow (fun(b:UInt8)=>Value.int .u8 (b.toNat:Int)) (w.alloc (.cells zeros24 172)) w.heap.size 0 dk).drewN k):=by
     have h:=run_convert_bytes_back (P:=Tryz.prog) ((putRow (fun(b:UInt8)=>Value.int .u8 (b.toNat:Int)) (w.alloc (.cells zeros24 172)) w.heap.size 0 dk).drewN k) 36 9 5 ⟨w.heap.size,0,none⟩ 24 (decDigits u) Tryz.underlying36 Tryz.underlying5 Tryz.underlying9 (fun j hj=>by
       rw[row_is_numeral hF j hj,add_plain,World.cell?_drewN];exact cell?_putRow (fun(b:UInt8)=>Value.int .u8 (b.toNat:Int)) _ w.heap.size 0 _ dk HH0.out (by rw[hF.size,Array.size_replicate]) j (by rw[hF.size];rw[decDigits_length] at hj;exact hj))
     rw[decDigits_length] at h;exact h
   go_wp2
   go_ret
   have fin:∃ os,(putRow (fun(b:UInt8)=>Value.int .u8 (b.toNat:Int)) (w.alloc (.cells zeros24 172)) w.heap.size 0 dk).drewN k=grow (w.drewN k) os:=by
     rw[alloc_eq_grow];obtain⟨os',_,e⟩:=putRow_grow_new (fun(b:UInt8)=>Value.int .u8 (b.toNat:Int)) w #[Obj.cells zeros24 172] w.heap.size 0 dk (A2f _);exact⟨os',by rw[e];rfl⟩
   obtain⟨os,eo⟩:=fin;exact⟨rfl,k,os,eo⟩
theorem wpL_append{P w ops rest o a Q}(b:o.guard=none)(sl x:Operand)(t u:TypeId)(e:o.op=.call { callee:=.builtin .append,args:=#[sl,x],argTypes:=#[t,u] })(v y c:Value)(w':World)(hs:a.eval sl=v)(hx:a.eval x=y)(d:(Builtin.append_ #[t,u] o.type #[v,y]).run P w=.ok c w')(h:wpList P ops Q rest (a.put o.dst c) w'):wpList P ops Q (o::rest) a w:=by
  refine wpList_plain b fun K f=>?_;unfold Oper.wp execOp;simp only[e,resolve,invoke,builtin,A2e,A2d,A2b,A3o,kw,A2q,hs,hx,d];exact f _ _ h
set_option maxHeartbeats 1000000 in
set_option maxRecDepth 100000 in
theorem pr_copy1(b:Nat)(w:World)(h0:w.cell? ⟨b,0,none⟩=some (.pointer (some ⟨b,0,none⟩))) :
    Calls Tryz.prog 54 #[.pointer (some ⟨b,0,none⟩)] w fun e w'=>e=.returned (.tuple #[])/\w'=w:=by
  obtain⟨j,hj,_⟩:∃ j,Tryz.prog.info? 74=some j/\j.size=2:=A0M.1 Z
  go_enter Tryz.func54,Tryz.ntmps54
  go_wp2
  rw[Lib.run_neq_ptr_same w _ Tryz.underlying72 hj]
  go_wp2
  go_end0
  exact⟨rfl,rfl⟩
set_option maxHeartbeats 1000000 in
set_option maxRecDepth 100000 in
theorem pr_copy0(b:Nat)(w:World)(h0:w.cell? ⟨b,0,none⟩=some (.pointer none))(hsh:w.shape? b=some (74,2))(hfz:w.frozen? ⟨b,0,none⟩=false) :
    Calls Tryz.prog 54 #[.pointer (some ⟨b,0,none⟩)] w fun e w'=>e=.returned (.tuple #[])/\w'=w.setCell ⟨b,0,none⟩ (.pointer (some ⟨b,0,none⟩)):=by
  obtain⟨j,hj,hjs⟩:∃ j,Tryz.prog.info? 74=some j/\j.size=2:=A0M.1 Z
  go_enter Tryz.func54,Tryz.ntmps54
  go_wp2
  rw[Lib.run_to_unsafe w ⟨b,0,none⟩ Tryz.underlying72 Tryz.underlying146 hj (by rw[hjs];decide) hsh (Nat.zero_lt_succ 1)];simp only[Result.andThen];rw[Oper.upon_value]
  go_wp2
  rw[run_callFunc_extern Tryz.func82 Z Z Z (e:=Extern.AbiNoEscape.same) Z];rw[Lib.run_noEscape];simp only[Result.andThen];rw[Oper.upon_value]
  go_wp2
  rw[Lib.run_from_unsafe w ⟨b,0,none⟩ Tryz.underlying146 Tryz.underlying72 hj hsh Z];simp only[Result.andThen];rw[Oper.upon_value]
  go_wp2
  go_end0
  exact⟨rfl,rfl⟩
theorem pr_tf36:Go.Sx.TF Tryz.prog 36 5 [.int .u8 0] 1:=⟨Z,Z,A2H,A2H⟩
set_option maxHeartbeats 2000000 in
set_option maxRecDepth 100000 in
theorem pr_write(b:Nat)(xs s:AC)(w:World)(p v:Value)(hp:p=Value.pointer none∨p=Value.pointer (some ⟨b,0,none⟩))(hb:w.heap[b]?=some (.cells #[p,v] 74 (0,0)))(hown:w.ownsRow 0 5 1 v xs.length (Lib.byteCells xs))(hne:v.ownBlock≠some b)(hz:xs.length+s.length<=140737488355328) :
    Calls Tryz.prog 28 #[.pointer (some ⟨b,0,none⟩),.string ⟨⟨s⟩⟩] w fun e w'=>e=.returned (.tuple #[.int .i64 (s.length:Nat),.nilIface])/\∃ v',w'.heap[b]?=some (.cells #[.pointer (some ⟨b,0,none⟩),v'] 74 (0,0))/\w'.ownsRow 0 5 1 v' (xs++s).length (Lib.byteCells (xs++s))/\v'.ownBlock≠some b /\
      (∀ h,v'.ownBlock=some h->v.ownBlock=some h∨w.heap.size<=h)/\w'.os=w.os/\w'.tape=w.tape/\w'.output=w.output/\w.heap.size<=w'.heap.size/\∀ k,k < w.heap.size->k≠b->v.ownBlock≠some k->w'.heap[k]?=w.heap[k]?:=by
  have hcopy:∃ w1,(Calls Tryz.prog 54 #[.pointer (some ⟨b,0,none⟩)] w fun e w'=>e=.returned (.tuple #[])/\w'=w1)/\w1.heap[b]?=some (.cells #[.pointer (some ⟨b,0,none⟩),v] 74 (0,0))/\w.grownBy w1 (some b)/\w1.heap.size=w.heap.size:=by
    rcases hp with rfl | rfl
    ·refine⟨_,pr_copy0 b w (by simp[World.cell?,hb]) (by simp[World.shape?,hb]) (by simp[World.frozen?,hb]),by simp[World.setCell,Array.getElem?_modify,hb],⟨rfl,rfl,rfl,by simp[World.setCell],fun k _ hk=>Below.heap_setCell _ _ _ _ (fun e=>hk (by simp[e]))⟩,by simp[World.setCell]⟩
    ·exact⟨w,pr_copy1 b w (by simp[World.cell?,hb]),hb,⟨rfl,rfl,rfl,A2f _,fun _ _ _=>rfl⟩,rfl⟩
  obtain⟨w1,hc,hb1,hg1,hs1⟩:=hcopy;have hown1:=hown.kept hg1 (Or.inr hne);obtain⟨v',w2,hr,ho,hg,hl⟩:=Go.Sx.app_str (ty:=36) pr_tf36 Z Tryz.underlying9 hown1 s hz;have hlt:b < w1.heap.size:=by
    rcases A3A b w1.heap.size with h' | h'
    ·exact h'
    ·simp[Array.getElem?_eq_none h'] at hb1
  have hb2:w2.heap[b]?=some (.cells #[.pointer (some ⟨b,0,none⟩),v] 74 (0,0)):=by
    rw[hg.block b hlt (fun e=>hne e.symm)];exact hb1
  have hne2:v'.ownBlock≠some b:=Lib.ownBlock_ne ho hb2 A2H;have fin:∃ v'',(w2.setCell ⟨b,1,none⟩ v').heap[b]?=some (.cells #[.pointer (some ⟨b,0,none⟩),v''] 74 (0,0))/\(w2.setCell ⟨b,1,none⟩ v').ownsRow 0 5 1 v'' (xs++s).length (Lib.byteCells (xs++s))/\v''.ownBlock≠some b /\
      (∀ h,v''.ownBlock=some h->v.ownBlock=some h∨w.heap.size<=h)/\(w2.setCell ⟨b,1,none⟩ v').os=w.os/\(w2.setCell ⟨b,1,none⟩ v').tape=w.tape/\(w2.setCell ⟨b,1,none⟩ v').output=w.output/\w.heap.size<=(w2.setCell ⟨b,1,none⟩ v').heap.size/\∀ k,k < w.heap.size->k≠b->v.ownBlock≠some k->(w2.setCell ⟨b,1,none⟩ v').heap[k]?=w.heap[k]?:=by
    refine⟨v',by simp[World.setCell,Array.getElem?_modify,hb2],ho.kept (row:=some b) ⟨rfl,rfl,rfl,by simp[World.setCell],fun k _ hk=>Below.heap_setCell _ _ _ _ (fun e=>hk (by simp[e]))⟩ (Or.inr hne2),hne2,fun h hh=>by rw[<- hs1];exact hl h hh,hg.os.trans hg1.os,hg.tape.trans hg1.tape,hg.output.trans hg1.output,?_,fun k hk hkb hkv=>?_⟩
    ·have:=hg.size;simp only[World.setCell,Array.size_modify];omega
    ·rw[Below.heap_setCell _ _ _ _ (fun e=>hkb e),hg.block k Y (fun e=>hkv e.symm),hg1.block k hk (fun e=>hkb (by simpa using e))]
  have c1:w1.cell? ⟨b,1,none⟩=some v:=by simp[World.cell?,hb1]
  have d1:w2.cell? ⟨b,1,none⟩=some v:=by simp[World.cell?,hb2]
  have f1:w2.frozen? ⟨b,1,none⟩=false:=by simp[World.frozen?,hb2]
  obtain⟨ao,n',cap,rfl⟩:∃ ao n' cap,v'=.slice ao n' cap:=by
    rcases ho.2 with⟨hv,_⟩ | ⟨g,cap,cur,hv,_⟩
    ·exact⟨_,_,_,hv⟩
    ·exact⟨_,_,_,hv⟩
  clear hb hown hp
  go_enter Tryz.func28,Tryz.ntmps28
  go_wp2_with (go_at_call 54;refine hc.mono ?_)
  rintro e w' ⟨rfl,rfl⟩
  go_wp2_with (at_builtin;refine wpL_append rfl _ _ 36 9 rfl v (.string ⟨⟨s⟩⟩) _ _ rfl rfl hr ?_)
  go_ret2
  exact⟨rfl,fin⟩
theorem frz_other{w:World}{g:Nat}{n:Nat}{k:Nat}(h:k≠g):(w.freeze ⟨g,0,none⟩ n).heap[k]?=w.heap[k]?:=by
  unfold World.freeze;split
  ·rfl
  ·simp only[Array.getElem?_modify];rw[A3q (fun e=>h e.symm)]
theorem RD{w:World}{g:Nat}{n:Nat}:(w.freeze ⟨g,0,none⟩ n).heap.size=w.heap.size/\(w.freeze ⟨g,0,none⟩ n).os=w.os/\(w.freeze ⟨g,0,none⟩ n).tape=w.tape/\(w.freeze ⟨g,0,none⟩ n).output=w.output:=by
  unfold World.freeze;split
  ·exact⟨rfl,rfl,rfl,rfl⟩
  ·exact⟨A2K,rfl,rfl,rfl⟩
set_option maxHeartbeats 4000000 in
set_option maxRecDepth 100000 in
theorem pr_str(b:Nat)(xs:AC)(w:World)(p v:Value)(hb:w.heap[b]?=some (.cells #[p,v] 74 (0,0)))(hown:w.ownsRow 0 5 1 v xs.length (Lib.byteCells xs))(hne:v.ownBlock≠some b) :
    Calls Tryz.prog 30 #[.pointer (some ⟨b,0,none⟩)] w fun e w'=>e=.returned (.string ⟨⟨xs⟩⟩)/\w'.os=w.os/\w'.tape=w.tape/\w'.output=w.output/\w.heap.size<=w'.heap.size/\∀ k,k < w.heap.size->v.ownBlock≠some k->w'.heap[k]?=w.heap[k]?:=by
  have mixed:Tryz.prog.follows .mixedOrders=true:=by kernel_rfl
  have hUS:∀ (W:World) (q:EQ),(Builtin.unsafeString_ #[116,3] 9 #[.pointer q,.int .i64 0]).run Tryz.prog W=.ok (.string .empty) W:=fun W q=>Lib.run_unsafeString_none W _ _ _ q;have hlt:b < w.heap.size:=by
    rcases A3A b w.heap.size with h' | h'
    ·exact h'
    ·simp[Array.getElem?_eq_none h'] at hb
  rcases hown.2 with⟨rfl,h0⟩ | ⟨g,cap,cur,rfl,_,hg,hnc,hcm,hcs,htake⟩
  ·obtain rfl:xs=[]:=A2y h0;have c1:w.drew.cell? ⟨b,1,none⟩=some (.slice none 0 0):=by
     have:w.drew.heap[b]?=_:=hb;rw[Lib.cell_of_heap this];rfl
   have hSD:(Builtin.unsafeSliceData_ #[36] 116 #[.slice none 0 0]).run Tryz.prog w.drew=.ok (.pointer none) w.drew:=rfl;clear hb hown
   go_enter Tryz.func30,Tryz.ntmps30
   go_wp2
   go_region_o
   all_goals (go_wp2;go_ret;exact⟨rfl,rfl,rfl,rfl,A2f _,fun _ _ _=>rfl⟩)
  ·by_cases hx:xs=[]
   ·subst hx;by_cases hc0:cap=0
    ·subst hc0;have hSD:(Builtin.unsafeSliceData_ #[36] 116 #[.slice (some ⟨g,0,none⟩) 0 0]).run Tryz.prog w.drew=.ok (.pointer (some ⟨w.drew.heap.size,0,none⟩)) (w.drew.alloc (.view ⟨g,0,none⟩ 5)) :=
       Lib.run_unsafeSliceData_zero w.drew _ _ 5 Tryz.underlying116 ⟨g,0,none⟩ 0 (5,cur.size) (by have hg':w.drew.heap[g]?=_:=hg;simp[World.shape?,hg'])
     have c1:w.drew.cell? ⟨b,1,none⟩=some (.slice (some ⟨g,0,none⟩) 0 0):=by
       have:w.drew.heap[b]?=_:=hb;rw[Lib.cell_of_heap this];rfl
     have c2:(w.drew.alloc (.view ⟨g,0,none⟩ 5)).cell? ⟨b,1,none⟩=some (.slice (some ⟨g,0,none⟩) 0 0):=by
       have:(w.drew.alloc (.view ⟨g,0,none⟩ 5)).heap[b]?=_:=(Lib.alloc_old w.drew _ b hlt).trans hb;rw[Lib.cell_of_heap this];rfl
     have c3:(w.alloc (.view ⟨g,0,none⟩ 5)).drew.cell? ⟨b,1,none⟩=some (.slice (some ⟨g,0,none⟩) 0 0):=c2;have c0:w.cell? ⟨b,1,none⟩=some (.slice (some ⟨g,0,none⟩) 0 0):=c1;have fin:∀ k,k < w.heap.size->(w.drew.alloc (.view ⟨g,0,none⟩ 5)).heap[k]?=w.heap[k]?:=fun k hk=>Lib.alloc_old w.drew _ k hk;have fsz:w.heap.size<=(w.drew.alloc (.view ⟨g,0,none⟩ 5)).heap.size:=by rw[World.size_alloc];exact Nat.le_succ _
     clear hb hown hg
     go_enter Tryz.func30,Tryz.ntmps30
     go_wp2
     go_region_o
     all_goals (go_wp2;go_ret;exact⟨rfl,rfl,rfl,rfl,fsz,fun k hk _=>fin k hk⟩)
    ·have hSD:(Builtin.unsafeSliceData_ #[36] 116 #[.slice (some ⟨g,0,none⟩) 0 cap]).run Tryz.prog w.drew=.ok (.pointer (some ⟨g,0,none⟩)) w.drew :=
       Lib.run_unsafeSliceData_row _ _ _ _ _ _ hc0
     have c1:w.drew.cell? ⟨b,1,none⟩=some (.slice (some ⟨g,0,none⟩) 0 cap):=by
       have:w.drew.heap[b]?=_:=hb;rw[Lib.cell_of_heap this];rfl
     clear hb hown hg hc0 hnc hcm hcs htake
     go_enter Tryz.func30,Tryz.ntmps30
     go_wp2
     go_region_o
     all_goals (go_wp2;go_ret;exact⟨rfl,rfl,rfl,rfl,A2f _,fun _ _ _=>rfl⟩)
   ·have hl0:xs.length≠0:=by simpa using hx
    have hSD:(Builtin.unsafeSliceData_ #[36] 116 #[.slice (some ⟨g,0,none⟩) xs.length cap]).run Tryz.prog w.drew=.ok (.pointer (some ⟨g,0,none⟩)) w.drew :=
      Lib.run_unsafeSliceData_row _ _ _ _ _ _ Y
    have hUX:(Builtin.unsafeString_ #[116,3] 9 #[.pointer (some ⟨g,0,none⟩),.int .i64 xs.length]).run Tryz.prog w.drew=.ok (.string ⟨⟨xs⟩⟩) (w.drew.freeze ⟨g,0,none⟩ xs.length):=by
      refine Lib.run_unsafeString_row w.drew 116 3 9 5 Tryz.underlying116 Z g cur.size (by have hg':w.drew.heap[g]?=_:=hg;simp[World.shape?,hg']) xs hx Y (by unfold maxLen at hcm;omega) ?_;intro j x hx;exact hown.cells (g:=g) rfl j (.int .u8 x.toNat) (by simp[Lib.byteCells,hx])
    have c1:w.drew.cell? ⟨b,1,none⟩=some (.slice (some ⟨g,0,none⟩) xs.length cap):=by
      have:w.drew.heap[b]?=_:=hb;rw[Lib.cell_of_heap this];rfl
    have fin:∀ k,k < w.heap.size->(Value.slice (some ⟨g,0,none⟩) xs.length cap).ownBlock≠some k->(w.drew.freeze ⟨g,0,none⟩ xs.length).heap[k]?=w.heap[k]?:=fun k hk h=>frz_other (fun e=>h (by rw[e];rfl));have fsz:w.heap.size<=(w.drew.freeze ⟨g,0,none⟩ xs.length).heap.size:=by rw[RD.1];exact A2f _
    clear hb hown hg
    go_enter Tryz.func30,Tryz.ntmps30
    go_wp2
    go_region_o
    all_goals (go_wp2;go_ret;exact⟨rfl,RD.2.1,RD.2.2.1,RD.2.2.2,fsz,fin⟩)
theorem pr_fmtu41(u:UInt64)(w:World)(htab:Lib.TabIs Tryz.prog w "internal/strconv.uint64pow10" .u64 Lib.pow10Tab) :
    Calls Tryz.prog 56 #[.int .u64 u.toNat,.int .i64 10] w fun e w'=>e=.returned (.string ⟨⟨Lib.decDigits u.toNat⟩⟩)/\∃ k os,w'=grow (w.drewN k) os:=by
  have h:=pr_fmtu u.toNat u.toNat_lt w htab
  go_enter Tryz.func56,Tryz.ntmps56
  go_wp2_with (go_at_call 84;refine h.mono ?_;rintro e w' ⟨rfl,k,os,rfl⟩)
  go_ret
  exact⟨rfl,k,os,rfl⟩
end Go.Proofs
namespace Go.Sx
open Go.Proofs Go.RowKit
section
theorem hc_fmtu{F O w0 w hs}(k:Cx F O w0 w hs)(u:UInt64)(hT:J7 Tryz.prog F w0) :
    Calls Tryz.prog 56 (vals [.u64 u,I 10]) w (fun e w'=>e=.returned (SV.val (.s (Lib.decDigits u.toNat)))/\Cx F O w0 w' hs):=by
  refine(pr_fmtu41 u w (hT.cx k)).mono ?_;rintro e w' ⟨rfl,m,os,rfl⟩;refine⟨rfl,?_⟩;have:=k.call (Cx.more w m os);rw[List.append_nil] at this;exact this
theorem hc_ix{F O w0 w hs}(k:Cx F O w0 w hs)(s:AC)(c:UInt8) :
    Calls Tryz.prog 104 (vals [.s s,.s [c]]) w (fun e w'=>e=.returned (SV.val (I (Lib.indexByte s c)))/\Cx F O w0 w' hs):=by
  refine(Any.stringslite_Index_one (ρ:=Oz) { pr_lays145 with } ⟨⟨s⟩⟩ c w).mono ?_;rintro e w' ⟨rfl,rfl⟩;exact⟨rfl,k⟩
theorem hc_bw{F O w0 w hs g}{xs:AC}(k:Cx F O w0 w (Bd 74 5 g xs::hs))(s:AC)(hz:xs.length+s.length<=140737488355328) :
    Calls Tryz.prog 28 (vals [.v (.pointer (some ⟨g,0,none⟩)),.s s]) w (fun e w'=>e=.returned (SV.val (.og [I (s.length:Nat),.v .nilIface]))/\Cx F O w0 w' (Bd 74 5 g (xs++s)::hs)):=by
  obtain⟨F1,O1,kin,hO,hre,hF1,hb⟩:=k.enter (ins:=[Bd 74 5 g xs]) (rest:=hs);obtain⟨U,V,⟨S,R,U',V',⟨p,v,hp,hbk,hown,hne,hSg,hSv⟩,h2,h3,h4,h5,h6⟩,hU,hV⟩:=kin.sep;have hF:∀ b,S b->F1 b:=fun b hb=>(hU b ((h3 b).2 (.inl hb))).elim id (fun h=>by omega);refine(pr_write g xs s w p v hp hbk hown hne hz).mono ?_;rintro e w' ⟨rfl,v',g1,g2,g3,g4,g5,g6,g7,g8,g9⟩;refine⟨rfl,hb w' [Bd 74 5 g (xs++s)] ⟨g5,g6,g7,g8,fun b hlt hn=>g9 b hlt (fun e=>hn (hF b (e▸hSg))) (fun e=>hn (hF b (hSv b e))),kin.fin,kin.Vf,fun b=>b=g∨v'.ownBlock=some b,fun _=>False,
    ⟨fun b=>b=g∨v'.ownBlock=some b,fun _=>False,fun _=>False,fun _=>False,⟨_,v',.inr rfl,g1,g2,g3,.inl rfl,fun h hh=>.inr hh⟩,⟨fun _ h=>h,fun _ h=>h⟩,A2K,A2K,A2K,A2K⟩,fun b hb=>?_,fun _ h=>h.elim⟩⟩
  rcases hb with rfl | hb
  ·exact .inl (hF _ hSg)
  ·rcases g4 b hb with h | h
   ·exact .inl (hF _ (hSv b h))
   ·exact .inr ⟨h,(g2.lt b hb).2⟩
theorem hc_bs{F O w0 w hs g xs}(k:Cx F O w0 w (Bd 74 5 g xs::hs)) :
    Calls Tryz.prog 30 (vals [.v (.pointer (some ⟨g,0,none⟩))]) w (fun e w'=>e=.returned (SV.val (.s xs))/\Cx F O w0 w' hs):=by
  obtain⟨F1,O1,kin,hO,hre,hF1,hb⟩:=k.enter (ins:=[Bd 74 5 g xs]) (rest:=hs);obtain⟨U,V,⟨S,R,U',V',⟨p,v,hp,hbk,hown,hne,hSg,hSv⟩,h2,h3,h4,h5,h6⟩,hU,hV⟩:=kin.sep;have hF:∀ b,S b->F1 b:=fun b hb=>(hU b ((h3 b).2 (.inl hb))).elim id (fun h=>by omega);refine(pr_str g xs w p v hbk hown hne).mono ?_;rintro e w' ⟨rfl,g5,g6,g7,g8,g9⟩;exact⟨rfl,hb w' [] ⟨g5,g6,g7,g8,fun b hlt hn=>g9 b hlt (fun e=>hn (hF b (hSv b e))),kin.fin,kin.Vf,fun _=>False,fun _=>False,⟨fun _ h=>h,fun _ h=>h⟩,fun _ h=>h.elim,fun _ h=>h.elim⟩⟩
end
end Go.Sx
