import Derived.Lib.Bytealg
import Derived.Test.YtnlckgjoedibmaaGreatDoorK2
namespace Go.Sx
open Go.RowKit
set_option linter.unusedVariables false
noncomputable def zI (aj:Int)(ah:Int)(af:Int)(ag:Int)(ax:Int):Option (List (Int×Int×Int)) :=
  some ([(aj,(0:Int),(2:Int)),(ag,(1:Int),(8:Int)),(af,(1:Int),(16:Int)),(ax,(4:Int),(1024:Int)),(ah,(8:Int),(4096:Int))]:List (Int×Int×Int))
noncomputable def sH (ah:Int)(ag:Int)(r_:(List (Int×Int×Int))):Int->Option (Int⊕Bool)
  | aS=>if aS < ((r_.length:Nat):Int) then((aU r_ aS).bind fun x_1=>if((decide (x_1.1 < x_1.2.1))||(decide (x_1.2.2 < x_1.1)))=true then(Option.map Sum.inr (some false)) else(some (.inl (ay (aS+1))))) else(Option.map Sum.inr (some (decide ((ay (8*ag))<=ah))))
noncomputable def y8 (aj:Int)(ah:Int)(af:Int)(ag:Int)(ax:Int):Option Bool :=
  (zI aj ah af ag ax).bind fun r_=>aY (sH ah ag r_) (0:Int)
noncomputable def rO (aj:Int)(ah:Int)(af:Int)(ag:Int)(ax:Int)(aJ:List UInt8):Option Int :=
  (y8 aj ah af ag ax).bind fun r_=>if(!r_)=true then(some (200:Int)) else(if((decide (((aJ.length:Nat):Int) < 8))||(decide (64 < ((aJ.length:Nat):Int))))=true then(some (201:Int)) else(some (0:Int)))
noncomputable def xq (fD:Int)(aX:Int)(bn:Int)(bK:Int)(fZ:Int)(nX:List UInt8)(uH:List UInt8):Option Int :=
  (rO fD aX bn bK fZ nX).bind fun r_=>if r_≠0 then(some r_) else(if((uH.length:Nat):Int)≠fZ then(some (1:Int)) else(some (0:Int)))
noncomputable def CP (k_:Int):Option (List UInt8) :=
  (aU (⟨[([100]:List UInt8),([105]:List UInt8),([105,100]:List UInt8)],rfl⟩:Vec (List UInt8) 3).l k_).bind fun aS=>some aS
noncomputable def xu (i:Int)(G7:List UInt8):Option ((List UInt8×Int)⊕(List UInt8)) :=
  some (.inl (G7,ay (i+3)))
noncomputable def Bv (b:List UInt8)(i:Int)(v1:UInt32):(List UInt8×Int)->Option ((List UInt8×Int)⊕((List UInt8×Int)⊕(List UInt8)))
  | (Vp,jF)=>if jF < (ay ((if ay (((b.length:Nat):Int) - i) < 3 then ay (((b.length:Nat):Int) - i) else 3)+1)) then((need (0<=ay (18 - (ay (6*jF))))).bind fun u=>(aU ([65,66,67,68,69,70,71,72,73,74,75,76,77,78,79,80,81,82,83,84,85,86,87,88,89,90,97,98,99,100,101,102,103,104,105,106,107,108,109,110,111,112,113,114,115,116,117,118,119,120,121,122,48,49,50,51,52,53,54,55,56,57,43,47]:List UInt8) (((nG v1 (Int.toNat (ay (18 - (ay (6*jF))))))&&&63).toNat:Int)).bind fun c3=>(app Vp ([c3]:List UInt8) 1).bind fun s_3=>some (.inl (s_3,ay (jF+1)))) else(Option.map Sum.inr (xu i Vp))
noncomputable def oQ (b:List UInt8)(s_:List UInt8)(i:Int)(v1:UInt32):Option ((List UInt8×Int)⊕(List UInt8)) :=
  aY (Bv b i v1) (s_,(0:Int))
noncomputable def oU (b:List UInt8)(s_:List UInt8)(i:Int)(v:UInt32):Option ((List UInt8×Int)⊕(List UInt8)) :=
  if 2 < (if ay (((b.length:Nat):Int) - i) < 3 then ay (((b.length:Nat):Int) - i) else 3) then((aU b (ay (i+2))).bind fun iJ=>oQ b s_ i (v|||(UInt32.ofNat iJ.toNat))) else(oQ b s_ i v)
noncomputable def Bz (b:List UInt8):(List UInt8×Int)->Option ((List UInt8×Int)⊕(List UInt8))
  | (s_,i)=>if i < ((b.length:Nat):Int) then((aU b i).bind fun aS=>if 1 < (if ay (((b.length:Nat):Int) - i) < 3 then ay (((b.length:Nat):Int) - i) else 3) then((aU b (ay (i+1))).bind fun x_1=>oU b s_ i ((oh (UInt32.ofNat aS.toNat) ((16:UInt64).toNat))|||(oh (UInt32.ofNat x_1.toNat) ((8:UInt64).toNat)))) else(oU b s_ i (oh (UInt32.ofNat aS.toNat) ((16:UInt64).toNat)))) else(Option.map Sum.inr (some s_))
noncomputable def uZ (b:List UInt8):Option (List UInt8) :=
  aY (Bz b) (([]:List UInt8),(0:Int))
noncomputable def zJ (fD:Int)(aX:Int)(bn:Int)(bK:Int)(fZ:Int)(nX:List UInt8)(uH:List UInt8):Option (List UInt8×Int) :=
  (xq fD aX bn bK fZ nX uH).bind fun r_=>if r_≠0 then(some (([]:List UInt8),r_)) else((CP fD).bind fun aV=>(need (([36,97,114,103,111,110,50]:List UInt8).length+aV.length<=9223372036854775807)).bind fun u=>(need ((([36,97,114,103,111,110,50]:List UInt8)++aV).length+([36,118,61,49,57,36,109,61]:List UInt8).length<=9223372036854775807)).bind fun u1=>(need (-9223372036854775808<=aX/\aX<=9223372036854775807)).bind fun u2=>(need (((([36,97,114,103,111,110,50]:List UInt8)++aV)++([36,118,61,49,57,36,109,61]:List UInt8)).length+(Lib.itoa aX).length<=9223372036854775807)).bind fun u3=>(need ((((([36,97,114,103,111,110,50]:List UInt8)++aV)++([36,118,61,49,57,36,109,61]:List UInt8))++(Lib.itoa aX)).length+([44,116,61]:List UInt8).length<=9223372036854775807)).bind fun u4=>(need (-9223372036854775808<=bn/\bn<=9223372036854775807)).bind fun u5=>(need (((((([36,97,114,103,111,110,50]:List UInt8)++aV)++([36,118,61,49,57,36,109,61]:List UInt8))++(Lib.itoa aX))++([44,116,61]:List UInt8)).length+(Lib.itoa bn).length<=9223372036854775807)).bind fun u6=>(need ((((((([36,97,114,103,111,110,50]:List UInt8)++aV)++([36,118,61,49,57,36,109,61]:List UInt8))++(Lib.itoa aX))++([44,116,61]:List UInt8))++(Lib.itoa bn)).length+([44,112,61]:List UInt8).length<=9223372036854775807)).bind fun u7=>(need (-9223372036854775808<=bK/\bK<=9223372036854775807)).bind fun u8=>(need (((((((([36,97,114,103,111,110,50]:List UInt8)++aV)++([36,118,61,49,57,36,109,61]:List UInt8))++(Lib.itoa aX))++([44,116,61]:List UInt8))++(Lib.itoa bn))++([44,112,61]:List UInt8)).length+(Lib.itoa bK).length<=9223372036854775807)).bind fun u9=>(need ((((((((([36,97,114,103,111,110,50]:List UInt8)++aV)++([36,118,61,49,57,36,109,61]:List UInt8))++(Lib.itoa aX))++([44,116,61]:List UInt8))++(Lib.itoa bn))++([44,112,61]:List UInt8))++(Lib.itoa bK)).length+([36]:List UInt8).length<=9223372036854775807)).bind fun u10=>(uZ nX).bind fun dK=>(need (((((((((([36,97,114,103,111,110,50]:List UInt8)++aV)++([36,118,61,49,57,36,109,61]:List UInt8))++(Lib.itoa aX))++([44,116,61]:List UInt8))++(Lib.itoa bn))++([44,112,61]:List UInt8))++(Lib.itoa bK))++([36]:List UInt8)).length+dK.length<=9223372036854775807)).bind fun u11=>(need ((((((((((([36,97,114,103,111,110,50]:List UInt8)++aV)++([36,118,61,49,57,36,109,61]:List UInt8))++(Lib.itoa aX))++([44,116,61]:List UInt8))++(Lib.itoa bn))++([44,112,61]:List UInt8))++(Lib.itoa bK))++([36]:List UInt8))++dK).length+([36]:List UInt8).length<=9223372036854775807)).bind fun u12=>(uZ uH).bind fun gq=>(need (((((((((((([36,97,114,103,111,110,50]:List UInt8)++aV)++([36,118,61,49,57,36,109,61]:List UInt8))++(Lib.itoa aX))++([44,116,61]:List UInt8))++(Lib.itoa bn))++([44,112,61]:List UInt8))++(Lib.itoa bK))++([36]:List UInt8))++dK)++([36]:List UInt8)).length+gq.length<=9223372036854775807)).bind fun u13=>some (((((((((((([36,97,114,103,111,110,50]:List UInt8)++aV)++([36,118,61,49,57,36,109,61]:List UInt8))++(Lib.itoa aX))++([44,116,61]:List UInt8))++(Lib.itoa bn))++([44,112,61]:List UInt8))++(Lib.itoa bK))++([36]:List UInt8))++dK)++([36]:List UInt8))++gq,(0:Int)))
noncomputable def nO (aj:Int)(ah:Int)(af:Int)(ag:Int)(ax:Int):Option Int :=
  if((((((((((decide (aj < 0))||(decide (2 < aj)))||(decide (ag < 1)))||(decide (8 < ag)))||(decide (ah < (ay (8*ag)))))||(decide (4096 < ah)))||(decide (af < 1)))||(decide (16 < af)))||(decide (ax < 4)))||(decide (1024 < ax)))=true then(some (200:Int)) else(some (0:Int))
noncomputable def y9 (aj:Int)(ah:Int)(af:Int)(ag:Int)(ax:Int)(aJ:List UInt8):Option Int :=
  (nO aj ah af ag ax).bind fun r_=>if r_≠0 then(some r_) else(if((decide (((aJ.length:Nat):Int) < 8))||(decide (64 < ((aJ.length:Nat):Int))))=true then(some (201:Int)) else(some (0:Int)))
noncomputable def qm  : (UInt64×List UInt8)->Option ((UInt64×List UInt8)⊕(List UInt8))
  | (n1,s_)=>(need (([UInt8.ofNat ((48:UInt64)+(n1 % 10)).toNat]:List UInt8).length+s_.length<=9223372036854775807)).bind fun u=>if(n1 / 10)=0 then(Option.map Sum.inr (some (([UInt8.ofNat ((48:UInt64)+(n1 % 10)).toNat]:List UInt8)++s_))) else(some (.inl (n1 / 10,([UInt8.ofNat ((48:UInt64)+(n1 % 10)).toNat]:List UInt8)++s_)))
noncomputable def zK (n:UInt64):Option (List UInt8) :=
  aY (qm) (n,([]:List UInt8))
noncomputable def yE (b_:Int)(Vp:List UInt8)(have_2:Int)(worth2:Int):Option ((List UInt8×Int×Int×Int)⊕((List UInt8×Int×Int×Int)⊕(List UInt8))) :=
  some (.inl (Vp,have_2,worth2,ay (b_ - 1)))
noncomputable def DR (b:List UInt8)(i:Int):(List UInt8×Int×Int×Int)->Option ((List UInt8×Int×Int×Int)⊕((List UInt8×Int×Int×Int)⊕(List UInt8)))
  | (G7,have_1,XJ,b_)=>if 0<=b_ then((aU b i).bind fun aS=>(need (0<=b_)).bind fun u=>if(ay (have_1+1))=6 then((aU ([65,66,67,68,69,70,71,72,73,74,75,76,77,78,79,80,81,82,83,84,85,86,87,88,89,90,97,98,99,100,101,102,103,104,105,106,107,108,109,110,111,112,113,114,115,116,117,118,119,120,121,122,48,49,50,51,52,53,54,55,56,57,43,47]:List UInt8) (ay ((ay (2*XJ))+(Int.tmod ((SL aS (Int.toNat b_)).toNat:Int) 2)))).bind fun c3=>(app G7 ([c3]:List UInt8) 1).bind fun s_3=>yE b_ s_3 (0:Int) (0:Int)) else(yE b_ G7 (ay (have_1+1)) (ay ((ay (2*XJ))+(Int.tmod ((SL aS (Int.toNat b_)).toNat:Int) 2))))) else(Option.map Sum.inr (some (.inl (G7,have_1,XJ,ay (i+1)))))
noncomputable def yF (s_4:List UInt8):Option (List UInt8) :=
  some s_4
noncomputable def DT (s_:List UInt8):(Int×Int)->Option ((Int×Int)⊕(List UInt8))
  | (have_3,worth3)=>if have_3 < 6 then(some (.inl (ay (have_3+1),ay (2*worth3)))) else(Option.map Sum.inr ((aU ([65,66,67,68,69,70,71,72,73,74,75,76,77,78,79,80,81,82,83,84,85,86,87,88,89,90,97,98,99,100,101,102,103,104,105,106,107,108,109,110,111,112,113,114,115,116,117,118,119,120,121,122,48,49,50,51,52,53,54,55,56,57,43,47]:List UInt8) worth3).bind fun c6=>(app s_ ([c6]:List UInt8) 1).bind fun s_5=>yF s_5))
noncomputable def Io (b:List UInt8):(List UInt8×Int×Int×Int)->Option ((List UInt8×Int×Int×Int)⊕(List UInt8))
  | (s_,t_,worth,i)=>if i < ((b.length:Nat):Int) then(aY (DR b i) (s_,t_,worth,(7:Int))) else(Option.map Sum.inr (if 0 < t_ then(aY (DT s_) (t_,worth)) else(yF s_)))
noncomputable def Eh (b:List UInt8):Option (List UInt8) :=
  aY (Io b) (([]:List UInt8),(0:Int),(0:Int),(0:Int))
noncomputable def I_ (fD:Int)(aX:Int)(bn:Int)(bK:Int)(fZ:Int)(nX:List UInt8)(uH:List UInt8):Option (List UInt8×Int) :=
  (y9 fD aX bn bK fZ nX).bind fun r_=>if r_≠0 then(some (([]:List UInt8),r_)) else(if((uH.length:Nat):Int)≠fZ then(some (([]:List UInt8),(1:Int))) else((aU ([([100]:List UInt8),([105]:List UInt8),([105,100]:List UInt8)]:List (List UInt8)) fD).bind fun aS=>(need (([36,97,114,103,111,110,50]:List UInt8).length+aS.length<=9223372036854775807)).bind fun u=>(need ((([36,97,114,103,111,110,50]:List UInt8)++aS).length+([36,118,61,49,57,36,109,61]:List UInt8).length<=9223372036854775807)).bind fun u1=>(zK (UInt64.ofInt aX)).bind fun aV=>(need (((([36,97,114,103,111,110,50]:List UInt8)++aS)++([36,118,61,49,57,36,109,61]:List UInt8)).length+aV.length<=9223372036854775807)).bind fun u2=>(need ((((([36,97,114,103,111,110,50]:List UInt8)++aS)++([36,118,61,49,57,36,109,61]:List UInt8))++aV).length+([44,116,61]:List UInt8).length<=9223372036854775807)).bind fun u3=>(zK (UInt64.ofInt bn)).bind fun dK=>(need (((((([36,97,114,103,111,110,50]:List UInt8)++aS)++([36,118,61,49,57,36,109,61]:List UInt8))++aV)++([44,116,61]:List UInt8)).length+dK.length<=9223372036854775807)).bind fun u4=>(need ((((((([36,97,114,103,111,110,50]:List UInt8)++aS)++([36,118,61,49,57,36,109,61]:List UInt8))++aV)++([44,116,61]:List UInt8))++dK).length+([44,112,61]:List UInt8).length<=9223372036854775807)).bind fun u5=>(zK (UInt64.ofInt bK)).bind fun gq=>(need (((((((([36,97,114,103,111,110,50]:List UInt8)++aS)++([36,118,61,49,57,36,109,61]:List UInt8))++aV)++([44,116,61]:List UInt8))++dK)++([44,112,61]:List UInt8)).length+gq.length<=9223372036854775807)).bind fun u6=>(need ((((((((([36,97,114,103,111,110,50]:List UInt8)++aS)++([36,118,61,49,57,36,109,61]:List UInt8))++aV)++([44,116,61]:List UInt8))++dK)++([44,112,61]:List UInt8))++gq).length+([36]:List UInt8).length<=9223372036854775807)).bind fun u7=>(Eh nX).bind fun iR=>(need (((((((((([36,97,114,103,111,110,50]:List UInt8)++aS)++([36,118,61,49,57,36,109,61]:List UInt8))++aV)++([44,116,61]:List UInt8))++dK)++([44,112,61]:List UInt8))++gq)++([36]:List UInt8)).length+iR.length<=9223372036854775807)).bind fun u8=>(need ((((((((((([36,97,114,103,111,110,50]:List UInt8)++aS)++([36,118,61,49,57,36,109,61]:List UInt8))++aV)++([44,116,61]:List UInt8))++dK)++([44,112,61]:List UInt8))++gq)++([36]:List UInt8))++iR).length+([36]:List UInt8).length<=9223372036854775807)).bind fun u9=>(Eh uH).bind fun jH=>(need (((((((((((([36,97,114,103,111,110,50]:List UInt8)++aS)++([36,118,61,49,57,36,109,61]:List UInt8))++aV)++([44,116,61]:List UInt8))++dK)++([44,112,61]:List UInt8))++gq)++([36]:List UInt8))++iR)++([36]:List UInt8)).length+jH.length<=9223372036854775807)).bind fun u10=>some (((((((((((([36,97,114,103,111,110,50]:List UInt8)++aS)++([36,118,61,49,57,36,109,61]:List UInt8))++aV)++([44,116,61]:List UInt8))++dK)++([44,112,61]:List UInt8))++gq)++([36]:List UInt8))++iR)++([36]:List UInt8))++jH,(0:Int))))
noncomputable def kT (lL:List UInt8)(rP:Bool)(t:List UInt8):(Int×Int)->Option ((Int×Int)⊕(List UInt8×Int×Bool))
  | (p,i)=>if((decide (i < (t.length:Int)))&&rP)=true then((FI (!(decide ((lL.length:Int)<=p))) (aU lL p)).bind fun c=>(FI (!(decide ((lL.length:Int)<=p))) (aU t i)).bind fun c1=>if((decide ((lL.length:Int)<=p))||(decide (c≠c1)))=true then(Option.map Sum.inr (some (lL,p,false))) else(some (.inl (ay (p+1),ay (i+1))))) else(Option.map Sum.inr (some (lL,p,rP)))
noncomputable def iW (lL:List UInt8)(qi:Int)(rP:Bool)(t:List UInt8):Option (List UInt8×Int×Bool) :=
  aY (kT lL rP t) (qi,(0:Int))
noncomputable def iY (s_:List UInt8)(lJ:List UInt8):Option Bool :=
  (FI (decide ((lJ.length:Int)<=(s_.length:Int))) (G6 s_ 0 (lJ.length:Int))).bind fun G7=>some ((decide ((lJ.length:Int)<=(s_.length:Int)))&&(decide (G7=lJ)))
noncomputable def jq (s_:List UInt8)(lJ:List UInt8):Option Bool :=
  (iY s_ lJ).bind fun r_=>some r_
noncomputable def jI (lL:List UInt8)(qi:Int):(Int×UInt64)->Option ((Int×UInt64)⊕(UInt64×List UInt8×Int×Bool))
  | (p,v)=>(FI (decide (p < (lL.length:Int))) (aU lL p)).bind fun c=>(FI ((decide (p < (lL.length:Int)))&&(decide ((48:UInt8)<=c))) (aU lL p)).bind fun c1=>if(((decide (p < (lL.length:Int)))&&(decide ((48:UInt8)<=c)))&&(decide (c1<=57)))=true then((aU lL p).bind fun c2=>if(((decide (qi < p))&&(decide (v=0)))||(decide ((((18446744073709551615:UInt64) - (UInt64.ofNat (c2 - 48).toNat)) / 10) < v)))=true then(Option.map Sum.inr (some ((0:UInt64),lL,p,false))) else(some (.inl (ay (p+1),((10:UInt64)*v)+(UInt64.ofNat (c2 - 48).toNat))))) else(Option.map Sum.inr (some (v,lL,p,decide (qi < p))))
noncomputable def lN (lL:List UInt8)(qi:Int)(rP:Bool):Option (UInt64×List UInt8×Int×Bool) :=
  if(!rP)=true then(some ((0:UInt64),lL,qi,rP)) else(aY (jI lL qi) (qi,(0:UInt64)))
noncomputable def ui (v:UInt64):Option Int :=
  if(9223372036854775807:UInt64) < v then(some (-1:Int)) else(some (ay v.toNat))
noncomputable def lQ (s_:List UInt8)(c:UInt8):Option Int :=
  some (TC s_ c)
noncomputable def rZ (s_:List UInt8)(c:UInt8):Option Int :=
  (lQ s_ c).bind fun r_=>some r_
noncomputable def jT (lL:List UInt8)(qi:Int)(rP:Bool):Int->Option (Int⊕(List UInt8×Int×List UInt8×Int×Bool))
  | p=>if(rP&&(decide (p < (lL.length:Int))))=true then((aU lL p).bind fun c=>(rZ ([43,47]:List UInt8) c).bind fun r_=>(FI (!(decide (0<=r_))) (aU lL p)).bind fun c1=>(FI (!(decide (0<=r_))) (FI (decide ((48:UInt8)<=c1)) (aU lL p))).bind fun c2=>(FI (!((decide (0<=r_))||((decide ((48:UInt8)<=c1))&&(decide (c2<=57))))) (aU lL p)).bind fun c3=>(FI (!((decide (0<=r_))||((decide ((48:UInt8)<=c1))&&(decide (c2<=57))))) (FI (decide ((65:UInt8)<=c3)) (aU lL p))).bind fun c4=>(FI (!(((decide (0<=r_))||((decide ((48:UInt8)<=c1))&&(decide (c2<=57))))||((decide ((65:UInt8)<=c3))&&(decide (c4<=90))))) (aU lL p)).bind fun c5=>(FI (!(((decide (0<=r_))||((decide ((48:UInt8)<=c1))&&(decide (c2<=57))))||((decide ((65:UInt8)<=c3))&&(decide (c4<=90))))) (FI (decide ((97:UInt8)<=c5)) (aU lL p))).bind fun c6=>if((((decide (0<=r_))||((decide ((48:UInt8)<=c1))&&(decide (c2<=57))))||((decide ((65:UInt8)<=c3))&&(decide (c4<=90))))||((decide ((97:UInt8)<=c5))&&(decide (c6<=122))))=true then(some (.inl (ay (p+1)))) else(Option.map Sum.inr ((G6 lL qi p).bind fun s_=>some (s_,qi,lL,p,rP)))) else(Option.map Sum.inr ((G6 lL qi p).bind fun G7=>some (G7,qi,lL,p,rP)))
noncomputable def mZ (lL:List UInt8)(qi:Int)(rP:Bool):Option (List UInt8×Int×List UInt8×Int×Bool) :=
  aY (jT lL qi rP) qi
noncomputable def u_ (c:UInt8):Option (UInt32×Bool) :=
  if((decide ((65:UInt8)<=c))&&(decide (c<=90)))=true then(some (UInt32.ofNat (c - 65).toNat,true)) else(if((decide ((97:UInt8)<=c))&&(decide (c<=122)))=true then(some ((UInt32.ofNat (c - 97).toNat)+26,true)) else(if((decide ((48:UInt8)<=c))&&(decide (c<=57)))=true then(some ((UInt32.ofNat (c - 48).toNat)+52,true)) else(if c=43 then(some ((62:UInt32),true)) else(if c=47 then(some ((63:UInt32),true)) else(some ((0:UInt32),false))))))
noncomputable def ng (aS:Int)(b1:List UInt8)(have_1:Int)(v1:UInt32):Option ((List UInt8×Int×UInt32×Int)⊕(List UInt8×Int×Int)) :=
  some (.inl (b1,have_1,v1,ay (aS+1)))
noncomputable def yR (s_:List UInt8):(List UInt8×Int×UInt32×Int)->Option ((List UInt8×Int×UInt32×Int)⊕(List UInt8×Int×Int))
  | (b,t_,v,aS)=>if aS < (s_.length:Int) then((aU s_ aS).bind fun c2=>(u_ c2).bind fun r_=>if(!r_.2)=true then(Option.map Sum.inr (some (([]:List UInt8),aS,(4:Int)))) else(if 8<=(ay (t_+6)) then((need (0<=ay ((ay (t_+6)) - 8))).bind fun u=>(app b ([UInt8.ofNat (nG ((oh v ((6:UInt64).toNat))|||r_.1) (Int.toNat (ay ((ay (t_+6)) - 8)))).toNat]:List UInt8) 1).bind fun b2=>(need (0<=ay ((ay (t_+6)) - 8))).bind fun u1=>ng aS b2 (ay ((ay (t_+6)) - 8)) (((oh v ((6:UInt64).toNat))|||r_.1)&&&((oh 1 (Int.toNat (ay ((ay (t_+6)) - 8)))) - 1))) else(ng aS b (ay (t_+6)) ((oh v ((6:UInt64).toNat))|||r_.1)))) else(Option.map Sum.inr (if(Int.tmod (s_.length:Int) 4)=1 then(some (([]:List UInt8),(s_.length:Int),(4:Int))) else(if v≠0 then(some (([]:List UInt8),ay ((s_.length:Int) - 1),(4:Int))) else(some (b,(0:Int),(0:Int))))))
noncomputable def qw (s_:List UInt8):Option (List UInt8×Int×Int) :=
  aY (yR s_) (([]:List UInt8),(0:Int),(0:UInt32),(0:Int))
noncomputable def jr (s_:List UInt8)(p:List UInt8)(p1:Int)(p2:Bool)(t:Int):Option (Int×Int×Int×Int×Int×List UInt8×List UInt8×Int×Int) :=
  (iW p p1 p2 ([36,118,61,49,57,36,109,61]:List UInt8)).bind fun IL=>(lN IL.1 IL.2.1 IL.2.2).bind fun Iy=>(ui Iy.1).bind fun zu=>(iW Iy.2.1 Iy.2.2.1 Iy.2.2.2 ([44,116,61]:List UInt8)).bind fun zL=>(lN zL.1 zL.2.1 zL.2.2).bind fun DU=>(ui DU.1).bind fun DV=>(iW DU.2.1 DU.2.2.1 DU.2.2.2 ([44,112,61]:List UInt8)).bind fun Ja=>(lN Ja.1 Ja.2.1 Ja.2.2).bind fun Jb=>(ui Jb.1).bind fun Iz=>(iW Jb.2.1 Jb.2.2.1 Jb.2.2.2 ([36]:List UInt8)).bind fun TG=>(mZ TG.1 TG.2.1 TG.2.2).bind fun OL=>(iW OL.2.2.1 OL.2.2.2.1 OL.2.2.2.2 ([36]:List UInt8)).bind fun r_19=>(mZ r_19.1 r_19.2.1 r_19.2.2).bind fun DW=>if((!DW.2.2.2.2)||(decide (DW.2.2.2.1 < (s_.length:Int))))=true then(some ((0:Int),(0:Int),(0:Int),(0:Int),(0:Int),([]:List UInt8),([]:List UInt8),DW.2.2.2.1,(4:Int))) else((qw OL.1).bind fun IA=>if IA.2.2≠0 then(some ((0:Int),(0:Int),(0:Int),(0:Int),(0:Int),([]:List UInt8),([]:List UInt8),OL.2.1,(4:Int))) else((qw DW.1).bind fun yh=>if yh.2.2≠0 then(some ((0:Int),(0:Int),(0:Int),(0:Int),(0:Int),([]:List UInt8),([]:List UInt8),DW.2.1,(4:Int))) else((xq t zu DV Iz ((yh.1.length:Nat):Int) IA.1 yh.1).bind fun r_23=>if r_23≠0 then(some ((0:Int),(0:Int),(0:Int),(0:Int),(0:Int),([]:List UInt8),([]:List UInt8),(0:Int),(1:Int))) else(some (t,zu,DV,Iz,((yh.1.length:Nat):Int),IA.1,yh.1,(0:Int),(0:Int))))))
noncomputable def uj (s_:List UInt8):Option (Int×Int×Int×Int×Int×List UInt8×List UInt8×Int×Int) :=
  (iW s_ (0:Int) true ([36,97,114,103,111,110,50]:List UInt8)).bind fun r_=>if r_.2.2=true then((G6 s_ r_.2.1 (s_.length:Int)).bind fun G7=>(jq G7 ([105,100]:List UInt8)).bind fun aV=>if aV=true then(jr s_ r_.1 (ay (r_.2.1+2)) r_.2.2 (2:Int)) else(if r_.2.2=true then((G6 s_ r_.2.1 (s_.length:Int)).bind fun Vp=>(jq Vp ([105]:List UInt8)).bind fun dK=>if dK=true then(jr s_ r_.1 (ay (r_.2.1+1)) r_.2.2 (1:Int)) else((iW r_.1 r_.2.1 r_.2.2 ([100]:List UInt8)).bind fun gq=>jr s_ gq.1 gq.2.1 gq.2.2 (0:Int))) else((iW r_.1 r_.2.1 r_.2.2 ([100]:List UInt8)).bind fun iR=>jr s_ iR.1 iR.2.1 iR.2.2 (0:Int)))) else(if r_.2.2=true then((G6 s_ r_.2.1 (s_.length:Int)).bind fun s_3=>(jq s_3 ([105]:List UInt8)).bind fun jH=>if jH=true then(jr s_ r_.1 (ay (r_.2.1+1)) r_.2.2 (1:Int)) else((iW r_.1 r_.2.1 r_.2.2 ([100]:List UInt8)).bind fun qx=>jr s_ qx.1 qx.2.1 qx.2.2 (0:Int))) else((iW r_.1 r_.2.1 r_.2.2 ([100]:List UInt8)).bind fun sJ=>jr s_ sJ.1 sJ.2.1 sJ.2.2 (0:Int)))
noncomputable def F_ (a_:List UInt8)(b:List UInt8):Int->Option (Int⊕Bool)
  | i=>if i < ((a_.length:Nat):Int) then((aU a_ i).bind fun aS=>(aU b i).bind fun x_1=>if aS≠x_1 then(Option.map Sum.inr (some false)) else(some (.inl (ay (i+1))))) else(Option.map Sum.inr (some true))
noncomputable def EP (a_:List UInt8)(b:List UInt8):Option Bool :=
  if((a_.length:Nat):Int)≠((b.length:Nat):Int) then(some false) else(aY (F_ a_ b) (0:Int))
noncomputable def Hm (a_:List UInt8)(b:List UInt8):Option Bool :=
  (EP a_ b).bind fun r_=>some r_
noncomputable def CQ  : Option Bool :=
  (uj ([36,97,114,103,111,110,50,105,100,36,118,61,49,56]:List UInt8)).bind fun r_=>some ((decide (r_.2.2.2.2.2.2.2.1=13))&&(decide (r_.2.2.2.2.2.2.2.2=4)))
noncomputable def Ho (aj:Int)(ah:Int)(af:Int)(ag:Int)(ax:Int)(most:Int)(hold:UInt64):Option (Int⊕(Int×Int×Int×Int×Int×Int×UInt64×(Mp (List UInt8×Int×UInt64)))) :=
  (rO aj ah af ag ax (List.replicate (Int.toNat (16:Int)) (0:UInt8))).bind fun r_=>if r_≠0 then(some (Sum.inl r_)) else(if((decide (most < 1))||(decide (100 < most)))=true then(some (Sum.inl (1:Int))) else(some (Sum.inr (aj,ah,af,ag,ax,most,hold,([]:Mp (List UInt8×Int×UInt64))))))
noncomputable def Ip (s_:List UInt8):Int->Option (Int⊕Bool)
  | aS=>if aS < (s_.length:Int) then((aU s_ aS).bind fun c=>if(!((((((decide ((97:UInt8)<=c))&&(decide (c<=122)))||((decide ((48:UInt8)<=c))&&(decide (c<=57))))||(decide (c=95)))||(decide (c=46)))||(decide (c=45))))=true then(Option.map Sum.inr (some false)) else(some (.inl (ay (aS+1))))) else(Option.map Sum.inr (some true))
noncomputable def zM (s_:List UInt8):Option Bool :=
  if((decide ((s_.length:Int) < 1))||(decide (32 < (s_.length:Int))))=true then(some false) else(aY (Ip s_) (0:Int))
noncomputable def lF (qM:Int)(lS:Int)(lT:Int)(nV:Int)(vZ:Int)(zN:Int)(zO:UInt64)(ed:Mp (List UInt8×Int×UInt64)):Option (Int×Int×Int×Int×Int×Int×UInt64) :=
  some (qM,lS,lT,nV,vZ,zN,zO)
noncomputable def oK (k_:Int):Option (Int×Int×Int) :=
  if k_=1 then(some ((64:Int),(64:Int),(16:Int))) else(if k_=2 then(some ((32:Int),(32:Int),(8:Int))) else(some ((0:Int),(0:Int),(0:Int))))
noncomputable def Ei (k_:Int):Option (Int×Int) :=
  (oK k_).bind fun r_=>if r_.1=0 then(some ((0:Int),(1:Int))) else(some (r_.1,(0:Int)))
noncomputable def lU (n:Int)(lo:Int)(hi:Int):Option Bool :=
  some ((decide (lo<=n))&&(decide (n<=hi)))
noncomputable def xw  : Option Int :=
  some (0:Int)
noncomputable def sK (k_:Int)(bF:UInt32)(aA:Int)(aZ:Int)(bD:List UInt8)(aF:List UInt8)(r_:(Int×Int×Int))(aS:Bool):Option Int :=
  if aS=true then(some (23:Int)) else(if((decide (k_=2))&&(decide ((65535:UInt32) < bF)))=true then(some (24:Int)) else((lU aA (0:Int) (255:Int)).bind fun jH=>if(!jH)=true then(some (25:Int)) else((lU aZ (0:Int) r_.2.1).bind fun qx=>if(!qx)=true then(some (26:Int)) else(if r_.2.2 < ((bD.length:Nat):Int) then(some (27:Int)) else(if r_.2.2 < ((aF.length:Nat):Int) then(some (28:Int)) else(xw))))))
noncomputable def oV (k_:Int)(aP:Int)(df:Int)(aQ:Int)(aW:Int)(aK:UInt64)(bF:UInt32)(aA:Int)(aZ:Int)(bD:List UInt8)(aF:List UInt8)(r_:(Int×Int×Int))(least:Int):Option Int :=
  (lU aP (1:Int) r_.2.1).bind fun aV=>if(!aV)=true then(some (20:Int)) else((lU df (0:Int) r_.2.1).bind fun dK=>if(!dK)=true then(some (8:Int)) else((lU aQ (0:Int) (255:Int)).bind fun gq=>if(!gq)=true then(some (21:Int)) else((lU aW least (255:Int)).bind fun iR=>if(!iR)=true then(some (22:Int)) else(if((decide (bF≠0))&&(decide ((4294967296:UInt64)<=aK)))=true then(sK k_ bF aA aZ bD aF r_ ((decide (bF≠0))&&(decide ((4294967296:UInt64)<=aK)))) else(sK k_ bF aA aZ bD aF r_ (((decide (bF=0))&&(decide (k_=2)))&&(decide ((281474976710656:UInt64)<=aK))))))))
noncomputable def oL (k_:Int)(aP:Int)(df:Int)(aQ:Int)(aW:Int)(bY:UInt32)(aK:UInt64)(bF:UInt32)(aA:Int)(aZ:Int)(bD:List UInt8)(aF:List UInt8):Option Int :=
  (oK k_).bind fun r_=>if r_.2.1=0 then(some (1:Int)) else(if bF≠0 then(oV k_ aP df aQ aW aK bF aA aZ bD aF r_ (0:Int)) else(oV k_ aP df aQ aW aK bF aA aZ bD aF r_ (1:Int)))
noncomputable def uk (k_:Int):Option (List (Int×Int×Int×List UInt8×Int)) :=
  if k_=1 then(some ([((1:Int),(0:Int),(1:Int),([100,105,103,101,115,116]:List UInt8),(20:Int)),((2:Int),(1:Int),(1:Int),([107,101,121]:List UInt8),(8:Int)),((3:Int),(2:Int),(1:Int),([102,97,110,111,117,116]:List UInt8),(21:Int)),((4:Int),(3:Int),(1:Int),([100,101,112,116,104]:List UInt8),(22:Int)),((5:Int),(4:Int),(4:Int),([108,101,97,102]:List UInt8),(1:Int)),((6:Int),(8:Int),(8:Int),([111,102,102,115,101,116]:List UInt8),(23:Int)),((7:Int),(12:Int),(4:Int),([120,111,102]:List UInt8),(24:Int)),((8:Int),(16:Int),(1:Int),([110,111,100,101]:List UInt8),(25:Int)),((9:Int),(17:Int),(1:Int),([105,110,110,101,114]:List UInt8),(26:Int))]:List (Int×Int×Int×List UInt8×Int))) else((aU ([((1:Int),(0:Int),(1:Int),([100,105,103,101,115,116]:List UInt8),(20:Int)),((2:Int),(1:Int),(1:Int),([107,101,121]:List UInt8),(8:Int)),((3:Int),(2:Int),(1:Int),([102,97,110,111,117,116]:List UInt8),(21:Int)),((4:Int),(3:Int),(1:Int),([100,101,112,116,104]:List UInt8),(22:Int)),((5:Int),(4:Int),(4:Int),([108,101,97,102]:List UInt8),(1:Int)),((6:Int),(8:Int),(8:Int),([111,102,102,115,101,116]:List UInt8),(23:Int)),((7:Int),(12:Int),(4:Int),([120,111,102]:List UInt8),(24:Int)),((8:Int),(16:Int),(1:Int),([110,111,100,101]:List UInt8),(25:Int)),((9:Int),(17:Int),(1:Int),([105,110,110,101,114]:List UInt8),(26:Int))]:List (Int×Int×Int×List UInt8×Int)) (5:Int)).bind fun aS=>(aU (([((1:Int),(0:Int),(1:Int),([100,105,103,101,115,116]:List UInt8),(20:Int)),((2:Int),(1:Int),(1:Int),([107,101,121]:List UInt8),(8:Int)),((3:Int),(2:Int),(1:Int),([102,97,110,111,117,116]:List UInt8),(21:Int)),((4:Int),(3:Int),(1:Int),([100,101,112,116,104]:List UInt8),(22:Int)),((5:Int),(4:Int),(4:Int),([108,101,97,102]:List UInt8),(1:Int)),((6:Int),(8:Int),(8:Int),([111,102,102,115,101,116]:List UInt8),(23:Int)),((7:Int),(12:Int),(4:Int),([120,111,102]:List UInt8),(24:Int)),((8:Int),(16:Int),(1:Int),([110,111,100,101]:List UInt8),(25:Int)),((9:Int),(17:Int),(1:Int),([105,110,110,101,114]:List UInt8),(26:Int))]:List (Int×Int×Int×List UInt8×Int)).set (Int.toNat (5:Int)) (aS.1,aS.2.1,(6:Int),aS.2.2.2.1,aS.2.2.2.2)) (6:Int)).bind fun x_1=>(aU ((([((1:Int),(0:Int),(1:Int),([100,105,103,101,115,116]:List UInt8),(20:Int)),((2:Int),(1:Int),(1:Int),([107,101,121]:List UInt8),(8:Int)),((3:Int),(2:Int),(1:Int),([102,97,110,111,117,116]:List UInt8),(21:Int)),((4:Int),(3:Int),(1:Int),([100,101,112,116,104]:List UInt8),(22:Int)),((5:Int),(4:Int),(4:Int),([108,101,97,102]:List UInt8),(1:Int)),((6:Int),(8:Int),(8:Int),([111,102,102,115,101,116]:List UInt8),(23:Int)),((7:Int),(12:Int),(4:Int),([120,111,102]:List UInt8),(24:Int)),((8:Int),(16:Int),(1:Int),([110,111,100,101]:List UInt8),(25:Int)),((9:Int),(17:Int),(1:Int),([105,110,110,101,114]:List UInt8),(26:Int))]:List (Int×Int×Int×List UInt8×Int)).set (Int.toNat (5:Int)) (aS.1,aS.2.1,(6:Int),aS.2.2.2.1,aS.2.2.2.2)).set (Int.toNat (6:Int)) (x_1.1,x_1.2.1,(2:Int),x_1.2.2.2.1,x_1.2.2.2.2)) (7:Int)).bind fun iJ=>(aU (((([((1:Int),(0:Int),(1:Int),([100,105,103,101,115,116]:List UInt8),(20:Int)),((2:Int),(1:Int),(1:Int),([107,101,121]:List UInt8),(8:Int)),((3:Int),(2:Int),(1:Int),([102,97,110,111,117,116]:List UInt8),(21:Int)),((4:Int),(3:Int),(1:Int),([100,101,112,116,104]:List UInt8),(22:Int)),((5:Int),(4:Int),(4:Int),([108,101,97,102]:List UInt8),(1:Int)),((6:Int),(8:Int),(8:Int),([111,102,102,115,101,116]:List UInt8),(23:Int)),((7:Int),(12:Int),(4:Int),([120,111,102]:List UInt8),(24:Int)),((8:Int),(16:Int),(1:Int),([110,111,100,101]:List UInt8),(25:Int)),((9:Int),(17:Int),(1:Int),([105,110,110,101,114]:List UInt8),(26:Int))]:List (Int×Int×Int×List UInt8×Int)).set (Int.toNat (5:Int)) (aS.1,aS.2.1,(6:Int),aS.2.2.2.1,aS.2.2.2.2)).set (Int.toNat (6:Int)) (x_1.1,x_1.2.1,(2:Int),x_1.2.2.2.1,x_1.2.2.2.2)).set (Int.toNat (7:Int)) (iJ.1,(14:Int),iJ.2.2.1,iJ.2.2.2.1,iJ.2.2.2.2)) (8:Int)).bind fun jF=>some ((((([((1:Int),(0:Int),(1:Int),([100,105,103,101,115,116]:List UInt8),(20:Int)),((2:Int),(1:Int),(1:Int),([107,101,121]:List UInt8),(8:Int)),((3:Int),(2:Int),(1:Int),([102,97,110,111,117,116]:List UInt8),(21:Int)),((4:Int),(3:Int),(1:Int),([100,101,112,116,104]:List UInt8),(22:Int)),((5:Int),(4:Int),(4:Int),([108,101,97,102]:List UInt8),(1:Int)),((6:Int),(8:Int),(8:Int),([111,102,102,115,101,116]:List UInt8),(23:Int)),((7:Int),(12:Int),(4:Int),([120,111,102]:List UInt8),(24:Int)),((8:Int),(16:Int),(1:Int),([110,111,100,101]:List UInt8),(25:Int)),((9:Int),(17:Int),(1:Int),([105,110,110,101,114]:List UInt8),(26:Int))]:List (Int×Int×Int×List UInt8×Int)).set (Int.toNat (5:Int)) (aS.1,aS.2.1,(6:Int),aS.2.2.2.1,aS.2.2.2.2)).set (Int.toNat (6:Int)) (x_1.1,x_1.2.1,(2:Int),x_1.2.2.2.1,x_1.2.2.2.2)).set (Int.toNat (7:Int)) (iJ.1,(14:Int),iJ.2.2.1,iJ.2.2.2.1,iJ.2.2.2.2)).set (Int.toNat (8:Int)) (jF.1,(15:Int),jF.2.2.1,jF.2.2.2.1,jF.2.2.2.2)))
noncomputable def BQ (aP:Int)(df:Int)(aQ:Int)(aW:Int)(bY:UInt32)(aK:UInt64)(bF:UInt32)(aA:Int)(aZ:Int)(bD:List UInt8)(aF:List UInt8)(field:Int):Option UInt64 :=
  if field=1 then(some (UInt64.ofInt aP)) else(if field=2 then(some (UInt64.ofInt df)) else(if field=3 then(some (UInt64.ofInt aQ)) else(if field=4 then(some (UInt64.ofInt aW)) else(if field=5 then(some (UInt64.ofNat bY.toNat)) else(if field=6 then(some aK) else(if field=7 then(some (UInt64.ofNat bF.toNat)) else(if field=8 then(some (UInt64.ofInt aA)) else(some (UInt64.ofInt aZ)))))))))
noncomputable def zQ (at_:Int)(size:Int)(v:UInt64):(List UInt8×Int)->Option ((List UInt8×Int)⊕(List UInt8))
  | (b1,aS)=>if aS < size then((need (0<=ay (8*aS))).bind fun u=>(aU b1 (ay (at_+aS))).bind fun x_1=>some (.inl (b1.set (Int.toNat (ay (at_+aS))) (UInt8.ofNat (iG v (Int.toNat (ay (8*aS)))).toNat),ay (aS+1)))) else(Option.map Sum.inr (some b1))
noncomputable def CS (b:List UInt8)(at_:Int)(size:Int)(v:UInt64):Option (List UInt8) :=
  aY (zQ at_ size v) (b,(0:Int))
noncomputable def v_ (aS:Int)(b1:List UInt8):Option ((List UInt8×Int)⊕(List UInt8×Int)) :=
  some (.inl (b1,ay (aS+1)))
noncomputable def qN (aS:Int)(b2:List UInt8):Option ((List UInt8×Int)⊕(List UInt8×Int)) :=
  v_ aS b2
noncomputable def qO (aP:Int)(df:Int)(aQ:Int)(aW:Int)(bY:UInt32)(aK:UInt64)(bF:UInt32)(aA:Int)(aZ:Int)(bD:List UInt8)(aF:List UInt8)(aV:(Int×Int×Int))(dK:(List (Int×Int×Int×List UInt8×Int))):(List UInt8×Int)->Option ((List UInt8×Int)⊕(List UInt8×Int))
  | (b,aS)=>if aS < ((dK.length:Nat):Int) then((aU dK aS).bind fun iJ=>if((decide (iJ.1=7))&&(decide (bF=0)))=true then(qN aS b) else((BQ aP df aQ aW bY aK bF aA aZ bD aF iJ.1).bind fun gq=>(CS b iJ.2.1 iJ.2.2.1 gq).bind fun iR=>qN aS iR)) else(Option.map Sum.inr ((G6 b (ay (aV.1 - (ay (2*aV.2.2)))) ((Int.toNat aV.1:Nat):Int)).bind fun b3=>(G6 (YF b (Int.toNat (ay (aV.1 - (ay (2*aV.2.2))))) b3.length bD) (ay (aV.1 - aV.2.2)) ((Int.toNat aV.1:Nat):Int)).bind fun b4=>some (YF (YF b (Int.toNat (ay (aV.1 - (ay (2*aV.2.2))))) b3.length bD) (Int.toNat (ay (aV.1 - aV.2.2))) b4.length aF,(0:Int))))
noncomputable def o_ (k_:Int)(aP:Int)(df:Int)(aQ:Int)(aW:Int)(bY:UInt32)(aK:UInt64)(bF:UInt32)(aA:Int)(aZ:Int)(bD:List UInt8)(aF:List UInt8):Option (List UInt8×Int) :=
  (oL k_ aP df aQ aW bY aK bF aA aZ bD aF).bind fun r_=>if r_≠0 then(some (([]:List UInt8),r_)) else((oK k_).bind fun aV=>(need ((0:Int)<=aV.1/\(aV.1:Int)<=aV.1/\Int.toNat aV.1*1<=140737488355328)).bind fun u=>(uk k_).bind fun dK=>aY (qO aP df aQ aW bY aK bF aA aZ bD aF aV dK) (List.replicate (Int.toNat aV.1) (0:UInt8),(0:Int)))
noncomputable def Gw  : Option (Vec UInt64 8) :=
  some (⟨[(7640891576956012808:UInt64),(13503953896175478587:UInt64),(4354685564936845355:UInt64),(11912009170470909681:UInt64),(5840696475078001361:UInt64),(11170449401992604703:UInt64),(2270897969802886507:UInt64),(6620516959819538809:UInt64)],rfl⟩:Vec UInt64 8)
noncomputable def ER (b:List UInt8)(at_:Int)(n:Int):(UInt64×Int)->Option ((UInt64×Int)⊕(UInt64×Int))
  | (w_,aS)=>if aS < n then((aU b (ay (at_+aS))).bind fun iJ=>(need (0<=ay (8*aS))).bind fun u=>some (.inl (w_|||(CB (UInt64.ofNat iJ.toNat) (Int.toNat (ay (8*aS)))),ay (aS+1)))) else(Option.map Sum.inr (some (w_,(0:Int))))
noncomputable def zf (b:List UInt8)(at_:Int)(n:Int):Option (UInt64×Int) :=
  if at_ < 0 then(some ((0:UInt64),(1:Int))) else(if((decide (((b.length:Nat):Int) < at_))||(decide ((ay (((b.length:Nat):Int) - at_)) < n)))=true then(some ((0:UInt64),(3:Int))) else(aY (ER b at_ n) ((0:UInt64),(0:Int))))
noncomputable def kF (b:List UInt8)(at_:Int):Option (UInt64×Int) :=
  (zf b at_ (8:Int)).bind fun r_=>some (r_.1,r_.2)
noncomputable def DX (block:List UInt8):(Vec UInt64 8×Int)->Option ((Vec UInt64 8×Int)⊕(Vec UInt64 8×Int))
  | (h,aS)=>if aS < 8 then((kF block (ay (8*aS))).bind fun aV=>(aU h.l aS).bind fun iJ=>(aU h.l aS).bind fun jF=>(some (lK h aS (iJ^^^aV.1))).bind fun v=>some (.inl (v,ay (aS+1)))) else(Option.map Sum.inr (some (h,(0:Int))))
noncomputable def zS (block:List UInt8):Option (Vec UInt64 8×Int) :=
  if((block.length:Nat):Int)≠64 then(some ((Vec.rep 8 ((0:UInt64):UInt64)),(1:Int))) else((Gw).bind fun r_=>aY (DX block) (r_,(0:Int)))
noncomputable def TI (b:List UInt8)(n:Int):Option Int :=
  if((b.length:Nat):Int) < n then(some (3:Int)) else(if n < ((b.length:Nat):Int) then(some (2:Int)) else(some (0:Int)))
noncomputable def Rq (b:List UInt8)(at_:Int):Option (UInt32×Int) :=
  (zf b at_ (4:Int)).bind fun r_=>some (UInt32.ofNat r_.1.toNat,r_.2)
noncomputable def OM (m_:List UInt32)(b:List UInt8):(List UInt32×Int)->Option ((List UInt32×Int)⊕(List UInt32))
  | (ve,aS)=>if aS < ((m_.length:Nat):Int) then((Rq b (ay (4*aS))).bind fun r_=>(aU ve aS).bind fun x_1=>some (.inl (ve.set (Int.toNat aS) r_.1,ay (aS+1)))) else(Option.map Sum.inr (some ve))
noncomputable def TJ (m_:List UInt32)(b:List UInt8):Option (List UInt32) :=
  aY (OM m_ b) (m_,(0:Int))
noncomputable def ZL  : Option (Vec UInt32 8) :=
  some (⟨[(1779033703:UInt32),(3144134277:UInt32),(1013904242:UInt32),(2773480762:UInt32),(1359893119:UInt32),(2600822924:UInt32),(528734635:UInt32),(1541459225:UInt32)],rfl⟩:Vec UInt32 8)
noncomputable def OO (aV:(List UInt32)):(Vec UInt32 8×Int)->Option ((Vec UInt32 8×Int)⊕(Vec UInt32 8×Int))
  | (h,aS)=>if aS < 8 then((aU h.l aS).bind fun iJ=>(aU (Vec.of 8 aV).l aS).bind fun jF=>(aU h.l aS).bind fun kG=>(some (lK h aS (iJ^^^jF))).bind fun v=>some (.inl (v,ay (aS+1)))) else(Option.map Sum.inr (some (h,(0:Int))))
noncomputable def m_mixs_Start (block:List UInt8):Option (Vec UInt32 8×Int) :=
  (TI block (32:Int)).bind fun r_=>if r_≠0 then(some ((Vec.rep 8 ((0:UInt32):UInt32)),r_)) else((TJ ((Vec.rep 8 (0:UInt32)).l) block).bind fun aV=>(ZL).bind fun dK=>aY (OO aV) (dK,(0:Int)))
noncomputable def Ej (k_:Int)(block:List UInt8):Option (Vec UInt64 8×List UInt8) :=
  if k_=1 then((zS block).bind fun r_=>some (r_.1,([]:List UInt8))) else none
noncomputable def sN (k_:Int):Option Int :=
  if k_=1 then(some (128:Int)) else(some (64:Int))
noncomputable def vg (b:List UInt8)(n:Int):Option (List UInt8) :=
  (need ((0:Int)<=(0:Int)/\((0:Int):Int)<=n/\Int.toNat n*1<=140737488355328)).bind fun u=>(app (List.replicate (Int.toNat (0:Int)) (0:UInt8)) b 1).bind fun b1=>(appz b1 (ay (n - ((b.length:Nat):Int))) (0:UInt8) 1).bind fun b2=>some b2
noncomputable def yS (IB:UInt64)(IC:UInt64)(n:UInt64):Option (UInt64×UInt64×Bool) :=
  (Va IB n (0:UInt64)).bind fun r_=>(Va IC (0:UInt64) r_.2).bind fun aV=>some (r_.1,aV.1,decide (aV.2=1))
noncomputable def yG (b:List UInt8):(Vec UInt64 16×Int)->Option ((Vec UInt64 16×Int)⊕(Vec UInt64 16×Int))
  | (m_,aS)=>if aS < 16 then((kF b (ay (8*aS))).bind fun r_=>(aU m_.l aS).bind fun iJ=>(some (lK m_ aS r_.1)).bind fun v=>some (.inl (v,ay (aS+1)))) else(Option.map Sum.inr (some (m_,(0:Int))))
noncomputable def zT (b:List UInt8):Option (Vec UInt64 16×Int) :=
  if((b.length:Nat):Int)≠128 then(some ((Vec.rep 16 (0:UInt64)),(1:Int))) else(aY (yG b) ((Vec.rep 16 (0:UInt64)),(0:Int)))
noncomputable def zU (v4:Vec UInt64 16):Option (Vec UInt64 16) :=
  some v4
noncomputable def zV (node:Bool)(v2:Vec UInt64 16):Option (Vec UInt64 16) :=
  if node=true then((aU v2.l (15:Int)).bind fun lV=>(aU v2.l (15:Int)).bind fun qf=>(some (lK v2 (15:Int) (18446744073709551615^^^lV))).bind fun v5=>zU v5) else(zU v2)
noncomputable def FP (h:Vec UInt64 8)(lW:UInt64)(lX:UInt64)(last:Bool)(node:Bool):Option (Vec UInt64 16) :=
  (G6 ((Vec.rep 16 (0:UInt64)).l) 0 (8:Int)).bind fun b=>(Gw).bind fun r_=>(G6 ((UU (Vec.rep 16 (0:UInt64)) 0 b.length h.l).l) (8:Int) ((16:Nat):Int)).bind fun b1=>(aU (UU (UU (Vec.rep 16 (0:UInt64)) 0 b.length h.l) (Int.toNat (8:Int)) b1.length r_.l).l (12:Int)).bind fun aS=>(aU (UU (UU (Vec.rep 16 (0:UInt64)) 0 b.length h.l) (Int.toNat (8:Int)) b1.length r_.l).l (12:Int)).bind fun x_1=>(some (lK (UU (UU (Vec.rep 16 (0:UInt64)) 0 b.length h.l) (Int.toNat (8:Int)) b1.length r_.l) (12:Int) (aS^^^lW))).bind fun v=>(aU v.l (13:Int)).bind fun iJ=>(aU v.l (13:Int)).bind fun jF=>(some (lK v (13:Int) (iJ^^^lX))).bind fun v1=>if last=true then((aU v1.l (14:Int)).bind fun kG=>(aU v1.l (14:Int)).bind fun kZ=>(some (lK v1 (14:Int) (18446744073709551615^^^kG))).bind fun v3=>zV node v3) else(zV node v1)
noncomputable def Em (round:Int):Option (Vec Int 16) :=
  (aU (⟨[(⟨[(0:Int),(1:Int),(2:Int),(3:Int),(4:Int),(5:Int),(6:Int),(7:Int),(8:Int),(9:Int),(10:Int),(11:Int),(12:Int),(13:Int),(14:Int),(15:Int)],rfl⟩:Vec Int 16),(⟨[(14:Int),(10:Int),(4:Int),(8:Int),(9:Int),(15:Int),(13:Int),(6:Int),(1:Int),(12:Int),(0:Int),(2:Int),(11:Int),(7:Int),(5:Int),(3:Int)],rfl⟩:Vec Int 16),(⟨[(11:Int),(8:Int),(12:Int),(0:Int),(5:Int),(2:Int),(15:Int),(13:Int),(10:Int),(14:Int),(3:Int),(6:Int),(7:Int),(1:Int),(9:Int),(4:Int)],rfl⟩:Vec Int 16),(⟨[(7:Int),(9:Int),(3:Int),(1:Int),(13:Int),(12:Int),(11:Int),(14:Int),(2:Int),(6:Int),(5:Int),(10:Int),(4:Int),(0:Int),(15:Int),(8:Int)],rfl⟩:Vec Int 16),(⟨[(9:Int),(0:Int),(5:Int),(7:Int),(2:Int),(4:Int),(10:Int),(15:Int),(14:Int),(1:Int),(11:Int),(12:Int),(6:Int),(8:Int),(3:Int),(13:Int)],rfl⟩:Vec Int 16),(⟨[(2:Int),(12:Int),(6:Int),(10:Int),(0:Int),(11:Int),(8:Int),(3:Int),(4:Int),(13:Int),(7:Int),(5:Int),(15:Int),(14:Int),(1:Int),(9:Int)],rfl⟩:Vec Int 16),(⟨[(12:Int),(5:Int),(1:Int),(15:Int),(14:Int),(13:Int),(4:Int),(10:Int),(0:Int),(7:Int),(6:Int),(3:Int),(9:Int),(2:Int),(8:Int),(11:Int)],rfl⟩:Vec Int 16),(⟨[(13:Int),(11:Int),(7:Int),(14:Int),(12:Int),(1:Int),(3:Int),(9:Int),(5:Int),(0:Int),(15:Int),(4:Int),(8:Int),(6:Int),(2:Int),(10:Int)],rfl⟩:Vec Int 16),(⟨[(6:Int),(15:Int),(14:Int),(9:Int),(11:Int),(3:Int),(0:Int),(8:Int),(12:Int),(2:Int),(13:Int),(7:Int),(1:Int),(4:Int),(10:Int),(5:Int)],rfl⟩:Vec Int 16),(⟨[(10:Int),(2:Int),(8:Int),(4:Int),(7:Int),(6:Int),(1:Int),(5:Int),(15:Int),(11:Int),(9:Int),(14:Int),(3:Int),(12:Int),(13:Int),(0:Int)],rfl⟩:Vec Int 16)],rfl⟩:Vec (Vec Int 16) 10).l (Int.tmod (ay ((Int.tmod round 10)+10)) 10)).bind fun aS=>some aS
noncomputable def BR  : Option (Vec (Vec Int 4) 8) :=
  some (⟨[(⟨[(0:Int),(4:Int),(8:Int),(12:Int)],rfl⟩:Vec Int 4),(⟨[(1:Int),(5:Int),(9:Int),(13:Int)],rfl⟩:Vec Int 4),(⟨[(2:Int),(6:Int),(10:Int),(14:Int)],rfl⟩:Vec Int 4),(⟨[(3:Int),(7:Int),(11:Int),(15:Int)],rfl⟩:Vec Int 4),(⟨[(0:Int),(5:Int),(10:Int),(15:Int)],rfl⟩:Vec Int 4),(⟨[(1:Int),(6:Int),(11:Int),(12:Int)],rfl⟩:Vec Int 4),(⟨[(2:Int),(7:Int),(8:Int),(13:Int)],rfl⟩:Vec Int 4),(⟨[(3:Int),(4:Int),(9:Int),(14:Int)],rfl⟩:Vec Int 4)],rfl⟩:Vec (Vec Int 4) 8)
noncomputable def fV (x_:UInt64)(k_:Int):Option UInt64 :=
  some ((CB x_ (((UInt64.ofInt k_)&&&63).toNat))|||(iG x_ (((64:UInt64) - ((UInt64.ofInt k_)&&&63)).toNat)))
noncomputable def CU (v:Vec UInt64 16)(p:Vec Int 4)(x_:UInt64)(y_:UInt64):Option (Vec UInt64 16) :=
  (aU p.l (0:Int)).bind fun iJ=>(aU p.l (1:Int)).bind fun jF=>(aU p.l (2:Int)).bind fun kG=>(aU p.l (3:Int)).bind fun kZ=>(aU v.l iJ).bind fun lV=>(aU v.l jF).bind fun qf=>(aU v.l iJ).bind fun Gf=>(some (lK v iJ (lV+(qf+x_)))).bind fun v1=>(aU v1.l kZ).bind fun BA=>(aU v1.l iJ).bind fun vV=>(fV (BA^^^vV) (-32:Int)).bind fun r_=>(aU v1.l kZ).bind fun lY=>(some (lK v1 kZ r_)).bind fun v2=>(aU v2.l kG).bind fun Eo=>(aU v2.l kZ).bind fun jw=>(aU v2.l kG).bind fun LV=>(some (lK v2 kG (Eo+jw))).bind fun v3=>(aU v3.l jF).bind fun IE=>(aU v3.l kG).bind fun KN=>(fV (IE^^^KN) (-24:Int)).bind fun aV=>(aU v3.l jF).bind fun TK=>(some (lK v3 jF aV)).bind fun v4=>(aU v4.l iJ).bind fun IG=>(aU v4.l jF).bind fun ND=>(aU v4.l iJ).bind fun x_20=>(some (lK v4 iJ (IG+(ND+y_)))).bind fun v5=>(aU v5.l kZ).bind fun OQ=>(aU v5.l iJ).bind fun P8=>(fV (OQ^^^P8) (-16:Int)).bind fun dK=>(aU v5.l kZ).bind fun x_23=>(some (lK v5 kZ dK)).bind fun v6=>(aU v6.l kG).bind fun OT=>(aU v6.l kZ).bind fun P9=>(aU v6.l kG).bind fun x_26=>(some (lK v6 kG (OT+P9))).bind fun v7=>(aU v7.l jF).bind fun x_27=>(aU v7.l kG).bind fun x_28=>(fV (x_27^^^x_28) (-63:Int)).bind fun gq=>(aU v7.l jF).bind fun x_29=>(some (lK v7 jF gq)).bind fun v8=>some v8
noncomputable def ES (m_:Vec UInt64 16)(r_:(Vec Int 16))(aV:(Vec (Vec Int 4) 8)):(Vec UInt64 16×Int)->Option ((Vec UInt64 16×Int)⊕(Vec UInt64 16×Vec UInt64 16))
  | (v1,aS)=>if aS < 8 then((aU aV.l aS).bind fun iJ=>(aU r_.l (ay (2*aS))).bind fun jF=>(aU m_.l jF).bind fun kG=>(aU r_.l (ay ((ay (2*aS))+1))).bind fun kZ=>(aU m_.l kZ).bind fun lV=>(CU v1 iJ kG lV).bind fun dK=>some (.inl (dK,ay (aS+1)))) else(Option.map Sum.inr (some (v1,m_)))
noncomputable def CV (v:Vec UInt64 16)(m_:Vec UInt64 16)(round:Int):Option (Vec UInt64 16×Vec UInt64 16) :=
  (Em round).bind fun r_=>(BR).bind fun aV=>aY (ES m_ r_ aV) (v,(0:Int))
noncomputable def FQ (v:Vec UInt64 16):(Vec UInt64 8×Int)->Option ((Vec UInt64 8×Int)⊕(Vec UInt64 8))
  | (h1,x_1)=>if x_1 < 8 then((aU h1.l x_1).bind fun iJ=>(aU v.l x_1).bind fun jF=>(aU v.l (ay (x_1+8))).bind fun kG=>(aU h1.l x_1).bind fun kZ=>(some (lK h1 x_1 (iJ^^^(jF^^^kG)))).bind fun v1=>some (.inl (v1,ay (x_1+1)))) else(Option.map Sum.inr (some h1))
noncomputable def FT (h:Vec UInt64 8):(Vec UInt64 16×Vec UInt64 16×Int)->Option ((Vec UInt64 16×Vec UInt64 16×Int)⊕(Vec UInt64 8))
  | (ve,v,aS)=>if aS < 12 then((CV v ve aS).bind fun aV=>some (.inl (aV.2,aV.1,ay (aS+1)))) else(Option.map Sum.inr (aY (FQ v) (h,(0:Int))))
noncomputable def Jc (h:Vec UInt64 8)(m_:Vec UInt64 16)(lW:UInt64)(lX:UInt64)(last:Bool)(node:Bool):Option (Vec UInt64 8) :=
  (FP h lW lX last node).bind fun r_=>aY (FT h) (m_,r_,(0:Int))
noncomputable def vk (h:Vec UInt64 8)(b:List UInt8)(IB:UInt64)(IC:UInt64)(last:Bool)(node:Bool):Option (Vec UInt64 8) :=
  (zT b).bind fun r_=>(Jc h r_.1 IB IC last node).bind fun aV=>some aV
noncomputable def ji (eX:Int)(b1:List UInt8)(Gf:Vec UInt64 8)(BA:UInt64)(vV:UInt64)(lY:List UInt8):Option ((Vec UInt64 8×UInt64×UInt64×List UInt8×List UInt8)⊕(Vec UInt64 8×UInt64×UInt64×List UInt8×Int)) :=
  (G6 b1 0 (if ay (eX - ((lY.length:Nat):Int)) < ((b1.length:Nat):Int) then ay (eX - ((lY.length:Nat):Int)) else((b1.length:Nat):Int))).bind fun b3=>(app lY b3 1).bind fun b4=>(G6 b1 (if ay (eX - ((lY.length:Nat):Int)) < ((b1.length:Nat):Int) then ay (eX - ((lY.length:Nat):Int)) else((b1.length:Nat):Int)) ((b1.length:Nat):Int)).bind fun b5=>some (.inl (Gf,BA,vV,b4,b5))
noncomputable def oz (eX:Int):(Vec UInt64 8×UInt64×UInt64×List UInt8×List UInt8)->Option ((Vec UInt64 8×UInt64×UInt64×List UInt8×List UInt8)⊕(Vec UInt64 8×UInt64×UInt64×List UInt8×Int))
  | (aS,kZ,lV,qf,b1)=>if 0 < ((b1.length:Nat):Int) then(if((qf.length:Nat):Int)=eX then((yS kZ lV (UInt64.ofInt eX)).bind fun r_=>(vk aS qf r_.1 r_.2.1 false false).bind fun aV=>(G6 qf 0 (0:Int)).bind fun b2=>ji eX b1 aV r_.1 r_.2.1 b2) else(ji eX b1 aS kZ lV qf)) else(Option.map Sum.inr (some (aS,kZ,lV,qf,eX)))
noncomputable def jP (Vq:Vec UInt64 8)(kQ:UInt64)(kR:UInt64)(qj:List UInt8)(eX:Int)(b:List UInt8):Option (Vec UInt64 8×UInt64×UInt64×List UInt8×Int) :=
  aY (oz eX) (Vq,kQ,kR,qj,b)
noncomputable def qP (rQ:Int)(pg:Int)(jk:List UInt8)(jG:List UInt8)(BB:Bool)(oW:UInt64):Option (Int×Int×List UInt8×List UInt8×Vec UInt64 8×UInt64×UInt64×List UInt8×Int) :=
  (Ej rQ jk).bind fun r_=>if 0 < ((jG.length:Nat):Int) then((sN rQ).bind fun aV=>(vg jG aV).bind fun dK=>(jP r_.1 (0:UInt64) (0:UInt64) r_.2 (128:Int) dK).bind fun gq=>some (rQ,pg,jk,jG,gq.1,gq.2.1,gq.2.2.1,gq.2.2.2.1,gq.2.2.2.2)) else(some (rQ,pg,jk,jG,r_.1,(0:UInt64),(0:UInt64),r_.2,(128:Int)))
noncomputable def FU (k_:Int)(block:List UInt8)(digest:Int)(key:List UInt8):Option (Int×Int×List UInt8×List UInt8×Vec UInt64 8×UInt64×UInt64×List UInt8×Int) :=
  (app ([]:List UInt8) block 1).bind fun b=>(app ([]:List UInt8) key 1).bind fun b1=>(qP k_ digest b b1 false (0:UInt64)).bind fun r_=>some (r_.1,r_.2.1,r_.2.2.1,r_.2.2.2.1,r_.2.2.2.2.1,r_.2.2.2.2.2.1,r_.2.2.2.2.2.2.1,r_.2.2.2.2.2.2.2.1,r_.2.2.2.2.2.2.2.2)
noncomputable def Hq (k_:Int)(aP:Int)(df:Int)(aQ:Int)(aW:Int)(bY:UInt32)(aK:UInt64)(bF:UInt32)(aA:Int)(aZ:Int)(bD:List UInt8)(aF:List UInt8)(key:List UInt8):Option (Int⊕(Int×Int×List UInt8×List UInt8×Vec UInt64 8×UInt64×UInt64×List UInt8×Int)) :=
  (o_ k_ aP df aQ aW bY aK bF aA aZ bD aF).bind fun r_=>if r_.2≠0 then(some (Sum.inl r_.2)) else(if((decide (((key.length:Nat):Int)≠0))&&(decide (((key.length:Nat):Int)≠df)))=true then(some (Sum.inl (8:Int))) else((FU k_ r_.1 aP key).bind fun aV=>some (Sum.inr (aV.1,aV.2.1,aV.2.2.1,aV.2.2.2.1,aV.2.2.2.2.1,aV.2.2.2.2.2.1,aV.2.2.2.2.2.2.1,aV.2.2.2.2.2.2.2.1,aV.2.2.2.2.2.2.2.2))))
noncomputable def xx (rQ:Int)(pg:Int)(jk:List UInt8)(jG:List UInt8)(BB:Bool)(oW:UInt64)(LX:Vec UInt64 8)(oC:UInt64)(oD:UInt64)(zW:List UInt8)(xy:Int):Option (Vec UInt64 8×UInt64×UInt64×List UInt8×Int×Int×Int×List UInt8×List UInt8×Bool×UInt64) :=
  some (LX,oC,oD,zW,xy,rQ,pg,jk,jG,BB,oW)
noncomputable def zX (w_:UInt64):(List UInt8×Int)->Option ((List UInt8×Int)⊕(List UInt8))
  | (b,aS)=>if aS < 8 then((need (0<=ay (8*aS))).bind fun u=>(aU b aS).bind fun x_1=>some (.inl (b.set (Int.toNat aS) (UInt8.ofNat (iG w_ (Int.toNat (ay (8*aS)))).toNat),ay (aS+1)))) else(Option.map Sum.inr (some b))
noncomputable def sO (w_:UInt64):Option (List UInt8) :=
  aY (zX w_) (List.replicate (Int.toNat (8:Int)) (0:UInt8),(0:Int))
noncomputable def DY (h:Vec UInt64 8):(List UInt8×Int)->Option ((List UInt8×Int)⊕(List UInt8))
  | (b,aS)=>if aS < 8 then((aU h.l aS).bind fun x_1=>(sO x_1).bind fun r_=>(app b r_ 1).bind fun b1=>some (.inl (b1,ay (aS+1)))) else(Option.map Sum.inr (some b))
noncomputable def zY (h:Vec UInt64 8):Option (List UInt8) :=
  aY (DY h) (List.replicate (Int.toNat (0:Int)) (0:UInt8),(0:Int))
noncomputable def mM (Vq:Vec UInt64 8)(kQ:UInt64)(kR:UInt64)(qj:List UInt8)(eX:Int)(node:Bool)(c0:UInt64)(c2:UInt64):Option (List UInt8×Vec UInt64 8×UInt64×UInt64×List UInt8×Int) :=
  (vg qj eX).bind fun aV=>(vk Vq aV c0 c2 true node).bind fun dK=>(zY dK).bind fun gq=>some (gq,Vq,kQ,kR,qj,eX)
noncomputable def lZ (Vq:Vec UInt64 8)(kQ:UInt64)(kR:UInt64)(qj:List UInt8)(eX:Int)(node:Bool):Option (List UInt8×Vec UInt64 8×UInt64×UInt64×List UInt8×Int) :=
  (yS kQ kR (UInt64.ofInt ((qj.length:Nat):Int))).bind fun r_=>mM Vq kQ kR qj eX node r_.1 r_.2.1
noncomputable def uI (rQ:Int)(pg:Int)(jk:List UInt8)(jG:List UInt8)(BB:Bool)(oW:UInt64)(LX:Vec UInt64 8)(oC:UInt64)(oD:UInt64)(zW:List UInt8)(xy:Int)(most:Int):Option (List UInt8×Int×Vec UInt64 8×UInt64×UInt64×List UInt8×Int×Int×Int×List UInt8×List UInt8×Bool×UInt64) :=
  (xx rQ pg jk jG BB oW LX oC oD zW xy).bind fun r_=>if most < 1 then(some (([]:List UInt8),(1:Int),r_.1,r_.2.1,r_.2.2.1,r_.2.2.2.1,r_.2.2.2.2.1,r_.2.2.2.2.2.1,r_.2.2.2.2.2.2.1,r_.2.2.2.2.2.2.2.1,r_.2.2.2.2.2.2.2.2.1,r_.2.2.2.2.2.2.2.2.2.1,r_.2.2.2.2.2.2.2.2.2.2)) else((sN r_.2.2.2.2.2.1).bind fun aV=>if(ay (Int.tdiv aV 2)) < most then(some (([]:List UInt8),(1:Int),r_.1,r_.2.1,r_.2.2.1,r_.2.2.2.1,r_.2.2.2.2.1,r_.2.2.2.2.2.1,r_.2.2.2.2.2.2.1,r_.2.2.2.2.2.2.2.1,r_.2.2.2.2.2.2.2.2.1,r_.2.2.2.2.2.2.2.2.2.1,r_.2.2.2.2.2.2.2.2.2.2)) else((lZ r_.1 r_.2.1 r_.2.2.1 r_.2.2.2.1 r_.2.2.2.2.1 r_.2.2.2.2.2.2.2.2.2.1).bind fun dK=>(G6 dK.1 0 most).bind fun b=>(need (most<=most/\most<=((dK.1.length:Nat):Int))).bind fun u=>some (b,(0:Int),dK.2.1,dK.2.2.1,dK.2.2.2.1,dK.2.2.2.2.1,dK.2.2.2.2.2,r_.2.2.2.2.2.1,r_.2.2.2.2.2.2.1,r_.2.2.2.2.2.2.2.1,r_.2.2.2.2.2.2.2.2.1,r_.2.2.2.2.2.2.2.2.2.1,r_.2.2.2.2.2.2.2.2.2.2)))
noncomputable def qQ (k_:Int)(aP:Int)(df:Int)(aQ:Int)(aW:Int)(bY:UInt32)(aK:UInt64)(bF:UInt32)(aA:Int)(aZ:Int)(bD:List UInt8)(aF:List UInt8)(key:List UInt8)(last:Bool)(out:Int)(data:List UInt8):Option (List UInt8×Int) :=
  (Hq k_ aP df aQ aW bY aK bF aA aZ bD aF key).bind fun r_=>(Sum.elim (fun aV=>if aV≠0 then(some (([]:List UInt8),aV)) else none) (fun dK=>if 0≠0 then(some (([]:List UInt8),(0:Int))) else((jP dK.2.2.2.2.1 dK.2.2.2.2.2.1 dK.2.2.2.2.2.2.1 dK.2.2.2.2.2.2.2.1 dK.2.2.2.2.2.2.2.2 data).bind fun gq=>(uI dK.1 dK.2.1 dK.2.2.1 dK.2.2.2.1 last (0:UInt64) gq.1 gq.2.1 gq.2.2.1 gq.2.2.2.1 gq.2.2.2.2 out).bind fun iR=>some (iR.1,iR.2.1)))) r_
noncomputable def Ep (k_:Int)(n:Int)(key:List UInt8)(aJ:List UInt8)(iZ:List UInt8)(data:List UInt8):Option (List UInt8×Int) :=
  (Ei k_).bind fun r_=>if r_.2≠0 then(some (([]:List UInt8),(1:Int))) else((oL k_ n ((key.length:Nat):Int) (1:Int) (1:Int) (0:UInt32) (0:UInt64) (0:UInt32) (0:Int) (0:Int) aJ iZ).bind fun aV=>if aV≠0 then(some (([]:List UInt8),aV)) else((qQ k_ n ((key.length:Nat):Int) (1:Int) (1:Int) (0:UInt32) (0:UInt64) (0:UInt32) (0:Int) (0:Int) aJ iZ key false n data).bind fun dK=>some (dK.1,dK.2)))
noncomputable def pq (kind:Int):Option Int :=
  if kind=1 then(some (64:Int)) else(if kind=2 then(some (32:Int)) else(some (0:Int)))
noncomputable def jm (kind:Int)(aP:Int)(df:Int)(aQ:Int)(aW:Int)(bY:UInt32)(aK:UInt64)(bF:UInt32)(aA:Int)(aZ:Int)(bD:List UInt8)(aF:List UInt8):Option Int :=
  (pq kind).bind fun r_=>if r_=0 then(some (1:Int)) else(if((decide (aP < 1))||(decide (r_ < aP)))=true then(some (20:Int)) else(if((decide (df < 0))||(decide (r_ < df)))=true then(some (8:Int)) else(if((decide (aQ < 0))||(decide (255 < aQ)))=true then(some (21:Int)) else(if(((decide (aW < 0))||(decide (255 < aW)))||((decide (aW=0))&&(decide (bF=0))))=true then(some (22:Int)) else(if(((decide (bF≠0))&&(decide ((4294967295:UInt64) < aK)))||(((decide (bF=0))&&(decide (kind=2)))&&(decide ((281474976710655:UInt64) < aK))))=true then(some (23:Int)) else(if((decide (kind=2))&&(decide ((65535:UInt32) < bF)))=true then(some (24:Int)) else(if((decide (aA < 0))||(decide (255 < aA)))=true then(some (25:Int)) else(if((decide (aZ < 0))||(decide (r_ < aZ)))=true then(some (26:Int)) else(if(ay (Int.tdiv r_ 4)) < ((bD.length:Nat):Int) then(some (27:Int)) else(if(ay (Int.tdiv r_ 4)) < ((aF.length:Nat):Int) then(some (28:Int)) else(some (0:Int))))))))))))
noncomputable def wI (kind:Int):Option Int :=
  if kind=1 then(some (128:Int)) else(some (64:Int))
noncomputable def zZ (i:Int)(b1:List UInt8):Option ((List UInt8×Int)⊕(List UInt8)) :=
  some (.inl (b1,ay (i+1)))
noncomputable def wJ (b:List UInt8)(i:Int)(c2:UInt8):Option ((List UInt8×Int)⊕(List UInt8)) :=
  (app b ([c2]:List UInt8) 1).bind fun b2=>zZ i b2
noncomputable def wK (kind:Int)(key:List UInt8):(List UInt8×Int)->Option ((List UInt8×Int)⊕(List UInt8))
  | (b,i)=>(wI kind).bind fun r_=>if i < r_ then(if i < ((key.length:Nat):Int) then((aU key i).bind fun aS=>wJ b i aS) else(wJ b i (0:UInt8))) else(Option.map Sum.inr (some b))
noncomputable def zg (kind:Int)(key:List UInt8):Option (List UInt8) :=
  if((key.length:Nat):Int)=0 then(some ([]:List UInt8)) else(aY (wK kind key) (([]:List UInt8),(0:Int)))
noncomputable def JP (kind:Int)(aP:Int)(df:Int)(aQ:Int)(aW:Int)(bY:UInt32)(aK:UInt64)(bF:UInt32)(aA:Int)(aZ:Int)(bD:List UInt8)(aF:List UInt8)(key:List UInt8):Option (Int⊕(Int×Int×Int×Int×Int×UInt32×UInt64×UInt32×Int×Int×Vec UInt64 16×List UInt8)) :=
  (jm kind aP df aQ aW bY aK bF aA aZ bD aF).bind fun r_=>if r_≠0 then(some (Sum.inl r_)) else(if((decide (((key.length:Nat):Int)≠0))&&(decide (((key.length:Nat):Int)≠df)))=true then(some (Sum.inl (8:Int))) else((zg kind key).bind fun aV=>some (Sum.inr (kind,aP,df,aQ,aW,bY,aK,bF,aA,aZ,(Vec.rep 16 (0:UInt64)),aV))))
noncomputable def yT (kind:Int):Option Int :=
  if kind=1 then(some (64:Int)) else(some (32:Int))
noncomputable def su (kX:Int)(gz:Int)(jU:Int)(gB:Int)(iC:Int)(ja:UInt32)(gG:UInt64)(jV:UInt32)(dU:Int)(iD:Int)(nP:Bool)(kH:Vec UInt64 16)(qY:Bool)(CW:UInt64)(CX:UInt64)(jW:UInt64)(b:List UInt8):(List UInt8×Int)->Option ((List UInt8×Int)⊕(Int×Int×Int×Int×Int×UInt32×UInt64×UInt32×Int×Int×Bool×Vec UInt64 16×Bool×UInt64×UInt64×List UInt8×UInt64))
  | (n0,i)=>if i < ((b.length:Nat):Int) then((aU b i).bind fun aS=>(app n0 ([aS]:List UInt8) 1).bind fun b1=>some (.inl (b1,ay (i+1)))) else(Option.map Sum.inr (some (kX,gz,jU,gB,iC,ja,gG,jV,dU,iD,nP,kH,qY,CW,CX,n0,jW+(UInt64.ofInt ((b.length:Nat):Int)))))
noncomputable def sQ (kX:Int)(gz:Int)(jU:Int)(gB:Int)(iC:Int)(ja:UInt32)(gG:UInt64)(jV:UInt32)(dU:Int)(iD:Int)(jy:List UInt8)(fE:List UInt8)(wo:List UInt8)(nP:Bool)(kH:Vec UInt64 16)(qY:Bool)(CW:UInt64)(CX:UInt64)(uJ:List UInt8)(jW:UInt64)(b:List UInt8):Option (Int×Int×Int×Int×Int×UInt32×UInt64×UInt32×Int×Int×Bool×Vec UInt64 16×Bool×UInt64×UInt64×List UInt8×UInt64) :=
  aY (su kX gz jU gB iC ja gG jV dU iD nP kH qY CW CX jW b) (uJ,(0:Int))
noncomputable def KO (kind:Int):Option Int :=
  (pq kind).bind fun r_=>some r_
noncomputable def FV (kind:Int)(field:Int):Option (Int×Int) :=
  if((decide (1<=field))&&(decide (field<=4)))=true then(some (ay (field - 1),(1:Int))) else(if field=5 then(some ((4:Int),(4:Int))) else(if((decide (field=6))&&(decide (kind=1)))=true then(some ((8:Int),(8:Int))) else(if field=6 then(some ((8:Int),(6:Int))) else(if((decide (field=7))&&(decide (kind=1)))=true then(some ((12:Int),(4:Int))) else(if field=7 then(some ((12:Int),(2:Int))) else(if((decide (field=8))&&(decide (kind=1)))=true then(some ((16:Int),(1:Int))) else(if field=8 then(some ((14:Int),(1:Int))) else(if((decide (field=9))&&(decide (kind=1)))=true then(some ((17:Int),(1:Int))) else(if field=9 then(some ((15:Int),(1:Int))) else(some ((0:Int),(0:Int))))))))))))
noncomputable def Es (at_:Int)(n:Int)(v:UInt64):(List UInt8×Int)->Option ((List UInt8×Int)⊕(List UInt8))
  | (b1,i)=>if i < n then((aU b1 (ay (at_+i))).bind fun aS=>some (.inl (b1.set (Int.toNat (ay (at_+i))) (UInt8.ofNat (iG v (((8:UInt64)*(UInt64.ofInt i)).toNat)).toNat),ay (i+1)))) else(Option.map Sum.inr (some b1))
noncomputable def Gx (b:List UInt8)(at_:Int)(n:Int)(v:UInt64):Option (List UInt8) :=
  aY (Es at_ n v) (b,(0:Int))
noncomputable def yH (f:Int)(b1:List UInt8):Option ((List UInt8×Int)⊕(List UInt8×Int)) :=
  some (.inl (b1,ay (f+1)))
noncomputable def uK (f:Int)(b2:List UInt8):Option ((List UInt8×Int)⊕(List UInt8×Int)) :=
  yH f b2
noncomputable def uM (aF:List UInt8)(iR:Int):(List UInt8×Int)->Option ((List UInt8×Int)⊕(List UInt8×Int))
  | (b4,i1)=>if i1 < ((aF.length:Nat):Int) then((aU aF i1).bind fun kG=>(aU b4 (ay ((ay (3*(ay (Int.tdiv iR 4))))+i1))).bind fun kZ=>some (.inl (b4.set (Int.toNat (ay ((ay (3*(ay (Int.tdiv iR 4))))+i1))) kG,ay (i1+1)))) else(Option.map Sum.inr (some (b4,(0:Int))))
noncomputable def uN (bD:List UInt8)(aF:List UInt8)(iR:Int):(List UInt8×Int)->Option ((List UInt8×Int)⊕(List UInt8×Int))
  | (b3,i)=>if i < ((bD.length:Nat):Int) then((aU bD i).bind fun iJ=>(aU b3 (ay ((ay (2*(ay (Int.tdiv iR 4))))+i))).bind fun jF=>some (.inl (b3.set (Int.toNat (ay ((ay (2*(ay (Int.tdiv iR 4))))+i))) iJ,ay (i+1)))) else(Option.map Sum.inr (aY (uM aF iR) (b3,(0:Int))))
noncomputable def uO (kind:Int)(aP:Int)(df:Int)(aQ:Int)(aW:Int)(bY:UInt32)(aK:UInt64)(bF:UInt32)(aA:Int)(aZ:Int)(bD:List UInt8)(aF:List UInt8):(List UInt8×Int)->Option ((List UInt8×Int)⊕(List UInt8×Int))
  | (b,f)=>if f<=9 then(if((decide (f=7))&&(decide (bF=0)))=true then(uK f b) else((FV kind f).bind fun dK=>(aU ([UInt64.ofInt aP,UInt64.ofInt df,UInt64.ofInt aQ,UInt64.ofInt aW,UInt64.ofNat bY.toNat,aK,UInt64.ofNat bF.toNat,UInt64.ofInt aA,UInt64.ofInt aZ]:List UInt64) (ay (f - 1))).bind fun aS=>(Gx b dK.1 dK.2 aS).bind fun gq=>uK f gq)) else(Option.map Sum.inr ((pq kind).bind fun iR=>aY (uN bD aF iR) (b,(0:Int))))
noncomputable def l9 (kind:Int)(aP:Int)(df:Int)(aQ:Int)(aW:Int)(bY:UInt32)(aK:UInt64)(bF:UInt32)(aA:Int)(aZ:Int)(bD:List UInt8)(aF:List UInt8):Option (List UInt8×Int) :=
  (jm kind aP df aQ aW bY aK bF aA aZ bD aF).bind fun r_=>if r_≠0 then(some (([]:List UInt8),r_)) else((KO kind).bind fun aV=>(need ((0:Int)<=aV/\(aV:Int)<=aV/\Int.toNat aV*1<=140737488355328)).bind fun u=>aY (uO kind aP df aQ aW bY aK bF aA aZ bD aF) (List.replicate (Int.toNat aV) (0:UInt8),(1:Int)))
noncomputable def Gg (b:List UInt8)(at_:Int):(UInt64×Int)->Option ((UInt64×Int)⊕(UInt64×Int))
  | (w_,i)=>if 0<=i then((aU b (ay (at_+i))).bind fun aS=>some (.inl ((w_*256)+(UInt64.ofNat aS.toNat),ay (i - 1)))) else(Option.map Sum.inr (some (w_,(0:Int))))
noncomputable def rU (b:List UInt8)(at_:Int)(n:Int):Option (UInt64×Int) :=
  if at_ < 0 then(some ((0:UInt64),(1:Int))) else(if((decide (((b.length:Nat):Int) < at_))||(decide ((ay (((b.length:Nat):Int) - at_)) < n)))=true then(some ((0:UInt64),(3:Int))) else(aY (Gg b at_) ((0:UInt64),ay (n - 1))))
noncomputable def Jd (i:Int):Option UInt64 :=
  (aU (⟨[(7640891576956012808:UInt64),(13503953896175478587:UInt64),(4354685564936845355:UInt64),(11912009170470909681:UInt64),(5840696475078001361:UInt64),(11170449401992604703:UInt64),(2270897969802886507:UInt64),(6620516959819538809:UInt64)],rfl⟩:Vec UInt64 8).l (Int.tmod i 8)).bind fun aS=>some aS
noncomputable def z_ (block:List UInt8):(Vec UInt64 8×Int)->Option ((Vec UInt64 8×Int)⊕(Vec UInt64 8×Int))
  | (h,i)=>if i < 8 then((rU block (ay (8*i)) (8:Int)).bind fun r_=>(Jd i).bind fun aV=>(aU h.l i).bind fun aS=>(some (lK h i (aV^^^r_.1))).bind fun v=>some (.inl (v,ay (i+1)))) else(Option.map Sum.inr (some (h,(0:Int))))
noncomputable def CY (block:List UInt8):Option (Vec UInt64 8×Int) :=
  if((block.length:Nat):Int)≠64 then(some ((Vec.rep 8 (0:UInt64)),(1:Int))) else(aY (z_ block) ((Vec.rep 8 (0:UInt64)),(0:Int)))
noncomputable def sD (kX:Int)(gz:Int)(jU:Int)(gB:Int)(iC:Int)(ja:UInt32)(gG:UInt64)(jV:UInt32)(dU:Int)(iD:Int)(nP:Bool)(kH:Vec UInt64 16)(qY:Bool)(CW:UInt64)(CX:UInt64)(uJ:List UInt8)(jW:UInt64)(aV:(Vec UInt64 8×Int)):(Vec UInt64 16×Int)->Option ((Vec UInt64 16×Int)⊕(Vec UInt64 16×Int×Int×Int×Int×Int×UInt32×UInt64×UInt32×Int×Int×Bool×Vec UInt64 16×Bool×UInt64×UInt64×List UInt8×UInt64))
  | (h,i)=>if i < 8 then((aU aV.1.l i).bind fun aS=>(aU h.l i).bind fun IG=>(some (lK h i aS)).bind fun v=>some (.inl (v,ay (i+1)))) else(Option.map Sum.inr (some (h,kX,gz,jU,gB,iC,ja,gG,jV,dU,iD,nP,kH,qY,CW,CX,uJ,jW)))
noncomputable def oZ (kX:Int)(gz:Int)(jU:Int)(gB:Int)(iC:Int)(ja:UInt32)(gG:UInt64)(jV:UInt32)(dU:Int)(iD:Int)(jy:List UInt8)(fE:List UInt8)(wo:List UInt8)(nP:Bool)(kH:Vec UInt64 16)(qY:Bool)(CW:UInt64)(CX:UInt64)(uJ:List UInt8)(jW:UInt64):Option (Vec UInt64 16×Int×Int×Int×Int×Int×UInt32×UInt64×UInt32×Int×Int×Bool×Vec UInt64 16×Bool×UInt64×UInt64×List UInt8×UInt64) :=
  if qY=true then(some (kH,kX,gz,jU,gB,iC,ja,gG,jV,dU,iD,nP,kH,qY,CW,CX,uJ,jW)) else((l9 kX gz jU gB iC ja gG jV dU iD jy fE).bind fun r_=>if kX=1 then((CY r_.1).bind fun aV=>aY (sD kX gz jU gB iC ja gG jV dU iD nP kH qY CW CX uJ jW aV) ((Vec.rep 16 (0:UInt64)),(0:Int))) else none)
noncomputable def BC (lo:UInt64)(hi:UInt64)(n:UInt64):Option (UInt64×UInt64×Bool) :=
  if lo<=(lo+n) then(some (lo+n,hi,false)) else(some (lo+n,hi+1,decide ((hi+1)=0)))
noncomputable def Et (i:Int)(out1:List UInt8):Option ((List UInt8×Int)⊕(List UInt8)) :=
  some (.inl (out1,ay (i+1)))
noncomputable def Aa (out:List UInt8)(i:Int)(c2:UInt8):Option ((List UInt8×Int)⊕(List UInt8)) :=
  (app out ([c2]:List UInt8) 1).bind fun Vr=>Et i Vr
noncomputable def Ac (b:List UInt8)(at_:Int)(size:Int):(List UInt8×Int)->Option ((List UInt8×Int)⊕(List UInt8))
  | (out,i)=>if i < size then(if(ay (at_+i)) < ((b.length:Nat):Int) then((aU b (ay (at_+i))).bind fun aS=>Aa out i aS) else(Aa out i (0:UInt8))) else(Option.map Sum.inr (some out))
noncomputable def EJ (b:List UInt8)(at_:Int)(size:Int):Option (List UInt8) :=
  aY (Ac b at_ size) (([]:List UInt8),(0:Int))
noncomputable def Ad (b:List UInt8):(Vec UInt64 16×Int)->Option ((Vec UInt64 16×Int)⊕(Vec UInt64 16×Int))
  | (m_,i)=>if i < 16 then((rU b (ay (8*i)) (8:Int)).bind fun r_=>(aU m_.l i).bind fun aS=>(some (lK m_ i r_.1)).bind fun v=>some (.inl (v,ay (i+1)))) else(Option.map Sum.inr (some (m_,(0:Int))))
noncomputable def CZ (b:List UInt8):Option (Vec UInt64 16×Int) :=
  if((b.length:Nat):Int)≠128 then(some ((Vec.rep 16 (0:UInt64)),(1:Int))) else(aY (Ad b) ((Vec.rep 16 (0:UInt64)),(0:Int)))
noncomputable def BU (v7:Vec UInt64 16):Option (Vec UInt64 16) :=
  some v7
noncomputable def BV (node:Bool)(v5:Vec UInt64 16):Option (Vec UInt64 16) :=
  if node=true then((aU v5.l (15:Int)).bind fun BA=>(aU v5.l (15:Int)).bind fun vV=>(some (lK v5 (15:Int) (18446744073709551615^^^BA))).bind fun v8=>BU v8) else(BU v5)
noncomputable def Gh (h:Vec UInt64 8)(lo:UInt64)(hi:UInt64)(last:Bool)(node:Bool):(Vec UInt64 16×Int)->Option ((Vec UInt64 16×Int)⊕(Vec UInt64 16))
  | (v,i)=>if i < 8 then((aU h.l i).bind fun aS=>(aU v.l i).bind fun x_1=>(some (lK v i aS)).bind fun v1=>(Jd i).bind fun r_=>(aU v1.l (ay (i+8))).bind fun iJ=>(some (lK v1 (ay (i+8)) r_)).bind fun v2=>some (.inl (v2,ay (i+1)))) else(Option.map Sum.inr ((aU v.l (12:Int)).bind fun jF=>(aU v.l (12:Int)).bind fun kG=>(some (lK v (12:Int) (jF^^^lo))).bind fun v3=>(aU v3.l (13:Int)).bind fun kZ=>(aU v3.l (13:Int)).bind fun lV=>(some (lK v3 (13:Int) (kZ^^^hi))).bind fun v4=>if last=true then((aU v4.l (14:Int)).bind fun qf=>(aU v4.l (14:Int)).bind fun Gf=>(some (lK v4 (14:Int) (18446744073709551615^^^qf))).bind fun v6=>BV node v6) else(BV node v4)))
noncomputable def ET (h:Vec UInt64 8)(lo:UInt64)(hi:UInt64)(last:Bool)(node:Bool):Option (Vec UInt64 16) :=
  aY (Gh h lo hi last node) ((Vec.rep 16 (0:UInt64)),(0:Int))
noncomputable def xA (i:Int):Option (Vec Int 4) :=
  (aU (⟨[(⟨[(0:Int),(4:Int),(8:Int),(12:Int)],rfl⟩:Vec Int 4),(⟨[(1:Int),(5:Int),(9:Int),(13:Int)],rfl⟩:Vec Int 4),(⟨[(2:Int),(6:Int),(10:Int),(14:Int)],rfl⟩:Vec Int 4),(⟨[(3:Int),(7:Int),(11:Int),(15:Int)],rfl⟩:Vec Int 4),(⟨[(0:Int),(5:Int),(10:Int),(15:Int)],rfl⟩:Vec Int 4),(⟨[(1:Int),(6:Int),(11:Int),(12:Int)],rfl⟩:Vec Int 4),(⟨[(2:Int),(7:Int),(8:Int),(13:Int)],rfl⟩:Vec Int 4),(⟨[(3:Int),(4:Int),(9:Int),(14:Int)],rfl⟩:Vec Int 4)],rfl⟩:Vec (Vec Int 4) 8).l (Int.tmod i 8)).bind fun aS=>some aS
noncomputable def BX (r_:Int):Option Int :=
  some r_
noncomputable def Hr (n:Int)(m_:Int):Option Int :=
  (need (m_≠0)).bind fun u=>if(Int.tmod n m_) < 0 then(BX (ay ((Int.tmod n m_)+m_))) else(BX (Int.tmod n m_))
noncomputable def Je (c:UInt8):Option Int :=
  if((decide ((48:UInt8)<=c))&&(decide (c<=57)))=true then(some ((c - 48).toNat:Int)) else(if((decide ((97:UInt8)<=c))&&(decide (c<=102)))=true then(some (ay (((c - 97).toNat:Int)+10))) else(if((decide ((65:UInt8)<=c))&&(decide (c<=70)))=true then(some (ay (((c - 65).toNat:Int)+10))) else(some (-1:Int))))
noncomputable def C9 (round:Int)(i:Int):Option Int :=
  (Hr round (10:Int)).bind fun r_=>(aU ([48,49,50,51,52,53,54,55,56,57,97,98,99,100,101,102,101,97,52,56,57,102,100,54,49,99,48,50,98,55,53,51,98,56,99,48,53,50,102,100,97,101,51,54,55,49,57,52,55,57,51,49,100,99,98,101,50,54,53,97,52,48,102,56,57,48,53,55,50,52,97,102,101,49,98,99,54,56,51,100,50,99,54,97,48,98,56,51,52,100,55,53,102,101,49,57,99,53,49,102,101,100,52,97,48,55,54,51,57,50,56,98,100,98,55,101,99,49,51,57,53,48,102,52,56,54,50,97,54,102,101,57,98,51,48,56,99,50,100,55,49,52,97,53,97,50,56,52,55,54,49,53,102,98,57,101,51,99,100,48]:List UInt8) (ay ((ay (16*r_))+i))).bind fun c=>(Je c).bind fun aV=>some aV
noncomputable def uf (a_:Int):Option Bool :=
  some ((decide (0<=a_))&&(decide (a_<=15)))
noncomputable def jX (w_:UInt64)(n:Int):Option UInt64 :=
  (Hr n (64:Int)).bind fun r_=>if r_=0 then(some w_) else((need (0<=r_)).bind fun u=>(need (0<=ay (64 - r_))).bind fun u1=>some ((iG w_ (Int.toNat r_))|||(CB w_ (Int.toNat (ay (64 - r_))))))
noncomputable def LY (v:Vec UInt64 16)(a_:Int)(b:Int)(c:Int)(d:Int)(x_:UInt64)(y_:UInt64):Option (Vec UInt64 16×Int) :=
  (uf a_).bind fun r_=>if(!r_)=true then(some ((Vec.rep 16 ((0:UInt64):UInt64)),(1:Int))) else((uf b).bind fun aV=>if(!aV)=true then(some ((Vec.rep 16 ((0:UInt64):UInt64)),(1:Int))) else((uf c).bind fun dK=>if(!dK)=true then(some ((Vec.rep 16 ((0:UInt64):UInt64)),(1:Int))) else((uf d).bind fun gq=>if(((((((!gq)||(decide (a_=b)))||(decide (a_=c)))||(decide (a_=d)))||(decide (b=c)))||(decide (b=d)))||(decide (c=d)))=true then(some ((Vec.rep 16 ((0:UInt64):UInt64)),(1:Int))) else((aU v.l a_).bind fun jF=>(aU v.l b).bind fun kG=>(aU v.l a_).bind fun kZ=>(some (lK v a_ ((jF+kG)+x_))).bind fun v1=>(aU v1.l d).bind fun lV=>(aU v1.l a_).bind fun qf=>(jX (lV^^^qf) (32:Int)).bind fun iR=>(aU v1.l d).bind fun Gf=>(some (lK v1 d iR)).bind fun v2=>(aU v2.l c).bind fun BA=>(aU v2.l d).bind fun vV=>(aU v2.l c).bind fun lY=>(some (lK v2 c (BA+vV))).bind fun v3=>(aU v3.l b).bind fun Eo=>(aU v3.l c).bind fun jw=>(jX (Eo^^^jw) (24:Int)).bind fun jH=>(aU v3.l b).bind fun LV=>(some (lK v3 b jH)).bind fun v4=>(aU v4.l a_).bind fun IE=>(aU v4.l b).bind fun KN=>(aU v4.l a_).bind fun TK=>(some (lK v4 a_ ((IE+KN)+y_))).bind fun v5=>(aU v5.l d).bind fun IG=>(aU v5.l a_).bind fun ND=>(jX (IG^^^ND) (16:Int)).bind fun qx=>(aU v5.l d).bind fun x_20=>(some (lK v5 d qx)).bind fun v6=>(aU v6.l c).bind fun OQ=>(aU v6.l d).bind fun P8=>(aU v6.l c).bind fun x_23=>(some (lK v6 c (OQ+P8))).bind fun v7=>(aU v7.l b).bind fun OT=>(aU v7.l c).bind fun P9=>(jX (OT^^^P9) (63:Int)).bind fun sJ=>(aU v7.l b).bind fun x_26=>(some (lK v7 b sJ)).bind fun v8=>some (v8,(0:Int))))))
noncomputable def EU (m_:Vec UInt64 16)(round:Int):(Vec UInt64 16×Int)->Option ((Vec UInt64 16×Int)⊕(Vec UInt64 16×Int))
  | (v1,i)=>if i < 8 then((xA i).bind fun r_=>(aU r_.l (0:Int)).bind fun aS=>(aU r_.l (1:Int)).bind fun iJ=>(aU r_.l (2:Int)).bind fun jF=>(aU r_.l (3:Int)).bind fun kG=>(C9 round (ay (2*i))).bind fun aV=>(aU m_.l aV).bind fun kZ=>(C9 round (ay ((ay (2*i))+1))).bind fun dK=>(aU m_.l dK).bind fun lV=>(LY v1 aS iJ jF kG kZ lV).bind fun gq=>some (.inl (gq.1,ay (i+1)))) else(Option.map Sum.inr (some (v1,(0:Int))))
noncomputable def C_ (v:Vec UInt64 16)(m_:Vec UInt64 16)(round:Int):Option (Vec UInt64 16×Int) :=
  if((decide (round < 0))||(decide (11 < round)))=true then(some ((Vec.rep 16 ((0:UInt64):UInt64)),(1:Int))) else(aY (EU m_ round) (v,(0:Int)))
noncomputable def Ht (v:Vec UInt64 16):(Vec UInt64 8×Int)->Option ((Vec UInt64 8×Int)⊕(Vec UInt64 8))
  | (h1,i)=>if i < 8 then((aU h1.l i).bind fun aS=>(aU v.l i).bind fun x_1=>(aU v.l (ay (i+8))).bind fun iJ=>(aU h1.l i).bind fun jF=>(some (lK h1 i ((aS^^^x_1)^^^iJ))).bind fun v1=>some (.inl (v1,ay (i+1)))) else(Option.map Sum.inr (some h1))
noncomputable def Hu (h:Vec UInt64 8)(m_:Vec UInt64 16):(Vec UInt64 16×Int)->Option ((Vec UInt64 16×Int)⊕(Vec UInt64 8))
  | (v,aV)=>if aV < 12 then((C_ v m_ aV).bind fun dK=>some (.inl (dK.1,ay (aV+1)))) else(Option.map Sum.inr (aY (Ht v) (h,(0:Int))))
noncomputable def LZ (h:Vec UInt64 8)(m_:Vec UInt64 16)(lo:UInt64)(hi:UInt64)(last:Bool)(node:Bool):Option (Vec UInt64 8) :=
  (ET h lo hi last node).bind fun r_=>aY (Hu h m_) (r_,(0:Int))
noncomputable def Dc (aV:(Vec UInt64 8)):(Vec UInt64 16×Int)->Option ((Vec UInt64 16×Int)⊕(Vec UInt64 16))
  | (h1,i1)=>if i1 < 8 then((aU aV.l i1).bind fun iJ=>(aU h1.l i1).bind fun jF=>(some (lK h1 i1 iJ)).bind fun v1=>some (.inl (v1,ay (i1+1)))) else(Option.map Sum.inr (some h1))
noncomputable def FW (h:Vec UInt64 16)(b:List UInt8)(lo:UInt64)(hi:UInt64)(last:Bool)(node:Bool):(Vec UInt64 8×Int)->Option ((Vec UInt64 8×Int)⊕(Vec UInt64 16))
  | (s_,i)=>if i < 8 then((aU h.l i).bind fun aS=>(aU s_.l i).bind fun x_1=>(some (lK s_ i aS)).bind fun v=>some (.inl (v,ay (i+1)))) else(Option.map Sum.inr ((CZ b).bind fun r_=>(LZ s_ r_.1 lo hi last node).bind fun aV=>aY (Dc aV) (h,(0:Int))))
noncomputable def Oo (h:Vec UInt64 16):(Vec UInt32 8×Int)->Option ((Vec UInt32 8×Int)⊕(Vec UInt64 16))
  | (G7,i2)=>if i2 < 8 then((aU h.l i2).bind fun kG=>(aU G7.l i2).bind fun kZ=>(some (lK G7 i2 (UInt32.ofNat kG.toNat))).bind fun v2=>some (.inl (v2,ay (i2+1)))) else none
noncomputable def EW (kind:Int)(h:Vec UInt64 16)(b:List UInt8)(lo:UInt64)(hi:UInt64)(last:Bool)(node:Bool):Option (Vec UInt64 16) :=
  if kind=1 then(aY (FW h b lo hi last node) ((Vec.rep 8 (0:UInt64)),(0:Int))) else(aY (Oo h) ((Vec.rep 8 (0:UInt32)),(0:Int)))
noncomputable def wL (r_:(Vec UInt64 16×Int×Int×Int×Int×Int×UInt32×UInt64×UInt32×Int×Int×Bool×Vec UInt64 16×Bool×UInt64×UInt64×List UInt8×UInt64))(aV:Int):(Vec UInt64 16×UInt64×UInt64×Int)->Option ((Vec UInt64 16×UInt64×UInt64×Int)⊕(Vec UInt64 16×UInt64×UInt64×Int×Int×Int×Int×Int×Int×UInt32×UInt64×UInt32×Int×Int×Bool×Vec UInt64 16×Bool×UInt64×UInt64×List UInt8×UInt64))
  | (h,lo,hi,at_)=>if(ay (at_+aV)) < ((r_.2.2.2.2.2.2.2.2.2.2.2.2.2.2.2.2.1.length:Nat):Int) then((BC lo hi (UInt64.ofInt aV)).bind fun dK=>(EJ r_.2.2.2.2.2.2.2.2.2.2.2.2.2.2.2.2.1 at_ aV).bind fun gq=>(EW r_.2.1 h gq dK.1 dK.2.1 false false).bind fun iR=>some (.inl (iR,dK.1,dK.2.1,ay (at_+aV)))) else(Option.map Sum.inr (some (h,lo,hi,at_,r_.2.1,r_.2.2.1,r_.2.2.2.1,r_.2.2.2.2.1,r_.2.2.2.2.2.1,r_.2.2.2.2.2.2.1,r_.2.2.2.2.2.2.2.1,r_.2.2.2.2.2.2.2.2.1,r_.2.2.2.2.2.2.2.2.2.1,r_.2.2.2.2.2.2.2.2.2.2.1,r_.2.2.2.2.2.2.2.2.2.2.2.1,r_.2.2.2.2.2.2.2.2.2.2.2.2.1,r_.2.2.2.2.2.2.2.2.2.2.2.2.2.1,r_.2.2.2.2.2.2.2.2.2.2.2.2.2.2.1,r_.2.2.2.2.2.2.2.2.2.2.2.2.2.2.2.1,r_.2.2.2.2.2.2.2.2.2.2.2.2.2.2.2.2.1,r_.2.2.2.2.2.2.2.2.2.2.2.2.2.2.2.2.2)))
noncomputable def qZ (kX:Int)(gz:Int)(jU:Int)(gB:Int)(iC:Int)(ja:UInt32)(gG:UInt64)(jV:UInt32)(dU:Int)(iD:Int)(jy:List UInt8)(fE:List UInt8)(wo:List UInt8)(nP:Bool)(kH:Vec UInt64 16)(qY:Bool)(CW:UInt64)(CX:UInt64)(uJ:List UInt8)(jW:UInt64):Option (Vec UInt64 16×UInt64×UInt64×Int×Int×Int×Int×Int×Int×UInt32×UInt64×UInt32×Int×Int×Bool×Vec UInt64 16×Bool×UInt64×UInt64×List UInt8×UInt64) :=
  (oZ kX gz jU gB iC ja gG jV dU iD jy fE wo nP kH qY CW CX uJ jW).bind fun r_=>(wI r_.2.1).bind fun aV=>aY (wL r_ aV) (r_.1,r_.2.2.2.2.2.2.2.2.2.2.2.2.2.2.1,r_.2.2.2.2.2.2.2.2.2.2.2.2.2.2.2.1,(0:Int))
noncomputable def EX (n:Int):(UInt64×List UInt8×Int)->Option ((UInt64×List UInt8×Int)⊕(List UInt8))
  | (kU,b,i)=>if i < n then((app b ([UInt8.ofNat (kU % 256).toNat]:List UInt8) 1).bind fun b1=>some (.inl (kU / 256,b1,ay (i+1)))) else(Option.map Sum.inr (some b))
noncomputable def oM (w_:UInt64)(n:Int):Option (List UInt8) :=
  aY (EX n) (w_,([]:List UInt8),(0:Int))
noncomputable def EY (kind:Int)(h:Vec UInt64 16):(List UInt8×Int)->Option ((List UInt8×Int)⊕(List UInt8))
  | (b,i)=>if i < 8 then((aU h.l i).bind fun aS=>(yT kind).bind fun r_=>(oM aS (ay (Int.tdiv r_ 8))).bind fun aV=>(app b aV 1).bind fun b1=>some (.inl (b1,ay (i+1)))) else(Option.map Sum.inr (some b))
noncomputable def zh (kind:Int)(h:Vec UInt64 16):Option (List UInt8) :=
  aY (EY kind h) (([]:List UInt8),(0:Int))
noncomputable def wM (kX:Int)(gz:Int)(jU:Int)(gB:Int)(iC:Int)(ja:UInt32)(gG:UInt64)(jV:UInt32)(dU:Int)(iD:Int)(jy:List UInt8)(fE:List UInt8)(wo:List UInt8)(nP:Bool)(kH:Vec UInt64 16)(qY:Bool)(CW:UInt64)(CX:UInt64)(uJ:List UInt8)(jW:UInt64):Option (List UInt8×Int×Int×Int×Int×Int×UInt32×UInt64×UInt32×Int×Int×Bool×Vec UInt64 16×Bool×UInt64×UInt64×List UInt8×UInt64) :=
  (qZ kX gz jU gB iC ja gG jV dU iD jy fE wo nP kH qY CW CX uJ jW).bind fun r_=>(BC r_.2.1 r_.2.2.1 (UInt64.ofInt (ay (((r_.2.2.2.2.2.2.2.2.2.2.2.2.2.2.2.2.2.2.2.1.length:Nat):Int) - r_.2.2.2.1)))).bind fun aV=>(wI r_.2.2.2.2.1).bind fun dK=>(EJ r_.2.2.2.2.2.2.2.2.2.2.2.2.2.2.2.2.2.2.2.1 r_.2.2.2.1 dK).bind fun gq=>(EW r_.2.2.2.2.1 r_.1 gq aV.1 aV.2.1 true r_.2.2.2.2.2.2.2.2.2.2.2.2.2.2.1).bind fun iR=>(zh r_.2.2.2.2.1 iR).bind fun jH=>some (jH,r_.2.2.2.2.1,r_.2.2.2.2.2.1,r_.2.2.2.2.2.2.1,r_.2.2.2.2.2.2.2.1,r_.2.2.2.2.2.2.2.2.1,r_.2.2.2.2.2.2.2.2.2.1,r_.2.2.2.2.2.2.2.2.2.2.1,r_.2.2.2.2.2.2.2.2.2.2.2.1,r_.2.2.2.2.2.2.2.2.2.2.2.2.1,r_.2.2.2.2.2.2.2.2.2.2.2.2.2.1,r_.2.2.2.2.2.2.2.2.2.2.2.2.2.2.1,r_.2.2.2.2.2.2.2.2.2.2.2.2.2.2.2.1,r_.2.2.2.2.2.2.2.2.2.2.2.2.2.2.2.2.1,r_.2.2.2.2.2.2.2.2.2.2.2.2.2.2.2.2.2.1,r_.2.2.2.2.2.2.2.2.2.2.2.2.2.2.2.2.2.2.1,r_.2.2.2.2.2.2.2.2.2.2.2.2.2.2.2.2.2.2.2.1,r_.2.2.2.2.2.2.2.2.2.2.2.2.2.2.2.2.2.2.2.2)
noncomputable def wO (kind:Int)(aP:Int)(df:Int)(aQ:Int)(aW:Int)(bY:UInt32)(aK:UInt64)(bF:UInt32)(aA:Int)(aZ:Int)(bD:List UInt8)(aF:List UInt8)(key:List UInt8)(last:Bool)(out:Int)(data:List UInt8):Option (List UInt8×Int) :=
  (JP kind aP df aQ aW bY aK bF aA aZ bD aF key).bind fun r_=>(Sum.elim (fun aV=>if aV≠0 then(some (([]:List UInt8),aV)) else(if out < 1 then(some (([]:List UInt8),(1:Int))) else((yT kind).bind fun gq=>if gq < out then(some (([]:List UInt8),(1:Int))) else none))) (fun dK=>if 0≠0 then(some (([]:List UInt8),(0:Int))) else(if out < 1 then(some (([]:List UInt8),(1:Int))) else((yT kind).bind fun iR=>if iR < out then(some (([]:List UInt8),(1:Int))) else((sQ dK.1 dK.2.1 dK.2.2.1 dK.2.2.2.1 dK.2.2.2.2.1 dK.2.2.2.2.2.1 dK.2.2.2.2.2.2.1 dK.2.2.2.2.2.2.2.1 dK.2.2.2.2.2.2.2.2.1 dK.2.2.2.2.2.2.2.2.2.1 bD aF key last dK.2.2.2.2.2.2.2.2.2.2.1 false (0:UInt64) (0:UInt64) dK.2.2.2.2.2.2.2.2.2.2.2 (0:UInt64) data).bind fun jH=>(wM jH.1 jH.2.1 jH.2.2.1 jH.2.2.2.1 jH.2.2.2.2.1 jH.2.2.2.2.2.1 jH.2.2.2.2.2.2.1 jH.2.2.2.2.2.2.2.1 jH.2.2.2.2.2.2.2.2.1 jH.2.2.2.2.2.2.2.2.2.1 bD aF key jH.2.2.2.2.2.2.2.2.2.2.1 jH.2.2.2.2.2.2.2.2.2.2.2.1 jH.2.2.2.2.2.2.2.2.2.2.2.2.1 jH.2.2.2.2.2.2.2.2.2.2.2.2.2.1 jH.2.2.2.2.2.2.2.2.2.2.2.2.2.2.1 jH.2.2.2.2.2.2.2.2.2.2.2.2.2.2.2.1 jH.2.2.2.2.2.2.2.2.2.2.2.2.2.2.2.2).bind fun qx=>(G6 qx.1 0 out).bind fun b=>some (b,(0:Int))))))) r_
noncomputable def Hw (kind:Int)(n:Int)(key:List UInt8)(aJ:List UInt8)(iZ:List UInt8)(data:List UInt8):Option (List UInt8×Int) :=
  (jm kind n ((key.length:Nat):Int) (1:Int) (1:Int) (0:UInt32) (0:UInt64) (0:UInt32) (0:Int) (0:Int) aJ iZ).bind fun r_=>if r_≠0 then(some (([]:List UInt8),r_)) else((wO kind n ((key.length:Nat):Int) (1:Int) (1:Int) (0:UInt32) (0:UInt64) (0:UInt32) (0:Int) (0:Int) aJ iZ key false n data).bind fun aV=>some (aV.1,aV.2))
noncomputable def Gy (k_:Int)(n:Int)(data:List UInt8):Option (List UInt8×Int) :=
  (Ep k_ n ([]:List UInt8) ([]:List UInt8) ([]:List UInt8) data).bind fun r_=>some (r_.1,r_.2)
noncomputable def P_ (b:List UInt8):(List (List UInt8)×Int)->Option ((List (List UInt8)×Int)⊕(List (List UInt8)×Int×Int))
  | (parts,at_)=>if at_ < ((b.length:Nat):Int) then((kF b at_).bind fun r_=>if r_.2≠0 then(Option.map Sum.inr (some (([]:List (List UInt8)),at_,(4:Int)))) else(if(UInt64.ofInt (ay (((b.length:Nat):Int) - (ay (at_+8))))) < r_.1 then(Option.map Sum.inr (some (([]:List (List UInt8)),ay (at_+8),(4:Int)))) else((G6 b (ay (at_+8)) (ay ((ay (at_+8))+(ay r_.1.toNat)))).bind fun b1=>(app ([]:List UInt8) b1 1).bind fun b2=>(app parts ([b2]:List (List UInt8)) 24).bind fun parts1=>some (.inl (parts1,ay ((ay (at_+8))+(ay r_.1.toNat))))))) else(Option.map Sum.inr (some (parts,(0:Int),(0:Int))))
noncomputable def m_mac_Unrow (b:List UInt8):Option (List (List UInt8)×Int×Int) :=
  if 16777216 < ((b.length:Nat):Int) then(some (([]:List (List UInt8)),(0:Int),(2:Int))) else(aY (P_ b) (([]:List (List UInt8)),(0:Int)))
noncomputable def wP  : Option Unit :=
  some ()
noncomputable def sS (w_:UInt32):Option (List UInt8) :=
  some ([UInt8.ofNat w_.toNat,UInt8.ofNat (nG w_ ((8:UInt64).toNat)).toNat,UInt8.ofNat (nG w_ ((16:UInt64).toNat)).toNat,UInt8.ofNat (nG w_ ((24:UInt64).toNat)).toNat]:List UInt8)
noncomputable def jQ (b:List UInt8)(n:Int):Option (List UInt8) :=
  (sS (UInt32.ofInt n)).bind fun r_=>(app b r_ 1).bind fun b1=>some b1
noncomputable def xB (aj:Int)(ah:Int)(af:Int)(ag:Int)(ax:Int)(pass:List UInt8)(aJ:List UInt8)(secret:List UInt8)(extra:List UInt8):Option (List UInt8×Int) :=
  (aU (⟨[ag,ax,ah,af,(19:Int),aj],rfl⟩:Vec Int 6).l (0:Int)).bind fun iJ=>(jQ ([]:List UInt8) iJ).bind fun dK=>(aU (⟨[ag,ax,ah,af,(19:Int),aj],rfl⟩:Vec Int 6).l (1:Int)).bind fun jF=>(jQ dK jF).bind fun gq=>(aU (⟨[ag,ax,ah,af,(19:Int),aj],rfl⟩:Vec Int 6).l (2:Int)).bind fun kG=>(jQ gq kG).bind fun iR=>(aU (⟨[ag,ax,ah,af,(19:Int),aj],rfl⟩:Vec Int 6).l (3:Int)).bind fun kZ=>(jQ iR kZ).bind fun jH=>(aU (⟨[ag,ax,ah,af,(19:Int),aj],rfl⟩:Vec Int 6).l (4:Int)).bind fun lV=>(jQ jH lV).bind fun qx=>(aU (⟨[ag,ax,ah,af,(19:Int),aj],rfl⟩:Vec Int 6).l (5:Int)).bind fun qf=>(jQ qx qf).bind fun sJ=>(jQ sJ ((pass.length:Nat):Int)).bind fun IL=>(app IL pass 1).bind fun b=>(jQ b ((aJ.length:Nat):Int)).bind fun Iy=>(app Iy aJ 1).bind fun b1=>(jQ b1 ((secret.length:Nat):Int)).bind fun zu=>(app zu secret 1).bind fun b2=>(jQ b2 ((extra.length:Nat):Int)).bind fun zL=>(app zL extra 1).bind fun b3=>(Gy (1:Int) (64:Int) b3).bind fun DU=>some (DU.1,DU.2)
noncomputable def sU (aj:Int)(ah:Int)(af:Int)(ag:Int)(ax:Int)(pass:List UInt8)(aJ:List UInt8)(secret:List UInt8)(extra:List UInt8)(aS:Bool):Option (List UInt8×Int) :=
  if aS=true then(some (([]:List UInt8),(2:Int))) else(xB aj ah af ag ax pass aJ secret extra)
noncomputable def nJ (aj:Int)(ah:Int)(af:Int)(ag:Int)(ax:Int)(pass:List UInt8)(aJ:List UInt8)(secret:List UInt8)(extra:List UInt8):Option (List UInt8×Int) :=
  (y8 aj ah af ag ax).bind fun r_=>if(!r_)=true then(some (([]:List UInt8),(200:Int))) else(if 65536 < ((pass.length:Nat):Int) then(some (([]:List UInt8),(2:Int))) else((rO aj ah af ag ax aJ).bind fun aV=>if aV≠0 then(some (([]:List UInt8),(201:Int))) else(if 64 < ((secret.length:Nat):Int) then(sU aj ah af ag ax pass aJ secret extra (decide (64 < ((secret.length:Nat):Int)))) else(sU aj ah af ag ax pass aJ secret extra (decide (1024 < ((extra.length:Nat):Int)))))))
noncomputable def lg (aj:Int)(ah:Int)(af:Int)(ag:Int)(ax:Int):Option Int :=
  (need ((ay (4*ag))≠0)).bind fun u=>some (ay (Int.tdiv ah (ay (4*ag))))
noncomputable def nY (aj:Int)(ah:Int)(af:Int)(ag:Int)(ax:Int):Option Int :=
  (lg aj ah af ag ax).bind fun r_=>some (ay (4*r_))
noncomputable def rf (n:Int)(b:List UInt8):Option (List UInt8) :=
  (qQ (1:Int) n (0:Int) (1:Int) (1:Int) (0:UInt32) (0:UInt64) (0:UInt32) (0:Int) (0:Int) ([]:List UInt8) ([]:List UInt8) ([]:List UInt8) false n b).bind fun r_=>some r_.1
noncomputable def Ae (size:Int):(List UInt8×List UInt8×Int)->Option ((List UInt8×List UInt8×Int)⊕(List UInt8×Int))
  | (v,out,aS)=>if aS < (ay ((ay ((ay (Int.tdiv (ay (size+31)) 32)) - 2)) - 1)) then((rf (64:Int) v).bind fun gq=>(G6 gq 0 (32:Int)).bind fun b3=>(app out b3 1).bind fun out1=>some (.inl (gq,out1,ay (aS+1)))) else(Option.map Sum.inr ((rf (ay (size - (ay (32*(ay ((ay (Int.tdiv (ay (size+31)) 32)) - 2)))))) v).bind fun iR=>(app out iR 1).bind fun b4=>some (b4,(0:Int))))
noncomputable def zi (size:Int)(data:List UInt8):Option (List UInt8×Int) :=
  if((decide (size < 1))||(decide (1048576 < size)))=true then(some (([]:List UInt8),(1:Int))) else((sS (UInt32.ofInt size)).bind fun r_=>(app r_ data 1).bind fun b=>if size<=64 then((rf size b).bind fun aV=>some (aV,(0:Int))) else((rf (64:Int) b).bind fun dK=>(G6 dK 0 (32:Int)).bind fun b1=>(app ([]:List UInt8) b1 1).bind fun b2=>aY (Ae size) (dK,b2,(0:Int))))
noncomputable def o5 (start:List UInt8)(m_:List (List (Vec UInt8 1024)))(aS:Int):(List (Vec UInt8 1024)×Int)->Option ((List (Vec UInt8 1024)×Int)⊕((List (List (Vec UInt8 1024))×Int)⊕(Int×Int×Int×Int×Int×List (List (Vec UInt8 1024)))))
  | (l,lV)=>if lV < 2 then((app ([]:List UInt8) start 1).bind fun b=>(jQ b lV).bind fun aV=>(jQ aV aS).bind fun dK=>(zi (1024:Int) dK).bind fun gq=>(zH 1024 gq.1).bind fun v=>(aU l lV).bind fun qf=>some (.inl (l.set (Int.toNat lV) v,ay (lV+1)))) else(Option.map Sum.inr ((app m_ ([l]:List (List (Vec UInt8 1024))) 24).bind fun b1=>some (.inl (b1,ay (aS+1)))))
noncomputable def sV (aj:Int)(ah:Int)(af:Int)(ag:Int)(ax:Int)(start:List UInt8):(List (List (Vec UInt8 1024))×Int)->Option ((List (List (Vec UInt8 1024))×Int)⊕(Int×Int×Int×Int×Int×List (List (Vec UInt8 1024))))
  | (m_,aS)=>if aS < ag then((nY aj ah af ag ax).bind fun r_=>(need ((0:Int)<=r_/\(r_:Int)<=r_/\Int.toNat r_*1024<=140737488355328)).bind fun u=>aY (o5 start m_ aS) (List.replicate (Int.toNat r_) (Vec.rep 1024 (0:UInt8)),(0:Int))) else(Option.map Sum.inr (some (aj,ah,af,ag,ax,m_)))
noncomputable def yj (aj:Int)(ah:Int)(af:Int)(ag:Int)(ax:Int)(start:List UInt8):Option (Int×Int×Int×Int×Int×List (List (Vec UInt8 1024))) :=
  aY (sV aj ah af ag ax start) (([]:List (List (Vec UInt8 1024))),(0:Int))
noncomputable def vw (Vs:List UInt8)(Vt:List UInt8):Option Bool :=
  if((Vs.length:Nat):Int)≠1024 then(some false) else(if((Vt.length:Nat):Int)≠1024 then(some false) else(some true))
noncomputable def yI (b:List UInt8):(Vec UInt64 128×Int)->Option ((Vec UInt64 128×Int)⊕(Vec UInt64 128))
  | (nI,aS)=>if aS < 128 then((kF b (ay (8*aS))).bind fun r_=>(aU nI.l aS).bind fun x_1=>(some (lK nI aS r_.1)).bind fun v=>some (.inl (v,ay (aS+1)))) else(Option.map Sum.inr (some nI))
noncomputable def xC (b:List UInt8):Option (Vec UInt64 128) :=
  aY (yI b) ((Vec.rep 128 (0:UInt64)),(0:Int))
noncomputable def xE (k_:Int)(p:Int):Option (Int×Int) :=
  some (ay ((ay (16*p))+k_),p)
noncomputable def pz (x_:UInt64)(y_:UInt64):Option UInt64 :=
  some (((2:UInt64)*(x_&&&4294967295))*(y_&&&4294967295))
noncomputable def Af (a_:UInt64)(b:UInt64)(c:UInt64)(d:UInt64):Option (UInt64×UInt64×UInt64×UInt64) :=
  (pz a_ b).bind fun r_=>(fV (d^^^(a_+(b+r_))) (-32:Int)).bind fun aV=>(pz c aV).bind fun dK=>(fV (b^^^(c+(aV+dK))) (-24:Int)).bind fun gq=>(pz (a_+(b+r_)) gq).bind fun iR=>(fV (aV^^^((a_+(b+r_))+(gq+iR))) (-16:Int)).bind fun jH=>(pz (c+(aV+dK)) jH).bind fun qx=>(fV (gq^^^((c+(aV+dK))+(jH+qx))) (-63:Int)).bind fun sJ=>some ((a_+(b+r_))+(gq+iR),sJ,(c+(aV+dK))+(jH+qx),jH)
noncomputable def Ag  : (Vec UInt64 16×Int)->Option ((Vec UInt64 16×Int)⊕(Vec UInt64 16))
  | (v1,aS)=>if aS < 8 then((aU (⟨[(⟨[(0:Int),(4:Int),(8:Int),(12:Int)],rfl⟩:Vec Int 4),(⟨[(1:Int),(5:Int),(9:Int),(13:Int)],rfl⟩:Vec Int 4),(⟨[(2:Int),(6:Int),(10:Int),(14:Int)],rfl⟩:Vec Int 4),(⟨[(3:Int),(7:Int),(11:Int),(15:Int)],rfl⟩:Vec Int 4),(⟨[(0:Int),(5:Int),(10:Int),(15:Int)],rfl⟩:Vec Int 4),(⟨[(1:Int),(6:Int),(11:Int),(12:Int)],rfl⟩:Vec Int 4),(⟨[(2:Int),(7:Int),(8:Int),(13:Int)],rfl⟩:Vec Int 4),(⟨[(3:Int),(4:Int),(9:Int),(14:Int)],rfl⟩:Vec Int 4)],rfl⟩:Vec (Vec Int 4) 8).l aS).bind fun x_1=>(aU x_1.l (0:Int)).bind fun iJ=>(aU x_1.l (0:Int)).bind fun jF=>(aU v1.l jF).bind fun kG=>(aU x_1.l (1:Int)).bind fun kZ=>(aU v1.l kZ).bind fun lV=>(aU x_1.l (2:Int)).bind fun qf=>(aU v1.l qf).bind fun Gf=>(aU x_1.l (3:Int)).bind fun BA=>(aU v1.l BA).bind fun vV=>(aU x_1.l (1:Int)).bind fun lY=>(aU x_1.l (2:Int)).bind fun Eo=>(aU x_1.l (3:Int)).bind fun jw=>(Af kG lV Gf vV).bind fun r_=>(aU v1.l iJ).bind fun LV=>(some (lK v1 iJ r_.1)).bind fun v2=>(aU v2.l lY).bind fun IE=>(some (lK v2 lY r_.2.1)).bind fun v3=>(aU v3.l Eo).bind fun KN=>(some (lK v3 Eo r_.2.2.1)).bind fun v4=>(aU v4.l jw).bind fun TK=>(some (lK v4 jw r_.2.2.2)).bind fun v5=>some (.inl (v5,ay (aS+1)))) else(Option.map Sum.inr (some v1))
noncomputable def zk (v:Vec UInt64 16):Option (Vec UInt64 16) :=
  aY (Ag) (v,(0:Int))
noncomputable def uP (aV:(Vec UInt64 16)):(Int×Vec UInt64 128×Int)->Option ((Int×Vec UInt64 128×Int)⊕(Int×Vec UInt64 128))
  | (BD,kG,kZ)=>if kZ < 16 then((aU aV.l kZ).bind fun lV=>(xE kZ BD).bind fun dK=>(aU kG.l dK.1).bind fun qf=>(some (lK kG dK.1 lV)).bind fun v2=>some (.inl (dK.2,v2,ay (kZ+1)))) else(Option.map Sum.inr (some (BD,kG)))
noncomputable def yJ (p:Vec UInt64 128):(Int×Vec UInt64 16×Int)->Option ((Int×Vec UInt64 16×Int)⊕(Int×Vec UInt64 128))
  | (BF,v,aS)=>if aS < 16 then((xE aS BF).bind fun r_=>(aU p.l r_.1).bind fun iJ=>(aU v.l aS).bind fun jF=>(some (lK v aS iJ)).bind fun v1=>some (.inl (r_.2,v1,ay (aS+1)))) else(Option.map Sum.inr ((zk v).bind fun aV=>aY (uP aV) (BF,p,(0:Int))))
noncomputable def Ah (place:Int)(p:Vec UInt64 128):Option (Int×Vec UInt64 128) :=
  aY (yJ p) (place,(Vec.rep 16 (0:UInt64)),(0:Int))
noncomputable def xG (k_:Int)(p:Int):Option (Int×Int) :=
  some (ay ((ay ((ay (2*p))+(ay (16*(ay (Int.tdiv k_ 2))))))+(Int.tmod k_ 2)),p)
noncomputable def pF (aV:(Vec UInt64 16)):(Int×Vec UInt64 128×Int)->Option ((Int×Vec UInt64 128×Int)⊕(Int×Vec UInt64 128))
  | (BD,kG,kZ)=>if kZ < 16 then((aU aV.l kZ).bind fun lV=>(xG kZ BD).bind fun dK=>(aU kG.l dK.1).bind fun qf=>(some (lK kG dK.1 lV)).bind fun v2=>some (.inl (dK.2,v2,ay (kZ+1)))) else(Option.map Sum.inr (some (BD,kG)))
noncomputable def um (p:Vec UInt64 128):(Int×Vec UInt64 16×Int)->Option ((Int×Vec UInt64 16×Int)⊕(Int×Vec UInt64 128))
  | (BF,v,aS)=>if aS < 16 then((xG aS BF).bind fun r_=>(aU p.l r_.1).bind fun iJ=>(aU v.l aS).bind fun jF=>(some (lK v aS iJ)).bind fun v1=>some (.inl (r_.2,v1,ay (aS+1)))) else(Option.map Sum.inr ((zk v).bind fun aV=>aY (pF aV) (BF,p,(0:Int))))
noncomputable def uQ (place:Int)(p:Vec UInt64 128):Option (Int×Vec UInt64 128) :=
  aY (um p) (place,(Vec.rep 16 (0:UInt64)),(0:Int))
noncomputable def sW (aS:Int)(iJ:UInt64):(List UInt8×Int)->Option ((List UInt8×Int)⊕((List UInt8×Int)⊕(List UInt8×Vec UInt64 128)))
  | (b1,s_)=>if s_ < 64 then((need (0<=s_)).bind fun u=>(app b1 ([UInt8.ofNat (iG iJ (Int.toNat s_)).toNat]:List UInt8) 1).bind fun b2=>some (.inl (b2,ay (s_+8)))) else(Option.map Sum.inr (some (.inl (b1,ay (aS+1)))))
noncomputable def Ai (w_:Vec UInt64 128):(List UInt8×Int)->Option ((List UInt8×Int)⊕(List UInt8×Vec UInt64 128))
  | (b,aS)=>if aS < 128 then((aU w_.l aS).bind fun iJ=>aY (sW aS iJ) (b,(0:Int))) else(Option.map Sum.inr (some (b,w_)))
noncomputable def Df (w_:Vec UInt64 128):Option (List UInt8×Vec UInt64 128) :=
  aY (Ai w_) (List.replicate (Int.toNat (0:Int)) (0:UInt8),(0:Int))
noncomputable def yl (gq:Vec UInt64 128):(Vec UInt64 128×Int)->Option ((Vec UInt64 128×Int)⊕(List UInt8×Int))
  | (z2,BA)=>if BA < 128 then((aU z2.l BA).bind fun vV=>(aU gq.l BA).bind fun lY=>(aU z2.l BA).bind fun Eo=>(some (lK z2 BA (vV^^^lY))).bind fun v1=>some (.inl (v1,ay (BA+1)))) else(Option.map Sum.inr ((Df z2).bind fun qx=>some (qx.1,(0:Int))))
noncomputable def yt (gq:Vec UInt64 128):(Vec UInt64 128×Int)->Option ((Vec UInt64 128×Int)⊕(List UInt8×Int))
  | (z1,Gf)=>if Gf < 8 then((uQ Gf z1).bind fun jH=>some (.inl (jH.2,ay (Gf+1)))) else(Option.map Sum.inr (aY (yl gq) (z1,(0:Int))))
noncomputable def yu (gq:Vec UInt64 128):(Vec UInt64 128×Int)->Option ((Vec UInt64 128×Int)⊕(List UInt8×Int))
  | (z,qf)=>if qf < 8 then((Ah qf z).bind fun iR=>some (.inl (iR.2,ay (qf+1)))) else(Option.map Sum.inr (aY (yt gq) (z,(0:Int))))
noncomputable def BZ (dK:(Vec UInt64 128)):(Vec UInt64 128×Int)->Option ((Vec UInt64 128×Int)⊕(List UInt8×Int))
  | (gq,jF)=>if jF < 128 then((aU gq.l jF).bind fun kG=>(aU dK.l jF).bind fun kZ=>(aU gq.l jF).bind fun lV=>(some (lK gq jF (kG^^^kZ))).bind fun v=>some (.inl (v,ay (jF+1)))) else(Option.map Sum.inr (aY (yu gq) (gq,(0:Int))))
noncomputable def uo (x_:List UInt8)(y_:List UInt8):Option (List UInt8×Int) :=
  (vw x_ y_).bind fun r_=>if(!r_)=true then(some (([]:List UInt8),(1:Int))) else((xC x_).bind fun aV=>(xC y_).bind fun dK=>aY (BZ dK) (aV,(0:Int)))
noncomputable def nR (aj:Int)(ah:Int)(af:Int)(ag:Int)(ax:Int)(n1:Int)(iR:(List UInt8×Int)):(List UInt64×Int)->Option ((List UInt64×Int)⊕((List UInt64×Int)⊕(List UInt64)))
  | (l1,i)=>if i < 128 then((lg aj ah af ag ax).bind fun jH=>if((l1.length:Nat):Int) < jH then((kF iR.1 (ay (8*i))).bind fun qx=>(app l1 ([qx.1]:List UInt64) 8).bind fun l2=>some (.inl (l2,ay (i+1)))) else(Option.map Sum.inr (some (.inl (l1,ay (n1+1)))))) else(Option.map Sum.inr (some (.inl (l1,ay (n1+1)))))
noncomputable def nS (aj:Int)(ah:Int)(af:Int)(ag:Int)(ax:Int)(pass:Int)(slice:Int)(lane:Int)(l:List UInt64)(n1:Int)(aV:Int):(List UInt8×Int)->Option ((List UInt8×Int)⊕((List UInt64×Int)⊕(List UInt64)))
  | (Sm,aS)=>if aS < 7 then((aU (⟨[pass,lane,slice,ay (ag*aV),af,aj,n1],rfl⟩:Vec Int 7).l aS).bind fun x_1=>(sO (UInt64.ofInt x_1)).bind fun dK=>(app Sm dK 1).bind fun in_1=>some (.inl (in_1,ay (aS+1)))) else(Option.map Sum.inr ((G6 (List.replicate (Int.toNat (1024:Int)) (0:UInt8)) ((Sm.length:Nat):Int) ((Int.toNat (1024:Int):Nat):Int)).bind fun b=>(app Sm b 1).bind fun in_2=>(uo (List.replicate (Int.toNat (1024:Int)) (0:UInt8)) in_2).bind fun gq=>(uo (List.replicate (Int.toNat (1024:Int)) (0:UInt8)) gq.1).bind fun iR=>aY (nR aj ah af ag ax n1 iR) (l,(0:Int))))
noncomputable def rq (aj:Int)(ah:Int)(af:Int)(ag:Int)(ax:Int)(pass:Int)(slice:Int)(lane:Int):(List UInt64×Int)->Option ((List UInt64×Int)⊕(List UInt64))
  | (l,n1)=>(lg aj ah af ag ax).bind fun r_=>if((l.length:Nat):Int) < r_ then((nY aj ah af ag ax).bind fun aV=>aY (nS aj ah af ag ax pass slice lane l n1 aV) (List.replicate (Int.toNat (0:Int)) (0:UInt8),(0:Int))) else(Option.map Sum.inr (some l))
noncomputable def ru (aj:Int)(ah:Int)(af:Int)(ag:Int)(ax:Int)(pass:Int)(slice:Int)(lane:Int):Option (List UInt64) :=
  aY (rq aj ah af ag ax pass slice lane) (([]:List UInt64),(1:Int))
noncomputable def ni (aj:Int)(ah:Int)(af:Int)(ag:Int)(ax:Int)(j:UInt64)(l:Int)(start:Int)(area:Int):Option (Int×Int) :=
  (nY aj ah af ag ax).bind fun aV=>(need (aV≠0)).bind fun u1=>some (l,Int.tmod (ay ((ay ((ay (start+area)) - 1)) - (ay (iG ((UInt64.ofInt area)*(iG ((j&&&4294967295)*(j&&&4294967295)) ((32:UInt64).toNat))) ((32:UInt64).toNat)).toNat))) aV)
noncomputable def o6 (aj:Int)(ah:Int)(af:Int)(ag:Int)(ax:Int)(lane:Int)(x_:Int)(j:UInt64)(l:Int)(whole:Int)(start:Int):Option (Int×Int) :=
  if l=lane then(ni aj ah af ag ax j l start (ay (whole+(ay (x_ - 1))))) else(if x_=0 then(ni aj ah af ag ax j l start (ay (whole - 1))) else(ni aj ah af ag ax j l start whole))
noncomputable def o7 (aj:Int)(ah:Int)(af:Int)(ag:Int)(ax:Int)(pass:Int)(slice:Int)(lane:Int)(x_:Int)(j:UInt64)(l:Int)(r_:Int)(whole:Int):Option (Int×Int) :=
  if((decide (pass=0))||(decide (slice=3)))=true then(o6 aj ah af ag ax lane x_ j l whole (0:Int)) else(o6 aj ah af ag ax lane x_ j l whole (ay ((ay (slice+1))*r_)))
noncomputable def o8 (aj:Int)(ah:Int)(af:Int)(ag:Int)(ax:Int)(pass:Int)(slice:Int)(lane:Int)(x_:Int)(j:UInt64)(l:Int):Option (Int×Int) :=
  (lg aj ah af ag ax).bind fun r_=>if pass=0 then(o7 aj ah af ag ax pass slice lane x_ j l r_ (ay (slice*r_))) else(o7 aj ah af ag ax pass slice lane x_ j l r_ (ay (3*r_)))
noncomputable def vz (aj:Int)(ah:Int)(af:Int)(ag:Int)(ax:Int)(pass:Int)(slice:Int)(lane:Int)(x_:Int)(j:UInt64):Option (Int×Int) :=
  (need ((UInt64.ofInt ag)≠0)).bind fun u=>if((decide (pass=0))&&(decide (slice=0)))=true then(o8 aj ah af ag ax pass slice lane x_ j lane) else(o8 aj ah af ag ax pass slice lane x_ j (ay ((iG j ((32:UInt64).toNat)) % (UInt64.ofInt ag)).toNat))
noncomputable def xH (Vs:List UInt8)(Vt:List UInt8)(l_2:List UInt8):Option Bool :=
  if((Vs.length:Nat):Int)≠1024 then(some false) else(if((Vt.length:Nat):Int)≠1024 then(some false) else(if((l_2.length:Nat):Int)≠1024 then(some false) else(some true)))
noncomputable def B_ (x_:List UInt8)(y_:List UInt8):(List UInt8×Int)->Option ((List UInt8×Int)⊕(List UInt8×Int))
  | (b,jF)=>if jF < ((Int.toNat (1024:Int):Nat):Int) then((aU x_ jF).bind fun kG=>(aU y_ jF).bind fun kZ=>(aU b jF).bind fun lV=>some (.inl (b.set (Int.toNat jF) (kG^^^kZ),ay (jF+1)))) else(Option.map Sum.inr (some (b,(0:Int))))
noncomputable def BG (x_:List UInt8)(y_:List UInt8):Option (List UInt8×Int) :=
  (vw x_ y_).bind fun r_=>if(!r_)=true then(some (([]:List UInt8),(1:Int))) else(aY (B_ x_ y_) (List.replicate (Int.toNat (1024:Int)) (0:UInt8),(0:Int)))
noncomputable def zl (x_:List UInt8)(y_:List UInt8)(old:List UInt8):Option (List UInt8×Int) :=
  (xH x_ y_ old).bind fun r_=>if(!r_)=true then(some (([]:List UInt8),(1:Int))) else((uo x_ y_).bind fun aV=>(BG aV.1 old).bind fun dK=>some (dK.1,dK.2))
noncomputable def jb (aS:Int)(ve:List (List (Vec UInt8 1024))):Option ((List (List (Vec UInt8 1024))×Int)⊕(Int×Int×Int×Int×Int×List (List (Vec UInt8 1024)))) :=
  some (.inl (ve,ay (aS+1)))
noncomputable def l_ (dw:Int)(bU:Int)(bH:Int)(dD:Int)(eY:Int)(pass:Int)(slice:Int)(lane:Int)(s_:Int)(aV:(List UInt64))(b:List (Vec UInt8 1024)):(List (List (Vec UInt8 1024))×Int)->Option ((List (List (Vec UInt8 1024))×Int)⊕(Int×Int×Int×Int×Int×List (List (Vec UInt8 1024))))
  | (m_,aS)=>if aS < s_ then(if((decide (pass=0))&&(decide ((ay ((ay (slice*s_))+aS)) < 2)))=true then(jb aS m_) else((aU m_ lane).bind fun b1=>(need (((b.length:Nat):Int)≠0)).bind fun u=>(aU b1 (Int.tmod (ay ((ay ((ay ((ay (slice*s_))+aS))+((b.length:Nat):Int))) - 1)) ((b.length:Nat):Int))).bind fun lV=>(G6 lV.l 0 (8:Int)).bind fun b2=>(kF b2 (0:Int)).bind fun dK=>(aU aV aS).bind fun qf=>(vz dw bU bH dD eY pass slice lane aS qf).bind fun gq=>if pass=0 then((aU m_ gq.1).bind fun b3=>(aU b3 gq.2).bind fun Gf=>(uo lV.l Gf.l).bind fun iR=>(zH 1024 iR.1).bind fun v=>(aU b1 (ay ((ay (slice*s_))+aS))).bind fun BA=>jb aS (m_.set (Int.toNat lane) (b1.set (Int.toNat (ay ((ay (slice*s_))+aS))) v))) else((aU m_ gq.1).bind fun b4=>(aU b4 gq.2).bind fun vV=>(aU b1 (ay ((ay (slice*s_))+aS))).bind fun lY=>(zl lV.l vV.l lY.l).bind fun jH=>(zH 1024 jH.1).bind fun v1=>(aU b1 (ay ((ay (slice*s_))+aS))).bind fun Eo=>jb aS (m_.set (Int.toNat lane) (b1.set (Int.toNat (ay ((ay (slice*s_))+aS))) v1))))) else(Option.map Sum.inr (some (dw,bU,bH,dD,eY,m_)))
noncomputable def jc (jw:Int)(Nq:List (List (Vec UInt8 1024))):Option ((List (List (Vec UInt8 1024))×Int)⊕(Int×Int×Int×Int×Int×List (List (Vec UInt8 1024)))) :=
  some (.inl (Nq,ay (jw+1)))
noncomputable def mf (dw:Int)(bU:Int)(bH:Int)(dD:Int)(eY:Int)(pass:Int)(slice:Int)(lane:Int)(s_:Int)(b5:List (Vec UInt8 1024)):(List (List (Vec UInt8 1024))×Int)->Option ((List (List (Vec UInt8 1024))×Int)⊕(Int×Int×Int×Int×Int×List (List (Vec UInt8 1024))))
  | (Iq,jw)=>if jw < s_ then(if((decide (pass=0))&&(decide ((ay ((ay (slice*s_))+jw)) < 2)))=true then(jc jw Iq) else((aU Iq lane).bind fun b6=>(need (((b5.length:Nat):Int)≠0)).bind fun u1=>(aU b6 (Int.tmod (ay ((ay ((ay ((ay (slice*s_))+jw))+((b5.length:Nat):Int))) - 1)) ((b5.length:Nat):Int))).bind fun LV=>(G6 LV.l 0 (8:Int)).bind fun b7=>(kF b7 (0:Int)).bind fun qx=>(vz dw bU bH dD eY pass slice lane jw qx.1).bind fun sJ=>if pass=0 then((aU Iq sJ.1).bind fun b8=>(aU b8 sJ.2).bind fun IE=>(uo LV.l IE.l).bind fun IL=>(zH 1024 IL.1).bind fun v2=>(aU b6 (ay ((ay (slice*s_))+jw))).bind fun KN=>jc jw (Iq.set (Int.toNat lane) (b6.set (Int.toNat (ay ((ay (slice*s_))+jw))) v2))) else((aU Iq sJ.1).bind fun b9=>(aU b9 sJ.2).bind fun TK=>(aU b6 (ay ((ay (slice*s_))+jw))).bind fun IG=>(zl LV.l TK.l IG.l).bind fun Iy=>(zH 1024 Iy.1).bind fun v3=>(aU b6 (ay ((ay (slice*s_))+jw))).bind fun ND=>jc jw (Iq.set (Int.toNat lane) (b6.set (Int.toNat (ay ((ay (slice*s_))+jw))) v3))))) else(Option.map Sum.inr (some (dw,bU,bH,dD,eY,Iq)))
noncomputable def oG (dw:Int)(bU:Int)(bH:Int)(dD:Int)(eY:Int)(iO:List (List (Vec UInt8 1024)))(pass:Int)(slice:Int)(lane:Int)(s_:Int):Option (Int×Int×Int×Int×Int×List (List (Vec UInt8 1024))) :=
  if((decide (dw=1))||(((decide (dw=2))&&(decide (pass=0)))&&(decide (slice < 2))))=true then((ru dw bU bH dD eY pass slice lane).bind fun aV=>(aU iO lane).bind fun b=>aY (l_ dw bU bH dD eY pass slice lane s_ aV b) (iO,(0:Int))) else((aU iO lane).bind fun b5=>aY (mf dw bU bH dD eY pass slice lane s_ b5) (iO,(0:Int)))
noncomputable def oq (dw:Int)(bU:Int)(bH:Int)(dD:Int)(eY:Int)(iO:List (List (Vec UInt8 1024)))(pass:Int)(slice:Int)(lane:Int):Option (Int×Int×Int×Int×Int×List (List (Vec UInt8 1024))) :=
  (lg dw bU bH dD eY).bind fun r_=>oG dw bU bH dD eY iO pass slice lane r_
noncomputable def ry (lane:Int)(L6:Int)(Hy:Int)(Hz:Int)(JQ:Int)(Pe:Int)(Pg:List (List (Vec UInt8 1024)))(p:Int)(p1:Int):Option (Int×Int×Int×Int×Int×List (List (Vec UInt8 1024))×Int×Int) :=
  (oq L6 Hy Hz JQ Pe Pg p p1 lane).bind fun r_=>some (r_.1,r_.2.1,r_.2.2.1,r_.2.2.2.1,r_.2.2.2.2.1,r_.2.2.2.2.2,p,p1)
noncomputable def rC (lanes:Int):(Int×Int×Int×Int×Int×List (List (Vec UInt8 1024))×Int×Int×Int)->Option ((Int×Int×Int×Int×Int×List (List (Vec UInt8 1024))×Int×Int×Int)⊕(Int×Int×Int×Int×Int×List (List (Vec UInt8 1024))×Int×Int))
  | (ZM,ZN,ZO,ZP,ZQ,XK,ZR,ZT,aS)=>if aS < lanes then((ry aS ZM ZN ZO ZP ZQ XK ZR ZT).bind fun r_=>some (.inl (r_.1,r_.2.1,r_.2.2.1,r_.2.2.2.1,r_.2.2.2.2.1,r_.2.2.2.2.2.1,r_.2.2.2.2.2.2.1,r_.2.2.2.2.2.2.2,ay (aS+1)))) else(Option.map Sum.inr (some (ZM,ZN,ZO,ZP,ZQ,XK,ZR,ZT)))
noncomputable def wQ (lanes:Int)(HY:Int)(Eu:Int)(Ew:Int)(FX:Int)(JR:Int)(JS:List (List (Vec UInt8 1024)))(one:Int)(one1:Int):Option (Int×Int×Int×Int×Int×List (List (Vec UInt8 1024))×Int×Int) :=
  aY (rC lanes) (HY,Eu,Ew,FX,JR,JS,one,one1,(0:Int))
noncomputable def kW (aS:Int):(Int×Int×Int×Int×Int×List (List (Vec UInt8 1024))×Int×Int)->Option ((Int×Int×Int×Int×Int×List (List (Vec UInt8 1024))×Int×Int)⊕((Int×Int×Int×Int×Int×List (List (Vec UInt8 1024))×Int)⊕(Int×Int×Int×Int×Int×List (List (Vec UInt8 1024)))))
  | (m_6,m_7,m_8,m_9,ZU,XL,pass,lV)=>if lV < 4 then((wQ m_9 m_6 m_7 m_8 m_9 ZU XL pass lV).bind fun r_=>some (.inl (r_.1,r_.2.1,r_.2.2.1,r_.2.2.2.1,r_.2.2.2.2.1,r_.2.2.2.2.2.1,r_.2.2.2.2.2.2.1,ay (lV+1)))) else(Option.map Sum.inr (some (.inl (m_6,m_7,m_8,m_9,ZU,XL,ay (aS+1)))))
noncomputable def mW (bH:Int):(Int×Int×Int×Int×Int×List (List (Vec UInt8 1024))×Int)->Option ((Int×Int×Int×Int×Int×List (List (Vec UInt8 1024))×Int)⊕(Int×Int×Int×Int×Int×List (List (Vec UInt8 1024))))
  | (m_,ve,Iq,Nq,XM,m_5,aS)=>if aS < bH then(aY (kW aS) (m_,ve,Iq,Nq,XM,m_5,aS,(0:Int))) else(Option.map Sum.inr (some (m_,ve,Iq,Nq,XM,m_5)))
noncomputable def pG (dw:Int)(bU:Int)(bH:Int)(dD:Int)(eY:Int)(iO:List (List (Vec UInt8 1024))):Option (Int×Int×Int×Int×Int×List (List (Vec UInt8 1024))) :=
  aY (mW bH) (dw,bU,bH,dD,eY,iO,(0:Int))
noncomputable def pR (dw:Int)(bU:Int)(bH:Int)(dD:Int)(eY:Int)(iO:List (List (Vec UInt8 1024))):(Vec UInt8 1024×Int)->Option ((Vec UInt8 1024×Int)⊕(List UInt8×Int×Int×Int×Int×Int×List (List (Vec UInt8 1024))))
  | (aS,qf)=>if qf < ((iO.length:Nat):Int) then((aU iO qf).bind fun b=>(aU b (ay (((b.length:Nat):Int) - 1))).bind fun Gf=>(BG aS.l Gf.l).bind fun r_=>(zH 1024 r_.1).bind fun v=>some (.inl (v,ay (qf+1)))) else(Option.map Sum.inr ((zi eY aS.l).bind fun aV=>some (aV.1,dw,bU,bH,dD,eY,iO)))
noncomputable def pI (dw:Int)(bU:Int)(bH:Int)(dD:Int)(eY:Int)(iO:List (List (Vec UInt8 1024))):Option (List UInt8×Int×Int×Int×Int×Int×List (List (Vec UInt8 1024))) :=
  aY (pR dw bU bH dD eY iO) ((Vec.rep 1024 (0:UInt8)),(0:Int))
noncomputable def Aj (aj:Int)(ah:Int)(af:Int)(ag:Int)(ax:Int)(pass:List UInt8)(aJ:List UInt8)(secret:List UInt8)(extra:List UInt8):Option (List UInt8×Int) :=
  (nJ aj ah af ag ax pass aJ secret extra).bind fun r_=>if r_.2≠0 then(some (([]:List UInt8),r_.2)) else((yj aj ah af ag ax r_.1).bind fun aV=>(pG aV.1 aV.2.1 aV.2.2.1 aV.2.2.2.1 aV.2.2.2.2.1 aV.2.2.2.2.2).bind fun dK=>(pI dK.1 dK.2.1 dK.2.2.1 dK.2.2.2.1 dK.2.2.2.2.1 dK.2.2.2.2.2).bind fun gq=>some (gq.1,(0:Int)))
noncomputable def rD (aj:Int)(ah:Int)(af:Int)(ag:Int)(ax:Int)(pass:List UInt8)(aJ:List UInt8)(secret:List UInt8)(extra:List UInt8):Option (List UInt8×Int) :=
  (Aj aj ah af ag ax pass aJ secret extra).bind fun r_=>some (r_.1,r_.2)
noncomputable def Dh (aj:Int)(ah:Int)(af:Int)(ag:Int)(ax:Int)(w_:List UInt8)(aJ:List UInt8):Option (List UInt8×Int) :=
  (rD aj ah af ag ax w_ aJ ([]:List UInt8) ([]:List UInt8)).bind fun r_=>if r_.2≠0 then(some (([]:List UInt8),r_.2)) else((zJ aj ah af ag ax aJ r_.1).bind fun aV=>some (aV.1,aV.2))
noncomputable def xI (aj:Int)(ah:Int)(af:Int)(ag:Int)(ax:Int)(pass:List UInt8)(aJ:List UInt8)(secret:List UInt8)(extra:List UInt8):Option Int :=
  (nO aj ah af ag ax).bind fun r_=>if r_≠0 then(some (200:Int)) else(if 65536 < ((pass.length:Nat):Int) then(some (2:Int)) else((y9 aj ah af ag ax aJ).bind fun aV=>if aV≠0 then(some (201:Int)) else(if((decide (64 < ((secret.length:Nat):Int)))||(decide (1024 < ((extra.length:Nat):Int))))=true then(some (2:Int)) else(some (0:Int)))))
noncomputable def mD (n:Int):Option (List UInt8) :=
  (oM (UInt64.ofInt n) (4:Int)).bind fun r_=>some r_
noncomputable def Gz (kind:Int)(n:Int)(data:List UInt8):Option (List UInt8×Int) :=
  (Hw kind n ([]:List UInt8) ([]:List UInt8) ([]:List UInt8) data).bind fun r_=>some (r_.1,r_.2)
noncomputable def wR (aj:Int)(ah:Int)(af:Int)(ag:Int)(ax:Int)(pass:List UInt8)(aJ:List UInt8)(secret:List UInt8)(extra:List UInt8):Option (List UInt8×Int) :=
  (xI aj ah af ag ax pass aJ secret extra).bind fun r_=>if r_≠0 then(some (([]:List UInt8),r_)) else((aU ([ag,ax,ah,af,(19:Int),aj]:List Int) (0:Int)).bind fun aS=>(mD aS).bind fun aV=>(app ([]:List UInt8) aV 1).bind fun b=>(aU ([ag,ax,ah,af,(19:Int),aj]:List Int) (1:Int)).bind fun iJ=>(mD iJ).bind fun dK=>(app b dK 1).bind fun b1=>(aU ([ag,ax,ah,af,(19:Int),aj]:List Int) (2:Int)).bind fun jF=>(mD jF).bind fun gq=>(app b1 gq 1).bind fun b2=>(aU ([ag,ax,ah,af,(19:Int),aj]:List Int) (3:Int)).bind fun kG=>(mD kG).bind fun iR=>(app b2 iR 1).bind fun b3=>(aU ([ag,ax,ah,af,(19:Int),aj]:List Int) (4:Int)).bind fun kZ=>(mD kZ).bind fun jH=>(app b3 jH 1).bind fun b4=>(aU ([ag,ax,ah,af,(19:Int),aj]:List Int) (5:Int)).bind fun lV=>(mD lV).bind fun qx=>(app b4 qx 1).bind fun b5=>(mD ((pass.length:Nat):Int)).bind fun sJ=>(app b5 sJ 1).bind fun b6=>(app b6 pass 1).bind fun b7=>(mD ((aJ.length:Nat):Int)).bind fun IL=>(app b7 IL 1).bind fun b8=>(app b8 aJ 1).bind fun b9=>(mD ((secret.length:Nat):Int)).bind fun Iy=>(app b9 Iy 1).bind fun b10=>(app b10 secret 1).bind fun b11=>(mD ((extra.length:Nat):Int)).bind fun zu=>(app b11 zu 1).bind fun b12=>(app b12 extra 1).bind fun b13=>(Gz (1:Int) (64:Int) b13).bind fun zL=>some (zL.1,zL.2))
noncomputable def oN (aj:Int)(ah:Int)(af:Int)(ag:Int)(ax:Int):Option (Int×Int) :=
  (nO aj ah af ag ax).bind fun r_=>if r_≠0 then(some ((0:Int),r_)) else((need ((ay (4*ag))≠0)).bind fun u=>some (ay ((ay (Int.tdiv ah (ay (4*ag))))*4),(0:Int)))
noncomputable def rE (n:Int)(b:List UInt8):Option (List UInt8) :=
  (wO (1:Int) n (0:Int) (1:Int) (1:Int) (0:UInt32) (0:UInt64) (0:UInt32) (0:Int) (0:Int) ([]:List UInt8) ([]:List UInt8) ([]:List UInt8) false n b).bind fun r_=>some r_.1
noncomputable def vC  : (List UInt8×Int×List UInt8)->Option ((List UInt8×Int×List UInt8)⊕(List UInt8×Int))
  | (out,left,v)=>if 96 < left then((G6 v 0 (32:Int)).bind fun b=>(app out b 1).bind fun out1=>(rE (64:Int) v).bind fun gq=>some (.inl (out1,ay (left - 32),gq))) else(Option.map Sum.inr ((G6 v 0 (32:Int)).bind fun b1=>(app out b1 1).bind fun Vr=>(rE (ay (left - 32)) v).bind fun iR=>(app Vr iR 1).bind fun b2=>some (b2,(0:Int))))
noncomputable def yw (size:Int)(data:List UInt8):(List UInt8×Int)->Option ((List UInt8×Int)⊕(List UInt8×Int))
  | (s_,i)=>if i < ((data.length:Nat):Int) then((aU data i).bind fun aS=>(app s_ ([aS]:List UInt8) 1).bind fun G7=>some (.inl (G7,ay (i+1)))) else(Option.map Sum.inr (if size<=64 then((rE size s_).bind fun aV=>some (aV,(0:Int))) else((rE (64:Int) s_).bind fun dK=>aY (vC) (([]:List UInt8),size,dK))))
noncomputable def BH (size:Int)(data:List UInt8):Option (List UInt8×Int) :=
  if((decide (size < 1))||(decide (1048576 < size)))=true then(some (([]:List UInt8),(1:Int))) else((oM (UInt64.ofInt size) (4:Int)).bind fun r_=>aY (yw size data) (r_,(0:Int)))
noncomputable def vF (aj:Int)(ah:Int)(af:Int)(ag:Int)(ax:Int):Option Int :=
  (oN aj ah af ag ax).bind fun r_=>some (ay (Int.tdiv r_.1 4))
noncomputable def Ey (x_:List UInt8)(y_:List UInt8):(List UInt8×Int)->Option ((List UInt8×Int)⊕(List UInt8×Int))
  | (b,i)=>if i < 1024 then((aU x_ i).bind fun jF=>(aU y_ i).bind fun kG=>(app b ([jF^^^kG]:List UInt8) 1).bind fun b1=>some (.inl (b1,ay (i+1)))) else(Option.map Sum.inr (some (b,(0:Int))))
noncomputable def xJ (x_:List UInt8)(y_:List UInt8):Option (List UInt8×Int) :=
  if((decide (((x_.length:Nat):Int)≠1024))||(decide (((y_.length:Nat):Int)≠1024)))=true then(some (([]:List UInt8),(1:Int))) else(aY (Ey x_ y_) (([]:List UInt8),(0:Int)))
noncomputable def BI (a_:UInt64)(b:UInt64):Option UInt64 :=
  some (((2:UInt64)*(a_ % 4294967296))*(b % 4294967296))
noncomputable def Di (a_:UInt64)(b:UInt64)(c:UInt64)(d:UInt64):Option (Vec UInt64 4) :=
  (BI a_ b).bind fun r_=>(jX (d^^^((a_+b)+r_)) (32:Int)).bind fun aV=>(BI c aV).bind fun dK=>(jX (b^^^((c+aV)+dK)) (24:Int)).bind fun gq=>(BI ((a_+b)+r_) gq).bind fun iR=>(jX (aV^^^((((a_+b)+r_)+gq)+iR)) (16:Int)).bind fun jH=>(BI ((c+aV)+dK) jH).bind fun qx=>(jX (gq^^^((((c+aV)+dK)+jH)+qx)) (63:Int)).bind fun sJ=>some (⟨[(((a_+b)+r_)+gq)+iR,sJ,(((c+aV)+dK)+jH)+qx,jH],rfl⟩:Vec UInt64 4)
noncomputable def oP (i:Int)(r_:(Vec Int 4))(aV:Vec UInt64 4):(Vec UInt64 16×Int)->Option ((Vec UInt64 16×Int)⊕((Vec UInt64 16×Int)⊕(Vec UInt64 16)))
  | (v2,eu)=>if eu < 4 then((aU r_.l eu).bind fun Gf=>(aU aV.l eu).bind fun BA=>(aU v2.l Gf).bind fun vV=>(some (lK v2 Gf BA)).bind fun v3=>some (.inl (v3,ay (eu+1)))) else(Option.map Sum.inr (some (.inl (v2,ay (i+1)))))
noncomputable def Cb (v1:Vec UInt64 16)(i:Int)(r_:(Vec Int 4))(aV:Vec UInt64 4):Option ((Vec UInt64 16×Int)⊕(Vec UInt64 16)) :=
  aY (oP i r_ aV) (v1,(0:Int))
noncomputable def Cc  : (Vec UInt64 16×Int)->Option ((Vec UInt64 16×Int)⊕(Vec UInt64 16))
  | (v1,i)=>if i < 8 then((xA i).bind fun r_=>(aU r_.l (0:Int)).bind fun aS=>(aU v1.l aS).bind fun x_1=>(aU r_.l (1:Int)).bind fun iJ=>(aU v1.l iJ).bind fun jF=>(aU r_.l (2:Int)).bind fun kG=>(aU v1.l kG).bind fun kZ=>(aU r_.l (3:Int)).bind fun lV=>(aU v1.l lV).bind fun qf=>(Di x_1 jF kZ qf).bind fun dK=>Cb v1 i r_ dK) else(Option.map Sum.inr (some v1))
noncomputable def EZ (v:Vec UInt64 16):Option (Vec UInt64 16) :=
  aY (Cc) (v,(0:Int))
noncomputable def Ak (at_:Vec Int 16)(r_:(Vec UInt64 16)):(List UInt64×Int)->Option ((List UInt64×Int)⊕(List UInt64))
  | (z1,gY)=>if gY < 16 then((aU at_.l gY).bind fun jF=>(aU r_.l gY).bind fun kG=>(aU z1 jF).bind fun kZ=>some (.inl (z1.set (Int.toNat jF) kG,ay (gY+1)))) else(Option.map Sum.inr (some z1))
noncomputable def Ez (z:List UInt64)(at_:Vec Int 16):(Vec UInt64 16×Int)->Option ((Vec UInt64 16×Int)⊕(List UInt64))
  | (v,b_)=>if b_ < 16 then((aU at_.l b_).bind fun aS=>(aU z aS).bind fun x_1=>(aU v.l b_).bind fun iJ=>(some (lK v b_ x_1)).bind fun v1=>some (.inl (v1,ay (b_+1)))) else(Option.map Sum.inr ((EZ v).bind fun r_=>aY (Ak at_ r_) (z,(0:Int))))
noncomputable def EK (z:List UInt64)(at_:Vec Int 16):Option (List UInt64) :=
  aY (Ez z at_) ((Vec.rep 16 (0:UInt64)),(0:Int))
noncomputable def Am (z2:List UInt64)(i1:Int):(Vec Int 16×Int)->Option ((Vec Int 16×Int)⊕((List UInt64×Int)⊕(List UInt8×Int)))
  | (at_,dP)=>if dP < 16 then((aU at_.l dP).bind fun jF=>(some (lK at_ dP (ay ((ay (16*i1))+dP)))).bind fun v=>some (.inl (v,ay (dP+1)))) else(Option.map Sum.inr ((EK z2 at_).bind fun dK=>some (.inl (dK,ay (i1+1)))))
noncomputable def Ap (z3:List UInt64)(i2:Int):(Vec Int 16×Int)->Option ((Vec Int 16×Int)⊕((List UInt64×Int)⊕(List UInt8×Int)))
  | (TL,iP)=>if iP < 16 then((aU TL.l iP).bind fun kG=>(some (lK TL iP (ay ((ay ((ay (2*i2))+(ay (16*(ay (Int.tdiv iP 2))))))+(Int.tmod iP 2))))).bind fun v1=>some (.inl (v1,ay (iP+1)))) else(Option.map Sum.inr ((EK z3 TL).bind fun gq=>some (.inl (gq,ay (i2+1)))))
noncomputable def Aq (r_:(List UInt8×Int))(z3:List UInt64):(List UInt8×Int)->Option ((List UInt8×Int)⊕(List UInt8×Int))
  | (b,i3)=>if i3 < 128 then((aU z3 i3).bind fun kZ=>(oM kZ (8:Int)).bind fun iR=>(app b iR 1).bind fun b1=>some (.inl (b1,ay (i3+1)))) else(Option.map Sum.inr ((xJ r_.1 b).bind fun jH=>some (jH.1,jH.2)))
noncomputable def Ar (r_:(List UInt8×Int)):(List UInt64×Int)->Option ((List UInt64×Int)⊕(List UInt8×Int))
  | (z3,i2)=>if i2 < 8 then(aY (Ap z3 i2) ((Vec.rep 16 (0:Int)),(0:Int))) else(Option.map Sum.inr (aY (Aq r_ z3) (([]:List UInt8),(0:Int))))
noncomputable def xK (r_:(List UInt8×Int)):(List UInt64×Int)->Option ((List UInt64×Int)⊕(List UInt8×Int))
  | (z2,i1)=>if i1 < 8 then(aY (Am z2 i1) ((Vec.rep 16 (0:Int)),(0:Int))) else(Option.map Sum.inr (aY (Ar r_) (z2,(0:Int))))
noncomputable def EC (r_:(List UInt8×Int)):(List UInt64×Int)->Option ((List UInt64×Int)⊕(List UInt8×Int))
  | (z,i)=>if i < 128 then((rU r_.1 (ay (8*i)) (8:Int)).bind fun aV=>(app z ([aV.1]:List UInt64) 8).bind fun z1=>some (.inl (z1,ay (i+1)))) else(Option.map Sum.inr (aY (xK r_) (z,(0:Int))))
noncomputable def BJ (x_:List UInt8)(y_:List UInt8):Option (List UInt8×Int) :=
  (xJ x_ y_).bind fun r_=>if r_.2≠0 then(some (([]:List UInt8),r_.2)) else(aY (EC r_) (([]:List UInt64),(0:Int)))
noncomputable def sZ  : (List UInt8)->Option ((List UInt8)⊕(List UInt8))
  | b2=>if((b2.length:Nat):Int) < 1024 then((app b2 ([(0:UInt8)]:List UInt8) 1).bind fun b3=>some (.inl b3)) else(Option.map Sum.inr ((BJ (List.replicate (Int.toNat (1024:Int)) (0:UInt8)) b2).bind fun aV=>(BJ (List.replicate (Int.toNat (1024:Int)) (0:UInt8)) aV.1).bind fun dK=>some dK.1))
noncomputable def xM (aj:Int)(af:Int)(ag:Int)(pass:Int)(slice:Int)(lane:Int)(columns:Int)(n:Int):(List UInt8×Int)->Option ((List UInt8×Int)⊕(List UInt8))
  | (b,i)=>if i < ((7:Nat):Int) then((aU ([pass,lane,slice,ay (ag*columns),af,aj,n]:List Int) i).bind fun aS=>(oM (UInt64.ofInt aS) (8:Int)).bind fun r_=>(app b r_ 1).bind fun b1=>some (.inl (b1,ay (i+1)))) else(Option.map Sum.inr (aY (sZ) b))
noncomputable def yx (aj:Int)(ah:Int)(af:Int)(ag:Int)(ax:Int)(pass:Int)(slice:Int)(lane:Int)(columns:Int)(n:Int):Option (List UInt8) :=
  aY (xM aj af ag pass slice lane columns n) (([]:List UInt8),(0:Int))
noncomputable def uq (aS:Int)(out1:List UInt64)(b1:List UInt8):Option ((List UInt64×List UInt8×Int)⊕(List UInt64×Int)) :=
  some (.inl (out1,b1,ay (aS+1)))
noncomputable def ny (out:List UInt64)(aS:Int)(b2:List UInt8):Option ((List UInt64×List UInt8×Int)⊕(List UInt64×Int)) :=
  (rU b2 (ay (8*(Int.tmod aS 128))) (8:Int)).bind fun iR=>(app out ([iR.1]:List UInt64) 8).bind fun Vr=>uq aS Vr b2
noncomputable def uu (aj:Int)(ah:Int)(af:Int)(ag:Int)(ax:Int)(pass:Int)(slice:Int)(lane:Int)(aV:(Int×Int)):(List UInt64×List UInt8×Int)->Option ((List UInt64×List UInt8×Int)⊕(List UInt64×Int))
  | (out,b,aS)=>(vF aj ah af ag ax).bind fun dK=>if aS < dK then(if(Int.tmod aS 128)=0 then((yx aj ah af ag ax pass slice lane aV.1 (ay ((ay (Int.tdiv aS 128))+1))).bind fun gq=>ny out aS gq) else(ny out aS b)) else(Option.map Sum.inr (some (out,(0:Int))))
noncomputable def uS (aj:Int)(ah:Int)(af:Int)(ag:Int)(ax:Int)(pass:Int)(slice:Int)(lane:Int):Option (List UInt64×Int) :=
  (nO aj ah af ag ax).bind fun r_=>if r_≠0 then(some (([]:List UInt64),r_)) else(if((((((decide (pass < 0))||(decide (af<=pass)))||(decide (slice < 0)))||(decide (3 < slice)))||(decide (lane < 0)))||(decide (ag<=lane)))=true then(some (([]:List UInt64),(1:Int))) else((oN aj ah af ag ax).bind fun aV=>aY (uu aj ah af ag ax pass slice lane aV) (([]:List UInt64),([]:List UInt8),(0:Int))))
noncomputable def tq (j:UInt64)(aV:Int)(l:Int)(D8:Int)(start:Int):Option (Int×Int×Int) :=
  (need ((ay (4*aV))≠0)).bind fun u1=>some (l,Int.tmod (ay ((ay ((ay (start+D8)) - 1)) - (ay (iG ((UInt64.ofInt D8)*(iG ((j % 4294967296)*(j % 4294967296)) ((32:UInt64).toNat))) ((32:UInt64).toNat)).toNat))) (ay (4*aV)),(0:Int))
noncomputable def pJ (pass:Int)(slice:Int)(j:UInt64)(aV:Int)(l:Int)(D8:Int):Option (Int×Int×Int) :=
  if((decide (0 < pass))&&(decide (slice < 3)))=true then(tq j aV l D8 (ay ((ay (slice+1))*aV))) else(tq j aV l D8 (0:Int))
noncomputable def tu (pass:Int)(slice:Int)(lane:Int)(x_:Int)(j:UInt64)(aV:Int)(l:Int)(area:Int):Option (Int×Int×Int) :=
  if l=lane then(pJ pass slice j aV l (ay ((ay (area+x_)) - 1))) else(if x_=0 then(pJ pass slice j aV l (ay (area - 1))) else(pJ pass slice j aV l area))
noncomputable def tC (pass:Int)(slice:Int)(lane:Int)(x_:Int)(j:UInt64)(aV:Int)(l:Int):Option (Int×Int×Int) :=
  if pass=0 then(tu pass slice lane x_ j aV l (ay (slice*aV))) else(tu pass slice lane x_ j aV l (ay (3*aV)))
noncomputable def Dj (aj:Int)(ah:Int)(af:Int)(ag:Int)(ax:Int)(pass:Int)(slice:Int)(lane:Int)(x_:Int)(j:UInt64):Option (Int×Int×Int) :=
  (nO aj ah af ag ax).bind fun r_=>if r_≠0 then(some ((0:Int),(0:Int),r_)) else((vF aj ah af ag ax).bind fun aV=>if(((((((((decide (pass < 0))||(decide (af<=pass)))||(decide (slice < 0)))||(decide (3 < slice)))||(decide (lane < 0)))||(decide (ag<=lane)))||(decide (x_ < 0)))||(decide (aV<=x_)))||(((decide (pass=0))&&(decide (slice=0)))&&(decide (x_ < 2))))=true then(some ((0:Int),(0:Int),(1:Int))) else((need ((UInt64.ofInt ag)≠0)).bind fun u=>if((decide (pass=0))&&(decide (slice=0)))=true then(tC pass slice lane x_ j aV lane) else(tC pass slice lane x_ j aV (ay ((iG j ((32:UInt64).toNat)) % (UInt64.ofInt ag)).toNat))))
noncomputable def yz (aS:Int)(Iq:List (List UInt8)):Option ((List (List UInt8)×Int)⊕(List (List UInt8))) :=
  some (.inl (Iq,ay (aS+1)))
noncomputable def vG (aS:Int)(Nq:List (List UInt8)):Option ((List (List UInt8)×Int)⊕(List (List UInt8))) :=
  yz aS Nq
noncomputable def vH (slice:Int)(lane:Int)(columns:Int)(ve:List (List UInt8))(aS:Int)(b2:List UInt8):Option ((List (List UInt8)×Int)⊕(List (List UInt8))) :=
  (aU ve (ay ((ay (lane*columns))+(ay ((ay (slice*(ay (Int.tdiv columns 4))))+aS))))).bind fun b4=>vG aS (ve.set (Int.toNat (ay ((ay (lane*columns))+(ay ((ay (slice*(ay (Int.tdiv columns 4))))+aS))))) b2)
noncomputable def rV (aj:Int)(ah:Int)(af:Int)(ag:Int)(ax:Int)(pass:Int)(slice:Int)(lane:Int)(columns:Int)(ve:List (List UInt8))(aS:Int)(b:List UInt8)(j:UInt64):Option ((List (List UInt8)×Int)⊕(List (List UInt8))) :=
  (Dj aj ah af ag ax pass slice lane aS j).bind fun dK=>(aU ve (ay ((ay (dK.1*columns))+dK.2.1))).bind fun b1=>(BJ b b1).bind fun gq=>if 0 < pass then((aU ve (ay ((ay (lane*columns))+(ay ((ay (slice*(ay (Int.tdiv columns 4))))+aS))))).bind fun b3=>(xJ gq.1 b3).bind fun iR=>vH slice lane columns ve aS iR.1) else(vH slice lane columns ve aS gq.1)
noncomputable def yA (aj:Int)(ah:Int)(af:Int)(ag:Int)(ax:Int)(pass:Int)(slice:Int)(lane:Int)(columns:Int)(drawn:List UInt64):(List (List UInt8)×Int)->Option ((List (List UInt8)×Int)⊕(List (List UInt8)))
  | (ve,aS)=>if aS < (ay (Int.tdiv columns 4)) then(if(((decide (pass=0))&&(decide (slice=0)))&&(decide (aS < 2)))=true then(vG aS ve) else((need (columns≠0)).bind fun u=>(aU ve (ay ((ay (lane*columns))+(Int.tmod (ay ((ay ((ay ((ay (slice*(ay (Int.tdiv columns 4))))+aS))+columns)) - 1)) columns)))).bind fun b=>if((decide (aj=0))||((decide (aj=2))&&((decide (0 < pass))||(decide (1 < slice)))))=true then((rU b (0:Int) (8:Int)).bind fun aV=>rV aj ah af ag ax pass slice lane columns ve aS b aV.1) else((aU drawn aS).bind fun x_1=>rV aj ah af ag ax pass slice lane columns ve aS b x_1))) else(Option.map Sum.inr (some ve))
noncomputable def vI (aj:Int)(ah:Int)(af:Int)(ag:Int)(ax:Int)(m_:List (List UInt8))(pass:Int)(slice:Int)(lane:Int)(columns:Int)(drawn:List UInt64):Option (List (List UInt8)) :=
  aY (yA aj ah af ag ax pass slice lane columns drawn) (m_,(0:Int))
noncomputable def E5 (aj:Int)(ah:Int)(af:Int)(ag:Int)(ax:Int)(m_:List (List UInt8))(pass:Int)(slice:Int)(lane:Int)(columns:Int):Option (List (List UInt8)) :=
  if(!((decide (aj=0))||((decide (aj=2))&&((decide (0 < pass))||(decide (1 < slice))))))=true then((uS aj ah af ag ax pass slice lane).bind fun r_=>vI aj ah af ag ax m_ pass slice lane columns r_.1) else(vI aj ah af ag ax m_ pass slice lane columns ([]:List UInt64))
noncomputable def vJ (start:List UInt8)(r_:(Int×Int))(lane:Int):(List (List UInt8)×Int)->Option ((List (List UInt8)×Int)⊕((List (List UInt8)×Int)⊕(List (List UInt8)×Int)))
  | (ve,c2)=>if c2 < 2 then((app ([]:List UInt8) start 1).bind fun b=>(mD c2).bind fun aV=>(app b aV 1).bind fun b1=>(mD lane).bind fun dK=>(app b1 dK 1).bind fun b2=>(BH (1024:Int) b2).bind fun gq=>(aU ve (ay ((ay (lane*r_.1))+c2))).bind fun b3=>some (.inl (ve.set (Int.toNat (ay ((ay (lane*r_.1))+c2))) gq.1,ay (c2+1)))) else(Option.map Sum.inr (some (.inl (ve,ay (lane+1)))))
noncomputable def vK (aj:Int)(ah:Int)(af:Int)(ag:Int)(ax:Int)(r_:(Int×Int))(pass:Int)(slice:Int):(List (List UInt8)×Int)->Option ((List (List UInt8)×Int)⊕((List (List UInt8)×Int)⊕((List (List UInt8)×Int)⊕(List (List UInt8)×Int))))
  | (XM,Ko)=>if Ko < ag then((E5 aj ah af ag ax XM pass slice Ko r_.1).bind fun iR=>some (.inl (iR,ay (Ko+1)))) else(Option.map Sum.inr (some (.inl (XM,ay (slice+1)))))
noncomputable def vM (aj:Int)(ah:Int)(af:Int)(ag:Int)(ax:Int)(r_:(Int×Int))(pass:Int):(List (List UInt8)×Int)->Option ((List (List UInt8)×Int)⊕((List (List UInt8)×Int)⊕(List (List UInt8)×Int)))
  | (Nq,slice)=>if slice < 4 then(aY (vK aj ah af ag ax r_ pass slice) (Nq,(0:Int))) else(Option.map Sum.inr (some (.inl (Nq,ay (pass+1)))))
noncomputable def vN (aj:Int)(ah:Int)(af:Int)(ag:Int)(ax:Int)(r_:(Int×Int)):(List (List UInt8)×Int)->Option ((List (List UInt8)×Int)⊕(List (List UInt8)×Int))
  | (Iq,pass)=>if pass < af then(aY (vM aj ah af ag ax r_ pass) (Iq,(0:Int))) else(Option.map Sum.inr (some (Iq,(0:Int))))
noncomputable def yB (aj:Int)(ah:Int)(af:Int)(ag:Int)(ax:Int)(start:List UInt8)(r_:(Int×Int)):(List (List UInt8)×Int)->Option ((List (List UInt8)×Int)⊕(List (List UInt8)×Int))
  | (m_,lane)=>if lane < ag then(aY (vJ start r_ lane) (m_,(0:Int))) else(Option.map Sum.inr (aY (vN aj ah af ag ax r_) (m_,(0:Int))))
noncomputable def E8 (aj:Int)(ah:Int)(af:Int)(ag:Int)(ax:Int)(start:List UInt8):Option (List (List UInt8)×Int) :=
  (oN aj ah af ag ax).bind fun r_=>if r_.2≠0 then(some (([]:List (List UInt8)),r_.2)) else(if((start.length:Nat):Int)≠64 then(some (([]:List (List UInt8)),(1:Int))) else((need ((0:Int)<=ay (ag*r_.1)/\(ay (ag*r_.1):Int)<=ay (ag*r_.1)/\Int.toNat (ay (ag*r_.1))*24<=140737488355328)).bind fun u=>aY (yB aj ah af ag ax start r_) (List.replicate (Int.toNat (ay (ag*r_.1))) ([]:List UInt8),(0:Int))))
noncomputable def Ce (ag:Int)(ax:Int)(aV:(List (List UInt8)×Int))(dK:(Int×Int)):(List UInt8×Int)->Option ((List UInt8×Int)⊕(List UInt8×Int))
  | (b,lane)=>if lane < ag then((aU aV.1 (ay ((ay ((ay (lane*dK.1))+dK.1)) - 1))).bind fun b1=>(xJ b b1).bind fun gq=>some (.inl (gq.1,ay (lane+1)))) else(Option.map Sum.inr ((BH ax b).bind fun iR=>some (iR.1,iR.2)))
noncomputable def nz (aj:Int)(ah:Int)(af:Int)(ag:Int)(ax:Int)(pass:List UInt8)(aJ:List UInt8)(secret:List UInt8)(extra:List UInt8):Option (List UInt8×Int) :=
  (wR aj ah af ag ax pass aJ secret extra).bind fun r_=>if r_.2≠0 then(some (([]:List UInt8),r_.2)) else((E8 aj ah af ag ax r_.1).bind fun aV=>(oN aj ah af ag ax).bind fun dK=>aY (Ce ag ax aV dK) (List.replicate (Int.toNat (1024:Int)) (0:UInt8),(0:Int)))
noncomputable def Qa (aj:Int)(ah:Int)(af:Int)(ag:Int)(ax:Int)(word:List UInt8)(aJ:List UInt8):Option (List UInt8×Int) :=
  (nz aj ah af ag ax word aJ ([]:List UInt8) ([]:List UInt8)).bind fun r_=>if r_.2≠0 then(some (([]:List UInt8),r_.2)) else((I_ aj ah af ag ax aJ r_.1).bind fun aV=>some (aV.1,aV.2))
noncomputable def Jf (a_:List UInt8)(b:List UInt8):Option Bool :=
  some (decide (a_=b))
noncomputable def Au (aj:Int)(ah:Int)(af:Int)(ag:Int)(ax:Int)(tag:List UInt8)(pass:List UInt8)(aJ:List UInt8)(secret:List UInt8)(extra:List UInt8):Option (Bool×Int) :=
  (nJ aj ah af ag ax pass aJ secret extra).bind fun r_=>if r_.2≠0 then(some (false,r_.2)) else(if((tag.length:Nat):Int)≠ax then(some (false,(60:Int))) else((rD aj ah af ag ax pass aJ secret extra).bind fun aV=>(Jf aV.1 tag).bind fun dK=>some (dK,aV.2)))
noncomputable def nK (s_:List UInt8)(w_:List UInt8):Option (Bool×Int) :=
  (uj s_).bind fun r_=>if r_.2.2.2.2.2.2.2.2≠0 then(some (false,r_.2.2.2.2.2.2.2.2)) else((Au r_.1 r_.2.1 r_.2.2.1 r_.2.2.2.1 r_.2.2.2.2.1 r_.2.2.2.2.2.2.1 w_ r_.2.2.2.2.2.1 ([]:List UInt8) ([]:List UInt8)).bind fun aV=>some (aV.1,aV.2))
noncomputable def uT (qM:Int)(lS:Int)(lT:Int)(nV:Int)(vZ:Int)(zN:Int)(zO:UInt64)(ed:Mp (List UInt8×Int×UInt64))(name:List UInt8)(w_:List UInt8)(aJ:List UInt8):Option (Int×Int×Int×Int×Int×Int×Int×UInt64×(Mp (List UInt8×Int×UInt64))) :=
  (lF qM lS lT nV vZ zN zO ed).bind fun r_=>(zM name).bind fun aV=>if(!aV)=true then(some ((214:Int),r_.1,r_.2.1,r_.2.2.1,r_.2.2.2.1,r_.2.2.2.2.1,r_.2.2.2.2.2.1,r_.2.2.2.2.2.2,ed)) else((some ((qL ed name).getD (([]:List UInt8),(0:Int),(0:UInt64)))).bind fun e_=>if((qL ed name).isSome)=true then(some ((213:Int),r_.1,r_.2.1,r_.2.2.1,r_.2.2.2.1,r_.2.2.2.2.1,r_.2.2.2.2.2.1,r_.2.2.2.2.2.2,ed)) else(if 1024<=((ed.length:Nat):Int) then(some ((2:Int),r_.1,r_.2.1,r_.2.2.1,r_.2.2.2.1,r_.2.2.2.2.1,r_.2.2.2.2.2.1,r_.2.2.2.2.2.2,ed)) else((Dh r_.1 r_.2.1 r_.2.2.1 r_.2.2.2.1 r_.2.2.2.2.1 w_ aJ).bind fun dK=>if dK.2≠0 then(some (dK.2,r_.1,r_.2.1,r_.2.2.1,r_.2.2.2.1,r_.2.2.2.2.1,r_.2.2.2.2.2.1,r_.2.2.2.2.2.2,ed)) else(some ((0:Int),r_.1,r_.2.1,r_.2.2.1,r_.2.2.2.1,r_.2.2.2.2.1,r_.2.2.2.2.2.1,r_.2.2.2.2.2.2,F9 ed name (dK.1,(0:Int),(0:UInt64)))))))
noncomputable def kE (ed:Mp (List UInt8×Int×UInt64))(name:List UInt8)(r_:(Int×Int×Int×Int×Int×Int×UInt64))(e_:List UInt8×Int×UInt64)(aV:Int)(dK:UInt64)(why:Int):Option (Int×Int×Int×Int×Int×Int×Int×UInt64×(Mp (List UInt8×Int×UInt64))) :=
  some (why,r_.1,r_.2.1,r_.2.2.1,r_.2.2.2.1,r_.2.2.2.2.1,r_.2.2.2.2.2.1,r_.2.2.2.2.2.2,F9 ed name (e_.1,aV,dK))
noncomputable def fA (qM:Int)(lS:Int)(lT:Int)(nV:Int)(vZ:Int)(zN:Int)(zO:UInt64)(ed:Mp (List UInt8×Int×UInt64))(name:List UInt8)(w_:List UInt8)(now:UInt64):Option (Int×Int×Int×Int×Int×Int×Int×UInt64×(Mp (List UInt8×Int×UInt64))) :=
  (lF qM lS lT nV vZ zN zO ed).bind fun r_=>(some ((qL ed name).getD (([]:List UInt8),(0:Int),(0:UInt64)))).bind fun e_=>if(!((qL ed name).isSome))=true then(some ((210:Int),r_.1,r_.2.1,r_.2.2.1,r_.2.2.2.1,r_.2.2.2.2.1,r_.2.2.2.2.2.1,r_.2.2.2.2.2.2,ed)) else(if now < e_.2.2 then(some ((212:Int),r_.1,r_.2.1,r_.2.2.1,r_.2.2.2.1,r_.2.2.2.2.1,r_.2.2.2.2.2.1,r_.2.2.2.2.2.2,ed)) else((nK e_.1 w_).bind fun gq=>if gq.1=true then(kE ed name r_ e_ (0:Int) e_.2.2 (0:Int)) else(if r_.2.2.2.2.2.1<=(ay (e_.2.1+1)) then(kE ed name r_ e_ (0:Int) (now+(OH r_.2.2.2.2.2.2 ((18446744073709551615:UInt64) - now))) (211:Int)) else(kE ed name r_ e_ (ay (e_.2.1+1)) e_.2.2 (211:Int)))))
noncomputable def nC (most:UInt8)(hold:UInt32)(now:UInt32):(Int×Int×Int×Int×Int×Int×UInt64×(Mp (List UInt8×Int×UInt64))×Int)->Option ((Int×Int×Int×Int×Int×Int×UInt64×(Mp (List UInt8×Int×UInt64))×Int)⊕Bool)
  | (b8,b9,b10,b11,b12,b13,b14,ve,i1)=>if i1 < (ay (1+((most % 5).toNat:Int))) then((fA b8 b9 b10 b11 b12 b13 b14 ve ([97,110,110]:List UInt8) ([(119:UInt8),(114:UInt8),(111:UInt8),(110:UInt8),(103:UInt8)]:List UInt8) (UInt64.ofNat now.toNat)).bind fun DV=>if DV.1≠211 then(Option.map Sum.inr (some false)) else(some (.inl (DV.2.1,DV.2.2.1,DV.2.2.2.1,DV.2.2.2.2.1,DV.2.2.2.2.2.1,DV.2.2.2.2.2.2.1,DV.2.2.2.2.2.2.2.1,DV.2.2.2.2.2.2.2.2,ay (i1+1))))) else(Option.map Sum.inr (if(0:UInt32) < hold then((fA b8 b9 b10 b11 b12 b13 b14 ve ([97,110,110]:List UInt8) ([(114:UInt8),(105:UInt8),(103:UInt8),(104:UInt8),(116:UInt8)]:List UInt8) (UInt64.ofNat now.toNat)).bind fun Ja=>if Ja.1≠212 then(some false) else((fA Ja.2.1 Ja.2.2.1 Ja.2.2.2.1 Ja.2.2.2.2.1 Ja.2.2.2.2.2.1 Ja.2.2.2.2.2.2.1 Ja.2.2.2.2.2.2.2.1 Ja.2.2.2.2.2.2.2.2 ([97,110,110]:List UInt8) ([(114:UInt8),(105:UInt8),(103:UInt8),(104:UInt8),(116:UInt8)]:List UInt8) (((UInt64.ofNat now.toNat)+(UInt64.ofNat hold.toNat)) - 1)).bind fun Jb=>if Jb.1≠212 then(some false) else((fA Jb.2.1 Jb.2.2.1 Jb.2.2.2.1 Jb.2.2.2.2.1 Jb.2.2.2.2.2.1 Jb.2.2.2.2.2.2.1 Jb.2.2.2.2.2.2.2.1 Jb.2.2.2.2.2.2.2.2 ([97,110,110]:List UInt8) ([(114:UInt8),(105:UInt8),(103:UInt8),(104:UInt8),(116:UInt8)]:List UInt8) ((UInt64.ofNat now.toNat)+(UInt64.ofNat hold.toNat))).bind fun Iz=>some (decide (Iz.1=0))))) else((fA b8 b9 b10 b11 b12 b13 b14 ve ([97,110,110]:List UInt8) ([(114:UInt8),(105:UInt8),(103:UInt8),(104:UInt8),(116:UInt8)]:List UInt8) ((UInt64.ofNat now.toNat)+(UInt64.ofNat hold.toNat))).bind fun TG=>some (decide (TG.1=0)))))
noncomputable def uw (most:UInt8)(hold:UInt32)(now:UInt32)(wrong:UInt8):(Int×Int×Int×Int×Int×Int×UInt64×(Mp (List UInt8×Int×UInt64))×Int)->Option ((Int×Int×Int×Int×Int×Int×UInt64×(Mp (List UInt8×Int×UInt64))×Int)⊕Bool)
  | (b1,b2,b3,b4,b5,b6,b7,m_,i)=>if i < (Int.tmod (wrong.toNat:Int) (ay (1+((most % 5).toNat:Int)))) then((fA b1 b2 b3 b4 b5 b6 b7 m_ ([97,110,110]:List UInt8) ([(119:UInt8),(114:UInt8),(111:UInt8),(110:UInt8),(103:UInt8)]:List UInt8) (UInt64.ofNat now.toNat)).bind fun zL=>if zL.1≠211 then(Option.map Sum.inr (some false)) else(some (.inl (zL.2.1,zL.2.2.1,zL.2.2.2.1,zL.2.2.2.2.1,zL.2.2.2.2.2.1,zL.2.2.2.2.2.2.1,zL.2.2.2.2.2.2.2.1,zL.2.2.2.2.2.2.2.2,ay (i+1))))) else(Option.map Sum.inr ((fA b1 b2 b3 b4 b5 b6 b7 m_ ([97,110,110]:List UInt8) ([(114:UInt8),(105:UInt8),(103:UInt8),(104:UInt8),(116:UInt8)]:List UInt8) (UInt64.ofNat now.toNat)).bind fun DU=>if DU.1≠0 then(some false) else(aY (nC most hold now) (DU.2.1,DU.2.2.1,DU.2.2.2.1,DU.2.2.2.2.1,DU.2.2.2.2.2.1,DU.2.2.2.2.2.2.1,DU.2.2.2.2.2.2.2.1,DU.2.2.2.2.2.2.2.2,(0:Int)))))
noncomputable def uy (most:UInt8)(hold:UInt32)(now:UInt32)(wrong:UInt8)(jH:(Int×Int×Int×Int×Int×Int×Int×UInt64×(Mp (List UInt8×Int×UInt64))))(aS:List UInt8)(y_:List UInt8):Option Bool :=
  (Hm aS y_).bind fun zu=>if zu=true then(some true) else((need ((ay (1+((most % 5).toNat:Int)))≠0)).bind fun u=>aY (uw most hold now wrong) (jH.2.1,jH.2.2.1,jH.2.2.2.1,jH.2.2.2.2.1,jH.2.2.2.2.2.1,jH.2.2.2.2.2.2.1,jH.2.2.2.2.2.2.2.1,jH.2.2.2.2.2.2.2.2,(0:Int)))
noncomputable def uz (most:UInt8)(hold:UInt32)(now:UInt32)(wrong:UInt8)(aJ:Vec UInt8 8)(jH:(Int×Int×Int×Int×Int×Int×Int×UInt64×(Mp (List UInt8×Int×UInt64))))(aS:List UInt8):Option Bool :=
  (wP).bind fun IL=>(nz (2:Int) (8:Int) (1:Int) (1:Int) (4:Int) ([(119:UInt8),(114:UInt8),(111:UInt8),(110:UInt8),(103:UInt8)]:List UInt8) aJ.l ([]:List UInt8) ([]:List UInt8)).bind fun Iy=>uy most hold now wrong jH aS Iy.1
noncomputable def yK (most:UInt8)(hold:UInt32)(now:UInt32)(wrong:UInt8)(aJ:Vec UInt8 8):Option Bool :=
  (CQ).bind fun r_=>if(!r_)=true then(some false) else((wP).bind fun aV=>(Ho (2:Int) (8:Int) (1:Int) (1:Int) (4:Int) (ay (1+((most % 5).toNat:Int))) (UInt64.ofNat hold.toNat)).bind fun dK=>(Sum.elim (fun gq=>some false) (fun iR=>if 0≠0 then(some false) else((uT iR.1 iR.2.1 iR.2.2.1 iR.2.2.2.1 iR.2.2.2.2.1 iR.2.2.2.2.2.1 iR.2.2.2.2.2.2.1 iR.2.2.2.2.2.2.2 ([97,110,110]:List UInt8) ([(114:UInt8),(105:UInt8),(103:UInt8),(104:UInt8),(116:UInt8)]:List UInt8) aJ.l).bind fun jH=>if jH.1≠0 then(some false) else((wP).bind fun qx=>(nz (2:Int) (8:Int) (1:Int) (1:Int) (4:Int) ([(114:UInt8),(105:UInt8),(103:UInt8),(104:UInt8),(116:UInt8)]:List UInt8) aJ.l ([]:List UInt8) ([]:List UInt8)).bind fun sJ=>uz most hold now wrong aJ jH sJ.1)))) dK)
end Go.Sx
