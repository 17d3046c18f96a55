import Derived.Test.YtbcgmfmpchjbcaaGreatK2
namespace Go.Sx
open Go.RowKit
set_option linter.unusedVariables false
noncomputable section
def yP (k_:Int):Option (Int×Int×Int) :=
  if k_=1 then(some (64,64,16)) else(if k_=2 then(some (32,32,8)) else(some (0,0,0)))
def oW (n lo hi:Int):Option Bool :=
  some ((decide (lo<=n))&&(decide (n<=hi)))
def Aq  : A06 :=
  some (0:Int)
def xN (k_:Int)(dh:UInt32)(aI bI:Int)(bZ aJ:AC)(r_:(Int×Int×Int))(aO:Bool):A06 :=
  if aO=true then(some 23) else(if((decide (k_=2))&&(decide ((65535:UInt32) < dh)))=true then(some 24) else((oW aI 0 255).bind fun kM=>if(!kM)=true then(some 25) else((oW bI 0 r_.2.1).bind fun rO=>if(!rO)=true then(some 26) else(if r_.2.2 < ((bZ.length:Nat):Int) then(some 27) else(if r_.2.2 < ((aJ.length:Nat):Int) then(some 28) else(Aq))))))
def uy (k_ bg dV bu bF:Int)(aV:UInt64)(dh:UInt32)(aI bI:Int)(bZ aJ:AC)(r_:(Int×Int×Int))(least:Int):A06 :=
  (oW bg 1 r_.2.1).bind fun bM=>if(!bM)=true then(some 20) else((oW dV 0 r_.2.1).bind fun fO=>if(!fO)=true then(some 8) else((oW bu 0 255).bind fun iC=>if(!iC)=true then(some 21) else((oW bF least 255).bind fun jT=>if(!jT)=true then(some 22) else(if((decide (dh≠0))&&(decide ((4294967296:UInt64)<=aV)))=true then(xN k_ dh aI bI bZ aJ r_ ((decide (dh≠0))&&(decide ((4294967296:UInt64)<=aV)))) else(xN k_ dh aI bI bZ aJ r_ (((decide (dh=0))&&(decide (k_=2)))&&(decide ((281474976710656:UInt64)<=aV))))))))
def xn (k_ bg dV bu bF:Int)(dU:UInt32)(aV:UInt64)(dh:UInt32)(aI bI:Int)(bZ aJ:AC):A06 :=
  (yP k_).bind fun r_=>if r_.2.1=0 then(some 1) else(if dh≠0 then(uy k_ bg dV bu bF aV dh aI bI bZ aJ r_ 0) else(uy k_ bg dV bu bF aV dh aI bI bZ aJ r_ 1))
def yx (k_:Int):Option A07 :=
  if k_=1 then(some ([(1,0,1,([100,105,103,101,115,116]:AC),20),(2,1,1,([107,101,121]:AC),8),(3,2,1,([102,97,110,111,117,116]:AC),21),(4,3,1,([100,101,112,116,104]:AC),22),(5,4,4,([108,101,97,102]:AC),1),(6,8,8,([111,102,102,115,101,116]:AC),23),(7,12,4,([120,111,102]:AC),24),(8,16,1,([110,111,100,101]:AC),25),(9,17,1,([105,110,110,101,114]:AC),26)]:A07)) else((aW ([(1,0,1,([100,105,103,101,115,116]:AC),20),(2,1,1,([107,101,121]:AC),8),(3,2,1,([102,97,110,111,117,116]:AC),21),(4,3,1,([100,101,112,116,104]:AC),22),(5,4,4,([108,101,97,102]:AC),1),(6,8,8,([111,102,102,115,101,116]:AC),23),(7,12,4,([120,111,102]:AC),24),(8,16,1,([110,111,100,101]:AC),25),(9,17,1,([105,110,110,101,114]:AC),26)]:A07) 5).bind fun aO=>(aW (([(1,0,1,([100,105,103,101,115,116]:AC),20),(2,1,1,([107,101,121]:AC),8),(3,2,1,([102,97,110,111,117,116]:AC),21),(4,3,1,([100,101,112,116,104]:AC),22),(5,4,4,([108,101,97,102]:AC),1),(6,8,8,([111,102,102,115,101,116]:AC),23),(7,12,4,([120,111,102]:AC),24),(8,16,1,([110,111,100,101]:AC),25),(9,17,1,([105,110,110,101,114]:AC),26)]:A07).set (Int.toNat 5) (aO.1,aO.2.1,6,aO.2.2.2.1,aO.2.2.2.2)) 6).bind fun x_1=>(aW ((([(1,0,1,([100,105,103,101,115,116]:AC),20),(2,1,1,([107,101,121]:AC),8),(3,2,1,([102,97,110,111,117,116]:AC),21),(4,3,1,([100,101,112,116,104]:AC),22),(5,4,4,([108,101,97,102]:AC),1),(6,8,8,([111,102,102,115,101,116]:AC),23),(7,12,4,([120,111,102]:AC),24),(8,16,1,([110,111,100,101]:AC),25),(9,17,1,([105,110,110,101,114]:AC),26)]:A07).set (Int.toNat 5) (aO.1,aO.2.1,6,aO.2.2.2.1,aO.2.2.2.2)).set (Int.toNat 6) (x_1.1,x_1.2.1,2,x_1.2.2.2.1,x_1.2.2.2.2)) 7).bind fun dM=>(aW (((([(1,0,1,([100,105,103,101,115,116]:AC),20),(2,1,1,([107,101,121]:AC),8),(3,2,1,([102,97,110,111,117,116]:AC),21),(4,3,1,([100,101,112,116,104]:AC),22),(5,4,4,([108,101,97,102]:AC),1),(6,8,8,([111,102,102,115,101,116]:AC),23),(7,12,4,([120,111,102]:AC),24),(8,16,1,([110,111,100,101]:AC),25),(9,17,1,([105,110,110,101,114]:AC),26)]:A07).set (Int.toNat 5) (aO.1,aO.2.1,6,aO.2.2.2.1,aO.2.2.2.2)).set (Int.toNat 6) (x_1.1,x_1.2.1,2,x_1.2.2.2.1,x_1.2.2.2.2)).set (Int.toNat 7) (dM.1,14,dM.2.2.1,dM.2.2.2.1,dM.2.2.2.2)) 8).bind fun dP=>some ((((([(1,0,1,([100,105,103,101,115,116]:AC),20),(2,1,1,([107,101,121]:AC),8),(3,2,1,([102,97,110,111,117,116]:AC),21),(4,3,1,([100,101,112,116,104]:AC),22),(5,4,4,([108,101,97,102]:AC),1),(6,8,8,([111,102,102,115,101,116]:AC),23),(7,12,4,([120,111,102]:AC),24),(8,16,1,([110,111,100,101]:AC),25),(9,17,1,([105,110,110,101,114]:AC),26)]:A07).set (Int.toNat 5) (aO.1,aO.2.1,6,aO.2.2.2.1,aO.2.2.2.2)).set (Int.toNat 6) (x_1.1,x_1.2.1,2,x_1.2.2.2.1,x_1.2.2.2.2)).set (Int.toNat 7) (dM.1,14,dM.2.2.1,dM.2.2.2.1,dM.2.2.2.2)).set (Int.toNat 8) (dP.1,15,dP.2.2.1,dP.2.2.2.1,dP.2.2.2.2)))
def EF (bg dV bu bF:Int)(dU:UInt32)(aV:UInt64)(dh:UInt32)(aI bI:Int)(bZ aJ:AC)(field:Int):Option UInt64 :=
  if field=1 then(some (UInt64.ofInt bg)) else(if field=2 then(some (UInt64.ofInt dV)) else(if field=3 then(some (UInt64.ofInt bu)) else(if field=4 then(some (UInt64.ofInt bF)) else(if field=5 then(some (UInt64.ofNat dU.toNat)) else(if field=6 then(some aV) else(if field=7 then(some (UInt64.ofNat dh.toNat)) else(if field=8 then(some (UInt64.ofInt aI)) else(some (UInt64.ofInt bI)))))))))
def Dj (at_ size:Int)(v:UInt64):A00->A09
  | (b1,aO)=>if aO < size then((need (0<=bC (8*aO))).bind fun u=>(aW b1 (bC (at_+aO))).bind fun x_1=>some (.inl (b1.set (Int.toNat (bC (at_+aO))) (UInt8.ofNat (oU v (Int.toNat (bC (8*aO)))).toNat),bC (aO+1)))) else(Option.map Sum.inr (some b1))
def ET (b:AC)(at_ size:Int)(v:UInt64):Option AC :=
  aQ (Dj at_ size v) (b,0)
def y9 (aO:Int)(b1:AC):Option (A00⊕A00) :=
  some (.inl (b1,bC (aO+1)))
def wI (aO:Int)(b2:AC):Option (A00⊕A00) :=
  y9 aO b2
def wJ (bg dV bu bF:Int)(dU:UInt32)(aV:UInt64)(dh:UInt32)(aI bI:Int)(bZ aJ:AC)(bM:(Int×Int×Int))(fO:A07):A00->Option (A00⊕A00)
  | (b,aO)=>if aO < ((fO.length:Nat):Int) then((aW fO aO).bind fun dM=>if((decide (dM.1=7))&&(decide (dh=0)))=true then(wI aO b) else((EF bg dV bu bF dU aV dh aI bI bZ aJ dM.1).bind fun iC=>(ET b dM.2.1 dM.2.2.1 iC).bind fun jT=>wI aO jT)) else(Option.map Sum.inr ((OL b (bC (bM.1 - (bC (2*bM.2.2)))) ((Int.toNat bM.1:Nat):Int)).bind fun b3=>(OL (lcp b (Int.toNat (bC (bM.1 - (bC (2*bM.2.2))))) b3.length bZ) (bC (bM.1 - bM.2.2)) ((Int.toNat bM.1:Nat):Int)).bind fun b4=>some (lcp (lcp b (Int.toNat (bC (bM.1 - (bC (2*bM.2.2))))) b3.length bZ) (Int.toNat (bC (bM.1 - bM.2.2))) b4.length aJ,0)))
def uK (k_ bg dV bu bF:Int)(dU:UInt32)(aV:UInt64)(dh:UInt32)(aI bI:Int)(bZ aJ:AC):Option A00 :=
  (xn k_ bg dV bu bF dU aV dh aI bI bZ aJ).bind fun r_=>if r_≠0 then(some (([]:AC),r_)) else((yP k_).bind fun bM=>(need ((0:Int)<=bM.1/\(bM.1:Int)<=bM.1/\Int.toNat bM.1*1<=140737488355328)).bind fun u=>(yx k_).bind fun fO=>aQ (wJ bg dV bu bF dU aV dh aI bI bZ aJ bM fO) (List.replicate (Int.toNat bM.1) 0,0))
def Jo  : Option (Vec UInt64 8) :=
  some (⟨[7640891576956012808,13503953896175478587,4354685564936845355,11912009170470909681,5840696475078001361,11170449401992604703,2270897969802886507,6620516959819538809],rfl⟩:Vec UInt64 8)
def GX (b:AC)(at_ n:Int):(UInt64×Int)->Option ((UInt64×Int)⊕(UInt64×Int))
  | (w_,aO)=>if aO < n then((aW b (bC (at_+aO))).bind fun dM=>(need (0<=bC (8*aO))).bind fun u=>some (.inl (w_|||(zq (UInt64.ofNat dM.toNat) (Int.toNat (bC (8*aO)))),bC (aO+1)))) else(Option.map Sum.inr (some (w_,0)))
def CG (b:AC)(at_ n:Int):Option (UInt64×Int) :=
  if at_ < 0 then(some (0,1)) else(if((decide (((b.length:Nat):Int) < at_))||(decide ((bC (((b.length:Nat):Int) - at_)) < n)))=true then(some (0,3)) else(aQ (GX b at_ n) (0,0)))
def uo (b:AC)(at_:Int):Option (UInt64×Int) :=
  (CG b at_ 8).bind fun r_=>some (r_.1,r_.2)
def FX (block:AC):(Vec UInt64 8×Int)->Option ((Vec UInt64 8×Int)⊕(Vec UInt64 8×Int))
  | (h,aO)=>if aO < 8 then((uo block (bC (8*aO))).bind fun bM=>(aW h.l aO).bind fun dM=>(aW h.l aO).bind fun dP=>(some (zA h aO (dM^^^bM.1))).bind fun v=>some (.inl (v,bC (aO+1)))) else(Option.map Sum.inr (some (h,0)))
def Dk (block:AC):Option (Vec UInt64 8×Int) :=
  if((block.length:Nat):Int)≠64 then(some ((Vec.rep 8 ((0:UInt64):UInt64)),1)) else((Jo).bind fun r_=>aQ (FX block) (r_,0))
def X7 (b:AC)(n:Int):A06 :=
  if((b.length:Nat):Int) < n then(some 3) else(if n < ((b.length:Nat):Int) then(some 2) else(some 0))
def VZ (b:AC)(at_:Int):Option (UInt32×Int) :=
  (CG b at_ 4).bind fun r_=>some (UInt32.ofNat r_.1.toNat,r_.2)
def Tz (m_:List UInt32)(b:AC):(List UInt32×Int)->Option ((List UInt32×Int)⊕(List UInt32))
  | (GI,aO)=>if aO < ((m_.length:Nat):Int) then((VZ b (bC (4*aO))).bind fun r_=>(aW GI aO).bind fun x_1=>some (.inl (GI.set (Int.toNat aO) r_.1,bC (aO+1)))) else(Option.map Sum.inr (some GI))
def X8 (m_:List UInt32)(b:AC):Option (List UInt32) :=
  aQ (Tz m_ b) (m_,0)
def m_mixs_IV  : Option (Vec UInt32 8) :=
  some (⟨[1779033703,3144134277,1013904242,2773480762,1359893119,2600822924,528734635,1541459225],rfl⟩:Vec UInt32 8)
def TA (bM:(List UInt32)):(Vec UInt32 8×Int)->Option ((Vec UInt32 8×Int)⊕(Vec UInt32 8×Int))
  | (h,aO)=>if aO < 8 then((aW h.l aO).bind fun dM=>(aW (Vec.of 8 bM).l aO).bind fun dP=>(aW h.l aO).bind fun jc=>(some (zA h aO (dM^^^dP))).bind fun v=>some (.inl (v,bC (aO+1)))) else(Option.map Sum.inr (some (h,0)))
def m_mixs_Start (block:AC):Option (Vec UInt32 8×Int) :=
  (X7 block 32).bind fun r_=>if r_≠0 then(some ((Vec.rep 8 ((0:UInt32):UInt32)),r_)) else((X8 ((Vec.rep 8 0).l) block).bind fun bM=>(m_mixs_IV).bind fun fO=>aQ (TA bM) (fO,0))
def Gn (k_:Int)(block:AC):Option (Vec UInt64 8×AC) :=
  if k_=1 then((Dk block).bind fun r_=>some (r_.1,([]:AC))) else none
def xO (k_:Int):A06 :=
  if k_=1 then(some 128) else(some 64)
def yQ (b:AC)(n:Int):Option AC :=
  (need ((0:Int)<=(0:Int)/\((0:Int):Int)<=n/\Int.toNat n*1<=140737488355328)).bind fun u=>(app (List.replicate (Int.toNat 0) 0) b 1).bind fun b1=>(appz b1 (bC (n - ((b.length:Nat):Int))) 0 1).bind fun b2=>some b2
def BH (N9 Oa n:UInt64):Option (UInt64×UInt64×Bool) :=
  (Zl N9 n 0).bind fun r_=>(Zl Oa 0 r_.2).bind fun bM=>some (r_.1,bM.1,decide (bM.2=1))
def BA (b:AC):(Vec UInt64 16×Int)->Option ((Vec UInt64 16×Int)⊕(Vec UInt64 16×Int))
  | (m_,aO)=>if aO < 16 then((uo b (bC (8*aO))).bind fun r_=>(aW m_.l aO).bind fun dM=>(some (zA m_ aO r_.1)).bind fun v=>some (.inl (v,bC (aO+1)))) else(Option.map Sum.inr (some (m_,0)))
def Dl (b:AC):Option (Vec UInt64 16×Int) :=
  if((b.length:Nat):Int)≠128 then(some ((Vec.rep 16 0),1)) else(aQ (BA b) ((Vec.rep 16 0),0))
def Dn (v4:Vec UInt64 16):Option (Vec UInt64 16) :=
  some v4
def Dp (node:Bool)(v2:Vec UInt64 16):Option (Vec UInt64 16) :=
  if node=true then((aW v2.l 15).bind fun pz=>(aW v2.l 15).bind fun ni=>(some (zA v2 15 (18446744073709551615^^^pz))).bind fun v5=>Dn v5) else(Dn v2)
def Iz (h:Vec UInt64 8)(qY qZ:UInt64)(last node:Bool):Option (Vec UInt64 16) :=
  (OL ((Vec.rep 16 0).l) 0 8).bind fun b=>(Jo).bind fun r_=>(OL ((YY (Vec.rep 16 0) 0 b.length h.l).l) 8 ((16:Nat):Int)).bind fun b1=>(aW (YY (YY (Vec.rep 16 0) 0 b.length h.l) (Int.toNat 8) b1.length r_.l).l 12).bind fun aO=>(aW (YY (YY (Vec.rep 16 0) 0 b.length h.l) (Int.toNat 8) b1.length r_.l).l 12).bind fun x_1=>(some (zA (YY (YY (Vec.rep 16 0) 0 b.length h.l) (Int.toNat 8) b1.length r_.l) 12 (aO^^^qY))).bind fun v=>(aW v.l 13).bind fun dM=>(aW v.l 13).bind fun dP=>(some (zA v 13 (dM^^^qZ))).bind fun v1=>if last=true then((aW v1.l 14).bind fun jc=>(aW v1.l 14).bind fun jm=>(some (zA v1 14 (18446744073709551615^^^jc))).bind fun v3=>Dp node v3) else(Dp node v1)
def Gp (round:Int):Option (Vec Int 16) :=
  (aW (⟨[(⟨[0,1,2,3,4,5,6,7,8,9,10,11,12,13,14,15],rfl⟩:Vec Int 16),(⟨[14,10,4,8,9,15,13,6,1,12,0,2,11,7,5,3],rfl⟩:Vec Int 16),(⟨[11,8,12,0,5,2,15,13,10,14,3,6,7,1,9,4],rfl⟩:Vec Int 16),(⟨[7,9,3,1,13,12,11,14,2,6,5,10,4,0,15,8],rfl⟩:Vec Int 16),(⟨[9,0,5,7,2,4,10,15,14,1,11,12,6,8,3,13],rfl⟩:Vec Int 16),(⟨[2,12,6,10,0,11,8,3,4,13,7,5,15,14,1,9],rfl⟩:Vec Int 16),(⟨[12,5,1,15,14,13,4,10,0,7,6,3,9,2,8,11],rfl⟩:Vec Int 16),(⟨[13,11,7,14,12,1,3,9,5,0,15,4,8,6,2,10],rfl⟩:Vec Int 16),(⟨[6,15,14,9,11,3,0,8,12,2,13,7,1,4,10,5],rfl⟩:Vec Int 16),(⟨[10,2,8,4,7,6,1,5,15,11,9,14,3,12,13,0],rfl⟩:Vec Int 16)],rfl⟩:Vec (Vec Int 16) 10).l (Int.tmod (bC ((Int.tmod round 10)+10)) 10)).bind fun aO=>some aO
def EG  : Option (Vec (Vec Int 4) 8) :=
  some (⟨[(⟨[0,4,8,12],rfl⟩:Vec Int 4),(⟨[1,5,9,13],rfl⟩:Vec Int 4),(⟨[2,6,10,14],rfl⟩:Vec Int 4),(⟨[3,7,11,15],rfl⟩:Vec Int 4),(⟨[0,5,10,15],rfl⟩:Vec Int 4),(⟨[1,6,11,12],rfl⟩:Vec Int 4),(⟨[2,7,8,13],rfl⟩:Vec Int 4),(⟨[3,4,9,14],rfl⟩:Vec Int 4)],rfl⟩:Vec (Vec Int 4) 8)
def jU (x_:UInt64)(k_:Int):Option UInt64 :=
  some ((zq x_ (((UInt64.ofInt k_)&&&63).toNat))|||(oU x_ (((64:UInt64) - ((UInt64.ofInt k_)&&&63)).toNat)))
def EU (v:Vec UInt64 16)(p:Vec Int 4)(x_ y_:UInt64):Option (Vec UInt64 16) :=
  (aW p.l 0).bind fun dM=>(aW p.l 1).bind fun dP=>(aW p.l 2).bind fun jc=>(aW p.l 3).bind fun jm=>(aW v.l dM).bind fun pz=>(aW v.l dP).bind fun ni=>(aW v.l dM).bind fun Dq=>(some (zA v dM (pz+(ni+x_)))).bind fun v1=>(aW v1.l jm).bind fun C_=>(aW v1.l dM).bind fun uz=>(jU (C_^^^uz) (-32:Int)).bind fun r_=>(aW v1.l jm).bind fun sF=>(some (zA v1 jm r_)).bind fun v2=>(aW v2.l jc).bind fun GY=>(aW v2.l jm).bind fun UB=>(aW v2.l jc).bind fun x_14=>(some (zA v2 jc (GY+UB))).bind fun v3=>(aW v3.l dP).bind fun KU=>(aW v3.l jc).bind fun UC=>(jU (KU^^^UC) (-24:Int)).bind fun bM=>(aW v3.l dP).bind fun x_17=>(some (zA v3 dP bM)).bind fun v4=>(aW v4.l dM).bind fun PX=>(aW v4.l dP).bind fun UD=>(aW v4.l dM).bind fun x_20=>(some (zA v4 dM (PX+(UD+y_)))).bind fun v5=>(aW v5.l jm).bind fun TB=>(aW v5.l dM).bind fun UE=>(jU (TB^^^UE) (-16:Int)).bind fun fO=>(aW v5.l jm).bind fun x_23=>(some (zA v5 jm fO)).bind fun v6=>(aW v6.l jc).bind fun TC=>(aW v6.l jm).bind fun UF=>(aW v6.l jc).bind fun x_26=>(some (zA v6 jc (TC+UF))).bind fun v7=>(aW v7.l dP).bind fun x_27=>(aW v7.l jc).bind fun x_28=>(jU (x_27^^^x_28) (-63:Int)).bind fun iC=>(aW v7.l dP).bind fun x_29=>(some (zA v7 dP iC)).bind fun v8=>some v8
def GZ (m_:Vec UInt64 16)(r_:(Vec Int 16))(bM:(Vec (Vec Int 4) 8)):(Vec UInt64 16×Int)->Option ((Vec UInt64 16×Int)⊕(Vec UInt64 16×Vec UInt64 16))
  | (v1,aO)=>if aO < 8 then((aW bM.l aO).bind fun dM=>(aW r_.l (bC (2*aO))).bind fun dP=>(aW m_.l dP).bind fun jc=>(aW r_.l (bC ((bC (2*aO))+1))).bind fun jm=>(aW m_.l jm).bind fun pz=>(EU v1 dM jc pz).bind fun fO=>some (.inl (fO,bC (aO+1)))) else(Option.map Sum.inr (some (v1,m_)))
def EW (v m_:Vec UInt64 16)(round:Int):Option (Vec UInt64 16×Vec UInt64 16) :=
  (Gp round).bind fun r_=>(EG).bind fun bM=>aQ (GZ m_ r_ bM) (v,0)
def IA (v:Vec UInt64 16):(Vec UInt64 8×Int)->Option ((Vec UInt64 8×Int)⊕(Vec UInt64 8))
  | (h1,x_1)=>if x_1 < 8 then((aW h1.l x_1).bind fun dM=>(aW v.l x_1).bind fun dP=>(aW v.l (bC (x_1+8))).bind fun jc=>(aW h1.l x_1).bind fun jm=>(some (zA h1 x_1 (dM^^^(dP^^^jc)))).bind fun v1=>some (.inl (v1,bC (x_1+1)))) else(Option.map Sum.inr (some h1))
def IB (h:Vec UInt64 8):(Vec UInt64 16×Vec UInt64 16×Int)->Option ((Vec UInt64 16×Vec UInt64 16×Int)⊕(Vec UInt64 8))
  | (GI,v,aO)=>if aO < 12 then((EW v GI aO).bind fun bM=>some (.inl (bM.2,bM.1,bC (aO+1)))) else(Option.map Sum.inr (aQ (IA v) (h,0)))
def LW (h:Vec UInt64 8)(m_:Vec UInt64 16)(qY qZ:UInt64)(last node:Bool):Option (Vec UInt64 8) :=
  (Iz h qY qZ last node).bind fun r_=>aQ (IB h) (m_,r_,0)
def yR (h:Vec UInt64 8)(b:AC)(N9 Oa:UInt64)(last node:Bool):Option (Vec UInt64 8) :=
  (Dl b).bind fun r_=>(LW h r_.1 N9 Oa last node).bind fun bM=>some bM
def kJ (gz:Int)(b1:AC)(Dq:Vec UInt64 8)(C_ uz:UInt64)(sF:AC):Option ((Vec UInt64 8×UInt64×UInt64×AC×AC)⊕(Vec UInt64 8×UInt64×UInt64×AC×Int)) :=
  (OL b1 0 (if bC (gz - ((sF.length:Nat):Int)) < ((b1.length:Nat):Int) then bC (gz - ((sF.length:Nat):Int)) else((b1.length:Nat):Int))).bind fun b3=>(app sF b3 1).bind fun b4=>(OL b1 (if bC (gz - ((sF.length:Nat):Int)) < ((b1.length:Nat):Int) then bC (gz - ((sF.length:Nat):Int)) else((b1.length:Nat):Int)) ((b1.length:Nat):Int)).bind fun b5=>some (.inl (Dq,C_,uz,b4,b5))
def t_ (gz:Int):(Vec UInt64 8×UInt64×UInt64×AC×AC)->Option ((Vec UInt64 8×UInt64×UInt64×AC×AC)⊕(Vec UInt64 8×UInt64×UInt64×AC×Int))
  | (aO,jm,pz,ni,b1)=>if 0 < ((b1.length:Nat):Int) then(if((ni.length:Nat):Int)=gz then((BH jm pz (UInt64.ofInt gz)).bind fun r_=>(yR aO ni r_.1 r_.2.1 false false).bind fun bM=>(OL ni 0 0).bind fun b2=>kJ gz b1 bM r_.1 r_.2.1 b2) else(kJ gz b1 aO jm pz ni)) else(Option.map Sum.inr (some (aO,jm,pz,ni,gz)))
def lJ (Zz:Vec UInt64 8)(mW mX:UInt64)(vP:AC)(gz:Int)(b:AC):Option (Vec UInt64 8×UInt64×UInt64×AC×Int) :=
  aQ (t_ gz) (Zz,mW,mX,vP,b)
def wK (xq l9:Int)(kK mF:AC)(Ei:Bool)(uA:UInt64):Option (Int×Int×AC×AC×Vec UInt64 8×UInt64×UInt64×AC×Int) :=
  (Gn xq kK).bind fun r_=>if 0 < ((mF.length:Nat):Int) then((xO xq).bind fun bM=>(yQ mF bM).bind fun fO=>(lJ r_.1 0 0 r_.2 128 fO).bind fun iC=>some (xq,l9,kK,mF,iC.1,iC.2.1,iC.2.2.1,iC.2.2.2.1,iC.2.2.2.2)) else(some (xq,l9,kK,mF,r_.1,0,0,r_.2,128))
def IC (k_:Int)(block:AC)(digest:Int)(key:AC):Option (Int×Int×AC×AC×Vec UInt64 8×UInt64×UInt64×AC×Int) :=
  (app ([]:AC) block 1).bind fun b=>(app ([]:AC) key 1).bind fun b1=>(wK k_ digest b b1 false 0).bind fun r_=>some (r_.1,r_.2.1,r_.2.2.1,r_.2.2.2.1,r_.2.2.2.2.1,r_.2.2.2.2.2.1,r_.2.2.2.2.2.2.1,r_.2.2.2.2.2.2.2.1,r_.2.2.2.2.2.2.2.2)
def J6 (k_ bg dV bu bF:Int)(dU:UInt32)(aV:UInt64)(dh:UInt32)(aI bI:Int)(bZ aJ key:AC):Option (Int⊕(Int×Int×AC×AC×Vec UInt64 8×UInt64×UInt64×AC×Int)) :=
  (uK k_ bg dV bu bF dU aV dh aI bI bZ aJ).bind fun r_=>if r_.2≠0 then(some (Sum.inl r_.2)) else(if((decide (((key.length:Nat):Int)≠0))&&(decide (((key.length:Nat):Int)≠dV)))=true then(some (Sum.inl 8)) else((IC k_ r_.1 bg key).bind fun bM=>some (Sum.inr (bM.1,bM.2.1,bM.2.2.1,bM.2.2.2.1,bM.2.2.2.2.1,bM.2.2.2.2.2.1,bM.2.2.2.2.2.2.1,bM.2.2.2.2.2.2.2.1,bM.2.2.2.2.2.2.2.2))))
def Ar (xq l9:Int)(kK mF:AC)(Ei:Bool)(uA:UInt64)(PY:Vec UInt64 8)(uf ug:UInt64)(Dt:AC)(Au:Int):Option (Vec UInt64 8×UInt64×UInt64×AC×Int×Int×Int×AC×AC×Bool×UInt64) :=
  some (PY,uf,ug,Dt,Au,xq,l9,kK,mF,Ei,uA)
def Du (w_:UInt64):A00->A09
  | (b,aO)=>if aO < 8 then((need (0<=bC (8*aO))).bind fun u=>(aW b aO).bind fun x_1=>some (.inl (b.set (Int.toNat aO) (UInt8.ofNat (oU w_ (Int.toNat (bC (8*aO)))).toNat),bC (aO+1)))) else(Option.map Sum.inr (some b))
def zC (w_:UInt64):Option AC :=
  aQ (Du w_) (List.replicate (Int.toNat 8) 0,0)
def FY (h:Vec UInt64 8):A00->A09
  | (b,aO)=>if aO < 8 then((aW h.l aO).bind fun x_1=>(zC x_1).bind fun r_=>(app b r_ 1).bind fun b1=>some (.inl (b1,bC (aO+1)))) else(Option.map Sum.inr (some b))
def Dv (h:Vec UInt64 8):Option AC :=
  aQ (FY h) (List.replicate (Int.toNat 0) 0,0)
def pM (Zz:Vec UInt64 8)(mW mX:UInt64)(vP:AC)(gz:Int)(node:Bool)(c0 c2:UInt64):Option (AC×Vec UInt64 8×UInt64×UInt64×AC×Int) :=
  (yQ vP gz).bind fun bM=>(yR Zz bM c0 c2 true node).bind fun fO=>(Dv fO).bind fun iC=>some (iC,Zz,mW,mX,vP,gz)
def oZ (Zz:Vec UInt64 8)(mW mX:UInt64)(vP:AC)(gz:Int)(node:Bool):Option (AC×Vec UInt64 8×UInt64×UInt64×AC×Int) :=
  (BH mW mX (UInt64.ofInt ((vP.length:Nat):Int))).bind fun r_=>pM Zz mW mX vP gz node r_.1 r_.2.1
def yF (xq l9:Int)(kK mF:AC)(Ei:Bool)(uA:UInt64)(PY:Vec UInt64 8)(uf ug:UInt64)(Dt:AC)(Au most:Int):Option (AC×Int×Vec UInt64 8×UInt64×UInt64×AC×Int×Int×Int×AC×AC×Bool×UInt64) :=
  (Ar xq l9 kK mF Ei uA PY uf ug Dt Au).bind fun r_=>if most < 1 then(some (([]:AC),1,r_.1,r_.2.1,r_.2.2.1,r_.2.2.2.1,r_.2.2.2.2.1,r_.2.2.2.2.2.1,r_.2.2.2.2.2.2.1,r_.2.2.2.2.2.2.2.1,r_.2.2.2.2.2.2.2.2.1,r_.2.2.2.2.2.2.2.2.2.1,r_.2.2.2.2.2.2.2.2.2.2)) else((xO r_.2.2.2.2.2.1).bind fun bM=>if(bC (Int.tdiv bM 2)) < most then(some (([]:AC),1,r_.1,r_.2.1,r_.2.2.1,r_.2.2.2.1,r_.2.2.2.2.1,r_.2.2.2.2.2.1,r_.2.2.2.2.2.2.1,r_.2.2.2.2.2.2.2.1,r_.2.2.2.2.2.2.2.2.1,r_.2.2.2.2.2.2.2.2.2.1,r_.2.2.2.2.2.2.2.2.2.2)) else((oZ r_.1 r_.2.1 r_.2.2.1 r_.2.2.2.1 r_.2.2.2.2.1 r_.2.2.2.2.2.2.2.2.2.1).bind fun fO=>(OL fO.1 0 most).bind fun b=>(need (most<=most/\most<=((fO.1.length:Nat):Int))).bind fun u=>some (b,0,fO.2.1,fO.2.2.1,fO.2.2.2.1,fO.2.2.2.2.1,fO.2.2.2.2.2,r_.2.2.2.2.2.1,r_.2.2.2.2.2.2.1,r_.2.2.2.2.2.2.2.1,r_.2.2.2.2.2.2.2.2.1,r_.2.2.2.2.2.2.2.2.2.1,r_.2.2.2.2.2.2.2.2.2.2)))
def wL (k_ bg dV bu bF:Int)(dU:UInt32)(aV:UInt64)(dh:UInt32)(aI bI:Int)(bZ aJ key:AC)(last:Bool)(out:Int)(data:AC):Option A00 :=
  (J6 k_ bg dV bu bF dU aV dh aI bI bZ aJ key).bind fun r_=>(Sum.elim (fun bM=>if bM≠0 then(some (([]:AC),bM)) else none) (fun fO=>if 0≠0 then(some (([]:AC),0)) else((lJ fO.2.2.2.2.1 fO.2.2.2.2.2.1 fO.2.2.2.2.2.2.1 fO.2.2.2.2.2.2.2.1 fO.2.2.2.2.2.2.2.2 data).bind fun iC=>(yF fO.1 fO.2.1 fO.2.2.1 fO.2.2.2.1 last 0 iC.1 iC.2.1 iC.2.2.1 iC.2.2.2.1 iC.2.2.2.2 out).bind fun jT=>some (jT.1,jT.2.1)))) r_
def sG (kind:Int):A06 :=
  if kind=1 then(some 64) else(if kind=2 then(some 32) else(some 0))
def lq (kind bg dV bu bF:Int)(dU:UInt32)(aV:UInt64)(dh:UInt32)(aI bI:Int)(bZ aJ:AC):A06 :=
  (sG kind).bind fun r_=>if r_=0 then(some 1) else(if((decide (bg < 1))||(decide (r_ < bg)))=true then(some 20) else(if((decide (dV < 0))||(decide (r_ < dV)))=true then(some 8) else(if((decide (bu < 0))||(decide (255 < bu)))=true then(some 21) else(if(((decide (bF < 0))||(decide (255 < bF)))||((decide (bF=0))&&(decide (dh=0))))=true then(some 22) else(if(((decide (dh≠0))&&(decide ((4294967295:UInt64) < aV)))||(((decide (dh=0))&&(decide (kind=2)))&&(decide ((281474976710655:UInt64) < aV))))=true then(some 23) else(if((decide (kind=2))&&(decide ((65535:UInt32) < dh)))=true then(some 24) else(if((decide (aI < 0))||(decide (255 < aI)))=true then(some 25) else(if((decide (bI < 0))||(decide (r_ < bI)))=true then(some 26) else(if(bC (Int.tdiv r_ 4)) < ((bZ.length:Nat):Int) then(some 27) else(if(bC (Int.tdiv r_ 4)) < ((aJ.length:Nat):Int) then(some 28) else(some 0)))))))))))
def zD (kind:Int):A06 :=
  if kind=1 then(some 128) else(some 64)
def Dw (i:Int)(b1:AC):A09 :=
  some (.inl (b1,bC (i+1)))
def zF (b:AC)(i:Int)(c2:UInt8):A09 :=
  (app b ([c2]:AC) 1).bind fun b2=>Dw i b2
def zG (kind:Int)(key:AC):A00->A09
  | (b,i)=>(zD kind).bind fun r_=>if i < r_ then(if i < ((key.length:Nat):Int) then((aW key i).bind fun aO=>zF b i aO) else(zF b i 0)) else(Option.map Sum.inr (some b))
def CJ (kind:Int)(key:AC):Option AC :=
  if((key.length:Nat):Int)=0 then(some ([]:AC)) else(aQ (zG kind key) (([]:AC),0))
def Nv (kind bg dV bu bF:Int)(dU:UInt32)(aV:UInt64)(dh:UInt32)(aI bI:Int)(bZ aJ key:AC):Option (Int⊕(Int×Int×Int×Int×Int×UInt32×UInt64×UInt32×Int×Int×Vec UInt64 16×AC)) :=
  (lq kind bg dV bu bF dU aV dh aI bI bZ aJ).bind fun r_=>if r_≠0 then(some (Sum.inl r_)) else(if((decide (((key.length:Nat):Int)≠0))&&(decide (((key.length:Nat):Int)≠dV)))=true then(some (Sum.inl 8)) else((CJ kind key).bind fun bM=>some (Sum.inr (kind,bg,dV,bu,bF,dU,aV,dh,aI,bI,(Vec.rep 16 0),bM))))
def BI (kind:Int):A06 :=
  if kind=1 then(some 64) else(some 32)
def xB (nD iL lU iM jh:Int)(kz:UInt32)(iO:UInt64)(lV:UInt32)(fG ji:Int)(rf:Bool)(mJ:Vec UInt64 16)(wM:Bool)(EX EY lW:UInt64)(b:AC):A00->Option (A00⊕(Int×Int×Int×Int×Int×UInt32×UInt64×UInt32×Int×Int×Bool×Vec UInt64 16×Bool×UInt64×UInt64×AC×UInt64))
  | (n0,i)=>if i < ((b.length:Nat):Int) then((aW b i).bind fun aO=>(app n0 ([aO]:AC) 1).bind fun b1=>some (.inl (b1,bC (i+1)))) else(Option.map Sum.inr (some (nD,iL,lU,iM,jh,kz,iO,lV,fG,ji,rf,mJ,wM,EX,EY,n0,lW+(UInt64.ofInt ((b.length:Nat):Int)))))
def xP (nD iL lU iM jh:Int)(kz:UInt32)(iO:UInt64)(lV:UInt32)(fG ji:Int)(kP gW zf:AC)(rf:Bool)(mJ:Vec UInt64 16)(wM:Bool)(EX EY:UInt64)(yG:AC)(lW:UInt64)(b:AC):Option (Int×Int×Int×Int×Int×UInt32×UInt64×UInt32×Int×Int×Bool×Vec UInt64 16×Bool×UInt64×UInt64×AC×UInt64) :=
  aQ (xB nD iL lU iM jh kz iO lV fG ji rf mJ wM EX EY lW b) (yG,0)
def OV (kind:Int):A06 :=
  (sG kind).bind fun r_=>some r_
def IE (kind field:Int):Option (Int×Int) :=
  if((decide (1<=field))&&(decide (field<=4)))=true then(some (bC (field - 1),1)) else(if field=5 then(some (4,4)) else(if((decide (field=6))&&(decide (kind=1)))=true then(some (8,8)) else(if field=6 then(some (8,6)) else(if((decide (field=7))&&(decide (kind=1)))=true then(some (12,4)) else(if field=7 then(some (12,2)) else(if((decide (field=8))&&(decide (kind=1)))=true then(some (16,1)) else(if field=8 then(some (14,1)) else(if((decide (field=9))&&(decide (kind=1)))=true then(some (17,1)) else(if field=9 then(some (15,1)) else(some (0,0)))))))))))
def Gq (at_ n:Int)(v:UInt64):A00->A09
  | (b1,i)=>if i < n then((aW b1 (bC (at_+i))).bind fun aO=>some (.inl (b1.set (Int.toNat (bC (at_+i))) (UInt8.ofNat (oU v (((8:UInt64)*(UInt64.ofInt i)).toNat)).toNat),bC (i+1)))) else(Option.map Sum.inr (some b1))
def Jp (b:AC)(at_ n:Int)(v:UInt64):Option AC :=
  aQ (Gq at_ n v) (b,0)
def BB (f:Int)(b1:AC):Option (A00⊕A00) :=
  some (.inl (b1,bC (f+1)))
def yH (f:Int)(b2:AC):Option (A00⊕A00) :=
  BB f b2
def yI (aJ:AC)(jT:Int):A00->Option (A00⊕A00)
  | (b4,i1)=>if i1 < ((aJ.length:Nat):Int) then((aW aJ i1).bind fun jc=>(aW b4 (bC ((bC (3*(bC (Int.tdiv jT 4))))+i1))).bind fun jm=>some (.inl (b4.set (Int.toNat (bC ((bC (3*(bC (Int.tdiv jT 4))))+i1))) jc,bC (i1+1)))) else(Option.map Sum.inr (some (b4,0)))
def yJ (bZ aJ:AC)(jT:Int):A00->Option (A00⊕A00)
  | (b3,i)=>if i < ((bZ.length:Nat):Int) then((aW bZ i).bind fun dM=>(aW b3 (bC ((bC (2*(bC (Int.tdiv jT 4))))+i))).bind fun dP=>some (.inl (b3.set (Int.toNat (bC ((bC (2*(bC (Int.tdiv jT 4))))+i))) dM,bC (i+1)))) else(Option.map Sum.inr (aQ (yI aJ jT) (b3,0)))
def yK (kind bg dV bu bF:Int)(dU:UInt32)(aV:UInt64)(dh:UInt32)(aI bI:Int)(bZ aJ:AC):A00->Option (A00⊕A00)
  | (b,f)=>if f<=9 then(if((decide (f=7))&&(decide (dh=0)))=true then(yH f b) else((IE kind f).bind fun fO=>(aW ([UInt64.ofInt bg,UInt64.ofInt dV,UInt64.ofInt bu,UInt64.ofInt bF,UInt64.ofNat dU.toNat,aV,UInt64.ofNat dh.toNat,UInt64.ofInt aI,UInt64.ofInt bI]:List UInt64) (bC (f - 1))).bind fun aO=>(Jp b fO.1 fO.2 aO).bind fun iC=>yH f iC)) else(Option.map Sum.inr ((sG kind).bind fun jT=>aQ (yJ bZ aJ jT) (b,0)))
def o5 (kind bg dV bu bF:Int)(dU:UInt32)(aV:UInt64)(dh:UInt32)(aI bI:Int)(bZ aJ:AC):Option A00 :=
  (lq kind bg dV bu bF dU aV dh aI bI bZ aJ).bind fun r_=>if r_≠0 then(some (([]:AC),r_)) else((OV kind).bind fun bM=>(need ((0:Int)<=bM/\(bM:Int)<=bM/\Int.toNat bM*1<=140737488355328)).bind fun u=>aQ (yK kind bg dV bu bF dU aV dh aI bI bZ aJ) (List.replicate (Int.toNat bM) 0,1))
def IY (b:AC)(at_:Int):(UInt64×Int)->Option ((UInt64×Int)⊕(UInt64×Int))
  | (w_,i)=>if 0<=i then((aW b (bC (at_+i))).bind fun aO=>some (.inl ((w_*256)+(UInt64.ofNat aO.toNat),bC (i - 1)))) else(Option.map Sum.inr (some (w_,0)))
def BJ (b:AC)(at_ n:Int):Option (UInt64×Int) :=
  if at_ < 0 then(some (0,1)) else(if((decide (((b.length:Nat):Int) < at_))||(decide ((bC (((b.length:Nat):Int) - at_)) < n)))=true then(some (0,3)) else(aQ (IY b at_) (0,bC (n - 1))))
def LX (i:Int):Option UInt64 :=
  (aW (⟨[7640891576956012808,13503953896175478587,4354685564936845355,11912009170470909681,5840696475078001361,11170449401992604703,2270897969802886507,6620516959819538809],rfl⟩:Vec UInt64 8).l (Int.tmod i 8)).bind fun aO=>some aO
def Dx (block:AC):(Vec UInt64 8×Int)->Option ((Vec UInt64 8×Int)⊕(Vec UInt64 8×Int))
  | (h,i)=>if i < 8 then((BJ block (bC (8*i)) 8).bind fun r_=>(LX i).bind fun bM=>(aW h.l i).bind fun aO=>(some (zA h i (bM^^^r_.1))).bind fun v=>some (.inl (v,bC (i+1)))) else(Option.map Sum.inr (some (h,0)))
def EZ (block:AC):Option (Vec UInt64 8×Int) :=
  if((block.length:Nat):Int)≠64 then(some ((Vec.rep 8 0),1)) else(aQ (Dx block) ((Vec.rep 8 0),0))
def xC (nD iL lU iM jh:Int)(kz:UInt32)(iO:UInt64)(lV:UInt32)(fG ji:Int)(rf:Bool)(mJ:Vec UInt64 16)(wM:Bool)(EX EY:UInt64)(yG:AC)(lW:UInt64)(bM:(Vec UInt64 8×Int)):(Vec UInt64 16×Int)->Option ((Vec UInt64 16×Int)⊕(Vec UInt64 16×Int×Int×Int×Int×Int×UInt32×UInt64×UInt32×Int×Int×Bool×Vec UInt64 16×Bool×UInt64×UInt64×AC×UInt64))
  | (h,i)=>if i < 8 then((aW bM.1.l i).bind fun aO=>(aW h.l i).bind fun PX=>(some (zA h i aO)).bind fun v=>some (.inl (v,bC (i+1)))) else(Option.map Sum.inr (some (h,nD,iL,lU,iM,jh,kz,iO,lV,fG,ji,rf,mJ,wM,EX,EY,yG,lW)))
def uB (nD iL lU iM jh:Int)(kz:UInt32)(iO:UInt64)(lV:UInt32)(fG ji:Int)(kP gW zf:AC)(rf:Bool)(mJ:Vec UInt64 16)(wM:Bool)(EX EY:UInt64)(yG:AC)(lW:UInt64):Option (Vec UInt64 16×Int×Int×Int×Int×Int×UInt32×UInt64×UInt32×Int×Int×Bool×Vec UInt64 16×Bool×UInt64×UInt64×AC×UInt64) :=
  if wM=true then(some (mJ,nD,iL,lU,iM,jh,kz,iO,lV,fG,ji,rf,mJ,wM,EX,EY,yG,lW)) else((o5 nD iL lU iM jh kz iO lV fG ji kP gW).bind fun r_=>if nD=1 then((EZ r_.1).bind fun bM=>aQ (xC nD iL lU iM jh kz iO lV fG ji rf mJ wM EX EY yG lW bM) ((Vec.rep 16 0),0)) else none)
def Ej (lo hi n:UInt64):Option (UInt64×UInt64×Bool) :=
  if lo<=(lo+n) then(some (lo+n,hi,false)) else(some (lo+n,hi+1,decide ((hi+1)=0)))
def Gs (i:Int)(out1:AC):A09 :=
  some (.inl (out1,bC (i+1)))
def Dy (out:AC)(i:Int)(c2:UInt8):A09 :=
  (app out ([c2]:AC) 1).bind fun vF=>Gs i vF
def Dz (b:AC)(at_ size:Int):A00->A09
  | (out,i)=>if i < size then(if(bC (at_+i)) < ((b.length:Nat):Int) then((aW b (bC (at_+i))).bind fun aO=>Dy out i aO) else(Dy out i 0)) else(Option.map Sum.inr (some out))
def GK (b:AC)(at_ size:Int):Option AC :=
  aQ (Dz b at_ size) (([]:AC),0)
def DC (b:AC):(Vec UInt64 16×Int)->Option ((Vec UInt64 16×Int)⊕(Vec UInt64 16×Int))
  | (m_,i)=>if i < 16 then((BJ b (bC (8*i)) 8).bind fun r_=>(aW m_.l i).bind fun aO=>(some (zA m_ i r_.1)).bind fun v=>some (.inl (v,bC (i+1)))) else(Option.map Sum.inr (some (m_,0)))
def E5 (b:AC):Option (Vec UInt64 16×Int) :=
  if((b.length:Nat):Int)≠128 then(some ((Vec.rep 16 0),1)) else(aQ (DC b) ((Vec.rep 16 0),0))
def EH (v7:Vec UInt64 16):Option (Vec UInt64 16) :=
  some v7
def EI (node:Bool)(v5:Vec UInt64 16):Option (Vec UInt64 16) :=
  if node=true then((aW v5.l 15).bind fun C_=>(aW v5.l 15).bind fun uz=>(some (zA v5 15 (18446744073709551615^^^C_))).bind fun v8=>EH v8) else(EH v5)
def IZ (h:Vec UInt64 8)(lo hi:UInt64)(last node:Bool):(Vec UInt64 16×Int)->Option ((Vec UInt64 16×Int)⊕(Vec UInt64 16))
  | (v,i)=>if i < 8 then((aW h.l i).bind fun aO=>(aW v.l i).bind fun x_1=>(some (zA v i aO)).bind fun v1=>(LX i).bind fun r_=>(aW v1.l (bC (i+8))).bind fun dM=>(some (zA v1 (bC (i+8)) r_)).bind fun v2=>some (.inl (v2,bC (i+1)))) else(Option.map Sum.inr ((aW v.l 12).bind fun dP=>(aW v.l 12).bind fun jc=>(some (zA v 12 (dP^^^lo))).bind fun v3=>(aW v3.l 13).bind fun jm=>(aW v3.l 13).bind fun pz=>(some (zA v3 13 (jm^^^hi))).bind fun v4=>if last=true then((aW v4.l 14).bind fun ni=>(aW v4.l 14).bind fun Dq=>(some (zA v4 14 (18446744073709551615^^^ni))).bind fun v6=>EI node v6) else(EI node v4)))
def G5 (h:Vec UInt64 8)(lo hi:UInt64)(last node:Bool):Option (Vec UInt64 16) :=
  aQ (IZ h lo hi last node) ((Vec.rep 16 0),0)
def Gt (i:Int):Option (Vec Int 4) :=
  (aW (⟨[(⟨[0,4,8,12],rfl⟩:Vec Int 4),(⟨[1,5,9,13],rfl⟩:Vec Int 4),(⟨[2,6,10,14],rfl⟩:Vec Int 4),(⟨[3,7,11,15],rfl⟩:Vec Int 4),(⟨[0,5,10,15],rfl⟩:Vec Int 4),(⟨[1,6,11,12],rfl⟩:Vec Int 4),(⟨[2,7,8,13],rfl⟩:Vec Int 4),(⟨[3,4,9,14],rfl⟩:Vec Int 4)],rfl⟩:Vec (Vec Int 4) 8).l (Int.tmod i 8)).bind fun aO=>some aO
def Bd (r_:Int):A06 :=
  some r_
def BK (n m_:Int):A06 :=
  (need (m_≠0)).bind fun u=>if(Int.tmod n m_) < 0 then(Bd (bC ((Int.tmod n m_)+m_))) else(Bd (Int.tmod n m_))
def LY (c:UInt8):A06 :=
  if((decide ((48:UInt8)<=c))&&(decide (c<=57)))=true then(some ((c - 48).toNat:Int)) else(if((decide ((97:UInt8)<=c))&&(decide (c<=102)))=true then(some (bC (((c - 97).toNat:Int)+10))) else(if((decide ((65:UInt8)<=c))&&(decide (c<=70)))=true then(some (bC (((c - 65).toNat:Int)+10))) else(some (-1:Int))))
def E8 (round i:Int):A06 :=
  (BK round 10).bind fun r_=>(aW ([48,49,50,51,52,53,54,55,56,57,97,98,99,100,101,102,101,97,52,56,57,102,100,54,49,99,48,50,98,55,53,51,98,56,99,48,53,50,102,100,97,101,51,54,55,49,57,52,55,57,51,49,100,99,98,101,50,54,53,97,52,48,102,56,57,48,53,55,50,52,97,102,101,49,98,99,54,56,51,100,50,99,54,97,48,98,56,51,52,100,55,53,102,101,49,57,99,53,49,102,101,100,52,97,48,55,54,51,57,50,56,98,100,98,55,101,99,49,51,57,53,48,102,52,56,54,50,97,54,102,101,57,98,51,48,56,99,50,100,55,49,52,97,53,97,50,56,52,55,54,49,53,102,98,57,101,51,99,100,48]:AC) (bC ((bC (16*r_))+i))).bind fun c=>(LY c).bind fun bM=>some bM
def yh (a_:Int):Option Bool :=
  some ((decide (0<=a_))&&(decide (a_<=15)))
def qG (w_:UInt64)(n:Int):Option UInt64 :=
  (BK n 64).bind fun r_=>if r_=0 then(some w_) else((need (0<=r_)).bind fun u=>(need (0<=bC (64 - r_))).bind fun u1=>some ((oU w_ (Int.toNat r_))|||(zq w_ (Int.toNat (bC (64 - r_))))))
def PZ (v:Vec UInt64 16)(a_ b c d:Int)(x_ y_:UInt64):Option (Vec UInt64 16×Int) :=
  (yh a_).bind fun r_=>if(!r_)=true then(some ((Vec.rep 16 ((0:UInt64):UInt64)),1)) else((yh b).bind fun bM=>if(!bM)=true then(some ((Vec.rep 16 ((0:UInt64):UInt64)),1)) else((yh c).bind fun fO=>if(!fO)=true then(some ((Vec.rep 16 ((0:UInt64):UInt64)),1)) else((yh d).bind fun iC=>if(((((((!iC)||(decide (a_=b)))||(decide (a_=c)))||(decide (a_=d)))||(decide (b=c)))||(decide (b=d)))||(decide (c=d)))=true then(some ((Vec.rep 16 ((0:UInt64):UInt64)),1)) else((aW v.l a_).bind fun dP=>(aW v.l b).bind fun jc=>(aW v.l a_).bind fun jm=>(some (zA v a_ ((dP+jc)+x_))).bind fun v1=>(aW v1.l d).bind fun pz=>(aW v1.l a_).bind fun ni=>(qG (pz^^^ni) 32).bind fun jT=>(aW v1.l d).bind fun Dq=>(some (zA v1 d jT)).bind fun v2=>(aW v2.l c).bind fun C_=>(aW v2.l d).bind fun uz=>(aW v2.l c).bind fun sF=>(some (zA v2 c (C_+uz))).bind fun v3=>(aW v3.l b).bind fun GY=>(aW v3.l c).bind fun UB=>(qG (GY^^^UB) 24).bind fun kM=>(aW v3.l b).bind fun x_14=>(some (zA v3 b kM)).bind fun v4=>(aW v4.l a_).bind fun KU=>(aW v4.l b).bind fun UC=>(aW v4.l a_).bind fun x_17=>(some (zA v4 a_ ((KU+UC)+y_))).bind fun v5=>(aW v5.l d).bind fun PX=>(aW v5.l a_).bind fun UD=>(qG (PX^^^UD) 16).bind fun rO=>(aW v5.l d).bind fun x_20=>(some (zA v5 d rO)).bind fun v6=>(aW v6.l c).bind fun TB=>(aW v6.l d).bind fun UE=>(aW v6.l c).bind fun x_23=>(some (zA v6 c (TB+UE))).bind fun v7=>(aW v7.l b).bind fun TC=>(aW v7.l c).bind fun UF=>(qG (TC^^^UF) 63).bind fun yS=>(aW v7.l b).bind fun x_26=>(some (zA v7 b yS)).bind fun v8=>some (v8,0)))))
def G6 (m_:Vec UInt64 16)(round:Int):(Vec UInt64 16×Int)->Option ((Vec UInt64 16×Int)⊕(Vec UInt64 16×Int))
  | (v1,i)=>if i < 8 then((Gt i).bind fun r_=>(aW r_.l 0).bind fun aO=>(aW r_.l 1).bind fun dM=>(aW r_.l 2).bind fun dP=>(aW r_.l 3).bind fun jc=>(E8 round (bC (2*i))).bind fun bM=>(aW m_.l bM).bind fun jm=>(E8 round (bC ((bC (2*i))+1))).bind fun fO=>(aW m_.l fO).bind fun pz=>(PZ v1 aO dM dP jc jm pz).bind fun iC=>some (.inl (iC.1,bC (i+1)))) else(Option.map Sum.inr (some (v1,0)))
def E_ (v m_:Vec UInt64 16)(round:Int):Option (Vec UInt64 16×Int) :=
  if((decide (round < 0))||(decide (11 < round)))=true then(some ((Vec.rep 16 ((0:UInt64):UInt64)),1)) else(aQ (G6 m_ round) (v,0))
def J7 (v:Vec UInt64 16):(Vec UInt64 8×Int)->Option ((Vec UInt64 8×Int)⊕(Vec UInt64 8))
  | (h1,i)=>if i < 8 then((aW h1.l i).bind fun aO=>(aW v.l i).bind fun x_1=>(aW v.l (bC (i+8))).bind fun dM=>(aW h1.l i).bind fun dP=>(some (zA h1 i ((aO^^^x_1)^^^dM))).bind fun v1=>some (.inl (v1,bC (i+1)))) else(Option.map Sum.inr (some h1))
def J8 (h:Vec UInt64 8)(m_:Vec UInt64 16):(Vec UInt64 16×Int)->Option ((Vec UInt64 16×Int)⊕(Vec UInt64 8))
  | (v,bM)=>if bM < 12 then((E_ v m_ bM).bind fun fO=>some (.inl (fO.1,bC (bM+1)))) else(Option.map Sum.inr (aQ (J7 v) (h,0)))
def P_ (h:Vec UInt64 8)(m_:Vec UInt64 16)(lo hi:UInt64)(last node:Bool):Option (Vec UInt64 8) :=
  (G5 h lo hi last node).bind fun r_=>aQ (J8 h m_) (r_,0)
def Fa (bM:(Vec UInt64 8)):(Vec UInt64 16×Int)->Option ((Vec UInt64 16×Int)⊕(Vec UInt64 16))
  | (h1,i1)=>if i1 < 8 then((aW bM.l i1).bind fun dM=>(aW h1.l i1).bind fun dP=>(some (zA h1 i1 dM)).bind fun v1=>some (.inl (v1,bC (i1+1)))) else(Option.map Sum.inr (some h1))
def IG (h:Vec UInt64 16)(b:AC)(lo hi:UInt64)(last node:Bool):(Vec UInt64 8×Int)->Option ((Vec UInt64 8×Int)⊕(Vec UInt64 16))
  | (s_,i)=>if i < 8 then((aW h.l i).bind fun aO=>(aW s_.l i).bind fun x_1=>(some (zA s_ i aO)).bind fun v=>some (.inl (v,bC (i+1)))) else(Option.map Sum.inr ((E5 b).bind fun r_=>(P_ s_ r_.1 lo hi last node).bind fun bM=>aQ (Fa bM) (h,0)))
def SS (h:Vec UInt64 16):(Vec UInt32 8×Int)->Option ((Vec UInt32 8×Int)⊕(Vec UInt64 16))
  | (yj,i2)=>if i2 < 8 then((aW h.l i2).bind fun jc=>(aW yj.l i2).bind fun jm=>(some (zA yj i2 (UInt32.ofNat jc.toNat))).bind fun v2=>some (.inl (v2,bC (i2+1)))) else none
def G7 (kind:Int)(h:Vec UInt64 16)(b:AC)(lo hi:UInt64)(last node:Bool):Option (Vec UInt64 16) :=
  if kind=1 then(aQ (IG h b lo hi last node) ((Vec.rep 8 0),0)) else(aQ (SS h) ((Vec.rep 8 0),0))
def zH (r_:(Vec UInt64 16×Int×Int×Int×Int×Int×UInt32×UInt64×UInt32×Int×Int×Bool×Vec UInt64 16×Bool×UInt64×UInt64×AC×UInt64))(bM:Int):(Vec UInt64 16×UInt64×UInt64×Int)->Option ((Vec UInt64 16×UInt64×UInt64×Int)⊕(Vec UInt64 16×UInt64×UInt64×Int×Int×Int×Int×Int×Int×UInt32×UInt64×UInt32×Int×Int×Bool×Vec UInt64 16×Bool×UInt64×UInt64×AC×UInt64))
  | (h,lo,hi,at_)=>if(bC (at_+bM)) < ((r_.2.2.2.2.2.2.2.2.2.2.2.2.2.2.2.2.1.length:Nat):Int) then((Ej lo hi (UInt64.ofInt bM)).bind fun fO=>(GK r_.2.2.2.2.2.2.2.2.2.2.2.2.2.2.2.2.1 at_ bM).bind fun iC=>(G7 r_.2.1 h iC fO.1 fO.2.1 false false).bind fun jT=>some (.inl (jT,fO.1,fO.2.1,bC (at_+bM)))) else(Option.map Sum.inr (some (h,lo,hi,at_,r_.2.1,r_.2.2.1,r_.2.2.2.1,r_.2.2.2.2.1,r_.2.2.2.2.2.1,r_.2.2.2.2.2.2.1,r_.2.2.2.2.2.2.2.1,r_.2.2.2.2.2.2.2.2.1,r_.2.2.2.2.2.2.2.2.2.1,r_.2.2.2.2.2.2.2.2.2.2.1,r_.2.2.2.2.2.2.2.2.2.2.2.1,r_.2.2.2.2.2.2.2.2.2.2.2.2.1,r_.2.2.2.2.2.2.2.2.2.2.2.2.2.1,r_.2.2.2.2.2.2.2.2.2.2.2.2.2.2.1,r_.2.2.2.2.2.2.2.2.2.2.2.2.2.2.2.1,r_.2.2.2.2.2.2.2.2.2.2.2.2.2.2.2.2.1,r_.2.2.2.2.2.2.2.2.2.2.2.2.2.2.2.2.2)))
def wO (nD iL lU iM jh:Int)(kz:UInt32)(iO:UInt64)(lV:UInt32)(fG ji:Int)(kP gW zf:AC)(rf:Bool)(mJ:Vec UInt64 16)(wM:Bool)(EX EY:UInt64)(yG:AC)(lW:UInt64):Option (Vec UInt64 16×UInt64×UInt64×Int×Int×Int×Int×Int×Int×UInt32×UInt64×UInt32×Int×Int×Bool×Vec UInt64 16×Bool×UInt64×UInt64×AC×UInt64) :=
  (uB nD iL lU iM jh kz iO lV fG ji kP gW zf rf mJ wM EX EY yG lW).bind fun r_=>(zD r_.2.1).bind fun bM=>aQ (zH r_ bM) (r_.1,r_.2.2.2.2.2.2.2.2.2.2.2.2.2.2.1,r_.2.2.2.2.2.2.2.2.2.2.2.2.2.2.2.1,0)
def G8 (n:Int):(UInt64×AC×Int)->Option ((UInt64×AC×Int)⊕AC)
  | (ng,b,i)=>if i < n then((app b ([UInt8.ofNat (ng % 256).toNat]:AC) 1).bind fun b1=>some (.inl (ng / 256,b1,bC (i+1)))) else(Option.map Sum.inr (some b))
def CO (w_:UInt64)(n:Int):Option AC :=
  aQ (G8 n) (w_,([]:AC),0)
def G9 (kind:Int)(h:Vec UInt64 16):A00->A09
  | (b,i)=>if i < 8 then((aW h.l i).bind fun aO=>(BI kind).bind fun r_=>(CO aO (bC (Int.tdiv r_ 8))).bind fun bM=>(app b bM 1).bind fun b1=>some (.inl (b1,bC (i+1)))) else(Option.map Sum.inr (some b))
def CP (kind:Int)(h:Vec UInt64 16):Option AC :=
  aQ (G9 kind h) (([]:AC),0)
def zI (nD iL lU iM jh:Int)(kz:UInt32)(iO:UInt64)(lV:UInt32)(fG ji:Int)(kP gW zf:AC)(rf:Bool)(mJ:Vec UInt64 16)(wM:Bool)(EX EY:UInt64)(yG:AC)(lW:UInt64):Option (AC×Int×Int×Int×Int×Int×UInt32×UInt64×UInt32×Int×Int×Bool×Vec UInt64 16×Bool×UInt64×UInt64×AC×UInt64) :=
  (wO nD iL lU iM jh kz iO lV fG ji kP gW zf rf mJ wM EX EY yG lW).bind fun r_=>(Ej r_.2.1 r_.2.2.1 (UInt64.ofInt (bC (((r_.2.2.2.2.2.2.2.2.2.2.2.2.2.2.2.2.2.2.2.1.length:Nat):Int) - r_.2.2.2.1)))).bind fun bM=>(zD r_.2.2.2.2.1).bind fun fO=>(GK r_.2.2.2.2.2.2.2.2.2.2.2.2.2.2.2.2.2.2.2.1 r_.2.2.2.1 fO).bind fun iC=>(G7 r_.2.2.2.2.1 r_.1 iC bM.1 bM.2.1 true r_.2.2.2.2.2.2.2.2.2.2.2.2.2.2.1).bind fun jT=>(CP r_.2.2.2.2.1 jT).bind fun kM=>some (kM,r_.2.2.2.2.1,r_.2.2.2.2.2.1,r_.2.2.2.2.2.2.1,r_.2.2.2.2.2.2.2.1,r_.2.2.2.2.2.2.2.2.1,r_.2.2.2.2.2.2.2.2.2.1,r_.2.2.2.2.2.2.2.2.2.2.1,r_.2.2.2.2.2.2.2.2.2.2.2.1,r_.2.2.2.2.2.2.2.2.2.2.2.2.1,r_.2.2.2.2.2.2.2.2.2.2.2.2.2.1,r_.2.2.2.2.2.2.2.2.2.2.2.2.2.2.1,r_.2.2.2.2.2.2.2.2.2.2.2.2.2.2.2.1,r_.2.2.2.2.2.2.2.2.2.2.2.2.2.2.2.2.1,r_.2.2.2.2.2.2.2.2.2.2.2.2.2.2.2.2.2.1,r_.2.2.2.2.2.2.2.2.2.2.2.2.2.2.2.2.2.2.1,r_.2.2.2.2.2.2.2.2.2.2.2.2.2.2.2.2.2.2.2.1,r_.2.2.2.2.2.2.2.2.2.2.2.2.2.2.2.2.2.2.2.2)
def BL (kind bg dV bu bF:Int)(dU:UInt32)(aV:UInt64)(dh:UInt32)(aI bI:Int)(bZ aJ key:AC)(last:Bool)(out:Int)(data:AC):Option A00 :=
  (Nv kind bg dV bu bF dU aV dh aI bI bZ aJ key).bind fun r_=>(Sum.elim (fun bM=>if bM≠0 then(some (([]:AC),bM)) else(if out < 1 then(some (([]:AC),1)) else((BI kind).bind fun iC=>if iC < out then(some (([]:AC),1)) else none))) (fun fO=>if 0≠0 then(some (([]:AC),0)) else(if out < 1 then(some (([]:AC),1)) else((BI kind).bind fun jT=>if jT < out then(some (([]:AC),1)) else((xP fO.1 fO.2.1 fO.2.2.1 fO.2.2.2.1 fO.2.2.2.2.1 fO.2.2.2.2.2.1 fO.2.2.2.2.2.2.1 fO.2.2.2.2.2.2.2.1 fO.2.2.2.2.2.2.2.2.1 fO.2.2.2.2.2.2.2.2.2.1 bZ aJ key last fO.2.2.2.2.2.2.2.2.2.2.1 false 0 0 fO.2.2.2.2.2.2.2.2.2.2.2 0 data).bind fun kM=>(zI kM.1 kM.2.1 kM.2.2.1 kM.2.2.2.1 kM.2.2.2.2.1 kM.2.2.2.2.2.1 kM.2.2.2.2.2.2.1 kM.2.2.2.2.2.2.2.1 kM.2.2.2.2.2.2.2.2.1 kM.2.2.2.2.2.2.2.2.2.1 bZ aJ key kM.2.2.2.2.2.2.2.2.2.2.1 kM.2.2.2.2.2.2.2.2.2.2.2.1 kM.2.2.2.2.2.2.2.2.2.2.2.2.1 kM.2.2.2.2.2.2.2.2.2.2.2.2.2.1 kM.2.2.2.2.2.2.2.2.2.2.2.2.2.2.1 kM.2.2.2.2.2.2.2.2.2.2.2.2.2.2.2.1 kM.2.2.2.2.2.2.2.2.2.2.2.2.2.2.2.2).bind fun rO=>(OL rO.1 0 out).bind fun b=>some (b,0)))))) r_
def yT (a_ b:AC):Int->Option (Int⊕Bool)
  | i=>if i < ((a_.length:Nat):Int) then((aW a_ i).bind fun aO=>(aW b i).bind fun x_1=>if aO≠x_1 then(Option.map Sum.inr (some false)) else(some (.inl (bC (i+1))))) else(Option.map Sum.inr (some true))
def BM (a_ b:AC):Option Bool :=
  if((a_.length:Nat):Int)≠((b.length:Nat):Int) then(some false) else(aQ (yT a_ b) 0)
def zJ (s_:AC):Option AC :=
  some s_
def G_ (n:Int):Option AC :=
  if 0 < (bC (n - (bC (0 - ((0:Nat):Int))))) then((appz ([]:AC) (bC (n - (bC (0 - ((0:Nat):Int))))) 0 1).bind fun b=>(OL b 0 ((0:Nat):Int)).bind fun b1=>zJ b1) else(zJ ([]:AC))
def Jq (n:Int):Option AC :=
  if n < 0 then none else(G_ n)
def FZ (aO size1:Int):Option ((Int×Int)⊕AC) :=
  some (.inl (size1,bC (aO+1)))
def F5 (slices:WP):A00->A09
  | (ZA,x_1)=>if x_1 < ((slices.length:Nat):Int) then((aW slices x_1).bind fun b1=>(app ZA b1 1).bind fun newslice1=>some (.inl (newslice1,bC (x_1+1)))) else(Option.map Sum.inr (some ZA))
def F6 (slices:WP):(Int×Int)->Option ((Int×Int)⊕AC)
  | (size,aO)=>if aO < ((slices.length:Nat):Int) then((aW slices aO).bind fun b=>if(bC (size+((b.length:Nat):Int))) < 0 then none else(FZ aO (bC (size+((b.length:Nat):Int))))) else(Option.map Sum.inr ((Jq size).bind fun r_=>aQ (F5 slices) (r_,0)))
def VP (slices:WP):Option AC :=
  aQ (F6 slices) (0,0)
def UG (b:AC):A04->Option (A04⊕(WP×Int×Int))
  | (parts,at_)=>if at_ < ((b.length:Nat):Int) then((uo b at_).bind fun r_=>if r_.2≠0 then(Option.map Sum.inr (some (([]:WP),at_,4))) else(if(UInt64.ofInt (bC (((b.length:Nat):Int) - (bC (at_+8))))) < r_.1 then(Option.map Sum.inr (some (([]:WP),bC (at_+8),4))) else((OL b (bC (at_+8)) (bC ((bC (at_+8))+(bC r_.1.toNat)))).bind fun b1=>(app ([]:AC) b1 1).bind fun b2=>(app parts ([b2]:WP) 24).bind fun parts1=>some (.inl (parts1,bC ((bC (at_+8))+(bC r_.1.toNat))))))) else(Option.map Sum.inr (some (parts,0,0)))
def m_mac_Unrow (b:AC):Option (WP×Int×Int) :=
  if 16777216 < ((b.length:Nat):Int) then(some (([]:WP),0,2)) else(aQ (UG b) (([]:WP),0))
def DD (b:AC):Option AC :=
  (app ([]:AC) b 1).bind fun b1=>some b1
def rV (aO:Int)(l1:WP)(UH:Int)(UI:UInt64):Option ((WP×Int×UInt64×Int)⊕A04) :=
  some (.inl (l1,UH,UI,bC (aO+1)))
def rW (data:AC):(WP×Int×UInt64×Int)->Option ((WP×Int×UInt64×Int)⊕A04)
  | (l,from_,sum,aO)=>if aO < ((data.length:Nat):Int) then((aW data aO).bind fun dM=>if(((decide ((bC ((bC (aO+1)) - from_))=1024))||((decide (64<=(bC ((bC (aO+1)) - from_))))&&(decide ((oU ((zq sum ((1:UInt64).toNat))+(((UInt64.ofNat dM.toNat)+1)*11400714819323198485)) ((58:UInt64).toNat))=0))))||(decide (aO=(bC (((data.length:Nat):Int) - 1)))))=true then((OL data from_ (bC (aO+1))).bind fun b=>(app ([]:AC) b 1).bind fun b1=>(app l ([b1]:WP) 24).bind fun l2=>rV aO l2 (bC (aO+1)) 0) else(rV aO l from_ ((zq sum ((1:UInt64).toNat))+(((UInt64.ofNat dM.toNat)+1)*11400714819323198485)))) else(Option.map Sum.inr (some (l,0)))
def xQ (data:AC):Option A04 :=
  if 1048576 < ((data.length:Nat):Int) then(some (([]:WP),2)) else(aQ (rW data) (([]:WP),0,0,0))
def vW (i:Int)(l1:WP)(piece1:AC)(UI:UInt64):Option ((WP×AC×UInt64×Int)⊕A04) :=
  some (.inl (l1,piece1,UI,bC (i+1)))
def vX (data:AC):(WP×AC×UInt64×Int)->Option ((WP×AC×UInt64×Int)⊕A04)
  | (l,piece,sum,i)=>if i < ((data.length:Nat):Int) then((aW data i).bind fun aO=>(app piece ([aO]:AC) 1).bind fun piece2=>(aW data i).bind fun dM=>if(((decide (((piece.length+1:Nat):Int)=1024))||((decide (64<=((piece.length+1:Nat):Int)))&&(decide ((oU (((2:UInt64)*sum)+(((UInt64.ofNat dM.toNat)+1)*11400714819323198485)) ((58:UInt64).toNat))=0))))||(decide (i=(bC (((data.length:Nat):Int) - 1)))))=true then((app l ([piece2]:WP) 24).bind fun l2=>vW i l2 ([]:AC) 0) else(vW i l piece2 (((2:UInt64)*sum)+(((UInt64.ofNat dM.toNat)+1)*11400714819323198485)))) else(Option.map Sum.inr (some (l,0)))
def DF (data:AC):Option A04 :=
  if 1048576 < ((data.length:Nat):Int) then(some (([]:WP),2)) else(aQ (vX data) (([]:WP),([]:AC),0,0))
def uM (a_ b:AC):Option Bool :=
  (BM a_ b).bind fun r_=>some r_
def zK (a_ b:WP):Int->Option (Int⊕Bool)
  | i=>if i < ((a_.length:Nat):Int) then((aW a_ i).bind fun b1=>(aW b i).bind fun b2=>(uM b1 b2).bind fun r_=>if(!r_)=true then(Option.map Sum.inr (some false)) else(some (.inl (bC (i+1))))) else(Option.map Sum.inr (some true))
def CQ (a_ b:WP):Option Bool :=
  if((a_.length:Nat):Int)≠((b.length:Nat):Int) then(some false) else(aQ (zK a_ b) 0)
def EJ (aO:Int)(b:AC):A04->Option (A04⊕(A04⊕Bool))
  | (l2,x_1)=>if x_1 < ((b.length:Nat):Int) then((aW l2 aO).bind fun b1=>(aW b1 x_1).bind fun dM=>some (.inl (l2.set (Int.toNat aO) (b1.set (Int.toNat x_1) (UInt8.ofInt aO)),bC (x_1+1)))) else(Option.map Sum.inr ((aW l2 aO).bind fun b2=>(app b2 ([UInt8.ofInt aO]:AC) 1).bind fun b3=>(aW l2 aO).bind fun b4=>some (.inl (l2.set (Int.toNat aO) b3,bC (aO+1)))))
def EK (l1:WP)(dP:Int)(b5:AC):Int->Option (Int⊕(Int⊕Bool))
  | jc=>if jc < ((b5.length:Nat):Int) then((aW l1 dP).bind fun b6=>(aW b6 jc).bind fun jm=>if jm≠(UInt8.ofInt dP) then(Option.map Sum.inr (Option.map Sum.inr (some false))) else(some (.inl (bC (jc+1))))) else(Option.map Sum.inr (some (.inl (bC (dP+1)))))
def Be (l1:WP):Int->Option (Int⊕Bool)
  | dP=>if dP < ((l1.length:Nat):Int) then((aW l1 dP).bind fun b5=>aQ (EK l1 dP b5) 0) else(Option.map Sum.inr (some true))
def EL (l:WP):A04->Option (A04⊕Bool)
  | (l1,aO)=>if aO < ((l.length:Nat):Int) then((aW l1 aO).bind fun b=>aQ (EJ aO b) (l1,0)) else(Option.map Sum.inr (aQ (Be l1) 0))
def Em (l:WP):Option Bool :=
  aQ (EL l) (l,0)
def Fe  : Option Bool :=
  (xQ ([97,98,99]:AC)).bind fun r_=>if((decide (r_.2=0))&&(decide (((r_.1.length:Nat):Int)=1)))=true then((aW r_.1 0).bind fun b=>(uM b ([97,98,99]:AC)).bind fun bM=>some bM) else(some false)
def nM  : Option Unit :=
  some ()
def m_depot_Depot_Get (snap name:AC):Option AC :=
  (nM).bind fun r_=>some ([]:AC)
def ZB (from_ to:AC):Option WP :=
  (nM).bind fun r_=>some ([]:WP)
def m_depot_Depot_Put (snap:AC):Option Unit :=
  (nM).bind fun r_=>some ()
def m_depot_Depot_Sweep  : Option Unit :=
  (nM).bind fun r_=>some ()
def Y_  : Option WP :=
  (nM).bind fun r_=>some ([]:WP)
def m_depot_Depot_Save  : Option AC :=
  (nM).bind fun r_=>some ([]:AC)
def m_depot_Depot_Rates  : Option Unit :=
  (nM).bind fun r_=>some ()
def UJ (s_:AC):Int->Option (Int⊕Bool)
  | i=>if i < (s_.length:Int) then((aW s_ i).bind fun c=>(Io (!(decide (c < 33))) (aW s_ i)).bind fun c1=>if((decide (c < 33))||(decide ((126:UInt8) < c1)))=true then(Option.map Sum.inr (some false)) else(some (.inl (bC (i+1))))) else(Option.map Sum.inr (some true))
def ZC (s_:AC):Option Bool :=
  if((decide ((s_.length:Int) < 1))||(decide (64 < (s_.length:Int))))=true then(some false) else(aQ (UJ s_) 0)
def V3 (xu:PP)(name:AC):Int->Option (Int⊕Int)
  | i=>if i < ((xu.length:Nat):Int) then((aW xu i).bind fun aO=>if aO.1=name then(Option.map Sum.inr (some i)) else(some (.inl (bC (i+1))))) else(Option.map Sum.inr (some (-1:Int)))
def UK (uN:Bool)(vT V4:Int)(xu:PP)(name:AC):A06 :=
  aQ (V3 xu name) (0:Int)
def X9 (i:Int)(out1:PP)(Ff:Bool):Option ((PP×Bool×Int)⊕A05) :=
  some (.inl (out1,Ff,bC (i+1)))
def Qa (xu:PP)(i:Int)(vF:PP)(done2:Bool):Option ((PP×Bool×Int)⊕A05) :=
  (aW xu i).bind fun Dq=>(app vF ([((Dq.1:AC),Dq.2)]:PP) 40).bind fun UL=>X9 i UL done2
def Qb (uN:Bool)(vT V4:Int)(Fg:PP):Option A05 :=
  some (Sum.inr (uN,vT,V4,Fg))
def X_ (uN:Bool)(vT V4:Int)(xu:PP)(name own:AC):(PP×Bool×Int)->Option ((PP×Bool×Int)⊕A05)
  | (out,done,i)=>if i < ((xu.length:Nat):Int) then((Io (!done) (aW xu i)).bind fun aO=>if((!done)&&(Op.bytesLess name aO.1))=true then((app out ([((name:AC),own)]:PP) 40).bind fun OW=>Qa xu i OW true) else(Qa xu i out done)) else(Option.map Sum.inr (if(!done)=true then((app out ([((name:AC),own)]:PP) 40).bind fun out6=>Qb uN vT V4 out6) else(Qb uN vT V4 out)))
def m_r06_Add (uN:Bool)(vT V4:Int)(xu:PP)(name key:AC):Option A05 :=
  if(!uN)=true then(some (Sum.inl (uN,vT,V4,7))) else((ZC name).bind fun r_=>if(!r_)=true then(some (Sum.inl (uN,vT,V4,62))) else(if((key.length:Nat):Int) < 1 then(some (Sum.inl (uN,vT,V4,8))) else((sG vT).bind fun bM=>if bM < ((key.length:Nat):Int) then(some (Sum.inl (uN,vT,V4,8))) else((UK uN vT V4 xu name).bind fun fO=>if 0<=fO then(some (Sum.inl (uN,vT,V4,63))) else(if 256<=((xu.length:Nat):Int) then(some (Sum.inl (uN,vT,V4,2))) else((app ([]:AC) key 1).bind fun own=>aQ (X_ uN vT V4 xu name own) (([]:PP),false,0)))))))
def Ol (i:Int)(out1:PP):Option ((PP×Int)⊕A05) :=
  some (.inl (out1,bC (i+1)))
def V5 (uN:Bool)(vT V4:Int)(xu:PP)(r_:Int):(PP×Int)->Option ((PP×Int)⊕A05)
  | (out,i)=>if i < ((xu.length:Nat):Int) then(if i≠r_ then((aW xu i).bind fun aO=>(app out ([((aO.1:AC),aO.2)]:PP) 40).bind fun vF=>Ol i vF) else(Ol i out)) else(Option.map Sum.inr (some (Sum.inr (uN,vT,V4,out))))
def m_r06_Drop (uN:Bool)(vT V4:Int)(xu:PP)(name:AC):Option A05 :=
  if(!uN)=true then(some (Sum.inl (uN,vT,V4,7))) else((UK uN vT V4 xu name).bind fun r_=>if r_ < 0 then(some (Sum.inl (uN,vT,V4,6))) else(aQ (V5 uN vT V4 xu r_) (([]:PP),0)))
def Nw (f:Nat):Option Bool :=
  some (Q_ .neq f f)
def uO (f:Nat):Option UInt64 :=
  (Nw f).bind fun r_=>if r_=true then(some 9221120237041090560) else((need (f≠UA)).bind fun u=>some (UInt64.ofNat f))
def II (size:Int):Option (Unit⊕(Int×A0E×A0F)) :=
  if((decide (size < 1))||(decide (64 < size)))=true then(some (Sum.inl ())) else(some (Sum.inr (size,([]:A0E),([]:A0F))))
def DI (l:PP):(PP×PP×Int)->Option ((PP×PP×Int)⊕(PP×PP))
  | (a_,b,aO)=>if aO < ((l.length:Nat):Int) then((aW l aO).bind fun dM=>(DD dM.2).bind fun r_=>(app a_ ([((dM.1:AC),r_)]:PP) 40).bind fun a_1=>(app b ([((dM.1:AC),dM.2)]:PP) 40).bind fun b1=>some (.inl (a_1,b1,bC (aO+1)))) else(Option.map Sum.inr (some (a_,b)))
def Fh (l:PP):Option (PP×PP) :=
  aQ (DI l) (([]:PP),([]:PP),0)
def dm (aT:Int)(af:A0E)(ah:A0F):A06 :=
  some aT
def xR (s_:AC):Int->Option (Int⊕Bool)
  | aO=>if aO < (s_.length:Int) then((aW s_ aO).bind fun c=>(Io (!(decide (c < 33))) (aW s_ aO)).bind fun c1=>if((decide (c < 33))||(decide ((126:UInt8) < c1)))=true then(Option.map Sum.inr (some false)) else(some (.inl (bC (aO+1))))) else(Option.map Sum.inr (some true))
def qH (s_:AC):Option Bool :=
  if((decide ((s_.length:Int) < 1))||(decide (64 < (s_.length:Int))))=true then(some false) else(aQ (xR s_) 0)
def rq (aT:Int)(af:A0E)(ah:A0F)(b:AC):Option A00 :=
  (wL 1 aT 0 1 1 0 0 0 0 0 ([]:AC) ([]:AC) ([]:AC) false aT b).bind fun r_=>some (r_.1,aT)
def l_ (jm d2:Int)(m_5:A0E)(Rj:AC):A0H :=
  some (.inl (d2,m_5,Rj,bC (jm+1)))
def nS (af:A0E)(ah:A0F)(Za:A0E)(e_:AC)(jm:Int)(b4:AC)(kM:A00)(old:AC)(is:Bool):A0H :=
  if(is&&(decide (old≠b4)))=true then(Option.map Sum.inr (Option.map Sum.inr (some (271,kM.2,af,ah)))) else((need (e_.length+kM.1.length<=9223372036854775807)).bind fun u=>l_ jm kM.2 (gQ Za kM.1 b4) (e_++kM.1))
def wP (af:A0E)(ah:A0F)(Za:A0E)(e_:AC)(jm:Int)(b4:AC)(kM:A00)(rO:AC):A0H :=
  if rO≠b4 then(Option.map Sum.inr (Option.map Sum.inr (some (271,kM.2,af,ah)))) else((need (e_.length+kM.1.length<=9223372036854775807)).bind fun u0=>l_ jm kM.2 (gQ Za kM.1 b4) (e_++kM.1))
def nT (af:A0E)(ah:A0F)(UM:Mp WF)(dP:Int)(jc:AC×AC)(jT:A04):(Int×A0E×AC×Int)->A0H
  | (d1,Za,e_,jm)=>if jm < ((jT.1.length:Nat):Int) then((aW jT.1 jm).bind fun b4=>(rq d1 af ah b4).bind fun kM=>(Option.elim (bn af kM.1) (Option.elim (bn Za kM.1) (nS af ah Za e_ jm b4 kM ([]:AC) false) (fun yS=>nS af ah Za e_ jm b4 kM yS true)) (fun rO=>wP af ah Za e_ jm b4 kM rO ))) else(Option.map Sum.inr (some (.inl (d1,Za,gQ UM jc.1 (((jc.2.length:Nat):Int),e_),bC (dP+1)))))
def mf  : (A0E)->Ky×AC->Option A0E
  | m_6,(key,pz)=>some (gQ m_6 key pz)
def nU (af:A0E)(ah:A0F)(snap:AC)(files:PP):(Int×A0E×A0B×Int)->Option ((Int×A0E×A0B×Int)⊕(Int×Int×A0E×A0F))
  | (d,Ny,UM,dP)=>if dP < ((files.length:Nat):Int) then((aW files dP).bind fun jc=>(xQ jc.2).bind fun jT=>aQ (nT af ah UM dP jc jT) (d,Ny,([]:AC),0)) else(Option.map Sum.inr ((jB (mf) af Ny).bind fun s_=>some (0,d,s_,gQ ah snap UM)))
def nV (af:A0E)(ah:A0F)(snap:AC)(files:PP)(r_:Int):(A0J×Int)->Option ((A0J×Int)⊕(Int×Int×A0E×A0F))
  | (FW,aO)=>if aO < ((files.length:Nat):Int) then((aW files aO).bind fun dM=>(qH dM.1).bind fun iC=>if(!iC)=true then(Option.map Sum.inr (some (214,r_,af,ah))) else(if 1048576 < ((dM.2.length:Nat):Int) then(Option.map Sum.inr (some (2,r_,af,ah))) else(if((bn FW dM.1).isSome)=true then(Option.map Sum.inr (some (213,r_,af,ah))) else(some (.inl (gQ FW dM.1 aO,bC (aO+1))))))) else(Option.map Sum.inr (aQ (nU af ah snap files) (r_,([]:A0E),([]:Mp WF),0)))
def qh (aT:Int)(af:A0E)(ah:A0F)(snap:AC)(files:PP):Option (Int×Int×A0E×A0F) :=
  (dm aT af ah).bind fun r_=>(Option.elim (bn ah snap) ((qH snap).bind fun fO=>if(!fO)=true then(some (214,r_,af,ah)) else(if((decide (64<=((ah.length:Nat):Int)))||(decide (256 < ((files.length:Nat):Int))))=true then(some (2,r_,af,ah)) else(aQ (nV af ah snap files r_) (([]:A0J),0)))) (fun bM=>(qH snap).bind fun Qc=>if(!Qc)=true then(some (214,r_,af,ah)) else(some (213,r_,af,ah))))
def iZ (Ha:A0F):Option WP :=
  (need (Ha.length*16<=140737488355328)).bind fun u=>some (Di (Ha.map (·.1)))
def nX (aT:Int)(af:A0E)(ah:A0F):Option A04 :=
  (dm aT af ah).bind fun r_=>(iZ ah).bind fun bM=>some (bM,r_)
def rX (Ha:A0E):Option WP :=
  (need (Ha.length*16<=140737488355328)).bind fun u=>some (Di (Ha.map (·.1)))
def o6 (af:A0E)(r_ s_ yj:Int)(kM:WP):(Nat×Int)->Option ((Nat×Int)⊕(Int×Int×Int×Nat×Nat×Nat×Int))
  | (sum,Dq)=>if Dq < ((kM.length:Nat):Int) then((aW kM Dq).bind fun C_=>(Option.elim (bn af C_) (some (.inl (far .add sum (far .mul (far .sub (pF ((0:Nat):Int)) (far .quo (pF s_) (pF ((af.length:Nat):Int)))) (far .sub (pF ((0:Nat):Int)) (far .quo (pF s_) (pF ((af.length:Nat):Int))))),bC (Dq+1)))) (fun rO=>some (.inl (far .add sum (far .mul (far .sub (pF ((rO.length:Nat):Int)) (far .quo (pF s_) (pF ((af.length:Nat):Int)))) (far .sub (pF ((rO.length:Nat):Int)) (far .quo (pF s_) (pF ((af.length:Nat):Int))))),bC (Dq+1)))))) else(Option.map Sum.inr (some (((af.length:Nat):Int),s_,yj,far .sub 4607182418800017408 (far .quo (pF s_) (pF yj)),far .quo (pF s_) (pF ((af.length:Nat):Int)),far .quo sum (pF ((af.length:Nat):Int)),r_)))
def jE  : Int->Ky×WF->A06
  | Bf,(key2,uz)=>some (bC (Bf+uz.1))
def lu  : Int->Ky×A0B->A06
  | jT,(I4,ni)=>(jB (jE) jT ni).bind fun TT=>some TT
def lC  : Int->Ky×AC->A06
  | fO,(key,aO)=>some (bC (fO+((aO.length:Nat):Int)))
def nY (aT:Int)(af:A0E)(ah:A0F):Option (Int×Int×Int×Nat×Nat×Nat×Int) :=
  (dm aT af ah).bind fun r_=>(jB (lC) 0 af).bind fun s_=>(jB (lu) 0 ah).bind fun yj=>(rX af).bind fun kM=>aQ (o6 af r_ s_ yj kM) (0,0)
def uC (Ha:A0J):Option WP :=
  (need (Ha.length*16<=140737488355328)).bind fun u=>some (Di (Ha.map (·.1)))
def kQ (jc:Int)(l1:WP):Option (A04⊕(WP×Int×Int)) :=
  some (.inl (l1,bC (jc+1)))
def nZ (r_:Int)(bM iC:Mp WF)(yj:A0J)(rO:WP):A04->Option (A04⊕(WP×Int×Int))
  | (l,jc)=>if jc < ((rO.length:Nat):Int) then((aW rO jc).bind fun jm=>if((bn yj jm).getD 0)=1 then((need (([45]:AC).length+jm.length<=9223372036854775807)).bind fun u=>(app l ([([45]:AC)++jm]:WP) 16).bind fun l2=>kQ jc l2) else(if((bn yj jm).getD 0)=2 then((need (([43]:AC).length+jm.length<=9223372036854775807)).bind fun u1=>(app l ([([43]:AC)++jm]:WP) 16).bind fun l3=>kQ jc l3) else((some ((bn bM jm).getD (0,([]:AC)))).bind fun e_=>(some ((bn iC jm).getD (0,([]:AC)))).bind fun Rj=>if e_.2≠Rj.2 then((need (([61]:AC).length+jm.length<=9223372036854775807)).bind fun u2=>(app l ([([61]:AC)++jm]:WP) 16).bind fun l4=>kQ jc l4) else(kQ jc l)))) else(Option.map Sum.inr (some (l,0,r_)))
def jk  : (A0J)->Ky×WF->Option A0J
  | GI,(I4,dP)=>some (gQ GI I4 (bC (((bn GI I4).getD 0)+2)))
def jl  : (A0J)->Ky×WF->Option A0J
  | m_,(key,aO)=>some (gQ m_ key 1)
def kN (aT:Int)(af:A0E)(ah:A0F)(from_ to:AC):Option (WP×Int×Int) :=
  (dm aT af ah).bind fun r_=>(Option.elim (bn ah from_) (Option.elim (bn ah to) (some (([]:WP),272,r_)) (fun fO=>some (([]:WP),272,r_))) (fun bM=>(Option.elim (bn ah to) (some (([]:WP),272,r_)) (fun iC=>(jB (jl) ([]:A0J) bM).bind fun s_=>(jB (jk) s_ iC).bind fun yj=>(uC yj).bind fun rO=>aQ (nZ r_ bM iC yj rO) (([]:WP),0)))))
def DJ (w_:UInt32):Option AC :=
  some ([UInt8.ofNat w_.toNat,UInt8.ofNat (Dc w_ ((8:UInt64).toNat)).toNat,UInt8.ofNat (Dc w_ ((16:UInt64).toNat)).toNat,UInt8.ofNat (Dc w_ ((24:UInt64).toNat)).toNat]:AC)
def uh (n:Int):Option AC :=
  (DJ (UInt32.ofInt n)).bind fun r_=>some r_
def lK (Ha:Mp WF):Option WP :=
  (need (Ha.length*16<=140737488355328)).bind fun u=>some (Di (Ha.map (·.1)))
def pO (r_ dP:Int)(rO:Mp WF)(Bf:WP):A00->Option (A00⊕(A00⊕A00))
  | (b10,jm)=>if jm < ((Bf.length:Nat):Int) then((aW Bf jm).bind fun pz=>(app b10 ([UInt8.ofInt (pz.length:Int)]:AC) 1).bind fun b11=>(app b11 pz 1).bind fun b12=>(some ((bn rO pz).getD (0,([]:AC)))).bind fun e_=>(uh e_.1).bind fun Qc=>(app b12 Qc 1).bind fun b13=>(some ((bn rO pz).getD (0,([]:AC)))).bind fun Rj=>(need (r_≠0)).bind fun u=>(uh (bC (Int.tdiv (Rj.2.length:Int) r_))).bind fun AX=>(app b13 AX 1).bind fun b14=>(some ((bn rO pz).getD (0,([]:AC)))).bind fun QU=>(app b14 QU.2 1).bind fun b15=>some (.inl (b15,bC (jm+1)))) else(Option.map Sum.inr (some (.inl (b10,bC (dP+1)))))
def pR (ah:A0F)(r_:Int)(kM:WP):A00->Option (A00⊕A00)
  | (b5,dP)=>if dP < ((kM.length:Nat):Int) then((aW kM dP).bind fun jc=>(app b5 ([UInt8.ofInt (jc.length:Int)]:AC) 1).bind fun b6=>(app b6 jc 1).bind fun b7=>(Option.elim (bn ah jc) none (fun rO=>(uh ((rO.length:Nat):Int)).bind fun yS=>(app b7 yS 1).bind fun b9=>(lK rO).bind fun Bf=>aQ (pO r_ dP rO Bf) (b9,0)))) else(Option.map Sum.inr (some (b5,r_)))
def pU (af:A0E)(ah:A0F)(r_:Int)(fO:WP):A00->Option (A00⊕A00)
  | (b1,aO)=>if aO < ((fO.length:Nat):Int) then((aW fO aO).bind fun dM=>(Option.elim (bn af dM) none (fun iC=>(app b1 ([UInt8.ofInt ((iC.length:Nat):Int),UInt8.ofInt (VT .i64 ((iC.length:Nat):Int) ((8:UInt64).toNat))]:AC) 1).bind fun b2=>(app b2 iC 1).bind fun b3=>some (.inl (b3,bC (aO+1)))))) else(Option.map Sum.inr ((uh ((ah.length:Nat):Int)).bind fun jT=>(app b1 jT 1).bind fun b4=>(iZ ah).bind fun kM=>aQ (pR ah r_ kM) (b4,0)))
def lQ (aT:Int)(af:A0E)(ah:A0F):Option A00 :=
  (dm aT af ah).bind fun r_=>(uh ((af.length:Nat):Int)).bind fun bM=>(app ([68,81,1,UInt8.ofInt r_]:AC) bM 1).bind fun b=>(rX af).bind fun fO=>aQ (pU af ah r_ fO) (b,0)
def mY (aT:Int)(af:A0E)(ah:A0F)(snap:AC):Option (Int×Int×A0F) :=
  (dm aT af ah).bind fun r_=>(Option.elim (bn ah snap) (some (272,r_,ah)) (fun bM=>some (0,r_,xy ah snap)))
def kC (aT:Int):(AC×WP)->Option ((AC×WP)⊕A04)
  | (yj,l)=>if 0 < (yj.length:Int) then((OL yj 0 aT).bind fun TT=>(app l ([TT]:WP) 16).bind fun l1=>(OL yj aT (yj.length:Int)).bind fun s_3=>some (.inl (s_3,l1))) else(Option.map Sum.inr (some (l,aT)))
def jO (aT:Int)(af:A0E)(ah:A0F)(s_:AC):Option A04 :=
  aQ (kC aT) (s_,([]:WP))
def jR (fO:A04):(A0J×Int)->Option ((A0J×Int)⊕(Int×A0J))
  | (Ny,dM)=>if dM < ((fO.1.length:Nat):Int) then((aW fO.1 dM).bind fun dP=>some (.inl (gQ Ny dP (bC (((bn Ny dP).getD 0)+1)),bC (dM+1)))) else(Option.map Sum.inr (some (fO.2,Ny)))
def jo (af:A0E)(ah:A0F):(Int×A0J)->Ky×WF->Option (Int×A0J)
  | (d1,GI),(I4,x_1)=>(jO d1 af ah x_1.2).bind fun fO=>aQ (jR fO) (GI,0)
def lT (af:A0E)(ah:A0F):(Int×A0J)->Ky×A0B->Option (Int×A0J)
  | (d,FW),(key,aO)=>(jB (jo af ah) (d,FW) aO).bind fun yj=>some (yj.1,yj.2)
def qi (aT:Int)(af:A0E)(ah:A0F):Option (A0J×Int) :=
  (jB (lT af ah) (aT,([]:A0J)) ah).bind fun s_=>some (s_.2,s_.1)
def kD (bM:(A0J×Int)):(A0E×Int)->Ky×AC->Option (A0E×Int)
  | (FW,n),(key,aO)=>if((bn bM.1 key).getD 0)=0 then(some (xy FW key,bC (n+1))) else(some (FW,n))
def ru (aT:Int)(af:A0E)(ah:A0F):Option (Int×Int×A0E) :=
  (dm aT af ah).bind fun r_=>(qi r_ af ah).bind fun bM=>(jB (kD bM) (af,0) af).bind fun s_=>some (s_.2,bM.2,s_.1)
def lL (Gu:AC)(jV lI:Bool)(n:Int):Option (AC×AC×Bool×Bool) :=
  if(jV||(decide (((Gu.length:Nat):Int) < n)))=true then(some (([]:AC),Gu,true,lI)) else((OL Gu 0 n).bind fun b=>(OL Gu n ((Gu.length:Nat):Int)).bind fun b1=>some (b,b1,jV,lI))
def pV (r_:(AC×AC×Bool×Bool)):(Int×Int)->Option ((Int×Int)⊕(Int×AC×Bool×Bool))
  | (n0,aO)=>if aO < ((r_.1.length:Nat):Int) then((aW r_.1 aO).bind fun jc=>(need (0<=bC (8*aO))).bind fun u=>some (.inl (orI .i64 n0 (shlI .i64 (jc.toNat:Int) (Int.toNat (bC (8*aO)))),bC (aO+1)))) else(Option.map Sum.inr (some (n0,r_.2.1,r_.2.2.1,r_.2.2.2)))
def nN (Gu:AC)(jV lI:Bool)(size:Int):Option (Int×AC×Bool×Bool) :=
  (lL Gu jV lI size).bind fun r_=>aQ (pV r_) (0,0)
def lM (Gu:AC)(jV lI ok:Bool):Option (AC×Bool×Bool) :=
  if(!ok)=true then(some (Gu,jV,true)) else(some (Gu,jV,lI))
def kR (Gu:AC)(jV lI:Bool)(size:Int):Option (Int×AC×Bool×Bool) :=
  (nN Gu jV lI size).bind fun r_=>if((r_.2.1.length:Nat):Int) < r_.1 then(some (0,r_.2.1,true,r_.2.2.2)) else(some (r_.1,r_.2.1,r_.2.2.1,r_.2.2.2))
def n_ (aT:Int)(af:A0E)(ah:A0K)(b:AC):Option A00 :=
  (wL 1 aT 0 1 1 0 0 0 0 0 ([]:AC) ([]:AC) ([]:AC) false aT b).bind fun r_=>some (r_.1,aT)
def u_ (aO:Int)(p3:AC)(p4 p5:Bool)(d1:Int)(GI:A0E)(ZE:AC):Option ((AC×Bool×Bool×Int×A0E×AC×Int)⊕(AC×Bool×Bool×Int×A0E)) :=
  some (.inl (p3,p4,p5,d1,GI,ZE,bC (aO+1)))
def pW (aO:Int)(p6:AC)(p7 p8:Bool)(d2:Int)(Ny:A0E)(last2:AC):Option ((AC×Bool×Bool×Int×A0E×AC×Int)⊕(AC×Bool×Bool×Int×A0E)) :=
  u_ aO p6 p7 p8 d2 Ny last2
def ve (ah:A0K)(r_:(Int×AC×Bool×Bool)):(AC×Bool×Bool×Int×A0E×AC×Int)->Option ((AC×Bool×Bool×Int×A0E×AC×Int)⊕(AC×Bool×Bool×Int×A0E))
  | (p,p1,p2,d,FW,last,aO)=>if aO < r_.1 then(if p1=true then(Option.map Sum.inr (some (p,p1,p2,d,FW))) else((kR p p1 p2 2).bind fun bM=>(lL bM.2.1 bM.2.2.1 bM.2.2.2 bM.1).bind fun fO=>(app ([]:AC) fO.1 1).bind fun b=>(lM fO.2.1 fO.2.2.1 fO.2.2.2 ((decide (1<=((0+fO.1.length:Nat):Int)))&&(decide (((0+fO.1.length:Nat):Int)<=1024)))).bind fun iC=>if(iC.2.2||iC.2.1)=true then(pW aO iC.1 iC.2.1 iC.2.2 d FW last) else((n_ d FW ah b).bind fun jT=>(lM iC.1 iC.2.1 iC.2.2 ((decide (aO=0))||(!(Op.bytesLess jT.1 last||decide (jT.1=last))))).bind fun kM=>pW aO kM.1 kM.2.1 kM.2.2 jT.2 (gQ FW jT.1 b) jT.1))) else(Option.map Sum.inr (some (p,p1,p2,d,FW)))
def uP (Gu:AC)(jV lI:Bool)(aT:Int)(af:A0E)(ah:A0K):Option (AC×Bool×Bool×Int×A0E) :=
  (kR Gu jV lI 4).bind fun r_=>aQ (ve ah r_) (r_.2.1,r_.2.2.1,r_.2.2.2,aT,af,([]:AC),0)
def wQ (size:Int)(r_:(Int×AC×Bool×Bool)):(AC×Bool×Bool×A0B×AC×Int)->Option ((AC×Bool×Bool×A0B×AC×Int)⊕((AC×Bool×Bool)⊕(A0B×AC×Bool×Bool)))
  | (p,p1,p2,FW,last,aO)=>if aO < r_.1 then(if p1=true then(Option.map Sum.inr (some (Sum.inl (p,p1,p2)))) else((kR p p1 p2 1).bind fun fO=>(lL fO.2.1 fO.2.2.1 fO.2.2.2 fO.1).bind fun iC=>(nN iC.2.1 iC.2.2.1 iC.2.2.2 4).bind fun jT=>(qH iC.1).bind fun kM=>(lM jT.2.1 jT.2.2.1 jT.2.2.2 ((kM&&((decide (aO=0))||(!(Op.bytesLess iC.1 last||decide (iC.1=last)))))&&(decide (jT.1<=1048576)))).bind fun rO=>(kR rO.1 rO.2.1 rO.2.2 4).bind fun yS=>(lL yS.2.1 yS.2.2.1 yS.2.2.2 (bC (yS.1*size))).bind fun Bf=>some (.inl (Bf.2.1,Bf.2.2.1,Bf.2.2.2,gQ FW iC.1 (jT.1,Bf.1),iC.1,bC (aO+1))))) else(Option.map Sum.inr (some (Sum.inr (FW,p,p1,p2))))
def wR (Gu:AC)(jV lI:Bool)(size:Int):Option ((AC×Bool×Bool)⊕(A0B×AC×Bool×Bool)) :=
  (kR Gu jV lI 4).bind fun r_=>(lM r_.2.1 r_.2.2.1 r_.2.2.2 (decide (r_.1<=256))).bind fun bM=>aQ (wQ size r_) (bM.1,bM.2.1,bM.2.2,([]:Mp WF),([]:AC),0)
def BC (iC:(AC×Bool×Bool×Int×A0E))(p:AC)(p1 p2:Bool)(FW:A0K):Option (Int⊕(Int×A0E×A0F)) :=
  if p1=true then(some (Sum.inl 3)) else(if 0 < ((p.length:Nat):Int) then(some (Sum.inl 9)) else(if p2=true then(some (Sum.inl 274)) else((need (FW.all (fun p=>p.2.isSome)=true)).bind fun u=>some (Sum.inr (iC.2.2.2.1,iC.2.2.2.2,FW.map (fun p=>(p.1,p.2.getD [])))))))
def yL (iC:(AC×Bool×Bool×Int×A0E))(p3:AC)(p4 p5:Bool)(Ny:A0K):Option (Int⊕(Int×A0E×A0F)) :=
  BC iC p3 p4 p5 Ny
def BD (bM:(Int×AC×Bool×Bool))(iC:(AC×Bool×Bool×Int×A0E))(jT:(Int×AC×Bool×Bool)):(AC×Bool×Bool×A0K×AC×Int)->Option ((AC×Bool×Bool×A0K×AC×Int)⊕(Int⊕(Int×A0E×A0F)))
  | (p6,p7,p8,UM,last,aO)=>if aO < jT.1 then(if p7=true then(Option.map Sum.inr (yL iC p6 p7 p8 UM)) else((kR p6 p7 p8 1).bind fun rO=>(lL rO.2.1 rO.2.2.1 rO.2.2.2 rO.1).bind fun yS=>(qH yS.1).bind fun Bf=>(lM yS.2.1 yS.2.2.1 yS.2.2.2 (Bf&&((decide (aO=0))||(!(Op.bytesLess yS.1 last||decide (yS.1=last)))))).bind fun Qc=>(wR Qc.1 Qc.2.1 Qc.2.2 bM.1).bind fun AX=>(Sum.elim (fun UN=>some (.inl (UN.1,UN.2.1,UN.2.2,gQ UM yS.1 Option.none,yS.1,bC (aO+1)))) (fun Qd=>some (.inl (Qd.2.1,Qd.2.2.1,Qd.2.2.2,gQ UM yS.1 (Option.some Qd.1),yS.1,bC (aO+1))))) AX)) else(Option.map Sum.inr (yL iC p6 p7 p8 UM))
def Aw (b:AC):Option (Int⊕(Int×A0E×A0F)) :=
  (lL b false false 3).bind fun r_=>(nN r_.2.1 r_.2.2.1 r_.2.2.2 1).bind fun bM=>(lM bM.2.1 bM.2.2.1 bM.2.2.2 (((decide (r_.1=([68,81,1]:AC)))&&(decide (1<=bM.1)))&&(decide (bM.1<=64)))).bind fun fO=>(uP fO.1 fO.2.1 fO.2.2 bM.1 ([]:A0E) ([]:A0K)).bind fun iC=>(kR iC.1 iC.2.1 iC.2.2.1 4).bind fun jT=>(lM jT.2.1 jT.2.2.1 jT.2.2.2 (decide (jT.1<=64))).bind fun kM=>aQ (BD bM iC jT) (kM.1,kM.2.1,kM.2.2,([]:A0K),([]:AC),0)
def xU (aT:Int):(AC×WP)->Option ((AC×WP)⊕A04)
  | (yj,l)=>if 0 < (yj.length:Int) then((OL yj 0 aT).bind fun TT=>(app l ([TT]:WP) 16).bind fun l1=>(OL yj aT (yj.length:Int)).bind fun s_3=>some (.inl (s_3,l1))) else(Option.map Sum.inr (some (l,aT)))
def oh (aT:Int)(af:A0E)(ah:A0F)(s_:AC):Option A04 :=
  aQ (xU aT) (s_,([]:WP))
def oq (af:A0E)(fO:A04):A00->Option (A00⊕(AC×Int×Int))
  | (b1,aO)=>if aO < ((fO.1.length:Nat):Int) then((aW fO.1 aO).bind fun dP=>(Option.elim (bn af dP) (Option.map Sum.inr (some (([]:AC),270,fO.2))) (fun iC=>(app b1 iC 1).bind fun b2=>some (.inl (b2,bC (aO+1)))))) else(Option.map Sum.inr (some (b1,0,fO.2)))
def uQ (aT:Int)(af:A0E)(ah:A0F)(snap name:AC):Option (AC×Int×Int) :=
  (dm aT af ah).bind fun r_=>(Option.elim (bn ah snap) (some (([]:AC),272,r_)) (fun bM=>(some ((bn bM name).getD (0,([]:AC)))).bind fun e_=>if(!((bn bM name).isSome))=true then(some (([]:AC),273,r_)) else((oh r_ af ah e_.2).bind fun fO=>aQ (oq af fO) (([]:AC),0))))
def nG (aO:Int)(l1:WP):Option (A04⊕A04) :=
  some (.inl (l1,bC (aO+1)))
def nH (af:A0E)(bM:(A0J×Int))(fO:WP):A04->Option (A04⊕A04)
  | (l,aO)=>if aO < ((fO.length:Nat):Int) then((aW fO aO).bind fun dM=>(Option.elim (bn af dM) ((need (dM.length<=140737488355328)).bind fun u=>(app l ([dM]:WP) 24).bind fun l2=>nG aO l2) (fun iC=>nG aO l))) else(Option.map Sum.inr (some (l,bM.2)))
def o7 (aT:Int)(af:A0E)(ah:A0F):Option A04 :=
  (dm aT af ah).bind fun r_=>(qi r_ af ah).bind fun bM=>(uC bM.1).bind fun fO=>aQ (nH af bM fO) (([]:WP),0)
def uS (bQ:Int)(ak:PP)(ax:NE)(b:AC):Option AC :=
  (BL 1 bQ 0 1 1 0 0 0 0 0 ([]:AC) ([]:AC) ([]:AC) false bQ b).bind fun r_=>some r_.1
def Bg (s_:AC):Int->Option (Int⊕Bool)
  | i=>if i < (s_.length:Int) then((aW s_ i).bind fun c=>(Io (!(decide (c < 33))) (aW s_ i)).bind fun c1=>if((decide (c < 33))||(decide ((126:UInt8) < c1)))=true then(Option.map Sum.inr (some false)) else(some (.inl (bC (i+1))))) else(Option.map Sum.inr (some ((decide (1<=(s_.length:Int)))&&(decide ((s_.length:Int)<=64)))))
def Eo (s_:AC):Option Bool :=
  aQ (Bg s_) (0:Int)
def zg (dX:Int)(bJ:PP)(bK:NE):A04->Option (A04⊕(WP×Int×PP×NE))
  | (l,i)=>if i < ((bK.length:Nat):Int) then((aW bK i).bind fun aO=>(app l ([aO.1]:WP) 16).bind fun l1=>some (.inl (l1,bC (i+1)))) else(Option.map Sum.inr (some (l,dX,bJ,bK)))
def xW (dX:Int)(bJ:PP)(bK:NE):Option (WP×Int×PP×NE) :=
  aQ (zg dX bJ bK) (([]:WP),0)
def zL (a_ b:WP):Int->Option (Int⊕Bool)
  | i=>if i < ((a_.length:Nat):Int) then((aW a_ i).bind fun aO=>(aW b i).bind fun x_1=>if aO≠x_1 then(Option.map Sum.inr (some false)) else(some (.inl (bC (i+1))))) else(Option.map Sum.inr (some true))
def zM (a_ b:WP):Option Bool :=
  if((a_.length:Nat):Int)≠((b.length:Nat):Int) then(some false) else(aQ (zL a_ b) 0)
def mr (l:PP)(digest:AC):(Int×Int)->Option ((Int×Int)⊕Int)
  | (low,high)=>if low < high then((aW l (bC (Int.tdiv (bC (low+high)) 2))).bind fun aO=>if(Op.bytesLess aO.1 digest)=true then(some (.inl (bC ((bC (Int.tdiv (bC (low+high)) 2))+1),high))) else(some (.inl (low,bC (Int.tdiv (bC (low+high)) 2))))) else(Option.map Sum.inr ((Io (decide (low < ((l.length:Nat):Int))) (aW l low)).bind fun x_1=>if((decide (low < ((l.length:Nat):Int)))&&(decide (x_1.1=digest)))=true then(some low) else(some (-1:Int))))
def sH (l:PP)(digest:AC):A06 :=
  aQ (mr l digest) (0,((l.length:Nat):Int))
def qK (i:Int)(out1:PP)(Ff:Bool):Option ((PP×Bool×Int)⊕PP) :=
  some (.inl (out1,Ff,bC (i+1)))
def o8 (l:PP)(i:Int)(vF:PP)(done2:Bool):Option ((PP×Bool×Int)⊕PP) :=
  (aW l i).bind fun x_1=>(app vF ([((x_1.1:AC),x_1.2)]:PP) 40).bind fun UL=>qK i UL done2
def wS (Fg:PP):Option PP :=
  some Fg
def kE (l:PP)(fK jw:AC):(PP×Bool×Int)->Option ((PP×Bool×Int)⊕PP)
  | (out,done,i)=>if i < ((l.length:Nat):Int) then((Io (!done) (aW l i)).bind fun aO=>if((!done)&&(Op.bytesLess fK aO.1))=true then((app out ([((fK:AC),jw)]:PP) 40).bind fun OW=>o8 l i OW true) else(o8 l i out done)) else(Option.map Sum.inr (if(!done)=true then((app out ([((fK:AC),jw)]:PP) 40).bind fun out6=>wS out6) else(wS out)))
def Az (l:PP)(fK jw:AC):Option PP :=
  aQ (kE l fK jw) (([]:PP),false,0)
def ry (j:Int)(l3:PP):Option ((PP×Int)⊕((PP×Int)⊕((PP×Int)⊕PP))) :=
  some (.inl (l3,bC (j+1)))
def ou (fJ:Int)(dM:AC×Int×WP):(PP×Int)->Option ((PP×Int)⊕((PP×Int)⊕((PP×Int)⊕PP)))
  | (l2,j)=>if j < ((dM.2.2.length:Nat):Int) then((aW dM.2.2 j).bind fun dP=>(sH l2 dP).bind fun r_=>if r_ < 0 then((aW dM.2.2 j).bind fun jc=>(Az l2 jc ([]:AC)).bind fun bM=>ry j bM) else(ry j l2)) else(Option.map Sum.inr (some (.inl (l2,bC (fJ+1)))))
def oz (ax:NE)(i:Int):(PP×Int)->Option ((PP×Int)⊕((PP×Int)⊕PP))
  | (l1,fJ)=>(aW ax i).bind fun aO=>if fJ < ((aO.2.length:Nat):Int) then((aW ax i).bind fun x_1=>(aW x_1.2 fJ).bind fun dM=>aQ (ou fJ dM) (l1,0)) else(Option.map Sum.inr (some (.inl (l1,bC (i+1)))))
def rC (ax:NE):(PP×Int)->Option ((PP×Int)⊕PP)
  | (l,i)=>if i < ((ax.length:Nat):Int) then(aQ (oz ax i) (l,0)) else(Option.map Sum.inr (some l))
def wU (bQ:Int)(ak:PP)(ax:NE):Option PP :=
  aQ (rC ax) (([]:PP),0)
def o9 (i:Int)(out1:WP):Option (A04⊕WP) :=
  some (.inl (out1,bC (i+1)))
def o_ (ak r_:PP):A04->Option (A04⊕WP)
  | (out,i)=>if i < ((r_.length:Nat):Int) then((aW r_ i).bind fun aO=>(sH ak aO.1).bind fun bM=>if bM < 0 then((aW r_ i).bind fun x_1=>(need (x_1.1.length<=140737488355328)).bind fun u=>(app out ([x_1.1]:WP) 24).bind fun vF=>o9 i vF) else(o9 i out)) else(Option.map Sum.inr (some out))
def sQ (bQ:Int)(ak:PP)(ax:NE):Option WP :=
  (wU bQ ak ax).bind fun r_=>aQ (o_ ak r_) (([]:WP),0)
def oC (ax:NE)(i1:Int):(Int×Int)->Option ((Int×Int)⊕((Int×Int)⊕(Int×Int×Int×Nat×Nat×Nat)))
  | (fO,fH)=>(aW ax i1).bind fun pz=>if fH < ((pz.2.length:Nat):Int) then((aW ax i1).bind fun ni=>(aW ni.2 fH).bind fun Dq=>some (.inl (bC (fO+Dq.2.1),bC (fH+1)))) else(Option.map Sum.inr (some (.inl (fO,bC (i1+1)))))
def oD (ak:PP)(r_ bM:Int):(Nat×Int)->Option ((Nat×Int)⊕(Int×Int×Int×Nat×Nat×Nat))
  | (sum,i2)=>if i2 < ((ak.length:Nat):Int) then((aW ak i2).bind fun C_=>some (.inl (far .add sum (far .mul (far .sub (pF ((C_.2.length:Nat):Int)) (far .quo (pF r_) (pF ((ak.length:Nat):Int)))) (far .sub (pF ((C_.2.length:Nat):Int)) (far .quo (pF r_) (pF ((ak.length:Nat):Int))))),bC (i2+1)))) else(Option.map Sum.inr (some (((ak.length:Nat):Int),r_,bM,far .sub 4607182418800017408 (far .quo (pF r_) (pF bM)),far .quo (pF r_) (pF ((ak.length:Nat):Int)),far .quo sum (pF ((ak.length:Nat):Int)))))
def mg (ak:PP)(ax:NE)(r_:Int):(Int×Int)->Option ((Int×Int)⊕(Int×Int×Int×Nat×Nat×Nat))
  | (bM,i1)=>if i1 < ((ax.length:Nat):Int) then(aQ (oC ax i1) (bM,0)) else(Option.map Sum.inr (aQ (oD ak r_ bM) (0,0)))
def oG (ak:PP)(ax:NE):(Int×Int)->Option ((Int×Int)⊕(Int×Int×Int×Nat×Nat×Nat))
  | (r_,i)=>if i < ((ak.length:Nat):Int) then((aW ak i).bind fun aO=>some (.inl (bC (r_+((aO.2.length:Nat):Int)),bC (i+1)))) else(Option.map Sum.inr (aQ (mg ak ax r_) (0,0)))
def rY (bQ:Int)(ak:PP)(ax:NE):Option (Int×Int×Int×Nat×Nat×Nat) :=
  aQ (oG ak ax) (0,0)
def AA (jd wV He:Int)(TU Ya Qe:Nat)(jy wW Hf:Int)(TV Yb Qg:Nat):Option Bool :=
  if(((decide (jd=jy))&&(decide (wV=wW)))&&(decide (He=Hf)))=true then((uO TU).bind fun r_=>(uO TV).bind fun bM=>if r_=bM then((uO Ya).bind fun fO=>(uO Yb).bind fun iC=>if fO=iC then((uO Qe).bind fun jT=>(uO Qg).bind fun kM=>some (decide (jT=kM))) else(some false)) else(some false)) else(some false)
end
section
variable {δ σ:Type}
theorem Hg {a b:Ky}(h:a < b):¬ b < a:=fun h2=>List.lt_irrefl a (List.lt_trans h h2)
theorem LZ {a b:Ky}(h:a < b):a≠b:=fun e=>List.lt_irrefl b (e▸h)
theorem Qh {k1 k2:Ky}(h:k1 < k2)(v1 v2:δ):∀ m:Mp δ,gQ (gQ m k1 v1) k2 v2=gQ (gQ m k2 v2) k1 v1:=by
  have hne:k1≠k2:=LZ h;have hne2:k2≠k1:=fun e=>hne e.symm;have hn:¬ k2 < k1:=Hg h;intro m
  induction m with
  | nil=>simp[gQ,h,hne,hne2,hn]
  | cons p r ih =>
    rcases LU k1 p.1 with h1 | h1 | h1
    ·have e1:k1≠p.1:=LZ h1;have lhs:gQ (p::r) k1 v1=(k1,v1)::p::r:=by simp[gQ,e1,h1]
     rw[lhs];have:gQ ((k1,v1)::p::r) k2 v2=(k1,v1)::gQ (p::r) k2 v2:=by
       rw[gQ];simp[hne2,hn]
     rw[this];rcases LU k2 p.1 with h2 | h2 | h2
     ·have e2:k2≠p.1:=LZ h2;have:gQ (p::r) k2 v2=(k2,v2)::p::r:=by simp[gQ,e2,h2]
      rw[this];simp[gQ,hne,h]
     ·have:gQ (p::r) k2 v2=(k2,v2)::r:=by simp[gQ,h2]
      rw[this];simp[gQ,hne,h]
     ·have e2:k2≠p.1:=fun e=>LZ h2 e.symm;have:gQ (p::r) k2 v2=p::gQ r k2 v2:=by simp[gQ,e2,Hg h2]
      rw[this];simp[gQ,e1,h1]
    ·have lhs:gQ (p::r) k1 v1=(k1,v1)::r:=by simp[gQ,h1]
     rw[lhs];have h2:p.1 < k2:=h1▸h;have e2:k2≠p.1:=fun e=>LZ h2 e.symm;have:gQ (p::r) k2 v2=p::gQ r k2 v2:=by simp[gQ,e2,Hg h2]
     rw[this];simp[gQ,h1,e2,Hg h2]
    ·have e1:k1≠p.1:=fun e=>LZ h1 e.symm;have h2:p.1 < k2:=List.lt_trans h1 h;have e2:k2≠p.1:=fun e=>LZ h2 e.symm;have lhs:gQ (p::r) k1 v1=p::gQ r k1 v1:=by simp[gQ,e1,Hg h1]
     have rhs:gQ (p::r) k2 v2=p::gQ r k2 v2:=by simp[gQ,e2,Hg h2]
     rw[lhs,rhs];simp[gQ,e1,e2,Hg h1,Hg h2,ih]
theorem Nz {k1 k2:Ky}(h:k1≠k2)(v1 v2:δ)(m:Mp δ):gQ (gQ m k1 v1) k2 v2=gQ (gQ m k2 v2) k1 v1:=by
  rcases LU k1 k2 with h1 | h1 | h1
  ·exact Qh h1 v1 v2 m
  ·exact absurd h1 h
  ·exact(Qh h1 v2 v1 m).symm
theorem yU {k k':Ky}(h:k≠k')(v:δ):∀ m:Mp δ,bn (gQ m k v) k'=bn m k':=by
  intro m
  induction m with
  | nil=>simp[gQ,bn,h]
  | cons p r ih =>
    unfold gQ;by_cases h1:k=p.1
    ·rw[if_pos h1];simp[bn,h,h1▸h]
    ·rw[if_neg h1];by_cases h2:k < p.1
     ·rw[if_pos h2];rw[bn];simp[h]
     ·rw[if_neg h2];rw[bn,bn];simp[ih]
theorem TW (a:Int):bC a=if a % 18446744073709551616 ≥ 9223372036854775808 then a % 18446744073709551616 - 18446744073709551616 else a % 18446744073709551616:=by
  have e1:(2:Int) ^ 64=18446744073709551616:=rfl;have e2:(2:Int) ^ (64 - 1)=9223372036854775808:=rfl;simp only[bC,IntKind.wrap,IntKind.signed,IntKind.bits,Bool.true_and];by_cases h:a % 18446744073709551616 ≥ 9223372036854775808
  ·rw[if_pos h,if_pos]
   ·rfl
   ·exact A0p h
  ·rw[if_neg h,if_neg]
   ·rfl
   ·intro h2;exact h (of_decide_eq_true h2)
theorem w64_emod (a:Int):(bC a) % 18446744073709551616=a % 18446744073709551616:=by
  rw[TW];split <;> omega
theorem w64_eq (a b:Int)(h:a % 18446744073709551616=b % 18446744073709551616):bC a=bC b:=by
  rw[TW,TW,h]
theorem Hl (a b:Int):bC (bC a+b)=bC (a+b):=w64_eq _ _ (by have h:=w64_emod a;omega)
end
noncomputable section
def sS (ax:NE)(name:AC):Int->Option (Int⊕Int)
  | i=>if i < ((ax.length:Nat):Int) then((aW ax i).bind fun aO=>if aO.1=name then(Option.map Sum.inr (some i)) else(some (.inl (bC (i+1))))) else(Option.map Sum.inr (some (-1:Int)))
def kS (bQ:Int)(ak:PP)(ax:NE)(name:AC):A06 :=
  aQ (sS ax name) (0:Int)
def xX (files:PP)(i:Int):Int->Option (Int⊕(Int⊕Int))
  | fJ=>if fJ < i then((aW files fJ).bind fun dM=>(aW files i).bind fun dP=>if dM.1=dP.1 then(Option.map Sum.inr (Option.map Sum.inr (some 213))) else(some (.inl (bC (fJ+1))))) else(Option.map Sum.inr (some (.inl (bC (i+1)))))
def zN (files:PP):Int->Option (Int⊕Int)
  | i=>if i < ((files.length:Nat):Int) then((aW files i).bind fun aO=>(Eo aO.1).bind fun r_=>if(!r_)=true then(Option.map Sum.inr (some 214)) else((aW files i).bind fun x_1=>if 1048576 < ((x_1.2.length:Nat):Int) then(Option.map Sum.inr (some 2)) else(aQ (xX files i) 0))) else(Option.map Sum.inr (some 0))
def Fj (files:PP):A06 :=
  aQ (zN files) (0:Int)
def vY (i:Int):(A08×Int)->Option ((A08×Int)⊕((A08×Int)⊕A08))
  | (l2,dH)=>(Io (decide (0 < dH)) (aW l2 dH)).bind fun aO=>(Io (decide (0 < dH)) (aW l2 (bC (dH - 1)))).bind fun x_1=>if((decide (0 < dH))&&(Op.bytesLess aO.1 x_1.1))=true then((aW l2 dH).bind fun dM=>(aW l2 (bC (dH - 1))).bind fun dP=>(aW l2 dH).bind fun jc=>(aW (l2.set (Int.toNat dH) ((dP.1:AC),(dP.2.1:Int),dP.2.2)) (bC (dH - 1))).bind fun jm=>some (.inl ((l2.set (Int.toNat dH) ((dP.1:AC),(dP.2.1:Int),dP.2.2)).set (Int.toNat (bC (dH - 1))) ((dM.1:AC),(dM.2.1:Int),dM.2.2),bC (dH - 1)))) else(Option.map Sum.inr (some (.inl (l2,bC (i+1)))))
def vZ  : (A08×Int)->Option ((A08×Int)⊕A08)
  | (l1,i)=>if i < ((l1.length:Nat):Int) then(aQ (vY i) (l1,i)) else(Option.map Sum.inr (some l1))
def AB (l:List A02):Option A08 :=
  aQ (vZ) (l,1)
def qj (i:Int)(out1:NE)(Ff:Bool):Option ((NE×Bool×Int)⊕NE) :=
  some (.inl (out1,Ff,bC (i+1)))
def nO (ax:NE)(i:Int)(vF:NE)(done2:Bool):Option ((NE×Bool×Int)⊕NE) :=
  (aW ax i).bind fun x_1=>(app vF ([((x_1.1:AC),x_1.2)]:NE) 40).bind fun UL=>qj i UL done2
def uT (Fg:NE):Option NE :=
  some Fg
def nP (ax:NE)(pJ:AC)(Rk:List A02):(NE×Bool×Int)->Option ((NE×Bool×Int)⊕NE)
  | (out,done,i)=>if i < ((ax.length:Nat):Int) then((Io (!done) (aW ax i)).bind fun aO=>if((!done)&&(Op.bytesLess pJ aO.1))=true then((app out ([((pJ:AC),Rk)]:NE) 40).bind fun OW=>nO ax i OW true) else(nO ax i out done)) else(Option.map Sum.inr (if(!done)=true then((app out ([((pJ:AC),Rk)]:NE) 40).bind fun out6=>uT out6) else(uT out)))
def yM (bQ:Int)(ak:PP)(ax:NE)(pJ:AC)(Rk:List A02):Option NE :=
  aQ (nP ax pJ Rk) (([]:NE),false,0)
def nR (iW:Int)(UO:PP)(Rn:WP):Option ((PP×WP×Int)⊕((PP×A08×Int)⊕(Int×PP×NE))) :=
  some (.inl (UO,Rn,bC (iW+1)))
def ql (bQ:Int)(ak:PP)(ax:NE)(l:List A02)(i:Int)(aO dP:AC×AC)(iC:A04):(PP×WP×Int)->Option ((PP×WP×Int)⊕((PP×A08×Int)⊕(Int×PP×NE)))
  | (BN,entry,iW)=>if iW < ((iC.1.length:Nat):Int) then((aW iC.1 iW).bind fun b=>(uS bQ ak ax b).bind fun jT=>(app entry ([jT]:WP) 16).bind fun b1=>(sH BN jT).bind fun kM=>if 0<=kM then((aW BN kM).bind fun jm=>(aW iC.1 iW).bind fun b2=>(BM jm.2 b2).bind fun rO=>if(!rO)=true then(Option.map Sum.inr (Option.map Sum.inr (some (271,ak,ax)))) else(if kM < 0 then((aW iC.1 iW).bind fun b3=>(Az BN jT b3).bind fun yS=>nR iW yS b1) else(nR iW BN b1))) else(if kM < 0 then((aW iC.1 iW).bind fun b4=>(Az BN jT b4).bind fun Bf=>nR iW Bf b1) else(nR iW BN b1))) else(Option.map Sum.inr ((app l ([((aO.1:AC),(((dP.2.length:Nat):Int):Int),entry)]:List A02) 48).bind fun l1=>some (.inl (BN,l1,bC (i+1)))))
def qm (bQ:Int)(ak:PP)(ax:NE)(name:AC)(files:PP):(PP×A08×Int)->Option ((PP×A08×Int)⊕(Int×PP×NE))
  | (L6,l,i)=>if i < ((files.length:Nat):Int) then((aW files i).bind fun aO=>(aW files i).bind fun dP=>(aW files i).bind fun jc=>(DF jc.2).bind fun iC=>aQ (ql bQ ak ax l i aO dP iC) (L6,([]:WP),0)) else(Option.map Sum.inr ((AB l).bind fun Qc=>(yM bQ L6 ax name Qc).bind fun AX=>some (0,L6,AX)))
def v_ (bQ:Int)(ak:PP)(ax:NE)(name:AC)(files:PP):Option (Int×PP×NE) :=
  (Eo name).bind fun r_=>if(!r_)=true then(some (214,ak,ax)) else((kS bQ ak ax name).bind fun bM=>if 0<=bM then(some (213,ak,ax)) else(if((decide (64<=((ax.length:Nat):Int)))||(decide (256 < ((files.length:Nat):Int))))=true then(some (2,ak,ax)) else((Fj files).bind fun fO=>if fO≠0 then(some (fO,ak,ax)) else(aQ (qm bQ ak ax name files) (ak,([]:List A02),0)))))
def sU (i:Int)(out1:NE):Option ((NE×Int)⊕(Int×NE)) :=
  some (.inl (out1,bC (i+1)))
def sV (ax:NE)(r_:Int):(NE×Int)->Option ((NE×Int)⊕(Int×NE))
  | (out,i)=>if i < ((ax.length:Nat):Int) then(if i≠r_ then((aW ax i).bind fun aO=>(app out ([((aO.1:AC),aO.2)]:NE) 40).bind fun vF=>sU i vF) else(sU i out)) else(Option.map Sum.inr (some (0,out)))
def xY (bQ:Int)(ak:PP)(ax:NE)(snap:AC):Option (Int×NE) :=
  (kS bQ ak ax snap).bind fun r_=>if r_ < 0 then(some (272,ax)) else(aQ (sV ax r_) (([]:NE),0))
def rD (i:Int)(out1:PP):Option ((PP×Int)⊕(Int×PP)) :=
  some (.inl (out1,bC (i+1)))
def rE (ak r_:PP):(PP×Int)->Option ((PP×Int)⊕(Int×PP))
  | (out,i)=>if i < ((ak.length:Nat):Int) then((aW ak i).bind fun aO=>(sH r_ aO.1).bind fun bM=>if 0<=bM then((aW ak i).bind fun dM=>(app out ([((dM.1:AC),dM.2)]:PP) 40).bind fun vF=>rD i vF) else(rD i out)) else(Option.map Sum.inr (some (bC (((ak.length:Nat):Int) - ((out.length:Nat):Int)),out)))
def wX (bQ:Int)(ak:PP)(ax:NE):Option (Int×PP) :=
  (wU bQ ak ax).bind fun r_=>aQ (rE ak r_) (([]:PP),0)
def sW (aT:Int)(af:A0E)(ah:A0F)(digest:AC):Option (Int×Int×A0E) :=
  (dm aT af ah).bind fun r_=>(Option.elim (bn af digest) (some (270,r_,af)) (fun bM=>some (0,r_,xy af digest)))
def sZ (i:Int)(out1:PP):Option ((PP×Int)⊕(Int×PP)) :=
  some (.inl (out1,bC (i+1)))
def tu (ak:PP)(r_:Int):(PP×Int)->Option ((PP×Int)⊕(Int×PP))
  | (out,i)=>if i < ((ak.length:Nat):Int) then(if i≠r_ then((aW ak i).bind fun aO=>(app out ([((aO.1:AC),aO.2)]:PP) 40).bind fun vF=>sZ i vF) else(sZ i out)) else(Option.map Sum.inr (some (0,out)))
def xZ (bQ:Int)(ak:PP)(ax:NE)(digest:AC):Option (Int×PP) :=
  (sH ak digest).bind fun r_=>if r_ < 0 then(some (270,ak)) else(aQ (tu ak r_) (([]:PP),0))
def yV (aT:Int)(af:A0E)(ah:A0F)(dX:Int)(bJ:PP)(bK:NE)(Gv:AC):Option (Bool×Int×A0E×Int×PP×NE) :=
  (sW aT af ah Gv).bind fun bM=>(xZ dX bJ bK Gv).bind fun fO=>some (decide (bM.1=fO.1),bM.2.1,bM.2.2,dX,fO.2,bK)
def yX (aT:Int)(af:A0E)(ah:A0F)(dX:Int)(bJ:PP)(bK:NE)(at_:Int)(digest:AC):Option (Bool×Int×A0E×Int×PP×NE) :=
  if(Int.tmod at_ 5)=0 then((OL digest 0 (bC (((digest.length:Nat):Int) - 1))).bind fun b=>yV aT af ah dX bJ bK b) else(yV aT af ah dX bJ bK digest)
def Hm (aT:Int)(af:A0E)(ah:A0F)(dX:Int)(bJ:PP)(bK:NE)(at_:Int):Option (Bool×Int×A0E×Int×PP×NE) :=
  if 0 < ((bJ.length:Nat):Int) then((BK at_ ((bJ.length:Nat):Int)).bind fun r_=>(aW bJ r_).bind fun aO=>(need (aO.1.length<=140737488355328)).bind fun u=>yX aT af ah dX bJ bK at_ aO.1) else(yX aT af ah dX bJ bK at_ ([1]:AC))
def zO (aO:Int)(jm:AC×AC):(PP×Int)->Option ((PP×Int)⊕((PP×Int)⊕(Bool×Int×A0E×A0F×Int×PP×NE)))
  | (a_1,pz)=>if pz < ((jm.2.length:Nat):Int) then((aW a_1 aO).bind fun ni=>(aW a_1 aO).bind fun Dq=>(aW Dq.2 pz).bind fun C_=>(aW ni.2 pz).bind fun uz=>some (.inl (a_1.set (Int.toNat aO) (ni.1,ni.2.set (Int.toNat pz) (255^^^C_)),bC (pz+1)))) else(Option.map Sum.inr (some (.inl (a_1,bC (aO+1)))))
def zQ (dX:Int)(bJ:PP)(bK:NE)(fM:AC)(r_:(PP×PP))(bM:(Int×Int×A0E×A0F)):(PP×Int)->Option ((PP×Int)⊕(Bool×Int×A0E×A0F×Int×PP×NE))
  | (a_,aO)=>if aO < ((r_.1.length:Nat):Int) then((aW a_ aO).bind fun jm=>aQ (zO aO jm) (a_,0)) else(Option.map Sum.inr ((v_ dX bJ bK fM r_.2).bind fun fO=>some (decide (bM.1=fO.1),bM.2.1,bM.2.2.1,bM.2.2.2,dX,fO.2.1,fO.2.2)))
def Fp (aT:Int)(af:A0E)(ah:A0F)(dX:Int)(bJ:PP)(bK:NE)(dQ:Int)(fM jr:AC)(iF:PP)(xA:Int):Option (Bool×Int×A0E×A0F×Int×PP×NE) :=
  if dQ=0 then((Fh iF).bind fun r_=>(qh aT af ah fM r_.1).bind fun bM=>aQ (zQ dX bJ bK fM r_ bM) (r_.1,0)) else(if dQ=4 then((mY aT af ah fM).bind fun iC=>(xY dX bJ bK fM).bind fun jT=>some (decide (iC.1=jT.1),iC.2.1,af,iC.2.2,dX,bJ,jT.2)) else(if dQ=5 then((ru aT af ah).bind fun kM=>(wX dX bJ bK).bind fun rO=>some (decide (kM.1=rO.1),kM.2.1,kM.2.2,ah,dX,rO.2,bK)) else((Hm aT af ah dX bJ bK xA).bind fun yS=>some (yS.1,yS.2.1,yS.2.2.1,ah,yS.2.2.2.1,yS.2.2.2.2.1,yS.2.2.2.2.2))))
def rG (ak:PP)(wY:WP):A00->Option (A00⊕A00)
  | (b,i)=>if i < ((wY.length:Nat):Int) then((aW wY i).bind fun aO=>(sH ak aO).bind fun r_=>if r_ < 0 then(Option.map Sum.inr (some (([]:AC),270))) else((aW ak r_).bind fun dM=>(app b dM.2 1).bind fun b1=>some (.inl (b1,bC (i+1))))) else(Option.map Sum.inr (some (b,0)))
def wZ (bQ:Int)(ak:PP)(ax:NE)(UQ:AC)(UR:Int)(wY:WP):Option A00 :=
  aQ (rG ak wY) (([]:AC),0)
def uU (bQ:Int)(ak:PP)(ax:NE)(name:AC)(r_:Int):Int->Option (Int⊕A00)
  | iK=>(aW ax r_).bind fun aO=>if iK < ((aO.2.length:Nat):Int) then((aW ax r_).bind fun dM=>(aW dM.2 iK).bind fun dP=>if dP.1=name then((wZ bQ ak ax dP.1 dP.2.1 dP.2.2).bind fun bM=>Option.map Sum.inr (some (bM.1,bM.2))) else(some (.inl (bC (iK+1))))) else(Option.map Sum.inr (some (([]:AC),273)))
def yN (bQ:Int)(ak:PP)(ax:NE)(snap name:AC):Option A00 :=
  (kS bQ ak ax snap).bind fun r_=>if r_ < 0 then(some (([]:AC),272)) else(aQ (uU bQ ak ax name r_) 0)
def pX (l:List A02)(aO:Int)(dP:AC)(e_:Int×AC)(iC:A04):A04->Option (A04⊕((Int×A08×Int)⊕(A08×Int×Int)))
  | (QU,jc)=>if jc < ((iC.1.length:Nat):Int) then((aW iC.1 jc).bind fun jm=>(need (jm.length<=140737488355328)).bind fun u=>(app QU ([jm]:WP) 24).bind fun b1=>some (.inl (b1,bC (jc+1)))) else(Option.map Sum.inr ((app l ([((dP:AC),(e_.1:Int),QU)]:List A02) 48).bind fun l1=>some (.inl (iC.2,l1,bC (aO+1)))))
def pY (af:A0E)(ah:A0F)(bM:Mp WF)(fO:WP):(Int×A08×Int)->Option ((Int×A08×Int)⊕(A08×Int×Int))
  | (d,l,aO)=>if aO < ((fO.length:Nat):Int) then((aW fO aO).bind fun dP=>(some ((bn bM dP).getD (0,([]:AC)))).bind fun e_=>(some ((bn bM dP).getD (0,([]:AC)))).bind fun Rj=>(oh d af ah Rj.2).bind fun iC=>aQ (pX l aO dP e_ iC) (([]:WP),0)) else(Option.map Sum.inr (some (l,0,d)))
def tC (aT:Int)(af:A0E)(ah:A0F)(snap:AC):Option (A08×Int×Int) :=
  (dm aT af ah).bind fun r_=>(Option.elim (bn ah snap) (some (([]:List A02),272,r_)) (fun bM=>(lK bM).bind fun fO=>aQ (pY af ah bM fO) (r_,([]:List A02),0)))
def tH (l:List A02)(iK:Int)(dP:AC×Int×WP):A04->Option (A04⊕((A08×Int)⊕(A08×Int)))
  | (jc,j)=>if j < ((dP.2.2.length:Nat):Int) then((aW dP.2.2 j).bind fun jm=>(need (jm.length<=140737488355328)).bind fun u=>(app jc ([jm]:WP) 24).bind fun b=>some (.inl (b,bC (j+1)))) else(Option.map Sum.inr ((app l ([((dP.1:AC),(dP.2.1:Int),jc)]:List A02) 48).bind fun l1=>some (.inl (l1,bC (iK+1)))))
def xE (ax:NE)(r_:Int):(A08×Int)->Option ((A08×Int)⊕(A08×Int))
  | (l,iK)=>(aW ax r_).bind fun aO=>if iK < ((aO.2.length:Nat):Int) then((aW ax r_).bind fun dM=>(aW dM.2 iK).bind fun dP=>aQ (tH l iK dP) (([]:WP),0)) else(Option.map Sum.inr (some (l,0)))
def x8 (bQ:Int)(ak:PP)(ax:NE)(snap:AC):Option (A08×Int) :=
  (kS bQ ak ax snap).bind fun r_=>if r_ < 0 then(some (([]:List A02),272)) else(aQ (xE ax r_) (([]:List A02),0))
def x9 (a_ b:List A02):Int->Option (Int⊕Bool)
  | i=>if i < ((a_.length:Nat):Int) then((aW a_ i).bind fun aO=>(aW b i).bind fun x_1=>(Io (!(decide (aO.1≠x_1.1))) (aW a_ i)).bind fun dM=>(Io (!(decide (aO.1≠x_1.1))) (aW b i)).bind fun dP=>if((decide (aO.1≠x_1.1))||(decide (dM.2.1≠dP.2.1)))=true then(Option.map Sum.inr (some false)) else((aW a_ i).bind fun jc=>(aW b i).bind fun jm=>(CQ jc.2.2 jm.2.2).bind fun r_=>if(!r_)=true then(Option.map Sum.inr (some false)) else(some (.inl (bC (i+1)))))) else(Option.map Sum.inr (some true))
def Bh (a_ b:List A02):Option Bool :=
  if((a_.length:Nat):Int)≠((b.length:Nat):Int) then(some false) else(aQ (x9 a_ b) 0)
def zS (jd jy:WP):Int->Option (Int⊕Bool)
  | i=>if i < ((jd.length:Nat):Int) then((aW jd i).bind fun aO=>(aW jy i).bind fun x_1=>if aO≠x_1 then(Option.map Sum.inr (some false)) else(some (.inl (bC (i+1))))) else(Option.map Sum.inr (some true))
def Fq (UT:AC)(UU:Int)(jd:WP)(UW:AC)(UX:Int)(jy:WP):Option Bool :=
  if((jd.length:Nat):Int)≠((jy.length:Nat):Int) then(some false) else(aQ (zS jd jy) 0)
def qf (dP y_:Int)(OW:WP):Option ((WP×Int×Int)⊕A04) :=
  some (.inl (OW,bC (dP+1),bC (y_+1)))
def jq (aO dM:AC×A08):(WP×Int×Int)->Option ((WP×Int×Int)⊕A04)
  | (out,dP,y_)=>if((decide (dP < ((aO.2.length:Nat):Int)))||(decide (y_ < ((dM.2.length:Nat):Int))))=true then((Io (!(decide (y_=((dM.2.length:Nat):Int)))) (Io (decide (dP < ((aO.2.length:Nat):Int))) (aW aO.2 dP))).bind fun jc=>(Io (!(decide (y_=((dM.2.length:Nat):Int)))) (Io (decide (dP < ((aO.2.length:Nat):Int))) (aW dM.2 y_))).bind fun jm=>if((decide (y_=((dM.2.length:Nat):Int)))||((decide (dP < ((aO.2.length:Nat):Int)))&&(Op.bytesLess jc.1 jm.1)))=true then((aW aO.2 dP).bind fun pz=>(need (([45]:AC).length+pz.1.length<=9223372036854775807)).bind fun u=>(app out ([([45]:AC)++pz.1]:WP) 16).bind fun out1=>some (.inl (out1,bC (dP+1),y_))) else((Io (!(decide (dP=((aO.2.length:Nat):Int)))) (aW dM.2 y_)).bind fun ni=>(Io (!(decide (dP=((aO.2.length:Nat):Int)))) (aW aO.2 dP)).bind fun Dq=>if((decide (dP=((aO.2.length:Nat):Int)))||(Op.bytesLess ni.1 Dq.1))=true then((aW dM.2 y_).bind fun C_=>(need (([43]:AC).length+C_.1.length<=9223372036854775807)).bind fun u1=>(app out ([([43]:AC)++C_.1]:WP) 16).bind fun vF=>some (.inl (vF,dP,bC (y_+1)))) else((aW aO.2 dP).bind fun uz=>(aW dM.2 y_).bind fun sF=>(Fq uz.1 uz.2.1 uz.2.2 sF.1 sF.2.1 sF.2.2).bind fun fO=>if(!fO)=true then((aW aO.2 dP).bind fun GY=>(need (([61]:AC).length+GY.1.length<=9223372036854775807)).bind fun u2=>(app out ([([61]:AC)++GY.1]:WP) 16).bind fun UL=>qf dP y_ UL) else(qf dP y_ out)))) else(Option.map Sum.inr (some (out,0)))
def uV (bQ:Int)(ak:PP)(ax:NE)(from_ to:AC):Option A04 :=
  (kS bQ ak ax from_).bind fun r_=>(kS bQ ak ax to).bind fun bM=>if((decide (r_ < 0))||(decide (bM < 0)))=true then(some (([]:WP),272)) else((aW ax r_).bind fun aO=>(aW ax bM).bind fun dM=>aQ (jq aO dM) (([]:WP),0,0))
def qL (n bytes:Int):Option AC :=
  (CO (UInt64.ofInt n) bytes).bind fun r_=>some r_
def tJ (vG:Int)(ni:AC×Int×WP):A00->Option (A00⊕(A00⊕(A00⊕AC)))
  | (b14,j)=>if j < ((ni.2.2.length:Nat):Int) then((aW ni.2.2 j).bind fun Dq=>(app b14 Dq 1).bind fun b15=>some (.inl (b15,bC (j+1)))) else(Option.map Sum.inr (some (.inl (b14,bC (vG+1)))))
def tK (ax:NE)(i1:Int):A00->Option (A00⊕(A00⊕AC))
  | (b9,vG)=>(aW ax i1).bind fun jm=>if vG < ((jm.2.length:Nat):Int) then((aW ax i1).bind fun pz=>(aW pz.2 vG).bind fun ni=>(app b9 ([UInt8.ofInt (ni.1.length:Int)]:AC) 1).bind fun b10=>(app b10 ni.1 1).bind fun b11=>(qL ni.2.1 4).bind fun jT=>(app b11 jT 1).bind fun b12=>(qL ((ni.2.2.length:Nat):Int) 4).bind fun kM=>(app b12 kM 1).bind fun b13=>aQ (tJ vG ni) (b13,0)) else(Option.map Sum.inr (some (.inl (b9,bC (i1+1)))))
def tN (ax:NE):A00->A09
  | (b5,i1)=>if i1 < ((ax.length:Nat):Int) then((aW ax i1).bind fun dM=>(app b5 ([UInt8.ofInt (dM.1.length:Int)]:AC) 1).bind fun b6=>(aW ax i1).bind fun dP=>(app b6 dP.1 1).bind fun b7=>(aW ax i1).bind fun jc=>(qL ((jc.2.length:Nat):Int) 4).bind fun iC=>(app b7 iC 1).bind fun b8=>aQ (tK ax i1) (b8,0)) else(Option.map Sum.inr (some b5))
def xG (ak:PP)(ax:NE):A00->A09
  | (b1,i)=>if i < ((ak.length:Nat):Int) then((aW ak i).bind fun aO=>(qL ((aO.2.length:Nat):Int) 2).bind fun bM=>(app b1 bM 1).bind fun b2=>(aW ak i).bind fun x_1=>(app b2 x_1.2 1).bind fun b3=>some (.inl (b3,bC (i+1)))) else(Option.map Sum.inr ((qL ((ax.length:Nat):Int) 4).bind fun fO=>(app b1 fO 1).bind fun b4=>aQ (tN ax) (b4,0)))
def qw (bQ:Int)(ak:PP)(ax:NE):Option AC :=
  (qL ((ak.length:Nat):Int) 4).bind fun r_=>(app ([68,81,1,UInt8.ofInt bQ]:AC) r_ 1).bind fun b=>aQ (xG ak ax) (b,0)
def zT (dX:Int)(bJ:PP)(bK:NE)(r_:(AC×Int×Int))(bM:A00)(fO:Bool):A00->Option (A00⊕(Bool×Int×Int×PP×NE))
  | (a_,aO)=>if aO < ((r_.1.length:Nat):Int) then((aW a_ aO).bind fun jm=>(aW a_ aO).bind fun pz=>some (.inl (a_.set (Int.toNat aO) (255^^^jm),bC (aO+1)))) else(Option.map Sum.inr (some (fO&&(decide (r_.2.1=bM.2)),r_.2.2,dX,bJ,bK)))
def zU (dX:Int)(bJ:PP)(bK:NE)(iC:(A08×Int×Int)):(Bool×Int)->Option ((Bool×Int)⊕(Bool×Int×Int×PP×NE))
  | (ok,ni)=>if ni < ((iC.1.length:Nat):Int) then(if ok=true then((aW iC.1 ni).bind fun Dq=>(Em Dq.2.2).bind fun rO=>some (.inl (rO,bC (ni+1)))) else none) else(Option.map Sum.inr (some (ok,iC.2.2,dX,bJ,bK)))
def Fv (aT:Int)(af:A0E)(ah:A0F)(dX:Int)(bJ:PP)(bK:NE)(dQ:Int)(fM jr:AC)(iF:PP)(xA:Int):Option (Bool×Int×Int×PP×NE) :=
  if dQ=1 then((uQ aT af ah fM jr).bind fun r_=>(yN dX bJ bK fM jr).bind fun bM=>(uM r_.1 bM.1).bind fun fO=>aQ (zT dX bJ bK r_ bM fO) (r_.1,0)) else(if dQ=2 then((tC aT af ah fM).bind fun iC=>(x8 dX bJ bK fM).bind fun jT=>(Bh iC.1 jT.1).bind fun kM=>aQ (zU dX bJ bK iC) (kM&&(decide (iC.2.1=jT.2)),0)) else(if dQ=3 then((nX aT af ah).bind fun yS=>(xW dX bJ bK).bind fun Bf=>(zM yS.1 Bf.1).bind fun Qc=>some (Qc,yS.2,Bf.2.1,Bf.2.2.1,Bf.2.2.2)) else(if dQ=7 then((o7 aT af ah).bind fun AX=>(sQ dX bJ bK).bind fun UN=>(CQ AX.1 UN).bind fun Qd=>if Qd=true then((Em AX.1).bind fun Yc=>some (Yc,AX.2,dX,bJ,bK)) else none) else(if dQ=8 then((kN aT af ah fM jr).bind fun KW=>(uV dX bJ bK fM jr).bind fun Ob=>(zM KW.1 Ob.1).bind fun Yd=>some (Yd&&(decide (KW.2.1=Ob.2)),KW.2.2,dX,bJ,bK)) else(if dQ=9 then((nY aT af ah).bind fun UY=>(rY dX bJ bK).bind fun V6=>(AA UY.1 UY.2.1 UY.2.2.1 UY.2.2.2.1 UY.2.2.2.2.1 UY.2.2.2.2.2.1 V6.1 V6.2.1 V6.2.2.1 V6.2.2.2.1 V6.2.2.2.2.1 V6.2.2.2.2.2).bind fun Ye=>some (Ye,UY.2.2.2.2.2.2,dX,bJ,bK)) else((lQ aT af ah).bind fun r_20=>(qw dX bJ bK).bind fun r_21=>(uM r_20.1 r_21).bind fun r_22=>some (r_22,r_20.2,dX,bJ,bK)))))))
def I5 (aT:Int)(af:A0E)(ah:A0F)(dX:Int)(bJ:PP)(bK:NE):A0D :=
  some (Sum.inl (aT,af,ah,true,dX,bJ,bK))
def mD (aT:Int)(af:A0E)(ah:A0F)(dX:Int)(bJ:PP)(bK:NE)(dQ:Int)(fM jr:AC)(iF:PP)(xA:Int)(KU:Bool):A0D :=
  if KU=true then((Fv aT af ah dX bJ bK dQ fM jr iF xA).bind fun bM=>some (Sum.inl (bM.2.1,af,ah,bM.1,bM.2.2.1,bM.2.2.2.1,bM.2.2.2.2))) else(if dQ=11 then((lQ aT af ah).bind fun fO=>(Aw fO.1).bind fun iC=>(Sum.elim (fun jT=>(mY fO.2 af ah fM).bind fun rO=>some (Sum.inr (Sum.inl (rO.2.1,rO.2.2,dX,bJ,bK)))) (fun kM=>(mY fO.2 af ah fM).bind fun yS=>some (Sum.inr (Sum.inr (kM.1,kM.2.1,kM.2.2,decide (0=0),yS.2.1,yS.2.2,dX,bJ,bK))))) iC) else(I5 aT af ah dX bJ bK))
def qM (aT:Int)(af:A0E)(ah:A0F)(dX:Int)(bJ:PP)(bK:NE)(dQ:Int)(fM jr:AC)(iF:PP)(xA:Int)(aO:Bool):A0D :=
  if aO=true then((Fp aT af ah dX bJ bK dQ fM jr iF xA).bind fun r_=>some (Sum.inl (r_.2.1,r_.2.2.1,r_.2.2.2.1,r_.1,r_.2.2.2.2.1,r_.2.2.2.2.2.1,r_.2.2.2.2.2.2))) else(if dQ=1 then(mD aT af ah dX bJ bK dQ fM jr iF xA (decide (dQ=1))) else(if dQ=2 then(mD aT af ah dX bJ bK dQ fM jr iF xA (decide (dQ=2))) else(if dQ=3 then(mD aT af ah dX bJ bK dQ fM jr iF xA (decide (dQ=3))) else(if dQ=7 then(mD aT af ah dX bJ bK dQ fM jr iF xA (decide (dQ=7))) else(if dQ=8 then(mD aT af ah dX bJ bK dQ fM jr iF xA (decide (dQ=8))) else(if dQ=9 then(mD aT af ah dX bJ bK dQ fM jr iF xA (decide (dQ=9))) else(mD aT af ah dX bJ bK dQ fM jr iF xA (decide (dQ=10)))))))))
def Ep (aT:Int)(af:A0E)(ah:A0F)(dX:Int)(bJ:PP)(bK:NE)(dQ:Int)(fM jr:AC)(iF:PP)(xA:Int):A0D :=
  if dQ=0 then(qM aT af ah dX bJ bK dQ fM jr iF xA (decide (dQ=0))) else(if dQ=4 then(qM aT af ah dX bJ bK dQ fM jr iF xA (decide (dQ=4))) else(if dQ=5 then(qM aT af ah dX bJ bK dQ fM jr iF xA (decide (dQ=5))) else(qM aT af ah dX bJ bK dQ fM jr iF xA (decide (dQ=6)))))
def tV (script:List (Int×AC×AC×PP×Int)):(Int×A0E×A0F×Int×PP×NE×Int)->Option ((Int×A0E×A0F×Int×PP×NE×Int)⊕Bool)
  | (d,m_,GI,jT,kM,rO,aO)=>if aO < ((script.length:Nat):Int) then((aW script aO).bind fun x_1=>(Ep d m_ GI jT kM rO x_1.1 x_1.2.1 x_1.2.2.1 x_1.2.2.2.1 x_1.2.2.2.2).bind fun yS=>(Sum.elim (fun Bf=>if(!Bf.2.2.2.1)=true then(Option.map Sum.inr (some false)) else(some (.inl (Bf.1,Bf.2.1,Bf.2.2.1,Bf.2.2.2.2.1,Bf.2.2.2.2.2.1,Bf.2.2.2.2.2.2,bC (aO+1))))) (Sum.elim (fun Qc=>Option.map Sum.inr (some false)) (fun AX=>if(!AX.2.2.2.1)=true then(Option.map Sum.inr (some false)) else(some (.inl (AX.1,AX.2.1,AX.2.2.1,AX.2.2.2.2.2.2.1,AX.2.2.2.2.2.2.2.1,AX.2.2.2.2.2.2.2.2,bC (aO+1))))))) yS) else(Option.map Sum.inr ((lQ d m_ GI).bind fun UN=>(qw jT kM rO).bind fun Qd=>(uM UN.1 Qd).bind fun Yc=>if Yc=true then((nY UN.2 m_ GI).bind fun KW=>(rY jT kM rO).bind fun Ob=>(AA KW.1 KW.2.1 KW.2.2.1 KW.2.2.2.1 KW.2.2.2.2.1 KW.2.2.2.2.2.1 Ob.1 Ob.2.1 Ob.2.2.1 Ob.2.2.2.1 Ob.2.2.2.2.1 Ob.2.2.2.2.2).bind fun Yd=>if Yd=true then((nX KW.2.2.2.2.2.2 m_ GI).bind fun UY=>(xW jT kM rO).bind fun V6=>(zM UY.1 V6.1).bind fun Ye=>some Ye) else(some false)) else(some false)))
def AL (size:Int)(script:List (Int×AC×AC×PP×Int)):Option Bool :=
  (Fe).bind fun r_=>if(!r_)=true then(some false) else((II size).bind fun bM=>(Sum.elim (fun fO=>if((decide (size < 1))||(decide (64 < size)))=true then(some (decide (1=1))) else(some false)) (fun iC=>if((decide (size < 1))||(decide (64 < size)))=true then(some false) else(if 0≠0 then(some false) else(aQ (tV script) (iC.1,iC.2.1,iC.2.2,size,([]:PP),([]:NE),0))))) bM)
end
section
set_option linter.unusedSimpArgs false
set_option linter.unusedVariables false
section
variable {α β σ ρ:Type}{P:Program}{n:Nat}{Q:Exit->Act->World->Prop}{ops:Array Oper}{L L':St}{w w0:World}{os:List SV}{cs:List Cond}{F O:Nat->Prop}{hs:List HP}{rest:List Oper}
theorem Wa {id:Nat}{l:List Oper}{y:Code}(b:Bl L L')(q:Ask os cs w)(h:W P n y Q L' w)(hs:(evs P n l.toArray [] l (Kn L) os).map (fun r=>(L'.map fun e=>(look r.1 e.1).map fun e=>(e.g,e.x.val),r.2.1,r.2.2))=some (L'.map fun p=>some (none,p.2.val),cs,[]):=by kernel_rfl):W P n (.region id l.toArray false) (Exit.then (y.wp P Q) Q) L w:=PR [] b q hs (ay h)
theorem Wq {id:Nat}{l:List Oper}{y:Code}(b:Bl L L')(h:W P n y Q L' w)(hs:(evs P n l.toArray [] l (Kn L) []).map (fun r=>(L'.map fun e=>(look r.1 e.1).map fun e=>(e.g,e.x.val),r.2.1,r.2.2))=some (L'.map fun p=>some (none,p.2.val),[],[]):=by kernel_rfl):W P n (.region id l.toArray false) (Exit.then (y.wp P Q) Q) L w:=Wa b qe h hs
theorem Wl {l:List Oper}(k:Nat)(b:Bl L L')(q:Ask os cs w)(h:WL P n ops Q (l.drop k) L' w)(hs:(evs P n ops [] (l.take k) (Kn L) os).map (fun r=>(L'.map fun e=>(look r.1 e.1).map fun e=>(e.g,e.x.val),r.2.1,r.2.2))=some (L'.map fun p=>some (none,p.2.val),cs,[]):=by kernel_rfl):WL P n ops Q l L w:=J4 k [] b q hs h
theorem We {l:List Oper}(k:Nat)(b:Bl L L')(h:WL P n ops Q (l.drop k) L' w)(hs:(evs P n ops [] (l.take k) (Kn L) []).map (fun r=>(L'.map fun e=>(look r.1 e.1).map fun e=>(e.g,e.x.val),r.2.1,r.2.2))=some (L'.map fun p=>some (none,p.2.val),[],[]):=by kernel_rfl):WL P n ops Q l L w:=J4 k [] b qe hs h
theorem Wn {ops:Array Oper}{y:Code}(h:W P n y Q L w):WL P n ops (Exit.then (y.wp P Q) Q) [] L w:=dY (ay h)
theorem gB {f:FuncId}{fn:Func}{c:Code}{R:Ending->World->Prop}(xs:List SV)(hf:P.funcs[f]?=some fn)(hb:fn.body=some c)(h:W P fn.ntmps c (bodyPost P fn R) (numbered 0 xs) w)(hn:decide (xs.length<=fn.ntmps)=true:=by kernel_rfl):Calls P f (vals xs) w R:=calls xs hf hb (of_decide_eq_true hn) h
theorem aN {fn:Func}{R:Ending->World->Prop}(xs:List SV)(q:Ask os cs w)(h:R (.returned (WH xs).val) w)(hr:Tu P fn.results.toList L os=some (xs,cs,[]):=by kernel_rfl):At n (bodyPost P fn R .ret) L w:=At_rt xs q hr h
theorem fQ {Q:Exit->Act->World->Prop}{K:St->World->Prop}(h:K L' w)(hk:L'.map (fun p=>(find L p.1).map SV.val)=L'.map (fun p=>some p.2.val):=by kernel_rfl):At n (Exit.then (fun a w=>∃ L,Fu n a (Kn L)/\K L w) Q .normal) L w:=At_c h hk
theorem si {a b:α}(h:some a=some b):a=b:=Option.some.inj h
theorem fU {p:Nat}{Ls:A01}{C:List (World->Prop)}{Q:Act->World->Prop}{π:MT}{listed:Array Bool}(k m:Nat)(b:Bl L L')(q:∀ w,cls C m w->Ask os cs w)
    (h:∀ listed',MX P n ops Ls C Q (π.drop k) p listed' (Kn L') w) (hs:((qops ops m k π).bind fun l=>evs P n ops [] l (Kn L) os).map (fun r=>(L'.map fun e=>(look r.1 e.1).map fun e=>(e.g,e.x.val),r.2.1,r.2.2))=some (L'.map fun p=>some (none,p.2.val),cs,[]):=by kernel_rfl):MX P n ops Ls C Q π p listed (Kn L) w:=Q7 k m [] b q hs h
theorem bT {K:St->World->Prop}{dst:A03}{f:FuncId}{xs:Array Operand}{ats:Array TypeId}{ty:TypeId}{pos:String}{jf:Array Edge}{g:UV}(d:Nat){svs:List SV}{R:Ending->World->Prop}(hgo:gy P f)(hc:Calls P f (vals svs) w R)
    (hk:∀ e w',R e w'->∃ x,e=.returned x.val/\K ((d,x)::L) w')
    (hs:(y7 ops [] L ⟨dst,.call ⟨.value (.func f),xs,ats⟩,ty,pos,jf,g⟩,dst,(decide (d < n)),(L.any fun p=>p.1 == d),(toSS xs.toList (lk L)).map SV.vals)=(true,some d,true,false,some (SV.vals svs)):=by kernel_rfl) :
    yE P n ops L w ⟨dst,.call ⟨.value (.func f),xs,ats⟩,ty,pos,jf,g⟩ K:=oK [] d svs hgo hs hc hk
theorem ja {K:St->World->Prop}{ty t:TypeId}{p x:Operand}{pos:String}{jf:Array Edge}{g:UV}(i:Nat){pa:EQ}(sv:SV)(svs:List SV){bt:TypeId}{b:Nat}{ys zs:List SV}{off:Nat}
    (hp:Pt (some ⟨b,0,none⟩) off pa) (k:Cx F O w0 w hs) (hi:hs[i]?=some (Bx bt b ys)) (md:Mid svs ys zs)
    (hk:∀ w',Cx F O w0 w' (hs.set i (Bx bt b zs))->K L w')
    (hside:(y7 ops [] L (⟨none,.store t p x,ty,pos,jf,g⟩:Oper),(none:A03),(toSS [p,x] (lk L)).map SV.vals,D9 P t,cellsS sv,svs.all SV.one1)=(true,none,some [.pointer pa,sv.val],some (SV.width svs),some svs,true):=by kernel_rfl)
    (hz:(putS off (SV.width svs) svs ys).map SV.cl=some (SV.cl zs):=by kernel_rfl) :
    yE P n ops L w ⟨none,.store t p x,ty,pos,jf,g⟩ K:=Op_b [] i sv svs hp k hi md hside hz hk
theorem qE {K:St->World->Prop}{ty t:TypeId}{p x:Operand}{pos:String}{jf:Array Edge}{g:UV}{E:Enc α}(i:Nat){pa:EQ}(sv:SV)(svs:List SV){bt:TypeId}{b m o o':Nat}{x0 x1:Vec α m}{ys zs:List SV}{j:Int}{e0 y:α}
    (hv:zA x0 j y=x1) (hx:aW x0.l j=some e0) (hp:Pt (some ⟨b,0,none⟩) (o'+(j.toNat*E.sz+0)) pa) (k:Cx F O w0 w hs) (hi:hs[i]?=some (Bx bt b ys)) (vu:Vup ys E x0 x1 o zs) (hy:E.f y=pat (E.f e0) 0 (SV.cl svs))
    (hk:∀ w',Cx F O w0 w' (hs.set i (Bx bt b zs))->K L w')
    (hside:(y7 ops [] L (⟨none,.store t p x,ty,pos,jf,g⟩:Oper),(none:A03),(toSS [p,x] (lk L)).map SV.vals,D9 P t,cellsS sv,svs.all SV.one1,o')=(true,none,some [.pointer pa,sv.val],some (SV.width svs),some svs,true,o):=by kernel_rfl)
    (hl:Nat.ble (0+SV.width svs) E.sz=true:=by kernel_rfl) :
    yE P n ops L w ⟨none,.store t p x,ty,pos,jf,g⟩ K:=Op_vs (kk:=0) [] i sv svs hv hx hp k hi vu hy hside hl hk
end
end
section
set_option linter.unusedSimpArgs false
set_option linter.unusedVariables false
section
variable {α β γ σ ρ:Type}{P:Program}{n:Nat}{Q:Exit->Act->World->Prop}{ops:Array Oper}{L L':St}{w w0:World}{os:List SV}{cs:List Cond}{F O:Nat->Prop}{hs:List HP}{rest:List Oper}
theorem bD {G:Prop}{a:Option α}{f:α->Option β}{r:β}(h:a.bind f=some r)(k:∀ x,a=some x->f x=some r->G):G:=by
  obtain⟨x,h1,h2⟩:=ob h;exact k x h1 h2
theorem dE {k:Nat}{x y:Code}{p:Prop}[hd:Decidable p]{a b:Option γ}{r:γ}(hm:(if p then a else b)=some r)(h1:p->a=some r->W P n x Q L w)(h2:¬ p->b=some r->W P n y Q L w)(hf:find L k=some (.b (decide p)):=by kernel_rfl):W P n (.cond (.tmp k) x y) Q L w :=
  W_condp p hf (fun h=>h1 h (by rwa [if_pos h] at hm)) (fun h=>h2 h (by rwa [if_neg h] at hm))
theorem kF {k:Nat}{x y:Code}{c:Bool}{a b:Option γ}{r:γ}(hm:(if c=true then a else b)=some r)(h1:c=true->a=some r->W P n x Q L w)(h2:c=false->b=some r->W P n y Q L w)(hf:find L k=some (.b c):=by kernel_rfl):W P n (.cond (.tmp k) x y) Q L w :=
  XN c hf (fun h=>h1 h (by rwa [if_pos h] at hm)) (fun h=>h2 h (by rwa [if_neg (by rw[h];decide)] at hm))
theorem jv {c:Code}{step:σ->Option (σ⊕ρ)}{s0:σ}{r:ρ}(hm:aQ step s0=some r)(rel:σ->St->World->Prop)(h0:rel s0 L' w0)
    (hb:∀ s L w y,rel s L w->step s=some y->(∀ r',y=.inr r'->r'=r)->W P n c (Exit.then (fun a w=>∃ s' L',y=.inl s'/\Fu n a (Kn L')/\rel s' L' w) Q) L w)
    (hk:L'.map (fun p=>(find L p.1).map SV.val)=L'.map (fun p=>some p.2.val):=by kernel_rfl):W P n (.loop c) Q L w0:=W_lp step rel s0 r hm h0 hk hb
theorem fF {Q:Exit->Act->World->Prop}{rel:σ->St->World->Prop}{y:σ⊕ρ}{v:σ}(hm:some (.inl v)=some y)(h:rel v L' w)(hk:L'.map (fun p=>(find L p.1).map SV.val)=L'.map (fun p=>some p.2.val):=by kernel_rfl):At n (Exit.then (fun a w=>∃ s' L',y=.inl s'/\Fu n a (Kn L')/\rel s' L' w) Q .normal) L w :=
  At_rd v (Option.some.inj hm).symm h hk
theorem lY:Cx N0 N0 w w []:=Cx.refl _
theorem gG {t:TypeId}{g:Nat}{ys:List SV}(k:Cx F O w0 w hs)(i:Nat)(hi:hs[i]?=some (Bx t g ys))(off:Nat)(v:SV)(r:Ask os cs w)(h:(cellS off ys).map SV.val=some v.val:=by kernel_rfl):Ask (v::os) (dC (some ⟨g,off,none⟩) v::cs) w:=qB k i hi off v h r
theorem AZ {t:TypeId}{g:Nat}{ys:List SV}(k:Cx F O w0 w hs)(i:Nat)(hi:hs[i]?=some (Bx t g ys))(off m:Nat)(zs:List SV)(r:Ask os cs w)(h:(QX off m ys).map SV.cl=some (SV.cl zs):=by kernel_rfl)(hm:0 < m:=by decide):Ask (.agg zs::os) (dR (some ⟨g,off,none⟩) zs::cs) w:=qT k i hi off m zs h hm r
theorem mi (g off:Nat)(r:Ask os cs w):Ask os (dS (some ⟨g,off,none⟩)::dS (some ⟨g,off,none⟩)::cs) w:=qs g off (qs g off r)
theorem Cx.A_ {t:TypeId}{g m:Nat}{ys:List SV}(k:Cx F O w0 w hs)(i:Nat)(hi:hs[i]?=some (Bx t g ys))(E:Enc α)(x:Vec α m)(off:Nat)(hd:((Iq off ys).bind List.head?).map (fun v=>(v.Oh,v.val))=some (true,.agg ⟨E.all x.l⟩):=by kernel_rfl):Rd w (some ⟨g,off,Option.none⟩) (E.all x.l):=k.vrd i hi E x off hd
theorem mP {K:St->World->Prop}{dst:A03}{ty t:TypeId}{x:Operand}{pos:String}{jf:Array Edge}{g:UV}(d:Nat)(cs:List SV)(k:Cx F O w0 w hs)(hk:∀ b w',Cx F O w0 w' (hs++[Bx t b cs])->K ((d,.v (.pointer (some ⟨b,0,none⟩)))::L) w')
    (hside:(y7 ops [] L ⟨dst,.box t x,ty,pos,jf,g⟩,dst,(decide (d < n)),(L.any fun p=>p.1 == d),(toSS [x] (lk L)).map SV.vals,(cellsS (.agg cs)).map SV.cl)=(true,some d,true,false,some [SV.val (.agg cs)],some (SV.cl cs)):=by kernel_rfl) :
    yE P n ops L w ⟨dst,.box t x,ty,pos,jf,g⟩ K:=Op_box [] d (.agg cs) cs hside k hk
theorem qF {K:St->World->Prop}{ty t:TypeId}{p x:Operand}{pos:String}{jf:Array Edge}{g:UV}(i:Nat){pa:EQ}(sv:SV){bt:TypeId}{b:Nat}{ys zs:List SV}{off:Nat}
    (hp:Pt (some ⟨b,0,none⟩) off pa) (k:Cx F O w0 w hs) (hi:hs[i]?=some (Bx bt b ys)) (md:Mid [sv] ys zs)
    (hk:∀ w',Cx F O w0 w' (hs.set i (Bx bt b zs))->K L w')
    (hside:(y7 ops [] L (⟨none,.store t p x,ty,pos,jf,g⟩:Oper),(none:A03),(toSS [p,x] (lk L)).map SV.vals,D9 P t,cellsS sv,[sv].all SV.one1)=(true,none,some [.pointer pa,sv.val],some (SV.width [sv]),some [sv],true):=by kernel_rfl)
    (hz:(putS off (SV.width [sv]) [sv] ys).map SV.cl=some (SV.cl zs):=by kernel_rfl) :
    yE P n ops L w ⟨none,.store t p x,ty,pos,jf,g⟩ K:=Op_b [] i sv [sv] hp k hi md hside hz hk
end
end
section
abbrev mv (b:Nat):SV:=.v (.map (some b))
open Go.RowKit
section
variable {F O:Nat->Prop}{w0 w:World}{a1 a2 a3 a4 a5 a6 a7 a8 a9 a0 x:HP}{l:List HP}
theorem Cx.P1 (k:Cx F O w0 w (a1::x::l)):Cx F O w0 w (x::a1::l):=k.pk (.t .h)
theorem Cx.P2 (k:Cx F O w0 w (a1::a2::x::l)):Cx F O w0 w (x::a1::a2::l):=k.pk (.t (.t .h))
theorem Cx.P3 (k:Cx F O w0 w (a1::a2::a3::x::l)):Cx F O w0 w (x::a1::a2::a3::l):=k.pk (.t (.t (.t .h)))
theorem Cx.P4 (k:Cx F O w0 w (a1::a2::a3::a4::x::l)):Cx F O w0 w (x::a1::a2::a3::a4::l):=k.pk (.t (.t (.t (.t .h))))
theorem Cx.P5 (k:Cx F O w0 w (a1::a2::a3::a4::a5::x::l)):Cx F O w0 w (x::a1::a2::a3::a4::a5::l):=k.pk (.t (.t (.t (.t (.t .h)))))
theorem Cx.P6 (k:Cx F O w0 w (a1::a2::a3::a4::a5::a6::x::l)):Cx F O w0 w (x::a1::a2::a3::a4::a5::a6::l):=k.pk (.t (.t (.t (.t (.t (.t .h))))))
theorem Cx.P7 (k:Cx F O w0 w (a1::a2::a3::a4::a5::a6::a7::x::l)):Cx F O w0 w (x::a1::a2::a3::a4::a5::a6::a7::l):=k.pk (.t (.t (.t (.t (.t (.t (.t .h)))))))
theorem Cx.P8 (k:Cx F O w0 w (a1::a2::a3::a4::a5::a6::a7::a8::x::l)):Cx F O w0 w (x::a1::a2::a3::a4::a5::a6::a7::a8::l):=k.pk (.t (.t (.t (.t (.t (.t (.t (.t .h))))))))
theorem Cx.P9 (k:Cx F O w0 w (a1::a2::a3::a4::a5::a6::a7::a8::a9::x::l)):Cx F O w0 w (x::a1::a2::a3::a4::a5::a6::a7::a8::a9::l):=k.pk (.t (.t (.t (.t (.t (.t (.t (.t (.t .h)))))))))
theorem Cx.P10 (k:Cx F O w0 w (a1::a2::a3::a4::a5::a6::a7::a8::a9::a0::x::l)):Cx F O w0 w (x::a1::a2::a3::a4::a5::a6::a7::a8::a9::a0::l):=k.pk (.t (.t (.t (.t (.t (.t (.t (.t (.t (.t .h))))))))))
end
section
variable {α β γ σ ρ:Type}{P:Program}{n:Nat}{Q:Exit->Act->World->Prop}{ops:Array Oper}{L L':St}{w w0:World}{os:List SV}{cs:List Cond}{F O:Nat->Prop}{hs:List HP}
theorem jb {K:St->World->Prop}{dst:A03}{f:FuncId}{xs:Array Operand}{ats:Array TypeId}{ty:TypeId}{pos:String}{jf:Array Edge}{g:UV}(d:Nat){svs:List SV}{v:SV}(hgo:gy P f)(hc:Calls P f (vals svs) w (fun e w'=>e=.returned (SV.val v)/\Cx N0 N0 w w' []))(k:Cx F O w0 w hs)
    (hk:∀ w',Cx F O w0 w' (hs++[])->K ((d,v)::L) w')
    (hs:(y7 ops [] L ⟨dst,.call ⟨.value (.func f),xs,ats⟩,ty,pos,jf,g⟩,dst,(decide (d < n)),(L.any fun p=>p.1 == d),(toSS xs.toList (lk L)).map SV.vals)=(true,some d,true,false,some (SV.vals svs)):=by kernel_rfl) :
    yE P n ops L w ⟨dst,.call ⟨.value (.func f),xs,ats⟩,ty,pos,jf,g⟩ K:=bT d hgo hc (fun _ w' h=>⟨v,h.1,hk w' (k.call h.2)⟩) hs
theorem E2 {K:SV->Prop}{v:SV}(h:K v):∃ x:SV,Ending.returned (SV.val v)=Ending.returned x.val/\K x:=⟨v,rfl,h⟩
theorem oP {id:Nat}{l:List Oper}{Q:Exit->Act->World->Prop}(b:Bl L L')(h:At n (Q .normal) L' w)(hs:(evs P n l.toArray [] l (Kn L) []).map (fun r=>(L'.map fun e=>(look r.1 e.1).map fun e=>(e.g,e.x.val),r.2.1,r.2.2))=some (L'.map fun p=>some (none,p.2.val),[],[]):=by kernel_rfl):W P n (.region id l.toArray false) Q L w:=PR [] b qe hs h
theorem AY {k:Nat}{x y:Code}(h:W P n x Q L w)(hf:find L k=some (.b true):=by kernel_rfl):W P n (.cond (.tmp k) x y) Q L w:=XN true hf (fun _=>h) (fun h=>by cases h)
theorem zV {k:Nat}{x y:Code}(h:W P n y Q L w)(hf:find L k=some (.b false):=by kernel_rfl):W P n (.cond (.tmp k) x y) Q L w:=XN false hf (fun h=>by cases h) (fun _=>h)
theorem lS {K:St->World->Prop}{dst:A03}{t ty:TypeId}{len:Nat}{parts:Array (Nat×Operand)}{pos:String}{jf:Array Edge}{g:UV}{e:TypeId}{zs:List Value}{bytes:Nat}(tf:TF P t e zs bytes)
    (E:Enc α) (d:Nat) (xs:List α) (ps:List (Nat×SV)) (svs:List SV) (k:Cx F O w0 w hs) (hk:∀ A w',Cx F O w0 w' (hs++[Ow E A len len xs])->K ((d,.v (.slice A len len))::L) w')
    (hside:(y7 ops [] L ⟨dst,.buildSlice t len parts,ty,pos,jf,g⟩,dst,(decide (d < n)),(L.any fun p=>p.1 == d),(toPS parts.toList (lk L)).map (·.map fun p=>(p.1,p.2.val)))=(true,some d,true,false,some (ps.map fun p=>(p.1,p.2.val))):=by kernel_rfl)
    (hf:(PK (fun i=>some (i*zs.length,zs.length)) ((List.replicate len zs).flatten.map OB) ps,decide (len*zs.length<=16777216),xs.length,E.sz)=(some svs,true,len,zs.length):=by kernel_rfl) (hx:SV.cl svs=E.all xs:=by kernel_rfl) :
    yE P n ops L w ⟨dst,.buildSlice t len parts,ty,pos,jf,g⟩ K:=Op_mk tf E [] d xs ps svs hside hf hx k hk
theorem jA {K:St->World->Prop}{dst:A03}{ty t:TypeId}{pos:String}{jf:Array Edge}{g:UV}(d:Nat)(cs:List SV)
    (k:Cx F O w0 w hs) (hk:∀ b w',Cx F O w0 w' (hs++[Bx t b cs])->K ((d,.v (.pointer (some ⟨b,0,none⟩)))::L) w')
    (hside:(y7 ops [] L ⟨dst,.alloc t,ty,pos,jf,g⟩,dst,(decide (d < n)),(L.any fun p=>p.1 == d),(zeroS P t).map SV.cl)=(true,some d,true,false,some (SV.cl cs)):=by kernel_rfl) :
    yE P n ops L w ⟨dst,.alloc t,ty,pos,jf,g⟩ K:=Op_alloc [] d cs hside k hk
theorem oM {id:Nat}{l:List Oper}{C:List (World->Prop)}(hm:P.follows .mixedOrders=true)(π:MT)(Ls:A01)(k:Cx F O w0 (w.drewN 1) hs)(ch:Chain F O w0 hs C)
    (h:∀ listed,MX P n l.toArray Ls C (Q .normal) π 0 listed (Kn L) (w.drewN 1))
    (hB:(Region.noSelect l.toArray,KT l.toArray Ls π 0 (Array.replicate l.length false),π.depth == l.length)=(true,true,true):=by kernel_rfl) :
    W P n (.region id l.toArray true) Q L w:=W_m hm π Ls k ch hB h
theorem eu {C:List (World->Prop)}{Ls:A01}{p:Nat}{Q:Act->World->Prop}{π:MT}{listed:Array Bool}{i:Nat}{o:Oper}(ho:ops[i]?=some o)
    (h:yE P n ops L w o fun L' w'=>cls C (p+1) w'/\∀ listed',MX P n ops Ls C Q π (p+1) listed' (Kn L') w') (hl:Ls.contains i=true:=by kernel_rfl):MX P n ops Ls C Q (.op i π) p listed (Kn L) w:=MX_op hl ho h
def tq:A01->MT->MT
  | i::j::l,π=>.q i j (tq l π)
  | _,π=>π
end
end
section
theorem KX:Comm mf:=by
  rintro s ⟨k1,v1⟩ ⟨k2,v2⟩ h;simp only[mf,A0o];rw[Nz h]
theorem Jr:Comm lC:=by
  rintro s ⟨k1,v1⟩ ⟨k2,v2⟩ h;simp only[lC,A0o,Hl];rw[show s+((v1.length:Nat):Int)+((v2.length:Nat):Int)=s+((v2.length:Nat):Int)+((v1.length:Nat):Int) by omega]
theorem Qi (m:Mp WF):∀ s:Int,jB jE (bC s) m=some (bC (s+(m.map (·.2.1)).sum)):=by
  induction m with
  | nil=>intro s;simp[jB]
  | cons p r ih =>
    intro s;obtain⟨k,v⟩:=p;simp only[jB,jE,A0o,Hl,kw,List.sum_cons];rw[ih,show s+v.1+(r.map (·.2.1)).sum=s+(v.1+(r.map (·.2.1)).sum) by omega]
theorem Js:Comm jE:=by
  rintro s ⟨k1,v1⟩ ⟨k2,v2⟩ h;simp only[jE,A0o,Hl];rw[show s+v1.1+v2.1=s+v2.1+v1.1 by omega]
theorem I7:Comm jl:=by
  rintro s ⟨k1,v1⟩ ⟨k2,v2⟩ h;simp only[jl,A0o];rw[Nz h]
theorem I8:Comm jk:=by
  rintro s ⟨k1,v1⟩ ⟨k2,v2⟩ h;simp only[jk,A0o];rw[yU h,yU (fun e=>h e.symm),Nz h]
theorem Jt:Comm lu:=by
  rintro s ⟨k1,v1⟩ ⟨k2,v2⟩ h;have key:∀ (m:Mp WF) (s:Int),∃ z:Int,∀ s:Int,jB jE s m=some (if m=[] then s else bC (s+z)):=by
    intro m s;cases m with
    | nil=>exact⟨0,fun s=>by simp[jB]⟩
    | cons p r =>
      obtain⟨k,v⟩:=p;refine⟨v.1+(r.map (·.2.1)).sum,fun s=>?_⟩;simp only[jB,jE,A0o,reduceCtorEq,if_false];rw[Qi,show s+v.1+(r.map (·.2.1)).sum=s+(v.1+(r.map (·.2.1)).sum) by omega]
  obtain⟨z1,h1⟩:=key v1 0;obtain⟨z2,h2⟩:=key v2 0;simp only[lu,A0o,h1,h2];by_cases e1:v1=[] <;> by_cases e2:v2=[] <;> simp only[e1,e2,if_true,if_false,Hl];rw[show s+z1+z2=s+z2+z1 by omega]
end
section
set_option linter.unusedSimpArgs false
section
variable {σ ε ρ δ:Type}
theorem ZF {f:σ->Option (σ⊕ρ)}{s:σ}(h:f s=none):aQ f s=none:=by
  cases hw:aQ f s with
  | none=>rfl
  | some r =>
    obtain⟨k,hk⟩:=Ci.1 hw;cases k with
    | zero=>cases hk
    | succ k=>simp[runK,h] at hk
def CommA (f:σ->ε->Option σ):Prop:=∀ s a b,(f s a).bind (fun s'=>f s' b)=(f s b).bind (fun s'=>f s' a)
theorem CommA.comm {f:σ->Ky×δ->Option σ}(h:CommA f):Comm f:=fun s a b _=>h s a b
theorem ZG {f:σ->ε->Option σ}(hc:CommA f){l l':List ε}(hp:l.Perm l'):∀ s,jB f s l=jB f s l':=by
  induction hp with
  | nil=>intro s;rfl
  | cons x _ ih=>intro s;simp only[jB];exact congrArg _ (funext fun s'=>ih s')
  | swap x y l =>
    intro s;simp only[jB];rw[<- Option.bind_assoc,<-Option.bind_assoc,hc s y x]
  | trans _ _ ih1 ih2=>intro s;rw[ih1,ih2]
theorem WV {f:σ->ε->Option σ}(l l':List ε):∀ s,jB f s (l++l')=(jB f s l).bind fun s'=>jB f s' l':=by
  induction l with
  | nil=>intro s;rfl
  | cons x l ih=>intro s;simp only[A0x,jB,Option.bind_assoc];exact congrArg _ (funext fun s'=>ih s')
theorem mdel_comm (k1 k2:Ky):∀ m:Mp δ,xy (xy m k1) k2=xy (xy m k2) k1:=by
  intro m;by_cases h:k1=k2
  ·rw[h]
  induction m with
  | nil=>rfl
  | cons p r ih =>
    by_cases h1:p.1=k1
    ·have h2:p.1≠k2:=fun e=>h (h1.symm.trans e);simp[xy,h1,h2,h]
    ·by_cases h2:p.1=k2
     ·have h3:k2≠k1:=fun e=>h e.symm;simp[xy,h1,h2,h3]
     ·simp[xy,h1,h2,ih]
end
def inc (m:A0J)(x:Ky):A0J:=gQ m x (bC (((bn m x).getD 0)+1))
theorem inc_comm (m:A0J)(x y:Ky):inc (inc m x) y=inc (inc m y) x:=by
  by_cases h:x=y
  ·rw[h]
  ·unfold inc;rw[yU h,yU (fun e=>h e.symm),Nz h]
theorem incs_one (l:A0G):∀ (m:A0J) (x:Ky),l.foldl inc (inc m x)=inc (l.foldl inc m) x:=by
  induction l with
  | nil=>intro m x;rfl
  | cons y l ih=>intro m x;rw[List.foldl_cons,inc_comm,ih];rfl
theorem incs_comm (l l':A0G):∀ m:A0J,l'.foldl inc (l.foldl inc m)=l.foldl inc (l'.foldl inc m):=by
  induction l with
  | nil=>intro m;rfl
  | cons x l ih=>intro m;rw[List.foldl_cons,ih,incs_one];rfl
theorem told_run (r:A0G×Int)(m:A0J):aQ (jR r) (m,(0:Int))=if r.1.length<=9223372036854775807 then some (r.2,r.1.foldl inc m) else none:=by
  have step:∀ k,k < r.1.length->jR r ((r.1.take k).foldl inc m,(k:Int))=some (.inl ((r.1.take (k+1)).foldl inc m,bC ((k:Int)+1))):=by
    intro k hk;unfold jR;simp only[];rw[if_pos (by omega),bf hk];simp only[A0o];rw[A0m,A0l hk,List.foldl_append];rfl
  have run:∀ k,k<=r.1.length->k<=9223372036854775807->aQ (jR r) (m,(0:Int))=aQ (jR r) ((r.1.take k).foldl inc m,(k:Int)):=by
    intro k
    induction k with
    | zero=>intro _ _;rfl
    | succ k ih =>
      intro h1 h2;rw[ih (by omega) (by omega),fE (step k (by omega)),jP (by omega)];rfl
  by_cases h:r.1.length<=9223372036854775807
  ·rw[if_pos h,run r.1.length (Nat.le_refl _) h,A0h];refine fZ ?_;unfold jR;simp only[];rw[if_neg (by omega)];rfl
  ·rw[if_neg h,run 9223372036854775807 (by omega) (Nat.le_refl _),fE (step 9223372036854775807 (by omega))];refine ZF ?_;unfold jR;simp only[];rw[show bC (((9223372036854775807:Nat):Int)+1)=-9223372036854775808 from by rw[TW];decide,if_pos (by omega)];have:aW r.1 (-9223372036854775808)=none:=by
     cases hg:aW r.1 (-9223372036854775808) with
     | none=>rfl
     | some x=>have:=(aS hg).1;omega
   rw[this];rfl
theorem cut_size (d:Int)(C:A0E)(S:A0F)(s:AC)(r:WP×Int)(h:jO d C S s=some r):r.2=d:=by
  unfold jO at h;obtain⟨k,hk⟩:=Ci.1 h;have key:∀ k (s:AC×WP),runK (kC d) k s=some r->r.2=d:=by
    intro k
    induction k with
    | zero=>intro s h;cases h
    | succ k ih =>
      intro s h;rw[runK] at h;cases hf:kC d s with
      | none=>rw[hf] at h;cases h
      | some y =>
        rw[hf] at h;cases y with
        | inl s'=>exact ih s' h
        | inr q =>
          have hq:q=r:=Option.some.inj h;subst hq;obtain⟨s1,l⟩:=s;unfold kC at hf;simp only[] at hf;split at hf
          ·exfalso;revert hf;cases OL s1 0 d with
           | none=>intro hf;cases hf
           | some a =>
             simp only[A0o];cases app l [a] 16 with
             | none=>intro hf;cases hf
             | some b =>
               simp only[A0o];cases OL s1 d s1.length with
               | none=>intro hf;cases hf
               | some c=>intro hf;cases hf
          ·simp only[Option.map_some,Option.some.injEq,Sum.inr.injEq] at hf;rw[<- hf]
  exact key k _ hk
theorem yz (C:A0E)(S:A0F)(d:Int)(m:A0J)(a:Ky×WF) :
    jo C S (d,m) a=(jO d C S a.2.2).bind fun r=>if r.1.length<=9223372036854775807 then some (d,r.1.foldl inc m) else none:=by
  obtain⟨k,x⟩:=a;unfold jo;simp only[];cases h:jO d C S x.2 with
  | none=>rfl
  | some r =>
    simp only[A0o];rw[told_run,cut_size d C S x.2 r h]
theorem Qj (C:A0E)(S:A0F):CommA (jo C S):=by
  rintro⟨d,m⟩ a b;rw[yz,yz];cases ha:jO d C S a.2.2 with
  | none =>
    simp only[Option.bind_none];cases hb:jO d C S b.2.2 with
    | none=>rfl
    | some rb =>
      simp only[A0o];split
      ·simp only[A0o];rw[yz,ha];rfl
      ·rfl
  | some ra =>
    simp only[A0o];cases hb:jO d C S b.2.2 with
    | none =>
      simp only[Option.bind_none];split
      ·simp only[A0o];rw[yz,hb];rfl
      ·rfl
    | some rb =>
      simp only[A0o];by_cases h1:ra.1.length<=9223372036854775807
      ·by_cases h2:rb.1.length<=9223372036854775807
       ·simp only[h1,h2,if_true,A0o];rw[yz,yz,ha,hb];simp only[A0o,h1,h2,if_true];rw[incs_comm]
       ·simp only[h1,h2,if_true,if_false,A0o,Option.bind_none];rw[yz,hb];simp only[A0o,h2,if_false]
      ·by_cases h2:rb.1.length<=9223372036854775807
       ·simp only[h1,h2,if_true,if_false,A0o,Option.bind_none];rw[yz,ha];simp only[A0o,h1,if_false]
       ·simp only[h1,h2,if_false,Option.bind_none]
theorem J9 (C:A0E)(S:A0F):Comm (jo C S):=(Qj C S).comm
theorem UZ (C:A0E)(S:A0F)(s:Int×A0J)(a:Ky×Mp WF):lT C S s a=jB (jo C S) s a.2:=by
  obtain⟨d,m⟩:=s;obtain⟨k,x⟩:=a;unfold lT;simp only[];cases jB (jo C S) (d,m) x <;> rfl
theorem J_ (C:A0E)(S:A0F):Comm (lT C S):=by
  intro s a b _;simp only[UZ];rw[<- WV,<-WV];exact ZG (Qj C S) A0t s
theorem Ju (r:A0J×Int):Comm (kD r):=by
  rintro⟨m,n⟩ ⟨k1,v1⟩ ⟨k2,v2⟩ _;unfold kD;by_cases h1:(bn r.1 k1).getD 0=0 <;> by_cases h2:(bn r.1 k2).getD 0=0 <;> simp[h1,h2,mdel_comm]
end
section
open Go.RowKit Go.Proofs
set_option linter.unusedVariables false
variable {α γ δ:Type}
def BW (w:World)(b:Nat):Prop:=b < w.heap.size
theorem Cx.refl1 (w:World):Cx N0 (BW w) w w []:=⟨rfl,rfl,rfl,Nat.le_refl _,fun _ _ _=>rfl,fun _ h=>h.elim,fun _ h=>h,N0,N0,⟨fun _ h=>h,fun _ h=>h⟩,fun _ h=>h.elim,fun _ h=>h.elim⟩
theorem RH.sh {w:World}{E:Enc α}{y:Hd}{x:List α}(h:RH N0 w E y x):(SH E).r w (BW w) y x:=by
  obtain⟨h1,h2,h3,h4⟩:=h;refine⟨h1,h2,h3,fun hne a ha=>?_⟩;cases hx:E.all x with
  | nil=>exact absurd hx hne
  | cons c cs =>
    have h5:=h3.2 a 0 c ha (by rw[hx];rfl);have hb:(a.add 0).block < w.heap.size:=World.block_lt_of_cell? w _ h5
    rwa [uH] at hb
end
section
variable {α γ δ:Type}{F O:Nat->Prop}{w0 w:World}{hs:List HP}
theorem SH.ro {E:Enc α}{w:World}{R:Nat->Prop}{y:Hd}{x:List α}:(SH E).r w R y x ↔ y.2.1=x.length/\x.length<=y.2.2/\Ro (fun b=>¬ R b) w y.1 (E.all x) :=
  ⟨fun⟨h1,h2,h3,h4⟩=>⟨h1,h2,h3,fun hne a ha hn=>hn (h4 hne a ha)⟩,fun⟨h1,h2,h3,h4⟩=>⟨h1,h2,h3,fun hne a ha=>Classical.not_not.1 (h4 hne a ha)⟩⟩
theorem Cx.shcut {E:Enc α}{A:EQ}{n c:Nat}{x:List α}(k:Cx F O w0 w hs)(i:Nat)(hi:hs[i]?=some (Sh (SH E) [(A,n,c)] [x])){B:EQ}{m d:Nat}{y:List α}
    (conv:∀ (F:Nat->Prop) (w:World),Ro F w A (E.all x)->Ro F w B (E.all y)) (h1:y.length=m) (h2:m<=d):Cx F O w0 w (Sh (SH E) [(B,m,d)] [y]::hs) :=
  k.dup i hi fun w S R h=>⟨fun _ h=>h,rfl,fun j u v e1 e2=>by
    cases j with
    | succ j=>cases e1
    | zero =>
      obtain rfl:=Option.some.inj e1;obtain rfl:=Option.some.inj e2;have h3:=SH.ro.1 (h.2.2 0 _ _ rfl rfl);exact SH.ro.2 ⟨h1.symm,by show y.length<=d;omega,conv _ _ h3.2.2⟩⟩
end
section
open Go.RowKit Go.MapKept
set_option linter.unusedVariables false
set_option linter.unusedSimpArgs false
variable {α γ δ:Type}{F O:Nat->Prop}{w0 w:World}{hs rest:List HP}
def RN (v:Vl γ δ):Rl (A03) (Option (Mp δ)) where
  r w R u m:=match u,m with
    | none,none=>True
    | some b,some m=>(RM v).r w R b m
    | _,_=>False
  loc:=by
    intro w w' R u m h hk;cases u <;> cases m
    ·exact trivial
    ·exact h.elim
    ·exact h.elim
    ·exact(RM v).loc _ _ _ _ _ h hk
  mono:=by
    intro w R R' u m hR h;cases u <;> cases m
    ·exact trivial
    ·exact h.elim
    ·exact h.elim
    ·exact(RM v).mono _ _ _ _ _ hR h
def vN (v:Vl γ δ):Vl (A03) (Option (Mp δ)):=⟨fun u=>.map u,RN v,fun a b h=>by simpa using h⟩
theorem RN.some {v:Vl γ δ}{w:World}{R:Nat->Prop}{u:A03}{m:Option (Mp δ)}(h:(RN v).r w R u m)(hm:m.isSome=true):u=Option.some (u.getD 0)/\(RM v).r w R (u.getD 0) (m.getD []):=by
  cases u <;> cases m
  ·cases hm
  ·exact h.elim
  ·cases hm
  ·exact⟨rfl,h⟩
theorem Cx.shN (k:Cx F O w0 w hs)(v:Vl γ δ):Cx F O w0 w (Sh (RN v) [Option.none] [Option.none]::hs):=by
  obtain⟨U,V,h1,hU,hV⟩:=k.sep;refine⟨k.os,k.tape,k.output,k.size,k.block,k.fin,k.QT,U,V,⟨fun _=>False,fun _=>False,U,V,⟨fun _ h=>h,rfl,fun j y x e1 e2=>?_⟩,h1,by simp,by simp,fun b hb=>hb.elim,fun b hb=>hb.elim⟩,hU,hV⟩;cases j with
  | succ j=>cases e1
  | zero =>
    obtain rfl:=Option.some.inj e1;obtain rfl:=Option.some.inj e2;exact trivial
theorem Cx.smN {v:Vl γ δ}{b:Nat}{m:Mp δ}(k:Cx F O w0 w (Sh (RM v) [b] [m]::rest)):Cx F O w0 w (Sh (RN v) [Option.some b] [Option.some m]::rest) :=
  k.weak (h':=Sh (RN v) [Option.some b] [Option.some m]) 0 rfl fun w S R ⟨h0,h1,h2⟩=>⟨h0,rfl,fun j y x e1 e2=>by
    cases j with
    | succ j=>cases e1
    | zero =>
      obtain rfl:=Option.some.inj e1;obtain rfl:=Option.some.inj e2;exact h2 0 _ _ rfl rfl⟩
theorem Cx.msN {v:Vl γ δ}{b:Nat}{m:Mp (Option (Mp δ))}(k:Cx F O w0 w (MS (vN v) b m::rest))(h:m.all (fun p=>p.2.isSome)=true) :
    Cx F O w0 w (MS (vM v) b (m.map fun p=>(p.1,p.2.getD []))::rest):=by
  obtain⟨l,hf,k1⟩:=k.X6;obtain⟨S,R,hS⟩:=k1.get 1 rfl;have hsome:∀ e ∈ l,e.2.2.isSome=true:=fun e he=>by
    have h1:kx e ∈ m:=hf.1.mem_iff.1 (ww.2 ⟨e,he,rfl⟩);exact List.all_eq_true.1 h _ h1
  have hu:∀ e ∈ l,e.2.1=Option.some (e.2.1.getD 0):=fun e he=>by
    obtain⟨j,hj⟩:=List.getElem?_of_mem he;have:=hS.2.2 j e.2.1 e.2.2 (by rw[List.getElem?_map,hj];rfl) (by rw[List.getElem?_map,hj];rfl);exact(RN.some this (hsome e he)).1
  refine Cx.doms (l.map fun e=>(e.1,e.2.1.getD 0,e.2.2.getD [])) ⟨?_,?_⟩ ?_
  ·have h1:=hf.1.map (fun p:Ky×Option (Mp δ)=>(p.1,p.2.getD []));rw[List.map_map] at h1;rw[List.map_map];exact h1
  ·unfold mM;rw[List.map_map];exact hf.2
  ·have e1:yg (l.map fun e=>(e.1,e.2.1.getD 0,e.2.2.getD []))=yg l:=by unfold yg;rw[List.map_map];rfl
   have e2:GG (vM v) (l.map fun e=>(e.1,e.2.1.getD 0,e.2.2.getD []))=GG (vN v) l:=by
     unfold GG;rw[List.map_map];refine List.map_congr_left fun e he=>?_;show Value.map (Option.some (e.2.1.getD 0))=Value.map e.2.1;rw[<- hu e he]
   rw[e1,e2];have k2:=k1.weak (h':=Sh (RM v) ((l.map fun e=>(e.1,e.2.1.getD 0,e.2.2.getD [])).map (·.2.1)) ((l.map fun e=>(e.1,e.2.1.getD 0,e.2.2.getD [])).map (·.2.2))) 1 rfl fun w S R ⟨h0,h1,h2⟩=>by
     refine⟨h0,by simp,fun j y x g1 g2=>?_⟩;rw[List.map_map,List.getElem?_map,A0c] at g1 g2;obtain⟨e,he,rfl⟩:=g1;obtain⟨e',he',rfl⟩:=g2;rw[he] at he';obtain rfl:=Option.some.inj he';have:=h2 j e.2.1 e.2.2 (by rw[List.getElem?_map,he];rfl) (by rw[List.getElem?_map,he];rfl);exact(RN.some this (hsome e (List.mem_of_getElem? he))).2
   exact k2
end
section
open Go.RowKit Go.MapKept
set_option linter.unusedVariables false
set_option linter.unusedSimpArgs false
variable {P:Program}{n:Nat}{ops:Array Oper}{L:St}{w:World}{K:St->World->Prop}
end
section
set_option linter.unusedSimpArgs false
set_option linter.unusedVariables false
variable {α β γ δ ε ζ:Type}
def nJ (E:Enc γ)(q:Rl γ δ):Rl (Hd×List γ) (List δ) where
  r w R h x:=h.1.2.1=x.length/\x.length<=h.1.2.2/\Rd w h.1.1 (E.all h.2)/\(E.all h.2≠[]->∀ a,h.1.1=some a->R a.block)/\h.2.length=x.length/\∀ (j:Nat) (y:γ) (z:δ),h.2[j]?=some y->x[j]?=some z->q.r w R y z
  loc:=by
    rintro w w' R y x ⟨h1,h2,h3,h4,h6,h7⟩ hk;refine⟨h1,h2,⟨h3.1,fun a j u ha hu=>?_⟩,h4,h6,fun j y z e1 e2=>q.loc _ _ _ _ _ (h7 j y z e1 e2) hk⟩;have h5:=h3.2 a j u ha hu;have hne:E.all y.2≠[]:=fun e=>by rw[e] at hu;cases hu
    have h6:=hk (a.add j).block (by rw[uH];exact h4 hne a ha);rw[World.cell?_of_block h6];exact h5
  mono:=by
    rintro w R R' y x hR ⟨h1,h2,h3,h4,h6,h7⟩;exact⟨h1,h2,h3,fun hne a ha=>hR _ (h4 hne a ha),h6,fun j y z e1 e2=>q.mono _ _ _ _ _ hR (h7 j y z e1 e2)⟩
def eG:Enc (Hd×List γ):=⟨1,fun h=>[.slice h.1.1 h.1.2.1 h.1.2.2],fun _=>rfl,fun x v h=>by rw[A0d.1 h];rfl⟩
def Sg (E:Enc γ)(q:Rl γ δ)(A:EQ)(n c:Nat)(ys:List γ)(xs:List δ):HP:=Sh (nJ E q) [((A,n,c),ys)] [xs]
section
variable {F O:Nat->Prop}{w0 w w':World}{hs rest:List HP}{E:Enc γ}{q:Rl γ δ}{A:EQ}{n c:Nat}{ys:List γ}{xs:List δ}
theorem Cx.Rq (k:Cx F O w0 w (OG E q A n c ys xs::rest)):Cx F O w0 w (Sg E q A n c ys xs::rest):=by
  have:=k.upd (h':=Sg E q A n c ys xs) 0 rfl Option.none ⟨rfl,rfl,rfl,Nat.le_refl _,fun _ _ _=>rfl⟩ fun S R h1 h2 h3=>by
    obtain⟨⟨S1,R1,o1,o2⟩,hl,hq⟩:=OG.parts h1;refine⟨fun g hg=>(by cases hg),fun _=>False,fun b=>R b∨S b,⟨fun _ h=>h,rfl,fun j y x e1 e2=>?_⟩,fun b hb=>hb.elim,fun b hb=>⟨h3 b (hb.elim .inr .inl),hb.elim .inl (fun h=>.inr (.inl h))⟩⟩;cases j with
    | succ j=>cases e1
    | zero =>
      obtain rfl:=Option.some.inj e1;obtain rfl:=Option.some.inj e2;have hln:=o1.1;have hlc:=Ow.XY o1;refine⟨by show n=xs.length;omega,by show xs.length<=c;omega,Ow.rd' o1,fun hne a ha=>?_,hl,fun j y z e3 e4=>q.mono _ _ _ _ _ (fun b hb=>.inl hb) (hq j y z e3 e4)⟩;rcases o1.2 with⟨h4,_⟩ | ⟨g,t,cur,h4,_,_,_,_,_,h5⟩
      ·have ha':A=some a:=ha;rw[h4] at ha';cases ha'
      ·have ha':A=some a:=ha;rw[h4] at ha';obtain rfl:=Option.some.inj ha';exact .inr (o2 _ h5)
  simpa only [A0y] using this
theorem Cx.dupx {h:HP}{T:Sort _}{h':T->HP}{p:T->Prop}(k:Cx F O w0 w hs)(i:Nat)(hi:hs[i]?=some h)(hp:∀ S R,h.p w S R->∃ t,p t/\(h' t).p w (fun _=>False) R):∃ t,p t/\Cx F O w0 w (h' t::hs):=by
  obtain⟨U,V,h1,hU,hV⟩:=k.sep;obtain⟨S,R,U',V',e1,e2,e3,e4,e5,e6⟩:=Sep.cut hi h1;obtain⟨t,ht,h2⟩:=hp _ _ e1;refine⟨t,ht,k.os,k.tape,k.output,k.size,k.block,k.fin,k.QT,U,V,⟨_,R,U,V,h2,h1,fun b=>⟨.inr,fun h=>h.elim (fun h=>h.elim) id⟩,fun b=>⟨.inr,fun h=>h.elim (fun h=>(e4 b).2 (.inl h)) id⟩,fun b hb=>hb.elim,fun b hb hu=>?_⟩,hU,hV⟩;exact Sep.apart h1 b hu ((e4 b).2 (.inl hb))
theorem L8 {ys:List γ}{xs:List δ}(hl:ys.length=xs.length){j:Int}{z:δ}(hz:aW xs j=some z):∃ y,aW ys j=some y/\ys[j.toNat]?=some y/\xs[j.toNat]?=some z:=by
  obtain⟨h0,h1⟩:=aS hz;have hlt:=(A0w.1 h1).1;have hh:ys[j.toNat]?=some (ys[j.toNat]'(hl▸hlt)):=A0l _;exact⟨_,by unfold aW;rw[if_pos h0,hh],hh,h1⟩
theorem Sg.parts {S R:Nat->Prop}(h:(Sg E q A n c ys xs).p w S R):n=xs.length/\xs.length<=c/\Rd w A (E.all ys)/\ys.length=xs.length/\∀ (j:Nat) (y:γ) (z:δ),ys[j]?=some y->xs[j]?=some z->q.r w R y z:=by
  obtain⟨h1,h2,h3,h4,h5,h6⟩:=h.2.2 0 _ _ rfl rfl;exact⟨h1,h2,h3,h5,h6⟩
theorem Cx.iY (k:Cx F O w0 w hs)(i:Nat)(hi:hs[i]?=some (Sg E q A n c ys xs)):xs.length=n:=by
  obtain⟨S,R,h⟩:=k.get i hi;exact(Sg.parts h).1.symm
theorem Cx.oN (k:Cx F O w0 w hs)(i:Nat)(hi:hs[i]?=some (Sg E q A n c ys xs)):ys.length=n:=by
  obtain⟨S,R,h⟩:=k.get i hi;obtain⟨h1,_,_,h2,_⟩:=Sg.parts h;rw[h2,h1]
theorem Cx.lN (k:Cx F O w0 w hs)(i:Nat)(hi:hs[i]?=some (Sg E q A n c ys xs)):Rd w A (E.all ys):=by
  obtain⟨S,R,h⟩:=k.get i hi;exact(Sg.parts h).2.2.1
theorem Cx.Fz (k:Cx F O w0 w hs)(i:Nat)(hi:hs[i]?=some (Sg E q A n c ys xs)){j:Int}{z:δ}(hz:aW xs j=some z) :
    ∃ y,aW ys j=some y/\Cx F O w0 w (Sh q [y] [z]::hs):=by
  refine k.dupx (h':=fun t=>Sh q [t] [z]) (p:=fun t=>aW ys j=some t) i hi fun S R h=>?_;obtain⟨_,_,_,h5,h6⟩:=Sg.parts h;obtain⟨y,e1,e2,e3⟩:=L8 h5 hz;refine⟨y,e1,fun _ h=>h,rfl,fun m y' z' e4 e5=>?_⟩;cases m with
  | succ m=>cases e4
  | zero =>
    obtain rfl:=Option.some.inj e4;obtain rfl:=Option.some.inj e5;exact h6 _ _ _ e2 e3
theorem Cx.Es (k:Cx F O w0 w hs)(i:Nat)(hi:hs[i]?=some (Sg E q A n c ys xs)){j:Int}{z:δ}(hz:aW xs j=some z) :
    ∃ y,aW ys j=some y/\∃ R,q.r w R y z:=by
  obtain⟨S,R,h⟩:=k.get i hi;obtain⟨_,_,_,h5,h6⟩:=Sg.parts h;obtain⟨y,e1,e2,e3⟩:=L8 h5 hz;exact⟨y,e1,R,h6 _ _ _ e2 e3⟩
theorem Cx.Bi (k:Cx F O w0 w hs)(i:Nat)(hi:hs[i]?=some (OG E q A n c ys xs)){j:Int}{z:δ}(hz:aW xs j=some z) :
    ∃ y,aW ys j=some y/\Cx F O w0 w (Sh q [y] [z]::hs):=by
  refine k.dupx (h':=fun t=>Sh q [t] [z]) (p:=fun t=>aW ys j=some t) i hi fun S R h=>?_;obtain⟨_,h5,h6⟩:=OG.parts h;obtain⟨y,e1,e2,e3⟩:=L8 h5 hz;refine⟨y,e1,fun _ h=>h,rfl,fun m y' z' e4 e5=>?_⟩;cases m with
  | succ m=>cases e4
  | zero =>
    obtain rfl:=Option.some.inj e4;obtain rfl:=Option.some.inj e5;exact h6 _ _ _ e2 e3
theorem Cx.I9 (k:Cx F O w0 w hs)(i:Nat)(hi:hs[i]?=some (OG E q A n c ys xs)){j:Int}{z:δ}(hz:aW xs j=some z) :
    ∃ y,aW ys j=some y/\∃ R,q.r w R y z:=by
  obtain⟨S,R,h⟩:=k.get i hi;obtain⟨_,h5,h6⟩:=OG.parts h;obtain⟨y,e1,e2,e3⟩:=L8 h5 hz;exact⟨y,e1,R,h6 _ _ _ e2 e3⟩
theorem Cx.ui {q:Rl α β}{p:Rl γ δ}{y1:α}{y2:γ}{x:β×δ}(k:Cx F O w0 w (Sh (SP q p) [(y1,y2)] [x]::rest)):Cx F O w0 w (Sh q [y1] [x.1]::Sh p [y2] [x.2]::rest):=by
  have k1:=k.dup (h':=Sh q [y1] [x.1]) 0 rfl fun w S R h=>⟨fun _ h=>h,rfl,fun j y z e1 e2=>by
    cases j with
    | succ j=>cases e1
    | zero =>
      obtain rfl:=Option.some.inj e1;obtain rfl:=Option.some.inj e2;exact(h.2.2 0 _ _ rfl rfl).1⟩
  have k2:=k1.dup (h':=Sh p [y2] [x.2]) 1 rfl fun w S R h=>⟨fun _ h=>h,rfl,fun j y z e1 e2=>by
    cases j with
    | succ j=>cases e1
    | zero =>
      obtain rfl:=Option.some.inj e1;obtain rfl:=Option.some.inj e2;exact(h.2.2 0 _ _ rfl rfl).2⟩
  have k3:Cx F O w0 w (Sh (SP q p) [(y1,y2)] [x]::Sh q [y1] [x.1]::Sh p [y2] [x.2]::rest):=k2.perm (((List.Perm.swap _ _ _).trans (List.Perm.cons _ (.swap _ _ _))).trans (.swap _ _ _));exact k3.tl
theorem Cx.uj {y x:α}(k:Cx F O w0 w (Sh SQ [y] [x]::rest)):y=x/\Cx F O w0 w rest:=by
  obtain⟨S,R,h⟩:=k.get 0 rfl;exact⟨h.2.2 0 _ _ rfl rfl,k.tl⟩
theorem Cx.sw2 {h1 h2:HP}(k:Cx F O w0 w (h1::h2::rest)):Cx F O w0 w (h2::h1::rest):=k.perm (.swap _ _ _)
theorem Cx.og_at2 {y:γ}{z:δ}(k:Cx F O w0 w hs)(i:Nat)(hi:hs[i]?=some (OG E q A n c ys xs)){j:Int}(hz:aW xs j=some z)(hy:aW ys j=some y):∃ R,q.r w R y z:=by
  obtain⟨y',h1,h2⟩:=k.I9 i hi hz;rw[hy] at h1;obtain rfl:=Option.some.inj h1;exact h2
theorem sgy_rd {H:Hd}(h:∃ R,(nJ E q).r w R (H,ys) xs):Rd w H.1 (E.all ys):=by
  obtain⟨R,h1,h2,h3,_⟩:=h;exact h3
theorem Cx.ogput {i:Nat}{y:γ}{z:δ}(k:Cx F O w0 w (Ow E A n c (ys.set i y)::Sh q ys xs::Sh q [y] [z]::rest)):Cx F O w0 w (OG E q A n c (ys.set i y) (xs.set i z)::rest):=by
  have k1:Cx F O w0 w (Sh q [y] [z]::Sh q ys xs::Ow E A n c (ys.set i y)::rest):=k.perm (((List.Perm.swap _ _ _).trans (List.Perm.cons _ (.swap _ _ _))).trans (.swap _ _ _));have k2:Cx F O w0 w (Sh q (ys.set i y) (xs.set i z)::Ow E A n c (ys.set i y)::rest):=k1.merge fun w S1 R1 S2 R2 h1 h2=>⟨fun b hb=>hb.elim (h1.1 b) (h2.1 b),by simp[h2.2.1],fun j y' x' e1 e2=>by
    rw[List.getElem?_set] at e1 e2;have hl:=h2.2.1;by_cases hj:i=j
    ·subst hj;rw[if_pos rfl] at e1 e2;split at e1
     ·obtain rfl:=Option.some.inj e1;split at e2
      ·obtain rfl:=Option.some.inj e2;exact q.mono _ _ _ _ _ (fun b hb=>.inl hb) (h1.2.2 0 _ _ rfl rfl)
      ·cases e2
     ·cases e1
    ·rw[if_neg hj] at e1 e2;exact q.mono _ _ _ _ _ (fun b hb=>.inr hb) (h2.2.2 j _ _ e1 e2)⟩
  exact Cx.og k2.sw2
end
end
section
open Go.RowKit Go.Proofs
set_option linter.unusedVariables false
variable {α:Type}{F O:Nat->Prop}{w0 w:World}{hs:List HP}
end
section
open Go.RowKit Go.Proofs
set_option linter.unusedVariables false
set_option linter.unusedSimpArgs false
variable {γ δ:Type}
def SX (P:γ->δ->HP):List γ->List δ->List HP
  | y::ys,x::xs=>P y x::SX P ys xs
  | _,_=>[]
theorem TY {P:γ->δ->HP}{ys:List γ}{xs:List δ}{i:Nat}{y:γ}{x:δ}(h1:ys[i]?=some y)(h2:xs[i]?=some x):(SX P ys xs)[i]?=some (P y x):=by
  induction ys generalizing xs i with
  | nil=>cases h1
  | cons a az ih =>
    cases xs with
    | nil=>cases h2
    | cons b bs =>
      cases i with
      | zero =>
        simp only[List.getElem?_cons_zero,Option.some.injEq] at h1 h2;subst h1;subst h2;rfl
      | succ i =>
        simp only[List.getElem?_cons_succ] at h1 h2;exact ih h1 h2
theorem fam_set {P:γ->δ->HP}:∀ (ys:List γ) (xs:List δ) (i:Nat) (y:γ) (x:δ),ys.length=xs.length->(SX P ys xs).set i (P y x)=SX P (ys.set i y) (xs.set i x)
  | [],xs,_,_,_,_=>rfl
  | _::_,[],_,_,_,h=>by cases h
  | a::az,b::bs,0,y,x,_=>rfl
  | a::az,b::bs,i+1,y,x,hl=>by
    simp only[bi,Nat.add_right_cancel_iff] at hl;simp only[SX,List.set_cons_succ,fam_set az bs i y x hl]
theorem fam_app {P:γ->δ->HP}:∀ (ys C9:List γ) (xs Y0:List δ),ys.length=xs.length->SX P (ys++C9) (xs++Y0)=SX P ys xs++SX P C9 Y0
  | [],C9,[],Y0,_=>rfl
  | [],_,_::_,_,h=>by cases h
  | _::_,_,[],_,h=>by cases h
  | a::az,C9,b::bs,Y0,hl=>by
    simp only[bi,Nat.add_right_cancel_iff] at hl;simp only[A0x,SX,fam_app az C9 bs Y0 hl]
theorem U0 {P:γ->δ->HP}:∀ (ys:List γ) (xs:List δ),ys.length=xs.length->(SX P ys xs).length=ys.length
  | [],_,_=>by simp[SX]
  | _::_,[],h=>by cases h
  | a::az,b::bs,hl=>by
    simp only[bi,Nat.add_right_cancel_iff] at hl;simp[SX,U0 az bs hl]
def Fm (G:Enc γ)(P:γ->δ->HP)(A:EQ)(n c:Nat)(ys:List γ)(xs:List δ):HP:=Pk (ys.length=xs.length) (Ow G A n c ys::SX P ys xs)
def Fmx (G:Enc γ)(P:γ->δ->HP)(A:EQ)(n c:Nat)(ys:List γ)(xs:List δ)(i:Nat):HP:=Pk (ys.length=xs.length) (Ow G A n c ys::(SX P ys xs).eraseIdx i)
section
variable {F O:Nat->Prop}{w0 w w':World}{hs rest:List HP}{G:Enc γ}{P:γ->δ->HP}{A:EQ}{n c:Nat}{ys:List γ}{xs:List δ}
theorem Cx.openF (k:Cx F O w0 w (Fm G P A n c ys xs::rest)){i:Nat}{y:γ}{x:δ}(h1:ys[i]?=some y)(h2:xs[i]?=some x):Cx F O w0 w (Fmx G P A n c ys xs i::P y x::rest):=by
  obtain⟨hl,k1⟩:=k.OO;have hg:=TY (P:=P) h1 h2;refine Cx.LH hl (k1.perm ?_);simp only[A0x];refine .cons _ (List.Perm.trans (List.Perm.append_right rest (GV hg)) ?_);simp only[A0x];exact List.perm_middle.symm
theorem Cx.closeF {i:Nat}{y:γ}{x:δ}(h1:ys[i]?=some y)(k:Cx F O w0 w (Fmx G P A n c ys xs i::P y x::rest)):Cx F O w0 w (Fm G P A n c ys (xs.set i x)::rest):=by
  obtain⟨hl,k1⟩:=k.OO;refine Cx.LH (by simpa using hl) (k1.perm ?_);have hs:ys.set i y=ys:=by
    obtain⟨h1,h2⟩:=A0w.1 h1;rw[<- h2];exact List.set_getElem_self h1
  have hr:=fam_set (P:=P) ys xs i y x hl;rw[hs] at hr;simp only[A0x];refine .cons _ (List.Perm.trans List.perm_middle ?_);rw[<- hr,<-A0x];exact List.Perm.append_right rest (PS _ (by rw[U0 _ _ hl];exact(A0w.1 h1).1))
end
end
section
open Go.RowKit Go.Proofs
set_option linter.unusedVariables false
set_option linter.unusedSimpArgs false
variable {α β γ δ:Type}
def fP (q:γ->δ->HP)(y:α×γ)(x:α×δ):HP:=Pk (y.1=x.1) [q y.2 x.2]
def fR (E:Enc α)(h:Hd)(x:List α):HP:=Ow E h.1 h.2.1 h.2.2 x
def f2 (E:Enc α)(h:Hd×List Hd)(x:List (List α)):HP:=O2 E h.1.1 h.1.2.1 h.1.2.2 h.2 x
def RH2 (F:Nat->Prop)(w:World)(E:Enc α)(h:Hd×List Hd)(x:List (List α)):Prop:=h.1.2.1=x.length/\x.length<=h.1.2.2/\YZ F w E h.1.1 h.2 x
def Cv (P:γ->δ->HP)(r:γ->δ->Prop)(w:World)(F1:Nat->Prop):Prop:=∀ (S R:Nat->Prop) (y:γ) (x:δ),(P y x).p w S R->(∀ b,S b->¬ F1 b)->r y x
theorem cvR {E:Enc α}{w:World}{F1:Nat->Prop}:Cv (fR E) (RH F1 w E) w F1:=fun S R y x h hS=>⟨h.1.symm,by rw[h.1];exact Ow.XY h,LJ h hS⟩
theorem cv2 {E:Enc α}{w:World}{F1:Nat->Prop}:Cv (f2 E) (RH2 F1 w E) w F1:=fun S R y x h hS=>by
  obtain⟨hl,⟨S',R',h1,_⟩,_⟩:=O2.parts h;have e:x.length=y.1.2.1:=by rw[<- hl];exact h1.1
  exact⟨e.symm,by rw[e];exact Ow.XY h1,YZ.of_p h hS⟩
theorem cvP {q:γ->δ->HP}{r:γ->δ->Prop}{w:World}{F1:Nat->Prop}(h:Cv q r w F1):Cv (fP (α:=α) q) (RP RQ r) w F1:=fun S R y x hp hS=>by
  obtain⟨he,hs⟩:=hp;obtain⟨S',R',U',V',e1,e2,e3,_⟩:=Sep.cut (i:=0) rfl hs;exact⟨he,h _ _ _ _ e1 fun b hb=>hS b ((e3 b).2 (.inl hb))⟩
section
variable {F O F1 O1:Nat->Prop}{w0 w w':World}{hs rest:List HP}{G:Enc γ}{P:γ->δ->HP}{A:EQ}{n c m:Nat}{ys:List γ}{xs:List δ}{r:γ->δ->Prop}
theorem Fm.parts {S R:Nat->Prop}(h:(Fm G P A n c ys xs).p w S R) :
    ys.length=xs.length/\(∃ S' R',(Ow G A n c ys).p w S' R'/\∀ b,S' b->S b)/\∀ (j:Nat) (y:γ) (x:δ),ys[j]?=some y->xs[j]?=some x->∃ S' R',(P y x).p w S' R'/\∀ b,S' b->S b:=by
  obtain⟨hl,hS⟩:=h;refine⟨hl,?_,fun j y x h1 h2=>?_⟩
  ·obtain⟨S',R',U',V',e1,e2,e3,_⟩:=Sep.cut (i:=0) rfl hS;exact⟨S',R',e1,fun b hb=>(e3 b).2 (.inl hb)⟩
  ·obtain⟨S',R',U',V',e1,e2,e3,_⟩:=Sep.cut (i:=j+1) (by rw[List.getElem?_cons_succ];exact TY h1 h2) hS;exact⟨S',R',e1,fun b hb=>(e3 b).2 (.inl hb)⟩
theorem Nq.of_fmp {S R:Nat->Prop}(h:(Fm G P A n c ys xs).p w S R)(hS:∀ b,S b->¬ F1 b)(cv:Cv P r w F1):Nq F1 w G r A ys xs:=by
  obtain⟨hl,⟨S',R',h1,h2⟩,h3⟩:=Fm.parts h;refine⟨LJ h1 (fun b hb=>hS b (h2 b hb)),hl,fun j y x e1 e2=>?_⟩;obtain⟨S',R',f1,f2⟩:=h3 j y x e1 e2;exact cv _ _ _ _ f1 fun b hb=>hS b (f2 b hb)
theorem Nq.of_fm (hr:∀ (i:Nat) (h:HP),rest[i]?=some h->∃ S R,h.p w S R/\(∀ b,R b->O1 b)/\∀ b,S b->¬ F1 b)(i:Nat)(hi:rest[i]?=some (Fm G P A n c ys xs))(cv:Cv P r w F1):Nq F1 w G r A ys xs:=by
  obtain⟨S,R,h,_,hS⟩:=hr i _ hi;exact Nq.of_fmp h hS cv
theorem Cx.WW (k:Cx F O w0 w hs)(i:Nat)(hi:hs[i]?=some (Fm G P A n c ys xs))(cv:Cv P r w N0):Nq N0 w G r A ys xs:=by
  obtain⟨S,R,h⟩:=k.get i hi;exact Nq.of_fmp h (fun _ _ h=>h) cv
theorem Cx.Yf (k:Cx F O w0 w hs)(i:Nat)(hi:hs[i]?=some (Fm G P A n c ys xs)):ys.length=n:=by
  obtain⟨S,R,h⟩:=k.get i hi;obtain⟨hl,⟨S',R',h1,_⟩,_⟩:=Fm.parts h;exact h1.1
theorem Cx.zh (k:Cx F O w0 w hs)(i:Nat)(hi:hs[i]?=some (Fm G P A n c ys xs)):xs.length=n:=by
  obtain⟨S,R,h⟩:=k.get i hi;obtain⟨hl,⟨S',R',h1,_⟩,_⟩:=Fm.parts h;rw[<- hl];exact h1.1
theorem Cx.fmlec (k:Cx F O w0 w hs)(i:Nat)(hi:hs[i]?=some (Fm G P A n c ys xs)):n<=c:=by
  obtain⟨S,R,h⟩:=k.get i hi;obtain⟨hl,⟨S',R',h1,_⟩,_⟩:=Fm.parts h;exact Ow.XY h1
theorem Cx.V7 (k:Cx F O w0 w hs)(i:Nat)(hi:hs[i]?=some (Fm G P A n c ys xs)):Rd w A (G.all ys):=by
  obtain⟨S,R,h⟩:=k.get i hi;obtain⟨hl,⟨S',R',h1,_⟩,_⟩:=Fm.parts h;exact Ow.rd' h1
theorem Cx.ZH (k:Cx F O w0 w hs)(G:Enc γ)(P:γ->δ->HP):Cx F O w0 w (Fm G P Option.none 0 0 [] []::hs):=by
  have k1:=k.nil G;have k2:Cx F O w0 w (([Ow G Option.none 0 0 []]:List HP)++hs):=k1.perm A0t;exact Cx.LH (l:=[_]) rfl k2
theorem Cx.fm1 {y:γ}{x:δ}(k:Cx F O w0 w (Ow G A n c [y]::P y x::rest)):Cx F O w0 w (Fm G P A n c [y] [x]::rest):=Cx.LH (l:=[_,_]) rfl k
theorem Cx.fma_one {E:Enc β}{G:Enc (α×Hd)}{q:α}{B:EQ}{m d:Nat}{z:List β}(k:Cx F O w0 w (Ow G A n c [(q,B,m,d)]::Ow E B m d z::rest)):Cx F O w0 w (Fm G (fP (fR E)) A n c [(q,B,m,d)] [(q,z)]::rest):=by
  refine Cx.fm1 (Cx.sw2 (Cx.LH (l:=[_]) rfl ?_));exact k.sw2
theorem Cx.fmb_one {ε:Type}{E:Enc β}{G:Enc (α×ε×Hd×List Hd)}{q:α}{q':ε}{B:EQ}{m d:Nat}{hd:List Hd}{z:List (List β)}(k:Cx F O w0 w (Ow G A n c [(q,q',(B,m,d),hd)]::O2 E B m d hd z::rest)):Cx F O w0 w (Fm G (fP (fP (f2 E))) A n c [(q,q',(B,m,d),hd)] [(q,q',z)]::rest):=by
  refine Cx.fm1 (Cx.sw2 (Cx.LH (l:=[_]) rfl (Cx.LH (l:=[_]) rfl ?_)));exact k.sw2
theorem Cx.fma_in {E:Enc β}{G:Enc (α×Hd)}{ys:List (α×Hd)}{xs:List (α×List β)}{j:Int}{x:α×List β}{q:α}{B:EQ}{m d:Nat}(k:Cx F O w0 w hs)(i:Nat)(hi:hs[i]?=some (Fm G (fP (fR E)) A n c ys xs))(hx:aW xs j=some x)(hy:aW ys j=some (q,B,m,d)):Rd w B (E.all x.2):=by
  have h:=(k.WW i hi (cvP cvR)).el _ _ _ (pK hy) (pK hx);exact h.2.2.2.1
theorem Cx.fma_open {E:Enc β}{G:Enc (α×Hd)}{ys:List (α×Hd)}{xs:List (α×List β)}{j:Int}{x:α×List β}{q:α}{B:EQ}{m d:Nat}(k:Cx F O w0 w (Fm G (fP (fR E)) A n c ys xs::rest))(hx:aW xs j=some x)(hy:aW ys j=some (q,B,m,d)):Cx F O w0 w (Fmx G (fP (fR E)) A n c ys xs j.toNat::Ow E B m d x.2::rest):=by
  have k1:=k.openF (pK hy) (pK hx);exact(k1.sw2.OO.2).sw2
theorem Cx.fma_close {E:Enc β}{G:Enc (α×Hd)}{ys:List (α×Hd)}{xs:List (α×List β)}{j:Int}{x:α×List β}{B:EQ}{m d:Nat}{z:List β}(hy:aW ys j=some (x.1,B,m,d))(k:Cx F O w0 w (Fmx G (fP (fR E)) A n c ys xs j.toNat::Ow E B m d z::rest)):Cx F O w0 w (Fm G (fP (fR E)) A n c ys (xs.set j.toNat (x.1,z))::rest):=by
  refine Cx.closeF (pK hy) (Cx.sw2 (Cx.LH (l:=[_]) rfl ?_));exact k.sw2
def Fmd (G:Enc γ)(P:γ->δ->HP)(A:EQ)(n c:Nat)(ys:List γ)(xs:List δ)(m:Nat):HP:=Pk (ys.length=xs.length) (Ow G A n c ys::(SX P ys xs).drop m)
theorem Fmd.parts {S R:Nat->Prop}(h:(Fmd G P A n c ys xs m).p w S R) :
    ys.length=xs.length/\(∃ S' R',(Ow G A n c ys).p w S' R')/\∀ (j:Nat) (y:γ) (x:δ),m<=j->ys[j]?=some y->xs[j]?=some x->∃ S' R',(P y x).p w S' R':=by
  obtain⟨hl,hS⟩:=h;refine⟨hl,?_,fun j y x hj h1 h2=>?_⟩
  ·obtain⟨S',R',U',V',e1,_⟩:=Sep.cut (i:=0) rfl hS;exact⟨S',R',e1⟩
  ·have hg:=TY (P:=P) h1 h2;obtain⟨S',R',U',V',e1,_⟩:=Sep.cut (i:=j - m+1) (by rw[List.getElem?_cons_succ,List.getElem?_drop,show m+(j - m)=j from by omega];exact hg) hS;exact⟨S',R',e1⟩
theorem Cx.fmdrd (k:Cx F O w0 w hs)(i:Nat)(hi:hs[i]?=some (Fmd G P A n c ys xs m)):Rd w A (G.all ys):=by
  obtain⟨S,R,h⟩:=k.get i hi;obtain⟨_,⟨S',R',h1⟩,_⟩:=Fmd.parts h;exact Ow.rd' h1
theorem Cx.fmdlen' (k:Cx F O w0 w hs)(i:Nat)(hi:hs[i]?=some (Fmd G P A n c ys xs m)):ys.length=n:=by
  obtain⟨S,R,h⟩:=k.get i hi;obtain⟨_,⟨S',R',h1⟩,_⟩:=Fmd.parts h;exact h1.1
theorem Cx.fmdmax (k:Cx F O w0 w hs)(i:Nat)(hi:hs[i]?=some (Fmd G P A n c ys xs m)):xs.length<=maxLen:=by
  obtain⟨S,R,h⟩:=k.get i hi;obtain⟨hl,⟨S',R',h1⟩,_⟩:=Fmd.parts h;have:=h1.1;rcases h1.2 with⟨_,h2,_⟩ | ⟨g,t,cur,_,_,h3,h4,_⟩ <;> omega
theorem Cx.fmd_at {j:Int}{x:δ}(k:Cx F O w0 w hs)(i:Nat)(hi:hs[i]?=some (Fmd G P A n c ys xs m))(hm:m<=j.toNat)(hx:aW xs j=some x)(cv:Cv P r w N0):∃ y,aW ys j=some y/\r y x:=by
  obtain⟨S,R,h⟩:=k.get i hi;obtain⟨hl,_,h2⟩:=Fmd.parts h;obtain⟨y,e1,e2,e3⟩:=L8 hl hx;obtain⟨S',R',hp⟩:=h2 _ _ _ hm e2 e3;exact⟨y,e1,cv _ _ _ _ hp fun _ _ h=>h⟩
theorem Cx.openFd {j:Int}{y:γ}{x:δ}(k:Cx F O w0 w (Fmd G P A n c ys xs m::rest))(hm:m<=j.toNat)(hx:aW xs j=some x)(hy:aW ys j=some y):Cx F O w0 w (Fmd G P A n c ys xs (j.toNat+1)::P y x::rest):=by
  obtain⟨hl,k1⟩:=k.OO;have hg:=TY (P:=P) (pK hy) (pK hx);have e:(SX P ys xs).drop m=((SX P ys xs).drop m).take (j.toNat - m)++(P y x::(SX P ys xs).drop (j.toNat+1)):=by
    have h1:=List.take_append_drop (j.toNat - m) ((SX P ys xs).drop m);rw[List.drop_drop,show m+(j.toNat - m)=j.toNat from by omega] at h1;obtain⟨h2,h3⟩:=A0w.1 hg;rw[A0f h2,h3] at h1;exact h1.symm
  rw[e] at k1;refine Cx.LH hl ?_;have k2:Cx F O w0 w (((SX P ys xs).drop m).take (j.toNat - m)++(Ow G A n c ys::(SX P ys xs).drop (j.toNat+1)++(P y x::rest))):=k1.perm (by
    simp only[A0x,ul];refine List.perm_middle.symm.trans (List.Perm.append_left _ ?_);refine .cons _ ?_;exact List.perm_middle.symm)
  exact Cx.dropp _ k2
theorem Cx.fmb_open {ε:Type}{E:Enc β}{G:Enc (α×ε×Hd×List Hd)}{ys:List (α×ε×Hd×List Hd)}{xs:List (α×ε×List (List β))}{j:Int}{x:α×ε×List (List β)}{q:α}{q':ε}{B:EQ}{b d:Nat}{hd:List Hd}(k:Cx F O w0 w (Fmd G (fP (fP (f2 E))) A n c ys xs m::rest))(hm:m<=j.toNat)(hx:aW xs j=some x)(hy:aW ys j=some (q,q',(B,b,d),hd)):Cx F O w0 w (Fmd G (fP (fP (f2 E))) A n c ys xs (j.toNat+1)::O2 E B b d hd x.2.2::rest):=by
  have k1:=k.openFd hm hx hy;exact((k1.sw2.OO.2).OO.2).sw2
end
section
variable {P:Program}{n:Nat}{ops:Array Oper}{L:St}{w w0:World}{F O:Nat->Prop}{hs rest:List HP}{K:St->World->Prop}{G:Enc γ}{Q:γ->δ->HP}
theorem OX {dst:A03}{x y:Operand}{t t2 ty:TypeId}{pos:String}{jf:Array Edge}{g:UV}{e:TypeId}{zs:List Value}{bytes:Nat}(tf:TF P t e zs bytes)
    (ss:A01) (d:Nat) {A A2:EQ} {n1 n2 c c2:Nat} {ys C9:List γ} {xs Y0:List δ}
    (hside:(y7 ops ss L ⟨dst,.call ⟨.builtin .append,#[x,y],#[t,t2]⟩,ty,pos,jf,g⟩,dst,(decide (d < n)),(L.any fun p=>p.1 == d),(toSS [x,y] (lk L)).map SV.vals,(match P.underlying t2 with | some (.slice _)=>true | some .string=>true | _=>false),G.sz)=(true,some d,true,false,some [.slice A n1 c,.slice A2 n2 c2],true,zs.length))
    (k:Cx F O w0 w (Fm G Q A n1 c ys xs::Fm G Q A2 n2 c2 C9 Y0::rest)) (hroom:(n1+n2)*bytes<=140737488355328)
    (hk:∀ A' c' w',Cx F O w0 w' (Fm G Q A' (n1+n2) c' (ys++C9) (xs++Y0)::rest)->K ((d,.v (.slice A' (n1+n2) c'))::L) w') :
    yE P n ops L w ⟨dst,.call ⟨.builtin .append,#[x,y],#[t,t2]⟩,ty,pos,jf,g⟩ K:=by
  have hl2:=k.Yf 1 rfl;have hrd:=k.V7 1 rfl;have hz:G.sz=zs.length:=by simp only[Prod.mk.injEq] at hside;exact hside.2.2.2.2.2.2
  obtain⟨hl,k1⟩:=k.OO;have k2:Cx F O w0 w (Fm G Q A2 n2 c2 C9 Y0::((Ow G A n1 c ys::SX Q ys xs)++rest)):=k1.perm (by simp only[A0x];exact List.perm_middle (l₁:=_::_));obtain⟨hl',k3⟩:=k2.OO;have k4:Cx F O w0 w (Ow G A n1 c ys::(Ow G A2 n2 c2 C9::(SX Q C9 Y0++(SX Q ys xs++rest)))):=k3.perm (by
    simp only[A0x];exact(List.Perm.cons _ List.perm_middle).trans (.swap _ _ _))
  refine dK (E:=G) (v:=.v (.slice A2 n2 c2)) (ys:=C9) tf ss d 0 hside k4 rfl (Src.sl hrd hl2 hz) hl2 hroom fun A' c' w' k'=>hk A' c' w' ?_;have k5:Cx F O w0 w' (Ow G A' (n1+n2) c' (ys++C9)::(SX Q C9 Y0++(SX Q ys xs++rest))):=(k'.perm (.swap _ _ _)).tl;refine Cx.LH (by simp[hl,hl']) (k5.perm ?_);rw[fam_app ys C9 xs Y0 hl];simp only[A0x,ul];refine .cons _ ?_;rw[<- ul,<-ul];exact List.Perm.append_right rest A0t
end
end
end Go.Sx
